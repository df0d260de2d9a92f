/- frame.Frame: a record. -/
import Derived.Test.YtnoleekdldmagaaEnc
import Derived.Test.YtnoleekdldmagaaSum
import Derived.Test.YtnoleekdldmagaaConcat
namespace Go.Proofs.Ytnoleekdldmagaa
open Go.RowKit
set_option linter.unusedVariables false

/-- A record, or why there is none. -/
def frameR (p : List UInt8) : List UInt8 × Nat := if p.length ≤ 1048576 then (frameB p, 0) else ([], 9)
theorem frameR_ok {p : List UInt8} (h : p.length ≤ 1048576) : frameR p = (frameB p, 0) := if_pos h
theorem frameR_bad {p : List UInt8} (h : 1048576 < p.length) : frameR p = ([], 9) := if_neg (by omega)

/-- Bytes that are told, and an error. -/
def BytesE (r : List UInt8 × Nat) (w : World) (e : Ending) (w' : World) : Prop :=
  ∃ v, e = .returned (.tuple #[v, .int .i64 r.2]) ∧ Own w' 5 1 v r.1.length (encB r.1) ∧ Mod NoneB w w' ∧ (∀ g, v.ownBlock = some g → w.heap.size ≤ g)

set_option maxHeartbeats 4000000 in
set_option maxRecDepth 100000 in
theorem frame_calls (b : List UInt8) (A : Option Addr) (c : Nat) (w : World) (hr : Rd w 1 A b.length (encB b)) :
    Calls Try.prog 96 #[.slice A b.length c] w (BytesE (frameR b) w) := by
  by_cases hlen : 1048576 < b.length
  · have hf := frameR_bad hlen
    have HF := Lib.hid hf
    clear hf
    go_enter Try.func96, Try.ntmps96
    go_wp2_with fail
    go_ret2
    rw [HF.out]
    exact ⟨_, rfl, Own.nil _ _ _, Mod.refl _ _, fun g h => by simp [Value.ownBlock] at h⟩
  · have hf := frameR_ok (p := b) (by omega)
    have hcl := crcB_lt b
    have hfl : frameB b = flatP [⟨none, u32 b.length, 0⟩, ⟨none, u32 (crcB b), 0⟩, ⟨none, b, 0⟩] := by simp [frameB, flatP]
    obtain ⟨n, hn⟩ : ∃ n, n = b.length := ⟨_, rfl⟩
    rw [← hn] at hr hlen ⊢
    have HN := Lib.hid hn
    have HF := Lib.hid hf
    have HFL := Lib.hid hfl
    obtain ⟨cs, hcs⟩ : ∃ cs, cs = crcB b := ⟨_, rfl⟩
    rw [← hcs] at hcl
    have HCS := Lib.hid hcs
    have hsum : ∀ w1, Mod NoneB w w1 → Calls Try.prog 131 #[.slice A n c] w1 fun e w' => e = .returned (.int .i64 cs) ∧ w' = w1 := by
      intro w1 hm
      have h := sum_calls b A c w1 (by rw [← hn]; exact hr.mod0 hm)
      rw [← hn, ← hcs] at h
      exact h
    have HSUM := Lib.hid hsum
    clear hf hfl hn hcs hsum
    go_enter Try.func96, Try.ntmps96
    go_wp2_with fail
    refine (u32_calls n w (by omega)).mono ?_
    rintro e w1 ⟨rfl, hh1, hm1⟩
    go_wp2_with fail
    refine (HSUM.out w1 hm1).mono ?_
    rintro e w2 ⟨rfl, rfl⟩
    go_wp2_with fail
    refine (u32_calls cs w2 hcl).mono ?_
    rintro e w3 ⟨rfl, hh3, hm3⟩
    have hh1' := hm3.blk hh1 (fun h => h)
    have hm13 := hm1.then0 hm3
    have r1 := rdBlk (sz := 1) (n := 4) hh1' rfl (by omega)
    have r2 := rdBlk (sz := 1) (n := 4) hh3 rfl (by omega)
    have r3 := hr.mod0 hm13
    have hlt1 : w.heap.size < w2.heap.size := blk_lt hh1
    clear hh1 hh1' hh3
    obtain ⟨g1, hg1⟩ : ∃ g, g = w.heap.size := ⟨_, rfl⟩
    obtain ⟨g2, hg2⟩ : ∃ g, g = w2.heap.size := ⟨_, rfl⟩
    rw [← hg1] at r1 ⊢
    rw [← hg2] at r2 ⊢
    clear hg1 hg2
    go_wp2_with fail
    have hal : Mod NoneB w3 (w3.alloc (.cells #[.slice (some ⟨g1, 0, none⟩) 4 4, .slice (some ⟨g2, 0, none⟩) 4 4, .slice A n c] 35)) := (Mod.refl NoneB w3).alloc _
    have hrd := rdBlk (sz := 1) (n := 3) (heap_alloc_new w3 (.cells #[.slice (some ⟨g1, 0, none⟩) 4 4, .slice (some ⟨g2, 0, none⟩) 4 4, .slice A n c] 35)) rfl (by omega)
    have hC := concatB_calls [⟨some ⟨g1, 0, none⟩, u32 n, 4⟩, ⟨some ⟨g2, 0, none⟩, u32 cs, 4⟩, ⟨A, b, c⟩] (some ⟨w3.heap.size, 0, none⟩) 3 (w3.alloc (.cells #[.slice (some ⟨g1, 0, none⟩) 4 4, .slice (some ⟨g2, 0, none⟩) 4 4, .slice A n c] 35))
      (by rw [HN.out] at hrd ⊢; exact hrd)
      (by
        intro p hp
        simp only [List.mem_cons, List.not_mem_nil, or_false] at hp
        rcases hp with rfl | rfl | rfl
        · exact r1.mod0 hal
        · exact r2.mod0 hal
        · show Rd _ 1 A b.length (encB b)
          rw [← HN.out]
          exact r3.mod0 hal)
      (by simp [flatP, u32_length]; have := HN.out; omega) (by show 3 ≤ 1000000; omega)
    have e : flatP [⟨some ⟨g1, 0, none⟩, u32 n, 4⟩, ⟨some ⟨g2, 0, none⟩, u32 cs, 4⟩, ⟨A, b, c⟩] = frameB b := by
      rw [HFL.out, HN.out, HCS.out]; rfl
    rw [e] at hC
    refine Calls.mono hC ?_
    rintro ez w4 ⟨v, rfl, ho4, hm4, hn4⟩
    have hmw := (hm13.then0 hal).then0 hm4
    have hnw : ∀ g, v.ownBlock = some g → w.heap.size ≤ g := fun g hg => Nat.le_trans (hm13.then0 hal).size (hn4 g hg)
    obtain ⟨V, cv, rfl, _, _, _⟩ := ho4.out
    have HO4 := Lib.hid ho4
    clear ho4 hC hrd r1 r2 r3 hn4
    go_wp2_with fail
    go_ret2
    rw [HF.out]
    exact ⟨_, rfl, HO4.out, hmw, hnw⟩
end Go.Proofs.Ytnoleekdldmagaa
