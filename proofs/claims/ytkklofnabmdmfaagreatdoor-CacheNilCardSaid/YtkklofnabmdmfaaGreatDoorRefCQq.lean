/- The document's codec: numbers, sums, texts, records. -/
import Derived.Laws.BitsAllLaws
import Derived.Test.YtkklofnabmdmfaaGreatDoorConvRQq
import Derived.Test.YtkklofnabmdmfaaGreatDoorCodecQq
namespace Go.Proofs.YtkklofnabmdmfaaGreatDoor
open Go.RowKit
set_option linter.unusedVariables false

set_option maxHeartbeats 2000000 in
set_option maxRecDepth 100000 in
theorem ru32_calls (n : Nat) (w : World) (hn : n < 4294967296) :
    Calls Tryz.prog 86 #[.int .i64 n] w fun e w' => e = .returned (.slice (some ⟨w.heap.size, 0, none⟩) 4 4) ∧ w'.heap[w.heap.size]? = some (.cells (encB (u32 n)).toArray 5 (0, 0)) ∧ Mod NoneB w w' := by
  have hc : (encB (u32 n)).toArray = #[.int .u8 ((n : Int) / 16777216), .int .u8 ((n : Int) / 65536 % 256), .int .u8 ((n : Int) / 256 % 256), .int .u8 ((n : Int) % 256)] := by
    simp [encB, u32]
    omega
  have HC := Lib.hid hc
  clear hc
  go_enter Tryz.func86, Tryz.ntmps86
  go_wp2_with fail
  go_ret
  refine ⟨rfl, ?_, (Mod.refl NoneB w).alloc _⟩
  rw [HC.out]
  exact heap_alloc_new w _

end Go.Proofs.YtkklofnabmdmfaaGreatDoor

/- Check sums, the document's: aquiferref1.Sum. -/
namespace Go.Proofs.YtkklofnabmdmfaaGreatDoor
open Go.RowKit
set_option linter.unusedVariables false

end Go.Proofs.YtkklofnabmdmfaaGreatDoor

/- Texts as bytes, the document's: aquiferref1.Encode. -/
namespace Go.Proofs.YtkklofnabmdmfaaGreatDoor
open Go.RowKit
set_option linter.unusedVariables false

set_option maxHeartbeats 4000000 in
set_option maxRecDepth 100000 in
theorem rencode_calls (l : List ByteArray) (A : Option Addr) (c : Nat) (w : World) (hr : Rd w 1 A l.length (encTs l)) (hl : l.length < 4294967296) (hs : ∀ s ∈ l, s.size < 4294967296) (hsz : (encL l).length ≤ 70368744177664) :
    Calls Tryz.prog 48 #[.slice A l.length c] w fun e w' => ∃ v, e = .returned v ∧ Own w' 5 1 v (encL l).length (encB (encL l)) ∧ Mod NoneB w w' ∧ (∀ g, v.ownBlock = some g → w.heap.size ≤ g) := by
  have hu := Tryz.underlying25
  have hus := Tryz.underlying9
  have HSS := Lib.hid hs
  clear hs
  go_enter Tryz.func48, Tryz.ntmps48
  go_wp2_with fail
  refine (ru32_calls l.length w hl).mono ?_
  rintro e w1 ⟨rfl, hh1, hm1⟩
  have ho1 : Own w1 5 1 (.slice (some ⟨w.heap.size, 0, none⟩) 4 4) 4 (encB (u32 l.length)) := Own.of_blk (cap := 4) hh1 (by omega) (by omega) rfl rfl
  have HO1 := Lib.hid ho1
  clear hh1 ho1
  go_wp2_with fail
  go_loopw [3, 4] (fun v t wr => ∃ j : Nat, t = .int .i64 j ∧ j ≤ l.length ∧ Own wr 5 1 v (encUp l j).length (encB (encUp l j)) ∧ Mod NoneB w wr ∧ (∀ g, v.ownBlock = some g → w.heap.size ≤ g)) (fun _ t _ => l.length - (intOf t).toNat)
  case atStart => exact ⟨0, rfl, by omega, by have e : encUp l 0 = u32 l.length := (by simp [encUp]); rw [e]; exact HO1.out, hm1, fun g h => by simp [Value.ownBlock] at h; omega⟩
  case round =>
    obtain ⟨j, rfl, hj, hoj, hmj, hnj⟩ := hrel
    clear hm1 HO1
    have HNJ := Lib.hid hnj
    clear hnj
    by_cases hlt : j < l.length
    · obtain ⟨ad, rfl, h0, _⟩ := Rd.elem (f := encT) (fun _ => rfl) hr (by decide) j hlt
      have h00 := h0 _ rfl
      rw [Nat.mul_one] at h00
      replace h0 := hmj.cell0 h00
      have hsl := HSS.out l[j] (List.getElem_mem _)
      have htk := encUp_succ l j hlt
      have hle := encUp_le l (j + 1)
      rw [htk, List.length_append, List.length_append, u32_length, size_data] at hle
      obtain ⟨s, hss⟩ : ∃ s, s = l[j] := ⟨_, rfl⟩
      rw [← hss] at h0 h00 hsl htk hle
      obtain ⟨b, hb⟩ : ∃ b, b = encUp l j := ⟨_, rfl⟩
      rw [← hb] at hoj htk hle
      obtain ⟨n, hn⟩ : ∃ n, n = b.length := ⟨_, rfl⟩
      rw [← hn] at hoj hle
      have HN := Lib.hid hn
      have HTK := Lib.hid htk
      clear hss hb hn htk
      have hb1 : (n + 4) * 1 ≤ 140737488355328 := by omega
      have hb2 : (n + 4 + s.size) * 1 ≤ 140737488355328 := by omega
      go_wp2_with fail
      refine (ru32_calls s.size wr hsl).mono ?_
      rintro e w2 ⟨rfl, hh2, hm2⟩
      have ho2 := hoj.mod0 hm2
      have hnx := (rdBlk (sz := 1) (n := 4) hh2 rfl (by omega)).2.2
      have hm2w := hmj.then0 hm2
      clear hh2
      go_wp2_with (at_builtin; refine wpList_append rfl (.tmp 14) (.tmp 20) 25 rfl 5 _ 1 1 hu tiB rfl (by decide) (by decide) _ n (encB b) rfl ho2 (some ⟨wr.heap.size, 0, none⟩) 4 4 (encB (u32 s.size)) rfl rfl hnx (encB_one _) hb1 ?_)
      intro v3 w3 ho3 hm3 hno3
      obtain ⟨A3, c3, rfl, _, _, _⟩ := ho3.out
      have hv3 : ∀ g, (Value.slice A3 (n + 4) c3).ownBlock = some g → w.heap.size ≤ g := by
        intro g hg
        rcases hno3 with hq | ⟨b, hq, hb⟩
        · exact HNJ.out g (by rw [← hq]; exact hg)
        · rw [hq] at hg
          injection hg with hg
          have h1 := hm2w.size
          omega
      have hm3w : Mod NoneB w w3 := hm2w.trans_new hm3 (fun k hk => .inr (HNJ.out k hk))
      have h03 : w3.cell? (ad.add j) = some (.string s) := hm3w.cell0 h00
      clear h0 h00
      go_wp2_with (at_builtin; refine wpList_append_str rfl (.tmp 22) (.tmp 26) 25 9 rfl 5 _ 1 hu hus tiB rfl (by decide) _ (n + 4) (encB b ++ encB (u32 s.size)) rfl ho3 s rfl hb2 ?_)
      intro v5 w5 ho5 hm5 hno5
      have hm6 : Mod NoneB w w5 := hm3w.trans_new hm5 (fun k hk => .inr (hv3 k hk))
      have hn6 : ∀ g, v5.ownBlock = some g → w.heap.size ≤ g := by
        intro g hg
        rcases hno5 with hq | ⟨b, hq, hb⟩
        · exact hv3 g (by rw [← hq]; exact hg)
        · rw [hq] at hg
          injection hg with hg
          have h1 := hm3w.size
          omega
      have ho6 : Own w5 5 1 v5 (encUp l (j + 1)).length (encB (encUp l (j + 1))) := by
        rw [HTK.out, List.length_append, List.length_append, u32_length, size_data, ← HN.out, encB_append, encB_append, ← byteCells_encB, List.append_assoc]
        exact ho5
      obtain ⟨A5, c5, rfl, _, _, _⟩ := ho5.out
      have HO6 := Lib.hid ho6
      have HN6 := Lib.hid hn6
      clear ho6 hn6 ho5 hno5 ho3 hno3 ho2 hoj hv3 hnx
      go_wp2_with fail
      go_roundw
      case rel => exact ⟨j + 1, by go_num, by omega, HO6.out, hm6, HN6.out⟩
      case measure => simp [intOf]; omega
    · have hje : j = l.length := by omega
      subst hje
      rw [encUp_all] at hoj
      have HOJ := Lib.hid hoj
      obtain ⟨A5, c5, rfl, _, _, _⟩ := hoj.out
      clear hoj
      go_wp2_with fail
      go_ret
      exact ⟨_, rfl, HOJ.out, hmj, HNJ.out⟩
end Go.Proofs.YtkklofnabmdmfaaGreatDoor

/- A record, the document's: aquiferref1.Frame. -/
namespace Go.Proofs.YtkklofnabmdmfaaGreatDoor
open Go.RowKit
set_option linter.unusedVariables false

end Go.Proofs.YtkklofnabmdmfaaGreatDoor

/- The texts that bytes are, the document's: aquiferref1.Decode. -/
namespace Go.Proofs.YtkklofnabmdmfaaGreatDoor
open Go.RowKit
set_option linter.unusedVariables false

end Go.Proofs.YtkklofnabmdmfaaGreatDoor

/- The records that bytes begin with, the document's: aquiferref1.Scan. -/
namespace Go.Proofs.YtkklofnabmdmfaaGreatDoor
open Go.RowKit
set_option linter.unusedVariables false

end Go.Proofs.YtkklofnabmdmfaaGreatDoor
