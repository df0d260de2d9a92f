/- The log in a law's own world: each call in one line; the statements' own example. -/
import Derived.Test.YtaldneffhbgepaaDoorWalO
import Derived.Test.YtaldneffhbgepaaDoorWalP
import Derived.Test.YtaldneffhbgepaaDoorDkFs
namespace Go.Proofs.YtaldneffhbgepaaDoor
open Go.RowKit
set_option linter.unusedVariables false

/-- In the world w a disk lies behind p, in just the blocks S, which are newer than w0; all that was in w0 is as it was. -/
structure Lw (w0 w : World) (p : Nat) (d : Dk) (S : Nat → Prop) : Prop where
  isD : IsD w p d S
  base : Mod NoneB w0 w
  own : ∀ k, S k → w0.heap.size ≤ k
structure FitL (d : Dk) : Prop where
  c : d.c ≤ 1000000
  l : d.fs.length ≤ 1000
  u : usedF d.fs ≤ 8000000
theorem logB_le (d : Dk) : (logB d).length ≤ usedF d.fs := by
  unfold logB readD
  split
  · simp
  · split
    · rename_i h
      have hlt := hitF_lt h
      rw [fileAt_get hlt]
      exact usedF_get _ _ hlt
    · simp
theorem opsR_le {l : List Op3} (hs : SmallO l) : (opsR l).1.length ≤ 1002000000 := by
  unfold opsR
  split
  · rename_i h; have := bytesO_length h hs; simpa using this
  · simp
section
variable {w0 w w1 : World} {p : Nat} {d : Dk} {S : Nat → Prop}
theorem Lw.mod0 (h : Lw w0 w p d S) (hm : Mod NoneB w w1) : Lw w0 w1 p d S := ⟨h.isD.mod0 hm, h.base.then0 hm, h.own⟩
theorem Lw.to {d' : Dk} {S' T : Nat → Prop} (h : Lw w0 w p d S) (h1 : IsD w1 p d' S') (hm : Mod T w w1) (hT : ∀ k, T k → S k ∨ w0.heap.size ≤ k) (hn : ∀ k, S' k → S k ∨ w.heap.size ≤ k) : Lw w0 w1 p d' S' :=
  ⟨h1, h.base.trans_new hm (fun k hk => .inr ((hT k hk).elim (h.own k) id)), fun k hk => (hn k hk).elim (h.own k) (Nat.le_trans h.base.size)⟩
theorem Lw.dw (h : Dw w0 w p d) : ∃ S, Lw w0 w p d S := by
  obtain ⟨S, h1, h2, h3⟩ := h
  exact ⟨S, h1, h2, h3⟩
/-- A log that was opened. -/
def OpenOk (w0 w : World) (p : Nat) (d : Dk) (S : Nat → Prop) (e : Ending) (w' : World) : Prop :=
  ∃ S' q vl vs, e = .returned (.tuple #[.pointer (some ⟨q, 0, none⟩), vl, .int .i64 0]) ∧ Lw w0 w' p (openD d).1 S' ∧ Mod S w w' ∧ (∀ k, S' k → S k ∨ w.heap.size ≤ k) ∧ w.heap.size ≤ q ∧ ¬ S' q ∧ w'.heap[q]? = some (wblk p (logN d) false) ∧ BatsAt w' vl w.heap.size (logL d) vs
theorem Lw.open (h : Lw w0 w p d S) (ht : TabW w0) (hf : FitL d) (hok : (openD d).2 = 0) : Calls Tryd.prog 29 #[.pointer (some ⟨p, 0, none⟩)] w (OpenOk w0 w p d S) := by
  have htw := ht.mod0 h.base
  have hT : ¬ S 1 := fun hk => by have := h.own _ hk; have := ht.lt; omega
  refine (wopen_calls w p d S h.isD htw hT (by have := hf.c; omega) (by have := hf.l; omega) (by have := hf.u; omega) (by have := logB_le d; have := hf.u; omega)).mono ?_
  rintro e w1 ⟨S', h1, h2, h3, ⟨h4, q, vl, vs, rfl, h5, h6, h7, h8, _, _⟩ | ⟨h4, _⟩⟩
  · exact ⟨S', q, vl, vs, rfl, h.to h1 h2 (fun k hk => .inl hk) h3, h2, h3, h5, h6, h7, h8⟩
  · exact absurd hok h4
/-- Behind a call of the log. -/
def WalOk (w0 w : World) (p q : Nat) (S : Nat → Prop) (r : Cm) (e : Ending) (w' : World) : Prop :=
  e = .returned (.int .i64 r.e) ∧ ∃ S', Lw w0 w' p r.d S' ∧ ¬ S' q ∧ w'.heap[q]? = some (wblk p r.n r.sk) ∧ Mod (fun k => S k ∨ k = q) w w' ∧ (∀ k, S' k → S k ∨ w.heap.size ≤ k)
theorem Lw.commit {q n : Nat} {sk : Bool} (h : Lw w0 w p d S) (ht : TabW w0) (hf : FitL d) (hq : w.heap[q]? = some (wblk p n sk)) (hqS : ¬ S q) (hq0 : w0.heap.size ≤ q) (hn : n ≤ 8000000) (l : List Op3) (A : Option Addr) (c : Nat) (hr : Rd w 3 A l.length (encOs l)) (hs : SmallO l) :
    Calls Tryd.prog 30 #[.pointer (some ⟨q, 0, none⟩), .slice A l.length c] w (WalOk w0 w p q S (commitW d n sk l)) := by
  refine (wcommit_calls w p q d S n sk l A c h.isD hq hqS hr hs (ht.mod0 h.base) (by omega) (by have := hf.c; omega) (by have := hf.l; omega) (by have := hf.u; have := opsR_le hs; omega)).mono ?_
  rintro e w1 ⟨rfl, S', h1, h2, h3, h4⟩
  have hqs := blk_lt hq
  exact ⟨rfl, S', h.to h1 h2 (fun k hk => hk.elim .inl (fun hk => .inr (by rw [hk]; exact hq0))) h3, fun hh => (h3 q hh).elim hqS (fun hh => by omega), h4, h2, h3⟩
theorem Lw.reset {q n : Nat} {sk : Bool} (h : Lw w0 w p d S) (hf : FitL d) (hq : w.heap[q]? = some (wblk p n sk)) (hqS : ¬ S q) (hq0 : w0.heap.size ≤ q) :
    Calls Tryd.prog 37 #[.pointer (some ⟨q, 0, none⟩)] w (WalOk w0 w p q S (resetW d n sk)) := by
  refine (wreset_calls w p q d S n sk h.isD hq hqS (by have := hf.c; omega) (by have := hf.l; omega)).mono ?_
  rintro e w1 ⟨rfl, S', h1, h2, h3, h4⟩
  have hqs := blk_lt hq
  exact ⟨rfl, S', h.to h1 h2 (fun k hk => hk.elim .inl (fun hk => .inr (by rw [hk]; exact hq0))) h3, fun hh => (h3 q hh).elim hqS (fun hh => by omega), h4, h2, h3⟩
end
theorem fitL_one (cap : Int) (keep : List Int) (n : ByteArray) (x : List UInt8) (s c : Nat) (hc : c ≤ 1000) (hx : x.length ≤ 1000000) : FitL (freeD cap keep [⟨n, x, s⟩] c) :=
  ⟨by show c ≤ _; omega, by show 1 ≤ _; omega, by show usedF [⟨n, x, s⟩] ≤ _; simp [usedF]; omega⟩
theorem fitL_nil (cap : Int) (keep : List Int) (c : Nat) (hc : c ≤ 1000) : FitL (freeD cap keep [] c) :=
  ⟨by show c ≤ _; omega, by show 0 ≤ _; omega, by show usedF [] ≤ _; simp [usedF]⟩
theorem catO_one (l : List Op3) : catO [l] = bytesO l := by simp [catO]
def opA : Op3 := ⟨false, ⟨#[97]⟩, ⟨#[49]⟩⟩
theorem opA_right : rightO [opA] := ⟨by simp, fun o ho h => by rw [List.mem_singleton] at ho; subst ho; cases h⟩
theorem opA_wt : wtO [opA] ≤ 5000 := by decide

set_option maxHeartbeats 2000000 in
set_option maxRecDepth 100000 in
theorem awake7_calls (w : World) (ht : TabW w) : Calls Tryd.prog 27 #[] w fun e w' => e = .returned (.bool true) ∧ Mod NoneB w w' := by
  obtain ⟨hop, hob, hon, hol⟩ := open_new 1000 [] 0
  have hs := smallO_of opA_wt
  have hbl := bytesO_len opA_right opA_wt
  have hbl2 : (bytesO [opA]).length ≤ 100 := by
    have h1 := recO_length opA
    have h2 := recE_length (n := 1) (by decide)
    have h3 : opA.k.size = 1 := rfl
    have h4 : opA.v.size = 1 := rfl
    have e : goodOf (recsO [opA]) = 8 + (recO opA).length + (8 + (recE 1).length) := by simp [goodOf, recsO]
    rw [bytesO_good, e]
    omega
  have hcm := commit_ok 1000 [] [] 0 2 0 [opA] opA_right (by simp; omega)
  have hcw : commitW (freeD 1000 [] [⟨sLog, [], 0⟩] 2) 0 false [opA] = commitD (freeD 1000 [] [⟨sLog, [], 0⟩] 2) 0 [opA] := rfl
  rw [hcm, List.nil_append, ← catO_one] at hcw
  have hall : ∀ l ∈ [[opA]], rightO l ∧ SmallO l := fun l hl => by rw [List.mem_singleton] at hl; subst hl; exact ⟨opA_right, hs⟩
  have hop2 := open_cat 1000 [] [[opA]] (catO [[opA]]).length 4 hall
  obtain ⟨hb2, hl2, hn2⟩ := log_cat (freeD 1000 [] [⟨sLog, catO [[opA]], (catO [[opA]]).length⟩] 4) [[opA]] _ rfl rfl hall
  have hcl : (catO [[opA]]).length ≤ 100 := by rw [catO_one]; exact hbl2
  have HOP := Lib.hid hop
  have HON := Lib.hid hon
  have HOL := Lib.hid hol
  have HCW := Lib.hid hcw
  have HOP2 := Lib.hid hop2
  have HL2 := Lib.hid hl2
  obtain ⟨x, hx⟩ : ∃ x, x = catO [[opA]] := ⟨_, rfl⟩
  rw [← hx] at hcl HCW HOP2 HL2
  have HS := Lib.hid hs
  have hrn : Rd w 1 (none : Option Addr) 0 [] := Rd.nil _ _ _
  clear hop hob hon hol hcm hcw hop2 hb2 hl2 hn2 hbl hbl2 hall hs hx
  go_enter Tryd.func27, Tryd.ntmps27
  go_wp2_with fail
  refine (Dw.new0 w w (Mod.refl _ _) 1000).mono ?_
  rintro e w1 ⟨p, rfl, hdw⟩
  obtain ⟨S1, h1⟩ := Lw.dw hdw
  clear hdw
  go_wp2_with fail
  refine (h1.open ht (fitL_nil _ _ _ (by omega)) (by rw [HOP.out])).mono ?_
  rintro e w2 ⟨S2, q, vl, vs, rfl, h2, hm12, hn12, hqN, hqS, hq, hba⟩
  rw [HOP.out] at h2
  rw [HON.out] at hq
  rw [HOL.out] at hba
  obtain ⟨A2, c2, rfl, _⟩ := hba.rd
  have hq0 : w.heap.size ≤ q := Nat.le_trans h1.base.size hqN
  clear hba hm12 hn12 hqN h1
  go_wp2_with ((with_reducible refine (num_calls _ _).mono ?_); rintro ez wz ⟨rfl, rfl⟩)
  have hal : Mod NoneB wz (wz.alloc (.cells #[.bool false, .string ⟨#[97]⟩, .string ⟨#[49]⟩] 67)) := (Mod.refl NoneB wz).alloc _
  have hbx := box1 wz (.cells #[.bool false, .string ⟨#[97]⟩, .string ⟨#[49]⟩] 67)
  have hro : Rd (wz.alloc (.cells #[.bool false, .string ⟨#[97]⟩, .string ⟨#[49]⟩] 67)) 3 (some ⟨wz.heap.size, 0, none⟩) 1 (encOs [opA]) := rd_blk (sz := 3) (n := 1) hbx rfl (by decide)
  refine ((h2.mod0 hal).commit ht (fitL_one _ _ _ _ _ _ (by omega) (by simp)) (hal.blk hq (fun h => h)) hqS hq0 (by omega) [opA] _ 1 hro HS.out).mono ?_
  rintro e w3 ⟨rfl, S3, h3, hqS3, hq3, _, _⟩
  rw [HCW.out] at h3 ⊢
  clear hq3 hq h2 hal hbx hro
  go_wp2_with fail
  refine (h3.open ht (fitL_one _ _ _ _ _ _ (by omega) (by omega)) (by rw [HOP2.out])).mono ?_
  rintro e w4 ⟨S4, q4, vl4, vs4, rfl, h4, _, _, _, _, _, hba4⟩
  rw [HL2.out] at hba4
  obtain ⟨u0, rfl⟩ : ∃ u0, vs4 = [u0] := by
    have h := hba4.len
    match vs4, h with
    | [a], _ => exact ⟨a, rfl⟩
  obtain ⟨g, cg, hvg⟩ := hba4.own.addrOf (by simp)
  have hvg2 : vl4 = .slice (some ⟨g, 0, none⟩) 1 cg := hvg
  subst hvg2
  obtain ⟨B0, b0, e0, _⟩ := (hba4.ent 0 (by simp) (by simp)).nilD0
  have e0' : u0 = .slice B0 1 b0 := e0
  subst e0'
  have y0 : w4.cell? ⟨g, 0, none⟩ = some (.slice B0 1 b0) := Own.cellAt (n := 1) hba4.own 0 _ rfl
  have hb4 := h4.base
  clear hba4 e0 hvg h4 h3
  go_wp2_with ((with_reducible refine (num_calls _ _).mono ?_); rintro ez wz ⟨rfl, rfl⟩)
  go_ret
  exact ⟨rfl, hb4⟩
end Go.Proofs.YtaldneffhbgepaaDoor

