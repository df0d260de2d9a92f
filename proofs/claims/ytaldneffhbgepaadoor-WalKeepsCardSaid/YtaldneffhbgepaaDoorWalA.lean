/- The log: Size, Sick, Reset, Commit. -/
import Derived.Test.YtaldneffhbgepaaDoorWalM
import Derived.Test.YtaldneffhbgepaaDoorAfter
import Derived.Test.YtaldneffhbgepaaDoorBatK
import Derived.StillTailTactics
import Derived.WalkMore
import Derived.Deep.DeepCutAuto
import Derived.Deep.CutBlock
import Derived.Deep.DrawnRows
namespace Go.Proofs.YtaldneffhbgepaaDoor
open Go.RowKit
set_option linter.unusedVariables false

/-- A log's block. -/
def wblk (p n : Nat) (sk : Bool) : Obj := .cells #[.pointer (some ⟨p, 0, none⟩), .int .i64 n, .bool sk] 86
/-- Behind a call of a log at q on the disk at p. -/
def WTo (w : World) (S : Nat → Prop) (p q : Nat) (d' : Dk) (n' : Nat) (sk' : Bool) (w' : World) : Prop :=
  ∃ S', IsD w' p d' S' ∧ Mod (fun k => S k ∨ k = q) w w' ∧ (∀ k, S' k → S k ∨ w.heap.size ≤ k) ∧ w'.heap[q]? = some (wblk p n' sk')
theorem DStep.of0 {w w1 w' : World} {S : Nat → Prop} {p : Nat} {d' : Dk} (hm : Mod NoneB w w1) (h : DStep w1 S p d' w') : DStep w S p d' w' := by
  obtain ⟨S', h1, h2, h3⟩ := h
  exact ⟨S', h1, (hm.mono (fun _ _ h => h.elim)).trans h2 (fun k _ hk => hk), fun k hk => (h3 k hk).imp id (fun h => Nat.le_trans hm.size h)⟩
theorem DStep.wto {w w' : World} {S : Nat → Prop} {p q n : Nat} {sk : Bool} {d' : Dk} (h : DStep w S p d' w') (hq : w.heap[q]? = some (wblk p n sk)) (hqS : ¬ S q) : WTo w S p q d' n sk w' := by
  obtain ⟨S', h1, h2, h3⟩ := h
  exact ⟨S', h1, h2.mono (fun _ _ h => .inl h), h3, h2.blk hq hqS⟩
/-- A store into the log's own block. -/
theorem WTo.setN {w w1 : World} {S : Nat → Prop} {p q n : Nat} {sk : Bool} {d1 : Dk} (h : WTo w S p q d1 n sk w1) (hqS : ¬ S q) (hlt : q < w.heap.size) (n' : Nat) : WTo w S p q d1 n' sk (w1.setCell ⟨q, 1, none⟩ (.int .i64 n')) := by
  obtain ⟨S', h1, h2, h3, h4⟩ := h
  have hqS' : ¬ S' q := fun hh => (h3 q hh).elim hqS (fun h => by omega)
  have hs : Mod (fun k => k = q) w1 (w1.setCell ⟨q, 1, none⟩ (.int .i64 n')) := (Mod.refl (fun k => k = q) w1).setCell (p := ⟨q, 1, none⟩) (fun _ => rfl) _
  refine ⟨S', h1.mod hs (fun k hk he => hqS' (by rw [← he]; exact hk)), h2.trans (hs.mono (fun _ _ h => .inr h)) (fun k _ hk => hk), h3, ?_⟩
  exact (setCell_blk0 h4).trans rfl
theorem WTo.setS {w w1 : World} {S : Nat → Prop} {p q n : Nat} {sk : Bool} {d1 : Dk} (h : WTo w S p q d1 n sk w1) (hqS : ¬ S q) (hlt : q < w.heap.size) (sk' : Bool) : WTo w S p q d1 n sk' (w1.setCell ⟨q, 2, none⟩ (.bool sk')) := by
  obtain ⟨S', h1, h2, h3, h4⟩ := h
  have hqS' : ¬ S' q := fun hh => (h3 q hh).elim hqS (fun h => by omega)
  have hs : Mod (fun k => k = q) w1 (w1.setCell ⟨q, 2, none⟩ (.bool sk')) := (Mod.refl (fun k => k = q) w1).setCell (p := ⟨q, 2, none⟩) (fun _ => rfl) _
  refine ⟨S', h1.mod hs (fun k hk he => hqS' (by rw [← he]; exact hk)), h2.trans (hs.mono (fun _ _ h => .inr h)) (fun k _ hk => hk), h3, ?_⟩
  exact (setCell_blk0 h4).trans rfl

set_option maxRecDepth 100000 in
theorem wsize_calls (w : World) (p q n : Nat) (sk : Bool) (hq : w.heap[q]? = some (wblk p n sk)) : Calls Tryd.prog 35 #[.pointer (some ⟨q, 0, none⟩)] w fun e w' => e = .returned (.int .i64 n) ∧ w' = w := by
  have y1 : w.cell? ⟨q, 1, none⟩ = some (.int .i64 n) := by rw [blk_cell hq]; rfl
  clear hq
  go_enter Tryd.func35, Tryd.ntmps35
  go_wp2_with fail
  go_ret
  exact ⟨rfl, rfl⟩
set_option maxRecDepth 100000 in
theorem wsize0_calls (w : World) : Calls Tryd.prog 35 #[.pointer none] w fun e w' => e = .returned (.int .i64 0) ∧ w' = w := by
  go_enter Tryd.func35, Tryd.ntmps35
  go_wp2_with fail
  go_ret
  exact ⟨rfl, rfl⟩
set_option maxRecDepth 100000 in
theorem wsick_calls (w : World) (p q n : Nat) (sk : Bool) (hq : w.heap[q]? = some (wblk p n sk)) : Calls Tryd.prog 31 #[.pointer (some ⟨q, 0, none⟩)] w fun e w' => e = .returned (.bool sk) ∧ w' = w := by
  have y2 : w.cell? ⟨q, 2, none⟩ = some (.bool sk) := by rw [blk_cell hq]; rfl
  clear hq
  go_enter Tryd.func31, Tryd.ntmps31
  go_wp2_with fail
  go_ret
  exact ⟨rfl, rfl⟩
set_option maxRecDepth 100000 in
theorem wsick0_calls (w : World) : Calls Tryd.prog 31 #[.pointer none] w fun e w' => e = .returned (.bool false) ∧ w' = w := by
  go_enter Tryd.func31, Tryd.ntmps31
  go_wp2_with fail
  go_ret
  exact ⟨rfl, rfl⟩
set_option maxRecDepth 100000 in
theorem wreset0_calls (w : World) : Calls Tryd.prog 37 #[.pointer none] w fun e w' => e = .returned (.int .i64 3) ∧ w' = w := by
  go_enter Tryd.func37, Tryd.ntmps37
  go_wp2_with fail
  go_ret
  exact ⟨rfl, rfl⟩
set_option maxRecDepth 100000 in
theorem wcommit0_calls (w : World) (v : Value) : Calls Tryd.prog 30 #[.pointer none, v] w fun e w' => e = .returned (.int .i64 3) ∧ Mod NoneB w w' := by
  go_enter Tryd.func30, Tryd.ntmps30
  go_wp2_with fail
  go_step3
  go_wp2_with fail
  simp only [Exit.noGoto_ret]
  go_ret
  exact ⟨rfl, (Mod.refl NoneB w).alloc _⟩

/-- Reset. -/
def ResetE (w : World) (S : Nat → Prop) (p q : Nat) (r : Cm) (e : Ending) (w' : World) : Prop := e = .returned (.int .i64 r.e) ∧ WTo w S p q r.d r.n r.sk w'
set_option maxHeartbeats 1000000 in
set_option maxRecDepth 100000 in
theorem wreset_calls (w : World) (p q : Nat) (d : Dk) (S : Nat → Prop) (n : Nat) (sk : Bool) (hd : IsD w p d S) (hq : w.heap[q]? = some (wblk p n sk)) (hqS : ¬ S q) (hc : d.c < 4611686018427387904) (hl : d.fs.length ≤ 4611686018427387904) :
    Calls Tryd.prog 37 #[.pointer (some ⟨q, 0, none⟩)] w (ResetE w S p q (resetW d n sk)) := by
  have y0 : w.cell? ⟨q, 0, none⟩ = some (.pointer (some ⟨p, 0, none⟩)) := by rw [blk_cell hq]; rfl
  have y2 : w.cell? ⟨q, 2, none⟩ = some (.bool sk) := by rw [blk_cell hq]; rfl
  have hlt := blk_lt hq
  cases sk with
  | true =>
    have hr : resetW d n true = ⟨d, n, true, 8⟩ := rfl
    have HR := Lib.hid hr
    clear hr y0
    go_enter Tryd.func37, Tryd.ntmps37
    go_wp2_with fail
    go_ret
    rw [HR.out]
    exact ⟨rfl, S, hd, Mod.refl _ _, fun k hk => .inl hk, hq⟩
  | false =>
    have hct := cut_calls w p d S sLog 0 hd hc hl
    have HCT := Lib.hid hct
    have HR : Hid (resetW d n false = resetD d n) := Lib.hid rfl
    have HQ := Lib.hid hq
    clear hct hd hc hl hq
    obtain ⟨e0, he0⟩ : ∃ e, e = (cutD d sLog 0).2 := ⟨_, rfl⟩
    rw [← he0] at HCT
    go_enter Tryd.func37, Tryd.ntmps37
    go_wp2_with fail
    refine HCT.out.mono ?_
    rintro e w1 ⟨rfl, hs⟩
    have hw := hs.wto HQ.out hqS
    have hb1 : w1.heap[q]? = some (wblk p n false) := by obtain ⟨_, _, _, _, h⟩ := hw; exact h
    have f1 : w1.frozen? ⟨q, 1, none⟩ = false := blk_frozen hb1 1
    have f2 : w1.frozen? ⟨q, 2, none⟩ = false := blk_frozen hb1 2
    have z1 : w1.cell? ⟨q, 1, none⟩ = some (.int .i64 n) := by rw [blk_cell hb1]; rfl
    have z2 : w1.cell? ⟨q, 2, none⟩ = some (.bool false) := by rw [blk_cell hb1]; rfl
    have HW := Lib.hid hw
    clear hs hw hb1
    by_cases h0 : e0 = 0
    · have hr : resetD d n = ⟨(cutD d sLog 0).1, 0, false, 0⟩ := if_pos (by rw [← he0]; exact h0)
      subst h0
      have HRD := Lib.hid hr
      clear hr he0 y0 y2
      go_wp2_with fail
      go_ret
      rw [HR.out, HRD.out]
      exact ⟨rfl, HW.out.setN hqS hlt 0⟩
    · have hr : resetD d n = ⟨(cutD d sLog 0).1, n, decide (e0 = 7), e0⟩ := by
        unfold resetD
        rw [if_neg (by rw [← he0]; exact h0), ← he0]
      have HRD := Lib.hid hr
      have q0 : (((e0 : Nat) : Int) == 0) = false := beq_eq_false_iff_ne.mpr (by omega)
      clear hr he0 y0 y2
      by_cases h7 : e0 = 7
      · subst h7
        go_wp2_with fail
        go_ret
        rw [HR.out, HRD.out]
        exact ⟨rfl, HW.out.setS hqS hlt true⟩
      · have q7 : (((e0 : Nat) : Int) == 7) = false := beq_eq_false_iff_ne.mpr (by omega)
        have hd7 : decide (e0 = 7) = false := decide_eq_false h7
        have HD7 := Lib.hid hd7
        clear hd7 h7
        go_wp2_with fail
        go_ret
        rw [HR.out, HRD.out, HD7.out]
        exact ⟨rfl, HW.out⟩

set_option maxHeartbeats 1000000 in
set_option maxRecDepth 100000 in
/-- Commit's own calls: Append, Sync. -/
theorem wcommit1_calls (w : World) (p q r1 r2 : Nat) (d : Dk) (S : Nat → Prop) (n : Nat) (sk : Bool) (b : List UInt8) (B : Option Addr) (bc : Nat) (hd : IsD w p d S) (hq : w.heap[q]? = some (wblk p n sk)) (h1 : w.cell? ⟨r1, 0, none⟩ = some (.pointer (some ⟨q, 0, none⟩)))
    (h2 : w.cell? ⟨r2, 0, none⟩ = some (.slice B b.length bc)) (hb : Rd w 1 B b.length (encB b)) (hoff : 0 < b.length → Off S B) (hc : d.c < 4611686018427387904) (hl : d.fs.length ≤ 4611686018427387904) (hsz : usedF d.fs + b.length ≤ 70368744177664) :
    Calls Tryd.prog 52 #[.pointer (some ⟨r1, 0, none⟩), .pointer (some ⟨r2, 0, none⟩)] w fun e w' => e = .returned (.int .i64 (appendD d sLog b).2) ∧ DStep w S p (appendD d sLog b).1 w' := by
  have y0 : w.cell? ⟨q, 0, none⟩ = some (.pointer (some ⟨p, 0, none⟩)) := by rw [blk_cell hq]; rfl
  have hap := append_calls w.drew p d S sLog b B bc (hd.mod0 (Mod.refl NoneB w).drew) (hb.mod0 (Mod.refl NoneB w).drew) hoff hc hl hsz
  have HAP := Lib.hid hap
  clear hap hd hq hb hoff hc hl hsz
  go_enter Tryd.func52, Tryd.ntmps52
  go_wp2_with fail
  refine wp_region_still_tail 5 (by kernel_rfl) (by kernel_rfl) ?_
  simp only [List.take_succ_cons, List.take_zero, List.drop_succ_cons, List.drop_zero]
  repeat still_step
  refine wpStill_nil ?_
  change wpList _ _ _ _ _ w.drew
  go_wp2_with fail
  refine HAP.out.mono ?_
  rintro e w1 ⟨rfl, hs⟩
  go_wp2_with fail
  go_ret
  exact ⟨rfl, hs.of0 (Mod.refl NoneB w).drew⟩
set_option maxRecDepth 100000 in
theorem wcommit2_calls (w : World) (p q r1 : Nat) (d : Dk) (S : Nat → Prop) (n : Nat) (sk : Bool) (hd : IsD w p d S) (hq : w.heap[q]? = some (wblk p n sk)) (h1 : w.cell? ⟨r1, 0, none⟩ = some (.pointer (some ⟨q, 0, none⟩)))
    (hc : d.c < 4611686018427387904) (hl : d.fs.length ≤ 4611686018427387904) :
    Calls Tryd.prog 53 #[.pointer (some ⟨r1, 0, none⟩)] w fun e w' => e = .returned (.int .i64 (syncD d sLog).2) ∧ DStep w S p (syncD d sLog).1 w' := by
  have y0 : w.cell? ⟨q, 0, none⟩ = some (.pointer (some ⟨p, 0, none⟩)) := by rw [blk_cell hq]; rfl
  have hap := sync_calls w p d S sLog hd hc hl
  have HAP := Lib.hid hap
  clear hap hd hq hc hl
  go_enter Tryd.func53, Tryd.ntmps53
  go_wp2_with fail
  refine HAP.out.mono ?_
  rintro e w1 ⟨rfl, hs⟩
  go_wp2_with fail
  go_ret
  exact ⟨rfl, hs⟩

/-- Commit. -/
def CommitE (w : World) (S : Nat → Prop) (p q : Nat) (r : Cm) (e : Ending) (w' : World) : Prop := e = .returned (.int .i64 r.e) ∧ WTo w S p q r.d r.n r.sk w'
set_option maxHeartbeats 4000000 in
set_option maxRecDepth 100000 in
theorem wcommit_calls (w : World) (p q : Nat) (d : Dk) (S : Nat → Prop) (n : Nat) (sk : Bool) (l : List Op3) (A : Option Addr) (c : Nat) (hd : IsD w p d S) (hq : w.heap[q]? = some (wblk p n sk)) (hqS : ¬ S q) (hr : Rd w 3 A l.length (encOs l)) (hs : SmallO l) (ht : TabW w)
    (hn : n ≤ 70368744177664) (hc : d.c + 3 < 4611686018427387904) (hl : d.fs.length + 3 ≤ 4611686018427387904) (hsz : usedF d.fs + (opsR l).1.length ≤ 70368744177664) :
    Calls Tryd.prog 30 #[.pointer (some ⟨q, 0, none⟩), .slice A l.length c] w (CommitE w S p q (commitW d n sk l)) := by
  have hlt := blk_lt hq
  have hal : Mod NoneB w (w.alloc (.cells #[.pointer (some ⟨q, 0, none⟩)] 52)) := (Mod.refl NoneB w).alloc _
  have y0 : (w.alloc (.cells #[.pointer (some ⟨q, 0, none⟩)] 52)).cell? ⟨q, 0, none⟩ = some (.pointer (some ⟨p, 0, none⟩)) := by rw [blk_cell (hal.blk hq (fun h => h))]; rfl
  have y2 : (w.alloc (.cells #[.pointer (some ⟨q, 0, none⟩)] 52)).cell? ⟨q, 2, none⟩ = some (.bool sk) := by rw [blk_cell (hal.blk hq (fun h => h))]; rfl
  cases sk with
  | true =>
    have hr : commitW d n true l = ⟨d, n, true, 8⟩ := rfl
    have HR := Lib.hid hr
    clear hr y0 hs ht hn hc hl hsz
    go_enter Tryd.func30, Tryd.ntmps30
    go_wp2_with fail
    go_step3
    go_wp2_with fail
    go_ret
    rw [HR.out]
    exact ⟨rfl, S, hd.mod0 hal, hal.mono (fun _ _ h => h.elim), fun k hk => .inl hk, hal.blk hq (fun h => h)⟩
  | false =>
    have hbx1 := box1 w (.cells #[.pointer (some ⟨q, 0, none⟩)] 52)
    obtain ⟨r1, hr1⟩ : ∃ r, r = w.heap.size := ⟨_, rfl⟩
    obtain ⟨w1, hw1⟩ : ∃ x, x = w.alloc (.cells #[.pointer (some ⟨q, 0, none⟩)] 52) := ⟨_, rfl⟩
    have HEQ : Hid (r1 = w.heap.size ∧ w1 = w.alloc (.cells #[.pointer (some ⟨q, 0, none⟩)] 52)) := Lib.hid ⟨hr1, hw1⟩
    rw [← hr1, ← hw1] at hbx1
    have y1 : w1.cell? ⟨r1, 0, none⟩ = some (.pointer (some ⟨q, 0, none⟩)) := by rw [blk_cell hbx1]; rfl
    rw [← hw1] at hal y0 y2
    have hen := bencode_calls l A c w1 (hr.mod0 hal) hs (ht.mod0 hal)
    obtain ⟨r, hrr⟩ : ∃ r, r = opsR l := ⟨_, rfl⟩
    rw [← hrr] at hen hsz
    have HEN := Lib.hid hen
    have HRR := Lib.hid hrr
    have HD := Lib.hid hd
    have HQ := Lib.hid hq
    have hr1N : w.heap.size ≤ r1 := by omega
    have HCW : Hid (commitW d n false l = commitD d n l) := Lib.hid rfl
    clear hen hrr hd hq hr1 hw1 hs ht hr
    go_enter Tryd.func30, Tryd.ntmps30
    go_wp2_with fail
    rw [← HEQ.out.2, ← HEQ.out.1]
    clear HEQ
    go_step3
    go_wp2_with fail
    refine HEN.out.mono ?_
    rintro e w2 ⟨v2, rfl, ho2, hm2, hn2⟩
    have hm02 := hal.then0 hm2
    by_cases he : r.2 = 0
    case neg =>
      have hcm : commitD d n l = ⟨d, n, false, r.2⟩ := by
        unfold commitD
        rw [← HRR.out, if_neg he]
      have HCM := Lib.hid hcm
      have q0 : (((r.2 : Nat) : Int) != 0) = true := bne_iff_ne.mpr (by omega)
      have q0' : (((r.2 : Nat) : Int) == 0) = false := beq_eq_false_iff_ne.mpr (by omega)
      obtain ⟨A2, c2, rfl, _⟩ := ho2.nilD0
      clear hcm y0 y1 y2 ho2 hn2 hbx1
      go_wp2_with fail
      go_ret
      rw [HCW.out, HCM.out]
      have hm3 : Mod NoneB w (w2.alloc (.cells #[.slice A2 r.1.length c2] 26)) := hm02.alloc _
      exact ⟨rfl, S, HD.out.mod0 hm3, hm3.mono (fun _ _ h => h.elim), fun k hk => .inl hk, hm3.blk HQ.out (fun h => h)⟩
    obtain ⟨b, e⟩ := r
    simp only at he hsz ho2
    subst he
    obtain ⟨A2, c2, rfl, hrb⟩ := ho2.nilD0
    obtain ⟨r2, hr2⟩ : ∃ r, r = w2.heap.size := ⟨_, rfl⟩
    have hn2' : ∀ ad, A2 = some ad → w.heap.size ≤ ad.block := fun ad had => by
      subst had
      have h := hn2 ad.block rfl
      exact Nat.le_trans hal.size h
    have hbx2 := box1 w2 (.cells #[.slice A2 b.length c2] 26)
    have hm3 : Mod NoneB w (w2.alloc (.cells #[.slice A2 b.length c2] 26)) := hm02.alloc _
    have hrb3 := hrb.mod0 ((Mod.refl NoneB w2).alloc (.cells #[.slice A2 b.length c2] 26))
    obtain ⟨w3, hw3⟩ : ∃ x, x = w2.alloc (.cells #[.slice A2 b.length c2] 26) := ⟨_, rfl⟩
    rw [← hr2, ← hw3] at hbx2
    rw [← hw3] at hm3 hrb3
    have HEQ : Hid (r2 = w2.heap.size ∧ w3 = w2.alloc (.cells #[.slice A2 b.length c2] 26)) := Lib.hid ⟨hr2, hw3⟩
    have hr2N : w.heap.size ≤ r2 := by rw [hr2]; exact hm02.size
    have hb1 := hm2.blk hbx1 (fun h => h)
    have hb13 := ((Mod.refl NoneB w2).alloc (.cells #[.slice A2 b.length c2] 26)).blk hb1 (fun h => h)
    rw [← hw3] at hb13
    clear hr2 hw3 ho2 hn2 hrb hb1 hbx1 hm2 hm02 y0 y1 y2 hal
    go_wp2_with fail
    rw [← HEQ.out.2, ← HEQ.out.1]
    clear HEQ
    go_step3
    have hF1 : ∀ args w, (callFunc 52 args).run Tryd.prog w = .ok (.enter 52 args) w := enters_of Tryd.func52 (by kernel_rfl) rfl
    have hF2 : ∀ args w, (callFunc 53 args).run Tryd.prog w = .ok (.enter 53 args) w := enters_of Tryd.func53 (by kernel_rfl) rfl
    have hbx3 := box1 w3 (.cells #[.func (.func 52) #[] #[.pointer (some ⟨r1, 0, none⟩), .pointer (some ⟨r2, 0, none⟩)], .func (.func 53) #[] #[.pointer (some ⟨r1, 0, none⟩)]] 65)
    have ha4 : Mod NoneB w3 (w3.alloc (.cells #[.func (.func 52) #[] #[.pointer (some ⟨r1, 0, none⟩), .pointer (some ⟨r2, 0, none⟩)], .func (.func 53) #[] #[.pointer (some ⟨r1, 0, none⟩)]] 65)) := (Mod.refl NoneB w3).alloc _
    obtain ⟨w4, hw4⟩ : ∃ x, x = w3.alloc (.cells #[.func (.func 52) #[] #[.pointer (some ⟨r1, 0, none⟩), .pointer (some ⟨r2, 0, none⟩)], .func (.func 53) #[] #[.pointer (some ⟨r1, 0, none⟩)]] 65) := ⟨_, rfl⟩
    rw [← hw4] at hbx3 ha4
    obtain ⟨r3, hr3⟩ : ∃ r, r = w3.heap.size := ⟨_, rfl⟩
    have hr3N : w.heap.size ≤ r3 := by rw [hr3]; exact hm3.size
    rw [← hr3] at hbx3
    have HEQ : Hid (r3 = w3.heap.size ∧ w4 = w3.alloc (.cells #[.func (.func 52) #[] #[.pointer (some ⟨r1, 0, none⟩), .pointer (some ⟨r2, 0, none⟩)], .func (.func 53) #[] #[.pointer (some ⟨r1, 0, none⟩)]] 65)) := Lib.hid ⟨hr3, hw4⟩
    have hm4 := hm3.then0 ha4
    have hrb4 := hrb3.mod0 ha4
    have hb24 := ha4.blk hbx2 (fun h => h)
    have hb14 := ha4.blk hb13 (fun h => h)
    have hd4 := HD.out.mod0 hm4
    have hq4 := hm4.blk HQ.out (fun h => h)
    have hnS : ∀ k, w.heap.size ≤ k → ¬ S k := fun k hk => HD.out.notS hk
    clear hr3 hw4 hbx2 hb13 hrb3 hm3 ha4
    go_upto_block 1 with fail
    rw [← HEQ.out.2, ← HEQ.out.1]
    clear HEQ
    go_cut [6] (fun ev wx => ev = .int .i64 ((writeD d b).2 : Nat) ∧ DStep w4 S p (writeD d b).1 wx)
    case first =>
      have hap := wcommit1_calls w4 p q r1 r2 d S n false b A2 c2 hd4 hq4 (by rw [blk_cell hb14]; rfl) (by rw [blk_cell hb24]; rfl) hrb4 (fun _ ad had => hnS _ (hn2' ad had)) (by omega) (by omega) hsz
      have hga := (append_grow d sLog b).ok
      have HAP := Lib.hid hap
      have HD4 := Lib.hid hd4
      have HQ4 := Lib.hid hq4
      have HB14 := Lib.hid hb14
      have HB3 := Lib.hid hbx3
      have g0 : w4.cell? ⟨r3, 0, none⟩ = some (.func (.func 52) #[] #[.pointer (some ⟨r1, 0, none⟩), .pointer (some ⟨r2, 0, none⟩)]) := by rw [blk_cell hbx3]; rfl
      obtain ⟨a1, ha1⟩ : ∃ a, a = appendD d sLog b := ⟨_, rfl⟩
      rw [← ha1] at HAP hga
      have hwr : writeD d b = tryD a1 (fun d => syncD d sLog) := by rw [ha1]; rfl
      have HWR := Lib.hid hwr
      clear hap hd4 hq4 hb14 hbx3 ha1 hrb4 hb24 hwr
      go_wp2_with fail
      go_loopw [6, 8, 29] (fun ev a8 i wr => ∃ j : Nat, i = .int .i64 j ∧ ((j = 0 ∧ wr = w4) ∨ (j = 1 ∧ ev = .int .i64 0 ∧ a1.2 = 0 ∧ DStep w4 S p a1.1 wr) ∨ (j = 2 ∧ ev = .int .i64 0 ∧ (writeD d b).2 = 0 ∧ DStep w4 S p (writeD d b).1 wr))) (fun _ _ i _ => 2 - (intOf i).toNat)
      case atStart => exact ⟨0, rfl, .inl ⟨rfl, rfl⟩⟩
      case round =>
        obtain ⟨j, rfl, ⟨rfl, rfl⟩ | ⟨rfl, rfl, h1, hs⟩ | ⟨rfl, rfl, h1, hs⟩⟩ := hrel
        · go_wp2_with fail
          refine HAP.out.mono ?_
          rintro e w5 ⟨rfl, hs⟩
          by_cases h0 : a1.2 = 0
          · rw [h0]
            go_wp2_with fail
            go_roundw
            case rel => exact ⟨1, by go_num, .inr (.inl ⟨rfl, rfl, h0, hs⟩)⟩
            case measure => simp [intOf]
          · have q0 : (((a1.2 : Nat) : Int) != 0) = true := bne_iff_ne.mpr (by omega)
            have hwb : writeD d b = a1 := by rw [HWR.out]; exact tryD_bad h0
            have HWB := Lib.hid hwb
            have q0' : (((a1.2 : Nat) : Int) == 0) = false := beq_eq_false_iff_ne.mpr (by omega)
            clear hwb
            go_wp2_with fail
            go_meet
            case rel => rw [HWB.out]; exact ⟨rfl, hs⟩
        · obtain ⟨S1, hd1, hm1, hn1⟩ := hs
          have hr1S : ¬ S r1 := hnS _ hr1N
          have hr3S : ¬ S r3 := hnS _ hr3N
          have hb1 := hm1.blk HB14.out hr1S
          have hq1 := hm1.blk HQ4.out hqS
          have g1 : wr.cell? ⟨r3, 1, none⟩ = some (.func (.func 53) #[] #[.pointer (some ⟨r1, 0, none⟩)]) := by rw [blk_cell (hm1.blk HB3.out hr3S)]; rfl
          have hsy := wcommit2_calls wr p q r1 a1.1 S1 n false hd1 hq1 (by rw [blk_cell hb1]; rfl) (by have := hga.1; omega) (by have := hga.2.1; omega)
          have HSY := Lib.hid hsy
          have hwb : writeD d b = syncD a1.1 sLog := by rw [HWR.out]; exact tryD_ok h1
          have HWB := Lib.hid hwb
          have HT : Hid (∀ d2 w', DStep wr S1 p d2 w' → DStep w4 S p d2 w') := Lib.hid (fun d2 w' h => by
            obtain ⟨S2, h2⟩ := h
            exact ⟨S2, DTo.trans ⟨hd1, hm1, hn1⟩ h2⟩)
          clear hsy hwb hd1 hm1 hn1 hb1 hq1 g0
          go_wp2_with fail
          refine HSY.out.mono ?_
          rintro e w5 ⟨rfl, hs5⟩
          by_cases h0 : (syncD a1.1 sLog).2 = 0
          · rw [h0]
            go_wp2_with fail
            go_roundw
            case rel => exact ⟨2, by go_num, .inr (.inr ⟨rfl, rfl, by rw [HWB.out]; exact h0, by rw [HWB.out]; exact HT.out _ _ hs5⟩)⟩
            case measure => simp [intOf]
          · obtain ⟨e5, he5⟩ : ∃ e, e = (syncD a1.1 sLog).2 := ⟨_, rfl⟩
            rw [← he5] at h0 ⊢
            have HE5 := Lib.hid he5
            have q0 : (((e5 : Nat) : Int) != 0) = true := bne_iff_ne.mpr (by omega)
            have q0' : (((e5 : Nat) : Int) == 0) = false := beq_eq_false_iff_ne.mpr (by omega)
            clear he5
            go_wp2_with fail
            go_meet
            case rel => rw [HWB.out, ← HE5.out]; exact ⟨rfl, HT.out _ _ hs5⟩
        · have HS := Lib.hid hs
          have H1 := Lib.hid h1
          clear hs h1 g0
          go_wp2_with fail
          go_meet
          case rel => rw [H1.out]; exact ⟨rfl, HS.out⟩
    case rest =>
      obtain ⟨rfl, S5, hd5, hm5, hn5⟩ := hcut
      obtain ⟨wr5, hwr5⟩ : ∃ a, a = writeD d b := ⟨_, rfl⟩
      rw [← hwr5] at hd5 ⊢
      have hgw : wr5.1.c ≤ d.c + 2 ∧ wr5.1.fs.length ≤ d.fs.length + 2 := by
        have h1 := (append_grow d sLog b).ok
        rw [hwr5]
        unfold writeD
        by_cases h0 : (appendD d sLog b).2 = 0
        · rw [tryD_ok h0]
          have h2 := (sync_grow (appendD d sLog b).1 sLog).ok
          omega
        · rw [tryD_bad h0]
          omega
      have hm5w : Mod (fun k => S k ∨ k = q) w wc := (hm4.mono (fun _ _ h => h.elim)).trans hm5 (fun k _ h => .inl h)
      have hn5w : ∀ k, S5 k → S k ∨ w.heap.size ≤ k := fun k hk => (hn5 k hk).imp id (fun h => Nat.le_trans hm4.size h)
      have hq5 : wc.heap[q]? = some (wblk p n false) := hm5.blk hq4 hqS
      have hto : WTo w S p q wr5.1 n false wc := ⟨S5, hd5, hm5w, hn5w, hq5⟩
      have hr1S5 : ¬ S5 r1 := fun h => (hn5 r1 h).elim (hnS _ hr1N) (fun h => absurd (blk_lt hb14) (Nat.not_lt.2 h))
      have HR1S := Lib.hid hr1S5
      clear hr1S5
      have hqS5 : ¬ S5 q := fun h => (hn5w q h).elim hqS (fun h => by omega)
      have k0 : wc.cell? ⟨q, 0, none⟩ = some (.pointer (some ⟨p, 0, none⟩)) := by rw [blk_cell hq5]; rfl
      have k1 : wc.cell? ⟨q, 1, none⟩ = some (.int .i64 n) := by rw [blk_cell hq5]; rfl
      have k2 : wc.cell? ⟨q, 2, none⟩ = some (.bool false) := by rw [blk_cell hq5]; rfl
      have f1 : wc.frozen? ⟨q, 1, none⟩ = false := blk_frozen hq5 1
      have f2 : wc.frozen? ⟨q, 2, none⟩ = false := blk_frozen hq5 2
      have b1 : wc.cell? ⟨r1, 0, none⟩ = some (.pointer (some ⟨q, 0, none⟩)) := by rw [blk_cell (hm5.blk hb14 (hnS _ hr1N))]; rfl
      have b2 : wc.cell? ⟨r2, 0, none⟩ = some (.slice A2 b.length c2) := by rw [blk_cell (hm5.blk hb24 (hnS _ hr2N))]; rfl
      have hcm : commitD d n l = if wr5.2 = 0 then ⟨wr5.1, n + b.length, false, 0⟩ else if wr5.2 = 7 then ⟨wr5.1, n, true, 7⟩ else ⟨(cutD wr5.1 sLog n).1, n, decide ((cutD wr5.1 sLog n).2 ≠ 0), wr5.2⟩ := by
        unfold commitD
        rw [← HRR.out, hwr5]
        exact if_pos rfl
      have HCM := Lib.hid hcm
      have HTO := Lib.hid hto
      have HD5 := Lib.hid hd5
      have HQ5 := Lib.hid hq5
      have HM5 := Lib.hid hm5w
      have HN5 := Lib.hid hn5w
      obtain ⟨d5, e5⟩ := wr5
      simp only at hgw HCM HTO HD5
      clear hcm hto hd5 hq5 hm5w hn5w hwr5 hm5 hn5 hb14 hb24 hrb4 hd4 hq4 hbx3 hm4 hn2' hF1 hF2
      by_cases h0 : e5 = 0
      · subst h0
        have hwn : (n : Int) + (b.length : Int) = ((n + b.length : Nat) : Int) := by omega
        have hbl : b.length ≤ 70368744177664 := by omega
        have HWN := Lib.hid hwn
        have e1 : IntKind.i64.wrap ((n : Int) + (b.length : Int)) = (n : Int) + (b.length : Int) := IntWalk.i64_in _ (by omega)
        clear hwn
        have hd0 : WTo w S p q d5 n false wc.drew := by
          obtain ⟨S', x1, x2, x3, x4⟩ := HTO.out
          exact ⟨S', x1.mod0 (Mod.refl NoneB wc).drew, x2.trans ((Mod.refl NoneB wc).drew.mono (fun _ _ h => h.elim)) (fun k _ hk => hk), x3, x4⟩
        have HD0 := Lib.hid hd0
        have HC : Hid (commitW d n false l = ⟨d5, n + b.length, false, 0⟩) := Lib.hid (by rw [HCW.out, HCM.out]; rfl)
        have k1' : wc.drew.cell? ⟨q, 1, none⟩ = some (.int .i64 n) := k1
        have f1' : wc.drew.frozen? ⟨q, 1, none⟩ = false := f1
        clear hd0 HCM HTO
        go_wp2_with fail
        refine wp_region_still_tail 9 (by kernel_rfl) (by kernel_rfl) ?_
        simp only [List.take_succ_cons, List.take_zero, List.drop_succ_cons, List.drop_zero]
        repeat still_step
        refine wpStill_nil ?_
        change wpList _ _ _ _ _ wc.drew
        go_wp2_with fail
        go_ret
        rw [HC.out]
        refine ⟨rfl, ?_⟩
        have h := HD0.out.setN hqS hlt (n + b.length)
        rw [← HWN.out] at h
        exact h
      · have q0 : (((e5 : Nat) : Int) == 0) = false := beq_eq_false_iff_ne.mpr (by omega)
        by_cases h7 : e5 = 7
        · subst h7
          have HC : Hid (commitW d n false l = ⟨d5, n, true, 7⟩) := Lib.hid (by rw [HCW.out, HCM.out]; rfl)
          clear HCM
          go_wp2_with fail
          go_ret
          rw [HC.out]
          exact ⟨rfl, HTO.out.setS hqS hlt true⟩
        · have q7 : (((e5 : Nat) : Int) == 7) = false := beq_eq_false_iff_ne.mpr (by omega)
          have hcu := cut_calls wc.drew p d5 S5 sLog n (HD5.out.mod0 (Mod.refl NoneB wc).drew) (by omega) (by omega)
          obtain ⟨ac, hac⟩ : ∃ a, a = cutD d5 sLog n := ⟨_, rfl⟩
          rw [← hac] at hcu
          have HCU : Hid (Calls Tryd.prog 50 #[.pointer (some ⟨p, 0, none⟩), .string ⟨#[108, 111, 103]⟩, .int .i64 (n : Int)] wc.drew fun e w' => e = .returned (.int .i64 (ac.2 : Nat)) ∧ DStep wc.drew S5 p ac.1 w') := Lib.hid hcu
          have HC : Hid (commitW d n false l = ⟨ac.1, n, decide (ac.2 ≠ 0), e5⟩) := Lib.hid (by rw [HCW.out, HCM.out, if_neg h0, if_neg h7, ← hac])
          have HT : Hid (∀ d2 w', DStep wc.drew S5 p d2 w' → WTo w S p q d2 n false w') := Lib.hid (fun d2 w' h => by
            obtain ⟨S2, x1, x2, x3⟩ := h.of0 (Mod.refl NoneB wc).drew
            exact ⟨S2, x1, HM5.out.trans (x2.mono (fun _ _ h => h)) (fun k hk h5 => (HN5.out k h5).elim (fun h => .inl h) (fun h => absurd hk (Nat.not_lt.2 h))), fun k hk => (x3 k hk).elim (HN5.out k) (fun h => .inr (Nat.le_trans HM5.out.size h)), x2.blk HQ5.out hqS5⟩)
          have hnq : ((ac.2 : Int) != 0) = decide (ac.2 ≠ 0) := by
            rw [Bool.eq_iff_iff]
            simp
          clear hcu hac HCM HTO HD5
          have HB : Hid (∀ d2 w', DStep wc.drew S5 p d2 w' → w'.cell? ⟨r1, 0, none⟩ = some (.pointer (some ⟨q, 0, none⟩)) ∧ w'.cell? ⟨q, 2, none⟩ = some (.bool false) ∧ w'.frozen? ⟨q, 2, none⟩ = false) := Lib.hid (fun d2 w' h => by
            have hq6 : w'.heap[q]? = some (wblk p n false) := by obtain ⟨_, _, _, _, h⟩ := HT.out _ _ h; exact h
            obtain ⟨S2, x1, x2, x3⟩ := h
            refine ⟨x2.cell b1 (fun h => ?_), by rw [blk_cell hq6]; rfl, blk_frozen hq6 2⟩
            exact HR1S.out h)
          have k0' : wc.drew.cell? ⟨q, 0, none⟩ = some (.pointer (some ⟨p, 0, none⟩)) := k0
          have k1' : wc.drew.cell? ⟨q, 1, none⟩ = some (.int .i64 n) := k1
          have b1' : wc.drew.cell? ⟨r1, 0, none⟩ = some (.pointer (some ⟨q, 0, none⟩)) := b1
          clear f1 f2 b2 k2
          go_wp2_with fail
          go_region_law (go_simp; go_at_call 50; (with_reducible refine HCU.out.mono ?_); rintro ez w6 ⟨rfl, hs6⟩; obtain ⟨b6, z2, f6⟩ := HB.out _ _ hs6)
          all_goals
            have hto := HT.out _ _ hs6
            have HTO := Lib.hid hto
            clear hto hs6
            go_wp2_with fail
            go_ret
            rw [HC.out]
            have hb : decide (ac.2 ≠ 0) = !decide (ac.2 = 0) := by rw [Bool.eq_iff_iff]; simp
            refine ⟨rfl, ?_⟩
            show WTo w S p q ac.1 n (decide (ac.2 ≠ 0)) _
            rw [hb]
            exact HTO.out.setS hqS hlt _
end Go.Proofs.YtaldneffhbgepaaDoor

