/- The log in plain words: what each call makes of it, and of its disk. No program stands here. -/
import Derived.StillTailTactics
import Derived.WalkMore
import Derived.Deep.DeepCutAuto
import Derived.Deep.CutBlock
import Derived.Deep.DrawnRows
import Derived.OwnWalk
import Derived.Test.YtnlmfmceogbomaaGreatDoorBatAQq
import Derived.Test.YtnlmfmceogbomaaGreatDoorAfterQq
import Derived.Test.YtnlmfmceogbomaaGreatDoorBatCuQq
import Derived.Test.YtnlmfmceogbomaaGreatDoorBulkAQq
namespace Go.Proofs.YtnlmfmceogbomaaGreatDoor
set_option linter.unusedVariables false

def sLog : ByteArray := ⟨#[108, 111, 103]⟩
/-- Go on if it was OK. -/
def tryD (a : Ans) (f : Dk → Ans) : Ans := if a.2 = 0 then f a.1 else a
theorem tryD_ok {a : Ans} {f : Dk → Ans} (h : a.2 = 0) : tryD a f = f a.1 := if_pos h
theorem tryD_bad {a : Ans} {f : Dk → Ans} (h : a.2 ≠ 0) : tryD a f = a := if_neg h
def writeD (d : Dk) (b : List UInt8) : Ans := tryD (appendD d sLog b) fun d => syncD d sLog
/-- Behind a call: the disk, how many bytes are committed, is it sick, what was told. -/
structure Cm where
  d : Dk
  n : Nat
  sk : Bool
  e : Nat
def commitD (d : Dk) (n : Nat) (l : List Op3) : Cm :=
  if (opsR l).2 = 0 then
    if (writeD d (opsR l).1).2 = 0 then ⟨(writeD d (opsR l).1).1, n + (opsR l).1.length, false, 0⟩
    else if (writeD d (opsR l).1).2 = 7 then ⟨(writeD d (opsR l).1).1, n, true, 7⟩
    else ⟨(cutD (writeD d (opsR l).1).1 sLog n).1, n, decide ((cutD (writeD d (opsR l).1).1 sLog n).2 ≠ 0), (writeD d (opsR l).1).2⟩
  else ⟨d, n, false, (opsR l).2⟩
def commitW (d : Dk) (n : Nat) (sk : Bool) (l : List Op3) : Cm := if sk then ⟨d, n, true, 8⟩ else commitD d n l
def resetD (d : Dk) (n : Nat) : Cm := if (cutD d sLog 0).2 = 0 then ⟨(cutD d sLog 0).1, 0, false, 0⟩ else ⟨(cutD d sLog 0).1, n, decide ((cutD d sLog 0).2 = 7), (cutD d sLog 0).2⟩
def resetW (d : Dk) (n : Nat) (sk : Bool) : Cm := if sk then ⟨d, n, true, 8⟩ else resetD d n
/-- The log's bytes when it is opened; how many of them are of whole batches; the batches. -/
def logB (d : Dk) : List UInt8 := (readD d sLog).1
def logN (d : Dk) : Nat := goodOf ((scanB (logB d)).take (replayB (scanB (logB d))).2)
def logL (d : Dk) : List (List Op3) := (replayB (scanB (logB d))).1
def open1D (d : Dk) : Ans := if (readD d sLog).2 = 3 then createD d sLog else (d, (readD d sLog).2)
def open2D (n : Nat) (b : List UInt8) (d1 : Dk) : Ans := if n < b.length then cutD d1 sLog n else (d1, 0)
def openD (d : Dk) : Ans := tryD (tryD (open1D d) (open2D (logN d) (logB d))) fun d => syncD d sLog
theorem replayGo_used (ps : List (List UInt8)) : ∀ (now : List Op3) (i used : Nat), used ≤ i → (replayGo now i used ps).2 ≤ i + ps.length := by
  induction ps with
  | nil => intro now i used h; show used ≤ _; simp; omega
  | cons p ps ih =>
    intro now i used h
    cases hk : kindB now.length p with
    | op o => rw [replayGo_op _ _ _ _ _ hk, List.length_cons]; have := ih (now ++ [o]) (i + 1) used (by omega); omega
    | fin => rw [replayGo_fin _ _ _ _ _ hk, List.length_cons]; have := ih [] (i + 1) (i + 1) (Nat.le_refl _); simp only; omega
    | bad => rw [replayGo_bad _ _ _ _ _ hk]; simp only; omega
theorem replayB_used (ps : List (List UInt8)) : (replayB ps).2 ≤ ps.length := by have := replayGo_used ps [] 0 0 (Nat.le_refl _); unfold replayB; omega
theorem goodOf_take_le (ps : List (List UInt8)) (k : Nat) : goodOf (ps.take k) ≤ goodOf ps := by
  conv => rhs; rw [← List.take_append_drop k ps]
  rw [goodOf_append]
  omega
theorem logN_le (d : Dk) : logN d ≤ (logB d).length := Nat.le_trans (goodOf_take_le _ _) (scanB_good _)
theorem Grow.ok {k : Nat} {d d' : Dk} (h : Grow k d d') : d'.c ≤ d.c + 1 ∧ d'.fs.length ≤ d.fs.length + 1 ∧ usedF d'.fs ≤ usedF d.fs + k := ⟨h.c, h.l, h.u⟩
theorem gate_plan {d : Dk} {op : Dk → Ans} (h : ∀ c dn, (op { d with c := c, dn := dn }).1.p = d.p) : (gateD d op).1.p = d.p := by
  obtain ⟨p, fs, c, dn⟩ := d
  unfold gateD
  simp only at h ⊢
  split
  · rfl
  · split
    · split
      · exact h (c + 1) true
      · rfl
    · split
      · rfl
      · exact h (c + 1) dn
end Go.Proofs.YtnlmfmceogbomaaGreatDoor

/- The log: Size, Sick, Reset, Commit. -/
namespace Go.Proofs.YtnlmfmceogbomaaGreatDoor
open Go.RowKit
set_option linter.unusedVariables false

/-- A log's block. -/
def wblk (p n : Nat) (sk : Bool) : Obj := .cells #[.pointer (some ⟨p, 0, none⟩), .int .i64 n, .bool sk] 123
/-- Behind a call of a log at q on the disk at p. -/
def WTo (w : World) (S : Nat → Prop) (p q : Nat) (d' : Dk) (n' : Nat) (sk' : Bool) (w' : World) : Prop :=
  ∃ S', IsD w' p d' S' ∧ Mod (fun k => S k ∨ k = q) w w' ∧ (∀ k, S' k → S k ∨ w.heap.size ≤ k) ∧ w'.heap[q]? = some (wblk p n' sk')
theorem DStep.of0 {w w1 w' : World} {S : Nat → Prop} {p : Nat} {d' : Dk} (hm : Mod NoneB w w1) (h : DStep w1 S p d' w') : DStep w S p d' w' := by
  obtain ⟨S', h1, h2, h3⟩ := h
  exact ⟨S', h1, (hm.mono (fun _ _ h => h.elim)).trans h2 (fun k _ hk => hk), fun k hk => (h3 k hk).imp id (fun h => Nat.le_trans hm.size h)⟩
theorem DStep.wto {w w' : World} {S : Nat → Prop} {p q n : Nat} {sk : Bool} {d' : Dk} (h : DStep w S p d' w') (hq : w.heap[q]? = some (wblk p n sk)) (hqS : ¬ S q) : WTo w S p q d' n sk w' := by
  obtain ⟨S', h1, h2, h3⟩ := h
  exact ⟨S', h1, h2.mono (fun _ _ h => .inl h), h3, h2.blk hq hqS⟩
/-- A store into the log's own block. -/
theorem WTo.setN {w w1 : World} {S : Nat → Prop} {p q n : Nat} {sk : Bool} {d1 : Dk} (h : WTo w S p q d1 n sk w1) (hqS : ¬ S q) (hlt : q < w.heap.size) (n' : Nat) : WTo w S p q d1 n' sk (w1.setCell ⟨q, 1, none⟩ (.int .i64 n')) := by
  obtain ⟨S', h1, h2, h3, h4⟩ := h
  have hqS' : ¬ S' q := fun hh => (h3 q hh).elim hqS (fun h => by omega)
  have hs : Mod (fun k => k = q) w1 (w1.setCell ⟨q, 1, none⟩ (.int .i64 n')) := (Mod.refl (fun k => k = q) w1).setCell (p := ⟨q, 1, none⟩) (fun _ => rfl) _
  refine ⟨S', h1.mod hs (fun k hk he => hqS' (by rw [← he]; exact hk)), h2.trans (hs.mono (fun _ _ h => .inr h)) (fun k _ hk => hk), h3, ?_⟩
  exact (setCell_blk0 h4).trans rfl
theorem WTo.setS {w w1 : World} {S : Nat → Prop} {p q n : Nat} {sk : Bool} {d1 : Dk} (h : WTo w S p q d1 n sk w1) (hqS : ¬ S q) (hlt : q < w.heap.size) (sk' : Bool) : WTo w S p q d1 n sk' (w1.setCell ⟨q, 2, none⟩ (.bool sk')) := by
  obtain ⟨S', h1, h2, h3, h4⟩ := h
  have hqS' : ¬ S' q := fun hh => (h3 q hh).elim hqS (fun h => by omega)
  have hs : Mod (fun k => k = q) w1 (w1.setCell ⟨q, 2, none⟩ (.bool sk')) := (Mod.refl (fun k => k = q) w1).setCell (p := ⟨q, 2, none⟩) (fun _ => rfl) _
  refine ⟨S', h1.mod hs (fun k hk he => hqS' (by rw [← he]; exact hk)), h2.trans (hs.mono (fun _ _ h => .inr h)) (fun k _ hk => hk), h3, ?_⟩
  exact (setCell_blk0 h4).trans rfl

set_option maxRecDepth 100000 in
theorem wsize_calls (w : World) (p q n : Nat) (sk : Bool) (hq : w.heap[q]? = some (wblk p n sk)) : Calls Tryz.prog 42 #[.pointer (some ⟨q, 0, none⟩)] w fun e w' => e = .returned (.int .i64 n) ∧ w' = w := by
  have y1 : w.cell? ⟨q, 1, none⟩ = some (.int .i64 n) := by rw [blk_cell hq]; rfl
  clear hq
  go_enter Tryz.func42, Tryz.ntmps42
  go_wp2_with fail
  go_ret
  exact ⟨rfl, rfl⟩
set_option maxRecDepth 100000 in
theorem wsick_calls (w : World) (p q n : Nat) (sk : Bool) (hq : w.heap[q]? = some (wblk p n sk)) : Calls Tryz.prog 46 #[.pointer (some ⟨q, 0, none⟩)] w fun e w' => e = .returned (.bool sk) ∧ w' = w := by
  have y2 : w.cell? ⟨q, 2, none⟩ = some (.bool sk) := by rw [blk_cell hq]; rfl
  clear hq
  go_enter Tryz.func46, Tryz.ntmps46
  go_wp2_with fail
  go_ret
  exact ⟨rfl, rfl⟩

/-- Reset. -/
def ResetE (w : World) (S : Nat → Prop) (p q : Nat) (r : Cm) (e : Ending) (w' : World) : Prop := e = .returned (.int .i64 r.e) ∧ WTo w S p q r.d r.n r.sk w'
set_option maxHeartbeats 1000000 in
set_option maxRecDepth 100000 in
theorem wreset_calls (w : World) (p q : Nat) (d : Dk) (S : Nat → Prop) (n : Nat) (sk : Bool) (hd : IsD w p d S) (hq : w.heap[q]? = some (wblk p n sk)) (hqS : ¬ S q) (hc : d.c < 4611686018427387904) (hl : d.fs.length ≤ 4611686018427387904) :
    Calls Tryz.prog 49 #[.pointer (some ⟨q, 0, none⟩)] w (ResetE w S p q (resetW d n sk)) := by
  have y0 : w.cell? ⟨q, 0, none⟩ = some (.pointer (some ⟨p, 0, none⟩)) := by rw [blk_cell hq]; rfl
  have y2 : w.cell? ⟨q, 2, none⟩ = some (.bool sk) := by rw [blk_cell hq]; rfl
  have hlt := blk_lt hq
  cases sk with
  | true =>
    have hr : resetW d n true = ⟨d, n, true, 8⟩ := rfl
    have HR := Lib.hid hr
    clear hr y0
    go_enter Tryz.func49, Tryz.ntmps49
    go_wp2_with fail
    go_ret
    rw [HR.out]
    exact ⟨rfl, S, hd, Mod.refl _ _, fun k hk => .inl hk, hq⟩
  | false =>
    have hct := cut_calls w p d S sLog 0 hd hc hl
    have HCT := Lib.hid hct
    have HR : Hid (resetW d n false = resetD d n) := Lib.hid rfl
    have HQ := Lib.hid hq
    clear hct hd hc hl hq
    obtain ⟨e0, he0⟩ : ∃ e, e = (cutD d sLog 0).2 := ⟨_, rfl⟩
    rw [← he0] at HCT
    go_enter Tryz.func49, Tryz.ntmps49
    go_wp2_with fail
    refine HCT.out.mono ?_
    rintro e w1 ⟨rfl, hs⟩
    have hw := hs.wto HQ.out hqS
    have hb1 : w1.heap[q]? = some (wblk p n false) := by obtain ⟨_, _, _, _, h⟩ := hw; exact h
    have f1 : w1.frozen? ⟨q, 1, none⟩ = false := blk_frozen hb1 1
    have f2 : w1.frozen? ⟨q, 2, none⟩ = false := blk_frozen hb1 2
    have z1 : w1.cell? ⟨q, 1, none⟩ = some (.int .i64 n) := by rw [blk_cell hb1]; rfl
    have z2 : w1.cell? ⟨q, 2, none⟩ = some (.bool false) := by rw [blk_cell hb1]; rfl
    have HW := Lib.hid hw
    clear hs hw hb1
    by_cases h0 : e0 = 0
    · have hr : resetD d n = ⟨(cutD d sLog 0).1, 0, false, 0⟩ := if_pos (by rw [← he0]; exact h0)
      subst h0
      have HRD := Lib.hid hr
      clear hr he0 y0 y2
      go_wp2_with fail
      go_ret
      rw [HR.out, HRD.out]
      exact ⟨rfl, HW.out.setN hqS hlt 0⟩
    · have hr : resetD d n = ⟨(cutD d sLog 0).1, n, decide (e0 = 7), e0⟩ := by
        unfold resetD
        rw [if_neg (by rw [← he0]; exact h0), ← he0]
      have HRD := Lib.hid hr
      have q0 : (((e0 : Nat) : Int) == 0) = false := beq_eq_false_iff_ne.mpr (by omega)
      clear hr he0 y0 y2
      by_cases h7 : e0 = 7
      · subst h7
        go_wp2_with fail
        go_ret
        rw [HR.out, HRD.out]
        exact ⟨rfl, HW.out.setS hqS hlt true⟩
      · have q7 : (((e0 : Nat) : Int) == 7) = false := beq_eq_false_iff_ne.mpr (by omega)
        have hd7 : decide (e0 = 7) = false := decide_eq_false h7
        have HD7 := Lib.hid hd7
        clear hd7 h7
        go_wp2_with fail
        go_ret
        rw [HR.out, HRD.out, HD7.out]
        exact ⟨rfl, HW.out⟩

set_option maxHeartbeats 1000000 in
set_option maxRecDepth 100000 in
/-- Commit's own calls: Append, Sync. -/
theorem wcommit1_calls (w : World) (p q r1 r2 : Nat) (d : Dk) (S : Nat → Prop) (n : Nat) (sk : Bool) (b : List UInt8) (B : Option Addr) (bc : Nat) (hd : IsD w p d S) (hq : w.heap[q]? = some (wblk p n sk)) (h1 : w.cell? ⟨r1, 0, none⟩ = some (.pointer (some ⟨q, 0, none⟩)))
    (h2 : w.cell? ⟨r2, 0, none⟩ = some (.slice B b.length bc)) (hb : Rd w 1 B b.length (encB b)) (hoff : 0 < b.length → Off S B) (hc : d.c < 4611686018427387904) (hl : d.fs.length ≤ 4611686018427387904) (hsz : usedF d.fs + b.length ≤ 70368744177664) :
    Calls Tryz.prog 78 #[.pointer (some ⟨r1, 0, none⟩), .pointer (some ⟨r2, 0, none⟩)] w fun e w' => e = .returned (.int .i64 (appendD d sLog b).2) ∧ DStep w S p (appendD d sLog b).1 w' := by
  have y0 : w.cell? ⟨q, 0, none⟩ = some (.pointer (some ⟨p, 0, none⟩)) := by rw [blk_cell hq]; rfl
  have hap := append_calls w.drew p d S sLog b B bc (hd.mod0 (Mod.refl NoneB w).drew) (hb.mod0 (Mod.refl NoneB w).drew) hoff hc hl hsz
  have HAP := Lib.hid hap
  clear hap hd hq hb hoff hc hl hsz
  go_enter Tryz.func78, Tryz.ntmps78
  go_wp2_with fail
  refine wp_region_still_tail 5 (by kernel_rfl) (by kernel_rfl) ?_
  simp only [List.take_succ_cons, List.take_zero, List.drop_succ_cons, List.drop_zero]
  repeat still_step
  refine wpStill_nil ?_
  change wpList _ _ _ _ _ w.drew
  go_wp2_with fail
  refine HAP.out.mono ?_
  rintro e w1 ⟨rfl, hs⟩
  go_wp2_with fail
  go_ret
  exact ⟨rfl, hs.of0 (Mod.refl NoneB w).drew⟩
set_option maxRecDepth 100000 in
theorem wcommit2_calls (w : World) (p q r1 : Nat) (d : Dk) (S : Nat → Prop) (n : Nat) (sk : Bool) (hd : IsD w p d S) (hq : w.heap[q]? = some (wblk p n sk)) (h1 : w.cell? ⟨r1, 0, none⟩ = some (.pointer (some ⟨q, 0, none⟩)))
    (hc : d.c < 4611686018427387904) (hl : d.fs.length ≤ 4611686018427387904) :
    Calls Tryz.prog 79 #[.pointer (some ⟨r1, 0, none⟩)] w fun e w' => e = .returned (.int .i64 (syncD d sLog).2) ∧ DStep w S p (syncD d sLog).1 w' := by
  have y0 : w.cell? ⟨q, 0, none⟩ = some (.pointer (some ⟨p, 0, none⟩)) := by rw [blk_cell hq]; rfl
  have hap := sync_calls w p d S sLog hd hc hl
  have HAP := Lib.hid hap
  clear hap hd hq hc hl
  go_enter Tryz.func79, Tryz.ntmps79
  go_wp2_with fail
  refine HAP.out.mono ?_
  rintro e w1 ⟨rfl, hs⟩
  go_wp2_with fail
  go_ret
  exact ⟨rfl, hs⟩

/-- Commit. -/
def CommitE (w : World) (S : Nat → Prop) (p q : Nat) (r : Cm) (e : Ending) (w' : World) : Prop := e = .returned (.int .i64 r.e) ∧ WTo w S p q r.d r.n r.sk w'
set_option maxHeartbeats 4000000 in
set_option maxRecDepth 100000 in
theorem wcommit_calls (w : World) (p q : Nat) (d : Dk) (S : Nat → Prop) (n : Nat) (sk : Bool) (l : List Op3) (A : Option Addr) (c : Nat) (hd : IsD w p d S) (hq : w.heap[q]? = some (wblk p n sk)) (hqS : ¬ S q) (hr : Rd w 3 A l.length (encOs l)) (hs : SmallO l) (ht : TabW w)
    (hn : n ≤ 70368744177664) (hc : d.c + 3 < 4611686018427387904) (hl : d.fs.length + 3 ≤ 4611686018427387904) (hsz : usedF d.fs + (opsR l).1.length ≤ 70368744177664) :
    Calls Tryz.prog 40 #[.pointer (some ⟨q, 0, none⟩), .slice A l.length c] w (CommitE w S p q (commitW d n sk l)) := by
  have hlt := blk_lt hq
  have hal : Mod NoneB w (w.alloc (.cells #[.pointer (some ⟨q, 0, none⟩)] 80)) := (Mod.refl NoneB w).alloc _
  have y0 : (w.alloc (.cells #[.pointer (some ⟨q, 0, none⟩)] 80)).cell? ⟨q, 0, none⟩ = some (.pointer (some ⟨p, 0, none⟩)) := by rw [blk_cell (hal.blk hq (fun h => h))]; rfl
  have y2 : (w.alloc (.cells #[.pointer (some ⟨q, 0, none⟩)] 80)).cell? ⟨q, 2, none⟩ = some (.bool sk) := by rw [blk_cell (hal.blk hq (fun h => h))]; rfl
  cases sk with
  | true =>
    have hr : commitW d n true l = ⟨d, n, true, 8⟩ := rfl
    have HR := Lib.hid hr
    clear hr y0 hs ht hn hc hl hsz
    go_enter Tryz.func40, Tryz.ntmps40
    go_wp2_with fail
    go_step3
    go_wp2_with fail
    go_ret
    rw [HR.out]
    exact ⟨rfl, S, hd.mod0 hal, hal.mono (fun _ _ h => h.elim), fun k hk => .inl hk, hal.blk hq (fun h => h)⟩
  | false =>
    have hbx1 := box1 w (.cells #[.pointer (some ⟨q, 0, none⟩)] 80)
    obtain ⟨r1, hr1⟩ : ∃ r, r = w.heap.size := ⟨_, rfl⟩
    obtain ⟨w1, hw1⟩ : ∃ x, x = w.alloc (.cells #[.pointer (some ⟨q, 0, none⟩)] 80) := ⟨_, rfl⟩
    have HEQ : Hid (r1 = w.heap.size ∧ w1 = w.alloc (.cells #[.pointer (some ⟨q, 0, none⟩)] 80)) := Lib.hid ⟨hr1, hw1⟩
    rw [← hr1, ← hw1] at hbx1
    have y1 : w1.cell? ⟨r1, 0, none⟩ = some (.pointer (some ⟨q, 0, none⟩)) := by rw [blk_cell hbx1]; rfl
    rw [← hw1] at hal y0 y2
    have hen := bencode_calls l A c w1 (hr.mod0 hal) hs (ht.mod0 hal)
    obtain ⟨r, hrr⟩ : ∃ r, r = opsR l := ⟨_, rfl⟩
    rw [← hrr] at hen hsz
    have HEN := Lib.hid hen
    have HRR := Lib.hid hrr
    have HD := Lib.hid hd
    have HQ := Lib.hid hq
    have hr1N : w.heap.size ≤ r1 := by omega
    have HCW : Hid (commitW d n false l = commitD d n l) := Lib.hid rfl
    clear hen hrr hd hq hr1 hw1 hs ht hr
    go_enter Tryz.func40, Tryz.ntmps40
    go_wp2_with fail
    rw [← HEQ.out.2, ← HEQ.out.1]
    clear HEQ
    go_step3
    go_wp2_with fail
    refine HEN.out.mono ?_
    rintro e w2 ⟨v2, rfl, ho2, hm2, hn2⟩
    have hm02 := hal.then0 hm2
    by_cases he : r.2 = 0
    case neg =>
      have hcm : commitD d n l = ⟨d, n, false, r.2⟩ := by
        unfold commitD
        rw [← HRR.out, if_neg he]
      have HCM := Lib.hid hcm
      have q0 : (((r.2 : Nat) : Int) != 0) = true := bne_iff_ne.mpr (by omega)
      have q0' : (((r.2 : Nat) : Int) == 0) = false := beq_eq_false_iff_ne.mpr (by omega)
      obtain ⟨A2, c2, rfl, _⟩ := ho2.nilD0
      clear hcm y0 y1 y2 ho2 hn2 hbx1
      go_wp2_with fail
      go_ret
      rw [HCW.out, HCM.out]
      have hm3 : Mod NoneB w (w2.alloc (.cells #[.slice A2 r.1.length c2] 24)) := hm02.alloc _
      exact ⟨rfl, S, HD.out.mod0 hm3, hm3.mono (fun _ _ h => h.elim), fun k hk => .inl hk, hm3.blk HQ.out (fun h => h)⟩
    obtain ⟨b, e⟩ := r
    simp only at he hsz ho2
    subst he
    obtain ⟨A2, c2, rfl, hrb⟩ := ho2.nilD0
    obtain ⟨r2, hr2⟩ : ∃ r, r = w2.heap.size := ⟨_, rfl⟩
    have hn2' : ∀ ad, A2 = some ad → w.heap.size ≤ ad.block := fun ad had => by
      subst had
      have h := hn2 ad.block rfl
      exact Nat.le_trans hal.size h
    have hbx2 := box1 w2 (.cells #[.slice A2 b.length c2] 24)
    have hm3 : Mod NoneB w (w2.alloc (.cells #[.slice A2 b.length c2] 24)) := hm02.alloc _
    have hrb3 := hrb.mod0 ((Mod.refl NoneB w2).alloc (.cells #[.slice A2 b.length c2] 24))
    obtain ⟨w3, hw3⟩ : ∃ x, x = w2.alloc (.cells #[.slice A2 b.length c2] 24) := ⟨_, rfl⟩
    rw [← hr2, ← hw3] at hbx2
    rw [← hw3] at hm3 hrb3
    have HEQ : Hid (r2 = w2.heap.size ∧ w3 = w2.alloc (.cells #[.slice A2 b.length c2] 24)) := Lib.hid ⟨hr2, hw3⟩
    have hr2N : w.heap.size ≤ r2 := by rw [hr2]; exact hm02.size
    have hb1 := hm2.blk hbx1 (fun h => h)
    have hb13 := ((Mod.refl NoneB w2).alloc (.cells #[.slice A2 b.length c2] 24)).blk hb1 (fun h => h)
    rw [← hw3] at hb13
    clear hr2 hw3 ho2 hn2 hrb hb1 hbx1 hm2 hm02 y0 y1 y2 hal
    go_wp2_with fail
    rw [← HEQ.out.2, ← HEQ.out.1]
    clear HEQ
    go_step3
    have hF1 : ∀ args w, (callFunc 78 args).run Tryz.prog w = .ok (.enter 78 args) w := enters_of Tryz.func78 (by kernel_rfl) rfl
    have hF2 : ∀ args w, (callFunc 79 args).run Tryz.prog w = .ok (.enter 79 args) w := enters_of Tryz.func79 (by kernel_rfl) rfl
    have hbx3 := box1 w3 (.cells #[.func (.func 78) #[] #[.pointer (some ⟨r1, 0, none⟩), .pointer (some ⟨r2, 0, none⟩)], .func (.func 79) #[] #[.pointer (some ⟨r1, 0, none⟩)]] 53)
    have ha4 : Mod NoneB w3 (w3.alloc (.cells #[.func (.func 78) #[] #[.pointer (some ⟨r1, 0, none⟩), .pointer (some ⟨r2, 0, none⟩)], .func (.func 79) #[] #[.pointer (some ⟨r1, 0, none⟩)]] 53)) := (Mod.refl NoneB w3).alloc _
    obtain ⟨w4, hw4⟩ : ∃ x, x = w3.alloc (.cells #[.func (.func 78) #[] #[.pointer (some ⟨r1, 0, none⟩), .pointer (some ⟨r2, 0, none⟩)], .func (.func 79) #[] #[.pointer (some ⟨r1, 0, none⟩)]] 53) := ⟨_, rfl⟩
    rw [← hw4] at hbx3 ha4
    obtain ⟨r3, hr3⟩ : ∃ r, r = w3.heap.size := ⟨_, rfl⟩
    have hr3N : w.heap.size ≤ r3 := by rw [hr3]; exact hm3.size
    rw [← hr3] at hbx3
    have HEQ : Hid (r3 = w3.heap.size ∧ w4 = w3.alloc (.cells #[.func (.func 78) #[] #[.pointer (some ⟨r1, 0, none⟩), .pointer (some ⟨r2, 0, none⟩)], .func (.func 79) #[] #[.pointer (some ⟨r1, 0, none⟩)]] 53)) := Lib.hid ⟨hr3, hw4⟩
    have hm4 := hm3.then0 ha4
    have hrb4 := hrb3.mod0 ha4
    have hb24 := ha4.blk hbx2 (fun h => h)
    have hb14 := ha4.blk hb13 (fun h => h)
    have hd4 := HD.out.mod0 hm4
    have hq4 := hm4.blk HQ.out (fun h => h)
    have hnS : ∀ k, w.heap.size ≤ k → ¬ S k := fun k hk => HD.out.notS hk
    clear hr3 hw4 hbx2 hb13 hrb3 hm3 ha4
    go_upto_block 1 with fail
    rw [← HEQ.out.2, ← HEQ.out.1]
    clear HEQ
    go_cut [6] (fun ev wx => ev = .int .i64 ((writeD d b).2 : Nat) ∧ DStep w4 S p (writeD d b).1 wx)
    case first =>
      have hap := wcommit1_calls w4 p q r1 r2 d S n false b A2 c2 hd4 hq4 (by rw [blk_cell hb14]; rfl) (by rw [blk_cell hb24]; rfl) hrb4 (fun _ ad had => hnS _ (hn2' ad had)) (by omega) (by omega) hsz
      have hga := (append_grow d sLog b).ok
      have HAP := Lib.hid hap
      have HD4 := Lib.hid hd4
      have HQ4 := Lib.hid hq4
      have HB14 := Lib.hid hb14
      have HB3 := Lib.hid hbx3
      have g0 : w4.cell? ⟨r3, 0, none⟩ = some (.func (.func 78) #[] #[.pointer (some ⟨r1, 0, none⟩), .pointer (some ⟨r2, 0, none⟩)]) := by rw [blk_cell hbx3]; rfl
      obtain ⟨a1, ha1⟩ : ∃ a, a = appendD d sLog b := ⟨_, rfl⟩
      rw [← ha1] at HAP hga
      have hwr : writeD d b = tryD a1 (fun d => syncD d sLog) := by rw [ha1]; rfl
      have HWR := Lib.hid hwr
      clear hap hd4 hq4 hb14 hbx3 ha1 hrb4 hb24 hwr
      go_wp2_with fail
      go_loopw [6, 8, 29] (fun ev a8 i wr => ∃ j : Nat, i = .int .i64 j ∧ ((j = 0 ∧ wr = w4) ∨ (j = 1 ∧ ev = .int .i64 0 ∧ a1.2 = 0 ∧ DStep w4 S p a1.1 wr) ∨ (j = 2 ∧ ev = .int .i64 0 ∧ (writeD d b).2 = 0 ∧ DStep w4 S p (writeD d b).1 wr))) (fun _ _ i _ => 2 - (intOf i).toNat)
      case atStart => exact ⟨0, rfl, .inl ⟨rfl, rfl⟩⟩
      case round =>
        obtain ⟨j, rfl, ⟨rfl, rfl⟩ | ⟨rfl, rfl, h1, hs⟩ | ⟨rfl, rfl, h1, hs⟩⟩ := hrel
        · go_wp2_with fail
          refine HAP.out.mono ?_
          rintro e w5 ⟨rfl, hs⟩
          by_cases h0 : a1.2 = 0
          · rw [h0]
            go_wp2_with fail
            go_roundw
            case rel => exact ⟨1, by go_num, .inr (.inl ⟨rfl, rfl, h0, hs⟩)⟩
            case measure => simp [intOf]
          · have q0 : (((a1.2 : Nat) : Int) != 0) = true := bne_iff_ne.mpr (by omega)
            have hwb : writeD d b = a1 := by rw [HWR.out]; exact tryD_bad h0
            have HWB := Lib.hid hwb
            have q0' : (((a1.2 : Nat) : Int) == 0) = false := beq_eq_false_iff_ne.mpr (by omega)
            clear hwb
            go_wp2_with fail
            go_meet
            case rel => rw [HWB.out]; exact ⟨rfl, hs⟩
        · obtain ⟨S1, hd1, hm1, hn1⟩ := hs
          have hr1S : ¬ S r1 := hnS _ hr1N
          have hr3S : ¬ S r3 := hnS _ hr3N
          have hb1 := hm1.blk HB14.out hr1S
          have hq1 := hm1.blk HQ4.out hqS
          have g1 : wr.cell? ⟨r3, 1, none⟩ = some (.func (.func 79) #[] #[.pointer (some ⟨r1, 0, none⟩)]) := by rw [blk_cell (hm1.blk HB3.out hr3S)]; rfl
          have hsy := wcommit2_calls wr p q r1 a1.1 S1 n false hd1 hq1 (by rw [blk_cell hb1]; rfl) (by have := hga.1; omega) (by have := hga.2.1; omega)
          have HSY := Lib.hid hsy
          have hwb : writeD d b = syncD a1.1 sLog := by rw [HWR.out]; exact tryD_ok h1
          have HWB := Lib.hid hwb
          have HT : Hid (∀ d2 w', DStep wr S1 p d2 w' → DStep w4 S p d2 w') := Lib.hid (fun d2 w' h => by
            obtain ⟨S2, h2⟩ := h
            exact ⟨S2, DTo.trans ⟨hd1, hm1, hn1⟩ h2⟩)
          clear hsy hwb hd1 hm1 hn1 hb1 hq1 g0
          go_wp2_with fail
          refine HSY.out.mono ?_
          rintro e w5 ⟨rfl, hs5⟩
          by_cases h0 : (syncD a1.1 sLog).2 = 0
          · rw [h0]
            go_wp2_with fail
            go_roundw
            case rel => exact ⟨2, by go_num, .inr (.inr ⟨rfl, rfl, by rw [HWB.out]; exact h0, by rw [HWB.out]; exact HT.out _ _ hs5⟩)⟩
            case measure => simp [intOf]
          · obtain ⟨e5, he5⟩ : ∃ e, e = (syncD a1.1 sLog).2 := ⟨_, rfl⟩
            rw [← he5] at h0 ⊢
            have HE5 := Lib.hid he5
            have q0 : (((e5 : Nat) : Int) != 0) = true := bne_iff_ne.mpr (by omega)
            have q0' : (((e5 : Nat) : Int) == 0) = false := beq_eq_false_iff_ne.mpr (by omega)
            clear he5
            go_wp2_with fail
            go_meet
            case rel => rw [HWB.out, ← HE5.out]; exact ⟨rfl, HT.out _ _ hs5⟩
        · have HS := Lib.hid hs
          have H1 := Lib.hid h1
          clear hs h1 g0
          go_wp2_with fail
          go_meet
          case rel => rw [H1.out]; exact ⟨rfl, HS.out⟩
    case rest =>
      obtain ⟨rfl, S5, hd5, hm5, hn5⟩ := hcut
      obtain ⟨wr5, hwr5⟩ : ∃ a, a = writeD d b := ⟨_, rfl⟩
      rw [← hwr5] at hd5 ⊢
      have hgw : wr5.1.c ≤ d.c + 2 ∧ wr5.1.fs.length ≤ d.fs.length + 2 := by
        have h1 := (append_grow d sLog b).ok
        rw [hwr5]
        unfold writeD
        by_cases h0 : (appendD d sLog b).2 = 0
        · rw [tryD_ok h0]
          have h2 := (sync_grow (appendD d sLog b).1 sLog).ok
          omega
        · rw [tryD_bad h0]
          omega
      have hm5w : Mod (fun k => S k ∨ k = q) w wc := (hm4.mono (fun _ _ h => h.elim)).trans hm5 (fun k _ h => .inl h)
      have hn5w : ∀ k, S5 k → S k ∨ w.heap.size ≤ k := fun k hk => (hn5 k hk).imp id (fun h => Nat.le_trans hm4.size h)
      have hq5 : wc.heap[q]? = some (wblk p n false) := hm5.blk hq4 hqS
      have hto : WTo w S p q wr5.1 n false wc := ⟨S5, hd5, hm5w, hn5w, hq5⟩
      have hr1S5 : ¬ S5 r1 := fun h => (hn5 r1 h).elim (hnS _ hr1N) (fun h => absurd (blk_lt hb14) (Nat.not_lt.2 h))
      have HR1S := Lib.hid hr1S5
      clear hr1S5
      have hqS5 : ¬ S5 q := fun h => (hn5w q h).elim hqS (fun h => by omega)
      have k0 : wc.cell? ⟨q, 0, none⟩ = some (.pointer (some ⟨p, 0, none⟩)) := by rw [blk_cell hq5]; rfl
      have k1 : wc.cell? ⟨q, 1, none⟩ = some (.int .i64 n) := by rw [blk_cell hq5]; rfl
      have k2 : wc.cell? ⟨q, 2, none⟩ = some (.bool false) := by rw [blk_cell hq5]; rfl
      have f1 : wc.frozen? ⟨q, 1, none⟩ = false := blk_frozen hq5 1
      have f2 : wc.frozen? ⟨q, 2, none⟩ = false := blk_frozen hq5 2
      have b1 : wc.cell? ⟨r1, 0, none⟩ = some (.pointer (some ⟨q, 0, none⟩)) := by rw [blk_cell (hm5.blk hb14 (hnS _ hr1N))]; rfl
      have b2 : wc.cell? ⟨r2, 0, none⟩ = some (.slice A2 b.length c2) := by rw [blk_cell (hm5.blk hb24 (hnS _ hr2N))]; rfl
      have hcm : commitD d n l = if wr5.2 = 0 then ⟨wr5.1, n + b.length, false, 0⟩ else if wr5.2 = 7 then ⟨wr5.1, n, true, 7⟩ else ⟨(cutD wr5.1 sLog n).1, n, decide ((cutD wr5.1 sLog n).2 ≠ 0), wr5.2⟩ := by
        unfold commitD
        rw [← HRR.out, hwr5]
        exact if_pos rfl
      have HCM := Lib.hid hcm
      have HTO := Lib.hid hto
      have HD5 := Lib.hid hd5
      have HQ5 := Lib.hid hq5
      have HM5 := Lib.hid hm5w
      have HN5 := Lib.hid hn5w
      obtain ⟨d5, e5⟩ := wr5
      simp only at hgw HCM HTO HD5
      clear hcm hto hd5 hq5 hm5w hn5w hwr5 hm5 hn5 hb14 hb24 hrb4 hd4 hq4 hbx3 hm4 hn2' hF1 hF2
      by_cases h0 : e5 = 0
      · subst h0
        have hwn : (n : Int) + (b.length : Int) = ((n + b.length : Nat) : Int) := by omega
        have hbl : b.length ≤ 70368744177664 := by omega
        have HWN := Lib.hid hwn
        have e1 : IntKind.i64.wrap ((n : Int) + (b.length : Int)) = (n : Int) + (b.length : Int) := IntWalk.i64_in _ (by omega)
        clear hwn
        have hd0 : WTo w S p q d5 n false wc.drew := by
          obtain ⟨S', x1, x2, x3, x4⟩ := HTO.out
          exact ⟨S', x1.mod0 (Mod.refl NoneB wc).drew, x2.trans ((Mod.refl NoneB wc).drew.mono (fun _ _ h => h.elim)) (fun k _ hk => hk), x3, x4⟩
        have HD0 := Lib.hid hd0
        have HC : Hid (commitW d n false l = ⟨d5, n + b.length, false, 0⟩) := Lib.hid (by rw [HCW.out, HCM.out]; rfl)
        have k1' : wc.drew.cell? ⟨q, 1, none⟩ = some (.int .i64 n) := k1
        have f1' : wc.drew.frozen? ⟨q, 1, none⟩ = false := f1
        clear hd0 HCM HTO
        go_wp2_with fail
        refine wp_region_still_tail 9 (by kernel_rfl) (by kernel_rfl) ?_
        simp only [List.take_succ_cons, List.take_zero, List.drop_succ_cons, List.drop_zero]
        repeat still_step
        refine wpStill_nil ?_
        change wpList _ _ _ _ _ wc.drew
        go_wp2_with fail
        go_ret
        rw [HC.out]
        refine ⟨rfl, ?_⟩
        have h := HD0.out.setN hqS hlt (n + b.length)
        rw [← HWN.out] at h
        exact h
      · have q0 : (((e5 : Nat) : Int) == 0) = false := beq_eq_false_iff_ne.mpr (by omega)
        by_cases h7 : e5 = 7
        · subst h7
          have HC : Hid (commitW d n false l = ⟨d5, n, true, 7⟩) := Lib.hid (by rw [HCW.out, HCM.out]; rfl)
          clear HCM
          go_wp2_with fail
          go_ret
          rw [HC.out]
          exact ⟨rfl, HTO.out.setS hqS hlt true⟩
        · have q7 : (((e5 : Nat) : Int) == 7) = false := beq_eq_false_iff_ne.mpr (by omega)
          have hcu := cut_calls wc.drew p d5 S5 sLog n (HD5.out.mod0 (Mod.refl NoneB wc).drew) (by omega) (by omega)
          obtain ⟨ac, hac⟩ : ∃ a, a = cutD d5 sLog n := ⟨_, rfl⟩
          rw [← hac] at hcu
          have HCU : Hid (Calls Tryz.prog 69 #[.pointer (some ⟨p, 0, none⟩), .string ⟨#[108, 111, 103]⟩, .int .i64 (n : Int)] wc.drew fun e w' => e = .returned (.int .i64 (ac.2 : Nat)) ∧ DStep wc.drew S5 p ac.1 w') := Lib.hid hcu
          have HC : Hid (commitW d n false l = ⟨ac.1, n, decide (ac.2 ≠ 0), e5⟩) := Lib.hid (by rw [HCW.out, HCM.out, if_neg h0, if_neg h7, ← hac])
          have HT : Hid (∀ d2 w', DStep wc.drew S5 p d2 w' → WTo w S p q d2 n false w') := Lib.hid (fun d2 w' h => by
            obtain ⟨S2, x1, x2, x3⟩ := h.of0 (Mod.refl NoneB wc).drew
            exact ⟨S2, x1, HM5.out.trans (x2.mono (fun _ _ h => h)) (fun k hk h5 => (HN5.out k h5).elim (fun h => .inl h) (fun h => absurd hk (Nat.not_lt.2 h))), fun k hk => (x3 k hk).elim (HN5.out k) (fun h => .inr (Nat.le_trans HM5.out.size h)), x2.blk HQ5.out hqS5⟩)
          have hnq : ((ac.2 : Int) != 0) = decide (ac.2 ≠ 0) := by
            rw [Bool.eq_iff_iff]
            simp
          clear hcu hac HCM HTO HD5
          have HB : Hid (∀ d2 w', DStep wc.drew S5 p d2 w' → w'.cell? ⟨r1, 0, none⟩ = some (.pointer (some ⟨q, 0, none⟩)) ∧ w'.cell? ⟨q, 2, none⟩ = some (.bool false) ∧ w'.frozen? ⟨q, 2, none⟩ = false) := Lib.hid (fun d2 w' h => by
            have hq6 : w'.heap[q]? = some (wblk p n false) := by obtain ⟨_, _, _, _, h⟩ := HT.out _ _ h; exact h
            obtain ⟨S2, x1, x2, x3⟩ := h
            refine ⟨x2.cell b1 (fun h => ?_), by rw [blk_cell hq6]; rfl, blk_frozen hq6 2⟩
            exact HR1S.out h)
          have k0' : wc.drew.cell? ⟨q, 0, none⟩ = some (.pointer (some ⟨p, 0, none⟩)) := k0
          have k1' : wc.drew.cell? ⟨q, 1, none⟩ = some (.int .i64 n) := k1
          have b1' : wc.drew.cell? ⟨r1, 0, none⟩ = some (.pointer (some ⟨q, 0, none⟩)) := b1
          clear f1 f2 b2 k2
          go_wp2_with fail
          go_region_law (go_simp; go_at_call 69; (with_reducible refine HCU.out.mono ?_); rintro ez w6 ⟨rfl, hs6⟩; obtain ⟨b6, z2, f6⟩ := HB.out _ _ hs6)
          all_goals
            have hto := HT.out _ _ hs6
            have HTO := Lib.hid hto
            clear hto hs6
            go_wp2_with fail
            go_ret
            rw [HC.out]
            have hb : decide (ac.2 ≠ 0) = !decide (ac.2 = 0) := by rw [Bool.eq_iff_iff]; simp
            refine ⟨rfl, ?_⟩
            show WTo w S p q ac.1 n (decide (ac.2 ≠ 0)) _
            rw [hb]
            exact HTO.out.setS hqS hlt _
end Go.Proofs.YtnlmfmceogbomaaGreatDoor

/- The log: Open. -/
namespace Go.Proofs.YtnlmfmceogbomaaGreatDoor
open Go.RowKit
set_option linter.unusedVariables false

theorem goodOf_take_succ (ps : List (List UInt8)) (j : Nat) (h : j < ps.length) : goodOf (ps.take (j + 1)) = goodOf (ps.take j) + (8 + ps[j].length) := by
  rw [List.take_succ_eq_append_getElem h, goodOf_append]
  simp [goodOf]
theorem goodOf_len (ps : List (List UInt8)) : 8 * ps.length ≤ goodOf ps := by
  induction ps with
  | nil => simp
  | cons p ps ih =>
    have e : goodOf (p :: ps) = 8 + p.length + goodOf ps := by simp [goodOf]
    rw [e, List.length_cons]
    omega
theorem goodOf_mem (ps : List (List UInt8)) (p : List UInt8) (h : p ∈ ps) : 8 + p.length ≤ goodOf ps := by
  induction ps with
  | nil => cases h
  | cons q ps ih =>
    have e : goodOf (q :: ps) = 8 + q.length + goodOf ps := by simp [goodOf]
    rw [e]
    rcases List.mem_cons.1 h with rfl | h
    · omega
    · have := ih h; omega
theorem TabW.mod1 {S : Nat → Prop} {w w1 : World} (h : TabW w) (hm : Mod S w w1) (hs : ¬ S 1) : TabW w1 := by
  have hg : Tryz.prog.globalNamed "internal/strconv.uint64pow10" = some 1 := by kernel_rfl
  unfold TabW Lib.TabIs World.var? at *
  rw [hg] at h ⊢
  simp only [Option.bind_some] at h ⊢
  have hlt : 1 < w.heap.size := by
    cases hq : w.heap[1]? with
    | none => rw [hq] at h; cases h
    | some o => exact (Array.getElem?_eq_some_iff.1 hq).1
  rw [hm.block _ hlt hs]
  exact h
theorem TabW.lt {w : World} (h : TabW w) : 1 < w.heap.size := by
  have hg : Tryz.prog.globalNamed "internal/strconv.uint64pow10" = some 1 := by kernel_rfl
  unfold TabW Lib.TabIs World.var? at *
  rw [hg] at h
  simp only [Option.bind_some] at h
  cases hq : w.heap[1]? with
  | none => rw [hq] at h; cases h
  | some o => exact (Array.getElem?_eq_some_iff.1 hq).1
/-- Behind Open. -/
def OpenE (w : World) (S : Nat → Prop) (p : Nat) (d : Dk) (e : Ending) (w' : World) : Prop :=
  ∃ S', IsD w' p (openD d).1 S' ∧ Mod S w w' ∧ (∀ k, S' k → S k ∨ w.heap.size ≤ k) ∧
    (((openD d).2 = 0 ∧ ∃ q vl vs, e = .returned (.tuple #[.pointer (some ⟨q, 0, none⟩), vl, .int .i64 0]) ∧ w.heap.size ≤ q ∧ ¬ S' q ∧ w'.heap[q]? = some (wblk p (logN d) false) ∧ BatsAt w' vl w.heap.size (logL d) vs ∧
        (∀ g, vl.ownBlock = some g → ¬ S' g) ∧ (∀ u ∈ vs, ∀ g, u.ownBlock = some g → ¬ S' g)) ∨
     ((openD d).2 ≠ 0 ∧ e = .returned (.tuple #[.pointer none, .slice none 0 0, .int .i64 (openD d).2])))
theorem open_fits (d : Dk) : (open1D d).1.c ≤ d.c + 1 ∧ (open1D d).1.fs.length ≤ d.fs.length + 1 ∧ usedF (open1D d).1.fs ≤ usedF d.fs := by
  unfold open1D
  split
  · have := (create_grow d sLog).ok; omega
  · simp
theorem open2_fits (n : Nat) (b : List UInt8) (d : Dk) : (open2D n b d).1.c ≤ d.c + 1 ∧ (open2D n b d).1.fs.length ≤ d.fs.length + 1 := by
  unfold open2D
  split
  · have := (cut_grow d sLog n).ok; omega
  · simp

set_option maxHeartbeats 4000000 in
set_option maxRecDepth 100000 in
theorem wopen_calls (w : World) (p : Nat) (d : Dk) (S : Nat → Prop) (hd : IsD w p d S) (ht : TabW w) (hT : ¬ S 1) (hc : d.c + 3 < 4611686018427387904) (hl : d.fs.length + 3 ≤ 1099511627776) (hu : usedF d.fs ≤ 70368744177664) (hB : (logB d).length ≤ 8000000) :
    Calls Tryz.prog 36 #[.pointer (some ⟨p, 0, none⟩)] w (OpenE w S p d) := by
  have hrd := read_calls w p d S sLog hd (by omega) hu
  obtain ⟨e0, he0⟩ : ∃ e, e = (readD d sLog).2 := ⟨_, rfl⟩
  obtain ⟨b, hb⟩ : ∃ b, b = logB d := ⟨_, rfl⟩
  have hb' : (readD d sLog).1 = b := hb.symm
  rw [← he0, hb'] at hrd
  rw [← hb] at hB
  have HRD := Lib.hid hrd
  have HD := Lib.hid hd
  have HB := Lib.hid hb
  have HE0 := Lib.hid he0
  have HTW := Lib.hid ht
  have HTS := Lib.hid hT
  clear hrd hd hb hb' he0 ht hT
  go_enter Tryz.func36, Tryz.ntmps36
  go_wp2_with fail
  refine HRD.out.mono ?_
  rintro e w2 ⟨v2, rfl, ho2, hm2, hn2⟩
  obtain ⟨A2, c2, hv2, hc2, _, hr2⟩ := ho2.out
  subst hv2
  have hnA : ∀ ad, A2 = some ad → w.heap.size ≤ ad.block := fun ad had => by subst had; exact hn2 ad.block rfl
  have hd2 := HD.out.mod0 hm2
  have hnS : ∀ k, w.heap.size ≤ k → ¬ S k := fun k hk => HD.out.notS hk
  clear ho2 hn2 HRD
  go_upto_region 2 with fail
  go_cut [24] (fun t wx => t = .bool (decide (e0 = 3)) ∧ wx = w2)
  case first =>
    by_cases h3 : e0 = 3
    · subst h3
      go_wp2_with fail
      go_meet
      case rel => exact ⟨rfl, rfl⟩
    · have q0 : (((e0 : Nat) : Int) == 3) = false := beq_eq_false_iff_ne.mpr (by omega)
      have hdd : decide (e0 = 3) = false := decide_eq_false h3
      go_wp2_with fail
      go_meet
      case rel => exact ⟨by rw [hdd], rfl⟩
  case rest =>
  obtain ⟨rfl, hwx⟩ := hcut
  have hwx2 := hwx.symm
  clear hwx
  subst hwx2
  go_upto_if 24 with fail
  go_cut [6] (fun ev wx => ev = .int .i64 ((open1D d).2 : Nat) ∧ DStep w2 S p (open1D d).1 wx)
  case first =>
    by_cases h3 : e0 = 3
    · have hdd : decide (e0 = 3) = true := decide_eq_true h3
      subst h3
      rw [hdd]
      have ho : open1D d = createD d sLog := if_pos HE0.out.symm
      have hcr := create_calls w2 p d S sLog hd2 (by omega) (by omega)
      rw [← ho] at hcr
      have HCR := Lib.hid hcr
      clear hcr ho hd2 hr2
      go_wp2_with fail
      refine HCR.out.mono ?_
      rintro e w3 ⟨rfl, hs⟩
      go_wp2_with fail
      go_meet
      case rel => exact ⟨rfl, hs⟩
    · have ho : open1D d = (d, e0) := by
        unfold open1D
        rw [← HE0.out, if_neg h3]
      have hdd : decide (e0 = 3) = false := decide_eq_false h3
      have HO := Lib.hid ho
      rw [hdd]
      clear ho
      go_wp2_with fail
      go_meet
      case rel => rw [HO.out]; exact ⟨rfl, S, hd2, Mod.refl _ _, fun k hk => .inl hk⟩
  case rest =>
    obtain ⟨rfl, S3, hd3, hm3, hn3⟩ := hcut
    rename World => w3
    have hm03 : Mod S w w3 := (hm2.mono (fun _ _ h => h.elim)).trans hm3 (fun k _ h => h)
    have hn03 : ∀ k, S3 k → S k ∨ w.heap.size ≤ k := fun k hk => (hn3 k hk).imp id (fun h => Nat.le_trans hm2.size h)
    have hof := open_fits d
    obtain ⟨o1, ho1⟩ : ∃ a, a = open1D d := ⟨_, rfl⟩
    rw [← ho1] at hd3 hof ⊢
    have hop : openD d = tryD (tryD o1 (open2D (logN d) b)) fun d => syncD d sLog := by rw [ho1, HB.out]; rfl
    have HOP := Lib.hid hop
    clear hop ho1
    by_cases h1 : o1.2 = 0
    case neg =>
      have hop : openD d = o1 := by
        rw [HOP.out, tryD_bad h1, tryD_bad h1]
      have HO := Lib.hid hop
      have q0 : (((o1.2 : Nat) : Int) != 0) = true := bne_iff_ne.mpr (by omega)
      have q0' : (((o1.2 : Nat) : Int) == 0) = false := beq_eq_false_iff_ne.mpr (by omega)
      clear hop hr2 hd2
      go_wp2_with fail
      go_ret3
      refine ⟨S3, by rw [HO.out]; exact hd3, hm03, hn03, .inr ⟨by rw [HO.out]; exact h1, ?_⟩⟩
      rw [HO.out]
      rfl
    case pos =>
      have hrb3 : Rd w3 1 A2 b.length (encB b) := hr2.modP hm3 (fun _ ad had => hnS _ (hnA ad had))
      have htab3 : TabW w3 := (HTW.out.mod0 hm2).mod1 hm3 HTS.out
      have hsb : (scanB b).length ≤ 1000000 := by
        have h1 := scanB_good b
        have h2 := goodOf_len (scanB b)
        omega
      have hpl : ∀ q ∈ scanB b, q.length ≤ 140737488355328 := fun q hq => by
        have h1 := scanB_good b
        have h2 := goodOf_mem (scanB b) q hq
        omega
      have HSB := Lib.hid hsb
      have HPL := Lib.hid hpl
      have hus := replayB_used (scanB b)
      have hN : logN d = goodOf ((scanB b).take (replayB (scanB b)).2) := by unfold logN; rw [← HB.out]
      have hL : logL d = (replayB (scanB b)).1 := by unfold logL; rw [← HB.out]
      have hNle : logN d ≤ b.length := by rw [HB.out]; exact logN_le d
      have HN := Lib.hid hN
      have HL := Lib.hid hL
      have HUS := Lib.hid hus
      have HD3 := Lib.hid hd3
      have hwc : w.heap.size ≤ w3.heap.size := hm03.size
      clear hsb hpl hN hL hus hr2 hd2 hd3
      go_wp2_with fail
      refine (scan_calls b A2 c2 w3 hrb3 (by omega) hc2).mono ?_
      rintro e w4 ⟨v4, vs4, rfl, hla, hm4⟩
      obtain ⟨qs, A4, c4, rfl, hbs, hrq, hqc, hpo⟩ := hla.parts HPL.out
      have hql : qs.length = (scanB b).length := by rw [← hbs]; simp [bsOf]
      have HQL := Lib.hid hql
      have hq6 : qs.length ≤ 1000000 := by have := HSB.out; omega
      clear hla hql
      go_wp2_with fail
      refine (replay_calls qs A4 c4 w4 hrq hpo hq6 (htab3.mod0 hm4)).mono ?_
      rintro e w5 ⟨v5, vs5, rfl, hba, hm5⟩
      rw [hbs] at hba
      have hrq5 := hrq.mod0 hm5
      obtain ⟨A5, c5, rfl, _⟩ := hba.rd
      have hgv : ∀ g, (Value.slice A5 (replayB (scanB b)).1.length c5).ownBlock = some g → w3.heap.size ≤ g ∧ g < w5.heap.size := fun g hg => ⟨Nat.le_trans hm4.size (hba.new g hg), hba.own.lt hg⟩
      have hgu : ∀ u ∈ vs5, ∀ g, u.ownBlock = some g → w3.heap.size ≤ g ∧ g < w5.heap.size := fun u hu g hg => ⟨Nat.le_trans hm4.size (hba.newB u hu g hg), by
        obtain ⟨l, hl⟩ := hba.entOf u hu
        exact hl.lt hg⟩
      obtain ⟨us, hus⟩ : ∃ u, u = (replayB (bsOf qs)).2 := ⟨_, rfl⟩
      have husl : us ≤ qs.length := by rw [hus, hbs, HQL.out]; exact HUS.out
      have hNu : logN d = goodOf ((scanB b).take us) := by rw [HN.out, hus, hbs]
      rw [← hus]
      have hm35 := hm4.then0 hm5
      have hal : Mod NoneB w5 (w5.alloc (wblk p 0 false)) := (Mod.refl NoneB w5).alloc _
      have hbx := box1 w5 (wblk p 0 false)
      obtain ⟨q, hq⟩ : ∃ q, q = w5.heap.size := ⟨_, rfl⟩
      have hqN : w3.heap.size ≤ q := by rw [hq]; exact hm35.size
      obtain ⟨w6, hw6⟩ : ∃ x, x = w5.alloc (wblk p 0 false) := ⟨_, rfl⟩
      have HEQ : Hid (q = w5.heap.size ∧ w6 = w5.alloc (.cells #[.pointer (some ⟨p, 0, none⟩), .int .i64 0, .bool false] 123)) := Lib.hid ⟨hq, hw6⟩
      rw [← hq] at hgv hgu
      have HGV := Lib.hid hgv
      have HGU := Lib.hid hgu
      clear hgv hgu
      rw [← hq, ← hw6] at hbx
      rw [← hw6] at hal
      have hm36 := hm35.then0 hal
      have hrq6 := hrq5.mod0 hal
      have hba6 := hba.mod0 hal
      have HBA := Lib.hid hba6
      have HNU := Lib.hid hNu
      have HBS := Lib.hid hbs
      have HPO := Lib.hid hpo
      have e1 : (0 : Int) ≤ (us : Int) := by omega
      have e2 : (us : Int) ≤ (c4 : Int) := by omega
      have hbxx : w6.heap[q]? = some (wblk p (goodOf ((scanB b).take 0)) false) := by simpa [goodOf] using hbx
      have hqA : 0 < qs.length → ∀ ad, A4 = some ad → ad.block ≠ q := fun hp ad had => by
        have h := hrq5.block_lt (by decide) hp ad had
        omega
      clear hq hw6 hba hrq hrq5 hus hNu hbs hpo hba6 hbx htab3 hrb3 hc2
      go_wp2_with fail
      rw [← HEQ.out.2, ← HEQ.out.1]
      clear HEQ
      go_loopw [13, 47] (fun a13 i wr => ∃ j : Nat, i = .int .i64 j ∧ j ≤ us ∧ wr.heap[q]? = some (wblk p (goodOf ((scanB b).take j)) false) ∧ Mod (fun k => k = q) w6 wr) (fun _ i _ => us - (intOf i).toNat)
      case atStart => exact ⟨0, rfl, by omega, hbxx, Mod.refl _ _⟩
      case round =>
        obtain ⟨j, rfl, hj, hbj, hmj⟩ := hrel
        by_cases hlt : j < us
        · have hjq : j < qs.length := by omega
          obtain ⟨ad, hA4, h0, _⟩ := Rd.elem (f := encPart) (fun _ => rfl) (hrq6.modP hmj (fun hp ad had he => hqA hp ad had he)) (by decide) j hjq
          have y0 := h0 _ rfl
          rw [Nat.mul_one] at y0
          have hjs : j < (scanB b).length := by rw [← HQL.out]; exact hjq
          have hbj2 : qs[j].b = (scanB b)[j] := by
            have h := HBS.out
            have h2 : (bsOf qs)[j]'(by rw [h]; exact hjs) = qs[j].b := by simp [bsOf]
            rw [← h2]
            simp only [h]
          have hgs := goodOf_take_succ (scanB b) j hjs
          rw [← hbj2] at hgs
          have hgl : goodOf ((scanB b).take j) ≤ 8000000 := by
            have h1 := goodOf_take_le (scanB b) j
            have h2 := scanB_good b
            omega
          have hgl2 : goodOf ((scanB b).take (j + 1)) ≤ 8000000 := by
            have h1 := goodOf_take_le (scanB b) (j + 1)
            have h2 := scanB_good b
            omega
          obtain ⟨x, hx⟩ : ∃ x, x = qs[j].b.length := ⟨_, rfl⟩
          obtain ⟨g, hg⟩ : ∃ g, g = goodOf ((scanB b).take j) := ⟨_, rfl⟩
          rw [← hx, ← hg] at hgs
          rw [← hx] at y0
          rw [← hg] at hbj hgl
          have HGS := Lib.hid hgs
          have hxl : x ≤ 8000000 := by omega
          have k1 : wr.cell? ⟨q, 1, none⟩ = some (.int .i64 g) := by rw [blk_cell hbj]; rfl
          have f1 : wr.frozen? ⟨q, 1, none⟩ = false := blk_frozen hbj 1
          have hst : Mod (fun k => k = q) wr (wr.setCell ⟨q, 1, none⟩ (.int .i64 ((g : Int) + (8 + (x : Int))))) := (Mod.refl (fun k => k = q) wr).setCell (p := ⟨q, 1, none⟩) (fun _ => rfl) _
          have hb2 : (wr.setCell ⟨q, 1, none⟩ (.int .i64 ((g : Int) + (8 + (x : Int))))).heap[q]? = some (wblk p (goodOf ((scanB b).take (j + 1))) false) := by
            rw [hgs]
            have h := setCell_blk0 (j := 1) (u := .int .i64 ((g : Int) + (8 + (x : Int)))) hbj
            rw [h]
            unfold wblk
            simp
          have HST := Lib.hid (And.intro hb2 (hmj.trans hst (fun k _ h => h)))
          subst hA4
          clear hgs hx hg h0 hb2 hst hbj2
          go_wp2_with fail
          go_roundw
          case rel => exact ⟨j + 1, by go_num, by omega, HST.out.1, HST.out.2⟩
          case measure => simp [intOf]; omega
        · obtain rfl : j = us := by omega
          rw [← HNU.out] at hbj
          have hm3r : Mod NoneB w3 wr := hm36.trans_new hmj (fun k hk => .inr (by rw [hk]; exact hqN))
          have hd6 := HD3.out.mod0 hm3r
          have k1 : wr.cell? ⟨q, 1, none⟩ = some (.int .i64 (logN d)) := by rw [blk_cell hbj]; rfl
          have h2f := open2_fits (logN d) b o1.1
          obtain ⟨N, hNN⟩ : ∃ N, N = logN d := ⟨_, rfl⟩
          rw [← hNN] at hbj k1 hNle HOP h2f
          have HBJ := Lib.hid hbj
          have HNN := Lib.hid hNN
          clear hNN hbj hrq6 hqA
          go_upto_if 68 with fail
          go_cut [6] (fun ev wx => ev = .int .i64 ((open2D N b o1.1).2 : Nat) ∧ DStep wr S3 p (open2D N b o1.1).1 wx)
          case first =>
            by_cases hlt2 : N < b.length
            · have ho : open2D N b o1.1 = cutD o1.1 sLog N := if_pos hlt2
              have hcu := cut_calls wr p o1.1 S3 sLog N hd6 (by omega) (by omega)
              rw [← ho] at hcu
              have HCU := Lib.hid hcu
              have q0 : (N : Int) < (b.length : Int) := by omega
              clear hcu ho hd6
              go_wp2_with fail
              refine HCU.out.mono ?_
              rintro e w7 ⟨rfl, hs⟩
              go_wp2_with fail
              go_meet
              case rel => exact ⟨rfl, hs⟩
            · have ho : open2D N b o1.1 = (o1.1, 0) := if_neg hlt2
              have HO := Lib.hid ho
              have q0 : ¬ ((N : Int) < (b.length : Int)) := by omega
              clear ho
              go_wp2_with fail
              go_meet
              case rel => rw [HO.out]; exact ⟨by first | rfl | (simp [h1]), S3, hd6, Mod.refl _ _, fun k hk => .inl hk⟩
          case rest =>
            obtain ⟨rfl, S7, hd7, hm7, hn7⟩ := hcut
            rename World => w7
            have hS3lt : ∀ k, S3 k → k < w3.heap.size := fun k hk => HD3.out.lt hk
            have hrq : q < wr.heap.size := blk_lt HBJ.out
            have hoe : openD d = tryD (open2D N b o1.1) fun d => syncD d sLog := by rw [HOP.out, tryD_ok h1]
            obtain ⟨o2, ho2⟩ : ∃ a, a = open2D N b o1.1 := ⟨_, rfl⟩
            rw [← ho2] at hd7 h2f hoe ⊢
            have hw37 : w3.heap.size ≤ wr.heap.size := hm3r.size
            have hold : ∀ k, w3.heap.size ≤ k → k ≤ q → ¬ S3 k ∧ ¬ S7 k := fun k h1 h2 => by
              have hn3 : ¬ S3 k := fun h => by have := hS3lt k h; omega
              exact ⟨hn3, fun h => (hn7 k h).elim hn3 (fun h => by omega)⟩
            have HOE := Lib.hid hoe
            have HD7 := Lib.hid hd7
            clear hoe ho2 hd6 hd7 k1
            go_upto_if 76 with fail
            go_cut [6] (fun ev wx => ev = .int .i64 ((openD d).2 : Nat) ∧ DStep w7 S7 p (openD d).1 wx)
            case first =>
              by_cases h2 : o2.2 = 0
              · have ho : openD d = syncD o2.1 sLog := by rw [HOE.out, tryD_ok h2]
                have hsy := sync_calls w7 p o2.1 S7 sLog HD7.out (by omega) (by omega)
                rw [← ho] at hsy
                have HSY := Lib.hid hsy
                rw [h2]
                clear hsy ho h2
                go_wp2_with fail
                refine HSY.out.mono ?_
                rintro e w8 ⟨rfl, hs⟩
                go_wp2_with fail
                go_meet
                case rel => exact ⟨rfl, hs⟩
              · have ho : openD d = o2 := by rw [HOE.out, tryD_bad h2]
                have q0 : (((o2.2 : Nat) : Int) == 0) = false := beq_eq_false_iff_ne.mpr (by omega)
                have HO := Lib.hid ho
                clear ho
                go_wp2_with fail
                go_meet
                case rel => rw [HO.out]; exact ⟨rfl, S7, HD7.out, Mod.refl _ _, fun k hk => .inl hk⟩
            case rest =>
              obtain ⟨rfl, S9, hd9, hm9, hn9⟩ := hcut
              have hlt7 : wr.heap.size ≤ w7.heap.size := hm7.size
              have hold9 : ∀ k, w3.heap.size ≤ k → k ≤ q → ¬ S9 k := fun k h1 h2 => fun h => (hn9 k h).elim (hold k h1 h2).2 (fun h => by omega)
              have hq9 := hm9.blk (hm7.blk HBJ.out (hold q hqN (Nat.le_refl _)).1) (hold q hqN (Nat.le_refl _)).2
              have hmS : Mod S w wc := by
                have x1 : Mod S w wr := hm03.trans (hm3r.mono (fun _ _ h => h.elim)) (fun k _ h => h)
                have x2 : Mod S w w7 := x1.trans hm7 (fun k hk h => (hn03 k h).elim id (fun h => absurd hk (Nat.not_lt.2 h)))
                refine x2.trans hm9 (fun k hk h => (hn7 k h).elim (fun h => (hn03 k h).elim id (fun h => absurd hk (Nat.not_lt.2 h))) (fun h => ?_))
                have := x1.size
                omega
              have hn9w : ∀ k, S9 k → S k ∨ w.heap.size ≤ k := fun k hk => by
                rcases hn9 k hk with h | h
                · rcases hn7 k h with h | h
                  · exact hn03 k h
                  · exact .inr (by omega)
                · exact .inr (by omega)
              have hq9b : wc.heap[q]? = some (wblk p (logN d) false) := by rw [← HNN.out]; exact hq9
              have hbaW : BatsAt wc (.slice A5 (replayB (scanB b)).1.length c5) w.heap.size (logL d) vs5 := by
                have x1 : BatsAt w6 (.slice A5 (replayB (scanB b)).1.length c5) w.heap.size (logL d) vs5 := by
                  rw [HL.out]
                  exact ⟨HBA.out.own, HBA.out.len, HBA.out.ent, HBA.out.one, fun g hg => Nat.le_trans hwc (HGV.out g hg).1, fun u hu g hg => Nat.le_trans hwc (HGU.out u hu g hg).1⟩
                have x2 := x1.mod hmj (fun g hg he => by have := (HGV.out g hg).2; omega) (fun u hu g hg he => by have := (HGU.out u hu g hg).2; omega)
                have x3 := x2.mod hm7 (fun g hg => (hold g (HGV.out g hg).1 (by have := (HGV.out g hg).2; omega)).1) (fun u hu g hg => (hold g (HGU.out u hu g hg).1 (by have := (HGU.out u hu g hg).2; omega)).1)
                exact x3.mod hm9 (fun g hg => (hold g (HGV.out g hg).1 (by have := (HGV.out g hg).2; omega)).2) (fun u hu g hg => (hold g (HGU.out u hu g hg).1 (by have := (HGU.out u hu g hg).2; omega)).2)
              have HF := Lib.hid (And.intro hq9b (And.intro hbaW (And.intro hmS hn9w)))
              have H9 := Lib.hid hold9
              have HD9 := Lib.hid hd9
              have HGA : Hid (w.heap.size ≤ q) := Lib.hid (by omega)
              clear hq9b hbaW hmS hn9w hold9 hq9 hm9 hn9 hd9 hold hlt7
              by_cases he : (openD d).2 = 0
              · rw [he]
                go_wp2_with fail
                go_ret3
                exact ⟨S9, HD9.out, HF.out.2.2.1, HF.out.2.2.2, .inl ⟨he, q, _, vs5, rfl, HGA.out, H9.out q hqN (Nat.le_refl _), HF.out.1, HF.out.2.1,
                  fun g hg => H9.out g (HGV.out g hg).1 (by have := (HGV.out g hg).2; omega), fun u hu g hg => H9.out g (HGU.out u hu g hg).1 (by have := (HGU.out u hu g hg).2; omega)⟩⟩
              · obtain ⟨ee, hee⟩ : ∃ e, e = (openD d).2 := ⟨_, rfl⟩
                rw [← hee] at he ⊢
                have HEE := Lib.hid hee
                have q0 : (((ee : Nat) : Int) != 0) = true := bne_iff_ne.mpr (by omega)
                have q0' : (((ee : Nat) : Int) == 0) = false := beq_eq_false_iff_ne.mpr (by omega)
                clear hee
                go_wp2_with fail
                go_ret3
                exact ⟨S9, HD9.out, HF.out.2.2.1, HF.out.2.2.2, .inr ⟨by rw [← HEE.out]; exact he, by rw [← HEE.out]; rfl⟩⟩
end Go.Proofs.YtnlmfmceogbomaaGreatDoor
