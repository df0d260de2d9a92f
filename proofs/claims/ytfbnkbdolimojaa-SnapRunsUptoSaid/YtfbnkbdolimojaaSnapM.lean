/- Saves on a disk that has at most the two files of a save: what they make of it, whatever the plan. No program stands here. -/
import Derived.Test.YtfbnkbdolimojaaSnapO
namespace Go.Proofs.Ytfbnkbdolimojaa
set_option linter.unusedVariables false

def F1 (x : List UInt8) (s : Nat) : List Fl := [⟨sSnap, x, s⟩]
def F2 (x : List UInt8) (s : Nat) (t : List UInt8) (u : Nat) : List Fl := [⟨sSnap, x, s⟩, ⟨sTmp, t, u⟩]
def T1 (t : List UInt8) (u : Nat) : List Fl := [⟨sTmp, t, u⟩]
theorem gate_ok {d : Dk} {op : Dk → Ans} (h : d.dn = false) (h1 : ((d.c + 1 : Nat) : Int) ≠ d.p.crash) (h2 : ((d.c + 1 : Nat) : Int) ∉ d.p.fail) : gateD d op = op { d with c := d.c + 1 } := by
  unfold gateD
  rw [if_neg (by simp [h]), if_neg h1, if_neg h2]
theorem gate_zero {d : Dk} {op : Dk → Ans} (h : (gateD d op).2 = 0) : gateD d op = op { d with c := d.c + 1 } := by
  unfold gateD at h ⊢
  split at h
  · exact absurd h (by simp)
  · rename_i h1
    rw [if_neg h1]
    split at h
    · exact absurd h (by simp)
    · rename_i h2
      rw [if_neg h2]
      split at h
      · exact absurd h (by simp)
      · rename_i h3
        rw [if_neg h3]
theorem gate_fs {d : Dk} {op : Dk → Ans} (P : List Fl → Prop) (h0 : P d.fs) (h1 : ∀ c dn, P (op { d with c := c, dn := dn }).1.fs) : P (gateD d op).1.fs := by
  unfold gateD
  split
  · exact h0
  · split
    · split
      · exact h1 _ _
      · exact h0
    · split
      · exact h0
      · exact h1 _ _

/-- What the calls do to the lists of files. -/
theorem hitF2 (x t : List UInt8) (s u : Nat) : hitF (F2 x s t u) sTmp = true := by unfold F2; rw [hitF_cons, if_pos ltST]; exact hitF_one _ _ _ _
theorem lbF2 (x t : List UInt8) (s u : Nat) : lbF (F2 x s t u) sTmp = 1 := by unfold F2; rw [lbF_cons, if_pos ltST, lbF_one]
theorem hitF1 (x : List UInt8) (s : Nat) : hitF (F1 x s) sTmp = false := by unfold F1; rw [hitF_cons, if_pos ltST, hitF_nil]
theorem lbF1 (x : List UInt8) (s : Nat) : lbF (F1 x s) sTmp = 1 := by unfold F1; rw [lbF_cons, if_pos ltST, lbF_nil]
theorem has1 (x : List UInt8) (s : Nat) : hasF (F1 x s) sTmp = false := by simp [hasF, F1, sSnap, sTmp]
theorem has2 (x t : List UInt8) (s u : Nat) : hasF (F2 x s t u) sTmp = true := by simp [hasF, F2]
theorem createF_1 {d : Dk} {x : List UInt8} {s : Nat} (h : d.fs = F1 x s) : createF sTmp d = ({ d with fs := F2 x s [] 0 }, 0) := by
  unfold createF
  rw [if_neg (by decide), h, if_neg (by rw [hitF1]; simp)]
  unfold putF
  simp only [hitF1, lbF1]
  rfl
theorem createF_0 {d : Dk} (h : d.fs = []) : createF sTmp d = ({ d with fs := T1 [] 0 }, 0) := by
  unfold createF
  rw [if_neg (by decide), h]
  rfl
theorem hit2 {d : Dk} {x t : List UInt8} {s u : Nat} (f : Dk → Nat → Ans) (h : d.fs = F2 x s t u) : hitAns d sTmp f = f d 1 := by
  rw [hitAns_true f (by rw [h]; exact hitF2 _ _ _ _), h, lbF2]
theorem hit1 {d : Dk} {t : List UInt8} {u : Nat} (f : Dk → Nat → Ans) (h : d.fs = T1 t u) : hitAns d sTmp f = f d 0 := by
  rw [hitAns_true f (by rw [h]; exact hitF_one _ _ _ _), h]
  unfold T1
  rw [lbF_one]
theorem appendF_2 {d : Dk} {x t y : List UInt8} {s u : Nat} (h : d.fs = F2 x s t u) (hc : ((x.length + t.length + y.length : Nat) : Int) ≤ d.p.cap) : appendF y d 1 = ({ d with fs := F2 x s (t ++ y) u }, 0) := by
  unfold appendF fileAt
  rw [h, if_neg (by simp [F2, usedF]; omega)]
  rfl
theorem appendF_2no {d : Dk} {x t y : List UInt8} {s u : Nat} (h : d.fs = F2 x s t u) (hc : d.p.cap < ((x.length + t.length + y.length : Nat) : Int)) : appendF y d 1 = (d, 5) := by
  unfold appendF
  rw [h, if_pos (by simp [F2, usedF]; omega)]
theorem appendF_1 {d : Dk} {t y : List UInt8} {u : Nat} (h : d.fs = T1 t u) (hc : ((t.length + y.length : Nat) : Int) ≤ d.p.cap) : appendF y d 0 = ({ d with fs := T1 (t ++ y) u }, 0) := by
  unfold appendF fileAt
  rw [h, if_neg (by simp [T1, usedF]; omega)]
  rfl
theorem syncF_2 {d : Dk} {x t : List UInt8} {s u : Nat} (h : d.fs = F2 x s t u) : syncF d 1 = ({ d with fs := F2 x s t t.length }, 0) := by
  unfold syncF fileAt
  rw [h]
  rfl
theorem syncF_1 {d : Dk} {t : List UInt8} {u : Nat} (h : d.fs = T1 t u) : syncF d 0 = ({ d with fs := T1 t t.length }, 0) := by
  unfold syncF fileAt
  rw [h]
  rfl
theorem renameF_2 {d : Dk} {x t : List UInt8} {s u : Nat} (h : d.fs = F2 x s t u) : renameF sTmp sSnap d 1 = ({ d with fs := F1 t u }, 0) := by
  unfold renameF fileAt
  rw [if_neg (by decide), if_neg (by decide), h]
  show (({ d with fs := putF [⟨sSnap, x, s⟩] ⟨sSnap, t, u⟩ } : Dk), 0) = _
  unfold putF
  simp only [hitF_one, lbF_one]
  rfl
theorem renameF_1 {d : Dk} {t : List UInt8} {u : Nat} (h : d.fs = T1 t u) : renameF sTmp sSnap d 0 = ({ d with fs := F1 t u }, 0) := by
  unfold renameF fileAt
  rw [if_neg (by decide), if_neg (by decide), h]
  rfl
theorem removeF_2 {d : Dk} {x t : List UInt8} {s u : Nat} (h : d.fs = F2 x s t u) : removeF d 1 = ({ d with fs := F1 x s }, 0) := by
  unfold removeF
  rw [h]
  rfl

/-- The calls from c on, n of them, are neither failed nor crashed. -/
structure Calm (d : Dk) (n : Nat) : Prop where
  dn : d.dn = false
  ok : ∀ j : Nat, d.c < j → j ≤ d.c + n → (j : Int) ≠ d.p.crash ∧ (j : Int) ∉ d.p.fail
theorem Calm.free (cap : Int) (keep : List Int) (fs : List Fl) (c n : Nat) : Calm (freeD cap keep fs c) n := ⟨rfl, fun j h _ => ⟨by show (j : Int) ≠ 0; omega, by simp [freeD]⟩⟩
theorem Calm.gate {d : Dk} {n : Nat} (h : Calm d (n + 1)) (op : Dk → Ans) : gateD d op = op { d with c := d.c + 1 } := gate_ok h.dn (h.ok (d.c + 1) (by omega) (by omega)).1 (h.ok (d.c + 1) (by omega) (by omega)).2
theorem Calm.next {d : Dk} {n : Nat} (h : Calm d (n + 1)) (fs : List Fl) : Calm { d with c := d.c + 1, fs := fs } n := ⟨h.dn, fun j h1 h2 => h.ok j (by simp only at h1; omega) (by simp only at h2; omega)⟩
theorem rest_step {b : List UInt8} {k j : Nat} {d d' : Dk} (h : stepS b j d = (d', 0)) : restS b (k + 1) j d = restS b k (j + 1) d' := by
  rw [restS_ok (by rw [h]), h]
theorem rest_last {b : List UInt8} {j : Nat} (d : Dk) : restS b 0 j d = (d, 0) := rfl
theorem rest_stop {b : List UInt8} {k j e : Nat} {d d' : Dk} (h : stepS b j d = (d', e)) (he : e ≠ 0) : restS b (k + 1) j d = (d', e) := by
  rw [restS_no (by rw [h]; exact he), h]

theorem clear_1 {d : Dk} {x : List UInt8} {s : Nat} (y : List UInt8) (h : d.fs = F1 x s) : stepS y 0 d = (d, 0) := by
  show clearD d = _
  unfold clearD
  rw [h, if_neg (by rw [has1]; simp)]
theorem clear_0 {d : Dk} (y : List UInt8) (h : d.fs = []) : stepS y 0 d = (d, 0) := by
  show clearD d = _
  unfold clearD
  rw [h, if_neg (by simp [hasF])]
theorem clear_2 {d : Dk} {x t : List UInt8} {s u n : Nat} (y : List UInt8) (h : d.fs = F2 x s t u) (hc : Calm d (n + 1)) : stepS y 0 d = ({ d with c := d.c + 1, fs := F1 x s }, 0) := by
  show clearD d = _
  unfold clearD
  rw [h, if_pos (has2 _ _ _ _)]
  unfold removeD withD
  rw [hc.gate, hit2 (d := { d with c := d.c + 1 }) _ h, removeF_2 (d := { d with c := d.c + 1 }) h]

/-- A save where no call is failed, on a disk that has the file 'snap'. -/
theorem save_on1 {d : Dk} {x y : List UInt8} {s : Nat} (h : d.fs = F1 x s) (hc : Calm d 4) (hr : ((x.length + y.length : Nat) : Int) ≤ d.p.cap) : saveD d y = ({ d with c := d.c + 4, fs := F1 y y.length }, 0) := by
  unfold saveD
  rw [rest_step (clear_1 y h)]
  have h1 : stepS y 1 d = ({ d with c := d.c + 1, fs := F2 x s [] 0 }, 0) := by
    show createD d sTmp = _
    unfold createD
    rw [hc.gate, createF_1 (d := { d with c := d.c + 1 }) h]
  rw [rest_step h1]
  have c1 := hc.next (F2 x s [] 0)
  have h2 : stepS y 2 { d with c := d.c + 1, fs := F2 x s [] 0 } = ({ d with c := d.c + 2, fs := F2 x s y 0 }, 0) := by
    show appendD _ sTmp y = _
    unfold appendD withD
    rw [c1.gate, hit2 (x := x) (s := s) (t := []) (u := 0) _ rfl, appendF_2 (x := x) (s := s) (t := []) (u := 0) rfl (by simpa using hr)]
    rfl
  rw [rest_step h2]
  have c2 : Calm { d with c := d.c + 2, fs := F2 x s y 0 } 2 := c1.next (F2 x s y 0)
  have h3 : stepS y 3 { d with c := d.c + 2, fs := F2 x s y 0 } = ({ d with c := d.c + 3, fs := F2 x s y y.length }, 0) := by
    show syncD _ sTmp = _
    unfold syncD withD
    rw [c2.gate, hit2 (x := x) (s := s) (t := y) (u := 0) _ rfl, syncF_2 (x := x) (s := s) (t := y) (u := 0) rfl]
  rw [rest_step h3]
  have c3 : Calm { d with c := d.c + 3, fs := F2 x s y y.length } 1 := c2.next (F2 x s y y.length)
  have h4 : stepS y 4 { d with c := d.c + 3, fs := F2 x s y y.length } = ({ d with c := d.c + 4, fs := F1 y y.length }, 0) := by
    show renameD _ sTmp sSnap = _
    unfold renameD withD
    rw [c3.gate, hit2 (x := x) (s := s) (t := y) (u := y.length) _ rfl, renameF_2 (x := x) (s := s) (t := y) (u := y.length) rfl]
  rw [rest_step h4]
  rfl
/-- The same on a disk without files. -/
theorem save_on0 {d : Dk} {y : List UInt8} (h : d.fs = []) (hc : Calm d 4) (hr : ((y.length : Nat) : Int) ≤ d.p.cap) : saveD d y = ({ d with c := d.c + 4, fs := F1 y y.length }, 0) := by
  unfold saveD
  rw [rest_step (clear_0 y h)]
  have h1 : stepS y 1 d = ({ d with c := d.c + 1, fs := T1 [] 0 }, 0) := by
    show createD d sTmp = _
    unfold createD
    rw [hc.gate, createF_0 (d := { d with c := d.c + 1 }) h]
  rw [rest_step h1]
  have c1 := hc.next (T1 [] 0)
  have h2 : stepS y 2 { d with c := d.c + 1, fs := T1 [] 0 } = ({ d with c := d.c + 2, fs := T1 y 0 }, 0) := by
    show appendD _ sTmp y = _
    unfold appendD withD
    rw [c1.gate, hit1 (t := []) (u := 0) _ rfl, appendF_1 (t := []) (u := 0) rfl (by simpa using hr)]
    rfl
  rw [rest_step h2]
  have c2 : Calm { d with c := d.c + 2, fs := T1 y 0 } 2 := c1.next (T1 y 0)
  have h3 : stepS y 3 { d with c := d.c + 2, fs := T1 y 0 } = ({ d with c := d.c + 3, fs := T1 y y.length }, 0) := by
    show syncD _ sTmp = _
    unfold syncD withD
    rw [c2.gate, hit1 (t := y) (u := 0) _ rfl, syncF_1 (t := y) (u := 0) rfl]
  rw [rest_step h3]
  have c3 : Calm { d with c := d.c + 3, fs := T1 y y.length } 1 := c2.next (T1 y y.length)
  have h4 : stepS y 4 { d with c := d.c + 3, fs := T1 y y.length } = ({ d with c := d.c + 4, fs := F1 y y.length }, 0) := by
    show renameD _ sTmp sSnap = _
    unfold renameD withD
    rw [c3.gate, hit1 (t := y) (u := y.length) _ rfl, renameF_1 (t := y) (u := y.length) rfl]
  rw [rest_step h4]
  rfl
/-- Without room the first file stays. -/
theorem save_full {d : Dk} {x y : List UInt8} {s : Nat} (h : d.fs = F1 x s) (hc : Calm d 2) (hr : d.p.cap < ((x.length + y.length : Nat) : Int)) : saveD d y = ({ d with c := d.c + 2, fs := F2 x s [] 0 }, 5) := by
  unfold saveD
  rw [rest_step (clear_1 y h)]
  have h1 : stepS y 1 d = ({ d with c := d.c + 1, fs := F2 x s [] 0 }, 0) := by
    show createD d sTmp = _
    unfold createD
    rw [hc.gate, createF_1 (d := { d with c := d.c + 1 }) h]
  rw [rest_step h1]
  have c1 := hc.next (F2 x s [] 0)
  refine rest_stop ?_ (by decide)
  show appendD _ sTmp y = _
  unfold appendD withD
  rw [c1.gate, hit2 (x := x) (s := s) (t := []) (u := 0) _ rfl, appendF_2no (x := x) (s := s) (t := []) (u := 0) rfl (by simpa using hr)]
/-- Where both files stand already. -/
theorem save_on2 {d : Dk} {x y t : List UInt8} {s u : Nat} (h : d.fs = F2 x s t u) (hc : Calm d 5) (hr : ((x.length + y.length : Nat) : Int) ≤ d.p.cap) : saveD d y = ({ d with c := d.c + 5, fs := F1 y y.length }, 0) := by
  have h1 := save_on1 (d := { d with c := d.c + 1, fs := F1 x s }) (y := y) rfl (hc.next _) hr
  unfold saveD at h1 ⊢
  rw [rest_step (clear_1 y rfl)] at h1
  rw [rest_step (clear_2 y h hc), h1]

/-- A save, whatever fails: what stands at 'snap' is the one that was, or this one. -/
structure Twin (x y : List UInt8) (r : Ans) : Prop where
  fs : r.1.fs = F1 x x.length ∨ (∃ t u, r.1.fs = F2 x x.length t u) ∨ r.1.fs = F1 y y.length
  ok : r.2 = 0 → r.1.fs = F1 y y.length
theorem save_two {d : Dk} {x y : List UInt8} (h : d.fs = F1 x x.length) (hr : ((x.length + y.length : Nat) : Int) ≤ d.p.cap) : Twin x y (saveD d y) := by
  unfold saveD
  rw [rest_step (clear_1 y h)]
  have q1 : (∃ t u, (stepS y 1 d).1.fs = F2 x x.length t u) ∨ (stepS y 1 d).1.fs = F1 x x.length := by
    show (∃ t u, (gateD d (createF sTmp)).1.fs = _) ∨ (gateD d (createF sTmp)).1.fs = _
    refine gate_fs (fun fs => (∃ t u, fs = F2 x x.length t u) ∨ fs = F1 x x.length) (.inr h) fun c dn => ?_
    rw [createF_1 (d := { d with c := c, dn := dn }) (x := x) (s := x.length) h]
    exact .inl ⟨_, _, rfl⟩
  by_cases z1 : (stepS y 1 d).2 = 0
  rotate_left
  · rw [restS_no z1]
    refine ⟨?_, fun h => absurd h z1⟩
    rcases q1 with q | q
    · exact .inr (.inl q)
    · exact .inl q
  have e1 : stepS y 1 d = ({ d with c := d.c + 1, fs := F2 x x.length [] 0 }, 0) := by
    show gateD d (createF sTmp) = _
    rw [gate_zero (show (gateD d (createF sTmp)).2 = 0 from z1), createF_1 (d := { d with c := d.c + 1 }) (x := x) (s := x.length) h]
  rw [rest_step e1]
  obtain ⟨d1, hd1⟩ : ∃ d1 : Dk, d1 = { d with c := d.c + 1, fs := F2 x x.length [] 0 } := ⟨_, rfl⟩
  have f1 : d1.fs = F2 x x.length [] 0 := by rw [hd1]
  have p1 : d1.p.cap = d.p.cap := by rw [hd1]
  rw [← hd1]
  clear hd1 e1 z1 q1
  have q2 : ∃ t u, (stepS y 2 d1).1.fs = F2 x x.length t u := by
    show ∃ t u, (gateD d1 fun d => hitAns d sTmp (appendF y)).1.fs = _
    refine gate_fs (fun fs => ∃ t u, fs = F2 x x.length t u) ⟨_, _, f1⟩ fun c dn => ?_
    rw [hit2 (d := { d1 with c := c, dn := dn }) (x := x) (s := x.length) (t := []) (u := 0) _ f1, appendF_2 (d := { d1 with c := c, dn := dn }) (x := x) (s := x.length) (t := []) (u := 0) f1 (by rw [List.length_nil]; simp only [p1]; omega)]
    exact ⟨_, _, rfl⟩
  by_cases z2 : (stepS y 2 d1).2 = 0
  rotate_left
  · rw [restS_no z2]
    exact ⟨.inr (.inl q2), fun h => absurd h z2⟩
  have e2 : stepS y 2 d1 = ({ d1 with c := d1.c + 1, fs := F2 x x.length y 0 }, 0) := by
    show gateD d1 (fun d => hitAns d sTmp (appendF y)) = _
    rw [gate_zero (show (gateD d1 fun d => hitAns d sTmp (appendF y)).2 = 0 from z2)]
    rw [hit2 (d := { d1 with c := d1.c + 1 }) (x := x) (s := x.length) (t := []) (u := 0) _ f1, appendF_2 (d := { d1 with c := d1.c + 1 }) (x := x) (s := x.length) (t := []) (u := 0) f1 (by rw [List.length_nil]; simp only [p1]; omega)]
    rfl
  rw [rest_step e2]
  obtain ⟨d2, hd2⟩ : ∃ d2 : Dk, d2 = { d1 with c := d1.c + 1, fs := F2 x x.length y 0 } := ⟨_, rfl⟩
  have f2 : d2.fs = F2 x x.length y 0 := by rw [hd2]
  rw [← hd2]
  clear hd2 e2 z2 q2 f1 p1
  have q3 : ∃ t u, (stepS y 3 d2).1.fs = F2 x x.length t u := by
    show ∃ t u, (gateD d2 fun d => hitAns d sTmp syncF).1.fs = _
    refine gate_fs (fun fs => ∃ t u, fs = F2 x x.length t u) ⟨_, _, f2⟩ fun c dn => ?_
    rw [hit2 (d := { d2 with c := c, dn := dn }) (x := x) (s := x.length) (t := y) (u := 0) _ f2, syncF_2 (d := { d2 with c := c, dn := dn }) (x := x) (s := x.length) (t := y) (u := 0) f2]
    exact ⟨_, _, rfl⟩
  by_cases z3 : (stepS y 3 d2).2 = 0
  rotate_left
  · rw [restS_no z3]
    exact ⟨.inr (.inl q3), fun h => absurd h z3⟩
  have e3 : stepS y 3 d2 = ({ d2 with c := d2.c + 1, fs := F2 x x.length y y.length }, 0) := by
    show gateD d2 (fun d => hitAns d sTmp syncF) = _
    rw [gate_zero (show (gateD d2 fun d => hitAns d sTmp syncF).2 = 0 from z3)]
    rw [hit2 (d := { d2 with c := d2.c + 1 }) (x := x) (s := x.length) (t := y) (u := 0) _ f2, syncF_2 (d := { d2 with c := d2.c + 1 }) (x := x) (s := x.length) (t := y) (u := 0) f2]
  rw [rest_step e3]
  obtain ⟨d3, hd3⟩ : ∃ d3 : Dk, d3 = { d2 with c := d2.c + 1, fs := F2 x x.length y y.length } := ⟨_, rfl⟩
  have f3 : d3.fs = F2 x x.length y y.length := by rw [hd3]
  rw [← hd3]
  clear hd3 e3 z3 q3 f2
  have q4 : d3.fs = F2 x x.length y y.length → (∃ t u, (stepS y 4 d3).1.fs = F2 x x.length t u) ∨ (stepS y 4 d3).1.fs = F1 y y.length := by
    intro _
    show (∃ t u, (gateD d3 fun d => hitAns d sTmp (renameF sTmp sSnap)).1.fs = _) ∨ (gateD d3 fun d => hitAns d sTmp (renameF sTmp sSnap)).1.fs = _
    refine gate_fs (fun fs => (∃ t u, fs = F2 x x.length t u) ∨ fs = F1 y y.length) (.inl ⟨_, _, f3⟩) fun c dn => ?_
    rw [hit2 (d := { d3 with c := c, dn := dn }) (x := x) (s := x.length) (t := y) (u := y.length) _ f3, renameF_2 (d := { d3 with c := c, dn := dn }) (x := x) (s := x.length) (t := y) (u := y.length) f3]
    exact .inr rfl
  by_cases z4 : (stepS y 4 d3).2 = 0
  rotate_left
  · rw [restS_no z4]
    refine ⟨?_, fun h => absurd h z4⟩
    rcases q4 f3 with q | q
    · exact .inr (.inl q)
    · exact .inr (.inr q)
  have e4 : stepS y 4 d3 = ({ d3 with c := d3.c + 1, fs := F1 y y.length }, 0) := by
    show gateD d3 (fun d => hitAns d sTmp (renameF sTmp sSnap)) = _
    rw [gate_zero (show (gateD d3 fun d => hitAns d sTmp (renameF sTmp sSnap)).2 = 0 from z4)]
    rw [hit2 (d := { d3 with c := d3.c + 1 }) (x := x) (s := x.length) (t := y) (u := y.length) _ f3, renameF_2 (d := { d3 with c := d3.c + 1 }) (x := x) (s := x.length) (t := y) (u := y.length) f3]
  rw [rest_step e4]
  exact ⟨.inr (.inr rfl), fun _ => rfl⟩

/-- How much a save lets a disk grow. -/
theorem restS_grow (b : List UInt8) : ∀ (k j : Nat) (d : Dk), (restS b k j d).1.c ≤ d.c + k ∧ (restS b k j d).1.fs.length ≤ d.fs.length + k ∧ usedF (restS b k j d).1.fs ≤ usedF d.fs + k * b.length
  | 0, j, d => ⟨Nat.le_refl _, Nat.le_refl _, by simp [restS]⟩
  | k + 1, j, d => by
    have g := stepS_grow b j d
    have g1 := g.c
    have g2 := g.l
    have g3 := g.u
    have e : (k + 1) * b.length = k * b.length + b.length := by rw [Nat.add_mul, Nat.one_mul]
    by_cases h : (stepS b j d).2 = 0
    · rw [restS_ok h]
      have ih := restS_grow b k (j + 1) (stepS b j d).1
      omega
    · rw [restS_no h]
      have : 0 ≤ k * b.length := Nat.zero_le _
      omega
theorem saveD_grow (d : Dk) (b : List UInt8) : (saveD d b).1.c ≤ d.c + 5 ∧ (saveD d b).1.fs.length ≤ d.fs.length + 5 ∧ usedF (saveD d b).1.fs ≤ usedF d.fs + 5 * b.length := restS_grow b 5 0 d

/-- What is loaded where 'snap' stands first. -/
theorem load_first {d : Dk} {x : List UInt8} {s : Nat} {r : List Fl} (h : d.fs = ⟨sSnap, x, s⟩ :: r) (hd : d.dn = false) : loadR d = ((fromT x).getD [], errP (fromT x)) := by
  have e : readD d sSnap = (x, 0) := by
    unfold readD
    rw [if_neg (by rw [hd]; decide), h, if_pos (hitF_one _ _ _ _)]
    unfold fileAt
    rw [h, lbF_one]
    rfl
  unfold loadR
  rw [e]
  rfl
theorem restF_whole (keep : List Int) (i : Nat) (n : ByteArray) (x : List UInt8) : restF keep i ⟨n, x, x.length⟩ = ⟨n, x, x.length⟩ := by
  rw [restF_len keep i ⟨n, x, x.length⟩ (Nat.le_refl _)]
  have e : x.take (x.length + (max 0 (keep[i]?.getD 0)).toNat) = x := List.take_of_length_le (by omega)
  simp only [e]
theorem restart_first {d : Dk} {x : List UInt8} {r : List Fl} (h : d.fs = ⟨sSnap, x, x.length⟩ :: r) (p : Pl) : ∃ r', (restartD d p).fs = ⟨sSnap, x, x.length⟩ :: r' := by
  unfold restartD
  simp only [h, List.mapIdx_cons, restF_whole]
  exact ⟨_, rfl⟩
theorem Twin.loads {x y : List UInt8} {r : Ans} (h : Twin x y r) (p : Pl) : (loadR (restartD r.1 p) = ((fromT y).getD [], errP (fromT y)) ∨ loadR (restartD r.1 p) = ((fromT x).getD [], errP (fromT x))) ∧ (r.2 = 0 → loadR (restartD r.1 p) = ((fromT y).getD [], errP (fromT y))) := by
  have hy : r.1.fs = F1 y y.length → loadR (restartD r.1 p) = ((fromT y).getD [], errP (fromT y)) := fun h => by
    obtain ⟨r', hr⟩ := restart_first (x := y) h p
    exact load_first hr rfl
  refine ⟨?_, fun h0 => hy (h.ok h0)⟩
  rcases h.fs with h | ⟨t, u, h⟩ | h
  · obtain ⟨r', hr⟩ := restart_first (x := x) h p
    exact .inr (load_first hr rfl)
  · obtain ⟨r', hr⟩ := restart_first (x := x) h p
    exact .inr (load_first hr rfl)
  · exact .inl (hy h)
end Go.Proofs.Ytfbnkbdolimojaa
