/- Snapshots in plain words: what saving makes of a disk. No program stands here. -/
import Derived.Test.YtkklofnabmdmfaaGreatDoorConvRQq
import Derived.Test.YtkklofnabmdmfaaGreatDoorDkFsQq
namespace Go.Proofs.YtkklofnabmdmfaaGreatDoor
set_option linter.unusedVariables false

/-- How much a call lets a disk grow: one call, one file, so many bytes. -/
structure Grow (k : Nat) (d d' : Dk) : Prop where
  c : d'.c ≤ d.c + 1
  l : d'.fs.length ≤ d.fs.length + 1
  u : usedF d'.fs ≤ usedF d.fs + k
theorem gate_grow {k : Nat} {d : Dk} {op : Dk → Ans} (h : ∀ c dn, (op { d with c := c, dn := dn }).1.c = c ∧ (op { d with c := c, dn := dn }).1.fs.length ≤ d.fs.length + 1 ∧ usedF (op { d with c := c, dn := dn }).1.fs ≤ usedF d.fs + k) : Grow k d (gateD d op).1 := by
  obtain ⟨p, fs, c, dn⟩ := d
  unfold gateD
  simp only at h ⊢
  split
  · exact ⟨by simp, by simp, by simp⟩
  · split
    · obtain ⟨h1, h2, h3⟩ := h (c + 1) true
      split
      · exact ⟨by simp only [h1]; omega, h2, h3⟩
      · exact ⟨by simp, by simp, by simp⟩
    · split
      · exact ⟨by simp, by simp, by simp⟩
      · obtain ⟨h1, h2, h3⟩ := h (c + 1) dn
        exact ⟨by simp only [h1]; omega, h2, h3⟩
theorem usedF_append (a b : List Fl) : usedF (a ++ b) = usedF a + usedF b := by unfold usedF; rw [List.map_append, List.sum_append]
theorem usedF_cons (f : Fl) (b : List Fl) : usedF (f :: b) = f.b.length + usedF b := rfl
theorem usedF_drop_le (l : List Fl) (i j : Nat) (h : i ≤ j) : usedF (l.drop j) ≤ usedF (l.drop i) := by
  have e : l.drop j = (l.drop i).drop (j - i) := by rw [List.drop_drop]; congr 1; omega
  rw [e]
  conv => rhs; rw [← List.take_append_drop (j - i) (l.drop i), usedF_append]
  omega
theorem usedF_put (fs : List Fl) (f : Fl) : usedF (putF fs f) ≤ usedF fs + f.b.length := by
  unfold putF
  rw [usedF_append, usedF_cons]
  have h1 : usedF (fs.take (lbF fs f.n)) + usedF (fs.drop (lbF fs f.n)) = usedF fs := by rw [← usedF_append, List.take_append_drop]
  have h2 := usedF_drop_le fs (lbF fs f.n) (if hitF fs f.n then lbF fs f.n + 1 else lbF fs f.n) (by split <;> omega)
  omega
theorem usedF_set (fs : List Fl) (i : Nat) (h : i < fs.length) (f : Fl) : usedF (fs.set i f) + fs[i].b.length = usedF fs + f.b.length := by
  have h1 : usedF fs = usedF (fs.take i) + usedF (fs.drop i) := by rw [← usedF_append, List.take_append_drop]
  rw [List.drop_eq_getElem_cons h, usedF_cons] at h1
  rw [List.set_eq_take_append_cons_drop, if_pos h, usedF_append, usedF_cons]
  omega
theorem create_grow (d : Dk) (n : ByteArray) : Grow 0 d (createD d n).1 := by
  refine gate_grow fun c dn => ?_
  unfold createF
  split
  · exact ⟨rfl, by simp, by simp⟩
  · split
    · exact ⟨rfl, by simp, by simp⟩
    · exact ⟨rfl, putF_length_le _ _, usedF_put _ _⟩
theorem with_grow {k : Nat} (d : Dk) (n : ByteArray) (f : Dk → Nat → Ans) (h : ∀ c dn i, i < d.fs.length → (f { d with c := c, dn := dn } i).1.c = c ∧ (f { d with c := c, dn := dn } i).1.fs.length ≤ d.fs.length + 1 ∧ usedF (f { d with c := c, dn := dn } i).1.fs ≤ usedF d.fs + k) : Grow k d (withD d n f).1 := by
  refine gate_grow fun c dn => ?_
  unfold hitAns
  split
  · rename_i hh
    exact h c dn _ (hitF_lt hh)
  · exact ⟨rfl, by simp, by simp⟩

def sSnap : ByteArray := ⟨#[115, 110, 97, 112]⟩
def sTmp : ByteArray := ⟨#[116, 109, 112]⟩
theorem cut_grow (d : Dk) (n : ByteArray) (k : Int) : Grow 0 d (cutD d n k).1 := by
  refine with_grow d n _ fun c dn i hi => ?_
  unfold cutF
  split
  · exact ⟨rfl, by simp, by simp⟩
  · refine ⟨rfl, by simp, ?_⟩
    have hg : fileAt { d with c := c, dn := dn } i = d.fs[i] := fileAt_get (d := { d with c := c, dn := dn }) hi
    rw [hg]
    have h := usedF_set d.fs i hi { d.fs[i] with b := d.fs[i].b.take k.toNat, s := min d.fs[i].s k.toNat }
    simp only [List.length_take] at h
    simp only
    omega
end Go.Proofs.YtkklofnabmdmfaaGreatDoor
