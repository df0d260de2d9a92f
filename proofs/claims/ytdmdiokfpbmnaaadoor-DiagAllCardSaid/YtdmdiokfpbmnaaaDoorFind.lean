/- The search for a key among pairs (table.find): what it answers at a list whose keys rise. -/
import Derived.Test.YtdmdiokfpbmnaaaDoorKit
import Derived.Test.YtdmdiokfpbmnaaaDoorShelf
import Derived.Test.YtdmdiokfpbmnaaaDoorOrdMap
namespace Go.Proofs.YtdmdiokfpbmnaaaDoor
open Go.RowKit

def encP (p : Pr) : List Value := [.string p.k, .string p.v]
def encPs (l : List Pr) : List Value := l.flatMap encP
theorem encPs_length (l : List Pr) : (encPs l).length = l.length * 2 := by
  unfold encPs
  induction l with
  | nil => rfl
  | cons x l ih => rw [List.flatMap_cons, List.length_append, ih, List.length_cons]; simp [encP]; omega
theorem encPs_one (l : List Pr) : ∀ u ∈ encPs l, u.oneCell' = true := by
  intro u hu
  unfold encPs at hu
  obtain ⟨p, _, hu⟩ := List.mem_flatMap.1 hu
  simp [encP] at hu
  rcases hu with rfl | rfl <;> rfl
theorem encPs_split (l : List Pr) (i : Nat) : encPs l = encPs (l.take i) ++ encPs (l.drop i) := by unfold encPs; rw [← List.flatMap_append, List.take_append_drop]
theorem encPs_get (l : List Pr) (i : Nat) (h : i < l.length) : (encPs l)[i * 2]? = some (.string l[i].k) ∧ (encPs l)[i * 2 + 1]? = some (.string l[i].v) := by
  unfold encPs
  induction l generalizing i with
  | nil => simp at h
  | cons x l ih =>
    rw [List.flatMap_cons]
    cases i with
    | zero => simp [encP]
    | succ i =>
      have := ih i (by simpa using h)
      have e1 : (i + 1) * 2 = (encP x).length + i * 2 := by simp [encP]; omega
      rw [e1, Nat.add_assoc, List.getElem?_append_right (by omega), List.getElem?_append_right (by omega)]
      simpa using this
theorem addr_field (ad : Addr) (m j : Nat) (hj : 0 < j) : ad.add (m + j) = ⟨(ad.add m).block, (ad.add m).off + j, none⟩ := by
  unfold Addr.add
  by_cases hm : m = 0
  · subst hm
    simp [Nat.ne_of_gt hj]
  · simp [hm, Nat.add_assoc]
/-- Element i of a row of pairs. -/
theorem Rd.pair {w : World} {A : Option Addr} {n : Nat} {l : List Pr} (h : Rd w 2 A n (encPs l)) (i : Nat) (hi : i < l.length) :
    ∃ ad, A = some ad ∧ w.cell? (ad.add (i * 2)) = some (.string l[i].k) ∧ w.cell? ⟨(ad.add (i * 2)).block, (ad.add (i * 2)).off + 1, none⟩ = some (.string l[i].v) := by
  have hl : l.length = n := by have := h.1; rw [encPs_length] at this; omega
  obtain ⟨ad, e, hc⟩ := h.2.2 (by omega)
  have hg := encPs_get l i hi
  exact ⟨ad, e, hc _ _ hg.1, by rw [← addr_field _ _ 1 (by omega)]; exact hc _ _ hg.2⟩



end Go.Proofs.YtdmdiokfpbmnaaaDoor

