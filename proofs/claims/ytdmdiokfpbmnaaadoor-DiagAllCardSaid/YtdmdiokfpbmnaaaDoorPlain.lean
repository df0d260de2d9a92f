/- Plain facts on rows and on places among pairs. No program stands here. -/
import Derived.Test.YtdmdiokfpbmnaaaDoorRow
import Derived.Test.YtdmdiokfpbmnaaaDoorOrdMap
namespace Go.Proofs.YtdmdiokfpbmnaaaDoor
open Go.RowKit
set_option linter.unusedVariables false

theorem rd_blk {w : World} {g sz n : Nat} {cs : Array Value} {t : TypeId} {f : Nat × Nat} (h : w.heap[g]? = some (.cells cs t f)) (hl : cs.size = n * sz) (hn : n ≤ 9223372036854775807) : Rd w sz (some ⟨g, 0, none⟩) n cs.toList :=
  ⟨by simpa using hl, hn, fun _ => ⟨_, rfl, fun j u hu => by rw [add_zero, blk_cell h]; simpa using hu⟩⟩
theorem NewOr.two {w wX : World} {V : Value} {g n c4 : Nat} (h : NewOr wX V (.slice (some ⟨g, 0, none⟩) n c4)) (hlt : ∀ g, V.ownBlock = some g → g < w.heap.size) (hX : w.heap.size < wX.heap.size) :
    g ≠ w.heap.size ∧ (OnlyBlk V g ∨ w.heap.size ≤ g) ∧ NewOr w V (.slice (some ⟨g, 0, none⟩) n c4) := by
  rcases h with h | ⟨b, h, hb⟩
  · exact ⟨by have := hlt g h.symm; omega, .inl h.symm, .inl h⟩
  · injection (show some g = some b from h) with hgb
    exact ⟨by omega, .inr (by omega), .inr ⟨b, h, by omega⟩⟩
theorem lb_of (key : ByteArray) : ∀ (l : List Pr) (i : Nat) (hi : i ≤ l.length), (∀ j (hj : j < i), cmpS (l[j]'(by omega)).k key < 0) → (∀ h : i < l.length, ¬ cmpS l[i].k key < 0) → lb l key = i
  | [], i, hi, _, _ => by simp at hi; subst hi; rfl
  | p :: l, 0, _, _, hs => by
    have h0 : ¬ cmpS p.k key < 0 := hs (by simp)
    rw [lb_cons, if_neg h0]
  | p :: l, i + 1, hi, hj, hs => by
    have h0 : cmpS p.k key < 0 := hj 0 (by omega)
    rw [lb_cons, if_pos h0, lb_of key l i (by simpa using hi) (fun j h => hj (j + 1) (by omega)) (fun h => hs (by simpa using h))]
theorem lb_less (key : ByteArray) : ∀ (l : List Pr) (i : Nat) (hl : i < l.length), i < lb l key → cmpS l[i].k key < 0
  | [], i, hl, _ => by simp at hl
  | p :: l, i, hl, h => by
    rw [lb_cons] at h
    by_cases h0 : cmpS p.k key < 0
    · rw [if_pos h0] at h
      cases i with
      | zero => exact h0
      | succ i => exact lb_less key l i (by simpa using hl) (by omega)
    · rw [if_neg h0] at h
      omega
theorem lb_stop (key : ByteArray) : ∀ (l : List Pr) (hl : lb l key < l.length), ¬ cmpS l[lb l key].k key < 0
  | [], hl => by simp at hl
  | p :: l, hl => by
    by_cases h0 : cmpS p.k key < 0
    · have e : lb (p :: l) key = lb l key + 1 := by rw [lb_cons, if_pos h0]
      have h1 : lb l key < l.length := by rw [e] at hl; simpa using hl
      have := lb_stop key l h1
      simp only [e, List.getElem_cons_succ]
      exact this
    · have e : lb (p :: l) key = 0 := by rw [lb_cons, if_neg h0]
      simp only [e, List.getElem_cons_zero]
      exact h0
theorem shift_at {α : Type} (z : α) (l : List α) (k : Nat) (hk : k ≤ l.length) : (l.take k ++ z :: l.drop k)[k]? = some z := by
  rw [List.getElem?_append_right (by simp; omega)]
  simp [Nat.min_eq_left hk]
theorem shift_get {α : Type} (z : α) (l : List α) (k : Nat) (hk : k < l.length) : (l.take (k + 1) ++ z :: l.drop (k + 1))[k]? = some l[k] := by
  rw [List.getElem?_append_left (by simp; omega), List.getElem?_take]
  simp [hk]
theorem shift_set {α : Type} (z x : α) (l : List α) (k : Nat) (hk : k ≤ l.length) : (l.take k ++ z :: l.drop k).set k x = l.take k ++ x :: l.drop k := by
  rw [List.set_append]
  simp [Nat.min_eq_left hk]
theorem shift_step {α : Type} (z : α) : ∀ (l : List α) (k : Nat) (hk : k < l.length), (l.take (k + 1) ++ z :: l.drop (k + 1)).set (k + 1) l[k] = l.take k ++ l[k] :: l.drop k
  | [], k, hk => by simp at hk
  | x :: l, 0, hk => by simp
  | x :: l, k + 1, hk => by
    have h := shift_step z l k (by simpa using hk)
    simp only [List.take_succ_cons, List.drop_succ_cons, List.cons_append, List.set_cons_succ, List.getElem_cons_succ]
    rw [h]
end Go.Proofs.YtdmdiokfpbmnaaaDoor

