/- The reference's put: plain facts. -/
import Derived.Test.YtfbnkbdolimojaaApply
namespace Go.Proofs.Ytfbnkbdolimojaa
set_option linter.unusedVariables false

theorem lb_of (key : ByteArray) : ∀ (l : List Pr) (i : Nat) (hi : i ≤ l.length), (∀ j (hj : j < i), cmpS (l[j]'(by omega)).k key < 0) → (∀ h : i < l.length, ¬ cmpS l[i].k key < 0) → lb l key = i
  | [], i, hi, _, _ => by simp at hi; subst hi; rfl
  | p :: l, 0, _, _, hs => by
    have h0 : ¬ cmpS p.k key < 0 := hs (by simp)
    rw [lb_cons, if_neg h0]
  | p :: l, i + 1, hi, hj, hs => by
    have h0 : cmpS p.k key < 0 := hj 0 (by omega)
    rw [lb_cons, if_pos h0, lb_of key l i (by simpa using hi) (fun j h => hj (j + 1) (by omega)) (fun h => hs (by simpa using h))]
theorem shift_step {α : Type} (z : α) : ∀ (l : List α) (k : Nat) (hk : k < l.length), (l.take (k + 1) ++ z :: l.drop (k + 1)).set (k + 1) l[k] = l.take k ++ l[k] :: l.drop k
  | [], k, hk => by simp at hk
  | x :: l, 0, hk => by simp
  | x :: l, k + 1, hk => by
    have h := shift_step z l k (by simpa using hk)
    simp only [List.take_succ_cons, List.drop_succ_cons, List.cons_append, List.set_cons_succ, List.getElem_cons_succ]
    rw [h]
theorem shift_get {α : Type} (z : α) (l : List α) (k : Nat) (hk : k < l.length) : (l.take (k + 1) ++ z :: l.drop (k + 1))[k]? = some l[k] := by
  rw [List.getElem?_append_left (by simp; omega), List.getElem?_take]
  simp [hk]
theorem shift_set {α : Type} (z x : α) (l : List α) (k : Nat) (hk : k ≤ l.length) : (l.take k ++ z :: l.drop k).set k x = l.take k ++ x :: l.drop k := by
  rw [List.set_append]
  simp [Nat.min_eq_left hk]
theorem encPs_setP : ∀ (l : List Pr) (i : Nat) (p : Pr), ((encPs l).set (i * 2) (.string p.k)).set (i * 2 + 1) (.string p.v) = encPs (l.set i p)
  | [], i, p => by simp [encPs]
  | q :: l, 0, p => by simp [encPs, encP]
  | q :: l, i + 1, p => by
    have h := encPs_setP l i p
    have e : (i + 1) * 2 = i * 2 + 1 + 1 := by omega
    simp only [encPs, List.flatMap_cons, encP, e, List.cons_append, List.nil_append, List.set_cons_succ] at h ⊢
    rw [h]
theorem putT_hit {l : List Pr} {key v : ByteArray} (h : hitB l key = true) : putT l key v = l.set (lb l key) ⟨key, v⟩ := by
  have hlt : lb l key < l.length := by
    unfold hitB at h
    by_cases h1 : lb l key < l.length
    · exact h1
    · rw [dif_neg h1] at h; cases h
  unfold putT
  rw [h, List.set_eq_take_append_cons_drop, if_pos hlt]
  rfl
theorem putT_miss {l : List Pr} {key v : ByteArray} (h : hitB l key = false) : putT l key v = l.take (lb l key) ++ ⟨key, v⟩ :: l.drop (lb l key) := by
  unfold putT
  rw [h]
  rfl
end Go.Proofs.Ytfbnkbdolimojaa
