/- Elements of several cells in a row. No program stands here. -/
import Derived.Test.YtnoleekdldmagaaFind
namespace Go.Proofs.Ytnoleekdldmagaa
set_option linter.unusedVariables false

theorem flatMap_at {α : Type} (f : α → List Value) (sz : Nat) (hf : ∀ x, (f x).length = sz) (l : List α) (i : Nat) (h : i < l.length) (k : Nat) (hk : k < sz) : (l.flatMap f)[i * sz + k]? = (f l[i])[k]? := by
  induction l generalizing i with
  | nil => simp at h
  | cons x l ih =>
    rw [List.flatMap_cons]
    cases i with
    | zero => rw [Nat.zero_mul, Nat.zero_add, List.getElem?_append_left (by rw [hf]; exact hk)]; rfl
    | succ i =>
      rw [List.getElem?_append_right (by rw [hf, Nat.add_mul]; omega), hf, show (i + 1) * sz + k - sz = i * sz + k from by rw [Nat.add_mul]; omega, ih i (by simpa using h)]
      rfl
/-- Element i of a row of elements: where it begins, and each of its cells. -/
theorem Rd.elem {α : Type} {w : World} {A : Option Addr} {n sz : Nat} {l : List α} {f : α → List Value} (hf : ∀ x, (f x).length = sz) (h : Rd w sz A n (l.flatMap f)) (hz : 0 < sz) (i : Nat) (hi : i < l.length) :
    ∃ ad, A = some ad ∧ (∀ u, (f l[i])[0]? = some u → w.cell? (ad.add (i * sz)) = some u) ∧ ∀ k u, 0 < k → k < sz → (f l[i])[k]? = some u → w.cell? ⟨(ad.add (i * sz)).block, (ad.add (i * sz)).off + k, none⟩ = some u := by
  have hl : l.length * sz = n * sz := by
    have h1 := h.1
    have h2 : (l.flatMap f).length = l.length * sz := by
      clear h hi h1
      induction l with
      | nil => simp
      | cons x l ih => rw [List.flatMap_cons, List.length_append, ih, hf, List.length_cons, Nat.add_mul]; omega
    omega
  have hl' : l.length = n := Nat.eq_of_mul_eq_mul_right hz hl
  obtain ⟨ad, e, hc⟩ := h.2.2 (by omega)
  refine ⟨ad, e, fun u hu => ?_, fun k u h0 hk hu => ?_⟩
  · have := hc (i * sz + 0) u (by rw [flatMap_at f sz hf l i hi 0 hz]; exact hu)
    simpa using this
  · rw [← addr_field ad (i * sz) k h0]
    exact hc _ u (by rw [flatMap_at f sz hf l i hi k hk]; exact hu)
end Go.Proofs.Ytnoleekdldmagaa
