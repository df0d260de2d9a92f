/- From what the row tells of an argument to what the walks want: slices of flat elements. -/
import Derived.Test.YtdmdiokfpbmnaaaDoorRow
import Derived.ProofKit
import Derived.OpenShut
import Derived.ShutString
import Derived.ChangeOld
import Derived.Deep.Slices
namespace Go.Proofs.YtdmdiokfpbmnaaaDoor
open Go.RowKit Go.Deep Go.ChangeShapes Go.WideShapes
set_option linter.unusedVariables false

theorem flatMap_get {α : Type} (f : α → List Value) (sz : Nat) (hf : ∀ x, (f x).length = sz) (l : List α) : ∀ j u, (l.flatMap f)[j]? = some u → ∃ i, ∃ h : i < l.length, ∃ k, j = i * sz + k ∧ (f l[i])[k]? = some u := by
  induction l with
  | nil => intro j u h; simp at h
  | cons x l ih =>
    intro j u h
    rw [List.flatMap_cons] at h
    by_cases hj : j < sz
    · rw [List.getElem?_append_left (by rw [hf]; exact hj)] at h
      exact ⟨0, by simp, j, by simp, h⟩
    · rw [List.getElem?_append_right (by rw [hf]; omega), hf] at h
      obtain ⟨i, hi, k, e, hk⟩ := ih _ _ h
      exact ⟨i + 1, by simpa using hi, k, by rw [Nat.add_mul]; omega, hk⟩
theorem flatMap_length {α : Type} (f : α → List Value) (sz : Nat) (hf : ∀ x, (f x).length = sz) (l : List α) : (l.flatMap f).length = l.length * sz := by
  induction l with
  | nil => simp
  | cons x l ih => rw [List.flatMap_cons, List.length_append, ih, hf, List.length_cons, Nat.add_mul]; omega

section
variable {P : Program} {H : Type} {enc : TypeId × Value → H} {w : World} {spare : Nat → Bool} {held : Bool}
/-- A slice that came in, its elements told by 'f'. -/
theorem rd_open {α : Type} [Inhabited α] (f : α → List Value) (sz : Nat) (hf : ∀ x, (f x).length = sz) {t e : TypeId} (ht : P.underlying t = some (.slice e)) (hc : P.cellsOf e = sz)
    (hE : ∀ n cs y, DataW.trod enc P w 0 spare held n e cs = some y → cs.length = sz → ∃ x, cs = f x) {A : Option Addr} {n c fuel : Nat} {x : DataW H × List MemPlace}
    (h : DataW.trod enc P w 0 spare held fuel t [.slice A n c] = some x) : ∃ l : List α, l.length = n ∧ n ≤ c ∧ c ≤ maxLen ∧ Rd w sz A n (l.flatMap f) := by
  rcases open_slice ht h with ⟨h1, _⟩ | ⟨a, len, cap, m, k, D, Pl, h1, _, hl, hm, hmm, _, hx⟩
  · simp only [List.cons.injEq, Value.slice.injEq, and_true] at h1
    obtain ⟨rfl, rfl, rfl⟩ := h1
    exact ⟨[], rfl, Nat.le_refl _, Nat.zero_le _, Rd.nil _ _ _⟩
  · simp only [List.cons.injEq, Value.slice.injEq, and_true] at h1
    obtain ⟨rfl, rfl, rfl⟩ := h1
    have hle : n ≤ m := by rw [hmm]; split <;> omega
    obtain ⟨g, hg⟩ := choose_lt (α := α) (n := n) (p := fun i y => w.cells? 0 (a.add (i * sz)) sz = some (f y)) (fun i hi => by
      obtain ⟨cs', h2, h3⟩ := hx i (by omega)
      rw [hc] at h2
      obtain ⟨_, hlen, _⟩ := World.cells?_some h2
      obtain ⟨y, rfl⟩ := hE _ _ _ h3 hlen
      exact ⟨y, h2⟩)
    refine ⟨(List.range n).map g, by simp, hl, hm, ?_⟩
    refine ⟨by rw [flatMap_length f sz hf]; simp, by simp only [maxLen] at hm; omega, fun hn => ⟨a, rfl, fun j u hu => ?_⟩⟩
    obtain ⟨i, hi, k', rfl, hk⟩ := flatMap_get f sz hf _ _ _ hu
    have hi' : i < n := by simpa using hi
    have h2 := hg i hi'
    obtain ⟨_, hlen, hcell⟩ := World.cells?_some h2
    have hk' : k' < sz := by have := (List.getElem?_eq_some_iff.1 hk).1; rw [hf] at this; exact this
    have h4 := hcell k' hk'
    simp only [List.getElem_map, List.getElem_range] at hk
    rw [hk] at h4
    rwa [show (a.add (i * sz)).add k' = a.add (i * sz + k') from add_add _ _ _] at h4
end
end Go.Proofs.YtdmdiokfpbmnaaaDoor

