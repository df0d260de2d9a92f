/- Elements of several cells in a row. No program stands here. -/
import Derived.Test.YtkklofnabmdmfaaGreatDoorFindQq
import Derived.Test.YtkklofnabmdmfaaGreatDoorRowQq
namespace Go.Proofs.YtkklofnabmdmfaaGreatDoor
set_option linter.unusedVariables false

theorem flatMap_at {α : Type} (f : α → List Value) (sz : Nat) (hf : ∀ x, (f x).length = sz) (l : List α) (i : Nat) (h : i < l.length) (k : Nat) (hk : k < sz) : (l.flatMap f)[i * sz + k]? = (f l[i])[k]? := by
  induction l generalizing i with
  | nil => simp at h
  | cons x l ih =>
    rw [List.flatMap_cons]
    cases i with
    | zero => rw [Nat.zero_mul, Nat.zero_add, List.getElem?_append_left (by rw [hf]; exact hk)]; rfl
    | succ i =>
      rw [List.getElem?_append_right (by rw [hf, Nat.add_mul]; omega), hf, show (i + 1) * sz + k - sz = i * sz + k from by rw [Nat.add_mul]; omega, ih i (by simpa using h)]
      rfl
/-- Element i of a row of elements: where it begins, and each of its cells. -/
theorem Rd.elem {α : Type} {w : World} {A : Option Addr} {n sz : Nat} {l : List α} {f : α → List Value} (hf : ∀ x, (f x).length = sz) (h : Rd w sz A n (l.flatMap f)) (hz : 0 < sz) (i : Nat) (hi : i < l.length) :
    ∃ ad, A = some ad ∧ (∀ u, (f l[i])[0]? = some u → w.cell? (ad.add (i * sz)) = some u) ∧ ∀ k u, 0 < k → k < sz → (f l[i])[k]? = some u → w.cell? ⟨(ad.add (i * sz)).block, (ad.add (i * sz)).off + k, none⟩ = some u := by
  have hl : l.length * sz = n * sz := by
    have h1 := h.1
    have h2 : (l.flatMap f).length = l.length * sz := by
      clear h hi h1
      induction l with
      | nil => simp
      | cons x l ih => rw [List.flatMap_cons, List.length_append, ih, hf, List.length_cons, Nat.add_mul]; omega
    omega
  have hl' : l.length = n := Nat.eq_of_mul_eq_mul_right hz hl
  obtain ⟨ad, e, hc⟩ := h.2.2 (by omega)
  refine ⟨ad, e, fun u hu => ?_, fun k u h0 hk hu => ?_⟩
  · have := hc (i * sz + 0) u (by rw [flatMap_at f sz hf l i hi 0 hz]; exact hu)
    simpa using this
  · rw [← addr_field ad (i * sz) k h0]
    exact hc _ u (by rw [flatMap_at f sz hf l i hi k hk]; exact hu)
theorem rdBlk {w : World} {g sz n : Nat} {cs : Array Value} {t : TypeId} {f : Nat × Nat} (h : w.heap[g]? = some (.cells cs t f)) (hl : cs.size = n * sz) (hn : n ≤ 9223372036854775807) : Rd w sz (some ⟨g, 0, none⟩) n cs.toList :=
  ⟨by simpa using hl, hn, fun _ => ⟨_, rfl, fun j u hu => by rw [add_zero, blk_cell h]; simpa using hu⟩⟩
theorem Own.nilD0 {w : World} {T size n : Nat} {v : Value} {cs : List Value} (h : Own w T size v n cs) : ∃ A c, v = .slice A n c ∧ Rd w size A n cs := by
  obtain ⟨A, c, h1, _, _, h2⟩ := h.out
  exact ⟨A, c, h1, h2⟩
theorem Own.tag0 {w : World} {T size n g : Nat} {v : Value} {cs : List Value} (h : Own w T size v n cs) (hg : v.ownBlock = some g) : ∃ cur, w.heap[g]? = some (.cells cur T (0, 0)) := by
  obtain ⟨_, ⟨rfl, _⟩ | ⟨g', cap, cur, rfl, _, hh, _⟩⟩ := h
  · simp [Value.ownBlock] at hg
  · simp [Value.ownBlock] at hg
    subst hg
    exact ⟨cur, hh⟩
theorem tag_ne0 {w : World} {a b T1 T2 : Nat} {c1 c2 : Array Value} {f1 f2 : Nat × Nat} (h1 : w.heap[a]? = some (.cells c1 T1 f1)) (h2 : w.heap[b]? = some (.cells c2 T2 f2)) (hT : T1 ≠ T2) : a ≠ b := by
  rintro rfl
  rw [h1] at h2
  injection h2 with h2
  injection h2 with _ h2 _
  exact hT h2
theorem setCell_blk0 {w : World} {p j : Nat} {u : Value} {cs : Array Value} {T : Nat} (h : w.heap[p]? = some (.cells cs T (0, 0))) : (w.setCell ⟨p, j, none⟩ u).heap[p]? = some (.cells (cs.setIfInBounds j u) T (0, 0)) := by
  simp only [World.setCell]
  rw [Array.getElem?_modify]
  simp [h]
end Go.Proofs.YtkklofnabmdmfaaGreatDoor
