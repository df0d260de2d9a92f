/- slices.SortFunc at pairs, by their keys: what a row holds behind it. -/
import Derived.Shelf.SlSortCmp.WholeK
import Derived.Shelf.SlSortCmp.NoneTotal
import Derived.Test.YtkklofnabmdmfaaGreatDoorProg
import Derived.Deep.DrawnRows
import Derived.Test.YtkklofnabmdmfaaGreatDoorShelfQq
import Derived.Test.YtkklofnabmdmfaaGreatDoorFindQq
import Derived.Test.YtkklofnabmdmfaaGreatDoorFlatQq
import Derived.Test.YtkklofnabmdmfaaGreatDoorTabAQq
import Derived.Test.YtkklofnabmdmfaaGreatDoorTabEQq
import Derived.Test.YtkklofnabmdmfaaGreatDoorOpenBQq
import Derived.Test.YtkklofnabmdmfaaGreatDoorDkFsQq
import Derived.Test.YtkklofnabmdmfaaGreatDoorIxMQq
namespace Go.Proofs.YtkklofnabmdmfaaGreatDoor
open Go.Shelf Go.RowKit Go.Lib Go.Sort
set_option linter.unusedVariables false

end Go.Proofs.YtkklofnabmdmfaaGreatDoor

/- Layer 9's document's example; IndexNil: an index that there is not has nothing: the walk of the law. -/
namespace Go.Proofs.YtkklofnabmdmfaaGreatDoor
open Go.RowKit
set_option linter.unusedVariables false

theorem atB_len {x : Ix} (h : IxOk x) (l : List Pr) (hl : l ∈ x.bs) : l.length ≤ x.n := by
  rw [h.n]
  obtain ⟨i, hi, rfl⟩ := List.getElem_of_mem hl
  have := flatten_set_length x.bs i hi []
  rw [List.length_nil] at this
  omega
theorem IxOk.room {x : Ix} (h : IxOk x) (hl : x.bs.length ≤ 1024) (hn : x.n ≤ 1000000) : RoomX x := ⟨h.pos, hl, hn, fun l hm => Nat.le_trans (atB_len h l hm) hn⟩
theorem putX_len (x : Ix) (key v : ByteArray) : (putX x key v).bs.length = x.bs.length := by simp [putX]

end Go.Proofs.YtkklofnabmdmfaaGreatDoor

/- An index: all pairs, by rising keys. -/
namespace Go.Proofs.YtkklofnabmdmfaaGreatDoor
open Go.RowKit
set_option linter.unusedVariables false

theorem mem_getT {key v : ByteArray} : ∀ {l : List Pr}, Once l → (getT l key = some v ↔ (⟨key, v⟩ : Pr) ∈ l)
  | [], _ => by simp [getT_nil]
  | p :: l, h => by
    obtain ⟨h1, h2⟩ := (once_cons p l).1 h
    rw [getT_cons, List.mem_cons]
    by_cases he : p.k = key
    · rw [if_pos he]
      constructor
      · intro hv
        injection hv with hv
        exact .inl (by rw [← he, ← hv])
      · rintro (hv | hv)
        · rw [← hv]
        · exact absurd he (h1 _ hv)
    · rw [if_neg he, mem_getT h2]
      constructor
      · exact .inr
      · rintro (hv | hv)
        · exact absurd (by rw [← hv]) he
        · exact hv
theorem once_flatten {x : Ix} (h : IxOk x) : Once x.bs.flatten := by
  unfold Once
  rw [List.pairwise_flatten]
  refine ⟨h.once, ?_⟩
  rw [List.pairwise_iff_getElem]
  intro i j hi hj hij a ha b hb hab
  have h1 := h.home i hi a ha
  have h2 := h.home j hj b hb
  rw [hab] at h1
  omega
theorem mem_flatten {x : Ix} (h : IxOk x) (p : Pr) : p ∈ x.bs.flatten ↔ p ∈ atB x.bs p.k := by
  rw [List.mem_flatten]
  constructor
  · rintro ⟨l, hl, hp⟩
    obtain ⟨i, hi, rfl⟩ := List.getElem_of_mem hl
    have h1 := h.home i hi p hp
    rw [atB_get h.pos]
    simp only [h1]
    exact hp
  · intro hp
    rw [atB_get h.pos] at hp
    exact ⟨_, List.getElem_mem _, hp⟩
/-- What an index holds, sorted, is the map that it is. -/
theorem sorted_map {x : Ix} (h : IxOk x) {m : List Pr} (hp : m.Perm x.bs.flatten) (hs : m.Pairwise fun a b => ¬ cmpS b.k a.k < 0) : Rises m ∧ (∀ key, getT m key = getX x key) ∧ m.length = x.n := by
  have ho : Once m := (hp.pairwise_iff (fun h => Ne.symm h)).2 (once_flatten h)
  refine ⟨?_, fun key => ?_, by rw [h.n]; exact hp.length_eq⟩
  · unfold Rises
    refine (hs.and ho).imp fun {a b} hab => ?_
    rcases lt_tri a.k b.k with h1 | h1 | h1
    · exact h1
    · exact absurd h1 hab.2
    · exact absurd h1 hab.1
  · have key1 : ∀ v, getT m key = some v ↔ getX x key = some v := by
      intro v
      unfold getX
      rw [mem_getT ho, hp.mem_iff, mem_flatten h, mem_getT (h.once_at key)]
    cases h1 : getT m key with
    | some v => exact ((key1 v).1 h1).symm
    | none =>
      cases h2 : getX x key with
      | none => rfl
      | some v => rw [(key1 v).2 h2] at h1; cases h1

end Go.Proofs.YtkklofnabmdmfaaGreatDoor

/- Acts on an index as an argument; law 9's heavy: what it lets by. -/
namespace Go.Proofs.YtkklofnabmdmfaaGreatDoor
open Go.RowKit Go.Deep Go.ChangeShapes Go.WideShapes
set_option linter.unusedVariables false

structure Act9 where
  d : Int
  k : ByteArray
  v : ByteArray
instance : Inhabited Act9 := ⟨⟨0, ⟨#[]⟩, ⟨#[]⟩⟩⟩
section
variable {H : Type} {enc : TypeId × Value → H} {w : World} {spare : Nat → Bool} {held : Bool}
end

def LightI (a : Act9) : Prop := a.k.size ≤ 200 ∧ a.v.size ≤ 200
instance (a : Act9) : Decidable (LightI a) := by unfold LightI; exact inferInstance
end Go.Proofs.YtkklofnabmdmfaaGreatDoor

/- IndexRuns: whatever is done, with however many buckets, it answers as a list of pairs would: the walk of the law. -/
namespace Go.Proofs.YtkklofnabmdmfaaGreatDoor
open Go.RowKit
set_option linter.unusedVariables false

theorem ix_sorted {x : Ix} (h : IxOk x) : ∃ m : List Pr, m.Perm x.bs.flatten ∧ m.Pairwise fun a b => ¬ cmpS b.k a.k < 0 := by
  refine ⟨x.bs.flatten.mergeSort fun a b => decide (¬ cmpS b.k a.k < 0), List.mergeSort_perm _ _, ?_⟩
  have hs := List.pairwise_mergeSort (le := fun a b : Pr => decide (¬ cmpS b.k a.k < 0)) (fun a b c h1 h2 => by
    simp only [decide_eq_true_eq] at *
    intro h3
    rcases lt_tri c.k b.k with h4 | h4 | h4
    · exact h2 h4
    · rw [h4] at h3; exact h1 h3
    · exact h1 (cmpS_trans h4 h3)) (fun a b => by
    simp only [Bool.or_eq_true, decide_eq_true_eq]
    by_cases h1 : cmpS b.k a.k < 0
    · exact .inr (lt_asymm h1)
    · exact .inl h1) x.bs.flatten
  exact hs.imp fun {a b} h => by simpa using h
/-- An index and a map that answer alike have one size. -/
theorem ix_len {x : Ix} {r : List Pr} (h : IxOk x) (hr : Rises r) (hg : ∀ key, getX x key = getT r key) : x.n = r.length := by
  obtain ⟨m, hp, hs⟩ := ix_sorted h
  obtain ⟨h1, h2, h3⟩ := sorted_map h hp hs
  rw [← h3, rises_ext h1 hr (fun key => (h2 key).trans (hg key))]

/-- An index and a map that answer alike. -/
structure Twin (x : Ix) (r : List Pr) : Prop where
  ok : IxOk x
  rises : Rises r
  get : ∀ key, getX x key = getT r key
  len : x.bs.length ≤ 1024
theorem Twin.put {x : Ix} {r : List Pr} (h : Twin x r) (k v : ByteArray) : Twin (putX x k v) (putT r k v) :=
  ⟨h.ok.put k v, rises_putT h.rises k v, fun key => by rw [getX_put h.ok, getT_putT h.rises, h.get], by rw [putX_len]; exact h.len⟩
theorem Twin.n {x : Ix} {r : List Pr} (h : Twin x r) : x.n = r.length := ix_len h.ok h.rises h.get
theorem Twin.room {x : Ix} {r : List Pr} (h : Twin x r) (hr : r.length ≤ 1000000) : RoomX x := h.ok.room h.len (by rw [h.n]; exact hr)

end Go.Proofs.YtkklofnabmdmfaaGreatDoor
