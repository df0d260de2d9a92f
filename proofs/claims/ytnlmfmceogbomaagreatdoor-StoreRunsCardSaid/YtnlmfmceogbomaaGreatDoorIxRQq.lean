/- Acts on an index as an argument; law 9's heavy: what it lets by. -/
import Derived.Test.YtnlmfmceogbomaaGreatDoorFlatQq
import Derived.Test.YtnlmfmceogbomaaGreatDoorTabAQq
import Derived.Test.YtnlmfmceogbomaaGreatDoorOpenSQq
import Derived.Test.YtnlmfmceogbomaaGreatDoorRefApQq
import Derived.Test.YtnlmfmceogbomaaGreatDoorIxBQq
namespace Go.Proofs.YtnlmfmceogbomaaGreatDoor
open Go.RowKit Go.Deep Go.ChangeShapes Go.WideShapes
set_option linter.unusedVariables false

structure Act9 where
  d : Int
  k : ByteArray
  v : ByteArray
instance : Inhabited Act9 := ⟨⟨0, ⟨#[]⟩, ⟨#[]⟩⟩⟩
section
variable {H : Type} {enc : TypeId × Value → H} {w : World} {spare : Nat → Bool} {held : Bool}
end

def LightI (a : Act9) : Prop := a.k.size ≤ 200 ∧ a.v.size ≤ 200
instance (a : Act9) : Decidable (LightI a) := by unfold LightI; exact inferInstance
end Go.Proofs.YtnlmfmceogbomaaGreatDoor

/- IndexRuns: whatever is done, with however many buckets, it answers as a list of pairs would: the walk of the law. -/
namespace Go.Proofs.YtnlmfmceogbomaaGreatDoor
open Go.RowKit
set_option linter.unusedVariables false

theorem ix_sorted {x : Ix} (h : IxOk x) : ∃ m : List Pr, m.Perm x.bs.flatten ∧ m.Pairwise fun a b => ¬ cmpS b.k a.k < 0 := by
  refine ⟨x.bs.flatten.mergeSort fun a b => decide (¬ cmpS b.k a.k < 0), List.mergeSort_perm _ _, ?_⟩
  have hs := List.pairwise_mergeSort (le := fun a b : Pr => decide (¬ cmpS b.k a.k < 0)) (fun a b c h1 h2 => by
    simp only [decide_eq_true_eq] at *
    intro h3
    rcases lt_tri c.k b.k with h4 | h4 | h4
    · exact h2 h4
    · rw [h4] at h3; exact h1 h3
    · exact h1 (cmpS_trans h4 h3)) (fun a b => by
    simp only [Bool.or_eq_true, decide_eq_true_eq]
    by_cases h1 : cmpS b.k a.k < 0
    · exact .inr (lt_asymm h1)
    · exact .inl h1) x.bs.flatten
  exact hs.imp fun {a b} h => by simpa using h
/-- An index and a map that answer alike have one size. -/
theorem ix_len {x : Ix} {r : List Pr} (h : IxOk x) (hr : Rises r) (hg : ∀ key, getX x key = getT r key) : x.n = r.length := by
  obtain ⟨m, hp, hs⟩ := ix_sorted h
  obtain ⟨h1, h2, h3⟩ := sorted_map h hp hs
  rw [← h3, rises_ext h1 hr (fun key => (h2 key).trans (hg key))]
theorem ix_one {x : Ix} (h : IxOk x) (key : ByteArray) (hk : getT (atB x.bs key) key ≠ none) : 1 ≤ x.n := by
  cases hg : getT (atB x.bs key) key with
  | none => exact absurd hg hk
  | some v =>
    have h1 := (mem_getT (h.once_at key)).1 hg
    have h2 := (mem_flatten h ⟨key, v⟩).2 h1
    rw [h.n]
    exact List.length_pos_of_mem h2
theorem delX_len (x : Ix) (key : ByteArray) : (delX x key).bs.length = x.bs.length := by unfold delX; split <;> simp
theorem apply_put {r : List Pr} (h : Rises r) (k v : ByteArray) : applyT r [⟨false, k, v⟩] = putT r k v := by rw [applyT_rises h]; rfl

/-- An index and a map that answer alike. -/
structure Twin (x : Ix) (r : List Pr) : Prop where
  ok : IxOk x
  rises : Rises r
  get : ∀ key, getX x key = getT r key
  len : x.bs.length ≤ 1024
theorem Twin.put {x : Ix} {r : List Pr} (h : Twin x r) (k v : ByteArray) : Twin (putX x k v) (putT r k v) :=
  ⟨h.ok.put k v, rises_putT h.rises k v, fun key => by rw [getX_put h.ok, getT_putT h.rises, h.get], by rw [putX_len]; exact h.len⟩
theorem Twin.del {x : Ix} {r : List Pr} (h : Twin x r) (k : ByteArray) : Twin (delX x k) (delT r k) :=
  ⟨h.ok.del k, rises_delT h.rises k, fun key => by rw [getX_del h.ok, getT_delT h.rises, h.get], by rw [delX_len]; exact h.len⟩
theorem Twin.n {x : Ix} {r : List Pr} (h : Twin x r) : x.n = r.length := ix_len h.ok h.rises h.get
theorem Twin.room {x : Ix} {r : List Pr} (h : Twin x r) (hr : r.length ≤ 1000000) : RoomX x := h.ok.room h.len (by rw [h.n]; exact hr)

end Go.Proofs.YtnlmfmceogbomaaGreatDoor
