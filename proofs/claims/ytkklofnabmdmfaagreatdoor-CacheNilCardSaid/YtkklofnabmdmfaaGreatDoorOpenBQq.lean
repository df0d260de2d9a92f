/- Batches: what is told is read back; records as arguments; the statements' own example. -/
import Derived.Deep.Slices
import Derived.Deep.Strs
import Derived.ProofKit
import Derived.OpenShut
import Derived.ShutString
import Derived.ChangeOld
import Derived.Test.YtkklofnabmdmfaaGreatDoorRowQq
import Derived.Test.YtkklofnabmdmfaaGreatDoorNumsQq
import Derived.Test.YtkklofnabmdmfaaGreatDoorTabAQq
import Derived.Test.YtkklofnabmdmfaaGreatDoorDkModQq
import Derived.Test.YtkklofnabmdmfaaGreatDoorBatAQq
import Derived.Test.YtkklofnabmdmfaaGreatDoorDkFsQq
namespace Go.Proofs.YtkklofnabmdmfaaGreatDoor
open Go.RowKit
set_option linter.unusedVariables false

theorem flatMap_part (l : List Part) : l.flatMap encPart = l.map (fun q => Value.slice q.A q.b.length q.c) := by
  induction l with
  | nil => rfl
  | cons q l ih => rw [List.flatMap_cons, ih]; rfl
instance : Inhabited Part := ⟨⟨none, [], 0⟩⟩
/-- Records that were told, as an argument. -/
theorem ListAt.parts {w : World} {v : Value} {N : Nat} {ps : List (List UInt8)} {vs : List Value} (h : ListAt w v N ps vs) (ht : ∀ p ∈ ps, p.length ≤ 140737488355328) :
    ∃ (qs : List Part) (A : Option Addr) (c : Nat), v = .slice A qs.length c ∧ bsOf qs = ps ∧ Rd w 1 A qs.length (qs.flatMap encPart) ∧ qs.length ≤ c ∧ ∀ q ∈ qs, PartOk w q := by
  obtain ⟨A, c, hv, hc, _, hr⟩ := h.own.out
  obtain ⟨g, hg⟩ := Go.Deep.choose_lt (α := Part) (n := ps.length) (p := fun i q => vs[i]? = some (.slice q.A q.b.length q.c) ∧ ps[i]? = some q.b ∧ PartOk w q) (fun i hi => by
    have hi' : i < vs.length := by rw [h.len]; exact hi
    obtain ⟨B, bc, e, h1, _, h2⟩ := (h.byt i hi hi').out
    exact ⟨⟨B, ps[i], bc⟩, by rw [List.getElem?_eq_getElem hi', e], by rw [List.getElem?_eq_getElem hi], h2, h1, ht _ (List.getElem_mem hi)⟩)
  have hl : ((List.range ps.length).map g).length = ps.length := by simp
  refine ⟨(List.range ps.length).map g, A, c, by rw [hl]; exact hv, ?_, ?_, by rw [hl]; exact hc, ?_⟩
  · refine List.ext_getElem? fun i => ?_
    by_cases hi : i < ps.length
    · unfold bsOf
      rw [List.getElem?_map, List.getElem?_map, List.getElem?_range hi, (hg i hi).2.1]
      rfl
    · rw [List.getElem?_eq_none (by unfold bsOf; simp; omega), List.getElem?_eq_none (by omega)]
  · have e : ((List.range ps.length).map g).flatMap encPart = vs := by
      refine List.ext_getElem? fun i => ?_
      rw [show ((List.range ps.length).map g).flatMap encPart = ((List.range ps.length).map g).map (fun q => Value.slice q.A q.b.length q.c) from flatMap_part _]
      by_cases hi : i < ps.length
      · rw [List.getElem?_map, List.getElem?_map, List.getElem?_range hi, (hg i hi).1]
        rfl
      · rw [List.getElem?_eq_none (by simp; omega), List.getElem?_eq_none (by rw [h.len]; omega)]
    rw [e, hl]
    exact hr
  · intro q hq
    obtain ⟨i, hi, rfl⟩ := List.mem_map.1 hq
    exact (hg i (List.mem_range.1 hi)).2.2

end Go.Proofs.YtkklofnabmdmfaaGreatDoor

/- The elements of this program's slices, read from what the row tells of an argument. -/
namespace Go.Proofs.YtkklofnabmdmfaaGreatDoor
open Go.RowKit Go.Deep Go.ChangeShapes Go.WideShapes
set_option linter.unusedVariables false

instance : Inhabited Pr := ⟨⟨⟨#[]⟩, ⟨#[]⟩⟩⟩
instance : Inhabited Op3 := ⟨⟨false, ⟨#[]⟩, ⟨#[]⟩⟩⟩
section
variable {H : Type} {enc : TypeId × Value → H} {w : World} {spare : Nat → Bool} {held : Bool}
end
end Go.Proofs.YtkklofnabmdmfaaGreatDoor

/- Numbers, bytes and plans, read from what the row tells of an argument. -/
namespace Go.Proofs.YtkklofnabmdmfaaGreatDoor
open Go.RowKit Go.Deep Go.ChangeShapes Go.WideShapes
set_option linter.unusedVariables false

section
variable {H : Type} {enc : TypeId × Value → H} {w : World} {spare : Nat → Bool} {held : Bool}
end
end Go.Proofs.YtkklofnabmdmfaaGreatDoor

/- Slices of elements that hold slices themselves: plans, acts on a disk, texts, batches. -/
namespace Go.Proofs.YtkklofnabmdmfaaGreatDoor
open Go.RowKit Go.Deep Go.ChangeShapes Go.WideShapes
set_option linter.unusedVariables false

/-- A plan as it came in. -/
structure PlV where
  p : Pl
  F : Option Addr
  K : Option Addr
  fc : Nat
  kc : Nat
instance : Inhabited PlV := ⟨⟨default, none, none, 0, 0⟩⟩
/-- An act on a disk, as it came in. -/
structure ActV where
  act : Int
  name : ByteArray
  nto : ByteArray
  b : List UInt8
  B : Option Addr
  bc : Nat
  n : Int
  p : PlV
instance : Inhabited ActV := ⟨⟨0, ⟨#[]⟩, ⟨#[]⟩, [], none, 0, 0, default⟩⟩

section
variable {P : Program} {H : Type} {enc : TypeId × Value → H} {w : World} {spare : Nat → Bool} {held : Bool}
end
section
variable {H : Type} {enc : TypeId × Value → H} {w : World} {spare : Nat → Bool} {held : Bool}
end
end Go.Proofs.YtkklofnabmdmfaaGreatDoor

/- Rows of rows of ops, and of bytes, as they come in. -/
namespace Go.Proofs.YtkklofnabmdmfaaGreatDoor
open Go.RowKit Go.Deep Go.ChangeShapes Go.WideShapes
set_option linter.unusedVariables false

/-- A batch as it came in. -/
structure OsV where
  l : List Op3
  A : Option Addr
  c : Nat
instance : Inhabited OsV := ⟨⟨[], none, 0⟩⟩
section
variable {P : Program} {H : Type} {enc : TypeId × Value → H} {w : World} {spare : Nat → Bool} {held : Bool}
end
section
variable {H : Type} {enc : TypeId × Value → H} {w : World} {spare : Nat → Bool} {held : Bool}
end
end Go.Proofs.YtkklofnabmdmfaaGreatDoor
