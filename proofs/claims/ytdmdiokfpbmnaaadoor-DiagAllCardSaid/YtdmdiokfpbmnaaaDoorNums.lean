/- Slices of numbers and of bytes: how they lie; slices.Clone, Index, Contains at them. -/
import Derived.Test.YtdmdiokfpbmnaaaDoorPtrsFind
import Derived.Test.YtdmdiokfpbmnaaaDoorRow
import Derived.StillTailTactics
import Derived.WalkSpells
import Derived.WalkLawsBesides
namespace Go.Proofs.YtdmdiokfpbmnaaaDoor
open Go.RowKit
set_option linter.unusedVariables false

def encI (l : List Int) : List Value := l.map fun z => .int .i64 z
def encB (l : List UInt8) : List Value := l.map fun z => .int .u8 z.toNat
theorem encI_length (l : List Int) : (encI l).length = l.length := by simp [encI]
theorem encB_length (l : List UInt8) : (encB l).length = l.length := by simp [encB]
theorem encI_length1 (l : List Int) : (encI l).length = l.length * 1 := by simp [encI]
theorem encB_length1 (l : List UInt8) : (encB l).length = l.length * 1 := by simp [encB]
theorem encI_one (l : List Int) : ∀ u ∈ encI l, u.oneCell' = true := by
  intro u hu
  unfold encI at hu
  obtain ⟨x, _, rfl⟩ := List.mem_map.1 hu
  rfl
theorem encB_one (l : List UInt8) : ∀ u ∈ encB l, u.oneCell' = true := by
  intro u hu
  unfold encB at hu
  obtain ⟨x, _, rfl⟩ := List.mem_map.1 hu
  rfl
theorem encB_append (a b : List UInt8) : encB (a ++ b) = encB a ++ encB b := by simp [encB]
theorem tiI : TI Tryd.prog 3 (.int .i64 0) 1 8 := by unfold TI; kernel_rfl
theorem tiB : TI Tryd.prog 5 (.int .u8 0) 1 1 := by unfold TI; kernel_rfl

theorem Rd.ints {w : World} {A : Option Addr} {n : Nat} {l : List Int} (h : Rd w 1 A n (encI l)) (i : Nat) (hi : i < l.length) : ∃ ad, A = some ad ∧ w.cell? (ad.add i) = some (.int .i64 l[i]) := by
  have hl : l.length = n := by have := h.1; rw [encI_length] at this; omega
  obtain ⟨ad, e, hc⟩ := h.2.2 (by omega)
  exact ⟨ad, e, hc _ _ (by simp [encI, hi])⟩
theorem Rd.bytes {w : World} {A : Option Addr} {n : Nat} {l : List UInt8} (h : Rd w 1 A n (encB l)) (i : Nat) (hi : i < l.length) : ∃ ad, A = some ad ∧ w.cell? (ad.add i) = some (.int .u8 l[i].toNat) := by
  have hl : l.length = n := by have := h.1; rw [encB_length] at this; omega
  obtain ⟨ad, e, hc⟩ := h.2.2 (by omega)
  exact ⟨ad, e, hc _ _ (by simp [encB, hi])⟩



/-- The place of a number among others; -1: it is not there. -/
def idxI (l : List Int) (x : Int) : Int := match l.findIdx? (· == x) with | some i => i | none => -1
theorem idxI_none {l : List Int} {x : Int} (h : x ∉ l) : idxI l x = -1 := by
  unfold idxI
  rw [List.findIdx?_eq_none_iff.2 (fun y hy => by simp; rintro rfl; exact h hy)]
theorem idxI_nonneg (l : List Int) (x : Int) : (0 ≤ idxI l x) ↔ x ∈ l := by
  constructor
  · intro h
    by_cases hm : x ∈ l
    · exact hm
    · rw [idxI_none hm] at h; omega
  · intro h
    unfold idxI
    cases hf : l.findIdx? (· == x) with
    | none => have := List.findIdx?_eq_none_iff.1 hf x h; simp at this
    | some i => simp

end Go.Proofs.YtdmdiokfpbmnaaaDoor

