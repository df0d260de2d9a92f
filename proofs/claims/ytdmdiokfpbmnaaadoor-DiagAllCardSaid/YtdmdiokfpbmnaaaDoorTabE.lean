/- table.Encode, table.Decode. -/
import Derived.Test.YtdmdiokfpbmnaaaDoorConvR
import Derived.Test.YtdmdiokfpbmnaaaDoorCodec
import Derived.Test.YtdmdiokfpbmnaaaDoorTabA
import Derived.Test.YtdmdiokfpbmnaaaDoorFind
import Derived.Test.YtdmdiokfpbmnaaaDoorRow
import Derived.StillTailTactics
import Derived.WalkSpells
import Derived.WalkLawsBesides
namespace Go.Proofs.YtdmdiokfpbmnaaaDoor
open Go.RowKit
set_option linter.unusedVariables false

theorem frameRr_eq (p : List UInt8) : frameRr p = frameR p := rfl
end Go.Proofs.YtdmdiokfpbmnaaaDoor

/- table.Decode. -/
namespace Go.Proofs.YtdmdiokfpbmnaaaDoor
open Go.RowKit
set_option linter.unusedVariables false

/-- Pairs that are told, or that there are none. -/
def errP (r : Option (List Pr)) : Nat := if r.isSome then 0 else 2
theorem fromT_not1 {b : List UInt8} (h : (scanB b).length ≠ 1) : fromT b = none := by
  unfold fromT
  match hs : scanB b with
  | [] => rfl
  | [p] => rw [hs] at h; exact absurd rfl h
  | _ :: _ :: _ => rfl
theorem fromT_notLen {b p : List UInt8} (h : scanB b = [p]) (hl : 8 + p.length ≠ b.length) : fromT b = none := by
  unfold fromT
  rw [h]
  exact if_neg hl

end Go.Proofs.YtdmdiokfpbmnaaaDoor

/- How many bytes pairs take. No walk stands here. -/
namespace Go.Proofs.YtdmdiokfpbmnaaaDoor
set_option linter.unusedVariables false

/-- How many bytes pairs take, at most. -/
def wS (l : List Pr) : Nat := (l.map fun p => 8 + p.k.size + p.v.size).sum
theorem wS_append (a b : List Pr) : wS (a ++ b) = wS a + wS b := by unfold wS; rw [List.map_append, List.sum_append]
theorem wS_drop (l : List Pr) (i : Nat) : wS (l.take i) + wS (l.drop i) = wS l := by rw [← wS_append, List.take_append_drop]
theorem wS_drop_le (l : List Pr) (i j : Nat) (h : i ≤ j) : wS (l.drop j) ≤ wS (l.drop i) := by
  have e : l.drop j = (l.drop i).drop (j - i) := by rw [List.drop_drop]; congr 1; omega
  rw [e]
  have := wS_drop (l.drop i) (j - i)
  omega
theorem wS_put (l : List Pr) (k v : ByteArray) : wS (putT l k v) ≤ wS l + (8 + k.size + v.size) := by
  unfold putT
  rw [wS_append]
  have e : ∀ r : List Pr, wS (⟨k, v⟩ :: r) = (8 + k.size + v.size) + wS r := fun r => rfl
  rw [e]
  have h1 := wS_drop l (lb l k)
  have h2 := wS_drop_le l (lb l k) (if hitB l k then lb l k + 1 else lb l k) (by split <;> omega)
  omega
theorem wS_foldput (l : List Pr) : ∀ m : List Pr, wS (l.foldl (fun m p => putT m p.k p.v) m) ≤ wS m + wS l := by
  induction l with
  | nil => intro m; exact Nat.le_refl _
  | cons p l ih =>
    intro m
    have h1 := ih (putT m p.k p.v)
    have h2 := wS_put m p.k p.v
    have e : wS (p :: l) = (8 + p.k.size + p.v.size) + wS l := rfl
    rw [List.foldl_cons, e]
    omega
theorem wS_apply0 (l : List Pr) : wS (applyT l []) ≤ wS l := by
  unfold applyT
  rw [List.foldl_nil]
  split
  · exact Nat.le_refl _
  · have := wS_foldput l []
    unfold normT
    have e : wS [] = 0 := rfl
    omega
theorem wS_great (l : List Pr) : wtP l ≤ 3000 → wS l ≤ 8 * wtP l := by
  induction l with
  | nil => intro _; exact Nat.le_refl _
  | cons p l ih =>
    intro h
    have e : wtP (p :: l) = wtPE p + wtP l := rfl
    have e2 : wS (p :: l) = (8 + p.k.size + p.v.size) + wS l := rfl
    rw [e] at h ⊢
    rw [e2]
    have h2 := ih (by omega)
    unfold wtPE at h ⊢
    omega
theorem wS_mem {l : List Pr} {p : Pr} (h : p ∈ l) : 8 + p.k.size + p.v.size ≤ wS l := by
  induction l with
  | nil => cases h
  | cons q l ih =>
    have e : wS (q :: l) = (8 + q.k.size + q.v.size) + wS l := rfl
    rw [e]
    rcases List.mem_cons.1 h with rfl | h
    · omega
    · have := ih h; omega
theorem wS_len (l : List Pr) : l.length * 8 ≤ wS l := by
  induction l with
  | nil => simp
  | cons q l ih =>
    have e : wS (q :: l) = (8 + q.k.size + q.v.size) + wS l := rfl
    rw [e, List.length_cons, Nat.add_mul]
    omega
theorem wS_small {l : List Pr} (h : wS l ≤ 24000) : SmallP l ∧ (encL (tabT l)).length ≤ 24004 := by
  refine ⟨⟨by have := wS_len l; omega, fun p hp => by have := wS_mem hp; omega⟩, ?_⟩
  have := tabT_bytes l
  unfold wS at h
  omega
theorem tableR_ok {l : List Pr} (hr : Rises l) (h : wS l ≤ 24000) : tableR l = (frameB (encL (tabT l)), 0) := by
  have h1 : tableR l = frameR (encL (tabT l)) := if_pos hr
  rw [h1]
  exact frameR_ok (by have := (wS_small h).2; omega)

end Go.Proofs.YtdmdiokfpbmnaaaDoor

