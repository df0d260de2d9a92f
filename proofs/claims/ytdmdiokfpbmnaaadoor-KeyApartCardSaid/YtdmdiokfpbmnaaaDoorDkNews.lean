/- A disk's New. -/
import Derived.Test.YtdmdiokfpbmnaaaDoorDkOpsA
namespace Go.Proofs.YtdmdiokfpbmnaaaDoor
open Go.RowKit
set_option linter.unusedVariables false

/-- A plan as a value. -/
def plV (p : Pl) (FA KA : Value) : Value := .agg #[.int .i64 p.cap, FA, .int .i64 p.crash, .bool p.done, KA]

end Go.Proofs.YtdmdiokfpbmnaaaDoor

/- A disk's New, Calls, Down, Read. -/
namespace Go.Proofs.YtdmdiokfpbmnaaaDoor
open Go.RowKit
set_option linter.unusedVariables false




end Go.Proofs.YtdmdiokfpbmnaaaDoor

/- A disk's Restart. -/
namespace Go.Proofs.YtdmdiokfpbmnaaaDoor
open Go.RowKit
set_option linter.unusedVariables false

def restTo (keep : List Int) (fs : List Fl) (j : Nat) : List Fl := (fs.mapIdx (restF keep)).take j ++ fs.drop j
theorem restTo_length (keep : List Int) (fs : List Fl) (j : Nat) (h : j ≤ fs.length) : (restTo keep fs j).length = fs.length := by unfold restTo; simp; omega
theorem restTo_get (keep : List Int) (fs : List Fl) (j : Nat) (h : j < fs.length) : (restTo keep fs j).getD j default = fs[j] := by
  unfold restTo
  rw [List.getD_eq_getElem?_getD, List.getElem?_append_right (by simp; omega)]
  simp [Nat.min_eq_left (Nat.le_of_lt h), h]
theorem restTo_set (keep : List Int) (fs : List Fl) (j : Nat) (h : j < fs.length) : (restTo keep fs j).set j (restF keep j fs[j]) = restTo keep fs (j + 1) := by
  unfold restTo
  rw [List.set_append_right _ _ (by simp; omega)]
  have e : j - ((fs.mapIdx (restF keep)).take j).length = 0 := by simp; omega
  rw [e, List.drop_eq_getElem_cons h, List.set_cons_zero, List.take_succ_eq_append_getElem (by simpa using h)]
  simp
theorem restTo_end (keep : List Int) (fs : List Fl) : restTo keep fs fs.length = fs.mapIdx (restF keep) := by unfold restTo; rw [List.drop_length, List.append_nil]; exact List.take_of_length_le (by simp)
theorem restTo_zero (keep : List Int) (fs : List Fl) : restTo keep fs 0 = fs := by unfold restTo; simp

theorem Foot.set_iff {p : Nat} {row FA KA : Value} {es : List Ent} {i : Nat} (hi : i < es.length) {e' : Ent} (hg : e'.g = es[i].g) (hv : e'.v.ownBlock = es[i].v.ownBlock) (k : Nat) : Foot p row (es.set i e') FA KA k ↔ Foot p row es FA KA k := by
  have h : (∃ e ∈ es.set i e', e.g = k ∨ e.v.ownBlock = some k) ↔ ∃ e ∈ es, e.g = k ∨ e.v.ownBlock = some k := by
    constructor
    · rintro ⟨e, he, hk⟩
      rcases List.mem_or_eq_of_mem_set he with he | rfl
      · exact ⟨e, he, hk⟩
      · exact ⟨es[i], List.getElem_mem _, by rw [← hg, ← hv]; exact hk⟩
    · rintro ⟨e, he, hk⟩
      obtain ⟨j, hj, rfl⟩ := List.getElem_of_mem he
      by_cases hij : i = j
      · subst hij
        exact ⟨e', List.mem_set hi e', by rw [hg, hv]; exact hk⟩
      · refine ⟨es[j], ?_, hk⟩
        rw [List.mem_iff_getElem]
        exact ⟨j, by simpa using hj, by rw [List.getElem_set_ne hij]⟩
  unfold Foot
  rw [h]


theorem usedF_restTo_le (keep : List Int) (fs : List Fl) : ∀ f ∈ fs.mapIdx (restF keep), ∃ g ∈ fs, f.b.length ≤ g.b.length := by
  intro f hf
  rw [List.mem_mapIdx] at hf
  obtain ⟨i, hi, rfl⟩ := hf
  refine ⟨fs[i], List.getElem_mem _, ?_⟩
  unfold restF
  simp only
  split
  · rw [List.length_take]; omega
  · omega

end Go.Proofs.YtdmdiokfpbmnaaaDoor

