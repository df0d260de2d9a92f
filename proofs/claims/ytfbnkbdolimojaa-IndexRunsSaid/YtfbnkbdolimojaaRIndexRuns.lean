/- The row of IndexRuns, by program (gen/row.py). -/
import Derived.Test.YtfbnkbdolimojaaRows
import Derived.Test.YtfbnkbdolimojaaIxR
import Derived.Test.YtfbnkbdolimojaaOpenI
import Derived.Test.YtfbnkbdolimojaaFacts
namespace Go.Proofs.Ytfbnkbdolimojaa.RIndexRuns
open Go.ChangeShapes Go.WideShapes Go.ChangeAt Go.RowKit
open Go.ChangeMaps (open_string shut_string)
set_option linter.unusedVariables false

theorem i1 : (Rows.indexRunsRow.inPlace == Try.prog.inPlace 5) = true := by kernel_rfl
theorem i2 : (Rows.indexRunsRow.unfollowed == Try.prog.unfollowed 5) = true := by kernel_rfl
theorem i3 : (Rows.indexRunsRow.recurses == Try.prog.recurses 5) = true := by kernel_rfl
theorem i4 : (Rows.indexRunsRow.named == Try.prog.varsNamed 5) = true := by kernel_rfl
theorem closed : joinedFacts Try.prog 5 Try.f5 Rows.indexRunsSpec Rows.indexRunsRow = true :=
  joined_of factLaid factMaps factStops factKnobs factHeard factEnter i1 i2 i3 i4 (by kernel_rfl) (by kernel_rfl) (by kernel_rfl) (by kernel_rfl) (by kernel_rfl)

set_option maxRecDepth 100000 in
theorem lifted (os : Os) (started : os.Started) (H : Type) (enc : TypeId × Value → H) :
    ReturnsInHanded {} Try.checked os 5 .any (Rows.indexRunsSpec.pre6 enc Try.prog Try.f5 Rows.indexRunsRow.domain false) (Rows.indexRunsSpec.post enc Try.prog Try.f5 false true false false) := by
  refine returnsInHanded_of_change (C := Try.checked) factOwn started (by kernel_rfl) Try.func5
    (ChangeSpec.witness6 (enc := enc) (C := Try.checked) false ⟨#[], #[.int .i64 0, .slice none 0 0], []⟩ 8 (by kernel_rfl) (by kernel_rfl) (by kernel_rfl) (by kernel_rfl)) ?_
  intro W base args ds gs before hval0 hW hcnd _
  have hval : ∀ (j : Nat) t v, Try.f5.params[j]? = some t → args[j]? = some v → Value.okWide Try.prog W .any base t v := hval0
  have hW' := hW
  obtain ⟨p, q, hA0, hV, rfl, hfz, hnd⟩ := hW
  have hA : DataW.TrodAll enc Try.prog W 0 (fun _ => true) true Try.f5.params.toList args.toList ds p := hA0
  rw [Try.params5] at hA hval
  obtain ⟨v0, vs0, d0, ds0, p0, q0, hargs, rfl, rfl, h0, r0⟩ := trodAll_cons hA
  obtain ⟨v1, vs1, d1, ds1, p1, q1, rfl, rfl, rfl, h1, r1⟩ := trodAll_cons r0
  obtain ⟨rfl, rfl, rfl⟩ := trodAll_nil r1
  obtain rfl : args = #[v0, v1] := by cases args; simp_all
  obtain ⟨rfl, rfl⟩ := trodVars_none hV
  obtain ⟨z0, rfl, rfl, rfl, wz0⟩ := open_int Try.underlying3 (hval 0 3 v0 rfl rfl) h0
  obtain ⟨a1, n1, c1, rfl⟩ := okWide_slice Try.underlying61 (hval 1 61 v1 rfl rfl)
  have k1 := h1
  have lt1 : ∀ x ∈ p1, x.block < W.heap.size := by obtain ⟨m, hm⟩ := k1; exact DataW.trod_lt m _ _ _ hm
  obtain ⟨l1, rfl, lc1, cm1, rd1⟩ := (by obtain ⟨fuel, hf⟩ := h1; exact rd_acts9 hf : ∃ l : List Act9, l.length = n1 ∧ n1 ≤ c1 ∧ c1 ≤ maxLen ∧ Rd W 3 a1 n1 (List.flatMap encA9 l))
  clear hA0 hval0
  have walked : Calls Try.prog 5 #[.int .i64 z0, .slice a1 l1.length c1] W fun e w' => e = .returned (.bool true) ∧ Mod NoneB W w' := by apply indexRuns_walk <;> assumption
  refine walked.mono fun e W' ⟨he, bel0⟩ => ?_
  have bel : Below W.heap.size W W' := bel0.below (fun _ _ h => h) (Nat.le_refl _)
  subst he
  exact ⟨_, rfl, _, _, _, [], _, [], hW', trodAll_mk1 (shut_bool Try.underlying4 _), (trodAll_cons_mk (shut_int Try.underlying3 wz0) (trodAll_cons_mk (Below.trod factLaid (by kernel_rfl) (of_decide_eq_true (by kernel_rfl)) k1 bel lt1) trodAll_mk0)), rfl, bel.frame _, fun h => by cases h⟩

theorem over : Rows.indexRunsRow.holds Try.pinned (OpenSpec.ofChange Rows.indexRunsSpec) :=
  OpenClaim.holds_of_wide 5 Try.f5 rfl rfl rfl rfl rfl rfl rfl ⟨rfl, rfl, rfl, rfl, rfl⟩ rfl rfl rfl rfl rfl (by kernel_rfl) Try.func5 closed
    (of_decide_eq_true (by kernel_rfl)) (by unfold Func.isWrapper; first | (rw [if_pos (by decide +kernel)]; kernel_rfl) | (rw [if_neg (by decide +kernel)]; exact ⟨rfl, rfl⟩))
    (fun os started H enc _ => lifted os started H enc)

theorem proved : Rows.IndexRunsSaid := over
#print axioms proved
end Go.Proofs.Ytfbnkbdolimojaa.RIndexRuns
