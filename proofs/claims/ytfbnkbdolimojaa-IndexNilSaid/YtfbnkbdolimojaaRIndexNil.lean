/- The row of IndexNil, by program (gen/row.py). -/
import Derived.Test.YtfbnkbdolimojaaRows
import Derived.Test.YtfbnkbdolimojaaIxNil
import Derived.Test.YtfbnkbdolimojaaOpen
import Derived.Test.YtfbnkbdolimojaaFacts
namespace Go.Proofs.Ytfbnkbdolimojaa.RIndexNil
open Go.ChangeShapes Go.WideShapes Go.ChangeAt Go.RowKit
open Go.ChangeMaps (open_string shut_string)
set_option linter.unusedVariables false

theorem i1 : (Rows.indexNilRow.inPlace == Try.prog.inPlace 7) = true := by kernel_rfl
theorem i2 : (Rows.indexNilRow.unfollowed == Try.prog.unfollowed 7) = true := by kernel_rfl
theorem i3 : (Rows.indexNilRow.recurses == Try.prog.recurses 7) = true := by kernel_rfl
theorem i4 : (Rows.indexNilRow.named == Try.prog.varsNamed 7) = true := by kernel_rfl
theorem closed : joinedFacts Try.prog 7 Try.f7 Rows.indexNilSpec Rows.indexNilRow = true :=
  joined_of factLaid factMaps factStops factKnobs factHeard factEnter i1 i2 i3 i4 (by kernel_rfl) (by kernel_rfl) (by kernel_rfl) (by kernel_rfl) (by kernel_rfl)

set_option maxRecDepth 100000 in
theorem lifted (os : Os) (started : os.Started) (H : Type) (enc : TypeId × Value → H) :
    ReturnsInHanded {} Try.checked os 7 .any (Rows.indexNilSpec.pre6 enc Try.prog Try.f7 Rows.indexNilRow.domain false) (Rows.indexNilSpec.post enc Try.prog Try.f7 false true false false) := by
  refine returnsInHanded_of_change (C := Try.checked) factOwn started (by kernel_rfl) Try.func7
    (ChangeSpec.witness6 (enc := enc) (C := Try.checked) false ⟨#[], #[.string ⟨#[]⟩], []⟩ 8 (by kernel_rfl) (by kernel_rfl) (by kernel_rfl) (by kernel_rfl)) ?_
  intro W base args ds gs before hval0 hW hcnd _
  have hval : ∀ (j : Nat) t v, Try.f7.params[j]? = some t → args[j]? = some v → Value.okWide Try.prog W .any base t v := hval0
  have hW' := hW
  obtain ⟨p, q, hA0, hV, rfl, hfz, hnd⟩ := hW
  have hA : DataW.TrodAll enc Try.prog W 0 (fun _ => true) true Try.f7.params.toList args.toList ds p := hA0
  rw [Try.params7] at hA hval
  obtain ⟨v0, vs0, d0, ds0, p0, q0, hargs, rfl, rfl, h0, r0⟩ := trodAll_cons hA
  obtain ⟨rfl, rfl, rfl⟩ := trodAll_nil r0
  obtain rfl : args = #[v0] := by cases args; simp_all
  obtain ⟨rfl, rfl⟩ := trodVars_none hV
  obtain ⟨s0, rfl, rfl, rfl, ws0⟩ := open_string Try.underlying9 (hval 0 9 v0 rfl rfl) h0
  clear hA0 hval0
  have walked : Calls Try.prog 7 #[.string s0] W fun e w' => e = .returned (.bool true) ∧ Mod NoneB W w' := by apply indexNil_walk <;> assumption
  refine walked.mono fun e W' ⟨he, bel0⟩ => ?_
  have bel : Below W.heap.size W W' := bel0.below (fun _ _ h => h) (Nat.le_refl _)
  subst he
  exact ⟨_, rfl, _, _, _, [], _, [], hW', trodAll_mk1 (shut_bool Try.underlying4 _), (trodAll_cons_mk (shut_string Try.underlying9 ws0) trodAll_mk0), rfl, bel.frame _, fun h => by cases h⟩

theorem over : Rows.indexNilRow.holds Try.pinned (OpenSpec.ofChange Rows.indexNilSpec) :=
  OpenClaim.holds_of_wide 7 Try.f7 rfl rfl rfl rfl rfl rfl rfl ⟨rfl, rfl, rfl, rfl, rfl⟩ rfl rfl rfl rfl rfl (by kernel_rfl) Try.func7 closed
    (of_decide_eq_true (by kernel_rfl)) (by unfold Func.isWrapper; first | (rw [if_pos (by decide +kernel)]; kernel_rfl) | (rw [if_neg (by decide +kernel)]; exact ⟨rfl, rfl⟩))
    (fun os started H enc _ => lifted os started H enc)

theorem proved : Rows.IndexNilSaid := over
#print axioms proved
end Go.Proofs.Ytfbnkbdolimojaa.RIndexNil
