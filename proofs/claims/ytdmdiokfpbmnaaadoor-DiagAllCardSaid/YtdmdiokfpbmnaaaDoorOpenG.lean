/- Diagnostics, read from what the row tells of an argument. -/
import Derived.Test.YtdmdiokfpbmnaaaDoorOpenS
import Derived.Test.YtdmdiokfpbmnaaaDoorDgP
namespace Go.Proofs.YtdmdiokfpbmnaaaDoor
open Go.RowKit Go.Deep Go.ChangeShapes Go.WideShapes
set_option linter.unusedVariables false

section
variable {H : Type} {enc : TypeId × Value → H} {w : World} {spare : Nat → Bool} {held : Bool}
set_option maxRecDepth 100000 in
theorem elD (n : Nat) (cs : List Value) (y : DataW H × List MemPlace) (h : DataW.trod enc Tryd.prog w 0 spare held n 27 cs = some y) (hl : cs.length = 4) : ∃ d : Dg, cs = encD d ∧ OkD d := by
  obtain ⟨xs, m, _, _, _, hxl, hfs⟩ := DataW.trod_struct Tryd.underlying27 h
  match cs, hl, xs, hxl with
  | [v0, v1, v2, v3], _, [y0, y1, y2, y3], _ =>
    obtain ⟨s0, e0, _⟩ := DataW.trod_string (t := 9) Tryd.underlying9 (hfs 0 _ rfl)
    obtain ⟨a, e1, _, ha⟩ := DataW.trod_int (t := 3) Tryd.underlying3 (hfs 1 _ rfl)
    obtain ⟨c, e2, _, hc⟩ := DataW.trod_int (t := 3) Tryd.underlying3 (hfs 2 _ rfl)
    obtain ⟨s3, e3, _⟩ := DataW.trod_string (t := 9) Tryd.underlying9 (hfs 3 _ rfl)
    have e0' : [v0] = [.string s0] := e0
    have e1' : [v1] = [.int .i64 a] := e1
    have e2' : [v2] = [.int .i64 c] := e2
    have e3' : [v3] = [.string s3] := e3
    simp only [List.cons.injEq, and_true] at e0' e1' e2' e3'
    refine ⟨⟨s0, a, c, s3⟩, by rw [e0', e1', e2', e3']; rfl, ?_, ?_⟩
    · simp [Lit.wf] at ha
      exact ha
    · simp [Lit.wf] at hc
      exact hc
theorem rd_diags {A : Option Addr} {n c fuel : Nat} {x : DataW H × List MemPlace} (h : DataW.trod enc Tryd.prog w 0 spare held fuel 22 [.slice A n c] = some x) :
    ∃ l : List Dg, l.length = n ∧ n ≤ c ∧ c ≤ maxLen ∧ Rd w 4 A n (l.flatMap encD) ∧ ∀ x ∈ l, OkD x :=
  rd_openQ encD 4 (fun _ => rfl) OkD Tryd.underlying22 (by kernel_rfl) elD h
end
end Go.Proofs.YtdmdiokfpbmnaaaDoor

