/- The elements of this program's slices, read from what the row tells of an argument. -/
import Derived.Test.YtaldneffhbgepaaDoorRead
import Derived.Test.YtaldneffhbgepaaDoorTabA
import Derived.Deep.Strs
namespace Go.Proofs.YtaldneffhbgepaaDoor
open Go.RowKit Go.Deep Go.ChangeShapes Go.WideShapes
set_option linter.unusedVariables false

instance : Inhabited Pr := ⟨⟨⟨#[]⟩, ⟨#[]⟩⟩⟩
instance : Inhabited Op3 := ⟨⟨false, ⟨#[]⟩, ⟨#[]⟩⟩⟩
section
variable {H : Type} {enc : TypeId × Value → H} {w : World} {spare : Nat → Bool} {held : Bool}
set_option maxRecDepth 100000 in
theorem elO (n : Nat) (cs : List Value) (y : DataW H × List MemPlace) (h : DataW.trod enc Tryd.prog w 0 spare held n 67 cs = some y) (hl : cs.length = 3) : ∃ o : Op3, cs = encO o := by
  obtain ⟨y0, y1, y2, m, _, _, h0, h1, h2⟩ := trod_struct3 Tryd.underlying67 h
  match cs, hl with
  | [v0, v1, v2], _ =>
    obtain ⟨b, e0, _⟩ := DataW.trod_bool (t := 4) Tryd.underlying4 h0
    obtain ⟨s1, e1, _⟩ := DataW.trod_string (t := 9) Tryd.underlying9 h1
    obtain ⟨s2, e2, _⟩ := DataW.trod_string (t := 9) Tryd.underlying9 h2
    have e0' : [v0] = [.bool b] := e0
    have e1' : [v1] = [.string s1] := e1
    have e2' : [v2] = [.string s2] := e2
    simp only [List.cons.injEq, and_true] at e0' e1' e2'
    exact ⟨⟨b, s1, s2⟩, by rw [e0', e1', e2']; rfl⟩
theorem rd_ops {A : Option Addr} {n c fuel : Nat} {x : DataW H × List MemPlace} (h : DataW.trod enc Tryd.prog w 0 spare held fuel 22 [.slice A n c] = some x) :
    ∃ l : List Op3, l.length = n ∧ n ≤ c ∧ c ≤ maxLen ∧ Rd w 3 A n (encOs l) :=
  rd_open encO 3 (fun _ => rfl) Tryd.underlying22 (by kernel_rfl) elO h
end
end Go.Proofs.YtaldneffhbgepaaDoor

