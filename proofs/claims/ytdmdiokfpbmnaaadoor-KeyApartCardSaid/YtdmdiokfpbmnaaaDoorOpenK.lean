/- Texts, truths and rows of bytes, read from what the row tells of an argument. -/
import Derived.Test.YtdmdiokfpbmnaaaDoorOpenB
import Derived.Test.YtdmdiokfpbmnaaaDoorKyW
namespace Go.Proofs.YtdmdiokfpbmnaaaDoor
open Go.RowKit Go.Deep Go.ChangeShapes Go.WideShapes
set_option linter.unusedVariables false

section
variable {H : Type} {enc : TypeId × Value → H} {w : World} {spare : Nat → Bool} {held : Bool}
theorem elT (n : Nat) (cs : List Value) (y : DataW H × List MemPlace) (h : DataW.trod enc Tryd.prog w 0 spare held n 9 cs = some y) (hl : cs.length = 1) : ∃ s : ByteArray, cs = encT s := by
  obtain ⟨s, e, _⟩ := DataW.trod_string (t := 9) Tryd.underlying9 h
  exact ⟨s, e⟩
theorem elH (n : Nat) (cs : List Value) (y : DataW H × List MemPlace) (h : DataW.trod enc Tryd.prog w 0 spare held n 4 cs = some y) (hl : cs.length = 1) : ∃ z : Bool, cs = [.bool z] := by
  obtain ⟨z, e, _⟩ := DataW.trod_bool (t := 4) Tryd.underlying4 h
  exact ⟨z, e⟩
theorem rd_strings {A : Option Addr} {n c fuel : Nat} {x : DataW H × List MemPlace} (h : DataW.trod enc Tryd.prog w 0 spare held fuel 40 [.slice A n c] = some x) :
    ∃ l : List ByteArray, l.length = n ∧ n ≤ c ∧ c ≤ maxLen ∧ Rd w 1 A n (encTs l) :=
  rd_open encT 1 (fun _ => rfl) Tryd.underlying40 (by kernel_rfl) elT h
theorem rd_bools {A : Option Addr} {n c fuel : Nat} {x : DataW H × List MemPlace} (h : DataW.trod enc Tryd.prog w 0 spare held fuel 42 [.slice A n c] = some x) :
    ∃ l : List Bool, l.length = n ∧ n ≤ c ∧ c ≤ maxLen ∧ Rd w 1 A n (encH l) := by
  obtain ⟨l, h1, h2, h3, h4⟩ := rd_open (fun z : Bool => [Value.bool z]) 1 (fun _ => rfl) Tryd.underlying42 (by kernel_rfl) elH h
  exact ⟨l, h1, h2, h3, by rw [flatMap_one] at h4; exact h4⟩
end
end Go.Proofs.YtdmdiokfpbmnaaaDoor

