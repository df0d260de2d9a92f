/- A region that draws its order, of reads and of calls that leave all blocks alone that were: one walk, in the order of the text. -/
import Derived.Test.YtdmdiokfpbmnaaaDoorKit
import Derived.BigQuiet
namespace Go.Proofs.YtdmdiokfpbmnaaaDoor
open Go.RowKit
set_option linter.unusedVariables false

/-- A world behind w: what was in w is as it was. -/
structure After (w : World) where
  w' : World
  m : Mod NoneB w w'
instance (w : World) : Nonempty (After w) := ⟨⟨w, Mod.refl _ _⟩⟩
theorem After.cell {w : World} (p : After w) {a : Addr} {v : Value} (h : w.cell? a = some v) : p.w'.cell? a = some v := p.m.cell0 h
theorem wp_region_after {P : Program} {id : Nat} {Q : Exit → Act → World → Prop} {a : Act} {w : World} {l : List Oper} (hm : P.follows .mixedOrders = true) (hB : Region.lexB .any l.toArray = true)
    (h : wpQuiet P l.toArray (fun w' => ∃ p : After w, w' = p.w') (fun a' => ∀ w', (∃ p : After w, w' = p.w') → Q .normal a' w') l a) : (Code.region id l.toArray true).wp P Q a w :=
  wp_region_quiet (C := fun w' => ∃ p : After w, w' = p.w') hm hB ⟨⟨w.drew, (Mod.refl NoneB w).drew⟩, rfl⟩ (by simpa using h)
theorem Calls.after {P : Program} {f : FuncId} {args : Array Value} {w : World} {p : After w} {v : Value}
    (h : Calls P f args p.w' fun e w' => e = .returned v ∧ Mod NoneB p.w' w') : Calls P f args p.w' fun e w'' => e = .returned v ∧ ∃ q : After w, w'' = q.w' :=
  h.mono fun _ _ ⟨he, hm⟩ => ⟨he, ⟨_, p.m.then0 hm⟩, rfl⟩
theorem Calls.after_same {P : Program} {f : FuncId} {args : Array Value} {w : World} {p : After w} {v : Value}
    (h : Calls P f args p.w' fun e w' => e = .returned v ∧ w' = p.w') : Calls P f args p.w' fun e w'' => e = .returned v ∧ ∃ q : After w, w'' = q.w' :=
  h.mono fun _ _ ⟨he, hm⟩ => ⟨he, p, hm⟩
end Go.Proofs.YtdmdiokfpbmnaaaDoor

