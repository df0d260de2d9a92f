/- The search for a name among files behind pointers (disk's find): what it answers where the names rise. -/
import Derived.Test.YtdmdiokfpbmnaaaDoorFind
namespace Go.Proofs.YtdmdiokfpbmnaaaDoor
open Go.RowKit
set_option linter.unusedVariables false

def encG (g : Nat) : List Value := [.pointer (some ⟨g, 0, none⟩)]
def encGs (l : List Nat) : List Value := l.flatMap encG
theorem encGs_length (l : List Nat) : (encGs l).length = l.length := by
  unfold encGs
  induction l with
  | nil => rfl
  | cons x l ih => rw [List.flatMap_cons, List.length_append, ih, List.length_cons]; simp [encG]; omega
theorem encGs_one (l : List Nat) : ∀ u ∈ encGs l, u.oneCell' = true := by
  intro u hu
  unfold encGs at hu
  obtain ⟨p, _, hu⟩ := List.mem_flatMap.1 hu
  simp [encG] at hu
  subst hu; rfl
theorem encGs_split (l : List Nat) (i : Nat) : encGs l = encGs (l.take i) ++ encGs (l.drop i) := by unfold encGs; rw [← List.flatMap_append, List.take_append_drop]
theorem encGs_get (l : List Nat) (i : Nat) (h : i < l.length) : (encGs l)[i]? = some (.pointer (some ⟨l[i], 0, none⟩)) := by
  unfold encGs
  induction l generalizing i with
  | nil => simp at h
  | cons x l ih =>
    rw [List.flatMap_cons]
    cases i with
    | zero => simp [encG]
    | succ i =>
      have := ih i (by simpa using h)
      simpa [encG] using this
/-- Element i of a row of pointers. -/
theorem Rd.ptr {w : World} {A : Option Addr} {n : Nat} {l : List Nat} (h : Rd w 1 A n (encGs l)) (i : Nat) (hi : i < l.length) :
    ∃ ad, A = some ad ∧ w.cell? (ad.add i) = some (.pointer (some ⟨l[i], 0, none⟩)) := by
  have hl : l.length = n := by have := h.1; rw [encGs_length] at this; omega
  obtain ⟨ad, e, hc⟩ := h.2.2 (by omega)
  exact ⟨ad, e, hc _ _ (encGs_get l i hi)⟩

/-- A file: its name, its bytes, how many are synced. -/
structure Fl where
  n : ByteArray
  b : List UInt8
  s : Nat
deriving DecidableEq
instance : Inhabited Fl := ⟨⟨⟨#[]⟩, [], 0⟩⟩

/-- Files as pairs: only the names count. -/
def asP (f : Fl) : Pr := ⟨f.n, ⟨#[]⟩⟩
def asPs (l : List Fl) : List Pr := l.map asP

/-- The names behind pointers. -/
def NamesAt (w : World) (gs : List Nat) (fs : List Fl) : Prop := gs.length = fs.length ∧ ∀ i, ∀ h : i < gs.length, ∀ h' : i < fs.length, w.cell? ⟨gs[i], 0, none⟩ = some (.string fs[i].n)
theorem NamesAt.mod0 {w w1 : World} {gs : List Nat} {fs : List Fl} (h : NamesAt w gs fs) (hm : Mod NoneB w w1) : NamesAt w1 gs fs := ⟨h.1, fun i h1 h2 => hm.cell0 (h.2 i h1 h2)⟩


end Go.Proofs.YtdmdiokfpbmnaaaDoor

