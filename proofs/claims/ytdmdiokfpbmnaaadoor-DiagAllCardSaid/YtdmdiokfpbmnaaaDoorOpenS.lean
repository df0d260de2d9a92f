/- The elements of this program's slices, read from what the row tells of an argument. -/
import Derived.Test.YtdmdiokfpbmnaaaDoorRead
import Derived.Test.YtdmdiokfpbmnaaaDoorTabA
import Derived.Deep.Strs
import Derived.Test.YtdmdiokfpbmnaaaDoorNums
import Derived.Test.YtdmdiokfpbmnaaaDoorDkMod
namespace Go.Proofs.YtdmdiokfpbmnaaaDoor
open Go.RowKit Go.Deep Go.ChangeShapes Go.WideShapes
set_option linter.unusedVariables false

instance : Inhabited Pr := ⟨⟨⟨#[]⟩, ⟨#[]⟩⟩⟩
instance : Inhabited Op3 := ⟨⟨false, ⟨#[]⟩, ⟨#[]⟩⟩⟩
section
variable {H : Type} {enc : TypeId × Value → H} {w : World} {spare : Nat → Bool} {held : Bool}
end
end Go.Proofs.YtdmdiokfpbmnaaaDoor

/- Numbers, bytes and plans, read from what the row tells of an argument. -/
namespace Go.Proofs.YtdmdiokfpbmnaaaDoor
open Go.RowKit Go.Deep Go.ChangeShapes Go.WideShapes
set_option linter.unusedVariables false

theorem flatMap_one {α β : Type} (f : α → β) (l : List α) : l.flatMap (fun z => [f z]) = l.map f := by induction l with
  | nil => rfl
  | cons x l ih => rw [List.flatMap_cons, ih]; rfl
section
variable {H : Type} {enc : TypeId × Value → H} {w : World} {spare : Nat → Bool} {held : Bool}
theorem elI (n : Nat) (cs : List Value) (y : DataW H × List MemPlace) (h : DataW.trod enc Tryd.prog w 0 spare held n 3 cs = some y) (hl : cs.length = 1) : ∃ z : Int, cs = [.int .i64 z] := by
  obtain ⟨z, e, _⟩ := DataW.trod_int (t := 3) Tryd.underlying3 h
  exact ⟨z, e⟩
theorem elB (n : Nat) (cs : List Value) (y : DataW H × List MemPlace) (h : DataW.trod enc Tryd.prog w 0 spare held n 5 cs = some y) (hl : cs.length = 1) : ∃ z : UInt8, cs = [.int .u8 z.toNat] := by
  obtain ⟨z, e, _, hw⟩ := DataW.trod_int (t := 5) Tryd.underlying5 h
  have h2 : (0 : Int) ≤ z ∧ z ≤ 255 := by
    simp [Lit.wf] at hw
    exact hw
  refine ⟨UInt8.ofNat z.toNat, ?_⟩
  rw [e]
  have : ((UInt8.ofNat z.toNat).toNat : Int) = z := by
    rw [UInt8.toNat_ofNat']
    omega
  rw [this]
theorem rd_ints {A : Option Addr} {n c fuel : Nat} {x : DataW H × List MemPlace} (h : DataW.trod enc Tryd.prog w 0 spare held fuel 78 [.slice A n c] = some x) :
    ∃ l : List Int, l.length = n ∧ n ≤ c ∧ c ≤ maxLen ∧ Rd w 1 A n (encI l) := by
  obtain ⟨l, h1, h2, h3, h4⟩ := rd_open (fun z : Int => [Value.int .i64 z]) 1 (fun _ => rfl) Tryd.underlying78 (by kernel_rfl) elI h
  exact ⟨l, h1, h2, h3, by rw [flatMap_one] at h4; exact h4⟩
theorem rd_bytes {A : Option Addr} {n c fuel : Nat} {x : DataW H × List MemPlace} (h : DataW.trod enc Tryd.prog w 0 spare held fuel 33 [.slice A n c] = some x) :
    ∃ l : List UInt8, l.length = n ∧ n ≤ c ∧ c ≤ maxLen ∧ Rd w 1 A n (encB l) := by
  obtain ⟨l, h1, h2, h3, h4⟩ := rd_open (fun z : UInt8 => [Value.int .u8 z.toNat]) 1 (fun _ => rfl) Tryd.underlying33 (by kernel_rfl) elB h
  exact ⟨l, h1, h2, h3, by rw [flatMap_one] at h4; exact h4⟩
end
end Go.Proofs.YtdmdiokfpbmnaaaDoor

/- Slices of elements that hold slices themselves: plans, acts on a disk, texts, batches. -/
namespace Go.Proofs.YtdmdiokfpbmnaaaDoor
open Go.RowKit Go.Deep Go.ChangeShapes Go.WideShapes
set_option linter.unusedVariables false

/-- A plan as it came in. -/
structure PlV where
  p : Pl
  F : Option Addr
  K : Option Addr
  fc : Nat
  kc : Nat
instance : Inhabited PlV := ⟨⟨default, none, none, 0, 0⟩⟩
def encPl (x : PlV) : List Value := [.int .i64 x.p.cap, .slice x.F x.p.fail.length x.fc, .int .i64 x.p.crash, .bool x.p.done, .slice x.K x.p.keep.length x.kc]
structure PlOk (w : World) (x : PlV) : Prop where
  fail : Rd w 1 x.F x.p.fail.length (encI x.p.fail)
  keep : Rd w 1 x.K x.p.keep.length (encI x.p.keep)
theorem PlOk.mod0 {w w1 : World} {x : PlV} (h : PlOk w x) (hm : Mod NoneB w w1) : PlOk w1 x := ⟨h.fail.mod0 hm, h.keep.mod0 hm⟩
/-- An act on a disk, as it came in. -/
structure ActV where
  act : Int
  name : ByteArray
  nto : ByteArray
  b : List UInt8
  B : Option Addr
  bc : Nat
  n : Int
  p : PlV
instance : Inhabited ActV := ⟨⟨0, ⟨#[]⟩, ⟨#[]⟩, [], none, 0, 0, default⟩⟩
def encAct (a : ActV) : List Value := [.int .i64 a.act, .string a.name, .string a.nto, .slice a.B a.b.length a.bc, .int .i64 a.n] ++ encPl a.p
structure ActOk (w : World) (a : ActV) : Prop where
  b : Rd w 1 a.B a.b.length (encB a.b)
  p : PlOk w a.p
theorem ActOk.mod0 {w w1 : World} {x : ActV} (h : ActOk w x) (hm : Mod NoneB w w1) : ActOk w1 x := ⟨h.b.mod0 hm, h.p.mod0 hm⟩

section
variable {P : Program} {H : Type} {enc : TypeId × Value → H} {w : World} {spare : Nat → Bool} {held : Bool}
theorem rd_openQ {α : Type} [Inhabited α] (f : α → List Value) (sz : Nat) (hf : ∀ x, (f x).length = sz) (Q : α → Prop) {t e : TypeId} (ht : P.underlying t = some (.slice e)) (hc : P.cellsOf e = sz)
    (hE : ∀ n cs y, DataW.trod enc P w 0 spare held n e cs = some y → cs.length = sz → ∃ x, cs = f x ∧ Q x) {A : Option Addr} {n c fuel : Nat} {x : DataW H × List MemPlace}
    (h : DataW.trod enc P w 0 spare held fuel t [.slice A n c] = some x) : ∃ l : List α, l.length = n ∧ n ≤ c ∧ c ≤ maxLen ∧ Rd w sz A n (l.flatMap f) ∧ ∀ x ∈ l, Q x := by
  rcases open_slice ht h with ⟨h1, _⟩ | ⟨a, len, cap, m, k, D, Pl, h1, _, hl, hm, hmm, _, hx⟩
  · simp only [List.cons.injEq, Value.slice.injEq, and_true] at h1
    obtain ⟨rfl, rfl, rfl⟩ := h1
    exact ⟨[], rfl, Nat.le_refl _, Nat.zero_le _, Rd.nil _ _ _, fun x hx => by cases hx⟩
  · simp only [List.cons.injEq, Value.slice.injEq, and_true] at h1
    obtain ⟨rfl, rfl, rfl⟩ := h1
    have hle : n ≤ m := by rw [hmm]; split <;> omega
    obtain ⟨g, hg⟩ := choose_lt (α := α) (n := n) (p := fun i y => w.cells? 0 (a.add (i * sz)) sz = some (f y) ∧ Q y) (fun i hi => by
      obtain ⟨cs', h2, h3⟩ := hx i (by omega)
      rw [hc] at h2
      obtain ⟨_, hlen, _⟩ := World.cells?_some h2
      obtain ⟨y, rfl, hq⟩ := hE _ _ _ h3 hlen
      exact ⟨y, h2, hq⟩)
    refine ⟨(List.range n).map g, by simp, hl, hm, ?_, ?_⟩
    · refine ⟨by rw [flatMap_length f sz hf]; simp, by simp only [maxLen] at hm; omega, fun hn => ⟨a, rfl, fun j u hu => ?_⟩⟩
      obtain ⟨i, hi, k', rfl, hk⟩ := flatMap_get f sz hf _ _ _ hu
      have hi' : i < n := by simpa using hi
      have h2 := (hg i hi').1
      obtain ⟨_, hlen, hcell⟩ := World.cells?_some h2
      have hk' : k' < sz := by have := (List.getElem?_eq_some_iff.1 hk).1; rw [hf] at this; exact this
      have h4 := hcell k' hk'
      simp only [List.getElem_map, List.getElem_range] at hk
      rw [hk] at h4
      rwa [show (a.add (i * sz)).add k' = a.add (i * sz + k') from add_add _ _ _] at h4
    · intro x hx
      obtain ⟨i, hi, rfl⟩ := List.mem_map.1 hx
      exact (hg i (List.mem_range.1 hi)).2
end
section
variable {H : Type} {enc : TypeId × Value → H} {w : World} {spare : Nat → Bool} {held : Bool}
theorem el_ints {v : Value} {y : DataW H × List MemPlace} {m : Nat} (hy : DataW.trod enc Tryd.prog w 0 spare held m 78 [v] = some y) : ∃ (A : Option Addr) (l : List Int) (c : Nat), v = .slice A l.length c ∧ Rd w 1 A l.length (encI l) := by
  rcases open_slice Tryd.underlying78 hy with ⟨h1, _⟩ | ⟨a, len, cap, _, _, _, _, h1, _⟩
  · simp only [List.cons.injEq, and_true] at h1
    subst h1
    exact ⟨none, [], 0, rfl, Rd.nil _ _ _⟩
  · simp only [List.cons.injEq, and_true] at h1
    subst h1
    obtain ⟨l, rfl, _, _, hr⟩ := rd_ints hy
    exact ⟨_, l, cap, rfl, hr⟩
theorem el_bytes {v : Value} {y : DataW H × List MemPlace} {m : Nat} (hy : DataW.trod enc Tryd.prog w 0 spare held m 33 [v] = some y) : ∃ (A : Option Addr) (l : List UInt8) (c : Nat), v = .slice A l.length c ∧ Rd w 1 A l.length (encB l) := by
  rcases open_slice Tryd.underlying33 hy with ⟨h1, _⟩ | ⟨a, len, cap, _, _, _, _, h1, _⟩
  · simp only [List.cons.injEq, and_true] at h1
    subst h1
    exact ⟨none, [], 0, rfl, Rd.nil _ _ _⟩
  · simp only [List.cons.injEq, and_true] at h1
    subst h1
    obtain ⟨l, rfl, _, _, hr⟩ := rd_bytes hy
    exact ⟨_, l, cap, rfl, hr⟩
end
end Go.Proofs.YtdmdiokfpbmnaaaDoor

