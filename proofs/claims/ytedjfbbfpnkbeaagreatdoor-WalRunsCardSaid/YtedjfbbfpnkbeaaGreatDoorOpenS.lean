/- The elements of this program's slices, read from what the row tells of an argument. -/
import Derived.Test.YtedjfbbfpnkbeaaGreatDoorRead
import Derived.Test.YtedjfbbfpnkbeaaGreatDoorTabA
import Derived.Deep.Strs
import Derived.Test.YtedjfbbfpnkbeaaGreatDoorNums
import Derived.Test.YtedjfbbfpnkbeaaGreatDoorDkMod
namespace Go.Proofs.YtedjfbbfpnkbeaaGreatDoor
open Go.RowKit Go.Deep Go.ChangeShapes Go.WideShapes
set_option linter.unusedVariables false

instance : Inhabited Pr := ⟨⟨⟨#[]⟩, ⟨#[]⟩⟩⟩
instance : Inhabited Op3 := ⟨⟨false, ⟨#[]⟩, ⟨#[]⟩⟩⟩
section
variable {H : Type} {enc : TypeId × Value → H} {w : World} {spare : Nat → Bool} {held : Bool}
set_option maxRecDepth 100000 in
theorem elO (n : Nat) (cs : List Value) (y : DataW H × List MemPlace) (h : DataW.trod enc Tryz.prog w 0 spare held n 55 cs = some y) (hl : cs.length = 3) : ∃ o : Op3, cs = encO o := by
  obtain ⟨y0, y1, y2, m, _, _, h0, h1, h2⟩ := trod_struct3 Tryz.underlying55 h
  match cs, hl with
  | [v0, v1, v2], _ =>
    obtain ⟨b, e0, _⟩ := DataW.trod_bool (t := 4) Tryz.underlying4 h0
    obtain ⟨s1, e1, _⟩ := DataW.trod_string (t := 9) Tryz.underlying9 h1
    obtain ⟨s2, e2, _⟩ := DataW.trod_string (t := 9) Tryz.underlying9 h2
    have e0' : [v0] = [.bool b] := e0
    have e1' : [v1] = [.string s1] := e1
    have e2' : [v2] = [.string s2] := e2
    simp only [List.cons.injEq, and_true] at e0' e1' e2'
    exact ⟨⟨b, s1, s2⟩, by rw [e0', e1', e2']; rfl⟩
theorem rd_ops {A : Option Addr} {n c fuel : Nat} {x : DataW H × List MemPlace} (h : DataW.trod enc Tryz.prog w 0 spare held fuel 49 [.slice A n c] = some x) :
    ∃ l : List Op3, l.length = n ∧ n ≤ c ∧ c ≤ maxLen ∧ Rd w 3 A n (encOs l) :=
  rd_open encO 3 (fun _ => rfl) Tryz.underlying49 (by kernel_rfl) elO h
end
end Go.Proofs.YtedjfbbfpnkbeaaGreatDoor

/- Numbers, bytes and plans, read from what the row tells of an argument. -/
namespace Go.Proofs.YtedjfbbfpnkbeaaGreatDoor
open Go.RowKit Go.Deep Go.ChangeShapes Go.WideShapes
set_option linter.unusedVariables false

theorem flatMap_one {α β : Type} (f : α → β) (l : List α) : l.flatMap (fun z => [f z]) = l.map f := by induction l with
  | nil => rfl
  | cons x l ih => rw [List.flatMap_cons, ih]; rfl
section
variable {H : Type} {enc : TypeId × Value → H} {w : World} {spare : Nat → Bool} {held : Bool}
theorem elI (n : Nat) (cs : List Value) (y : DataW H × List MemPlace) (h : DataW.trod enc Tryz.prog w 0 spare held n 3 cs = some y) (hl : cs.length = 1) : ∃ z : Int, cs = [.int .i64 z] := by
  obtain ⟨z, e, _⟩ := DataW.trod_int (t := 3) Tryz.underlying3 h
  exact ⟨z, e⟩
theorem elB (n : Nat) (cs : List Value) (y : DataW H × List MemPlace) (h : DataW.trod enc Tryz.prog w 0 spare held n 5 cs = some y) (hl : cs.length = 1) : ∃ z : UInt8, cs = [.int .u8 z.toNat] := by
  obtain ⟨z, e, _, hw⟩ := DataW.trod_int (t := 5) Tryz.underlying5 h
  have h2 : (0 : Int) ≤ z ∧ z ≤ 255 := by
    simp [Lit.wf] at hw
    exact hw
  refine ⟨UInt8.ofNat z.toNat, ?_⟩
  rw [e]
  have : ((UInt8.ofNat z.toNat).toNat : Int) = z := by
    rw [UInt8.toNat_ofNat']
    omega
  rw [this]
theorem rd_ints {A : Option Addr} {n c fuel : Nat} {x : DataW H × List MemPlace} (h : DataW.trod enc Tryz.prog w 0 spare held fuel 29 [.slice A n c] = some x) :
    ∃ l : List Int, l.length = n ∧ n ≤ c ∧ c ≤ maxLen ∧ Rd w 1 A n (encI l) := by
  obtain ⟨l, h1, h2, h3, h4⟩ := rd_open (fun z : Int => [Value.int .i64 z]) 1 (fun _ => rfl) Tryz.underlying29 (by kernel_rfl) elI h
  exact ⟨l, h1, h2, h3, by rw [flatMap_one] at h4; exact h4⟩
theorem rd_bytes {A : Option Addr} {n c fuel : Nat} {x : DataW H × List MemPlace} (h : DataW.trod enc Tryz.prog w 0 spare held fuel 24 [.slice A n c] = some x) :
    ∃ l : List UInt8, l.length = n ∧ n ≤ c ∧ c ≤ maxLen ∧ Rd w 1 A n (encB l) := by
  obtain ⟨l, h1, h2, h3, h4⟩ := rd_open (fun z : UInt8 => [Value.int .u8 z.toNat]) 1 (fun _ => rfl) Tryz.underlying24 (by kernel_rfl) elB h
  exact ⟨l, h1, h2, h3, by rw [flatMap_one] at h4; exact h4⟩
set_option maxRecDepth 100000 in
/-- A plan that came in: five cells. -/
theorem open_plan {d : DataW H} {ps : List MemPlace} {cs : Array Value} (hsz : cs.size = 5) (h : DataW.Trod enc Tryz.prog w 0 spare held 31 (.agg cs) d ps) :
    ∃ (c1 c2 : Int) (b : Bool) (F K : Option Addr) (lf lk : List Int) (fc kc : Nat), cs = #[.int .i64 c1, .slice F lf.length fc, .int .i64 c2, .bool b, .slice K lk.length kc] ∧ Rd w 1 F lf.length (encI lf) ∧ Rd w 1 K lk.length (encI lk) := by
  obtain ⟨fuel, hf⟩ := h
  obtain ⟨xs, n, _, _, _, hxl, hfs⟩ := DataW.trod_struct Tryz.underlying31 hf
  have hc : ∃ v0 v1 v2 v3 v4, cs = #[v0, v1, v2, v3, v4] := by
    obtain ⟨l⟩ := cs
    match l, hsz with
    | [v0, v1, v2, v3, v4], _ => exact ⟨v0, v1, v2, v3, v4, rfl⟩
  obtain ⟨v0, v1, v2, v3, v4, rfl⟩ := hc
  have hsl : ∀ (v : Value) (y : DataW H × List MemPlace) m, DataW.trod enc Tryz.prog w 0 spare held m 29 [v] = some y → ∃ (A : Option Addr) (l : List Int) (c : Nat), v = .slice A l.length c ∧ Rd w 1 A l.length (encI l) := by
    intro v y m hy
    rcases open_slice Tryz.underlying29 hy with ⟨h1, _⟩ | ⟨a, len, cap, _, _, _, _, h1, _⟩
    · simp only [List.cons.injEq, and_true] at h1
      subst h1
      exact ⟨none, [], 0, rfl, Rd.nil _ _ _⟩
    · simp only [List.cons.injEq, and_true] at h1
      subst h1
      obtain ⟨l, rfl, _, _, hr⟩ := rd_ints hy
      exact ⟨_, l, cap, rfl, hr⟩
  match xs, hxl with
  | [y0, y1, y2, y3, y4], _ =>
    have g0 := hfs 0 _ rfl
    have g1 := hfs 1 _ rfl
    have g2 := hfs 2 _ rfl
    have g3 := hfs 3 _ rfl
    have g4 := hfs 4 _ rfl
    obtain ⟨c1, e0, _⟩ := DataW.trod_int (t := 3) Tryz.underlying3 g0
    obtain ⟨c2, e2, _⟩ := DataW.trod_int (t := 3) Tryz.underlying3 g2
    obtain ⟨b, e3, _⟩ := DataW.trod_bool (t := 4) Tryz.underlying4 g3
    obtain ⟨F, lf, fc, rfl, hF⟩ := hsl v1 y1 n g1
    obtain ⟨K, lk, kc, rfl, hK⟩ := hsl v4 y4 n g4
    have e0' : [v0] = [.int .i64 c1] := e0
    have e2' : [v2] = [.int .i64 c2] := e2
    have e3' : [v3] = [.bool b] := e3
    simp only [List.cons.injEq, and_true] at e0' e2' e3'
    subst e0' e2' e3'
    exact ⟨c1, c2, b, F, K, lf, lk, fc, kc, rfl, hF, hK⟩
end
end Go.Proofs.YtedjfbbfpnkbeaaGreatDoor

/- Slices of elements that hold slices themselves: plans, acts on a disk, texts, batches. -/
namespace Go.Proofs.YtedjfbbfpnkbeaaGreatDoor
open Go.RowKit Go.Deep Go.ChangeShapes Go.WideShapes
set_option linter.unusedVariables false

/-- A plan as it came in. -/
structure PlV where
  p : Pl
  F : Option Addr
  K : Option Addr
  fc : Nat
  kc : Nat
instance : Inhabited PlV := ⟨⟨default, none, none, 0, 0⟩⟩
def encPl (x : PlV) : List Value := [.int .i64 x.p.cap, .slice x.F x.p.fail.length x.fc, .int .i64 x.p.crash, .bool x.p.done, .slice x.K x.p.keep.length x.kc]
structure PlOk (w : World) (x : PlV) : Prop where
  fail : Rd w 1 x.F x.p.fail.length (encI x.p.fail)
  keep : Rd w 1 x.K x.p.keep.length (encI x.p.keep)
theorem PlOk.mod0 {w w1 : World} {x : PlV} (h : PlOk w x) (hm : Mod NoneB w w1) : PlOk w1 x := ⟨h.fail.mod0 hm, h.keep.mod0 hm⟩
/-- An act on a disk, as it came in. -/
structure ActV where
  act : Int
  name : ByteArray
  nto : ByteArray
  b : List UInt8
  B : Option Addr
  bc : Nat
  n : Int
  p : PlV
instance : Inhabited ActV := ⟨⟨0, ⟨#[]⟩, ⟨#[]⟩, [], none, 0, 0, default⟩⟩
def encAct (a : ActV) : List Value := [.int .i64 a.act, .string a.name, .string a.nto, .slice a.B a.b.length a.bc, .int .i64 a.n] ++ encPl a.p
structure ActOk (w : World) (a : ActV) : Prop where
  b : Rd w 1 a.B a.b.length (encB a.b)
  p : PlOk w a.p
theorem ActOk.mod0 {w w1 : World} {x : ActV} (h : ActOk w x) (hm : Mod NoneB w w1) : ActOk w1 x := ⟨h.b.mod0 hm, h.p.mod0 hm⟩

section
variable {P : Program} {H : Type} {enc : TypeId × Value → H} {w : World} {spare : Nat → Bool} {held : Bool}
theorem rd_openQ {α : Type} [Inhabited α] (f : α → List Value) (sz : Nat) (hf : ∀ x, (f x).length = sz) (Q : α → Prop) {t e : TypeId} (ht : P.underlying t = some (.slice e)) (hc : P.cellsOf e = sz)
    (hE : ∀ n cs y, DataW.trod enc P w 0 spare held n e cs = some y → cs.length = sz → ∃ x, cs = f x ∧ Q x) {A : Option Addr} {n c fuel : Nat} {x : DataW H × List MemPlace}
    (h : DataW.trod enc P w 0 spare held fuel t [.slice A n c] = some x) : ∃ l : List α, l.length = n ∧ n ≤ c ∧ c ≤ maxLen ∧ Rd w sz A n (l.flatMap f) ∧ ∀ x ∈ l, Q x := by
  rcases open_slice ht h with ⟨h1, _⟩ | ⟨a, len, cap, m, k, D, Pl, h1, _, hl, hm, hmm, _, hx⟩
  · simp only [List.cons.injEq, Value.slice.injEq, and_true] at h1
    obtain ⟨rfl, rfl, rfl⟩ := h1
    exact ⟨[], rfl, Nat.le_refl _, Nat.zero_le _, Rd.nil _ _ _, fun x hx => by cases hx⟩
  · simp only [List.cons.injEq, Value.slice.injEq, and_true] at h1
    obtain ⟨rfl, rfl, rfl⟩ := h1
    have hle : n ≤ m := by rw [hmm]; split <;> omega
    obtain ⟨g, hg⟩ := choose_lt (α := α) (n := n) (p := fun i y => w.cells? 0 (a.add (i * sz)) sz = some (f y) ∧ Q y) (fun i hi => by
      obtain ⟨cs', h2, h3⟩ := hx i (by omega)
      rw [hc] at h2
      obtain ⟨_, hlen, _⟩ := World.cells?_some h2
      obtain ⟨y, rfl, hq⟩ := hE _ _ _ h3 hlen
      exact ⟨y, h2, hq⟩)
    refine ⟨(List.range n).map g, by simp, hl, hm, ?_, ?_⟩
    · refine ⟨by rw [flatMap_length f sz hf]; simp, by simp only [maxLen] at hm; omega, fun hn => ⟨a, rfl, fun j u hu => ?_⟩⟩
      obtain ⟨i, hi, k', rfl, hk⟩ := flatMap_get f sz hf _ _ _ hu
      have hi' : i < n := by simpa using hi
      have h2 := (hg i hi').1
      obtain ⟨_, hlen, hcell⟩ := World.cells?_some h2
      have hk' : k' < sz := by have := (List.getElem?_eq_some_iff.1 hk).1; rw [hf] at this; exact this
      have h4 := hcell k' hk'
      simp only [List.getElem_map, List.getElem_range] at hk
      rw [hk] at h4
      rwa [show (a.add (i * sz)).add k' = a.add (i * sz + k') from add_add _ _ _] at h4
    · intro x hx
      obtain ⟨i, hi, rfl⟩ := List.mem_map.1 hx
      exact (hg i (List.mem_range.1 hi)).2
end
section
variable {H : Type} {enc : TypeId × Value → H} {w : World} {spare : Nat → Bool} {held : Bool}
theorem el_ints {v : Value} {y : DataW H × List MemPlace} {m : Nat} (hy : DataW.trod enc Tryz.prog w 0 spare held m 29 [v] = some y) : ∃ (A : Option Addr) (l : List Int) (c : Nat), v = .slice A l.length c ∧ Rd w 1 A l.length (encI l) := by
  rcases open_slice Tryz.underlying29 hy with ⟨h1, _⟩ | ⟨a, len, cap, _, _, _, _, h1, _⟩
  · simp only [List.cons.injEq, and_true] at h1
    subst h1
    exact ⟨none, [], 0, rfl, Rd.nil _ _ _⟩
  · simp only [List.cons.injEq, and_true] at h1
    subst h1
    obtain ⟨l, rfl, _, _, hr⟩ := rd_ints hy
    exact ⟨_, l, cap, rfl, hr⟩
theorem el_bytes {v : Value} {y : DataW H × List MemPlace} {m : Nat} (hy : DataW.trod enc Tryz.prog w 0 spare held m 24 [v] = some y) : ∃ (A : Option Addr) (l : List UInt8) (c : Nat), v = .slice A l.length c ∧ Rd w 1 A l.length (encB l) := by
  rcases open_slice Tryz.underlying24 hy with ⟨h1, _⟩ | ⟨a, len, cap, _, _, _, _, h1, _⟩
  · simp only [List.cons.injEq, and_true] at h1
    subst h1
    exact ⟨none, [], 0, rfl, Rd.nil _ _ _⟩
  · simp only [List.cons.injEq, and_true] at h1
    subst h1
    obtain ⟨l, rfl, _, _, hr⟩ := rd_bytes hy
    exact ⟨_, l, cap, rfl, hr⟩
set_option maxRecDepth 100000 in
theorem elPl (n : Nat) (cs : List Value) (y : DataW H × List MemPlace) (h : DataW.trod enc Tryz.prog w 0 spare held n 31 cs = some y) (hl : cs.length = 5) : ∃ x : PlV, cs = encPl x ∧ PlOk w x := by
  obtain ⟨xs, n, _, _, _, hxl, hfs⟩ := DataW.trod_struct Tryz.underlying31 h
  match cs, hl, xs, hxl with
  | [v0, v1, v2, v3, v4], _, [y0, y1, y2, y3, y4], _ =>
    have g0 := hfs 0 _ rfl
    have g1 := hfs 1 _ rfl
    have g2 := hfs 2 _ rfl
    have g3 := hfs 3 _ rfl
    have g4 := hfs 4 _ rfl
    obtain ⟨c1, e0, _⟩ := DataW.trod_int (t := 3) Tryz.underlying3 g0
    obtain ⟨c2, e2, _⟩ := DataW.trod_int (t := 3) Tryz.underlying3 g2
    obtain ⟨b, e3, _⟩ := DataW.trod_bool (t := 4) Tryz.underlying4 g3
    obtain ⟨F, lf, fc, rfl, hF⟩ := el_ints (v := v1) (y := y1) (m := n) g1
    obtain ⟨K, lk, kc, rfl, hK⟩ := el_ints (v := v4) (y := y4) (m := n) g4
    have e0' : [v0] = [.int .i64 c1] := e0
    have e2' : [v2] = [.int .i64 c2] := e2
    have e3' : [v3] = [.bool b] := e3
    simp only [List.cons.injEq, and_true] at e0' e2' e3'
    subst e0' e2' e3'
    exact ⟨⟨⟨c1, lf, c2, b, lk⟩, F, K, fc, kc⟩, rfl, hF, hK⟩
theorem rd_plans {A : Option Addr} {n c fuel : Nat} {x : DataW H × List MemPlace} (h : DataW.trod enc Tryz.prog w 0 spare held fuel 22 [.slice A n c] = some x) :
    ∃ l : List PlV, l.length = n ∧ n ≤ c ∧ c ≤ maxLen ∧ Rd w 5 A n (l.flatMap encPl) ∧ ∀ x ∈ l, PlOk w x :=
  rd_openQ encPl 5 (fun _ => rfl) (PlOk w) Tryz.underlying22 (by kernel_rfl) elPl h
end
end Go.Proofs.YtedjfbbfpnkbeaaGreatDoor

