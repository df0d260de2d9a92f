/- From what the row tells of an argument to what the walks want: slices of flat elements. -/
import Derived.ProofKit
import Derived.OpenShut
import Derived.ShutString
import Derived.ChangeOld
import Derived.Deep.Slices
import Derived.Deep.Strs
import Derived.Test.YtnlmfmceogbomaaGreatDoorDkOneLQq
import Derived.Test.YtnlmfmceogbomaaGreatDoorRowQq
import Derived.Test.YtnlmfmceogbomaaGreatDoorNumsQq
import Derived.Test.YtnlmfmceogbomaaGreatDoorTabAQq
namespace Go.Proofs.YtnlmfmceogbomaaGreatDoor
open Go.RowKit Go.Deep Go.ChangeShapes Go.WideShapes
set_option linter.unusedVariables false

theorem flatMap_get {α : Type} (f : α → List Value) (sz : Nat) (hf : ∀ x, (f x).length = sz) (l : List α) : ∀ j u, (l.flatMap f)[j]? = some u → ∃ i, ∃ h : i < l.length, ∃ k, j = i * sz + k ∧ (f l[i])[k]? = some u := by
  induction l with
  | nil => intro j u h; simp at h
  | cons x l ih =>
    intro j u h
    rw [List.flatMap_cons] at h
    by_cases hj : j < sz
    · rw [List.getElem?_append_left (by rw [hf]; exact hj)] at h
      exact ⟨0, by simp, j, by simp, h⟩
    · rw [List.getElem?_append_right (by rw [hf]; omega), hf] at h
      obtain ⟨i, hi, k, e, hk⟩ := ih _ _ h
      exact ⟨i + 1, by simpa using hi, k, by rw [Nat.add_mul]; omega, hk⟩
theorem flatMap_length {α : Type} (f : α → List Value) (sz : Nat) (hf : ∀ x, (f x).length = sz) (l : List α) : (l.flatMap f).length = l.length * sz := by
  induction l with
  | nil => simp
  | cons x l ih => rw [List.flatMap_cons, List.length_append, ih, hf, List.length_cons, Nat.add_mul]; omega

section
variable {P : Program} {H : Type} {enc : TypeId × Value → H} {w : World} {spare : Nat → Bool} {held : Bool}
/-- A slice that came in, its elements told by 'f'. -/
theorem rd_open {α : Type} [Inhabited α] (f : α → List Value) (sz : Nat) (hf : ∀ x, (f x).length = sz) {t e : TypeId} (ht : P.underlying t = some (.slice e)) (hc : P.cellsOf e = sz)
    (hE : ∀ n cs y, DataW.trod enc P w 0 spare held n e cs = some y → cs.length = sz → ∃ x, cs = f x) {A : Option Addr} {n c fuel : Nat} {x : DataW H × List MemPlace}
    (h : DataW.trod enc P w 0 spare held fuel t [.slice A n c] = some x) : ∃ l : List α, l.length = n ∧ n ≤ c ∧ c ≤ maxLen ∧ Rd w sz A n (l.flatMap f) := by
  rcases open_slice ht h with ⟨h1, _⟩ | ⟨a, len, cap, m, k, D, Pl, h1, _, hl, hm, hmm, _, hx⟩
  · simp only [List.cons.injEq, Value.slice.injEq, and_true] at h1
    obtain ⟨rfl, rfl, rfl⟩ := h1
    exact ⟨[], rfl, Nat.le_refl _, Nat.zero_le _, Rd.nil _ _ _⟩
  · simp only [List.cons.injEq, Value.slice.injEq, and_true] at h1
    obtain ⟨rfl, rfl, rfl⟩ := h1
    have hle : n ≤ m := by rw [hmm]; split <;> omega
    obtain ⟨g, hg⟩ := choose_lt (α := α) (n := n) (p := fun i y => w.cells? 0 (a.add (i * sz)) sz = some (f y)) (fun i hi => by
      obtain ⟨cs', h2, h3⟩ := hx i (by omega)
      rw [hc] at h2
      obtain ⟨_, hlen, _⟩ := World.cells?_some h2
      obtain ⟨y, rfl⟩ := hE _ _ _ h3 hlen
      exact ⟨y, h2⟩)
    refine ⟨(List.range n).map g, by simp, hl, hm, ?_⟩
    refine ⟨by rw [flatMap_length f sz hf]; simp, by simp only [maxLen] at hm; omega, fun hn => ⟨a, rfl, fun j u hu => ?_⟩⟩
    obtain ⟨i, hi, k', rfl, hk⟩ := flatMap_get f sz hf _ _ _ hu
    have hi' : i < n := by simpa using hi
    have h2 := hg i hi'
    obtain ⟨_, hlen, hcell⟩ := World.cells?_some h2
    have hk' : k' < sz := by have := (List.getElem?_eq_some_iff.1 hk).1; rw [hf] at this; exact this
    have h4 := hcell k' hk'
    simp only [List.getElem_map, List.getElem_range] at hk
    rw [hk] at h4
    rwa [show (a.add (i * sz)).add k' = a.add (i * sz + k') from add_add _ _ _] at h4
end
end Go.Proofs.YtnlmfmceogbomaaGreatDoor

/- The elements of this program's slices, read from what the row tells of an argument. -/
namespace Go.Proofs.YtnlmfmceogbomaaGreatDoor
open Go.RowKit Go.Deep Go.ChangeShapes Go.WideShapes
set_option linter.unusedVariables false

instance : Inhabited Pr := ⟨⟨⟨#[]⟩, ⟨#[]⟩⟩⟩
instance : Inhabited Op3 := ⟨⟨false, ⟨#[]⟩, ⟨#[]⟩⟩⟩
section
variable {H : Type} {enc : TypeId × Value → H} {w : World} {spare : Nat → Bool} {held : Bool}
set_option maxRecDepth 100000 in
theorem elO (n : Nat) (cs : List Value) (y : DataW H × List MemPlace) (h : DataW.trod enc Tryz.prog w 0 spare held n 49 cs = some y) (hl : cs.length = 3) : ∃ o : Op3, cs = encO o := by
  obtain ⟨y0, y1, y2, m, _, _, h0, h1, h2⟩ := trod_struct3 Tryz.underlying49 h
  match cs, hl with
  | [v0, v1, v2], _ =>
    obtain ⟨b, e0, _⟩ := DataW.trod_bool (t := 4) Tryz.underlying4 h0
    obtain ⟨s1, e1, _⟩ := DataW.trod_string (t := 9) Tryz.underlying9 h1
    obtain ⟨s2, e2, _⟩ := DataW.trod_string (t := 9) Tryz.underlying9 h2
    have e0' : [v0] = [.bool b] := e0
    have e1' : [v1] = [.string s1] := e1
    have e2' : [v2] = [.string s2] := e2
    simp only [List.cons.injEq, and_true] at e0' e1' e2'
    exact ⟨⟨b, s1, s2⟩, by rw [e0', e1', e2']; rfl⟩
theorem rd_ops {A : Option Addr} {n c fuel : Nat} {x : DataW H × List MemPlace} (h : DataW.trod enc Tryz.prog w 0 spare held fuel 39 [.slice A n c] = some x) :
    ∃ l : List Op3, l.length = n ∧ n ≤ c ∧ c ≤ maxLen ∧ Rd w 3 A n (encOs l) :=
  rd_open encO 3 (fun _ => rfl) Tryz.underlying39 (by kernel_rfl) elO h
end
end Go.Proofs.YtnlmfmceogbomaaGreatDoor

/- Numbers, bytes and plans, read from what the row tells of an argument. -/
namespace Go.Proofs.YtnlmfmceogbomaaGreatDoor
open Go.RowKit Go.Deep Go.ChangeShapes Go.WideShapes
set_option linter.unusedVariables false

theorem flatMap_one {α β : Type} (f : α → β) (l : List α) : l.flatMap (fun z => [f z]) = l.map f := by induction l with
  | nil => rfl
  | cons x l ih => rw [List.flatMap_cons, ih]; rfl
section
variable {H : Type} {enc : TypeId × Value → H} {w : World} {spare : Nat → Bool} {held : Bool}
theorem elI (n : Nat) (cs : List Value) (y : DataW H × List MemPlace) (h : DataW.trod enc Tryz.prog w 0 spare held n 3 cs = some y) (hl : cs.length = 1) : ∃ z : Int, cs = [.int .i64 z] := by
  obtain ⟨z, e, _⟩ := DataW.trod_int (t := 3) Tryz.underlying3 h
  exact ⟨z, e⟩
theorem elB (n : Nat) (cs : List Value) (y : DataW H × List MemPlace) (h : DataW.trod enc Tryz.prog w 0 spare held n 5 cs = some y) (hl : cs.length = 1) : ∃ z : UInt8, cs = [.int .u8 z.toNat] := by
  obtain ⟨z, e, _, hw⟩ := DataW.trod_int (t := 5) Tryz.underlying5 h
  have h2 : (0 : Int) ≤ z ∧ z ≤ 255 := by
    simp [Lit.wf] at hw
    exact hw
  refine ⟨UInt8.ofNat z.toNat, ?_⟩
  rw [e]
  have : ((UInt8.ofNat z.toNat).toNat : Int) = z := by
    rw [UInt8.toNat_ofNat']
    omega
  rw [this]
theorem rd_ints {A : Option Addr} {n c fuel : Nat} {x : DataW H × List MemPlace} (h : DataW.trod enc Tryz.prog w 0 spare held fuel 27 [.slice A n c] = some x) :
    ∃ l : List Int, l.length = n ∧ n ≤ c ∧ c ≤ maxLen ∧ Rd w 1 A n (encI l) := by
  obtain ⟨l, h1, h2, h3, h4⟩ := rd_open (fun z : Int => [Value.int .i64 z]) 1 (fun _ => rfl) Tryz.underlying27 (by kernel_rfl) elI h
  exact ⟨l, h1, h2, h3, by rw [flatMap_one] at h4; exact h4⟩
theorem rd_bytes {A : Option Addr} {n c fuel : Nat} {x : DataW H × List MemPlace} (h : DataW.trod enc Tryz.prog w 0 spare held fuel 24 [.slice A n c] = some x) :
    ∃ l : List UInt8, l.length = n ∧ n ≤ c ∧ c ≤ maxLen ∧ Rd w 1 A n (encB l) := by
  obtain ⟨l, h1, h2, h3, h4⟩ := rd_open (fun z : UInt8 => [Value.int .u8 z.toNat]) 1 (fun _ => rfl) Tryz.underlying24 (by kernel_rfl) elB h
  exact ⟨l, h1, h2, h3, by rw [flatMap_one] at h4; exact h4⟩
end
end Go.Proofs.YtnlmfmceogbomaaGreatDoor

/- Slices of elements that hold slices themselves: plans, acts on a disk, texts, batches. -/
namespace Go.Proofs.YtnlmfmceogbomaaGreatDoor
open Go.RowKit Go.Deep Go.ChangeShapes Go.WideShapes
set_option linter.unusedVariables false

/-- A plan as it came in. -/
structure PlV where
  p : Pl
  F : Option Addr
  K : Option Addr
  fc : Nat
  kc : Nat
instance : Inhabited PlV := ⟨⟨default, none, none, 0, 0⟩⟩
def encPl (x : PlV) : List Value := [.int .i64 x.p.cap, .slice x.F x.p.fail.length x.fc, .int .i64 x.p.crash, .bool x.p.done, .slice x.K x.p.keep.length x.kc]
structure PlOk (w : World) (x : PlV) : Prop where
  fail : Rd w 1 x.F x.p.fail.length (encI x.p.fail)
  keep : Rd w 1 x.K x.p.keep.length (encI x.p.keep)
/-- An act on a disk, as it came in. -/
structure ActV where
  act : Int
  name : ByteArray
  nto : ByteArray
  b : List UInt8
  B : Option Addr
  bc : Nat
  n : Int
  p : PlV
instance : Inhabited ActV := ⟨⟨0, ⟨#[]⟩, ⟨#[]⟩, [], none, 0, 0, default⟩⟩

section
variable {P : Program} {H : Type} {enc : TypeId × Value → H} {w : World} {spare : Nat → Bool} {held : Bool}
theorem rd_openQ {α : Type} [Inhabited α] (f : α → List Value) (sz : Nat) (hf : ∀ x, (f x).length = sz) (Q : α → Prop) {t e : TypeId} (ht : P.underlying t = some (.slice e)) (hc : P.cellsOf e = sz)
    (hE : ∀ n cs y, DataW.trod enc P w 0 spare held n e cs = some y → cs.length = sz → ∃ x, cs = f x ∧ Q x) {A : Option Addr} {n c fuel : Nat} {x : DataW H × List MemPlace}
    (h : DataW.trod enc P w 0 spare held fuel t [.slice A n c] = some x) : ∃ l : List α, l.length = n ∧ n ≤ c ∧ c ≤ maxLen ∧ Rd w sz A n (l.flatMap f) ∧ ∀ x ∈ l, Q x := by
  rcases open_slice ht h with ⟨h1, _⟩ | ⟨a, len, cap, m, k, D, Pl, h1, _, hl, hm, hmm, _, hx⟩
  · simp only [List.cons.injEq, Value.slice.injEq, and_true] at h1
    obtain ⟨rfl, rfl, rfl⟩ := h1
    exact ⟨[], rfl, Nat.le_refl _, Nat.zero_le _, Rd.nil _ _ _, fun x hx => by cases hx⟩
  · simp only [List.cons.injEq, Value.slice.injEq, and_true] at h1
    obtain ⟨rfl, rfl, rfl⟩ := h1
    have hle : n ≤ m := by rw [hmm]; split <;> omega
    obtain ⟨g, hg⟩ := choose_lt (α := α) (n := n) (p := fun i y => w.cells? 0 (a.add (i * sz)) sz = some (f y) ∧ Q y) (fun i hi => by
      obtain ⟨cs', h2, h3⟩ := hx i (by omega)
      rw [hc] at h2
      obtain ⟨_, hlen, _⟩ := World.cells?_some h2
      obtain ⟨y, rfl, hq⟩ := hE _ _ _ h3 hlen
      exact ⟨y, h2, hq⟩)
    refine ⟨(List.range n).map g, by simp, hl, hm, ?_, ?_⟩
    · refine ⟨by rw [flatMap_length f sz hf]; simp, by simp only [maxLen] at hm; omega, fun hn => ⟨a, rfl, fun j u hu => ?_⟩⟩
      obtain ⟨i, hi, k', rfl, hk⟩ := flatMap_get f sz hf _ _ _ hu
      have hi' : i < n := by simpa using hi
      have h2 := (hg i hi').1
      obtain ⟨_, hlen, hcell⟩ := World.cells?_some h2
      have hk' : k' < sz := by have := (List.getElem?_eq_some_iff.1 hk).1; rw [hf] at this; exact this
      have h4 := hcell k' hk'
      simp only [List.getElem_map, List.getElem_range] at hk
      rw [hk] at h4
      rwa [show (a.add (i * sz)).add k' = a.add (i * sz + k') from add_add _ _ _] at h4
    · intro x hx
      obtain ⟨i, hi, rfl⟩ := List.mem_map.1 hx
      exact (hg i (List.mem_range.1 hi)).2
end
section
variable {H : Type} {enc : TypeId × Value → H} {w : World} {spare : Nat → Bool} {held : Bool}
theorem el_ints {v : Value} {y : DataW H × List MemPlace} {m : Nat} (hy : DataW.trod enc Tryz.prog w 0 spare held m 27 [v] = some y) : ∃ (A : Option Addr) (l : List Int) (c : Nat), v = .slice A l.length c ∧ Rd w 1 A l.length (encI l) := by
  rcases open_slice Tryz.underlying27 hy with ⟨h1, _⟩ | ⟨a, len, cap, _, _, _, _, h1, _⟩
  · simp only [List.cons.injEq, and_true] at h1
    subst h1
    exact ⟨none, [], 0, rfl, Rd.nil _ _ _⟩
  · simp only [List.cons.injEq, and_true] at h1
    subst h1
    obtain ⟨l, rfl, _, _, hr⟩ := rd_ints hy
    exact ⟨_, l, cap, rfl, hr⟩
set_option maxRecDepth 100000 in
theorem elPl (n : Nat) (cs : List Value) (y : DataW H × List MemPlace) (h : DataW.trod enc Tryz.prog w 0 spare held n 29 cs = some y) (hl : cs.length = 5) : ∃ x : PlV, cs = encPl x ∧ PlOk w x := by
  obtain ⟨xs, n, _, _, _, hxl, hfs⟩ := DataW.trod_struct Tryz.underlying29 h
  match cs, hl, xs, hxl with
  | [v0, v1, v2, v3, v4], _, [y0, y1, y2, y3, y4], _ =>
    have g0 := hfs 0 _ rfl
    have g1 := hfs 1 _ rfl
    have g2 := hfs 2 _ rfl
    have g3 := hfs 3 _ rfl
    have g4 := hfs 4 _ rfl
    obtain ⟨c1, e0, _⟩ := DataW.trod_int (t := 3) Tryz.underlying3 g0
    obtain ⟨c2, e2, _⟩ := DataW.trod_int (t := 3) Tryz.underlying3 g2
    obtain ⟨b, e3, _⟩ := DataW.trod_bool (t := 4) Tryz.underlying4 g3
    obtain ⟨F, lf, fc, rfl, hF⟩ := el_ints (v := v1) (y := y1) (m := n) g1
    obtain ⟨K, lk, kc, rfl, hK⟩ := el_ints (v := v4) (y := y4) (m := n) g4
    have e0' : [v0] = [.int .i64 c1] := e0
    have e2' : [v2] = [.int .i64 c2] := e2
    have e3' : [v3] = [.bool b] := e3
    simp only [List.cons.injEq, and_true] at e0' e2' e3'
    subst e0' e2' e3'
    exact ⟨⟨⟨c1, lf, c2, b, lk⟩, F, K, fc, kc⟩, rfl, hF, hK⟩
end
end Go.Proofs.YtnlmfmceogbomaaGreatDoor
