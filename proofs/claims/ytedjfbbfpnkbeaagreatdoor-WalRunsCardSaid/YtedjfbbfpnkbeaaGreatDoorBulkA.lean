/- What the bound of an '..Upto' statement gives of acts and plans. -/
import Derived.Test.YtedjfbbfpnkbeaaGreatDoorRows
import Derived.Test.YtedjfbbfpnkbeaaGreatDoorOpenS
import Derived.Test.YtedjfbbfpnkbeaaGreatDoorDoA
namespace Go.Proofs.YtedjfbbfpnkbeaaGreatDoor
open Go.RowKit Go.Deep Go.ChangeShapes Go.WideShapes
set_option linter.unusedVariables false

theorem bulk_one {H : Type} (d : DataW H) : 1 ≤ Rows.uptoBulk d := by
  cases d with
  | lit l => cases l <;> simp [Rows.uptoBulk]
  | nil => simp [Rows.uptoBulk]
  | ptr d => simp [Rows.uptoBulk]
  | slice elems spare => simp [Rows.uptoBulk]
  | agg parts => simp [Rows.uptoBulk]
  | iface t d => simp [Rows.uptoBulk]
  | map entries => simp [Rows.uptoBulk]
  | held h => simp [Rows.uptoBulk]
theorem bulk_part {H : Type} {d : DataW H} {l : List (DataW H)} (h : d ∈ l) : Rows.uptoBulk d ≤ Rows.uptoBulkAll l := by
  induction l with
  | nil => cases h
  | cons x r ih =>
    simp only [Rows.uptoBulkAll]
    cases List.mem_cons.1 h with
    | inl e => subst e; omega
    | inr e => have := ih e; omega
theorem bulk_length {H : Type} (l : List (DataW H)) : l.length ≤ Rows.uptoBulkAll l := by
  induction l with
  | nil => simp [Rows.uptoBulkAll]
  | cons x r ih => have := bulk_one x; simp only [Rows.uptoBulkAll, List.length_cons]; omega
theorem bulk_map {H α : Type} (l : List α) (f : α → DataW H) (m : α → Nat) (h : ∀ x ∈ l, m x ≤ Rows.uptoBulk (f x)) : (l.map m).sum ≤ Rows.uptoBulkAll (l.map f) := by
  induction l with
  | nil => simp [Rows.uptoBulkAll]
  | cons x r ih =>
    have h1 := h x (by simp)
    have h2 := ih (fun y hy => h y (by simp [hy]))
    simp only [List.map_cons, List.sum_cons, Rows.uptoBulkAll]
    omega
section
variable {P : Program} {H : Type} {enc : TypeId × Value → H} {w : World} {spare : Nat → Bool} {held : Bool}
theorem rd_openS {α : Type} [Inhabited α] (f : α → List Value) (sz : Nat) (hf : ∀ x, (f x).length = sz) (Q : α → Prop) (m : α → Nat) {t e : TypeId} (ht : P.underlying t = some (.slice e)) (hc : P.cellsOf e = sz)
    (hE : ∀ n cs y, DataW.trod enc P w 0 spare held n e cs = some y → cs.length = sz → ∃ x, cs = f x ∧ Q x ∧ m x ≤ Rows.uptoBulk y.1) {A : Option Addr} {n c fuel : Nat} {x : DataW H × List MemPlace}
    (h : DataW.trod enc P w 0 spare held fuel t [.slice A n c] = some x) : ∃ l : List α, l.length = n ∧ n ≤ c ∧ c ≤ maxLen ∧ Rd w sz A n (l.flatMap f) ∧ (∀ x ∈ l, Q x) ∧ (l.map m).sum + 1 ≤ Rows.uptoBulk x.1 := by
  rcases open_slice ht h with ⟨h1, rfl⟩ | ⟨a, len, cap, m', k, D, Pl, h1, _, hl, hm, hmm, rfl, hx⟩
  · simp only [List.cons.injEq, Value.slice.injEq, and_true] at h1
    obtain ⟨rfl, rfl, rfl⟩ := h1
    exact ⟨[], rfl, Nat.le_refl _, Nat.zero_le _, Rd.nil _ _ _, (fun x hx => by cases hx), by simp [Rows.uptoBulk]⟩
  · simp only [List.cons.injEq, Value.slice.injEq, and_true] at h1
    obtain ⟨rfl, rfl, rfl⟩ := h1
    have hle : n ≤ m' := by rw [hmm]; split <;> omega
    obtain ⟨g, hg⟩ := choose_lt (α := α) (n := n) (p := fun i y => w.cells? 0 (a.add (i * sz)) sz = some (f y) ∧ Q y ∧ m y ≤ Rows.uptoBulk (D i)) (fun i hi => by
      obtain ⟨cs', h2, h3⟩ := hx i (by omega)
      rw [hc] at h2
      obtain ⟨_, hlen, _⟩ := World.cells?_some h2
      obtain ⟨y, rfl, hq, hs⟩ := hE _ _ _ h3 hlen
      exact ⟨y, h2, hq, hs⟩)
    refine ⟨(List.range n).map g, by simp, hl, hm, ?_, ?_, ?_⟩
    · refine ⟨by rw [flatMap_length f sz hf]; simp, by simp only [maxLen] at hm; omega, fun hn => ⟨a, rfl, fun j u hu => ?_⟩⟩
      obtain ⟨i, hi, k', rfl, hk⟩ := flatMap_get f sz hf _ _ _ hu
      have hi' : i < n := by simpa using hi
      have h2 := (hg i hi').1
      obtain ⟨_, hlen, hcell⟩ := World.cells?_some h2
      have hk' : k' < sz := by have := (List.getElem?_eq_some_iff.1 hk).1; rw [hf] at this; exact this
      have h4 := hcell k' hk'
      simp only [List.getElem_map, List.getElem_range] at hk
      rw [hk] at h4
      rwa [show (a.add (i * sz)).add k' = a.add (i * sz + k') from add_add _ _ _] at h4
    · intro x hx
      obtain ⟨i, hi, rfl⟩ := List.mem_map.1 hx
      exact (hg i (List.mem_range.1 hi)).2.1
    · have h2 := bulk_map (List.range n) D (fun i => m (g i)) (fun i hi => (hg i (List.mem_range.1 hi)).2.2)
      simp only [Rows.uptoBulk, List.map_map]
      have e : (m ∘ g) = fun i => m (g i) := rfl
      rw [e]
      omega
end
section
variable {H : Type} {enc : TypeId × Value → H} {w : World} {spare : Nat → Bool} {held : Bool}
theorem i64_top {c : Int} (h : (Lit.int .i64 c).wf = true) : c ≤ 9223372036854775807 := by simp [Lit.wf] at h; exact h.2
theorem bytes_bulk {v : Value} {y : DataW H × List MemPlace} {m : Nat} (hy : DataW.trod enc Tryz.prog w 0 spare held m 24 [v] = some y) : ∃ (A : Option Addr) (l : List UInt8) (c : Nat), v = .slice A l.length c ∧ Rd w 1 A l.length (encB l) ∧ l.length ≤ Rows.uptoBulk y.1 := by
  obtain ⟨A, l, c, rfl, hr⟩ := el_bytes hy
  refine ⟨A, l, c, rfl, hr, ?_⟩
  rcases open_slice Tryz.underlying24 hy with ⟨h1, rfl⟩ | ⟨a, len, cap, m', k, D, Pl, h1, _, _, _, _, rfl, _⟩
  · simp only [List.cons.injEq, Value.slice.injEq, and_true] at h1
    rw [h1.2.1]; exact Nat.zero_le _
  · simp only [List.cons.injEq, Value.slice.injEq, and_true] at h1
    have := bulk_length ((List.range len).map D)
    rw [h1.2.1]
    simp only [Rows.uptoBulk]
    simp only [List.length_map, List.length_range] at this
    omega
set_option maxRecDepth 100000 in
theorem elPlC (n : Nat) (cs : List Value) (y : DataW H × List MemPlace) (h : DataW.trod enc Tryz.prog w 0 spare held n 31 cs = some y) (hl : cs.length = 5) : ∃ x : PlV, cs = encPl x ∧ PlOk w x ∧ x.p.cap ≤ 9223372036854775807 := by
  obtain ⟨x, rfl, hx⟩ := elPl n cs y h hl
  refine ⟨x, rfl, hx, ?_⟩
  obtain ⟨xs, n, _, _, _, hxl, hfs⟩ := DataW.trod_struct Tryz.underlying31 h
  match xs, hxl with
  | [y0, y1, y2, y3, y4], _ =>
    have g0 := hfs 0 _ rfl
    obtain ⟨c1, e0, _, hw⟩ := DataW.trod_int (t := 3) Tryz.underlying3 g0
    have e0' : [Value.int .i64 x.p.cap] = [.int .i64 c1] := e0
    simp only [List.cons.injEq, and_true, Value.int.injEq, true_and] at e0'
    rw [e0']
    exact i64_top hw
/-- An act as it came in, with its numbers' bounds. -/
structure ActOk2 (w : World) (a : ActV) : Prop where
  ok : ActOk w a
  cap : a.p.p.cap ≤ 9223372036854775807
set_option maxRecDepth 100000 in
theorem open_planC {d : DataW H} {ps : List MemPlace} {cs : Array Value} (hsz : cs.size = 5) (h : DataW.Trod enc Tryz.prog w 0 spare held 31 (.agg cs) d ps) :
    ∃ x : PlV, cs = (encPl x).toArray ∧ PlOk w x ∧ x.p.cap ≤ 9223372036854775807 := by
  obtain ⟨fuel, hf⟩ := h
  obtain ⟨x, e, h1, h2⟩ := elPlC fuel cs.toList (d, ps) hf (by simpa using hsz)
  exact ⟨x, by rw [← e], h1, h2⟩
end
end Go.Proofs.YtedjfbbfpnkbeaaGreatDoor

/- What the bound of an '..Upto' statement gives of plans, and of rows of pairs. -/
namespace Go.Proofs.YtedjfbbfpnkbeaaGreatDoor
open Go.RowKit Go.Deep Go.ChangeShapes Go.WideShapes
set_option linter.unusedVariables false

/-- A row of pairs as it came in. -/
structure PsV where
  l : List Pr
  A : Option Addr
  c : Nat
instance : Inhabited PsV := ⟨⟨[], none, 0⟩⟩
def encPv (x : PsV) : List Value := [.slice x.A x.l.length x.c]
def PsOk (w : World) (x : PsV) : Prop := Rd w 2 x.A x.l.length (encPs x.l)
/-- A plan as it came in, with its numbers' bounds. -/
structure PlOk2 (w : World) (x : PlV) : Prop where
  ok : PlOk w x
  cap : x.p.cap ≤ 9223372036854775807
def plLen (x : PlV) : Nat := x.p.fail.length + x.p.keep.length
section
variable {H : Type} {enc : TypeId × Value → H} {w : World} {spare : Nat → Bool} {held : Bool}
theorem slice_bulk {t e : TypeId} (ht : Tryz.prog.underlying t = some (.slice e)) {A : Option Addr} {n c m : Nat} {y : DataW H × List MemPlace} (hy : DataW.trod enc Tryz.prog w 0 spare held m t [.slice A n c] = some y) : n ≤ Rows.uptoBulk y.1 := by
  rcases open_slice ht hy with ⟨h1, rfl⟩ | ⟨a, len, cap, m', k, D, Pl, h1, _, _, _, _, rfl, _⟩
  · simp only [List.cons.injEq, Value.slice.injEq, and_true] at h1
    rw [h1.2.1]; exact Nat.zero_le _
  · simp only [List.cons.injEq, Value.slice.injEq, and_true] at h1
    have := bulk_length ((List.range len).map D)
    rw [h1.2.1]
    simp only [Rows.uptoBulk]
    simp only [List.length_map, List.length_range] at this
    omega
set_option maxRecDepth 100000 in
theorem elPlS (n : Nat) (cs : List Value) (y : DataW H × List MemPlace) (h : DataW.trod enc Tryz.prog w 0 spare held n 31 cs = some y) (hl : cs.length = 5) : ∃ x : PlV, cs = encPl x ∧ PlOk2 w x ∧ plLen x ≤ Rows.uptoBulk y.1 := by
  obtain ⟨x, rfl, h1, h2⟩ := elPlC n cs y h hl
  refine ⟨x, rfl, ⟨h1, h2⟩, ?_⟩
  obtain ⟨xs, n, _, hy, _, hxl, hfs⟩ := DataW.trod_struct Tryz.underlying31 h
  match xs, hxl with
  | [y0, y1, y2, y3, y4], _ =>
    have g1 := hfs 1 _ rfl
    have g4 := hfs 4 _ rfl
    have b1 := slice_bulk (A := x.F) (n := x.p.fail.length) (c := x.fc) (y := y1) (m := n) Tryz.underlying29 g1
    have b4 := slice_bulk (A := x.K) (n := x.p.keep.length) (c := x.kc) (y := y4) (m := n) Tryz.underlying29 g4
    rw [hy]
    simp only [Rows.uptoBulk, List.map_cons, List.map_nil, Rows.uptoBulkAll]
    unfold plLen
    omega
def plLens (l : List PlV) : Nat := (l.map plLen).sum
theorem plLens_get (l : List PlV) (i : Nat) (h : i < l.length) : plLen l[i] ≤ plLens l := by
  unfold plLens
  have h1 := List.take_append_drop i l
  have h2 : l.drop i = l[i] :: l.drop (i + 1) := List.drop_eq_getElem_cons h
  conv => rhs; rw [← h1, h2]
  rw [List.map_append, List.sum_append, List.map_cons, List.sum_cons]
  omega
theorem rd_plansS {A : Option Addr} {n c fuel : Nat} {x : DataW H × List MemPlace} (h : DataW.trod enc Tryz.prog w 0 spare held fuel 22 [.slice A n c] = some x) :
    ∃ l : List PlV, l.length = n ∧ n ≤ c ∧ c ≤ maxLen ∧ Rd w 5 A n (l.flatMap encPl) ∧ (∀ x ∈ l, PlOk2 w x) ∧ plLens l + 1 ≤ Rows.uptoBulk x.1 :=
  rd_openS encPl 5 (fun _ => rfl) (PlOk2 w) plLen Tryz.underlying22 (by kernel_rfl) elPlS h
theorem rd_plans2 {A : Option Addr} {n c fuel : Nat} {x : DataW H × List MemPlace} (h : DataW.trod enc Tryz.prog w 0 spare held fuel 22 [.slice A n c] = some x) :
    ∃ l : List PlV, l.length = n ∧ n ≤ c ∧ c ≤ maxLen ∧ Rd w 5 A n (l.flatMap encPl) ∧ ∀ x ∈ l, PlOk2 w x :=
  rd_openQ encPl 5 (fun _ => rfl) (PlOk2 w) Tryz.underlying22 (by kernel_rfl) (fun n cs y h hl => by
    obtain ⟨x, rfl, h1, h2⟩ := elPlC n cs y h hl
    exact ⟨x, rfl, ⟨h1, h2⟩⟩) h
end
end Go.Proofs.YtedjfbbfpnkbeaaGreatDoor

