/- What the bound of an '..Upto' statement gives of plans, and of rows of pairs. -/
import Derived.Test.YtfbnkbdolimojaaBulk
namespace Go.Proofs.Ytfbnkbdolimojaa
open Go.RowKit Go.Deep Go.ChangeShapes Go.WideShapes
set_option linter.unusedVariables false

/-- A row of pairs as it came in. -/
structure PsV where
  l : List Pr
  A : Option Addr
  c : Nat
instance : Inhabited PsV := ⟨⟨[], none, 0⟩⟩
def encPv (x : PsV) : List Value := [.slice x.A x.l.length x.c]
def PsOk (w : World) (x : PsV) : Prop := Rd w 2 x.A x.l.length (encPs x.l)
/-- A plan as it came in, with its numbers' bounds. -/
structure PlOk2 (w : World) (x : PlV) : Prop where
  ok : PlOk w x
  cap : x.p.cap ≤ 9223372036854775807
def plLen (x : PlV) : Nat := x.p.fail.length + x.p.keep.length
section
variable {H : Type} {enc : TypeId × Value → H} {w : World} {spare : Nat → Bool} {held : Bool}
theorem slice_bulk {t e : TypeId} (ht : Try.prog.underlying t = some (.slice e)) {A : Option Addr} {n c m : Nat} {y : DataW H × List MemPlace} (hy : DataW.trod enc Try.prog w 0 spare held m t [.slice A n c] = some y) : n ≤ Rows.uptoBulk y.1 := by
  rcases open_slice ht hy with ⟨h1, rfl⟩ | ⟨a, len, cap, m', k, D, Pl, h1, _, _, _, _, rfl, _⟩
  · simp only [List.cons.injEq, Value.slice.injEq, and_true] at h1
    rw [h1.2.1]; exact Nat.zero_le _
  · simp only [List.cons.injEq, Value.slice.injEq, and_true] at h1
    have := bulk_length ((List.range len).map D)
    rw [h1.2.1]
    simp only [Rows.uptoBulk]
    simp only [List.length_map, List.length_range] at this
    omega
theorem el_pairs (n : Nat) (cs : List Value) (y : DataW H × List MemPlace) (h : DataW.trod enc Try.prog w 0 spare held n 42 cs = some y) (hl : cs.length = 1) : ∃ x : PsV, cs = encPv x ∧ PsOk w x := by
  rcases open_slice Try.underlying42 h with ⟨h1, _⟩ | ⟨a, len, cap, _, _, _, _, h1, _⟩
  · exact ⟨⟨[], none, 0⟩, h1, Rd.nil _ _ _⟩
  · subst h1
    obtain ⟨l, rfl, _, _, hr⟩ := rd_pairs h
    exact ⟨⟨l, some a, cap⟩, rfl, hr⟩
theorem rd_pairss {A : Option Addr} {n c fuel : Nat} {x : DataW H × List MemPlace} (h : DataW.trod enc Try.prog w 0 spare held fuel 81 [.slice A n c] = some x) :
    ∃ l : List PsV, l.length = n ∧ n ≤ c ∧ c ≤ maxLen ∧ Rd w 1 A n (l.flatMap encPv) ∧ ∀ x ∈ l, PsOk w x :=
  rd_openQ encPv 1 (fun _ => rfl) (PsOk w) Try.underlying81 (by kernel_rfl) el_pairs h
set_option maxRecDepth 100000 in
theorem elPlS (n : Nat) (cs : List Value) (y : DataW H × List MemPlace) (h : DataW.trod enc Try.prog w 0 spare held n 24 cs = some y) (hl : cs.length = 5) : ∃ x : PlV, cs = encPl x ∧ PlOk2 w x ∧ plLen x ≤ Rows.uptoBulk y.1 := by
  obtain ⟨x, rfl, h1, h2⟩ := elPlC n cs y h hl
  refine ⟨x, rfl, ⟨h1, h2⟩, ?_⟩
  obtain ⟨xs, n, _, hy, _, hxl, hfs⟩ := DataW.trod_struct Try.underlying24 h
  match xs, hxl with
  | [y0, y1, y2, y3, y4], _ =>
    have g1 := hfs 1 _ rfl
    have g4 := hfs 4 _ rfl
    have b1 := slice_bulk (A := x.F) (n := x.p.fail.length) (c := x.fc) (y := y1) (m := n) Try.underlying22 g1
    have b4 := slice_bulk (A := x.K) (n := x.p.keep.length) (c := x.kc) (y := y4) (m := n) Try.underlying22 g4
    rw [hy]
    simp only [Rows.uptoBulk, List.map_cons, List.map_nil, Rows.uptoBulkAll]
    unfold plLen
    omega
def plLens (l : List PlV) : Nat := (l.map plLen).sum
theorem plLens_get (l : List PlV) (i : Nat) (h : i < l.length) : plLen l[i] ≤ plLens l := by
  unfold plLens
  have h1 := List.take_append_drop i l
  have h2 : l.drop i = l[i] :: l.drop (i + 1) := List.drop_eq_getElem_cons h
  conv => rhs; rw [← h1, h2]
  rw [List.map_append, List.sum_append, List.map_cons, List.sum_cons]
  omega
theorem rd_plansS {A : Option Addr} {n c fuel : Nat} {x : DataW H × List MemPlace} (h : DataW.trod enc Try.prog w 0 spare held fuel 80 [.slice A n c] = some x) :
    ∃ l : List PlV, l.length = n ∧ n ≤ c ∧ c ≤ maxLen ∧ Rd w 5 A n (l.flatMap encPl) ∧ (∀ x ∈ l, PlOk2 w x) ∧ plLens l + 1 ≤ Rows.uptoBulk x.1 :=
  rd_openS encPl 5 (fun _ => rfl) (PlOk2 w) plLen Try.underlying80 (by kernel_rfl) elPlS h
end
end Go.Proofs.Ytfbnkbdolimojaa
