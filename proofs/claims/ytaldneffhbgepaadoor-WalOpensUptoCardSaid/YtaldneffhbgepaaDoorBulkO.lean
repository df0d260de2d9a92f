/- What the bound of an '..Upto' statement gives of ops. -/
import Derived.Test.YtaldneffhbgepaaDoorRows
import Derived.Test.YtaldneffhbgepaaDoorOpenB
namespace Go.Proofs.YtaldneffhbgepaaDoor
open Go.RowKit Go.Deep Go.ChangeShapes Go.WideShapes
set_option linter.unusedVariables false

theorem bulkO_part {H : Type} {d : DataW H} {l : List (DataW H)} (h : d ∈ l) : Rows.uptoBulk d ≤ Rows.uptoBulkAll l := by
  induction l with
  | nil => cases h
  | cons x r ih =>
    simp only [Rows.uptoBulkAll]
    cases List.mem_cons.1 h with
    | inl e => subst e; omega
    | inr e => have := ih e; omega
section
variable {P : Program} {H : Type} {enc : TypeId × Value → H} {w : World} {spare : Nat → Bool} {held : Bool}
theorem rd_openM {α : Type} [Inhabited α] (R : Nat) (f : α → List Value) (sz : Nat) (hf : ∀ x, (f x).length = sz) (Q : α → Prop) {t e : TypeId} (ht : P.underlying t = some (.slice e)) (hc : P.cellsOf e = sz)
    (hE : ∀ n cs y, DataW.trod enc P w 0 spare held n e cs = some y → cs.length = sz → Rows.uptoBulk y.1 ≤ R → ∃ x, cs = f x ∧ Q x) {A : Option Addr} {n c fuel : Nat} {x : DataW H × List MemPlace}
    (h : DataW.trod enc P w 0 spare held fuel t [.slice A n c] = some x) (hw : Rows.uptoBulk x.1 ≤ R) : ∃ l : List α, l.length = n ∧ n ≤ c ∧ c ≤ maxLen ∧ Rd w sz A n (l.flatMap f) ∧ ∀ x ∈ l, Q x := by
  rcases open_slice ht h with ⟨h1, _⟩ | ⟨a, len, cap, m, k, D, Pl, h1, _, hl, hm, hmm, rfl, hx⟩
  · simp only [List.cons.injEq, Value.slice.injEq, and_true] at h1
    obtain ⟨rfl, rfl, rfl⟩ := h1
    exact ⟨[], rfl, Nat.le_refl _, Nat.zero_le _, Rd.nil _ _ _, fun x hx => by cases hx⟩
  · simp only [List.cons.injEq, Value.slice.injEq, and_true] at h1
    obtain ⟨rfl, rfl, rfl⟩ := h1
    have hle : n ≤ m := by rw [hmm]; split <;> omega
    obtain ⟨g, hg⟩ := choose_lt (α := α) (n := n) (p := fun i y => w.cells? 0 (a.add (i * sz)) sz = some (f y) ∧ Q y) (fun i hi => by
      obtain ⟨cs', h2, h3⟩ := hx i (by omega)
      rw [hc] at h2
      obtain ⟨_, hlen, _⟩ := World.cells?_some h2
      obtain ⟨y, rfl, hq⟩ := hE _ _ _ h3 hlen (by
        have h4 : Rows.uptoBulk (D i) ≤ Rows.uptoBulkAll ((List.range n).map D) := bulkO_part (List.mem_map.2 ⟨i, List.mem_range.2 hi, rfl⟩)
        simp only [Rows.uptoBulk] at hw
        show Rows.uptoBulk (D i) ≤ R
        omega)
      exact ⟨y, h2, hq⟩)
    refine ⟨(List.range n).map g, by simp, hl, hm, ?_, ?_⟩
    · refine ⟨by rw [flatMap_length f sz hf]; simp, by simp only [maxLen] at hm; omega, fun hn => ⟨a, rfl, fun j u hu => ?_⟩⟩
      obtain ⟨i, hi, k', rfl, hk⟩ := flatMap_get f sz hf _ _ _ hu
      have hi' : i < n := by simpa using hi
      have h2 := (hg i hi').1
      obtain ⟨_, hlen, hcell⟩ := World.cells?_some h2
      have hk' : k' < sz := by have := (List.getElem?_eq_some_iff.1 hk).1; rw [hf] at this; exact this
      have h4 := hcell k' hk'
      simp only [List.getElem_map, List.getElem_range] at hk
      rw [hk] at h4
      rwa [show (a.add (i * sz)).add k' = a.add (i * sz + k') from add_add _ _ _] at h4
    · intro x hx
      obtain ⟨i, hi, rfl⟩ := List.mem_map.1 hx
      exact (hg i (List.mem_range.1 hi)).2
end
section
variable {H : Type} {enc : TypeId × Value → H} {w : World} {spare : Nat → Bool} {held : Bool}
set_option maxRecDepth 100000 in
theorem elOM (n : Nat) (cs : List Value) (y : DataW H × List MemPlace) (h : DataW.trod enc Tryd.prog w 0 spare held n 67 cs = some y) (hl : cs.length = 3) (hw : Rows.uptoBulk y.1 ≤ 1048576) : ∃ o : Op3, cs = encO o ∧ o.k.size + o.v.size ≤ 1048576 := by
  obtain ⟨y0, y1, y2, m, hy, hm, h0, h1, h2⟩ := trod_struct3 Tryd.underlying67 h
  match cs, hl with
  | [v0, v1, v2], _ =>
    obtain ⟨b, e0, _⟩ := DataW.trod_bool (t := 4) Tryd.underlying4 h0
    obtain ⟨s1, e1, f1, _⟩ := DataW.trod_string (t := 9) Tryd.underlying9 h1
    obtain ⟨s2, e2, f2, _⟩ := DataW.trod_string (t := 9) Tryd.underlying9 h2
    have e0' : [v0] = [.bool b] := e0
    have e1' : [v1] = [.string s1] := e1
    have e2' : [v2] = [.string s2] := e2
    simp only [List.cons.injEq, and_true] at e0' e1' e2'
    refine ⟨⟨b, s1, s2⟩, by rw [e0', e1', e2']; rfl, ?_⟩
    subst f1 f2
    rw [hy] at hw
    simp only [Rows.uptoBulk, Rows.uptoBulkAll, Array.length_toList] at hw
    have g1 : s1.size = s1.data.size := rfl
    have g2 : s2.size = s2.data.size := rfl
    show s1.size + s2.size ≤ _
    omega
theorem rd_opsM {A : Option Addr} {n c fuel : Nat} {x : DataW H × List MemPlace} (h : DataW.trod enc Tryd.prog w 0 spare held fuel 22 [.slice A n c] = some x) (hw : Rows.uptoBulk x.1 ≤ 1048576) :
    ∃ l : List Op3, l.length = n ∧ n ≤ c ∧ c ≤ maxLen ∧ Rd w 3 A n (encOs l) ∧ ∀ o ∈ l, o.k.size + o.v.size ≤ 1048576 :=
  rd_openM 1048576 encO 3 (fun _ => rfl) (fun o : Op3 => o.k.size + o.v.size ≤ 1048576) Tryd.underlying22 (by kernel_rfl) elOM h hw
end
end Go.Proofs.YtaldneffhbgepaaDoor

