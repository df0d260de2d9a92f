/- Rows of rows of ops, and of bytes, as they come in. -/
import Derived.Test.YtdmdiokfpbmnaaaDoorOpenS
import Derived.Test.YtdmdiokfpbmnaaaDoorBatK
namespace Go.Proofs.YtdmdiokfpbmnaaaDoor
open Go.RowKit Go.Deep Go.ChangeShapes Go.WideShapes
set_option linter.unusedVariables false

/-- A batch as it came in. -/
structure OsV where
  l : List Op3
  A : Option Addr
  c : Nat
instance : Inhabited OsV := ⟨⟨[], none, 0⟩⟩
def encOv (x : OsV) : List Value := [.slice x.A x.l.length x.c]
def OsOk (w : World) (x : OsV) : Prop := Rd w 3 x.A x.l.length (encOs x.l)
theorem OsOk.mod0 {w w1 : World} {x : OsV} (h : OsOk w x) (hm : Mod NoneB w w1) : OsOk w1 x := Rd.mod0 h hm
section
variable {P : Program} {H : Type} {enc : TypeId × Value → H} {w : World} {spare : Nat → Bool} {held : Bool}
theorem mem_weightsAll {e : TypeId} {d : DataW H} {n : Nat} (hn : n ∈ d.weights P e) : ∀ {l : List (DataW H)}, d ∈ l → n ∈ DataW.weightsAll P e l
  | x :: l, h => by
    rw [DataW.weightsAll]
    rcases List.mem_cons.1 h with rfl | h
    · exact List.mem_append_left _ hn
    · exact List.mem_append_right _ (mem_weightsAll hn h)
/-- A slice's elements, each within the row's reach. -/
theorem rd_openW {α : Type} [Inhabited α] (f : α → List Value) (sz : Nat) (hf : ∀ x, (f x).length = sz) (Q : α → Prop) {t e : TypeId} (ht : P.underlying t = some (.slice e)) (hc : P.cellsOf e = sz)
    (hE : ∀ n cs y, DataW.trod enc P w 0 spare held n e cs = some y → cs.length = sz → (∀ k ∈ y.1.weights P e, k ≤ reachBytes) → ∃ x, cs = f x ∧ Q x) {A : Option Addr} {n c fuel : Nat} {x : DataW H × List MemPlace}
    (h : DataW.trod enc P w 0 spare held fuel t [.slice A n c] = some x) (hw : ∀ k ∈ x.1.weights P t, k ≤ reachBytes) : ∃ l : List α, l.length = n ∧ n ≤ c ∧ c ≤ maxLen ∧ Rd w sz A n (l.flatMap f) ∧ ∀ x ∈ l, Q x := by
  rcases open_slice ht h with ⟨h1, _⟩ | ⟨a, len, cap, m, k, D, Pl, h1, _, hl, hm, hmm, rfl, hx⟩
  · simp only [List.cons.injEq, Value.slice.injEq, and_true] at h1
    obtain ⟨rfl, rfl, rfl⟩ := h1
    exact ⟨[], rfl, Nat.le_refl _, Nat.zero_le _, Rd.nil _ _ _, fun x hx => by cases hx⟩
  · simp only [List.cons.injEq, Value.slice.injEq, and_true] at h1
    obtain ⟨rfl, rfl, rfl⟩ := h1
    have hle : n ≤ m := by rw [hmm]; split <;> omega
    obtain ⟨g, hg⟩ := choose_lt (α := α) (n := n) (p := fun i y => w.cells? 0 (a.add (i * sz)) sz = some (f y) ∧ Q y) (fun i hi => by
      obtain ⟨cs', h2, h3⟩ := hx i (by omega)
      rw [hc] at h2
      obtain ⟨_, hlen, _⟩ := World.cells?_some h2
      obtain ⟨y, rfl, hq⟩ := hE _ _ _ h3 hlen (fun k hk => hw k (by
        show k ∈ DataW.weights P t (.slice _ _)
        rw [DataW.weights]
        simp only [ht]
        exact List.mem_cons_of_mem _ (List.mem_append_left _ (mem_weightsAll hk (List.mem_map.2 ⟨i, List.mem_range.2 hi, rfl⟩)))))
      exact ⟨y, h2, hq⟩)
    refine ⟨(List.range n).map g, by simp, hl, hm, ?_, ?_⟩
    · refine ⟨by rw [flatMap_length f sz hf]; simp, by simp only [maxLen] at hm; omega, fun hn => ⟨a, rfl, fun j u hu => ?_⟩⟩
      obtain ⟨i, hi, k', rfl, hk⟩ := flatMap_get f sz hf _ _ _ hu
      have hi' : i < n := by simpa using hi
      have h2 := (hg i hi').1
      obtain ⟨_, hlen, hcell⟩ := World.cells?_some h2
      have hk' : k' < sz := by have := (List.getElem?_eq_some_iff.1 hk).1; rw [hf] at this; exact this
      have h4 := hcell k' hk'
      simp only [List.getElem_map, List.getElem_range] at hk
      rw [hk] at h4
      rwa [show (a.add (i * sz)).add k' = a.add (i * sz + k') from add_add _ _ _] at h4
    · intro x hx
      obtain ⟨i, hi, rfl⟩ := List.mem_map.1 hx
      exact (hg i (List.mem_range.1 hi)).2
end
section
variable {H : Type} {enc : TypeId × Value → H} {w : World} {spare : Nat → Bool} {held : Bool}
theorem el_part (n : Nat) (cs : List Value) (y : DataW H × List MemPlace) (h : DataW.trod enc Tryd.prog w 0 spare held n 33 cs = some y) (hl : cs.length = 1) (hw : ∀ k ∈ y.1.weights Tryd.prog 33, k ≤ reachBytes) : ∃ x : Part, cs = encPart x ∧ PartOk w x := by
  rcases open_slice Tryd.underlying33 h with ⟨h1, _⟩ | ⟨a, len, cap, m, _, D, _, h1, _, _, _, _, h2, _⟩
  · exact ⟨⟨none, [], 0⟩, h1, Rd.nil _ _ _, Nat.le_refl _, Nat.zero_le _⟩
  · subst h1
    have hb : (len + (m - len)) * 1 ≤ reachBytes := by
      refine hw _ ?_
      rw [h2]
      show _ ∈ DataW.weights Tryd.prog 33 (.slice _ _)
      rw [DataW.weights]
      simp only [Tryd.underlying33, List.length_map, List.length_range]
      rw [show Tryd.prog.bytesOf 5 = 1 by kernel_rfl]
      exact List.mem_cons_self ..
    obtain ⟨l, rfl, hc, _, hr⟩ := rd_bytes h
    exact ⟨⟨some a, l, cap⟩, rfl, hr, hc, by simp only [reachBytes] at hb; simp only; omega⟩
theorem rd_parts {A : Option Addr} {n c fuel : Nat} {x : DataW H × List MemPlace} (h : DataW.trod enc Tryd.prog w 0 spare held fuel 41 [.slice A n c] = some x) (hw : ∀ k ∈ x.1.weights Tryd.prog 41, k ≤ reachBytes) :
    ∃ l : List Part, l.length = n ∧ n ≤ c ∧ c ≤ maxLen ∧ Rd w 1 A n (l.flatMap encPart) ∧ ∀ x ∈ l, PartOk w x :=
  rd_openW encPart 1 (fun _ => rfl) (PartOk w) Tryd.underlying41 (by kernel_rfl) el_part h hw
end
end Go.Proofs.YtdmdiokfpbmnaaaDoor

