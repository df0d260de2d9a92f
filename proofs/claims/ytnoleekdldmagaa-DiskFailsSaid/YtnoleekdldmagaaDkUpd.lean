/- What keeps a disk where one of its files turns, where a file goes, where one comes. -/
import Derived.Test.YtnoleekdldmagaaDkWith
namespace Go.Proofs.Ytnoleekdldmagaa
open Go.RowKit
set_option linter.unusedVariables false

theorem Apart2.symm {a b : Ent} (h : Apart2 a b) : Apart2 b a := ⟨fun e => h.1 e.symm, fun k hb ha => h.2 k ha hb⟩
theorem apart_get {es : List Ent} (h : es.Pairwise Apart2) {i j : Nat} (hi : i < es.length) (hj : j < es.length) (hne : i ≠ j) : Apart2 es[i] es[j] := by
  rw [List.pairwise_iff_getElem] at h
  rcases Nat.lt_or_gt_of_ne hne with h1 | h1
  · exact h i j hi hj h1
  · exact (h j i hj hi h1).symm
theorem apart_mem {es : List Ent} (h : es.Pairwise Apart2) {i : Nat} (hi : i < es.length) {e : Ent} (he : e ∈ es.eraseIdx i) : Apart2 es[i] e := by
  obtain ⟨j, hj, hne, rfl⟩ := List.mem_eraseIdx_iff_getElem.1 he
  exact apart_get h hi hj (fun e => hne e.symm)

/-- The blocks of one file. -/
def EntB (e : Ent) (k : Nat) : Prop := k = e.g ∨ e.v.ownBlock = some k
theorem EntOk.lt {w : World} {e : Ent} (h : EntOk w e) {k : Nat} (hk : EntB e k) : k < w.heap.size := by
  rcases hk with rfl | hk
  · exact blk_lt h.blk
  · exact h.own.lt hk
theorem EntOk.mod {w w1 : World} {e : Ent} {T : Nat → Prop} (h : EntOk w e) (hm : Mod T w w1) (hs : ∀ k, EntB e k → ¬ T k) : EntOk w1 e :=
  ⟨hm.blk h.blk (hs _ (.inl rfl)), h.own.mod hm (fun g hg => hs g (.inr hg))⟩
theorem EntOk.apart {w : World} {a b : Ent} (ha : EntOk w a) (hb : EntOk w b) (h : Apart2 a b) {k : Nat} (hk : EntB b k) : ¬ EntB a k := by
  rintro (rfl | h1)
  · rcases hk with h2 | h2
    · exact h.1 h2
    · obtain ⟨c, hc⟩ := hb.own.tag h2
      exact tag_ne ha.blk hc (by decide) rfl
  · rcases hk with rfl | h2
    · obtain ⟨c, hc⟩ := ha.own.tag h1
      exact tag_ne hb.blk hc (by decide) rfl
    · exact h.2 k h1 h2

namespace DkAt
variable {w w1 : World} {p : Nat} {d : Dk} {row FA KA : Value} {es : List Ent}
theorem rowEnt (h : DkAt w p d row es FA KA) {e : Ent} (he : e ∈ es) {k : Nat} (hk : row.ownBlock = some k) : ¬ EntB e k := by
  obtain ⟨c, hc⟩ := h.row.tag hk
  rintro (rfl | h1)
  · exact tag_ne (h.ent e he).blk hc (by decide) rfl
  · obtain ⟨c', hc'⟩ := (h.ent e he).own.tag h1
    exact tag_ne hc' hc (by decide) rfl
theorem failEnt (h : DkAt w p d row es FA KA) {e : Ent} (he : e ∈ es) {k : Nat} (hk : FA.ownBlock = some k) : ¬ EntB e k := by
  obtain ⟨c, hc⟩ := h.fail.tag hk
  rintro (rfl | h1)
  · exact tag_ne (h.ent e he).blk hc (by decide) rfl
  · obtain ⟨c', hc'⟩ := (h.ent e he).own.tag h1
    exact tag_ne hc' hc (by decide) rfl
theorem keepEnt (h : DkAt w p d row es FA KA) {e : Ent} (he : e ∈ es) {k : Nat} (hk : KA.ownBlock = some k) : ¬ EntB e k := by
  obtain ⟨c, hc⟩ := h.keep.tag hk
  rintro (rfl | h1)
  · exact tag_ne (h.ent e he).blk hc (by decide) rfl
  · obtain ⟨c', hc'⟩ := (h.ent e he).own.tag h1
    exact tag_ne hc' hc (by decide) rfl
theorem diskEnt (h : DkAt w p d row es FA KA) {e : Ent} (he : e ∈ es) : ¬ EntB e p := by
  rintro (h1 | h1)
  · exact h.entNe he h1.symm
  · exact h.bytesNe he h1 rfl
theorem rowFail (h : DkAt w p d row es FA KA) {k : Nat} (hk : row.ownBlock = some k) : FA.ownBlock ≠ some k := by
  intro hf
  obtain ⟨c, hc⟩ := h.row.tag hk
  obtain ⟨c', hc'⟩ := h.fail.tag hf
  exact tag_ne hc hc' (by decide) rfl
theorem rowKeep (h : DkAt w p d row es FA KA) {k : Nat} (hk : row.ownBlock = some k) : KA.ownBlock ≠ some k := by
  intro hf
  obtain ⟨c, hc⟩ := h.row.tag hk
  obtain ⟨c', hc'⟩ := h.keep.tag hf
  exact tag_ne hc hc' (by decide) rfl

/-- One file turns. -/
theorem setEnt (h : DkAt w p d row es FA KA) {i : Nat} (hi : i < es.length) {e' : Ent} (hg : e'.g = es[i].g) (hok : EntOk w1 e') (hm : Mod (EntB es[i]) w w1) (hno : NewOr w es[i].v e'.v)
    (hn : e'.f.n = es[i].f.n) (hs : e'.f.s ≤ e'.f.b.length) : DkAt w1 p { d with fs := (es.set i e').map (·.f) } row (es.set i e') FA KA := by
  have hmem : es[i] ∈ es := List.getElem_mem _
  have hother : ∀ j, ∀ hj : j < es.length, j ≠ i → Apart2 e' es[j] := by
    intro j hj hne
    have ha := apart_get h.ap hi hj (fun e => hne e.symm)
    refine ⟨by rw [hg]; exact ha.1, fun k hk hk2 => ?_⟩
    rcases hno with h1 | ⟨b, h1, hb⟩
    · exact ha.2 k (by rw [← h1]; exact hk) hk2
    · rw [h1] at hk
      injection hk with hk
      subst hk
      have := (h.ent _ (List.getElem_mem hj)).own.lt hk2
      omega
  refine ⟨hm.blk h.blk (h.diskEnt hmem), ?_, rfl, ?_, ?_, h.fail.mod hm (fun g hg => h.failEnt hmem hg), h.keep.mod hm (fun g hg => h.keepEnt hmem hg), ?_, ?_⟩
  · have e1 : (es.set i e').map (·.g) = es.map (·.g) := by
      refine List.ext_getElem (by simp) fun j h1 h2 => ?_
      simp only [List.getElem_map, List.getElem_set]
      split
      · rename_i hij; subst hij; exact hg
      · rfl
    rw [e1, List.length_set]
    exact h.row.mod hm (fun g hg => h.rowEnt hmem hg)
  · intro e he
    rcases List.mem_or_eq_of_mem_set he with he | rfl
    · by_cases hei : e.g = es[i].g
      · obtain ⟨j, hj, rfl⟩ := List.getElem_of_mem he
        by_cases hji : j = i
        · subst hji
          obtain ⟨k, hk, hk2⟩ := List.getElem_of_mem ‹es[j] ∈ es.set j e'›
          rw [List.getElem_set] at hk2
          split at hk2
          · rw [← hk2]; exact hok
          · rename_i hkj
            have := (apart_get h.ap (by simpa using hk) hi (fun e => hkj e.symm)).1
            rw [hk2] at this
            exact absurd rfl this
        · exact absurd hei (apart_get h.ap hj hi hji).1
      · obtain ⟨j, hj, rfl⟩ := List.getElem_of_mem he
        have hji : i ≠ j := by rintro rfl; exact hei rfl
        exact (h.ent _ he).mod hm (fun k hk => (h.ent _ hmem).apart (h.ent _ he) (apart_get h.ap hi hj hji) hk)
    · exact hok
  · rw [List.pairwise_iff_getElem]
    intro a b ha hb hab
    simp only [List.length_set] at ha hb
    rw [List.getElem_set, List.getElem_set]
    split
    · rename_i hia
      subst hia
      rw [if_neg (by omega)]
      exact hother b hb (by omega)
    · split
      · rename_i hib
        subst hib
        exact (hother a ha (by omega)).symm
      · exact apart_get h.ap ha hb (by omega)
  · have e1 : asPs ((es.set i e').map (·.f)) = asPs d.fs := by
      rw [h.fs]
      unfold asPs
      refine List.ext_getElem (by simp) fun j h1 h2 => ?_
      simp only [List.getElem_map, List.getElem_set]
      split
      · rename_i hij; subst hij; unfold asP; rw [hn]
      · rfl
    show Rises (asPs _)
    rw [e1]
    exact h.rises
  · intro f hf
    simp only [List.mem_map] at hf
    obtain ⟨e, he, rfl⟩ := hf
    rcases List.mem_or_eq_of_mem_set he with he | rfl
    · exact h.sync _ (by rw [h.fs]; exact List.mem_map_of_mem he)
    · exact hs

/-- One file turns: the disk goes on. -/
theorem toEnt {S : Nat → Prop} (h : DkAt w p d row es FA KA) (hS : ∀ k, S k ↔ Foot p row es FA KA k) {i : Nat} (hi : i < es.length) {e' : Ent} (hg : e'.g = es[i].g) (hok : EntOk w1 e') (hm : Mod (EntB es[i]) w w1) (hno : NewOr w es[i].v e'.v)
    (hn : e'.f.n = es[i].f.n) (hs : e'.f.s ≤ e'.f.b.length) {d' : Dk} (hd' : d' = { d with fs := d.fs.set i e'.f }) : DStep w S p d' w1 := by
  have hfs : d.fs.set i e'.f = (es.set i e').map (·.f) := by rw [h.fs, List.map_set]
  refine ⟨Foot p row (es.set i e') FA KA, ⟨row, es.set i e', FA, KA, ?_, fun _ => Iff.rfl⟩, ?_, ?_⟩
  · rw [hd', hfs]
    exact h.setEnt hi hg hok hm hno hn hs
  · refine hm.mono (fun k _ hk => (hS k).2 (.inr (.inr (.inl ⟨es[i], List.getElem_mem _, ?_⟩))))
    rcases hk with rfl | hk
    · exact .inl rfl
    · exact .inr hk
  · rintro k (rfl | hk | ⟨e, he, hk⟩ | hk | hk)
    · exact .inl ((hS _).2 (.inl rfl))
    · exact .inl ((hS _).2 (.inr (.inl hk)))
    · rcases List.mem_or_eq_of_mem_set he with he | rfl
      · exact .inl ((hS _).2 (.inr (.inr (.inl ⟨e, he, hk⟩))))
      · rcases hk with rfl | hk
        · exact .inl ((hS _).2 (.inr (.inr (.inl ⟨es[i], List.getElem_mem _, .inl hg.symm⟩))))
        · rcases hno with h1 | ⟨b, h1, hb⟩
          · exact .inl ((hS _).2 (.inr (.inr (.inl ⟨es[i], List.getElem_mem _, .inr (by rw [← h1]; exact hk)⟩))))
          · rw [h1] at hk
            injection hk with hk
            subst hk
            exact .inr hb
    · exact .inl ((hS _).2 (.inr (.inr (.inr (.inl hk)))))
    · exact .inl ((hS _).2 (.inr (.inr (.inr (.inr hk)))))
end DkAt
end Go.Proofs.Ytnoleekdldmagaa
