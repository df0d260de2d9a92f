/- A disk's put. -/
import Derived.Test.YtnoleekdldmagaaDkOps3
namespace Go.Proofs.Ytnoleekdldmagaa
open Go.RowKit
set_option linter.unusedVariables false

def putE (es : List Ent) (d : Dk) (x : Ent) : List Ent := es.take (lbF d.fs x.f.n) ++ x :: es.drop (if hitF d.fs x.f.n then lbF d.fs x.f.n + 1 else lbF d.fs x.f.n)
theorem mem_putE {es : List Ent} {d : Dk} {x e : Ent} (h : e ∈ putE es d x) : e = x ∨ e ∈ es := by
  unfold putE at h
  rw [List.mem_append, List.mem_cons] at h
  rcases h with h | h | h
  · exact .inr (List.mem_of_mem_take h)
  · exact .inl h
  · exact .inr (List.mem_of_mem_drop h)
theorem putE_apart {es : List Ent} {d : Dk} {x : Ent} (h : es.Pairwise Apart2) (hx : ∀ e ∈ es, Apart2 e x) : (putE es d x).Pairwise Apart2 := by
  unfold putE
  rw [List.pairwise_append, List.pairwise_cons]
  refine ⟨h.sublist (List.take_sublist _ _), ⟨fun e he => (hx e (List.mem_of_mem_drop he)).symm, h.sublist (List.drop_sublist _ _)⟩, ?_⟩
  intro a ha b hb
  rw [List.mem_cons] at hb
  rcases hb with rfl | hb
  · exact hx a (List.mem_of_mem_take ha)
  · have hs : (es.take (lbF d.fs x.f.n) ++ es.drop (lbF d.fs x.f.n)).Pairwise Apart2 := by rw [List.take_append_drop]; exact h
    refine (List.pairwise_append.1 hs).2.2 a ha b ?_
    split at hb
    · exact List.mem_of_mem_drop (by rw [List.drop_drop]; exact hb)
    · exact hb
theorem putE_fs {es : List Ent} {d : Dk} {x : Ent} (h : d.fs = es.map (·.f)) : putF d.fs x.f = (putE es d x).map (·.f) := by
  unfold putF putE
  rw [List.map_append, List.map_cons, List.map_take, List.map_drop, ← h]
theorem putF_as (fs : List Fl) (f : Fl) : asPs (putF fs f) = putT (asPs fs) f.n ⟨#[]⟩ := by
  unfold putF putT asPs lbF hitF
  rw [List.map_append, List.map_cons, List.map_take, List.map_drop]
  rfl
theorem mem_putF {fs : List Fl} {f g : Fl} (h : g ∈ putF fs f) : g = f ∨ g ∈ fs := by
  unfold putF at h
  rw [List.mem_append, List.mem_cons] at h
  rcases h with h | h | h
  · exact .inr (List.mem_of_mem_take h)
  · exact .inl h
  · exact .inr (List.mem_of_mem_drop h)

theorem insertGn_calls (l : List Nat) (n : Nat) (hl : l.length = n) (x : Nat) (i : Nat) (v : Value) (gx : Nat) (w : World) (hown : Own w 118 1 v n (encGs l)) (hi : i ≤ n)
    (hx : w.heap[gx]? = some (.cells #[.pointer (some ⟨x, 0, none⟩)] 118 (0, 0))) (hne : ∀ g, v.ownBlock = some g → g ≠ gx) (hsz : (n + 1) * 8 ≤ 140737488355328) :
    Calls Try.prog 122 #[v, .int .i64 i, .slice (some ⟨gx, 0, none⟩) 1 1] w fun e w' =>
      ∃ v', e = .returned v' ∧ Own w' 118 1 v' (n + 1) (encGs (l.take i ++ x :: l.drop i)) ∧ Mod (OnlyBlk v) w w' ∧ NewOr w v v' := by
  subst hl
  exact insertG_calls l x i v gx w hown hi hx hne hsz

/-- The disk's own block gets another row. -/
theorem DkAt.rowTo {w w5 : World} {p : Nat} {d : Dk} {row row' FA KA : Value} {es es' : List Ent} {fs' : List Fl} (h : DkAt w p d row es FA KA) (hm : Mod (OnlyBlk row) w w5) (hno : NewOr w row row')
    (ho : Own w5 118 1 row' es'.length (encGs (es'.map (·.g)))) (hfs : fs' = es'.map (·.f)) (hent : ∀ e ∈ es', EntOk w e) (hout : ∀ e ∈ es', e ∈ es ∨ ¬ ∃ k, EntB e k ∧ Foot p row es FA KA k) (hap : es'.Pairwise Apart2) (hr : Rises (asPs fs')) (hsy : ∀ f ∈ fs', f.s ≤ f.b.length) :
    DkAt (w5.setCell ⟨p, 5, none⟩ row') p { d with fs := fs' } row' es' FA KA ∧ Mod (fun k => k = p ∨ row.ownBlock = some k) w (w5.setCell ⟨p, 5, none⟩ row') := by
  have hp5 : w5.heap[p]? = some (.cells (dkCells d row FA KA) 114 (0, 0)) := hm.blk h.blk (fun hk => h.rowNe hk rfl)
  have hms : Mod (fun k => k = p) w5 (w5.setCell ⟨p, 5, none⟩ row') := Mod.setCell (S := fun k => k = p) (Mod.refl _ _) (p := ⟨p, 5, none⟩) (fun _ => rfl) _
  have hmm : Mod (fun k => k = p ∨ row.ownBlock = some k) w (w5.setCell ⟨p, 5, none⟩ row') := (hm.mono (fun _ _ hk => .inr hk)).trans hms (fun _ _ hk => .inl hk)
  have hentp : ∀ e ∈ es', ∀ k, EntB e k → ¬ (k = p ∨ row.ownBlock = some k) := by
    intro e he k hk hk2
    rcases hout e he with h1 | h1
    · rcases hk2 with rfl | hk2
      · exact h.diskEnt h1 hk
      · exact h.rowEnt h1 hk2 hk
    · refine h1 ⟨k, hk, ?_⟩
      rcases hk2 with rfl | hk2
      · exact .inl rfl
      · exact .inr (.inl hk2)
  refine ⟨⟨(setCell_blk hp5).trans rfl, ho.mod hms (fun g hg hgp => ?_), hfs, fun e he => (hent e he).mod hmm (hentp e he), hap, h.fail.mod hmm (fun g hg hk => ?_), h.keep.mod hmm (fun g hg hk => ?_), hr, hsy⟩, hmm⟩
  · obtain ⟨c', hc'⟩ := ho.tag hg
    exact tag_ne hp5 hc' (by decide) hgp.symm
  · rcases hk with rfl | hk
    · exact h.failNe hg rfl
    · exact h.rowFail hk hg
  · rcases hk with rfl | hk
    · exact h.keepNe hg rfl
    · exact h.rowKeep hk hg

/-- The row is written in place. -/
theorem DkAt.rowSame {w w5 : World} {p : Nat} {d : Dk} {row FA KA : Value} {es es' : List Ent} {fs' : List Fl} (h : DkAt w p d row es FA KA) (hm : Mod (OnlyBlk row) w w5)
    (ho : Own w5 118 1 row es'.length (encGs (es'.map (·.g)))) (hfs : fs' = es'.map (·.f)) (hent : ∀ e ∈ es', EntOk w e) (hout : ∀ e ∈ es', e ∈ es ∨ ¬ ∃ k, EntB e k ∧ Foot p row es FA KA k) (hap : es'.Pairwise Apart2) (hr : Rises (asPs fs')) (hsy : ∀ f ∈ fs', f.s ≤ f.b.length) :
    DkAt w5 p { d with fs := fs' } row es' FA KA := by
  have hentp : ∀ e ∈ es', ∀ k, EntB e k → ¬ row.ownBlock = some k := by
    intro e he k hk hk2
    rcases hout e he with h1 | h1
    · exact h.rowEnt h1 hk2 hk
    · exact h1 ⟨k, hk, .inr (.inl hk2)⟩
  exact ⟨hm.blk h.blk (fun hk => h.rowNe hk rfl), ho, hfs, fun e he => (hent e he).mod hm (hentp e he), hap, h.fail.mod hm (fun g hg hk => h.rowFail hk hg), h.keep.mod hm (fun g hg hk => h.rowKeep hk hg), hr, hsy⟩

theorem encGs_set (l : List Nat) (i x : Nat) : (encGs l).set i (.pointer (some ⟨x, 0, none⟩)) = encGs (l.set i x) := by
  unfold encGs
  induction l generalizing i with
  | nil => simp
  | cons y l ih =>
    cases i with
    | zero => simp [encG]
    | succ i => simp only [List.flatMap_cons, List.set_cons_succ, encG, List.singleton_append, ih]

set_option maxHeartbeats 2000000 in
set_option maxRecDepth 100000 in
theorem dput_calls (w : World) (p : Nat) (d : Dk) (row FA KA : Value) (es : List Ent) (x : Ent) (hd : DkAt w p d row es FA KA) (hx : EntOk w x) (hxF : ∀ k, EntB x k → ¬ Foot p row es FA KA k) (hxs : x.f.s ≤ x.f.b.length) (hlen : es.length ≤ 1099511627776) :
    Calls Try.prog 78 #[.pointer (some ⟨p, 0, none⟩), .pointer (some ⟨x.g, 0, none⟩)] w fun e w' => e = .returned (.tuple #[]) ∧
      ∃ row', DkAt w' p { d with fs := putF d.fs x.f } row' (putE es d x) FA KA ∧ Mod (fun k => k = p ∨ row.ownBlock = some k) w w' ∧ NewOr w row row' := by
  have hn : w.cell? ⟨x.g, 0, none⟩ = some (.string x.f.n) := by rw [blk_cell hx.blk]; rfl
  have hxa : ∀ e ∈ es, Apart2 e x := by
    intro e he
    refine ⟨fun h => hxF x.g (.inl rfl) (.inr (.inr (.inl ⟨e, he, .inl h⟩))), fun k h1 h2 => hxF k (.inr h2) (.inr (.inr (.inl ⟨e, he, .inr h1⟩)))⟩
  have hlb : lbF d.fs x.f.n ≤ es.length := by rw [← hd.len]; exact lbF_le _ _
  have HLB : hitF d.fs x.f.n = true → lbF d.fs x.f.n < es.length := fun h => by rw [← hd.len]; exact hitF_lt h
  have hlb1 : (lbF d.fs x.f.n) ≤ (es.map (·.g)).length := by simpa using hlb
  have hr : Rises (asPs (putF d.fs x.f)) := by rw [putF_as]; exact rises_putT hd.rises _ _
  have hsy : ∀ f ∈ putF d.fs x.f, f.s ≤ f.b.length := by
    intro f hf
    rcases mem_putF hf with rfl | hf
    · exact hxs
    · exact hd.sync f hf
  have HHLB := Lib.hid HLB
  have HD := Lib.hid hd
  have HR := Lib.hid hr
  have HSY := Lib.hid hsy
  have HXA := Lib.hid hxa
  have HXF := Lib.hid hxF
  have HX := Lib.hid hx
  clear HLB hr hsy hxa hxF hx
  go_enter Try.func78, Try.ntmps78
  go_wp2_with fail
  refine (dfind_calls _ p d row FA KA es x.f.n hd (by omega)).mono ?_
  rintro e w1 ⟨rfl, hm1⟩
  clear hd
  have hd1 := HD.out.mod hm1 (fun _ _ h => h)
  have hx1 := HX.out.mod hm1 (fun _ _ h => h)
  have h5 : w1.cell? ⟨p, 5, none⟩ = some row := hd1.cellAt 5
  have fr5 : w1.frozen? ⟨p, 5, none⟩ = false := blk_frozen hd1.blk 5
  obtain ⟨A, c, hrow, hnc, hcm, hrr⟩ := hd1.row.out
  cases hh : hitF d.fs x.f.n with
  | true =>
    have hi := HHLB.out hh
    have hes : putE es d x = es.set (lbF d.fs x.f.n) x := by
      unfold putE
      rw [hh, if_pos rfl, List.set_eq_take_append_cons_drop, if_pos hi]
    have HES := Lib.hid hes
    obtain ⟨g, cap, cur, hrow2, _⟩ := hd1.row.form (by omega)
    rw [hrow2] at hrow
    injection hrow with hA _ hcc
    subst hA hcc hrow2
    have hs0 := hd1.row.set (lbF d.fs x.f.n) (.pointer (some ⟨x.g, 0, none⟩))
    rw [encGs_set, ← List.map_set, ← hes] at hs0
    have hl5 : (putE es d x).length = es.length := by rw [hes]; simp
    rw [← hl5] at hs0
    have hcell : w1.cell? ⟨g, lbF d.fs x.f.n, none⟩ = some (.pointer (some ⟨es[lbF d.fs x.f.n].g, 0, none⟩)) := hd1.row.cellAt _ _ (by rw [encGs_get _ _ (by simpa using hi)]; simp)
    have hfr : w1.frozen? ⟨g, lbF d.fs x.f.n, none⟩ = false := hd1.row.frozenAt _
    have hms : Mod (OnlyBlk (.slice (some ⟨g, 0, none⟩) es.length cap)) w1 (w1.setCell ⟨g, lbF d.fs x.f.n, none⟩ (.pointer (some ⟨x.g, 0, none⟩))) := Mod.setCell (S := OnlyBlk (.slice (some ⟨g, 0, none⟩) es.length cap)) (Mod.refl _ _) (p := ⟨g, lbF d.fs x.f.n, none⟩) (fun _ => rfl) _
    have hfin : DkAt (w1.setCell ⟨g, lbF d.fs x.f.n, none⟩ (.pointer (some ⟨x.g, 0, none⟩))) p { d with fs := putF d.fs x.f } (.slice (some ⟨g, 0, none⟩) es.length cap) (putE es d x) FA KA := by
      refine hd1.rowSame hms ?_ (putE_fs hd1.fs) ?_ ?_ (putE_apart hd1.ap HXA.out) HR.out HSY.out
      · rw [hl5] at hs0 ⊢; exact hs0
      · intro e he
        rcases mem_putE he with rfl | he
        · exact hx1
        · exact hd1.ent e he
      · intro e he
        rcases mem_putE he with rfl | he
        · exact .inr (fun ⟨k, h1, h2⟩ => HXF.out k h1 h2)
        · exact .inl he
    have HFIN := Lib.hid hfin
    have hmm : Mod (fun k => k = p ∨ (Value.slice (some ⟨g, 0, none⟩) es.length cap).ownBlock = some k) w (w1.setCell ⟨g, lbF d.fs x.f.n, none⟩ (.pointer (some ⟨x.g, 0, none⟩))) :=
      (hm1.mono (fun _ _ h => h.elim)).trans hms (fun k _ hk => .inr hk)
    have HMM := Lib.hid hmm
    have e1 : (0 : Int) ≤ (lbF d.fs x.f.n : Int) := by omega
    have e2 : (lbF d.fs x.f.n : Int) < (es.length : Int) := by omega
    have hz : (⟨g, 0, none⟩ : Addr).add (lbF d.fs x.f.n) = ⟨g, lbF d.fs x.f.n, none⟩ := add_zero _ _
    clear hes hs0 hl5 hms hfin hmm hd1 hh
    go_wp2_with fail
    go_end0
    exact ⟨rfl, _, HFIN.out, HMM.out, .inl rfl⟩
  | false =>
    have HHH := Lib.hid hh
    clear hh
    subst hrow
    have HD1 := Lib.hid hd1
    clear hd1
    go_wp2_with fail
    have hma : Mod NoneB w1 (w1.alloc (.cells #[.pointer (some ⟨x.g, 0, none⟩)] 118)) := (Mod.refl NoneB _).alloc _
    have hd2 := HD1.out.mod hma (fun _ _ h => h)
    have hx2 := hx1.mod hma (fun _ _ h => h)
    have hgx := heap_alloc_new w1 (.cells #[.pointer (some ⟨x.g, 0, none⟩)] 118)
    have hnx : ∀ g, (Value.slice A es.length c).ownBlock = some g → g ≠ w1.heap.size := fun g hg he => by have := HD1.out.row.lt hg; omega
    generalize w1.alloc (.cells #[.pointer (some ⟨x.g, 0, none⟩)] 118) = w2 at hma hd2 hx2 hgx ⊢
    refine (insertGn_calls (es.map (·.g)) es.length (by simp) x.g _ _ w1.heap.size w2 hd2.row hlb hgx hnx (by omega)).mono ?_
    rintro e w3 ⟨v3, rfl, ho3, hm3, hno3⟩
    have hl5 : (putE es d x).length = es.length + 1 := by
      unfold putE
      rw [HHH.out]
      simp
      omega
    have hes : (es.map (·.g)).take (lbF d.fs x.f.n) ++ x.g :: (es.map (·.g)).drop (lbF d.fs x.f.n) = (putE es d x).map (·.g) := by
      unfold putE
      rw [HHH.out]
      simp
    rw [hes, ← hl5] at ho3
    obtain ⟨A3, c3, rfl, _, _, _⟩ := ho3.out
    have hp3 : w3.heap[p]? = some (.cells (dkCells d (.slice A es.length c) FA KA) 114 (0, 0)) := hm3.blk hd2.blk (fun hk => hd2.rowNe hk rfl)
    obtain ⟨hfin, hmf⟩ := hd2.rowTo (es' := putE es d x) (fs' := putF d.fs x.f) hm3 hno3 ho3 (putE_fs hd2.fs) (fun e he => by
        rcases mem_putE he with rfl | he
        · exact hx2
        · exact hd2.ent e he) (fun e he => by
        rcases mem_putE he with rfl | he
        · exact .inr (fun ⟨k, h1, h2⟩ => HXF.out k h1 h2)
        · exact .inl he) (putE_apart hd2.ap HXA.out) HR.out HSY.out
    have HFIN := Lib.hid hfin
    have hmm := (hm1.trans hma (fun _ _ h => h)).mono (S' := fun k => k = p ∨ (Value.slice A es.length c).ownBlock = some k) (fun _ _ h => h.elim) |>.trans hmf (fun _ _ h => h)
    have HMM := Lib.hid hmm
    have hnb := (hno3.back hma.size).back hm1.size
    have HNB := Lib.hid hnb
    have y5 : w3.cell? ⟨p, 5, none⟩ = some (.slice A es.length c) := by rw [blk_cell hp3]; rfl
    have fy5 : w3.frozen? ⟨p, 5, none⟩ = false := blk_frozen hp3 5
    clear hl5 hes hfin hmf hmm hnb hp3 ho3 hno3
    go_wp2_with fail
    go_end0
    exact ⟨rfl, _, HFIN.out, HMM.out, HNB.out⟩
end Go.Proofs.Ytnoleekdldmagaa
