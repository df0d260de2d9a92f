/- The reference's disk: Sync, Rename, Read. -/
import Derived.Test.YtnlmfmceogbomaaGreatDoorRdABQq
namespace Go.Proofs.YtnlmfmceogbomaaGreatDoor
open Go.RowKit
set_option linter.unusedVariables false

theorem asPs_set {fs : List Fl} {i : Nat} (hi : i < fs.length) {f : Fl} (hn : f.n = fs[i].n) : asPs (fs.set i f) = asPs fs := by
  unfold asPs
  rw [List.map_set]
  have e : asP f = (fs.map asP)[i]'(by simpa using hi) := by simp [asP, hn]
  rw [e]
  exact List.set_getElem_self _
theorem map_setZ (zs : List (Fl × Value)) (i : Nat) (z : Fl × Value) : (zs.set i z).map (·.1) = (zs.map (·.1)).set i z.1 := List.map_set ..
theorem RdAt.setZ {N : Nat} {w w' : World} {p : Nat} {d : Dk} {row FA KA : Value} {zs : List (Fl × Value)} (h : RdAt N w p d row FA KA zs) {g c i : Nat} (hrow : row = .slice (some ⟨g, 0, none⟩) zs.length c) (hi : i < zs.length) (z' : Fl × Value)
    (ho : Own w' 110 3 (.slice (some ⟨g, 0, none⟩) zs.length c) zs.length (encFs (zs.set i z'))) (hm : Mod (fun k => k = g) w w') (hz : Own w' 5 1 z'.2 z'.1.b.length (encB z'.1.b) ∧ z'.2.oneCell' = true ∧ ∀ g, z'.2.ownBlock = some g → N ≤ g)
    (hn : z'.1.n = zs[i].1.n) (hs : z'.1.s ≤ z'.1.b.length) : RdAt N w' p { d with fs := d.fs.set i z'.1 } row FA KA (zs.set i z') := by
  have hg : row.ownBlock = some g := by rw [hrow]; rfl
  have hT : ∀ k, k = g → N ≤ k := fun k hk => by rw [hk]; exact h.fil.new g hg
  have hif : i < d.fs.length := by rw [h.len]; exact hi
  refine ⟨hm.blk h.blk (fun e => h.rowNe hg e.symm), ⟨by rw [hrow, List.length_set]; exact ho, h.fil.new, fun q hq => ?_⟩, ?_, h.fail.mod hm hT, h.keep.mod hm hT, ?_, fun f hf => ?_, h.pos⟩
  · rcases List.mem_or_eq_of_mem_set hq with hq | rfl
    · exact ⟨(h.fil.ent q hq).1.mod hm (fun g' hg' e => h.bytRow hq hg' (by rw [e]; exact hg)), (h.fil.ent q hq).2⟩
    · exact hz
  · show d.fs.set i z'.1 = _
    rw [map_setZ, ← h.fs]
  · show Rises (asPs (d.fs.set i z'.1))
    rw [asPs_set hif (by rw [hn, h.get hif hi])]
    exact h.rises
  · rcases List.mem_or_eq_of_mem_set hf with hf | rfl
    · exact h.sync f hf
    · exact hs

theorem RdAt.stepB {N : Nat} {w w' : World} {p : Nat} {d d' : Dk} {row FA KA row' : Value} {zs zs' : List (Fl × Value)} {S : Nat → Prop} (h : RdAt N w p d row FA KA zs) (hS : ∀ k, S k ↔ FootR p row zs k)
    (hm : Mod (fun k => k = p ∨ row.ownBlock = some k) w w') (h' : RdAt N w' p d' row' FA KA zs') (hn : NewOr w row row') (hz : ∀ z ∈ zs', ∀ g, z.2.ownBlock = some g → (∃ y ∈ zs, y.2.ownBlock = some g) ∨ w.heap.size ≤ g) : RStep N w S p d' w' := by
  refine ⟨FootR p row' zs', ⟨row', FA, KA, zs', h', fun _ => Iff.rfl⟩, hm.mono (fun k _ hk => (hS k).2 (hk.elim .inl (fun h => .inr (.inl h)))), fun k hk => ?_⟩
  rcases hk with rfl | hk | ⟨z, hz1, hk⟩
  · exact .inl ((hS _).2 (.inl rfl))
  · rcases hn with hq | ⟨b, hq, hb⟩
    · exact .inl ((hS _).2 (.inr (.inl (by rw [← hq]; exact hk))))
    · rw [hk] at hq; injection hq with hq; exact .inr (by omega)
  · rcases hz z hz1 k hk with ⟨y, h1, h2⟩ | h1
    · exact .inl ((hS _).2 (.inr (.inr ⟨y, h1, h2⟩)))
    · exact .inr h1

set_option maxHeartbeats 2000000 in
set_option maxRecDepth 100000 in
theorem rsync_calls (N : Nat) (w : World) (p : Nat) (d : Dk) (S : Nat → Prop) (n : ByteArray) (h : IsR N w p d S) (hr : RoomR N w d) :
    Calls Tryz.prog 99 #[.pointer (some ⟨p, 0, none⟩), .string n] w fun e w' => e = .returned (.int .i64 ((syncD d n).2 : Nat)) ∧ RStep N w S p (syncD d n).1 w' := by
  obtain ⟨row, FA, KA, zs, h, hS⟩ := h
  have hg := rgate_calls N w p d row FA KA zs h hr.c
  have hfs := (gateR_fs d).1
  have hno := fun hk => gateD_no (d := d) (op := fun d => hitAns d n syncF) hk
  have hyes := fun hk => gateD_yes (d := d) (op := fun d => hitAns d n syncF) hk
  obtain ⟨G, hG⟩ : ∃ G, G = gateR d := ⟨_, rfl⟩
  rw [← hG] at hg hfs hno hyes
  obtain ⟨d1, ok, ge⟩ := G
  simp only at hg hfs hno hyes
  have H := Lib.hid h
  have HS := Lib.hid hS
  have HG := Lib.hid hg
  have HNO := Lib.hid hno
  have HYES := Lib.hid hyes
  have hrl := hr.l
  have hrn := hr.n
  clear h hS hg hno hyes hG hr
  go_enter Tryz.func99, Tryz.ntmps99
  go_wp2_with fail
  refine HG.out.mono ?_
  rintro e w1 ⟨rfl, h1, hm1⟩
  cases ok with
  | false =>
    go_wp2_with fail
    go_ret
    unfold syncD withD
    rw [HNO.out trivial]
    exact ⟨rfl, H.out.step0 HS.out hm1 h1⟩
  | true =>
    have hy := HYES.out rfl
    cases hh : hitF d1.fs n with
    | false =>
      rw [hitAns_false _ hh] at hy
      have HY := Lib.hid hy
      have hp := plF_miss hh
      clear hy hh
      go_wp2_with fail
      refine (rat_calls N w1 p d1 row FA KA zs h1 n (by rw [hfs]; omega)).mono ?_
      rintro e wz ⟨rfl, hwz⟩
      subst hwz
      rw [hp]
      clear hp
      go_wp2_with fail
      refine (rtold2_calls N wz p d1 row FA KA zs h1 3 _ rfl).mono ?_
      rintro e wy ⟨rfl, hwy⟩
      subst hwy
      go_wp2_with fail
      go_ret
      unfold syncD withD
      rw [HY.out]
      exact ⟨rfl, H.out.step0 HS.out hm1 h1⟩
    | true =>
      have hlt := hitF_lt hh
      rw [hitAns_true _ hh] at hy
      have hp := plF_hit hh
      obtain ⟨i, hi⟩ : ∃ i, i = lbF d1.fs n := ⟨_, rfl⟩
      rw [← hi] at hp hy hlt
      have hiz : i < zs.length := by rw [← h1.len]; exact hlt
      have hfa : fileAt d1 i = zs[i].1 := by rw [fileAt_get hlt, h1.get hlt hiz]
      have e1 : ¬ ((i : Int) < 0) := by omega
      have hent := h1.fil.ent zs[i] (List.getElem_mem _)
      obtain ⟨g, c, hrow⟩ := h1.fil.own.addrOf (by omega)
      have hown := h1.fil.own
      rw [hrow] at hown
      have HY := Lib.hid hy
      clear hy hh hi
      go_wp2_with fail
      refine (rat_calls N w1 p d1 row FA KA zs h1 n (by rw [hfs]; omega)).mono ?_
      rintro e wz ⟨rfl, hwz⟩
      subst hwz
      rw [hp]
      clear hp
      obtain ⟨Av, cv, hyv, _⟩ := hent.1.nilD0
      have hsy : syncF d1 i = ({ d1 with fs := d1.fs.set i ⟨zs[i].1.n, zs[i].1.b, zs[i].1.b.length⟩ }, 0) := by unfold syncF; rw [hfa]
      have dd := encFs_get zs i hiz
      have hown' : Own wz.drew 110 3 (.slice (some ⟨g, 0, none⟩) zs.length c) zs.length (encFs zs) := hown.mod0 ((Mod.refl NoneB wz).drew)
      have y5 : wz.cell? ⟨p, 5, none⟩ = some (.slice (some ⟨g, 0, none⟩) zs.length c) := by rw [← hrow]; exact h1.cellAt 5
      have c1 := hown.cellAt (i * 3 + 1) _ dd.2.1
      have c2 := hown.cellAt (i * 3 + 2) _ dd.2.2
      have f2 := hown.frozenAt (i * 3 + 2)
      have hs := hown'.set (i * 3 + 2) (.int .i64 (zs[i].1.b.length : Nat))
      have hse : (encFs zs).set (i * 3 + 2) (.int .i64 (zs[i].1.b.length : Nat)) = encFs (zs.set i (⟨zs[i].1.n, zs[i].1.b, zs[i].1.b.length⟩, zs[i].2)) := by
        rw [← encFs_set3 zs i (⟨zs[i].1.n, zs[i].1.b, zs[i].1.b.length⟩, zs[i].2)]
        congr 1
        have q0 : (encFs zs).set (i * 3) (.string zs[i].1.n) = encFs zs := by
          obtain ⟨hl0, e0⟩ := List.getElem?_eq_some_iff.1 dd.1
          rw [← e0]; exact List.set_getElem_self _
        rw [q0]
        obtain ⟨hl1, e1⟩ := List.getElem?_eq_some_iff.1 dd.2.1
        rw [← e1]; exact (List.set_getElem_self _).symm
      rw [hse] at hs
      have hmd : Mod (fun k => k = g) wz (wz.drew.setCell ⟨g, i * 3 + 2, none⟩ (.int .i64 (zs[i].1.b.length : Nat))) := ((Mod.refl (fun k => k = g) wz).drew).setCell (p := ⟨g, i * 3 + 2, none⟩) (fun _ => rfl) _
      have hgr : row.ownBlock = some g := by rw [hrow]; rfl
      have h2 := h1.setZ hrow hiz (⟨zs[i].1.n, zs[i].1.b, zs[i].1.b.length⟩, zs[i].2) hs hmd ⟨hent.1.mod hmd (fun g' hg' e => h1.bytRow (List.getElem_mem _) hg' (by rw [e]; exact hgr)), hent.2⟩ rfl (Nat.le_refl _)
      have hst : RStep N w S p { d1 with fs := d1.fs.set i ⟨zs[i].1.n, zs[i].1.b, zs[i].1.b.length⟩ } (wz.drew.setCell ⟨g, i * 3 + 2, none⟩ (.int .i64 (zs[i].1.b.length : Nat))) := by
        refine H.out.stepB HS.out ((hm1.mono (fun _ _ h => .inl h)).trans hmd (fun _ _ h => .inr (by rw [h]; exact hgr))) h2 (.inl rfl) (fun z hz g' hg' => ?_)
        rcases List.mem_or_eq_of_mem_set hz with hz | rfl
        · exact .inl ⟨z, hz, hg'⟩
        · exact .inl ⟨zs[i], List.getElem_mem _, hg'⟩
      have HST := Lib.hid hst
      have HR2 := Lib.hid h2
      have HSY := Lib.hid hsy
      rw [hyv] at c1
      obtain ⟨bl, hbl⟩ : ∃ bl, bl = zs[i].1.b.length := ⟨_, rfl⟩
      obtain ⟨sy, hsy2⟩ : ∃ sy, sy = zs[i].1.s := ⟨_, rfl⟩
      rw [← hbl] at c1 HST HR2
      have HBL := Lib.hid hbl
      rw [← hsy2] at c2
      have g0 : (0 : Int) ≤ (i : Int) := by omega
      have g1 : (i : Int) < (zs.length : Int) := by omega
      clear hst h2 hsy hs hse dd hown hown' hyv hent hbl hsy2 hmd
      go_wp2_with fail
      go_region_law (fail)
      all_goals
        clear c1 c2 f2
        go_wp2_with fail
        refine (rtold2_calls N _ p _ row FA KA _ HR2.out 0 _ rfl).mono ?_
        rintro e wy ⟨rfl, hwy⟩
        subst hwy
        go_wp2_with fail
        go_ret
        unfold syncD withD
        rw [HY.out, HSY.out]
        have hq := HST.out
        rw [HBL.out] at hq
        refine ⟨rfl, ?_⟩
        rw [HBL.out]
        exact hq

theorem stepNewB {N : Nat} {w w' : World} {p : Nat} {d d' : Dk} {row FA KA row' : Value} {zs zs' : List (Fl × Value)} {S : Nat → Prop} (h : RdAt N w p d row FA KA zs) (hS : ∀ k, S k ↔ FootR p row zs k)
    (hm : Mod (fun k => k = p) w w') (h' : RdAt N w' p d' row' FA KA zs') (hn : ∀ g, row'.ownBlock = some g → w.heap.size ≤ g) (hz : ∀ z ∈ zs', ∀ g, z.2.ownBlock = some g → (∃ y ∈ zs, y.2.ownBlock = some g) ∨ w.heap.size ≤ g) : RStep N w S p d' w' := by
  refine ⟨FootR p row' zs', ⟨row', FA, KA, zs', h', fun _ => Iff.rfl⟩, hm.mono (fun k _ hk => (hS k).2 (.inl hk)), fun k hk => ?_⟩
  rcases hk with rfl | hk | ⟨z, hz1, hk⟩
  · exact .inl ((hS _).2 (.inl rfl))
  · exact .inr (hn k hk)
  · rcases hz z hz1 k hk with ⟨y, h1, h2⟩ | h1
    · exact .inl ((hS _).2 (.inr (.inr ⟨y, h1, h2⟩)))
    · exact .inr h1
theorem putF_erase {fs : List Fl} (hr : Rises (asPs fs)) {f : Fl} (hh : hitF fs f.n = true) : hitF (fs.eraseIdx (lbF fs f.n)) f.n = false ∧ putF (fs.eraseIdx (lbF fs f.n)) f = putF fs f := by
  have hl := hitF_lt hh
  have hr' := rises_erase hr (lbF fs f.n)
  obtain ⟨l, hld⟩ : ∃ l, l = lbF fs f.n := ⟨_, rfl⟩
  rw [← hld] at hl hr' ⊢
  have hpt := parts_of_rises hr f.n
  have hle : l ≤ (fs.eraseIdx l).length := by rw [List.length_eraseIdx_of_lt hl]; omega
  have h1 : hitF (fs.eraseIdx l) f.n = false := by
    cases hx : hitF (fs.eraseIdx l) f.n with
    | false => rfl
    | true =>
      obtain ⟨x, hx1, hx2⟩ := (hit_iff hr' f.n).1 hx
      rw [List.eraseIdx_eq_take_drop_succ] at hx1
      rcases List.mem_append.1 hx1 with h | h
      · obtain ⟨j, hj, rfl⟩ := List.getElem_of_mem h
        rw [List.length_take] at hj
        rw [List.getElem_take] at hx2
        have := (hitF_at hr (i := j) (by omega)).2
        rw [hx2] at this
        omega
      · obtain ⟨j, hj, rfl⟩ := List.getElem_of_mem h
        rw [List.length_drop] at hj
        rw [List.getElem_drop] at hx2
        have := (hitF_at hr (i := l + 1 + j) (by omega)).2
        rw [hx2] at this
        omega
  have h2 : lbF (fs.eraseIdx l) f.n = l := by
    unfold lbF
    refine lb_of f.n _ l (by simpa [asPs] using hle) (fun j hj => ?_) (fun h => ?_)
    · have h3 := (hpt j (by simp [asPs]; omega)).2 (by rw [show lb (asPs fs) f.n = l from hld.symm]; exact hj)
      simp only [asPs, List.getElem_map] at h3 ⊢
      rw [List.getElem_eraseIdx_of_lt (by rw [List.length_eraseIdx_of_lt hl]; omega) hj]
      exact h3
    · have h4 : l < (fs.eraseIdx l).length := by simpa [asPs] using h
      rw [List.length_eraseIdx_of_lt hl] at h4
      have h3 := mt (hpt (l + 1) (by simp [asPs]; omega)).1 (by rw [show lb (asPs fs) f.n = l from hld.symm]; omega)
      simp only [asPs, List.getElem_map] at h3 ⊢
      rw [List.getElem_eraseIdx_of_ge (by rw [List.length_eraseIdx_of_lt hl]; omega) (Nat.le_refl _)]
      exact h3
  refine ⟨h1, ?_⟩
  rw [putF_miss h1, h2]
  unfold putF
  rw [hh, ← hld]
  have h5 : (fs.take l).length = l := by rw [List.length_take]; omega
  rw [List.eraseIdx_eq_take_drop_succ, List.take_left' h5, List.drop_left' h5]
  rfl

set_option maxHeartbeats 4000000 in
set_option maxRecDepth 100000 in
theorem rrename_calls (N : Nat) (w : World) (p : Nat) (d : Dk) (S : Nat → Prop) (n nt : ByteArray) (h : IsR N w p d S) (hr : RoomR N w d) :
    Calls Tryz.prog 104 #[.pointer (some ⟨p, 0, none⟩), .string n, .string nt] w fun e w' => e = .returned (.int .i64 ((renameD d n nt).2 : Nat)) ∧ RStep N w S p (renameD d n nt).1 w' := by
  obtain ⟨row, FA, KA, zs, h, hS⟩ := h
  have hg := rgate_calls N w p d row FA KA zs h hr.c
  have hfs := (gateR_fs d).1
  have hno := fun hk => gateD_no (d := d) (op := fun d => hitAns d n (renameF n nt)) hk
  have hyes := fun hk => gateD_yes (d := d) (op := fun d => hitAns d n (renameF n nt)) hk
  obtain ⟨G, hG⟩ : ∃ G, G = gateR d := ⟨_, rfl⟩
  rw [← hG] at hg hfs hno hyes
  obtain ⟨d1, ok, ge⟩ := G
  simp only at hg hfs hno hyes
  have H := Lib.hid h
  have HS := Lib.hid hS
  have HG := Lib.hid hg
  have HNO := Lib.hid hno
  have HYES := Lib.hid hyes
  have hrl := hr.l
  have hrn := hr.n
  clear h hS hg hno hyes hG hr
  go_enter Tryz.func104, Tryz.ntmps104
  go_wp2_with fail
  refine HG.out.mono ?_
  rintro e w1 ⟨rfl, h1, hm1⟩
  cases ok with
  | false =>
    go_wp2_with fail
    go_ret
    unfold renameD withD
    rw [HNO.out trivial]
    exact ⟨rfl, H.out.step0 HS.out hm1 h1⟩
  | true =>
    have hy := HYES.out rfl
    cases hh : hitF d1.fs n with
    | false =>
      rw [hitAns_false _ hh] at hy
      have HY := Lib.hid hy
      have hp := plF_miss hh
      clear hy hh
      go_wp2_with fail
      refine (rat_calls N w1 p d1 row FA KA zs h1 n (by rw [hfs]; omega)).mono ?_
      rintro e wz ⟨rfl, hwz⟩
      subst hwz
      rw [hp]
      clear hp
      go_wp2_with fail
      refine (rtold2_calls N wz p d1 row FA KA zs h1 3 _ rfl).mono ?_
      rintro e wy ⟨rfl, hwy⟩
      subst hwy
      go_wp2_with fail
      go_ret
      unfold renameD withD
      rw [HY.out]
      exact ⟨rfl, H.out.step0 HS.out hm1 h1⟩
    | true =>
      have hlt := hitF_lt hh
      rw [hitAns_true _ hh] at hy
      have hp := plF_hit hh
      obtain ⟨i, hi⟩ : ∃ i, i = lbF d1.fs n := ⟨_, rfl⟩
      rw [← hi] at hp hy hlt
      have hiz : i < zs.length := by rw [← h1.len]; exact hlt
      have hfa : fileAt d1 i = zs[i].1 := by rw [fileAt_get hlt, h1.get hlt hiz]
      have e1 : ¬ ((i : Int) < 0) := by omega
      clear hh hi
      by_cases hnt : nt = ⟨#[]⟩
      · have hc : renameF n nt d1 i = (d1, 1) := by unfold renameF; rw [if_pos hnt]
        rw [hc] at hy
        have HY := Lib.hid hy
        subst hnt
        clear hc hy
        go_wp2_with fail
        refine (rat_calls N w1 p d1 row FA KA zs h1 n (by rw [hfs]; omega)).mono ?_
        rintro e wz ⟨rfl, hwz⟩
        subst hwz
        rw [hp]
        clear hp
        go_wp2_with fail
        refine (rtold2_calls N wz p d1 row FA KA zs h1 1 _ rfl).mono ?_
        rintro e wy ⟨rfl, hwy⟩
        subst hwy
        go_wp2_with fail
        go_ret
        unfold renameD withD
        rw [HY.out]
        exact ⟨rfl, H.out.step0 HS.out hm1 h1⟩
      have b1 : (nt.toList == []) = false := by
        have h2 := beq_toList nt ⟨#[]⟩
        rw [decide_eq_false hnt] at h2
        rw [← h2]
        simp [ba_toList]
      have b1' : nt.toList.isEmpty = false := by rw [isEmpty_toList]; exact decide_eq_false hnt
      by_cases hnn : nt = n
      · have hc : renameF n nt d1 i = (d1, 0) := by unfold renameF; rw [if_neg hnt, if_pos hnn]
        rw [hc] at hy
        have HY := Lib.hid hy
        have b2 : (n.toList == nt.toList) = true := by rw [beq_toList]; exact decide_eq_true hnn.symm
        clear hc hy hnt hnn
        go_wp2_with fail
        refine (rat_calls N w1 p d1 row FA KA zs h1 n (by rw [hfs]; omega)).mono ?_
        rintro e wz ⟨rfl, hwz⟩
        subst hwz
        rw [hp]
        clear hp
        go_wp2_with fail
        refine (rtold2_calls N wz p d1 row FA KA zs h1 0 _ rfl).mono ?_
        rintro e wy ⟨rfl, hwy⟩
        subst hwy
        go_wp2_with fail
        go_ret
        unfold renameD withD
        rw [HY.out]
        exact ⟨rfl, H.out.step0 HS.out hm1 h1⟩
      have b2 : (n.toList == nt.toList) = false := by rw [beq_toList]; exact decide_eq_false (fun h => hnn h.symm)
      have hc : renameF n nt d1 i = ({ d1 with fs := putF (d1.fs.eraseIdx i) ⟨nt, zs[i].1.b, zs[i].1.s⟩ }, 0) := by
        unfold renameF
        rw [if_neg hnt, if_neg hnn, hfa]
      rw [hc] at hy
      have HY := Lib.hid hy
      have hent := h1.fil.ent zs[i] (List.getElem_mem _)
      have hsy : zs[i].1.s ≤ zs[i].1.b.length := h1.sync _ (by rw [h1.fs]; exact List.mem_map_of_mem (List.getElem_mem _))
      have hri := rises_erase h1.rises i
      have hfl : d1.fs.length ≤ 1000000 := by rw [hfs]; exact hrl
      have hle := List.length_eraseIdx_le d1.fs i
      clear hc hy hnt hnn
      go_wp2_with fail
      refine (rat_calls N w1 p d1 row FA KA zs h1 n (by rw [hfs]; omega)).mono ?_
      rintro e wz ⟨rfl, hwz⟩
      subst hwz
      rw [hp]
      clear hp
      obtain ⟨A, c, hrow, hrd⟩ := h1.fil.own.nilD0
      have y5 : wz.cell? ⟨p, 5, none⟩ = some (.slice A zs.length c) := by rw [← hrow]; exact h1.cellAt 5
      obtain ⟨ad, rfl, h0, hk⟩ := Rd.elem (f := encFl) (fun _ => rfl) hrd (by decide) i hiz
      obtain ⟨Av, cv, hyv, _⟩ := hent.1.nilD0
      have c0 := h0 _ rfl
      have c1 := hk 1 _ (by decide) (by decide) rfl
      have c2 := hk 2 _ (by decide) (by decide) rfl
      have hzm : zs[i] ∈ zs := List.getElem_mem _
      obtain ⟨y, hyd⟩ : ∃ y, y = zs[i] := ⟨_, rfl⟩
      rw [← hyd] at c0 c1 c2 hent hsy hyv HY hzm
      obtain ⟨yf, yv⟩ := y
      simp only at c0 c1 c2 hent hsy hyv HY
      subst hyv
      have g0 : (0 : Int) ≤ (i : Int) := by omega
      have g1 : (i : Int) < (zs.length : Int) := by omega
      have HE := Lib.hid hent
      have H1 := Lib.hid h1
      have HRI := Lib.hid hri
      clear h0 hk hent hyd hfa hrow hrd hri
      go_wp2_with fail
      obtain ⟨wB, hwB⟩ : ∃ wB, wB = wz.alloc (.cells #[.string nt, .slice Av yf.b.length cv, .int .i64 yf.s] 110) := ⟨_, rfl⟩
      have hal : Mod NoneB wz wB := by rw [hwB]; exact (Mod.refl NoneB wz).alloc _
      have hbx : wB.heap[wz.heap.size]? = some (.cells #[.string nt, .slice Av yf.b.length cv, .int .i64 yf.s] 110 (0, 0)) := by rw [hwB]; exact heap_alloc_new wz _
      rw [← hwB]
      have hB := H1.out.mod hal (fun _ _ h => h) (fun _ h => h.elim)
      have hpz : p < wz.heap.size := blk_lt H1.out.blk
      have hw1s : w.heap.size ≤ wz.heap.size := hm1.size
      have hNB : N ≤ wB.heap.size := Nat.le_trans hrn (Nat.le_trans hm1.size hal.size)
      have hm1B : Mod (fun k => k = p) w wB := hm1.then0 hal
      clear hwB c0 c1 c2 y5 g0 g1
      refine (rddrop_calls N wB p d1 row FA KA zs hB i hNB hfl).mono ?_
      rintro e w2 ⟨rfl, row2, h2, hm2, hn2⟩
      have hbx2 := hm2.blk hbx (fun e => by omega)
      have hm12 := hm1B.trans hm2 (fun _ _ h => h)
      have hn2w : ∀ g, row2.ownBlock = some g → w.heap.size ≤ g := fun g hg => Nat.le_trans hm1B.size (hn2 g hg)
      have hsub2 : ∀ z ∈ zs.eraseIdx i, z ∈ zs := fun z hz => (List.eraseIdx_sublist _ _).subset hz
      have hN2 : N ≤ w2.heap.size := Nat.le_trans hNB hm2.size
      have hu2 : Own w2 5 1 (.slice Av yf.b.length cv) yf.b.length (encB yf.b) := (HE.out.1.mod0 hal).mod hm2 (fun g hg => hB.bytNe hzm hg)
      obtain ⟨fs2, hfs2⟩ : ∃ fs2, fs2 = d1.fs.eraseIdx i := ⟨_, rfl⟩
      rw [← hfs2] at h2 HY hle HRI
      have hput : ∀ (w3 : World) (row3 : Value) (zs3 : List (Fl × Value)) (fs3 : List Fl), RdAt N w3 p { d1 with fs := fs3 } row3 FA KA zs3 → Mod (fun k => k = p) w w3 → (∀ g, row3.ownBlock = some g → w.heap.size ≤ g) → (∀ z ∈ zs3, z ∈ zs) →
          Own w3 5 1 (.slice Av yf.b.length cv) yf.b.length (encB yf.b) → hitF fs3 nt = false → putF fs3 ⟨nt, yf.b, yf.s⟩ = putF fs2 ⟨nt, yf.b, yf.s⟩ → fs3.length ≤ 1000000 →
          Calls Tryz.prog 137 #[.pointer (some ⟨p, 0, none⟩), .agg #[.string nt, .slice Av yf.b.length cv, .int .i64 yf.s]] w3 fun e w' => e = .returned (.tuple #[]) ∧ (∃ row' zs', RdAt N w' p { d1 with fs := putF fs2 ⟨nt, yf.b, yf.s⟩ } row' FA KA zs') ∧ RStep N w S p { d1 with fs := putF fs2 ⟨nt, yf.b, yf.s⟩ } w' := by
        intro w3 row3 zs3 fs3 h3 hm3 hn3 hs3 hu3 hh3 hp3 hl3
        refine (rdput_calls N w3 p _ row3 FA KA zs3 h3 ⟨nt, yf.b, yf.s⟩ (.slice Av yf.b.length cv) (Nat.le_trans hrn hm3.size) ⟨hu3, HE.out.2⟩ hsy hh3 hl3).mono ?_
        rintro e w4 ⟨rfl, row4, h4, hm4, hn4⟩
        simp only at h4
        rw [hp3] at h4
        refine ⟨rfl, ⟨row4, _, h4⟩, stepNewB H.out HS.out (hm3.trans_new hm4 (fun k hk => hk.elim .inl (fun h => .inr (hn3 k h)))) h4 (fun g hg => ?_) (fun z hz g hg => ?_)⟩
        · rcases hn4 with hq | ⟨b, hq, hb⟩
          · exact hn3 g (by rw [← hq]; exact hg)
          · rw [hg] at hq; injection hq with hq
            exact Nat.le_trans hm3.size (by omega)
        · rcases mem_insZ hz with rfl | hz
          · exact .inl ⟨_, hzm, hg⟩
          · exact .inl ⟨z, hs3 z hz, hg⟩
      have HPUT := Lib.hid hput
      clear hput hfs2
      go_wp2_with fail
      refine (rat_calls N w2 p _ row2 FA KA _ h2 nt (by show fs2.length ≤ _; omega)).mono ?_
      rintro e wy ⟨rfl, hwy⟩
      subst hwy
      cases hh : hitF fs2 nt with
      | false =>
        have hpv : plF ({ d1 with fs := fs2 } : Dk).fs nt = -1 := plF_miss hh
        rw [hpv]
        have x0 : wy.cell? ⟨wz.heap.size, 0, none⟩ = some (.string nt) := blk_cell hbx2 0
        have x1 : wy.cell? ⟨wz.heap.size, 1, none⟩ = some (.slice Av yf.b.length cv) := blk_cell hbx2 1
        have x2 : wy.cell? ⟨wz.heap.size, 2, none⟩ = some (.int .i64 yf.s) := blk_cell hbx2 2
        have HH := Lib.hid hh
        clear hpv hh hbx hbx2
        go_wp2_with fail
        refine (HPUT.out wy row2 _ fs2 h2 hm12 hn2w hsub2 hu2 HH.out rfl (by omega)).mono ?_
        rintro e w4 ⟨rfl, ⟨row4, zs4, h4⟩, hst⟩
        have HST := Lib.hid hst
        clear hst
        go_wp2_with fail
        refine (rtold2_calls N w4 p _ row4 FA KA _ h4 0 _ rfl).mono ?_
        rintro e wx ⟨rfl, hwx⟩
        subst hwx
        go_wp2_with fail
        go_ret
        unfold renameD withD
        rw [HY.out]
        exact ⟨rfl, HST.out⟩
      | true =>
        obtain ⟨hh3, hp3⟩ := putF_erase HRI.out (f := ⟨nt, yf.b, yf.s⟩) hh
        simp only at hh3 hp3
        have hpv : plF ({ d1 with fs := fs2 } : Dk).fs nt = (lbF fs2 nt : Nat) := plF_hit hh
        rw [hpv]
        obtain ⟨l, hl⟩ : ∃ l, l = lbF fs2 nt := ⟨_, rfl⟩
        rw [← hl] at hh3 hp3 ⊢
        have e2 : (0 : Int) ≤ (l : Int) := by omega
        have HH := Lib.hid hh3
        have HP := Lib.hid hp3
        clear hpv hh hh3 hp3 hl
        go_wp2_with fail
        refine (rddrop_calls N wy p _ row2 FA KA _ h2 l hN2 (by show fs2.length ≤ _; omega)).mono ?_
        rintro e w3 ⟨rfl, row3, h3, hm3, hn3⟩
        have hbx3 := hm3.blk hbx2 (fun e => by omega)
        have x0 : w3.cell? ⟨wz.heap.size, 0, none⟩ = some (.string nt) := blk_cell hbx3 0
        have x1 : w3.cell? ⟨wz.heap.size, 1, none⟩ = some (.slice Av yf.b.length cv) := blk_cell hbx3 1
        have x2 : w3.cell? ⟨wz.heap.size, 2, none⟩ = some (.int .i64 yf.s) := blk_cell hbx3 2
        have hm13 := hm12.trans hm3 (fun _ _ h => h)
        have hle3 := List.length_eraseIdx_le fs2 l
        have hu3 := hu2.mod hm3 (fun g hg e => hB.bytNe hzm hg e)
        have hs3 : ∀ z ∈ (zs.eraseIdx i).eraseIdx l, z ∈ zs := fun z hz => hsub2 z ((List.eraseIdx_sublist _ _).subset hz)
        have hn3w : ∀ g, row3.ownBlock = some g → w.heap.size ≤ g := fun g hg => Nat.le_trans hm12.size (hn3 g hg)
        clear hbx hbx2 hbx3
        go_wp2_with fail
        refine (HPUT.out w3 row3 _ (fs2.eraseIdx l) h3 hm13 hn3w hs3 hu3 HH.out HP.out (by omega)).mono ?_
        rintro e w4 ⟨rfl, ⟨row4, zs4, h4⟩, hst⟩
        have HST := Lib.hid hst
        clear hst
        go_wp2_with fail
        refine (rtold2_calls N w4 p _ row4 FA KA _ h4 0 _ rfl).mono ?_
        rintro e wx ⟨rfl, hwx⟩
        subst hwx
        go_wp2_with fail
        go_ret
        unfold renameD withD
        rw [HY.out]
        exact ⟨rfl, HST.out⟩
end Go.Proofs.YtnlmfmceogbomaaGreatDoor

/- The reference's disk: Read, Append. -/
namespace Go.Proofs.YtnlmfmceogbomaaGreatDoor
open Go.RowKit
set_option linter.unusedVariables false

set_option maxHeartbeats 2000000 in
set_option maxRecDepth 100000 in
theorem rread_calls (N : Nat) (w : World) (p : Nat) (d : Dk) (S : Nat → Prop) (n : ByteArray) (h : IsR N w p d S) (hl : d.fs.length ≤ 1000000) (hus : usedF d.fs ≤ 70368744177664) :
    Calls Tryz.prog 93 #[.pointer (some ⟨p, 0, none⟩), .string n] w fun e w' => ∃ v, e = .returned (.tuple #[v, .int .i64 ((readD d n).2 : Nat)]) ∧ Own w' 5 1 v (readD d n).1.length (encB (readD d n).1) ∧ Mod NoneB w w' ∧ (∀ g, v.ownBlock = some g → w.heap.size ≤ g) := by
  obtain ⟨row, FA, KA, zs, h, hS⟩ := h
  have hu := Tryz.underlying24
  have y7 : w.cell? ⟨p, 7, none⟩ = some (.bool d.dn) := h.cellAt 7
  have hrd : readD d n = if d.dn then ([], 7) else if hitF d.fs n then ((fileAt d (lbF d.fs n)).b, 0) else ([], 3) := rfl
  have H := Lib.hid h
  cases hdn : d.dn with
  | true =>
    rw [hdn] at y7 hrd
    have HR := Lib.hid hrd
    clear h hS hrd hdn
    go_enter Tryz.func93, Tryz.ntmps93
    go_wp2_with fail
    go_ret2
    rw [HR.out]
    exact ⟨_, rfl, Own.nil _ _ _, Mod.refl _ _, fun g h => by cases h⟩
  | false =>
    rw [hdn] at y7 hrd
    cases hh : hitF d.fs n with
    | false =>
      rw [hh] at hrd
      have HR := Lib.hid hrd
      have hp := plF_miss hh
      clear h hS hrd hdn hh
      go_enter Tryz.func93, Tryz.ntmps93
      go_wp2_with fail
      refine (rat_calls N w p d row FA KA zs H.out n (by omega)).mono ?_
      rintro e wz ⟨rfl, hwz⟩
      subst hwz
      rw [hp]
      clear hp
      go_wp2_with fail
      go_ret2
      rw [HR.out]
      exact ⟨_, rfl, Own.nil _ _ _, Mod.refl _ _, fun g h => by cases h⟩
    | true =>
      rw [hh] at hrd
      have hlt := hitF_lt hh
      have hp := plF_hit hh
      obtain ⟨i, hi⟩ : ∃ i, i = lbF d.fs n := ⟨_, rfl⟩
      rw [← hi] at hp hlt hrd
      have hiz : i < zs.length := by rw [← h.len]; exact hlt
      have hfa : fileAt d i = zs[i].1 := by rw [fileAt_get hlt, h.get hlt hiz]
      have hbl : zs[i].1.b.length ≤ usedF d.fs := by rw [← h.get hlt hiz]; exact usedF_get _ _ _
      rw [hfa] at hrd
      have e1 : ¬ ((i : Int) < 0) := by omega
      have hent := h.fil.ent zs[i] (List.getElem_mem _)
      obtain ⟨A, c, hrow, hrow2⟩ := h.fil.own.nilD0
      obtain ⟨ad, rfl, h0, hk⟩ := Rd.elem (f := encFl) (fun _ => rfl) hrow2 (by decide) i hiz
      obtain ⟨Av, cv, hyv, hrb⟩ := hent.1.nilD0
      have c1 := hk 1 _ (by decide) (by decide) rfl
      have y5 : w.cell? ⟨p, 5, none⟩ = some (.slice (some ad) zs.length c) := by rw [← hrow]; exact h.cellAt 5
      obtain ⟨y, hyd⟩ : ∃ y, y = zs[i] := ⟨_, rfl⟩
      rw [← hyd] at c1 hyv hrb hrd hbl
      obtain ⟨yf, yv⟩ := y
      simp only at c1 hyv hrb hrd hbl
      subst hyv
      have HR := Lib.hid hrd
      have g0 : (0 : Int) ≤ (i : Int) := by omega
      have g1 : (i : Int) < (zs.length : Int) := by omega
      have hown0 : Own (w.alloc (.cells #[] 5)) 5 1 (.slice (some ⟨w.heap.size, 0, none⟩) 0 0) 0 [] := Own.of_blk (cap := 0) (heap_alloc_new w _) (by omega) (by omega) (by simp) (by simp)
      have hnews := (hrb.mod0 ((Mod.refl NoneB w).alloc (.cells #[] 5))).2.2
      have hsz : (0 + yf.b.length) * 1 ≤ 140737488355328 := by omega
      have y5a := ((Mod.refl NoneB w).alloc (.cells #[] 5)).cell0 y5
      have c1a := ((Mod.refl NoneB w).alloc (.cells #[] 5)).cell0 c1
      clear h hS hrd hdn hh h0 hk hent hyd hfa hrow hrow2 hi
      go_enter Tryz.func93, Tryz.ntmps93
      go_wp2_with fail
      refine (rat_calls N w p d row FA KA zs H.out n (by omega)).mono ?_
      rintro e wz ⟨rfl, hwz⟩
      subst hwz
      rw [hp]
      clear hp
      go_wp2_with (at_builtin; refine wpList_append rfl (.tmp 16) (.tmp 24) 24 rfl 5 _ 1 1 hu tiB rfl (by decide) (by decide) _ 0 [] rfl hown0 Av yf.b.length cv (encB yf.b) rfl (encB_length1 yf.b) hnews (encB_one yf.b) hsz ?_)
      intro v5 w5 ho5 hm5 hno5
      have hmw : Mod NoneB wz w5 := ((Mod.refl NoneB wz).alloc (.cells #[] 5)).trans_new hm5 (fun k hk => .inr (by have e := Option.some.inj (show some wz.heap.size = some k from hk); omega))
      have hn5 : ∀ g, v5.ownBlock = some g → wz.heap.size ≤ g := by
        intro g hg
        rcases hno5 with hq | ⟨b, hq, hb⟩
        · rw [hg] at hq
          have e := Option.some.inj (show some g = some wz.heap.size from hq)
          omega
        · rw [hg] at hq; injection hq with hq; simp at hb; omega
      have ho5 : Own w5 5 1 v5 yf.b.length (encB yf.b) := by simpa using ho5
      have HO := Lib.hid ho5
      have HN := Lib.hid hn5
      obtain ⟨V5, cv5, rfl, _⟩ := ho5.nilD0
      clear ho5 hn5 hown0 hnews hno5 c1 y5 y7 y5a c1a
      go_wp2_with fail
      go_ret2
      rw [HR.out]
      exact ⟨_, rfl, HO.out, hmw, HN.out⟩

set_option maxHeartbeats 4000000 in
set_option maxRecDepth 100000 in
theorem rappend_calls (N : Nat) (w : World) (p : Nat) (d : Dk) (S : Nat → Prop) (n : ByteArray) (b : List UInt8) (B : Option Addr) (bc : Nat) (h : IsR N w p d S) (hr : RoomR N w d) (hb : Rd w 1 B b.length (encB b)) (hB : 0 < b.length → ∀ ad, B = some ad → ¬ S ad.block)
    (hus : usedF d.fs + b.length ≤ 70368744177664) (hcap : d.p.cap ≤ 9223372036854775807) :
    Calls Tryz.prog 103 #[.pointer (some ⟨p, 0, none⟩), .string n, .slice B b.length bc] w fun e w' => e = .returned (.int .i64 ((appendD d n b).2 : Nat)) ∧ RStep N w S p (appendD d n b).1 w' := by
  obtain ⟨row, FA, KA, zs, h, hS⟩ := h
  have hu := Tryz.underlying24
  have hg := rgate_calls N w p d row FA KA zs h hr.c
  have hfs := (gateR_fs d).1
  have hpl := (gateR_fs d).2
  have hno := fun hk => gateD_no (d := d) (op := fun d => hitAns d n (appendF b)) hk
  have hyes := fun hk => gateD_yes (d := d) (op := fun d => hitAns d n (appendF b)) hk
  obtain ⟨G, hG⟩ : ∃ G, G = gateR d := ⟨_, rfl⟩
  rw [← hG] at hg hfs hno hyes hpl
  obtain ⟨d1, ok, ge⟩ := G
  simp only at hg hfs hno hyes hpl
  have hbp : 0 < b.length → ∀ ad, B = some ad → ad.block ≠ p := fun h0 ad hA e => hB h0 ad hA ((hS _).2 (.inl e))
  rw [← hfs] at hus
  rw [← hpl] at hcap
  have H := Lib.hid h
  have HS := Lib.hid hS
  have HG := Lib.hid hg
  have HNO := Lib.hid hno
  have HYES := Lib.hid hyes
  have HBP := Lib.hid hbp
  have hrl := hr.l
  have hrn := hr.n
  clear h hS hg hno hyes hG hr hbp hB hpl
  go_enter Tryz.func103, Tryz.ntmps103
  go_wp2_with fail
  refine HG.out.mono ?_
  rintro e w1 ⟨rfl, h1, hm1⟩
  cases ok with
  | false =>
    go_wp2_with fail
    go_ret
    unfold appendD withD
    rw [HNO.out trivial]
    exact ⟨rfl, H.out.step0 HS.out hm1 h1⟩
  | true =>
    have hy := HYES.out rfl
    cases hh : hitF d1.fs n with
    | false =>
      rw [hitAns_false _ hh] at hy
      have HY := Lib.hid hy
      have hp := plF_miss hh
      clear hy hh
      go_wp2_with fail
      refine (rat_calls N w1 p d1 row FA KA zs h1 n (by rw [hfs]; omega)).mono ?_
      rintro e wz ⟨rfl, hwz⟩
      subst hwz
      rw [hp]
      clear hp
      go_wp2_with fail
      refine (rtold2_calls N wz p d1 row FA KA zs h1 3 _ rfl).mono ?_
      rintro e wy ⟨rfl, hwy⟩
      subst hwy
      go_wp2_with fail
      go_ret
      unfold appendD withD
      rw [HY.out]
      exact ⟨rfl, H.out.step0 HS.out hm1 h1⟩
    | true =>
      have hlt := hitF_lt hh
      rw [hitAns_true _ hh] at hy
      have hp := plF_hit hh
      obtain ⟨i, hi⟩ : ∃ i, i = lbF d1.fs n := ⟨_, rfl⟩
      rw [← hi] at hp hy hlt
      have hiz : i < zs.length := by rw [← h1.len]; exact hlt
      have hfa : fileAt d1 i = zs[i].1 := by rw [fileAt_get hlt, h1.get hlt hiz]
      have e1 : ¬ ((i : Int) < 0) := by omega
      have hap : appendF b d1 i = if d1.p.cap < ((usedF d1.fs + b.length : Nat) : Int) then (d1, 5) else ({ d1 with fs := d1.fs.set i ⟨zs[i].1.n, zs[i].1.b ++ b, zs[i].1.s⟩ }, 0) := by unfold appendF; rw [hfa]
      have HAP := Lib.hid hap
      have HY := Lib.hid hy
      have y0 : w1.cell? ⟨p, 0, none⟩ = some (.int .i64 d1.p.cap) := h1.cellAt 0
      clear hy hh hi hap hfa
      go_wp2_with fail
      refine (rat_calls N w1 p d1 row FA KA zs h1 n (by rw [hfs]; omega)).mono ?_
      rintro e wz ⟨rfl, hwz⟩
      subst hwz
      rw [hp]
      clear hp
      by_cases hneg : d1.p.cap < 0
      · have hq : appendF b d1 i = (d1, 5) := by rw [HAP.out, if_pos (by omega)]
        have HQ := Lib.hid hq
        clear hq
        go_wp2_with fail
        refine (rtold2_calls N wz p d1 row FA KA zs h1 5 _ rfl).mono ?_
        rintro e wy ⟨rfl, hwy⟩
        subst hwy
        go_wp2_with fail
        go_ret
        unfold appendD withD
        rw [HY.out, HQ.out]
        exact ⟨rfl, H.out.step0 HS.out hm1 h1⟩
      obtain ⟨A, c, hrow, hrd⟩ := h1.fil.own.nilD0
      have y5 : wz.cell? ⟨p, 5, none⟩ = some (.slice A zs.length c) := by rw [← hrow]; exact h1.cellAt 5
      have hln := h1.len
      have hzl : zs.length ≤ 1000000 := by rw [← hln, hfs]; exact hrl
      have hgt : ∀ j, ∀ h2 : j < zs.length, ∃ Av cv, zs[j].2 = .slice Av zs[j].1.b.length cv := fun j h2 => by
        obtain ⟨Av, cv, h3, _⟩ := (h1.fil.ent zs[j] (List.getElem_mem _)).1.nilD0
        exact ⟨Av, cv, h3⟩
      have hst : ∀ j, ∀ h2 : j < zs.length, usedF (d1.fs.take (j + 1)) = usedF (d1.fs.take j) + zs[j].1.b.length := fun j h2 => by
        rw [usedF_take_succ d1.fs j (by rw [hln]; exact h2), h1.get (by rw [hln]; exact h2) h2]
      have hul : ∀ j, usedF (d1.fs.take j) ≤ usedF d1.fs := usedF_take_le d1.fs
      have H1 := Lib.hid h1
      have HGT := Lib.hid hgt
      have HST := Lib.hid hst
      have HUL := Lib.hid hul
      have HROW := Lib.hid hrow
      obtain ⟨us, hud⟩ : ∃ us, us = usedF d1.fs := ⟨_, rfl⟩
      rw [← hud] at hus
      have HUS := Lib.hid hud
      obtain ⟨cap, hcd⟩ : ∃ cap, cap = d1.p.cap := ⟨_, rfl⟩
      rw [← hcd] at hcap hneg y0
      have HCAP := Lib.hid hcd
      clear h1 hgt hst hul hrow hud hcd
      go_wp2_with fail
      go_loopw [10, 11] (fun r t wr => ∃ j : Nat, t = .int .i64 j ∧ r = .int .i64 (cap - (usedF (d1.fs.take j) : Nat)) ∧ j ≤ zs.length ∧ wr = wz) (fun _ t _ => zs.length - (intOf t).toNat)
      case atStart => exact ⟨0, rfl, by simp [usedF], by omega, rfl⟩
      case round =>
        obtain ⟨j, rfl, rfl, hj, rfl⟩ := hrel
        have hu1 := HUL.out j
        rw [← HUS.out] at hu1
        by_cases hltj : j < zs.length
        · obtain ⟨ad, rfl, h0, hk⟩ := Rd.elem (f := encFl) (fun _ => rfl) hrd (by decide) j hltj
          obtain ⟨Av, cv, hyv⟩ := HGT.out j hltj
          have c1 := hk 1 _ (by decide) (by decide) rfl
          have hst := HST.out j hltj
          have hu2 := HUL.out (j + 1)
          rw [← HUS.out] at hu2
          obtain ⟨y, hyd⟩ : ∃ y, y = zs[j] := ⟨_, rfl⟩
          rw [← hyd] at c1 hyv hst
          obtain ⟨yf, yv⟩ := y
          simp only at c1 hyv hst
          subst hyv
          obtain ⟨u1, hu1d⟩ : ∃ u1, u1 = usedF (d1.fs.take j) := ⟨_, rfl⟩
          obtain ⟨u2, hu2d⟩ : ∃ u2, u2 = usedF (d1.fs.take (j + 1)) := ⟨_, rfl⟩
          rw [← hu1d] at hu1 hst ⊢
          rw [← hu2d] at hu2 hst
          have HU2 := Lib.hid hu2d
          have en : IntKind.i64.wrap (cap - (u1 : Int) - (yf.b.length : Int)) = cap - (u1 : Int) - yf.b.length := IntWalk.i64_in _ (by omega)
          have g0 : (0 : Int) ≤ (j : Int) := by omega
          have g1 : (j : Int) < (zs.length : Int) := by omega
          have e8 : IntKind.i64.wrap ((j : Int) + 1) = j + 1 := IntWalk.i64_in _ (by omega)
          have EN := Lib.hid en
          have EU : ((u2 : Nat) : Int) = u1 + yf.b.length := by omega
          have EUH := Lib.hid EU
          clear h0 hk hyd hu1d hu2d EU
          go_wp2_with fail
          go_roundw
          case rel => exact ⟨j + 1, by go_num, by rw [← HU2.out, EUH.out]; congr 1; (first | omega | (rw [EN.out]; omega)), by omega, trivial⟩
          case measure => simp [intOf]; omega
        · have hje : d1.fs.take j = d1.fs := List.take_of_length_le (by omega)
          rw [hje, ← HUS.out]
          by_cases hfull : cap - (us : Int) < (b.length : Int)
          · have hq : appendF b d1 i = (d1, 5) := by rw [HAP.out, if_pos (by rw [← HUS.out, ← HCAP.out]; omega)]
            have HQ := Lib.hid hq
            clear hq hje
            go_wp2_with fail
            refine (rtold2_calls N _ p d1 row FA KA zs H1.out 5 _ rfl).mono ?_
            rintro e wy ⟨rfl, hwy⟩
            subst hwy
            go_wp2_with fail
            go_ret
            unfold appendD withD
            rw [HY.out, HQ.out]
            exact ⟨rfl, H.out.step0 HS.out hm1 H1.out⟩
          · have hq : appendF b d1 i = ({ d1 with fs := d1.fs.set i ⟨zs[i].1.n, zs[i].1.b ++ b, zs[i].1.s⟩ }, 0) := by rw [HAP.out, if_neg (by rw [← HUS.out, ← HCAP.out]; omega)]
            have HQ := Lib.hid hq
            clear hq hje
            obtain ⟨ad, rfl, h0, hk⟩ := Rd.elem (f := encFl) (fun _ => rfl) hrd (by decide) i hiz
            have c1 := hk 1 _ (by decide) (by decide) rfl
            have hent := H1.out.fil.ent zs[i] (List.getElem_mem _)
            obtain ⟨Av, cv, hyv, hrb⟩ := hent.1.nilD0
            have hsyn : zs[i].1.s ≤ zs[i].1.b.length := H1.out.sync _ (by rw [H1.out.fs]; exact List.mem_map_of_mem (List.getElem_mem _))
            have hbl : zs[i].1.b.length ≤ us := by rw [HUS.out, ← H1.out.get hlt hiz]; exact usedF_get _ _ _
            have hal := (Mod.refl NoneB wr).alloc (.cells #[] 5)
            have y5a := hal.cell0 y5
            rw [hyv] at c1
            have c1a := hal.cell0 c1
            have hown0 : Own (wr.alloc (.cells #[] 5)) 5 1 (.slice (some ⟨wr.heap.size, 0, none⟩) 0 0) 0 [] := Own.of_blk (cap := 0) (heap_alloc_new wr _) (by omega) (by omega) (by simp) (by simp)
            have hnews := (hrb.mod0 hal).2.2
            have hsz : (0 + zs[i].1.b.length) * 1 ≤ 140737488355328 := by omega
            have hsz2 : (zs[i].1.b.length + b.length) * 1 ≤ 140737488355328 := by omega
            obtain ⟨ob, hob⟩ : ∃ ob, ob = zs[i].1.b := ⟨_, rfl⟩
            rw [← hob] at c1 c1a hnews hsz hsz2 hrb
            have HOB := Lib.hid hob
            have HYV := Lib.hid hyv
            have HENT := Lib.hid hent
            have HSYN := Lib.hid hsyn
            have g0 : (0 : Int) ≤ (i : Int) := by omega
            have g1 : (i : Int) < (zs.length : Int) := by omega
            clear h0 hk hob hyv hent hsyn hbl
            go_wp2_with (at_builtin; refine wpList_append rfl (.tmp 63) (.tmp 71) 24 rfl 5 _ 1 1 hu tiB rfl (by decide) (by decide) _ 0 [] rfl hown0 Av ob.length cv (encB ob) rfl (encB_length1 ob) hnews (encB_one ob) hsz ?_)
            intro v2 w2 ho2 hm2 hno2
            have hm12 : Mod NoneB wr w2 := hal.trans_new hm2 (fun k hk => .inr (by have e := Option.some.inj (show some wr.heap.size = some k from hk); omega))
            have hn2 : ∀ g, v2.ownBlock = some g → wr.heap.size ≤ g := by
              intro g hg
              rcases hno2 with hq | ⟨b, hq, hb⟩
              · rw [hg] at hq
                have e := Option.some.inj (show some g = some wr.heap.size from hq)
                omega
              · rw [hg] at hq; injection hq with hq; simp at hb; omega
            have ho2 : Own w2 5 1 v2 ob.length (encB ob) := by simpa using ho2
            have hrb2 : Rd w2 1 B b.length (encB b) := (hb.modP hm1 (fun h0 ad hA => HBP.out h0 ad hA)).mod0 hm12
            obtain ⟨V2, c2', rfl, _, _, _⟩ := ho2.out
            have hnews2 := hrb2.2.2
            clear hno2 hown0 hnews c1 c1a y5a
            go_wp2_with (at_builtin; refine wpList_append rfl (.tmp 73) (.tmp 74) 24 rfl 5 _ 1 1 hu tiB rfl (by decide) (by decide) _ ob.length (encB ob) rfl ho2 B b.length bc (encB b) rfl (encB_length1 b) hnews2 (encB_one b) hsz2 ?_)
            intro v3 w3 ho3 hm3 hno3
            have hm13 : Mod NoneB wr w3 := hm12.trans_new hm3 (fun k hk => .inr (hn2 k hk))
            have hn3 : ∀ g, v3.ownBlock = some g → wr.heap.size ≤ g := by
              intro g hg
              rcases hno3 with hq | ⟨b, hq, hb⟩
              · exact hn2 g (by rw [← hq]; exact hg)
              · rw [hg] at hq; injection hq with hq
                have := hm12.size
                omega
            obtain ⟨V3, c3', rfl, _, _, _⟩ := ho3.out
            have ho3' : Own w3 5 1 (.slice V3 (ob.length + b.length) c3') (ob ++ b).length (encB (ob ++ b)) := by rw [encB_append, List.length_append]; exact ho3
            have h3 := H1.out.mod hm13 (fun _ _ h => h) (fun _ h => h.elim)
            obtain ⟨g, c5, hrow3⟩ := h3.fil.own.addrOf (by omega)
            have hown3 := h3.fil.own
            rw [hrow3] at hown3
            have y53 : w3.cell? ⟨p, 5, none⟩ = some (.slice (some ⟨g, 0, none⟩) zs.length c5) := by rw [← hrow3]; exact h3.cellAt 5
            have dd := encFs_get zs i hiz
            have c13 := hown3.cellAt (i * 3 + 1) _ dd.2.1
            have f13 := hown3.frozenAt (i * 3 + 1)
            have hs3 := hown3.set (i * 3 + 1) (.slice V3 (ob.length + b.length) c3')
            have hse : (encFs zs).set (i * 3 + 1) (.slice V3 (ob.length + b.length) c3') = encFs (zs.set i (⟨zs[i].1.n, ob ++ b, zs[i].1.s⟩, .slice V3 (ob.length + b.length) c3')) := by
              rw [← encFs_set3 zs i (⟨zs[i].1.n, ob ++ b, zs[i].1.s⟩, .slice V3 (ob.length + b.length) c3')]
              have q0 : (encFs zs).set (i * 3) (.string zs[i].1.n) = encFs zs := by
                obtain ⟨hl0, e0⟩ := List.getElem?_eq_some_iff.1 dd.1
                rw [← e0]; exact List.set_getElem_self _
              rw [q0, List.set_comm _ _ (by omega)]
              obtain ⟨hl2, e2⟩ := List.getElem?_eq_some_iff.1 dd.2.2
              have q2 : (encFs zs).set (i * 3 + 2) (.int .i64 zs[i].1.s) = encFs zs := by rw [← e2]; exact List.set_getElem_self _
              rw [q2]
            rw [hse] at hs3
            have hgr : row.ownBlock = some g := by rw [hrow3]; rfl
            have hmd : Mod (fun k => k = g) w3 (w3.setCell ⟨g, i * 3 + 1, none⟩ (.slice V3 (ob.length + b.length) c3')) := (Mod.refl (fun k => k = g) w3).setCell (p := ⟨g, i * 3 + 1, none⟩) (fun _ => rfl) _
            have hgw : g < wr.heap.size := H1.out.fil.own.lt hgr
            have h4 := h3.setZ hrow3 hiz (⟨zs[i].1.n, ob ++ b, zs[i].1.s⟩, .slice V3 (ob.length + b.length) c3') hs3 hmd ⟨ho3'.mod hmd (fun g' hg' e => by have := hn3 g' hg'; omega), rfl, fun g' hg' => Nat.le_trans (Nat.le_trans hrn hm1.size) (hn3 g' hg')⟩ rfl (by
              have := HSYN.out
              rw [← HOB.out] at this
              simp only [List.length_append]
              omega)
            have hst : RStep N w S p { d1 with fs := d1.fs.set i ⟨zs[i].1.n, ob ++ b, zs[i].1.s⟩ } (w3.setCell ⟨g, i * 3 + 1, none⟩ (.slice V3 (ob.length + b.length) c3')) := by
              refine H.out.stepB HS.out ((((hm1.mono (fun _ _ h => .inl h)).then0 hm13)).trans hmd (fun _ _ h => .inr (by rw [h]; exact hgr))) h4 (.inl rfl) (fun z hz g' hg' => ?_)
              rcases List.mem_or_eq_of_mem_set hz with hz | rfl
              · exact .inl ⟨z, hz, hg'⟩
              · exact .inr (Nat.le_trans hm1.size (hn3 g' hg'))
            rw [HOB.out] at hst h4
            have HSTEP := Lib.hid hst
            have H4 := Lib.hid h4
            clear hst h4 hs3 hse hmd hown3 dd ho3 ho3' h3 hno3 hnews2 hn3 hrow3 ho2 hrb2
            go_wp2_with fail
            refine (rtold2_calls N _ p _ row FA KA _ (HOB.out ▸ H4.out) 0 _ rfl).mono ?_
            rintro e wy ⟨rfl, hwy⟩
            subst hwy
            go_wp2_with fail
            go_ret
            unfold appendD withD
            rw [HY.out, HQ.out]
            refine ⟨rfl, ?_⟩
            have hq := HSTEP.out
            rw [HOB.out]
            exact hq
end Go.Proofs.YtnlmfmceogbomaaGreatDoor
