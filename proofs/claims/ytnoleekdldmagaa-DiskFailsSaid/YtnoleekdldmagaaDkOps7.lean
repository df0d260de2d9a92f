/- A disk's Rename. -/
import Derived.Test.YtnoleekdldmagaaDkOps6
namespace Go.Proofs.Ytnoleekdldmagaa
open Go.RowKit
set_option linter.unusedVariables false

theorem newOr_in {w w1 : World} {S : Nat → Prop} {row row' : Value} (h : ∀ k, row.ownBlock = some k → S k ∨ w.heap.size ≤ k) (hno : NewOr w1 row row') (hm : w.heap.size ≤ w1.heap.size) : ∀ k, row'.ownBlock = some k → S k ∨ w.heap.size ≤ k := by
  intro k hk
  rcases hno with h1 | ⟨b, h1, hb⟩
  · exact h k (by rw [← h1]; exact hk)
  · rw [h1] at hk
    injection hk with hk
    subst hk
    exact .inr (Nat.le_trans hm hb)
theorem DkAt.stepTo2 {w w' : World} {p : Nat} {d' : Dk} {row row' FA KA : Value} {es es' : List Ent} {S : Nat → Prop} (hS : ∀ k, S k ↔ Foot p row es FA KA k) (hd : DkAt w' p d' row' es' FA KA)
    (hm : Mod S w w') (hrow : ∀ k, row'.ownBlock = some k → S k ∨ w.heap.size ≤ k) (hout : ∀ e ∈ es', ∀ k, EntB e k → S k ∨ w.heap.size ≤ k) : DStep w S p d' w' := by
  refine ⟨_, ⟨row', es', FA, KA, hd, fun _ => Iff.rfl⟩, hm, ?_⟩
  rintro k (rfl | hk | ⟨e, he, hk⟩ | hk | hk)
  · exact .inl ((hS _).2 (.inl rfl))
  · exact hrow k hk
  · exact hout e he k (hk.elim (fun h => .inl h.symm) .inr)
  · exact .inl ((hS _).2 (.inr (.inr (.inr (.inl hk)))))
  · exact .inl ((hS _).2 (.inr (.inr (.inr (.inr hk)))))
/-- What is off the row is none of the disk's blocks. -/
theorem DkAt.dropOut {w : World} {p : Nat} {d : Dk} {row row' FA KA : Value} {es : List Ent} {i : Nat} (h : DkAt w p d row es FA KA) (hi : i < es.length) (hno : NewOr w row row') : ∀ k, EntB es[i] k → ¬ Foot p row' (es.eraseIdx i) FA KA k := by
  have hmem : es[i] ∈ es := List.getElem_mem _
  rintro k hk (rfl | hr | ⟨e, he, hke⟩ | hf | hf)
  · exact h.diskEnt hmem hk
  · rcases hno with h1 | ⟨b, h1, hb⟩
    · exact h.rowEnt hmem (by rw [← h1]; exact hr) hk
    · rw [h1] at hr
      injection hr with hr
      subst hr
      have := (h.ent _ hmem).lt hk
      omega
  · exact (h.ent _ hmem).apart (h.ent e ((List.eraseIdx_sublist _ _).mem he)) (apart_mem h.ap hi he) (hke.elim (fun h => .inl h.symm) .inr) hk
  · exact h.failEnt hmem hf hk
  · exact h.keepEnt hmem hf hk
theorem EntOk.named {w : World} {e : Ent} (h : EntOk w e) (n : ByteArray) : EntOk (w.setCell ⟨e.g, 0, none⟩ (.string n)) ⟨e.g, e.v, { e.f with n := n }⟩ := by
  refine ⟨(setCell_blk h.blk).trans rfl, h.own.mod (Mod.setCell (S := fun k => k = e.g) (Mod.refl _ _) (p := ⟨e.g, 0, none⟩) (fun _ => rfl) _) (fun g hg hge => ?_)⟩
  obtain ⟨c', hc'⟩ := h.own.tag hg
  exact tag_ne h.blk hc' (by decide) hge.symm

set_option maxHeartbeats 4000000 in
set_option maxRecDepth 100000 in
theorem renameC_calls (w : World) (p : Nat) (d : Dk) (row FA KA : Value) (es : List Ent) (S : Nat → Prop) (n nt : ByteArray) (i q0 q1 q2 : Nat) (hd : DkAt w p d row es FA KA) (hS : ∀ k, S k ↔ Foot p row es FA KA k) (hi : i < es.length) (hl : es.length ≤ 1099511627776)
    (x0 : w.cell? ⟨q0, 0, none⟩ = some (.string nt)) (x1 : w.cell? ⟨q1, 0, none⟩ = some (.string n)) (x2 : w.cell? ⟨q2, 0, none⟩ = some (.pointer (some ⟨p, 0, none⟩))) (hq0 : ¬ S q0) (hq2 : ¬ S q2) :
    Calls Try.prog 85 #[.int .i64 i, .pointer (some ⟨es[i].g, 0, none⟩), .pointer (some ⟨q0, 0, none⟩), .pointer (some ⟨q1, 0, none⟩), .pointer (some ⟨q2, 0, none⟩)] w fun e w' => e = .returned (.int .i64 (renameF n nt d i).2) ∧ DStep w S p (renameF n nt d i).1 w' := by
  have HD0 := Lib.hid hd
  have HS := Lib.hid hS
  by_cases hne : nt = ⟨#[]⟩
  · have ha : renameF n nt d i = (d, 1) := by unfold renameF; rw [if_pos hne]
    have HA := Lib.hid ha
    subst hne
    clear ha hd hS
    go_enter Try.func85, Try.ntmps85
    go_wp2_with fail
    go_ret
    rw [HA.out]
    exact ⟨rfl, S, ⟨row, es, FA, KA, HD0.out, HS.out⟩, Mod.refl _ _, fun k hk => .inl hk⟩
  · have b1 : nt.toList.isEmpty = false := by rw [isEmpty_toList]; exact decide_eq_false hne
    by_cases hnn : nt = n
    · have ha : renameF n nt d i = (d, 0) := by unfold renameF; rw [if_neg hne, if_pos hnn]
      have HA := Lib.hid ha
      have b2 : (nt.toList == n.toList) = true := by rw [beq_toList]; exact decide_eq_true hnn
      clear ha hd hS hne hnn
      go_enter Try.func85, Try.ntmps85
      go_wp2_with fail
      go_ret
      rw [HA.out]
      exact ⟨rfl, S, ⟨row, es, FA, KA, HD0.out, HS.out⟩, Mod.refl _ _, fun k hk => .inl hk⟩
    · have ha : renameF n nt d i = ({ d with fs := putF (d.fs.eraseIdx i) { fileAt d i with n := nt } }, 0) := by unfold renameF; rw [if_neg hne, if_neg hnn]
      rw [hd.fileAt hi] at ha
      have HA := Lib.hid ha
      have b2 : (nt.toList == n.toList) = false := by rw [beq_toList]; exact decide_eq_false hnn
      have hdd : DkAt w.drew p d row es FA KA := hd.mod ((Mod.refl NoneB w).drew) (fun _ _ h => h)
      obtain ⟨A, c, rfl, _, _, _⟩ := hd.row.out
      have h5 : w.cell? ⟨p, 5, none⟩ = some (.slice A es.length c) := hd.cellAt 5
      have hC := deleteGn_calls (es.map (·.g)) es.length (by simp) i _ w.drew hdd.row hi
      have hcx : ∀ w5 : World, Mod (OnlyBlk (.slice A es.length c)) w.drew w5 → w5.cell? ⟨q2, 0, none⟩ = some (.pointer (some ⟨p, 0, none⟩)) ∧ w5.cell? ⟨p, 5, none⟩ = some (.slice A es.length c) ∧ w5.frozen? ⟨p, 5, none⟩ = false := by
        intro w5 hm
        have hp5 := hm.blk hdd.blk (fun hk => hdd.rowNe hk rfl)
        refine ⟨hm.cell (w := w.drew) x2 (fun h => hq2 ((hS _).2 (.inr (.inl h)))), by rw [blk_cell hp5]; rfl, blk_frozen hp5 5⟩
      have HCX := Lib.hid hcx
      have HC := Lib.hid hC
      have HD := Lib.hid hdd
      have e1 : IntKind.i64.wrap ((i : Int) + 1) = i + 1 := IntWalk.i64_in _ (by omega)
      obtain ⟨e, he⟩ : ∃ e, e = es[i] := ⟨_, rfl⟩
      rw [← he]
      have HE := Lib.hid he
      clear hcx hC hdd hd hS ha hne hnn he
      go_enter Try.func85, Try.ntmps85
      go_wp2_with fail
      go_region_law (go_simp; go_at_call 86; refine HC.out.mono ?_; rintro ez w5 ⟨v5, rfl, ho5, hm5, hno5⟩; obtain ⟨A5, c5, rfl, _, _, _⟩ := ho5.out; obtain ⟨y0, y1, y2⟩ := HCX.out w5 hm5)
      all_goals
        obtain ⟨hfin, hmf⟩ := HD.out.drop hi hm5 hno5 ho5
        have hof := HD.out.dropOut hi hno5
        have hmS : ∀ k, (k = p ∨ (Value.slice A es.length c).ownBlock = some k) → S k := fun k hk => (HS.out k).2 (hk.elim .inl (fun h => .inr (.inl h)))
        have hoke : EntOk (w5.setCell ⟨p, 5, none⟩ (.slice A5 (es.length - 1) c5)) e := by
          rw [HE.out]
          exact (HD.out.ent _ (List.getElem_mem _)).mod hmf (fun k hk hk2 => hk2.elim (fun h => by subst h; exact HD.out.diskEnt (List.getElem_mem _) hk) (fun h => HD.out.rowEnt (List.getElem_mem _) h hk))
        have z0 : (w5.setCell ⟨p, 5, none⟩ (.slice A5 (es.length - 1) c5)).cell? ⟨q0, 0, none⟩ = some (.string nt) := hmf.cell (w := w.drew) x0 (fun h => hq0 (hmS _ h))
        have z2 : (w5.setCell ⟨p, 5, none⟩ (.slice A5 (es.length - 1) c5)).cell? ⟨q2, 0, none⟩ = some (.pointer (some ⟨p, 0, none⟩)) := hmf.cell (w := w.drew) x2 (fun h => hq2 (hmS _ h))
        generalize w5.setCell ⟨p, 5, none⟩ (.slice A5 (es.length - 1) c5) = w6 at hfin hmf hoke z0 z2 ⊢
        have z3 : w6.cell? ⟨e.g, 0, none⟩ = some (.string e.f.n) := by rw [blk_cell hoke.blk]; rfl
        have z4 : w6.frozen? ⟨e.g, 0, none⟩ = false := blk_frozen hoke.blk 0
        have heS : S e.g := (HS.out _).2 (Foot.ent (List.getElem_mem hi) (by rw [← HE.out]; exact .inl rfl))
        have hm7 : Mod (fun k => k = e.g) w6 (w6.setCell ⟨e.g, 0, none⟩ (.string nt)) := Mod.setCell (S := fun k => k = e.g) (Mod.refl _ _) (p := ⟨e.g, 0, none⟩) (fun _ => rfl) _
        have z5 : (w6.setCell ⟨e.g, 0, none⟩ (.string nt)).cell? ⟨q2, 0, none⟩ = some (.pointer (some ⟨p, 0, none⟩)) := hm7.cell z2 (fun h => hq2 (by rw [show q2 = e.g from h]; exact heS))
        have hof' : ∀ k, EntB e k → ¬ Foot p (Value.slice A5 (es.length - 1) c5) (es.eraseIdx i) FA KA k := fun k hk => hof k (by rw [← HE.out]; exact hk)
        have hd7 := hfin.mod hm7 (fun k hk he => by subst he; exact hof' e.g (.inl rfl) hk)
        have hok7 := hoke.named nt
        have hmS7 : Mod S w.drew (w6.setCell ⟨e.g, 0, none⟩ (.string nt)) := (hmf.mono (fun k _ hk => hmS k hk)).trans hm7 (fun k _ hk => by subst hk; exact heS)
        have hsy : e.f.s ≤ e.f.b.length := HD.out.sync _ (by rw [HD.out.fs, HE.out]; exact List.mem_map_of_mem (List.getElem_mem hi))
        have hrow7 : ∀ k, (Value.slice A5 (es.length - 1) c5).ownBlock = some k → S k ∨ w.drew.heap.size ≤ k := newOr_in (fun k hk => .inl (hmS k (.inr hk))) hno5 (Nat.le_refl _)
        have HFIN := Lib.hid hfin
        have HD7 := Lib.hid hd7
        have HOK7 := Lib.hid hok7
        have HMS7 := Lib.hid hmS7
        have HROW7 := Lib.hid hrow7
        have HOF' := Lib.hid hof'
        have HMF := Lib.hid hmf
        have HOF := Lib.hid hof
        have HOKE := Lib.hid hoke
        have HMS := Lib.hid hmS
        clear hfin hmf hof hoke hmS y0 y1 y2 x0 x1 x2 hm7 hd7 hok7 hmS7 hrow7 hof' z2
        go_wp2_with fail
        generalize w6.setCell ⟨e.g, 0, none⟩ (.string nt) = w7 at z5 HD7 HOK7 HMS7 ⊢
        refine (dput_calls w7 p _ _ FA KA (es.eraseIdx i) ⟨e.g, e.v, { e.f with n := nt }⟩ HD7.out HOK7.out HOF'.out hsy (by rw [List.length_eraseIdx_of_lt hi]; omega)).mono ?_
        rintro ez w8 ⟨rfl, row', hd8, hm8, hno8⟩
        have hst : DStep w.drew S p { d with fs := putF (d.fs.eraseIdx i) { e.f with n := nt } } w8 := by
          refine DkAt.stepTo2 HS.out hd8 (HMS7.out.trans_new hm8 (fun k hk => ?_)) (newOr_in HROW7.out hno8 HMS7.out.size) (fun e2 he2 k hk => ?_)
          · rcases hk with rfl | hk
            · exact .inl (HMS.out _ (.inl rfl))
            · exact HROW7.out k hk
          · rcases mem_putE he2 with rfl | he2
            · exact .inl ((HS.out _).2 (Foot.ent (List.getElem_mem hi) (by rw [← HE.out]; exact hk)))
            · exact .inl ((HS.out _).2 (Foot.ent ((List.eraseIdx_sublist es i).mem he2) hk))
        have HST := Lib.hid hst
        clear hst hd8 hm8 hno8
        go_wp2_with fail
        go_ret
        rw [HA.out]
        obtain ⟨S', hto⟩ := HST.out
        rw [← HE.out]
        exact ⟨rfl, S', DTo.trans ⟨⟨_, es, FA, KA, HD.out, HS.out⟩, (Mod.refl S w).drew, fun k hk => .inl hk⟩ hto⟩

set_option maxHeartbeats 1000000 in
set_option maxRecDepth 100000 in
theorem rename_calls (w : World) (p : Nat) (d : Dk) (S : Nat → Prop) (n nt : ByteArray) (hd : IsD w p d S) (hc : d.c < 4611686018427387904) (hl : d.fs.length ≤ 1099511627776) :
    Calls Try.prog 43 #[.pointer (some ⟨p, 0, none⟩), .string n, .string nt] w fun e w' => e = .returned (.int .i64 (renameD d n nt).2) ∧ DStep w S p (renameD d n nt).1 w' := by
  have hKw : ∀ args w, (callFunc 85 args).run Try.prog w = .ok (.enter 85 args) w := enters_of Try.func85 (by kernel_rfl) rfl
  go_enter Try.func43, Try.ntmps43
  go_wp2_with fail
  have hm : Mod NoneB w (((w.alloc (.cells #[.pointer (some ⟨p, 0, none⟩)] 38)).alloc (.cells #[.string n] 9)).alloc (.cells #[.string nt] 9)) := (((Mod.refl NoneB _).alloc _).alloc _).alloc _
  obtain ⟨x0, x1, x2⟩ := box3 w (.cells #[.pointer (some ⟨p, 0, none⟩)] 38) (.cells #[.string n] 9) (.cells #[.string nt] 9)
  generalize (((w.alloc (.cells #[.pointer (some ⟨p, 0, none⟩)] 38)).alloc (.cells #[.string n] 9)).alloc (.cells #[.string nt] 9)) = w1 at hm x0 x1 x2 ⊢
  have hS1 : IsD w1 p d S := hd.mod0 hm
  have hmS : Mod S w w1 := hm.mono (fun _ _ h => h.elim)
  have HW : Calls Try.prog 79 #[.pointer (some ⟨p, 0, none⟩), .string n, .func (.func 85) #[] #[.pointer (some ⟨w.heap.size + 1 + 1, 0, none⟩), .pointer (some ⟨w.heap.size + 1, 0, none⟩), .pointer (some ⟨w.heap.size, 0, none⟩)]] w1
      fun e w' => e = .returned (.int .i64 (renameD d n nt).2) ∧ DStep w1 S p (renameD d n nt).1 w' := by
    refine with_calls w1 p d S n _ _ (renameF n nt) hKw hS1 hc (Nat.le_trans hl (by omega)) ?_
    intro w2 dn row es FA KA hm2 hda hS hi _
    exact renameC_calls w2 p _ row FA KA es S n nt _ _ _ _ hda hS hi (by rw [← hda.len]; exact hl) (by rw [blk_cell (hm2.blk x2 (hd.notS (by omega)))]; rfl) (by rw [blk_cell (hm2.blk x1 (hd.notS (by omega)))]; rfl) (by rw [blk_cell (hm2.blk x0 (hd.notS (by omega)))]; rfl) (hd.notS (by omega)) (hd.notS (by omega))
  refine HW.mono ?_
  rintro e w4 ⟨rfl, S', hto⟩
  go_wp2_with fail
  go_ret
  exact ⟨rfl, S', DTo.trans ⟨hS1, hmS, fun k hk => .inl hk⟩ hto⟩
end Go.Proofs.Ytnoleekdldmagaa
