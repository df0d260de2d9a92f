/- A disk's New. -/
import Derived.Test.YtkklofnabmdmfaaGreatDoorDkOpsAQq
namespace Go.Proofs.YtkklofnabmdmfaaGreatDoor
open Go.RowKit
set_option linter.unusedVariables false

/-- A plan as a value. -/
def plV (p : Pl) (FA KA : Value) : Value := .agg #[.int .i64 p.cap, FA, .int .i64 p.crash, .bool p.done, KA]

set_option maxHeartbeats 2000000 in
set_option maxRecDepth 100000 in
theorem copied_calls (w : World) (pl : Pl) (F K : Option Addr) (fc kc : Nat) (hF : Rd w 1 F pl.fail.length (encI pl.fail)) (hK : Rd w 1 K pl.keep.length (encI pl.keep)) (hf : pl.fail.length ≤ 1099511627776) (hk : pl.keep.length ≤ 1099511627776) :
    Calls Tryz.prog 29 #[.agg #[.int .i64 pl.cap, .slice F pl.fail.length fc, .int .i64 pl.crash, .bool pl.done, .slice K pl.keep.length kc]] w fun e w' =>
      ∃ FA KA, e = .returned (plV pl FA KA) ∧ Own w' 3 1 FA pl.fail.length (encI pl.fail) ∧ Own w' 3 1 KA pl.keep.length (encI pl.keep) ∧ Mod NoneB w w' ∧ (∀ g, FA.ownBlock = some g → w.heap.size ≤ g) ∧ (∀ g, KA.ownBlock = some g → w.heap.size ≤ g) := by
  go_enter Tryz.func29, Tryz.ntmps29
  go_wp2_with fail
  obtain ⟨o1, ho1⟩ : ∃ o, o = Obj.cells #[.int .i64 pl.cap, .slice F pl.fail.length fc, .int .i64 pl.crash, .bool pl.done, .slice K pl.keep.length kc] 35 := ⟨_, rfl⟩
  obtain ⟨o2, ho2⟩ : ∃ o, o = Obj.cells #[.int .i64 0, .slice none 0 0, .int .i64 0, .bool false, .slice none 0 0] 35 := ⟨_, rfl⟩
  obtain ⟨B, hB⟩ : ∃ B, B = w.heap.size := ⟨_, rfl⟩
  rw [← ho1, ← ho2, ← hB]
  obtain ⟨z1, z2⟩ := box2 w o1 o2
  rw [← hB] at z1 z2
  have hm2 : Mod NoneB w ((w.alloc o1).alloc o2) := ((Mod.refl NoneB _).alloc _).alloc _
  generalize (w.alloc o1).alloc o2 = w2 at hm2 z1 z2 ⊢
  rw [ho1] at z1
  rw [ho2] at z2
  have HB := Lib.hid hB
  clear ho1 ho2 hB
  have c1 : w2.cell? ⟨B, 1, none⟩ = some (.slice F pl.fail.length fc) := by rw [blk_cell z1]; rfl
  have c4 : w2.cell? ⟨B, 4, none⟩ = some (.slice K pl.keep.length kc) := by rw [blk_cell z1]; rfl
  have hFd : Rd w2.drew 1 F pl.fail.length (encI pl.fail) := hF.mod0 (hm2.drew)
  have hKd : Rd w2.drew 1 K pl.keep.length (encI pl.keep) := hK.mod0 (hm2.drew)
  have hCF := cloneI_calls pl.fail F fc w2.drew hFd (by omega)
  have HCF := Lib.hid hCF
  have hCK : ∀ w3, Mod NoneB w2.drew w3 → Calls Tryz.prog 51 #[.slice K pl.keep.length kc] w3 fun e w' => ∃ v', e = .returned v' ∧ Own w' 3 1 v' pl.keep.length (encI pl.keep) ∧ Mod NoneB w3 w' ∧ (∀ g, v'.ownBlock = some g → w3.heap.size ≤ g) :=
    fun w3 hm => cloneI_calls pl.keep K kc w3 (hKd.mod0 hm) (by omega)
  have HCK := Lib.hid hCK
  have hbx : ∀ w3, Mod NoneB w2.drew w3 → w3.heap[B]? = some (.cells #[.int .i64 pl.cap, .slice F pl.fail.length fc, .int .i64 pl.crash, .bool pl.done, .slice K pl.keep.length kc] 35 (0, 0)) ∧ w3.heap[B + 1]? = some (.cells #[.int .i64 0, .slice none 0 0, .int .i64 0, .bool false, .slice none 0 0] 35 (0, 0)) :=
    fun w3 hm => ⟨hm.blk (w := w2.drew) z1 (fun h => h), hm.blk (w := w2.drew) z2 (fun h => h)⟩
  have HBX := Lib.hid hbx
  have hcells : ∀ w3, Mod NoneB w2.drew w3 → w3.cell? ⟨B, 1, none⟩ = some (.slice F pl.fail.length fc) ∧ w3.cell? ⟨B, 4, none⟩ = some (.slice K pl.keep.length kc) ∧ w3.frozen? ⟨B, 1, none⟩ = false ∧ w3.frozen? ⟨B, 4, none⟩ = false := by
    intro w3 hm
    obtain ⟨h1, _⟩ := hbx w3 hm
    exact ⟨by rw [blk_cell h1]; rfl, by rw [blk_cell h1]; rfl, blk_frozen h1 1, blk_frozen h1 4⟩
  have HCE := Lib.hid hcells
  clear hCF hCK hbx hcells hFd hKd hF hK
  go_region_law (first | (go_simp; go_at_call 51; refine HCF.out.mono ?_; rintro ea wa ⟨va, rfl, hoa, hma, hna⟩; obtain ⟨Va, ca, rfl, _, _, _⟩ := hoa.out; obtain ⟨ya1, ya4, ya5, ya6⟩ := HCE.out wa hma) | (go_simp; go_at_call 51; refine (HCK.out _ hma).mono ?_; rintro eb wb ⟨vb, rfl, hob, hmb, hnb⟩; obtain ⟨Vb, cb, rfl, _, _, _⟩ := hob.out; have hmab := hma.then0 hmb; obtain ⟨yb1, yb4, yb5, yb6⟩ := HCE.out wb hmab))
  all_goals
    obtain ⟨hb1, hb2⟩ := HBX.out wb hmab
    have hb3 := setCell_blk (p := B) (j := 4) (u := .slice Vb pl.keep.length cb) (setCell_blk (p := B) (j := 1) (u := .slice Va pl.fail.length ca) hb1)
    have hms : Mod (fun k => k = B) wb ((wb.setCell ⟨B, 1, none⟩ (.slice Va pl.fail.length ca)).setCell ⟨B, 4, none⟩ (.slice Vb pl.keep.length cb)) :=
      (Mod.setCell (S := fun k => k = B) (Mod.refl _ _) (p := ⟨B, 1, none⟩) (fun _ => rfl) _).setCell (p := ⟨B, 4, none⟩) (fun _ => rfl) _
    have hb4 := hms.blk hb2 (by omega)
    generalize (wb.setCell ⟨B, 1, none⟩ (.slice Va pl.fail.length ca)).setCell ⟨B, 4, none⟩ (.slice Vb pl.keep.length cb) = w6 at hms hb3 hb4 ⊢
    have d0 : w6.cell? ⟨B, 0, none⟩ = some (.int .i64 pl.cap) := by rw [blk_cell hb3]; rfl
    have d1 : w6.cell? ⟨B, 1, none⟩ = some (.slice Va pl.fail.length ca) := by rw [blk_cell hb3]; rfl
    have d2 : w6.cell? ⟨B, 2, none⟩ = some (.int .i64 pl.crash) := by rw [blk_cell hb3]; rfl
    have d3 : w6.cell? ⟨B, 3, none⟩ = some (.bool pl.done) := by rw [blk_cell hb3]; rfl
    have d4 : w6.cell? ⟨B, 4, none⟩ = some (.slice Vb pl.keep.length cb) := by rw [blk_cell hb3]; rfl
    have f0 : w6.cell? ⟨B + 1, 0, none⟩ = some (.int .i64 0) := by rw [blk_cell hb4]; rfl
    have f1 : w6.cell? ⟨B + 1, 1, none⟩ = some (.slice none 0 0) := by rw [blk_cell hb4]; rfl
    have f2 : w6.cell? ⟨B + 1, 2, none⟩ = some (.int .i64 0) := by rw [blk_cell hb4]; rfl
    have f3 : w6.cell? ⟨B + 1, 3, none⟩ = some (.bool false) := by rw [blk_cell hb4]; rfl
    have f4 : w6.cell? ⟨B + 1, 4, none⟩ = some (.slice none 0 0) := by rw [blk_cell hb4]; rfl
    have r0 : w6.frozen? ⟨B + 1, 0, none⟩ = false := blk_frozen hb4 0
    have r1 : w6.frozen? ⟨B + 1, 1, none⟩ = false := blk_frozen hb4 1
    have r2 : w6.frozen? ⟨B + 1, 2, none⟩ = false := blk_frozen hb4 2
    have r3 : w6.frozen? ⟨B + 1, 3, none⟩ = false := blk_frozen hb4 3
    have r4 : w6.frozen? ⟨B + 1, 4, none⟩ = false := blk_frozen hb4 4
    clear c1 c4 ya1 ya4 ya5 ya6 yb1 yb4 yb5 yb6
    go_wp2_with fail
    have hb7 := setCell_blk (p := B + 1) (j := 4) (u := .slice Vb pl.keep.length cb) (setCell_blk (p := B + 1) (j := 3) (u := .bool pl.done) (setCell_blk (p := B + 1) (j := 2) (u := .int .i64 pl.crash) (setCell_blk (p := B + 1) (j := 1) (u := .slice Va pl.fail.length ca) (setCell_blk (p := B + 1) (j := 0) (u := .int .i64 pl.cap) hb4))))
    have hm7 : Mod (fun k => k = B + 1) w6 (((((w6.setCell ⟨B + 1, 0, none⟩ (.int .i64 pl.cap)).setCell ⟨B + 1, 1, none⟩ (.slice Va pl.fail.length ca)).setCell ⟨B + 1, 2, none⟩ (.int .i64 pl.crash)).setCell ⟨B + 1, 3, none⟩ (.bool pl.done)).setCell ⟨B + 1, 4, none⟩ (.slice Vb pl.keep.length cb)) :=
      ((((Mod.setCell (S := fun k => k = B + 1) (Mod.refl _ _) (p := ⟨B + 1, 0, none⟩) (fun _ => rfl) _).setCell (p := ⟨B + 1, 1, none⟩) (fun _ => rfl) _).setCell (p := ⟨B + 1, 2, none⟩) (fun _ => rfl) _).setCell (p := ⟨B + 1, 3, none⟩) (fun _ => rfl) _).setCell (p := ⟨B + 1, 4, none⟩) (fun _ => rfl) _
    generalize ((((w6.setCell ⟨B + 1, 0, none⟩ (.int .i64 pl.cap)).setCell ⟨B + 1, 1, none⟩ (.slice Va pl.fail.length ca)).setCell ⟨B + 1, 2, none⟩ (.int .i64 pl.crash)).setCell ⟨B + 1, 3, none⟩ (.bool pl.done)).setCell ⟨B + 1, 4, none⟩ (.slice Vb pl.keep.length cb) = w7 at hb7 hm7 ⊢
    have g0 : w7.cell? ⟨B + 1, 0, none⟩ = some (.int .i64 pl.cap) := by rw [blk_cell hb7]; rfl
    have g1 : w7.cell? ⟨B + 1, 1, none⟩ = some (.slice Va pl.fail.length ca) := by rw [blk_cell hb7]; rfl
    have g2 : w7.cell? ⟨B + 1, 2, none⟩ = some (.int .i64 pl.crash) := by rw [blk_cell hb7]; rfl
    have g3 : w7.cell? ⟨B + 1, 3, none⟩ = some (.bool pl.done) := by rw [blk_cell hb7]; rfl
    have g4 : w7.cell? ⟨B + 1, 4, none⟩ = some (.slice Vb pl.keep.length cb) := by rw [blk_cell hb7]; rfl
    refine bodyPost_ret (v := plV pl (.slice Va pl.fail.length ca) (.slice Vb pl.keep.length cb)) ?_ rfl ?_
    · show (results Tryz.f29 _).run Tryz.prog _ = _
      simp [results, Tryz.f29, plV, go_sem, g0, g1, g2, g3, g4]
    · have hall : Mod (fun k => k = B ∨ k = B + 1) wb w7 := (hms.mono (fun _ _ h => .inl h)).trans hm7 (fun _ _ h => .inr h)
      have hBt : ∀ k, (k = B ∨ k = B + 1) → ∀ (v : Value) (n : Nat) (cs : List Value), Own wb 3 1 v n cs → v.ownBlock ≠ some k := by
        intro k hk v n cs ho hv
        obtain ⟨c', hc'⟩ := ho.tag hv
        rcases hk with rfl | rfl
        · exact tag_ne hb1 hc' (by decide) rfl
        · exact tag_ne hb2 hc' (by decide) rfl
      have hoa' := hoa.mod0 hmb
      have hmw : Mod NoneB w wb := (hm2.drew).then0 hmab
      refine ⟨_, _, rfl, hoa'.mod hall (fun g hg hk => hBt g hk _ _ _ hoa' hg), hob.mod hall (fun g hg hk => hBt g hk _ _ _ hob hg), ?_, fun g hg => ?_, fun g hg => ?_⟩
      · refine hmw.trans_new hall (fun k hk => .inr ?_)
        have := HB.out
        rcases hk with rfl | rfl <;> omega
      · exact Nat.le_trans hm2.size (hna g hg)
      · exact Nat.le_trans hm2.size (Nat.le_trans hma.size (hnb g hg))
end Go.Proofs.YtkklofnabmdmfaaGreatDoor

/- A disk's New, Calls, Down, Read. -/
namespace Go.Proofs.YtkklofnabmdmfaaGreatDoor
open Go.RowKit
set_option linter.unusedVariables false

set_option maxHeartbeats 1000000 in
set_option maxRecDepth 100000 in
theorem new_calls (w : World) (pl : Pl) (F K : Option Addr) (fc kc : Nat) (hF : Rd w 1 F pl.fail.length (encI pl.fail)) (hK : Rd w 1 K pl.keep.length (encI pl.keep)) (hf : pl.fail.length ≤ 1099511627776) (hk : pl.keep.length ≤ 1099511627776) :
    Calls Tryz.prog 14 #[.agg #[.int .i64 pl.cap, .slice F pl.fail.length fc, .int .i64 pl.crash, .bool pl.done, .slice K pl.keep.length kc]] w fun e w' =>
      ∃ p S, e = .returned (.pointer (some ⟨p, 0, none⟩)) ∧ IsD w' p ⟨pl, [], 0, false⟩ S ∧ Mod NoneB w w' ∧ ∀ k, S k → w.heap.size ≤ k := by
  go_enter Tryz.func14, Tryz.ntmps14
  go_wp2_with fail
  have hm : Mod NoneB w (w.alloc (.cells #[.int .i64 pl.cap, .slice F pl.fail.length fc, .int .i64 pl.crash, .bool pl.done, .slice K pl.keep.length kc] 35)) := (Mod.refl NoneB _).alloc _
  refine (copied_calls _ pl F K fc kc (hF.mod0 hm) (hK.mod0 hm) hf hk).mono ?_
  rintro e w2 ⟨FA, KA, rfl, hoF, hoK, hm2, hnF, hnK⟩
  have hmm := hm.then0 hm2
  have hsz := hm.size
  obtain ⟨Fa, ca, rfl, _, _, _⟩ := hoF.out
  obtain ⟨Ka, cb, rfl, _, _, _⟩ := hoK.out
  unfold plV
  clear hF hK
  go_wp2_with fail
  go_ret
  have hma : Mod NoneB w2 (w2.alloc (.cells #[.int .i64 pl.cap, .slice Fa pl.fail.length ca, .int .i64 pl.crash, .bool pl.done, .slice Ka pl.keep.length cb, .slice none 0 0, .int .i64 0, .bool false] 75)) := (Mod.refl NoneB _).alloc _
  refine ⟨w2.heap.size, _, rfl, ⟨.slice none 0 0, [], _, _, ⟨heap_alloc_new w2 _, Own.nil _ _ _, rfl, (fun e he => by cases he), List.Pairwise.nil, hoF.mod0 hma, hoK.mod0 hma, rises_nil, (fun f hf => by cases hf)⟩, fun _ => Iff.rfl⟩, hmm.then0 hma, ?_⟩
  rintro k (rfl | h | ⟨e, he, _⟩ | h | h)
  · exact hmm.size
  · simp [Value.ownBlock] at h
  · cases he
  · exact Nat.le_trans hsz (hnF k h)
  · exact Nat.le_trans hsz (hnK k h)

set_option maxHeartbeats 1000000 in
set_option maxRecDepth 100000 in
theorem read_calls (w : World) (p : Nat) (d : Dk) (S : Nat → Prop) (name : ByteArray) (hd : IsD w p d S) (hl : d.fs.length ≤ 4611686018427387904) (hu : usedF d.fs ≤ 70368744177664) :
    Calls Tryz.prog 52 #[.pointer (some ⟨p, 0, none⟩), .string name] w fun e w' =>
      ∃ v, e = .returned (.tuple #[v, .int .i64 (readD d name).2]) ∧ Own w' 5 1 v (readD d name).1.length (encB (readD d name).1) ∧ Mod NoneB w w' ∧ (∀ g, v.ownBlock = some g → w.heap.size ≤ g) := by
  obtain ⟨row, es, FA, KA, hda, hS⟩ := hd
  have h7 : w.cell? ⟨p, 7, none⟩ = some (.bool d.dn) := hda.cellAt 7
  cases hdn : d.dn with
  | true =>
    have hr : readD d name = ([], 7) := by unfold readD; rw [hdn]; rfl
    rw [hr]
    rw [hdn] at h7
    clear hr hdn hda hS
    go_enter Tryz.func52, Tryz.ntmps52
    go_wp2_with fail
    go_ret2
    exact ⟨_, rfl, Own.nil _ _ _, Mod.refl _ _, fun g h => by simp [Value.ownBlock] at h⟩
  | false =>
    rw [hdn] at h7
    have hlen := hda.len
    have HDN := Lib.hid hdn
    have HD := Lib.hid hda
    have HLEN := Lib.hid hlen
    have hl' : es.length ≤ 4611686018427387904 := by omega
    clear hdn hS hlen
    go_enter Tryz.func52, Tryz.ntmps52
    go_wp2_with fail
    refine (dfind_calls _ p d row FA KA es name hda hl').mono ?_
    rintro e w1 ⟨rfl, hm1⟩
    cases hh : hitF d.fs name with
    | false =>
      have hr : readD d name = ([], 3) := by unfold readD; rw [HDN.out, hh]; rfl
      have HR := Lib.hid hr
      clear hr hh hda
      go_wp2_with fail
      go_ret2
      rw [HR.out]
      exact ⟨_, rfl, Own.nil _ _ _, hm1, fun g h => by simp [Value.ownBlock] at h⟩
    | true =>
      have hi : lbF d.fs name < es.length := by rw [← HLEN.out]; exact hitF_lt hh
      have hr : readD d name = (es[lbF d.fs name].f.b, 0) := by unfold readD; rw [HDN.out, hh, if_neg (by simp), if_pos rfl, hda.fileAt hi]
      have hbl : es[lbF d.fs name].f.b.length ≤ usedF d.fs := by rw [← hda.fileAt hi, fileAt_get (by rw [HLEN.out]; exact hi)]; exact usedF_get _ _ _
      have hd1 := hda.mod hm1 (fun _ _ h => h)
      have hok := hd1.ent es[lbF d.fs name] (List.getElem_mem _)
      obtain ⟨A, c, rfl, _, _, hrr⟩ := hd1.row.out
      have h5 : w1.cell? ⟨p, 5, none⟩ = some (.slice A es.length c) := hd1.cellAt 5
      have hlm : (es.map (·.g)).length = es.length := by simp
      obtain ⟨ad, rfl, hp⟩ := hrr.ptr (lbF d.fs name) (by rw [hlm]; exact hi)
      simp only [List.getElem_map] at hp
      obtain ⟨x, hx⟩ : ∃ x, x = es[lbF d.fs name] := ⟨_, rfl⟩
      rw [← hx] at hp hok hr hbl
      obtain ⟨V, vc, hv, _, _, hrv⟩ := hok.own.out
      have y1 : w1.cell? ⟨x.g, 1, none⟩ = some (.slice V x.f.b.length vc) := by rw [blk_cell hok.blk, hv]; rfl
      have e1 : (0 : Int) ≤ (lbF d.fs name : Int) := by omega
      have e2 : (lbF d.fs name : Int) < (es.length : Int) := by omega
      have HR := Lib.hid hr
      have hC := cloneB_calls x.f.b V vc w1 hrv (by omega)
      have HC := Lib.hid hC
      clear hr hh hda hd1 hok hx hv hrv hC hrr hbl HD
      go_wp2_with fail
      refine HC.out.mono ?_
      rintro e w2 ⟨v, rfl, hov, hm2, hnv⟩
      go_wp2_with fail
      go_ret2
      rw [HR.out]
      exact ⟨v, rfl, hov, hm1.then0 hm2, fun g hg => Nat.le_trans hm1.size (hnv g hg)⟩
end Go.Proofs.YtkklofnabmdmfaaGreatDoor

/- A disk's Restart. -/
namespace Go.Proofs.YtkklofnabmdmfaaGreatDoor
open Go.RowKit
set_option linter.unusedVariables false

end Go.Proofs.YtkklofnabmdmfaaGreatDoor
