/- A disk's New. -/
import Derived.Test.YtnlmfmceogbomaaGreatDoorDkOpsAQq
namespace Go.Proofs.YtnlmfmceogbomaaGreatDoor
open Go.RowKit
set_option linter.unusedVariables false

/-- A plan as a value. -/
def plV (p : Pl) (FA KA : Value) : Value := .agg #[.int .i64 p.cap, FA, .int .i64 p.crash, .bool p.done, KA]

set_option maxHeartbeats 2000000 in
set_option maxRecDepth 100000 in
theorem copied_calls (w : World) (pl : Pl) (F K : Option Addr) (fc kc : Nat) (hF : Rd w 1 F pl.fail.length (encI pl.fail)) (hK : Rd w 1 K pl.keep.length (encI pl.keep)) (hf : pl.fail.length ≤ 1099511627776) (hk : pl.keep.length ≤ 1099511627776) :
    Calls Tryz.prog 34 #[.agg #[.int .i64 pl.cap, .slice F pl.fail.length fc, .int .i64 pl.crash, .bool pl.done, .slice K pl.keep.length kc]] w fun e w' =>
      ∃ FA KA, e = .returned (plV pl FA KA) ∧ Own w' 3 1 FA pl.fail.length (encI pl.fail) ∧ Own w' 3 1 KA pl.keep.length (encI pl.keep) ∧ Mod NoneB w w' ∧ (∀ g, FA.ownBlock = some g → w.heap.size ≤ g) ∧ (∀ g, KA.ownBlock = some g → w.heap.size ≤ g) := by
  go_enter Tryz.func34, Tryz.ntmps34
  go_wp2_with fail
  obtain ⟨o1, ho1⟩ : ∃ o, o = Obj.cells #[.int .i64 pl.cap, .slice F pl.fail.length fc, .int .i64 pl.crash, .bool pl.done, .slice K pl.keep.length kc] 29 := ⟨_, rfl⟩
  obtain ⟨o2, ho2⟩ : ∃ o, o = Obj.cells #[.int .i64 0, .slice none 0 0, .int .i64 0, .bool false, .slice none 0 0] 29 := ⟨_, rfl⟩
  obtain ⟨B, hB⟩ : ∃ B, B = w.heap.size := ⟨_, rfl⟩
  rw [← ho1, ← ho2, ← hB]
  obtain ⟨z1, z2⟩ := box2 w o1 o2
  rw [← hB] at z1 z2
  have hm2 : Mod NoneB w ((w.alloc o1).alloc o2) := ((Mod.refl NoneB _).alloc _).alloc _
  generalize (w.alloc o1).alloc o2 = w2 at hm2 z1 z2 ⊢
  rw [ho1] at z1
  rw [ho2] at z2
  have HB := Lib.hid hB
  clear ho1 ho2 hB
  have c1 : w2.cell? ⟨B, 1, none⟩ = some (.slice F pl.fail.length fc) := by rw [blk_cell z1]; rfl
  have c4 : w2.cell? ⟨B, 4, none⟩ = some (.slice K pl.keep.length kc) := by rw [blk_cell z1]; rfl
  have hFd : Rd w2.drew 1 F pl.fail.length (encI pl.fail) := hF.mod0 (hm2.drew)
  have hKd : Rd w2.drew 1 K pl.keep.length (encI pl.keep) := hK.mod0 (hm2.drew)
  have hCF := cloneI_calls pl.fail F fc w2.drew hFd (by omega)
  have HCF := Lib.hid hCF
  have hCK : ∀ w3, Mod NoneB w2.drew w3 → Calls Tryz.prog 64 #[.slice K pl.keep.length kc] w3 fun e w' => ∃ v', e = .returned v' ∧ Own w' 3 1 v' pl.keep.length (encI pl.keep) ∧ Mod NoneB w3 w' ∧ (∀ g, v'.ownBlock = some g → w3.heap.size ≤ g) :=
    fun w3 hm => cloneI_calls pl.keep K kc w3 (hKd.mod0 hm) (by omega)
  have HCK := Lib.hid hCK
  have hbx : ∀ w3, Mod NoneB w2.drew w3 → w3.heap[B]? = some (.cells #[.int .i64 pl.cap, .slice F pl.fail.length fc, .int .i64 pl.crash, .bool pl.done, .slice K pl.keep.length kc] 29 (0, 0)) ∧ w3.heap[B + 1]? = some (.cells #[.int .i64 0, .slice none 0 0, .int .i64 0, .bool false, .slice none 0 0] 29 (0, 0)) :=
    fun w3 hm => ⟨hm.blk (w := w2.drew) z1 (fun h => h), hm.blk (w := w2.drew) z2 (fun h => h)⟩
  have HBX := Lib.hid hbx
  have hcells : ∀ w3, Mod NoneB w2.drew w3 → w3.cell? ⟨B, 1, none⟩ = some (.slice F pl.fail.length fc) ∧ w3.cell? ⟨B, 4, none⟩ = some (.slice K pl.keep.length kc) ∧ w3.frozen? ⟨B, 1, none⟩ = false ∧ w3.frozen? ⟨B, 4, none⟩ = false := by
    intro w3 hm
    obtain ⟨h1, _⟩ := hbx w3 hm
    exact ⟨by rw [blk_cell h1]; rfl, by rw [blk_cell h1]; rfl, blk_frozen h1 1, blk_frozen h1 4⟩
  have HCE := Lib.hid hcells
  clear hCF hCK hbx hcells hFd hKd hF hK
  go_region_law (first | (go_simp; go_at_call 64; refine HCF.out.mono ?_; rintro ea wa ⟨va, rfl, hoa, hma, hna⟩; obtain ⟨Va, ca, rfl, _, _, _⟩ := hoa.out; obtain ⟨ya1, ya4, ya5, ya6⟩ := HCE.out wa hma) | (go_simp; go_at_call 64; refine (HCK.out _ hma).mono ?_; rintro eb wb ⟨vb, rfl, hob, hmb, hnb⟩; obtain ⟨Vb, cb, rfl, _, _, _⟩ := hob.out; have hmab := hma.then0 hmb; obtain ⟨yb1, yb4, yb5, yb6⟩ := HCE.out wb hmab))
  all_goals
    obtain ⟨hb1, hb2⟩ := HBX.out wb hmab
    have hb3 := setCell_blk (p := B) (j := 4) (u := .slice Vb pl.keep.length cb) (setCell_blk (p := B) (j := 1) (u := .slice Va pl.fail.length ca) hb1)
    have hms : Mod (fun k => k = B) wb ((wb.setCell ⟨B, 1, none⟩ (.slice Va pl.fail.length ca)).setCell ⟨B, 4, none⟩ (.slice Vb pl.keep.length cb)) :=
      (Mod.setCell (S := fun k => k = B) (Mod.refl _ _) (p := ⟨B, 1, none⟩) (fun _ => rfl) _).setCell (p := ⟨B, 4, none⟩) (fun _ => rfl) _
    have hb4 := hms.blk hb2 (by omega)
    generalize (wb.setCell ⟨B, 1, none⟩ (.slice Va pl.fail.length ca)).setCell ⟨B, 4, none⟩ (.slice Vb pl.keep.length cb) = w6 at hms hb3 hb4 ⊢
    have d0 : w6.cell? ⟨B, 0, none⟩ = some (.int .i64 pl.cap) := by rw [blk_cell hb3]; rfl
    have d1 : w6.cell? ⟨B, 1, none⟩ = some (.slice Va pl.fail.length ca) := by rw [blk_cell hb3]; rfl
    have d2 : w6.cell? ⟨B, 2, none⟩ = some (.int .i64 pl.crash) := by rw [blk_cell hb3]; rfl
    have d3 : w6.cell? ⟨B, 3, none⟩ = some (.bool pl.done) := by rw [blk_cell hb3]; rfl
    have d4 : w6.cell? ⟨B, 4, none⟩ = some (.slice Vb pl.keep.length cb) := by rw [blk_cell hb3]; rfl
    have f0 : w6.cell? ⟨B + 1, 0, none⟩ = some (.int .i64 0) := by rw [blk_cell hb4]; rfl
    have f1 : w6.cell? ⟨B + 1, 1, none⟩ = some (.slice none 0 0) := by rw [blk_cell hb4]; rfl
    have f2 : w6.cell? ⟨B + 1, 2, none⟩ = some (.int .i64 0) := by rw [blk_cell hb4]; rfl
    have f3 : w6.cell? ⟨B + 1, 3, none⟩ = some (.bool false) := by rw [blk_cell hb4]; rfl
    have f4 : w6.cell? ⟨B + 1, 4, none⟩ = some (.slice none 0 0) := by rw [blk_cell hb4]; rfl
    have r0 : w6.frozen? ⟨B + 1, 0, none⟩ = false := blk_frozen hb4 0
    have r1 : w6.frozen? ⟨B + 1, 1, none⟩ = false := blk_frozen hb4 1
    have r2 : w6.frozen? ⟨B + 1, 2, none⟩ = false := blk_frozen hb4 2
    have r3 : w6.frozen? ⟨B + 1, 3, none⟩ = false := blk_frozen hb4 3
    have r4 : w6.frozen? ⟨B + 1, 4, none⟩ = false := blk_frozen hb4 4
    clear c1 c4 ya1 ya4 ya5 ya6 yb1 yb4 yb5 yb6
    go_wp2_with fail
    have hb7 := setCell_blk (p := B + 1) (j := 4) (u := .slice Vb pl.keep.length cb) (setCell_blk (p := B + 1) (j := 3) (u := .bool pl.done) (setCell_blk (p := B + 1) (j := 2) (u := .int .i64 pl.crash) (setCell_blk (p := B + 1) (j := 1) (u := .slice Va pl.fail.length ca) (setCell_blk (p := B + 1) (j := 0) (u := .int .i64 pl.cap) hb4))))
    have hm7 : Mod (fun k => k = B + 1) w6 (((((w6.setCell ⟨B + 1, 0, none⟩ (.int .i64 pl.cap)).setCell ⟨B + 1, 1, none⟩ (.slice Va pl.fail.length ca)).setCell ⟨B + 1, 2, none⟩ (.int .i64 pl.crash)).setCell ⟨B + 1, 3, none⟩ (.bool pl.done)).setCell ⟨B + 1, 4, none⟩ (.slice Vb pl.keep.length cb)) :=
      ((((Mod.setCell (S := fun k => k = B + 1) (Mod.refl _ _) (p := ⟨B + 1, 0, none⟩) (fun _ => rfl) _).setCell (p := ⟨B + 1, 1, none⟩) (fun _ => rfl) _).setCell (p := ⟨B + 1, 2, none⟩) (fun _ => rfl) _).setCell (p := ⟨B + 1, 3, none⟩) (fun _ => rfl) _).setCell (p := ⟨B + 1, 4, none⟩) (fun _ => rfl) _
    generalize ((((w6.setCell ⟨B + 1, 0, none⟩ (.int .i64 pl.cap)).setCell ⟨B + 1, 1, none⟩ (.slice Va pl.fail.length ca)).setCell ⟨B + 1, 2, none⟩ (.int .i64 pl.crash)).setCell ⟨B + 1, 3, none⟩ (.bool pl.done)).setCell ⟨B + 1, 4, none⟩ (.slice Vb pl.keep.length cb) = w7 at hb7 hm7 ⊢
    have g0 : w7.cell? ⟨B + 1, 0, none⟩ = some (.int .i64 pl.cap) := by rw [blk_cell hb7]; rfl
    have g1 : w7.cell? ⟨B + 1, 1, none⟩ = some (.slice Va pl.fail.length ca) := by rw [blk_cell hb7]; rfl
    have g2 : w7.cell? ⟨B + 1, 2, none⟩ = some (.int .i64 pl.crash) := by rw [blk_cell hb7]; rfl
    have g3 : w7.cell? ⟨B + 1, 3, none⟩ = some (.bool pl.done) := by rw [blk_cell hb7]; rfl
    have g4 : w7.cell? ⟨B + 1, 4, none⟩ = some (.slice Vb pl.keep.length cb) := by rw [blk_cell hb7]; rfl
    refine bodyPost_ret (v := plV pl (.slice Va pl.fail.length ca) (.slice Vb pl.keep.length cb)) ?_ rfl ?_
    · show (results Tryz.f34 _).run Tryz.prog _ = _
      simp [results, Tryz.f34, plV, go_sem, g0, g1, g2, g3, g4]
    · have hall : Mod (fun k => k = B ∨ k = B + 1) wb w7 := (hms.mono (fun _ _ h => .inl h)).trans hm7 (fun _ _ h => .inr h)
      have hBt : ∀ k, (k = B ∨ k = B + 1) → ∀ (v : Value) (n : Nat) (cs : List Value), Own wb 3 1 v n cs → v.ownBlock ≠ some k := by
        intro k hk v n cs ho hv
        obtain ⟨c', hc'⟩ := ho.tag hv
        rcases hk with rfl | rfl
        · exact tag_ne hb1 hc' (by decide) rfl
        · exact tag_ne hb2 hc' (by decide) rfl
      have hoa' := hoa.mod0 hmb
      have hmw : Mod NoneB w wb := (hm2.drew).then0 hmab
      refine ⟨_, _, rfl, hoa'.mod hall (fun g hg hk => hBt g hk _ _ _ hoa' hg), hob.mod hall (fun g hg hk => hBt g hk _ _ _ hob hg), ?_, fun g hg => ?_, fun g hg => ?_⟩
      · refine hmw.trans_new hall (fun k hk => .inr ?_)
        have := HB.out
        rcases hk with rfl | rfl <;> omega
      · exact Nat.le_trans hm2.size (hna g hg)
      · exact Nat.le_trans hm2.size (Nat.le_trans hma.size (hnb g hg))
end Go.Proofs.YtnlmfmceogbomaaGreatDoor

/- A disk's New, Calls, Down, Read. -/
namespace Go.Proofs.YtnlmfmceogbomaaGreatDoor
open Go.RowKit
set_option linter.unusedVariables false

set_option maxHeartbeats 1000000 in
set_option maxRecDepth 100000 in
theorem new_calls (w : World) (pl : Pl) (F K : Option Addr) (fc kc : Nat) (hF : Rd w 1 F pl.fail.length (encI pl.fail)) (hK : Rd w 1 K pl.keep.length (encI pl.keep)) (hf : pl.fail.length ≤ 1099511627776) (hk : pl.keep.length ≤ 1099511627776) :
    Calls Tryz.prog 13 #[.agg #[.int .i64 pl.cap, .slice F pl.fail.length fc, .int .i64 pl.crash, .bool pl.done, .slice K pl.keep.length kc]] w fun e w' =>
      ∃ p S, e = .returned (.pointer (some ⟨p, 0, none⟩)) ∧ IsD w' p ⟨pl, [], 0, false⟩ S ∧ Mod NoneB w w' ∧ ∀ k, S k → w.heap.size ≤ k := by
  go_enter Tryz.func13, Tryz.ntmps13
  go_wp2_with fail
  have hm : Mod NoneB w (w.alloc (.cells #[.int .i64 pl.cap, .slice F pl.fail.length fc, .int .i64 pl.crash, .bool pl.done, .slice K pl.keep.length kc] 29)) := (Mod.refl NoneB _).alloc _
  refine (copied_calls _ pl F K fc kc (hF.mod0 hm) (hK.mod0 hm) hf hk).mono ?_
  rintro e w2 ⟨FA, KA, rfl, hoF, hoK, hm2, hnF, hnK⟩
  have hmm := hm.then0 hm2
  have hsz := hm.size
  obtain ⟨Fa, ca, rfl, _, _, _⟩ := hoF.out
  obtain ⟨Ka, cb, rfl, _, _, _⟩ := hoK.out
  unfold plV
  clear hF hK
  go_wp2_with fail
  go_ret
  have hma : Mod NoneB w2 (w2.alloc (.cells #[.int .i64 pl.cap, .slice Fa pl.fail.length ca, .int .i64 pl.crash, .bool pl.done, .slice Ka pl.keep.length cb, .slice none 0 0, .int .i64 0, .bool false] 77)) := (Mod.refl NoneB _).alloc _
  refine ⟨w2.heap.size, _, rfl, ⟨.slice none 0 0, [], _, _, ⟨heap_alloc_new w2 _, Own.nil _ _ _, rfl, (fun e he => by cases he), List.Pairwise.nil, hoF.mod0 hma, hoK.mod0 hma, rises_nil, (fun f hf => by cases hf)⟩, fun _ => Iff.rfl⟩, hmm.then0 hma, ?_⟩
  rintro k (rfl | h | ⟨e, he, _⟩ | h | h)
  · exact hmm.size
  · simp [Value.ownBlock] at h
  · cases he
  · exact Nat.le_trans hsz (hnF k h)
  · exact Nat.le_trans hsz (hnK k h)

set_option maxHeartbeats 1000000 in
set_option maxRecDepth 100000 in
theorem callsD_calls (w : World) (p : Nat) (d : Dk) (S : Nat → Prop) (hd : IsD w p d S) :
    Calls Tryz.prog 62 #[.pointer (some ⟨p, 0, none⟩)] w fun e w' => e = .returned (.int .i64 d.c) ∧ w' = w := by
  obtain ⟨row, es, FA, KA, hda, hS⟩ := hd
  have h6 : w.cell? ⟨p, 6, none⟩ = some (.int .i64 d.c) := hda.cellAt 6
  clear hda hS
  go_enter Tryz.func62, Tryz.ntmps62
  go_wp2_with fail
  go_ret
  exact ⟨rfl, rfl⟩

set_option maxHeartbeats 1000000 in
set_option maxRecDepth 100000 in
theorem downD_calls (w : World) (p : Nat) (d : Dk) (S : Nat → Prop) (hd : IsD w p d S) :
    Calls Tryz.prog 63 #[.pointer (some ⟨p, 0, none⟩)] w fun e w' => e = .returned (.bool d.dn) ∧ w' = w := by
  obtain ⟨row, es, FA, KA, hda, hS⟩ := hd
  have h7 : w.cell? ⟨p, 7, none⟩ = some (.bool d.dn) := hda.cellAt 7
  clear hda hS
  go_enter Tryz.func63, Tryz.ntmps63
  go_wp2_with fail
  go_ret
  exact ⟨rfl, rfl⟩

set_option maxHeartbeats 1000000 in
set_option maxRecDepth 100000 in
theorem read_calls (w : World) (p : Nat) (d : Dk) (S : Nat → Prop) (name : ByteArray) (hd : IsD w p d S) (hl : d.fs.length ≤ 4611686018427387904) (hu : usedF d.fs ≤ 70368744177664) :
    Calls Tryz.prog 25 #[.pointer (some ⟨p, 0, none⟩), .string name] w fun e w' =>
      ∃ v, e = .returned (.tuple #[v, .int .i64 (readD d name).2]) ∧ Own w' 5 1 v (readD d name).1.length (encB (readD d name).1) ∧ Mod NoneB w w' ∧ (∀ g, v.ownBlock = some g → w.heap.size ≤ g) := by
  obtain ⟨row, es, FA, KA, hda, hS⟩ := hd
  have h7 : w.cell? ⟨p, 7, none⟩ = some (.bool d.dn) := hda.cellAt 7
  cases hdn : d.dn with
  | true =>
    have hr : readD d name = ([], 7) := by unfold readD; rw [hdn]; rfl
    rw [hr]
    rw [hdn] at h7
    clear hr hdn hda hS
    go_enter Tryz.func25, Tryz.ntmps25
    go_wp2_with fail
    go_ret2
    exact ⟨_, rfl, Own.nil _ _ _, Mod.refl _ _, fun g h => by simp [Value.ownBlock] at h⟩
  | false =>
    rw [hdn] at h7
    have hlen := hda.len
    have HDN := Lib.hid hdn
    have HD := Lib.hid hda
    have HLEN := Lib.hid hlen
    have hl' : es.length ≤ 4611686018427387904 := by omega
    clear hdn hS hlen
    go_enter Tryz.func25, Tryz.ntmps25
    go_wp2_with fail
    refine (dfind_calls _ p d row FA KA es name hda hl').mono ?_
    rintro e w1 ⟨rfl, hm1⟩
    cases hh : hitF d.fs name with
    | false =>
      have hr : readD d name = ([], 3) := by unfold readD; rw [HDN.out, hh]; rfl
      have HR := Lib.hid hr
      clear hr hh hda
      go_wp2_with fail
      go_ret2
      rw [HR.out]
      exact ⟨_, rfl, Own.nil _ _ _, hm1, fun g h => by simp [Value.ownBlock] at h⟩
    | true =>
      have hi : lbF d.fs name < es.length := by rw [← HLEN.out]; exact hitF_lt hh
      have hr : readD d name = (es[lbF d.fs name].f.b, 0) := by unfold readD; rw [HDN.out, hh, if_neg (by simp), if_pos rfl, hda.fileAt hi]
      have hbl : es[lbF d.fs name].f.b.length ≤ usedF d.fs := by rw [← hda.fileAt hi, fileAt_get (by rw [HLEN.out]; exact hi)]; exact usedF_get _ _ _
      have hd1 := hda.mod hm1 (fun _ _ h => h)
      have hok := hd1.ent es[lbF d.fs name] (List.getElem_mem _)
      obtain ⟨A, c, rfl, _, _, hrr⟩ := hd1.row.out
      have h5 : w1.cell? ⟨p, 5, none⟩ = some (.slice A es.length c) := hd1.cellAt 5
      have hlm : (es.map (·.g)).length = es.length := by simp
      obtain ⟨ad, rfl, hp⟩ := hrr.ptr (lbF d.fs name) (by rw [hlm]; exact hi)
      simp only [List.getElem_map] at hp
      obtain ⟨x, hx⟩ : ∃ x, x = es[lbF d.fs name] := ⟨_, rfl⟩
      rw [← hx] at hp hok hr hbl
      obtain ⟨V, vc, hv, _, _, hrv⟩ := hok.own.out
      have y1 : w1.cell? ⟨x.g, 1, none⟩ = some (.slice V x.f.b.length vc) := by rw [blk_cell hok.blk, hv]; rfl
      have e1 : (0 : Int) ≤ (lbF d.fs name : Int) := by omega
      have e2 : (lbF d.fs name : Int) < (es.length : Int) := by omega
      have HR := Lib.hid hr
      have hC := cloneB_calls x.f.b V vc w1 hrv (by omega)
      have HC := Lib.hid hC
      clear hr hh hda hd1 hok hx hv hrv hC hrr hbl HD
      go_wp2_with fail
      refine HC.out.mono ?_
      rintro e w2 ⟨v, rfl, hov, hm2, hnv⟩
      go_wp2_with fail
      go_ret2
      rw [HR.out]
      exact ⟨v, rfl, hov, hm1.then0 hm2, fun g hg => Nat.le_trans hm1.size (hnv g hg)⟩
end Go.Proofs.YtnlmfmceogbomaaGreatDoor

/- A disk's Restart. -/
namespace Go.Proofs.YtnlmfmceogbomaaGreatDoor
open Go.RowKit
set_option linter.unusedVariables false

def restTo (keep : List Int) (fs : List Fl) (j : Nat) : List Fl := (fs.mapIdx (restF keep)).take j ++ fs.drop j
theorem restTo_length (keep : List Int) (fs : List Fl) (j : Nat) (h : j ≤ fs.length) : (restTo keep fs j).length = fs.length := by unfold restTo; simp; omega
theorem restTo_get (keep : List Int) (fs : List Fl) (j : Nat) (h : j < fs.length) : (restTo keep fs j).getD j default = fs[j] := by
  unfold restTo
  rw [List.getD_eq_getElem?_getD, List.getElem?_append_right (by simp; omega)]
  simp [Nat.min_eq_left (Nat.le_of_lt h), h]
theorem restTo_set (keep : List Int) (fs : List Fl) (j : Nat) (h : j < fs.length) : (restTo keep fs j).set j (restF keep j fs[j]) = restTo keep fs (j + 1) := by
  unfold restTo
  rw [List.set_append_right _ _ (by simp; omega)]
  have e : j - ((fs.mapIdx (restF keep)).take j).length = 0 := by simp; omega
  rw [e, List.drop_eq_getElem_cons h, List.set_cons_zero, List.take_succ_eq_append_getElem (by simpa using h)]
  simp
theorem restTo_end (keep : List Int) (fs : List Fl) : restTo keep fs fs.length = fs.mapIdx (restF keep) := by unfold restTo; rw [List.drop_length, List.append_nil]; exact List.take_of_length_le (by simp)
theorem restTo_zero (keep : List Int) (fs : List Fl) : restTo keep fs 0 = fs := by unfold restTo; simp

theorem Foot.set_iff {p : Nat} {row FA KA : Value} {es : List Ent} {i : Nat} (hi : i < es.length) {e' : Ent} (hg : e'.g = es[i].g) (hv : e'.v.ownBlock = es[i].v.ownBlock) (k : Nat) : Foot p row (es.set i e') FA KA k ↔ Foot p row es FA KA k := by
  have h : (∃ e ∈ es.set i e', e.g = k ∨ e.v.ownBlock = some k) ↔ ∃ e ∈ es, e.g = k ∨ e.v.ownBlock = some k := by
    constructor
    · rintro ⟨e, he, hk⟩
      rcases List.mem_or_eq_of_mem_set he with he | rfl
      · exact ⟨e, he, hk⟩
      · exact ⟨es[i], List.getElem_mem _, by rw [← hg, ← hv]; exact hk⟩
    · rintro ⟨e, he, hk⟩
      obtain ⟨j, hj, rfl⟩ := List.getElem_of_mem he
      by_cases hij : i = j
      · subst hij
        exact ⟨e', List.mem_set hi e', by rw [hg, hv]; exact hk⟩
      · refine ⟨es[j], ?_, hk⟩
        rw [List.mem_iff_getElem]
        exact ⟨j, by simpa using hj, by rw [List.getElem_set_ne hij]⟩
  unfold Foot
  rw [h]

/-- A round of Restart: what is left of a file, in memory. -/
theorem DkAt.rest {w w1 : World} {p : Nat} {d : Dk} {row FA KA : Value} {es : List Ent} {S : Nat → Prop} {j : Nat} (h : DkAt w p d row es FA KA) (hS : ∀ k, S k ↔ Foot p row es FA KA k) (hj : j < es.length)
    {e' : Ent} (hg : e'.g = es[j].g) (hv : e'.v.ownBlock = es[j].v.ownBlock) (hok : EntOk w1 e') (hm : Mod (EntB es[j]) w w1) (hn : e'.f.n = es[j].f.n) (hs : e'.f.s ≤ e'.f.b.length) :
    DkAt w1 p { d with fs := d.fs.set j e'.f } row (es.set j e') FA KA ∧ (∀ k, S k ↔ Foot p row (es.set j e') FA KA k) ∧ Mod S w w1 := by
  refine ⟨?_, fun k => (hS k).trans (Foot.set_iff hj hg hv k).symm, hm.mono (fun k _ hk => (hS k).2 (Foot.ent (List.getElem_mem hj) hk))⟩
  have := h.setEnt hj hg hok hm (.inl hv) hn hs
  rw [List.map_set, ← h.fs] at this
  exact this

set_option maxHeartbeats 4000000 in
set_option maxRecDepth 100000 in
theorem restart_calls (w : World) (p : Nat) (d : Dk) (S : Nat → Prop) (pl : Pl) (F K : Option Addr) (fc kc : Nat) (hd : IsD w p d S) (hF : Rd w 1 F pl.fail.length (encI pl.fail)) (hK : Rd w 1 K pl.keep.length (encI pl.keep)) (hoF : 0 < pl.fail.length → Off S F) (hoK : 0 < pl.keep.length → Off S K)
    (hf : pl.fail.length ≤ 1099511627776) (hk : pl.keep.length ≤ 1099511627776) (hl : d.fs.length ≤ 1099511627776) (hu : usedF d.fs ≤ 70368744177664) :
    Calls Tryz.prog 21 #[.pointer (some ⟨p, 0, none⟩), .agg #[.int .i64 pl.cap, .slice F pl.fail.length fc, .int .i64 pl.crash, .bool pl.done, .slice K pl.keep.length kc]] w fun e w' => e = .returned (.tuple #[]) ∧ DStep w S p (restartD d pl) w' := by
  obtain ⟨row, es, FA, KA, hda, hS⟩ := hd
  have hlen := hda.len
  obtain ⟨A, c, hrow, hnc, hcm, hrr⟩ := hda.row.out
  subst hrow
  have h5 : (w.alloc (.cells #[.int .i64 pl.cap, .slice F pl.fail.length fc, .int .i64 pl.crash, .bool pl.done, .slice K pl.keep.length kc] 29)).cell? ⟨p, 5, none⟩ = some (.slice A es.length c) := ((Mod.refl NoneB w).alloc _).cell0 (hda.cellAt 5)
  have hBS : ¬ S w.heap.size := fun h => absurd (hda.lt ((hS _).1 h)) (by omega)
  have HD := Lib.hid hda
  have HS := Lib.hid hS
  have HLEN := Lib.hid hlen
  clear hda hS hlen
  go_enter Tryz.func21, Tryz.ntmps21
  go_wp2_with fail
  obtain ⟨o1, ho1⟩ : ∃ o, o = Obj.cells #[.int .i64 pl.cap, .slice F pl.fail.length fc, .int .i64 pl.crash, .bool pl.done, .slice K pl.keep.length kc] 29 := ⟨_, rfl⟩
  obtain ⟨B, hB⟩ : ∃ B, B = w.heap.size := ⟨_, rfl⟩
  rw [← ho1, ← hB]
  have z1 := box1 w o1
  rw [← hB] at z1 hBS
  have hm1 : Mod NoneB w (w.alloc o1) := (Mod.refl NoneB _).alloc _
  generalize w.alloc o1 = w1 at hm1 z1 ⊢
  rw [ho1] at z1
  have HB := Lib.hid hB
  clear ho1 hB h5
  have hd1 := HD.out.mod hm1 (fun _ _ h => h)
  have HD1 := Lib.hid hd1
  clear hd1
  go_loopw [4, 5, 6, 14] (fun i f s t wr => ∃ (j : Nat) (es' : List Ent), t = .int .i64 j ∧ j ≤ es.length ∧ es'.map (·.g) = es.map (·.g) ∧ DkAt wr p { d with fs := restTo d.p.keep d.fs j } (.slice A es.length c) es' FA KA ∧ (∀ k, S k ↔ Foot p (.slice A es.length c) es' FA KA k) ∧ Mod S w1 wr) (fun _ _ _ t _ => es.length - (intOf t).toNat)
  case atStart => exact ⟨0, es, rfl, by omega, rfl, by rw [restTo_zero]; exact HD1.out, HS.out, Mod.refl _ _⟩
  case round =>
    obtain ⟨j, es', rfl, hj, heg, hdj, hSj, hmj⟩ := hrel
    have hle' : es'.length = es.length := by have := congrArg List.length heg; simpa using this
    have HEG := Lib.hid heg
    have HDJ := Lib.hid hdj
    have HSJ := Lib.hid hSj
    have HLE := Lib.hid hle'
    by_cases hlt : j < es.length
    · have hltF : j < d.fs.length := by rw [HLEN.out]; exact hlt
      have hlt' : j < es'.length := by omega
      have hok := hdj.ent es'[j] (List.getElem_mem _)
      have hfe : es'[j].f = d.fs[j] := by rw [← hdj.fileAt hlt']; exact restTo_get _ _ _ hltF
      obtain ⟨A1, c1, hA1, _, _, hrj⟩ := hdj.row.out
      injection hA1 with hA1 hq1 hc1
      subst hA1 hc1
      clear hq1
      have hlm : (es'.map (·.g)).length = es'.length := by simp
      obtain ⟨ad, rfl, hp⟩ := hrj.ptr j (by rw [hlm]; exact hlt')
      simp only [List.getElem_map] at hp
      have hsy : d.fs[j].s ≤ d.fs[j].b.length := HD.out.sync _ (List.getElem_mem _)
      have hbl : d.fs[j].b.length ≤ usedF d.fs := usedF_get _ _ _
      have hset := restTo_set d.p.keep d.fs j hltF
      obtain ⟨f0, hf0⟩ : ∃ f0, f0 = d.fs[j] := ⟨_, rfl⟩
      obtain ⟨e, he⟩ : ∃ e, e = es'[j] := ⟨_, rfl⟩
      rw [← he] at hok hp hfe
      rw [← hf0] at hfe hsy hbl hset
      obtain ⟨V, vc, hv, hvn, hvm, _⟩ := hok.own.out
      have y1 : wr.cell? ⟨e.g, 1, none⟩ = some (.slice V e.f.b.length vc) := by rw [blk_cell hok.blk, hv]; rfl
      have y2 : wr.cell? ⟨e.g, 2, none⟩ = some (.int .i64 e.f.s) := by rw [blk_cell hok.blk]; rfl
      rw [hfe] at y1 y2 hvn
      obtain ⟨KK, kkc, hKK, _, _, hrk⟩ := hdj.keep.out
      have y4 : wr.cell? ⟨p, 4, none⟩ = some (.slice KK d.p.keep.length kkc) := by rw [hdj.cellAt 4, ← hKK]; rfl
      have HOK := Lib.hid hok
      have HV := Lib.hid hv
      have HFE := Lib.hid hfe
      have HE := Lib.hid he
      have HSET := Lib.hid hset
      obtain ⟨st, hst⟩ : ∃ st, st = max 0 (d.p.keep[j]?.getD 0) := ⟨_, rfl⟩
      have HST := Lib.hid hst
      clear heg hdj hSj hle' hok hfe hrj hlm hf0 he hv hKK hset
      go_upto_if 26 with (fail)
      go_cut [6] (fun s wx => s = .int .i64 st ∧ wx = wr)
      case first =>
        by_cases hkj : j < d.p.keep.length
        · obtain ⟨ak, rfl, hkc⟩ := hrk.ints j hkj
          have hz : st = max 0 (d.p.keep[j]) := by rw [hst, List.getElem?_eq_getElem hkj]; rfl
          obtain ⟨z, hzz⟩ : ∃ z, z = d.p.keep[j] := ⟨_, rfl⟩
          have hkc' : wr.cell? (ak.add j) = some (.int .i64 z) := by rw [hzz]; exact hkc
          rw [← hzz] at hz
          have HZ := Lib.hid hz
          clear hst hz hzz hkc hrk HST
          go_wp2_with fail
          go_meet
          case rel => exact ⟨by rw [HZ.out], by trivial⟩
        · have hz : st = 0 := by rw [hst, List.getElem?_eq_none (by omega)]; rfl
          have HZ := Lib.hid hz
          clear hst hz
          go_wp2_with fail
          go_meet
          case rel => exact ⟨by rw [HZ.out], by trivial⟩
      case rest =>
        obtain ⟨rfl, rfl⟩ := hcut
        have hst0 : 0 ≤ st := by rw [hst]; omega
        obtain ⟨sn, hsn⟩ : ∃ sn : Nat, st = sn := ⟨st.toNat, by omega⟩
        subst hsn
        clear hst y4 hrk hst0
        have e1 : IntKind.i64.wrap ((f0.b.length : Int) - (f0.s : Int)) = (f0.b.length : Int) - f0.s := IntWalk.i64_in _ (by omega)
        by_cases hlt3 : (sn : Int) < (f0.b.length : Int) - f0.s
        · have hm : f0.s + sn ≤ f0.b.length := by omega
          have hrest : restF d.p.keep j f0 = { f0 with b := f0.b.take (f0.s + sn), s := f0.s + sn } := by
            unfold restF
            rw [← HST.out]
            simp only [if_pos hlt3, Int.toNat_natCast, List.length_take]
            rw [Nat.min_eq_left hm]
          have b1 : decide ((sn : Int) < (f0.b.length : Int) - f0.s) = true := by simpa using hlt3
          have HREST := Lib.hid hrest
          clear hrest
          go_wp2_with fail
          go_quiet (fail)
          clear e1
          have hmq : Mod NoneB wc (wc.drewN nq) := (Mod.refl NoneB wc).drewN nq
          have hokq := HOK.out.mod hmq (fun _ _ h => h)
          have y1q := hmq.cell0 y1
          have y2q := hmq.cell0 y2
          generalize wc.drewN nq = w2 at hmq hokq y1q y2q ⊢
          have fr1 : w2.frozen? ⟨e.g, 1, none⟩ = false := blk_frozen hokq.blk 1
          have HOKQ := Lib.hid hokq
          have e2 : IntKind.i64.wrap ((f0.s : Int) + (sn : Int)) = ((f0.s + sn : Nat) : Int) := (IntWalk.i64_in _ (by omega)).trans (by omega)
          have e3 : (0 : Int) ≤ ((f0.s + sn : Nat) : Int) := by omega
          have e4 : ((f0.s + sn : Nat) : Int) ≤ (vc : Int) := by omega
          obtain ⟨m, hmm⟩ : ∃ m, m = f0.s + sn := ⟨_, rfl⟩
          rw [← hmm] at e2 e3 e4 hm HREST
          have e5 : m ≤ vc := by omega
          clear hokq y1 y2 hmm
          go_wp2_with fail
          go_region_law (fail)
          all_goals
            clear e2
            have hlen : (f0.b.take m).length = m := by rw [List.length_take]; omega
            have hown : Own w2 5 1 (.slice V m vc) (f0.b.take m).length (encB (f0.b.take m)) := by
              rw [hlen, encB_take]
              have h := HOKQ.out.own
              rw [HV.out, HFE.out] at h
              exact h.shrink hm
            obtain ⟨hok2, hm2⟩ := HOKQ.out.bytes (Mod.refl _ w2) hown
            have hdr : Mod NoneB (w2.setCell ⟨e.g, 1, none⟩ (.slice V m vc)) (w2.setCell ⟨e.g, 1, none⟩ (.slice V m vc)).drew := (Mod.refl _ _).drew
            have hok3 := hok2.mod hdr (fun _ _ h => h)
            have hm3 := hm2.then0 hdr
            generalize (w2.setCell ⟨e.g, 1, none⟩ (.slice V m vc)).drew = w3 at hok3 hm3 ⊢
            have y1r : w3.cell? ⟨e.g, 1, none⟩ = some (.slice V m vc) := by rw [blk_cell hok3.blk]; rfl
            have y2r : w3.cell? ⟨e.g, 2, none⟩ = some (.int .i64 e.f.s) := by rw [blk_cell hok3.blk]; rfl
            have fr2r : w3.frozen? ⟨e.g, 2, none⟩ = false := blk_frozen hok3.blk 2
            have hok4 := hok3.synced m
            have hm4 : Mod (EntB e) wc (w3.setCell ⟨e.g, 2, none⟩ (.int .i64 (m : Int))) := ((hmq.mono (fun _ _ h => h.elim)).trans hm3 (fun _ _ h => h)).setCell (p := ⟨e.g, 2, none⟩) (fun _ => .inl rfl) _
            have hj' : j < es'.length := by rw [HLE.out]; exact hlt
            have hvb : (Value.slice V m vc).ownBlock = es'[j].v.ownBlock := by rw [← HE.out, HV.out]; exact ownBlock_slice _ _ _ _ _
            obtain ⟨q1, q2, q3⟩ := HDJ.out.rest HSJ.out hj' (e' := ⟨e.g, .slice V m vc, { e.f with b := f0.b.take m, s := m }⟩) (by rw [HE.out]) hvb hok4 (by rw [← HE.out]; exact hm4) (by rw [← HE.out]) (by show m ≤ (f0.b.take m).length; rw [hlen]; exact Nat.le_refl _)
            have hfs : (restTo d.p.keep d.fs j).set j { e.f with b := f0.b.take m, s := m } = restTo d.p.keep d.fs (j + 1) := by rw [← HSET.out, HREST.out, HFE.out]
            have q1' : DkAt (w3.setCell ⟨e.g, 2, none⟩ (.int .i64 (m : Int))) p { d with fs := restTo d.p.keep d.fs (j + 1) } (.slice (some ad) es.length c) (es'.set j ⟨e.g, .slice V m vc, { e.f with b := f0.b.take m, s := m }⟩) FA KA := by
              rw [← hfs]; exact q1
            have hgs : (es'.set j ⟨e.g, .slice V m vc, { e.f with b := f0.b.take m, s := m }⟩).map (·.g) = es.map (·.g) := by
              rw [List.map_set, ← HEG.out]
              show (es'.map (·.g)).set j e.g = _
              rw [HE.out]
              refine List.ext_getElem (by simp) fun a h1 h2 => ?_
              simp only [List.getElem_set, List.getElem_map]
              split
              · rename_i h3; subst h3; rfl
              · rfl
            have Q1 := Lib.hid q1'
            have Q2 := Lib.hid q2
            have Q3 := Lib.hid q3
            have HGS := Lib.hid hgs
            clear hok2 hm2 hdr hok3 hm3 hok4 hm4 hvb q1 q1' q2 q3 hfs hgs hlen hown
            go_wp2_with fail
            go_roundw
            case rel => exact ⟨j + 1, _, by go_num, by omega, HGS.out, Q1.out, Q2.out, hmj.trans Q3.out (fun _ _ h => h)⟩
            case measure => simp [intOf]; omega
        · have hrest : restF d.p.keep j f0 = { f0 with s := f0.b.length } := by
            unfold restF
            rw [← HST.out]
            simp only [if_neg hlt3]
          have b1 : decide ((sn : Int) < (f0.b.length : Int) - f0.s) = false := by simpa using hlt3
          have HREST := Lib.hid hrest
          clear hrest
          go_wp2_with fail
          go_quiet (fail)
          clear e1
          have hmq : Mod NoneB wc (wc.drewN nq) := (Mod.refl NoneB wc).drewN nq
          have hokq := HOK.out.mod hmq (fun _ _ h => h)
          have y1q := hmq.cell0 y1
          have y2q := hmq.cell0 y2
          generalize wc.drewN nq = w2 at hmq hokq y1q y2q ⊢
          have fr2 : w2.frozen? ⟨e.g, 2, none⟩ = false := blk_frozen hokq.blk 2
          obtain ⟨m, hmm⟩ : ∃ m, m = f0.b.length := ⟨_, rfl⟩
          have hok4 := hokq.synced m
          have hm4 : Mod (EntB e) wc (w2.setCell ⟨e.g, 2, none⟩ (.int .i64 (m : Int))) := (hmq.mono (fun _ _ h => h.elim)).setCell (p := ⟨e.g, 2, none⟩) (fun _ => .inl rfl) _
          have hj' : j < es'.length := by rw [HLE.out]; exact hlt
          obtain ⟨q1, q2, q3⟩ := HDJ.out.rest HSJ.out hj' (e' := ⟨e.g, e.v, { e.f with s := m }⟩) (by rw [HE.out]) (by rw [← HE.out]) hok4 (by rw [← HE.out]; exact hm4) (by rw [← HE.out]) (by show m ≤ e.f.b.length; rw [hmm, HFE.out]; exact Nat.le_refl _)
          have hfs : (restTo d.p.keep d.fs j).set j { e.f with s := m } = restTo d.p.keep d.fs (j + 1) := by rw [← HSET.out, HREST.out, HFE.out, hmm]
          have q1' : DkAt (w2.setCell ⟨e.g, 2, none⟩ (.int .i64 (m : Int))) p { d with fs := restTo d.p.keep d.fs (j + 1) } (.slice (some ad) es.length c) (es'.set j ⟨e.g, e.v, { e.f with s := m }⟩) FA KA := by
            rw [← hfs]; exact q1
          have hgs : (es'.set j ⟨e.g, e.v, { e.f with s := m }⟩).map (·.g) = es.map (·.g) := by
            rw [List.map_set, ← HEG.out]
            show (es'.map (·.g)).set j e.g = _
            rw [HE.out]
            refine List.ext_getElem (by simp) fun a h1 h2 => ?_
            simp only [List.getElem_set, List.getElem_map]
            split
            · rename_i h3; subst h3; rfl
            · rfl
          have Q1 := Lib.hid q1'
          have Q2 := Lib.hid q2
          have Q3 := Lib.hid q3
          have HGS := Lib.hid hgs
          clear hokq hok4 hm4 q1 q1' q2 q3 hfs hgs y1 y2
          rw [← hmm] at y1q
          clear hmm
          go_wp2_with fail
          go_roundw
          case rel => exact ⟨j + 1, _, by go_num, by omega, HGS.out, Q1.out, Q2.out, hmj.trans Q3.out (fun _ _ h => h)⟩
          case measure => simp [intOf]; omega
    · have hje : j = es.length := by omega
      subst hje
      have hfs : restTo d.p.keep d.fs es.length = d.fs.mapIdx (restF d.p.keep) := by rw [← HLEN.out, restTo_end]
      rw [hfs] at hdj
      have HDE := Lib.hid hdj
      have hzr := hmj.blk z1 hBS
      have x0 : wr.cell? ⟨B, 0, none⟩ = some (.int .i64 pl.cap) := by rw [blk_cell hzr]; rfl
      have x1 : wr.cell? ⟨B, 1, none⟩ = some (.slice F pl.fail.length fc) := by rw [blk_cell hzr]; rfl
      have x2 : wr.cell? ⟨B, 2, none⟩ = some (.int .i64 pl.crash) := by rw [blk_cell hzr]; rfl
      have x3 : wr.cell? ⟨B, 3, none⟩ = some (.bool pl.done) := by rw [blk_cell hzr]; rfl
      have x4 : wr.cell? ⟨B, 4, none⟩ = some (.slice K pl.keep.length kc) := by rw [blk_cell hzr]; rfl
      have hFr : Rd wr 1 F pl.fail.length (encI pl.fail) := (hF.mod0 hm1).modP hmj hoF
      have hKr : Rd wr 1 K pl.keep.length (encI pl.keep) := (hK.mod0 hm1).modP hmj hoK
      clear heg hdj hSj hle' hfs hzr HDJ
      go_wp2_with fail
      refine (copied_calls wr pl F K fc kc hFr hKr hf hk).mono ?_
      rintro ez w5 ⟨FA', KA', rfl, hoF', hoK', hm5, hnF, hnK⟩
      have hd5 := HDE.out.mod hm5 (fun _ _ h => h)
      obtain ⟨Fa, ca, rfl, _, _, _⟩ := hoF'.out
      obtain ⟨Ka, cb, rfl, _, _, _⟩ := hoK'.out
      unfold plV
      clear x0 x1 x2 x3 x4 hFr hKr hF hK
      have t0 : w5.cell? ⟨p, 0, none⟩ = some (.int .i64 d.p.cap) := hd5.cellAt 0
      have t1 : w5.cell? ⟨p, 1, none⟩ = some FA := hd5.cellAt 1
      have t2 : w5.cell? ⟨p, 2, none⟩ = some (.int .i64 d.p.crash) := hd5.cellAt 2
      have t3 : w5.cell? ⟨p, 3, none⟩ = some (.bool d.p.done) := hd5.cellAt 3
      have t4 : w5.cell? ⟨p, 4, none⟩ = some KA := hd5.cellAt 4
      have t6 : w5.cell? ⟨p, 6, none⟩ = some (.int .i64 d.c) := hd5.cellAt 6
      have t7 : w5.cell? ⟨p, 7, none⟩ = some (.bool d.dn) := hd5.cellAt 7
      have r0 : w5.frozen? ⟨p, 0, none⟩ = false := blk_frozen hd5.blk 0
      have r1 : w5.frozen? ⟨p, 1, none⟩ = false := blk_frozen hd5.blk 1
      have r2 : w5.frozen? ⟨p, 2, none⟩ = false := blk_frozen hd5.blk 2
      have r3 : w5.frozen? ⟨p, 3, none⟩ = false := blk_frozen hd5.blk 3
      have r4 : w5.frozen? ⟨p, 4, none⟩ = false := blk_frozen hd5.blk 4
      have r6 : w5.frozen? ⟨p, 6, none⟩ = false := blk_frozen hd5.blk 6
      have r7 : w5.frozen? ⟨p, 7, none⟩ = false := blk_frozen hd5.blk 7
      have hb6 : (((((((w5.setCell ⟨p, 0, none⟩ (.int .i64 pl.cap)).setCell ⟨p, 1, none⟩ (.slice Fa pl.fail.length ca)).setCell ⟨p, 2, none⟩ (.int .i64 pl.crash)).setCell ⟨p, 3, none⟩ (.bool pl.done)).setCell ⟨p, 4, none⟩ (.slice Ka pl.keep.length cb)).setCell ⟨p, 6, none⟩ (.int .i64 0)).setCell ⟨p, 7, none⟩ (.bool false)).heap[p]? = some (.cells (dkCells ⟨pl, d.fs.mapIdx (restF d.p.keep), 0, false⟩ (.slice A es.length c) (.slice Fa pl.fail.length ca) (.slice Ka pl.keep.length cb)) 77 (0, 0)) :=
        (setCell_blk (setCell_blk (setCell_blk (setCell_blk (setCell_blk (setCell_blk (setCell_blk hd5.blk))))))).trans rfl
      have hm6 : Mod (fun k => k = p) w5 (((((((w5.setCell ⟨p, 0, none⟩ (.int .i64 pl.cap)).setCell ⟨p, 1, none⟩ (.slice Fa pl.fail.length ca)).setCell ⟨p, 2, none⟩ (.int .i64 pl.crash)).setCell ⟨p, 3, none⟩ (.bool pl.done)).setCell ⟨p, 4, none⟩ (.slice Ka pl.keep.length cb)).setCell ⟨p, 6, none⟩ (.int .i64 0)).setCell ⟨p, 7, none⟩ (.bool false)) :=
        ((((((Mod.setCell (S := fun k => k = p) (Mod.refl _ _) (p := ⟨p, 0, none⟩) (fun _ => rfl) _).setCell (p := ⟨p, 1, none⟩) (fun _ => rfl) _).setCell (p := ⟨p, 2, none⟩) (fun _ => rfl) _).setCell (p := ⟨p, 3, none⟩) (fun _ => rfl) _).setCell (p := ⟨p, 4, none⟩) (fun _ => rfl) _).setCell (p := ⟨p, 6, none⟩) (fun _ => rfl) _).setCell (p := ⟨p, 7, none⟩) (fun _ => rfl) _
      have hown : ∀ (v : Value) (n : Nat) (cs : List Value), Own w5 3 1 v n cs → ∀ g, v.ownBlock = some g → ¬ g = p := by
        intro v n cs ho g hg he
        obtain ⟨c', hc'⟩ := ho.tag hg
        exact tag_ne hd5.blk hc' (by decide) he.symm
      have hd6 : DkAt (((((((w5.setCell ⟨p, 0, none⟩ (.int .i64 pl.cap)).setCell ⟨p, 1, none⟩ (.slice Fa pl.fail.length ca)).setCell ⟨p, 2, none⟩ (.int .i64 pl.crash)).setCell ⟨p, 3, none⟩ (.bool pl.done)).setCell ⟨p, 4, none⟩ (.slice Ka pl.keep.length cb)).setCell ⟨p, 6, none⟩ (.int .i64 0)).setCell ⟨p, 7, none⟩ (.bool false)) p ⟨pl, d.fs.mapIdx (restF d.p.keep), 0, false⟩ (.slice A es.length c) es' (.slice Fa pl.fail.length ca) (.slice Ka pl.keep.length cb) :=
        ⟨hb6, hd5.row.mod hm6 (fun g hg => hd5.rowNe hg), hd5.fs, fun e he => (hd5.ent e he).mod hm6 (fun k hk hkp => by subst hkp; exact hd5.diskEnt he hk), hd5.ap, hoF'.mod hm6 (hown _ _ _ hoF'), hoK'.mod hm6 (hown _ _ _ hoK'), hd5.rises, hd5.sync⟩
      have hSp : S p := (HSJ.out _).2 (.inl rfl)
      have hmr : Mod S w wr := (hm1.mono (fun _ _ h => h.elim)).trans hmj (fun _ _ h => h)
      have hmw : Mod S w (((((((w5.setCell ⟨p, 0, none⟩ (.int .i64 pl.cap)).setCell ⟨p, 1, none⟩ (.slice Fa pl.fail.length ca)).setCell ⟨p, 2, none⟩ (.int .i64 pl.crash)).setCell ⟨p, 3, none⟩ (.bool pl.done)).setCell ⟨p, 4, none⟩ (.slice Ka pl.keep.length cb)).setCell ⟨p, 6, none⟩ (.int .i64 0)).setCell ⟨p, 7, none⟩ (.bool false)) := (hmr.then0 hm5).trans hm6 (fun k _ hk => by subst hk; exact hSp)
      have hst : DStep w S p (restartD d pl) (((((((w5.setCell ⟨p, 0, none⟩ (.int .i64 pl.cap)).setCell ⟨p, 1, none⟩ (.slice Fa pl.fail.length ca)).setCell ⟨p, 2, none⟩ (.int .i64 pl.crash)).setCell ⟨p, 3, none⟩ (.bool pl.done)).setCell ⟨p, 4, none⟩ (.slice Ka pl.keep.length cb)).setCell ⟨p, 6, none⟩ (.int .i64 0)).setCell ⟨p, 7, none⟩ (.bool false)) := by
        refine ⟨_, ⟨_, es', _, _, hd6, fun _ => Iff.rfl⟩, hmw, ?_⟩
        rintro k (rfl | h | h | h | h)
        · exact .inl hSp
        · exact .inl ((HSJ.out _).2 (.inr (.inl h)))
        · exact .inl ((HSJ.out _).2 (.inr (.inr (.inl h))))
        · exact .inr (Nat.le_trans hmr.size (hnF k h))
        · exact .inr (Nat.le_trans hmr.size (hnK k h))
      have HST := Lib.hid hst
      clear hb6 hm6 hown hd6 hmr hmw hst hd5 hoF' hoK'
      go_wp2_with fail
      go_end0
      exact ⟨rfl, HST.out⟩
end Go.Proofs.YtnlmfmceogbomaaGreatDoor
