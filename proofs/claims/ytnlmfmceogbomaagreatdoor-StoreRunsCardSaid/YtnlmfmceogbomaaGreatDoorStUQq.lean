/- The reference's store: OpenStore; beside a disk. -/
import Derived.Test.YtnlmfmceogbomaaGreatDoorStTQq
namespace Go.Proofs.YtnlmfmceogbomaaGreatDoor
open Go.RowKit
set_option linter.unusedVariables false

/-- The two disks, apart. -/
structure Bd (w0 w : World) (p q : Nat) (d td : Dk) (S R : Nat → Prop) : Prop where
  base : Mod NoneB w0 w
  isD : IsD w p d S
  S0 : ∀ k, S k → w0.heap.size ≤ k
  isR : IsR w0.heap.size w q td R
  SR : ∀ k, S k → ¬ R k
theorem Bd.mod0 {w0 w w1 : World} {p q : Nat} {d td : Dk} {S R : Nat → Prop} (h : Bd w0 w p q d td S R) (hm : Mod NoneB w w1) : Bd w0 w1 p q d td S R := ⟨h.base.then0 hm, h.isD.mod0 hm, h.S0, h.isR.mod0 hm, h.SR⟩
theorem Rf.bd {w0 w : World} {p q vw vs : Nat} {most : Int} {d : Dk} {t : St} {A : Option Addr} {c : Nat} {S R : Nat → Prop} (h : Rf w0 w p q vw vs most d t A c S R) : Bd w0 w p q d t.d S R := ⟨h.base, h.isD, h.S0, h.isR, h.SR⟩
def LrE (w : World) (x : List Pr × Nat) (e : Ending) (w' : World) : Prop := ∃ A c, e = .returned (.tuple #[.slice A x.1.length c, .int .i64 (x.2 : Nat)]) ∧ Rd w' 2 A x.1.length (encPs x.1) ∧ Mod NoneB w w' ∧ ∀ ad, A = some ad → w.heap.size ≤ ad.block ∧ ad.block < w'.heap.size
theorem rload_two {w0 w : World} {p q : Nat} {d r : Dk} {S R : Nat → Prop} (h : Bd w0 w p q d r S R) (hf : FitT r) : Calls Tryz.prog 55 #[.pointer (some ⟨q, 0, none⟩)] w (LrE w (loadR r)) := by
  have h2 : Two (fun _ => False) w0 w p q d r := ⟨R, ⟨S, h.isD, Mod.refl _ _, fun k hk hh => by
    rcases hh with hh | hh | hh
    · have := h.S0 k hk; omega
    · exact hh
    · exact h.SR k hk hh, fun k hh => by
    rcases hh with hh | hh | hh
    · exact Nat.lt_of_lt_of_le hh h.base.size
    · exact hh.elim
    · exact h.isR.lt hh⟩, h.isR, fun k hk hg => hg, h.base⟩
  refine (h2.rload ⟨by have := hf.c; omega, by have := hf.l; omega, by have := hf.u; omega⟩ (by have := hf.u; omega)).mono ?_
  rintro e w' ⟨A, c, he, hr, _, hm, hn⟩
  exact ⟨A, c, he, hr, hm, fun ad had => by subst had; exact hn ad.block rfl⟩
/-- Behind OpenStore. -/
def RoE (w0 w : World) (p q : Nat) (most : Int) (d td : Dk) (S R : Nat → Prop) (e : Ending) (w' : World) : Prop :=
  ∃ R', Bd w0 w' p q d (openK td) S R' ∧ Mod R w w' ∧ (∀ j, R' j → R j ∨ w.heap.size ≤ j) ∧
    ((openE td = 0 ∧ ∃ vw vs A c, e = .returned (.tuple #[.pointer (some ⟨vs, 0, none⟩), .int .i64 0]) ∧ Rf w0 w' p q vw vs (max most 0) d (openS td) A c S R' ∧ w.heap.size ≤ vw ∧ w.heap.size ≤ vs ∧ ∀ ad, A = some ad → w.heap.size ≤ ad.block) ∨
     (openE td ≠ 0 ∧ e = .returned (.tuple #[.pointer none, .int .i64 (openE td)])))

set_option maxHeartbeats 8000000 in
set_option maxRecDepth 100000 in
theorem rsopen_calls {w0 w : World} {p q : Nat} {d td : Dk} {S R : Nat → Prop} (h : Bd w0 w p q d td S R) (hf : FitT td) (most : Int) (hok : openE td = 0 → Rises (loadR td).1 ∧ (loadR td).1.length + (logL td).flatten.length ≤ 1000000000) :
    Calls Tryz.prog 29 #[.pointer (some ⟨q, 0, none⟩), .int .i64 most] w (RoE w0 w p q most d td S R) := by
  have hfc := hf.c
  have hfl := hf.l
  have hfu := hf.u
  have hld := rload_two h hf
  have hop : ∀ w1, Mod NoneB w w1 → Calls Tryz.prog 56 #[.pointer (some ⟨q, 0, none⟩)] w1 (ROpenE w0.heap.size w1 R q td) := fun w1 hm =>
    rwopen_calls w0.heap.size w1 q td R (h.isR.mod0 hm) (h.base.then0 hm).size (by omega) (by omega) (by omega) (by have := logB_le td; omega)
  have heE : openE td = if (loadR td).2 ≠ 0 then (loadR td).2 else (openD td).2 := rfl
  have heK : openK td = if (loadR td).2 ≠ 0 then td else (openD td).1 := rfl
  have heR : (openS td).r = (logL td).foldl applyT (loadR td).1 := rfl
  obtain ⟨ld, hldE⟩ : ∃ ld, ld = loadR td := ⟨_, rfl⟩
  rw [← hldE] at hld heE heK heR hok
  have HLD := Lib.hid hld
  have HOP := Lib.hid hop
  have HEE := Lib.hid heE
  have HEK := Lib.hid heK
  have HER := Lib.hid heR
  have HOK := Lib.hid hok
  have H := Lib.hid h
  clear hld hop heE heK heR hok h hf hfc hfl hfu hldE
  obtain ⟨base, le⟩ := ld
  simp only at HEE HEK HER HOK
  go_enter Tryz.func29, Tryz.ntmps29
  go_wp2_with fail
  refine HLD.out.mono ?_
  rintro e w1 ⟨A1, c1, rfl, hr1, hm1, hn1⟩
  simp only at hr1
  by_cases hle : le = 0
  case neg =>
    have e1 : openE td = le := by rw [HEE.out, if_pos hle]
    have e2 : openK td = td := by rw [HEK.out, if_pos hle]
    have hfin : RoE w0 w p q most d td S R (.returned (.tuple #[.pointer none, .int .i64 le])) w1 := ⟨R, by rw [e2]; exact H.out.mod0 hm1, hm1.mono (fun _ _ h => h.elim), fun j hj => .inl hj, .inr ⟨by rw [e1]; exact hle, by rw [e1]⟩⟩
    have HFIN := Lib.hid hfin
    have q0 : (((le : Nat) : Int) != 0) = true := bne_iff_ne.mpr (by omega)
    have q0' : (((le : Nat) : Int) == 0) = false := beq_eq_false_iff_ne.mpr (by omega)
    clear hfin e1 e2 hr1 hm1 hn1
    go_wp2_with fail
    go_ret2
    exact HFIN.out
  have e1 : openE td = (openD td).2 := by rw [HEE.out, if_neg (by simpa using hle)]
  have e2 : openK td = (openD td).1 := by rw [HEK.out, if_neg (by simpa using hle)]
  have q0 : (((le : Nat) : Int) != 0) = false := by rw [hle]; rfl
  have q0' : (((le : Nat) : Int) == 0) = true := by rw [hle]; rfl
  have HE1 := Lib.hid e1
  have HE2 := Lib.hid e2
  have hop := HOP.out w1 hm1
  have HOP1 := Lib.hid hop
  clear HEE HEK e1 e2 hop HOP hle
  go_wp2_with fail
  refine HOP1.out.mono ?_
  rintro e w2 ⟨R', hd2, hm2, hn2, ⟨ho, vw, vl, vs', rfl, hq0, hqS, hqb, hbat, hvS, huS⟩ | ⟨ho, rfl⟩⟩
  case inr =>
    have hbd : Bd w0 w2 p q d (openD td).1 S R' := ⟨(H.out.base.then0 hm1).trans_new hm2 (fun k hk => .inr (H.out.isR.new hk)), (H.out.isD.mod0 hm1).mod hm2 (fun k hk hh => H.out.SR k hk hh), H.out.S0, hd2, fun k hk hh => (hn2 k hh).elim (H.out.SR k hk) (fun hn => by have := (H.out.isD.mod0 hm1).lt hk; omega)⟩
    have hfin : RoE w0 w p q most d td S R (.returned (.tuple #[.pointer none, .int .i64 (openD td).2])) w2 := ⟨R', by rw [HE2.out]; exact hbd, (hm1.mono (fun _ _ h => h.elim)).trans hm2 (fun _ _ h => h), fun j hj => (hn2 j hj).imp id (Nat.le_trans hm1.size), .inr ⟨by rw [HE1.out]; exact ho, by rw [HE1.out]⟩⟩
    obtain ⟨oe, hoe⟩ : ∃ oe, oe = (openD td).2 := ⟨_, rfl⟩
    rw [← hoe] at hfin ho ⊢
    have HFIN := Lib.hid hfin
    have q0 : (((oe : Nat) : Int) != 0) = true := bne_iff_ne.mpr (by omega)
    have q0' : (((oe : Nat) : Int) == 0) = false := beq_eq_false_iff_ne.mpr (by omega)
    clear hfin hbd hr1 hm1 hm2 hn1 hn2 hd2 hoe
    go_wp2_with fail
    go_ret2
    exact HFIN.out
  obtain ⟨hbr, hsz⟩ := HOK.out (by rw [HE1.out]; exact ho)
  have hbd : Bd w0 w2 p q d (openD td).1 S R' := ⟨(H.out.base.then0 hm1).trans_new hm2 (fun k hk => .inr (H.out.isR.new hk)), (H.out.isD.mod0 hm1).mod hm2 (fun k hk hh => H.out.SR k hk hh), H.out.S0, hd2, fun k hk hh => (hn2 k hh).elim (H.out.SR k hk) (fun hn => by have := (H.out.isD.mod0 hm1).lt hk; omega)⟩
  have hr2 : Rd w2 2 A1 base.length (encPs base) := hr1.mod hm2 (fun ad had hh => by
    have h1 := (hn1 ad had).1
    exact absurd (H.out.isR.lt hh) (Nat.not_lt.2 h1))
  have hA1 : ∀ ad, A1 = some ad → w.heap.size ≤ ad.block ∧ ad.block < w2.heap.size ∧ ad.block < w1.heap.size := fun ad had => ⟨(hn1 ad had).1, Nat.lt_of_lt_of_le (hn1 ad had).2 hm2.size, (hn1 ad had).2⟩
  have hm02 : Mod R w w2 := (hm1.mono (fun _ _ h => h.elim)).trans hm2 (fun _ _ h => h)
  have hn02 : ∀ j, R' j → R j ∨ w.heap.size ≤ j := fun j hj => (hn2 j hj).imp id (Nat.le_trans hm1.size)
  have hRA : ∀ ad, A1 = some ad → ¬ R' ad.block := fun ad had hh => by
    have h1 := hn1 ad had
    exact (hn2 _ hh).elim (fun hR => absurd (H.out.isR.lt hR) (Nat.not_lt.2 h1.1)) (fun hn => by omega)
  have hqN : w.heap.size ≤ vw := Nat.le_trans hm1.size hq0
  have hq1 : w1.heap.size ≤ vw := hq0
  obtain ⟨Al, cl, rfl, hlc, _, hrl⟩ := hbat.own.out
  have hlenv := hbat.len
  have hSvw : ¬ S vw := fun hh => by have := H.out.isD.lt hh; omega
  have hnl : (logL td).length ≤ 9223372036854775807 := hrl.2.1
  have HBD := Lib.hid hbd
  have HM02 := Lib.hid hm02
  have HN02 := Lib.hid hn02
  have HQB := Lib.hid hqb
  have HBAT := Lib.hid hbat
  have HR2 := Lib.hid hr2
  have HA1 := Lib.hid hA1
  have HRA := Lib.hid hRA
  have HRL := Lib.hid hrl
  have HBR := Lib.hid hbr
  have HSZ := Lib.hid hsz
  have HQS := Lib.hid hqS
  have HO := Lib.hid ho
  clear hbd hm02 hn02 hqb hbat hr2 hr1 hA1 hRA hrl hbr hsz hqS hm1 hm2 hn1 hn2 hd2 hvS huS ho HOK hq0
  go_wp2_with fail
  go_loopw [6, 11] (fun lv i wr => ∃ (j : Nat) (m : List Pr) (A : Option Addr) (c : Nat), lv = .slice A m.length c ∧ i = .int .i64 j ∧ j ≤ (logL td).length ∧ m = ((logL td).take j).foldl applyT base ∧ Rises m ∧ m.length ≤ base.length + ((logL td).take j).flatten.length ∧ Rd wr 2 A m.length (encPs m) ∧ Mod NoneB w2 wr ∧ (∀ ad, A = some ad → w.heap.size ≤ ad.block ∧ ad.block < wr.heap.size ∧ ¬ R' ad.block ∧ ad.block ≠ vw)) (fun _ i _ => (logL td).length - (intOf i).toNat)
  case atStart =>
    refine ⟨0, base, A1, c1, rfl, rfl, by omega, by simp, HBR.out, by simp, HR2.out, Mod.refl _ _, fun ad had => ?_⟩
    obtain ⟨h1, h2, h3⟩ := HA1.out ad had
    exact ⟨h1, h2, HRA.out ad had, by omega⟩
  case round =>
    obtain ⟨j, m, A, c, rfl, rfl, hj, hmE, hrm0, hml, hrd, hm, hfar⟩ := hrel
    by_cases hlt : j < (logL td).length
    · obtain ⟨ad, hal, h0⟩ := HRL.out.one j (by rw [hlenv]; exact hlt)
      subst hal
      obtain ⟨B, cB, eB, _, _, hrB⟩ := (HBAT.out.ent j hlt (by rw [hlenv]; exact hlt)).out
      rw [eB] at h0
      have g0 := hm.cell0 h0
      have hrB2 := hrB.mod0 hm
      have hfl : ((logL td).take j).flatten.length + (logL td)[j].length ≤ (logL td).flatten.length := by
        have e : ((logL td).take (j + 1)).flatten.length = ((logL td).take j).flatten.length + (logL td)[j].length := by rw [List.take_succ_eq_append_getElem hlt, List.flatten_append, List.length_append]; simp
        rw [← e]
        conv => rhs; rw [← List.take_append_drop (j + 1) (logL td), List.flatten_append, List.length_append]
        omega
      have htk : ((logL td).take (j + 1)).foldl applyT base = applyT m (logL td)[j] := by rw [List.take_succ_eq_append_getElem hlt, List.foldl_append, ← hmE]; rfl
      have htl : ((logL td).take (j + 1)).flatten.length = ((logL td).take j).flatten.length + (logL td)[j].length := by rw [List.take_succ_eq_append_getElem hlt, List.flatten_append, List.length_append]; simp
      obtain ⟨o, ho⟩ : ∃ o, o = (logL td)[j] := ⟨_, rfl⟩
      rw [← ho] at g0 hrB2 hfl htk htl
      have hap := rapply_calls m o A B c cB wr hrd hrB2 (by have := HSZ.out; omega)
      have hlen' : (applyT m o).length ≤ base.length + ((logL td).take (j + 1)).flatten.length := by have h1 := len_apply hrm0 o; omega
      have HAP := Lib.hid hap
      have HTK := Lib.hid htk
      have HLEN := Lib.hid hlen'
      clear hap htk htl hml hmE hrm0 h0 eB hrB hrB2 ho hrd hlen' hfar hfl
      go_wp2_with fail
      refine HAP.out.mono ?_
      rintro ez wz ⟨v', rfl, hov', hmz⟩
      obtain ⟨A', c', rfl, _, _, _⟩ := hov'.own.out
      have hm' := hm.then0 hmz
      have hbS : w.heap.size ≤ w2.heap.size := HM02.out.size
      have hsz2 := hm.size
      have hfar' : ∀ ad, A' = some ad → w.heap.size ≤ ad.block ∧ ad.block < wz.heap.size ∧ ¬ R' ad.block ∧ ad.block ≠ vw := fun ad had => by
        subst had
        have h2 := hov'.new ad.block rfl
        have h3 := hov'.own.lt (g := ad.block) rfl
        refine ⟨by omega, h3, fun hh => ?_, fun e => ?_⟩
        · have := HBD.out.isR.lt hh; omega
        · have := blk_lt HQB.out; omega
      have hrd' := own_rd hov'.own
      have H2 := Lib.hid hfar'
      have H3 := Lib.hid hrd'
      have H4 := Lib.hid hm'
      clear hov' hfar' hrd' hm' hm hmz HAP
      go_wp2_with fail
      go_roundw
      case rel => exact ⟨j + 1, applyT m o, A', c', rfl, by go_num, by omega, HTK.out.symm, rises_applyT _ _, HLEN.out, H3.out, H4.out, H2.out⟩
      case measure => simp only [intOf]; go_num
    · have hjl : j = (logL td).length := by omega
      subst hjl
      rw [List.take_length] at hmE
      have her := HER.out
      rw [← hmE] at her
      have hbx := box1 wr (rsblk vw A m.length c (max most 0))
      have hal : Mod NoneB wr (wr.alloc (rsblk vw A m.length c (max most 0))) := (Mod.refl NoneB wr).alloc _
      obtain ⟨s, hs⟩ : ∃ r, r = wr.heap.size := ⟨_, rfl⟩
      obtain ⟨w4, hw4⟩ : ∃ x, x = wr.alloc (rsblk vw A m.length c (max most 0)) := ⟨_, rfl⟩
      have HEQ : Hid (s = wr.heap.size ∧ w4 = wr.alloc (.cells #[.pointer (some ⟨vw, 0, none⟩), .slice A m.length c, .int .i64 (max most 0)] 70)) := Lib.hid ⟨hs, hw4⟩
      rw [← hs, ← hw4] at hbx
      rw [← hw4] at hal
      have hm24 := hm.then0 hal
      have hBd4 := HBD.out.mod0 hm24
      have hsz2 := hm.size
      have hb0 := HBD.out.base.size
      have hw2 : w.heap.size ≤ w2.heap.size := HM02.out.size
      have hww : w0.heap.size ≤ w.heap.size := H.out.base.size
      have hrf : Rf w0 w4 p q vw s (max most 0) d (openS td) A c S R' := by
        refine ⟨hBd4.base, hBd4.isD, hBd4.S0, hBd4.isR, hBd4.SR, hm24.blk HQB.out (fun h => h), by rw [her]; exact hbx, by rw [her]; exact hrd.mod0 hal, by omega, by omega, hSvw, HQS.out, fun hh => by have := HBD.out.isD.lt hh; omega, fun hh => by have := HBD.out.isR.lt hh; omega, by have := blk_lt HQB.out; omega, fun ad had => ?_⟩
        obtain ⟨f0, f1, f2, f3⟩ := hfar ad had
        exact ⟨⟨by omega, Nat.lt_of_lt_of_le f1 hal.size⟩, fun hh => by have := H.out.isD.lt hh; omega, f2, f3, by omega⟩
      have hfin : RoE w0 w p q most d td S R (.returned (.tuple #[.pointer (some ⟨s, 0, none⟩), .int .i64 0])) w4 :=
        ⟨R', by rw [HE2.out]; exact hBd4, HM02.out.trans (hm24.mono (fun _ _ h => h.elim)) (fun _ _ h => h), HN02.out, .inl ⟨by rw [HE1.out]; exact HO.out, vw, s, A, c, rfl, hrf, hqN, by omega, fun ad had => (hfar ad had).1⟩⟩
      have HFIN := Lib.hid hfin
      clear hfin hrf hBd4 hbx hal hm24 hs hw4 hmE her hrm0 hml hrd hm hfar
      go_wp2_with fail
      rw [← HEQ.out.2, ← HEQ.out.1]
      go_wp2_with fail
      go_ret2
      exact HFIN.out
end Go.Proofs.YtnlmfmceogbomaaGreatDoor
