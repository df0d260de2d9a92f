/- WalRuns: whatever is committed, by whatever plans of the disk, a log answers, and the disk has, what the document says: the walk of the law. -/
import Derived.Test.YtedjfbbfpnkbeaaGreatDoorWalT
import Derived.Test.YtedjfbbfpnkbeaaGreatDoorBulkA
import Derived.Test.YtedjfbbfpnkbeaaGreatDoorSame
import Derived.Deep.DeepCutAuto
import Derived.Deep.RegionHeld3
import Derived.Deep.CutBlock
namespace Go.Proofs.YtedjfbbfpnkbeaaGreatDoor
open Go.RowKit
set_option linter.unusedVariables false

theorem wpAnyH_imp {P : Program} {md : Region.Mode} {ops : Array Oper} {Q : Exit → Act → World → Prop} {S S2 : World → Prop} (h : ∀ w, S2 w → S w) : ∀ (fuel : Nat) (listed : Array Bool) (a : Act) (w : World), wpAnyH P md ops Q S2 fuel listed a w → wpAnyH P md ops Q S fuel listed a w
  | 0, _, _, _, hh => hh
  | fuel + 1, _, _, _, hh => ⟨hh.1, fun i hi => wpOp_mono (fun a' w' h' => ⟨h _ h'.1, wpAnyH_imp h fuel _ a' w' h'.2⟩) (hh.2 i hi)⟩
theorem add_nil7 (ad : Addr) : ad.add 0 = ad := by unfold Addr.add; split <;> simp_all
set_option maxHeartbeats 100000000 in
set_option maxRecDepth 100000 in
theorem walRuns_walk (l0 : List PlV) (l1 : List OsV) (l2 : List UInt8) (a0 a1 a2 : Option Addr) (c0 c1 c2 : Nat) (w : World) (rd0 : Rd w 5 a0 l0.length (l0.flatMap encPl)) (ok0 : ∀ x ∈ l0, PlOk2 w x)
    (rd1 : Rd w 1 a1 l1.length (l1.flatMap encOv)) (ok1 : ∀ x ∈ l1, OsOk w x) (rd2 : Rd w 1 a2 l2.length (encB l2)) (htab : TabW w) :
    Calls Tryz.prog 3 #[.slice a0 l0.length c0, .slice a1 l1.length c1, .slice a2 l2.length c2] w fun e w' => e = .returned (.bool true) ∧ Mod NoneB w w' := by
  have hhe := heavy7_calls l1 l0 a1 a0 c1 c0 w rd1 ok1 rd0 (fun x hx => (ok0 x hx).ok)
  have HHE := Lib.hid hhe
  have OK0 := Lib.hid ok0
  have OK1 := Lib.hid ok1
  clear hhe ok0 ok1
  go_enter Tryz.func3, Tryz.ntmps3
  go_wp2_with fail
  refine HHE.out.mono ?_
  rintro e w1 ⟨b, rfl, hm1, hb1⟩
  clear HHE
  cases b with
  | true =>
    clear hb1
    go_wp2_with ((with_reducible refine (awake7_calls _ (htab.mod0 hm1)).mono ?_); rintro e wz ⟨rfl, hmz⟩)
    go_ret
    exact ⟨rfl, hm1.then0 hmz⟩
  | false =>
    by_cases g60 : 60 < l2.length
    · have hg : (60 : Int) < (l2.length : Int) := by omega
      clear hb1
      go_wp2_with ((with_reducible refine (awake7_calls _ (htab.mod0 hm1)).mono ?_); rintro e wz ⟨rfl, hmz⟩)
      go_ret
      exact ⟨rfl, hm1.then0 hmz⟩
    have hg : ¬ (60 : Int) < (l2.length : Int) := by omega
    by_cases g0 : l0.length = 0
    · have h0 : l0 = [] := List.eq_nil_of_length_eq_zero g0
      subst h0
      clear hb1 g0
      go_wp2_with ((with_reducible refine (awake7_calls _ (htab.mod0 hm1)).mono ?_); rintro e wz ⟨rfl, hmz⟩)
      go_ret
      exact ⟨rfl, hm1.then0 hmz⟩
    have e2 : ((l0.length : Int) == 0) = false := beq_eq_false_iff_ne.mpr (by omega)
    have g2 : 0 < l0.length := by omega
    obtain ⟨⟨hl40, hli⟩, hp40, hpi⟩ := hb1 rfl
    have HLI := Lib.hid hli
    have HPI := Lib.hid hpi
    have hp0 := OK0.out l0[0] (List.getElem_mem _)
    have hpl := hpi l0[0] (List.getElem_mem _)
    obtain ⟨ad, rfl, k0, kk⟩ := Rd.elem (f := encPl) (fun _ => rfl) rd0 (by decide) 0 g2
    have d0 := k0 _ rfl
    have d1 := kk 1 _ (by decide) (by decide) rfl
    have d2 := kk 2 _ (by decide) (by decide) rfl
    have d3 := kk 3 _ (by decide) (by decide) rfl
    have d4 := kk 4 _ (by decide) (by decide) rfl
    rw [Nat.zero_mul, add_nil7] at d0 d1 d2 d3 d4
    obtain ⟨x0, hx0⟩ : ∃ x, x = l0[0] := ⟨_, rfl⟩
    rw [← hx0] at hp0 hpl d0 d1 d2 d3 d4
    replace d0 := hm1.cell0 d0
    replace d1 := hm1.cell0 d1
    replace d2 := hm1.cell0 d2
    replace d3 := hm1.cell0 d3
    replace d4 := hm1.cell0 d4
    have hnew : ∀ W, Mod NoneB w W → Calls Tryz.prog 6 #[.agg #[.int .i64 x0.p.cap, .slice x0.F x0.p.fail.length x0.fc, .int .i64 x0.p.crash, .bool x0.p.done, .slice x0.K x0.p.keep.length x0.kc]] W fun e w' => ∃ p S, e = .returned (.pointer (some ⟨p, 0, none⟩)) ∧ IsD w' p ⟨x0.p, [], 0, false⟩ S ∧ Mod NoneB W w' ∧ ∀ k, S k → W.heap.size ≤ k :=
      fun W hm => new_calls W x0.p x0.F x0.K x0.fc x0.kc (hp0.ok.fail.mod0 hm) (hp0.ok.keep.mod0 hm) (by omega) (by omega)
    have hrnew : ∀ W, Mod NoneB w W → Calls Tryz.prog 7 #[.agg #[.int .i64 x0.p.cap, .slice x0.F x0.p.fail.length x0.fc, .int .i64 x0.p.crash, .bool x0.p.done, .slice x0.K x0.p.keep.length x0.kc]] W fun e w' => ∃ p S, e = .returned (.pointer (some ⟨p, 0, none⟩)) ∧ IsR w.heap.size w' p ⟨x0.p, [], 0, false⟩ S ∧ Mod NoneB W w' ∧ ∀ k, S k → W.heap.size ≤ k :=
      fun W hm => rnew_calls w.heap.size W x0.p x0.F x0.K x0.fc x0.kc (hp0.ok.fail.mod0 hm) (hp0.ok.keep.mod0 hm) (hp0.ok.fail.block_lt (by decide)) (hp0.ok.keep.block_lt (by decide)) hm.size
    have HNEW := Lib.hid hnew
    have HRNEW := Lib.hid hrnew
    have HCAP := Lib.hid hp0.cap
    have g3 : (0 : Int) < (l0.length : Int) := by omega
    have hmd : Mod NoneB w w1.drew := hm1.drew
    clear hnew hrnew hp0 hpl k0 kk hx0 hb1 hli hpi g0
    go_wp2_with fail
    go_region_held3 (fun w' => w'.cell? ad = some (.int .i64 x0.p.cap) ∧ w'.cell? { block := ad.block, off := ad.off + 1 } = some (.slice x0.F x0.p.fail.length x0.fc) ∧ w'.cell? { block := ad.block, off := ad.off + 2 } = some (.int .i64 x0.p.crash) ∧ w'.cell? { block := ad.block, off := ad.off + 3 } = some (.bool x0.p.done) ∧ w'.cell? { block := ad.block, off := ad.off + 4 } = some (.slice x0.K x0.p.keep.length x0.kc)) (first | go_keep | exact ⟨v0, v1, v2, v3, v4⟩ | exact ⟨u0, u1, u2, u3, u4⟩)
      (first
        | (go_at_call 6; (with_reducible refine (HNEW.out _ hmd).mono ?_); rintro ez w3 ⟨p, S, rfl, hD, hm3, hS⟩; have v0 := hm3.cell0 (w := w1.drew) d0; have v1 := hm3.cell0 (w := w1.drew) d1; have v2 := hm3.cell0 (w := w1.drew) d2; have v3 := hm3.cell0 (w := w1.drew) d3; have v4 := hm3.cell0 (w := w1.drew) d4)
        | (go_at_call 7; (with_reducible refine (HRNEW.out _ (hmd.then0 hm3)).mono ?_); rintro ez w4 ⟨q, R, rfl, hR, hm4, hRS⟩; have u0 := hm4.cell0 v0; have u1 := hm4.cell0 v1; have u2 := hm4.cell0 v2; have u3 := hm4.cell0 v3; have u4 := hm4.cell0 v4))
    all_goals
      have HT : Hid (Tw w w4 p q ⟨x0.p, [], 0, false⟩ ⟨x0.p, [], 0, false⟩ S R) := Lib.hid (Tw.fresh hmd hD hm3 hS hR hm4 hRS)
      have hg0 : GoodW 0 ⟨x0.p, [], 0, false⟩ := ⟨Nat.le_refl _, Nat.le_refl _, by simp [usedF], HCAP.out⟩
      have hst : ∃ D S R, Tw w w4 p q D D S R ∧ GoodW 0 D := ⟨_, S, R, HT.out, hg0⟩
      clear HT hg0 hD hm3 hS hR hm4 hRS v0 v1 v2 v3 v4 u0 u1 u2 u3 u4 HNEW HRNEW d0 d1 d2 d3 d4 hmd HCAP
      obtain ⟨D, S, R, hT, hG⟩ := hst
      have HT := Lib.hid hT
      have HG := Lib.hid hG
      clear hT hG
      go_wp2_with fail
      refine (HT.out.open htab (HG.out.fit (by omega))).mono ?_
      rintro e wa ⟨S2, hO⟩
      obtain ⟨ox, A6, n6, c6, ec, rfl⟩ := hO.shape
      have HO := Lib.hid hO
      clear hO
      go_wp2_with fail
      refine (HO.out.1.ropen (HG.out.fit (by omega))).mono ?_
      rintro e wb ⟨R2, hP⟩
      obtain ⟨ov, A7, n7, c7, ec7, rfl⟩ := hP.shape
      obtain ⟨hec, hnn, hob, hst, hbc⟩ := open_both HT.out HO.out hP HG.out.open.2
      subst hec
      subst hnn
      have HST := Lib.hid hst
      have HGO := Lib.hid HG.out.open.1
      have HBC := Lib.hid hbc
      obtain ⟨bn, hbn⟩ : ∃ bn, bn = ov.isNone := ⟨_, rfl⟩
      rw [← hbn] at hob
      have hbn2 := hbn.symm
      clear hP hst hbc HO hbn HT HG
      go_wp2_with first
        | ((with_reducible refine (num_calls _ _).mono ?_); rintro ez wz ⟨rfl, hwz⟩; have hwz2 := hwz.symm; clear hwz; subst hwz2)
        | ((with_reducible refine HBC.out.mono ?_); rintro ez wc ⟨rfl, hmc⟩)
      go_loopw [9, 12, 15, 16, 17] (fun wv vv nv av t wr => ∃ (j nx at_ : Nat) (d : Dk), t = .int .i64 j ∧ nv = .int .i64 nx ∧ av = .int .i64 at_ ∧ 1 ≤ nx ∧ nx ≤ l0.length ∧ at_ ≤ l1.length ∧ j ≤ l2.length ∧ GoodW (j + 1) d ∧ StW w wr p q d (j + 1) wv vv) (fun _ _ _ _ t _ => l2.length - (intOf t).toNat)
      case atStart => exact ⟨0, 1, 0, _, rfl, rfl, rfl, by omega, by omega, by omega, by omega, HGO.out, (HST.out.mod0 hmc).next⟩
      case round =>
        obtain ⟨j, nx, at_, d, rfl, rfl, rfl, hnx1, hnx2, hat, hj, hgd, hst⟩ := hrel
        clear HGO HST HBC hob hbn2 hmc
        have hb : Mod NoneB w wr := by obtain ⟨_, _, h⟩ := hst.tw; exact h.base
        have hft := hgd.fit (by omega)
        by_cases hlt : j < l2.length
        · obtain ⟨ad2, rfl, h0⟩ := (rd2.mod0 hb).bytes j hlt
          have hz := l2[j].toNat_lt
          obtain ⟨z, hzz⟩ : ∃ z, z = l2[j].toNat := ⟨_, rfl⟩
          rw [← hzz] at h0 hz
          obtain ⟨m, hm⟩ : ∃ m : Nat, m = z % 5 := ⟨_, rfl⟩
          have hm5 : m < 5 := by omega
          have hme : (z : Int) % 5 = (m : Int) := by omega
          have hmt : Int.tmod (z : Int) 5 = (m : Int) := by rw [Int.tmod_eq_emod_of_nonneg (by omega)]; exact hme
          have q0 : (0 : Int) ≤ (j : Int) := by omega
          have q1 : (j : Int) < (l2.length : Int) := by omega
          have HGD := Lib.hid hgd
          have HFT := Lib.hid hft
          have HST := Lib.hid hst
          clear hzz hm hgd hft hst
          by_cases m0 : m = 0
          · subst m0
            by_cases hnl : nx < l0.length
            · obtain ⟨adp, hap, k0, kk⟩ := Rd.elem (f := encPl) (fun _ => rfl) rd0 (by decide) nx hnl
              injection hap with hap
              subst hap
              have d0 := k0 _ rfl
              have d1 := kk 1 _ (by decide) (by decide) rfl
              have d2 := kk 2 _ (by decide) (by decide) rfl
              have d3 := kk 3 _ (by decide) (by decide) rfl
              have d4 := kk 4 _ (by decide) (by decide) rfl
              have hpk := OK0.out l0[nx] (List.getElem_mem _)
              have hpl := HPI.out l0[nx] (List.getElem_mem _)
              obtain ⟨y, hy⟩ : ∃ y, y = l0[nx] := ⟨_, rfl⟩
              rw [← hy] at d0 d1 d2 d3 d4 hpk hpl
              have q2 : (0 : Int) ≤ (nx : Int) := by omega
              have q3 : (nx : Int) < (l0.length : Int) := by omega
              have HD0 := Lib.hid d0
              have HD1 := Lib.hid d1
              have HD2 := Lib.hid d2
              have HD3 := Lib.hid d3
              have HD4 := Lib.hid d4
              replace d0 := hb.cell0 d0
              replace d1 := hb.cell0 d1
              replace d2 := hb.cell0 d2
              replace d3 := hb.cell0 d3
              replace d4 := hb.cell0 d4
              have HPK := Lib.hid hpk
              obtain ⟨S, R, hT⟩ := HST.out.tw
              have HT0 := Lib.hid hT
              clear k0 kk hy hpk hT
              go_wp2_with fail
              refine (HT0.out.restart y.p y.F y.K y.fc y.kc HPK.out.ok.fail HPK.out.ok.keep (by omega) (by omega) HFT.out).mono ?_
              rintro e w3 ⟨rfl, S3, hT3⟩
              have HT3 := Lib.hid hT3
              replace d0 := hT3.base.cell0 HD0.out
              replace d1 := hT3.base.cell0 HD1.out
              replace d2 := hT3.base.cell0 HD2.out
              replace d3 := hT3.base.cell0 HD3.out
              replace d4 := hT3.base.cell0 HD4.out
              clear hT3
              go_wp2_with fail
              refine (HT3.out.rrestart y.p y.F y.K y.fc y.kc HPK.out.ok.fail HPK.out.ok.keep HFT.out).mono ?_
              rintro e w4 ⟨rfl, R4, hT4⟩
              have hst2 : ∃ D S R, Tw w w4 p q D D S R ∧ GoodW (j + 1) D := ⟨_, S3, R4, hT4, HGD.out.restart y.p HPK.out.cap⟩
              clear d0 d1 d2 d3 d4 HD0 HD1 HD2 HD3 HD4 hT4 HT3 HT0 h0 hpl
              obtain ⟨D, S, R, hT, hG⟩ := hst2
              have HT := Lib.hid hT
              have HG := Lib.hid hG
              clear hT hG
              go_wp2_with fail
              refine (HT.out.open htab (HG.out.fit (by omega))).mono ?_
              rintro e wa ⟨S2, hO⟩
              obtain ⟨ox, A6, n6, c6, ec, rfl⟩ := hO.shape
              have HO := Lib.hid hO
              clear hO
              go_wp2_with fail
              refine (HO.out.1.ropen (HG.out.fit (by omega))).mono ?_
              rintro e wb ⟨R2, hP⟩
              obtain ⟨ov, A7, n7, c7, ec7, rfl⟩ := hP.shape
              obtain ⟨hec, hnn, hob, hst, hbc⟩ := open_both HT.out HO.out hP HG.out.open.2
              subst hec
              subst hnn
              have HST := Lib.hid hst
              have HGO := Lib.hid HG.out.open.1
              have HBC := Lib.hid hbc
              obtain ⟨bn, hbn⟩ : ∃ bn, bn = ov.isNone := ⟨_, rfl⟩
              rw [← hbn] at hob
              have hbn2 := hbn.symm
              clear hP hst hbc HO hbn HT HG
              go_wp2_with first
                | ((with_reducible refine (num_calls _ _).mono ?_); rintro ez wz ⟨rfl, hwz⟩; have hwz2 := hwz.symm; clear hwz; subst hwz2)
                | ((with_reducible refine HBC.out.mono ?_); rintro ez wc ⟨rfl, hmc⟩)
              go_roundw
              case rel => exact ⟨j + 1, nx + 1, at_, (openD D).1, by go_num, by go_num, by go_num, by omega, by omega, by omega, by omega, HGO.out, (HST.out.mod0 hmc).next⟩
              case measure => simp [intOf]; omega
            · have q3 : ¬ ((nx : Int) < (l0.length : Int)) := by omega
              have hst2 : ∃ D S R, Tw w wr p q D D S R ∧ GoodW (j + 1) D := by
                obtain ⟨S, R, hT⟩ := HST.out.tw
                exact ⟨_, S, R, hT, HGD.out⟩
              obtain ⟨D, S, R, hT, hG⟩ := hst2
              have HT := Lib.hid hT
              have HG := Lib.hid hG
              clear hT hG
              go_wp2_with fail
              refine (HT.out.open htab (HG.out.fit (by omega))).mono ?_
              rintro e wa ⟨S2, hO⟩
              obtain ⟨ox, A6, n6, c6, ec, rfl⟩ := hO.shape
              have HO := Lib.hid hO
              clear hO
              go_wp2_with fail
              refine (HO.out.1.ropen (HG.out.fit (by omega))).mono ?_
              rintro e wb ⟨R2, hP⟩
              obtain ⟨ov, A7, n7, c7, ec7, rfl⟩ := hP.shape
              obtain ⟨hec, hnn, hob, hst, hbc⟩ := open_both HT.out HO.out hP HG.out.open.2
              subst hec
              subst hnn
              have HST := Lib.hid hst
              have HGO := Lib.hid HG.out.open.1
              have HBC := Lib.hid hbc
              obtain ⟨bn, hbn⟩ : ∃ bn, bn = ov.isNone := ⟨_, rfl⟩
              rw [← hbn] at hob
              have hbn2 := hbn.symm
              clear hP hst hbc HO hbn HT HG
              go_wp2_with first
                | ((with_reducible refine (num_calls _ _).mono ?_); rintro ez wz ⟨rfl, hwz⟩; have hwz2 := hwz.symm; clear hwz; subst hwz2)
                | ((with_reducible refine HBC.out.mono ?_); rintro ez wc ⟨rfl, hmc⟩)
              go_roundw
              case rel => exact ⟨j + 1, nx, at_, (openD D).1, by go_num, by go_num, by go_num, by omega, by omega, by omega, by omega, HGO.out, (HST.out.mod0 hmc).next⟩
              case measure => simp [intOf]; omega
          by_cases m1 : m = 1
          · subst m1
            rcases HST.out with ⟨rfl, rfl, S, R, hT⟩ | ⟨x, v, n, sk, S, R, rfl, rfl, hT, hL, hn⟩
            · have HT := Lib.hid hT
              clear hT HST
              go_wp2_with fail
              go_quiet (fail)
              all_goals
                go_wp2_with fail
                go_roundw
                case rel => exact ⟨j + 1, nx, at_, d, by go_num, by go_num, by go_num, by omega, by omega, by omega, by omega, HGD.out.next, .inl ⟨rfl, rfl, S, R, HT.out.mod0 ((Mod.refl NoneB _).drewN _)⟩⟩
                case measure => simp [intOf]; omega
            · have hmd : Mod NoneB wr wr.drew := (Mod.refl NoneB wr).drew
              have hrs := (hL.mod0 hmd).reset (hT.mod0 hmd) HFT.out
              have hgr := HGD.out.reset (sk := sk) hn
              obtain ⟨cm, hcm⟩ : ∃ cm, cm = resetW d n sk := ⟨_, rfl⟩
              have HCM := Lib.hid hcm
              rw [← hcm] at hrs hgr
              have HRS := Lib.hid hrs
              have HGR := Lib.hid hgr
              clear hrs hgr hT hL HST hcm hmd
              go_wp2_with fail
              go_region_law (first
                | (go_simp; go_at_call 14; (with_reducible refine HRS.out.mono ?_); rintro ez w3 ⟨rfl, S3, hT3, hL3⟩)
                | (go_simp; go_at_call 10; (with_reducible refine (num_calls _ _).mono ?_); rintro ez wz ⟨rfl, hwz⟩; have hwz2 := hwz.symm; clear hwz; subst hwz2)
                | (go_simp; go_at_call 15; (with_reducible refine (hL3.rreset hT3 HFT.out).mono ?_); rintro ez w4 ⟨rfl, R4, hT4, hL4⟩; rw [← HCM.out] at hT4 hL4 ⊢; have z2 : w4.cell? ⟨v, 2, none⟩ = some (.bool cm.sk) := by rw [blk_cell hL4.hv]; rfl)
                | (go_simp; go_at_call 16; (with_reducible refine (wsick_calls w4 p x cm.n cm.sk hL4.hx).mono ?_); rintro ez wz ⟨rfl, hwz⟩; have hwz2 := hwz.symm; clear hwz; subst hwz2))
              all_goals
                have HST2 : Hid (StW w w4 p q cm.d (j + 1 + 1) (.pointer (some ⟨x, 0, none⟩)) (.pointer (some ⟨v, 0, none⟩))) := Lib.hid (.inr ⟨x, v, cm.n, cm.sk, S3, R4, rfl, rfl, hT4, hL4, HGR.out.2⟩)
                clear hT3 hL3 hT4 hL4
                go_wp2_with fail
                go_roundw
                case rel => exact ⟨j + 1, nx, at_, cm.d, by go_num, by go_num, by go_num, by omega, by omega, by omega, by omega, HGR.out.1, HST2.out⟩
                case measure => simp [intOf]; omega
          · have r0 : (((m : Nat) : Int) == 0) = false := beq_eq_false_iff_ne.mpr (by omega)
            have r1 : (((m : Nat) : Int) == 1) = false := beq_eq_false_iff_ne.mpr (by omega)
            rcases HST.out with ⟨rfl, rfl, S, R, hT⟩ | ⟨x, v, n, sk, S, R, rfl, rfl, hT, hL, hn⟩
            · have HT := Lib.hid hT
              clear hT HST
              go_wp2_with fail
              go_roundw
              case rel => exact ⟨j + 1, nx, at_, d, by go_num, by go_num, by go_num, by omega, by omega, by omega, by omega, HGD.out.next, .inl ⟨rfl, rfl, S, R, HT.out⟩⟩
              case measure => simp [intOf]; omega
            · by_cases hal : at_ < l1.length
              case neg =>
                have q2 : (l1.length : Int) ≤ (at_ : Int) := by omega
                clear hT hL
                go_wp2_with fail
                go_roundw
                case rel => exact ⟨j + 1, nx, at_, d, by go_num, by go_num, by go_num, by omega, by omega, by omega, by omega, HGD.out.next, HST.out.next⟩
                case measure => simp [intOf]; omega
              obtain ⟨adl, hal1, h1, _⟩ := Rd.elem (f := encOv) (fun _ => rfl) rd1 (by decide) at_ hal
              subst hal1
              have y0 := h1 _ rfl
              rw [Nat.mul_one] at y0
              have hxo := OK1.out l1[at_] (List.getElem_mem _)
              have hxw := (HLI.out l1[at_] (List.getElem_mem _)).1
              obtain ⟨o, ho⟩ : ∃ o, o = l1[at_] := ⟨_, rfl⟩
              rw [← ho] at y0 hxo hxw
              have HY := Lib.hid y0
              have q2 : ¬ ((l1.length : Int) ≤ (at_ : Int)) := by omega
              have q3 : (0 : Int) ≤ (at_ : Int) := by omega
              have q4 : (at_ : Int) < (l1.length : Int) := by omega
              have hmd : Mod NoneB wr wr.drew := (Mod.refl NoneB wr).drew
              have hs := smallO_of hxw
              have hnl : n ≤ 8000000 := by omega
              have hrs := (hL.mod0 hmd).commit (hT.mod0 hmd) htab HFT.out hnl o.l o.A o.c hxo hs
              have hgr := HGD.out.commit (sk := sk) hn o.l hxw
              obtain ⟨cm, hcm⟩ : ∃ cm, cm = commitW d n sk o.l := ⟨_, rfl⟩
              have HCM := Lib.hid hcm
              rw [← hcm] at hrs hgr
              have HRS := Lib.hid hrs
              have HGR := Lib.hid hgr
              have HS := Lib.hid hs
              replace y0 := hb.cell0 y0
              have y0d : wr.drew.cell? (adl.add at_) = some (.slice o.A o.l.length o.c) := y0
              have HXO : Hid (Rd w 3 o.A o.l.length (encOs o.l)) := Lib.hid hxo
              clear hrs hgr hT hL HST hcm hmd h1 ho hs hxo hxw
              go_wp2_with fail
              refine wp_region_held_drew (S := fun w' => w'.cell? (adl.add at_) = some (.slice o.A o.l.length o.c)) (by kernel_rfl) y0d (fun hHeld => ?_)
              refine wpAnyH_take (i := 0) (v := ?_) (by simp only [List.getElem?_toArray, List.getElem?_cons_zero]; rfl) (by kernel_rfl) (by kernel_rfl) (by kernel_rfl) (by exact fun _ _ _ h => h) (Or.inl ⟨by rfl, ?_⟩) (by assumption) ?_
              rotate_left
              · intro w hSw
                try dsimp only at hSw
                try subst hSw
                go_simp
                all_goals with_reducible rfl
              try simp only [Act.put, List.setIfInBounds_toArray, List.set_cons_zero, List.set_cons_succ]
              refine wpAnyH_take (i := 1) (v := ?_) (by simp only [List.getElem?_toArray, List.getElem?_cons_succ, List.getElem?_cons_zero]; rfl) (by kernel_rfl) (by kernel_rfl) (by kernel_rfl) (by exact fun _ _ _ h => h) (Or.inl ⟨by rfl, ?_⟩) (by assumption) ?_
              rotate_left
              · intro w hSw
                try dsimp only at hSw
                try subst hSw
                go_simp
                all_goals with_reducible rfl
              try simp only [Act.put, List.setIfInBounds_toArray, List.set_cons_zero, List.set_cons_succ]
              refine wpAnyH_take (i := 2) (v := ?_) (by simp only [List.getElem?_toArray, List.getElem?_cons_succ, List.getElem?_cons_zero]; rfl) (by kernel_rfl) (by kernel_rfl) (by kernel_rfl) (by exact fun _ _ _ h => h) (Or.inl ⟨by rfl, ?_⟩) (by assumption) ?_
              rotate_left
              · intro w hSw
                try dsimp only at hSw
                try subst hSw
                go_simp
                all_goals with_reducible rfl
              try simp only [Act.put, List.setIfInBounds_toArray, List.set_cons_zero, List.set_cons_succ]
              refine wpAnyH_take (i := 3) (v := ?_) (by simp only [List.getElem?_toArray, List.getElem?_cons_succ, List.getElem?_cons_zero]; rfl) (by kernel_rfl) (by kernel_rfl) (by kernel_rfl) (by exact fun _ _ _ h => h) (Or.inl ⟨by rfl, ?_⟩) (by assumption) ?_
              rotate_left
              · intro w hSw
                try dsimp only at hSw
                try subst hSw
                go_simp
                all_goals with_reducible rfl
              try simp only [Act.put, List.setIfInBounds_toArray, List.set_cons_zero, List.set_cons_succ]
              refine wpAnyH_take (i := 4) (v := ?_) (by simp only [List.getElem?_toArray, List.getElem?_cons_succ, List.getElem?_cons_zero]; rfl) (by kernel_rfl) (by kernel_rfl) (by kernel_rfl) (by exact fun _ _ _ h => h) (Or.inl ⟨by rfl, ?_⟩) (by assumption) ?_
              rotate_left
              · intro w hSw
                try dsimp only at hSw
                try subst hSw
                go_simp
                all_goals with_reducible rfl
              try simp only [Act.put, List.setIfInBounds_toArray, List.set_cons_zero, List.set_cons_succ]
              refine wpAnyH_take (i := 7) (v := ?_) (by simp only [List.getElem?_toArray, List.getElem?_cons_succ, List.getElem?_cons_zero]; rfl) (by kernel_rfl) (by kernel_rfl) (by kernel_rfl) (by exact fun _ _ _ h => h) (Or.inl ⟨by rfl, ?_⟩) (by assumption) ?_
              rotate_left
              · intro w hSw
                try dsimp only at hSw
                try subst hSw
                go_simp
                all_goals with_reducible rfl
              try simp only [Act.put, List.setIfInBounds_toArray, List.set_cons_zero, List.set_cons_succ]
              refine wpAnyH_take (i := 8) (v := ?_) (by simp only [List.getElem?_toArray, List.getElem?_cons_succ, List.getElem?_cons_zero]; rfl) (by kernel_rfl) (by kernel_rfl) (by kernel_rfl) (by exact fun _ _ _ h => h) (Or.inl ⟨by rfl, ?_⟩) (by assumption) ?_
              rotate_left
              · intro w hSw
                try dsimp only at hSw
                try subst hSw
                go_simp
                all_goals with_reducible rfl
              try simp only [Act.put, List.setIfInBounds_toArray, List.set_cons_zero, List.set_cons_succ]
              refine wpAnyH_take (i := 9) (v := ?_) (by simp only [List.getElem?_toArray, List.getElem?_cons_succ, List.getElem?_cons_zero]; rfl) (by kernel_rfl) (by kernel_rfl) (by kernel_rfl) (by exact fun _ _ _ h => h) (Or.inl ⟨by rfl, ?_⟩) (by assumption) ?_
              rotate_left
              · intro w hSw
                try dsimp only at hSw
                try subst hSw
                go_simp
                all_goals with_reducible rfl
              try simp only [Act.put, List.setIfInBounds_toArray, List.set_cons_zero, List.set_cons_succ]
              refine wpAnyH_take (i := 10) (v := ?_) (by simp only [List.getElem?_toArray, List.getElem?_cons_succ, List.getElem?_cons_zero]; rfl) (by kernel_rfl) (by kernel_rfl) (by kernel_rfl) (by exact fun _ _ _ h => h) (Or.inl ⟨by rfl, ?_⟩) (by assumption) ?_
              rotate_left
              · intro w hSw
                try dsimp only at hSw
                try subst hSw
                go_simp
                all_goals with_reducible rfl
              try simp only [Act.put, List.setIfInBounds_toArray, List.set_cons_zero, List.set_cons_succ]
              refine wpAnyH_take (i := 11) (v := ?_) (by simp only [List.getElem?_toArray, List.getElem?_cons_succ, List.getElem?_cons_zero]; rfl) (by kernel_rfl) (by kernel_rfl) (by kernel_rfl) (by exact fun _ _ _ h => h) (Or.inl ⟨by rfl, ?_⟩) (by assumption) ?_
              rotate_left
              · intro w hSw
                try dsimp only at hSw
                try subst hSw
                go_simp
                all_goals with_reducible rfl
              try simp only [Act.put, List.setIfInBounds_toArray, List.set_cons_zero, List.set_cons_succ]
              refine wpAnyH_ready (rs := [5]) (by kernel_rfl) (by simp) ?_
              refine AllReadyH.cons (by simp only [List.getElem?_toArray, List.getElem?_cons_succ, List.getElem?_cons_zero]; rfl) (fun K hK => ?_) AllReadyH.nil
              go_simp
              refine HRS.out.mono ?_
              rintro ez w3 ⟨rfl, S3, hT3, hL3⟩
              have y3 := hT3.base.cell0 HY.out
              try simp only
              refine hK.out _ _ (y3) (fun hHeld => ?_)
              clear hK K
              try simp only [Act.put, List.setIfInBounds_toArray, List.set_cons_zero, List.set_cons_succ]
              refine wpAnyH_ready (rs := [6]) (by kernel_rfl) (by simp) ?_
              refine AllReadyH.cons (by simp only [List.getElem?_toArray, List.getElem?_cons_succ, List.getElem?_cons_zero]; rfl) (fun K hK => ?_) AllReadyH.nil
              go_simp
              refine (num_calls _ _).mono ?_
              rintro ez wz ⟨rfl, hwz⟩
              have hwz2 := hwz.symm
              clear hwz
              subst hwz2
              try simp only
              refine hK.out _ _ (y3) (fun hHeld => ?_)
              clear hK K
              try simp only [Act.put, List.setIfInBounds_toArray, List.set_cons_zero, List.set_cons_succ]
              refine wpAnyH_ready (rs := [12]) (by kernel_rfl) (by simp) ?_
              refine AllReadyH.cons (by simp only [List.getElem?_toArray, List.getElem?_cons_succ, List.getElem?_cons_zero]; rfl) (fun K hK => ?_) AllReadyH.nil
              go_simp
              refine (hL3.rcommit hT3 HFT.out hnl o.l o.A o.c HXO.out HS.out).mono ?_
              rintro ez w4 ⟨rfl, R4, hT4, hL4⟩
              rw [← HCM.out] at hT4 hL4 ⊢
              have y4 := hT4.base.cell0 HY.out
              have z1 : w4.cell? ⟨v, 1, none⟩ = some (.int .i64 cm.n) := by rw [blk_cell hL4.hv]; rfl
              have z2 : w4.cell? ⟨v, 2, none⟩ = some (.bool cm.sk) := by rw [blk_cell hL4.hv]; rfl
              try simp only
              refine hK.out _ _ (y4) (fun hHeld => ?_)
              clear hK K
              try simp only [Act.put, List.setIfInBounds_toArray, List.set_cons_zero, List.set_cons_succ]
              refine wpAnyH_imp (S2 := fun w' => w' = w4) (fun w' hw' => by rw [hw']; exact y4) _ _ _ _ ?_
              have hHeld2 : (fun w' : World => w' = w4) w4 := rfl
              refine wpAnyH_take (i := 13) (v := ?_) (by simp only [List.getElem?_toArray, List.getElem?_cons_succ, List.getElem?_cons_zero]; rfl) (by kernel_rfl) (by kernel_rfl) (by kernel_rfl) (by exact fun _ _ _ h => h) (Or.inl ⟨by rfl, ?_⟩) (by assumption) ?_
              rotate_left
              · intro w hSw
                try dsimp only at hSw
                try subst hSw
                go_simp
                all_goals with_reducible rfl
              try simp only [Act.put, List.setIfInBounds_toArray, List.set_cons_zero, List.set_cons_succ]
              refine wpAnyH_take (i := 14) (v := ?_) (by simp only [List.getElem?_toArray, List.getElem?_cons_succ, List.getElem?_cons_zero]; rfl) (by kernel_rfl) (by kernel_rfl) (by kernel_rfl) (by exact fun _ _ _ h => h) (Or.inl ⟨by rfl, ?_⟩) (by assumption) ?_
              rotate_left
              · intro w hSw
                try dsimp only at hSw
                try subst hSw
                go_simp
                all_goals with_reducible rfl
              try simp only [Act.put, List.setIfInBounds_toArray, List.set_cons_zero, List.set_cons_succ]
              refine wpAnyH_take (i := 15) (v := ?_) (by simp only [List.getElem?_toArray, List.getElem?_cons_succ, List.getElem?_cons_zero]; rfl) (by kernel_rfl) (by kernel_rfl) (by kernel_rfl) (by exact fun _ _ _ h => h) (Or.inl ⟨by rfl, ?_⟩) (by assumption) ?_
              rotate_left
              · intro w hSw
                try dsimp only at hSw
                try subst hSw
                go_simp
                all_goals with_reducible rfl
              try simp only [Act.put, List.setIfInBounds_toArray, List.set_cons_zero, List.set_cons_succ]
              refine wpAnyH_take (i := 17) (v := ?_) (by simp only [List.getElem?_toArray, List.getElem?_cons_succ, List.getElem?_cons_zero]; rfl) (by kernel_rfl) (by kernel_rfl) (by kernel_rfl) (by exact fun _ _ _ h => h) (Or.inl ⟨by rfl, ?_⟩) (by assumption) ?_
              rotate_left
              · intro w hSw
                try dsimp only at hSw
                try subst hSw
                go_simp
                all_goals with_reducible rfl
              try simp only [Act.put, List.setIfInBounds_toArray, List.set_cons_zero, List.set_cons_succ]
              refine wpAnyH_take (i := 18) (v := ?_) (by simp only [List.getElem?_toArray, List.getElem?_cons_succ, List.getElem?_cons_zero]; rfl) (by kernel_rfl) (by kernel_rfl) (by kernel_rfl) (by exact fun _ _ _ h => h) (Or.inl ⟨by rfl, ?_⟩) (by assumption) ?_
              rotate_left
              · intro w hSw
                try dsimp only at hSw
                try subst hSw
                go_simp
                all_goals with_reducible rfl
              try simp only [Act.put, List.setIfInBounds_toArray, List.set_cons_zero, List.set_cons_succ]
              refine wpAnyH_take (i := 19) (v := ?_) (by simp only [List.getElem?_toArray, List.getElem?_cons_succ, List.getElem?_cons_zero]; rfl) (by kernel_rfl) (by kernel_rfl) (by kernel_rfl) (by exact fun _ _ _ h => h) (Or.inl ⟨by rfl, ?_⟩) (by assumption) ?_
              rotate_left
              · intro w hSw
                try dsimp only at hSw
                try subst hSw
                go_simp
                all_goals with_reducible rfl
              try simp only [Act.put, List.setIfInBounds_toArray, List.set_cons_zero, List.set_cons_succ]
              refine wpAnyH_take (i := 20) (v := ?_) (by simp only [List.getElem?_toArray, List.getElem?_cons_succ, List.getElem?_cons_zero]; rfl) (by kernel_rfl) (by kernel_rfl) (by kernel_rfl) (by exact fun _ _ _ h => h) (Or.inl ⟨by rfl, ?_⟩) (by assumption) ?_
              rotate_left
              · intro w hSw
                try dsimp only at hSw
                try subst hSw
                go_simp
                all_goals with_reducible rfl
              try simp only [Act.put, List.setIfInBounds_toArray, List.set_cons_zero, List.set_cons_succ]
              refine wpAnyH_ready (rs := [16]) (by kernel_rfl) (by simp) ?_
              refine AllReadyH.cons (by simp only [List.getElem?_toArray, List.getElem?_cons_succ, List.getElem?_cons_zero]; rfl) (fun K hK => ?_) AllReadyH.nil
              go_simp
              refine (wsize_calls w4 p x cm.n cm.sk hL4.hx).mono ?_
              rintro ez wz ⟨rfl, hwz⟩
              have hwz2 := hwz.symm
              clear hwz
              subst hwz2
              try simp only
              refine hK.out _ _ (rfl) (fun hHeld => ?_)
              clear hK K
              try simp only [Act.put, List.setIfInBounds_toArray, List.set_cons_zero, List.set_cons_succ]
              refine wpAnyH_take (i := 21) (v := ?_) (by simp only [List.getElem?_toArray, List.getElem?_cons_succ, List.getElem?_cons_zero]; rfl) (by kernel_rfl) (by kernel_rfl) (by kernel_rfl) (by exact fun _ _ _ h => h) (Or.inl ⟨by rfl, ?_⟩) (by assumption) ?_
              rotate_left
              · intro w hSw
                try dsimp only at hSw
                try subst hSw
                go_simp
                all_goals with_reducible rfl
              try simp only [Act.put, List.setIfInBounds_toArray, List.set_cons_zero, List.set_cons_succ]
              refine wpAnyH_take (i := 22) (v := ?_) (by simp only [List.getElem?_toArray, List.getElem?_cons_succ, List.getElem?_cons_zero]; rfl) (by kernel_rfl) (by kernel_rfl) (by kernel_rfl) (by exact fun _ _ _ h => h) (Or.inl ⟨by rfl, ?_⟩) (by assumption) ?_
              rotate_left
              · intro w hSw
                try dsimp only at hSw
                try subst hSw
                go_simp
                all_goals with_reducible rfl
              try simp only [Act.put, List.setIfInBounds_toArray, List.set_cons_zero, List.set_cons_succ]
              refine wpAnyH_take (i := 23) (v := ?_) (by simp only [List.getElem?_toArray, List.getElem?_cons_succ, List.getElem?_cons_zero]; rfl) (by kernel_rfl) (by kernel_rfl) (by kernel_rfl) (by exact fun _ _ _ h => h) (Or.inl ⟨by rfl, ?_⟩) (by assumption) ?_
              rotate_left
              · intro w hSw
                try dsimp only at hSw
                try subst hSw
                go_simp
                all_goals with_reducible rfl
              try simp only [Act.put, List.setIfInBounds_toArray, List.set_cons_zero, List.set_cons_succ]
              refine wpAnyH_take (i := 24) (v := ?_) (by simp only [List.getElem?_toArray, List.getElem?_cons_succ, List.getElem?_cons_zero]; rfl) (by kernel_rfl) (by kernel_rfl) (by kernel_rfl) (by exact fun _ _ _ h => h) (Or.inl ⟨by rfl, ?_⟩) (by assumption) ?_
              rotate_left
              · intro w hSw
                try dsimp only at hSw
                try subst hSw
                go_simp
                all_goals with_reducible rfl
              try simp only [Act.put, List.setIfInBounds_toArray, List.set_cons_zero, List.set_cons_succ]
              refine wpAnyH_take (i := 26) (v := ?_) (by simp only [List.getElem?_toArray, List.getElem?_cons_succ, List.getElem?_cons_zero]; rfl) (by kernel_rfl) (by kernel_rfl) (by kernel_rfl) (by exact fun _ _ _ h => h) (Or.inl ⟨by rfl, ?_⟩) (by assumption) ?_
              rotate_left
              · intro w hSw
                try dsimp only at hSw
                try subst hSw
                go_simp
                all_goals with_reducible rfl
              try simp only [Act.put, List.setIfInBounds_toArray, List.set_cons_zero, List.set_cons_succ]
              refine wpAnyH_take (i := 27) (v := ?_) (by simp only [List.getElem?_toArray, List.getElem?_cons_succ, List.getElem?_cons_zero]; rfl) (by kernel_rfl) (by kernel_rfl) (by kernel_rfl) (by exact fun _ _ _ h => h) (Or.inl ⟨by rfl, ?_⟩) (by assumption) ?_
              rotate_left
              · intro w hSw
                try dsimp only at hSw
                try subst hSw
                go_simp
                all_goals with_reducible rfl
              try simp only [Act.put, List.setIfInBounds_toArray, List.set_cons_zero, List.set_cons_succ]
              refine wpAnyH_take (i := 28) (v := ?_) (by simp only [List.getElem?_toArray, List.getElem?_cons_succ, List.getElem?_cons_zero]; rfl) (by kernel_rfl) (by kernel_rfl) (by kernel_rfl) (by exact fun _ _ _ h => h) (Or.inl ⟨by rfl, ?_⟩) (by assumption) ?_
              rotate_left
              · intro w hSw
                try dsimp only at hSw
                try subst hSw
                go_simp
                all_goals with_reducible rfl
              try simp only [Act.put, List.setIfInBounds_toArray, List.set_cons_zero, List.set_cons_succ]
              refine wpAnyH_take (i := 29) (v := ?_) (by simp only [List.getElem?_toArray, List.getElem?_cons_succ, List.getElem?_cons_zero]; rfl) (by kernel_rfl) (by kernel_rfl) (by kernel_rfl) (by exact fun _ _ _ h => h) (Or.inl ⟨by rfl, ?_⟩) (by assumption) ?_
              rotate_left
              · intro w hSw
                try dsimp only at hSw
                try subst hSw
                go_simp
                all_goals with_reducible rfl
              try simp only [Act.put, List.setIfInBounds_toArray, List.set_cons_zero, List.set_cons_succ]
              refine wpAnyH_ready (rs := [25]) (by kernel_rfl) (by simp) ?_
              refine AllReadyH.cons (by simp only [List.getElem?_toArray, List.getElem?_cons_succ, List.getElem?_cons_zero]; rfl) (fun K hK => ?_) AllReadyH.nil
              go_simp
              refine (wsick_calls _ p x cm.n cm.sk hL4.hx).mono ?_
              rintro ez wz ⟨rfl, hwz⟩
              have hwz2 := hwz.symm
              clear hwz
              subst hwz2
              try simp only
              refine hK.out _ _ (rfl) (fun hHeld => ?_)
              clear hK K
              try simp only [Act.put, List.setIfInBounds_toArray, List.set_cons_zero, List.set_cons_succ]
              refine wpAnyH_take (i := 30) (v := ?_) (by simp only [List.getElem?_toArray, List.getElem?_cons_succ, List.getElem?_cons_zero]; rfl) (by kernel_rfl) (by kernel_rfl) (by kernel_rfl) (by exact fun _ _ _ h => h) (Or.inl ⟨by rfl, ?_⟩) (by assumption) ?_
              rotate_left
              · intro w hSw
                try dsimp only at hSw
                try subst hSw
                go_simp
                all_goals with_reducible rfl
              try simp only [Act.put, List.setIfInBounds_toArray, List.set_cons_zero, List.set_cons_succ]
              refine wpAnyH_take (i := 31) (v := ?_) (by simp only [List.getElem?_toArray, List.getElem?_cons_succ, List.getElem?_cons_zero]; rfl) (by kernel_rfl) (by kernel_rfl) (by kernel_rfl) (by exact fun _ _ _ h => h) (Or.inl ⟨by rfl, ?_⟩) (by assumption) ?_
              rotate_left
              · intro w hSw
                try dsimp only at hSw
                try subst hSw
                go_simp
                all_goals with_reducible rfl
              try simp only [Act.put, List.setIfInBounds_toArray, List.set_cons_zero, List.set_cons_succ]
              refine wpAnyH_done (by kernel_rfl) ?_ _
              all_goals
                have HST2 : Hid (StW w w4 p q cm.d (j + 1 + 1) (.pointer (some ⟨x, 0, none⟩)) (.pointer (some ⟨v, 0, none⟩))) := Lib.hid (.inr ⟨x, v, cm.n, cm.sk, S3, R4, rfl, rfl, hT4, hL4, HGR.out.2⟩)
                clear hT3 hL3 hT4 hL4
                go_wp2_with fail
                go_roundw
                case rel => exact ⟨j + 1, nx, at_ + 1, cm.d, by go_num, by go_num, by go_num, by omega, by omega, by omega, by omega, HGR.out.1, HST2.out⟩
                case measure => simp [intOf]; omega
        · have q1 : ¬ ((j : Int) < (l2.length : Int)) := by omega
          obtain ⟨S, R, hT⟩ := hst.tw
          have hsm := same1_calls NoB7 w wr p q d hT.two ⟨by have := hft.c; omega, by have := hft.l; omega, by have := hft.u; omega⟩
          have HSM := Lib.hid hsm
          clear hsm hT hgd hst hft
          go_wp2_with fail
          refine HSM.out.mono ?_
          rintro e w5 ⟨rfl, hm5⟩
          have hb5 := hb.then0 hm5
          go_wp2_with ((with_reducible refine (awake7_calls _ (htab.mod0 hb5)).mono ?_); rintro e wz ⟨rfl, hmz⟩)
          go_ret
          exact ⟨rfl, hb5.then0 hmz⟩
end Go.Proofs.YtedjfbbfpnkbeaaGreatDoor

