/- StoreRuns: whatever is committed, checkpointed, opened again, by whatever plans, a store answers, and the disk has, what the document says: the walk of the law. -/
import Derived.Deep.DeepCutAuto
import Derived.Deep.RegionHeld3
import Derived.Deep.CutBlock
import Derived.Test.YtnlmfmceogbomaaGreatDoorStVQq
import Derived.Test.YtnlmfmceogbomaaGreatDoorBulkAQq
import Derived.Test.YtnlmfmceogbomaaGreatDoorSameQq
namespace Go.Proofs.YtnlmfmceogbomaaGreatDoor
open Go.RowKit
set_option linter.unusedVariables false

theorem Bd.lw {w0 w : World} {p q : Nat} {d td : Dk} {S R : Nat → Prop} (h : Bd w0 w p q d td S R) : Lw w0 w p d S := ⟨h.isD, h.base, h.S0⟩
theorem wpAnyH_imp {P : Program} {md : Region.Mode} {ops : Array Oper} {Q : Exit → Act → World → Prop} {S S2 : World → Prop} (h : ∀ w, S2 w → S w) : ∀ (fuel : Nat) (listed : Array Bool) (a : Act) (w : World), wpAnyH P md ops Q S2 fuel listed a w → wpAnyH P md ops Q S fuel listed a w
  | 0, _, _, _, hh => hh
  | fuel + 1, _, _, _, hh => ⟨hh.1, fun i hi => wpOp_mono (fun a' w' h' => ⟨h _ h'.1, wpAnyH_imp h fuel _ a' w' h'.2⟩) (hh.2 i hi)⟩
theorem add_nil7 (ad : Addr) : ad.add 0 = ad := by unfold Addr.add; split <;> simp_all
set_option maxHeartbeats 100000000 in
set_option maxRecDepth 100000 in
theorem storeRuns_walk (l0 : List PlV) (mst : Int) (l1 : List OsV) (l2 : List UInt8) (a0 a1 a2 : Option Addr) (c0 c1 c2 : Nat) (w : World) (rd0 : Rd w 5 a0 l0.length (l0.flatMap encPl)) (ok0 : ∀ x ∈ l0, PlOk2 w x)
    (rd1 : Rd w 1 a1 l1.length (l1.flatMap encOv)) (ok1 : ∀ x ∈ l1, OsOk w x) (rd2 : Rd w 1 a2 l2.length (encB l2)) (htab : TabW w) :
    Calls Tryz.prog 10 #[.slice a0 l0.length c0, .int .i64 mst, .slice a1 l1.length c1, .slice a2 l2.length c2] w fun e w' => e = .returned (.bool true) ∧ Mod NoneB w w' := by
  have hhe := heavy7_calls l1 l0 a1 a0 c1 c0 w rd1 ok1 rd0 (fun x hx => (ok0 x hx).ok)
  have HHE := Lib.hid hhe
  have OK0 := Lib.hid ok0
  have OK1 := Lib.hid ok1
  clear hhe ok0 ok1
  go_enter Tryz.func10, Tryz.ntmps10
  go_wp2_with fail
  refine HHE.out.mono ?_
  rintro e w1 ⟨b, rfl, hm1, hb1⟩
  clear HHE
  cases b with
  | true =>
    clear hb1
    go_wp2_with ((with_reducible refine (awake10_calls _ (htab.mod0 hm1)).mono ?_); rintro e wz ⟨rfl, hmz⟩)
    go_ret
    exact ⟨rfl, hm1.then0 hmz⟩
  | false =>
    by_cases g60 : 60 < l2.length
    · have hg : (60 : Int) < (l2.length : Int) := by omega
      clear hb1
      go_wp2_with ((with_reducible refine (awake10_calls _ (htab.mod0 hm1)).mono ?_); rintro e wz ⟨rfl, hmz⟩)
      go_ret
      exact ⟨rfl, hm1.then0 hmz⟩
    have hg : ¬ (60 : Int) < (l2.length : Int) := by omega
    by_cases g0 : l0.length = 0
    · have h0 : l0 = [] := List.eq_nil_of_length_eq_zero g0
      subst h0
      clear hb1 g0
      go_wp2_with ((with_reducible refine (awake10_calls _ (htab.mod0 hm1)).mono ?_); rintro e wz ⟨rfl, hmz⟩)
      go_ret
      exact ⟨rfl, hm1.then0 hmz⟩
    have e2 : ((l0.length : Int) == 0) = false := beq_eq_false_iff_ne.mpr (by omega)
    have g2 : 0 < l0.length := by omega
    obtain ⟨⟨hl40, hli⟩, hp40, hpi⟩ := hb1 rfl
    have HLI := Lib.hid hli
    have HPI := Lib.hid hpi
    have hp0 := OK0.out l0[0] (List.getElem_mem _)
    have hpl := hpi l0[0] (List.getElem_mem _)
    obtain ⟨ad, rfl, k0, kk⟩ := Rd.elem (f := encPl) (fun _ => rfl) rd0 (by decide) 0 g2
    have d0 := k0 _ rfl
    have d1 := kk 1 _ (by decide) (by decide) rfl
    have d2 := kk 2 _ (by decide) (by decide) rfl
    have d3 := kk 3 _ (by decide) (by decide) rfl
    have d4 := kk 4 _ (by decide) (by decide) rfl
    rw [Nat.zero_mul, add_nil7] at d0 d1 d2 d3 d4
    obtain ⟨x0, hx0⟩ : ∃ x, x = l0[0] := ⟨_, rfl⟩
    rw [← hx0] at hp0 hpl d0 d1 d2 d3 d4
    replace d0 := hm1.cell0 d0
    replace d1 := hm1.cell0 d1
    replace d2 := hm1.cell0 d2
    replace d3 := hm1.cell0 d3
    replace d4 := hm1.cell0 d4
    have hnew : ∀ W, Mod NoneB w W → Calls Tryz.prog 13 #[.agg #[.int .i64 x0.p.cap, .slice x0.F x0.p.fail.length x0.fc, .int .i64 x0.p.crash, .bool x0.p.done, .slice x0.K x0.p.keep.length x0.kc]] W fun e w' => ∃ p S, e = .returned (.pointer (some ⟨p, 0, none⟩)) ∧ IsD w' p ⟨x0.p, [], 0, false⟩ S ∧ Mod NoneB W w' ∧ ∀ k, S k → W.heap.size ≤ k :=
      fun W hm => new_calls W x0.p x0.F x0.K x0.fc x0.kc (hp0.ok.fail.mod0 hm) (hp0.ok.keep.mod0 hm) (by omega) (by omega)
    have hrnew : ∀ W, Mod NoneB w W → Calls Tryz.prog 28 #[.agg #[.int .i64 x0.p.cap, .slice x0.F x0.p.fail.length x0.fc, .int .i64 x0.p.crash, .bool x0.p.done, .slice x0.K x0.p.keep.length x0.kc]] W fun e w' => ∃ p S, e = .returned (.pointer (some ⟨p, 0, none⟩)) ∧ IsR w.heap.size w' p ⟨x0.p, [], 0, false⟩ S ∧ Mod NoneB W w' ∧ ∀ k, S k → W.heap.size ≤ k :=
      fun W hm => rnew_calls w.heap.size W x0.p x0.F x0.K x0.fc x0.kc (hp0.ok.fail.mod0 hm) (hp0.ok.keep.mod0 hm) (hp0.ok.fail.block_lt (by decide)) (hp0.ok.keep.block_lt (by decide)) hm.size
    have HNEW := Lib.hid hnew
    have HRNEW := Lib.hid hrnew
    have HCAP := Lib.hid hp0.cap
    have g3 : (0 : Int) < (l0.length : Int) := by omega
    have hmd : Mod NoneB w w1.drew := hm1.drew
    clear hnew hrnew hp0 hpl k0 kk hx0 hb1 hli hpi g0
    go_wp2_with fail
    go_region_held3 (fun w' => w'.cell? ad = some (.int .i64 x0.p.cap) ∧ w'.cell? { block := ad.block, off := ad.off + 1 } = some (.slice x0.F x0.p.fail.length x0.fc) ∧ w'.cell? { block := ad.block, off := ad.off + 2 } = some (.int .i64 x0.p.crash) ∧ w'.cell? { block := ad.block, off := ad.off + 3 } = some (.bool x0.p.done) ∧ w'.cell? { block := ad.block, off := ad.off + 4 } = some (.slice x0.K x0.p.keep.length x0.kc)) (first | go_keep | exact ⟨v0, v1, v2, v3, v4⟩ | exact ⟨u0, u1, u2, u3, u4⟩)
      (first
        | (go_at_call 13; (with_reducible refine (HNEW.out _ hmd).mono ?_); rintro ez w3 ⟨p, S, rfl, hD, hm3, hS⟩; have v0 := hm3.cell0 (w := w1.drew) d0; have v1 := hm3.cell0 (w := w1.drew) d1; have v2 := hm3.cell0 (w := w1.drew) d2; have v3 := hm3.cell0 (w := w1.drew) d3; have v4 := hm3.cell0 (w := w1.drew) d4)
        | (go_at_call 28; (with_reducible refine (HRNEW.out _ (hmd.then0 hm3)).mono ?_); rintro ez w4 ⟨q, R, rfl, hR, hm4, hRS⟩; have u0 := hm4.cell0 v0; have u1 := hm4.cell0 v1; have u2 := hm4.cell0 v2; have u3 := hm4.cell0 v3; have u4 := hm4.cell0 v4))
    all_goals
      have hbd := Bd.fresh hmd hD hm3 hS hR hm4 hRS
      have hzs : Zs ⟨x0.p, [], 0, false⟩ 0 := Zs.new x0.p HCAP.out
      obtain ⟨D, hD0⟩ : ∃ D : Dk, D = ⟨x0.p, [], 0, false⟩ := ⟨_, rfl⟩
      rw [← hD0] at hbd hzs
      have HT := Lib.hid hbd
      have HG := Lib.hid hzs
      clear hbd hzs hD0 hD hm3 hS hR hm4 hRS v0 v1 v2 v3 v4 u0 u1 u2 u3 u4 HNEW HRNEW d0 d1 d2 d3 d4 hmd HCAP
      go_wp2_with fail
      obtain ⟨hzo1, hzo2⟩ := HG.out.open (by omega)
      have hsa := sopen_calls HT.out.lw htab (HG.out.fit (by omega)).1 mst (fun h0 => ⟨(hzo2 h0).2.2.1, (hzo2 h0).2.2.2.1, (hzo2 h0).2.2.2.2⟩)
      have HSA := Lib.hid hsa
      have HZ2 := Lib.hid hzo2
      clear hsa hzo1 hzo2
      refine HSA.out.mono ?_
      intro e wa hO
      obtain ⟨ox, rfl, S2, hbd2, hcase⟩ := opened_store HT.out hO
      have hsb := rsopen_calls hbd2 (HG.out.fit (by omega)).2 mst (fun h0 => ⟨(HZ2.out h0).2.2.2.1, (HZ2.out h0).2.2.2.2⟩)
      have HSB := Lib.hid hsb
      have HB2 := Lib.hid hbd2
      have HCA := Lib.hid hcase
      clear hsb hbd2 hcase hO HSA HZ2
      obtain ⟨ec, hec⟩ : ∃ ec, ec = openE D := ⟨_, rfl⟩
      rw [← hec]
      have HEC := Lib.hid hec
      clear hec
      go_wp2_with fail
      refine HSB.out.mono ?_
      intro e wb hP
      obtain ⟨ov, rfl, hob, hst, hmb⟩ := opened_both HG.out (by omega) HB2.out HCA.out hP
      have HST := Lib.hid hst
      rw [← HEC.out]
      obtain ⟨bn, hbn⟩ : ∃ bn, bn = ov.isNone := ⟨_, rfl⟩
      rw [← hbn] at hob
      have hbn2 := hbn.symm
      have HBN := Lib.hid hbn
      clear hP hst HB2 HCA HSB hbn HT HG
      go_wp2_with ((with_reducible refine (num_calls _ _).mono ?_); rintro ez wz ⟨rfl, hwz⟩; have hwz2 := hwz.symm; clear hwz; subst hwz2)
      go_loopw [11, 13, 15, 16, 17] (fun wv vv nv av t wr => ∃ (j nx at_ : Nat) (d : Dk), t = .int .i64 j ∧ nv = .int .i64 nx ∧ av = .int .i64 at_ ∧ 1 ≤ nx ∧ nx ≤ l0.length ∧ at_ ≤ l1.length ∧ j ≤ l2.length ∧ StZ w wr p q d (2 * j + 1) wv vv) (fun _ _ _ _ t _ => l2.length - (intOf t).toNat)
      case atStart => exact ⟨0, 1, 0, _, rfl, rfl, rfl, by omega, by omega, by omega, by omega, HST.out⟩
      case round =>
        obtain ⟨j, nx, at_, d, rfl, rfl, rfl, hnx1, hnx2, hat, hj, hst⟩ := hrel
        clear HST hob hbn2 HBN HEC hmb
        have hb : Mod NoneB w wr := by obtain ⟨_, _, _, h⟩ := hst.zs; exact h.base
        have hzs := hst.zs.1
        by_cases hlt : j < l2.length
        · obtain ⟨ad2, rfl, h0⟩ := (rd2.mod0 hb).bytes j hlt
          have hz := l2[j].toNat_lt
          obtain ⟨z, hzz⟩ : ∃ z, z = l2[j].toNat := ⟨_, rfl⟩
          rw [← hzz] at h0 hz
          obtain ⟨m, hm⟩ : ∃ m : Nat, m = z % 5 := ⟨_, rfl⟩
          have hm5 : m < 5 := by omega
          have hme : (z : Int) % 5 = (m : Int) := by omega
          have hmt : Int.tmod (z : Int) 5 = (m : Int) := by rw [Int.tmod_eq_emod_of_nonneg (by omega)]; exact hme
          have q0 : (0 : Int) ≤ (j : Int) := by omega
          have q1 : (j : Int) < (l2.length : Int) := by omega
          have HGD := Lib.hid hzs
          have HST := Lib.hid hst
          have hft := (hzs.fit (by omega)).2
          have HFT := Lib.hid hft
          clear hzz hm hzs hft hst
          by_cases m0 : m = 0
          · subst m0
            by_cases hnl : nx < l0.length
            · obtain ⟨adp, hap, k0, kk⟩ := Rd.elem (f := encPl) (fun _ => rfl) rd0 (by decide) nx hnl
              injection hap with hap
              subst hap
              have d0 := k0 _ rfl
              have d1 := kk 1 _ (by decide) (by decide) rfl
              have d2 := kk 2 _ (by decide) (by decide) rfl
              have d3 := kk 3 _ (by decide) (by decide) rfl
              have d4 := kk 4 _ (by decide) (by decide) rfl
              have hpk := OK0.out l0[nx] (List.getElem_mem _)
              have hpl := HPI.out l0[nx] (List.getElem_mem _)
              obtain ⟨y, hy⟩ : ∃ y, y = l0[nx] := ⟨_, rfl⟩
              rw [← hy] at d0 d1 d2 d3 d4 hpk hpl
              have q2 : (0 : Int) ≤ (nx : Int) := by omega
              have q3 : (nx : Int) < (l0.length : Int) := by omega
              have HD0 := Lib.hid d0
              have HD1 := Lib.hid d1
              have HD2 := Lib.hid d2
              have HD3 := Lib.hid d3
              have HD4 := Lib.hid d4
              replace d0 := hb.cell0 d0
              replace d1 := hb.cell0 d1
              replace d2 := hb.cell0 d2
              replace d3 := hb.cell0 d3
              replace d4 := hb.cell0 d4
              have HPK := Lib.hid hpk
              obtain ⟨S, R, hT⟩ := HST.out.zs.2
              have HT0 := Lib.hid hT.tw
              clear k0 kk hy hpk hT
              go_wp2_with fail
              refine (HT0.out.restart y.p y.F y.K y.fc y.kc HPK.out.ok.fail HPK.out.ok.keep (by omega) (by omega) HFT.out).mono ?_
              rintro e w3 ⟨rfl, S3, hT3⟩
              have HT3 := Lib.hid hT3
              replace d0 := hT3.base.cell0 HD0.out
              replace d1 := hT3.base.cell0 HD1.out
              replace d2 := hT3.base.cell0 HD2.out
              replace d3 := hT3.base.cell0 HD3.out
              replace d4 := hT3.base.cell0 HD4.out
              clear hT3
              go_wp2_with fail
              refine (HT3.out.rrestart y.p y.F y.K y.fc y.kc HPK.out.ok.fail HPK.out.ok.keep HFT.out).mono ?_
              rintro e w4 ⟨rfl, R4, hT4⟩
              have hst2 : ∃ D S R, Bd w w4 p q D D S R ∧ Zs D (2 * j + 1) := ⟨_, S3, R4, hT4.bd, HGD.out.restart y.p HPK.out.cap⟩
              clear d0 d1 d2 d3 d4 HD0 HD1 HD2 HD3 HD4 hT4 HT3 HT0 h0 hpl
              obtain ⟨D, S, R, hT, hG⟩ := hst2
              have HT := Lib.hid hT
              have HG := Lib.hid hG
              clear hT hG
              go_wp2_with fail
              obtain ⟨hzo1, hzo2⟩ := HG.out.open (by omega)
              have hsa := sopen_calls HT.out.lw htab (HG.out.fit (by omega)).1 mst (fun h0 => ⟨(hzo2 h0).2.2.1, (hzo2 h0).2.2.2.1, (hzo2 h0).2.2.2.2⟩)
              have HSA := Lib.hid hsa
              have HZ2 := Lib.hid hzo2
              clear hsa hzo1 hzo2
              refine HSA.out.mono ?_
              intro e wa hO
              obtain ⟨ox, rfl, S2, hbd2, hcase⟩ := opened_store HT.out hO
              have hsb := rsopen_calls hbd2 (HG.out.fit (by omega)).2 mst (fun h0 => ⟨(HZ2.out h0).2.2.2.1, (HZ2.out h0).2.2.2.2⟩)
              have HSB := Lib.hid hsb
              have HB2 := Lib.hid hbd2
              have HCA := Lib.hid hcase
              clear hsb hbd2 hcase hO HSA HZ2
              obtain ⟨ec, hec⟩ : ∃ ec, ec = openE D := ⟨_, rfl⟩
              rw [← hec]
              have HEC := Lib.hid hec
              clear hec
              go_wp2_with fail
              refine HSB.out.mono ?_
              intro e wb hP
              obtain ⟨ov, rfl, hob, hst, hmb⟩ := opened_both HG.out (by omega) HB2.out HCA.out hP
              have HST := Lib.hid hst
              rw [← HEC.out]
              obtain ⟨bn, hbn⟩ : ∃ bn, bn = ov.isNone := ⟨_, rfl⟩
              rw [← hbn] at hob
              have hbn2 := hbn.symm
              have HBN := Lib.hid hbn
              clear hP hst HB2 HCA HSB hbn HT HG
              go_wp2_with ((with_reducible refine (num_calls _ _).mono ?_); rintro ez wz ⟨rfl, hwz⟩; have hwz2 := hwz.symm; clear hwz; subst hwz2)
              rcases HST.out with ⟨e1, e2, hz, S, R, hb⟩ | ⟨k, g, s, vw, vs, mo, t, x, S, X, A, c, R, e1, e2, e3, hzq, hzz⟩
              · injection e1 with e1
                injection e2 with e2
                subst e1
                subst e2
                have HZ := Lib.hid hz
                have HB := Lib.hid hb
                clear hz hb HST hob hbn2 HBN HEC hmb
                go_wp2_with fail
                go_quiet (fail)
                all_goals
                  go_wp2_with fail
                  go_roundw
                  case rel => exact ⟨j + 1, nx + 1, at_, openK D, by go_num, by go_num, by go_num, by omega, by omega, by omega, by omega, .inl ⟨rfl, rfl, HZ.out.next, S, R, HB.out.mod0 ((Mod.refl NoneB _).drewN _)⟩⟩
                  case measure => simp [intOf]; omega
              · injection e1 with e1
                injection e2 with e2
                subst e1
                subst e2

                have ZZ := Lib.hid hzz
                have ZQ := Lib.hid hzq.next
                clear hzz hzq HST hob hbn2 HBN HEC hmb
                have hallZ := sall_calls (ZZ.out.mod0 ((Mod.refl NoneB wb).drew)).at_.mp ((ZQ.out.fit (by omega)).1.small.1)
                have HALLZ := Lib.hid hallZ
                have zc : wb.cell? ⟨vs, 1, none⟩ = some (.slice A t.r.length c) := by rw [blk_cell ZZ.out.rf.st]; rfl
                have HROW := Lib.hid ZZ.out.rf.own
                clear hallZ
                go_wp2_with fail
                go_region_held3 (fun w' => w'.cell? ⟨vs, 1, none⟩ = some (.slice A t.r.length c)) (first | go_keep | exact zc6 | exact zc7 | exact zc)
                  (first
                    | (go_at_call 20; (with_reducible refine HALLZ.out.mono ?_); rintro ez w6 ⟨A6, c6, rfl, hr6, hm6, _⟩; have zc6 := hm6.cell0 (w := wb.drew) zc)
                    | (go_at_call 19; (with_reducible refine (all_pairs A6 A c6 c hr6 (HROW.out.mod0 (((Mod.refl NoneB wb).drew).then0 hm6)) rfl).mono ?_); rintro ez w7 ⟨rfl, hm7⟩; have zc7 := hm7.cell0 zc6))
                all_goals
                  have hZ7 := ZZ.out.mod0 ((((Mod.refl NoneB wb).drew).then0 hm6).then0 hm7)
                  have HZ7 := Lib.hid hZ7
                  clear hZ7 hm6 hm7 hr6 zc zc6 zc7 HALLZ HROW
                  go_wp2_with fail
                  go_roundw
                  case rel => exact ⟨j + 1, nx + 1, at_, openK D, by go_num, by go_num, by go_num, by omega, by omega, by omega, by omega, .inr ⟨k, g, s, vw, vs, mo, t, x, S, X, A, c, R, rfl, rfl, e3, ZQ.out, HZ7.out⟩⟩
                  case measure => simp [intOf]; omega
            · have q3 : ¬ ((nx : Int) < (l0.length : Int)) := by omega
              have hst2 : ∃ D S R, Bd w wr p q D D S R ∧ Zs D (2 * j + 1) := by
                obtain ⟨S, R, hT⟩ := HST.out.zs.2
                exact ⟨_, S, R, hT, HGD.out⟩
              obtain ⟨D, S, R, hT, hG⟩ := hst2
              have HT := Lib.hid hT
              have HG := Lib.hid hG
              clear hT hG
              go_wp2_with fail
              obtain ⟨hzo1, hzo2⟩ := HG.out.open (by omega)
              have hsa := sopen_calls HT.out.lw htab (HG.out.fit (by omega)).1 mst (fun h0 => ⟨(hzo2 h0).2.2.1, (hzo2 h0).2.2.2.1, (hzo2 h0).2.2.2.2⟩)
              have HSA := Lib.hid hsa
              have HZ2 := Lib.hid hzo2
              clear hsa hzo1 hzo2
              refine HSA.out.mono ?_
              intro e wa hO
              obtain ⟨ox, rfl, S2, hbd2, hcase⟩ := opened_store HT.out hO
              have hsb := rsopen_calls hbd2 (HG.out.fit (by omega)).2 mst (fun h0 => ⟨(HZ2.out h0).2.2.2.1, (HZ2.out h0).2.2.2.2⟩)
              have HSB := Lib.hid hsb
              have HB2 := Lib.hid hbd2
              have HCA := Lib.hid hcase
              clear hsb hbd2 hcase hO HSA HZ2
              obtain ⟨ec, hec⟩ : ∃ ec, ec = openE D := ⟨_, rfl⟩
              rw [← hec]
              have HEC := Lib.hid hec
              clear hec
              go_wp2_with fail
              refine HSB.out.mono ?_
              intro e wb hP
              obtain ⟨ov, rfl, hob, hst, hmb⟩ := opened_both HG.out (by omega) HB2.out HCA.out hP
              have HST := Lib.hid hst
              rw [← HEC.out]
              obtain ⟨bn, hbn⟩ : ∃ bn, bn = ov.isNone := ⟨_, rfl⟩
              rw [← hbn] at hob
              have hbn2 := hbn.symm
              have HBN := Lib.hid hbn
              clear hP hst HB2 HCA HSB hbn HT HG
              go_wp2_with ((with_reducible refine (num_calls _ _).mono ?_); rintro ez wz ⟨rfl, hwz⟩; have hwz2 := hwz.symm; clear hwz; subst hwz2)
              rcases HST.out with ⟨e1, e2, hz, S, R, hb⟩ | ⟨k, g, s, vw, vs, mo, t, x, S, X, A, c, R, e1, e2, e3, hzq, hzz⟩
              · injection e1 with e1
                injection e2 with e2
                subst e1
                subst e2
                have HZ := Lib.hid hz
                have HB := Lib.hid hb
                clear hz hb HST hob hbn2 HBN HEC hmb
                go_wp2_with fail
                go_quiet (fail)
                all_goals
                  go_wp2_with fail
                  go_roundw
                  case rel => exact ⟨j + 1, nx, at_, openK D, by go_num, by go_num, by go_num, by omega, by omega, by omega, by omega, .inl ⟨rfl, rfl, HZ.out.next, S, R, HB.out.mod0 ((Mod.refl NoneB _).drewN _)⟩⟩
                  case measure => simp [intOf]; omega
              · injection e1 with e1
                injection e2 with e2
                subst e1
                subst e2

                have ZZ := Lib.hid hzz
                have ZQ := Lib.hid hzq.next
                clear hzz hzq HST hob hbn2 HBN HEC hmb
                have hallZ := sall_calls (ZZ.out.mod0 ((Mod.refl NoneB wb).drew)).at_.mp ((ZQ.out.fit (by omega)).1.small.1)
                have HALLZ := Lib.hid hallZ
                have zc : wb.cell? ⟨vs, 1, none⟩ = some (.slice A t.r.length c) := by rw [blk_cell ZZ.out.rf.st]; rfl
                have HROW := Lib.hid ZZ.out.rf.own
                clear hallZ
                go_wp2_with fail
                go_region_held3 (fun w' => w'.cell? ⟨vs, 1, none⟩ = some (.slice A t.r.length c)) (first | go_keep | exact zc6 | exact zc7 | exact zc)
                  (first
                    | (go_at_call 20; (with_reducible refine HALLZ.out.mono ?_); rintro ez w6 ⟨A6, c6, rfl, hr6, hm6, _⟩; have zc6 := hm6.cell0 (w := wb.drew) zc)
                    | (go_at_call 19; (with_reducible refine (all_pairs A6 A c6 c hr6 (HROW.out.mod0 (((Mod.refl NoneB wb).drew).then0 hm6)) rfl).mono ?_); rintro ez w7 ⟨rfl, hm7⟩; have zc7 := hm7.cell0 zc6))
                all_goals
                  have hZ7 := ZZ.out.mod0 ((((Mod.refl NoneB wb).drew).then0 hm6).then0 hm7)
                  have HZ7 := Lib.hid hZ7
                  clear hZ7 hm6 hm7 hr6 zc zc6 zc7 HALLZ HROW
                  go_wp2_with fail
                  go_roundw
                  case rel => exact ⟨j + 1, nx, at_, openK D, by go_num, by go_num, by go_num, by omega, by omega, by omega, by omega, .inr ⟨k, g, s, vw, vs, mo, t, x, S, X, A, c, R, rfl, rfl, e3, ZQ.out, HZ7.out⟩⟩
                  case measure => simp [intOf]; omega
          by_cases m1 : m = 1
          · subst m1
            rcases HST.out with ⟨rfl, rfl, hz, S, R, hb0⟩ | ⟨k, g, s, vw, vs, mo, t, x, S, X, A, c, R, rfl, rfl, rfl, hzq, hzz⟩
            · have HZ := Lib.hid hz
              have HB := Lib.hid hb0
              clear hz hb0 HST
              go_wp2_with fail
              go_quiet (fail)
              all_goals
                go_wp2_with fail
                go_quiet (fail)
                all_goals
                  go_wp2_with fail
                  go_roundw
                  case rel => exact ⟨j + 1, nx, at_, d, by go_num, by go_num, by go_num, by omega, by omega, by omega, by omega, .inl ⟨rfl, rfl, HZ.out.next.next, S, R, HB.out.mod0 ((Mod.refl NoneB _).drewN _)⟩⟩
                  case measure => simp [intOf]; omega
            · have hmd : Mod NoneB wr wr.drew := (Mod.refl NoneB wr).drew
              have hfq := hzq.fit (by omega)
              have hzd := hzz.mod0 hmd
              have hck := scheck_calls hzd.at_ hfq.1
              have hqk := hzq.check (by omega)
              have HQK := Lib.hid hqk
              have HFQ := Lib.hid hfq
              have HZD := Lib.hid hzd
              obtain ⟨kk, hkk⟩ : ∃ kk, kk = checkS t := ⟨_, rfl⟩
              rw [← hkk] at hck HQK
              have HCK := Lib.hid hck
              have HKK := Lib.hid hkk
              obtain ⟨tk, e5⟩ := kk
              clear hmd hfq hzd hck hqk hzz hzq HST hkk
              simp only at HQK
              go_wp2_with fail
              refine wp_region_held_drew (S := fun _ => True) (by kernel_rfl) trivial (fun hHeld => ?_)
              refine wpAnyH_take (i := 0) (v := ?_) (by simp only [List.getElem?_toArray, List.getElem?_cons_zero]; rfl) (by kernel_rfl) (by kernel_rfl) (by kernel_rfl) (by exact fun _ _ _ h => h) (Or.inl ⟨by rfl, ?_⟩) (by assumption) ?_
              rotate_left
              · intro w hSw
                try dsimp only at hSw
                go_simp
                all_goals with_reducible rfl
              try simp only [Act.put, List.setIfInBounds_toArray, List.set_cons_zero, List.set_cons_succ]
              refine wpAnyH_take (i := 1) (v := ?_) (by simp only [List.getElem?_toArray, List.getElem?_cons_succ, List.getElem?_cons_zero]; rfl) (by kernel_rfl) (by kernel_rfl) (by kernel_rfl) (by exact fun _ _ _ h => h) (Or.inl ⟨by rfl, ?_⟩) (by assumption) ?_
              rotate_left
              · intro w hSw
                try dsimp only at hSw
                go_simp
                all_goals with_reducible rfl
              try simp only [Act.put, List.setIfInBounds_toArray, List.set_cons_zero, List.set_cons_succ]
              refine wpAnyH_take (i := 2) (v := ?_) (by simp only [List.getElem?_toArray, List.getElem?_cons_succ, List.getElem?_cons_zero]; rfl) (by kernel_rfl) (by kernel_rfl) (by kernel_rfl) (by exact fun _ _ _ h => h) (Or.inl ⟨by rfl, ?_⟩) (by assumption) ?_
              rotate_left
              · intro w hSw
                try dsimp only at hSw
                go_simp
                all_goals with_reducible rfl
              try simp only [Act.put, List.setIfInBounds_toArray, List.set_cons_zero, List.set_cons_succ]
              refine wpAnyH_take (i := 3) (v := ?_) (by simp only [List.getElem?_toArray, List.getElem?_cons_succ, List.getElem?_cons_zero]; rfl) (by kernel_rfl) (by kernel_rfl) (by kernel_rfl) (by exact fun _ _ _ h => h) (Or.inl ⟨by rfl, ?_⟩) (by assumption) ?_
              rotate_left
              · intro w hSw
                try dsimp only at hSw
                go_simp
                all_goals with_reducible rfl
              try simp only [Act.put, List.setIfInBounds_toArray, List.set_cons_zero, List.set_cons_succ]
              refine wpAnyH_take (i := 6) (v := ?_) (by simp only [List.getElem?_toArray, List.getElem?_cons_succ, List.getElem?_cons_zero]; rfl) (by kernel_rfl) (by kernel_rfl) (by kernel_rfl) (by exact fun _ _ _ h => h) (Or.inl ⟨by rfl, ?_⟩) (by assumption) ?_
              rotate_left
              · intro w hSw
                try dsimp only at hSw
                go_simp
                all_goals with_reducible rfl
              try simp only [Act.put, List.setIfInBounds_toArray, List.set_cons_zero, List.set_cons_succ]
              refine wpAnyH_ready (rs := [4]) (by kernel_rfl) (by simp) ?_
              refine AllReadyH.cons (by simp only [List.getElem?_toArray, List.getElem?_cons_succ, List.getElem?_cons_zero]; rfl) (fun K hK => ?_) AllReadyH.nil
              go_simp
              refine HCK.out.mono ?_
              intro ez w3 hse
              obtain ⟨rfl, x3, S3, X3, hzz3⟩ := HZD.out.store hse
              try simp only
              refine hK.out _ _ (trivial) (fun hHeld => ?_)
              clear hK K
              try simp only [Act.put, List.setIfInBounds_toArray, List.set_cons_zero, List.set_cons_succ]
              refine wpAnyH_ready (rs := [5]) (by kernel_rfl) (by simp) ?_
              refine AllReadyH.cons (by simp only [List.getElem?_toArray, List.getElem?_cons_succ, List.getElem?_cons_zero]; rfl) (fun K hK => ?_) AllReadyH.nil
              go_simp
              refine (num_calls _ _).mono ?_
              rintro ez wz ⟨rfl, hwz⟩
              have hwz2 := hwz.symm
              clear hwz
              subst hwz2
              try simp only
              refine hK.out _ _ (trivial) (fun hHeld => ?_)
              clear hK K
              try simp only [Act.put, List.setIfInBounds_toArray, List.set_cons_zero, List.set_cons_succ]
              refine wpAnyH_ready (rs := [7]) (by kernel_rfl) (by simp) ?_
              refine AllReadyH.cons (by simp only [List.getElem?_toArray, List.getElem?_cons_succ, List.getElem?_cons_zero]; rfl) (fun K hK => ?_) AllReadyH.nil
              go_simp
              have hrk := rscheck_calls hzz3.rf HFQ.out.2
              rw [← HKK.out] at hrk
              refine hrk.mono ?_
              intro ez w4 hre
              obtain ⟨rfl, A4, c4, S4, R4, hzz4⟩ := hzz3.ref hre
              simp only at hzz4
              have z0 : w4.cell? ⟨vs, 0, none⟩ = some (.pointer (some ⟨vw, 0, none⟩)) := by rw [blk_cell hzz4.rf.st]; rfl
              have z2 : w4.cell? ⟨vw, 2, none⟩ = some (.bool tk.sk) := by rw [blk_cell hzz4.rf.wal]; rfl
              try simp only
              refine hK.out _ _ (trivial) (fun hHeld => ?_)
              clear hK K
              try simp only [Act.put, List.setIfInBounds_toArray, List.set_cons_zero, List.set_cons_succ]
              refine wpAnyH_imp (S2 := fun w' => w'.cell? ⟨vs, 0, none⟩ = some (.pointer (some ⟨vw, 0, none⟩)) ∧ w'.cell? ⟨vw, 2, none⟩ = some (.bool tk.sk)) (fun w' hw' => trivial) _ _ _ _ ?_
              have hHeld2 : (fun w' : World => w'.cell? ⟨vs, 0, none⟩ = some (.pointer (some ⟨vw, 0, none⟩)) ∧ w'.cell? ⟨vw, 2, none⟩ = some (.bool tk.sk)) w4 := ⟨z0, z2⟩
              refine wpAnyH_take (i := 8) (v := ?_) (by simp only [List.getElem?_toArray, List.getElem?_cons_succ, List.getElem?_cons_zero]; rfl) (by kernel_rfl) (by kernel_rfl) (by kernel_rfl) (by exact fun _ _ _ h => h) (Or.inl ⟨by rfl, ?_⟩) (by assumption) ?_
              rotate_left
              · intro w hSw
                try dsimp only at hSw
                obtain ⟨hc0, hc2⟩ := hSw
                go_simp
                all_goals with_reducible rfl
              try simp only [Act.put, List.setIfInBounds_toArray, List.set_cons_zero, List.set_cons_succ]
              refine wpAnyH_take (i := 9) (v := ?_) (by simp only [List.getElem?_toArray, List.getElem?_cons_succ, List.getElem?_cons_zero]; rfl) (by kernel_rfl) (by kernel_rfl) (by kernel_rfl) (by exact fun _ _ _ h => h) (Or.inl ⟨by rfl, ?_⟩) (by assumption) ?_
              rotate_left
              · intro w hSw
                try dsimp only at hSw
                obtain ⟨hc0, hc2⟩ := hSw
                go_simp
                all_goals with_reducible rfl
              try simp only [Act.put, List.setIfInBounds_toArray, List.set_cons_zero, List.set_cons_succ]
              refine wpAnyH_take (i := 10) (v := ?_) (by simp only [List.getElem?_toArray, List.getElem?_cons_succ, List.getElem?_cons_zero]; rfl) (by kernel_rfl) (by kernel_rfl) (by kernel_rfl) (by exact fun _ _ _ h => h) (Or.inl ⟨by rfl, ?_⟩) (by assumption) ?_
              rotate_left
              · intro w hSw
                try dsimp only at hSw
                obtain ⟨hc0, hc2⟩ := hSw
                go_simp
                all_goals with_reducible rfl
              try simp only [Act.put, List.setIfInBounds_toArray, List.set_cons_zero, List.set_cons_succ]
              refine wpAnyH_take (i := 12) (v := ?_) (by simp only [List.getElem?_toArray, List.getElem?_cons_succ, List.getElem?_cons_zero]; rfl) (by kernel_rfl) (by kernel_rfl) (by kernel_rfl) (by exact fun _ _ _ h => h) (Or.inl ⟨by rfl, ?_⟩) (by assumption) ?_
              rotate_left
              · intro w hSw
                try dsimp only at hSw
                obtain ⟨hc0, hc2⟩ := hSw
                go_simp
                all_goals with_reducible rfl
              try simp only [Act.put, List.setIfInBounds_toArray, List.set_cons_zero, List.set_cons_succ]
              refine wpAnyH_take (i := 13) (v := ?_) (by simp only [List.getElem?_toArray, List.getElem?_cons_succ, List.getElem?_cons_zero]; rfl) (by kernel_rfl) (by kernel_rfl) (by kernel_rfl) (by exact fun _ _ _ h => h) (Or.inl ⟨by rfl, ?_⟩) (by assumption) ?_
              rotate_left
              · intro w hSw
                try dsimp only at hSw
                obtain ⟨hc0, hc2⟩ := hSw
                go_simp
                all_goals with_reducible rfl
              try simp only [Act.put, List.setIfInBounds_toArray, List.set_cons_zero, List.set_cons_succ]
              refine wpAnyH_take (i := 14) (v := ?_) (by simp only [List.getElem?_toArray, List.getElem?_cons_succ, List.getElem?_cons_zero]; rfl) (by kernel_rfl) (by kernel_rfl) (by kernel_rfl) (by exact fun _ _ _ h => h) (Or.inl ⟨by rfl, ?_⟩) (by assumption) ?_
              rotate_left
              · intro w hSw
                try dsimp only at hSw
                obtain ⟨hc0, hc2⟩ := hSw
                go_simp
                all_goals with_reducible rfl
              try simp only [Act.put, List.setIfInBounds_toArray, List.set_cons_zero, List.set_cons_succ]
              refine wpAnyH_take (i := 15) (v := ?_) (by simp only [List.getElem?_toArray, List.getElem?_cons_succ, List.getElem?_cons_zero]; rfl) (by kernel_rfl) (by kernel_rfl) (by kernel_rfl) (by exact fun _ _ _ h => h) (Or.inl ⟨by rfl, ?_⟩) (by assumption) ?_
              rotate_left
              · intro w hSw
                try dsimp only at hSw
                obtain ⟨hc0, hc2⟩ := hSw
                go_simp
                all_goals with_reducible rfl
              try simp only [Act.put, List.setIfInBounds_toArray, List.set_cons_zero, List.set_cons_succ]
              refine wpAnyH_take (i := 16) (v := ?_) (by simp only [List.getElem?_toArray, List.getElem?_cons_succ, List.getElem?_cons_zero]; rfl) (by kernel_rfl) (by kernel_rfl) (by kernel_rfl) (by exact fun _ _ _ h => h) (Or.inl ⟨by rfl, ?_⟩) (by assumption) ?_
              rotate_left
              · intro w hSw
                try dsimp only at hSw
                obtain ⟨hc0, hc2⟩ := hSw
                go_simp
                all_goals with_reducible rfl
              try simp only [Act.put, List.setIfInBounds_toArray, List.set_cons_zero, List.set_cons_succ]
              refine wpAnyH_take (i := 17) (v := ?_) (by simp only [List.getElem?_toArray, List.getElem?_cons_succ, List.getElem?_cons_zero]; rfl) (by kernel_rfl) (by kernel_rfl) (by kernel_rfl) (by exact fun _ _ _ h => h) (Or.inl ⟨by rfl, ?_⟩) (by assumption) ?_
              rotate_left
              · intro w hSw
                try dsimp only at hSw
                obtain ⟨hc0, hc2⟩ := hSw
                go_simp
                all_goals with_reducible rfl
              try simp only [Act.put, List.setIfInBounds_toArray, List.set_cons_zero, List.set_cons_succ]
              refine wpAnyH_take (i := 18) (v := ?_) (by simp only [List.getElem?_toArray, List.getElem?_cons_succ, List.getElem?_cons_zero]; rfl) (by kernel_rfl) (by kernel_rfl) (by kernel_rfl) (by exact fun _ _ _ h => h) (Or.inl ⟨by rfl, ?_⟩) (by assumption) ?_
              rotate_left
              · intro w hSw
                try dsimp only at hSw
                obtain ⟨hc0, hc2⟩ := hSw
                go_simp
                all_goals with_reducible rfl
              try simp only [Act.put, List.setIfInBounds_toArray, List.set_cons_zero, List.set_cons_succ]
              refine wpAnyH_ready (rs := [11]) (by kernel_rfl) (by simp) ?_
              refine AllReadyH.cons (by simp only [List.getElem?_toArray, List.getElem?_cons_succ, List.getElem?_cons_zero]; rfl) (fun K hK => ?_) AllReadyH.nil
              go_simp
              refine (ssick_calls hzz4.at_).mono ?_
              rintro ez w5 ⟨rfl, hm5⟩
              try simp only
              refine hK.out _ _ (⟨hm5.cell0 z0, hm5.cell0 z2⟩) (fun hHeld => ?_)
              clear hK K
              try simp only [Act.put, List.setIfInBounds_toArray, List.set_cons_zero, List.set_cons_succ]
              refine wpAnyH_take (i := 19) (v := ?_) (by simp only [List.getElem?_toArray, List.getElem?_cons_succ, List.getElem?_cons_zero]; rfl) (by kernel_rfl) (by kernel_rfl) (by kernel_rfl) (by exact fun _ _ _ h => h) (Or.inl ⟨by rfl, ?_⟩) (by assumption) ?_
              rotate_left
              · intro w hSw
                try dsimp only at hSw
                obtain ⟨hc0, hc2⟩ := hSw
                go_simp
                all_goals with_reducible rfl
              try simp only [Act.put, List.setIfInBounds_toArray, List.set_cons_zero, List.set_cons_succ]
              refine wpAnyH_take (i := 20) (v := ?_) (by simp only [List.getElem?_toArray, List.getElem?_cons_succ, List.getElem?_cons_zero]; rfl) (by kernel_rfl) (by kernel_rfl) (by kernel_rfl) (by exact fun _ _ _ h => h) (Or.inl ⟨by rfl, ?_⟩) (by assumption) ?_
              rotate_left
              · intro w hSw
                try dsimp only at hSw
                obtain ⟨hc0, hc2⟩ := hSw
                go_simp
                all_goals with_reducible rfl
              try simp only [Act.put, List.setIfInBounds_toArray, List.set_cons_zero, List.set_cons_succ]
              refine wpAnyH_take (i := 21) (v := ?_) (by simp only [List.getElem?_toArray, List.getElem?_cons_succ, List.getElem?_cons_zero]; rfl) (by kernel_rfl) (by kernel_rfl) (by kernel_rfl) (by exact fun _ _ _ h => h) (Or.inl ⟨by rfl, ?_⟩) (by assumption) ?_
              rotate_left
              · intro w hSw
                try dsimp only at hSw
                obtain ⟨hc0, hc2⟩ := hSw
                go_simp
                all_goals with_reducible rfl
              try simp only [Act.put, List.setIfInBounds_toArray, List.set_cons_zero, List.set_cons_succ]
              refine wpAnyH_done (by kernel_rfl) ?_ _
              replace hzz4 := hzz4.mod0 hm5
              have ZZ := Lib.hid hzz4
              have ZQ : Hid (Zq tk (2 * j + 2 + 1)) := Lib.hid HQK.out.next
              clear hzz4 HQK HFQ HZD HCK HKK
              have hallZ := sall_calls (ZZ.out.mod0 ((Mod.refl NoneB w5).drew)).at_.mp ((ZQ.out.fit (by omega)).1.small.1)
              have HALLZ := Lib.hid hallZ
              have zc : w5.cell? ⟨vs, 1, none⟩ = some (.slice A4 tk.r.length c4) := by rw [blk_cell ZZ.out.rf.st]; rfl
              have HROW := Lib.hid ZZ.out.rf.own
              clear hallZ
              go_wp2_with fail
              go_region_held3 (fun w' => w'.cell? ⟨vs, 1, none⟩ = some (.slice A4 tk.r.length c4)) (first | go_keep | exact zc6 | exact zc7 | exact zc)
                (first
                  | (go_at_call 20; (with_reducible refine HALLZ.out.mono ?_); rintro ez w6 ⟨A6, c6, rfl, hr6, hm6, _⟩; have zc6 := hm6.cell0 (w := w5.drew) zc)
                  | (go_at_call 19; (with_reducible refine (all_pairs A6 A4 c6 c4 hr6 (HROW.out.mod0 (((Mod.refl NoneB w5).drew).then0 hm6)) rfl).mono ?_); rintro ez w7 ⟨rfl, hm7⟩; have zc7 := hm7.cell0 zc6))
              all_goals
                have hZ7 := ZZ.out.mod0 ((((Mod.refl NoneB w5).drew).then0 hm6).then0 hm7)
                have HZ7 := Lib.hid hZ7
                clear hZ7 hm6 hm7 hr6 zc zc6 zc7 HALLZ HROW
                go_wp2_with fail
                go_roundw
                case rel => exact ⟨j + 1, nx, at_, tk.d, by go_num, by go_num, by go_num, by omega, by omega, by omega, by omega, .inr ⟨k, g, s, vw, vs, mo, tk, x3, S4, X3, A4, c4, R4, rfl, rfl, rfl, ZQ.out, HZ7.out⟩⟩
                case measure => simp [intOf]; omega
          · have r0 : (((m : Nat) : Int) == 0) = false := beq_eq_false_iff_ne.mpr (by omega)
            have r1 : (((m : Nat) : Int) == 1) = false := beq_eq_false_iff_ne.mpr (by omega)
            rcases HST.out with ⟨rfl, rfl, hz, S, R, hb0⟩ | ⟨k, g, s, vw, vs, mo, t, x, S, X, A, c, R, rfl, rfl, rfl, hzq, hzz⟩
            · have HZ := Lib.hid hz
              have HB := Lib.hid hb0
              clear hz hb0 HST
              go_wp2_with fail
              go_roundw
              case rel => exact ⟨j + 1, nx, at_, d, by go_num, by go_num, by go_num, by omega, by omega, by omega, by omega, .inl ⟨rfl, rfl, HZ.out.next.next, S, R, HB.out⟩⟩
              case measure => simp [intOf]; omega
            · by_cases hal : at_ < l1.length
              case neg =>
                have q2 : (l1.length : Int) ≤ (at_ : Int) := by omega
                clear hzq hzz
                go_wp2_with fail
                go_roundw
                case rel => exact ⟨j + 1, nx, at_, t.d, by go_num, by go_num, by go_num, by omega, by omega, by omega, by omega, HST.out.next.next⟩
                case measure => simp [intOf]; omega
              obtain ⟨adl, hal1, h1, _⟩ := Rd.elem (f := encOv) (fun _ => rfl) rd1 (by decide) at_ hal
              subst hal1
              have y0 := h1 _ rfl
              rw [Nat.mul_one] at y0
              have hxo := OK1.out l1[at_] (List.getElem_mem _)
              have hxw := HLI.out l1[at_] (List.getElem_mem _)
              obtain ⟨o, ho⟩ : ∃ o, o = l1[at_] := ⟨_, rfl⟩
              rw [← ho] at y0 hxo hxw
              have hfi : Fine o.l := ⟨hxw.1, hxw.2⟩
              have HY := Lib.hid y0
              have q2 : ¬ ((l1.length : Int) ≤ (at_ : Int)) := by omega
              have q3 : (0 : Int) ≤ (at_ : Int) := by omega
              have q4 : (at_ : Int) < (l1.length : Int) := by omega
              have hmd : Mod NoneB wr wr.drew := (Mod.refl NoneB wr).drew
              have hfq := hzq.fit (by omega)
              have hzd := hzz.mod0 hmd
              have hqk := hzq.commit (by omega) mo hfi
              have hww := hzq.w
              have hwo := hfi.wO
              obtain ⟨o1, o2⟩ := hzd.at_.old hxo
              have hck := (⟨hzd.at_, hzq.ex.choose_spec.1⟩ : So w wr.drew p k g s mo t x S X _ _ 1048584).commit htab (by omega) (Nat.le_refl _) (by have := hzq.c; omega) o.l o.A o.c o1 o2 hfi.wt (by omega)
              have hsm := small_wt hfi.wt
              have hlen : t.r.length + o.l.length ≤ 1000000 := by have := wS_len t.r; have := len_wt o.l; have := hfi.wt; omega
              have hfc : (commitW t.d t.n t.sk o.l).e = 0 → FitF ⟨(commitW t.d t.n t.sk o.l).d, (commitW t.d t.n t.sk o.l).n, (commitW t.d t.n t.sk o.l).sk, applyT t.r o.l⟩ := fun _ => by
                have h1 := hzq.ex.choose_spec.1.fit2 (by omega) (Nat.le_refl _) (by have := hzq.c; omega) o.l hfi.wt (by have := wS_apply hzq.ex.choose_spec.1.rises o.l; omega)
                have hp : (commitW t.d t.n t.sk o.l).d.p = t.d.p := by
                  unfold commitW
                  split
                  · rfl
                  · exact (commit_small t.d t.n o.l).1
                exact ⟨⟨h1.d.c, h1.d.l, h1.d.u, by rw [hp]; exact hzq.cap⟩, h1.n, h1.small⟩
              have HQK := Lib.hid hqk
              have HFQ := Lib.hid hfq
              have HZD := Lib.hid hzd
              have HSM := Lib.hid hsm
              have HLEN := Lib.hid hlen
              have HFC := Lib.hid hfc
              have HXO := Lib.hid hxo
              obtain ⟨kk, hkk⟩ : ∃ kk, kk = commitS mo t o.l := ⟨_, rfl⟩
              rw [← hkk] at hck HQK
              have HCK := Lib.hid hck
              have HKK := Lib.hid hkk
              obtain ⟨tk, e5⟩ := kk
              replace y0 := hb.cell0 y0
              have y0d : wr.drew.cell? (adl.add at_) = some (.slice o.A o.l.length o.c) := y0
              clear hmd hfq hzd hck hqk hzz hzq HST hkk h1 ho hxo hxw hfi hww hwo o1 o2 hsm hlen hfc
              simp only at HQK
              go_wp2_with fail
              refine wp_region_held_drew (S := fun w' => w'.cell? (adl.add at_) = some (.slice o.A o.l.length o.c)) (by kernel_rfl) y0d (fun hHeld => ?_)
              refine wpAnyH_take (i := 0) (v := ?_) (by simp only [List.getElem?_toArray, List.getElem?_cons_zero]; rfl) (by kernel_rfl) (by kernel_rfl) (by kernel_rfl) (by exact fun _ _ _ h => h) (Or.inl ⟨by rfl, ?_⟩) (by assumption) ?_
              rotate_left
              · intro w hSw
                try dsimp only at hSw
                go_simp
                all_goals with_reducible rfl
              try simp only [Act.put, List.setIfInBounds_toArray, List.set_cons_zero, List.set_cons_succ]
              refine wpAnyH_take (i := 1) (v := ?_) (by simp only [List.getElem?_toArray, List.getElem?_cons_succ, List.getElem?_cons_zero]; rfl) (by kernel_rfl) (by kernel_rfl) (by kernel_rfl) (by exact fun _ _ _ h => h) (Or.inl ⟨by rfl, ?_⟩) (by assumption) ?_
              rotate_left
              · intro w hSw
                try dsimp only at hSw
                go_simp
                all_goals with_reducible rfl
              try simp only [Act.put, List.setIfInBounds_toArray, List.set_cons_zero, List.set_cons_succ]
              refine wpAnyH_take (i := 2) (v := ?_) (by simp only [List.getElem?_toArray, List.getElem?_cons_succ, List.getElem?_cons_zero]; rfl) (by kernel_rfl) (by kernel_rfl) (by kernel_rfl) (by exact fun _ _ _ h => h) (Or.inl ⟨by rfl, ?_⟩) (by assumption) ?_
              rotate_left
              · intro w hSw
                try dsimp only at hSw
                go_simp
                all_goals with_reducible rfl
              try simp only [Act.put, List.setIfInBounds_toArray, List.set_cons_zero, List.set_cons_succ]
              refine wpAnyH_take (i := 3) (v := ?_) (by simp only [List.getElem?_toArray, List.getElem?_cons_succ, List.getElem?_cons_zero]; rfl) (by kernel_rfl) (by kernel_rfl) (by kernel_rfl) (by exact fun _ _ _ h => h) (Or.inl ⟨by rfl, ?_⟩) (by assumption) ?_
              rotate_left
              · intro w hSw
                try dsimp only at hSw
                go_simp
                all_goals with_reducible rfl
              try simp only [Act.put, List.setIfInBounds_toArray, List.set_cons_zero, List.set_cons_succ]
              refine wpAnyH_take (i := 4) (v := ?_) (by simp only [List.getElem?_toArray, List.getElem?_cons_succ, List.getElem?_cons_zero]; rfl) (by kernel_rfl) (by kernel_rfl) (by kernel_rfl) (by exact fun _ _ _ h => h) (Or.inl ⟨by rfl, ?_⟩) (by assumption) ?_
              rotate_left
              · intro w hSw
                try dsimp only at hSw
                go_simp
                all_goals with_reducible rfl
              try simp only [Act.put, List.setIfInBounds_toArray, List.set_cons_zero, List.set_cons_succ]
              refine wpAnyH_take (i := 7) (v := ?_) (by simp only [List.getElem?_toArray, List.getElem?_cons_succ, List.getElem?_cons_zero]; rfl) (by kernel_rfl) (by kernel_rfl) (by kernel_rfl) (by exact fun _ _ _ h => h) (Or.inl ⟨by rfl, ?_⟩) (by assumption) ?_
              rotate_left
              · intro w hSw
                try dsimp only at hSw
                go_simp
                all_goals with_reducible rfl
              try simp only [Act.put, List.setIfInBounds_toArray, List.set_cons_zero, List.set_cons_succ]
              refine wpAnyH_take (i := 8) (v := ?_) (by simp only [List.getElem?_toArray, List.getElem?_cons_succ, List.getElem?_cons_zero]; rfl) (by kernel_rfl) (by kernel_rfl) (by kernel_rfl) (by exact fun _ _ _ h => h) (Or.inl ⟨by rfl, ?_⟩) (by assumption) ?_
              rotate_left
              · intro w hSw
                try dsimp only at hSw
                go_simp
                all_goals with_reducible rfl
              try simp only [Act.put, List.setIfInBounds_toArray, List.set_cons_zero, List.set_cons_succ]
              refine wpAnyH_take (i := 9) (v := ?_) (by simp only [List.getElem?_toArray, List.getElem?_cons_succ, List.getElem?_cons_zero]; rfl) (by kernel_rfl) (by kernel_rfl) (by kernel_rfl) (by exact fun _ _ _ h => h) (Or.inl ⟨by rfl, ?_⟩) (by assumption) ?_
              rotate_left
              · intro w hSw
                try dsimp only at hSw
                go_simp
                all_goals with_reducible rfl
              try simp only [Act.put, List.setIfInBounds_toArray, List.set_cons_zero, List.set_cons_succ]
              refine wpAnyH_take (i := 10) (v := ?_) (by simp only [List.getElem?_toArray, List.getElem?_cons_succ, List.getElem?_cons_zero]; rfl) (by kernel_rfl) (by kernel_rfl) (by kernel_rfl) (by exact fun _ _ _ h => h) (Or.inl ⟨by rfl, ?_⟩) (by assumption) ?_
              rotate_left
              · intro w hSw
                try dsimp only at hSw
                go_simp
                all_goals with_reducible rfl
              try simp only [Act.put, List.setIfInBounds_toArray, List.set_cons_zero, List.set_cons_succ]
              refine wpAnyH_take (i := 11) (v := ?_) (by simp only [List.getElem?_toArray, List.getElem?_cons_succ, List.getElem?_cons_zero]; rfl) (by kernel_rfl) (by kernel_rfl) (by kernel_rfl) (by exact fun _ _ _ h => h) (Or.inl ⟨by rfl, ?_⟩) (by assumption) ?_
              rotate_left
              · intro w hSw
                try dsimp only at hSw
                go_simp
                all_goals with_reducible rfl
              try simp only [Act.put, List.setIfInBounds_toArray, List.set_cons_zero, List.set_cons_succ]
              refine wpAnyH_ready (rs := [5]) (by kernel_rfl) (by simp) ?_
              refine AllReadyH.cons (by simp only [List.getElem?_toArray, List.getElem?_cons_succ, List.getElem?_cons_zero]; rfl) (fun K hK => ?_) AllReadyH.nil
              go_simp
              refine HCK.out.mono ?_
              intro ez w3 hse
              obtain ⟨rfl, x3, S3, X3, hzz3⟩ := HZD.out.store hse
              have y3 := hzz3.rf.base.cell0 HY.out
              try simp only
              refine hK.out _ _ (y3) (fun hHeld => ?_)
              clear hK K
              try simp only [Act.put, List.setIfInBounds_toArray, List.set_cons_zero, List.set_cons_succ]
              refine wpAnyH_ready (rs := [6]) (by kernel_rfl) (by simp) ?_
              refine AllReadyH.cons (by simp only [List.getElem?_toArray, List.getElem?_cons_succ, List.getElem?_cons_zero]; rfl) (fun K hK => ?_) AllReadyH.nil
              go_simp
              refine (num_calls _ _).mono ?_
              rintro ez wz ⟨rfl, hwz⟩
              have hwz2 := hwz.symm
              clear hwz
              subst hwz2
              try simp only
              refine hK.out _ _ (y3) (fun hHeld => ?_)
              clear hK K
              try simp only [Act.put, List.setIfInBounds_toArray, List.set_cons_zero, List.set_cons_succ]
              refine wpAnyH_ready (rs := [12]) (by kernel_rfl) (by simp) ?_
              refine AllReadyH.cons (by simp only [List.getElem?_toArray, List.getElem?_cons_succ, List.getElem?_cons_zero]; rfl) (fun K hK => ?_) AllReadyH.nil
              go_simp
              have hrk := rscommit_calls hzz3.rf HFQ.out.2 o.l o.A o.c HXO.out HSM.out HLEN.out HFC.out
              rw [← HKK.out] at hrk
              refine hrk.mono ?_
              intro ez w4 hre
              obtain ⟨rfl, A4, c4, S4, R4, hzz4⟩ := hzz3.ref hre
              simp only at hzz4
              have y4 := hzz4.rf.base.cell0 HY.out
              have z0 : w4.cell? ⟨vs, 0, none⟩ = some (.pointer (some ⟨vw, 0, none⟩)) := by rw [blk_cell hzz4.rf.st]; rfl
              have z2 : w4.cell? ⟨vw, 2, none⟩ = some (.bool tk.sk) := by rw [blk_cell hzz4.rf.wal]; rfl
              try simp only
              refine hK.out _ _ (y4) (fun hHeld => ?_)
              clear hK K
              try simp only [Act.put, List.setIfInBounds_toArray, List.set_cons_zero, List.set_cons_succ]
              refine wpAnyH_imp (S2 := fun w' => w'.cell? ⟨vs, 0, none⟩ = some (.pointer (some ⟨vw, 0, none⟩)) ∧ w'.cell? ⟨vw, 2, none⟩ = some (.bool tk.sk) ∧ w'.cell? (adl.add at_) = some (.slice o.A o.l.length o.c)) (fun w' hw' => hw'.2.2) _ _ _ _ ?_
              have hHeld2 : (fun w' : World => w'.cell? ⟨vs, 0, none⟩ = some (.pointer (some ⟨vw, 0, none⟩)) ∧ w'.cell? ⟨vw, 2, none⟩ = some (.bool tk.sk) ∧ w'.cell? (adl.add at_) = some (.slice o.A o.l.length o.c)) w4 := ⟨z0, z2, y4⟩
              refine wpAnyH_take (i := 13) (v := ?_) (by simp only [List.getElem?_toArray, List.getElem?_cons_succ, List.getElem?_cons_zero]; rfl) (by kernel_rfl) (by kernel_rfl) (by kernel_rfl) (by exact fun _ _ _ h => h) (Or.inl ⟨by rfl, ?_⟩) (by assumption) ?_
              rotate_left
              · intro w hSw
                try dsimp only at hSw
                obtain ⟨hc0, hc2, hc4⟩ := hSw
                go_simp
                all_goals with_reducible rfl
              try simp only [Act.put, List.setIfInBounds_toArray, List.set_cons_zero, List.set_cons_succ]
              refine wpAnyH_take (i := 14) (v := ?_) (by simp only [List.getElem?_toArray, List.getElem?_cons_succ, List.getElem?_cons_zero]; rfl) (by kernel_rfl) (by kernel_rfl) (by kernel_rfl) (by exact fun _ _ _ h => h) (Or.inl ⟨by rfl, ?_⟩) (by assumption) ?_
              rotate_left
              · intro w hSw
                try dsimp only at hSw
                obtain ⟨hc0, hc2, hc4⟩ := hSw
                go_simp
                all_goals with_reducible rfl
              try simp only [Act.put, List.setIfInBounds_toArray, List.set_cons_zero, List.set_cons_succ]
              refine wpAnyH_take (i := 15) (v := ?_) (by simp only [List.getElem?_toArray, List.getElem?_cons_succ, List.getElem?_cons_zero]; rfl) (by kernel_rfl) (by kernel_rfl) (by kernel_rfl) (by exact fun _ _ _ h => h) (Or.inl ⟨by rfl, ?_⟩) (by assumption) ?_
              rotate_left
              · intro w hSw
                try dsimp only at hSw
                obtain ⟨hc0, hc2, hc4⟩ := hSw
                go_simp
                all_goals with_reducible rfl
              try simp only [Act.put, List.setIfInBounds_toArray, List.set_cons_zero, List.set_cons_succ]
              refine wpAnyH_take (i := 17) (v := ?_) (by simp only [List.getElem?_toArray, List.getElem?_cons_succ, List.getElem?_cons_zero]; rfl) (by kernel_rfl) (by kernel_rfl) (by kernel_rfl) (by exact fun _ _ _ h => h) (Or.inl ⟨by rfl, ?_⟩) (by assumption) ?_
              rotate_left
              · intro w hSw
                try dsimp only at hSw
                obtain ⟨hc0, hc2, hc4⟩ := hSw
                go_simp
                all_goals with_reducible rfl
              try simp only [Act.put, List.setIfInBounds_toArray, List.set_cons_zero, List.set_cons_succ]
              refine wpAnyH_take (i := 18) (v := ?_) (by simp only [List.getElem?_toArray, List.getElem?_cons_succ, List.getElem?_cons_zero]; rfl) (by kernel_rfl) (by kernel_rfl) (by kernel_rfl) (by exact fun _ _ _ h => h) (Or.inl ⟨by rfl, ?_⟩) (by assumption) ?_
              rotate_left
              · intro w hSw
                try dsimp only at hSw
                obtain ⟨hc0, hc2, hc4⟩ := hSw
                go_simp
                all_goals with_reducible rfl
              try simp only [Act.put, List.setIfInBounds_toArray, List.set_cons_zero, List.set_cons_succ]
              refine wpAnyH_take (i := 19) (v := ?_) (by simp only [List.getElem?_toArray, List.getElem?_cons_succ, List.getElem?_cons_zero]; rfl) (by kernel_rfl) (by kernel_rfl) (by kernel_rfl) (by exact fun _ _ _ h => h) (Or.inl ⟨by rfl, ?_⟩) (by assumption) ?_
              rotate_left
              · intro w hSw
                try dsimp only at hSw
                obtain ⟨hc0, hc2, hc4⟩ := hSw
                go_simp
                all_goals with_reducible rfl
              try simp only [Act.put, List.setIfInBounds_toArray, List.set_cons_zero, List.set_cons_succ]
              refine wpAnyH_take (i := 20) (v := ?_) (by simp only [List.getElem?_toArray, List.getElem?_cons_succ, List.getElem?_cons_zero]; rfl) (by kernel_rfl) (by kernel_rfl) (by kernel_rfl) (by exact fun _ _ _ h => h) (Or.inl ⟨by rfl, ?_⟩) (by assumption) ?_
              rotate_left
              · intro w hSw
                try dsimp only at hSw
                obtain ⟨hc0, hc2, hc4⟩ := hSw
                go_simp
                all_goals with_reducible rfl
              try simp only [Act.put, List.setIfInBounds_toArray, List.set_cons_zero, List.set_cons_succ]
              refine wpAnyH_take (i := 21) (v := ?_) (by simp only [List.getElem?_toArray, List.getElem?_cons_succ, List.getElem?_cons_zero]; rfl) (by kernel_rfl) (by kernel_rfl) (by kernel_rfl) (by exact fun _ _ _ h => h) (Or.inl ⟨by rfl, ?_⟩) (by assumption) ?_
              rotate_left
              · intro w hSw
                try dsimp only at hSw
                obtain ⟨hc0, hc2, hc4⟩ := hSw
                go_simp
                all_goals with_reducible rfl
              try simp only [Act.put, List.setIfInBounds_toArray, List.set_cons_zero, List.set_cons_succ]
              refine wpAnyH_take (i := 22) (v := ?_) (by simp only [List.getElem?_toArray, List.getElem?_cons_succ, List.getElem?_cons_zero]; rfl) (by kernel_rfl) (by kernel_rfl) (by kernel_rfl) (by exact fun _ _ _ h => h) (Or.inl ⟨by rfl, ?_⟩) (by assumption) ?_
              rotate_left
              · intro w hSw
                try dsimp only at hSw
                obtain ⟨hc0, hc2, hc4⟩ := hSw
                go_simp
                all_goals with_reducible rfl
              try simp only [Act.put, List.setIfInBounds_toArray, List.set_cons_zero, List.set_cons_succ]
              refine wpAnyH_take (i := 23) (v := ?_) (by simp only [List.getElem?_toArray, List.getElem?_cons_succ, List.getElem?_cons_zero]; rfl) (by kernel_rfl) (by kernel_rfl) (by kernel_rfl) (by exact fun _ _ _ h => h) (Or.inl ⟨by rfl, ?_⟩) (by assumption) ?_
              rotate_left
              · intro w hSw
                try dsimp only at hSw
                obtain ⟨hc0, hc2, hc4⟩ := hSw
                go_simp
                all_goals with_reducible rfl
              try simp only [Act.put, List.setIfInBounds_toArray, List.set_cons_zero, List.set_cons_succ]
              refine wpAnyH_ready (rs := [16]) (by kernel_rfl) (by simp) ?_
              refine AllReadyH.cons (by simp only [List.getElem?_toArray, List.getElem?_cons_succ, List.getElem?_cons_zero]; rfl) (fun K hK => ?_) AllReadyH.nil
              go_simp
              refine (ssick_calls hzz4.at_).mono ?_
              rintro ez w5 ⟨rfl, hm5⟩
              try simp only
              refine hK.out _ _ (⟨hm5.cell0 z0, hm5.cell0 z2, hm5.cell0 y4⟩) (fun hHeld => ?_)
              clear hK K
              try simp only [Act.put, List.setIfInBounds_toArray, List.set_cons_zero, List.set_cons_succ]
              refine wpAnyH_take (i := 24) (v := ?_) (by simp only [List.getElem?_toArray, List.getElem?_cons_succ, List.getElem?_cons_zero]; rfl) (by kernel_rfl) (by kernel_rfl) (by kernel_rfl) (by exact fun _ _ _ h => h) (Or.inl ⟨by rfl, ?_⟩) (by assumption) ?_
              rotate_left
              · intro w hSw
                try dsimp only at hSw
                obtain ⟨hc0, hc2, hc4⟩ := hSw
                go_simp
                all_goals with_reducible rfl
              try simp only [Act.put, List.setIfInBounds_toArray, List.set_cons_zero, List.set_cons_succ]
              refine wpAnyH_take (i := 25) (v := ?_) (by simp only [List.getElem?_toArray, List.getElem?_cons_succ, List.getElem?_cons_zero]; rfl) (by kernel_rfl) (by kernel_rfl) (by kernel_rfl) (by exact fun _ _ _ h => h) (Or.inl ⟨by rfl, ?_⟩) (by assumption) ?_
              rotate_left
              · intro w hSw
                try dsimp only at hSw
                obtain ⟨hc0, hc2, hc4⟩ := hSw
                go_simp
                all_goals with_reducible rfl
              try simp only [Act.put, List.setIfInBounds_toArray, List.set_cons_zero, List.set_cons_succ]
              refine wpAnyH_done (by kernel_rfl) ?_ _
              replace hzz4 := hzz4.mod0 hm5
              have ZZ := Lib.hid hzz4
              have ZQ : Hid (Zq tk (2 * j + 2 + 1)) := Lib.hid HQK.out.next
              clear hzz4 HQK HFQ HZD HCK HKK HSM HLEN HFC HXO y0 y0d y3 y4
              have hallZ := sall_calls (ZZ.out.mod0 ((Mod.refl NoneB w5).drew)).at_.mp ((ZQ.out.fit (by omega)).1.small.1)
              have HALLZ := Lib.hid hallZ
              have zc : w5.cell? ⟨vs, 1, none⟩ = some (.slice A4 tk.r.length c4) := by rw [blk_cell ZZ.out.rf.st]; rfl
              have HROW := Lib.hid ZZ.out.rf.own
              clear hallZ
              go_wp2_with fail
              go_region_held3 (fun w' => w'.cell? ⟨vs, 1, none⟩ = some (.slice A4 tk.r.length c4)) (first | go_keep | exact zc6 | exact zc7 | exact zc)
                (first
                  | (go_at_call 20; (with_reducible refine HALLZ.out.mono ?_); rintro ez w6 ⟨A6, c6, rfl, hr6, hm6, _⟩; have zc6 := hm6.cell0 (w := w5.drew) zc)
                  | (go_at_call 19; (with_reducible refine (all_pairs A6 A4 c6 c4 hr6 (HROW.out.mod0 (((Mod.refl NoneB w5).drew).then0 hm6)) rfl).mono ?_); rintro ez w7 ⟨rfl, hm7⟩; have zc7 := hm7.cell0 zc6))
              all_goals
                have hZ7 := ZZ.out.mod0 ((((Mod.refl NoneB w5).drew).then0 hm6).then0 hm7)
                have HZ7 := Lib.hid hZ7
                clear hZ7 hm6 hm7 hr6 zc zc6 zc7 HALLZ HROW
                go_wp2_with fail
                go_roundw
                case rel => exact ⟨j + 1, nx, at_ + 1, tk.d, by go_num, by go_num, by go_num, by omega, by omega, by omega, by omega, .inr ⟨k, g, s, vw, vs, mo, tk, x3, S4, X3, A4, c4, R4, rfl, rfl, rfl, ZQ.out, HZ7.out⟩⟩
                case measure => simp [intOf]; omega
        · have q1 : ¬ ((j : Int) < (l2.length : Int)) := by omega
          obtain ⟨S, R, hT⟩ := hst.zs.2
          have hft := (hzs.fit (by omega)).2
          have hsm := same1_calls NoB7 w wr p q d hT.tw.two ⟨by have := hft.c; omega, by have := hft.l; omega, by have := hft.u; omega⟩
          have HSM := Lib.hid hsm
          clear hsm hT hzs hst hft
          go_wp2_with fail
          refine HSM.out.mono ?_
          rintro e w5 ⟨rfl, hm5⟩
          have hb5 := hb.then0 hm5
          go_wp2_with ((with_reducible refine (awake10_calls _ (htab.mod0 hb5)).mono ?_); rintro e wz ⟨rfl, hmz⟩)
          go_ret
          exact ⟨rfl, hb5.then0 hmz⟩
end Go.Proofs.YtnlmfmceogbomaaGreatDoor
