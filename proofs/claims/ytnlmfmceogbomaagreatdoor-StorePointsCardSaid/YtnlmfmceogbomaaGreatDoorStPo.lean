/- StorePoints: a checkpoint changes no answer, empties the log, and what it keeps is there again: the walk of the law. -/
import Derived.Test.YtnlmfmceogbomaaGreatDoorStL
namespace Go.Proofs.YtnlmfmceogbomaaGreatDoor
open Go.RowKit
set_option linter.unusedVariables false

/-- A read of the disk beside the store. -/
def RdE (w : World) (b : List UInt8) (ec : Nat) (e : Ending) (w' : World) : Prop := ∃ A c, e = .returned (.tuple #[.slice A b.length c, .int .i64 ec]) ∧ Rd w' 1 A b.length (encB b) ∧ Mod NoneB w w' ∧ ∀ ad, A = some ad → w.heap.size ≤ ad.block
theorem Lw.read {w0 w : World} {p : Nat} {d : Dk} {S : Nat → Prop} (h : Lw w0 w p d S) (hf : FitL d) (n : ByteArray) : Calls Tryz.prog 25 #[.pointer (some ⟨p, 0, none⟩), .string n] w (RdE w (readD d n).1 (readD d n).2) := by
  refine (read_calls w p d S n h.isD (by have := hf.l; omega) (by have := hf.u; omega)).mono ?_
  rintro e w' ⟨v, rfl, ho, hm, hn⟩
  obtain ⟨A, c, rfl, _, _, hr⟩ := ho.out
  exact ⟨A, c, rfl, hr, hm, fun ad had => by subst had; exact hn ad.block rfl⟩

set_option maxHeartbeats 16000000 in
set_option maxRecDepth 100000 in
theorem storePoints_walk (l0 l1 : List OsV) (a0 a1 : Option Addr) (c0 c1 : Nat) (w : World) (rd0 : Rd w 1 a0 l0.length (l0.flatMap encOv)) (ok0 : ∀ x ∈ l0, OsOk w x) (rd1 : Rd w 1 a1 l1.length (l1.flatMap encOv)) (ok1 : ∀ x ∈ l1, OsOk w x) (htab : TabW w) :
    Calls Tryz.prog 7 #[.slice a0 l0.length c0, .slice a1 l1.length c1] w fun e w' => e = .returned (.bool true) ∧ Mod NoneB w w' := by
  have hhe := heavy7_calls l0 [] a0 none c0 0 w rd0 ok0 (Rd.nil _ _ _) (fun x hx => by cases hx)
  have hhe1 : ∀ W, Mod NoneB w W → Calls Tryz.prog 11 #[.slice a1 l1.length c1, .slice none ([] : List PlV).length 0] W (HeavyE l1 [] W) := fun W hm => heavy7_calls l1 [] a1 none c1 0 W (rd1.mod0 hm) (fun x hx => (ok1 x hx).mod0 hm) (Rd.nil _ _ _) (fun x hx => by cases hx)
  have HHE := Lib.hid hhe
  have HHE1 := Lib.hid hhe1
  have OK0 := Lib.hid ok0
  have OK1 := Lib.hid ok1
  clear hhe hhe1 ok0 ok1
  go_enter Tryz.func7, Tryz.ntmps7
  go_wp2_with fail
  refine HHE.out.mono ?_
  rintro e w1 ⟨b, rfl, hm1, hb1⟩
  clear HHE
  cases b with
  | true =>
    clear hb1
    go_wp2_with ((with_reducible refine (awake10_calls _ (htab.mod0 hm1)).mono ?_); rintro e wz ⟨rfl, hmz⟩)
    go_ret
    exact ⟨rfl, hm1.then0 hmz⟩
  | false =>
    obtain ⟨⟨hl40, hli⟩, _⟩ := hb1 rfl
    have HLI := Lib.hid hli
    clear hb1 hli
    go_wp2_with fail
    refine (HHE1.out w1 hm1).mono ?_
    rintro e w1' ⟨b, rfl, hm1', hb1⟩
    have hm1 := hm1.then0 hm1'
    clear HHE1 hm1'
    cases b with
    | true =>
      clear hb1
      go_wp2_with ((with_reducible refine (awake10_calls _ (htab.mod0 hm1)).mono ?_); rintro e wz ⟨rfl, hmz⟩)
      go_ret
      exact ⟨rfl, hm1.then0 hmz⟩
    | false =>
    obtain ⟨⟨hl41, hli1⟩, _⟩ := hb1 rfl
    have HLI1 := Lib.hid hli1
    clear hb1 hli1
    go_wp2_with fail
    refine (Dw.new0 w w1' hm1 _).mono ?_
    rintro e w2 ⟨p, rfl, hdw⟩
    obtain ⟨S1, d1, sp1, hq1, hcap, hc1⟩ := sp_new hdw
    clear hdw hm1
    go_wp2_with fail
    refine (sp1.open htab (by omega) (by omega) (by omega) (Nat.zero_le _) (fun l h => by cases h) _).mono ?_
    obtain ⟨hoe, hqk, hr0⟩ := Qk.open hq1 hcap hc1 sp1.on
    rintro e w3 (⟨q, g, s, x0, S0, X0, rfl, ho⟩ | ⟨h0, _⟩)
    case inr => exact absurd hoe h0
    have hst : ∃ (mo : Int) (t : St) (x : Ix) (S X : Nat → Prop), Kw w w3 p q g s mo t x S X (.slice none 0 0) [] ∧ Qk 1073741824 t 0 ∧ t.r = [] := ⟨_, _, _, _, _, Kw.nil ho.so.at_, hqk, hr0⟩
    clear ho hqk hr0 hoe sp1 hq1 hc1 hcap
    obtain ⟨mo, t0, x1, S2, X2, hK, hQ, hR⟩ := hst
    have HK := Lib.hid hK
    have HQ := Lib.hid hQ
    have HR := Lib.hid hR
    clear hK hQ hR
    go_wp2_with ((with_reducible refine (num_calls _ _).mono ?_); rintro ez wz ⟨rfl, hwz⟩; have hwz2 := hwz.symm; clear hwz; subst hwz2)
    go_loopw [8, 9] (fun v i wr => ∃ (j : Nat) (t : St) (x : Ix) (S X : Nat → Prop) (A : Option Addr) (c : Nat), v = .slice A t.r.length c ∧ i = .int .i64 j ∧ j ≤ l0.length ∧ Kw w wr p q g s mo t x S X (.slice A t.r.length c) t.r ∧ Qk 1073741824 t (j)) (fun _ i _ => l0.length - (intOf i).toNat)
    case atStart => exact ⟨0, t0, x1, S2, X2, none, 0, by rw [HR.out]; rfl, rfl, by omega, by rw [HR.out]; exact HK.out, HQ.out⟩
    case round =>
      clear HK HQ HR
      obtain ⟨j, t, x, S, X, A, c, rfl, rfl, hj, hK, hQ⟩ := hrel
      by_cases hlt : j < l0.length
      · obtain ⟨ad, hal, h0, _⟩ := Rd.elem (f := encOv) (fun _ => rfl) rd0 (by decide) j hlt
        subst hal
        have y0 := h0 _ rfl
        rw [Nat.mul_one] at y0
        have hxo := OK0.out l0[j] (List.getElem_mem _)
        have hxl := HLI.out l0[j] (List.getElem_mem _)
        obtain ⟨o, ho⟩ : ∃ o, o = l0[j] := ⟨_, rfl⟩
        rw [← ho] at y0 hxo hxl
        have hfi : Fine o.l := ⟨hxl.1, hxl.2⟩
        have hwo := hfi.wO
        have hwt := hQ.w
        have hct := hQ.c
        have hcm := hK.commit hQ.inv htab (by omega) (Nat.le_refl _) (by omega) o hxo hfi.wt (by omega)
        have hqc := hQ.commit (by omega) mo hfi
        obtain ⟨k, hk⟩ : ∃ k, k = commitS mo t o.l := ⟨_, rfl⟩
        rw [← hk] at hcm hqc
        obtain ⟨tk, e5⟩ := k
        have y1 := hK.base.cell0 y0
        have hlr := wS_len t.r
        have hlo := len_wt o.l
        have hlo2 := hfi.wt
        have HCM := Lib.hid hcm
        have HQC := Lib.hid hqc
        have HXO := Lib.hid hxo
        have HY := Lib.hid y0
        clear hcm hqc hk hxo hxl hfi h0 y0 ho hK hwo hct
        go_wp2_with fail
        refine HCM.out.mono ?_
        rintro ez w4 ⟨rfl, x', S', X', K'⟩
        simp only at K'
        have hb4 := K'.base
        have hro := HXO.out.mod0 hb4
        have hrd := own_rd K'.own
        have y2 := hb4.cell0 HY.out
        have HKK := Lib.hid K'
        clear K'
        obtain ⟨hq1, hok, hno, hee, hww⟩ := HQC.out
        simp only at hq1 hok hno
        clear HCM HQC hee hww
        go_wp2_with fail
        by_cases h0 : e5 = 0
        · obtain ⟨hrr, hkr⟩ := hok h0
          clear hrr
          have q0 : (((e5 : Nat) : Int) == 0) = true := by rw [h0]; rfl
          have q0' : (((e5 : Nat) : Int) != 0) = false := by rw [h0]; rfl
          have hap := rapply_calls t.r o.l A o.A c o.c w4 hrd hro (by omega)
          rw [← hkr] at hap
          have HAP := Lib.hid hap
          have HQ1 := Lib.hid hq1
          clear hap hkr hok hno hq1 hrd hro
          refine (num_calls _ _).mono ?_
          rintro ez wz ⟨rfl, hwz⟩
          have hwz2 := hwz.symm
          clear hwz
          subst hwz2
          go_wp2_with fail
          refine HAP.out.mono ?_
          rintro ez w5 ⟨v', rfl, hov, hm5⟩
          have K5 := HKK.out.turn hm5 hov
          obtain ⟨A5, c5, rfl, _, _, _⟩ := hov.own.out
          have HK5 := Lib.hid K5
          clear K5 hov hm5 HKK HAP
          go_wp2_with fail
          go_roundw
          case rel => exact ⟨j + 1, tk, x', S', X', A5, c5, rfl, by go_num, by omega, HK5.out, HQ1.out⟩
          case measure => simp only [intOf]; go_num
        · have hkr := hno h0
          have q0 : (((e5 : Nat) : Int) != 0) = true := bne_iff_ne.mpr (by omega)
          have q0' : (((e5 : Nat) : Int) == 0) = false := beq_eq_false_iff_ne.mpr (by omega)
          have HQ1 := Lib.hid hq1
          have HKR := Lib.hid hkr
          clear hkr hok hno hq1 hrd hro
          refine (num_calls _ _).mono ?_
          rintro ez wz ⟨rfl, hwz⟩
          have hwz2 := hwz.symm
          clear hwz
          subst hwz2
          go_wp2_with fail
          go_roundw
          case rel => exact ⟨j + 1, tk, x', S', X', A, c, by rw [HKR.out], by go_num, by omega, by rw [HKR.out]; exact HKK.out, HQ1.out⟩
          case measure => simp only [intOf]; go_num
      · have hjl : j = l0.length := by omega
        subst hjl
        have hct := hQ.c
        have hwt := hQ.w
        have hlr := wS_len t.r
        have hck := hK.check hQ.inv (by omega) (Nat.le_refl _) (by omega) (by omega)
        have hqk := hQ.check (by omega)
        obtain ⟨hk0, f, f1, f2, f3, f4, f5⟩ := hqk.room (by omega)
        have hkr := hqk.r
        have hq1 := hqk.qk
        obtain ⟨k, hk⟩ : ∃ k, k = checkS t := ⟨_, rfl⟩
        rw [← hk] at hck hk0 f1 f5 hkr hq1
        obtain ⟨tk, e5⟩ := k
        simp only at hk0 f1 f5 hkr hq1
        subst hk0
        have hfit := hq1.inv.shut.fit (by omega) (Nat.le_refl _) (by have := hq1.c; omega)
        have hrl : readD tk.d sLog = ([], 0) := by rw [read_log f1 hq1.quiet.dn, f2]
        obtain ⟨y, hy⟩ : ∃ y, y = (tableR t.r).1 := ⟨_, rfl⟩
        rw [← hy] at f3
        have hrs : readD tk.d sSnap = (y, 0) := by rw [read_snap f1 hq1.quiet.dn, f3]
        have HCK := Lib.hid hck
        have HKR := Lib.hid hkr
        have HQ1 := Lib.hid hq1
        have HFIT := Lib.hid hfit
        have HRL := Lib.hid hrl
        have HRS := Lib.hid hrs
        clear hck hqk hkr hq1 hk f1 f2 f3 f4 f5 hfit hrl hrs hy hK
        go_wp2_with fail
        refine HCK.out.mono ?_
        rintro ez w4 ⟨rfl, x', S', X', K4⟩
        simp only at K4
        have hread : ∀ W, Mod NoneB w4 W → Calls Tryz.prog 25 #[.pointer (some ⟨p, 0, none⟩), .string ⟨#[108, 111, 103]⟩] W (RdE W [] 0) := fun W hm => by
          have h := (K4.at_.lw.mod0 hm).read HFIT.out sLog
          rw [HRL.out] at h
          exact h
        have hread2 : ∀ W, Mod NoneB w4 W → Calls Tryz.prog 25 #[.pointer (some ⟨p, 0, none⟩), .string ⟨#[115, 110, 97, 112]⟩] W (RdE W y 0) := fun W hm => by
          have h := (K4.at_.lw.mod0 hm).read HFIT.out sSnap
          rw [HRS.out] at h
          exact h
        have hall : ∀ W, Mod NoneB w4 W → Calls Tryz.prog 20 #[.pointer (some ⟨s, 0, none⟩)] W (AllE W t.r) := fun W hm => by
          have h := sall_calls (K4.at_.mp.mod0 hm) (by rw [HKR.out]; omega)
          rw [HKR.out] at h
          exact h
        have hown := own_rd K4.own
        have HRD1 := Lib.hid hread
        have HRD2 := Lib.hid hread2
        have HALL := Lib.hid hall
        have HOWN := Lib.hid hown
        have HK4 := Lib.hid K4
        clear hread hread2 hall hown K4 HCK
        go_wp2_with (first
          | ((with_reducible refine (num_calls _ _).mono ?_); rintro ez wz ⟨rfl, hwz⟩; have hwz2 := hwz.symm; clear hwz; subst hwz2)
          | ((with_reducible refine (HRD1.out w4 (Mod.refl _ _)).mono ?_); rintro ez w5 ⟨A5, c5, rfl, _, hm5, _⟩)
          | ((with_reducible refine (HRD2.out w5 hm5).mono ?_); rintro ez w6 ⟨A6, c6, rfl, _, hm6, _⟩)
          | ((with_reducible refine (HALL.out w6 (hm5.then0 hm6)).mono ?_); rintro ez w7 ⟨A7, c7, rfl, hr7, hm7, _⟩)
          | ((with_reducible refine (all_pairs A7 A c7 c hr7 (HOWN.out.mod0 ((hm5.then0 hm6).then0 hm7)) rfl).mono ?_); rintro ez w8 ⟨rfl, hm8⟩))
        have hm48 := ((hm5.then0 hm6).then0 hm7).then0 hm8
        have hK8 := HK4.out.mod0 hm48
        have HK8 := Lib.hid hK8
        clear hK8 hm48 hm5 hm6 hm7 hm8 hr7 HRD1 HRD2 HALL HOWN HK4
        have HK := HK8
        have HQ := HQ1
        have HR := HKR
        go_loopw [8, 15] (fun v i wr => ∃ (j : Nat) (t : St) (x : Ix) (S X : Nat → Prop) (A : Option Addr) (c : Nat), v = .slice A t.r.length c ∧ i = .int .i64 j ∧ j ≤ l1.length ∧ Kw w wr p q g s mo t x S X (.slice A t.r.length c) t.r ∧ Qk 1073741824 t (l0.length + 1 + j)) (fun _ i _ => l1.length - (intOf i).toNat)
        case atStart => exact ⟨0, tk, x', S', X', A, c, by rw [HR.out], rfl, by omega, by rw [HR.out]; exact HK.out, HQ.out⟩
        case round =>
          clear HK HQ HR
          obtain ⟨j, t, x, S, X, A, c, rfl, rfl, hj, hK, hQ⟩ := hrel
          by_cases hlt : j < l1.length
          · obtain ⟨ad, hal, h0, _⟩ := Rd.elem (f := encOv) (fun _ => rfl) rd1 (by decide) j hlt
            subst hal
            have y0 := h0 _ rfl
            rw [Nat.mul_one] at y0
            have hxo := OK1.out l1[j] (List.getElem_mem _)
            have hxl := HLI1.out l1[j] (List.getElem_mem _)
            obtain ⟨o, ho⟩ : ∃ o, o = l1[j] := ⟨_, rfl⟩
            rw [← ho] at y0 hxo hxl
            have hfi : Fine o.l := ⟨hxl.1, hxl.2⟩
            have hwo := hfi.wO
            have hwt := hQ.w
            have hct := hQ.c
            have hcm := hK.commit hQ.inv htab (by omega) (Nat.le_refl _) (by omega) o hxo hfi.wt (by omega)
            have hqc := hQ.commit (by omega) mo hfi
            obtain ⟨k, hk⟩ : ∃ k, k = commitS mo t o.l := ⟨_, rfl⟩
            rw [← hk] at hcm hqc
            obtain ⟨tk, e5⟩ := k
            have y1 := hK.base.cell0 y0
            have hlr := wS_len t.r
            have hlo := len_wt o.l
            have hlo2 := hfi.wt
            have HCM := Lib.hid hcm
            have HQC := Lib.hid hqc
            have HXO := Lib.hid hxo
            have HY := Lib.hid y0
            clear hcm hqc hk hxo hxl hfi h0 y0 ho hK hwo hct
            go_wp2_with fail
            refine HCM.out.mono ?_
            rintro ez w4 ⟨rfl, x', S', X', K'⟩
            simp only at K'
            have hb4 := K'.base
            have hro := HXO.out.mod0 hb4
            have hrd := own_rd K'.own
            have y2 := hb4.cell0 HY.out
            have HKK := Lib.hid K'
            clear K'
            obtain ⟨hq1, hok, hno, hee, hww⟩ := HQC.out
            simp only at hq1 hok hno
            clear HCM HQC hee hww
            go_wp2_with fail
            by_cases h0 : e5 = 0
            · obtain ⟨hrr, hkr⟩ := hok h0
              clear hrr
              have q0 : (((e5 : Nat) : Int) == 0) = true := by rw [h0]; rfl
              have q0' : (((e5 : Nat) : Int) != 0) = false := by rw [h0]; rfl
              have hap := rapply_calls t.r o.l A o.A c o.c w4 hrd hro (by omega)
              rw [← hkr] at hap
              have HAP := Lib.hid hap
              have HQ1 := Lib.hid hq1
              clear hap hkr hok hno hq1 hrd hro
              refine (num_calls _ _).mono ?_
              rintro ez wz ⟨rfl, hwz⟩
              have hwz2 := hwz.symm
              clear hwz
              subst hwz2
              go_wp2_with fail
              refine HAP.out.mono ?_
              rintro ez w5 ⟨v', rfl, hov, hm5⟩
              have K5 := HKK.out.turn hm5 hov
              obtain ⟨A5, c5, rfl, _, _, _⟩ := hov.own.out
              have HK5 := Lib.hid K5
              clear K5 hov hm5 HKK HAP
              go_wp2_with fail
              go_roundw
              case rel => exact ⟨j + 1, tk, x', S', X', A5, c5, rfl, by go_num, by omega, HK5.out, HQ1.out⟩
              case measure => simp only [intOf]; go_num
            · have hkr := hno h0
              have q0 : (((e5 : Nat) : Int) != 0) = true := bne_iff_ne.mpr (by omega)
              have q0' : (((e5 : Nat) : Int) == 0) = false := beq_eq_false_iff_ne.mpr (by omega)
              have HQ1 := Lib.hid hq1
              have HKR := Lib.hid hkr
              clear hkr hok hno hq1 hrd hro
              refine (num_calls _ _).mono ?_
              rintro ez wz ⟨rfl, hwz⟩
              have hwz2 := hwz.symm
              clear hwz
              subst hwz2
              go_wp2_with fail
              go_roundw
              case rel => exact ⟨j + 1, tk, x', S', X', A, c, by rw [HKR.out], by go_num, by omega, by rw [HKR.out]; exact HKK.out, HQ1.out⟩
              case measure => simp only [intOf]; go_num
          · have hct := hQ.c
            have hwt := hQ.w
            have hlr := wS_len t.r
            have hre := hK.restart0 (hQ.inv.shut.fit (by omega) (Nat.le_refl _) (by omega)) 1073741824
            have hsh := hQ.inv.shut.restart ⟨1073741824, [], 0, false, []⟩
            have hq4 := Quiet.restart t.d 1073741824 []
            have hc4 : (restartD t.d ⟨1073741824, [], 0, false, []⟩).c = 0 := rfl
            obtain ⟨d4, hd4⟩ : ∃ d4, d4 = restartD t.d ⟨1073741824, [], 0, false, []⟩ := ⟨_, rfl⟩
            rw [← hd4] at hre hsh hq4 hc4
            have HRE := Lib.hid hre
            have HSH := Lib.hid hsh
            have HQ4 := Lib.hid hq4
            clear hre hsh hq4 hd4 hK
            have q1 : ¬ ((j : Int) < (l1.length : Int)) := by omega
            go_wp2_with fail
            refine HRE.out.mono ?_
            rintro ez w4 ⟨rfl, S4, h4, hmp4, hSX4, hs4, hown4, hfar4⟩
            have sp4 : Sp w w4 p d4 S4 t.r none (26100 * (l0.length + 1 + j)) 1048584 := ⟨h4, HSH.out⟩
            have HOW4 := Lib.hid hown4
            have HFAR4 := Lib.hid hfar4
            clear HRE hmp4 hSX4 hs4 hown4 hfar4 h4
            go_wp2_with fail
            refine (sp4.open htab (by omega) (Nat.le_refl _) (by omega) (by omega) (fun l h => by cases h) 5).mono ?_
            rintro ez w5 (⟨q2, g2, s2, x5, S5, X5, rfl, ho⟩ | ⟨h0, _⟩)
            case inr => exact absurd (sp4.on.opens.2.2.2.1 HQ4.out).1 h0
            have hr5 : (openS d4).r = t.r := by
              rcases ho.map with k | ⟨l, h, _⟩
              · exact k
              · cases h
            have hall2 := sall_calls ho.so.at_.mp (by rw [hr5]; omega)
            rw [hr5] at hall2
            have hown5 := own_rd (HOW4.out.mod ho.mod HFAR4.out)
            have hb5 := ho.so.at_.lw.base
            have HA2 := Lib.hid hall2
            have HB5 := Lib.hid hb5
            have HO5 := Lib.hid hown5
            clear hall2 hb5 hown5 ho sp4 hr5 HSH HQ4 HOW4 HFAR4
            go_wp2_with (first
              | ((with_reducible refine (num_calls _ _).mono ?_); rintro ez wz ⟨rfl, hwz⟩; have hwz2 := hwz.symm; clear hwz; subst hwz2)
              | ((with_reducible refine HA2.out.mono ?_); rintro ez w6 ⟨A6, c6, rfl, hr6, hm6, _⟩)
              | ((with_reducible refine (all_pairs A6 A c6 c hr6 (HO5.out.mod0 hm6) rfl).mono ?_); rintro ez w7 ⟨rfl, hm7⟩)
              | ((with_reducible refine (awake10_calls _ (htab.mod0 ((HB5.out.then0 hm6).then0 hm7))).mono ?_); rintro ez wa ⟨rfl, hma⟩))
            go_ret
            exact ⟨rfl, ((HB5.out.then0 hm6).then0 hm7).then0 hma⟩
end Go.Proofs.YtnlmfmceogbomaaGreatDoor

