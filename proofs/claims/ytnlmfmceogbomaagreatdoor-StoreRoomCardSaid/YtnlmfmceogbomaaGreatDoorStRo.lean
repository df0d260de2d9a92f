/- StoreRoom: whatever room there is, what is told as kept is there again, and what is refused is not: the walk of the law. -/
import Derived.Test.YtnlmfmceogbomaaGreatDoorStL
namespace Go.Proofs.YtnlmfmceogbomaaGreatDoor
open Go.RowKit
set_option linter.unusedVariables false

set_option maxHeartbeats 8000000 in
set_option maxRecDepth 100000 in
theorem storeRoom_walk (l0 : List OsV) (a0 : Option Addr) (c0 : Nat) (z1 z2 : Int) (w : World) (rd0 : Rd w 1 a0 l0.length (l0.flatMap encOv)) (ok0 : ∀ x ∈ l0, OsOk w x)
    (wz1 : (Lit.int .u16 z1).wf = true) (wz2 : (Lit.int .u16 z2).wf = true) (htab : TabW w) :
    Calls Tryz.prog 5 #[.slice a0 l0.length c0, .int .u16 z1, .int .u16 z2] w fun e w' => e = .returned (.bool true) ∧ Mod NoneB w w' := by
  have hz1 : 0 ≤ z1 ∧ z1 ≤ 65535 := by simp [Lit.wf] at wz1; exact wz1
  have hz2 : 0 ≤ z2 ∧ z2 ≤ 65535 := by simp [Lit.wf] at wz2; exact wz2
  obtain ⟨hz10, hz11⟩ := hz1
  obtain ⟨hz20, hz21⟩ := hz2
  clear wz1 wz2
  have hhe := heavy7_calls l0 [] a0 none c0 0 w rd0 ok0 (Rd.nil _ _ _) (fun x hx => by cases hx)
  have HHE := Lib.hid hhe
  have OK0 := Lib.hid ok0
  clear hhe ok0
  go_enter Tryz.func5, Tryz.ntmps5
  go_wp2_with fail
  refine HHE.out.mono ?_
  rintro e w1 ⟨b, rfl, hm1, hb1⟩
  clear HHE
  cases b with
  | true =>
    clear hb1
    go_wp2_with ((with_reducible refine (awake10_calls _ (htab.mod0 hm1)).mono ?_); rintro e wz ⟨rfl, hmz⟩)
    go_ret
    exact ⟨rfl, hm1.then0 hmz⟩
  | false =>
    obtain ⟨⟨hl40, hli⟩, _⟩ := hb1 rfl
    have HLI := Lib.hid hli
    clear hb1 hli
    go_wp2_with fail
    refine (Dw.new0 w w1 hm1 _).mono ?_
    rintro e w2 ⟨p, rfl, hdw⟩
    obtain ⟨S1, d1, sp1, hq1, _, hc1⟩ := sp_new hdw
    clear hdw hm1
    go_wp2_with fail
    refine (sp1.open htab (by omega) (by omega) (by omega) (Nat.zero_le _) (fun l h => by cases h) _).mono ?_
    obtain ⟨cap, hcap⟩ : ∃ cap, cap = d1.p.cap := ⟨_, rfl⟩
    obtain ⟨hoe, hqk, hr0⟩ := Qk.open hq1 hcap.symm hc1 sp1.on
    rintro e w3 (⟨q, g, s, x0, S0, X0, rfl, ho⟩ | ⟨h0, _⟩)
    case inr => exact absurd hoe h0
    have hst : ∃ (mo : Int) (t : St) (x : Ix) (S X : Nat → Prop), Kw w w3 p q g s mo t x S X (.slice none 0 0) [] ∧ Qk cap t 0 ∧ t.r = [] := ⟨_, _, _, _, _, Kw.nil ho.so.at_, hqk, hr0⟩
    clear ho hqk hr0 hoe sp1 hq1 hc1 hcap
    obtain ⟨mo, t0, x1, S2, X2, hK, hQ, hR⟩ := hst
    have HK := Lib.hid hK
    have HQ := Lib.hid hQ
    have HR := Lib.hid hR
    clear hK hQ hR
    go_wp2_with ((with_reducible refine (num_calls _ _).mono ?_); rintro ez wz ⟨rfl, hwz⟩; subst hwz)
    go_loopw [11, 12] (fun v i wr => ∃ (j : Nat) (t : St) (x : Ix) (S X : Nat → Prop) (A : Option Addr) (c : Nat), v = .slice A t.r.length c ∧ i = .int .i64 j ∧ j ≤ l0.length ∧ Kw w wr p q g s mo t x S X (.slice A t.r.length c) t.r ∧ Qk cap t j) (fun _ i _ => l0.length - (intOf i).toNat)
    case atStart => exact ⟨0, t0, x1, S2, X2, none, 0, by rw [HR.out]; rfl, rfl, by omega, by rw [HR.out]; exact HK.out, HQ.out⟩
    case round =>
      clear HK HQ HR
      obtain ⟨j, t, x, S, X, A, c, rfl, rfl, hj, hK, hQ⟩ := hrel
      by_cases hlt : j < l0.length
      · obtain ⟨ad, hal, h0, _⟩ := Rd.elem (f := encOv) (fun _ => rfl) rd0 (by decide) j hlt
        subst hal
        have y0 := h0 _ rfl
        rw [Nat.mul_one] at y0
        have hxo := OK0.out l0[j] (List.getElem_mem _)
        have hxl := HLI.out l0[j] (List.getElem_mem _)
        obtain ⟨o, ho⟩ : ∃ o, o = l0[j] := ⟨_, rfl⟩
        rw [← ho] at y0 hxo hxl
        have hfi : Fine o.l := ⟨hxl.1, hxl.2⟩
        have hwo := hfi.wO
        have hwt := hQ.w
        have hct := hQ.c
        have hcm := hK.commit hQ.inv htab (by omega) (Nat.le_refl _) (by omega) o hxo hfi.wt (by omega)
        have hqc := hQ.commit (by omega) mo hfi
        obtain ⟨k, hk⟩ : ∃ k, k = commitS mo t o.l := ⟨_, rfl⟩
        rw [← hk] at hcm hqc
        obtain ⟨tk, e5⟩ := k
        have y1 := hK.base.cell0 y0
        have hlr := wS_len t.r
        have hlo := len_wt o.l
        have hlo2 := hfi.wt
        have HCM := Lib.hid hcm
        have HQC := Lib.hid hqc
        have HXO := Lib.hid hxo
        have HY := Lib.hid y0
        clear hcm hqc hk hxo hxl hfi h0 y0 ho hK hwo hct
        go_wp2_with fail
        refine HCM.out.mono ?_
        rintro ez w4 ⟨rfl, x', S', X', K'⟩
        simp only at K'
        have hb4 := K'.base
        have hro := HXO.out.mod0 hb4
        have hrd := own_rd K'.own
        have y2 := hb4.cell0 HY.out
        have HKK := Lib.hid K'
        clear K'
        obtain ⟨hq1, hok, hno, he, hwr⟩ := HQC.out
        simp only at hq1 hok hno he hwr
        clear HCM HQC
        by_cases h0 : e5 = 0
        · subst h0
          obtain ⟨_, hkr⟩ := hok rfl
          have hap := rapply_calls t.r o.l A o.A c o.c w4 hrd hro (by omega)
          rw [← hkr] at hap
          have HAP := Lib.hid hap
          have HQ1 := Lib.hid hq1
          clear hap hkr hok hno he hwr hq1 hrd hro
          go_wp2_with (first
            | ((with_reducible refine (num_calls _ _).mono ?_); rintro ez wz ⟨rfl, hwz⟩; have hwz2 := hwz.symm; clear hwz; subst hwz2)
            | ((with_reducible refine HAP.out.mono ?_); rintro ez w5 ⟨v', rfl, hov, hm5⟩))
          have K5 := HKK.out.turn hm5 hov
          obtain ⟨A5, c5, rfl, _, _, _⟩ := hov.own.out
          have HK5 := Lib.hid K5
          clear K5 hov hm5 HKK HAP
          go_wp2_with fail
          go_roundw
          case rel => exact ⟨j + 1, tk, x', S', X', A5, c5, rfl, by go_num, by omega, HK5.out, HQ1.out⟩
          case measure => simp only [intOf]; go_num
        · have hkr := hno h0
          have q0 : (((e5 : Nat) : Int) != 0) = true := bne_iff_ne.mpr (by omega)
          have q0' : (((e5 : Nat) : Int) == 0) = false := beq_eq_false_iff_ne.mpr (by omega)
          have hrt := rrightops_calls o.l o.A o.c w4 hro
          have HQ1 := Lib.hid hq1
          by_cases hr : rightO o.l
          · have e55 : e5 = 5 := by
              have h1 := he hr
              split at h1
              · exact h1
              · exact absurd h1 h0
            subst e55
            rw [decide_eq_true hr] at hrt
            have HRT := Lib.hid hrt
            have HKR := Lib.hid hkr
            clear hrt hkr hok hno he hwr hq1 hrd hro hr
            go_wp2_with (first
              | ((with_reducible refine (num_calls _ _).mono ?_); rintro ez wz ⟨rfl, hwz⟩; have hwz2 := hwz.symm; clear hwz; subst hwz2)
              | ((with_reducible refine HRT.out.mono ?_); rintro ez w5 ⟨rfl, hm5⟩))
            go_roundw
            case rel => exact ⟨j + 1, tk, x', S', X', A, c, by rw [HKR.out], by go_num, by omega, by rw [HKR.out]; exact HKK.out.mod0 hm5, HQ1.out⟩
            case measure => simp only [intOf]; go_num
          · rw [decide_eq_false hr] at hrt
            have HRT := Lib.hid hrt
            have HKR := Lib.hid hkr
            clear hrt hkr hok hno he hwr hq1 hrd hro hr
            go_wp2_with (first
              | ((with_reducible refine (num_calls _ _).mono ?_); rintro ez wz ⟨rfl, hwz⟩; have hwz2 := hwz.symm; clear hwz; subst hwz2)
              | ((with_reducible refine HRT.out.mono ?_); rintro ez w5 ⟨rfl, hm5⟩))
            go_roundw
            case rel => exact ⟨j + 1, tk, x', S', X', A, c, by rw [HKR.out], by go_num, by omega, by rw [HKR.out]; exact HKK.out.mod0 hm5, HQ1.out⟩
            case measure => simp only [intOf]; go_num
      · have hct := hQ.c
        have hwt := hQ.w
        have hlr := wS_len t.r
        have hre := hK.restart0 (hQ.inv.shut.fit (by omega) (Nat.le_refl _) (by omega)) 100000
        have hsh := hQ.inv.shut.restart ⟨100000, [], 0, false, []⟩
        have hq4 := Quiet.restart t.d 100000 []
        have hc4 : (restartD t.d ⟨100000, [], 0, false, []⟩).c = 0 := rfl
        obtain ⟨d4, hd4⟩ : ∃ d4, d4 = restartD t.d ⟨100000, [], 0, false, []⟩ := ⟨_, rfl⟩
        rw [← hd4] at hre hsh hq4 hc4
        have HRE := Lib.hid hre
        have HSH := Lib.hid hsh
        have HQ4 := Lib.hid hq4
        clear hre hsh hq4 hd4 hK
        have q1 : ¬ ((j : Int) < (l0.length : Int)) := by omega
        go_wp2_with fail
        refine HRE.out.mono ?_
        rintro ez w4 ⟨rfl, S4, h4, hmp4, hSX4, hs4, hown4, hfar4⟩
        have sp4 : Sp w w4 p d4 S4 t.r none (26100 * j) 1048584 := ⟨h4, HSH.out⟩
        have HM4 := Lib.hid hmp4
        have HSX4 := Lib.hid hSX4
        have HOW4 := Lib.hid hown4
        have HFAR4 := Lib.hid hfar4
        clear HRE hmp4 hSX4 hown4 hfar4 h4
        go_wp2_with fail
        refine (sp4.open htab (by omega) (Nat.le_refl _) (by omega) (by omega) (fun l h => by cases h) 50).mono ?_
        rintro ez w5 (⟨q2, g2, s2, x5, S5, X5, rfl, ho⟩ | ⟨h0, _⟩)
        case inr => exact absurd (sp4.on.opens.2.2.2.1 HQ4.out).1 h0
        have hr5 : (openS d4).r = t.r := by
          rcases ho.map with k | ⟨l, h, _⟩
          · exact k
          · cases h
        have hall2 := sall_calls ho.so.at_.mp (by rw [hr5]; omega)
        rw [hr5] at hall2
        have hmp5 := HM4.out.mod ho.mod hs4 (fun k hk hs => HSX4.out k hs hk)
        have hown5 := own_rd (HOW4.out.mod ho.mod HFAR4.out)
        have hall1 : ∀ W, Mod NoneB w5 W → Calls Tryz.prog 20 #[.pointer (some ⟨s, 0, none⟩)] W (AllE W t.r) := fun W hm => sall_calls (hmp5.mod0 hm) (by omega)
        have hb5 := ho.so.at_.lw.base
        have HA1 := Lib.hid hall1
        have HA2 := Lib.hid hall2
        have HB5 := Lib.hid hb5
        have HO5 := Lib.hid hown5
        clear hall1 hall2 hb5 hown5 hmp5 ho sp4 hr5 HSH HQ4 HM4 HSX4 HOW4 HFAR4
        go_wp2_with (first
          | ((with_reducible refine (num_calls _ _).mono ?_); rintro ez wz ⟨rfl, hwz⟩; have hwz2 := hwz.symm; clear hwz; subst hwz2)
          | ((with_reducible refine HA2.out.mono ?_); rintro ez w6 ⟨A6, c6, rfl, hr6, hm6, _⟩)
          | ((with_reducible refine (all_pairs A6 A c6 c hr6 (HO5.out.mod0 hm6) rfl).mono ?_); rintro ez w7 ⟨rfl, hm7⟩)
          | ((with_reducible refine (HA1.out w7 (hm6.then0 hm7)).mono ?_); rintro ez w8 ⟨A8, c8, rfl, hr8, hm8, _⟩)
          | ((with_reducible refine (all_pairs A8 A c8 c hr8 (HO5.out.mod0 ((hm6.then0 hm7).then0 hm8)) rfl).mono ?_); rintro ez w9 ⟨rfl, hm9⟩)
          | ((with_reducible refine (awake10_calls _ (htab.mod0 ((((HB5.out.then0 hm6).then0 hm7).then0 hm8).then0 hm9))).mono ?_); rintro ez wa ⟨rfl, hma⟩))
        go_ret
        exact ⟨rfl, ((((HB5.out.then0 hm6).then0 hm7).then0 hm8).then0 hm9).then0 hma⟩
end Go.Proofs.YtnlmfmceogbomaaGreatDoor

