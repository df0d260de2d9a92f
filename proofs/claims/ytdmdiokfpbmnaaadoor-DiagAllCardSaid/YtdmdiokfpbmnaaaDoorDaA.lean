/- DiagAll: the order of diagnostics, their bytes, the diagnostics of any bytes, and texts, are the document's: the walk of the law. -/
import Derived.Test.YtdmdiokfpbmnaaaDoorDaZ
import Derived.Test.YtdmdiokfpbmnaaaDoorDaS
import Derived.Test.YtdmdiokfpbmnaaaDoorAfter
namespace Go.Proofs.YtdmdiokfpbmnaaaDoor
open Go.RowKit
set_option linter.unusedVariables false

set_option maxHeartbeats 16000000 in
set_option maxRecDepth 100000 in
theorem diagAll_walk (l0 : List Dg) (l1 : List UInt8) (a0 a1 : Option Addr) (c0 c1 : Nat) (w : World) (rd0 : Rd w 4 a0 l0.length (encDs l0)) (ok0 : ∀ d ∈ l0, OkD d) (lc0 : l0.length ≤ c0) (rd1 : Rd w 1 a1 l1.length (encB l1)) (lc1 : l1.length ≤ c1) (htab : TabW w) (herr : ErrW w) :
    Calls Tryd.prog 5 #[.slice a0 l0.length c0, .slice a1 l1.length c1] w fun e w' => e = .returned (.bool true) ∧ Mod NoneB w w' := by
  have HAW : Hid (∀ W, Mod NoneB w W → Calls Tryd.prog 8 #[] W fun e w' => e = .returned (.bool true) ∧ Mod NoneB W w') := Lib.hid fun W hm => awake18_calls W (htab.mod0 hm)
  have HOK := Lib.hid ok0
  have n1 := rd1.2.1
  clear ok0
  go_enter Tryd.func5, Tryd.ntmps5
  go_wp2_with fail
  refine (great18_calls l0 a0 c0 w rd0).mono ?_
  rintro e w1 ⟨b, rfl, hm1, hfew⟩
  cases b with
  | true =>
    clear hfew
    go_wp2_with ((with_reducible refine (HAW.out _ hm1).mono ?_); rintro ez w2 ⟨rfl, hm2⟩)
    go_ret
    exact ⟨rfl, hm1.then0 hm2⟩
  | false =>
    have hfw := hfew rfl
    clear hfew
    by_cases g3 : 3000 < l1.length
    · have e3 : (3000 : Int) < l1.length := by omega
      go_wp2_with ((with_reducible refine (HAW.out _ hm1).mono ?_); rintro ez w2 ⟨rfl, hm2⟩)
      go_ret
      exact ⟨rfl, hm1.then0 hm2⟩
    have e3 : ¬ (3000 : Int) < l1.length := by omega
    have hn := hfw.1
    have HFW := Lib.hid hfw
    clear hfw
    go_wp2_with fail
    go_loopw [5] (fun i wr => ∃ j : Nat, i = .int .i64 j ∧ j ≤ l0.length ∧ Mod NoneB w wr) (fun i _ => l0.length - (intOf i).toNat)
    case atStart => exact ⟨0, rfl, by omega, hm1⟩
    case round =>
      obtain ⟨i, rfl, hil, hm⟩ := hrel
      clear hm1 e3
      by_cases hlt : i < l0.length
      · obtain ⟨ad, rfl, p0, p1, p2, p3⟩ := rd0.dg i hlt
        have hb1 : (ad.add (i * 4)).block = ad.block := by unfold Addr.add; split <;> rfl
        have hx1 : OkD l0[i] := HOK.out _ (List.getElem_mem _)
        have hx2 := HFW.out.2 l0[i] (List.getElem_mem _)
        obtain ⟨x, hx⟩ : ∃ x, x = l0[i] := ⟨_, rfl⟩
        rw [← hx] at p0 p1 p2 p3 hx1 hx2
        have c0' : ∀ p : After wr, p.w'.cell? (ad.add (i * 4)) = some (.string x.m) := fun p => (hm.then0 p.m).cell0 p0
        have c1' : ∀ p : After wr, p.w'.cell? ⟨(ad.add (i * 4)).block, (ad.add (i * 4)).off + 1, none⟩ = some (.int .i64 x.a) := fun p => (hm.then0 p.m).cell0 p1
        have c2' : ∀ p : After wr, p.w'.cell? ⟨(ad.add (i * 4)).block, (ad.add (i * 4)).off + 2, none⟩ = some (.int .i64 x.c) := fun p => (hm.then0 p.m).cell0 p2
        have c3' : ∀ p : After wr, p.w'.cell? ⟨(ad.add (i * 4)).block, (ad.add (i * 4)).off + 3, none⟩ = some (.string x.n) := fun p => (hm.then0 p.m).cell0 p3
        rw [hb1] at p1 p2 p3
        have b1' : ∀ p : After wr, p.w'.cell? ⟨ad.block, (ad.add (i * 4)).off + 1, none⟩ = some (.int .i64 x.a) := fun p => (hm.then0 p.m).cell0 p1
        have b2' : ∀ p : After wr, p.w'.cell? ⟨ad.block, (ad.add (i * 4)).off + 2, none⟩ = some (.int .i64 x.c) := fun p => (hm.then0 p.m).cell0 p2
        have b3' : ∀ p : After wr, p.w'.cell? ⟨ad.block, (ad.add (i * 4)).off + 3, none⟩ = some (.string x.n) := fun p => (hm.then0 p.m).cell0 p3
        have ht1 : ∀ p : After wr, Calls Tryd.prog 15 #[.agg #[.string x.m, .int .i64 x.a, .int .i64 x.c, .string x.n]] p.w' fun e w' => e = .returned (.string (textD x)) ∧ Mod NoneB p.w' w' := fun p => text_calls x hx1 (by omega) p.w' (htab.mod0 (hm.then0 p.m))
        have ht2 : ∀ p : After wr, Calls Tryd.prog 16 #[.agg #[.string x.m, .int .i64 x.a, .int .i64 x.c, .string x.n]] p.w' fun e w' => e = .returned (.string (textD x)) ∧ Mod NoneB p.w' w' := fun p => rtext_calls x hx1 (by omega) p.w'
        have HT1 := Lib.hid ht1
        have HT2 := Lib.hid ht2
        obtain ⟨tx, htx⟩ : ∃ tx, tx = textD x := ⟨_, rfl⟩
        rw [← htx] at HT1 HT2
        have f1 : (0 : Int) ≤ i := by omega
        have f2 : (i : Int) < l0.length := by omega
        clear hx hx1 hx2 ht1 ht2 htx p0 p1 p2 p3
        by_cases hi0 : i = 0
        · have f5 : ¬ (0 : Int) < i := by omega
          have f6 : decide ((0 : Int) < (i : Int)) = false := decide_eq_false f5
          have f7 : ¬ 0 < i := by omega
          have f8 : decide (0 < i) = false := decide_eq_false f7
          have HI0 := Lib.hid hi0
          clear hi0
          go_wp2_with fail
          refine wp_region_after (by kernel_rfl) (by kernel_rfl) ?_
          repeat (go_big_quiet_step (first
            | with_reducible exact Calls.after (HT1.out _)
            | with_reducible exact Calls.after (HT2.out _)))
          refine wpQuiet_nil ?_
          rintro _ ⟨pq, rfl⟩
          have hmq := hm.then0 pq.m
          clear c0' c1' c2' c3' b1' b2' b3' HT1 HT2
          go_wp2_with fail
          go_roundw
          case rel => exact ⟨i + 1, by go_num, by omega, hmq⟩
          case measure => simp [intOf]; omega
        · obtain ⟨j, hj⟩ : ∃ j, j = i - 1 := ⟨_, rfl⟩
          obtain ⟨ad', hA', q0, q1, q2, q3⟩ := rd0.dg j (by omega)
          injection hA' with hA'
          subst hA'
          have hb2 : (ad.add (j * 4)).block = ad.block := by unfold Addr.add; split <;> rfl
          obtain ⟨y, hy⟩ : ∃ y, y = l0[j]'(by omega) := ⟨_, rfl⟩
          rw [← hy] at q0 q1 q2 q3
          have d0' : ∀ p : After wr, p.w'.cell? (ad.add (j * 4)) = some (.string y.m) := fun p => (hm.then0 p.m).cell0 q0
          have d1' : ∀ p : After wr, p.w'.cell? ⟨(ad.add (j * 4)).block, (ad.add (j * 4)).off + 1, none⟩ = some (.int .i64 y.a) := fun p => (hm.then0 p.m).cell0 q1
          have d2' : ∀ p : After wr, p.w'.cell? ⟨(ad.add (j * 4)).block, (ad.add (j * 4)).off + 2, none⟩ = some (.int .i64 y.c) := fun p => (hm.then0 p.m).cell0 q2
          have d3' : ∀ p : After wr, p.w'.cell? ⟨(ad.add (j * 4)).block, (ad.add (j * 4)).off + 3, none⟩ = some (.string y.n) := fun p => (hm.then0 p.m).cell0 q3
          rw [hb2] at q1 q2 q3
          have e1' : ∀ p : After wr, p.w'.cell? ⟨ad.block, (ad.add (j * 4)).off + 1, none⟩ = some (.int .i64 y.a) := fun p => (hm.then0 p.m).cell0 q1
          have e2' : ∀ p : After wr, p.w'.cell? ⟨ad.block, (ad.add (j * 4)).off + 2, none⟩ = some (.int .i64 y.c) := fun p => (hm.then0 p.m).cell0 q2
          have e3' : ∀ p : After wr, p.w'.cell? ⟨ad.block, (ad.add (j * 4)).off + 3, none⟩ = some (.string y.n) := fun p => (hm.then0 p.m).cell0 q3
          have HL1 : Hid (∀ p : After wr, Calls Tryd.prog 10 #[.agg #[.string y.m, .int .i64 y.a, .int .i64 y.c, .string y.n], .agg #[.string x.m, .int .i64 x.a, .int .i64 x.c, .string x.n]] p.w' fun e w' => e = .returned (.bool (decide (ltD y x))) ∧ Mod NoneB p.w' w') := Lib.hid fun p => less_calls y x p.w'
          have HL2 : Hid (∀ p : After wr, Calls Tryd.prog 17 #[.agg #[.string y.m, .int .i64 y.a, .int .i64 y.c, .string y.n], .agg #[.string x.m, .int .i64 x.a, .int .i64 x.c, .string x.n]] p.w' fun e w' => e = .returned (.bool (decide (ltD y x))) ∧ Mod NoneB p.w' w') := Lib.hid fun p => rless_calls y x p.w'
          obtain ⟨bt, hbt⟩ : ∃ bt, bt = decide (ltD y x) := ⟨_, rfl⟩
          rw [← hbt] at HL1 HL2
          have z1 : IntKind.i64.wrap ((i : Int) - 1) = j := by rw [show (i : Int) - 1 = j by omega]; exact IntWalk.i64_in _ (by omega)
          have f3 : (0 : Int) ≤ j := by omega
          have f4 : (j : Int) < l0.length := by omega
          have f5 : (0 : Int) < i := by omega
          have f6 : decide ((0 : Int) < (i : Int)) = true := decide_eq_true f5
          have f7 : 0 < i := by omega
          have f8 : decide (0 < i) = true := decide_eq_true f7
          have bbn : (bt != bt) = false := by simp
          clear hy hbt q0 q1 q2 q3 hj
          go_wp2_with fail
          refine wp_region_after (by kernel_rfl) (by kernel_rfl) ?_
          repeat (go_big_quiet_step (first
            | with_reducible exact Calls.after (HT1.out _)
            | with_reducible exact Calls.after (HT2.out _)
            | with_reducible exact Calls.after (HL1.out _)
            | with_reducible exact Calls.after (HL2.out _)))
          refine wpQuiet_nil ?_
          rintro _ ⟨pq, rfl⟩
          have hmq := hm.then0 pq.m
          clear c0' c1' c2' c3' b1' b2' b3' d0' d1' d2' d3' e1' e2' e3' HT1 HT2 HL1 HL2
          go_wp2_with fail
          go_roundw
          case rel => exact ⟨i + 1, by go_num, by omega, hmq⟩
          case measure => simp [intOf]; omega
      · have f2 : ¬ (i : Int) < l0.length := by omega
        have HDE := Lib.hid (dgdecode_calls l1 a1 c1 wr (rd1.mod0 hm) (by omega) lc1 (htab.mod0 hm) (herr.mod0 hm))
        have HDR : Hid (∀ W, Mod NoneB w W → Calls Tryd.prog 18 #[.slice a1 l1.length c1] W (DiagsE (decDg l1) W)) := Lib.hid fun W hm => by
          have h := rdecodeD_calls l1 a1 c1 W (rd1.mod0 hm) (by omega) lc1
          rw [rdec_same (by omega)] at h
          exact h
        obtain ⟨r, hr⟩ : ∃ r, r = decDg l1 := ⟨_, rfl⟩
        rw [← hr] at HDE HDR
        clear hr
        go_wp2_with fail
        refine HDE.out.mono ?_
        rintro e w2 ⟨vx, rfl, hox, hm2, _⟩
        have hmw2 := hm.then0 hm2
        obtain ⟨xs, hxs⟩ : ∃ xs, xs = r.getD [] := ⟨_, rfl⟩
        obtain ⟨ke, hke⟩ : ∃ ke : Int, ke = (errG r : Nat) := ⟨_, rfl⟩
        unfold DiagsE at HDR
        rw [← hxs] at hox HDR
        rw [← hke] at HDR ⊢
        clear hxs hke HDE
        obtain ⟨Ax, cx, rfl, hrx⟩ := hox.nilD0
        clear hox
        go_wp2_with fail
        refine (HDR.out _ hmw2).mono ?_
        rintro e w3 ⟨vy, rfl, hoy, hm3, _⟩
        have hmw3 := hmw2.then0 hm3
        obtain ⟨Ay, cy, rfl, hry⟩ := hoy.nilD0
        have hrx3 := hrx.mod0 hm3
        have HDX : Hid (∀ W, Mod NoneB w3 W → Calls Tryd.prog 11 #[.slice Ax xs.length cx, .slice Ay xs.length cy] W fun e w' => e = .returned (.bool true) ∧ Mod NoneB W w') := Lib.hid fun W hm => by
          have h := diags_calls xs xs Ax Ay cx cy W (hrx3.mod0 hm) (hry.mod0 hm)
          rw [decide_eq_true rfl] at h
          exact h
        have HSO : Hid (∀ W, Mod NoneB w3 W → Calls Tryd.prog 9 #[.slice a0 l0.length c0] W (SoD l0 W)) := Lib.hid fun W hm => sort_calls l0 a0 c0 W (rd0.mod0 (hmw3.then0 hm)) lc0 (by omega)
        have HSR : Hid (∀ W, Mod NoneB w3 W → Calls Tryd.prog 19 #[.slice a0 l0.length c0] W (SoR l0 W)) := Lib.hid fun W hm => rsort_calls l0 a0 c0 W (rd0.mod0 (hmw3.then0 hm)) (by omega)
        have hsm := HFW.out.small HOK.out
        have HEN : Hid (∀ W, Mod NoneB w3 W → Calls Tryd.prog 13 #[.slice a0 l0.length c0] W fun e w' => ∃ v, e = .returned v ∧ Own w' 5 1 v (encL (diagT l0)).length (encB (encL (diagT l0))) ∧ Mod NoneB W w' ∧ ∀ g, v.ownBlock = some g → W.heap.size ≤ g) := Lib.hid fun W hm => dgencode_calls l0 a0 c0 W (rd0.mod0 (hmw3.then0 hm)) hsm (htab.mod0 (hmw3.then0 hm))
        have HER : Hid (∀ W, Mod NoneB w3 W → Calls Tryd.prog 20 #[.slice a0 l0.length c0] W fun e w' => ∃ v, e = .returned v ∧ Own w' 5 1 v (encL (diagT l0)).length (encB (encL (diagT l0))) ∧ Mod NoneB W w' ∧ ∀ g, v.ownBlock = some g → W.heap.size ≤ g) := Lib.hid fun W hm => rencodeD_calls l0 a0 c0 W (rd0.mod0 (hmw3.then0 hm)) (by omega) HOK.out (fun s hs => by have := hsm.texts.1 s hs; omega) hsm.texts.2
        obtain ⟨E, hE⟩ : ∃ E, E = encL (diagT l0) := ⟨_, rfl⟩
        rw [← hE] at HEN HER
        have HAW3 : Hid (∀ W, Mod NoneB w3 W → Calls Tryd.prog 8 #[] W fun e w' => e = .returned (.bool true) ∧ Mod NoneB W w') := Lib.hid fun W hm => HAW.out W (hmw3.then0 hm)
        have K0 : Mod NoneB w3 w3.drew := (Mod.refl NoneB w3).drew
        have kk : (ke == ke) = true := beq_self_eq_true _
        clear hE hsm hoy hrx hrx3 hry HDR HAW
        go_wp2_with fail
        go_region_law (first
          | (go_simp; go_at_call 9; (with_reducible refine (HSO.out _ K0).mono ?_); rintro ez w4 ⟨A4, s4, rfl, hso4, hrs4, hm4, _⟩; have KK1 := K0.then0 hm4)
          | (go_simp; go_at_call 19; (with_reducible refine (HSR.out _ KK1).mono ?_); rintro ez w5 ⟨A5, s5, c5, rfl, hso5, hrs5, hm5⟩; have KK2 := KK1.then0 hm5
             obtain rfl : s5 = s4 := SortD.eq hso5 hso4 (fun x => Iff.rfl)
             have hd5 := diags_calls s5 s5 A4 A5 s5.length c5 w5 (hrs4.mod0 hm5) hrs5
             rw [decide_eq_true rfl] at hd5
             have HD5 := Lib.hid hd5
             clear hd5)
          | (go_simp; go_at_call 11; (with_reducible refine HD5.out.mono ?_); rintro ez w6 ⟨rfl, hm6⟩; have KK3 := KK2.then0 hm6)
          | (go_simp; go_at_call 13; (with_reducible refine (HEN.out _ KK3).mono ?_); rintro ez w7 ⟨v7, rfl, ho7, hm7, _⟩; have KK4 := KK3.then0 hm7
             obtain ⟨A7, c7, rfl, hr7⟩ := ho7.nilD0
             have cy7 : (convert 33 9 (.slice A7 E.length c7)).run Tryd.prog w7 = .ok (.string (strOf E)) w7 := conv_str hr7)
          | (go_simp; go_at_call 20; (with_reducible refine (HER.out _ KK4).mono ?_); rintro ez w8 ⟨v8, rfl, ho8, hm8, _⟩; have KK5 := KK4.then0 hm8
             obtain ⟨A8, c8, rfl, hr8⟩ := ho8.nilD0
             have cy8 : (convert 33 9 (.slice A7 E.length c7)).run Tryd.prog w8 = .ok (.string (strOf E)) w8 := conv_str (hr7.mod0 hm8)
             have cz8 : (convert 33 9 (.slice A8 E.length c8)).run Tryd.prog w8 = .ok (.string (strOf E)) w8 := conv_str hr8)
          | (go_simp; go_at_call 11; (with_reducible refine (HDX.out _ KK5).mono ?_); rintro ez w9 ⟨rfl, hm9⟩; have KK6 := KK5.then0 hm9)
          | (go_simp; go_at_call 14; (with_reducible refine (lnum_calls _ _).mono ?_); rintro ez wz ⟨rfl, hwz⟩; have hwz2 := hwz.symm; clear hwz; subst hwz2)
          | (go_simp; go_at_call 8; (with_reducible refine (HAW3.out _ KK6).mono ?_); rintro ez w10 ⟨rfl, hm10⟩; have KK7 := KK6.then0 hm10))
        all_goals
          go_wp2_with fail
          go_ret
          exact ⟨rfl, hmw3.then0 KK7⟩
end Go.Proofs.YtdmdiokfpbmnaaaDoor

