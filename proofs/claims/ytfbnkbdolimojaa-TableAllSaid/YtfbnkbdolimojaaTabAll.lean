/- TableAll: whether pairs are right, what is at a key, what ops make of them, and their bytes, both ways, are the document's: the walk of the law. -/
import Derived.Test.YtfbnkbdolimojaaRefApp
import Derived.Test.YtfbnkbdolimojaaRefTabs
import Derived.Test.YtfbnkbdolimojaaWs
import Derived.Test.YtfbnkbdolimojaaTabAw
import Derived.Test.YtfbnkbdolimojaaDkAw
namespace Go.Proofs.Ytfbnkbdolimojaa
open Go.RowKit
set_option linter.unusedVariables false

set_option maxHeartbeats 4000000 in
set_option maxRecDepth 100000 in
theorem tableAll_walk (l0 : List Pr) (l1 : List Op3) (s2 : ByteArray) (l3 : List UInt8) (a0 a1 a3 : Option Addr) (c0 c1 c3 : Nat) (w : World) (rd0 : Rd w 2 a0 l0.length (encPs l0)) (rd1 : Rd w 3 a1 l1.length (encOs l1)) (rd3 : Rd w 1 a3 l3.length (encB l3)) (lc3 : l3.length ≤ c3) :
    Calls Try.prog 4 #[.slice a0 l0.length c0, .slice a1 l1.length c1, .string s2, .slice a3 l3.length c3] w fun e w' => e = .returned (.bool true) ∧ Mod NoneB w w' := by
  go_enter Try.func4, Try.ntmps4
  go_wp2_with fail
  refine (greatP_calls l0 a0 c0 _ rd0).mono ?_
  rintro e w1 ⟨b, rfl, hm1, hb1⟩
  cases b with
  | true =>
    clear hb1
    go_wp2_with ((with_reducible refine (awake6_calls _).mono ?_); rintro e wz ⟨rfl, hmz⟩)
    go_ret
    exact ⟨rfl, hm1.then0 hmz⟩
  | false =>
    have hw0 := wS_great l0 (hb1 rfl)
    have hw0' := hb1 rfl
    clear hb1
    go_wp2_with fail
    refine (greatO_calls l1 a1 c1 _ (rd1.mod0 hm1)).mono ?_
    rintro e w2 ⟨b, rfl, hm2, hb2⟩
    have hm12 := hm1.then0 hm2
    cases b with
    | true =>
      clear hb2
      go_wp2_with ((with_reducible refine (awake6_calls _).mono ?_); rintro e wz ⟨rfl, hmz⟩)
      go_ret
      exact ⟨rfl, hm12.then0 hmz⟩
    | false =>
      have hll0 := (wtP_le hw0').1
      have hll1 := (wtO_le (hb2 rfl)).1
      have hw2 : wS l0 ≤ 24000 := by omega
      have hsm := (wS_small hw2).1
      clear hb2 hm1 hm2 hw0 hw0' hw2
      by_cases hlk : 300 < s2.size
      · have hg : (300 : Int) < (s2.size : Int) := by omega
        go_wp2_with ((with_reducible refine (awake6_calls _).mono ?_); rintro e wz ⟨rfl, hmz⟩)
        go_ret
        exact ⟨rfl, hm12.then0 hmz⟩
      have hg : ¬ (300 : Int) < (s2.size : Int) := by omega
      by_cases hlb : 3000 < l3.length
      · have hg : (3000 : Int) < (l3.length : Int) := by omega
        go_wp2_with ((with_reducible refine (awake6_calls _).mono ?_); rintro e wz ⟨rfl, hmz⟩)
        go_ret
        exact ⟨rfl, hm12.then0 hmz⟩
      have hg3 : ¬ (3000 : Int) < (l3.length : Int) := by omega
      obtain ⟨gv, hgv⟩ : ∃ gv, gv = getV l0 s2 := ⟨_, rfl⟩
      obtain ⟨gb, hgb⟩ : ∃ gb, gb = getB l0 s2 := ⟨_, rfl⟩
      obtain ⟨T, hT⟩ : ∃ T, T = tableR l0 := ⟨_, rfl⟩
      obtain ⟨q, hq⟩ : ∃ q, q = (fromT l3).getD [] := ⟨_, rfl⟩
      obtain ⟨qe, hqe⟩ : ∃ qe, qe = errP (fromT l3) := ⟨_, rfl⟩
      obtain ⟨m, hm⟩ : ∃ m, m = applyT l0 l1 := ⟨_, rfl⟩
      obtain ⟨rl, hrl⟩ : ∃ rl, rl = decide (Rises l0) := ⟨_, rfl⟩
      have HGV := Lib.hid hgv
      have HGB := Lib.hid hgb
      have HT := Lib.hid hT
      have HQ := Lib.hid hq
      have HQE := Lib.hid hqe
      have HM := Lib.hid hm
      have HRL := Lib.hid hrl
      clear hgv hgb hT hq hqe hm hrl
      go_wp2_with fail
      refine (get_calls l0 s2 a0 c0 _ (rd0.mod0 hm12) (by omega)).mono ?_
      rintro e w3 ⟨rfl, hm3⟩
      rw [← HGV.out, ← HGB.out]
      have hm13 := hm12.then0 hm3
      go_wp2_with fail
      refine (rfind_calls l0 s2 a0 c0 _ (rd0.mod0 hm13)).mono ?_
      rintro e wz ⟨rfl, hwz⟩
      subst hwz
      rw [← HGV.out, ← HGB.out]
      go_wp2_with fail
      refine (tencode_calls l0 a0 c0 _ (rd0.mod0 hm13) hsm).mono ?_
      rintro e w4 ⟨v4, rfl, hov, hm4, hn4⟩
      rw [← HT.out] at hov ⊢
      obtain ⟨A4, c4, rfl, hr4⟩ := hov.nilD0
      have hm14 := hm13.then0 hm4
      clear hov hn4
      go_wp2_with fail
      refine (rtable_calls l0 a0 c0 _ (rd0.mod0 hm14) hsm).mono ?_
      rintro e w5 ⟨v5, rfl, hov, hm5, hn5⟩
      rw [← HT.out] at hov ⊢
      obtain ⟨A5, c5, rfl, hr5⟩ := hov.nilD0
      have hm15 := hm14.then0 hm5
      have hr45 := hr4.mod0 hm5
      clear hov hn5 hr4
      go_wp2_with fail
      refine (tdecode_calls l3 a3 c3 _ (rd3.mod0 hm15) (by omega) lc3).mono ?_
      rintro e w6 ⟨v6, rfl, hov, hm6, hn6⟩
      rw [← HQ.out] at hov
      rw [← HQE.out]
      obtain ⟨A6, c6, rfl, hr6⟩ := hov.nilD0
      have hm16 := hm15.then0 hm6
      have hr46 := hr45.mod0 hm6
      have hr56 := hr5.mod0 hm6
      clear hov hn6 hr45 hr5
      go_wp2_with fail
      refine (rfromTable_calls l3 a3 c3 _ (rd3.mod0 hm16) (by omega) lc3).mono ?_
      rintro e w7 ⟨v7, rfl, hov, hm7, hn7⟩
      rw [← HQ.out] at hov
      rw [← HQE.out]
      obtain ⟨A7, c7, rfl, hr7⟩ := hov.nilD0
      have hm17 := hm16.then0 hm7
      have hr47 := hr46.mod0 hm7
      have hr57 := hr56.mod0 hm7
      have hr67 := hr6.mod0 hm7
      clear hov hn7 hr46 hr56 hr6
      go_wp2_with fail
      refine (right_calls l0 a0 c0 _ (rd0.mod0 hm17)).mono ?_
      rintro e w8 ⟨rfl, hm8⟩
      rw [← HRL.out]
      have hm18 := hm17.then0 hm8
      go_wp2_with fail
      refine (rright_calls l0 a0 c0 _ (rd0.mod0 hm18)).mono ?_
      rintro e w9 ⟨rfl, hm9⟩
      rw [← HRL.out]
      have hm19 := hm18.then0 hm9
      have b1 : (rl == rl) = true := by simp
      have b2 : (gb == gb) = true := by simp
      have b3 : (gv.toList == gv.toList) = true := by simp
      have b4 : ((strOf T.1).toList == (strOf T.1).toList) = true := by simp
      have hsz : (l0.length + l1.length + 1) * 32 ≤ 140737488355328 := by omega
      go_wp2_with fail
      refine (apply_calls l0 l1 a0 a1 c0 c1 _ (rd0.mod0 hm19) (rd1.mod0 hm19) hsz).mono ?_
      rintro e w10 ⟨v10, rfl, ho10, hm10⟩
      rw [← HM.out] at ho10
      obtain ⟨A10, c10, rfl, hr10⟩ := ho10.own.nilD0
      have hm1a := hm19.then0 hm10
      clear ho10
      go_wp2_with fail
      refine (rapply_calls l0 l1 a0 a1 c0 c1 _ (rd0.mod0 hm1a) (rd1.mod0 hm1a) hsz).mono ?_
      rintro e w11 ⟨v11, rfl, ho11, hm11⟩
      rw [← HM.out] at ho11
      obtain ⟨A11, c11, rfl, hr11⟩ := ho11.own.nilD0
      have hm1b := hm1a.then0 hm11
      have hr10' := hr10.mod0 hm11
      clear ho11 hr10
      go_wp2_with fail
      refine (pairs_calls m m A10 A11 c10 c11 _ hr10' hr11).mono ?_
      rintro e w12 ⟨rfl, hm12'⟩
      rw [decide_eq_true rfl]
      have hm1c := hm1b.then0 hm12'
      have hmx : Mod NoneB w7 w12 := (((hm8.then0 hm9).then0 hm10).then0 hm11).then0 hm12'
      have cx : (convert 33 9 (.slice A4 T.1.length c4)).run Try.prog w12 = .ok (.string (strOf T.1)) w12 := conv_str (hr47.mod0 hmx)
      have cy : (convert 33 9 (.slice A5 T.1.length c5)).run Try.prog w12 = .ok (.string (strOf T.1)) w12 := conv_str (hr57.mod0 hmx)
      have hpa : Calls Try.prog 30 #[.slice A6 q.length c6, .slice A7 q.length c7] w12 fun e w'' => e = .returned (.bool true) ∧ Mod NoneB w12 w'' := by
        have h := pairs_calls q q A6 A7 c6 c7 w12 (hr67.mod0 hmx) (hr7.mod0 hmx)
        rw [decide_eq_true rfl] at h
        exact h
      have HPA := Lib.hid hpa
      clear hpa hr47 hr57 hr67 hr7 hr10' hr11 hm8 hm9 hm10 hm11 hm12' hmx hm12 hm13 hm14 hm15 hm16 hm17 hm18 hm19 hm1a hm1b hm3 hm4 hm5 hm6 hm7
      go_wp2_with (first
        | ((with_reducible refine (num_calls _ _).mono ?_); rintro ez wz ⟨rfl, rfl⟩)
        | ((with_reducible refine HPA.out.mono ?_); rintro ez wq ⟨rfl, hmq⟩)
        | ((with_reducible refine (awake6_calls _).mono ?_); rintro ez wz ⟨rfl, hmz⟩))
      go_ret
      exact ⟨rfl, (hm1c.then0 hmq).then0 hmz⟩
end Go.Proofs.Ytfbnkbdolimojaa
