/- WalResets: behind a Reset nothing is told but what was committed since: the walk of the law. -/
import Derived.Test.YtaldneffhbgepaaDoorBatJ
import Derived.Test.YtaldneffhbgepaaDoorWalW
import Derived.Test.YtaldneffhbgepaaDoorBatAp
namespace Go.Proofs.YtaldneffhbgepaaDoor
open Go.RowKit
set_option linter.unusedVariables false

set_option maxHeartbeats 12000000 in
set_option maxRecDepth 100000 in
theorem walResets_walk (l0 l1 : List Op3) (a0 a1 : Option Addr) (c0 c1 : Nat) (w : World) (rd0 : Rd w 3 a0 l0.length (encOs l0)) (rd1 : Rd w 3 a1 l1.length (encOs l1)) (htab : TabW w) :
    Calls Tryd.prog 11 #[.slice a0 l0.length c0, .slice a1 l1.length c1] w fun e w' => e = .returned (.bool true) ∧ Mod NoneB w w' := by
  go_enter Tryd.func11, Tryd.ntmps11
  go_wp2_with fail
  refine (greatO_calls l0 a0 c0 _ rd0).mono ?_
  rintro e w1 ⟨b, rfl, hm1, hb1⟩
  cases b with
  | true =>
    clear hb1
    go_wp2_with ((with_reducible refine (awake7_calls _ (htab.mod0 hm1)).mono ?_); rintro e wz ⟨rfl, hmz⟩)
    go_ret
    exact ⟨rfl, hm1.then0 hmz⟩
  | false =>
    have hs0 := smallO_of (hb1 rfl)
    have hv0 := hb1 rfl
    have hw0 := (wtO_le (hb1 rfl)).1
    clear hb1
    go_wp2_with fail
    refine (greatO_calls l1 a1 c1 _ (rd1.mod0 hm1)).mono ?_
    rintro e w2 ⟨b, rfl, hm2, hb2⟩
    have hm12 := hm1.then0 hm2
    cases b with
    | true =>
      clear hb2
      go_wp2_with ((with_reducible refine (awake7_calls _ (htab.mod0 hm12)).mono ?_); rintro e wz ⟨rfl, hmz⟩)
      go_ret
      exact ⟨rfl, hm12.then0 hmz⟩
    | false =>
      have hs1 := smallO_of (hb2 rfl)
      have hv1 := hb2 rfl
      have hw1 := (wtO_le (hb2 rfl)).1
      clear hb2 hm1 hm2
      go_wp2_with fail
      refine (rrightops_calls l0 a0 c0 _ (rd0.mod0 hm12)).mono ?_
      rintro e w3 ⟨rfl, hm3⟩
      have hm13 := hm12.then0 hm3
      clear hm12 hm3
      by_cases hr0 : rightO l0
      case neg =>
        rw [decide_eq_false hr0]
        clear hr0
        go_wp2_with ((with_reducible refine (awake7_calls _ (htab.mod0 hm13)).mono ?_); rintro e wz ⟨rfl, hmz⟩)
        go_ret
        exact ⟨rfl, hm13.then0 hmz⟩
      rw [decide_eq_true hr0]
      go_wp2_with fail
      refine (rrightops_calls l1 a1 c1 _ (rd1.mod0 hm13)).mono ?_
      rintro e w4 ⟨rfl, hm4⟩
      have hm14 := hm13.then0 hm4
      clear hm13 hm4
      by_cases hr1 : rightO l1
      case neg =>
        rw [decide_eq_false hr1]
        clear hr1
        go_wp2_with ((with_reducible refine (awake7_calls _ (htab.mod0 hm14)).mono ?_); rintro e wz ⟨rfl, hmz⟩)
        go_ret
        exact ⟨rfl, hm14.then0 hmz⟩
      rw [decide_eq_true hr1]
      have hxl := bytesO_len hr0 hv0
      have hyl := bytesO_len hr1 hv1
      obtain ⟨hop, hob, hon, hol⟩ := open_new 100000 [] 0
      have hc1 : commitW (freeD 100000 [] [⟨sLog, [], 0⟩] 2) 0 false l0 = commitD (freeD 100000 [] [⟨sLog, [], 0⟩] 2) 0 l0 := rfl
      rw [commit_ok 100000 [] [] 0 2 0 l0 hr0 (by simp; omega), List.nil_append, Nat.zero_add] at hc1
      have hrs : resetW (freeD 100000 [] [⟨sLog, bytesO l0, (bytesO l0).length⟩] 4) (bytesO l0).length false = resetD (freeD 100000 [] [⟨sLog, bytesO l0, (bytesO l0).length⟩] 4) (bytesO l0).length := rfl
      rw [reset_ok] at hrs
      have hc2 : commitW (freeD 100000 [] [⟨sLog, [], 0⟩] 5) 0 false l1 = commitD (freeD 100000 [] [⟨sLog, [], 0⟩] 5) 0 l1 := rfl
      rw [commit_ok 100000 [] [] 0 5 0 l1 hr1 (by simp; omega), List.nil_append, Nat.zero_add, ← catO_one l1] at hc2
      have hall : ∀ l ∈ [l1], rightO l ∧ SmallO l := fun l hl => by rw [List.mem_singleton] at hl; subst hl; exact ⟨hr1, hs1⟩
      have hop2 := open_cat 100000 [] [l1] (catO [l1]).length 7 hall
      obtain ⟨_, hl2, _⟩ := log_cat (freeD 100000 [] [⟨sLog, catO [l1], (catO [l1]).length⟩] 7) [l1] _ rfl rfl hall
      have hox : opsX l0 = (bytesO l0, 0) := (opsX_small hs0).trans (if_pos hr0)
      rw [← catO_one l1] at hyl
      obtain ⟨x, hx⟩ : ∃ x, x = bytesO l0 := ⟨_, rfl⟩
      obtain ⟨y, hy⟩ : ∃ y, y = catO [l1] := ⟨_, rfl⟩
      rw [← hx] at hxl hc1 hrs hox
      rw [← hy] at hyl hc2 hop2 hl2
      have HOP := Lib.hid hop
      have HON := Lib.hid hon
      have HC1 := Lib.hid hc1
      have HRS := Lib.hid hrs
      have HC2 := Lib.hid hc2
      have HOP2 := Lib.hid hop2
      have HL2 := Lib.hid hl2
      have HOX := Lib.hid hox
      have HS0 := Lib.hid hs0
      have HS1 := Lib.hid hs1
      clear hop hob hon hol hc1 hrs hc2 hop2 hl2 hox hs0 hs1 hall hx hy hr0 hr1
      go_wp2_with fail
      refine (Dw.new0 w w4 hm14 100000).mono ?_
      rintro e w5 ⟨p, rfl, hdw⟩
      obtain ⟨S5, h5⟩ := Lw.dw hdw
      clear hdw hm14
      go_wp2_with fail
      refine (h5.open htab (fitL_nil _ _ _ (by omega)) (by rw [HOP.out])).mono ?_
      rintro e w6 ⟨S6, q, vl, vs, rfl, h6, _, _, hqN, hqS6, hq6, hba⟩
      rw [HOP.out] at h6
      rw [HON.out] at hq6
      obtain ⟨A6, c6, rfl, _⟩ := hba.rd
      have hq0 : w.heap.size ≤ q := Nat.le_trans h5.base.size hqN
      clear hba hqN h5
      go_wp2_with ((with_reducible refine (num_calls _ _).mono ?_); rintro ez wz ⟨rfl, rfl⟩)
      refine (h6.commit htab (fitL_one _ _ _ _ _ _ (by omega) (by simp)) hq6 hqS6 hq0 (by omega) l0 a0 c0 (rd0.mod0 h6.base) HS0.out).mono ?_
      rintro e w7 ⟨rfl, S7, h7, hqS7, hq7, _, _⟩
      rw [HC1.out] at h7 hq7 ⊢
      clear h6 hq6 hqS6
      go_wp2_with fail
      refine (wsize_calls w7 p q x.length false hq7).mono ?_
      rintro e wz ⟨rfl, rfl⟩
      go_wp2_with fail
      refine (h7.reset (fitL_one _ _ _ _ _ _ (by omega) (by omega)) hq7 hqS7 hq0).mono ?_
      rintro e w8 ⟨rfl, S8, h8, hqS8, hq8, _, _⟩
      rw [HRS.out] at h8 hq8 ⊢
      clear h7 hq7 hqS7
      go_wp2_with fail
      refine (wsize_calls w8 p q 0 false hq8).mono ?_
      rintro e wz ⟨rfl, rfl⟩
      go_wp2_with fail
      refine (h8.commit htab (fitL_one _ _ _ _ _ _ (by omega) (by simp)) hq8 hqS8 hq0 (by omega) l1 a1 c1 (rd1.mod0 h8.base) HS1.out).mono ?_
      rintro e w9 ⟨rfl, S9, h9, hqS9, hq9, _, _⟩
      rw [HC2.out] at h9 ⊢
      clear h8 hq8 hqS8 hq9
      go_wp2_with fail
      refine (h9.open htab (fitL_one _ _ _ _ _ _ (by omega) (by omega)) (by rw [HOP2.out])).mono ?_
      rintro e w10 ⟨S10, q2, vl2, vs2, rfl, h10, _, _, _, _, _, hba2⟩
      rw [HL2.out] at hba2
      obtain ⟨u0, rfl⟩ : ∃ u0, vs2 = [u0] := by
        have h := hba2.len
        match vs2, h with
        | [a], _ => exact ⟨a, rfl⟩
      obtain ⟨g, cg, hvg⟩ := hba2.own.addrOf (by simp)
      have hvg2 : vl2 = .slice (some ⟨g, 0, none⟩) 1 cg := hvg
      subst hvg2
      obtain ⟨B0, b0, e0, hrd0⟩ := (hba2.ent 0 (by simp) (by simp)).nilD0
      have e0' : u0 = .slice B0 l1.length b0 := e0
      replace hrd0 : Rd w10 3 B0 l1.length (encOs l1) := hrd0
      subst e0'
      have y0 : w10.cell? ⟨g, 0, none⟩ = some (.slice B0 l1.length b0) := Own.cellAt (n := 1) hba2.own 0 _ rfl
      have hb10 := h10.base
      clear hba2 e0 hvg h9
      go_wp2_with fail
      refine (rops_calls l0 a0 c0 w10 (rd0.mod0 hb10) (fun o ho => Nat.le_trans (HS0.out o ho) (by decide))).mono ?_
      intro e w11 h11
      rw [HOX.out] at h11
      obtain ⟨A11, c11, rfl, _, _, hm11⟩ := h11.open
      have y011 := hm11.cell0 y0
      have hb11 := hb10.then0 hm11
      have hsm : Calls Tryd.prog 24 #[.slice B0 l1.length b0, .slice a1 l1.length c1] w11 fun e w'' => e = .returned (.bool true) ∧ Mod NoneB w11 w'' := by
        have h := sameops_calls l1 l1 B0 a1 b0 c1 w11 (hrd0.mod0 hm11) (rd1.mod0 hb11)
        rw [decide_eq_true rfl] at h
        exact h
      have HSM := Lib.hid hsm
      have exx : ((x.length : Int) == (x.length : Int)) = true := beq_self_eq_true _
      clear h11 h10 hsm y0 hrd0
      go_wp2_with first
        | ((with_reducible refine (num_calls _ _).mono ?_); rintro ez wz ⟨rfl, rfl⟩)
        | ((with_reducible refine HSM.out.mono ?_); rintro ez w12 ⟨rfl, hm12⟩)
      have hb12 := hb11.then0 hm12
      go_wp2_with ((with_reducible refine (awake7_calls _ (htab.mod0 hb12)).mono ?_); rintro ez wz ⟨rfl, hmz⟩)
      go_ret
      exact ⟨rfl, hb12.then0 hmz⟩
end Go.Proofs.YtaldneffhbgepaaDoor

