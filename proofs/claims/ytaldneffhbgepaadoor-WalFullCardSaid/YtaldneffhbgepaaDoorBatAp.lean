/- BatchApart: unlike batches have unlike bytes; two, one behind the other, are told as two: the walk of the law. -/
import Derived.Test.YtaldneffhbgepaaDoorBatG
import Derived.Test.YtaldneffhbgepaaDoorBatK
import Derived.Test.YtaldneffhbgepaaDoorRefC
import Derived.Test.YtaldneffhbgepaaDoorAfter
namespace Go.Proofs.YtaldneffhbgepaaDoor
open Go.RowKit
set_option linter.unusedVariables false

set_option maxHeartbeats 12000000 in
set_option maxRecDepth 100000 in
theorem batchApart_walk (l0 l1 : List Op3) (a0 a1 : Option Addr) (c0 c1 : Nat) (w : World) (rd0 : Rd w 3 a0 l0.length (encOs l0)) (rd1 : Rd w 3 a1 l1.length (encOs l1)) (htab : TabW w) :
    Calls Tryd.prog 5 #[.slice a0 l0.length c0, .slice a1 l1.length c1] w fun e w' => e = .returned (.bool true) ∧ Mod NoneB w w' := by
  have hu := Tryd.underlying26
  go_enter Tryd.func5, Tryd.ntmps5
  go_wp2_with fail
  refine (greatO_calls l0 a0 c0 _ rd0).mono ?_
  rintro e w1 ⟨b, rfl, hm1, hb1⟩
  cases b with
  | true =>
    clear hb1
    go_wp2_with ((with_reducible refine (awake5_calls _ (htab.mod0 hm1)).mono ?_); rintro e wz ⟨rfl, hmz⟩)
    go_ret
    exact ⟨rfl, hm1.then0 hmz⟩
  | false =>
    have hs0 := smallO_of (hb1 rfl)
    have hw0 := (wtO_le (hb1 rfl)).1
    clear hb1
    go_wp2_with fail
    refine (greatO_calls l1 a1 c1 _ (rd1.mod0 hm1)).mono ?_
    rintro e w2 ⟨b, rfl, hm2, hb2⟩
    have hm12 := hm1.then0 hm2
    cases b with
    | true =>
      clear hb2
      go_wp2_with ((with_reducible refine (awake5_calls _ (htab.mod0 hm12)).mono ?_); rintro e wz ⟨rfl, hmz⟩)
      go_ret
      exact ⟨rfl, hm12.then0 hmz⟩
    | false =>
      have hs1 := smallO_of (hb2 rfl)
      have hw1 := (wtO_le (hb2 rfl)).1
      clear hb2 hm1 hm2
      go_wp2_with fail
      refine (rrightops_calls l0 a0 c0 _ (rd0.mod0 hm12)).mono ?_
      rintro e w3 ⟨rfl, hm3⟩
      have hm13 := hm12.then0 hm3
      clear hm12 hm3
      by_cases hr0 : rightO l0
      case neg =>
        rw [decide_eq_false hr0]
        clear hr0
        go_wp2_with ((with_reducible refine (awake5_calls _ (htab.mod0 hm13)).mono ?_); rintro e wz ⟨rfl, hmz⟩)
        go_ret
        exact ⟨rfl, hm13.then0 hmz⟩
      rw [decide_eq_true hr0]
      go_wp2_with fail
      refine (rrightops_calls l1 a1 c1 _ (rd1.mod0 hm13)).mono ?_
      rintro e w4 ⟨rfl, hm4⟩
      have hm14 := hm13.then0 hm4
      clear hm13 hm4
      by_cases hr1 : rightO l1
      case neg =>
        rw [decide_eq_false hr1]
        clear hr1
        go_wp2_with ((with_reducible refine (awake5_calls _ (htab.mod0 hm14)).mono ?_); rintro e wz ⟨rfl, hmz⟩)
        go_ret
        exact ⟨rfl, hm14.then0 hmz⟩
      rw [decide_eq_true hr1]
      have ho0 : opsR l0 = (bytesO l0, 0) := if_pos hr0
      have ho1 : opsR l1 = (bytesO l1, 0) := if_pos hr1
      have hx0 := bytesO_length hr0 hs0
      have hx1 := bytesO_length hr1 hs1
      have hsc := scan_bytesO2 hr0 hs0 hr1 hs1
      have hrp := replay_two hr0 hs0 hr1 hs1
      have hpl : ∀ p ∈ recsO l0 ++ recsO l1, p.length ≤ 140737488355328 := fun p hp => by
        rcases List.mem_append.1 hp with h | h
        · exact Nat.le_trans (recsO_small hs0 hr0.1 p h) (by decide)
        · exact Nat.le_trans (recsO_small hs1 hr1.1 p h) (by decide)
      have hpn : (recsO l0 ++ recsO l1).length ≤ 1000000 := by
        have h1 := hr0.1
        have h2 := hr1.1
        simp [recsO]
        omega
      have hinj : decide (bytesO l0 = bytesO l1) = decide (l0 = l1) := by rw [decide_eq_decide]; exact bytesO_inj hr0 hs0 hr1 hs1
      obtain ⟨x, hx⟩ : ∃ x, x = bytesO l0 := ⟨_, rfl⟩
      obtain ⟨y, hy⟩ : ∃ y, y = bytesO l1 := ⟨_, rfl⟩
      rw [← hx] at ho0 hx0 hsc hinj
      rw [← hy] at ho1 hx1 hsc hinj
      obtain ⟨rs, hrs⟩ : ∃ rs, rs = recsO l0 ++ recsO l1 := ⟨_, rfl⟩
      rw [← hrs] at hsc hrp hpl hpn
      have HO0 := Lib.hid ho0
      have HO1 := Lib.hid ho1
      have HSC := Lib.hid hsc
      have HRP := Lib.hid hrp
      have HPL := Lib.hid hpl
      have HPN := Lib.hid hpn
      have HIN := Lib.hid hinj
      have HS0 := Lib.hid hs0
      have HS1 := Lib.hid hs1
      clear ho0 ho1 hsc hrp hpl hpn hinj hs0 hs1 hx hy hrs hr0 hr1
      go_wp2_with fail
      refine (bencode_calls l0 a0 c0 w4 (rd0.mod0 hm14) HS0.out (htab.mod0 hm14)).mono ?_
      intro e w5 h5
      rw [HO0.out] at h5
      obtain ⟨A5, c5, rfl, hc5, hrx, hm5⟩ := h5.open
      simp only at hc5 hrx
      have hm15 := hm14.then0 hm5
      clear h5
      go_wp2_with fail
      refine (bencode_calls l1 a1 c1 w5 (rd1.mod0 hm15) HS1.out (htab.mod0 hm15)).mono ?_
      intro e w6 h6
      rw [HO1.out] at h6
      obtain ⟨A6, c6, rfl, hc6, hry, hm6⟩ := h6.open
      simp only at hc6 hry
      have hm16 := hm15.then0 hm6
      have hrx6 := hrx.mod0 hm6
      clear h6
      have hal : Mod NoneB w6 (w6.alloc (.cells #[] 5)) := (Mod.refl NoneB w6).alloc _
      have hown0 : Own (w6.alloc (.cells #[] 5)) 5 1 (.slice (some ⟨w6.heap.size, 0, none⟩) 0 0) 0 [] := Own.of_blk (cap := 0) (heap_alloc_new w6 _) (by omega) (by omega) (by simp) (by simp)
      have hnx := (hrx6.mod0 hal).2.2
      have hlx : (encB x).length = x.length * 1 := by rw [encB_length, Nat.mul_one]
      have hb1 : (0 + x.length) * 1 ≤ 140737488355328 := by omega
      go_wp2_with (at_builtin; refine wpList_append rfl (.tmp 41) (.tmp 42) 26 rfl 5 _ 1 1 hu tiB rfl (by decide) (by decide) _ 0 [] rfl hown0 A5 x.length c5 (encB x) rfl hlx hnx (encB_one x) hb1 ?_)
      intro v7 w7 ho7 hm7 hno7
      have hm67 : Mod NoneB w6 w7 := hal.trans_new hm7 (fun k hk => .inr (by simp [OnlyBlk, Value.ownBlock] at hk; omega))
      have hn7 : ∀ g, v7.ownBlock = some g → w6.heap.size ≤ g := by
        intro g hg
        rcases hno7 with hq | ⟨b, hq, hb⟩
        · rw [hq] at hg; simp [Value.ownBlock] at hg; omega
        · rw [hq] at hg
          injection hg with hg
          simp at hb
          omega
      replace ho7 : Own w7 5 1 v7 x.length (encB x) := by simpa using ho7
      obtain ⟨A7, c7, rfl, _⟩ := ho7.out
      have hrx7 := hrx6.mod0 hm67
      have hry7 := hry.mod0 hm67
      have hny := hry7.2.2
      have hly : (encB y).length = y.length * 1 := by rw [encB_length, Nat.mul_one]
      have hb2 : (x.length + y.length) * 1 ≤ 140737488355328 := by omega
      clear hal hown0 hnx hlx hb1 hm7 hno7
      go_wp2_with (at_builtin; refine wpList_append rfl (.tmp 44) (.tmp 45) 26 rfl 5 _ 1 1 hu tiB rfl (by decide) (by decide) _ x.length (encB x) rfl ho7 A6 y.length c6 (encB y) rfl hly hny (encB_one y) hb2 ?_)
      intro v8 w8 ho8 hm8 hno8
      have hm68 : Mod NoneB w6 w8 := hm67.trans_new hm8 (fun k hk => .inr (hn7 k hk))
      have hrx8 := hrx6.mod0 hm68
      have hry8 := hry.mod0 hm68
      have hm18 := hm16.then0 hm68
      have hez : encB x ++ encB y = encB (x ++ y) := by simp [encB]
      rw [hez, ← List.length_append] at ho8
      obtain ⟨A8, c8, hv8, hc8, _, hrz⟩ := ho8.out
      have hzl : (x ++ y).length ≤ 1099511627776 := by rw [List.length_append]; omega
      obtain ⟨z, hz⟩ : ∃ z, z = x ++ y := ⟨_, rfl⟩
      rw [← hz] at hrz hc8 hzl HSC hv8
      subst hv8
      clear ho8 hm8 hno8 hn7 hm67 ho7 hrx7 hry7 hny hly hb2 hez hz hrx6 hry hrx hm5 hm6 hm15 hm16
      go_wp2_with fail
      refine (rscan_calls z A8 c8 w8 hrz hzl hc8).mono ?_
      rintro e w9 ⟨v9, vs9, rfl, hla, hm9⟩
      rw [HSC.out] at hla ⊢
      obtain ⟨qs, A9, c9, rfl, hbs, hrq, _, hpo⟩ := hla.parts HPL.out
      have hm19 := hm18.then0 hm9
      have hrx9 := hrx8.mod0 hm9
      have hry9 := hry8.mod0 hm9
      have hql : qs.length ≤ 1000000 := by
        have h := congrArg List.length hbs
        have := HPN.out
        simp [bsOf] at h
        omega
      clear hla hrz hzl hc8 hrx8 hry8 hm18 hm9 hm68
      go_wp2_with fail
      refine (replay_calls qs A9 c9 w9 hrq hpo hql (htab.mod0 hm19)).mono ?_
      rintro e w10 ⟨v10, vs10, rfl, hba, hm10⟩
      rw [hbs, HRP.out] at hba ⊢
      have hm110 := hm19.then0 hm10
      have hrx10 := hrx9.mod0 hm10
      have hry10 := hry9.mod0 hm10
      clear hrq hpo hbs hql hrx9 hry9 hm19 hm10
      obtain ⟨u0, u1, rfl⟩ : ∃ u0 u1, vs10 = [u0, u1] := by
        have h := hba.len
        match vs10, h with
        | [a, b], _ => exact ⟨a, b, rfl⟩
      obtain ⟨g, cg, hvg⟩ := hba.own.addrOf (by simp)
      have hvg2 : v10 = .slice (some ⟨g, 0, none⟩) 2 cg := hvg
      subst hvg2
      obtain ⟨B0, b0, e0, hrd0⟩ := (hba.ent 0 (by simp) (by simp)).nilD0
      obtain ⟨B1, b1, e1, hrd1⟩ := (hba.ent 1 (by simp) (by simp)).nilD0
      have e0' : u0 = .slice B0 l0.length b0 := e0
      have e1' : u1 = .slice B1 l1.length b1 := e1
      replace hrd0 : Rd w10 3 B0 l0.length (encOs l0) := hrd0
      replace hrd1 : Rd w10 3 B1 l1.length (encOs l1) := hrd1
      subst e0' e1'
      have hown := hba.own
      have y0 : ∀ p : After w10, p.w'.cell? ⟨g, 0, none⟩ = some (.slice B0 l0.length b0) := fun p => p.cell (Own.cellAt (n := 2) hown 0 _ rfl)
      have y1 : ∀ p : After w10, p.w'.cell? ⟨g, 1, none⟩ = some (.slice B1 l1.length b1) := fun p => p.cell (Own.cellAt (n := 2) hown 1 _ rfl)
      have hcx : ∀ p : After w10, (convert 26 9 (.slice A5 x.length c5)).run Tryd.prog p.w' = .ok (.string (strOf x)) p.w' := fun p => conv_str (hrx10.mod0 p.m)
      have hcy : ∀ p : After w10, (convert 26 9 (.slice A6 y.length c6)).run Tryd.prog p.w' = .ok (.string (strOf y)) p.w' := fun p => conv_str (hry10.mod0 p.m)
      have hss : ∀ p : After w10, Calls Tryd.prog 24 #[.slice a0 l0.length c0, .slice a1 l1.length c1] p.w' fun e w'' => e = .returned (.bool (decide (l0 = l1))) ∧ Mod NoneB p.w' w'' :=
        fun p => sameops_calls l0 l1 a0 a1 c0 c1 p.w' ((rd0.mod0 hm110).mod0 p.m) ((rd1.mod0 hm110).mod0 p.m)
      have hs0 : ∀ p : After w10, Calls Tryd.prog 24 #[.slice B0 l0.length b0, .slice a0 l0.length c0] p.w' fun e w'' => e = .returned (.bool true) ∧ Mod NoneB p.w' w'' := by
        intro p
        have h := sameops_calls l0 l0 B0 a0 b0 c0 p.w' (hrd0.mod0 p.m) ((rd0.mod0 hm110).mod0 p.m)
        rw [decide_eq_true rfl] at h
        exact h
      have hs1 : ∀ p : After w10, Calls Tryd.prog 24 #[.slice B1 l1.length b1, .slice a1 l1.length c1] p.w' fun e w'' => e = .returned (.bool true) ∧ Mod NoneB p.w' w'' := by
        intro p
        have h := sameops_calls l1 l1 B1 a1 b1 c1 p.w' (hrd1.mod0 p.m) ((rd1.mod0 hm110).mod0 p.m)
        rw [decide_eq_true rfl] at h
        exact h
      obtain ⟨be, hbe⟩ : ∃ be, be = decide (l0 = l1) := ⟨_, rfl⟩
      rw [← hbe] at hss HIN
      have hbq : ((strOf x).toList == (strOf y).toList) = be := by
        rw [beq_toList, ← HIN.out, decide_eq_decide]
        exact ⟨strOf_inj, fun h => by rw [h]⟩
      have hbb : (be == be) = true := by simp
      have HAW : Hid (∀ p : After w10, Calls Tryd.prog 14 #[] p.w' fun e w'' => e = .returned (.bool true) ∧ Mod NoneB p.w' w'') := Lib.hid (fun p => awake5_calls p.w' ((htab.mod0 hm110).mod0 p.m))
      have HSS := Lib.hid hss
      have HT0 := Lib.hid hs0
      have HT1 := Lib.hid hs1
      have e5 : ((l0.length : Int) + l1.length + 2 == l0.length + l1.length + 2) = true := beq_self_eq_true _
      clear hss hs0 hs1 hbe hba hown hrd0 hrd1 e0 e1 hvg hrx10 hry10 hx0 hx1 rd0 rd1 htab hc5 hc6 HO0 HO1 HSC HRP HPL HPN HIN HS0 HS1
      go_wp2_with fail
      refine wp_region_after (by kernel_rfl) (by kernel_rfl) ?_
      repeat (go_big_quiet_step (first
        | with_reducible exact Calls.after_same (num_calls _ _)
        | with_reducible exact Calls.after (HSS.out _)
        | with_reducible exact Calls.after (HT0.out _)
        | with_reducible exact Calls.after (HT1.out _)
        | with_reducible exact Calls.after (HAW.out _)))
      refine wpQuiet_nil ?_
      rintro _ ⟨pq, rfl⟩
      go_wp2_with fail
      go_ret
      exact ⟨rfl, hm110.then0 pq.m⟩
end Go.Proofs.YtaldneffhbgepaaDoor

