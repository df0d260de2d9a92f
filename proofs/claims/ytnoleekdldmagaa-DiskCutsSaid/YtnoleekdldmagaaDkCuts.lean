/- DiskCuts: what is cut is a beginning, for good; what is appended behind it stands behind it: the walk of the law. -/
import Derived.Test.YtnoleekdldmagaaDkKeeps
namespace Go.Proofs.Ytnoleekdldmagaa
open Go.RowKit
set_option linter.unusedVariables false

set_option maxHeartbeats 2000000 in
set_option maxRecDepth 100000 in
theorem diskCuts_walk (l0 l1 : List UInt8) (z : Int) (cr : Bool) (a0 a1 : Option Addr) (c0 c1 : Nat) (w : World) (rd0 : Rd w 1 a0 l0.length (encB l0)) (rd1 : Rd w 1 a1 l1.length (encB l1)) (lc0 : l0.length ≤ c0) (wz : (Lit.int .u16 z).wf = true) :
    Calls Try.prog 8 #[.slice a0 l0.length c0, .slice a1 l1.length c1, .int .u16 z, .bool cr] w fun e w' => e = .returned (.bool true) ∧ Mod NoneB w w' := by
  have hz : 0 ≤ z ∧ z ≤ 65535 := by simp [Lit.wf] at wz; exact wz
  clear wz
  by_cases hg : 1000 < l0.length ∨ 1000 < l1.length
  · by_cases hg0 : 1000 < l0.length
    · go_enter Try.func8, Try.ntmps8
      go_wp2_with ((with_reducible refine (awake1_calls _).mono ?_); rintro e wz ⟨rfl, hz⟩)
      go_ret
      exact ⟨rfl, hz⟩
    · have hg1 : 1000 < l1.length := by omega
      clear hg
      go_enter Try.func8, Try.ntmps8
      go_wp2_with ((with_reducible refine (awake1_calls _).mono ?_); rintro e wz ⟨rfl, hz⟩)
      go_ret
      exact ⟨rfl, hz⟩
  · have hg0 : l0.length ≤ 1000 := by omega
    have hg1 : l1.length ≤ 1000 := by omega
    have hb0 := rd0.block_lt (by decide)
    have hb1 := rd1.block_lt (by decide)
    have HB0 := Lib.hid hb0
    have HB1 := Lib.hid hb1
    obtain ⟨hz0, hz1⟩ := hz
    clear hg hb0 hb1
    obtain ⟨m, hm⟩ : ∃ m : Nat, m = z.toNat % (l0.length + 1) := ⟨_, rfl⟩
    have hml : m ≤ l0.length := by rw [hm]; exact Nat.lt_succ_iff.1 (Nat.mod_lt z.toNat (Nat.succ_pos l0.length))
    have hme : z % ((l0.length : Int) + 1) = (m : Int) := by
      rw [hm, Int.natCast_emod]
      congr 1
      omega
    have HME := Lib.hid hme
    clear hme hm
    go_enter Try.func8, Try.ntmps8
    go_wp2_with fail
    have hm0 : Mod NoneB w (w.alloc (.cells #[.int .i64 5000] 3)) := (Mod.refl NoneB _).alloc _
    have hK : Rd (w.alloc (.cells #[.int .i64 5000] 3)) 1 (some ⟨w.heap.size, 0, none⟩) 1 (encI [5000]) := rd_blk (box1 w _) rfl (by omega)
    refine (Dw.new w _ hm0 ⟨5000, [], 0, false, [5000]⟩ none (some ⟨w.heap.size, 0, none⟩) 0 1 (Rd.nil _ _ _) hK (Nat.zero_le _) (by show 1 ≤ 1099511627776; omega)).mono ?_
    rintro e w1 ⟨p, rfl, hD⟩
    replace hD : Dw w w1 p (freeD 5000 [5000] [] 0) := hD
    clear hm0 hK
    go_wp2_with fail
    rw [HME.out]
    refine (hD.create sX (fits_nil _ _ _ (by omega))).mono ?_
    rintro e w2 ⟨rfl, hD1⟩
    rw [create_nil0 _ _ _ _ (by decide)] at hD1 ⊢
    clear hD
    go_wp2_with fail
    refine (hD1.append (Mod.refl _ _) sX l0 a0 c0 (rd0.mod0 hD1.base) (fun hp ad h => .inl (HB0.out hp ad h)) (fits_one _ _ _ _ _ _ (by omega) (by simp)) (by simp [freeD, usedF]; omega)).mono ?_
    rintro e w3 ⟨rfl, hD2⟩
    rw [append_one _ _ _ _ _ _ _ (by simp; omega)] at hD2 ⊢
    clear hD1
    go_wp2_with fail
    refine (hD2.sync sX (fits_one _ _ _ _ _ _ (by omega) (by simp; omega))).mono ?_
    rintro e w4 ⟨rfl, hD3⟩
    rw [sync_one] at hD3 ⊢
    clear hD2
    rw [List.nil_append] at hD3
    go_wp2_with fail
    refine (hD3.cut sX m (fits_one _ _ _ _ _ _ (by omega) (by omega))).mono ?_
    rintro e w5 ⟨rfl, hD4⟩
    rw [cut_one _ _ _ _ _ _ _ hml] at hD4 ⊢
    clear hD3
    obtain ⟨b, hb⟩ : ∃ b, b = l0.take m := ⟨_, rfl⟩
    have hbl : b.length = m := by rw [hb, List.length_take]; omega
    have hs : min l0.length m = b.length := by omega
    rw [← hb, hs] at hD4
    have HBB := Lib.hid hb
    have HBL := Lib.hid hbl
    have hbm : b.length ≤ 1000 := by omega
    clear hb hs hbl
    go_wp2_with fail
    refine (hD4.cut sX ((m : Int) + 1) (fits_one _ _ _ _ _ _ (by omega) (by omega))).mono ?_
    rintro e w6 ⟨rfl, hD5⟩
    rw [cut_bad _ _ _ _ _ _ _ (by have := HBL.out; omega)] at hD5 ⊢
    clear hD4
    have hfin : ∀ wx (keep : List Int) (c s : Nat), c ≤ 100 → s ≤ 1000 → Dw w wx p (freeD 5000 keep [⟨sX, b, s⟩] c) → Calls Try.prog 35 #[.pointer (some ⟨p, 0, none⟩), .string sX, .slice a1 l1.length c1] wx fun e w' => e = .returned (.int .i64 0) ∧ Dw w w' p (freeD 5000 keep [⟨sX, b ++ l1, s⟩] (c + 1)) := by
      intro wx keep c s hc hs hD
      refine (hD.append (Mod.refl _ _) sX l1 a1 c1 (rd1.mod0 hD.base) (fun hp ad h => .inl (HB1.out hp ad h)) (fits_one _ _ _ _ _ _ (by omega) (by omega)) (by simp [freeD, usedF]; omega)).mono ?_
      rintro e w3 ⟨rfl, hD2⟩
      rw [append_one _ _ _ _ _ _ _ (by omega)] at hD2 ⊢
      exact ⟨rfl, hD2⟩
    have HFIN := Lib.hid hfin
    obtain ⟨bb, hbb⟩ : ∃ bb, bb = b ++ l1 := ⟨_, rfl⟩
    have hbbl : bb.length ≤ 2000 := by rw [hbb, List.length_append]; omega
    have HQ : Hid (∀ wx : World, ((strOf bb).toList == (strOf (l0.take m) ++ strOf l1).toList) = true) := Lib.hid (fun _ => by rw [beq_toList, hbb, HBB.out, strOf_append]; simp)
    have HBQ := Lib.hid hbb
    clear hfin hbb
    cases cr with
    | true =>
      go_wp2_with fail
      refine (hD5.restart0 5000 (fits_one _ _ _ _ _ _ (by omega) (by omega))).mono ?_
      rintro e w7 ⟨rfl, hD6⟩
      have hr : restartD (freeD 5000 [5000] [⟨sX, b, b.length⟩] (0 + 1 + 1 + 1 + 1 + 1)) ⟨5000, [], 0, false, []⟩ = freeD 5000 [] [⟨sX, b, b.length⟩] 0 := by
        rw [restart_free]
        show freeD 5000 [] [restF [5000] 0 ⟨sX, b, b.length⟩] 0 = _
        rw [restF_len _ _ _ (Nat.le_refl _)]
        simp only [List.take_of_length_le (Nat.le_add_right _ _)]
      rw [hr] at hD6
      clear hr hD5
      go_wp2_with fail
      refine (HFIN.out _ _ _ _ (by omega) (by omega) hD6).mono ?_
      rintro e w8 ⟨rfl, hD7⟩
      rw [← HBQ.out] at hD7
      clear hD6
      go_wp2_with fail
      refine (hD7.read sX (fits_one _ _ _ _ _ _ (by omega) (by omega))).mono ?_
      rintro e w9 ⟨v, rfl, hov, hD8, _, _⟩
      rw [read_one] at hov ⊢
      obtain ⟨V, c, rfl, hrv⟩ := hov.nilD
      clear hD7
      have hd9 : Mod NoneB w9 w9.drew := (Mod.refl _ _).drew
      have hx1 : (convert 35 9 (.slice V bb.length c)).run Try.prog w9.drew = .ok (.string (strOf bb)) w9.drew := conv_str (hrv.mod0 hd9)
      have hx2 : (convert 35 9 (.slice a1 l1.length c1)).run Try.prog w9.drew = .ok (.string (strOf l1)) w9.drew := conv_str ((rd1.mod0 hD8.base).mod0 hd9)
      have hx3 : (convert 35 9 (.slice a0 m c0)).run Try.prog w9.drew = .ok (.string (strOf (l0.take m))) w9.drew := conv_strN (by rw [List.length_take]; omega) (((rd0.mod0 hD8.base).mod0 hd9).takeB hml)
      have hq := HQ.out w9
      have hsz : ¬ (9223372036854775807 < (strOf (l0.take m)).size + (strOf l1).size) := by rw [strOf_size, strOf_size, List.length_take]; omega
      have e1 : (0 : Int) ≤ (m : Int) := by omega
      have e2 : (m : Int) ≤ (c0 : Int) := by omega
      have hbase := (hD8.mod0 hd9).base
      clear hrv hov
      go_wp2_with fail
      refine wp_region_still_tail 26 (by kernel_rfl) (by kernel_rfl) ?_
      simp only [List.take_succ_cons, List.take_zero, List.drop_succ_cons, List.drop_zero]
      repeat (first
        | still_step
        | still_call (num_calls _ _))
      refine wpStill_nil ?_
      change wpList _ _ _ _ _ w9.drew
      go_wp2_with ((with_reducible refine (awake1_calls _).mono ?_); rintro ez wz ⟨rfl, hmz⟩)
      go_ret
      exact ⟨rfl, hbase.then0 hmz⟩
    | false =>
      go_wp2_with fail
      refine (HFIN.out _ _ _ _ (by omega) (by omega) hD5).mono ?_
      rintro e w8 ⟨rfl, hD7⟩
      rw [← HBQ.out] at hD7
      clear hD5
      go_wp2_with fail
      refine (hD7.read sX (fits_one _ _ _ _ _ _ (by omega) (by omega))).mono ?_
      rintro e w9 ⟨v, rfl, hov, hD8, _, _⟩
      rw [read_one] at hov ⊢
      obtain ⟨V, c, rfl, hrv⟩ := hov.nilD
      clear hD7
      have hd9 : Mod NoneB w9 w9.drew := (Mod.refl _ _).drew
      have hx1 : (convert 35 9 (.slice V bb.length c)).run Try.prog w9.drew = .ok (.string (strOf bb)) w9.drew := conv_str (hrv.mod0 hd9)
      have hx2 : (convert 35 9 (.slice a1 l1.length c1)).run Try.prog w9.drew = .ok (.string (strOf l1)) w9.drew := conv_str ((rd1.mod0 hD8.base).mod0 hd9)
      have hx3 : (convert 35 9 (.slice a0 m c0)).run Try.prog w9.drew = .ok (.string (strOf (l0.take m))) w9.drew := conv_strN (by rw [List.length_take]; omega) (((rd0.mod0 hD8.base).mod0 hd9).takeB hml)
      have hq := HQ.out w9
      have hsz : ¬ (9223372036854775807 < (strOf (l0.take m)).size + (strOf l1).size) := by rw [strOf_size, strOf_size, List.length_take]; omega
      have e1 : (0 : Int) ≤ (m : Int) := by omega
      have e2 : (m : Int) ≤ (c0 : Int) := by omega
      have hbase := (hD8.mod0 hd9).base
      clear hrv hov
      go_wp2_with fail
      refine wp_region_still_tail 26 (by kernel_rfl) (by kernel_rfl) ?_
      simp only [List.take_succ_cons, List.take_zero, List.drop_succ_cons, List.drop_zero]
      repeat (first
        | still_step
        | still_call (num_calls _ _))
      refine wpStill_nil ?_
      change wpList _ _ _ _ _ w9.drew
      go_wp2_with ((with_reducible refine (awake1_calls _).mono ?_); rintro ez wz ⟨rfl, hmz⟩)
      go_ret
      exact ⟨rfl, hbase.then0 hmz⟩
end Go.Proofs.Ytnoleekdldmagaa
