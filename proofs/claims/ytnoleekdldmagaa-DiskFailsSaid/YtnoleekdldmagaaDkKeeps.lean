/- DiskKeeps: what was synced stays behind any crash; of what was not a beginning, as long as the plan says: the walk of the law. -/
import Derived.Test.YtnoleekdldmagaaDkFiles
import Derived.StillTailTactics
namespace Go.Proofs.Ytnoleekdldmagaa
open Go.RowKit
set_option linter.unusedVariables false

def sX : ByteArray := ⟨#[120]⟩
theorem fits_one (cap : Int) (keep : List Int) (n : ByteArray) (x : List UInt8) (s c : Nat) (hc : c ≤ 1000) (hx : x.length ≤ 1000000) : Fits (freeD cap keep [⟨n, x, s⟩] c) :=
  ⟨by simp only [freeD]; omega, by simp [freeD], by simp [freeD, usedF]; omega⟩
theorem fits_nil (cap : Int) (keep : List Int) (c : Nat) (hc : c ≤ 1000) : Fits (freeD cap keep [] c) :=
  ⟨by simp only [freeD]; omega, by simp [freeD], by simp [freeD, usedF]⟩

set_option maxHeartbeats 2000000 in
set_option maxRecDepth 100000 in
theorem diskKeeps_walk (l0 l1 : List UInt8) (z : Int) (a0 a1 : Option Addr) (c0 c1 : Nat) (w : World) (rd0 : Rd w 1 a0 l0.length (encB l0)) (rd1 : Rd w 1 a1 l1.length (encB l1)) (lc1 : l1.length ≤ c1) :
    Calls Try.prog 9 #[.slice a0 l0.length c0, .slice a1 l1.length c1, .int .i64 z] w fun e w' => e = .returned (.bool true) ∧ Mod NoneB w w' := by
  by_cases hg : 2000 < l0.length ∨ 2000 < l1.length
  · by_cases hg0 : 2000 < l0.length
    · go_enter Try.func9, Try.ntmps9
      go_wp2_with ((with_reducible refine (awake1_calls _).mono ?_); rintro e wz ⟨rfl, hz⟩)
      go_ret
      exact ⟨rfl, hz⟩
    · have hg1 : 2000 < l1.length := by omega
      clear hg
      go_enter Try.func9, Try.ntmps9
      go_wp2_with ((with_reducible refine (awake1_calls _).mono ?_); rintro e wz ⟨rfl, hz⟩)
      go_ret
      exact ⟨rfl, hz⟩
  · have hg0 : l0.length ≤ 2000 := by omega
    have hg1 : l1.length ≤ 2000 := by omega
    have hb0 := rd0.block_lt (by decide)
    have hb1 := rd1.block_lt (by decide)
    have HB0 := Lib.hid hb0
    have HB1 := Lib.hid hb1
    clear hg hb0 hb1
    go_enter Try.func9, Try.ntmps9
    go_wp2_with fail
    have hm0 : Mod NoneB w (w.alloc (.cells #[.int .i64 z] 3)) := (Mod.refl NoneB _).alloc _
    have hK : Rd (w.alloc (.cells #[.int .i64 z] 3)) 1 (some ⟨w.heap.size, 0, none⟩) 1 (encI [z]) := rd_blk (box1 w _) rfl (by omega)
    refine (Dw.new w _ hm0 ⟨5000, [], 0, false, [z]⟩ none (some ⟨w.heap.size, 0, none⟩) 0 1 (Rd.nil _ _ _) hK (Nat.zero_le _) (by show 1 ≤ 1099511627776; omega)).mono ?_
    rintro e w1 ⟨p, rfl, hD⟩
    replace hD : Dw w w1 p (freeD 5000 [z] [] 0) := hD
    clear hm0 hK
    go_wp2_with fail
    refine (hD.create sX (fits_nil _ _ _ (by omega))).mono ?_
    rintro e w2 ⟨rfl, hD1⟩
    rw [create_nil0 _ _ _ _ (by decide)] at hD1 ⊢
    clear hD
    go_wp2_with fail
    refine (hD1.append (Mod.refl _ _) sX l0 a0 c0 (rd0.mod0 hD1.base) (fun hp ad h => .inl (HB0.out hp ad h)) (fits_one _ _ _ _ _ _ (by omega) (by simp)) (by simp [freeD, usedF]; omega)).mono ?_
    rintro e w3 ⟨rfl, hD2⟩
    rw [append_one _ _ _ _ _ _ _ (by simp; omega)] at hD2 ⊢
    clear hD1
    go_wp2_with fail
    refine (hD2.sync sX (fits_one _ _ _ _ _ _ (by omega) (by simp; omega))).mono ?_
    rintro e w4 ⟨rfl, hD3⟩
    rw [sync_one] at hD3 ⊢
    clear hD2
    rw [List.nil_append] at hD3
    go_wp2_with fail
    refine (hD3.append (Mod.refl _ _) sX l1 a1 c1 (rd1.mod0 hD3.base) (fun hp ad h => .inl (HB1.out hp ad h)) (fits_one _ _ _ _ _ _ (by omega) (by omega)) (by simp [freeD, usedF]; omega)).mono ?_
    rintro e w5 ⟨rfl, hD4⟩
    rw [append_one _ _ _ _ _ _ _ (by omega)] at hD4 ⊢
    clear hD3
    go_wp2_with fail
    refine (hD4.restart0 0 (fits_one _ _ _ _ _ _ (by omega) (by simp; omega))).mono ?_
    rintro e w6 ⟨rfl, hD5⟩
    obtain ⟨m, hm⟩ : ∃ m : Nat, m = min l1.length z.toNat := ⟨_, rfl⟩
    have hme : (max (0 : Int) (min z (l1.length : Int))) = m := by omega
    have hr : restartD (freeD 5000 [z] [⟨sX, l0 ++ l1, l0.length⟩] (0 + 1 + 1 + 1 + 1)) ⟨0, [], 0, false, []⟩ = freeD 0 [] [⟨sX, l0 ++ l1.take m, (l0 ++ l1.take m).length⟩] 0 := by
      rw [restart_free]
      have e : (l0 ++ l1).take (l0.length + (max 0 z).toNat) = l0 ++ l1.take m := by
        rw [List.take_append, List.take_of_length_le (by omega)]
        congr 1
        rw [show l0.length + (max 0 z).toNat - l0.length = z.toNat from by omega, hm]
        rw [Nat.min_comm, ← List.take_take, List.take_length]
      show freeD 0 [] [restF [z] 0 ⟨sX, l0 ++ l1, l0.length⟩] 0 = _
      rw [restF_len _ _ _ (by simp)]
      simp only [List.getElem?_cons_zero, Option.getD_some]
      rw [e]
    rw [hr] at hD5
    clear hr hD4
    have hml : m ≤ l1.length := by omega
    have HM := Lib.hid hm
    obtain ⟨b, hb⟩ : ∃ b, b = l0 ++ l1.take m := ⟨_, rfl⟩
    rw [← hb] at hD5
    have hbl : b.length ≤ 4000 := by rw [hb]; simp; omega
    have HBB := Lib.hid hb
    clear hb hm
    go_wp2_with fail
    refine (hD5.read sX (fits_one _ _ _ _ _ _ (by omega) (by omega))).mono ?_
    rintro e w7 ⟨v, rfl, hov, hD6, hm7, _⟩
    rw [read_one] at hov ⊢
    obtain ⟨V, c, rfl, hrv⟩ := hov.nilD
    clear hD5
    go_wp2_with fail
    refine (hD6.files (fits_one _ _ _ _ _ _ (by omega) (by omega))).mono ?_
    rintro e w8 ⟨fv, vs, rfl, hfa, hD7, hm8⟩
    obtain ⟨gf, cf, hfv⟩ := hfa.own.addrOf (Nat.succ_pos _)
    replace hfv : fv = .slice (some ⟨gf, 0, none⟩) 1 cf := hfv
    subst hfv
    obtain ⟨u0, rfl⟩ : ∃ u0, vs = [u0] := by
      have := hfa.len
      match vs, this with
      | [u], _ => exact ⟨u, rfl⟩
    have y2 : w8.cell? ⟨gf, 2, none⟩ = some (.int .i64 b.length) := Own.cellAt (n := 1) hfa.own 2 _ rfl
    have hd8 : Mod NoneB w8 w8.drew := (Mod.refl _ _).drew
    have hx1 : (convert 35 9 (.slice V b.length c)).run Try.prog w8.drew = .ok (.string (strOf b)) w8.drew := conv_str ((hrv.mod0 hm8).mod0 hd8)
    have hx2 : (convert 35 9 (.slice a0 l0.length c0)).run Try.prog w8.drew = .ok (.string (strOf l0)) w8.drew := conv_str ((rd0.mod0 hD7.base).mod0 hd8)
    have hx3 : (convert 35 9 (.slice a1 m c1)).run Try.prog w8.drew = .ok (.string (strOf (l1.take m))) w8.drew := conv_strN (by rw [List.length_take]; omega) (((rd1.mod0 hD7.base).mod0 hd8).takeB hml)
    have hq : ((strOf b).toList == (strOf l0 ++ strOf (l1.take m)).toList) = true := by
      rw [beq_toList, HBB.out, strOf_append]
      simp
    have hsz : ¬ (9223372036854775807 < (strOf l0).size + (strOf (l1.take m)).size) := by rw [strOf_size, strOf_size, List.length_take]; omega
    have e1 : (0 : Int) ≤ (m : Int) := by omega
    have e2 : (m : Int) ≤ (c1 : Int) := by omega
    have hD8 := hD7.mod0 hd8
    have hbase := hD8.base
    have HME := Lib.hid hme
    clear hrv hfa hm7 hm8 hov hme
    go_wp2_with fail
    rw [HME.out]
    refine wp_region_still_tail 35 (by kernel_rfl) (by kernel_rfl) ?_
    simp only [List.take_succ_cons, List.take_zero, List.drop_succ_cons, List.drop_zero]
    repeat (first
      | still_step
      | still_call (num_calls _ _)
      | still_call hD8.calls)
    refine wpStill_nil ?_
    change wpList _ _ _ _ _ w8.drew
    go_wp2_with ((with_reducible refine (awake1_calls _).mono ?_); rintro ez wz ⟨rfl, hmz⟩)
    go_ret
    exact ⟨rfl, hbase.then0 hmz⟩
end Go.Proofs.Ytnoleekdldmagaa
