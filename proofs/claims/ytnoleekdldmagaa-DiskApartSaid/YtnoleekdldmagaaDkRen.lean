/- DiskRenames: a file that gets another's name takes its place, whole, with what was synced of it; nothing else is touched: the walk of the law. -/
import Derived.Test.YtnoleekdldmagaaDkKeeps
namespace Go.Proofs.Ytnoleekdldmagaa
open Go.RowKit
set_option linter.unusedVariables false

def rA : ByteArray := ⟨#[97]⟩
def rB : ByteArray := ⟨#[98]⟩
def rC : ByteArray := ⟨#[99]⟩
theorem ltAB : cmpS rA rB < 0 := by decide +kernel
theorem ltAC : cmpS rA rC < 0 := by decide +kernel
theorem ltBC : cmpS rB rC < 0 := by decide +kernel
theorem neBA : rB ≠ rA := by decide +kernel
theorem fits_few (cap : Int) (keep : List Int) (fs : List Fl) (c : Nat) (hc : c ≤ 1000) (hl : fs.length ≤ 1000) (hu : usedF fs ≤ 100000) : Fits (freeD cap keep fs c) :=
  ⟨by simp only [freeD]; omega, by simp only [freeD]; omega, by simp only [freeD]; omega⟩
theorem ren1 (x : List UInt8) (s c : Nat) : createD (freeD 5000 [] [⟨rA, x, s⟩] c) rB = (freeD 5000 [] [⟨rA, x, s⟩, ⟨rB, [], 0⟩] (c + 1), 0) := by
  have h1 : hitF [⟨rA, x, s⟩] rB = false := by rw [hitF_cons, if_pos ltAB, hitF_nil]
  have h2 : lbF [⟨rA, x, s⟩] rB = 1 := by rw [lbF_cons, if_pos ltAB, lbF_nil]
  unfold createD
  rw [gateD_free]
  unfold createF
  rw [if_neg (by decide)]
  show (if hitF [⟨rA, x, s⟩] rB = true then _ else _) = _
  rw [if_neg (by rw [h1]; simp)]
  show (({ freeD 5000 [] [⟨rA, x, s⟩] (c + 1) with fs := putF [⟨rA, x, s⟩] ⟨rB, [], 0⟩ } : Dk), 0) = _
  unfold putF
  simp only [h1, h2]
  rfl
theorem ren2 (x y b : List UInt8) (s t c : Nat) (h : x.length + y.length + b.length ≤ 5000) : appendD (freeD 5000 [] [⟨rA, x, s⟩, ⟨rB, y, t⟩] c) rB b = (freeD 5000 [] [⟨rA, x, s⟩, ⟨rB, y ++ b, t⟩] (c + 1), 0) := by
  have h1 : hitF [⟨rA, x, s⟩, ⟨rB, y, t⟩] rB = true := by rw [hitF_cons, if_pos ltAB]; exact hitF_one _ _ _ _
  have h2 : lbF [⟨rA, x, s⟩, ⟨rB, y, t⟩] rB = 1 := by rw [lbF_cons, if_pos ltAB, lbF_one]
  unfold appendD withD
  rw [gateD_free, hitAns_true _ h1]
  show appendF b _ (lbF [⟨rA, x, s⟩, ⟨rB, y, t⟩] rB) = _
  rw [h2]
  unfold appendF
  rw [if_neg (by simp [freeD, usedF]; omega)]
  rfl
theorem ren3 (x y : List UInt8) (s t c : Nat) : createD (freeD 5000 [] [⟨rA, x, s⟩, ⟨rB, y, t⟩] c) rC = (freeD 5000 [] [⟨rA, x, s⟩, ⟨rB, y, t⟩, ⟨rC, [], 0⟩] (c + 1), 0) := by
  have h1 : hitF [⟨rA, x, s⟩, ⟨rB, y, t⟩] rC = false := by rw [hitF_cons, if_pos ltAC, hitF_cons, if_pos ltBC, hitF_nil]
  have h2 : lbF [⟨rA, x, s⟩, ⟨rB, y, t⟩] rC = 2 := by rw [lbF_cons, if_pos ltAC, lbF_cons, if_pos ltBC, lbF_nil]
  unfold createD
  rw [gateD_free]
  unfold createF
  rw [if_neg (by decide)]
  show (if hitF [⟨rA, x, s⟩, ⟨rB, y, t⟩] rC = true then _ else _) = _
  rw [if_neg (by rw [h1]; simp)]
  show (({ freeD 5000 [] [⟨rA, x, s⟩, ⟨rB, y, t⟩] (c + 1) with fs := putF [⟨rA, x, s⟩, ⟨rB, y, t⟩] ⟨rC, [], 0⟩ } : Dk), 0) = _
  unfold putF
  simp only [h1, h2]
  rfl
theorem ren4 (x y : List UInt8) (s t c : Nat) : renameD (freeD 5000 [] [⟨rA, x, s⟩, ⟨rB, y, t⟩, ⟨rC, [], 0⟩] c) rA rB = (freeD 5000 [] [⟨rB, x, s⟩, ⟨rC, [], 0⟩] (c + 1), 0) := by
  have h1 : hitF [⟨rB, y, t⟩, ⟨rC, [], 0⟩] rB = true := hitF_one _ _ _ _
  have h2 : lbF [⟨rB, y, t⟩, ⟨rC, [], 0⟩] rB = 0 := lbF_one _ _ _ _
  unfold renameD withD
  rw [gateD_free, hitAns_true _ (hitF_one _ _ _ _)]
  show renameF rA rB _ (lbF [⟨rA, x, s⟩, ⟨rB, y, t⟩, ⟨rC, [], 0⟩] rA) = _
  rw [lbF_one]
  unfold renameF
  rw [if_neg (by decide), if_neg (by decide)]
  show (({ freeD 5000 [] [⟨rA, x, s⟩, ⟨rB, y, t⟩, ⟨rC, [], 0⟩] (c + 1) with fs := putF [⟨rB, y, t⟩, ⟨rC, [], 0⟩] ⟨rB, x, s⟩ } : Dk), 0) = _
  unfold putF
  simp only [h1, h2]
  rfl
theorem ren5 (x : List UInt8) (s c : Nat) (cap : Int) : readD (freeD cap [] [⟨rB, x, s⟩, ⟨rC, [], 0⟩] c) rB = (x, 0) := by
  unfold readD
  rw [if_neg (by simp [freeD]), if_pos (show hitF (freeD cap [] [⟨rB, x, s⟩, ⟨rC, [], 0⟩] c).fs rB = true from hitF_one _ _ _ _)]
  show ((fileAt _ (lbF [⟨rB, x, s⟩, ⟨rC, [], 0⟩] rB)).b, 0) = _
  rw [lbF_one]
  rfl
theorem ren6 (x : List UInt8) (s c : Nat) (cap : Int) : readD (freeD cap [] [⟨rB, x, s⟩, ⟨rC, [], 0⟩] c) rA = ([], 3) := by
  have h1 : hitF [⟨rB, x, s⟩, ⟨rC, [], 0⟩] rA = false := by rw [hitF_cons, if_neg (lt_asymm ltAB)]; exact decide_eq_false neBA
  unfold readD
  rw [if_neg (by simp [freeD]), if_neg (by show ¬ hitF [⟨rB, x, s⟩, ⟨rC, [], 0⟩] rA = true; rw [h1]; simp)]

set_option maxHeartbeats 2000000 in
set_option maxRecDepth 100000 in
theorem diskRenames_walk (l0 l1 : List UInt8) (cr : Bool) (a0 a1 : Option Addr) (c0 c1 : Nat) (w : World) (rd0 : Rd w 1 a0 l0.length (encB l0)) (rd1 : Rd w 1 a1 l1.length (encB l1)) :
    Calls Try.prog 11 #[.slice a0 l0.length c0, .slice a1 l1.length c1, .bool cr] w fun e w' => e = .returned (.bool true) ∧ Mod NoneB w w' := by
  by_cases hg : 500 < l0.length ∨ 500 < l1.length
  · by_cases hg0 : 500 < l0.length
    · go_enter Try.func11, Try.ntmps11
      go_wp2_with ((with_reducible refine (awake1_calls _).mono ?_); rintro e wz ⟨rfl, hz⟩)
      go_ret
      exact ⟨rfl, hz⟩
    · have hg1 : 500 < l1.length := by omega
      clear hg
      go_enter Try.func11, Try.ntmps11
      go_wp2_with ((with_reducible refine (awake1_calls _).mono ?_); rintro e wz ⟨rfl, hz⟩)
      go_ret
      exact ⟨rfl, hz⟩
  · have hg0 : l0.length ≤ 500 := by omega
    have hg1 : l1.length ≤ 500 := by omega
    have hb0 := rd0.block_lt (by decide)
    have hb1 := rd1.block_lt (by decide)
    have HB0 := Lib.hid hb0
    have HB1 := Lib.hid hb1
    clear hg hb0 hb1
    go_enter Try.func11, Try.ntmps11
    go_wp2_with fail
    refine (Dw.new0 w _ (Mod.refl _ _) 5000).mono ?_
    rintro e w1 ⟨p, rfl, hD⟩
    go_wp2_with fail
    refine (hD.create rA (fits_nil _ _ _ (by omega))).mono ?_
    rintro e w2 ⟨rfl, hD1⟩
    rw [create_nil0 _ _ _ _ (by decide)] at hD1 ⊢
    clear hD
    go_wp2_with fail
    refine (hD1.append (Mod.refl _ _) rA l0 a0 c0 (rd0.mod0 hD1.base) (fun hp ad h => .inl (HB0.out hp ad h)) (fits_one _ _ _ _ _ _ (by omega) (by simp)) (by simp [freeD, usedF]; omega)).mono ?_
    rintro e w3 ⟨rfl, hD2⟩
    rw [append_one _ _ _ _ _ _ _ (by simp; omega)] at hD2 ⊢
    clear hD1
    rw [List.nil_append] at hD2
    go_wp2_with fail
    refine (hD2.sync rA (fits_one _ _ _ _ _ _ (by omega) (by omega))).mono ?_
    rintro e w4 ⟨rfl, hD3⟩
    rw [sync_one] at hD3 ⊢
    clear hD2
    go_wp2_with fail
    refine (hD3.create rB (fits_one _ _ _ _ _ _ (by omega) (by omega))).mono ?_
    rintro e w5 ⟨rfl, hD4⟩
    rw [ren1] at hD4 ⊢
    clear hD3
    go_wp2_with fail
    refine (hD4.append (Mod.refl _ _) rB l1 a1 c1 (rd1.mod0 hD4.base) (fun hp ad h => .inl (HB1.out hp ad h)) (fits_few _ _ _ _ (by omega) (by simp) (by simp [usedF]; omega)) (by simp [freeD, usedF]; omega)).mono ?_
    rintro e w6 ⟨rfl, hD5⟩
    rw [ren2 _ _ _ _ _ _ (by simp; omega), List.nil_append] at hD5
    rw [ren2 _ _ _ _ _ _ (by simp; omega)]
    clear hD4
    go_wp2_with fail
    refine (hD5.create rC (fits_few _ _ _ _ (by omega) (by simp) (by simp [usedF]; omega))).mono ?_
    rintro e w7 ⟨rfl, hD6⟩
    rw [ren3] at hD6 ⊢
    clear hD5
    go_wp2_with fail
    refine (hD6.rename rA rB (fits_few _ _ _ _ (by omega) (by simp) (by simp [usedF]; omega))).mono ?_
    rintro e w8 ⟨rfl, hD7⟩
    rw [ren4] at hD7 ⊢
    clear hD6
    have hf : ∀ cap c, c ≤ 100 → Fits (freeD cap [] [⟨rB, l0, l0.length⟩, ⟨rC, [], 0⟩] c) := fun cap c hc => fits_few _ _ _ _ (by omega) (by simp) (by simp [usedF]; omega)
    have HF := Lib.hid hf
    clear hf
    cases cr with
    | true =>
      go_wp2_with fail
      refine (hD7.restart0 0 (HF.out _ _ (by omega))).mono ?_
      rintro e w9 ⟨rfl, hD8⟩
      have hr : ∀ c, restartD (freeD 5000 [] [⟨rB, l0, l0.length⟩, ⟨rC, [], 0⟩] c) ⟨0, [], 0, false, []⟩ = freeD 0 [] [⟨rB, l0, l0.length⟩, ⟨rC, [], 0⟩] 0 := by
        intro c
        rw [restart_free]
        show freeD 0 [] [restF [] 0 ⟨rB, l0, l0.length⟩, restF [] 1 ⟨rC, [], 0⟩] 0 = _
        rw [restF_len _ _ _ (Nat.le_refl _), restF_len _ _ _ (Nat.le_refl _)]
        simp only [List.take_of_length_le (Nat.le_add_right _ _), List.take_nil, List.length_nil]
      rw [hr] at hD8
      clear hr hD7
      go_wp2_with fail
      refine (hD8.read rB (HF.out _ _ (by omega))).mono ?_
      rintro e w10 ⟨v, rfl, hov, hD9, hm10, _⟩
      rw [ren5] at hov ⊢
      obtain ⟨V, c, rfl, hrv⟩ := hov.nilD
      go_wp2_with fail
      refine (hD9.read rA (HF.out _ _ (by omega))).mono ?_
      rintro e w11 ⟨v, rfl, hov2, hD10, hm11, _⟩
      rw [ren6] at hov2 ⊢
      obtain ⟨V2, c2, rfl, _⟩ := hov2.nilD
      have hx1 : (convert 35 9 (.slice V l0.length c)).run Try.prog w11 = .ok (.string (strOf l0)) w11 := conv_str (hrv.mod0 hm11)
      have hx2 : (convert 35 9 (.slice a0 l0.length c0)).run Try.prog w11 = .ok (.string (strOf l0)) w11 := conv_str (rd0.mod0 hD10.base)
      clear hD8 hD9 hov hrv hov2
      go_wp2_with (first
        | ((with_reducible refine (num_calls _ _).mono ?_); rintro e wz ⟨rfl, rfl⟩)
        | ((with_reducible refine (hD10.files (HF.out _ _ ?_)).mono ?_); (omega); rintro e w12 ⟨fv, vs, rfl, hfa, hD11, hm12⟩; obtain ⟨Af, cf, hfv, _⟩ := hfa.own.nilD; (replace hfv : fv = .slice Af 2 cf := hfv); subst hfv)
        | ((with_reducible refine (awake1_calls _).mono ?_); rintro ez wz ⟨rfl, hmz⟩))
      go_ret
      exact ⟨rfl, hD11.base.then0 hmz⟩
    | false =>
      go_wp2_with fail
      refine (hD7.read rB (HF.out _ _ (by omega))).mono ?_
      rintro e w10 ⟨v, rfl, hov, hD9, hm10, _⟩
      rw [ren5] at hov ⊢
      obtain ⟨V, c, rfl, hrv⟩ := hov.nilD
      go_wp2_with fail
      refine (hD9.read rA (HF.out _ _ (by omega))).mono ?_
      rintro e w11 ⟨v, rfl, hov2, hD10, hm11, _⟩
      rw [ren6] at hov2 ⊢
      obtain ⟨V2, c2, rfl, _⟩ := hov2.nilD
      have hx1 : (convert 35 9 (.slice V l0.length c)).run Try.prog w11 = .ok (.string (strOf l0)) w11 := conv_str (hrv.mod0 hm11)
      have hx2 : (convert 35 9 (.slice a0 l0.length c0)).run Try.prog w11 = .ok (.string (strOf l0)) w11 := conv_str (rd0.mod0 hD10.base)
      clear hD7 hD9 hov hrv hov2
      go_wp2_with (first
        | ((with_reducible refine (num_calls _ _).mono ?_); rintro e wz ⟨rfl, rfl⟩)
        | ((with_reducible refine (hD10.files (HF.out _ _ ?_)).mono ?_); (omega); rintro e w12 ⟨fv, vs, rfl, hfa, hD11, hm12⟩; obtain ⟨Af, cf, hfv, _⟩ := hfa.own.nilD; (replace hfv : fv = .slice Af 2 cf := hfv); subst hfv)
        | ((with_reducible refine (awake1_calls _).mono ?_); rintro ez wz ⟨rfl, hmz⟩))
      go_ret
      exact ⟨rfl, hD11.base.then0 hmz⟩
end Go.Proofs.Ytnoleekdldmagaa
