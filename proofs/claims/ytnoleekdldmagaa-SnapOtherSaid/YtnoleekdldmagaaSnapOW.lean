/- SnapOther: a load of any bytes and a save of any pairs answer as the document's: the walk of the law. -/
import Derived.Test.YtnoleekdldmagaaSnapO
namespace Go.Proofs.Ytnoleekdldmagaa
open Go.RowKit
set_option linter.unusedVariables false

theorem tableR_le {l : List Pr} (h : wS l ≤ 24000) : (tableR l).1.length ≤ 24012 := by
  by_cases hr : Rises l
  · rw [tableR_ok hr h, frameB_length]
    have := (wS_small h).2
    omega
  · rw [show tableR l = ([], 1) from if_neg hr]
    exact Nat.zero_le _
theorem save_err (b : List UInt8) (c : Nat) (l : List Pr) (hb : b.length ≤ 3000) (h : wS l ≤ 24000) : (saveR (freeD 100000 [] [⟨sSnap, b, 0⟩] c) l).2 = (tableR l).2 := by
  unfold saveR
  by_cases h0 : (tableR l).2 = 0
  · rw [if_pos h0, h0]
    exact save_one _ _ _ (by have := tableR_le h; omega)
  · rw [if_neg h0]
theorem load_one (b : List UInt8) (c : Nat) : loadR (freeD 100000 [] [⟨sSnap, b, 0⟩] c) = ((fromT b).getD [], errP (fromT b)) := by
  unfold loadR
  rw [read_one]
  rfl
theorem fitsO (cap : Int) (keep : List Int) (n : ByteArray) (x : List UInt8) (s c : Nat) (hc : c ≤ 1000) (hx : x.length ≤ 1000000) : Fits (freeD cap keep [⟨n, x, s⟩] c) :=
  ⟨by simp only [freeD]; omega, by simp [freeD], by simp [freeD, usedF]; omega⟩
theorem fitsN (cap : Int) (keep : List Int) (c : Nat) (hc : c ≤ 1000) : Fits (freeD cap keep [] c) :=
  ⟨by simp only [freeD]; omega, by simp [freeD], by simp [freeD, usedF]⟩
theorem Dx.base {w0 w : World} {p : Nat} {d : Dk} (h : Dx (OldB w0) w0 w p d) : Mod NoneB w0 w := h.old.base

set_option maxHeartbeats 8000000 in
set_option maxRecDepth 100000 in
theorem snapOther_walk (b : List UInt8) (l : List Pr) (a0 a1 : Option Addr) (c0 c1 : Nat) (w : World) (rd0 : Rd w 1 a0 b.length (encB b)) (lc : b.length ≤ c0) (rd1 : Rd w 2 a1 l.length (encPs l)) :
    Calls Try.prog 20 #[.slice a0 b.length c0, .slice a1 l.length c1] w fun e w' => e = .returned (.bool true) ∧ Mod NoneB w w' := by
  go_enter Try.func20, Try.ntmps20
  by_cases hlb : 3000 < b.length
  · have hg : ((3000 : Int) < (b.length : Int)) := by omega
    go_wp2_with ((with_reducible refine (awake8_calls _).mono ?_); rintro e wz ⟨rfl, hmz⟩)
    go_ret
    exact ⟨rfl, hmz⟩
  · have hg : ¬ ((3000 : Int) < (b.length : Int)) := by omega
    go_wp2_with fail
    refine (greatP_calls l a1 c1 _ rd1).mono ?_
    rintro e w1 ⟨g, rfl, hm1, hg1⟩
    cases g with
    | true =>
      clear hg1
      go_wp2_with ((with_reducible refine (awake8_calls _).mono ?_); rintro e wz ⟨rfl, hmz⟩)
      go_ret
      exact ⟨rfl, hm1.then0 hmz⟩
    | false =>
      have hw := wS_great l (hg1 rfl)
      have hw' := hg1 rfl
      clear hg1
      have hw2 : wS l ≤ 24000 := by omega
      have hsm := (wS_small hw2).1
      have htl := tableR_le hw2
      go_wp2_with fail
      refine (Dw.new0 w _ hm1 100000).mono ?_
      rintro e w2 ⟨p, rfl, hD⟩
      replace hD : Dx (OldB w) w w2 p (freeD 100000 [] [] 0) := hD.toX
      go_wp2_with fail
      refine (hD.create sSnap (fitsN _ _ _ (by omega))).mono ?_
      rintro e w3 ⟨rfl, hD1⟩
      rw [create_nil0 _ _ _ _ (by decide)] at hD1 ⊢
      replace hD1 : Dx (OldB w) w w3 p (freeD 100000 [] [⟨sSnap, [], 0⟩] 1) := hD1
      clear hD
      go_wp2_with fail
      refine (hD1.append (Mod.refl _ _) sSnap b a0 c0 (rd0.mod0 hD1.base) (fun hp ad hA => Or.inl (rd0.block_lt (by decide) hp ad hA)) (fitsO _ _ _ _ _ _ (by omega) (by simp)) (by simp [freeD, usedF]; omega)).mono ?_
      rintro e w4 ⟨rfl, hD2⟩
      rw [append_one _ _ _ _ _ _ _ (by simp; omega)] at hD2 ⊢
      replace hD2 : Dx (OldB w) w w4 p (freeD 100000 [] [⟨sSnap, b, 0⟩] 2) := hD2
      clear hD1
      obtain ⟨m, hm⟩ : ∃ m, m = (fromT b).getD [] := ⟨_, rfl⟩
      obtain ⟨er, her⟩ : ∃ er, er = errP (fromT b) := ⟨_, rfl⟩
      have hlo : loadR (freeD 100000 [] [⟨sSnap, b, 0⟩] 2) = (m, er) := by rw [load_one, hm, her]
      obtain ⟨D, hDd⟩ : ∃ D, D = freeD 100000 [] [⟨sSnap, b, 0⟩] 2 := ⟨_, rfl⟩
      have hf2 : Fits D := hDd ▸ fitsO _ _ _ _ _ _ (by omega) (by omega)
      have hu2 : usedF D.fs ≤ 1099511627776 := by rw [hDd]; simp [freeD, usedF]; omega
      have hroom : RoomS D (tableR l).1 0 := by
        rw [hDd]
        exact ⟨by simp [freeD], by simp [freeD], by simp [freeD, usedF]; omega, by omega⟩
      have hse : (saveR D l).2 = (tableR l).2 := by rw [hDd]; exact save_err _ _ _ (by omega) hw2
      rw [← hDd] at hD2 hlo
      obtain ⟨te, hte⟩ : ∃ te, te = (tableR l).2 := ⟨_, rfl⟩
      rw [← hte] at hse
      have HSE := Lib.hid hse
      have HTE := Lib.hid hte
      have HM := Lib.hid hm
      have HER := Lib.hid her
      have HLO := Lib.hid hlo
      clear hDd hlo hse hte hm her htl hw' hw hw2
      go_wp2_with fail
      refine (load_calls hD2 hf2 hu2).mono ?_
      rintro e w5 ⟨v, rfl, hov, hD3, hm5, hn5⟩
      rw [HLO.out] at hov ⊢
      obtain ⟨A5, c5, hv, hr5⟩ := hov.nilD0
      replace hv : v = .slice A5 m.length c5 := hv
      replace hr5 : Rd w5 2 A5 m.length (encPs m) := hr5
      subst hv
      have hn5' : ∀ ad, A5 = some ad → w4.heap.size ≤ ad.block := fun ad hA => hn5 ad.block (by rw [hA]; rfl)
      clear hov hn5
      go_wp2_with fail
      refine (rfromTable_calls b a0 c0 _ (rd0.mod0 hD3.base) (by omega) lc).mono ?_
      rintro e w6 ⟨v, rfl, hov, hm6, hn6⟩
      rw [← HM.out] at hov
      rw [← HER.out]
      obtain ⟨A6, c6, hv, hr6⟩ := hov.nilD0
      replace hv : v = .slice A6 m.length c6 := hv
      replace hr6 : Rd w6 2 A6 m.length (encPs m) := hr6
      subst hv
      have hn6' : ∀ ad, A6 = some ad → w4.heap.size ≤ ad.block := fun ad hA => Nat.le_trans hm5.size (hn6 ad.block (by rw [hA]; rfl))
      have hD4 := hD3.mod0 hm6
      have hr56 := hr5.mod0 hm6
      have rd16 := rd1.mod0 hD4.base
      have hX : Dx (fun k => (k < w.heap.size ∨ w4.heap.size ≤ k) ∧ k < w6.heap.size) w6 w6 p D := hD2.keep (hm5.then0 hm6) (fun k hk => hk)
      clear hov hn6 hr5 hD2 hD3
      go_wp2_with fail
      refine (save_calls hX l a1 c1 rd16 hsm hroom).mono ?_
      rintro e w7 ⟨rfl, hX2⟩
      rw [HSE.out]
      have hr57 : Rd w7 2 A5 m.length (encPs m) := hX2.rd hr56 (fun hp ad hA => ⟨Or.inr (hn5' ad hA), hr56.block_lt (by decide) hp ad hA⟩)
      have hr67 : Rd w7 2 A6 m.length (encPs m) := hX2.rd hr6 (fun hp ad hA => ⟨Or.inr (hn6' ad hA), hr6.block_lt (by decide) hp ad hA⟩)
      have rd17 : Rd w7 2 a1 l.length (encPs l) := hX2.rd rd16 (fun hp ad hA => ⟨Or.inl (rd1.block_lt (by decide) hp ad hA), rd16.block_lt (by decide) hp ad hA⟩)
      have hb7 : Mod NoneB w w7 := (hX2.drop hD4.kept (fun k hk => ⟨⟨Or.inl hk, Nat.lt_of_lt_of_le hk hD4.base.size⟩, hk⟩)).base
      clear hX hX2 hr56 hr6 rd16 hD4 hn5' hn6' hroom hf2 hu2
      go_wp2_with fail
      refine (load_nil _).mono ?_
      rintro e w8 ⟨rfl, rfl⟩
      go_wp2_with fail
      refine (rtable_calls l a1 c1 _ rd17 hsm).mono ?_
      rintro e w9 ⟨v, rfl, hov, hm9, _⟩
      obtain ⟨A9, c9, hv, _⟩ := hov.nilD0
      subst hv
      rw [← HTE.out]
      have hpa : Calls Try.prog 29 #[.slice A5 m.length c5, .slice A6 m.length c6] w9 fun e w'' => e = .returned (.bool true) ∧ Mod NoneB w9 w'' := by
        have h := pairs_calls m m A5 A6 c5 c6 w9 (hr57.mod0 hm9) (hr67.mod0 hm9)
        rw [decide_eq_true rfl] at h
        exact h
      have hb9 := hb7.then0 hm9
      have HPA := Lib.hid hpa
      clear hpa hov hr57 hr67 rd17 hb7 hm9 hm5 hm6
      go_wp2_with (first
        | ((with_reducible refine (num_calls _ _).mono ?_); rintro ez wz ⟨rfl, rfl⟩)
        | ((with_reducible refine HPA.out.mono ?_); rintro ez wq ⟨rfl, hmq⟩)
        | ((with_reducible refine (save_nil _ _).mono ?_); rintro ez wz ⟨rfl, rfl⟩)
        | ((with_reducible refine (awake8_calls _).mono ?_); rintro ez wz ⟨rfl, hmz⟩))
      go_ret
      exact ⟨rfl, (hb9.then0 hmq).then0 hmz⟩
end Go.Proofs.Ytnoleekdldmagaa
