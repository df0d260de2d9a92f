/- SnapFalls: without room for another save the one that was stays; a save behind it that fits is made: the walk of the law. -/
import Derived.Test.YtfbnkbdolimojaaSnapN
namespace Go.Proofs.Ytfbnkbdolimojaa
open Go.RowKit
set_option linter.unusedVariables false

theorem fitsB {D : Dk} (h : D.c ≤ 100 ∧ D.fs.length ≤ 100 ∧ usedF D.fs ≤ 1000000) : Fits D := ⟨by omega, by omega, by omega⟩

set_option maxHeartbeats 8000000 in
set_option maxRecDepth 100000 in
theorem snapFalls_walk (l0 l1 : List Pr) (a0 a1 : Option Addr) (c0 c1 : Nat) (w : World) (rd0 : Rd w 2 a0 l0.length (encPs l0)) (rd1 : Rd w 2 a1 l1.length (encPs l1)) :
    Calls Try.prog 9 #[.slice a0 l0.length c0, .slice a1 l1.length c1] w fun e w' => e = .returned (.bool true) ∧ Mod NoneB w w' := by
  go_enter Try.func9, Try.ntmps9
  go_wp2_with fail
  refine (greatP_calls l0 a0 c0 _ rd0).mono ?_
  rintro e w1 ⟨b, rfl, hm1, hb1⟩
  cases b with
  | true =>
    clear hb1
    go_wp2_with ((with_reducible refine (awake8_calls _).mono ?_); rintro e wz ⟨rfl, hmz⟩)
    go_ret
    exact ⟨rfl, hm1.then0 hmz⟩
  | false =>
    have hw0 := wS_great l0 (hb1 rfl)
    have hw0' := hb1 rfl
    clear hb1
    go_wp2_with fail
    refine (greatP_calls l1 a1 c1 _ (rd1.mod0 hm1)).mono ?_
    rintro e w2 ⟨b, rfl, hm2, hb2⟩
    have hm12 := hm1.then0 hm2
    cases b with
    | true =>
      clear hb2
      go_wp2_with ((with_reducible refine (awake8_calls _).mono ?_); rintro e wz ⟨rfl, hmz⟩)
      go_ret
      exact ⟨rfl, hm12.then0 hmz⟩
    | false =>
      have hw1 := wS_great l1 (hb2 rfl)
      have hw1' := hb2 rfl
      have hll0 := (wtP_le hw0').1
      have hll1 := (wtP_le hw1').1
      have ht0 := tabs_norm l0 (by omega)
      have ht1 := tabs_norm l1 (by omega)
      clear hb2 hm1 hm2 hw0 hw1 hw0' hw1'
      go_wp2_with fail
      refine (rapply0_calls l0 a0 c0 _ (rd0.mod0 hm12) (by omega)).mono ?_
      rintro e w3 ⟨v3, rfl, ho3, hm3⟩
      obtain ⟨p, hp⟩ : ∃ p, p = normT l0 := ⟨_, rfl⟩
      rw [← hp] at ho3 ht0
      obtain ⟨A3, c3, rfl, hrp⟩ := ho3.own.nilD0
      have hm13 := hm12.then0 hm3
      clear hp ho3 hm3
      go_wp2_with fail
      refine (rapply0_calls l1 a1 c1 _ (rd1.mod0 hm13) (by omega)).mono ?_
      rintro e w4 ⟨v4, rfl, ho4, hm4⟩
      obtain ⟨q, hq⟩ : ∃ q, q = normT l1 := ⟨_, rfl⟩
      rw [← hq] at ho4 ht1
      obtain ⟨A4, c4, rfl, hrq⟩ := ho4.own.nilD0
      have hm14 := hm13.then0 hm4
      have hrp4 := hrp.mod0 hm4
      obtain ⟨x, hx⟩ := ht0
      obtain ⟨y, hy⟩ := ht1
      have hxo := hx.ok
      have hyo := hy.ok
      have hxs := hx.small
      have hys := hy.small
      have hxl := hx.lo
      have hyl := hy.lo
      have hxh := hx.hi
      have hyh := hy.hi
      obtain ⟨D1, D2, D3, D4, g1, g2, g3, g4, g5, g6, gb⟩ := falls_ok hx hy
      have r0 : RoomS (freeD (((x.length + y.length : Nat) : Int) - 1) [] [] 0) (tableR p).1 0 := hx.room (by simp [freeD]) (by simp [freeD]) (by simp [freeD, usedF])
      have b1 := gb D1 (.inl rfl)
      have b2 := gb D2 (.inr (.inl rfl))
      have b3 := gb D3 (.inr (.inr (.inl rfl)))
      have b4 := gb D4 (.inr (.inr (.inr rfl)))
      have r1 : RoomS D1 (tableR q).1 0 := hy.room (by omega) (by omega) (by omega)
      have r3 : RoomS D3 (tableR q).1 0 := hy.room (by omega) (by omega) (by omega)
      have f2 : Fits D2 := fitsB (by omega)
      have f4 : Fits D4 := fitsB (by omega)
      have u2 : usedF D2.fs ≤ 1099511627776 := by omega
      have u4 : usedF D4.fs ≤ 1099511627776 := by omega
      have XO := Lib.hid hxo
      have YO := Lib.hid hyo
      have G1 := Lib.hid g1
      have G2 := Lib.hid g2
      have G3 := Lib.hid g3
      have G4 := Lib.hid g4
      have G5 := Lib.hid g5
      have G6 := Lib.hid g6
      clear hq ho4 hm4 hrp hx hy hxo hyo g1 g2 g3 g4 g5 g6 gb b1 b2 b3 b4
      go_wp2_with fail
      refine (rtable_calls p A3 c3 w4 hrp4 hxs).mono ?_
      rintro e w5 h5
      rw [XO.out] at h5
      obtain ⟨A5, c5, rfl, hc5, _, hm5⟩ := bytesP h5
      have hm15 := hm14.then0 hm5
      simp only at hc5
      clear h5
      go_wp2_with fail
      refine (rtable_calls q A4 c4 w5 (hrq.mod0 hm5) hys).mono ?_
      rintro e w6 h6
      rw [YO.out] at h6
      obtain ⟨A6, c6, rfl, hc6, _, hm6⟩ := bytesP h6
      have hm16 := hm15.then0 hm6
      simp only at hc6
      have hrp6 := (hrp4.mod0 hm5).mod0 hm6
      have hrq6 := (hrq.mod0 hm5).mod0 hm6
      have hpb := hrp6.block_lt (by decide)
      have hqb := hrq6.block_lt (by decide)
      have e1 : IntKind.i64.wrap ((x.length : Int) + (y.length : Int)) = (x.length : Int) + (y.length : Int) := IntWalk.i64_in _ (by omega)
      have e2 : IntKind.i64.wrap ((x.length : Int) + (y.length : Int) - 1) = (x.length : Int) + (y.length : Int) - 1 := IntWalk.i64_in _ (by omega)
      have HPB := Lib.hid hpb
      have HQB := Lib.hid hqb
      clear h6 hm5 hm6 hm15 hm14 hm13 hm12 hrp4 hrq hpb hqb rd0 rd1
      go_wp2_with fail
      refine (Dw.new0 w6 w6 (Mod.refl _ _) _).mono ?_
      rintro e w7 ⟨dp, rfl, hD0⟩
      rw [show (x.length : Int) + (y.length : Int) - 1 = ((x.length + y.length : Nat) : Int) - 1 from by omega] at hD0
      replace hD0 : Dx (OldB w6) w6 w7 dp (freeD (((x.length + y.length : Nat) : Int) - 1) [] [] 0) := hD0.toX
      go_wp2_with fail
      refine (save_calls hD0 p A3 c3 (hrp6.mod0 hD0.base) hxs r0).mono ?_
      rintro e w8 ⟨rfl, hD1⟩
      rw [G1.out] at hD1 ⊢
      clear hD0 r0
      go_wp2_with fail
      refine (save_calls hD1 q A4 c4 (hrq6.mod0 hD1.base) hys r1).mono ?_
      rintro e w9 ⟨rfl, hD2⟩
      rw [G2.out] at hD2 ⊢
      clear hD1 r1
      go_wp2_with fail
      refine (load_calls hD2 f2 u2).mono ?_
      rintro e w10 ⟨v, rfl, hov, hD2', hm10, hn10⟩
      rw [G3.out] at hov ⊢
      obtain ⟨A10, c10, hv, hr10⟩ := hov.nilD0
      replace hv : v = .slice A10 p.length c10 := hv
      replace hr10 : Rd w10 2 A10 p.length (encPs p) := hr10
      subst hv
      have hn10' : ∀ ad, A10 = some ad → w9.heap.size ≤ ad.block := fun ad hA => hn10 ad.block (by rw [hA]; rfl)
      have hX : Dx (fun k => (k < w6.heap.size ∨ w9.heap.size ≤ k) ∧ k < w10.heap.size) w10 w10 dp D2 := hD2.keep hm10 (fun k hk => hk)
      have hb10 := hr10.block_lt (by decide)
      have hs10 := hD2'.base.size
      clear hov hn10 hD2 u2
      go_wp2_with fail
      refine (hX.restart0 _ f2).mono ?_
      rintro e w11 ⟨rfl, hX3⟩
      rw [show (x.length : Int) + (y.length : Int) = ((x.length + y.length : Nat) : Int) from by omega, G4.out] at hX3
      have hrq11 : Rd w11 2 A4 q.length (encPs q) := hX3.rd (hrq6.mod0 hD2'.base) (fun hp ad hA => ⟨Or.inl (HQB.out hp ad hA), Nat.lt_of_lt_of_le (HQB.out hp ad hA) hs10⟩)
      clear hX f2
      go_wp2_with fail
      refine (save_calls hX3 q A4 c4 hrq11 hys r3).mono ?_
      rintro e w12 ⟨rfl, hX4⟩
      rw [G5.out] at hX4 ⊢
      clear hX3 hrq11 r3
      go_wp2_with fail
      refine (load_calls hX4 f4 u4).mono ?_
      rintro e w13 ⟨v, rfl, hov, hX5, hm13, hn13⟩
      rw [G6.out] at hov ⊢
      obtain ⟨A13, c13, hv, hr13⟩ := hov.nilD0
      replace hv : v = .slice A13 q.length c13 := hv
      replace hr13 : Rd w13 2 A13 q.length (encPs q) := hr13
      subst hv
      have hr10' : Rd w13 2 A10 p.length (encPs p) := hX5.rd hr10 (fun hp ad hA => ⟨Or.inr (hn10' ad hA), hb10 hp ad hA⟩)
      have hrp13 : Rd w13 2 A3 p.length (encPs p) := hX5.rd (hrp6.mod0 hD2'.base) (fun hp ad hA => ⟨Or.inl (HPB.out hp ad hA), Nat.lt_of_lt_of_le (HPB.out hp ad hA) hs10⟩)
      have hrq13 : Rd w13 2 A4 q.length (encPs q) := hX5.rd (hrq6.mod0 hD2'.base) (fun hp ad hA => ⟨Or.inl (HQB.out hp ad hA), Nat.lt_of_lt_of_le (HQB.out hp ad hA) hs10⟩)
      have hb13 : Mod NoneB w w13 := hm16.then0 (hX5.drop hD2'.kept (fun k hk => ⟨⟨Or.inl hk, Nat.lt_of_lt_of_le hk hs10⟩, hk⟩)).base
      have hpa : ∀ w', Mod NoneB w13 w' → Calls Try.prog 30 #[.slice A10 p.length c10, .slice A3 p.length c3] w' fun e w'' => e = .returned (.bool true) ∧ Mod NoneB w' w'' := by
        intro w' hm
        have h := pairs_calls p p A10 A3 c10 c3 w' (hr10'.mod0 hm) (hrp13.mod0 hm)
        rw [decide_eq_true rfl] at h
        exact h
      have hqa : ∀ w', Mod NoneB w13 w' → Calls Try.prog 30 #[.slice A13 q.length c13, .slice A4 q.length c4] w' fun e w'' => e = .returned (.bool true) ∧ Mod NoneB w' w'' := by
        intro w' hm
        have h := pairs_calls q q A13 A4 c13 c4 w' (hr13.mod0 hm) (hrq13.mod0 hm)
        rw [decide_eq_true rfl] at h
        exact h
      have HPA := Lib.hid hpa
      have HQA := Lib.hid hqa
      clear hpa hqa hov hn13 hX4 hX5 hm13 hm10 hr10 hr10' hr13 hrp13 hrq13 hrp6 hrq6 hD2' hm16 hn10' hb10 f4 u4 hxs hys
      go_wp2_with (first
        | ((with_reducible refine (num_calls _ _).mono ?_); rintro ez wz ⟨rfl, rfl⟩)
        | ((with_reducible refine (HPA.out _ (Mod.refl _ _)).mono ?_); rintro ez wq ⟨rfl, hmq⟩)
        | ((with_reducible refine (HQA.out _ hmq).mono ?_); rintro ez wr ⟨rfl, hmr⟩)
        | ((with_reducible refine (awake8_calls _).mono ?_); rintro ez wz ⟨rfl, hmz⟩))
      go_ret
      exact ⟨rfl, ((hb13.then0 hmq).then0 hmr).then0 hmz⟩
end Go.Proofs.Ytfbnkbdolimojaa
