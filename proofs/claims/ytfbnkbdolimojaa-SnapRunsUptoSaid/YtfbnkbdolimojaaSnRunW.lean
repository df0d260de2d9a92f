/- SnapRuns: whatever is saved, by whatever plans, what is told, and what the disk has, is the document's: the walk of the law. -/
import Derived.Test.YtfbnkbdolimojaaTwoV
import Derived.Test.YtfbnkbdolimojaaBulkS
import Derived.Test.YtfbnkbdolimojaaSnapM
import Derived.Test.YtfbnkbdolimojaaDkRunW
namespace Go.Proofs.Ytfbnkbdolimojaa
open Go.RowKit
set_option linter.unusedVariables false

theorem tableR_le6 {l : List Pr} (h : wS l ≤ 24000) : (tableR l).1.length ≤ 24012 := by
  have hb := (wS_small h).2
  by_cases hr : Rises l
  · have h1 : tableR l = frameR (encL (tabT l)) := if_pos hr
    rw [h1, frameR_ok (by omega), frameB_length]
    omega
  · have h1 : tableR l = ([], 1) := if_neg hr
    rw [h1]
    exact Nat.zero_le _
theorem restS_cap (b : List UInt8) : ∀ (k j : Nat) (d : Dk), (restS b k j d).1.p = d.p := by
  intro k
  induction k with
  | zero => intro j d; rfl
  | succ k ih =>
    intro j d
    unfold restS
    split
    · rw [ih, stepS_cap]
    · exact stepS_cap b j d
theorem add_nil (ad : Addr) : ad.add 0 = ad := by unfold Addr.add; split <;> simp_all
/-- A disk behind j saves. -/
structure GoodS (j : Nat) (d : Dk) : Prop where
  c : d.c ≤ 5 * j
  n : d.fs.length ≤ 5 * j
  u : usedF d.fs ≤ 120060 * j
  cap : d.p.cap ≤ 9223372036854775807
theorem GoodS.restart {j : Nat} {d : Dk} (h : GoodS j d) (p : Pl) (hp : p.cap ≤ 9223372036854775807) : GoodS j (restartD d p) := by
  have g := restart_grow 0 d p
  exact ⟨by show 0 ≤ _; omega, by have := h.n; simp [restartD]; omega, by have := g.u; have := h.u; omega, hp⟩
theorem GoodS.fits {j : Nat} {d : Dk} (h : GoodS j d) (hj : j ≤ 21) : FitsR d := ⟨by have := h.c; omega, by have := h.n; omega, by have := h.u; omega⟩
theorem GoodS.room {j : Nat} {d : Dk} (h : GoodS j d) (hj : j ≤ 20) {l : List Pr} (hl : wS l ≤ 24000) : RoomT d (tableR l).1 0 := by
  have := tableR_le6 hl
  exact ⟨by have := h.c; omega, by have := h.n; omega, by have := h.u; omega, by omega, h.cap⟩
theorem GoodS.save {j : Nat} {d : Dk} (h : GoodS j d) {l : List Pr} (hl : wS l ≤ 24000) : GoodS (j + 1) (saveR d l).1 := by
  have ht := tableR_le6 hl
  have h1 := h.c
  have h2 := h.n
  have h3 := h.u
  unfold saveR
  split
  · obtain ⟨g1, g2, g3⟩ := saveD_grow d (tableR l).1
    exact ⟨by omega, by omega, by omega, by show (restS _ _ _ _).1.p.cap ≤ _; rw [restS_cap]; exact h.cap⟩
  · exact ⟨by simp only; omega, by simp only; omega, by simp only; omega, h.cap⟩

set_option maxHeartbeats 8000000 in
set_option maxRecDepth 100000 in
theorem snapRuns_walk (l0 : List PlV) (l1 : List PsV) (a0 a1 : Option Addr) (c0 c1 : Nat) (w : World) (rd0 : Rd w 5 a0 l0.length (l0.flatMap encPl)) (ok0 : ∀ x ∈ l0, PlOk2 w x) (bk0 : plLens l0 ≤ 1048576) (rd1 : Rd w 1 a1 l1.length (l1.flatMap encPv)) (ok1 : ∀ x ∈ l1, PsOk w x) :
    Calls Try.prog 10 #[.slice a0 l0.length c0, .slice a1 l1.length c1] w fun e w' => e = .returned (.bool true) ∧ Mod NoneB w w' := by
  by_cases hg : 20 < l0.length ∨ 20 < l1.length ∨ l0.length = 0
  · by_cases g0 : 20 < l0.length
    · go_enter Try.func10, Try.ntmps10
      go_wp2_with ((with_reducible refine (awake8_calls _).mono ?_); rintro e wz ⟨rfl, hz⟩)
      go_ret
      exact ⟨rfl, hz⟩
    · by_cases g1 : 20 < l1.length
      · clear hg
        go_enter Try.func10, Try.ntmps10
        go_wp2_with ((with_reducible refine (awake8_calls _).mono ?_); rintro e wz ⟨rfl, hz⟩)
        go_ret
        exact ⟨rfl, hz⟩
      · have g2 : l0 = [] := List.eq_nil_of_length_eq_zero (by omega)
        subst g2
        clear hg
        go_enter Try.func10, Try.ntmps10
        go_wp2_with ((with_reducible refine (awake8_calls _).mono ?_); rintro e wz ⟨rfl, hz⟩)
        go_ret
        exact ⟨rfl, hz⟩
  have g0 : l0.length ≤ 20 := by omega
  have g1 : l1.length ≤ 20 := by omega
  have g2 : 0 < l0.length := by omega
  have e2 : ((l0.length : Int) == 0) = false := beq_eq_false_iff_ne.mpr (by omega)
  clear hg
  have hp0 := ok0 l0[0] (List.getElem_mem _)
  have hpl := plLens_get l0 0 g2
  unfold plLen at hpl
  obtain ⟨ad, rfl, k0, kk⟩ := Rd.elem (f := encPl) (fun _ => rfl) rd0 (by decide) 0 g2
  have d0 := k0 _ rfl
  have d1 := kk 1 _ (by decide) (by decide) rfl
  have d2 := kk 2 _ (by decide) (by decide) rfl
  have d3 := kk 3 _ (by decide) (by decide) rfl
  have d4 := kk 4 _ (by decide) (by decide) rfl
  rw [Nat.zero_mul, add_nil] at d0 d1 d2 d3 d4
  obtain ⟨x0, hx0⟩ : ∃ x, x = l0[0] := ⟨_, rfl⟩
  rw [← hx0] at hp0 hpl d0 d1 d2 d3 d4
  have hnew : ∀ W, Mod NoneB w W → Calls Try.prog 13 #[.agg #[.int .i64 x0.p.cap, .slice x0.F x0.p.fail.length x0.fc, .int .i64 x0.p.crash, .bool x0.p.done, .slice x0.K x0.p.keep.length x0.kc]] W fun e w' => ∃ p S, e = .returned (.pointer (some ⟨p, 0, none⟩)) ∧ IsD w' p ⟨x0.p, [], 0, false⟩ S ∧ Mod NoneB W w' ∧ ∀ k, S k → W.heap.size ≤ k :=
    fun W hm => new_calls W x0.p x0.F x0.K x0.fc x0.kc (hp0.ok.fail.mod0 hm) (hp0.ok.keep.mod0 hm) (by omega) (by omega)
  have hrnew : ∀ W, Mod NoneB w W → Calls Try.prog 14 #[.agg #[.int .i64 x0.p.cap, .slice x0.F x0.p.fail.length x0.fc, .int .i64 x0.p.crash, .bool x0.p.done, .slice x0.K x0.p.keep.length x0.kc]] W fun e w' => ∃ p S, e = .returned (.pointer (some ⟨p, 0, none⟩)) ∧ IsR w.heap.size w' p ⟨x0.p, [], 0, false⟩ S ∧ Mod NoneB W w' ∧ ∀ k, S k → W.heap.size ≤ k :=
    fun W hm => rnew_calls w.heap.size W x0.p x0.F x0.K x0.fc x0.kc (hp0.ok.fail.mod0 hm) (hp0.ok.keep.mod0 hm) (hp0.ok.fail.block_lt (by decide)) (hp0.ok.keep.block_lt (by decide)) hm.size
  have HNEW := Lib.hid hnew
  have HRNEW := Lib.hid hrnew
  have HCAP := Lib.hid hp0.cap
  have HOK0 := Lib.hid ok0
  have HOK1 := Lib.hid ok1
  have g3 : (0 : Int) < (l0.length : Int) := by omega
  have hmd : Mod NoneB w w.drew := (Mod.refl NoneB w).drew
  clear hnew hrnew hp0 hpl k0 kk ok0 ok1 hx0
  go_enter Try.func10, Try.ntmps10
  go_wp2_with fail
  go_region_law (first
    | (go_simp; go_at_call 13; (with_reducible refine (HNEW.out _ hmd).mono ?_); rintro ez w3 ⟨p, S, rfl, hD, hm3, hS⟩; have v0 := hm3.cell0 (w := w.drew) d0; have v1 := hm3.cell0 (w := w.drew) d1; have v2 := hm3.cell0 (w := w.drew) d2; have v3 := hm3.cell0 (w := w.drew) d3; have v4 := hm3.cell0 (w := w.drew) d4)
    | (go_simp; go_at_call 14; (with_reducible refine (HRNEW.out _ (hmd.then0 hm3)).mono ?_); rintro ez w4 ⟨q, R, rfl, hR, hm4, hRS⟩))
  all_goals
    have htwo : Two NoB w w4 p q ⟨x0.p, [], 0, false⟩ ⟨x0.p, [], 0, false⟩ := Two.fresh hmd hD hm3 hS hR hm4 hRS
    have HT := Lib.hid htwo
    clear htwo hD hm3 hS hR hm4 hRS v0 v1 v2 v3 v4 HNEW HRNEW d0 d1 d2 d3 d4 hmd
    go_wp2_with fail
    go_loopw [7] (fun i wr => ∃ (j : Nat) (d : Dk), i = .int .i64 j ∧ j ≤ l1.length ∧ Two NoB w wr p q d d ∧ GoodS j d) (fun i _ => l1.length - (intOf i).toNat)
    case atStart => exact ⟨0, _, rfl, by omega, HT.out, ⟨Nat.le_refl _, Nat.le_refl _, by simp [usedF], HCAP.out⟩⟩
    case round =>
      obtain ⟨j, dj, rfl, hj, ht, hgd⟩ := hrel
      clear HT
      have hb := ht.base
      by_cases hlt : j < l1.length
      · obtain ⟨ad1, rfl, h0, _⟩ := Rd.elem (f := encPv) (fun _ => rfl) rd1 (by decide) j hlt
        have c0 := h0 _ rfl
        rw [Nat.mul_one] at c0
        have hps := HOK1.out l1[j] (List.getElem_mem _)
        obtain ⟨x, hx⟩ : ∃ x, x = l1[j] := ⟨_, rfl⟩
        rw [← hx] at c0 hps
        have HCW := Lib.hid c0
        replace c0 := hb.cell0 c0
        have HPS := Lib.hid (show Rd w 2 x.A x.l.length (encPs x.l) from hps)
        have q0 : (0 : Int) ≤ (j : Int) := by omega
        have q1 : (j : Int) < (l1.length : Int) := by omega
        have HT := Lib.hid ht
        have HGD := Lib.hid hgd
        have hgr := greatP_calls x.l x.A x.c wr (hps.mod0 hb)
        have HGR := Lib.hid hgr
        clear h0 hx hps hgr ht hgd
        by_cases hpj : j < l0.length
        · obtain ⟨ap, hap, k0, kk⟩ := Rd.elem (f := encPl) (fun _ => rfl) rd0 (by decide) j hpj
          injection hap with hap
          subst hap
          have d0 := k0 _ rfl
          have d1 := kk 1 _ (by decide) (by decide) rfl
          have d2 := kk 2 _ (by decide) (by decide) rfl
          have d3 := kk 3 _ (by decide) (by decide) rfl
          have d4 := kk 4 _ (by decide) (by decide) rfl
          have hpk := HOK0.out l0[j] (List.getElem_mem _)
          obtain ⟨y, hy⟩ : ∃ y, y = l0[j] := ⟨_, rfl⟩
          rw [← hy] at d0 d1 d2 d3 d4 hpk
          have q2 : (j : Int) < (l0.length : Int) := by omega
          have HD0 := Lib.hid d0
          have HD1 := Lib.hid d1
          have HD2 := Lib.hid d2
          have HD3 := Lib.hid d3
          have HD4 := Lib.hid d4
          replace d0 := hb.cell0 d0
          replace d1 := hb.cell0 d1
          replace d2 := hb.cell0 d2
          replace d3 := hb.cell0 d3
          replace d4 := hb.cell0 d4
          have HPK := Lib.hid hpk
          clear k0 kk hy hpk
          go_wp2_with fail
          refine HGR.out.mono ?_
          rintro e w2 ⟨b, rfl, hm2, hb2⟩
          replace d0 := hm2.cell0 d0
          replace d1 := hm2.cell0 d1
          replace d2 := hm2.cell0 d2
          replace d3 := hm2.cell0 d3
          replace d4 := hm2.cell0 d4
          replace c0 := hm2.cell0 c0
          cases b with
          | true =>
            clear hb2
            go_wp2_with ((with_reducible refine (awake8_calls _).mono ?_); rintro e wz ⟨rfl, hz⟩)
            go_ret
            exact ⟨rfl, (hb.then0 hm2).then0 hz⟩
          | false =>
            have HB3 := Lib.hid (hb2 rfl)
            clear hb2
            by_cases q4 : 100 < y.p.fail.length
            · go_wp2_with ((with_reducible refine (awake8_calls _).mono ?_); rintro e wz ⟨rfl, hz⟩)
              go_ret
              exact ⟨rfl, (hb.then0 hm2).then0 hz⟩
            by_cases q5 : 100 < y.p.keep.length
            · go_wp2_with ((with_reducible refine (awake8_calls _).mono ?_); rintro e wz ⟨rfl, hz⟩)
              go_ret
              exact ⟨rfl, (hb.then0 hm2).then0 hz⟩
            by_cases q6 : j = 0
            · have q7 : ¬ (0 : Int) < (j : Int) := by omega
              have htv : ∃ dv, Two NoB w w2 p q dv dv ∧ GoodS j dv := ⟨dj, HT.out.mod0 hm2, HGD.out⟩
              have HTV := Lib.hid htv
              clear htv q6
              go_wp2_with fail
              obtain ⟨wv, hwv⟩ : ∃ wv, wv = w2 := ⟨_, rfl⟩
              subst hwv
              clear d0 d1 d2 d3 d4 c0 hm2
              obtain ⟨dv, hT, hG⟩ := HTV.out
              have hws : wS x.l ≤ 24000 := by have := wS_great x.l HB3.out; have := HB3.out; omega
              have hsm := (wS_small hws).1
              have hro := hG.room (by omega) hws
              have hgn := hG.save hws
              have hf1 := hgn.fits (by omega)
              have hTd := hT.mod0 ((Mod.refl NoneB wv).drew)
              have hpr : Rd wv.drew 2 x.A x.l.length (encPs x.l) := HPS.out.mod0 hTd.base
              have v0 : wv.cell? (ad1.add j) = some (.slice x.A x.l.length x.c) := hT.base.cell0 HCW.out
              have HGN := Lib.hid hgn
              clear hws hgn hG hT HTV HT HGD HGR
              go_region_held3 (fun w' => w'.cell? (ad1.add j) = some (.slice x.A x.l.length x.c)) (first | go_keep | exact z0 | exact y0)
                (first
                  | (go_at_call 43; (with_reducible refine (hTd.save x.l x.A x.c hpr hsm hro.roomS).mono ?_); rintro ez w5 ⟨rfl, h5⟩; have z0 := h5.two.base.cell0 HCW.out)
                  | (go_at_call 33; (with_reducible refine (num_calls _ _).mono ?_); rintro ez wy ⟨rfl, hwy⟩; subst hwy)
                  | (go_at_call 47; (with_reducible refine (h5.two.rsave x.l x.A x.c (HPS.out.mod0 h5.two.base) hsm hro).mono ?_); rintro ez w6 ⟨rfl, h6⟩; have y0 := h6.two.base.cell0 HCW.out))
              all_goals
                have hT6 := h6.two
                clear h5 h6 hTd hpr z0 y0 v0 hro hsm
                obtain ⟨D, hD⟩ : ∃ D, D = (saveR dv x.l).1 := ⟨_, rfl⟩
                rw [← hD] at hT6 HGN hf1
                have hu := Nat.le_trans hf1.u (show 70368744177664 ≤ 70368744177664 from Nat.le_refl _)
                have hu2 : usedF D.fs ≤ 1099511627776 := by have := HGN.out.u; omega
                clear hD hu
                go_wp2_with fail
                refine (hT6.load hf1 hu2).mono ?_
                rintro e w7 ⟨A7, c7, rfl, hr7, hT7, hm7, _⟩
                go_wp2_with fail
                refine (hT7.rload hf1 hu2).mono ?_
                rintro e w8 ⟨A8, c8, rfl, hr8, hT8, hm8, _⟩
                obtain ⟨LR, hLR⟩ : ∃ LR, LR = loadR D := ⟨_, rfl⟩
                rw [← hLR] at hr7 hr8 ⊢
                have hpa : Calls Try.prog 30 #[.slice A7 LR.1.length c7, .slice A8 LR.1.length c8] w8 fun e w' => e = .returned (.bool true) ∧ Mod NoneB w8 w' := by
                  have h := pairs_calls LR.1 LR.1 A7 A8 c7 c8 w8 (hr7.mod0 hm8) hr8
                  rw [decide_eq_true rfl] at h
                  exact h
                have HPA := Lib.hid hpa
                have HT8 := Lib.hid hT8
                clear hpa hr7 hr8 hT6 hT7 hT8 hm7 hm8 hf1 hu2 hLR
                go_wp2_with (first
                  | ((with_reducible refine HPA.out.mono ?_); rintro ez w9 ⟨rfl, hm9⟩)
                  | ((with_reducible refine (num_calls _ _).mono ?_); rintro ez wy ⟨rfl, rfl⟩))
                go_roundw
                case rel => exact ⟨j + 1, D, by go_num, by omega, HT8.out.mod0 hm9, HGN.out⟩
                case measure => simp [intOf]; omega
            · have q7 : (0 : Int) < (j : Int) := by omega
              have hT2 := HT.out.mod0 hm2
              have hgf := HGD.out.fits (by omega)
              clear q6
              go_wp2_with fail
              refine (hT2.restart y.p y.F y.K y.fc y.kc HPK.out.ok.fail HPK.out.ok.keep (by omega) (by omega) hgf).mono ?_
              rintro e w3 ⟨rfl, h3⟩
              have f0 := h3.two.base.cell0 HD0.out
              have f1 := h3.two.base.cell0 HD1.out
              have f2 := h3.two.base.cell0 HD2.out
              have f3 := h3.two.base.cell0 HD3.out
              have f4 := h3.two.base.cell0 HD4.out
              clear d0 d1 d2 d3 d4 c0 hm2
              go_wp2_with fail
              refine (h3.two.rrestart y.p y.F y.K y.fc y.kc HPK.out.ok.fail HPK.out.ok.keep hgf).mono ?_
              rintro e wv ⟨rfl, h4⟩
              have htv : ∃ dv, Two NoB w wv p q dv dv ∧ GoodS j dv := ⟨_, h4.two, HGD.out.restart y.p HPK.out.cap⟩
              have HTV := Lib.hid htv
              clear htv h4 h3 hT2 f0 f1 f2 f3 f4 hgf
              go_wp2_with fail
              obtain ⟨dv, hT, hG⟩ := HTV.out
              have hws : wS x.l ≤ 24000 := by have := wS_great x.l HB3.out; have := HB3.out; omega
              have hsm := (wS_small hws).1
              have hro := hG.room (by omega) hws
              have hgn := hG.save hws
              have hf1 := hgn.fits (by omega)
              have hTd := hT.mod0 ((Mod.refl NoneB wv).drew)
              have hpr : Rd wv.drew 2 x.A x.l.length (encPs x.l) := HPS.out.mod0 hTd.base
              have v0 : wv.cell? (ad1.add j) = some (.slice x.A x.l.length x.c) := hT.base.cell0 HCW.out
              have HGN := Lib.hid hgn
              clear hws hgn hG hT HTV HT HGD HGR
              go_region_held3 (fun w' => w'.cell? (ad1.add j) = some (.slice x.A x.l.length x.c)) (first | go_keep | exact z0 | exact y0)
                (first
                  | (go_at_call 43; (with_reducible refine (hTd.save x.l x.A x.c hpr hsm hro.roomS).mono ?_); rintro ez w5 ⟨rfl, h5⟩; have z0 := h5.two.base.cell0 HCW.out)
                  | (go_at_call 33; (with_reducible refine (num_calls _ _).mono ?_); rintro ez wy ⟨rfl, hwy⟩; subst hwy)
                  | (go_at_call 47; (with_reducible refine (h5.two.rsave x.l x.A x.c (HPS.out.mod0 h5.two.base) hsm hro).mono ?_); rintro ez w6 ⟨rfl, h6⟩; have y0 := h6.two.base.cell0 HCW.out))
              all_goals
                have hT6 := h6.two
                clear h5 h6 hTd hpr z0 y0 v0 hro hsm
                obtain ⟨D, hD⟩ : ∃ D, D = (saveR dv x.l).1 := ⟨_, rfl⟩
                rw [← hD] at hT6 HGN hf1
                have hu := Nat.le_trans hf1.u (show 70368744177664 ≤ 70368744177664 from Nat.le_refl _)
                have hu2 : usedF D.fs ≤ 1099511627776 := by have := HGN.out.u; omega
                clear hD hu
                go_wp2_with fail
                refine (hT6.load hf1 hu2).mono ?_
                rintro e w7 ⟨A7, c7, rfl, hr7, hT7, hm7, _⟩
                go_wp2_with fail
                refine (hT7.rload hf1 hu2).mono ?_
                rintro e w8 ⟨A8, c8, rfl, hr8, hT8, hm8, _⟩
                obtain ⟨LR, hLR⟩ : ∃ LR, LR = loadR D := ⟨_, rfl⟩
                rw [← hLR] at hr7 hr8 ⊢
                have hpa : Calls Try.prog 30 #[.slice A7 LR.1.length c7, .slice A8 LR.1.length c8] w8 fun e w' => e = .returned (.bool true) ∧ Mod NoneB w8 w' := by
                  have h := pairs_calls LR.1 LR.1 A7 A8 c7 c8 w8 (hr7.mod0 hm8) hr8
                  rw [decide_eq_true rfl] at h
                  exact h
                have HPA := Lib.hid hpa
                have HT8 := Lib.hid hT8
                clear hpa hr7 hr8 hT6 hT7 hT8 hm7 hm8 hf1 hu2 hLR
                go_wp2_with (first
                  | ((with_reducible refine HPA.out.mono ?_); rintro ez w9 ⟨rfl, hm9⟩)
                  | ((with_reducible refine (num_calls _ _).mono ?_); rintro ez wy ⟨rfl, rfl⟩))
                go_roundw
                case rel => exact ⟨j + 1, D, by go_num, by omega, HT8.out.mod0 hm9, HGN.out⟩
                case measure => simp [intOf]; omega
        · have q2 : ¬ ((j : Int) < (l0.length : Int)) := by omega
          go_wp2_with fail
          refine HGR.out.mono ?_
          rintro e w2 ⟨b, rfl, hm2, hb2⟩
          cases b with
          | true =>
            clear hb2
            go_wp2_with ((with_reducible refine (awake8_calls _).mono ?_); rintro e wz ⟨rfl, hz⟩)
            go_ret
            exact ⟨rfl, (hb.then0 hm2).then0 hz⟩
          | false =>
            have HB3 := Lib.hid (hb2 rfl)
            have htv : ∃ dv, Two NoB w w2 p q dv dv ∧ GoodS j dv := ⟨dj, HT.out.mod0 hm2, HGD.out⟩
            have HTV := Lib.hid htv
            clear htv hb2
            go_wp2_with fail
            obtain ⟨wv, hwv⟩ : ∃ wv, wv = w2 := ⟨_, rfl⟩
            subst hwv
            clear c0 hm2
            obtain ⟨dv, hT, hG⟩ := HTV.out
            have hws : wS x.l ≤ 24000 := by have := wS_great x.l HB3.out; have := HB3.out; omega
            have hsm := (wS_small hws).1
            have hro := hG.room (by omega) hws
            have hgn := hG.save hws
            have hf1 := hgn.fits (by omega)
            have hTd := hT.mod0 ((Mod.refl NoneB wv).drew)
            have hpr : Rd wv.drew 2 x.A x.l.length (encPs x.l) := HPS.out.mod0 hTd.base
            have v0 : wv.cell? (ad1.add j) = some (.slice x.A x.l.length x.c) := hT.base.cell0 HCW.out
            have HGN := Lib.hid hgn
            clear hws hgn hG hT HTV HT HGD HGR
            go_region_held3 (fun w' => w'.cell? (ad1.add j) = some (.slice x.A x.l.length x.c)) (first | go_keep | exact z0 | exact y0)
              (first
                | (go_at_call 43; (with_reducible refine (hTd.save x.l x.A x.c hpr hsm hro.roomS).mono ?_); rintro ez w5 ⟨rfl, h5⟩; have z0 := h5.two.base.cell0 HCW.out)
                | (go_at_call 33; (with_reducible refine (num_calls _ _).mono ?_); rintro ez wy ⟨rfl, hwy⟩; subst hwy)
                | (go_at_call 47; (with_reducible refine (h5.two.rsave x.l x.A x.c (HPS.out.mod0 h5.two.base) hsm hro).mono ?_); rintro ez w6 ⟨rfl, h6⟩; have y0 := h6.two.base.cell0 HCW.out))
            all_goals
              have hT6 := h6.two
              clear h5 h6 hTd hpr z0 y0 v0 hro hsm
              obtain ⟨D, hD⟩ : ∃ D, D = (saveR dv x.l).1 := ⟨_, rfl⟩
              rw [← hD] at hT6 HGN hf1
              have hu := Nat.le_trans hf1.u (show 70368744177664 ≤ 70368744177664 from Nat.le_refl _)
              have hu2 : usedF D.fs ≤ 1099511627776 := by have := HGN.out.u; omega
              clear hD hu
              go_wp2_with fail
              refine (hT6.load hf1 hu2).mono ?_
              rintro e w7 ⟨A7, c7, rfl, hr7, hT7, hm7, _⟩
              go_wp2_with fail
              refine (hT7.rload hf1 hu2).mono ?_
              rintro e w8 ⟨A8, c8, rfl, hr8, hT8, hm8, _⟩
              obtain ⟨LR, hLR⟩ : ∃ LR, LR = loadR D := ⟨_, rfl⟩
              rw [← hLR] at hr7 hr8 ⊢
              have hpa : Calls Try.prog 30 #[.slice A7 LR.1.length c7, .slice A8 LR.1.length c8] w8 fun e w' => e = .returned (.bool true) ∧ Mod NoneB w8 w' := by
                have h := pairs_calls LR.1 LR.1 A7 A8 c7 c8 w8 (hr7.mod0 hm8) hr8
                rw [decide_eq_true rfl] at h
                exact h
              have HPA := Lib.hid hpa
              have HT8 := Lib.hid hT8
              clear hpa hr7 hr8 hT6 hT7 hT8 hm7 hm8 hf1 hu2 hLR
              go_wp2_with (first
                | ((with_reducible refine HPA.out.mono ?_); rintro ez w9 ⟨rfl, hm9⟩)
                | ((with_reducible refine (num_calls _ _).mono ?_); rintro ez wy ⟨rfl, rfl⟩))
              go_roundw
              case rel => exact ⟨j + 1, D, by go_num, by omega, HT8.out.mod0 hm9, HGN.out⟩
              case measure => simp [intOf]; omega
      · go_wp2_with (first
          | ((with_reducible refine (same1_calls NoB w _ p q dj ht (hgd.fits (by omega))).mono ?_); rintro ez wy ⟨rfl, hmy⟩)
          | ((with_reducible refine (awake8_calls _).mono ?_); rintro e wz ⟨rfl, hz⟩))
        go_ret
        exact ⟨rfl, (hb.then0 hmy).then0 hz⟩
end Go.Proofs.Ytfbnkbdolimojaa
