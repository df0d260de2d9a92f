/- StoreKeys: what is at a key is what was committed last for it: the walk of the law. -/
import Derived.Test.YtnlmfmceogbomaaGreatDoorStL
namespace Go.Proofs.YtnlmfmceogbomaaGreatDoor
open Go.RowKit
set_option linter.unusedVariables false

theorem op_rd {w : World} {ad : Addr} {l : List Op3} (h : Rd w 3 (some ad) l.length (encOs l)) (i : Nat) (hi : i < l.length) : Rd w 3 (some (ad.add (i * 3))) 1 (encOs [l[i]]) := by
  refine ⟨rfl, by decide, fun _ => ⟨_, rfl, fun j u hu => ?_⟩⟩
  obtain ⟨ad', e, hc⟩ := h.2.2 (by omega)
  injection e with e
  subst e
  have e2 : (ad.add (i * 3)).add j = ad.add (i * 3 + j) := by unfold Addr.add; split <;> split <;> simp_all <;> omega
  have hj : j < 3 := by
    have := (List.getElem?_eq_some_iff.1 hu).1
    exact this
  rw [e2]
  refine hc _ u ?_
  rw [show encOs l = l.flatMap encO from rfl, flatMap_at encO 3 (fun _ => rfl) l i hi j hj]
  exact hu
set_option maxRecDepth 100000 in
/-- l[i : i+1], as the walk takes it. -/
theorem op_at {w : World} {ad : Addr} {c : Nat} {l : List Op3} (h : Rd w 3 (some ad) l.length (encOs l)) (hnc : l.length ≤ c) (i : Nat) (hi : i < l.length) :
    (∀ W, (Instr.slice 39 (.slice (some ad) l.length c) (some (.int .i64 (i : Int))) (some (.int .i64 ((i : Int) + 1))) none).run Tryz.prog W = .ok (.slice (some (ad.add (i * 3))) 1 (c - i)) W) ∧
      (∀ W, (Instr.sliceAt 39 (.slice (some ad) l.length c) (some (.int .i64 (i : Int))) (some (.int .i64 ((i : Int) + 1))) none).run Tryz.prog W = .ok (.slice (some (ad.add (i * 3))) 1 (c - i)) W) := by
  have ht : Tryz.prog.underlying 39 = some (.slice (Tryz.prog.elem 39)) := by kernel_rfl
  have he : Tryz.prog.elem 39 = 49 := by kernel_rfl
  obtain ⟨ti, hti, _, hs, _⟩ := (tiOp).parts
  have hn := h.2.1
  have hrun : ∀ W, (Instr.slice 39 (.slice (some ad) l.length c) (some (.int .i64 (i : Int))) (some (.int .i64 ((i : Int) + 1))) none).run Tryz.prog W = .ok (.slice (some (ad.add (i * 3))) 1 (c - i)) W := by
    intro W
    rw [run_slice_lh W 39 (some ad) l.length c ht .i64 .i64 _ _ (by omega) (by omega) (by omega), he]
    simp [sizeOf, typeInfo, hti, hs, sliced, show ((i : Int) + 1).toNat = i + 1 from by omega, show ¬ c = i from by omega]
  exact ⟨hrun, fun W => by rw [run_sliceAt_slice W _ _ _ _ _ ht]; exact hrun W⟩

/-- How many bytes single batches take. -/
def wB (l : List Op3) : Nat := (l.map fun o => 100 + o.k.size + o.v.size).sum
theorem one_len (o : Op3) : (bytesO [o]).length ≤ 100 + o.k.size + o.v.size := by
  have h1 := recO_length o
  have h2 := recE_length (n := 1) (by decide)
  have e : goodOf (recsO [o]) = 8 + (recO o).length + (8 + (recE 1).length) := by simp [goodOf, recsO]
  rw [bytesO_good, e]
  omega
theorem wB_snoc (l : List Op3) (o : Op3) : wB (l ++ [o]) = wB l + (100 + o.k.size + o.v.size) := by unfold wB; rw [List.map_append, List.sum_append]; simp
theorem wO_snoc (l : List Op3) (o : Op3) : wO (l ++ [o]) = wO l + (8 + o.k.size + o.v.size) := by unfold wO; rw [List.map_append, List.sum_append]; simp
theorem wB_wt (l : List Op3) : wtO l ≤ 5000 → wB l ≤ 99 * l.length + wtO l := by
  induction l with
  | nil => intro _; simp [wB]
  | cons o l ih =>
    intro h
    have e : wtO (o :: l) = wtOE o + wtO l := rfl
    have e2 : wB (o :: l) = (100 + o.k.size + o.v.size) + wB l := rfl
    rw [e] at h ⊢
    have := ih (by omega)
    rw [e2, List.length_cons]
    unfold wtOE at h ⊢
    omega
theorem wt_take (l : List Op3) (j : Nat) : wtO (l.take j) ≤ wtO l := by
  conv => rhs; rw [← List.take_append_drop j l]
  unfold wtO
  rw [List.map_append, List.sum_append]
  omega
theorem wt_one {l : List Op3} {o : Op3} (h : o ∈ l) : wtO [o] ≤ wtO l := by
  induction l with
  | nil => cases h
  | cons x l ih =>
    have e : wtO (x :: l) = wtOE x + wtO l := rfl
    have e2 : wtO [o] = wtOE o := by simp [wtO]
    rw [e]
    rcases List.mem_cons.1 h with rfl | h
    · omega
    · have := ih h; omega
structure Qy (l : List Op3) (t : St) (j : Nat) : Prop where
  inv : Inv t none (wB (l.take j)) 11000
  quiet : Quiet t.d
  sk : t.sk = false
  c : t.d.c ≤ 20 + 9 * j
  w : wS t.r ≤ wO (l.take j)
  cap : t.d.p.cap = 1000000
theorem Qy.bound {l : List Op3} {t : St} {j : Nat} (h : Qy l t j) (hl : wtO l ≤ 5000) (hj : j ≤ 60) : wB (l.take j) ≤ 11000 ∧ wO (l.take j) ≤ 5500 := by
  have h1 := wt_take l j
  have h2 := wB_wt (l.take j) (by omega)
  have h3 := wO_wt (l.take j) (by omega)
  have h4 : (l.take j).length ≤ j := by rw [List.length_take]; omega
  omega
theorem Qy.commit {l : List Op3} {t : St} {j : Nat} (h : Qy l t j) (hl : wtO l ≤ 5000) (hj : j < 60) (hlt : j < l.length) (hr : rightO l) (most : Int) :
    (commitS most t [l[j]]).2 = 0 ∧ (commitS most t [l[j]]).1.r = applyT t.r [l[j]] ∧ Qy l (commitS most t [l[j]]).1 (j + 1) := by
  obtain ⟨b1, b2⟩ := h.bound hl (by omega)
  have hrr : rightO [l[j]] := ⟨by simp, fun o ho hd => hr.2 o (by rw [List.mem_singleton.1 ho]; exact List.getElem_mem _) hd⟩
  have hw1 : wtO [l[j]] ≤ 5000 := Nat.le_trans (wt_one (List.getElem_mem _)) hl
  have htk : l.take (j + 1) = l.take j ++ [l[j]] := List.take_succ_eq_append_getElem hlt
  have hol : wO [l[j]] = 8 + l[j].k.size + l[j].v.size := by simp [wO]
  have hsz : l[j].k.size + l[j].v.size ≤ 5000 := by
    have e2 : wtO [l[j]] = wtOE l[j] := by simp [wtO]
    rw [e2] at hw1
    unfold wtOE at hw1
    omega
  have hwa := wS_apply h.inv.rises [l[j]]
  have hww := h.w
  obtain ⟨t1, t2, t3⟩ := table_ok (rises_applyT t.r [l[j]]) (by omega)
  have hc := h.inv.commit most [l[j]] (small_wt hw1) t1 (by omega)
  have hb := one_len l[j]
  have hu := h.inv.shut.used.1
  have he := (hc.quiet h.quiet h.sk).2.2 hrr
  rw [if_neg (by rw [h.cap]; omega)] at he
  obtain ⟨k1, k2, k3⟩ := hc.ok he
  have hcc := hc.c
  have hc0 := h.c
  refine ⟨he, k2, ⟨k3.mono (by rw [htk, wB_snoc]; omega), (hc.quiet h.quiet h.sk).1, (hc.quiet h.quiet h.sk).2.1, by omega, by rw [k2, htk, wO_snoc]; omega, by rw [hc.p]; exact h.cap⟩⟩

set_option maxHeartbeats 8000000 in
set_option maxRecDepth 100000 in
theorem storeKeys_walk (l0 : List Op3) (a0 : Option Addr) (c0 : Nat) (s1 : ByteArray) (w : World) (rd0 : Rd w 3 a0 l0.length (encOs l0)) (lc0 : l0.length ≤ c0) (htab : TabW w) :
    Calls Tryz.prog 6 #[.slice a0 l0.length c0, .string s1] w fun e w' => e = .returned (.bool true) ∧ Mod NoneB w w' := by
  go_enter Tryz.func6, Tryz.ntmps6
  go_wp2_with fail
  refine (greatO_calls l0 a0 c0 _ rd0).mono ?_
  rintro e w1 ⟨b, rfl, hm1, hb1⟩
  cases b with
  | true =>
    clear hb1
    go_wp2_with ((with_reducible refine (awake10_calls _ (htab.mod0 hm1)).mono ?_); rintro e wz ⟨rfl, hmz⟩)
    go_ret
    exact ⟨rfl, hm1.then0 hmz⟩
  | false =>
    have hw0 := hb1 rfl
    clear hb1
    go_wp2_with fail
    refine (rrightops_calls l0 a0 c0 _ (rd0.mod0 hm1)).mono ?_
    rintro e w2 ⟨rfl, hm2⟩
    have hm12 := hm1.then0 hm2
    clear hm1 hm2
    by_cases hr : rightO l0
    case neg =>
      rw [decide_eq_false hr]
      go_wp2_with ((with_reducible refine (awake10_calls _ (htab.mod0 hm12)).mono ?_); rintro e wz ⟨rfl, hmz⟩)
      go_ret
      exact ⟨rfl, hm12.then0 hmz⟩
    rw [decide_eq_true hr]
    by_cases hks : 200 < s1.size
    · have hg : (200 : Int) < (s1.size : Int) := by omega
      go_wp2_with ((with_reducible refine (awake10_calls _ (htab.mod0 hm12)).mono ?_); rintro e wz ⟨rfl, hmz⟩)
      go_ret
      exact ⟨rfl, hm12.then0 hmz⟩
    have hg : ¬ (200 : Int) < (s1.size : Int) := by omega
    have HR := Lib.hid hr
    clear hr
    go_wp2_with fail
    refine (Dw.new0 w w2 hm12 _).mono ?_
    rintro e w3 ⟨p, rfl, hdw⟩
    obtain ⟨S1, h1⟩ := Lw.dw hdw
    have sp1 : Sp w w3 p (freeD 1000000 [] [] 0) S1 [] none 0 11000 := ⟨h1, Shut.new _ _ _ _ _⟩
    clear hdw hm12 h1
    go_wp2_with fail
    refine (sp1.open htab (by omega) (by omega) (Nat.zero_le _) (Nat.zero_le _) (fun l h => by cases h) _).mono ?_
    obtain ⟨u1, u2, u3, u4, u5⟩ := sp1.on.opens
    obtain ⟨v1, v2⟩ := u4 ⟨rfl, rfl, rfl⟩
    rintro e w4 (⟨q, g, s, x0, S0, X0, rfl, ho⟩ | ⟨h0, _⟩)
    case inr => exact absurd v1 h0
    obtain ⟨k1, k2, _, k3⟩ := u5 v1
    have hr0 : (openS (freeD 1000000 [] [] 0)).r = [] := by
      rcases k3 with k | ⟨l, h, _⟩
      · exact k
      · cases h
    have hqy : Qy l0 (openS (freeD 1000000 [] [] 0)) 0 := ⟨k2, k1 ▸ v2, rfl, by rw [k1] at u3; exact Nat.le_trans u3 (by show 0 + 3 ≤ _; omega), by rw [hr0]; exact Nat.zero_le _, by rw [k1] at u2; rw [u2]; rfl⟩
    have hst : ∃ (mo : Int) (t : St) (x : Ix) (S X : Nat → Prop), StAt w w4 p q g s mo t x S X ∧ Qy l0 t 0 ∧ t.r = [] := ⟨_, _, _, _, _, ho.so.at_, hqy, hr0⟩
    clear ho hqy hr0 k1 k2 k3 u1 u2 u3 u4 u5 v1 v2 sp1
    obtain ⟨mo, t0, x1, S2, X2, hK, hQ, hR⟩ := hst
    have HK := Lib.hid hK
    have HQ := Lib.hid hQ
    have HRR := Lib.hid hR
    clear hK hQ hR
    go_wp2_with ((with_reducible refine (num_calls _ _).mono ?_); rintro ez wz ⟨rfl, hwz⟩; have hwz2 := hwz.symm; clear hwz; subst hwz2)
    go_loopw [8, 9, 10] (fun wv hv iv wr => ∃ (j : Nat) (t : St) (x : Ix) (S X : Nat → Prop) (b : ByteArray) (hb : Bool), wv = .string b ∧ hv = .bool hb ∧ iv = .int .i64 j ∧ j ≤ l0.length ∧ j ≤ 60 ∧ StAt w wr p q g s mo t x S X ∧ Qy l0 t j ∧ (getT t.r s1).isSome = hb ∧ (hb = true → getT t.r s1 = some b)) (fun _ _ i _ => l0.length - (intOf i).toNat)
    case atStart => exact ⟨0, t0, x1, S2, X2, ⟨#[]⟩, false, rfl, rfl, rfl, by omega, by omega, HK.out, HQ.out, by rw [HRR.out]; rfl, fun h => by cases h⟩
    case round =>
      clear HK HQ HRR
      obtain ⟨j, t, x, S, X, b, hb, rfl, rfl, rfl, hj, hj60, hK, hQ, hsome, hval⟩ := hrel
      by_cases hlt : j < l0.length
      case neg =>
        have q1 : ¬ ((j : Int) < (l0.length : Int)) := by omega
        have hget := sget_calls hK.mp s1 (by have := hK.mp.twin; have h2 := hQ.w; have h3 := wS_len t.r; have h4 := (hQ.bound hw0 hj60).2; omega) (by omega)
        have hbs := hK.lw.base
        have HB := Lib.hid hbs
        have HGET := Lib.hid hget
        clear hget hK hQ hbs
        go_wp2_with fail
        refine HGET.out.mono ?_
        rintro ez w5 ⟨rfl, hm5⟩
        cases hgt : getT t.r s1 with
        | none =>
          rw [hgt] at hsome
          have hbf : hb = false := hsome.symm
          subst hbf
          clear hval HGET hgt hsome
          go_wp2_with ((with_reducible refine (awake10_calls _ (htab.mod0 (HB.out.then0 hm5))).mono ?_); rintro ez wa ⟨rfl, hma⟩)
          go_ret
          exact ⟨rfl, (HB.out.then0 hm5).then0 hma⟩
        | some u =>
          rw [hgt] at hsome hval
          have hbf : hb = true := hsome.symm
          subst hbf
          have hub : u = b := by have := hval rfl; injection this
          subst hub
          clear hval HGET hgt hsome
          go_wp2_with ((with_reducible refine (awake10_calls _ (htab.mod0 (HB.out.then0 hm5))).mono ?_); rintro ez wa ⟨rfl, hma⟩)
          go_ret
          exact ⟨rfl, (HB.out.then0 hm5).then0 hma⟩
      by_cases hl60 : j < 60
      case neg =>
        have q1 : ((j : Int) < (l0.length : Int)) := by omega
        have q2 : ¬ ((j : Int) < 60) := by omega
        have hget := sget_calls hK.mp s1 (by have := hK.mp.twin; have h2 := hQ.w; have h3 := wS_len t.r; have h4 := (hQ.bound hw0 hj60).2; omega) (by omega)
        have hbs := hK.lw.base
        have HB := Lib.hid hbs
        have HGET := Lib.hid hget
        clear hget hK hQ hbs
        go_wp2_with fail
        refine HGET.out.mono ?_
        rintro ez w5 ⟨rfl, hm5⟩
        cases hgt : getT t.r s1 with
        | none =>
          rw [hgt] at hsome
          have hbf : hb = false := hsome.symm
          subst hbf
          clear hval HGET hgt hsome
          go_wp2_with ((with_reducible refine (awake10_calls _ (htab.mod0 (HB.out.then0 hm5))).mono ?_); rintro ez wa ⟨rfl, hma⟩)
          go_ret
          exact ⟨rfl, (HB.out.then0 hm5).then0 hma⟩
        | some u =>
          rw [hgt] at hsome hval
          have hbf : hb = true := hsome.symm
          subst hbf
          have hub : u = b := by have := hval rfl; injection this
          subst hub
          clear hval HGET hgt hsome
          go_wp2_with ((with_reducible refine (awake10_calls _ (htab.mod0 (HB.out.then0 hm5))).mono ?_); rintro ez wa ⟨rfl, hma⟩)
          go_ret
          exact ⟨rfl, (HB.out.then0 hm5).then0 hma⟩
      obtain ⟨ad, hal, h0, hkc⟩ := Rd.elem (f := encO) (fun _ => rfl) rd0 (by decide) j hlt
      subst hal
      have g0 := hK.lw.base.cell0 (h0 _ rfl)
      have g1 := hK.lw.base.cell0 (hkc 1 _ (by decide) (by decide) rfl)
      have g2 := hK.lw.base.cell0 (hkc 2 _ (by decide) (by decide) rfl)
      obtain ⟨hs1, hs2⟩ := op_at rd0 lc0 j hlt
      have hrd := op_rd rd0 j hlt
      obtain ⟨b1, b2⟩ := hQ.bound hw0 hj60
      have hqc := hQ.commit hw0 hl60 hlt HR.out mo
      have hw1 : wtO [l0[j]] ≤ 5000 := Nat.le_trans (wt_one (List.getElem_mem _)) hw0
      have hwo1 := wO_wt [l0[j]] hw1
      have hwt := hQ.w
      have hct := hQ.c
      have hris := hQ.inv.rises
      obtain ⟨o1, o2⟩ := hK.old hrd
      have hcm := (⟨hK, hQ.inv⟩ : So w wr p q g s mo t x S X none (wB (l0.take j)) 11000).commit htab (by omega) (by omega) (by omega) [l0[j]] (some (ad.add (j * 3))) (c0 - j) o1 o2 hw1 (by have : [l0[j]].length = 1 := rfl; omega)
      obtain ⟨o, ho⟩ : ∃ o, o = l0[j] := ⟨_, rfl⟩
      rw [← ho] at g0 g1 g2 hqc hcm
      obtain ⟨del, ok, ov⟩ := o
      simp only at g0 g1 g2
      have hnew : getT (applyT t.r [⟨del, ok, ov⟩]) s1 = if ok = s1 then (if del then none else some ov) else getT t.r s1 := by
        rw [applyT_rises hris]
        exact getT_stepT hris ⟨del, ok, ov⟩ s1
      obtain ⟨k, hk⟩ : ∃ k, k = commitS mo t [⟨del, ok, ov⟩] := ⟨_, rfl⟩
      rw [← hk] at hcm hqc
      obtain ⟨tk, e5⟩ := k
      obtain ⟨hk0, hkr, hkq⟩ := hqc
      simp only at hk0 hkr hkq
      subst hk0
      rw [← hkr] at hnew
      have q1 : ((j : Int) < (l0.length : Int)) := by omega
      have q2 : ((j : Int) < 60) := by omega
      have q3 : (0 : Int) ≤ (j : Int) := by omega
      have q4 : IntKind.i64.wrap ((j : Int) + 1) = (j : Int) + 1 := IntWalk.i64_in _ (by omega)
      have HCM := Lib.hid hcm
      have HKQ := Lib.hid hkq
      have HNEW := Lib.hid hnew
      have G0 := Lib.hid (h0 _ rfl)
      have G1 := Lib.hid (hkc 1 _ (by decide) (by decide) rfl)
      have G2 := Lib.hid (hkc 2 _ (by decide) (by decide) rfl)
      rw [← ho] at G0 G1 G2
      have HSOME := Lib.hid hsome
      have HVAL := Lib.hid hval
      clear hcm hkq hnew h0 hkc hk hkr ho hrd o1 o2 hris hwo1 hwt hct hK hQ hw1 hsome hval g0 g1 g2 b1 b2
      go_wp2_with fail
      refine HCM.out.mono ?_
      rintro ez w5 ⟨rfl, x5, S5, X5, hat5, _, _, _⟩
      simp only at hat5
      have hb5 := hat5.lw.base
      have g0 := hb5.cell0 G0.out
      have g1 := hb5.cell0 G1.out
      have g2 := hb5.cell0 G2.out
      have HAT5 := Lib.hid hat5
      clear hat5 HCM
      go_wp2_with fail
      refine (num_calls _ _).mono ?_
      rintro ez wz ⟨rfl, hwz⟩
      have hwz2 := hwz.symm
      clear hwz
      subst hwz2
      by_cases hkk : ok = s1
      · subst hkk
        have hn2 := HNEW.out
        rw [if_pos rfl] at hn2
        have HN2 := Lib.hid hn2
        clear hn2 HNEW HSOME HVAL
        cases del with
        | true =>
          go_wp2_with fail
          go_roundw
          case rel => exact ⟨j + 1, tk, x5, S5, X5, ov, false, rfl, rfl, by go_num, by omega, by omega, HAT5.out, HKQ.out, by rw [HN2.out]; rfl, fun h => by cases h⟩
          case measure => simp only [intOf]; go_num
        | false =>
          go_wp2_with fail
          go_roundw
          case rel => exact ⟨j + 1, tk, x5, S5, X5, ov, true, rfl, rfl, by go_num, by omega, by omega, HAT5.out, HKQ.out, by rw [HN2.out]; rfl, fun _ => by rw [HN2.out]; rfl⟩
          case measure => simp only [intOf]; go_num
      · have hn2 := HNEW.out
        rw [if_neg hkk] at hn2
        have HN2 := Lib.hid hn2
        have hne := beq_toList ok s1
        rw [decide_eq_false hkk] at hne
        clear hn2 HNEW
        go_wp2_with fail
        go_roundw
        case rel => exact ⟨j + 1, tk, x5, S5, X5, b, hb, rfl, rfl, by go_num, by omega, by omega, HAT5.out, HKQ.out, by rw [HN2.out]; exact HSOME.out, fun h => by rw [HN2.out]; exact HVAL.out h⟩
        case measure => simp only [intOf]; go_num
end Go.Proofs.YtnlmfmceogbomaaGreatDoor

