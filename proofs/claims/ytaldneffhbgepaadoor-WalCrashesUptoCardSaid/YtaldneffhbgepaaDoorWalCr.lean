/- WalCrashes: a commit that crashes is told whole behind it, or not at all: the walk of the law. -/
import Derived.Test.YtaldneffhbgepaaDoorBatJ
import Derived.Test.YtaldneffhbgepaaDoorBatEn
import Derived.Test.YtaldneffhbgepaaDoorWalV
import Derived.Deep.DeepCutAuto
namespace Go.Proofs.YtaldneffhbgepaaDoor
open Go.RowKit
set_option linter.unusedVariables false

set_option maxHeartbeats 12000000 in
set_option maxRecDepth 100000 in
theorem walCrashes_walk (l0 l1 : List Op3) (b2 b3 : Bool) (z4 : Int) (a0 a1 : Option Addr) (c0 c1 : Nat) (w : World) (rd0 : Rd w 3 a0 l0.length (encOs l0)) (rd1 : Rd w 3 a1 l1.length (encOs l1))
    (bk0 : ∀ o ∈ l0, o.k.size + o.v.size ≤ 1048576) (bk1 : ∀ o ∈ l1, o.k.size + o.v.size ≤ 1048576) (wz4 : (Lit.int .u16 z4).wf = true) (htab : TabW w) :
    Calls Tryd.prog 10 #[.slice a0 l0.length c0, .slice a1 l1.length c1, .bool b2, .bool b3, .int .u16 z4] w fun e w' => e = .returned (.bool true) ∧ Mod NoneB w w' := by
  have hz4 : 0 ≤ z4 ∧ z4 ≤ 65535 := by simp [Lit.wf] at wz4; exact wz4
  clear wz4
  have huos := Tryd.underlying32
  go_enter Tryd.func10, Tryd.ntmps10
  go_wp2_with fail
  refine (rops_calls l1 a1 c1 w rd1 (fun o ho => Nat.le_trans (bk1 o ho) (by decide))).mono ?_
  intro e w1 h1
  obtain ⟨A1, k1, rfl, _, _, hm1⟩ := h1.open
  clear h1
  go_wp2_with fail
  refine (rops_calls l0 a0 c0 w1 (rd0.mod0 hm1) (fun o ho => Nat.le_trans (bk0 o ho) (by decide))).mono ?_
  intro e w2 h2
  obtain ⟨A2, k2, rfl, _, _, hm2⟩ := h2.open
  have hm12 := hm1.then0 hm2
  clear h2 bk0 bk1 hm1 hm2
  have hal : Mod NoneB w2 (w2.alloc (.cells #[.slice a0 l0.length c0, .slice a1 l1.length c1] 22)) := (Mod.refl NoneB w2).alloc _
  have hbx := box1 w2 (.cells #[.slice a0 l0.length c0, .slice a1 l1.length c1] 22)
  have hm13 := hm12.then0 hal
  have hrh : Rd (w2.alloc (.cells #[.slice a0 l0.length c0, .slice a1 l1.length c1] 22)) 1 (some ⟨w2.heap.size, 0, none⟩) 2 (([⟨l0, a0, c0⟩, ⟨l1, a1, c1⟩] : List OsV).flatMap encOv) := rd_blk (sz := 1) (n := 2) hbx rfl (by decide)
  have hhe := heavy7_calls [⟨l0, a0, c0⟩, ⟨l1, a1, c1⟩] [] (some ⟨w2.heap.size, 0, none⟩) none 2 0 _ hrh (fun x hx => by
    simp at hx
    rcases hx with rfl | rfl
    · exact rd0.mod0 hm13
    · exact rd1.mod0 hm13) (Rd.nil _ _ _) (fun x hx => by cases hx)
  have HHE := Lib.hid hhe
  clear hhe hrh hbx hal
  go_wp2_with fail
  refine HHE.out.mono ?_
  rintro e w3 ⟨b, rfl, hm3, hb3⟩
  have hm14 := hm13.then0 hm3
  clear hm13 hm3 HHE hm12
  cases b with
  | true =>
    clear hb3
    go_wp2_with ((with_reducible refine (awake7_calls _ (htab.mod0 hm14)).mono ?_); rintro e wz ⟨rfl, hmz⟩)
    go_ret
    exact ⟨rfl, hm14.then0 hmz⟩
  | false =>
    obtain ⟨⟨_, hli⟩, _⟩ := hb3 rfl
    have hv0 : wtO l0 ≤ 5000 := (hli ⟨l0, a0, c0⟩ (by simp)).1
    have hv1 : wtO l1 ≤ 5000 := (hli ⟨l1, a1, c1⟩ (by simp)).1
    clear hb3 hli
    by_cases he1 : (opsX l1).2 = 0
    case neg =>
      have q0 : ((((opsX l1).2 : Nat) : Int) != 0) = true := bne_iff_ne.mpr (by omega)
      clear he1
      go_wp2_with ((with_reducible refine (awake7_calls _ (htab.mod0 hm14)).mono ?_); rintro e wz ⟨rfl, hmz⟩)
      go_ret
      exact ⟨rfl, hm14.then0 hmz⟩
    by_cases he0 : (opsX l0).2 = 0
    case neg =>
      have q0 : ((((opsX l0).2 : Nat) : Int) != 0) = true := bne_iff_ne.mpr (by omega)
      rw [he1]
      clear he0
      go_wp2_with ((with_reducible refine (awake7_calls _ (htab.mod0 hm14)).mono ?_); rintro e wz ⟨rfl, hmz⟩)
      go_ret
      exact ⟨rfl, hm14.then0 hmz⟩
    obtain ⟨hr1, _, hx1⟩ := opsX_ok he1
    obtain ⟨hr0, _, hx0⟩ := opsX_ok he0
    rw [hx0, hx1]
    simp only
    clear he0 he1 hx0 hx1
    have hs0 := smallO_of hv0
    have hs1 := smallO_of hv1
    have hxl := bytesO_len hr0 hv0
    have hyl := bytesO_len hr1 hv1
    obtain ⟨k, hk⟩ : ∃ k : Nat, z4 % (((bytesO l1).length : Int) + 2) = k := ⟨(z4 % (((bytesO l1).length : Int) + 2)).toNat, by
      have := Int.emod_nonneg z4 (show ((bytesO l1).length : Int) + 2 ≠ 0 by omega)
      omega⟩
    have hkl : k ≤ 30000 := by
      have := Int.emod_lt_of_pos z4 (show 0 < ((bytesO l1).length : Int) + 2 by omega)
      omega
    obtain ⟨cr, hcr⟩ : ∃ cr : Int, cr = if b2 then 6 else 5 := ⟨_, rfl⟩
    have hcr5 : cr = 5 ∨ cr = 6 := by rw [hcr]; cases b2 <;> simp
    obtain ⟨hcm1, D3, m, hcm2, hrs, hm_lo, hm_hi, hth, hfit⟩ := crash_commit l0 l1 hr0 hr1 b2 b3 k (by omega)
    rw [← hcr] at hcm1 hcm2
    obtain ⟨hop, hon, hol⟩ := cr_open (cap := 100000) (crash := cr) (done := b3) (keep := [(k : Int)]) (fail := []) (by omega) (by omega) (by simp) (by simp)
    have hall : ∀ l ∈ [l0, l1], rightO l ∧ SmallO l := fun l hl => by
      simp at hl
      rcases hl with rfl | rfl
      · exact ⟨hr0, hs0⟩
      · exact ⟨hr1, hs1⟩
    obtain ⟨_, hlg, hln⟩ := log_cut (freeD 100000 [] [⟨sLog, (catO [l0, l1]).take m, ((catO [l0, l1]).take m).length⟩] 0) [l0, l1] m _ rfl rfl hall hm_hi
    obtain ⟨c9, hc9, hof⟩ := open_free 100000 [] ((catO [l0, l1]).take m) ((catO [l0, l1]).take m).length 0 _ hln
    have hcl : (catO [l0, l1]).length = (bytesO l0).length + (bytesO l1).length := by simp [catO]
    have hes := endsO_snoc [l0] l1 m (by rw [catO_one]; exact hm_lo)
    rw [catO_one] at hes
    have hes2 : endsO [l0, l1] m = if (catO [l0, l1]).length ≤ m then 2 else 1 := by rw [hcl]; exact hes
    have hcw1 : commitW (crD 100000 cr b3 [(k : Int)] [] [⟨sLog, [], 0⟩] 2) 0 false l0 = commitD (crD 100000 cr b3 [(k : Int)] [] [⟨sLog, [], 0⟩] 2) 0 l0 := rfl
    have hcw2 : commitW (crD 100000 cr b3 [(k : Int)] [] [⟨sLog, bytesO l0, (bytesO l0).length⟩] 4) (bytesO l0).length false l1 = commitD (crD 100000 cr b3 [(k : Int)] [] [⟨sLog, bytesO l0, (bytesO l0).length⟩] 4) (bytesO l0).length l1 := rfl
    rw [hcm1] at hcw1
    rw [hcm2] at hcw2
    have hml : ((catO [l0, l1]).take m).length ≤ 100000 := by rw [List.length_take]; omega
    have hfin : FitL (freeD 100000 [] [⟨sLog, (catO [l0, l1]).take m, ((catO [l0, l1]).take m).length⟩] 0) := fitL_one _ _ _ _ _ _ (by omega) (by omega)
    obtain ⟨T, hT⟩ : ∃ T, T = (catO [l0, l1]).take m := ⟨_, rfl⟩
    rw [← hT] at hrs hlg hln hof hfin
    obtain ⟨x, hx⟩ : ∃ x, x = bytesO l0 := ⟨_, rfl⟩
    obtain ⟨yn, hyn⟩ : ∃ y, y = (bytesO l1).length := ⟨_, rfl⟩
    rw [← hx] at hcw1 hcw2 hxl
    rw [← hyn] at hk hyl hth ⊢
    have HCR := Lib.hid hcr
    have HOP := Lib.hid hop
    have HON := Lib.hid hon
    have HOL := Lib.hid hol
    have HC1 := Lib.hid hcw1
    have HC2 := Lib.hid hcw2
    have HRS := Lib.hid hrs
    have HLG := Lib.hid hlg
    have HOF := Lib.hid hof
    have HTH := Lib.hid hth
    have HES := Lib.hid hes2
    have HFI := Lib.hid hfin
    have HFT := Lib.hid hfit
    have HS0 := Lib.hid hs0
    have HS1 := Lib.hid hs1
    clear hop hon hol hcw1 hcw2 hrs hlg hln hof hth hes hes2 hcl hfit hfin hall hcm1 hcm2 hs0 hs1 hr0 hr1 hx hyn hT hml hm_lo hm_hi hcr hv0 hv1
    go_upto_if 51 with fail
    go_cut [15] (fun v wx => v = .int .i64 cr ∧ wx = w3)
    case first =>
      cases b2 with
      | true =>
        have hc : cr = 6 := HCR.out
        have HC := Lib.hid hc
        clear hc
        go_wp2_with fail
        go_meet
        case rel => exact ⟨by rw [HC.out], rfl⟩
      | false =>
        have hc : cr = 5 := HCR.out
        have HC := Lib.hid hc
        clear hc
        go_wp2_with fail
        go_meet
        case rel => exact ⟨by rw [HC.out], rfl⟩
    case rest =>
      obtain ⟨rfl, hwx⟩ := hcut
      have hwx2 := hwx.symm
      clear hwx
      subst hwx2
      have hal : Mod NoneB w3 (w3.alloc (.cells #[.int .i64 k] 3)) := (Mod.refl NoneB w3).alloc _
      have hbx := box1 w3 (.cells #[.int .i64 k] 3)
      have hrk : Rd (w3.alloc (.cells #[.int .i64 k] 3)) 1 (some ⟨w3.heap.size, 0, none⟩) 1 (encI [(k : Int)]) := rd_blk (sz := 1) (n := 1) hbx rfl (by decide)
      have hnw := Dw.new w _ (hm14.then0 hal) ⟨100000, [], cr, b3, [(k : Int)]⟩ none (some ⟨w3.heap.size, 0, none⟩) 0 1 (Rd.nil _ _ _) hrk (by simp) (by simp)
      have HNW := Lib.hid hnw
      clear hnw hrk hbx hal
      go_wp2_with fail
      clear hk
      refine HNW.out.mono ?_
      rintro e w5 ⟨p, rfl, hdw⟩
      obtain ⟨S5, h5'⟩ := Lw.dw hdw
      have h5 : Lw w w5 p (crD 100000 cr b3 [(k : Int)] [] [] 0) S5 := h5'
      clear h5'
      clear hdw HNW
      go_wp2_with fail
      refine (h5.open htab ⟨by show 0 ≤ _; omega, by show 0 ≤ _; omega, by show 0 ≤ _; omega⟩ (by rw [HOP.out])).mono ?_
      rintro e w6 ⟨S6, q, vl, vs, rfl, h6, _, _, hqN, hqS6, hq6, hba⟩
      rw [HOP.out] at h6
      rw [HON.out] at hq6
      obtain ⟨A6, c6, rfl, _⟩ := hba.rd
      have hq0 : w.heap.size ≤ q := Nat.le_trans h5.base.size hqN
      clear hba hqN h5 HOP HON HOL
      go_wp2_with ((with_reducible refine (num_calls _ _).mono ?_); rintro ez wz ⟨rfl, rfl⟩)
      refine (h6.commit htab (fitL_at (x := []) (s := 0) rfl (by show 2 ≤ _; omega) (by simp)) hq6 hqS6 hq0 (by omega) l0 a0 c0 (rd0.mod0 h6.base) HS0.out).mono ?_
      rintro e w7 ⟨rfl, S7, h7, hqS7, hq7, _, _⟩
      rw [HC1.out] at h7 hq7 ⊢
      clear h6 hq6 hqS6
      go_wp2_with fail
      refine (h7.commit htab (fitL_at (x := x) (s := x.length) rfl (by show 4 ≤ _; omega) (by omega)) hq7 hqS7 hq0 (by omega) l1 a1 c1 (rd1.mod0 h7.base) HS1.out).mono ?_
      rintro e w8 ⟨rfl, S8, h8, hqS8, hq8, _, _⟩
      rw [HC2.out] at h8 hq8 ⊢
      clear h7 hq7 hqS7
      go_wp2_with fail
      refine (h8.restart0 HFT.out 100000).mono ?_
      rintro e w9 ⟨rfl, S9, h9, hm89, hn89⟩
      rw [HRS.out] at h9
      have hq9 := hm89.blk hq8 hqS8
      have hqS9 : ¬ S9 q := fun h => (hn89 q h).elim hqS8 (fun h => by have := blk_lt hq8; omega)
      clear h8 hq8 hqS8 hm89 hn89
      go_wp2_with fail
      refine (h9.open2 htab HFI.out (by rw [HOF.out])).mono ?_
      rintro e w10 ⟨S10, q2, vl2, vs2, rfl, h10, hm910, hn910, _, _, _, hba2, hof1, hof2⟩
      rw [HLG.out] at hba2
      have hq10 := hm910.blk hq9 hqS9
      have hb10 := h10.base
      obtain ⟨A10, c10, rfl, hbr⟩ := hba2.rd
      have HBR := Lib.hid hbr
      clear h9 hq9 hqS9 hm910 hn910 hof1 hof2 h10 hbr hba2
      have hsk : ∀ w', Mod NoneB w10 w' → Calls Tryd.prog 31 #[.pointer (some ⟨q, 0, none⟩)] w' fun e w'' => e = .returned (.bool true) ∧ w'' = w' := fun w' hm => wsick_calls w' p q _ true (hm.blk hq10 (fun h => h))
      have HSK := Lib.hid hsk
      clear hsk hq10
      obtain ⟨bg, hbg⟩ : ∃ bg, bg = decide (yn ≤ k) := ⟨_, rfl⟩
      rw [← hbg] at HTH
      have HBG := Lib.hid hbg
      clear hbg hkl
      have huW := huos
      cases b2 <;> cases b3 <;> cases bg
      · have qn : ¬ (yn ≤ k) := of_decide_eq_false HBG.out.symm
        have qz : ¬ ((yn : Int) ≤ (k : Int)) := by omega
        have hth : thereB false false false = false := rfl
        have hme : endsO [l0, l1] m = 1 := by
          have h1 := HES.out
          have h2 := HTH.out
          rw [hth] at h2
          rw [h1]
          exact if_neg (of_decide_eq_false h2.symm)
        rw [hme] at HBR ⊢
        have hal1 : Mod NoneB w10 (w10.alloc (.cells #[.slice a0 l0.length c0] 22)) := (Mod.refl NoneB w10).alloc _
        have hbx1 := box1 w10 (.cells #[.slice a0 l0.length c0] 22)
        have hb11 := hb10.then0 hal1
        have hr11 : Rd (w10.alloc (.cells #[.slice a0 l0.length c0] 22)) 1 (some ⟨w10.heap.size, 0, none⟩) 1 [Value.slice a0 l0.length c0] := rd_blk (sz := 1) (n := 1) hbx1 rfl (by decide)
        have hbw : BatsRd (w10.alloc (.cells #[.slice a0 l0.length c0] 22)) (some ⟨w10.heap.size, 0, none⟩) 1 [l0] [Value.slice a0 l0.length c0] := ⟨hr11, rfl, fun i h1 h2 => by
          have hi : i < 1 := h1
          match i, hi with
          | 0, _ => exact ⟨_, _, rfl, rd0.mod0 hb11⟩⟩
        have hbc : Calls Tryd.prog 22 #[.slice A10 1 c10, .slice (some ⟨w10.heap.size, 0, none⟩) 1 1] (w10.alloc (.cells #[.slice a0 l0.length c0] 22)) fun e w' => e = .returned (.bool true) ∧ Mod NoneB (w10.alloc (.cells #[.slice a0 l0.length c0] 22)) w' := by
          have h := batches_calls [l0] [l0] A10 (some ⟨w10.heap.size, 0, none⟩) c10 1 vs2 _ _ (HBR.out.mod0 hal1) hbw
          rw [decide_eq_true rfl] at h
          exact h
        have HBC := Lib.hid hbc
        have hm1011 := hal1
        clear hbc hbw hr11 hbx1 hal1
        go_wp2_with first
          | ((with_reducible refine (num_calls _ _).mono ?_); rintro ez wz ⟨rfl, rfl⟩)
          | ((with_reducible refine (HSK.out _ hm1011).mono ?_); rintro ez wz ⟨rfl, rfl⟩)
        refine HBC.out.mono ?_
        rintro e w12 ⟨rfl, hm12⟩
        have hb12 := hb11.then0 hm12
        go_wp2_with ((with_reducible refine (awake7_calls _ (htab.mod0 hb12)).mono ?_); rintro ez wz ⟨rfl, hmz⟩)
        go_ret
        exact ⟨rfl, hb12.then0 hmz⟩
      · have qn : yn ≤ k := of_decide_eq_true HBG.out.symm
        have qz : (yn : Int) ≤ (k : Int) := by omega
        have hth : thereB false false true = false := rfl
        have hme : endsO [l0, l1] m = 1 := by
          have h1 := HES.out
          have h2 := HTH.out
          rw [hth] at h2
          rw [h1]
          exact if_neg (of_decide_eq_false h2.symm)
        rw [hme] at HBR ⊢
        have hal1 : Mod NoneB w10 (w10.alloc (.cells #[.slice a0 l0.length c0] 22)) := (Mod.refl NoneB w10).alloc _
        have hbx1 := box1 w10 (.cells #[.slice a0 l0.length c0] 22)
        have hb11 := hb10.then0 hal1
        have hr11 : Rd (w10.alloc (.cells #[.slice a0 l0.length c0] 22)) 1 (some ⟨w10.heap.size, 0, none⟩) 1 [Value.slice a0 l0.length c0] := rd_blk (sz := 1) (n := 1) hbx1 rfl (by decide)
        have hbw : BatsRd (w10.alloc (.cells #[.slice a0 l0.length c0] 22)) (some ⟨w10.heap.size, 0, none⟩) 1 [l0] [Value.slice a0 l0.length c0] := ⟨hr11, rfl, fun i h1 h2 => by
          have hi : i < 1 := h1
          match i, hi with
          | 0, _ => exact ⟨_, _, rfl, rd0.mod0 hb11⟩⟩
        have hbc : Calls Tryd.prog 22 #[.slice A10 1 c10, .slice (some ⟨w10.heap.size, 0, none⟩) 1 1] (w10.alloc (.cells #[.slice a0 l0.length c0] 22)) fun e w' => e = .returned (.bool true) ∧ Mod NoneB (w10.alloc (.cells #[.slice a0 l0.length c0] 22)) w' := by
          have h := batches_calls [l0] [l0] A10 (some ⟨w10.heap.size, 0, none⟩) c10 1 vs2 _ _ (HBR.out.mod0 hal1) hbw
          rw [decide_eq_true rfl] at h
          exact h
        have HBC := Lib.hid hbc
        have hm1011 := hal1
        clear hbc hbw hr11 hbx1 hal1
        go_wp2_with first
          | ((with_reducible refine (num_calls _ _).mono ?_); rintro ez wz ⟨rfl, rfl⟩)
          | ((with_reducible refine (HSK.out _ hm1011).mono ?_); rintro ez wz ⟨rfl, rfl⟩)
        refine HBC.out.mono ?_
        rintro e w12 ⟨rfl, hm12⟩
        have hb12 := hb11.then0 hm12
        go_wp2_with ((with_reducible refine (awake7_calls _ (htab.mod0 hb12)).mono ?_); rintro ez wz ⟨rfl, hmz⟩)
        go_ret
        exact ⟨rfl, hb12.then0 hmz⟩
      · have qn : ¬ (yn ≤ k) := of_decide_eq_false HBG.out.symm
        have qz : ¬ ((yn : Int) ≤ (k : Int)) := by omega
        have hth : thereB false true false = false := rfl
        have hme : endsO [l0, l1] m = 1 := by
          have h1 := HES.out
          have h2 := HTH.out
          rw [hth] at h2
          rw [h1]
          exact if_neg (of_decide_eq_false h2.symm)
        rw [hme] at HBR ⊢
        have hal1 : Mod NoneB w10 (w10.alloc (.cells #[.slice a0 l0.length c0] 22)) := (Mod.refl NoneB w10).alloc _
        have hbx1 := box1 w10 (.cells #[.slice a0 l0.length c0] 22)
        have hb11 := hb10.then0 hal1
        have hr11 : Rd (w10.alloc (.cells #[.slice a0 l0.length c0] 22)) 1 (some ⟨w10.heap.size, 0, none⟩) 1 [Value.slice a0 l0.length c0] := rd_blk (sz := 1) (n := 1) hbx1 rfl (by decide)
        have hbw : BatsRd (w10.alloc (.cells #[.slice a0 l0.length c0] 22)) (some ⟨w10.heap.size, 0, none⟩) 1 [l0] [Value.slice a0 l0.length c0] := ⟨hr11, rfl, fun i h1 h2 => by
          have hi : i < 1 := h1
          match i, hi with
          | 0, _ => exact ⟨_, _, rfl, rd0.mod0 hb11⟩⟩
        have hbc : Calls Tryd.prog 22 #[.slice A10 1 c10, .slice (some ⟨w10.heap.size, 0, none⟩) 1 1] (w10.alloc (.cells #[.slice a0 l0.length c0] 22)) fun e w' => e = .returned (.bool true) ∧ Mod NoneB (w10.alloc (.cells #[.slice a0 l0.length c0] 22)) w' := by
          have h := batches_calls [l0] [l0] A10 (some ⟨w10.heap.size, 0, none⟩) c10 1 vs2 _ _ (HBR.out.mod0 hal1) hbw
          rw [decide_eq_true rfl] at h
          exact h
        have HBC := Lib.hid hbc
        have hm1011 := hal1
        clear hbc hbw hr11 hbx1 hal1
        go_wp2_with first
          | ((with_reducible refine (num_calls _ _).mono ?_); rintro ez wz ⟨rfl, rfl⟩)
          | ((with_reducible refine (HSK.out _ hm1011).mono ?_); rintro ez wz ⟨rfl, rfl⟩)
        refine HBC.out.mono ?_
        rintro e w12 ⟨rfl, hm12⟩
        have hb12 := hb11.then0 hm12
        go_wp2_with ((with_reducible refine (awake7_calls _ (htab.mod0 hb12)).mono ?_); rintro ez wz ⟨rfl, hmz⟩)
        go_ret
        exact ⟨rfl, hb12.then0 hmz⟩
      · have qn : yn ≤ k := of_decide_eq_true HBG.out.symm
        have qz : (yn : Int) ≤ (k : Int) := by omega
        have hth : thereB false true true = true := rfl
        have hme : endsO [l0, l1] m = 2 := by
          have h1 := HES.out
          have h2 := HTH.out
          rw [hth] at h2
          rw [h1]
          exact if_pos (of_decide_eq_true h2.symm)
        rw [hme] at HBR ⊢
        have hal1 : Mod NoneB w10 (w10.alloc (.cells #[.slice a0 l0.length c0] 22)) := (Mod.refl NoneB w10).alloc _
        have hbx1 := box1 w10 (.cells #[.slice a0 l0.length c0] 22)
        have ho1 : Own (w10.alloc (.cells #[.slice a0 l0.length c0] 22)) 22 1 (.slice (some ⟨w10.heap.size, 0, none⟩) 1 1) 1 [.slice a0 l0.length c0] := Own.of_blk (cap := 1) hbx1 (by omega) (by omega) rfl rfl
        have hal2 : Mod NoneB (w10.alloc (.cells #[.slice a0 l0.length c0] 22)) ((w10.alloc (.cells #[.slice a0 l0.length c0] 22)).alloc (.cells #[.slice a1 l1.length c1] 22)) := (Mod.refl NoneB _).alloc _
        have hbx2 := (box2 w10 (.cells #[.slice a0 l0.length c0] 22) (.cells #[.slice a1 l1.length c1] 22)).2
        have hnx2 : 0 < 1 → ∃ x, (some ⟨w10.heap.size + 1, 0, none⟩ : Option Addr) = some x ∧ ∀ (i : Nat) u, ([Value.slice a1 l1.length c1])[i]? = some u → ((w10.alloc (.cells #[.slice a0 l0.length c0] 22)).alloc (.cells #[.slice a1 l1.length c1] 22)).cell? (x.add i) = some u := (rd_blk (sz := 1) (n := 1) hbx2 rfl (by decide)).2.2
        have ho2 := ho1.mod0 hal2
        go_wp2_with (at_builtin; refine wpList_append rfl (.tmp 118) (.tmp 120) 32 rfl 22 _ 1 24 huos tiOps rfl (by decide) (by decide) _ 1 [.slice a0 l0.length c0] rfl ho2 (some ⟨w10.heap.size + 1, 0, none⟩) 1 1 [.slice a1 l1.length c1] rfl rfl hnx2 (fun u hu => by rw [List.mem_singleton] at hu; subst hu; rfl) (by omega) ?_)
        intro v11 w11 ho11 hm11 hno11
        have hm1011 : Mod NoneB w10 w11 := (hal1.then0 hal2).trans_new hm11 (fun k hk => .inr (by
          have e := Option.some.inj (show some w10.heap.size = some k from hk)
          omega))
        obtain ⟨A11, c11, rfl, _, _, hr11⟩ := ho11.out
        have hb11 := hb10.then0 hm1011
        have hbw : BatsRd w11 A11 2 [l0, l1] [Value.slice a0 l0.length c0, Value.slice a1 l1.length c1] := ⟨hr11, rfl, fun i h1 h2 => by
          have hi : i < 2 := h1
          match i, hi with
          | 0, _ => exact ⟨_, _, rfl, rd0.mod0 hb11⟩
          | 1, _ => exact ⟨_, _, rfl, rd1.mod0 hb11⟩⟩
        have hbc : Calls Tryd.prog 22 #[.slice A10 2 c10, .slice A11 2 c11] w11 fun e w' => e = .returned (.bool true) ∧ Mod NoneB w11 w' := by
          have h := batches_calls [l0, l1] [l0, l1] A10 A11 c10 c11 vs2 _ w11 (HBR.out.mod0 hm1011) hbw
          rw [decide_eq_true rfl] at h
          exact h
        have HBC := Lib.hid hbc
        clear hbc hbw hr11 ho11 hno11 hm11 ho1 ho2 hal1 hal2 hbx1 hbx2 hnx2
        go_wp2_with first
          | ((with_reducible refine (num_calls _ _).mono ?_); rintro ez wz ⟨rfl, rfl⟩)
          | ((with_reducible refine (HSK.out _ hm1011).mono ?_); rintro ez wz ⟨rfl, rfl⟩)
        refine HBC.out.mono ?_
        rintro e w12 ⟨rfl, hm12⟩
        have hb12 := hb11.then0 hm12
        go_wp2_with ((with_reducible refine (awake7_calls _ (htab.mod0 hb12)).mono ?_); rintro ez wz ⟨rfl, hmz⟩)
        go_ret
        exact ⟨rfl, hb12.then0 hmz⟩
      · have qn : ¬ (yn ≤ k) := of_decide_eq_false HBG.out.symm
        have qz : ¬ ((yn : Int) ≤ (k : Int)) := by omega
        have hth : thereB true false false = false := rfl
        have hme : endsO [l0, l1] m = 1 := by
          have h1 := HES.out
          have h2 := HTH.out
          rw [hth] at h2
          rw [h1]
          exact if_neg (of_decide_eq_false h2.symm)
        rw [hme] at HBR ⊢
        have hal1 : Mod NoneB w10 (w10.alloc (.cells #[.slice a0 l0.length c0] 22)) := (Mod.refl NoneB w10).alloc _
        have hbx1 := box1 w10 (.cells #[.slice a0 l0.length c0] 22)
        have hb11 := hb10.then0 hal1
        have hr11 : Rd (w10.alloc (.cells #[.slice a0 l0.length c0] 22)) 1 (some ⟨w10.heap.size, 0, none⟩) 1 [Value.slice a0 l0.length c0] := rd_blk (sz := 1) (n := 1) hbx1 rfl (by decide)
        have hbw : BatsRd (w10.alloc (.cells #[.slice a0 l0.length c0] 22)) (some ⟨w10.heap.size, 0, none⟩) 1 [l0] [Value.slice a0 l0.length c0] := ⟨hr11, rfl, fun i h1 h2 => by
          have hi : i < 1 := h1
          match i, hi with
          | 0, _ => exact ⟨_, _, rfl, rd0.mod0 hb11⟩⟩
        have hbc : Calls Tryd.prog 22 #[.slice A10 1 c10, .slice (some ⟨w10.heap.size, 0, none⟩) 1 1] (w10.alloc (.cells #[.slice a0 l0.length c0] 22)) fun e w' => e = .returned (.bool true) ∧ Mod NoneB (w10.alloc (.cells #[.slice a0 l0.length c0] 22)) w' := by
          have h := batches_calls [l0] [l0] A10 (some ⟨w10.heap.size, 0, none⟩) c10 1 vs2 _ _ (HBR.out.mod0 hal1) hbw
          rw [decide_eq_true rfl] at h
          exact h
        have HBC := Lib.hid hbc
        have hm1011 := hal1
        clear hbc hbw hr11 hbx1 hal1
        go_wp2_with first
          | ((with_reducible refine (num_calls _ _).mono ?_); rintro ez wz ⟨rfl, rfl⟩)
          | ((with_reducible refine (HSK.out _ hm1011).mono ?_); rintro ez wz ⟨rfl, rfl⟩)
        refine HBC.out.mono ?_
        rintro e w12 ⟨rfl, hm12⟩
        have hb12 := hb11.then0 hm12
        go_wp2_with ((with_reducible refine (awake7_calls _ (htab.mod0 hb12)).mono ?_); rintro ez wz ⟨rfl, hmz⟩)
        go_ret
        exact ⟨rfl, hb12.then0 hmz⟩
      · have qn : yn ≤ k := of_decide_eq_true HBG.out.symm
        have qz : (yn : Int) ≤ (k : Int) := by omega
        have hth : thereB true false true = true := rfl
        have hme : endsO [l0, l1] m = 2 := by
          have h1 := HES.out
          have h2 := HTH.out
          rw [hth] at h2
          rw [h1]
          exact if_pos (of_decide_eq_true h2.symm)
        rw [hme] at HBR ⊢
        have hal1 : Mod NoneB w10 (w10.alloc (.cells #[.slice a0 l0.length c0] 22)) := (Mod.refl NoneB w10).alloc _
        have hbx1 := box1 w10 (.cells #[.slice a0 l0.length c0] 22)
        have ho1 : Own (w10.alloc (.cells #[.slice a0 l0.length c0] 22)) 22 1 (.slice (some ⟨w10.heap.size, 0, none⟩) 1 1) 1 [.slice a0 l0.length c0] := Own.of_blk (cap := 1) hbx1 (by omega) (by omega) rfl rfl
        have hal2 : Mod NoneB (w10.alloc (.cells #[.slice a0 l0.length c0] 22)) ((w10.alloc (.cells #[.slice a0 l0.length c0] 22)).alloc (.cells #[.slice a1 l1.length c1] 22)) := (Mod.refl NoneB _).alloc _
        have hbx2 := (box2 w10 (.cells #[.slice a0 l0.length c0] 22) (.cells #[.slice a1 l1.length c1] 22)).2
        have hnx2 : 0 < 1 → ∃ x, (some ⟨w10.heap.size + 1, 0, none⟩ : Option Addr) = some x ∧ ∀ (i : Nat) u, ([Value.slice a1 l1.length c1])[i]? = some u → ((w10.alloc (.cells #[.slice a0 l0.length c0] 22)).alloc (.cells #[.slice a1 l1.length c1] 22)).cell? (x.add i) = some u := (rd_blk (sz := 1) (n := 1) hbx2 rfl (by decide)).2.2
        have ho2 := ho1.mod0 hal2
        go_wp2_with (at_builtin; refine wpList_append rfl (.tmp 118) (.tmp 120) 32 rfl 22 _ 1 24 huos tiOps rfl (by decide) (by decide) _ 1 [.slice a0 l0.length c0] rfl ho2 (some ⟨w10.heap.size + 1, 0, none⟩) 1 1 [.slice a1 l1.length c1] rfl rfl hnx2 (fun u hu => by rw [List.mem_singleton] at hu; subst hu; rfl) (by omega) ?_)
        intro v11 w11 ho11 hm11 hno11
        have hm1011 : Mod NoneB w10 w11 := (hal1.then0 hal2).trans_new hm11 (fun k hk => .inr (by
          have e := Option.some.inj (show some w10.heap.size = some k from hk)
          omega))
        obtain ⟨A11, c11, rfl, _, _, hr11⟩ := ho11.out
        have hb11 := hb10.then0 hm1011
        have hbw : BatsRd w11 A11 2 [l0, l1] [Value.slice a0 l0.length c0, Value.slice a1 l1.length c1] := ⟨hr11, rfl, fun i h1 h2 => by
          have hi : i < 2 := h1
          match i, hi with
          | 0, _ => exact ⟨_, _, rfl, rd0.mod0 hb11⟩
          | 1, _ => exact ⟨_, _, rfl, rd1.mod0 hb11⟩⟩
        have hbc : Calls Tryd.prog 22 #[.slice A10 2 c10, .slice A11 2 c11] w11 fun e w' => e = .returned (.bool true) ∧ Mod NoneB w11 w' := by
          have h := batches_calls [l0, l1] [l0, l1] A10 A11 c10 c11 vs2 _ w11 (HBR.out.mod0 hm1011) hbw
          rw [decide_eq_true rfl] at h
          exact h
        have HBC := Lib.hid hbc
        clear hbc hbw hr11 ho11 hno11 hm11 ho1 ho2 hal1 hal2 hbx1 hbx2 hnx2
        go_wp2_with first
          | ((with_reducible refine (num_calls _ _).mono ?_); rintro ez wz ⟨rfl, rfl⟩)
          | ((with_reducible refine (HSK.out _ hm1011).mono ?_); rintro ez wz ⟨rfl, rfl⟩)
        refine HBC.out.mono ?_
        rintro e w12 ⟨rfl, hm12⟩
        have hb12 := hb11.then0 hm12
        go_wp2_with ((with_reducible refine (awake7_calls _ (htab.mod0 hb12)).mono ?_); rintro ez wz ⟨rfl, hmz⟩)
        go_ret
        exact ⟨rfl, hb12.then0 hmz⟩
      · have qn : ¬ (yn ≤ k) := of_decide_eq_false HBG.out.symm
        have qz : ¬ ((yn : Int) ≤ (k : Int)) := by omega
        have hth : thereB true true false = true := rfl
        have hme : endsO [l0, l1] m = 2 := by
          have h1 := HES.out
          have h2 := HTH.out
          rw [hth] at h2
          rw [h1]
          exact if_pos (of_decide_eq_true h2.symm)
        rw [hme] at HBR ⊢
        have hal1 : Mod NoneB w10 (w10.alloc (.cells #[.slice a0 l0.length c0] 22)) := (Mod.refl NoneB w10).alloc _
        have hbx1 := box1 w10 (.cells #[.slice a0 l0.length c0] 22)
        have ho1 : Own (w10.alloc (.cells #[.slice a0 l0.length c0] 22)) 22 1 (.slice (some ⟨w10.heap.size, 0, none⟩) 1 1) 1 [.slice a0 l0.length c0] := Own.of_blk (cap := 1) hbx1 (by omega) (by omega) rfl rfl
        have hal2 : Mod NoneB (w10.alloc (.cells #[.slice a0 l0.length c0] 22)) ((w10.alloc (.cells #[.slice a0 l0.length c0] 22)).alloc (.cells #[.slice a1 l1.length c1] 22)) := (Mod.refl NoneB _).alloc _
        have hbx2 := (box2 w10 (.cells #[.slice a0 l0.length c0] 22) (.cells #[.slice a1 l1.length c1] 22)).2
        have hnx2 : 0 < 1 → ∃ x, (some ⟨w10.heap.size + 1, 0, none⟩ : Option Addr) = some x ∧ ∀ (i : Nat) u, ([Value.slice a1 l1.length c1])[i]? = some u → ((w10.alloc (.cells #[.slice a0 l0.length c0] 22)).alloc (.cells #[.slice a1 l1.length c1] 22)).cell? (x.add i) = some u := (rd_blk (sz := 1) (n := 1) hbx2 rfl (by decide)).2.2
        have ho2 := ho1.mod0 hal2
        go_wp2_with (at_builtin; refine wpList_append rfl (.tmp 118) (.tmp 120) 32 rfl 22 _ 1 24 huos tiOps rfl (by decide) (by decide) _ 1 [.slice a0 l0.length c0] rfl ho2 (some ⟨w10.heap.size + 1, 0, none⟩) 1 1 [.slice a1 l1.length c1] rfl rfl hnx2 (fun u hu => by rw [List.mem_singleton] at hu; subst hu; rfl) (by omega) ?_)
        intro v11 w11 ho11 hm11 hno11
        have hm1011 : Mod NoneB w10 w11 := (hal1.then0 hal2).trans_new hm11 (fun k hk => .inr (by
          have e := Option.some.inj (show some w10.heap.size = some k from hk)
          omega))
        obtain ⟨A11, c11, rfl, _, _, hr11⟩ := ho11.out
        have hb11 := hb10.then0 hm1011
        have hbw : BatsRd w11 A11 2 [l0, l1] [Value.slice a0 l0.length c0, Value.slice a1 l1.length c1] := ⟨hr11, rfl, fun i h1 h2 => by
          have hi : i < 2 := h1
          match i, hi with
          | 0, _ => exact ⟨_, _, rfl, rd0.mod0 hb11⟩
          | 1, _ => exact ⟨_, _, rfl, rd1.mod0 hb11⟩⟩
        have hbc : Calls Tryd.prog 22 #[.slice A10 2 c10, .slice A11 2 c11] w11 fun e w' => e = .returned (.bool true) ∧ Mod NoneB w11 w' := by
          have h := batches_calls [l0, l1] [l0, l1] A10 A11 c10 c11 vs2 _ w11 (HBR.out.mod0 hm1011) hbw
          rw [decide_eq_true rfl] at h
          exact h
        have HBC := Lib.hid hbc
        clear hbc hbw hr11 ho11 hno11 hm11 ho1 ho2 hal1 hal2 hbx1 hbx2 hnx2
        go_wp2_with first
          | ((with_reducible refine (num_calls _ _).mono ?_); rintro ez wz ⟨rfl, rfl⟩)
          | ((with_reducible refine (HSK.out _ hm1011).mono ?_); rintro ez wz ⟨rfl, rfl⟩)
        refine HBC.out.mono ?_
        rintro e w12 ⟨rfl, hm12⟩
        have hb12 := hb11.then0 hm12
        go_wp2_with ((with_reducible refine (awake7_calls _ (htab.mod0 hb12)).mono ?_); rintro ez wz ⟨rfl, hmz⟩)
        go_ret
        exact ⟨rfl, hb12.then0 hmz⟩
      · have qn : yn ≤ k := of_decide_eq_true HBG.out.symm
        have qz : (yn : Int) ≤ (k : Int) := by omega
        have hth : thereB true true true = true := rfl
        have hme : endsO [l0, l1] m = 2 := by
          have h1 := HES.out
          have h2 := HTH.out
          rw [hth] at h2
          rw [h1]
          exact if_pos (of_decide_eq_true h2.symm)
        rw [hme] at HBR ⊢
        have hal1 : Mod NoneB w10 (w10.alloc (.cells #[.slice a0 l0.length c0] 22)) := (Mod.refl NoneB w10).alloc _
        have hbx1 := box1 w10 (.cells #[.slice a0 l0.length c0] 22)
        have ho1 : Own (w10.alloc (.cells #[.slice a0 l0.length c0] 22)) 22 1 (.slice (some ⟨w10.heap.size, 0, none⟩) 1 1) 1 [.slice a0 l0.length c0] := Own.of_blk (cap := 1) hbx1 (by omega) (by omega) rfl rfl
        have hal2 : Mod NoneB (w10.alloc (.cells #[.slice a0 l0.length c0] 22)) ((w10.alloc (.cells #[.slice a0 l0.length c0] 22)).alloc (.cells #[.slice a1 l1.length c1] 22)) := (Mod.refl NoneB _).alloc _
        have hbx2 := (box2 w10 (.cells #[.slice a0 l0.length c0] 22) (.cells #[.slice a1 l1.length c1] 22)).2
        have hnx2 : 0 < 1 → ∃ x, (some ⟨w10.heap.size + 1, 0, none⟩ : Option Addr) = some x ∧ ∀ (i : Nat) u, ([Value.slice a1 l1.length c1])[i]? = some u → ((w10.alloc (.cells #[.slice a0 l0.length c0] 22)).alloc (.cells #[.slice a1 l1.length c1] 22)).cell? (x.add i) = some u := (rd_blk (sz := 1) (n := 1) hbx2 rfl (by decide)).2.2
        have ho2 := ho1.mod0 hal2
        go_wp2_with (at_builtin; refine wpList_append rfl (.tmp 118) (.tmp 120) 32 rfl 22 _ 1 24 huos tiOps rfl (by decide) (by decide) _ 1 [.slice a0 l0.length c0] rfl ho2 (some ⟨w10.heap.size + 1, 0, none⟩) 1 1 [.slice a1 l1.length c1] rfl rfl hnx2 (fun u hu => by rw [List.mem_singleton] at hu; subst hu; rfl) (by omega) ?_)
        intro v11 w11 ho11 hm11 hno11
        have hm1011 : Mod NoneB w10 w11 := (hal1.then0 hal2).trans_new hm11 (fun k hk => .inr (by
          have e := Option.some.inj (show some w10.heap.size = some k from hk)
          omega))
        obtain ⟨A11, c11, rfl, _, _, hr11⟩ := ho11.out
        have hb11 := hb10.then0 hm1011
        have hbw : BatsRd w11 A11 2 [l0, l1] [Value.slice a0 l0.length c0, Value.slice a1 l1.length c1] := ⟨hr11, rfl, fun i h1 h2 => by
          have hi : i < 2 := h1
          match i, hi with
          | 0, _ => exact ⟨_, _, rfl, rd0.mod0 hb11⟩
          | 1, _ => exact ⟨_, _, rfl, rd1.mod0 hb11⟩⟩
        have hbc : Calls Tryd.prog 22 #[.slice A10 2 c10, .slice A11 2 c11] w11 fun e w' => e = .returned (.bool true) ∧ Mod NoneB w11 w' := by
          have h := batches_calls [l0, l1] [l0, l1] A10 A11 c10 c11 vs2 _ w11 (HBR.out.mod0 hm1011) hbw
          rw [decide_eq_true rfl] at h
          exact h
        have HBC := Lib.hid hbc
        clear hbc hbw hr11 ho11 hno11 hm11 ho1 ho2 hal1 hal2 hbx1 hbx2 hnx2
        go_wp2_with first
          | ((with_reducible refine (num_calls _ _).mono ?_); rintro ez wz ⟨rfl, rfl⟩)
          | ((with_reducible refine (HSK.out _ hm1011).mono ?_); rintro ez wz ⟨rfl, rfl⟩)
        refine HBC.out.mono ?_
        rintro e w12 ⟨rfl, hm12⟩
        have hb12 := hb11.then0 hm12
        go_wp2_with ((with_reducible refine (awake7_calls _ (htab.mod0 hb12)).mono ?_); rintro ez wz ⟨rfl, hmz⟩)
        go_ret
        exact ⟨rfl, hb12.then0 hmz⟩
end Go.Proofs.YtaldneffhbgepaaDoor

