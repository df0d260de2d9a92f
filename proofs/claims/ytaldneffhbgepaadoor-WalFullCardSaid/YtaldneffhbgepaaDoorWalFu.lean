/- WalFull: where there is no room nothing is kept of a batch, and the next one that fits is: the walk of the law. -/
import Derived.Test.YtaldneffhbgepaaDoorBatJ
import Derived.Test.YtaldneffhbgepaaDoorWalW
import Derived.Test.YtaldneffhbgepaaDoorBatAp
import Derived.Test.YtaldneffhbgepaaDoorBatEn
namespace Go.Proofs.YtaldneffhbgepaaDoor
open Go.RowKit
set_option linter.unusedVariables false

set_option maxHeartbeats 12000000 in
set_option maxRecDepth 100000 in
theorem walFull_walk (l0 l1 : List Op3) (z2 : Int) (a0 a1 : Option Addr) (c0 c1 : Nat) (w : World) (rd0 : Rd w 3 a0 l0.length (encOs l0)) (rd1 : Rd w 3 a1 l1.length (encOs l1)) (wz2 : (Lit.int .u16 z2).wf = true) (htab : TabW w) :
    Calls Tryd.prog 7 #[.slice a0 l0.length c0, .slice a1 l1.length c1, .int .u16 z2] w fun e w' => e = .returned (.bool true) ∧ Mod NoneB w w' := by
  have hz2 : 0 ≤ z2 ∧ z2 ≤ 65535 := by simp [Lit.wf] at wz2; exact wz2
  clear wz2
  have huos := Tryd.underlying32
  go_enter Tryd.func7, Tryd.ntmps7
  go_wp2_with fail
  refine (greatO_calls l0 a0 c0 _ rd0).mono ?_
  rintro e w1 ⟨b, rfl, hm1, hb1⟩
  cases b with
  | true =>
    clear hb1
    go_wp2_with ((with_reducible refine (awake7_calls _ (htab.mod0 hm1)).mono ?_); rintro e wz ⟨rfl, hmz⟩)
    go_ret
    exact ⟨rfl, hm1.then0 hmz⟩
  | false =>
    have hs0 := smallO_of (hb1 rfl)
    have hv0 := hb1 rfl
    have hw0 := (wtO_le (hb1 rfl)).1
    clear hb1
    go_wp2_with fail
    refine (greatO_calls l1 a1 c1 _ (rd1.mod0 hm1)).mono ?_
    rintro e w2 ⟨b, rfl, hm2, hb2⟩
    have hm12 := hm1.then0 hm2
    cases b with
    | true =>
      clear hb2
      go_wp2_with ((with_reducible refine (awake7_calls _ (htab.mod0 hm12)).mono ?_); rintro e wz ⟨rfl, hmz⟩)
      go_ret
      exact ⟨rfl, hm12.then0 hmz⟩
    | false =>
      have hs1 := smallO_of (hb2 rfl)
      have hv1 := hb2 rfl
      have hw1 := (wtO_le (hb2 rfl)).1
      clear hb2 hm1 hm2
      go_wp2_with fail
      refine (rrightops_calls l0 a0 c0 _ (rd0.mod0 hm12)).mono ?_
      rintro e w3 ⟨rfl, hm3⟩
      have hm13 := hm12.then0 hm3
      clear hm12 hm3
      by_cases hr0 : rightO l0
      case neg =>
        rw [decide_eq_false hr0]
        clear hr0
        go_wp2_with ((with_reducible refine (awake7_calls _ (htab.mod0 hm13)).mono ?_); rintro e wz ⟨rfl, hmz⟩)
        go_ret
        exact ⟨rfl, hm13.then0 hmz⟩
      rw [decide_eq_true hr0]
      go_wp2_with fail
      refine (rrightops_calls l1 a1 c1 _ (rd1.mod0 hm13)).mono ?_
      rintro e w4 ⟨rfl, hm4⟩
      have hm14 := hm13.then0 hm4
      clear hm13 hm4
      by_cases hr1 : rightO l1
      case neg =>
        rw [decide_eq_false hr1]
        clear hr1
        go_wp2_with ((with_reducible refine (awake7_calls _ (htab.mod0 hm14)).mono ?_); rintro e wz ⟨rfl, hmz⟩)
        go_ret
        exact ⟨rfl, hm14.then0 hmz⟩
      rw [decide_eq_true hr1]
      obtain ⟨k, hk⟩ : ∃ k : Nat, z2 % 6000 = k := ⟨(z2 % 6000).toNat, by omega⟩
      have hkl : k ≤ 6000 := by omega
      have hxl := bytesO_len hr0 hv0
      have hyl := bytesO_len hr1 hv1
      obtain ⟨hop, hob, hon, hol⟩ := open_new k [] 0
      have hox0 : opsX l0 = (bytesO l0, 0) := (opsX_small hs0).trans (if_pos hr0)
      have hox1 : opsX l1 = (bytesO l1, 0) := (opsX_small hs1).trans (if_pos hr1)
      have HOP := Lib.hid hop
      have HON := Lib.hid hon
      have HOX0 := Lib.hid hox0
      have HOX1 := Lib.hid hox1
      have HS0 := Lib.hid hs0
      have HS1 := Lib.hid hs1
      have HR0 := Lib.hid hr0
      have HR1 := Lib.hid hr1
      clear hop hob hon hol hox0 hox1 hs0 hs1 hr0 hr1
      go_wp2_with fail
      refine (rops_calls l0 a0 c0 w4 (rd0.mod0 hm14) (fun o ho => Nat.le_trans (HS0.out o ho) (by decide))).mono ?_
      intro e w5 h5
      rw [HOX0.out] at h5
      obtain ⟨A5, c5, rfl, _, _, hm5⟩ := h5.open
      have hm15 := hm14.then0 hm5
      clear h5
      go_wp2_with fail
      refine (rops_calls l1 a1 c1 w5 (rd1.mod0 hm15) (fun o ho => Nat.le_trans (HS1.out o ho) (by decide))).mono ?_
      intro e w6 h6
      rw [HOX1.out] at h6
      obtain ⟨A6, c6, rfl, _, _, hm6⟩ := h6.open
      have hm16 := hm15.then0 hm6
      clear h6
      obtain ⟨x, hx⟩ : ∃ x, x = bytesO l0 := ⟨_, rfl⟩
      obtain ⟨y, hy⟩ : ∃ y, y = bytesO l1 := ⟨_, rfl⟩
      simp only [← hx, ← hy]
      rw [← hx] at hxl
      rw [← hy] at hyl
      have HX := Lib.hid hx
      have HY := Lib.hid hy
      clear hx hy
      go_wp2_with fail
      clear hk
      refine (Dw.new0 w w6 hm16 k).mono ?_
      rintro e w7 ⟨p, rfl, hdw⟩
      obtain ⟨S7, h7⟩ := Lw.dw hdw
      clear hdw hm16 hm15 hm14 hm5 hm6
      go_wp2_with fail
      refine (h7.open htab (fitL_nil _ _ _ (by omega)) (by rw [HOP.out])).mono ?_
      rintro e w8 ⟨S8, q, vl, vs, rfl, h8, _, _, hqN, hqS8, hq8, hba⟩
      rw [HOP.out] at h8
      rw [HON.out] at hq8
      obtain ⟨A8, c8, rfl, _⟩ := hba.rd
      have hq0 : w.heap.size ≤ q := Nat.le_trans h7.base.size hqN
      clear hba hqN h7 HOP HON HOX0 HOX1
      go_wp2_with ((with_reducible refine (num_calls _ _).mono ?_); rintro ez wz ⟨rfl, rfl⟩)
      by_cases fa : x.length ≤ k
      · by_cases fb : x.length + y.length ≤ k
        · have hc1 : commitW (freeD k [] [⟨sLog, [], 0⟩] 2) 0 false l0 = ⟨freeD k [] [⟨sLog, x, x.length⟩] 4, x.length, false, 0⟩ := by
            have h := commit_ok k [] [] 0 2 0 l0 HR0.out (by rw [← HX.out]; simp; omega)
            rw [← HX.out, List.nil_append, Nat.zero_add] at h
            exact h
          have qa : (x.length : Int) ≤ (k : Int) := by omega
          have hc2 : commitW (freeD k [] [⟨sLog, x, x.length⟩] 4) x.length false l1 = ⟨freeD k [] [⟨sLog, x ++ y, (x ++ y).length⟩] 6, (x ++ y).length, false, 0⟩ := by
            have h := commit_ok k [] x x.length 4 x.length l1 HR1.out (by rw [← HY.out]; simp; omega)
            rw [← HY.out] at h
            first | exact h | (rw [List.nil_append, Nat.zero_add] at h; exact h) | (rw [← List.length_append] at h; exact h)
          have qb : (y.length : Int) ≤ (k : Int) - ((x.length : Nat) : Int) := by omega
          have qd : decide ((y.length : Int) ≤ (k : Int) - (x.length : Int)) = true := decide_eq_true (by omega)
          clear qb
          have hcat : catO [l0, l1] = x ++ y := by rw [HX.out, HY.out]; simp [catO]
          have hall : ∀ l ∈ [l0, l1], rightO l ∧ SmallO l := fun l hl => by
            simp at hl
            rcases hl with rfl | rfl
            · exact ⟨HR0.out, HS0.out⟩
            · exact ⟨HR1.out, HS1.out⟩
          have hop2 := open_cat k [] [l0, l1] (catO [l0, l1]).length 6 hall
          obtain ⟨_, hl2, _⟩ := log_cat (freeD k [] [⟨sLog, catO [l0, l1], (catO [l0, l1]).length⟩] 6) [l0, l1] _ rfl rfl hall
          rw [hcat] at hop2 hl2
          have HC1 := Lib.hid hc1
          have HC2 := Lib.hid hc2
          have HOP2 := Lib.hid hop2
          have HL2 := Lib.hid hl2
          clear hc1 hc2 hop2 hl2 hcat hall
          refine (h8.commit htab (fitL_one _ _ _ _ _ _ (by omega) (by simp)) hq8 hqS8 hq0 (by omega) l0 a0 c0 (rd0.mod0 h8.base) HS0.out).mono ?_
          rintro e w9 ⟨rfl, S9, h9, hqS9, hq9, _, _⟩
          rw [HC1.out] at h9 hq9 ⊢
          clear h8 hq8 hqS8
          go_wp2_with fail
          refine (h9.commit htab (fitL_one _ _ _ _ _ _ (by omega) (by first | omega | (simp; omega) | simp)) hq9 hqS9 hq0 (by omega) l1 a1 c1 (rd1.mod0 h9.base) HS1.out).mono ?_
          rintro e w10 ⟨rfl, S10, h10, hqS10, hq10, _, _⟩
          rw [HC2.out] at h10 hq10 ⊢
          clear h9 hq9 hqS9
          have hal1 : Mod NoneB w10 (w10.alloc (.cells #[.slice a0 l0.length c0] 22)) := (Mod.refl NoneB w10).alloc _
          have hbx1 := box1 w10 (.cells #[.slice a0 l0.length c0] 22)
          have hnx1 : 0 < 1 → ∃ x, (some ⟨w10.heap.size, 0, none⟩ : Option Addr) = some x ∧ ∀ (i : Nat) u, ([Value.slice a0 l0.length c0])[i]? = some u → (w10.alloc (.cells #[.slice a0 l0.length c0] 22)).cell? (x.add i) = some u := (rd_blk (sz := 1) (n := 1) hbx1 rfl (by decide)).2.2
          have hw0 : Own (w10.alloc (.cells #[.slice a0 l0.length c0] 22)) 22 1 (.slice none 0 0) 0 [] := Own.nil _ _ _
          go_wp2_with (at_builtin; refine wpList_append rfl (.tmp 80) (.tmp 82) 32 rfl 22 _ 1 24 huos tiOps rfl (by decide) (by decide) _ 0 [] rfl hw0 (some ⟨w10.heap.size, 0, none⟩) 1 1 [.slice a0 l0.length c0] rfl rfl hnx1 (fun u hu => by rw [List.mem_singleton] at hu; subst hu; rfl) (by omega) ?_)
          intro v11 w11 ho11 hm11 hno11
          have hm1011 : Mod NoneB w10 w11 := hal1.trans_new hm11 (fun k hk => by simp [OnlyBlk, Value.ownBlock] at hk)
          have hn11 : ∀ g, v11.ownBlock = some g → w10.heap.size ≤ g := fun g hg => by
            rcases hno11 with hq | ⟨b, hq, hb⟩
            · rw [hq] at hg; simp [Value.ownBlock] at hg
            · rw [hq] at hg; injection hg with hg; have := hal1.size; omega
          replace ho11 : Own w11 22 1 v11 1 [.slice a0 l0.length c0] := by simpa using ho11
          obtain ⟨A11, c11, rfl, _⟩ := ho11.out
          clear hal1 hbx1 hnx1 hw0 hm11 hno11
          have hal2 : Mod NoneB w11 (w11.alloc (.cells #[.slice a1 l1.length c1] 22)) := (Mod.refl NoneB w11).alloc _
          have hbx2 := box1 w11 (.cells #[.slice a1 l1.length c1] 22)
          have hnx2 : 0 < 1 → ∃ x, (some ⟨w11.heap.size, 0, none⟩ : Option Addr) = some x ∧ ∀ (i : Nat) u, ([Value.slice a1 l1.length c1])[i]? = some u → (w11.alloc (.cells #[.slice a1 l1.length c1] 22)).cell? (x.add i) = some u := (rd_blk (sz := 1) (n := 1) hbx2 rfl (by decide)).2.2
          have hw1 := ho11.mod0 hal2
          go_wp2_with (at_builtin; refine wpList_append rfl (.tmp 93) (.tmp 95) 32 rfl 22 _ 1 24 huos tiOps rfl (by decide) (by decide) _ 1 [.slice a0 l0.length c0] rfl hw1 (some ⟨w11.heap.size, 0, none⟩) 1 1 [.slice a1 l1.length c1] rfl rfl hnx2 (fun u hu => by rw [List.mem_singleton] at hu; subst hu; rfl) (by omega) ?_)
          intro v12 w12 ho12 hm12 hno12
          have hm1012 : Mod NoneB w10 w12 := (hm1011.then0 hal2).trans_new hm12 (fun k hk => .inr (hn11 k hk))
          have hnW : ∀ g, v12.ownBlock = some g → w10.heap.size ≤ g := fun g hg => by
            rcases hno12 with hq | ⟨b, hq, hb⟩
            · exact hn11 g (by rw [← hq]; exact hg)
            · rw [hq] at hg; injection hg with hg; have := (hm1011.then0 hal2).size; omega
          obtain ⟨A12, c12, rfl, _⟩ := ho12.out
          clear hal2 hbx2 hnx2 hw1 hm12 hno12
          have h12 := h10.mod0 hm1012
          have hOff : ∀ g, (Value.slice A12 2 c12).ownBlock = some g → ¬ S10 g := fun g hg hk => by
            have h1 := h10.isD.lt hk
            have h2 := hnW g hg
            omega
          have hq12 := hm1012.blk hq10 (fun h => h)
          go_wp2_with fail
          refine (h12.open htab (fitL_one _ _ _ _ _ _ (by omega) (by first | omega | (simp; omega) | simp)) (by rw [HOP2.out])).mono ?_
          rintro e w13 ⟨S13, q2, vl2, vs2, rfl, h13, hm13, _, _, _, _, hba2⟩
          rw [HL2.out] at hba2
          obtain ⟨A13, c13, rfl, hbr⟩ := hba2.rd
          have hq13 := hm13.blk hq12 hqS10
          have hb13 := h13.base
          have hrw : Rd w13 1 A12 2 [Value.slice a0 l0.length c0, Value.slice a1 l1.length c1] := by
            obtain ⟨_, c', e, _, _, hr⟩ := ho12.out
            injection e with e1
            subst e1
            exact hr.modP hm13 (fun hp ad had hk => by
              subst had
              exact hOff _ rfl hk)
          have hbw : BatsRd w13 A12 2 [l0, l1] [Value.slice a0 l0.length c0, Value.slice a1 l1.length c1] := ⟨hrw, rfl, fun i h1 h2 => by
            have hi : i < 2 := h1
            match i, hi with
            | 0, _ => exact ⟨_, _, rfl, rd0.mod0 hb13⟩
            | 1, _ => exact ⟨_, _, rfl, rd1.mod0 hb13⟩⟩
          have hbc : Calls Tryd.prog 22 #[.slice A13 2 c13, .slice A12 2 c12] w13 fun e w' => e = .returned (.bool true) ∧ Mod NoneB w13 w' := by
            have h := batches_calls [l0, l1] [l0, l1] A13 A12 c13 c12 vs2 _ w13 hbr hbw
            rw [decide_eq_true rfl] at h
            exact h
          have HBC := Lib.hid hbc
          have hsk : ∀ w', Mod NoneB w13 w' → Calls Tryd.prog 31 #[.pointer (some ⟨q, 0, none⟩)] w' fun e w'' => e = .returned (.bool false) ∧ w'' = w' := fun w' hm => wsick_calls w' p q _ false (hm.blk hq13 (fun h => h))
          have HSK := Lib.hid hsk
          clear hbc hsk hbw hbr hba2 h13 h12 h10 hq10 hq12 hq13 hqS10
          go_wp2_with ((with_reducible refine (num_calls _ _).mono ?_); rintro ez wz ⟨rfl, rfl⟩)
          refine HBC.out.mono ?_
          rintro e w14 ⟨rfl, hm14b⟩
          have hb14 := hb13.then0 hm14b
          go_wp2_with fail
          refine (HSK.out w14 hm14b).mono ?_
          rintro e wz ⟨rfl, rfl⟩
          go_wp2_with ((with_reducible refine (awake7_calls _ (htab.mod0 hb14)).mono ?_); rintro ez wz ⟨rfl, hmz⟩)
          go_ret
          exact ⟨rfl, hb14.then0 hmz⟩
        · have hc1 : commitW (freeD k [] [⟨sLog, [], 0⟩] 2) 0 false l0 = ⟨freeD k [] [⟨sLog, x, x.length⟩] 4, x.length, false, 0⟩ := by
            have h := commit_ok k [] [] 0 2 0 l0 HR0.out (by rw [← HX.out]; simp; omega)
            rw [← HX.out, List.nil_append, Nat.zero_add] at h
            exact h
          have qa : (x.length : Int) ≤ (k : Int) := by omega
          have hc2 : commitW (freeD k [] [⟨sLog, x, x.length⟩] 4) x.length false l1 = ⟨freeD k [] [⟨sLog, x, x.length⟩] 6, x.length, false, 5⟩ := by
            have h := commit_full k [] x x.length 4 l1 HR1.out (by rw [← HY.out]; simp; omega)
            first | (rw [Nat.min_self] at h; exact h) | exact h
          have qb : ¬ ((y.length : Int) ≤ (k : Int) - ((x.length : Nat) : Int)) := by omega
          have qd : decide ((y.length : Int) ≤ (k : Int) - (x.length : Int)) = false := decide_eq_false (by omega)
          clear qb
          have hcat : catO [l0] = x := by rw [HX.out]; simp [catO]
          have hall : ∀ l ∈ [l0], rightO l ∧ SmallO l := fun l hl => by
            simp at hl
            subst hl
            exact ⟨HR0.out, HS0.out⟩
          have hop2 := open_cat k [] [l0] (catO [l0]).length 6 hall
          obtain ⟨_, hl2, _⟩ := log_cat (freeD k [] [⟨sLog, catO [l0], (catO [l0]).length⟩] 6) [l0] _ rfl rfl hall
          rw [hcat] at hop2 hl2
          have HC1 := Lib.hid hc1
          have HC2 := Lib.hid hc2
          have HOP2 := Lib.hid hop2
          have HL2 := Lib.hid hl2
          clear hc1 hc2 hop2 hl2 hcat hall
          refine (h8.commit htab (fitL_one _ _ _ _ _ _ (by omega) (by simp)) hq8 hqS8 hq0 (by omega) l0 a0 c0 (rd0.mod0 h8.base) HS0.out).mono ?_
          rintro e w9 ⟨rfl, S9, h9, hqS9, hq9, _, _⟩
          rw [HC1.out] at h9 hq9 ⊢
          clear h8 hq8 hqS8
          go_wp2_with fail
          refine (h9.commit htab (fitL_one _ _ _ _ _ _ (by omega) (by first | omega | (simp; omega) | simp)) hq9 hqS9 hq0 (by omega) l1 a1 c1 (rd1.mod0 h9.base) HS1.out).mono ?_
          rintro e w10 ⟨rfl, S10, h10, hqS10, hq10, _, _⟩
          rw [HC2.out] at h10 hq10 ⊢
          clear h9 hq9 hqS9
          have hal1 : Mod NoneB w10 (w10.alloc (.cells #[.slice a0 l0.length c0] 22)) := (Mod.refl NoneB w10).alloc _
          have hbx1 := box1 w10 (.cells #[.slice a0 l0.length c0] 22)
          have hnx1 : 0 < 1 → ∃ x, (some ⟨w10.heap.size, 0, none⟩ : Option Addr) = some x ∧ ∀ (i : Nat) u, ([Value.slice a0 l0.length c0])[i]? = some u → (w10.alloc (.cells #[.slice a0 l0.length c0] 22)).cell? (x.add i) = some u := (rd_blk (sz := 1) (n := 1) hbx1 rfl (by decide)).2.2
          have hw0 : Own (w10.alloc (.cells #[.slice a0 l0.length c0] 22)) 22 1 (.slice none 0 0) 0 [] := Own.nil _ _ _
          go_wp2_with (at_builtin; refine wpList_append rfl (.tmp 80) (.tmp 82) 32 rfl 22 _ 1 24 huos tiOps rfl (by decide) (by decide) _ 0 [] rfl hw0 (some ⟨w10.heap.size, 0, none⟩) 1 1 [.slice a0 l0.length c0] rfl rfl hnx1 (fun u hu => by rw [List.mem_singleton] at hu; subst hu; rfl) (by omega) ?_)
          intro v11 w11 ho11 hm11 hno11
          have hm1011 : Mod NoneB w10 w11 := hal1.trans_new hm11 (fun k hk => by simp [OnlyBlk, Value.ownBlock] at hk)
          have hn11 : ∀ g, v11.ownBlock = some g → w10.heap.size ≤ g := fun g hg => by
            rcases hno11 with hq | ⟨b, hq, hb⟩
            · rw [hq] at hg; simp [Value.ownBlock] at hg
            · rw [hq] at hg; injection hg with hg; have := hal1.size; omega
          replace ho11 : Own w11 22 1 v11 1 [.slice a0 l0.length c0] := by simpa using ho11
          obtain ⟨A11, c11, rfl, _⟩ := ho11.out
          clear hal1 hbx1 hnx1 hw0 hm11 hno11
          have hnW := hn11
          have h12 := h10.mod0 hm1011
          have hOff : ∀ g, (Value.slice A11 1 c11).ownBlock = some g → ¬ S10 g := fun g hg hk => by
            have h1 := h10.isD.lt hk
            have h2 := hnW g hg
            omega
          have hq12 := hm1011.blk hq10 (fun h => h)
          go_wp2_with fail
          refine (h12.open htab (fitL_one _ _ _ _ _ _ (by omega) (by first | omega | (simp; omega) | simp)) (by rw [HOP2.out])).mono ?_
          rintro e w13 ⟨S13, q2, vl2, vs2, rfl, h13, hm13, _, _, _, _, hba2⟩
          rw [HL2.out] at hba2
          obtain ⟨A13, c13, rfl, hbr⟩ := hba2.rd
          have hq13 := hm13.blk hq12 hqS10
          have hb13 := h13.base
          have hrw : Rd w13 1 A11 1 [Value.slice a0 l0.length c0] := by
            obtain ⟨_, c', e, _, _, hr⟩ := ho11.out
            injection e with e1
            subst e1
            exact hr.modP hm13 (fun hp ad had hk => by
              subst had
              exact hOff _ rfl hk)
          have hbw : BatsRd w13 A11 1 [l0] [Value.slice a0 l0.length c0] := ⟨hrw, rfl, fun i h1 h2 => by
            have hi : i < 1 := h1
            match i, hi with
            | 0, _ => exact ⟨_, _, rfl, rd0.mod0 hb13⟩⟩
          have hbc : Calls Tryd.prog 22 #[.slice A13 1 c13, .slice A11 1 c11] w13 fun e w' => e = .returned (.bool true) ∧ Mod NoneB w13 w' := by
            have h := batches_calls [l0] [l0] A13 A11 c13 c11 vs2 _ w13 hbr hbw
            rw [decide_eq_true rfl] at h
            exact h
          have HBC := Lib.hid hbc
          have hsk : ∀ w', Mod NoneB w13 w' → Calls Tryd.prog 31 #[.pointer (some ⟨q, 0, none⟩)] w' fun e w'' => e = .returned (.bool false) ∧ w'' = w' := fun w' hm => wsick_calls w' p q _ false (hm.blk hq13 (fun h => h))
          have HSK := Lib.hid hsk
          clear hbc hsk hbw hbr hba2 h13 h12 h10 hq10 hq12 hq13 hqS10
          go_wp2_with ((with_reducible refine (num_calls _ _).mono ?_); rintro ez wz ⟨rfl, rfl⟩)
          refine HBC.out.mono ?_
          rintro e w14 ⟨rfl, hm14b⟩
          have hb14 := hb13.then0 hm14b
          go_wp2_with fail
          refine (HSK.out w14 hm14b).mono ?_
          rintro e wz ⟨rfl, rfl⟩
          go_wp2_with ((with_reducible refine (awake7_calls _ (htab.mod0 hb14)).mono ?_); rintro ez wz ⟨rfl, hmz⟩)
          go_ret
          exact ⟨rfl, hb14.then0 hmz⟩
      · by_cases fb : y.length ≤ k
        · have hc1 : commitW (freeD k [] [⟨sLog, [], 0⟩] 2) 0 false l0 = ⟨freeD k [] [⟨sLog, [], 0⟩] 4, 0, false, 5⟩ := by
            have h := commit_full k [] [] 0 2 l0 HR0.out (by rw [← HX.out]; simp; omega)
            exact h
          have qa : ¬ ((x.length : Int) ≤ (k : Int)) := by omega
          have hc2 : commitW (freeD k [] [⟨sLog, [], 0⟩] 4) 0 false l1 = ⟨freeD k [] [⟨sLog, y, y.length⟩] 6, y.length, false, 0⟩ := by
            have h := commit_ok k [] [] 0 4 0 l1 HR1.out (by rw [← HY.out]; simp; omega)
            rw [← HY.out] at h
            first | exact h | (rw [List.nil_append, Nat.zero_add] at h; exact h) | (rw [← List.length_append] at h; exact h)
          have qb : (y.length : Int) ≤ (k : Int) - ((0 : Nat) : Int) := by omega
          have qd : decide ((y.length : Int) ≤ (k : Int)) = true := decide_eq_true (by omega)
          clear qb
          have hcat : catO [l1] = y := by rw [HY.out]; simp [catO]
          have hall : ∀ l ∈ [l1], rightO l ∧ SmallO l := fun l hl => by
            simp at hl
            subst hl
            exact ⟨HR1.out, HS1.out⟩
          have hop2 := open_cat k [] [l1] (catO [l1]).length 6 hall
          obtain ⟨_, hl2, _⟩ := log_cat (freeD k [] [⟨sLog, catO [l1], (catO [l1]).length⟩] 6) [l1] _ rfl rfl hall
          rw [hcat] at hop2 hl2
          have HC1 := Lib.hid hc1
          have HC2 := Lib.hid hc2
          have HOP2 := Lib.hid hop2
          have HL2 := Lib.hid hl2
          clear hc1 hc2 hop2 hl2 hcat hall
          refine (h8.commit htab (fitL_one _ _ _ _ _ _ (by omega) (by simp)) hq8 hqS8 hq0 (by omega) l0 a0 c0 (rd0.mod0 h8.base) HS0.out).mono ?_
          rintro e w9 ⟨rfl, S9, h9, hqS9, hq9, _, _⟩
          rw [HC1.out] at h9 hq9 ⊢
          clear h8 hq8 hqS8
          go_wp2_with fail
          refine (h9.commit htab (fitL_one _ _ _ _ _ _ (by omega) (by first | omega | (simp; omega) | simp)) hq9 hqS9 hq0 (by omega) l1 a1 c1 (rd1.mod0 h9.base) HS1.out).mono ?_
          rintro e w10 ⟨rfl, S10, h10, hqS10, hq10, _, _⟩
          rw [HC2.out] at h10 hq10 ⊢
          clear h9 hq9 hqS9
          have hal2 : Mod NoneB w10 (w10.alloc (.cells #[.slice a1 l1.length c1] 22)) := (Mod.refl NoneB w10).alloc _
          have hbx2 := box1 w10 (.cells #[.slice a1 l1.length c1] 22)
          have hnx2 : 0 < 1 → ∃ x, (some ⟨w10.heap.size, 0, none⟩ : Option Addr) = some x ∧ ∀ (i : Nat) u, ([Value.slice a1 l1.length c1])[i]? = some u → (w10.alloc (.cells #[.slice a1 l1.length c1] 22)).cell? (x.add i) = some u := (rd_blk (sz := 1) (n := 1) hbx2 rfl (by decide)).2.2
          have hw1 : Own (w10.alloc (.cells #[.slice a1 l1.length c1] 22)) 22 1 (.slice none 0 0) 0 [] := Own.nil _ _ _
          go_wp2_with (at_builtin; refine wpList_append rfl (.tmp 93) (.tmp 95) 32 rfl 22 _ 1 24 huos tiOps rfl (by decide) (by decide) _ 0 [] rfl hw1 (some ⟨w10.heap.size, 0, none⟩) 1 1 [.slice a1 l1.length c1] rfl rfl hnx2 (fun u hu => by rw [List.mem_singleton] at hu; subst hu; rfl) (by omega) ?_)
          intro v12 w12 ho12 hm12 hno12
          have hm1012 : Mod NoneB w10 w12 := hal2.trans_new hm12 (fun k hk => by simp [OnlyBlk, Value.ownBlock] at hk)
          have hnW : ∀ g, v12.ownBlock = some g → w10.heap.size ≤ g := fun g hg => by
            rcases hno12 with hq | ⟨b, hq, hb⟩
            · rw [hq] at hg; simp [Value.ownBlock] at hg
            · rw [hq] at hg; injection hg with hg; have := hal2.size; omega
          obtain ⟨A12, c12, rfl, _⟩ := ho12.out
          clear hal2 hbx2 hnx2 hw1 hm12 hno12
          have h12 := h10.mod0 hm1012
          have hOff : ∀ g, (Value.slice A12 1 c12).ownBlock = some g → ¬ S10 g := fun g hg hk => by
            have h1 := h10.isD.lt hk
            have h2 := hnW g hg
            omega
          have hq12 := hm1012.blk hq10 (fun h => h)
          go_wp2_with fail
          refine (h12.open htab (fitL_one _ _ _ _ _ _ (by omega) (by first | omega | (simp; omega) | simp)) (by rw [HOP2.out])).mono ?_
          rintro e w13 ⟨S13, q2, vl2, vs2, rfl, h13, hm13, _, _, _, _, hba2⟩
          rw [HL2.out] at hba2
          obtain ⟨A13, c13, rfl, hbr⟩ := hba2.rd
          have hq13 := hm13.blk hq12 hqS10
          have hb13 := h13.base
          have hrw : Rd w13 1 A12 1 [Value.slice a1 l1.length c1] := by
            obtain ⟨_, c', e, _, _, hr⟩ := ho12.out
            injection e with e1
            subst e1
            exact hr.modP hm13 (fun hp ad had hk => by
              subst had
              exact hOff _ rfl hk)
          have hbw : BatsRd w13 A12 1 [l1] [Value.slice a1 l1.length c1] := ⟨hrw, rfl, fun i h1 h2 => by
            have hi : i < 1 := h1
            match i, hi with
            | 0, _ => exact ⟨_, _, rfl, rd1.mod0 hb13⟩⟩
          have hbc : Calls Tryd.prog 22 #[.slice A13 1 c13, .slice A12 1 c12] w13 fun e w' => e = .returned (.bool true) ∧ Mod NoneB w13 w' := by
            have h := batches_calls [l1] [l1] A13 A12 c13 c12 vs2 _ w13 hbr hbw
            rw [decide_eq_true rfl] at h
            exact h
          have HBC := Lib.hid hbc
          have hsk : ∀ w', Mod NoneB w13 w' → Calls Tryd.prog 31 #[.pointer (some ⟨q, 0, none⟩)] w' fun e w'' => e = .returned (.bool false) ∧ w'' = w' := fun w' hm => wsick_calls w' p q _ false (hm.blk hq13 (fun h => h))
          have HSK := Lib.hid hsk
          clear hbc hsk hbw hbr hba2 h13 h12 h10 hq10 hq12 hq13 hqS10
          go_wp2_with ((with_reducible refine (num_calls _ _).mono ?_); rintro ez wz ⟨rfl, rfl⟩)
          refine HBC.out.mono ?_
          rintro e w14 ⟨rfl, hm14b⟩
          have hb14 := hb13.then0 hm14b
          go_wp2_with fail
          refine (HSK.out w14 hm14b).mono ?_
          rintro e wz ⟨rfl, rfl⟩
          go_wp2_with ((with_reducible refine (awake7_calls _ (htab.mod0 hb14)).mono ?_); rintro ez wz ⟨rfl, hmz⟩)
          go_ret
          exact ⟨rfl, hb14.then0 hmz⟩
        · have hc1 : commitW (freeD k [] [⟨sLog, [], 0⟩] 2) 0 false l0 = ⟨freeD k [] [⟨sLog, [], 0⟩] 4, 0, false, 5⟩ := by
            have h := commit_full k [] [] 0 2 l0 HR0.out (by rw [← HX.out]; simp; omega)
            exact h
          have qa : ¬ ((x.length : Int) ≤ (k : Int)) := by omega
          have hc2 : commitW (freeD k [] [⟨sLog, [], 0⟩] 4) 0 false l1 = ⟨freeD k [] [⟨sLog, [], 0⟩] 6, 0, false, 5⟩ := by
            have h := commit_full k [] [] 0 4 l1 HR1.out (by rw [← HY.out]; simp; omega)
            first | (rw [Nat.min_self] at h; exact h) | exact h
          have qb : ¬ ((y.length : Int) ≤ (k : Int) - ((0 : Nat) : Int)) := by omega
          have qd : decide ((y.length : Int) ≤ (k : Int)) = false := decide_eq_false (by omega)
          clear qb
          have hcat : catO ([] : List (List Op3)) = [] := rfl
          have hall : ∀ l ∈ ([] : List (List Op3)), rightO l ∧ SmallO l := fun l hl => by
            simp at hl
          have hop2 := open_cat k [] ([] : List (List Op3)) (catO ([] : List (List Op3))).length 6 hall
          obtain ⟨_, hl2, _⟩ := log_cat (freeD k [] [⟨sLog, catO ([] : List (List Op3)), (catO ([] : List (List Op3))).length⟩] 6) ([] : List (List Op3)) _ rfl rfl hall
          rw [hcat] at hop2 hl2
          simp only [List.length_nil] at hop2 hl2
          have HC1 := Lib.hid hc1
          have HC2 := Lib.hid hc2
          have HOP2 := Lib.hid hop2
          have HL2 := Lib.hid hl2
          clear hc1 hc2 hop2 hl2 hcat hall
          refine (h8.commit htab (fitL_one _ _ _ _ _ _ (by omega) (by simp)) hq8 hqS8 hq0 (by omega) l0 a0 c0 (rd0.mod0 h8.base) HS0.out).mono ?_
          rintro e w9 ⟨rfl, S9, h9, hqS9, hq9, _, _⟩
          rw [HC1.out] at h9 hq9 ⊢
          clear h8 hq8 hqS8
          go_wp2_with fail
          refine (h9.commit htab (fitL_one _ _ _ _ _ _ (by omega) (by first | omega | (simp; omega) | simp)) hq9 hqS9 hq0 (by omega) l1 a1 c1 (rd1.mod0 h9.base) HS1.out).mono ?_
          rintro e w10 ⟨rfl, S10, h10, hqS10, hq10, _, _⟩
          rw [HC2.out] at h10 hq10 ⊢
          clear h9 hq9 hqS9
          have h12 := h10.mod0 (Mod.refl NoneB w10)
          have hq12 := (Mod.refl NoneB w10).blk hq10 (fun h => h)
          go_wp2_with fail
          refine (h12.open htab (fitL_one _ _ _ _ _ _ (by omega) (by first | omega | (simp; omega) | simp)) (by rw [HOP2.out])).mono ?_
          rintro e w13 ⟨S13, q2, vl2, vs2, rfl, h13, hm13, _, _, _, _, hba2⟩
          rw [HL2.out] at hba2
          obtain ⟨A13, c13, rfl, hbr⟩ := hba2.rd
          have hq13 := hm13.blk hq12 hqS10
          have hb13 := h13.base
          have hbw : BatsRd w13 none 0 ([] : List (List Op3)) [] := ⟨Rd.nil _ _ _, rfl, fun i h1 _ => by cases h1⟩
          have hbc : Calls Tryd.prog 22 #[.slice A13 0 c13, .slice none 0 0] w13 fun e w' => e = .returned (.bool true) ∧ Mod NoneB w13 w' := by
            have h := batches_calls ([] : List (List Op3)) ([] : List (List Op3)) A13 none c13 0 vs2 _ w13 hbr hbw
            rw [decide_eq_true rfl] at h
            exact h
          have HBC := Lib.hid hbc
          have hsk : ∀ w', Mod NoneB w13 w' → Calls Tryd.prog 31 #[.pointer (some ⟨q, 0, none⟩)] w' fun e w'' => e = .returned (.bool false) ∧ w'' = w' := fun w' hm => wsick_calls w' p q _ false (hm.blk hq13 (fun h => h))
          have HSK := Lib.hid hsk
          clear hbc hsk hbw hbr hba2 h13 h12 h10 hq10 hq12 hq13 hqS10
          go_wp2_with ((with_reducible refine (num_calls _ _).mono ?_); rintro ez wz ⟨rfl, rfl⟩)
          refine HBC.out.mono ?_
          rintro e w14 ⟨rfl, hm14b⟩
          have hb14 := hb13.then0 hm14b
          go_wp2_with fail
          refine (HSK.out w14 hm14b).mono ?_
          rintro e wz ⟨rfl, rfl⟩
          go_wp2_with ((with_reducible refine (awake7_calls _ (htab.mod0 hb14)).mono ?_); rintro ez wz ⟨rfl, hmz⟩)
          go_ret
          exact ⟨rfl, hb14.then0 hmz⟩
end Go.Proofs.YtaldneffhbgepaaDoor

