/- WalOpens: what stands behind the last end is cut when the log is opened: the walk of the law. -/
import Derived.Test.YtaldneffhbgepaaDoorBatJ
import Derived.Test.YtaldneffhbgepaaDoorBatI
import Derived.Test.YtaldneffhbgepaaDoorWalV
import Derived.Deep.DeepCutAuto
namespace Go.Proofs.YtaldneffhbgepaaDoor
open Go.RowKit
set_option linter.unusedVariables false

theorem replayGo_none (ps : List (List UInt8)) : ∀ (now : List Op3) (i used : Nat), (replayGo now i used ps).1 = [] → (replayGo now i used ps).2 = used := by
  induction ps with
  | nil => intro now i used _; rfl
  | cons p ps ih =>
    intro now i used h
    cases hk : kindB now.length p with
    | op o => rw [replayGo_op _ _ _ _ _ hk] at h ⊢; exact ih _ _ _ h
    | fin => rw [replayGo_fin _ _ _ _ _ hk] at h; cases h
    | bad => rw [replayGo_bad _ _ _ _ _ hk]
/-- A batch, and something behind it that ends none: what is told of it, and what opening makes of it. -/
theorem opens_cut {a : List Op3} (hr : rightO a) (hs : SmallO a) (junk : List UInt8) (h1 : (replayB (scanB (bytesO a ++ junk))).1.length = 1) :
    (replayB (scanB (bytesO a ++ junk))).1 = [a] ∧ createD (freeD 100000 [] [] 0) sLog = (freeD 100000 [] [⟨sLog, [], 0⟩] 1, 0) ∧
      appendD (freeD 100000 [] [⟨sLog, [], 0⟩] 1) sLog (bytesO a ++ junk) = (if (bytesO a ++ junk).length ≤ 100000 then freeD 100000 [] [⟨sLog, bytesO a ++ junk, 0⟩] 2 else freeD 100000 [] [⟨sLog, [], 0⟩] 2, if (bytesO a ++ junk).length ≤ 100000 then 0 else 5) ∧
      ∃ c, c ≤ 4 ∧ openD (freeD 100000 [] [⟨sLog, bytesO a ++ junk, 0⟩] 2) = (freeD 100000 [] [⟨sLog, bytesO a, (bytesO a).length⟩] c, 0) ∧ logN (freeD 100000 [] [⟨sLog, bytesO a ++ junk, 0⟩] 2) = (bytesO a).length ∧ logL (freeD 100000 [] [⟨sLog, bytesO a ++ junk, 0⟩] 2) = [a] := by
  have hsc := scan_bytesO hr hs junk
  have hrp := replayGo_batch a hr hs 0 0 (scanB junk)
  have he : (replayB (scanB (bytesO a ++ junk))) = (a :: (replayGo [] (0 + a.length + 1) (0 + a.length + 1) (scanB junk)).1, (replayGo [] (0 + a.length + 1) (0 + a.length + 1) (scanB junk)).2) := by
    rw [hsc]; exact hrp
  rw [he] at h1 ⊢
  have hn : (replayGo [] (0 + a.length + 1) (0 + a.length + 1) (scanB junk)).1 = [] := List.eq_nil_of_length_eq_zero (by simpa using h1)
  have hu := replayGo_none _ _ _ _ hn
  have hb : logB (freeD 100000 [] [⟨sLog, bytesO a ++ junk, 0⟩] 2) = bytesO a ++ junk := by unfold logB; rw [read_one]
  have hL : logL (freeD 100000 [] [⟨sLog, bytesO a ++ junk, 0⟩] 2) = [a] := by unfold logL; rw [hb, he, hn]
  have hN : logN (freeD 100000 [] [⟨sLog, bytesO a ++ junk, 0⟩] 2) = (bytesO a).length := by
    unfold logN
    rw [hb, he, hu, hsc, bytesO_good]
    congr 1
    have hl : (recsO a).length = 0 + a.length + 1 := by simp [recsO]
    rw [← hl, List.take_left]
  obtain ⟨c, hc, ho⟩ := open_free 100000 [] (bytesO a ++ junk) 0 2 _ hN
  rw [List.take_left] at ho
  refine ⟨by rw [hn], create_nil0 _ _ _ _ sLog_ne, ?_, c, hc, ho, hN, hL⟩
  by_cases hf : (bytesO a ++ junk).length ≤ 100000
  · rw [if_pos hf, if_pos hf, append_one _ _ _ _ _ _ _ (by simp only [List.length_nil, Nat.zero_add]; omega), List.nil_append]
  · rw [if_neg hf, if_neg hf, append_full _ _ _ _ _ _ _ (by simp only [List.length_nil, Nat.zero_add]; omega)]

set_option maxHeartbeats 12000000 in
set_option maxRecDepth 100000 in
theorem walOpens_walk (l0 l1 : List Op3) (l2 : List UInt8) (a0 a1 a2 : Option Addr) (c0 c1 c2 : Nat) (w : World) (rd0 : Rd w 3 a0 l0.length (encOs l0)) (rd1 : Rd w 3 a1 l1.length (encOs l1))
    (bk0 : ∀ o ∈ l0, o.k.size + o.v.size ≤ 1048576) (bk1 : ∀ o ∈ l1, o.k.size + o.v.size ≤ 1048576) (rd2 : Rd w 1 a2 l2.length (encB l2)) (htab : TabW w) :
    Calls Tryd.prog 8 #[.slice a0 l0.length c0, .slice a1 l1.length c1, .slice a2 l2.length c2] w fun e w' => e = .returned (.bool true) ∧ Mod NoneB w w' := by
  have hu := Tryd.underlying26
  have hn2 := rd2.2.1
  have huos := Tryd.underlying32
  go_enter Tryd.func8, Tryd.ntmps8
  go_wp2_with fail
  refine (rops_calls l0 a0 c0 w rd0 (fun o ho => Nat.le_trans (bk0 o ho) (by decide))).mono ?_
  intro e w1 h1
  obtain ⟨A1, k1, rfl, hk1, hrx1, hm1⟩ := h1.open
  clear h1
  go_wp2_with fail
  refine (rops_calls l1 a1 c1 w1 (rd1.mod0 hm1) (fun o ho => Nat.le_trans (bk1 o ho) (by decide))).mono ?_
  intro e w2 h2
  obtain ⟨A2, k2, rfl, _, _, hm2⟩ := h2.open
  have hrx2 := hrx1.mod0 hm2
  have hm12 := hm1.then0 hm2
  clear h2 bk0 bk1 hm1 hm2 hrx1
  have hal : Mod NoneB w2 (w2.alloc (.cells #[.slice a0 l0.length c0, .slice a1 l1.length c1] 22)) := (Mod.refl NoneB w2).alloc _
  have hbx := box1 w2 (.cells #[.slice a0 l0.length c0, .slice a1 l1.length c1] 22)
  have hm13 := hm12.then0 hal
  have hrh : Rd (w2.alloc (.cells #[.slice a0 l0.length c0, .slice a1 l1.length c1] 22)) 1 (some ⟨w2.heap.size, 0, none⟩) 2 (([⟨l0, a0, c0⟩, ⟨l1, a1, c1⟩] : List OsV).flatMap encOv) := rd_blk (sz := 1) (n := 2) hbx rfl (by decide)
  have hhe := heavy7_calls [⟨l0, a0, c0⟩, ⟨l1, a1, c1⟩] [] (some ⟨w2.heap.size, 0, none⟩) none 2 0 _ hrh (fun x hx => by
    simp at hx
    rcases hx with rfl | rfl
    · exact rd0.mod0 hm13
    · exact rd1.mod0 hm13) (Rd.nil _ _ _) (fun x hx => by cases hx)
  have HHE := Lib.hid hhe
  clear hhe hrh hbx hal
  go_wp2_with fail
  refine HHE.out.mono ?_
  rintro e w3 ⟨b, rfl, hm3, hb3⟩
  have hm14 := hm13.then0 hm3
  have hrx3 := (hrx2.mod0 ((Mod.refl NoneB w2).alloc (.cells #[.slice a0 l0.length c0, .slice a1 l1.length c1] 22))).mod0 hm3
  clear hm13 hm3 HHE hm12 hrx2
  cases b with
  | true =>
    clear hb3
    go_wp2_with ((with_reducible refine (awake7_calls _ (htab.mod0 hm14)).mono ?_); rintro e wz ⟨rfl, hmz⟩)
    go_ret
    exact ⟨rfl, hm14.then0 hmz⟩
  | false =>
    obtain ⟨⟨_, hli⟩, _⟩ := hb3 rfl
    have hv0 : wtO l0 ≤ 5000 := (hli ⟨l0, a0, c0⟩ (by simp)).1
    have hv1 : wtO l1 ≤ 5000 := (hli ⟨l1, a1, c1⟩ (by simp)).1
    clear hb3 hli
    by_cases he0 : (opsX l0).2 = 0
    case neg =>
      have q0 : ((((opsX l0).2 : Nat) : Int) != 0) = true := bne_iff_ne.mpr (by omega)
      clear he0
      go_wp2_with ((with_reducible refine (awake7_calls _ (htab.mod0 hm14)).mono ?_); rintro e wz ⟨rfl, hmz⟩)
      go_ret
      exact ⟨rfl, hm14.then0 hmz⟩
    by_cases he1 : (opsX l1).2 = 0
    case neg =>
      have q0 : ((((opsX l1).2 : Nat) : Int) != 0) = true := bne_iff_ne.mpr (by omega)
      rw [he0]
      clear he1
      go_wp2_with ((with_reducible refine (awake7_calls _ (htab.mod0 hm14)).mono ?_); rintro e wz ⟨rfl, hmz⟩)
      go_ret
      exact ⟨rfl, hm14.then0 hmz⟩
    obtain ⟨hr1, _, hx1⟩ := opsX_ok he1
    obtain ⟨hr0, _, hx0⟩ := opsX_ok he0
    rw [hx0, hx1]
    rw [hx0] at hk1 hrx3
    simp only at hk1 hrx3 ⊢
    by_cases hj : l2.length ≤ 200
    case neg =>
      have q0 : (200 : Int) < (l2.length : Int) := by omega
      clear hj hx0 hx1 he0 he1
      go_wp2_with ((with_reducible refine (awake7_calls _ (htab.mod0 hm14)).mono ?_); rintro e wz ⟨rfl, hmz⟩)
      go_ret
      exact ⟨rfl, hm14.then0 hmz⟩
    have q0 : ¬ ((200 : Int) < (l2.length : Int)) := by omega
    clear he0 he1 hx0 hx1
    have hs0 := smallO_of hv0
    have hs1 := smallO_of hv1
    have hxl := bytesO_len hr0 hv0
    have hyl := bytesO_len hr1 hv1
    have hop := fun (h : (replayB (scanB (bytesO l0 ++ l2))).1.length = 1) => opens_cut hr0 hs0 l2 h
    have hcatx : catO [l0] = bytesO l0 := catO_one l0
    have hall : ∀ l ∈ [l0, l1], rightO l ∧ SmallO l := fun l hl => by
      simp at hl
      rcases hl with rfl | rfl
      · exact ⟨hr0, hs0⟩
      · exact ⟨hr1, hs1⟩
    have hc2 : ∀ c, commitW (freeD 100000 [] [⟨sLog, bytesO l0, (bytesO l0).length⟩] c) (bytesO l0).length false l1 = ⟨freeD 100000 [] [⟨sLog, catO [l0, l1], (catO [l0, l1]).length⟩] (c + 2), (bytesO l0).length + (bytesO l1).length, false, 0⟩ := fun c => by
      have h := commit_ok 100000 [] (bytesO l0) (bytesO l0).length c (bytesO l0).length l1 hr1 (by omega)
      have e : catO [l0, l1] = bytesO l0 ++ bytesO l1 := by simp [catO]
      rw [e]
      exact h
    have hlg := fun c => (log_cat (freeD 100000 [] [⟨sLog, catO [l0, l1], (catO [l0, l1]).length⟩] c) [l0, l1] _ rfl rfl hall).2.1
    have hop2 := fun c => open_cat 100000 [] [l0, l1] (catO [l0, l1]).length c hall
    have hcl : (catO [l0, l1]).length ≤ 60000 := by simp [catO]; omega
    have hpl : ∀ p ∈ scanB (bytesO l0 ++ l2), p.length ≤ 140737488355328 := fun p hp => by
      have h1 := scanB_good (bytesO l0 ++ l2)
      have h2 := goodOf_mem _ p hp
      rw [List.length_append] at h1
      omega
    have hpn : (scanB (bytesO l0 ++ l2)).length ≤ 1000000 := by
      have h1 := scanB_good (bytesO l0 ++ l2)
      have h2 := goodOf_len (scanB (bytesO l0 ++ l2))
      rw [List.length_append] at h1
      omega
    obtain ⟨x, hx⟩ : ∃ x, x = bytesO l0 := ⟨_, rfl⟩
    rw [← hx] at hxl hk1 hrx3 hop hc2 hpl hpn hcatx ⊢
    have HOP := Lib.hid hop
    have HC2 := Lib.hid hc2
    have HLG := Lib.hid hlg
    have HOP2 := Lib.hid hop2
    have HPL := Lib.hid hpl
    have HPN := Lib.hid hpn
    have HS1 := Lib.hid hs1
    clear hop hc2 hlg hop2 hpl hpn hs0 hs1 hall hcatx hr0 hr1 hx hv0 hv1
    have hown0 : Own (w3.alloc (.cells #[] 5)) 5 1 (.slice (some ⟨w3.heap.size, 0, none⟩) 0 0) 0 [] := Own.of_blk (cap := 0) (heap_alloc_new w3 _) (by omega) (by omega) (by simp) (by simp)
    have hal : Mod NoneB w3 (w3.alloc (.cells #[] 5)) := (Mod.refl NoneB w3).alloc _
    have hnx := (hrx3.mod0 hal).2.2
    have hlx : (encB x).length = x.length * 1 := by rw [encB_length, Nat.mul_one]
    have hb1 : (0 + x.length) * 1 ≤ 140737488355328 := by omega
    go_wp2_with (at_builtin; refine wpList_append rfl (.tmp 52) (.tmp 53) 26 rfl 5 _ 1 1 hu tiB rfl (by decide) (by decide) _ 0 [] rfl hown0 A1 x.length k1 (encB x) rfl hlx hnx (encB_one x) hb1 ?_)
    intro v7 w7 ho7 hm7 hno7
    have hm67 : Mod NoneB w3 w7 := hal.trans_new hm7 (fun k hk => .inr (by simp [OnlyBlk, Value.ownBlock] at hk; omega))
    have hn7 : ∀ g, v7.ownBlock = some g → w3.heap.size ≤ g := by
      intro g hg
      rcases hno7 with hq | ⟨b, hq, hb⟩
      · rw [hq] at hg; simp [Value.ownBlock] at hg; omega
      · rw [hq] at hg
        injection hg with hg
        simp at hb
        omega
    replace ho7 : Own w7 5 1 v7 x.length (encB x) := by simpa using ho7
    obtain ⟨A7, c7, rfl, _⟩ := ho7.out
    have hny := (rd2.mod0 (hm14.then0 hm67)).2.2
    have hly : (encB l2).length = l2.length * 1 := by rw [encB_length, Nat.mul_one]
    have hb2 : (x.length + l2.length) * 1 ≤ 140737488355328 := by omega
    clear hal hown0 hnx hlx hb1 hm7 hno7 q0
    go_wp2_with (at_builtin; refine wpList_append rfl (.tmp 55) (.tmp 56) 26 rfl 5 _ 1 1 hu tiB rfl (by decide) (by decide) _ x.length (encB x) rfl ho7 a2 l2.length c2 (encB l2) rfl hly hny (encB_one l2) hb2 ?_)
    intro v8 w8 ho8 hm8 hno8
    have hm68 : Mod NoneB w3 w8 := hm67.trans_new hm8 (fun k hk => .inr (hn7 k hk))
    have hm18 := hm14.then0 hm68
    have hez : encB x ++ encB l2 = encB (x ++ l2) := by simp [encB]
    have hn8 : ∀ g, v8.ownBlock = some g → w3.heap.size ≤ g := fun g hg => by
      rcases hno8 with hq | ⟨b, hq, hb⟩
      · exact hn7 g (by rw [← hq]; exact hg)
      · rw [hq] at hg; injection hg with hg; have := hm67.size; omega
    rw [hez, ← List.length_append] at ho8
    obtain ⟨A8, c8, hv8, hc8, _, hrz⟩ := ho8.out
    have hzl : (x ++ l2).length ≤ 60000 := by rw [List.length_append]; omega
    obtain ⟨z, hz⟩ : ∃ z, z = x ++ l2 := ⟨_, rfl⟩
    rw [← hz] at hrz hc8 hzl hv8 HOP HPL HPN
    subst hv8
    clear ho8 hm8 hno8 hn7 hm67 ho7 hny hly hb2 hez hz
    go_wp2_with fail
    refine (rscan_calls z A8 c8 w8 hrz (by omega) hc8).mono ?_
    rintro e w9 ⟨v9, vs9, rfl, hla, hm9⟩
    obtain ⟨qs, A9, c9, rfl, hbs, hrq, _, hpo⟩ := hla.parts HPL.out
    have hm19 := hm18.then0 hm9
    have hrz9 := hrz.mod0 hm9
    have hql : qs.length ≤ 1000000 := by
      have h := congrArg List.length hbs
      have := HPN.out
      simp [bsOf] at h
      omega
    clear hla hrz hm18 hm9 hm68
    go_wp2_with fail
    refine (rreplay_calls qs A9 c9 w9 hrq hpo hql).mono ?_
    rintro e w10 ⟨v10, vs10, rfl, hba, hm10⟩
    rw [hbs] at hba ⊢
    have hm110 := hm19.then0 hm10
    have hrz10 := hrz9.mod0 hm10
    have hw9 : w.heap.size ≤ w9.heap.size := hm19.size
    clear hrq hpo hbs hql hrz9 hm19 hm10
    by_cases h1 : (replayB (scanB z)).1.length = 1
    case neg =>
      obtain ⟨Aq, cq, rfl, _⟩ := hba.rd
      have q0 : ((((replayB (scanB z)).1.length : Nat) : Int) != 1) = true := bne_iff_ne.mpr (by omega)
      clear h1 hba
      go_wp2_with ((with_reducible refine (awake7_calls _ (htab.mod0 hm110)).mono ?_); rintro e wz ⟨rfl, hmz⟩)
      go_ret
      exact ⟨rfl, hm110.then0 hmz⟩
    obtain ⟨hL, hcr0, hap0, c5, hc5, hopn, hlgn, hlgl⟩ := HOP.out h1
    rw [hL] at hba
    rw [if_pos (by omega), if_pos (by omega)] at hap0
    have hnW : ∀ g, v10.ownBlock = some g → w.heap.size ≤ g := fun g hg => Nat.le_trans hw9 (hba.new g hg)
    obtain ⟨Aq, cq, hvq, hbr⟩ := hba.rd
    obtain ⟨u0, rfl⟩ : ∃ u0, vs10 = [u0] := by
      have h := hba.len
      match vs10, h with
      | [a], _ => exact ⟨a, rfl⟩
    have hvq2 : v10 = .slice Aq 1 cq := hvq
    have hE0 : Own w10 67 3 u0 l0.length (encOs l0) := hba.ent 0 (by simp) (by simp)
    have HE0 := Lib.hid hE0
    clear hE0
    have hownW : Own w10 22 1 (.slice Aq 1 cq) 1 [u0] := by rw [← hvq2]; exact hba.own
    subst hvq2
    have HBRQ := Lib.hid hbr
    have HOWN := Lib.hid hownW
    have HCR := Lib.hid hcr0
    have HAP := Lib.hid hap0
    have HOPN := Lib.hid hopn
    have HLGN := Lib.hid hlgn
    have HLGL := Lib.hid hlgl
    clear h1 hL hba hvq hbr hownW hcr0 hap0 hopn hlgn hlgl HOP HPL HPN
    go_wp2_with fail
    -- the disk is newer than all that was
    refine (Dw.new0 w10 w10 (Mod.refl _ _) 100000).mono ?_
    rintro e w11 ⟨p, rfl, hdw⟩
    have htab10 := htab.mod0 hm110
    go_wp2_with fail
    refine (hdw.create sLog ⟨by show 0 < _; omega, by show 0 ≤ _; omega, by show 0 ≤ _; omega⟩).mono ?_
    rintro e w12 ⟨rfl, hdw2⟩
    rw [HCR.out] at hdw2
    clear hdw
    go_wp2_with fail
    refine (hdw2.append (Mod.refl _ _) sLog z A8 c8 (hrz10.mod0 hdw2.base) (fun hp ad had => .inl (hrz10.block_lt (by decide) hp ad had)) ⟨by show 1 < _; omega, by show 1 ≤ _; omega, by show usedF [⟨sLog, [], 0⟩] ≤ _; simp [usedF]⟩ (by show usedF [⟨sLog, [], 0⟩] + _ ≤ _; simp [usedF]; omega)).mono ?_
    rintro e w13 ⟨rfl, hdw3⟩
    rw [HAP.out] at hdw3
    obtain ⟨S13, h13⟩ := Lw.dw hdw3
    clear hdw2 hdw3 HCR HAP
    go_wp2_with fail
    refine (h13.open htab10 (fitL_one _ _ _ _ _ _ (by omega) (by omega)) (by rw [HOPN.out])).mono ?_
    rintro e w14 ⟨S14, q, vl, vs, rfl, h14, _, _, hqN, hqS14, hq14, hba14⟩
    rw [HOPN.out] at h14
    rw [HLGN.out] at hq14
    rw [HLGL.out] at hba14
    have hq0 : w10.heap.size ≤ q := Nat.le_trans h13.base.size hqN
    obtain ⟨A14, c14, hv14, hbr14⟩ := hba14.rd
    have hv14' : vl = .slice A14 1 c14 := hv14
    subst hv14'
    have hbc : Calls Tryd.prog 22 #[.slice A14 1 c14, .slice Aq 1 cq] w14 fun e w' => e = .returned (.bool true) ∧ Mod NoneB w14 w' := by
      have h := batches_calls [l0] [l0] A14 Aq c14 cq vs _ w14 hbr14 (HBRQ.out.mod0 h14.base)
      rw [decide_eq_true rfl] at h
      exact h
    have HBC := Lib.hid hbc
    clear hba14 hv14 hbr14 hbc hqN h13
    have exx : ((x.length : Int) != (x.length : Int)) = false := by simp
    go_wp2_with ((with_reducible refine (num_calls _ _).mono ?_); rintro ez wz ⟨rfl, rfl⟩)
    refine HBC.out.mono ?_
    rintro e w15 ⟨rfl, hm15⟩
    have h15 := h14.mod0 hm15
    have hq15 := hm15.blk hq14 (fun h => h)
    clear h14 hq14 HBC
    go_wp2_with fail
    refine (wsize_calls w15 p q x.length false hq15).mono ?_
    rintro e wz ⟨rfl, rfl⟩
    go_wp2_with fail
    refine (h15.commit htab10 (fitL_one _ _ _ _ _ _ (by omega) (by omega)) hq15 hqS14 hq0 (by omega) l1 a1 c1 (rd1.mod0 (hm110.then0 h15.base)) HS1.out).mono ?_
    rintro e w16 ⟨rfl, S16, h16, _, _, _, _⟩
    rw [HC2.out] at h16 ⊢
    clear h15 hq15 hqS14
    go_wp2_with fail
    refine (h16.open htab10 (fitL_one _ _ _ _ _ _ (by omega) (by omega)) (by rw [HOP2.out])).mono ?_
    rintro e w17 ⟨S17, q2, vl2, vs2, rfl, h17, _, _, _, _, _, hba17⟩
    rw [HLG.out] at hba17
    obtain ⟨A17, c17, hv17, hbr17⟩ := hba17.rd
    have hv17' : vl2 = .slice A17 2 c17 := hv17
    subst hv17'
    have hb17 := h17.base
    have hal : Mod NoneB w17 (w17.alloc (.cells #[.slice a1 l1.length c1] 22)) := (Mod.refl NoneB w17).alloc _
    have hbx := box1 w17 (.cells #[.slice a1 l1.length c1] 22)
    have hnx2 : 0 < 1 → ∃ x, (some ⟨w17.heap.size, 0, none⟩ : Option Addr) = some x ∧ ∀ (i : Nat) u, ([Value.slice a1 l1.length c1])[i]? = some u → (w17.alloc (.cells #[.slice a1 l1.length c1] 22)).cell? (x.add i) = some u := (rd_blk (sz := 1) (n := 1) hbx rfl (by decide)).2.2
    have how := (HOWN.out.mod0 hb17).mod0 hal
    have HBA17 := Lib.hid (And.intro hba17 h16.base.size)
    clear hba17 hv17 h16 h17 hbx
    go_wp2_with (at_builtin; refine wpList_append rfl (.tmp 116) (.tmp 118) 32 rfl 22 _ 1 24 huos tiOps rfl (by decide) (by decide) _ 1 [u0] rfl how (some ⟨w17.heap.size, 0, none⟩) 1 1 [.slice a1 l1.length c1] rfl rfl hnx2 (fun u hu => by rw [List.mem_singleton] at hu; subst hu; rfl) (by omega) ?_)
    intro v18 w18 ho18 hm18 hno18
    have hm118 : Mod NoneB w w18 := ((hm110.then0 hb17).then0 hal).trans_new hm18 (fun k hk => .inr (hnW k hk))
    have hOW : ∀ g, (Value.slice Aq 1 cq).ownBlock = some g → g < w10.heap.size := fun g hg => HOWN.out.lt hg
    have hba18 := (HBA17.out.1.mod0 hal).mod hm18 (fun g hg hk => by
      have h1 := hOW g hk
      have h2 := HBA17.out.1.new g hg
      have h3 := HBA17.out.2
      omega) (fun u hu g hg hk => by
      have h1 := hOW g hk
      have h2 := HBA17.out.1.newB u hu g hg
      have h3 := HBA17.out.2
      omega)
    obtain ⟨A19, c19, hv19, hbr19⟩ := hba18.rd
    have hv19' : Value.slice A17 2 c17 = .slice A19 2 c19 := hv19
    injection hv19' with hA19 _ hc19
    subst hA19 hc19
    have hE := (HE0.out.mod0 hb17).mod0 hal
    have hE18 := hE.mod hm18 (fun g hg hk => by
      obtain ⟨d1, e1⟩ := hE.tag0 hg
      obtain ⟨d2, e2⟩ := how.tag0 hk
      exact tag_ne0 e1 e2 (by decide) rfl)
    obtain ⟨A18, c18, rfl, _, _, hr18⟩ := ho18.out
    obtain ⟨B0, b0, hu0, hrd0⟩ := hE18.nilD0
    have hbw : BatsRd w18 A18 2 [l0, l1] [u0, Value.slice a1 l1.length c1] := ⟨hr18, rfl, fun i h1 h2 => by
      have hi : i < 2 := h1
      match i, hi with
      | 0, _ => exact ⟨_, _, hu0, hrd0⟩
      | 1, _ => exact ⟨_, _, rfl, rd1.mod0 hm118⟩⟩
    have hbc2 : Calls Tryd.prog 22 #[.slice A17 2 c17, .slice A18 2 c18] w18 fun e w' => e = .returned (.bool true) ∧ Mod NoneB w18 w' := by
      have h := batches_calls [l0, l1] [l0, l1] A17 A18 c17 c18 vs2 _ w18 hbr19 hbw
      rw [decide_eq_true rfl] at h
      exact h
    have HBC2 := Lib.hid hbc2
    clear hbc2 hbw hbr19 hba18 hE hE18 hr18 ho18 hno18 hm18 how hnx2 hal hOW hv19 hrd0 hu0 hbr17
    go_wp2_with ((with_reducible refine (num_calls _ _).mono ?_); rintro ez wz ⟨rfl, rfl⟩)
    refine HBC2.out.mono ?_
    rintro e w19 ⟨rfl, hm19b⟩
    have hb19 := hm118.then0 hm19b
    go_wp2_with ((with_reducible refine (awake7_calls _ (htab.mod0 hb19)).mono ?_); rintro ez wz ⟨rfl, hmz⟩)
    go_ret
    exact ⟨rfl, hb19.then0 hmz⟩
end Go.Proofs.YtaldneffhbgepaaDoor


