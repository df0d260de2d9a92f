/- BatchEnds: an end of another number, a record that is none, ends what is told: the walk of the law. -/
import Derived.Test.YtaldneffhbgepaaDoorBatG
import Derived.Test.YtaldneffhbgepaaDoorBatH
import Derived.Test.YtaldneffhbgepaaDoorBatK
import Derived.Test.YtaldneffhbgepaaDoorRefC
import Derived.Test.YtaldneffhbgepaaDoorAfter
import Derived.Test.YtaldneffhbgepaaDoorAppFull
import Derived.Deep.DeepCutAuto
namespace Go.Proofs.YtaldneffhbgepaaDoor
open Go.RowKit
set_option linter.unusedVariables false

/-- A record that is none, or ends no batch. -/
def badB (h : Int) (k : Nat) : List UInt8 := if h % 3 = 1 then [] else if h % 3 = 2 then 99 :: encL [digitsB (1 + k)] else [120]
theorem kind_bad (h : Int) (k : Nat) (hk : k < 256) : kindB 0 (badB h k) = .bad := by
  unfold badB
  by_cases h1 : h % 3 = 1
  · rw [if_pos h1]; rfl
  · rw [if_neg h1]
    by_cases h2 : h % 3 = 2
    · rw [if_pos h2]
      show kindT 0 99 (decL (encL [digitsB (1 + k)])) = _
      have hd := digitsB_size_le (n := 1 + k) (by omega)
      rw [dec_one _ (by omega)]
      show (if (99 : UInt8) = 100 then Kd.op ⟨true, digitsB (1 + k), ⟨#[]⟩⟩ else if (99 : UInt8) = 99 ∧ digitsB (1 + k) = digitsB 0 then Kd.fin else Kd.bad) = _
      rw [if_neg (by decide), if_neg (fun h => by have := digitsB_inj h.2; omega)]
    · rw [if_neg h2]; rfl
theorem replay_ends {a b : List Op3} (hra : rightO a) (hsa : SmallO a) (bad : List UInt8) (hb : kindB 0 bad = .bad) (r : List (List UInt8)) : replayB (recsO a ++ bad :: r) = ([a], a.length + 1) := by
  unfold replayB
  rw [replayGo_batch a hra hsa, replayGo_bad [] _ _ bad r hb]
  simp
theorem encPart_one (l : List Part) : ∀ u ∈ l.flatMap encPart, u.oneCell' = true := by
  intro u hu
  rw [flatMap_part] at hu
  obtain ⟨q, _, rfl⟩ := List.mem_map.1 hu
  rfl
theorem encPart_len (l : List Part) : (l.flatMap encPart).length = l.length * 1 := by rw [flatMap_part, List.length_map, Nat.mul_one]
theorem PartOk.mod0' {w w1 : World} {p : Part} (h : PartOk w p) (hm : Mod NoneB w w1) : PartOk w1 p := ⟨h.rd.mod0 hm, h.cap, h.top⟩

set_option maxHeartbeats 12000000 in
set_option maxRecDepth 100000 in
theorem batchEnds_walk (l0 l1 : List Op3) (z2 z3 : Int) (a0 a1 : Option Addr) (c0 c1 : Nat) (w : World) (rd0 : Rd w 3 a0 l0.length (encOs l0)) (rd1 : Rd w 3 a1 l1.length (encOs l1)) (wz2 : (Lit.int .u8 z2).wf = true) (wz3 : (Lit.int .u8 z3).wf = true) (htab : TabW w) :
    Calls Tryd.prog 6 #[.slice a0 l0.length c0, .slice a1 l1.length c1, .int .u8 z2, .int .u8 z3] w fun e w' => e = .returned (.bool true) ∧ Mod NoneB w w' := by
  have hz2 : 0 ≤ z2 ∧ z2 ≤ 255 := by simp [Lit.wf] at wz2; exact wz2
  have hz3 : 0 ≤ z3 ∧ z3 ≤ 255 := by simp [Lit.wf] at wz3; exact wz3
  clear wz2 wz3
  have hub := Tryd.underlying23
  have hu := Tryd.underlying26
  go_enter Tryd.func6, Tryd.ntmps6
  go_wp2_with fail
  refine (greatO_calls l0 a0 c0 _ rd0).mono ?_
  rintro e w1 ⟨b, rfl, hm1, hb1⟩
  cases b with
  | true =>
    clear hb1
    go_wp2_with ((with_reducible refine (awake5_calls _ (htab.mod0 hm1)).mono ?_); rintro e wz ⟨rfl, hmz⟩)
    go_ret
    exact ⟨rfl, hm1.then0 hmz⟩
  | false =>
    have hs0 := smallO_of (hb1 rfl)
    have hw0 := (wtO_le (hb1 rfl)).1
    clear hb1
    go_wp2_with fail
    refine (greatO_calls l1 a1 c1 _ (rd1.mod0 hm1)).mono ?_
    rintro e w2 ⟨b, rfl, hm2, hb2⟩
    have hm12 := hm1.then0 hm2
    cases b with
    | true =>
      clear hb2
      go_wp2_with ((with_reducible refine (awake5_calls _ (htab.mod0 hm12)).mono ?_); rintro e wz ⟨rfl, hmz⟩)
      go_ret
      exact ⟨rfl, hm12.then0 hmz⟩
    | false =>
      have hs1 := smallO_of (hb2 rfl)
      have hw1 := (wtO_le (hb2 rfl)).1
      clear hb2 hm1 hm2
      go_wp2_with fail
      refine (rrightops_calls l0 a0 c0 _ (rd0.mod0 hm12)).mono ?_
      rintro e w3 ⟨rfl, hm3⟩
      have hm13 := hm12.then0 hm3
      clear hm12 hm3
      by_cases hr0 : rightO l0
      case neg =>
        rw [decide_eq_false hr0]
        clear hr0
        go_wp2_with ((with_reducible refine (awake5_calls _ (htab.mod0 hm13)).mono ?_); rintro e wz ⟨rfl, hmz⟩)
        go_ret
        exact ⟨rfl, hm13.then0 hmz⟩
      rw [decide_eq_true hr0]
      go_wp2_with fail
      refine (rrightops_calls l1 a1 c1 _ (rd1.mod0 hm13)).mono ?_
      rintro e w4 ⟨rfl, hm4⟩
      have hm14 := hm13.then0 hm4
      clear hm13 hm4
      by_cases hr1 : rightO l1
      case neg =>
        rw [decide_eq_false hr1]
        clear hr1
        go_wp2_with ((with_reducible refine (awake5_calls _ (htab.mod0 hm14)).mono ?_); rintro e wz ⟨rfl, hmz⟩)
        go_ret
        exact ⟨rfl, hm14.then0 hmz⟩
      rw [decide_eq_true hr1]
      by_cases hl2 : l0.length ≤ 200
      case neg =>
        have q1 : (200 : Int) < (l0.length : Int) := by omega
        clear hl2
        go_wp2_with ((with_reducible refine (awake5_calls _ (htab.mod0 hm14)).mono ?_); rintro e wz ⟨rfl, hmz⟩)
        go_ret
        exact ⟨rfl, hm14.then0 hmz⟩
      have q1 : ¬ ((200 : Int) < (l0.length : Int)) := by omega
      have ho0 : opsR l0 = (bytesO l0, 0) := if_pos hr0
      have ho1 : opsR l1 = (bytesO l1, 0) := if_pos hr1
      have hx0 := bytesO_length hr0 hs0
      have hx1 := bytesO_length hr1 hs1
      have hsc0 := scan_bytesO1 hr0 hs0
      have hsc1 := scan_bytesO1 hr1 hs1
      have hpl0 : ∀ p ∈ recsO l0, p.length ≤ 140737488355328 := fun p hp => Nat.le_trans (recsO_small hs0 hr0.1 p hp) (by decide)
      have hpl1 : ∀ p ∈ recsO l1, p.length ≤ 140737488355328 := fun p hp => Nat.le_trans (recsO_small hs1 hr1.1 p hp) (by decide)
      obtain ⟨k, hk2⟩ : ∃ k : Nat, z2 = k := ⟨z2.toNat, by omega⟩
      have hkl : k < 256 := by omega
      have hkb := kind_bad z3 k hkl
      have hre := replay_ends (b := l1) hr0 hs0 (badB z3 k) hkb (recsO l1)
      have hrt := replay_two hr0 hs0 hr1 hs1
      have hrn0 : (recsO l0).length = l0.length + 1 := by simp [recsO]
      have hrn1 : (recsO l1).length = l1.length + 1 := by simp [recsO]
      have hlr0 := hr0.1
      have hlr1 := hr1.1
      subst hk2
      obtain ⟨x, hx⟩ : ∃ x, x = bytesO l0 := ⟨_, rfl⟩
      obtain ⟨y, hy⟩ : ∃ y, y = bytesO l1 := ⟨_, rfl⟩
      rw [← hx] at ho0 hx0 hsc0
      rw [← hy] at ho1 hx1 hsc1
      obtain ⟨rs0, hrs0⟩ : ∃ rs, rs = recsO l0 := ⟨_, rfl⟩
      obtain ⟨rs1, hrs1⟩ : ∃ rs, rs = recsO l1 := ⟨_, rfl⟩
      rw [← hrs0] at hsc0 hpl0 hre hrt hrn0
      rw [← hrs1] at hsc1 hpl1 hre hrt hrn1
      have HO0 := Lib.hid ho0
      have HO1 := Lib.hid ho1
      have HSC0 := Lib.hid hsc0
      have HSC1 := Lib.hid hsc1
      have HPL0 := Lib.hid hpl0
      have HPL1 := Lib.hid hpl1
      have HRE := Lib.hid hre
      have HRT := Lib.hid hrt
      have HRN0 := Lib.hid hrn0
      have HRN1 := Lib.hid hrn1
      have HS0 := Lib.hid hs0
      have HS1 := Lib.hid hs1
      clear ho0 ho1 hsc0 hsc1 hpl0 hpl1 hre hrt hrn0 hrn1 hs0 hs1 hx hy hrs0 hrs1 hr0 hr1 hkb hl2 hz2
      go_wp2_with fail
      refine (bencode_calls l0 a0 c0 w4 (rd0.mod0 hm14) HS0.out (htab.mod0 hm14)).mono ?_
      intro e w5 h5
      rw [HO0.out] at h5
      obtain ⟨A5, c5, rfl, hc5, hrx, hm5⟩ := h5.open
      simp only at hc5 hrx
      have hm15 := hm14.then0 hm5
      clear h5 q1
      go_wp2_with fail
      refine (bencode_calls l1 a1 c1 w5 (rd1.mod0 hm15) HS1.out (htab.mod0 hm15)).mono ?_
      intro e w6 h6
      rw [HO1.out] at h6
      obtain ⟨A6, c6, rfl, hc6, hry, hm6⟩ := h6.open
      simp only at hc6 hry
      have hm16 := hm15.then0 hm6
      have hrx6 := hrx.mod0 hm6
      clear h6 hrx
      go_wp2_with ((with_reducible refine (num_calls _ _).mono ?_); rintro ez wz ⟨rfl, rfl⟩)
      refine (rscan_calls x A5 c5 _ hrx6 (by omega) hc5).mono ?_
      rintro e w7 ⟨v7, vs7, rfl, hla0, hm7⟩
      rw [HSC0.out] at hla0
      obtain ⟨qs0, A7, c7, rfl, hbs0, hrq0, _, hpo0⟩ := hla0.parts HPL0.out
      have hm17 := hm16.then0 hm7
      have hry7 := hry.mod0 hm7
      clear hla0 hrx6 hry hc5
      go_wp2_with fail
      refine (rscan_calls y A6 c6 w7 hry7 (by omega) hc6).mono ?_
      rintro e w8 ⟨v8, vs8, rfl, hla1, hm8⟩
      rw [HSC1.out] at hla1
      obtain ⟨qs1, A8, c8, rfl, hbs1, hrq1, _, hpo1⟩ := hla1.parts HPL1.out
      have hm18 := hm17.then0 hm8
      have hrq08 := hrq0.mod0 hm8
      have hpo08 : ∀ q ∈ qs0, PartOk w8 q := fun q hq => (hpo0 q hq).mod0' hm8
      have hq0 : qs0.length = l0.length + 1 := by
        have h := congrArg List.length hbs0
        rw [HRN0.out] at h
        simpa [bsOf] using h
      have hq1 : qs1.length = l1.length + 1 := by
        have h := congrArg List.length hbs1
        rw [HRN1.out] at h
        simpa [bsOf] using h
      have HQ0 := Lib.hid hq0
      have HQ1 := Lib.hid hq1
      have HBS0 := Lib.hid hbs0
      have HBS1 := Lib.hid hbs1
      have HPO0 := Lib.hid hpo08
      have HPO1 := Lib.hid hpo1
      clear hla1 hry7 hc6 hrq0 hpo0 hpo1 hpo08 hbs0 hbs1 hq0 hq1
      have hbx := box1 w8 (.cells #[.int .u8 120] 5)
      obtain ⟨w9, hcv, ⟨f9, hb9⟩, hmc⟩ := conv_lit (n := 1) (c := 1) hbx
      have hm89 : Mod NoneB w8 w9 := ((Mod.refl NoneB w8).alloc _).trans_new hmc (fun k hk => .inr (by omega))
      have hg9 : w8.heap.size < w9.heap.size := by
        cases hq : w9.heap[w8.heap.size]? with
        | none => rw [hq] at hb9; cases hb9
        | some o => exact (Array.getElem?_eq_some_iff.1 hq).1
      clear hbx hmc
      go_upto_if 78 with fail
      go_cut [17] (fun v wx => v = (if z3 % 3 = 1 then .slice none 0 0 else .slice (some ⟨w8.heap.size, 0, none⟩) 1 1) ∧ wx = w9)
      case first =>
        by_cases h1 : z3 % 3 = 1
        · go_wp2_with fail
          go_meet
          case rel => exact ⟨(if_pos h1).symm, rfl⟩
        · go_wp2_with fail
          go_meet
          case rel => exact ⟨(if_neg h1).symm, rfl⟩
      case rest =>
        obtain ⟨rfl, rfl⟩ := hcut
        go_upto_if 81 with fail
        go_cut [17] (fun v wx => ∃ B bc, v = .slice B (badB z3 k).length bc ∧ Rd wx 1 B (badB z3 k).length (encB (badB z3 k)) ∧ (badB z3 k).length ≤ bc ∧ Mod NoneB w8 wx)
        case first =>
          by_cases h2 : z3 % 3 = 2
          · have hbd : badB z3 k = 99 :: encL [digitsB (1 + k)] := by
              unfold badB
              rw [if_neg (by omega), if_pos h2]
            have HBD := Lib.hid hbd
            have hbx := box1 wc (.cells #[.int .u8 99] 5)
            obtain ⟨w10, hcv10, ⟨f10, hb10⟩, hmc⟩ := conv_lit (n := 1) (c := 1) hbx
            have hm810 : Mod NoneB wc w10 := ((Mod.refl NoneB wc).alloc _).trans_new hmc (fun k hk => .inr (by omega))
            have hdg : Calls Tryd.prog 26 #[.int .i64 (1 + (k : Int))] w10 fun e w' => e = .returned (.string (digitsB (1 + k))) ∧ Mod NoneB w10 w' := by
              have h := rdigits_calls (1 + k) w10 (by omega)
              rw [show ((1 + k : Nat) : Int) = 1 + (k : Int) by omega] at h
              exact h
            have HDG := Lib.hid hdg
            have hdz := digitsB_size_le (n := 1 + k) (by omega)
            obtain ⟨dg, hdge⟩ : ∃ dg, dg = digitsB (1 + k) := ⟨_, rfl⟩
            rw [← hdge] at HDG HBD hdz
            clear hdg hdge hbd hbx hmc
            go_wp2_with fail
            refine HDG.out.mono ?_
            rintro e w11 ⟨rfl, hm11⟩
            have hbx11 := box1 w11 (.cells #[.string dg] 9)
            have hts : Rd (w11.alloc (.cells #[.string dg] 9)) 1 (some ⟨w11.heap.size, 0, none⟩) 1 (encTs [dg]) := rd_blk hbx11 rfl (by omega)
            have hel := encL_one dg
            have hen := rencode_calls [dg] _ 1 _ hts (by simp) (fun t ht => by rw [List.mem_singleton] at ht; subst ht; omega) (by omega)
            have HEN := Lib.hid hen
            have hm812 : Mod NoneB wc (w11.alloc (.cells #[.string dg] 9)) := (hm810.then0 hm11).alloc _
            have hb12 := ((Mod.refl NoneB w11).alloc (.cells #[.string dg] 9)).blk (hm11.blk hb10 (fun h => h)) (fun h => h)
            clear hen hts hbx11
            go_wp2_with fail
            refine HEN.out.mono ?_
            rintro e w13 ⟨v13, rfl, ho13, hm13, hn13⟩
            have hb13 := hm13.blk hb12 (fun h => h)
            have hm813 := hm812.then0 hm13
            obtain ⟨eb, heb⟩ : ∃ eb, eb = encL [dg] := ⟨_, rfl⟩
            rw [← heb] at ho13 hel HBD
            obtain ⟨E, ec, rfl, hre⟩ := ho13.nilD0
            have hle : (encB eb).length = eb.length * 1 := by rw [encB_length, Nat.mul_one]
            have hold : ∀ (j : Nat) u, [Value.int .u8 99][j]? = some u → w13.cell? ((⟨wc.heap.size, 0, none⟩ : Addr).add j) = some u := fun j u hj => by
              rw [add_zero, blk_cell hb13]
              match j, hj with
              | 0, hj => exact hj
            have h1b : (1 + eb.length) * 1 ≤ 140737488355328 := by omega
            have hepos : 0 < eb.length := by omega
            have hecap : 1 < 1 + eb.length := by omega
            have hnx := hre.2.2
            have hel2 : eb.length ≤ 12 := by omega
            clear hel hdz
            clear heb ho13 hn13 hb10 hb12 hm13 hm812 HEN HDG
            go_wp2_with (at_builtin; refine wpList_append_full rfl (.tmp 84) (.tmp 90) 26 rfl 5 _ 1 1 hu tiB rfl (by decide) (by decide) ⟨wc.heap.size, 0, none⟩ 1 1 [.int .u8 99] rfl rfl hold E eb.length ec (encB eb) rfl hle hepos hnx (encB_one _) hecap h1b ?_)
            intro nc w14 ho14 hm14'
            have hm814 := hm89.then0 (hm813.then0 hm14')
            have hrd14 : ∃ B bc, (Value.slice (some ⟨w13.heap.size, 0, none⟩) (1 + eb.length) nc) = .slice B (badB z3 k).length bc ∧ Rd w14 1 B (badB z3 k).length (encB (badB z3 k)) ∧ (badB z3 k).length ≤ bc := by
              obtain ⟨B, bc, e, hc, _, hr⟩ := ho14.out
              injection e with e1 e2 e3
              subst e1 e3
              refine ⟨some ⟨w13.heap.size, 0, none⟩, nc, ?_, ?_, ?_⟩
              · rw [HBD.out, List.length_cons, Nat.add_comm]
              · rw [HBD.out, List.length_cons, Nat.add_comm]
                have e : encB (99 :: eb) = [Value.int .u8 99] ++ encB eb := by simp [encB]
                rw [e]
                exact hr
              · rw [HBD.out, List.length_cons, Nat.add_comm]; exact hc
            have HR := Lib.hid hrd14
            clear hrd14 ho14 hold hnx hle h1b
            go_wp2_with fail
            go_meet
            case rel =>
              obtain ⟨B, bc, h1, h2, h3⟩ := HR.out
              exact ⟨B, bc, h1, h2, h3, hm814⟩
          · have hbd : badB z3 k = if z3 % 3 = 1 then [] else [120] := by
              unfold badB
              by_cases h1 : z3 % 3 = 1
              · rw [if_pos h1, if_pos h1]
              · rw [if_neg h1, if_neg h2, if_neg h1]
            have hfc : wc.cell? ⟨w8.heap.size, 0, none⟩ = some (.int .u8 120) := by rw [blk_cell hb9]; rfl
            have hr120 : Rd wc 1 (some ⟨w8.heap.size, 0, none⟩) 1 (encB [120]) := ⟨rfl, by decide, fun _ => ⟨_, rfl, fun j u hu => by
              rw [add_zero]
              match j, hu with
              | 0, hu => exact hfc.trans hu⟩⟩
            by_cases h1 : z3 % 3 = 1
            · rw [if_pos h1] at hbd ⊢
              have HBD := Lib.hid hbd
              clear hbd hfc hr120
              go_wp2_with fail
              go_meet
              case rel =>
                rw [HBD.out]
                exact ⟨none, 0, rfl, Rd.nil _ _ _, Nat.le_refl _, hm89⟩
            · rw [if_neg h1] at hbd ⊢
              have HBD := Lib.hid hbd
              clear hbd hfc
              go_wp2_with fail
              go_meet
              case rel =>
                rw [HBD.out]
                exact ⟨some ⟨w8.heap.size, 0, none⟩, 1, rfl, hr120, Nat.le_refl _, hm89⟩
        case rest =>
          obtain ⟨B, bc, rfl, hrb, hbc, hm9⟩ := hcut
          have hbdl : (badB z3 k).length ≤ 20 := by
            have hdz := digitsB_size_le (n := 1 + k) (by omega)
            unfold badB
            split
            · simp
            · split
              · rw [List.length_cons, encL_one]; omega
              · simp
          obtain ⟨bd, hbd⟩ : ∃ bd, bd = badB z3 k := ⟨_, rfl⟩
          rw [← hbd] at HRE hrb hbc hbdl ⊢
          have hm19 := hm18.then0 hm9
          have hr0 := hrq08.mod0 hm9
          have hr1 := hrq1.mod0 hm9
          have hq0l : qs0.length ≤ 1001 := by have := HQ0.out; omega
          have hq1l : qs1.length ≤ 1001 := by have := HQ1.out; omega
          have HB9 := Lib.hid hb9
          clear hbd hcv hb9 hm89 hg9 hrq08 hrq1
          have hPS : ∀ q ∈ qs0 ++ ⟨B, bd, bc⟩ :: qs1, PartOk wc q := fun q hq => by
            rcases List.mem_append.1 hq with h | h
            · exact (HPO0.out q h).mod0' hm9
            · rcases List.mem_cons.1 h with rfl | h
              · exact ⟨hrb, hbc, by show bd.length ≤ _; omega⟩
              · exact (HPO1.out q h).mod0' hm9
          have hQS : ∀ q ∈ qs0 ++ qs1, PartOk wc q := fun q hq => by
            rcases List.mem_append.1 hq with h | h
            · exact (HPO0.out q h).mod0' hm9
            · exact (HPO1.out q h).mod0' hm9
          have HPS := Lib.hid hPS
          have HQS := Lib.hid hQS
          clear hPS hQS hrb hbc
          have hown0 : Own (wc.alloc (.cells #[] 26)) 26 1 (.slice (some ⟨wc.heap.size, 0, none⟩) 0 0) 0 [] := Own.of_blk (cap := 0) (heap_alloc_new wc _) (by omega) (by omega) (by simp) (by simp)
          have hal : Mod NoneB wc (wc.alloc (.cells #[] 26)) := (Mod.refl NoneB wc).alloc _
          have hnx := (hr0.mod0 hal).2.2
          have h24 : (0 + qs0.length) * 24 ≤ 140737488355328 := by omega
          go_wp2_with (at_builtin; refine wpList_append rfl (.tmp 92) (.tmp 93) 23 rfl 26 _ 1 24 hub tiBs rfl (by decide) (by decide) _ 0 [] rfl hown0 A7 qs0.length c7 (qs0.flatMap encPart) rfl (encPart_len _) hnx (encPart_one _) h24 ?_)
          intro v10 w10 ho10 hm10 hno10
          have hm910 : Mod NoneB wc w10 := hal.trans_new hm10 (fun k hk => .inr (by simp [OnlyBlk, Value.ownBlock] at hk; omega))
          have hn10 : ∀ g, v10.ownBlock = some g → wc.heap.size ≤ g := fun g hg => by
            rcases hno10 with hq | ⟨b, hq, hb⟩
            · rw [hq] at hg; simp [Value.ownBlock] at hg; omega
            · rw [hq] at hg; injection hg with hg; simp at hb; omega
          replace ho10 : Own w10 26 1 v10 qs0.length (qs0.flatMap encPart) := by simpa using ho10
          obtain ⟨A10, c10, rfl, _⟩ := ho10.out
          clear hown0 hal hnx h24 hm10 hno10
          have hal : Mod NoneB w10 (w10.alloc (.cells #[.slice B bd.length bc] 26)) := (Mod.refl NoneB w10).alloc _
          have hbx := box1 w10 (.cells #[.slice B bd.length bc] 26)
          have hnx : 0 < 1 → ∃ x, (some ⟨w10.heap.size, 0, none⟩ : Option Addr) = some x ∧ ∀ (i : Nat) u, ([Value.slice B bd.length bc])[i]? = some u → (w10.alloc (.cells #[.slice B bd.length bc] 26)).cell? (x.add i) = some u := (rd_blk (sz := 1) (n := 1) hbx rfl (by decide)).2.2
          have h24 : (qs0.length + 1) * 24 ≤ 140737488355328 := by omega
          have ho10a := ho10.mod0 hal
          go_wp2_with (at_builtin; refine wpList_append rfl (.tmp 95) (.tmp 97) 23 rfl 26 _ 1 24 hub tiBs rfl (by decide) (by decide) _ qs0.length (qs0.flatMap encPart) rfl ho10a (some ⟨w10.heap.size, 0, none⟩) 1 1 [.slice B bd.length bc] rfl rfl hnx (fun u hu => by rw [List.mem_singleton] at hu; subst hu; rfl) h24 ?_)
          intro v11 w11 ho11 hm11 hno11
          have hm911 : Mod NoneB wc w11 := (hm910.then0 hal).trans_new hm11 (fun k hk => .inr (hn10 k hk))
          have hn11 : ∀ g, v11.ownBlock = some g → wc.heap.size ≤ g := fun g hg => by
            rcases hno11 with hq | ⟨b, hq, hb⟩
            · exact hn10 g (by rw [← hq]; exact hg)
            · rw [hq] at hg; injection hg with hg; have := (hm910.then0 hal).size; omega
          obtain ⟨A11, c11, rfl, _⟩ := ho11.out
          have hnx1 := (hr1.mod0 hm911).2.2
          have h24b : (qs0.length + 1 + qs1.length) * 24 ≤ 140737488355328 := by omega
          clear hal hbx hnx h24 ho10 ho10a hm11 hno11 hn10
          go_wp2_with (at_builtin; refine wpList_append rfl (.tmp 99) (.tmp 100) 23 rfl 26 _ 1 24 hub tiBs rfl (by decide) (by decide) _ (qs0.length + 1) (qs0.flatMap encPart ++ [Value.slice B bd.length bc]) rfl ho11 A8 qs1.length c8 (qs1.flatMap encPart) rfl (encPart_len _) hnx1 (encPart_one _) h24b ?_)
          intro v12 w12 ho12 hm12 hno12
          have hm912 : Mod NoneB wc w12 := hm911.trans_new hm12 (fun k hk => .inr (hn11 k hk))
          obtain ⟨A12, c12, rfl, _, _, hr12⟩ := ho12.out
          have hps : (qs0 ++ ⟨B, bd, bc⟩ :: qs1).length = qs0.length + 1 + qs1.length := by rw [List.length_append, List.length_cons]; omega
          have hrp : Rd w12 1 A12 (qs0.length + 1 + qs1.length) ((qs0 ++ ⟨B, bd, bc⟩ :: qs1).flatMap encPart) := by
            have e : (qs0 ++ ⟨B, bd, bc⟩ :: qs1).flatMap encPart = (qs0.flatMap encPart ++ [Value.slice B bd.length bc]) ++ qs1.flatMap encPart := by
              rw [List.flatMap_append, List.flatMap_cons, List.append_assoc]; rfl
            rw [e]
            first | exact hr12 | (rw [List.append_assoc]; exact hr12)
          have hbso : bsOf (qs0 ++ ⟨B, bd, bc⟩ :: qs1) = rs0 ++ bd :: rs1 := by
            rw [← HBS0.out, ← HBS1.out]
            simp [bsOf]
          have hm112 := hm19.then0 hm912
          have hrc : Calls Tryd.prog 17 #[.slice A12 (qs0.length + 1 + qs1.length) c12] w12 (ReplE ([l0], l0.length + 1) w12) := by
            have h := replay_calls (qs0 ++ ⟨B, bd, bc⟩ :: qs1) A12 c12 w12 (by rw [hps]; exact hrp) (fun q hq => (HPS.out q hq).mod0' hm912) (by rw [hps]; omega) (htab.mod0 hm112)
            rw [hbso, HRE.out, hps] at h
            exact h
          have HRC := Lib.hid hrc
          have hm912s := hm912.size
          clear hrc hbso hps hrp hr12 ho12 hm12 hno12 hn11 ho11 hnx1 h24b HPS hm911 hm910
          go_wp2_with fail
          refine HRC.out.mono ?_
          rintro e w13 ⟨v13, vs13, rfl, hba13, hm13⟩
          have hm913 := hm912.then0 hm13
          obtain ⟨u0, rfl⟩ : ∃ u0, vs13 = [u0] := by
            have h := hba13.len
            match vs13, h with
            | [a], _ => exact ⟨a, rfl⟩
          obtain ⟨g, cg, hvg⟩ := hba13.own.addrOf (by simp)
          have hvg2 : v13 = .slice (some ⟨g, 0, none⟩) 1 cg := hvg
          subst hvg2
          obtain ⟨B0, b0, e0, hrd0⟩ := (hba13.ent 0 (by simp) (by simp)).nilD0
          have e0' : u0 = .slice B0 l0.length b0 := e0
          replace hrd0 : Rd w13 3 B0 l0.length (encOs l0) := hrd0
          subst e0'
          have y0 : w13.cell? ⟨g, 0, none⟩ = some (.slice B0 l0.length b0) := Own.cellAt (n := 1) hba13.own 0 _ rfl
          clear hba13 e0 hvg
          have hown0 : Own (w13.alloc (.cells #[] 26)) 26 1 (.slice (some ⟨w13.heap.size, 0, none⟩) 0 0) 0 [] := Own.of_blk (cap := 0) (heap_alloc_new w13 _) (by omega) (by omega) (by simp) (by simp)
          have hal : Mod NoneB w13 (w13.alloc (.cells #[] 26)) := (Mod.refl NoneB w13).alloc _
          have hnx := ((hr0.mod0 hm913).mod0 hal).2.2
          have h24 : (0 + qs0.length) * 24 ≤ 140737488355328 := by omega
          go_wp2_with (at_builtin; refine wpList_append rfl (.tmp 107) (.tmp 108) 23 rfl 26 _ 1 24 hub tiBs rfl (by decide) (by decide) _ 0 [] rfl hown0 A7 qs0.length c7 (qs0.flatMap encPart) rfl (encPart_len _) hnx (encPart_one _) h24 ?_)
          intro v14 w14 ho14 hm14' hno14
          have hm1314 : Mod NoneB w13 w14 := hal.trans_new hm14' (fun k hk => .inr (by simp [OnlyBlk, Value.ownBlock] at hk; omega))
          have hn14 : ∀ g, v14.ownBlock = some g → w13.heap.size ≤ g := fun g hg => by
            rcases hno14 with hq | ⟨b, hq, hb⟩
            · rw [hq] at hg; simp [Value.ownBlock] at hg; omega
            · rw [hq] at hg; injection hg with hg; simp at hb; omega
          replace ho14 : Own w14 26 1 v14 qs0.length (qs0.flatMap encPart) := by simpa using ho14
          obtain ⟨A14, c14, rfl, _⟩ := ho14.out
          have hnx1 := (hr1.mod0 (hm913.then0 hm1314)).2.2
          have h24b : (qs0.length + qs1.length) * 24 ≤ 140737488355328 := by omega
          clear hown0 hal hnx h24 hm14' hno14
          go_wp2_with (at_builtin; refine wpList_append rfl (.tmp 110) (.tmp 111) 23 rfl 26 _ 1 24 hub tiBs rfl (by decide) (by decide) _ qs0.length (qs0.flatMap encPart) rfl ho14 A8 qs1.length c8 (qs1.flatMap encPart) rfl (encPart_len _) hnx1 (encPart_one _) h24b ?_)
          intro v15 w15 ho15 hm15' hno15
          have hm1315 : Mod NoneB w13 w15 := hm1314.trans_new hm15' (fun k hk => .inr (hn14 k hk))
          have hm915 := hm913.then0 hm1315
          obtain ⟨A15, c15, rfl, _, _, hr15⟩ := ho15.out
          have hqs : (qs0 ++ qs1).length = qs0.length + qs1.length := List.length_append
          have hbso : bsOf (qs0 ++ qs1) = rs0 ++ rs1 := by
            rw [← HBS0.out, ← HBS1.out]
            simp [bsOf]
          have hm115 := hm19.then0 hm915
          have hrc : Calls Tryd.prog 17 #[.slice A15 (qs0.length + qs1.length) c15] w15 (ReplE ([l0, l1], l0.length + l1.length + 2) w15) := by
            have h := replay_calls (qs0 ++ qs1) A15 c15 w15 (by rw [hqs, List.flatMap_append]; exact hr15) (fun q hq => (HQS.out q hq).mod0' hm915) (by rw [hqs]; omega) (htab.mod0 hm115)
            rw [hbso, HRT.out, hqs] at h
            exact h
          have HRC := Lib.hid hrc
          have y015 := hm1315.cell0 y0
          have hrd015 := hrd0.mod0 hm1315
          clear hrc hbso hqs hr15 ho15 hm15' hno15 hn14 ho14 hnx1 h24b HQS y0 hrd0
          go_wp2_with fail
          refine HRC.out.mono ?_
          rintro e w16 ⟨v16, vs16, rfl, hba16, hm16'⟩
          obtain ⟨A16, c16, rfl, _⟩ := hba16.rd
          have hm116 := hm115.then0 hm16'
          have y016 := hm16'.cell0 y015
          have hsm : Calls Tryd.prog 24 #[.slice B0 l0.length b0, .slice a0 l0.length c0] w16 fun e w'' => e = .returned (.bool true) ∧ Mod NoneB w16 w'' := by
            have h := sameops_calls l0 l0 B0 a0 b0 c0 w16 (hrd015.mod0 hm16') (rd0.mod0 hm116)
            rw [decide_eq_true rfl] at h
            exact h
          have HSM := Lib.hid hsm
          have e6 : (((l0.length : Int) + 1) == (qs0.length : Int)) = true := by rw [beq_iff_eq]; have := HQ0.out; omega
          have e7 : (((l0.length : Int) + l1.length + 2) == (qs0.length : Int) + qs1.length) = true := by rw [beq_iff_eq]; have := HQ0.out; have := HQ1.out; omega
          clear hsm hba16 y015 hrd015
          go_wp2_with fail
          refine HSM.out.mono ?_
          rintro e w17 ⟨rfl, hm17'⟩
          have hm117 := hm116.then0 hm17'
          go_wp2_with ((with_reducible refine (awake5_calls _ (htab.mod0 hm117)).mono ?_); rintro ez wz ⟨rfl, hmz⟩)
          go_ret
          exact ⟨rfl, hm117.then0 hmz⟩
end Go.Proofs.YtaldneffhbgepaaDoor

