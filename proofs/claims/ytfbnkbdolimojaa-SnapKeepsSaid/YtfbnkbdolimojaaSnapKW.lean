/- SnapKeeps: wherever it crashes, whatever fails, what is loaded is what was saved last, or what was being saved: the walk of the law. -/
import Derived.Test.YtfbnkbdolimojaaSnapN
namespace Go.Proofs.Ytfbnkbdolimojaa
open Go.RowKit
set_option linter.unusedVariables false

theorem fitsB {D : Dk} (h : D.c ≤ 100 ∧ D.fs.length ≤ 100 ∧ usedF D.fs ≤ 1000000) : Fits D := ⟨by omega, by omega, by omega⟩

set_option maxHeartbeats 8000000 in
set_option maxRecDepth 100000 in
theorem snapKeeps_walk (l0 l1 : List Pr) (z2 : Int) (b3 : Bool) (l4 : List UInt8) (z5 : Int) (a0 a1 a4 : Option Addr) (c0 c1 c4 : Nat) (w : World) (rd0 : Rd w 2 a0 l0.length (encPs l0)) (rd1 : Rd w 2 a1 l1.length (encPs l1)) (rd4 : Rd w 1 a4 l4.length (encB l4)) (wz2 : (Lit.int .u8 z2).wf = true) (wz5 : (Lit.int .u8 z5).wf = true) :
    Calls Try.prog 8 #[.slice a0 l0.length c0, .slice a1 l1.length c1, .int .u8 z2, .bool b3, .slice a4 l4.length c4, .int .u8 z5] w fun e w' => e = .returned (.bool true) ∧ Mod NoneB w w' := by
  have hz2 : 0 ≤ z2 ∧ z2 ≤ 255 := by simp [Lit.wf] at wz2; exact wz2
  have hz5 : 0 ≤ z5 ∧ z5 ≤ 255 := by simp [Lit.wf] at wz5; exact wz5
  obtain ⟨hz20, hz21⟩ := hz2
  obtain ⟨hz50, hz51⟩ := hz5
  clear wz2 wz5
  go_enter Try.func8, Try.ntmps8
  go_wp2_with fail
  refine (greatP_calls l0 a0 c0 _ rd0).mono ?_
  rintro e w1 ⟨b, rfl, hm1, hb1⟩
  cases b with
  | true =>
    clear hb1
    go_wp2_with ((with_reducible refine (awake8_calls _).mono ?_); rintro e wz ⟨rfl, hmz⟩)
    go_ret
    exact ⟨rfl, hm1.then0 hmz⟩
  | false =>
    have hw0 := wS_great l0 (hb1 rfl)
    have hw0' := hb1 rfl
    clear hb1
    go_wp2_with fail
    refine (greatP_calls l1 a1 c1 _ (rd1.mod0 hm1)).mono ?_
    rintro e w2 ⟨b, rfl, hm2, hb2⟩
    have hm12 := hm1.then0 hm2
    cases b with
    | true =>
      clear hb2
      go_wp2_with ((with_reducible refine (awake8_calls _).mono ?_); rintro e wz ⟨rfl, hmz⟩)
      go_ret
      exact ⟨rfl, hm12.then0 hmz⟩
    | false =>
      by_cases hlk : 20 < l4.length
      · have hg : (20 : Int) < (l4.length : Int) := by omega
        clear hb2
        go_wp2_with ((with_reducible refine (awake8_calls _).mono ?_); rintro e wz ⟨rfl, hmz⟩)
        go_ret
        exact ⟨rfl, hm12.then0 hmz⟩
      have hg : ¬ (20 : Int) < (l4.length : Int) := by omega
      have hw1 := wS_great l1 (hb2 rfl)
      have hw1' := hb2 rfl
      have hll0 := (wtP_le hw0').1
      have hll1 := (wtP_le hw1').1
      have ht0 := tabs_norm l0 (by omega)
      have ht1 := tabs_norm l1 (by omega)
      clear hb2 hm1 hm2 hw0 hw1 hw0' hw1'
      go_wp2_with fail
      refine (rapply0_calls l0 a0 c0 _ (rd0.mod0 hm12) (by omega)).mono ?_
      rintro e w3 ⟨v3, rfl, ho3, hm3⟩
      obtain ⟨p, hp⟩ : ∃ p, p = normT l0 := ⟨_, rfl⟩
      rw [← hp] at ho3 ht0
      obtain ⟨A3, c3, rfl, hrp⟩ := ho3.own.nilD0
      have hm13 := hm12.then0 hm3
      clear hp ho3 hm3
      go_wp2_with fail
      refine (rapply0_calls l1 a1 c1 _ (rd1.mod0 hm13) (by omega)).mono ?_
      rintro e w4 ⟨v4, rfl, ho4, hm4⟩
      obtain ⟨q, hq⟩ : ∃ q, q = normT l1 := ⟨_, rfl⟩
      rw [← hq] at ho4 ht1
      obtain ⟨A4, cq, rfl, hrq⟩ := ho4.own.nilD0
      have hm14 := hm13.then0 hm4
      have hrp4 := hrp.mod0 hm4
      obtain ⟨x, hx⟩ := ht0
      obtain ⟨y, hy⟩ := ht1
      have hxs := hx.small
      have hys := hy.small
      have HX := Lib.hid hx
      have HY := Lib.hid hy
      have rd44 := rd4.mod0 hm14
      clear hq ho4 hm4 hrp hx hy hm13 hm12 rd0 rd1 rd4
      go_wp2_with fail
      obtain ⟨cr, hcr⟩ : ∃ cr, cr = 5 + z2 % 9 := ⟨_, rfl⟩
      obtain ⟨fl, hfl⟩ : ∃ fl, fl = 5 + z5 % 9 := ⟨_, rfl⟩
      have hcr5 : 5 ≤ cr := by omega
      have hfl5 : 5 ≤ fl := by omega
      obtain ⟨ks, hks⟩ : ∃ ks : List Int, ks = l4.map fun z => (z.toNat : Int) := ⟨_, rfl⟩
      have hkn : ks.length = l4.length := by rw [hks]; simp
      have hkg : ∀ j, ∀ h : j < l4.length, ks.take (j + 1) = ks.take j ++ [(l4[j].toNat : Int)] := by
        intro j h
        rw [List.take_succ_eq_append_getElem (by omega)]
        simp [hks]
      have HKN := Lib.hid hkn
      have HKG := Lib.hid hkg
      rw [← hcr, ← hfl]
      obtain ⟨B, hB⟩ : ∃ B, B = w4.heap.size := ⟨_, rfl⟩
      have hbx := box2 w4 (.cells #[.int .i64 fl] 3) (.cells #[.int .i64 100000, .slice (some ⟨B, 0, none⟩) 1 1, .int .i64 cr, .bool b3, .slice none 0 0] 24)
      have hmb : Mod NoneB w4 ((w4.alloc (.cells #[.int .i64 fl] 3)).alloc (.cells #[.int .i64 100000, .slice (some ⟨B, 0, none⟩) 1 1, .int .i64 cr, .bool b3, .slice none 0 0] 24)) := ((Mod.refl NoneB w4).alloc _).alloc _
      have hsb : ((w4.alloc (.cells #[.int .i64 fl] 3)).alloc (.cells #[.int .i64 100000, .slice (some ⟨B, 0, none⟩) 1 1, .int .i64 cr, .bool b3, .slice none 0 0] 24)).heap.size = B + 2 := by rw [hB]; simp
      rw [← hB] at hbx ⊢
      obtain ⟨hb0, hb1⟩ := hbx
      generalize ((w4.alloc (.cells #[.int .i64 fl] 3)).alloc (.cells #[.int .i64 100000, .slice (some ⟨B, 0, none⟩) 1 1, .int .i64 cr, .bool b3, .slice none 0 0] 24)) = wb at hb0 hb1 hmb hsb ⊢
      have rd4b := rd44.mod0 hmb
      have hk4 : ∀ wr, Mod (fun k => k = B + 1) wb wr → Rd wr 1 a4 l4.length (encB l4) := fun wr hm => rd4b.modP hm (fun hp ad hA he => by
        have := rd44.block_lt (by decide) hp ad hA
        omega)
      have hkp : ∀ wr, Mod (fun k => k = B + 1) wb wr → Rd wr 2 A3 p.length (encPs p) := fun wr hm => (hrp4.mod0 hmb).modP hm (fun hp ad hA he => by
        have := hrp4.block_lt (by decide) hp ad hA
        omega)
      have hkq : ∀ wr, Mod (fun k => k = B + 1) wb wr → Rd wr 2 A4 q.length (encPs q) := fun wr hm => (hrq.mod0 hmb).modP hm (fun hp ad hA he => by
        have := hrq.block_lt (by decide) hp ad hA
        omega)
      have hkf : ∀ wr, Mod (fun k => k = B + 1) wb wr → Rd wr 1 (some ⟨B, 0, none⟩) 1 (encI [fl]) := fun wr hm => rdBlk (sz := 1) (n := 1) (hm.blk hb0 (fun h => by omega)) rfl (by omega)
      have hkw : ∀ wr, Mod (fun k => k = B + 1) wb wr → Mod NoneB w wr := fun wr hm => hm14.then0 (hmb.trans_new hm (fun k hk => .inr (by omega)))
      have HK4 := Lib.hid hk4
      have HKP := Lib.hid hkp
      have HKQ := Lib.hid hkq
      have HKF := Lib.hid hkf
      have HKW := Lib.hid hkw
      have HB := Lib.hid hB
      have HSB := Lib.hid hsb
      clear hks hkn hkg hcr hfl hB rd4b rd44 hk4 hkp hkq hkf hkw hmb hb0 hrp4 hrq hm14 hsb
      go_loopw [14] (fun t wr => ∃ (j : Nat) (kv : Value), t = .int .i64 j ∧ j ≤ l4.length ∧ wr.heap[B + 1]? = some (.cells #[.int .i64 100000, .slice (some ⟨B, 0, none⟩) 1 1, .int .i64 cr, .bool b3, kv] 24 (0, 0)) ∧ Own wr 3 1 kv (ks.take j).length (encI (ks.take j)) ∧ Mod (fun k => k = B + 1) wb wr ∧ (∀ g, kv.ownBlock = some g → wb.heap.size ≤ g)) (fun t _ => l4.length - (intOf t).toNat)
      case atStart => exact ⟨0, _, rfl, by omega, hb1, Own.nil _ _ _, Mod.refl _ _, fun g h => by simp [Value.ownBlock] at h⟩
      case round =>
        obtain ⟨j, kv, rfl, hj, hbk, hov, hmj, hnv⟩ := hrel
        clear hb1
        by_cases hlt : j < l4.length
        · obtain ⟨ad, rfl, h0⟩ := (HK4.out wr hmj).bytes j hlt
          have hft := HKG.out j hlt
          have hxl := l4[j].toNat_lt
          obtain ⟨k, hk⟩ : ∃ k, k = l4[j].toNat := ⟨_, rfl⟩
          rw [← hk] at h0 hft hxl
          obtain ⟨nt, hnt⟩ : ∃ nt, nt = (ks.take j).length := ⟨_, rfl⟩
          rw [← hnt] at hov
          have hntl : nt ≤ 20 := by rw [hnt, List.length_take]; omega
          have HNT := Lib.hid hnt
          have HFT := Lib.hid hft
          have HNV := Lib.hid hnv
          have hal : Mod NoneB wr (wr.drew.alloc (.cells #[.int .i64 (k : Int)] 3)) := ((Mod.refl NoneB wr).drew).alloc _
          have hox := hov.mod0 hal
          have hnx : 0 < 1 → ∃ a, (some ⟨wr.heap.size, 0, none⟩ : Option Addr) = some a ∧ ∀ (j : Nat) u, (encI [(k : Int)])[j]? = some u → (wr.drew.alloc (.cells #[.int .i64 (k : Int)] 3)).cell? (a.add j) = some u := (rdBlk (sz := 1) (n := 1) (heap_alloc_new wr.drew (.cells #[.int .i64 (k : Int)] 3)) rfl (by omega)).2.2
          have hu := Try.underlying22
          have h8 : (nt + 1) * 8 ≤ 140737488355328 := by omega
          have y4 : wr.cell? ⟨B + 1, 4, none⟩ = some kv := blk_cell hbk 4
          have y4a : (wr.alloc (.cells #[.int .i64 (k : Int)] 3)).cell? ⟨B + 1, 4, none⟩ = some kv := blk_cell (((Mod.refl NoneB wr).alloc (.cells #[.int .i64 (k : Int)] 3)).blk hbk (fun h => h)) 4
          have hg1 : ∀ w5 : World, Mod (OnlyBlk kv) (wr.drew.alloc (.cells #[.int .i64 (k : Int)] 3)) w5 → w5.heap[B + 1]? = some (.cells #[.int .i64 100000, .slice (some ⟨B, 0, none⟩) 1 1, .int .i64 cr, .bool b3, kv] 24 (0, 0)) := by
            intro w5 hm
            refine hm.blk (hal.blk hbk (fun h => h)) (fun h => ?_)
            have := HNV.out _ h
            have := HSB.out
            omega
          have HG1 := Lib.hid hg1
          have g0 : (0 : Int) ≤ (j : Int) := by omega
          have g1 : (j : Int) < (l4.length : Int) := by omega
          have g2 : IntKind.i64.wrap (k : Int) = k := IntWalk.i64_in _ (by omega)
          clear hnt hft hnv hov hk hg1 hbk
          obtain ⟨A5, c5, rfl, _, _, _⟩ := hox.out
          go_wp2_with fail
          go_region_law (refine step_app rfl (.tmp 54) (.tmp 60) 22 rfl 3 _ 1 8 hu tiI rfl (by decide) (by decide) _ nt (encI (ks.take j)) (by simp [Act.eval]) hox (some ⟨wr.heap.size, 0, none⟩) 1 1 (encI [(k : Int)]) (by simp [Act.eval]) rfl hnx (encI_one _) h8 ?_; intro v5 w5 ho5 hm5 hno5; obtain ⟨V5, cv5, rfl, _, _, _⟩ := ho5.out; have y5 : w5.cell? ⟨B + 1, 4, none⟩ = some (.slice A5 nt c5) := (blk_cell (HG1.out w5 hm5) 4); have fr5 : w5.frozen? ⟨B + 1, 4, none⟩ = false := blk_frozen (HG1.out w5 hm5) 4)
          all_goals
            have hb5 := setCell_blk (p := B + 1) (j := 4) (u := .slice V5 (nt + 1) cv5) (HG1.out w5 hm5)
            have hms : Mod (fun k => k = B + 1) w5 (w5.setCell ⟨B + 1, 4, none⟩ (.slice V5 (nt + 1) cv5)) := Mod.setCell (S := fun k => k = B + 1) (Mod.refl _ _) (p := ⟨B + 1, 4, none⟩) (fun _ => rfl) _
            have hn5 : ∀ g, (Value.slice V5 (nt + 1) cv5).ownBlock = some g → wb.heap.size ≤ g := by
              intro g hg
              rcases hno5 with hq | ⟨b, hq, hb⟩
              · exact HNV.out g (by rw [← hq]; exact hg)
              · rw [hq] at hg
                injection hg with hg
                have h1 := hmj.size
                have h2 := hal.size
                subst hg
                exact Nat.le_trans (Nat.le_trans h1 h2) hb
            have hv5 : Own (w5.setCell ⟨B + 1, 4, none⟩ (.slice V5 (nt + 1) cv5)) 3 1 (.slice V5 (nt + 1) cv5) (ks.take (j + 1)).length (encI (ks.take (j + 1))) := by
              have h2 := ho5.mod hms (fun g hg he => by
                have := hn5 g hg
                have := HSB.out
                omega)
              rw [HFT.out, List.length_append]
              have e : encI (ks.take j ++ [(k : Int)]) = encI (ks.take j) ++ encI [(k : Int)] := by simp [encI]
              rw [e]
              have e2 : (ks.take j).length + [(k : Int)].length = nt + 1 := by rw [← HNT.out]; rfl
              rw [e2]
              exact h2
            have hmw : Mod (fun k => k = B + 1) wb (w5.setCell ⟨B + 1, 4, none⟩ (.slice V5 (nt + 1) cv5)) := by
              have h1 : Mod (fun k => k = B + 1) wb w5 := (hmj.then0 hal).trans_new hm5 (fun k hk => .inr (HNV.out k hk))
              exact h1.trans hms (fun _ _ h => h)
            have HB5 := Lib.hid hb5
            have HV5 := Lib.hid hv5
            have HN5 := Lib.hid hn5
            have HMW := Lib.hid hmw
            clear hb5 hv5 hn5 hmw hms ho5 hox hnx hno5 h0 y4 y4a y5
            go_wp2_with fail
            go_roundw
            case rel => exact ⟨j + 1, _, by go_num, by omega, HB5.out.trans rfl, HV5.out, HMW.out, HN5.out⟩
            case measure => simp [intOf]; omega
        · have hje : ks.take j = ks := List.take_of_length_le (by rw [HKN.out]; omega)
          rw [hje] at hov
          have hkl : ks.length ≤ 20 := by rw [HKN.out]; omega
          obtain ⟨K, kc, rfl, hK⟩ := hov.nilD0
          have y0 : wr.cell? ⟨B + 1, 0, none⟩ = some (.int .i64 100000) := blk_cell hbk 0
          have y1 : wr.cell? ⟨B + 1, 1, none⟩ = some (.slice (some ⟨B, 0, none⟩) 1 1) := blk_cell hbk 1
          have y2 : wr.cell? ⟨B + 1, 2, none⟩ = some (.int .i64 cr) := blk_cell hbk 2
          have y3 : wr.cell? ⟨B + 1, 3, none⟩ = some (.bool b3) := blk_cell hbk 3
          have y4 : wr.cell? ⟨B + 1, 4, none⟩ = some (.slice K ks.length kc) := blk_cell hbk 4
          have hF := HKF.out wr hmj
          have hpr := HKP.out wr hmj
          have hqr := HKQ.out wr hmj
          have hwr := HKW.out wr hmj
          have g1 : ¬ ((j : Int) < (l4.length : Int)) := by omega
          obtain ⟨D1, D2, D3, f, k1, k2, k3, k4, gb⟩ := keeps_ok HX.out HY.out ⟨100000, [fl], cr, b3, ks⟩ rfl hcr5 (by intro k hk; rw [List.mem_singleton] at hk; omega)
          have r0 : RoomS (⟨⟨100000, [fl], cr, b3, ks⟩, [], 0, false⟩ : Dk) (tableR p).1 0 := HX.out.room (by simp) (by simp) (by simp [usedF])
          have b1 := gb D1 (.inl rfl)
          have b2 := gb D2 (.inr (.inl rfl))
          have b3' := gb D3 (.inr (.inr rfl))
          have r1 : RoomS D1 (tableR q).1 0 := HY.out.room (by omega) (by omega) (by omega)
          have f2 : Fits D2 := fitsB (by omega)
          have f3 : Fits D3 := fitsB (by omega)
          have u3 : usedF D3.fs ≤ 1099511627776 := by omega
          obtain ⟨m, hm, hm0, hmo⟩ : ∃ m, loadR D3 = (m, 0) ∧ (f = 0 → m = q) ∧ (m = p ∨ m = q) := by
            rcases k4 with h | ⟨h1, h2⟩
            · exact ⟨q, h, fun _ => rfl, .inr rfl⟩
            · exact ⟨p, h2, fun h => absurd h h1, .inl rfl⟩
          obtain ⟨bp, hbp⟩ : ∃ bp, bp = decide (m = p) := ⟨_, rfl⟩
          obtain ⟨bq, hbq⟩ : ∃ bq, bq = decide (m = q) := ⟨_, rfl⟩
          have hc0 : f = 0 → bq = true := fun h => by rw [hbq, hm0 h]; simp
          have hc1 : bp = false → bq = true := fun h => by
            rw [hbp] at h
            have := of_decide_eq_false h
            rw [hbq, hmo.resolve_left this]
            simp
          have G1 := Lib.hid k1
          have G2 := Lib.hid k2
          have G3 := Lib.hid k3
          have GM := Lib.hid hm
          have BP := Lib.hid hbp
          have BQ := Lib.hid hbq
          have C0 := Lib.hid hc0
          have C1 := Lib.hid hc1
          clear hje hov hbk hmj hnv k1 k2 k3 k4 gb b1 b2 b3' hm hm0 hmo hbp hbq hc0 hc1
          go_wp2_with fail
          refine (Dw.new wr wr (Mod.refl _ _) ⟨100000, [fl], cr, b3, ks⟩ (some ⟨B, 0, none⟩) K 1 kc hF hK (by show 1 ≤ 1099511627776; omega) (by show ks.length ≤ 1099511627776; omega)).mono ?_
          rintro e w7 ⟨dp, rfl, hD0⟩
          replace hD0 : Dx (OldB wr) wr w7 dp ⟨⟨100000, [fl], cr, b3, ks⟩, [], 0, false⟩ := hD0.toX
          clear y0 y1 y2 y3 y4 hF hK
          go_wp2_with fail
          refine (save_calls hD0 p A3 c3 (hpr.mod0 hD0.base) hxs r0).mono ?_
          rintro e w8 ⟨rfl, hD1⟩
          rw [G1.out] at hD1 ⊢
          clear hD0 r0
          go_wp2_with fail
          refine (save_calls hD1 q A4 cq (hqr.mod0 hD1.base) hys r1).mono ?_
          rintro e w9 ⟨rfl, hD2⟩
          rw [G2.out] at hD2 ⊢
          clear hD1 r1
          go_wp2_with fail
          refine (hD2.restart0 _ f2).mono ?_
          rintro e w10 ⟨rfl, hD3⟩
          rw [G3.out] at hD3
          clear hD2 f2
          go_wp2_with fail
          refine (load_calls hD3 f3 u3).mono ?_
          rintro e w11 ⟨v, rfl, hov, hD4, _, _⟩
          rw [GM.out] at hov ⊢
          obtain ⟨A11, c11, hv, hr11⟩ := hov.nilD0
          replace hv : v = .slice A11 m.length c11 := hv
          replace hr11 : Rd w11 2 A11 m.length (encPs m) := hr11
          subst hv
          have hb11 : Mod NoneB w w11 := hwr.then0 hD4.base
          have hp11 := hpr.mod0 hD4.base
          have hq11 := hqr.mod0 hD4.base
          have hpa : ∀ w', Mod NoneB w11 w' → Calls Try.prog 30 #[.slice A11 m.length c11, .slice A3 p.length c3] w' fun e w'' => e = .returned (.bool bp) ∧ Mod NoneB w' w'' := by
            intro w' hm
            rw [BP.out]
            exact pairs_calls m p A11 A3 c11 c3 w' (hr11.mod0 hm) (hp11.mod0 hm)
          have hqa : ∀ w', Mod NoneB w11 w' → Calls Try.prog 30 #[.slice A11 m.length c11, .slice A4 q.length cq] w' fun e w'' => e = .returned (.bool bq) ∧ Mod NoneB w' w'' := by
            intro w' hm
            rw [BQ.out]
            exact pairs_calls m q A11 A4 c11 cq w' (hr11.mod0 hm) (hq11.mod0 hm)
          have HPA := Lib.hid hpa
          have HQA := Lib.hid hqa
          clear hpa hqa hov hr11 hp11 hq11 hD3 hD4 hpr hqr hwr f3 u3 hxs hys
          by_cases hf0 : f = 0
          · have hbq := C0.out hf0
            subst hf0
            subst hbq
            go_wp2_with (first
              | ((with_reducible refine (num_calls _ _).mono ?_); rintro ez wz ⟨rfl, rfl⟩)
              | ((with_reducible refine (HQA.out _ (Mod.refl _ _)).mono ?_); rintro ez wq ⟨rfl, hmq⟩)
              | ((with_reducible refine (awake8_calls _).mono ?_); rintro ez wz ⟨rfl, hmz⟩))
            go_ret
            exact ⟨rfl, (hb11.then0 hmq).then0 hmz⟩
          · have b1 : ((f : Int) == 0) = false := by simp; omega
            have b2 : ((f : Int) != 0) = true := by simp; omega
            have b3' : decide ((f : Int) = 0) = false := by simp; omega
            have b4 : ¬ ((f : Int) = 0) := by omega
            cases bp with
            | true =>
              clear hf0
              go_wp2_with (first
                | ((with_reducible refine (num_calls _ _).mono ?_); rintro ez wz ⟨rfl, rfl⟩)
                | ((with_reducible refine (HPA.out _ (Mod.refl _ _)).mono ?_); rintro ez wq ⟨rfl, hmq⟩)
                | ((with_reducible refine (awake8_calls _).mono ?_); rintro ez wz ⟨rfl, hmz⟩))
              go_ret
              exact ⟨rfl, (hb11.then0 hmq).then0 hmz⟩
            | false =>
              have hbq := C1.out rfl
              subst hbq
              clear hf0
              go_wp2_with (first
                | ((with_reducible refine (num_calls _ _).mono ?_); rintro ez wz ⟨rfl, rfl⟩)
                | ((with_reducible refine (HPA.out _ (Mod.refl _ _)).mono ?_); rintro ez wq ⟨rfl, hmq⟩)
                | ((with_reducible refine (HQA.out _ hmq).mono ?_); rintro ez wr ⟨rfl, hmr⟩)
                | ((with_reducible refine (awake8_calls _).mono ?_); rintro ez wz ⟨rfl, hmz⟩))
              go_ret
              exact ⟨rfl, ((hb11.then0 hmq).then0 hmr).then0 hmz⟩
end Go.Proofs.Ytfbnkbdolimojaa
