/- DiskFails: calls that the plan names are not done, and all others are; there is no more room than there is: the walk of the law. -/
import Derived.Test.YtnoleekdldmagaaDkKeeps
namespace Go.Proofs.Ytnoleekdldmagaa
open Go.RowKit
set_option linter.unusedVariables false

def seven : List UInt8 := [97, 98, 99, 100, 101, 102, 103]
/-- A disk of one file whose plan names calls that fail. -/
def flD (cap : Int) (fl : List Int) (fs : List Fl) (c : Nat) : Dk := ⟨⟨cap, fl, 0, false, []⟩, fs, c, false⟩
theorem gateF_bad (cap : Int) (fl : List Int) (fs : List Fl) (c : Nat) (op : Dk → Ans) (h : ((c + 1 : Nat) : Int) ∈ fl) : gateD (flD cap fl fs c) op = (flD cap fl fs (c + 1), 6) := by
  unfold gateD flD
  simp only [Bool.false_eq_true, if_false]
  rw [if_neg (by omega), if_pos h]
theorem gateF_good (cap : Int) (fl : List Int) (fs : List Fl) (c : Nat) (op : Dk → Ans) (h : ((c + 1 : Nat) : Int) ∉ fl) : gateD (flD cap fl fs c) op = op (flD cap fl fs (c + 1)) := by
  unfold gateD flD
  simp only [Bool.false_eq_true, if_false]
  rw [if_neg (by omega), if_neg h]
theorem fl_create_bad (cap : Int) (fl : List Int) (h : (1 : Int) ∈ fl) : createD (flD cap fl [] 0) sX = (flD cap fl [] 1, 6) := by
  unfold createD
  exact gateF_bad _ _ _ _ _ h
theorem fl_create (cap : Int) (fl : List Int) (h : (1 : Int) ∉ fl) : createD (flD cap fl [] 0) sX = (flD cap fl [⟨sX, [], 0⟩] 1, 0) := by
  unfold createD
  rw [gateF_good _ _ _ _ _ h]
  unfold createF
  rw [if_neg (by decide)]
  rfl
theorem fl_none (cap : Int) (fl : List Int) : (appendD (flD cap fl [] 1) sX []).2 ≠ 0 := by
  unfold appendD withD
  by_cases h : (((1 + 1 : Nat)) : Int) ∈ fl
  · rw [gateF_bad _ _ _ _ _ h]; exact (by decide : (6 : Nat) ≠ 0)
  · rw [gateF_good _ _ _ _ _ h, hitAns_false _ (hitF_nil _)]; simp
theorem fl_bad (cap : Int) (fl : List Int) (x : List UInt8) (c : Nat) (h : ((c + 1 : Nat) : Int) ∈ fl) : appendD (flD cap fl [⟨sX, x, 0⟩] c) sX seven = (flD cap fl [⟨sX, x, 0⟩] (c + 1), 6) := by
  unfold appendD withD
  exact gateF_bad _ _ _ _ _ h
theorem fl_full (cap : Int) (fl : List Int) (x : List UInt8) (c : Nat) (h : ((c + 1 : Nat) : Int) ∉ fl) (hc : cap < ((x.length + 7 : Nat) : Int)) : appendD (flD cap fl [⟨sX, x, 0⟩] c) sX seven = (flD cap fl [⟨sX, x, 0⟩] (c + 1), 5) := by
  unfold appendD withD
  rw [gateF_good _ _ _ _ _ h, hitAns_true _ (hitF_one _ _ _ _)]
  show appendF seven _ (lbF [⟨sX, x, 0⟩] sX) = _
  rw [lbF_one]
  unfold appendF
  rw [if_pos (by simp [flD, usedF, seven]; omega)]
theorem fl_good (cap : Int) (fl : List Int) (x : List UInt8) (c : Nat) (h : ((c + 1 : Nat) : Int) ∉ fl) (hc : ((x.length + 7 : Nat) : Int) ≤ cap) : appendD (flD cap fl [⟨sX, x, 0⟩] c) sX seven = (flD cap fl [⟨sX, x ++ seven, 0⟩] (c + 1), 0) := by
  unfold appendD withD
  rw [gateF_good _ _ _ _ _ h, hitAns_true _ (hitF_one _ _ _ _)]
  show appendF seven _ (lbF [⟨sX, x, 0⟩] sX) = _
  rw [lbF_one]
  unfold appendF
  rw [if_neg (by simp [flD, usedF, seven]; omega)]
  rfl
theorem fl_read (cap : Int) (fl : List Int) (x : List UInt8) (c : Nat) : readD (flD cap fl [⟨sX, x, 0⟩] c) sX = (x, 0) := by
  unfold readD
  rw [if_neg (by simp [flD]), if_pos (show hitF (flD cap fl [⟨sX, x, 0⟩] c).fs sX = true from hitF_one _ _ _ _)]
  show ((fileAt _ (lbF [⟨sX, x, 0⟩] sX)).b, 0) = _
  rw [lbF_one]
  rfl
theorem fl_fits (cap : Int) (fl : List Int) (x : List UInt8) (c : Nat) (hc : c ≤ 1000) (hx : x.length ≤ 100000) : Fits (flD cap fl [⟨sX, x, 0⟩] c) :=
  ⟨by simp only [flD]; omega, by simp [flD], by simp [flD, usedF]; omega⟩
theorem fl_fits0 (cap : Int) (fl : List Int) (c : Nat) (hc : c ≤ 1000) : Fits (flD cap fl [] c) :=
  ⟨by simp only [flD]; omega, by simp [flD], by simp [flD, usedF]⟩

/-- The row of those that fail, in a block of 300. -/
def BadAt (w : World) (g : Nat) (l : List Int) : Prop := ∃ cs : Array Value, w.heap[g]? = some (.cells cs 37 (0, 0)) ∧ cs.size = 300 ∧ ∀ i : Nat, i < 300 → cs[i]? = some (.bool (decide ((i : Int) ∈ l)))
theorem BadAt.mod0 {w w1 : World} {g : Nat} {l : List Int} (h : BadAt w g l) (hm : Mod NoneB w w1) : BadAt w1 g l := by
  obtain ⟨cs, h1, h2⟩ := h
  exact ⟨cs, hm.blk h1 (fun h => h), h2⟩
theorem BadAt.cell {w : World} {g : Nat} {l : List Int} (h : BadAt w g l) (i : Nat) (hi : i < 300) : w.cell? ⟨g, i, none⟩ = some (.bool (decide ((i : Int) ∈ l))) := by
  obtain ⟨cs, h1, _, h2⟩ := h
  rw [blk_cell h1]; exact h2 i hi
theorem BadAt.frozen {w : World} {g : Nat} {l : List Int} (h : BadAt w g l) (i : Nat) : w.frozen? ⟨g, i, none⟩ = false := by
  obtain ⟨cs, h1, _⟩ := h
  exact blk_frozen h1 i
theorem BadAt.set {w : World} {g : Nat} {l : List Int} (h : BadAt w g l) (x : Nat) (hx : x < 300) : BadAt (w.setCell ⟨g, x, none⟩ (.bool true)) g (l ++ [(x : Int)]) := by
  obtain ⟨cs, h1, h2, h3⟩ := h
  refine ⟨_, setCell_blk h1, by simpa using h2, fun i hi => ?_⟩
  rw [Array.getElem?_setIfInBounds]
  by_cases he : x = i
  · subst he
    rw [if_pos rfl, if_pos (by omega)]
    simp
  · rw [if_neg he, h3 i hi]
    simp
    intro h
    omega
theorem zero300 : Try.zeroCells37 = Array.replicate 300 (.bool false) := by kernel_rfl
theorem BadAt.zero (w : World) : BadAt (w.alloc (.cells Try.zeroCells37 37)) w.heap.size [] := by
  refine ⟨_, heap_alloc_new w _, ?_, fun i hi => ?_⟩
  · rw [zero300]; simp
  · rw [zero300]; simp [hi]

set_option maxHeartbeats 4000000 in
set_option maxRecDepth 100000 in
theorem diskFails_walk (l0 : List UInt8) (z : Int) (a0 : Option Addr) (c0 : Nat) (w : World) (rd0 : Rd w 1 a0 l0.length (encB l0)) (wz : (Lit.int .u8 z).wf = true) :
    Calls Try.prog 6 #[.slice a0 l0.length c0, .int .u8 z] w fun e w' => e = .returned (.bool true) ∧ Mod NoneB w w' := by
  have hz : 0 ≤ z ∧ z ≤ 255 := by simp [Lit.wf] at wz; exact wz
  obtain ⟨hz0, hz1⟩ := hz
  clear wz
  by_cases hg0 : 50 < l0.length
  · go_enter Try.func6, Try.ntmps6
    go_wp2_with ((with_reducible refine (awake1_calls _).mono ?_); rintro e wz ⟨rfl, hz⟩)
    go_ret
    exact ⟨rfl, hz⟩
  · go_enter Try.func6, Try.ntmps6
    go_wp2_with fail
    obtain ⟨fl, hfl⟩ : ∃ fl : List Int, fl = l0.map fun z => (z.toNat : Int) := ⟨_, rfl⟩
    have hfn : fl.length = l0.length := by rw [hfl]; simp
    have hfg : ∀ j, ∀ h : j < l0.length, fl.take (j + 1) = fl.take j ++ [(l0[j].toNat : Int)] := by
      intro j h
      rw [List.take_succ_eq_append_getElem (by omega)]
      simp [hfl]
    have HFN := Lib.hid hfn
    have HFG := Lib.hid hfg
    have hbz := BadAt.zero w
    have hmz : Mod NoneB w (w.alloc (.cells Try.zeroCells37 37)) := (Mod.refl NoneB w).alloc _
    generalize (w.alloc (.cells Try.zeroCells37 37)) = w1 at hbz hmz ⊢
    obtain ⟨B, hB⟩ : ∃ B, B = w.heap.size := ⟨_, rfl⟩
    rw [← hB] at hbz ⊢
    have HB := Lib.hid hB
    clear hfl hfn hfg hB
    go_loopw [5, 7] (fun v t wr => ∃ (j : Nat), t = .int .i64 j ∧ j ≤ l0.length ∧ Own wr 3 1 v (fl.take j).length (encI (fl.take j)) ∧ BadAt wr B (fl.take j) ∧ Mod NoneB w wr ∧ (∀ g, v.ownBlock = some g → w.heap.size ≤ g)) (fun _ t _ => l0.length - (intOf t).toNat)
    case atStart => exact ⟨0, rfl, by omega, Own.nil _ _ _, hbz, hmz, fun g h => by simp [Value.ownBlock] at h⟩
    case round =>
      obtain ⟨j, rfl, hj, hov, hbad, hmj, hnv⟩ := hrel
      clear hbz hmz
      by_cases hlt : j < l0.length
      · obtain ⟨ad, rfl, h0⟩ := rd0.bytes j hlt
        have h00 := h0
        replace h0 := hmj.cell0 h0
        have hft := HFG.out j hlt
        have hxl := l0[j].toNat_lt
        obtain ⟨x, hx⟩ : ∃ x, x = l0[j].toNat := ⟨_, rfl⟩
        rw [← hx] at h0 h00 hft hxl
        obtain ⟨nt, hnt⟩ : ∃ nt, nt = (fl.take j).length := ⟨_, rfl⟩
        rw [← hnt] at hov
        have hntl : nt ≤ 50 := by rw [hnt, List.length_take]; omega
        have HNT := Lib.hid hnt
        have HFT := Lib.hid hft
        have HOV := Lib.hid hov
        have HBAD := Lib.hid hbad
        have HNV := Lib.hid hnv
        have hox := hov.mod0 ((Mod.refl NoneB wr).alloc (.cells #[.int .i64 (x : Int)] 3))
        have hbx := rd_blk (sz := 1) (n := 1) (box1 wr (.cells #[.int .i64 (x : Int)] 3)) rfl (by omega)
        have hu := Try.underlying36
        have h8 : (nt + 1) * 8 ≤ 140737488355328 := by omega
        have hal : Mod NoneB wr (wr.alloc (.cells #[.int .i64 (x : Int)] 3)) := (Mod.refl NoneB wr).alloc _
        have hnx := hbx.2.2
        clear hx hnt hft hov hbad hnv hbx
        go_wp2_with (at_builtin; refine wpList_append rfl (.tmp 24) (.tmp 30) 36 rfl 3 _ 1 8 hu tiI rfl (by decide) (by decide) _ nt (encI (fl.take j)) rfl hox (some ⟨wr.heap.size, 0, none⟩) 1 1 (encI [(x : Int)]) rfl rfl hnx (encI_one _) h8 ?_)
        intro v5 w5 ho5 hm5 hno5
        have hm6 : Mod NoneB wr w5 ∨ True := .inr trivial
        have hbad5 : BadAt w5 B (fl.take j) := by
          obtain ⟨cs, k1, k2⟩ := HBAD.out
          refine ⟨cs, hm5.blk (hal.blk k1 (fun h => h)) (fun h => ?_), k2⟩
          obtain ⟨c', hc'⟩ := HOV.out.tag h
          exact tag_ne k1 hc' (by decide) rfl
        have y0 := hbad5.cell x (by omega)
        have f0 := hbad5.frozen x
        have hset := hbad5.set x (by omega)
        rw [← HFT.out] at hset
        have hv5 : Own (w5.setCell ⟨B, x, none⟩ (.bool true)) 3 1 v5 (fl.take (j + 1)).length (encI (fl.take (j + 1))) := by
          have hms : Mod (fun k => k = B) w5 (w5.setCell ⟨B, x, none⟩ (.bool true)) := Mod.setCell (S := fun k => k = B) (Mod.refl _ _) (p := ⟨B, x, none⟩) (fun _ => rfl) _
          have h2 := ho5.mod hms (fun g hg he => by
            subst he
            obtain ⟨c', hc'⟩ := ho5.tag hg
            obtain ⟨cs, k1, _⟩ := hbad5
            exact tag_ne k1 hc' (by decide) rfl)
          rw [HFT.out, List.length_append]
          have e : encI (fl.take j ++ [(x : Int)]) = encI (fl.take j) ++ encI [(x : Int)] := by simp [encI]
          rw [e]
          have e2 : (fl.take j).length + [(x : Int)].length = nt + 1 := by rw [← HNT.out]; rfl
          rw [e2]
          exact h2
        have h05 : w5.cell? (ad.add j) = some (.int .u8 x) := ((hmj.then0 hal).trans_new hm5 (fun k hk => .inr (HNV.out k hk))).cell0 h00
        have hmw : Mod NoneB w (w5.setCell ⟨B, x, none⟩ (.bool true)) := by
          have h1 : Mod NoneB w w5 := (hmj.then0 hal).trans_new hm5 (fun k hk => .inr (HNV.out k hk))
          have hms : Mod (fun k => k = B) w5 (w5.setCell ⟨B, x, none⟩ (.bool true)) := Mod.setCell (S := fun k => k = B) (Mod.refl _ _) (p := ⟨B, x, none⟩) (fun _ => rfl) _
          exact h1.trans_new hms (fun k hk => .inr (by rw [hk, HB.out]; exact Nat.le_refl _))
        have hn5 : ∀ g, v5.ownBlock = some g → w.heap.size ≤ g := by
          intro g hg
          rcases hno5 with hq | ⟨b, hq, hb⟩
          · exact HNV.out g (by rw [← hq]; exact hg)
          · rw [hq] at hg
            injection hg with hg
            have h1 := hmj.size
            have h2 := hal.size
            omega
        have HSET := Lib.hid hset
        have HV5 := Lib.hid hv5
        have HN5 := Lib.hid hn5
        obtain ⟨A5, c5, rfl, _, _, _⟩ := ho5.out
        clear hm6 hset hv5 hn5 hbad5 ho5 hox hnx h0 h00
        go_wp2_with fail
        go_roundw
        case rel => exact ⟨j + 1, by go_num, by omega, HV5.out, HSET.out, hmw, HN5.out⟩
        case measure => simp [intOf]; omega
      · obtain ⟨wE, hwE⟩ : ∃ x, x = wr := ⟨_, rfl⟩
        subst hwE
        have hft : fl.take j = fl := List.take_of_length_le (by rw [HFN.out]; omega)
        rw [hft] at hov hbad
        have hfn : fl.length ≤ 50 := by rw [HFN.out]; omega
        obtain ⟨F, fc, rfl, hF⟩ := hov.nilD
        have HBAD := Lib.hid hbad
        clear hft hov hbad hnv
        go_wp2_with fail
        refine (Dw.new wE wE (Mod.refl _ _) ⟨z, fl, 0, false, []⟩ F none fc 0 hF (Rd.nil _ _ _) (by show fl.length ≤ _; omega) (Nat.zero_le _)).mono ?_
        rintro e w2 ⟨p, rfl, hD⟩
        replace hD : Dw wE w2 p (flD z fl [] 0) := hD
        by_cases hb1 : (1 : Int) ∈ fl
        · have hcr := fl_create_bad z fl hb1
          have d1 : decide ((1 : Int) ∈ fl) = true := decide_eq_true hb1
          have hno := fl_none z fl
          have HCR := Lib.hid hcr
          have HD1 := Lib.hid d1
          have HNO := Lib.hid hno
          clear hb1 hcr d1 hno
          go_wp2_with fail
          refine (hD.create sX (fl_fits0 _ _ _ (by omega))).mono ?_
          rintro e w3 ⟨rfl, hD3⟩
          rw [HCR.out] at hD3 ⊢
          have y1 : w3.cell? ⟨B, 1, none⟩ = some (.bool true) := by
            have h := (HBAD.out.mod0 hD3.base).cell 1 (by omega)
            simp only [Int.natCast_one] at h
            rw [h, HD1.out]
          clear hD
          go_wp2_with ((with_reducible refine (num_calls _ _).mono ?_); rintro e wz ⟨rfl, rfl⟩)
          refine (hD3.append (Mod.refl _ _) sX [] none 0 (Rd.nil _ _ _) (fun h => absurd h (Nat.lt_irrefl _)) (fl_fits0 _ _ _ (by omega)) (by simp [flD, usedF])).mono ?_
          rintro e w4 ⟨rfl, hD4⟩
          have hno := HNO.out
          obtain ⟨e4, he4⟩ : ∃ e4, e4 = (appendD (flD z fl [] 1) sX []).2 := ⟨_, rfl⟩
          rw [← he4] at hno ⊢
          have b4 : (((e4 : Nat) : Int) == 0) = false := beq_eq_false_iff_ne.2 (by omega)
          have b5 : (((e4 : Nat) : Int) != 0) = true := by rw [bne_iff_ne]; omega
          have hbase := hD4.base
          clear he4 hno hD4 hD3
          go_wp2_with (first
            | ((with_reducible refine (num_calls _ _).mono ?_); rintro e wz ⟨rfl, rfl⟩)
            | ((with_reducible refine (awake1_calls _).mono ?_); rintro ez wz ⟨rfl, hmz⟩))
          go_ret
          exact ⟨rfl, (hmj.then0 hbase).then0 hmz⟩
        · have hcr := fl_create z fl hb1
          have d1 : decide ((1 : Int) ∈ fl) = false := decide_eq_false hb1
          have HCR := Lib.hid hcr
          have HD1 := Lib.hid d1
          clear hb1 hcr d1
          go_wp2_with fail
          refine (hD.create sX (fl_fits0 _ _ _ (by omega))).mono ?_
          rintro e w3 ⟨rfl, hD3⟩
          rw [HCR.out] at hD3 ⊢
          have y1 : w3.cell? ⟨B, 1, none⟩ = some (.bool false) := by
            have h := (HBAD.out.mod0 hD3.base).cell 1 (by omega)
            simp only [Int.natCast_one] at h
            rw [h, HD1.out]
          clear hD
          go_wp2_with ((with_reducible refine (num_calls _ _).mono ?_); rintro e wz ⟨rfl, rfl⟩)
          clear y1
          go_loopw [9, 10, 11, 75, 82] (fun n t ev t75 t82 wr => ∃ (k : Nat) (x : List UInt8), t = .int .i64 ((k + 2 : Nat) : Int) ∧ n = .int .i64 x.length ∧ k ≤ 58 ∧ x.length ≤ 7 * k ∧ Dw wE wr p (flD z fl [⟨sX, x, 0⟩] (k + 1))) (fun _ t _ _ _ _ => 60 - (intOf t).toNat)
          case atStart => exact ⟨0, [], rfl, rfl, by omega, by simp, hD3⟩
          case round =>
            obtain ⟨k, x, rfl, rfl, hk, hxl, hDk⟩ := hrel
            clear hD3
            have hft : Fits (flD z fl [⟨sX, x, 0⟩] (k + 1)) := fl_fits _ _ _ _ (by omega) (by omega)
            by_cases hlt : k < 58
            · obtain ⟨wv, hcv, ⟨fv, hgv⟩, hmv⟩ := conv_lit (n := 7) (c := 7) (box1 wr (.cells #[.int .u8 97, .int .u8 98, .int .u8 99, .int .u8 100, .int .u8 101, .int .u8 102, .int .u8 103] 5))
              have hma : Mod NoneB wr wv := ((Mod.refl NoneB wr).alloc _).trans hmv (fun k hk he => by omega)
              have hRa : Rd wv 1 (some ⟨wr.heap.size, 0, none⟩) 7 (encB seven) := rd_blk hgv rfl (by omega)
              have hap := hDk.append hma sX seven (some ⟨wr.heap.size, 0, none⟩) 7 hRa (fun _ ad h => by injection h with h; subst h; exact .inr (Nat.le_refl _)) hft (by simp [flD, usedF, seven]; omega)
              have HAP := Lib.hid hap
              clear hap hRa hma hgv
              have hbk : ∀ w', Mod NoneB wE w' → w'.cell? ⟨B, k + 2, none⟩ = some (.bool (decide (((k + 2 : Nat) : Int) ∈ fl))) := fun w' hm => (HBAD.out.mod0 hm).cell (k + 2) (by omega)
              have HBK := Lib.hid hbk
              have c60 : decide (((k : Int) + 2) < 60) = true := by simp; omega
              have e3 : (0 : Int) ≤ (k : Int) + 2 := by omega
              have e4 : ((k : Int) + 2).toNat = k + 2 := by omega
              have e5 : (k : Int) + 2 < 300 := by omega
              clear hbk
              by_cases hmem : ((k + 2 : Nat) : Int) ∈ fl
              · have hst := fl_bad z fl x (k + 1) hmem
                have hd : decide (((k + 2 : Nat) : Int) ∈ fl) = true := decide_eq_true hmem
                have HST := Lib.hid hst
                have HD := Lib.hid hd
                clear hst hd hmem
                go_wp2_with fail
                refine HAP.out.mono ?_
                rintro e w6 ⟨rfl, hD6⟩
                rw [HST.out] at hD6 ⊢
                have y2 := HBK.out w6 hD6.base
                rw [HD.out] at y2
                clear hcv
                go_wp2_with ((with_reducible refine (num_calls _ _).mono ?_); rintro e wz ⟨rfl, rfl⟩)
                go_roundw
                case rel => exact ⟨k + 1, x, by go_num, rfl, by omega, by omega, hD6⟩
                case measure => simp [intOf]; omega
              · have hd : decide (((k + 2 : Nat) : Int) ∈ fl) = false := decide_eq_false hmem
                have HD := Lib.hid hd
                clear hd
                by_cases hfull : z < ((x.length + 7 : Nat) : Int)
                · have hst := fl_full z fl x (k + 1) hmem hfull
                  have HST := Lib.hid hst
                  have hf2 : decide (z < (x.length : Int) + 7) = true := by simp; omega
                  clear hst hmem hfull
                  go_wp2_with fail
                  refine HAP.out.mono ?_
                  rintro e w6 ⟨rfl, hD6⟩
                  rw [HST.out] at hD6 ⊢
                  have y2 := HBK.out w6 hD6.base
                  rw [HD.out] at y2
                  clear hcv
                  go_wp2_with ((with_reducible refine (num_calls _ _).mono ?_); rintro e wz ⟨rfl, rfl⟩)
                  go_roundw
                  case rel => exact ⟨k + 1, x, by go_num, rfl, by omega, by omega, hD6⟩
                  case measure => simp [intOf]; omega
                · have hst := fl_good z fl x (k + 1) hmem (by omega)
                  have hxx : ((x ++ seven).length) = x.length + 7 := by simp [seven]
                  have HST := Lib.hid hst
                  have HXX := Lib.hid hxx
                  have hf2 : decide (z < (x.length : Int) + 7) = false := by simp; omega
                  clear hst hmem hfull hxx
                  go_wp2_with fail
                  refine HAP.out.mono ?_
                  rintro e w6 ⟨rfl, hD6⟩
                  rw [HST.out] at hD6 ⊢
                  have y2 := HBK.out w6 hD6.base
                  rw [HD.out] at y2
                  clear hcv
                  go_wp2_with ((with_reducible refine (num_calls _ _).mono ?_); rintro e wz ⟨rfl, rfl⟩)
                  go_roundw
                  case rel => exact ⟨k + 1, x ++ seven, by go_num, by rw [HXX.out]; go_num, by omega, by rw [HXX.out]; omega, hD6⟩
                  case measure => simp [intOf]; omega
            · obtain rfl : k = 58 := by omega
              have hrd := fl_read z fl x 59
              have HRD := Lib.hid hrd
              clear hrd
              go_wp2_with fail
              refine (hDk.read sX hft).mono ?_
              rintro e w6 ⟨v, rfl, hov, hD6, _, _⟩
              rw [HRD.out] at hov ⊢
              obtain ⟨V, c, rfl, _⟩ := hov.nilD
              have hbase := hD6.base
              clear hov hDk hD6
              go_wp2_with (first
                | ((with_reducible refine (num_calls _ _).mono ?_); rintro e wz ⟨rfl, rfl⟩)
                | ((with_reducible refine (awake1_calls _).mono ?_); rintro ez wz ⟨rfl, hmz⟩))
              go_ret
              exact ⟨rfl, (hmj.then0 hbase).then0 hmz⟩
end Go.Proofs.Ytnoleekdldmagaa
