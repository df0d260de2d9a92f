/- DiskLists: files are told by rising names, whatever was made, removed, renamed; each name once: the walk of the law. -/
import Derived.Test.YtnoleekdldmagaaDkHeavy
import Derived.Test.YtnoleekdldmagaaDkLists
import Derived.Test.YtnoleekdldmagaaDkKeeps
namespace Go.Proofs.Ytnoleekdldmagaa
open Go.RowKit
set_option linter.unusedVariables false

theorem LsD.fits {j : Nat} {d : Dk} (h : LsD j d) (hj : j ≤ 1000) : Fits d := by
  obtain ⟨fs, c, rfl, h1, h2⟩ := h
  exact ⟨by simp only [freeD]; omega, by have := h2.len; simp only [freeD]; omega, by simp only [freeD]; rw [h2.used]; omega⟩
theorem Dw.rises {w0 w : World} {p : Nat} {d : Dk} (h : Dw w0 w p d) : Rises (asPs d.fs) := by
  obtain ⟨S, ⟨row, es, FA, KA, hd, _⟩, _⟩ := h
  exact hd.rises
theorem rises_two {fs : List Fl} (h : Rises (asPs fs)) {i : Nat} (hi : i + 1 < fs.length) : cmpS fs[i].n fs[i + 1].n < 0 := by
  have := List.pairwise_iff_getElem.1 h i (i + 1) (by simp [asPs]; omega) (by simpa [asPs] using hi) (by omega)
  simpa [asPs, asP] using this

set_option maxHeartbeats 4000000 in
set_option maxRecDepth 100000 in
theorem diskLists_walk (l : List ActV) (A : Option Addr) (c : Nat) (w : World) (hr : Rd w 10 A l.length (l.flatMap encAct)) :
    Calls Try.prog 12 #[.slice A l.length c] w fun e w' => e = .returned (.bool true) ∧ Mod NoneB w w' := by
  go_enter Try.func12, Try.ntmps12
  go_wp2_with fail
  refine (heavy1_calls l A c w hr).mono ?_
  rintro e w1 ⟨b, rfl, hm1, hb⟩
  cases b with
  | true =>
    clear hb
    go_wp2_with ((with_reducible refine (awake1_calls _).mono ?_); rintro e wz ⟨rfl, hz⟩)
    go_ret
    exact ⟨rfl, hm1.then0 hz⟩
  | false =>
    obtain ⟨hl, _, _⟩ := hb rfl
    clear hb
    go_wp2_with fail
    refine (Dw.new0 w w1 hm1 100000).mono ?_
    rintro e w2 ⟨p, rfl, hD⟩
    go_wp2_with fail
    go_loopw [4] (fun t wr => ∃ (j : Nat) (d : Dk), t = .int .i64 j ∧ j ≤ l.length ∧ Dw w wr p d ∧ LsD j d) (fun t _ => l.length - (intOf t).toNat)
    case atStart => exact ⟨0, _, rfl, by omega, hD, LsD.zero⟩
    case round =>
      obtain ⟨j, d, rfl, hj, hDj, hls⟩ := hrel
      clear hD
      by_cases hlt : j < l.length
      · have hft := hls.fits (by omega)
        have hB := hDj.base
        obtain ⟨ad, rfl, h0, hk⟩ := Rd.elem (f := encAct) (fun _ => rfl) hr (by decide) j hlt
        have h00 := hB.cell0 (h0 _ rfl)
        have h1 := hB.cell0 (hk 1 _ (by decide) (by decide) rfl)
        have h2 := hB.cell0 (hk 2 _ (by decide) (by decide) rfl)
        obtain ⟨t, ht⟩ : ∃ t, t = l[j].act := ⟨_, rfl⟩
        obtain ⟨n, hn⟩ : ∃ n, n = l[j].name := ⟨_, rfl⟩
        obtain ⟨nt, hnt⟩ : ∃ nt, nt = l[j].to := ⟨_, rfl⟩
        rw [← ht] at h00
        rw [← hn] at h1
        rw [← hnt] at h2
        clear h0 hk ht hn hnt hB
        have hcr : LsD (j + 1) (createD d n).1 := hls.create n
        have hrn : LsD (j + 1) (renameD d n nt).1 := hls.rename n nt
        have hrm : LsD (j + 1) (removeD d n).1 := hls.remove n
        have hmo : LsD (j + 1) d := hls.mono (by omega)
        by_cases t0 : t = 0
        · subst t0
          go_wp2_with ((with_reducible refine (hDj.create _ hft).mono ?_); rintro e wz ⟨rfl, hz⟩)
          go_roundw
          case rel => exact ⟨j + 1, _, by go_num, by omega, hz, hcr⟩
          case measure => simp [intOf]; omega
        by_cases t1 : t = 1
        · subst t1
          clear t0
          go_wp2_with ((with_reducible refine (hDj.create _ hft).mono ?_); rintro e wz ⟨rfl, hz⟩)
          go_roundw
          case rel => exact ⟨j + 1, _, by go_num, by omega, hz, hcr⟩
          case measure => simp [intOf]; omega
        by_cases t2 : t = 2
        · subst t2
          clear t0 t1
          go_wp2_with ((with_reducible refine (hDj.create _ hft).mono ?_); rintro e wz ⟨rfl, hz⟩)
          go_roundw
          case rel => exact ⟨j + 1, _, by go_num, by omega, hz, hcr⟩
          case measure => simp [intOf]; omega
        by_cases t5 : t = 5
        · subst t5
          clear t0 t1 t2
          have hDd := hDj.mod0 ((Mod.refl NoneB wr).drew)
          have e3 : (0 : Int) ≤ (j : Int) := by omega
          have e5 : (j : Int) < l.length := by omega
          go_wp2_with fail
          go_region_law (go_simp; go_at_call 43; refine (hDd.rename _ _ hft).mono ?_; rintro ez wz ⟨rfl, hz⟩)
          all_goals
            clear e3 e5
            go_wp2_with fail
            go_roundw
            case rel => exact ⟨j + 1, _, by go_num, by omega, hz, hrn⟩
            case measure => simp [intOf]; omega
        by_cases t6 : t = 6
        · subst t6
          clear t0 t1 t2 t5
          go_wp2_with ((with_reducible refine (hDj.remove _ hft).mono ?_); rintro e wz ⟨rfl, hz⟩)
          go_roundw
          case rel => exact ⟨j + 1, _, by go_num, by omega, hz, hrm⟩
          case measure => simp [intOf]; omega
        · have b0 : (t == 0) = false := by simpa using t0
          have b1 : (t == 1) = false := by simpa using t1
          have b2 : (t == 2) = false := by simpa using t2
          have b5 : (t == 5) = false := by simpa using t5
          have b6 : (t == 6) = false := by simpa using t6
          clear t0 t1 t2 t5 t6
          go_wp2_with fail
          go_roundw
          case rel => exact ⟨j + 1, _, by go_num, by omega, hDj, hmo⟩
          case measure => simp [intOf]; omega
      · have hft := hls.fits (by omega)
        obtain ⟨fs, cc, rfl, _, hbare⟩ := hls
        have hri := hDj.rises
        go_wp2_with fail
        refine (hDj.files hft).mono ?_
        rintro e w3 ⟨fv, vs, rfl, hfa, hD3, hm3⟩
        obtain ⟨Af, cf, hfv, hrf⟩ := hfa.own.nilD
        replace hfv : fv = .slice Af fs.length cf := hfv
        subst hfv
        replace hri : Rises (asPs fs) := hri
        replace hrf : Rd w3 3 Af fs.length ((fs.zip vs).flatMap encFl) := hrf
        have hvl : vs.length = fs.length := hfa.len
        have hzl : (fs.zip vs).length = fs.length := by rw [List.length_zip]; omega
        have hfl : fs.length ≤ 1000 := by have := hbare.len; omega
        have HBARE := Lib.hid hbare
        have HRI := Lib.hid hri
        have HZL := Lib.hid hzl
        have HRF := Lib.hid hrf
        clear hbare hri hvl hzl hrf hfa hDj
        go_wp2_with fail
        go_loopw [6] (fun t wr => ∃ i : Nat, t = .int .i64 i ∧ i ≤ fs.length ∧ Dw w wr p (freeD 100000 [] fs cc) ∧ Mod NoneB w3 wr) (fun t _ => fs.length - (intOf t).toNat)
        case atStart => exact ⟨0, rfl, by omega, hD3, Mod.refl _ _⟩
        case round =>
          obtain ⟨i, rfl, hi, hDi, hmi⟩ := hrel
          clear hD3
          by_cases hlt2 : i < fs.length
          · have hz1 : i < (fs.zip vs).length := by rw [HZL.out]; exact hlt2
            obtain ⟨ad, rfl, h0, _⟩ := Rd.elem (f := encFl) (fun _ => rfl) HRF.out (by decide) i hz1
            have c0 := hmi.cell0 (h0 _ rfl)
            have hn : ((fs.zip vs)[i]'hz1).1 = fs[i] := by simp
            rw [hn] at c0
            have hne := (HBARE.out.none fs[i] (List.getElem_mem _)).2
            obtain ⟨hit, hlb⟩ := hitF_at HRI.out hlt2
            have hread : readD (freeD 100000 [] fs cc) fs[i].n = (fs[i].b, 0) := by
              unfold readD
              rw [if_neg (by simp [freeD]), if_pos (show hitF (freeD 100000 [] fs cc).fs fs[i].n = true from hit)]
              show ((fileAt (freeD 100000 [] fs cc) (lbF fs fs[i].n)).b, 0) = _
              rw [hlb, fileAt_get (d := freeD 100000 [] fs cc) hlt2]
              rfl
            obtain ⟨n, hnn⟩ : ∃ n, n = fs[i].n := ⟨_, rfl⟩
            rw [← hnn] at c0 hne hread
            have bE : n.toList.isEmpty = false := by rw [isEmpty_toList]; exact decide_eq_false hne
            have HNN := Lib.hid hnn
            have HREAD := Lib.hid hread
            have hc1 : ∀ j, j + 1 = i → ∃ m, wr.cell? (ad.add (j * 3)) = some (.string m) ∧ cmpS m n < 0 := by
              intro j hji
              have hj1 : j < (fs.zip vs).length := by rw [HZL.out]; omega
              obtain ⟨ad', e, k0, _⟩ := Rd.elem (f := encFl) (fun _ => rfl) HRF.out (by decide) j hj1
              injection e with e
              subst e
              have := hmi.cell0 (k0 _ rfl)
              have hm : (fs.zip vs)[j].1 = fs[j]'(by omega) := by simp
              rw [hm] at this
              refine ⟨_, this, ?_⟩
              rw [hnn]
              subst hji
              exact rises_two HRI.out hlt2
            clear h0 hn hit hlb hread hnn hne
            by_cases hi0 : i = 0
            · have b0 : decide ((0 : Int) < (i : Int)) = false := by simp; omega
              have b1 : decide (0 < i) = false := by simp; omega
              have e3 : (0 : Int) ≤ (i : Int) := by omega
              have e4 : (i : Int) < (fs.length : Int) := by omega
              clear hc1 hi0
              go_wp2_with fail
              refine (hDi.read n hft).mono ?_
              rintro e w4 ⟨v, rfl, hov, hD4, hm4, _⟩
              rw [HREAD.out] at hov ⊢
              obtain ⟨V, cv, rfl, _⟩ := hov.nilD
              replace c0 := hm4.cell0 c0
              clear hov hDi
              go_wp2_with fail
              go_quiet ((go_at_call 33; exact Calls.quiet_of_same (num_calls _ _)))
              have hdq : Mod NoneB w4 (w4.drewN nq) := (Mod.refl _ _).drewN nq
              go_wp2_with fail
              go_roundw
              case rel => exact ⟨i + 1, by go_num, by omega, hD4.mod0 hdq, (hmi.then0 hm4).then0 hdq⟩
              case measure => simp [intOf]; omega
            · obtain ⟨j, rfl⟩ : ∃ j, i = j + 1 := ⟨i - 1, by omega⟩
              clear hi0
              obtain ⟨m, c1, hlt3⟩ := hc1 j rfl
              clear hc1
              have bL : Op.bytesLess n.toList m.toList = false := by rw [less_cmpS]; exact decide_eq_false (lt_asymm hlt3)
              have bQ : (n.toList == m.toList) = false := by rw [beq_toList]; exact decide_eq_false (fun e => by rw [e] at hlt3; exact lt_irrefl _ hlt3)
              clear hlt3
              go_wp2_with fail
              refine (hDi.read n hft).mono ?_
              rintro e w4 ⟨v, rfl, hov, hD4, hm4, _⟩
              rw [HREAD.out] at hov ⊢
              obtain ⟨V, cv, rfl, _⟩ := hov.nilD
              replace c0 := hm4.cell0 c0
              replace c1 := hm4.cell0 c1
              clear hov hDi
              have e1 : IntKind.i64.wrap ((j : Int) + 1) = j + 1 := IntWalk.i64_in _ (by omega)
              have e2 : IntKind.i64.wrap (j : Int) = j := IntWalk.i64_in _ (by omega)
              have e7 : (0 : Int) ≤ j := by omega
              have e3 : (0 : Int) ≤ j + 1 := by omega
              have e4 : ((j : Int) + 1).toNat = j + 1 := by omega
              have e5 : (j : Int) + 1 < fs.length := by omega
              have e6 : (j : Int) < fs.length := by omega
              have e8 : decide ((0 : Int) < (j : Int) + 1) = true := by rw [decide_eq_true_iff]; omega
              go_wp2_with fail
              go_quiet ((go_at_call 33; exact Calls.quiet_of_same (num_calls _ _)))
              have hdq : Mod NoneB w4 (w4.drewN nq) := (Mod.refl _ _).drewN nq
              clear e1 e2 e3 e4 e5 e6 e7 e8
              go_wp2_with fail
              go_roundw
              case rel => exact ⟨j + 1 + 1, by go_num, by omega, hD4.mod0 hdq, (hmi.then0 hm4).then0 hdq⟩
              case measure => simp [intOf]; omega
          · go_wp2_with ((with_reducible refine (awake1_calls _).mono ?_); rintro e wz ⟨rfl, hz⟩)
            go_ret
            exact ⟨rfl, hDi.base.then0 hz⟩
end Go.Proofs.Ytnoleekdldmagaa
