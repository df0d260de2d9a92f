/- StoreAgain: crashes while it is opened, again and again, lose nothing, and add nothing: the walk of the law. -/
import Derived.Test.YtnlmfmceogbomaaGreatDoorStL
namespace Go.Proofs.YtnlmfmceogbomaaGreatDoor
open Go.RowKit
set_option linter.unusedVariables false

/-- A disk that was just made, by any plan. -/
theorem sp_newP {w0 w : World} {p : Nat} {pl : Pl} (h : Dw w0 w p ⟨pl, [], 0, false⟩) : ∃ S d, Sp w0 w p d S [] none 0 1048584 ∧ d.p = pl ∧ d.c = 0 ∧ d.dn = false := by
  obtain ⟨S, h1⟩ := Lw.dw h
  exact ⟨S, _, ⟨h1, Shut.new _ _ _ _ _⟩, rfl, rfl, rfl⟩
/-- A disk, what may be told of it, and pairs that are held beside it. -/
structure Dv (w0 w : World) (p : Nat) (d : Dk) (S : Nat → Prop) (r : List Pr) (B : Nat) (v : Value) (m : List Pr) : Prop where
  sp : Sp w0 w p d S r none B 1048584
  own : Own w 88 2 v m.length (encPs m)
  far : ∀ h, v.ownBlock = some h → ¬ S h
def DvE (w0 : World) (p : Nat) (d' : Dk) (r : List Pr) (B : Nat) (v : Value) (m : List Pr) (e : Ending) (w' : World) : Prop := e = .returned (.tuple #[]) ∧ ∃ S', Dv w0 w' p d' S' r B v m
section
variable {w0 w w1 : World} {p : Nat} {d : Dk} {S : Nat → Prop} {r m : List Pr} {B : Nat} {v : Value}
theorem Dv.mod0 (h : Dv w0 w p d S r B v m) (hm : Mod NoneB w w1) : Dv w0 w1 p d S r B v m := ⟨⟨h.sp.lw.mod0 hm, h.sp.on⟩, h.own.mod0 hm, h.far⟩
theorem Dv.restart (h : Dv w0 w p d S r B v m) (hf : FitL d) (pl : Pl) (K : Option Addr) (kc : Nat) (hF : pl.fail = []) (hK : Rd w 1 K pl.keep.length (encI pl.keep)) (hoK : 0 < pl.keep.length → Off S K) (hk : pl.keep.length ≤ 1000) :
    Calls Tryz.prog 21 #[.pointer (some ⟨p, 0, none⟩), .agg #[.int .i64 pl.cap, .slice none 0 0, .int .i64 pl.crash, .bool pl.done, .slice K pl.keep.length kc]] w (DvE w0 p (restartD d pl) r B v m) := by
  have hr := restart_calls w p d S pl none K 0 kc h.sp.lw.isD (by rw [hF]; exact Rd.nil _ _ _) hK (fun hh => by rw [hF] at hh; cases hh) hoK (by rw [hF]; exact Nat.zero_le _) (by omega) (by have := hf.l; omega) (by have := hf.u; omega)
  rw [hF] at hr
  refine hr.mono ?_
  rintro e w' ⟨he, S', h1, h2, h3⟩
  exact ⟨he, S', ⟨h.sp.lw.to h1 h2 (fun k hk => .inl hk) h3, h.sp.on.restart pl⟩, h.own.mod h2 h.far, fun g hg hh => (h3 g hh).elim (h.far g hg) (fun hn => by have := h.own.lt hg; omega)⟩
/-- Opened, whatever comes of it. -/
def DoE (w0 : World) (p : Nat) (d' : Dk) (r : List Pr) (B : Nat) (v : Value) (m : List Pr) (e : Ending) (w' : World) : Prop := (∃ (u : Value) (ec : Nat), e = .returned (.tuple #[u, .int .i64 ec])) ∧ ∃ S', Dv w0 w' p d' S' r B v m
theorem Dv.open (h : Dv w0 w p d S r B v m) (ht : TabW w0) (hB : B ≤ 4000000) (hc : d.c ≤ 900000) (hw : wS r ≤ 1000000) (most : Int) :
    Calls Tryz.prog 14 #[.pointer (some ⟨p, 0, none⟩), .int .i64 most] w (DoE w0 p (openK d) r B v m) := by
  refine (h.sp.open ht hB (Nat.le_refl _) hc hw (fun l h => by cases h) most).mono ?_
  rintro e w' (⟨q, g, s, x, S', X, rfl, ho⟩ | ⟨h0, rfl, S', hs, hm, hn⟩)
  · refine ⟨⟨_, 0, rfl⟩, S', ⟨?_, h.own.mod ho.mod h.far, fun g hg hh => (ho.newS g hh).elim (h.far g hg) (fun hn => by have := h.own.lt hg; omega)⟩⟩
    have hr : (openS d).r = r := by
      rcases ho.map with k | ⟨l, k, _⟩
      · exact k
      · cases k
    have hsp := ho.so.sp
    rw [hr, ← ho.dn] at hsp
    exact hsp
  · exact ⟨⟨_, _, rfl⟩, S', hs, h.own.mod hm h.far, fun g hg hh => (hn g hh).elim (h.far g hg) (fun hn => by have := h.own.lt hg; omega)⟩
end
theorem Kw.dv {w0 w : World} {p q g s : Nat} {most : Int} {t : St} {x : Ix} {S X : Nat → Prop} {v : Value} {m : List Pr} {B : Nat} (K : Kw w0 w p q g s most t x S X v m) (hi : Inv t none B 1048584) : Dv w0 w p t.d S t.r B v m :=
  ⟨⟨K.at_.lw, hi.shut⟩, K.own, fun h hv hs => K.far h hv (.inl hs)⟩

set_option maxHeartbeats 16000000 in
set_option maxRecDepth 100000 in
theorem storeAgain_walk (l0 : List OsV) (a0 : Option Addr) (c0 : Nat) (z1 : Int) (l2 : List UInt8) (a2 : Option Addr) (c2 : Nat) (z3 : Int) (b4 : Bool) (w : World) (rd0 : Rd w 1 a0 l0.length (l0.flatMap encOv)) (ok0 : ∀ x ∈ l0, OsOk w x)
    (wz1 : (Lit.int .u16 z1).wf = true) (rd2 : Rd w 1 a2 l2.length (encB l2)) (wz3 : (Lit.int .u8 z3).wf = true) (htab : TabW w) :
    Calls Tryz.prog 4 #[.slice a0 l0.length c0, .int .u16 z1, .slice a2 l2.length c2, .int .u8 z3, .bool b4] w fun e w' => e = .returned (.bool true) ∧ Mod NoneB w w' := by
  have hz1 : 0 ≤ z1 ∧ z1 ≤ 65535 := by simp [Lit.wf] at wz1; exact wz1
  have hz3 : 0 ≤ z3 ∧ z3 ≤ 255 := by simp [Lit.wf] at wz3; exact wz3
  obtain ⟨hz10, hz11⟩ := hz1
  obtain ⟨hz30, hz31⟩ := hz3
  clear wz1 wz3
  have hhe := heavy7_calls l0 [] a0 none c0 0 w rd0 ok0 (Rd.nil _ _ _) (fun x hx => by cases hx)
  have HHE := Lib.hid hhe
  have OK0 := Lib.hid ok0
  clear hhe ok0
  go_enter Tryz.func4, Tryz.ntmps4
  go_wp2_with fail
  refine HHE.out.mono ?_
  rintro e w1 ⟨b, rfl, hm1, hb1⟩
  clear HHE
  cases b with
  | true =>
    clear hb1
    go_wp2_with ((with_reducible refine (awake10_calls _ (htab.mod0 hm1)).mono ?_); rintro e wz ⟨rfl, hmz⟩)
    go_ret
    exact ⟨rfl, hm1.then0 hmz⟩
  | false =>
    by_cases hlk : 20 < l2.length
    · have hg : (20 : Int) < (l2.length : Int) := by omega
      clear hb1
      go_wp2_with ((with_reducible refine (awake10_calls _ (htab.mod0 hm1)).mono ?_); rintro e wz ⟨rfl, hmz⟩)
      go_ret
      exact ⟨rfl, hm1.then0 hmz⟩
    have hg : ¬ (20 : Int) < (l2.length : Int) := by omega
    obtain ⟨⟨hl40, hli⟩, _⟩ := hb1 rfl
    have HLI := Lib.hid hli
    clear hb1 hli
    go_wp2_with fail
    have hmB : Mod NoneB w (w1.alloc (.cells #[.int .i64 z3] 3)) := hm1.alloc _
    have hKB : Rd (w1.alloc (.cells #[.int .i64 z3] 3)) 1 (some ⟨w1.heap.size, 0, none⟩) 1 (encI [z3]) := rdBlk (sz := 1) (n := 1) (heap_alloc_new w1 _) rfl (by omega)
    refine (Dw.new w (w1.alloc (.cells #[.int .i64 z3] 3)) hmB ⟨100000, [], 0, false, [z3]⟩ none (some ⟨w1.heap.size, 0, none⟩) 0 1 (Rd.nil _ _ _) hKB (Nat.zero_le _) (by show 1 ≤ 1099511627776; omega)).mono ?_
    rintro e w2 ⟨p, rfl, hdw⟩
    obtain ⟨S1, d1, sp1, hp1, hc1, hdn1⟩ := sp_newP hdw
    have hq1 : Quiet d1 := ⟨by rw [hp1], by rw [hp1], hdn1⟩
    have hcap : d1.p.cap = 100000 := by rw [hp1]
    clear hdw hm1 hmB hKB hp1 hdn1
    go_wp2_with fail
    refine (sp1.open htab (by omega) (by omega) (by omega) (Nat.zero_le _) (fun l h => by cases h) _).mono ?_
    obtain ⟨hoe, hqk, hr0⟩ := Qk.open hq1 hcap hc1 sp1.on
    rintro e w3 (⟨q, g, s, x0, S0, X0, rfl, ho⟩ | ⟨h0, _⟩)
    case inr => exact absurd hoe h0
    have hst : ∃ (mo : Int) (t : St) (x : Ix) (S X : Nat → Prop), Kw w w3 p q g s mo t x S X (.slice none 0 0) [] ∧ Qk 100000 t 0 ∧ t.r = [] := ⟨_, _, _, _, _, Kw.nil ho.so.at_, hqk, hr0⟩
    clear ho hqk hr0 hoe sp1 hq1 hc1 hcap
    obtain ⟨mo, t0, x1, S2, X2, hK, hQ, hR⟩ := hst
    have HK := Lib.hid hK
    have HQ := Lib.hid hQ
    have HR := Lib.hid hR
    clear hK hQ hR
    go_wp2_with ((with_reducible refine (num_calls _ _).mono ?_); rintro ez wz ⟨rfl, hwz⟩; have hwz2 := hwz.symm; clear hwz; subst hwz2)
    go_loopw [14, 15] (fun v i wr => ∃ (j : Nat) (t : St) (x : Ix) (S X : Nat → Prop) (A : Option Addr) (c : Nat), v = .slice A t.r.length c ∧ i = .int .i64 j ∧ j ≤ l0.length ∧ Kw w wr p q g s mo t x S X (.slice A t.r.length c) t.r ∧ Qk 100000 t (j)) (fun _ i _ => l0.length - (intOf i).toNat)
    case atStart => exact ⟨0, t0, x1, S2, X2, none, 0, by rw [HR.out]; rfl, rfl, by omega, by rw [HR.out]; exact HK.out, HQ.out⟩
    case round =>
      clear HK HQ HR
      obtain ⟨j, t, x, S, X, A, c, rfl, rfl, hj, hK, hQ⟩ := hrel
      by_cases hlt : j < l0.length
      · obtain ⟨ad, hal, h0, _⟩ := Rd.elem (f := encOv) (fun _ => rfl) rd0 (by decide) j hlt
        subst hal
        have y0 := h0 _ rfl
        rw [Nat.mul_one] at y0
        have hxo := OK0.out l0[j] (List.getElem_mem _)
        have hxl := HLI.out l0[j] (List.getElem_mem _)
        obtain ⟨o, ho⟩ : ∃ o, o = l0[j] := ⟨_, rfl⟩
        rw [← ho] at y0 hxo hxl
        have hfi : Fine o.l := ⟨hxl.1, hxl.2⟩
        have hwo := hfi.wO
        have hwt := hQ.w
        have hct := hQ.c
        have hcm := hK.commit hQ.inv htab (by omega) (Nat.le_refl _) (by omega) o hxo hfi.wt (by omega)
        have hqc := hQ.commit (by omega) mo hfi
        obtain ⟨k, hk⟩ : ∃ k, k = commitS mo t o.l := ⟨_, rfl⟩
        rw [← hk] at hcm hqc
        obtain ⟨tk, e5⟩ := k
        have y1 := hK.base.cell0 y0
        have hlr := wS_len t.r
        have hlo := len_wt o.l
        have hlo2 := hfi.wt
        have HCM := Lib.hid hcm
        have HQC := Lib.hid hqc
        have HXO := Lib.hid hxo
        have HY := Lib.hid y0
        clear hcm hqc hk hxo hxl hfi h0 y0 ho hK hwo hct
        go_wp2_with fail
        refine HCM.out.mono ?_
        rintro ez w4 ⟨rfl, x', S', X', K'⟩
        simp only at K'
        have hb4 := K'.base
        have hro := HXO.out.mod0 hb4
        have hrd := own_rd K'.own
        have y2 := hb4.cell0 HY.out
        have HKK := Lib.hid K'
        clear K'
        obtain ⟨hq1, hok, hno, hee, hww⟩ := HQC.out
        simp only at hq1 hok hno
        clear HCM HQC hee hww
        go_wp2_with fail
        by_cases h0 : e5 = 0
        · obtain ⟨hrr, hkr⟩ := hok h0
          clear hrr
          have q0 : (((e5 : Nat) : Int) == 0) = true := by rw [h0]; rfl
          have q0' : (((e5 : Nat) : Int) != 0) = false := by rw [h0]; rfl
          have hap := rapply_calls t.r o.l A o.A c o.c w4 hrd hro (by omega)
          rw [← hkr] at hap
          have HAP := Lib.hid hap
          have HQ1 := Lib.hid hq1
          clear hap hkr hok hno hq1 hrd hro
          refine (num_calls _ _).mono ?_
          rintro ez wz ⟨rfl, hwz⟩
          have hwz2 := hwz.symm
          clear hwz
          subst hwz2
          go_wp2_with fail
          refine HAP.out.mono ?_
          rintro ez w5 ⟨v', rfl, hov, hm5⟩
          have K5 := HKK.out.turn hm5 hov
          obtain ⟨A5, c5, rfl, _, _, _⟩ := hov.own.out
          have HK5 := Lib.hid K5
          clear K5 hov hm5 HKK HAP
          go_wp2_with fail
          go_roundw
          case rel => exact ⟨j + 1, tk, x', S', X', A5, c5, rfl, by go_num, by omega, HK5.out, HQ1.out⟩
          case measure => simp only [intOf]; go_num
        · have hkr := hno h0
          have q0 : (((e5 : Nat) : Int) != 0) = true := bne_iff_ne.mpr (by omega)
          have q0' : (((e5 : Nat) : Int) == 0) = false := beq_eq_false_iff_ne.mpr (by omega)
          have HQ1 := Lib.hid hq1
          have HKR := Lib.hid hkr
          clear hkr hok hno hq1 hrd hro
          refine (num_calls _ _).mono ?_
          rintro ez wz ⟨rfl, hwz⟩
          have hwz2 := hwz.symm
          clear hwz
          subst hwz2
          go_wp2_with fail
          go_roundw
          case rel => exact ⟨j + 1, tk, x', S', X', A, c, by rw [HKR.out], by go_num, by omega, by rw [HKR.out]; exact HKK.out, HQ1.out⟩
          case measure => simp only [intOf]; go_num
      · have q1 : ¬ ((j : Int) < (l0.length : Int)) := by omega
        have hwt := hQ.w
        have hct := hQ.c
        have hlr := wS_len t.r
        have hdv := hK.dv hQ.inv
        obtain ⟨r, hr⟩ : ∃ r, r = t.r := ⟨_, rfl⟩
        obtain ⟨d0, hd0⟩ : ∃ d, d = t.d := ⟨_, rfl⟩
        have hwr : wS r ≤ 1000000 := by rw [hr]; omega
        have hrl : r.length ≤ 1000000 := by rw [hr]; omega
        have hdc : d0.c ≤ 400 := by rw [hd0]; omega
        rw [← hr, ← hd0] at hdv
        have hdv2 : Dv w wr p d0 S r 1044000 (.slice A r.length c) r := ⟨⟨hdv.sp.lw, hdv.sp.on.mono (by omega)⟩, hdv.own, hdv.far⟩
        have HDV := Lib.hid hdv2
        rw [← hr]
        clear hdv hdv2 hK hQ hwt hct hlr hr hd0
        go_wp2_with fail
        go_loopw [16] (fun i wr => ∃ (j : Nat) (d : Dk) (S : Nat → Prop), i = .int .i64 j ∧ j ≤ l2.length ∧ Dv w wr p d S r 1044000 (.slice A r.length c) r ∧ d.c ≤ 400) (fun i _ => l2.length - (intOf i).toNat)
        case atStart => exact ⟨0, d0, S, rfl, by omega, HDV.out, hdc⟩
        case round =>
          clear HDV
          obtain ⟨j, d, S, rfl, hj, hD, hc⟩ := hrel
          by_cases hlt : j < l2.length
          · obtain ⟨ad, hal, h0⟩ := rd2.bytes j hlt
            subst hal
            have hxl := l2[j].toNat_lt
            obtain ⟨f, hf⟩ : ∃ f, f = l2[j].toNat := ⟨_, rfl⟩
            rw [← hf] at h0 hxl
            have y0 := hD.sp.lw.base.cell0 h0
            have g0 : (0 : Int) ≤ (j : Int) := by omega
            have g1 : (j : Int) < (l2.length : Int) := by omega
            have g2 : IntKind.i64.wrap (f : Int) = f := IntWalk.i64_in _ (by omega)
            have hft := hD.sp.on.fit (by omega) (Nat.le_refl _) (by omega)
            have hm : Mod NoneB wr (wr.alloc (.cells #[.int .i64 z3] 3)) := (Mod.refl NoneB wr).alloc _
            have hKB : Rd (wr.alloc (.cells #[.int .i64 z3] 3)) 1 (some ⟨wr.heap.size, 0, none⟩) 1 (encI [z3]) := rdBlk (sz := 1) (n := 1) (heap_alloc_new wr _) rfl (by omega)
            have hre : ∀ cr : Int, Calls Tryz.prog 21 #[.pointer (some ⟨p, 0, none⟩), .agg #[.int .i64 100000, .slice none 0 0, .int .i64 cr, .bool b4, .slice (some ⟨wr.heap.size, 0, none⟩) 1 1]] (wr.alloc (.cells #[.int .i64 z3] 3)) (DvE w p (restartD d ⟨100000, [], cr, b4, [z3]⟩) r 1044000 (.slice A r.length c) r) := fun cr =>
              (hD.mod0 hm).restart hft ⟨100000, [], cr, b4, [z3]⟩ (some ⟨wr.heap.size, 0, none⟩) 1 rfl hKB (fun _ ad had => by
                injection had with had
                subst had
                exact fun hh => absurd (hD.sp.lw.isD.lt hh) (Nat.lt_irrefl _)) (by show 1 ≤ 1000; omega)
            have HRE := Lib.hid hre
            clear hre hKB hm hft h0 hf hD
            go_wp2_with fail
            refine (HRE.out _).mono ?_
            rintro ez w4 ⟨rfl, S4, hD4⟩
            have hc4 : (restartD d ⟨100000, [], 1 + (f : Int) % 4, b4, [z3]⟩).c = 0 := rfl
            have hst : ∃ d4 S4, Dv w w4 p d4 S4 r 1044000 (.slice A r.length c) r ∧ d4.c = 0 := ⟨_, S4, hD4, rfl⟩
            clear hD4 HRE hc4
            obtain ⟨d4, S4, hD4, hc4⟩ := hst
            have hop := hD4.open htab (by omega) (by omega) hwr 50
            have hck := hD4.sp.on.opens.2.2.1
            have HOP := Lib.hid hop
            clear hop hD4
            go_wp2_with fail
            refine HOP.out.mono ?_
            rintro ez w5 ⟨⟨u, ec, rfl⟩, S5, hD5⟩
            have HD5 := Lib.hid hD5
            clear hD5 HOP
            go_wp2_with fail
            go_roundw
            case rel => exact ⟨j + 1, openK d4, S5, by go_num, by omega, HD5.out, by omega⟩
            case measure => simp only [intOf]; go_num
          · have hft := hD.sp.on.fit (by omega) (Nat.le_refl _) (by omega)
            have hre := hD.restart hft ⟨100000, [], 0, false, []⟩ none 0 rfl (Rd.nil _ _ _) (fun h => absurd h (Nat.lt_irrefl _)) (Nat.zero_le _)
            have q2 : ¬ ((j : Int) < (l2.length : Int)) := by omega
            have HRE := Lib.hid hre
            clear hre hft hD
            go_wp2_with fail
            refine HRE.out.mono ?_
            rintro ez w4 ⟨rfl, S4, hD4⟩
            have hq4 := Quiet.restart d 100000 []
            have hc4 : (restartD d ⟨100000, [], 0, false, []⟩).c = 0 := rfl
            obtain ⟨d4, hd4⟩ : ∃ d4, d4 = restartD d ⟨100000, [], 0, false, []⟩ := ⟨_, rfl⟩
            rw [← hd4] at hD4 hq4 hc4
            have HD4 := Lib.hid hD4
            have HQ4 := Lib.hid hq4
            clear hD4 hq4 hd4 HRE
            go_wp2_with fail
            refine (HD4.out.sp.open htab (by omega) (Nat.le_refl _) (by omega) hwr (fun l h => by cases h) 50).mono ?_
            rintro ez w5 (⟨q2, g2, s2, x5, S5, X5, rfl, ho⟩ | ⟨h0, _⟩)
            case inr => exact absurd (HD4.out.sp.on.opens.2.2.2.1 HQ4.out).1 h0
            have hr5 : (openS d4).r = r := by
              rcases ho.map with k | ⟨l, h, _⟩
              · exact k
              · cases h
            have hall2 := sall_calls ho.so.at_.mp (by rw [hr5]; omega)
            rw [hr5] at hall2
            have hown5 := own_rd (HD4.out.own.mod ho.mod HD4.out.far)
            have hb5 := ho.so.at_.lw.base
            have HA2 := Lib.hid hall2
            have HB5 := Lib.hid hb5
            have HO5 := Lib.hid hown5
            clear hall2 hb5 hown5 ho hr5 HD4 HQ4
            go_wp2_with (first
              | ((with_reducible refine (num_calls _ _).mono ?_); rintro ez wz ⟨rfl, hwz⟩; have hwz2 := hwz.symm; clear hwz; subst hwz2)
              | ((with_reducible refine HA2.out.mono ?_); rintro ez w6 ⟨A6, c6, rfl, hr6, hm6, _⟩)
              | ((with_reducible refine (all_pairs A6 A c6 c hr6 (HO5.out.mod0 hm6) rfl).mono ?_); rintro ez w7 ⟨rfl, hm7⟩)
              | ((with_reducible refine (awake10_calls _ (htab.mod0 ((HB5.out.then0 hm6).then0 hm7))).mono ?_); rintro ez wa ⟨rfl, hma⟩))
            go_ret
            exact ⟨rfl, ((HB5.out.then0 hm6).then0 hm7).then0 hma⟩
end Go.Proofs.YtnlmfmceogbomaaGreatDoor

