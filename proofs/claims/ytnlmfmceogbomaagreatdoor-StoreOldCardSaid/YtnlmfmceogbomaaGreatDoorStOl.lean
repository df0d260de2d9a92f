/- StoreOld: a snapshot that was made, and a log that was not emptied behind it, are the same map: the walk of the law. -/
import Derived.Test.YtnlmfmceogbomaaGreatDoorStL
namespace Go.Proofs.YtnlmfmceogbomaaGreatDoor
open Go.RowKit
set_option linter.unusedVariables false

structure OldR (t : St) (j : Nat) (ls : List (List Op3)) : Prop where
  rd : readD t.d sLog = (catO ls, 0)
  len : (catO ls).length ≤ 26100 * j
  e : (checkS t).2 = 0
  opn : openE (appendD (checkS t).1.d sLog (catO ls)).1 = 0
  r : (openS (appendD (checkS t).1.d sLog (catO ls)).1).r = t.r
  rises : Rises (loadR (appendD (checkS t).1.d sLog (catO ls)).1).1
  sz : (loadR (appendD (checkS t).1.d sLog (catO ls)).1).1.length + (logL (appendD (checkS t).1.d sLog (catO ls)).1).flatten.length ≤ 1000000000
  fit : FitL (appendD (checkS t).1.d sLog (catO ls)).1
  fit1 : FitL (checkS t).1.d
theorem old_plain {t : St} {j : Nat} (h : Qk 1073741824 t j) (hj : j ≤ 41) : ∃ ls, OldR t j ls := by
  obtain ⟨ls, rest, s, m, f, h1, h2, h3, h4, h5, h6⟩ := h.inv.ex
  obtain ⟨rfl, hn⟩ := h6 h.sk
  rw [List.append_nil] at h2
  have hlen : (catO ls).length ≤ 26100 * j := by have := h.inv.n; omega
  have hw := h.w
  obtain ⟨t1, t2, t3⟩ := table_ok h.inv.rises (r := t.r) (by omega)
  obtain ⟨tb1, tb2⟩ := table_back h.inv.rises t1 t2
  have hk := h.check (by omega)
  obtain ⟨hk0, g, g1, g2, g3, g4, g5⟩ := hk.room (by omega)
  have hq1 := hk.qk.quiet
  have hc1 := hk.qk.c
  have hp1 := hk.qk.cap
  obtain ⟨d1, hd1⟩ : ∃ d1, d1 = (checkS t).1.d := ⟨_, rfl⟩
  have hf1 : FitL d1 := by rw [hd1]; exact hk.qk.inv.shut.fit (by omega) (Nat.le_refl _) (by omega)
  refine ⟨ls, ?_⟩
  rw [← hd1] at g1 hq1 hc1 hp1
  have ga := r_append g1 g2 (catO ls)
  rw [List.nil_append] at ga
  have hu1 : usedF d1.fs = (tableR t.r).1.length := by rw [g1, F3.used, g2, g3, g4]; simp [lenO]
  rw [if_neg (by rw [hp1, hu1]; omega)] at ga
  obtain ⟨qa, qd⟩ := ga.next hq1
  obtain ⟨d2, hd2⟩ : ∃ d2, d2 = (appendD d1 sLog (catO ls)).1 := ⟨_, rfl⟩
  have hfs := (ga.ok qa).1
  have hca := ga.c
  rw [← hd2] at qd hfs hca
  have hsn : Snp g.b t.r := by rw [g3]; exact ⟨rfl, tb2, tb1, h.inv.rises, t1⟩
  have hld : loadR d2 = (t.r, 0) := Snp.load (f := { g with a := some (catO ls, 0) }) hfs hsn qd.dn
  have hrl := read_log (f := { g with a := some (catO ls, 0) }) hfs qd.dn
  simp only at hrl
  have hb : logB d2 = catO ls ++ [] := by unfold logB; rw [hrl, List.append_nil]
  obtain ⟨hL, hN⟩ : logL d2 = ls ∧ logN d2 = (catO ls).length := by
    rcases log_rest d2 ls [] none hb h1.ok (.inl rfl) with k | ⟨l, k, _⟩
    · exact k
    · cases k
  rw [List.append_nil] at hb
  have e1 : open1D d2 = (d2, 0) := by unfold open1D; rw [hrl, if_neg (by simp)]
  have e2 : open2D (logN d2) (logB d2) d2 = (d2, 0) := by unfold open2D; rw [hN, hb, if_neg (Nat.lt_irrefl _)]
  have gs := r_sync (f := { g with a := some (catO ls, 0) }) hfs rfl
  have hop : (openD d2).2 = 0 := by
    unfold openD
    rw [e1, tryD_ok (a := (d2, 0)) rfl, e2, tryD_ok (a := (d2, 0)) rfl]
    exact (gs.next qd).1
  have hms := h1.snp.small.1
  have hfl := flat_le ls
  have hrr : (openS d2).r = t.r := by
    show (logL d2).foldl applyT (loadR d2).1 = _
    rw [hL, hld, fold_applyT ls h.inv.rises]
    have := h1.map
    rw [this]
    exact applyT_back _ _
  have key : OldR t j ls ↔ (readD t.d sLog = (catO ls, 0) ∧ (catO ls).length ≤ 26100 * j ∧ (checkS t).2 = 0 ∧ openE d2 = 0 ∧ (openS d2).r = t.r ∧ Rises (loadR d2).1 ∧ (loadR d2).1.length + (logL d2).flatten.length ≤ 1000000000 ∧ FitL d2 ∧ FitL d1) := by
    rw [hd2, hd1]
    exact ⟨fun h => ⟨h.rd, h.len, h.e, h.opn, h.r, h.rises, h.sz, h.fit, h.fit1⟩, fun ⟨a, b, c, d, e, f, g, i, k⟩ => ⟨a, b, c, d, e, f, g, i, k⟩⟩
  refine key.2 ⟨?_, hlen, hk0, ?_, hrr, ?_, ?_, ?_, hf1⟩
  · rw [read_log h1.fs h.quiet.dn, h2]
  · unfold openE; rw [hld, if_neg (by simp)]; exact hop
  · rw [hld]; exact h.inv.rises
  · rw [hld, hL]
    have := t1.1
    show t.r.length + _ ≤ _
    omega
  · refine ⟨by omega, by rw [hfs]; exact Nat.le_trans (F3.len _) (by omega), ?_⟩
    rw [hfs, F3.used, g3, g4]
    show (catO ls).length + ((tableR t.r).1.length + 0) ≤ _
    omega
/-- A read of the disk beside the store. -/
def RdE (w : World) (b : List UInt8) (ec : Nat) (e : Ending) (w' : World) : Prop := ∃ A c, e = .returned (.tuple #[.slice A b.length c, .int .i64 ec]) ∧ Rd w' 1 A b.length (encB b) ∧ Mod NoneB w w' ∧ ∀ ad, A = some ad → w.heap.size ≤ ad.block
theorem Lw.read {w0 w : World} {p : Nat} {d : Dk} {S : Nat → Prop} (h : Lw w0 w p d S) (hf : FitL d) (n : ByteArray) : Calls Tryz.prog 25 #[.pointer (some ⟨p, 0, none⟩), .string n] w (RdE w (readD d n).1 (readD d n).2) := by
  refine (read_calls w p d S n h.isD (by have := hf.l; omega) (by have := hf.u; omega)).mono ?_
  rintro e w' ⟨v, rfl, ho, hm, hn⟩
  obtain ⟨A, c, rfl, _, _, hr⟩ := ho.out
  exact ⟨A, c, rfl, hr, hm, fun ad had => by subst had; exact hn ad.block rfl⟩

set_option maxHeartbeats 16000000 in
set_option maxRecDepth 100000 in
theorem storeOld_walk (l0 : List OsV) (a0 : Option Addr) (c0 : Nat) (w : World) (rd0 : Rd w 1 a0 l0.length (l0.flatMap encOv)) (ok0 : ∀ x ∈ l0, OsOk w x) (htab : TabW w) :
    Calls Tryz.prog 8 #[.slice a0 l0.length c0] w fun e w' => e = .returned (.bool true) ∧ Mod NoneB w w' := by
  have hhe := heavy7_calls l0 [] a0 none c0 0 w rd0 ok0 (Rd.nil _ _ _) (fun x hx => by cases hx)
  have HHE := Lib.hid hhe
  have OK0 := Lib.hid ok0
  clear hhe ok0
  go_enter Tryz.func8, Tryz.ntmps8
  go_wp2_with fail
  refine HHE.out.mono ?_
  rintro e w1 ⟨b, rfl, hm1, hb1⟩
  clear HHE
  cases b with
  | true =>
    clear hb1
    go_wp2_with ((with_reducible refine (awake10_calls _ (htab.mod0 hm1)).mono ?_); rintro e wz ⟨rfl, hmz⟩)
    go_ret
    exact ⟨rfl, hm1.then0 hmz⟩
  | false =>
    obtain ⟨⟨hl40, hli⟩, _⟩ := hb1 rfl
    have HLI := Lib.hid hli
    clear hb1 hli
    go_wp2_with fail
    refine (Dw.new0 w w1 hm1 _).mono ?_
    rintro e w2 ⟨p, rfl, hdw⟩
    obtain ⟨S1, d1, sp1, hq1, hcap, hc1⟩ := sp_new hdw
    clear hdw hm1
    go_wp2_with fail
    refine (sp1.open htab (by omega) (by omega) (by omega) (Nat.zero_le _) (fun l h => by cases h) _).mono ?_
    obtain ⟨hoe, hqk, hr0⟩ := Qk.open hq1 hcap hc1 sp1.on
    rintro e w3 (⟨q, g, s, x0, S0, X0, rfl, ho⟩ | ⟨h0, _⟩)
    case inr => exact absurd hoe h0
    have hst : ∃ (mo : Int) (t : St) (x : Ix) (S X : Nat → Prop), Kw w w3 p q g s mo t x S X (.slice none 0 0) [] ∧ Qk 1073741824 t 0 ∧ t.r = [] := ⟨_, _, _, _, _, Kw.nil ho.so.at_, hqk, hr0⟩
    clear ho hqk hr0 hoe sp1 hq1 hc1 hcap
    obtain ⟨mo, t0, x1, S2, X2, hK, hQ, hR⟩ := hst
    have HK := Lib.hid hK
    have HQ := Lib.hid hQ
    have HR := Lib.hid hR
    clear hK hQ hR
    go_wp2_with ((with_reducible refine (num_calls _ _).mono ?_); rintro ez wz ⟨rfl, hwz⟩; have hwz2 := hwz.symm; clear hwz; subst hwz2)
    go_loopw [6] (fun i wr => ∃ (j : Nat) (t : St) (x : Ix) (S X : Nat → Prop), i = .int .i64 j ∧ j ≤ l0.length ∧ Kw w wr p q g s mo t x S X (.slice none 0 0) [] ∧ Qk 1073741824 t (j)) (fun i _ => l0.length - (intOf i).toNat)
    case atStart => exact ⟨0, t0, x1, S2, X2, rfl, by omega, HK.out, HQ.out⟩
    case round =>
      clear HK HQ HR
      obtain ⟨j, t, x, S, X, rfl, hj, hK, hQ⟩ := hrel
      by_cases hlt : j < l0.length
      · obtain ⟨ad, hal, h0, _⟩ := Rd.elem (f := encOv) (fun _ => rfl) rd0 (by decide) j hlt
        subst hal
        have y0 := h0 _ rfl
        rw [Nat.mul_one] at y0
        have hxo := OK0.out l0[j] (List.getElem_mem _)
        have hxl := HLI.out l0[j] (List.getElem_mem _)
        obtain ⟨o, ho⟩ : ∃ o, o = l0[j] := ⟨_, rfl⟩
        rw [← ho] at y0 hxo hxl
        have hfi : Fine o.l := ⟨hxl.1, hxl.2⟩
        have hwo := hfi.wO
        have hwt := hQ.w
        have hct := hQ.c
        have hcm := hK.commit hQ.inv htab (by omega) (Nat.le_refl _) (by omega) o hxo hfi.wt (by omega)
        have hqc := hQ.commit (by omega) mo hfi
        obtain ⟨k, hk⟩ : ∃ k, k = commitS mo t o.l := ⟨_, rfl⟩
        rw [← hk] at hcm hqc
        obtain ⟨tk, e5⟩ := k
        have y1 := hK.base.cell0 y0
        have hlr := wS_len t.r
        have hlo := len_wt o.l
        have hlo2 := hfi.wt
        have HCM := Lib.hid hcm
        have HQC := Lib.hid hqc
        have HXO := Lib.hid hxo
        have HY := Lib.hid y0
        clear hcm hqc hk hxo hxl hfi h0 y0 ho hK hwo hct
        go_wp2_with fail
        refine HCM.out.mono ?_
        rintro ez w4 ⟨rfl, x', S', X', K'⟩
        simp only at K'
        have hb4 := K'.base
        have hro := HXO.out.mod0 hb4
        have y2 := hb4.cell0 HY.out
        have HKK := Lib.hid K'
        clear K'
        have HQ1 := Lib.hid HQC.out.qk
        clear HCM HQC hro
        go_wp2_with fail
        go_roundw
        case rel => exact ⟨j + 1, tk, x', S', X', by go_num, by omega, HKK.out, HQ1.out⟩
        case measure => simp only [intOf]; go_num
      · have q1 : ¬ ((j : Int) < (l0.length : Int)) := by omega
        obtain ⟨ls, hol⟩ := old_plain hQ (by omega)
        have hwt := hQ.w
        have hct := hQ.c
        have hlr := wS_len t.r
        have hrl := (hK.at_.lw).read (hQ.inv.shut.fit (by omega) (Nat.le_refl _) (by omega)) sLog
        rw [hol.rd] at hrl
        have hrl2 : Calls Tryz.prog 25 #[.pointer (some ⟨p, 0, none⟩), .string ⟨#[108, 111, 103]⟩] wr (RdE wr (catO ls) 0) := hrl
        have hsm := wS_small1 (r := t.r) (by omega)
        have hckE := hol.e
        have hlen := hol.len
        have hat := hK.at_
        have HRL := Lib.hid hrl2
        have HOL := Lib.hid hol
        have HAT := Lib.hid hat
        have HQ2 := Lib.hid hQ
        have HSM := Lib.hid hsm
        clear hrl hrl2 hol hat hQ hsm hK
        go_wp2_with fail
        refine HRL.out.mono ?_
        rintro ez w4 ⟨A4, c4, rfl, hr4, hm4, hn4⟩
        have hall := sall_calls ((HAT.out.mod0 hm4).mp) (by have h := HSM.out.1; exact h)
        have HALL := Lib.hid hall
        have HR4 := Lib.hid hr4
        clear hall hr4 HRL
        go_wp2_with fail
        refine HALL.out.mono ?_
        rintro ez w5 ⟨A5, c5, rfl, hr5, hm5, hn5⟩
        have hm45 := hm4.then0 hm5
        have hck : Calls Tryz.prog 24 #[.pointer (some ⟨s, 0, none⟩)] w5 (StE w w5 p q g s mo S X (checkS t)) := So.check (⟨HAT.out.mod0 hm45, HQ2.out.inv⟩ : So w w5 p q g s mo t x S X none (26100 * j) 1048584) (by omega) (Nat.le_refl _) (by omega) (by omega)
        have HCK := Lib.hid hck
        have hr45 := HR4.out.mod0 hm5
        have h4N : ∀ ad, A4 = some ad → wr.heap.size ≤ ad.block := hn4
        have h5N : ∀ ad, A5 = some ad → wr.heap.size ≤ ad.block := fun ad had => Nat.le_trans hm4.size (hn5 ad had)
        have hSlt : ∀ k, S k → k < wr.heap.size := fun k hk => HAT.out.lw.isD.lt hk
        have hXlt : ∀ k, X k → k < wr.heap.size := fun k hk => HAT.out.mp.idx.lt hk
        have hqlt : q < wr.heap.size := blk_lt HAT.out.wal
        have hfar : ∀ k, wr.heap.size ≤ k → ¬ (S k ∨ X k ∨ k = q) := fun k hk hh => by
          rcases hh with hh | hh | hh
          · have := hSlt k hh; omega
          · have := hXlt k hh; omega
          · omega
        have HFAR := Lib.hid hfar
        have HR5 := Lib.hid hr5
        have HR45 := Lib.hid hr45
        have H4N := Lib.hid h4N
        have H5N := Lib.hid h5N
        obtain ⟨k, hk⟩ : ∃ k, k = checkS t := ⟨_, rfl⟩
        rw [← hk] at HCK hckE
        have HK := Lib.hid hk
        clear hck hr45 h4N h5N hSlt hXlt hqlt hfar hr5 hn4 hn5 HALL hk
        obtain ⟨tk, e5⟩ := k
        simp only at hckE
        subst hckE
        go_wp2_with fail
        refine HCK.out.mono ?_
        rintro ez w6 ⟨rfl, x6, S6, X6, hat6, hm6, hS6, _⟩
        simp only at hat6
        have htk : tk.d = (checkS t).1.d := by rw [← HK.out]
        have hfit1 := HOL.out.fit1
        rw [← htk] at hfit1
        have hr46 : Rd w6 1 A4 (catO ls).length (encB (catO ls)) := HR45.out.modP hm6 (fun _ ad had => HFAR.out _ (H4N.out ad had))
        have hr56 : Rd w6 2 A5 t.r.length (encPs t.r) := HR5.out.modP hm6 (fun _ ad had => HFAR.out _ (H5N.out ad had))
        have hoff4 : 0 < (catO ls).length → Off S6 A4 := fun hp ad had hh => by
          have hlt := HR45.out.block_lt (by decide) hp ad had
          exact (hS6 _ hh).elim (fun hh => HFAR.out _ (H4N.out ad had) (.inl hh)) (fun hh => by omega)
        have hoff5 : 0 < t.r.length → ∀ ad, A5 = some ad → ¬ S6 ad.block := fun hp ad had hh => by
          have hlt := HR5.out.block_lt (by decide) hp ad had
          exact (hS6 _ hh).elim (fun hh => HFAR.out _ (H5N.out ad had) (.inl hh)) (fun hh => by omega)
        have hap := append_calls w6 p tk.d S6 sLog (catO ls) A4 c4 hat6.lw.isD hr46 hoff4 (by have := hfit1.c; omega) (by have := hfit1.l; omega) (by have := hfit1.u; omega)
        have hap2 : Calls Tryz.prog 26 #[.pointer (some ⟨p, 0, none⟩), .string ⟨#[108, 111, 103]⟩, .slice A4 (catO ls).length c4] w6 fun e w' => e = .returned (.int .i64 (appendD tk.d sLog (catO ls)).2) ∧ DStep w6 S6 p (appendD tk.d sLog (catO ls)).1 w' := hap
        rw [htk] at hap2
        have hlw6 := hat6.lw
        have HAP := Lib.hid hap2
        have HLW6 := Lib.hid hlw6
        have HR56 := Lib.hid hr56
        have HOFF5 := Lib.hid hoff5
        obtain ⟨a7, ha7⟩ : ∃ a, a = appendD (checkS t).1.d sLog (catO ls) := ⟨_, rfl⟩
        have hopn := HOL.out.opn
        have hopr := HOL.out.r
        have hris := HOL.out.rises
        have hosz := HOL.out.sz
        have hfit2 := HOL.out.fit
        rw [← ha7] at HAP hopn hopr hris hosz hfit2
        clear hap hap2 hlw6 hr46 hr56 hoff4 hoff5 hat6 hm6 hS6 htk HCK HR45 ha7
        go_wp2_with fail
        refine HAP.out.mono ?_
        rintro ez w7 ⟨rfl, S7, hto⟩
        have hlw7 := HLW6.out.to hto.isD hto.mod (fun k hk => .inl hk) hto.new
        have hr57 := HR56.out.modP hto.mod HOFF5.out
        have hoff7 : 0 < t.r.length → ∀ ad, A5 = some ad → ¬ S7 ad.block := fun hp ad had hh => by
          have hlt := HR56.out.block_lt (by decide) hp ad had
          exact (hto.new _ hh).elim (HOFF5.out hp ad had) (fun hh => by omega)
        have hop := sopen_calls hlw7 htab hfit2 1073741824 (fun _ => ⟨by rw [hopr]; exact HSM.out, hris, hosz⟩)
        have HOP := Lib.hid hop
        have HR57 := Lib.hid hr57
        have HOFF7 := Lib.hid hoff7
        have HOPR := Lib.hid hopr
        have HOPN := Lib.hid hopn
        clear hop hr57 hoff7 hlw7 hto HAP hopn hopr hris hosz hfit2
        go_wp2_with fail
        refine HOP.out.mono ?_
        rintro ez w8 ⟨S8, hlw8, hm8, _, ⟨_, q8, g8, s8, x8, X8, rfl, hat8, _⟩ | ⟨he, _⟩⟩
        case inr => exact absurd HOPN.out he
        have hall8 := sall_calls hat8.mp (by rw [HOPR.out]; exact HSM.out.1)
        rw [HOPR.out] at hall8
        have hr58 := HR57.out.modP hm8 HOFF7.out
        have hb8 := hat8.lw.base
        have HA8 := Lib.hid hall8
        have HR58 := Lib.hid hr58
        have HB8 := Lib.hid hb8
        clear hall8 hr58 hb8 hat8 hm8 hlw8 HOP
        go_wp2_with (first
          | ((with_reducible refine (num_calls _ _).mono ?_); rintro ez wz ⟨rfl, hwz⟩; have hwz2 := hwz.symm; clear hwz; subst hwz2)
          | ((with_reducible refine HA8.out.mono ?_); rintro ez w9 ⟨A9, c9, rfl, hr9, hm9, _⟩)
          | ((with_reducible refine (all_pairs A9 A5 c9 c5 hr9 (HR58.out.mod0 hm9) rfl).mono ?_); rintro ez wp ⟨rfl, hmp⟩)
          | ((with_reducible refine (awake10_calls _ (htab.mod0 ((HB8.out.then0 hm9).then0 hmp))).mono ?_); rintro ez wa ⟨rfl, hma⟩))
        go_ret
        exact ⟨rfl, ((HB8.out.then0 hm9).then0 hmp).then0 hma⟩
end Go.Proofs.YtnlmfmceogbomaaGreatDoor

