/- A disk's find, gate, with. -/
import Derived.Test.YtnoleekdldmagaaDkAt
import Derived.BigQuiet
import Derived.WalkMore
import Derived.Deep.DeepCutAuto
namespace Go.Proofs.Ytnoleekdldmagaa
open Go.RowKit
set_option linter.unusedVariables false

theorem bsearchGn_calls (fs : List Fl) (gs : List Nat) (n : Nat) (hn : gs.length = n) (key : ByteArray) (A : Option Addr) (c : Nat) (w : World) (hp : Parts (asPs fs) key) (hr : Rd w 1 A n (encGs gs)) (hnm : NamesAt w gs fs) (hlen : n ≤ 4611686018427387904) :
    Calls Try.prog 120 #[.slice A n c, .string key, .func (.func 121) #[] #[]] w fun e w' =>
      e = .returned (.tuple #[.int .i64 (lb (asPs fs) key), .bool (hitB (asPs fs) key)]) ∧ Mod NoneB w w' := by
  subst hn
  exact bsearchG_calls fs gs key A c w hp hr hnm hlen

theorem DkAt.names {w : World} {p : Nat} {d : Dk} {row FA KA : Value} {es : List Ent} (h : DkAt w p d row es FA KA) : NamesAt w (es.map (·.g)) d.fs := by
  rw [h.fs]
  refine ⟨by simp, fun i h1 h2 => ?_⟩
  simp only [List.length_map] at h1 h2
  simp only [List.getElem_map]
  rw [blk_cell (h.ent es[i] (List.getElem_mem _)).blk]
  rfl

set_option maxHeartbeats 1000000 in
set_option maxRecDepth 100000 in
theorem dfind_calls (w : World) (p : Nat) (d : Dk) (row FA KA : Value) (es : List Ent) (key : ByteArray) (hd : DkAt w p d row es FA KA) (hlen : es.length ≤ 4611686018427387904) :
    Calls Try.prog 77 #[.pointer (some ⟨p, 0, none⟩), .string key] w fun e w' =>
      e = .returned (.tuple #[.int .i64 (lbF d.fs key), .bool (hitF d.fs key)]) ∧ Mod NoneB w w' := by
  have hp := parts_of_rises hd.rises key
  have hnm := hd.names
  obtain ⟨A, c, rfl, _, _, hr⟩ := hd.row.out
  have h5 : w.cell? ⟨p, 5, none⟩ = some (.slice A es.length c) := hd.cellAt 5
  go_enter Try.func77, Try.ntmps77
  go_wp2_with fail
  refine (bsearchGn_calls d.fs (es.map (·.g)) es.length (by simp) key A c _ hp hr hnm hlen).mono ?_
  rintro e w1 ⟨rfl, hm1⟩
  go_wp2_with fail
  go_ret2
  exact ⟨rfl, hm1⟩

set_option maxHeartbeats 2000000 in
set_option maxRecDepth 100000 in
theorem gate_calls (w : World) (p : Nat) (d : Dk) (S : Nat → Prop) (K : FuncId) (caps : Array Value) (op : Dk → Ans) (hK : ∀ args w, (callFunc K args).run Try.prog w = .ok (.enter K args) w) (hd : IsD w p d S) (hc : d.c < 4611686018427387904)
    (H : ∀ w1 dn, Mod S w w1 → IsD w1 p { d with c := d.c + 1, dn := dn } S → Calls Try.prog K caps w1 fun e w' => e = .returned (.int .i64 (op { d with c := d.c + 1, dn := dn }).2) ∧ DStep w1 S p (op { d with c := d.c + 1, dn := dn }).1 w') :
    Calls Try.prog 75 #[.pointer (some ⟨p, 0, none⟩), .func (.func K) #[] caps] w fun e w' => e = .returned (.int .i64 (gateD d op).2) ∧ DStep w S p (gateD d op).1 w' := by
  obtain ⟨row, es, FA, KA, hda, hS⟩ := hd
  have HD := hda
  have h7 : w.cell? ⟨p, 7, none⟩ = some (.bool d.dn) := hda.cellAt 7
  have h6 : w.cell? ⟨p, 6, none⟩ = some (.int .i64 d.c) := hda.cellAt 6
  obtain ⟨pl, fs, cc, dn⟩ := d
  simp only at h6 h7 hc H HD hda
  have hSp : S p := (hS p).2 (.inl rfl)
  have HH := Lib.hid H
  have HSS := Lib.hid hS
  have HDD := Lib.hid HD
  clear H hS HD hda
  cases dn with
  | true =>
    go_enter Try.func75, Try.ntmps75
    go_wp2_with fail
    go_step3
    go_wp2_with fail
    try rw [Exit.noGoto_ret]
    go_ret
    refine ⟨rfl, S, ⟨⟨row, es, FA, KA, HDD.out, HSS.out⟩, Mod.refl _ _, fun k hk => .inl hk⟩⟩
  | false =>
    have fr6 : w.frozen? ⟨p, 6, none⟩ = false := blk_frozen HDD.out.blk 6
    go_enter Try.func75, Try.ntmps75
    go_wp2_with fail
    go_step3
    go_wp2_with fail
    have hm1 : Mod (fun k => k = p) w (w.setCell ⟨p, 6, none⟩ (.int .i64 (↑cc + 1))) := Mod.setCell (S := fun k => k = p) (Mod.refl _ _) (p := ⟨p, 6, none⟩) (fun _ => rfl) _
    have hd1 : DkAt (w.setCell ⟨p, 6, none⟩ (.int .i64 (↑cc + 1))) p ⟨pl, fs, cc + 1, false⟩ row es FA KA := HDD.out.turn hm1 ((setCell_blk HDD.out.blk).trans rfl) rfl rfl
    generalize w.setCell ⟨p, 6, none⟩ (.int .i64 (↑cc + 1)) = w1 at hm1 hd1 ⊢
    clear h6 h7 fr6
    have hmS : Mod S w w1 := hm1.mono (fun k _ hk => by subst hk; exact hSp)
    have h6 : w1.cell? ⟨p, 6, none⟩ = some (.int .i64 (↑cc + 1)) := hd1.cellAt 6
    have h2 : w1.cell? ⟨p, 2, none⟩ = some (.int .i64 pl.crash) := hd1.cellAt 2
    have h3 : w1.cell? ⟨p, 3, none⟩ = some (.bool pl.done) := hd1.cellAt 3
    have fr7 : w1.frozen? ⟨p, 7, none⟩ = false := blk_frozen hd1.blk 7
    have HD1 := Lib.hid hd1
    have hd1' := hd1
    clear hd1 hm1
    go_step3
    have h7 : w1.cell? ⟨p, 7, none⟩ = some (.bool false) := hd1'.cellAt 7
    clear hd1'
    by_cases hcr : ((cc : Int) + 1) = pl.crash
    · have b1 : (((cc : Int) + 1) == pl.crash) = true := by simpa using hcr
      have hg : gateD ⟨pl, fs, cc, false⟩ op = (if pl.done then (op ⟨pl, fs, cc + 1, true⟩).1 else ⟨pl, fs, cc + 1, true⟩, 7) := by
        unfold gateD
        rw [if_neg (by simp), if_pos (show ((cc + 1 : Nat) : Int) = pl.crash from hcr)]
      have HG := Lib.hid hg
      clear hcr hg
      cases hdn : pl.done with
      | true =>
        rw [hdn] at h3
        have HDN := Lib.hid hdn
        clear hdn
        go_wp2_with fail
        go_quiet (fail)
        go_wp2_with fail
        have hd3 : DkAt ((w1.drewN nq).setCell ⟨p, 7, none⟩ (.bool true)) p ⟨pl, fs, cc + 1, true⟩ row es FA KA :=
          (HD1.out.mod ((Mod.refl NoneB w1).drewN nq) (fun _ _ h => h)).turn (Mod.setCell (S := fun k => k = p) (Mod.refl _ _) (p := ⟨p, 7, none⟩) (fun _ => rfl) _) ((setCell_blk (HD1.out.mod ((Mod.refl NoneB w1).drewN nq) (fun _ _ h => h)).blk).trans rfl) rfl rfl
        have hm3 : Mod S w ((w1.drewN nq).setCell ⟨p, 7, none⟩ (.bool true)) := (hmS.drewN nq).setCell (p := ⟨p, 7, none⟩) (fun _ => hSp) _
        refine (HH.out _ true hm3 ⟨row, es, FA, KA, hd3, HSS.out⟩).mono ?_
        rintro e w4 ⟨rfl, S', hto⟩
        have HTO : DTo w S p (op ⟨pl, fs, cc + 1, true⟩).1 w4 S' := DTo.trans ⟨⟨row, es, FA, KA, hd3, HSS.out⟩, hm3, fun k hk => .inl hk⟩ hto
        clear hd3 hm3 hto
        go_wp2_with fail
        try rw [Exit.noGoto_ret]
        go_ret
        refine ⟨by rw [HG.out]; rfl, S', ?_⟩
        rw [HG.out, HDN.out]
        exact HTO
      | false =>
        rw [hdn] at h3
        have HDN := Lib.hid hdn
        clear hdn
        go_wp2_with fail
        go_quiet (fail)
        go_wp2_with fail
        have hd3 : DkAt ((w1.drewN nq).setCell ⟨p, 7, none⟩ (.bool true)) p ⟨pl, fs, cc + 1, true⟩ row es FA KA :=
          (HD1.out.mod ((Mod.refl NoneB w1).drewN nq) (fun _ _ h => h)).turn (Mod.setCell (S := fun k => k = p) (Mod.refl _ _) (p := ⟨p, 7, none⟩) (fun _ => rfl) _) ((setCell_blk (HD1.out.mod ((Mod.refl NoneB w1).drewN nq) (fun _ _ h => h)).blk).trans rfl) rfl rfl
        have hm3 : Mod S w ((w1.drewN nq).setCell ⟨p, 7, none⟩ (.bool true)) := (hmS.drewN nq).setCell (p := ⟨p, 7, none⟩) (fun _ => hSp) _
        try rw [Exit.noGoto_ret]
        go_ret
        refine ⟨by rw [HG.out]; rfl, S, ?_⟩
        rw [HG.out, HDN.out]
        exact ⟨⟨row, es, FA, KA, hd3, HSS.out⟩, hm3, fun k hk => .inl hk⟩
    · have b1 : (((cc : Int) + 1) == pl.crash) = false := by simpa using hcr
      have HCR := Lib.hid hcr
      clear hcr
      go_wp2_with fail
      go_quiet (fail)
      go_wp2_with fail
      have hd2 : DkAt (w1.drewN nq) p ⟨pl, fs, cc + 1, false⟩ row es FA KA := HD1.out.mod ((Mod.refl NoneB w1).drewN nq) (fun _ _ h => h)
      have hm2 : Mod S w (w1.drewN nq) := hmS.drewN nq
      clear h2 h3 h6 h7 fr7
      generalize w1.drewN nq = w2 at hd2 hm2 ⊢
      obtain ⟨FL, fc, rfl, _, _, hrf⟩ := hd2.fail.out
      have h6 : w2.cell? ⟨p, 6, none⟩ = some (.int .i64 (↑cc + 1)) := hd2.cellAt 6
      have h1 : w2.cell? ⟨p, 1, none⟩ = some (.slice FL pl.fail.length fc) := hd2.cellAt 1
      have HD2 := Lib.hid hd2
      clear hd2
      have hcn : ∀ n, Calls Try.prog 119 #[.slice FL pl.fail.length fc, .int .i64 (↑cc + 1)] (w2.drewN n) fun e w' => e = .returned (.bool (decide ((cc : Int) + 1 ∈ pl.fail))) ∧ w' = w2.drewN n := fun n => containsI_calls pl.fail _ FL fc _ (hrf.mod0 ((Mod.refl NoneB w2).drewN n))
      by_cases hin : (cc : Int) + 1 ∈ pl.fail
      · rw [decide_eq_true hin] at hcn
        have hg : gateD ⟨pl, fs, cc, false⟩ op = (⟨pl, fs, cc + 1, false⟩, 6) := by
          unfold gateD
          rw [if_neg (by simp), if_neg (show ¬ ((cc + 1 : Nat) : Int) = pl.crash from HCR.out), if_pos (show ((cc + 1 : Nat) : Int) ∈ pl.fail from hin)]
        have HG := Lib.hid hg
        clear hin hg
        go_quiet ((go_at_call 119; exact Calls.quiet_of_same (hcn _)))
        go_wp2_with fail
        try rw [Exit.noGoto_ret]
        go_ret
        refine ⟨by rw [HG.out]; rfl, S, ?_⟩
        rw [HG.out]
        exact ⟨⟨row, es, _, KA, HD2.out.mod ((Mod.refl NoneB w2).drewN nq) (fun _ _ h => h), HSS.out⟩, hm2.drewN nq, fun k hk => .inl hk⟩
      · rw [decide_eq_false hin] at hcn
        have hg : gateD ⟨pl, fs, cc, false⟩ op = op ⟨pl, fs, cc + 1, false⟩ := by
          unfold gateD
          rw [if_neg (by simp), if_neg (show ¬ ((cc + 1 : Nat) : Int) = pl.crash from HCR.out), if_neg (show ¬ ((cc + 1 : Nat) : Int) ∈ pl.fail from hin)]
        have HG := Lib.hid hg
        clear hin hg
        go_quiet ((go_at_call 119; exact Calls.quiet_of_same (hcn _)))
        go_wp2_with fail
        have hd3 := HD2.out.mod (w1 := w2.drewN nq) ((Mod.refl NoneB w2).drewN nq) (fun _ _ h => h)
        have hm3 := hm2.drewN nq
        refine (HH.out _ false hm3 ⟨row, es, _, KA, hd3, HSS.out⟩).mono ?_
        rintro e w4 ⟨rfl, S', hto⟩
        have HTO := DTo.trans ⟨⟨row, es, _, KA, hd3, HSS.out⟩, hm3, fun k hk => .inl hk⟩ hto
        clear hd3 hm3 hto
        go_wp2_with fail
        try rw [Exit.noGoto_ret]
        go_ret
        refine ⟨by rw [HG.out]; rfl, S', ?_⟩
        rw [HG.out]
        exact HTO
end Go.Proofs.Ytnoleekdldmagaa
