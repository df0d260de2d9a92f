/- A disk's New, Calls, Down, Read. -/
import Derived.Test.YtnoleekdldmagaaDkNew
namespace Go.Proofs.Ytnoleekdldmagaa
open Go.RowKit
set_option linter.unusedVariables false

set_option maxHeartbeats 1000000 in
set_option maxRecDepth 100000 in
theorem new_calls (w : World) (pl : Pl) (F K : Option Addr) (fc kc : Nat) (hF : Rd w 1 F pl.fail.length (encI pl.fail)) (hK : Rd w 1 K pl.keep.length (encI pl.keep)) (hf : pl.fail.length ≤ 1099511627776) (hk : pl.keep.length ≤ 1099511627776) :
    Calls Try.prog 32 #[.agg #[.int .i64 pl.cap, .slice F pl.fail.length fc, .int .i64 pl.crash, .bool pl.done, .slice K pl.keep.length kc]] w fun e w' =>
      ∃ p S, e = .returned (.pointer (some ⟨p, 0, none⟩)) ∧ IsD w' p ⟨pl, [], 0, false⟩ S ∧ Mod NoneB w w' ∧ ∀ k, S k → w.heap.size ≤ k := by
  go_enter Try.func32, Try.ntmps32
  go_wp2_with fail
  have hm : Mod NoneB w (w.alloc (.cells #[.int .i64 pl.cap, .slice F pl.fail.length fc, .int .i64 pl.crash, .bool pl.done, .slice K pl.keep.length kc] 41)) := (Mod.refl NoneB _).alloc _
  refine (copied_calls _ pl F K fc kc (hF.mod0 hm) (hK.mod0 hm) hf hk).mono ?_
  rintro e w2 ⟨FA, KA, rfl, hoF, hoK, hm2, hnF, hnK⟩
  have hmm := hm.then0 hm2
  have hsz := hm.size
  obtain ⟨Fa, ca, rfl, _, _, _⟩ := hoF.out
  obtain ⟨Ka, cb, rfl, _, _, _⟩ := hoK.out
  unfold plV
  clear hF hK
  go_wp2_with fail
  go_ret
  have hma : Mod NoneB w2 (w2.alloc (.cells #[.int .i64 pl.cap, .slice Fa pl.fail.length ca, .int .i64 pl.crash, .bool pl.done, .slice Ka pl.keep.length cb, .slice none 0 0, .int .i64 0, .bool false] 114)) := (Mod.refl NoneB _).alloc _
  refine ⟨w2.heap.size, _, rfl, ⟨.slice none 0 0, [], _, _, ⟨heap_alloc_new w2 _, Own.nil _ _ _, rfl, (fun e he => by cases he), List.Pairwise.nil, hoF.mod0 hma, hoK.mod0 hma, rises_nil, (fun f hf => by cases hf)⟩, fun _ => Iff.rfl⟩, hmm.then0 hma, ?_⟩
  rintro k (rfl | h | ⟨e, he, _⟩ | h | h)
  · exact hmm.size
  · simp [Value.ownBlock] at h
  · cases he
  · exact Nat.le_trans hsz (hnF k h)
  · exact Nat.le_trans hsz (hnK k h)

set_option maxHeartbeats 1000000 in
set_option maxRecDepth 100000 in
theorem callsD_calls (w : World) (p : Nat) (d : Dk) (S : Nat → Prop) (hd : IsD w p d S) :
    Calls Try.prog 41 #[.pointer (some ⟨p, 0, none⟩)] w fun e w' => e = .returned (.int .i64 d.c) ∧ w' = w := by
  obtain ⟨row, es, FA, KA, hda, hS⟩ := hd
  have h6 : w.cell? ⟨p, 6, none⟩ = some (.int .i64 d.c) := hda.cellAt 6
  clear hda hS
  go_enter Try.func41, Try.ntmps41
  go_wp2_with fail
  go_ret
  exact ⟨rfl, rfl⟩

set_option maxHeartbeats 1000000 in
set_option maxRecDepth 100000 in
theorem downD_calls (w : World) (p : Nat) (d : Dk) (S : Nat → Prop) (hd : IsD w p d S) :
    Calls Try.prog 42 #[.pointer (some ⟨p, 0, none⟩)] w fun e w' => e = .returned (.bool d.dn) ∧ w' = w := by
  obtain ⟨row, es, FA, KA, hda, hS⟩ := hd
  have h7 : w.cell? ⟨p, 7, none⟩ = some (.bool d.dn) := hda.cellAt 7
  clear hda hS
  go_enter Try.func42, Try.ntmps42
  go_wp2_with fail
  go_ret
  exact ⟨rfl, rfl⟩

set_option maxHeartbeats 1000000 in
set_option maxRecDepth 100000 in
theorem read_calls (w : World) (p : Nat) (d : Dk) (S : Nat → Prop) (name : ByteArray) (hd : IsD w p d S) (hl : d.fs.length ≤ 4611686018427387904) (hu : usedF d.fs ≤ 70368744177664) :
    Calls Try.prog 36 #[.pointer (some ⟨p, 0, none⟩), .string name] w fun e w' =>
      ∃ v, e = .returned (.tuple #[v, .int .i64 (readD d name).2]) ∧ Own w' 5 1 v (readD d name).1.length (encB (readD d name).1) ∧ Mod NoneB w w' ∧ (∀ g, v.ownBlock = some g → w.heap.size ≤ g) := by
  obtain ⟨row, es, FA, KA, hda, hS⟩ := hd
  have h7 : w.cell? ⟨p, 7, none⟩ = some (.bool d.dn) := hda.cellAt 7
  cases hdn : d.dn with
  | true =>
    have hr : readD d name = ([], 7) := by unfold readD; rw [hdn]; rfl
    rw [hr]
    rw [hdn] at h7
    clear hr hdn hda hS
    go_enter Try.func36, Try.ntmps36
    go_wp2_with fail
    go_ret2
    exact ⟨_, rfl, Own.nil _ _ _, Mod.refl _ _, fun g h => by simp [Value.ownBlock] at h⟩
  | false =>
    rw [hdn] at h7
    have hlen := hda.len
    have HDN := Lib.hid hdn
    have HD := Lib.hid hda
    have HLEN := Lib.hid hlen
    have hl' : es.length ≤ 4611686018427387904 := by omega
    clear hdn hS hlen
    go_enter Try.func36, Try.ntmps36
    go_wp2_with fail
    refine (dfind_calls _ p d row FA KA es name hda hl').mono ?_
    rintro e w1 ⟨rfl, hm1⟩
    cases hh : hitF d.fs name with
    | false =>
      have hr : readD d name = ([], 3) := by unfold readD; rw [HDN.out, hh]; rfl
      have HR := Lib.hid hr
      clear hr hh hda
      go_wp2_with fail
      go_ret2
      rw [HR.out]
      exact ⟨_, rfl, Own.nil _ _ _, hm1, fun g h => by simp [Value.ownBlock] at h⟩
    | true =>
      have hi : lbF d.fs name < es.length := by rw [← HLEN.out]; exact hitF_lt hh
      have hr : readD d name = (es[lbF d.fs name].f.b, 0) := by unfold readD; rw [HDN.out, hh, if_neg (by simp), if_pos rfl, hda.fileAt hi]
      have hbl : es[lbF d.fs name].f.b.length ≤ usedF d.fs := by rw [← hda.fileAt hi, fileAt_get (by rw [HLEN.out]; exact hi)]; exact usedF_get _ _ _
      have hd1 := hda.mod hm1 (fun _ _ h => h)
      have hok := hd1.ent es[lbF d.fs name] (List.getElem_mem _)
      obtain ⟨A, c, rfl, _, _, hrr⟩ := hd1.row.out
      have h5 : w1.cell? ⟨p, 5, none⟩ = some (.slice A es.length c) := hd1.cellAt 5
      have hlm : (es.map (·.g)).length = es.length := by simp
      obtain ⟨ad, rfl, hp⟩ := hrr.ptr (lbF d.fs name) (by rw [hlm]; exact hi)
      simp only [List.getElem_map] at hp
      obtain ⟨x, hx⟩ : ∃ x, x = es[lbF d.fs name] := ⟨_, rfl⟩
      rw [← hx] at hp hok hr hbl
      obtain ⟨V, vc, hv, _, _, hrv⟩ := hok.own.out
      have y1 : w1.cell? ⟨x.g, 1, none⟩ = some (.slice V x.f.b.length vc) := by rw [blk_cell hok.blk, hv]; rfl
      have e1 : (0 : Int) ≤ (lbF d.fs name : Int) := by omega
      have e2 : (lbF d.fs name : Int) < (es.length : Int) := by omega
      have HR := Lib.hid hr
      have hC := cloneB_calls x.f.b V vc w1 hrv (by omega)
      have HC := Lib.hid hC
      clear hr hh hda hd1 hok hx hv hrv hC hrr hbl HD
      go_wp2_with fail
      refine HC.out.mono ?_
      rintro e w2 ⟨v, rfl, hov, hm2, hnv⟩
      go_wp2_with fail
      go_ret2
      rw [HR.out]
      exact ⟨v, rfl, hov, hm1.then0 hm2, fun g hg => Nat.le_trans hm1.size (hnv g hg)⟩
end Go.Proofs.Ytnoleekdldmagaa
