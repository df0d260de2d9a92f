/- A disk's Cut. -/
import Derived.Test.YtnoleekdldmagaaDkOps7
namespace Go.Proofs.Ytnoleekdldmagaa
open Go.RowKit
set_option linter.unusedVariables false

theorem Own.shrink {w : World} {T n c m : Nat} {V : Option Addr} {cs : List Value} (h : Own w T 1 (.slice V n c) n cs) (hm : m ≤ n) : Own w T 1 (.slice V m c) m (cs.take m) := by
  obtain ⟨hl, ⟨h1, hn⟩ | ⟨g, cap, cur, he, _, hh, hnc, hcm, hcs, htk⟩⟩ := h
  · injection h1 with h1 h2 h3
    subst h1 h2 h3
    obtain rfl : m = 0 := by omega
    exact Own.nil _ _ _
  · injection he with h1 h2 h3
    subst h1 h3
    refine Own.of_blk hh (by omega) (by simpa [maxLen] using hcm) hcs ?_
    rw [← htk, List.take_take, Nat.min_eq_left (by omega), Nat.mul_one]
theorem EntOk.synced {w : World} {e : Ent} (h : EntOk w e) (s : Nat) : EntOk (w.setCell ⟨e.g, 2, none⟩ (.int .i64 s)) ⟨e.g, e.v, { e.f with s := s }⟩ := by
  refine ⟨(setCell_blk h.blk).trans rfl, h.own.mod (Mod.setCell (S := fun k => k = e.g) (Mod.refl _ _) (p := ⟨e.g, 2, none⟩) (fun _ => rfl) _) (fun g hg hge => ?_)⟩
  obtain ⟨c', hc'⟩ := h.own.tag hg
  exact tag_ne h.blk hc' (by decide) hge.symm
theorem encB_take (b : List UInt8) (m : Nat) : encB (b.take m) = (encB b).take m := by simp [encB]

set_option maxHeartbeats 2000000 in
set_option maxRecDepth 100000 in
theorem cutC_calls (w : World) (p : Nat) (d : Dk) (row FA KA : Value) (es : List Ent) (S : Nat → Prop) (k : Int) (i q0 : Nat) (hd : DkAt w p d row es FA KA) (hS : ∀ k, S k ↔ Foot p row es FA KA k) (hi : i < es.length)
    (x0 : w.cell? ⟨q0, 0, none⟩ = some (.int .i64 k)) (hq0 : ¬ S q0) :
    Calls Try.prog 84 #[.int .i64 i, .pointer (some ⟨es[i].g, 0, none⟩), .pointer (some ⟨q0, 0, none⟩)] w fun e w' => e = .returned (.int .i64 (cutF k d i).2) ∧ DStep w S p (cutF k d i).1 w' := by
  have hok := hd.ent es[i] (List.getElem_mem _)
  have hfe := hd.fileAt hi
  have hsy : es[i].f.s ≤ es[i].f.b.length := hd.sync _ (by rw [hd.fs]; exact List.mem_map_of_mem (List.getElem_mem hi))
  have heS : S es[i].g := (hS _).2 (Foot.ent (List.getElem_mem hi) (.inl rfl))
  obtain ⟨e, he⟩ : ∃ e, e = es[i] := ⟨_, rfl⟩
  rw [← he] at hok hfe hsy heS ⊢
  obtain ⟨V, vc, hv, hnc, hcm, _⟩ := hok.own.out
  have y1 : w.cell? ⟨e.g, 1, none⟩ = some (.slice V e.f.b.length vc) := by rw [blk_cell hok.blk, hv]; rfl
  have HE := Lib.hid he
  have HD := Lib.hid hd
  have HS := Lib.hid hS
  have HOK := Lib.hid hok
  have HV := Lib.hid hv
  by_cases hneg : k < 0
  · have ha : cutF k d i = (d, 1) := by unfold cutF; rw [if_pos (.inl hneg)]
    have HA := Lib.hid ha
    have b1 : decide (k < 0) = true := by simpa using hneg
    clear ha hfe hd hS hok hv he
    go_enter Try.func84, Try.ntmps84
    go_wp2_with fail
    go_quiet (fail)
    go_wp2_with fail
    go_ret
    rw [HA.out]
    exact ⟨rfl, S, ⟨row, es, FA, KA, HD.out.mod ((Mod.refl NoneB w).drewN nq) (fun _ _ h => h), HS.out⟩, (Mod.refl S w).drewN nq, fun k hk => .inl hk⟩
  · have b1 : decide (k < 0) = false := by simpa using hneg
    by_cases hbig : (e.f.b.length : Int) < k
    · have ha : cutF k d i = (d, 1) := by unfold cutF; rw [if_pos (.inr (by rw [hfe]; exact hbig))]
      have HA := Lib.hid ha
      have b2 : decide ((e.f.b.length : Int) < k) = true := by simpa using hbig
      clear ha hfe hd hS hok hv he
      go_enter Try.func84, Try.ntmps84
      go_wp2_with fail
      go_quiet (fail)
      go_wp2_with fail
      go_ret
      rw [HA.out]
      exact ⟨rfl, S, ⟨row, es, FA, KA, HD.out.mod ((Mod.refl NoneB w).drewN nq) (fun _ _ h => h), HS.out⟩, (Mod.refl S w).drewN nq, fun k hk => .inl hk⟩
    · obtain ⟨m, rfl⟩ : ∃ m : Nat, k = m := ⟨k.toNat, by omega⟩
      have hm : m ≤ e.f.b.length := by omega
      have ha : cutF m d i = ({ d with fs := d.fs.set i { e.f with b := e.f.b.take m, s := min e.f.s m } }, 0) := by
        unfold cutF
        rw [if_neg (by rw [hfe]; omega), hfe]
        rfl
      have HA := Lib.hid ha
      have b2 : decide ((e.f.b.length : Int) < m) = false := by simpa using hbig
      clear ha hfe hd hS hok hv he hneg hbig
      go_enter Try.func84, Try.ntmps84
      go_wp2_with fail
      go_quiet (fail)
      have hmq : Mod NoneB w (w.drewN nq) := (Mod.refl NoneB w).drewN nq
      have hokq := HOK.out.mod hmq (fun _ _ h => h)
      have x0q := hmq.cell0 x0
      have y1q := hmq.cell0 y1
      generalize w.drewN nq = w1 at hmq hokq x0q y1q ⊢
      have fr1 : w1.frozen? ⟨e.g, 1, none⟩ = false := blk_frozen hokq.blk 1
      have HOKQ := Lib.hid hokq
      clear x0 y1 hokq
      have e1 : (0 : Int) ≤ m := by omega
      have e2 : (m : Int) ≤ e.f.b.length := by omega
      have e3 : m ≤ vc := by omega
      have e4 : (m : Int) ≤ vc := by omega
      go_wp2_with fail
      go_region_law (fail)
      all_goals
        have hlen : (e.f.b.take m).length = m := by rw [List.length_take]; omega
        have hown : Own w1 5 1 (.slice V m vc) (e.f.b.take m).length (encB (e.f.b.take m)) := by
          rw [hlen, encB_take]
          have h := HOKQ.out.own
          rw [HV.out] at h
          exact h.shrink hm
        obtain ⟨hok2, hm2⟩ := HOKQ.out.bytes (Mod.refl _ w1) hown
        have hdr : Mod NoneB (w1.setCell ⟨e.g, 1, none⟩ (.slice V m vc)) (w1.setCell ⟨e.g, 1, none⟩ (.slice V m vc)).drew := (Mod.refl _ _).drew
        have hok3 := hok2.mod hdr (fun _ _ h => h)
        have hm3 := hm2.then0 hdr
        have x0r : (w1.setCell ⟨e.g, 1, none⟩ (.slice V m vc)).drew.cell? ⟨q0, 0, none⟩ = some (.int .i64 m) := by
          refine hm3.cell x0q (fun h => hq0 ?_)
          exact (HS.out _).2 (Foot.ent (List.getElem_mem hi) (by rw [← HE.out]; exact h))
        generalize (w1.setCell ⟨e.g, 1, none⟩ (.slice V m vc)).drew = w2 at hok3 hm3 x0r ⊢
        have y2r : w2.cell? ⟨e.g, 2, none⟩ = some (.int .i64 e.f.s) := by rw [blk_cell hok3.blk]; rfl
        have fr2r : w2.frozen? ⟨e.g, 2, none⟩ = false := blk_frozen hok3.blk 2
        have HOK3 := Lib.hid hok3
        have HM3 := Lib.hid hm3
        have HLEN := Lib.hid hlen
        clear hok2 hm2 hdr hok3 hm3 hown x0q y1q fr1 e3 e4 hlen
        go_wp2_with fail
        go_region_law (fail)
        all_goals
          rw [show min (e.f.s : Int) (m : Int) = ((min e.f.s m : Nat) : Int) by omega]
          have hok4 := (HOK3.out.synced (min e.f.s m)).mod ((Mod.refl NoneB _).drew) (fun _ _ h => h)
          have hm4 : Mod (EntB e) w (w2.setCell ⟨e.g, 2, none⟩ (.int .i64 ((min e.f.s m : Nat) : Int))).drew :=
            (((hmq.mono (fun _ _ h => h.elim)).trans HM3.out (fun _ _ h => h)).setCell (p := ⟨e.g, 2, none⟩) (fun _ => .inl rfl) _).drew
          have hst : DStep w S p { d with fs := d.fs.set i { e.f with b := e.f.b.take m, s := min e.f.s m } } (w2.setCell ⟨e.g, 2, none⟩ (.int .i64 ((min e.f.s m : Nat) : Int))).drew := by
            refine HD.out.toEnt HS.out hi (e' := ⟨e.g, .slice V m vc, { e.f with b := e.f.b.take m, s := min e.f.s m }⟩) (by rw [HE.out]) hok4 (by rw [← HE.out]; exact hm4) ?_ (by rw [← HE.out]) ?_ rfl
            · rw [← HE.out, HV.out]
              exact .inl (ownBlock_slice _ _ _ _ _)
            · show min e.f.s m ≤ (e.f.b.take m).length
              rw [HLEN.out]
              omega
          have HST := Lib.hid hst
          clear hst hok4 hm4
          go_wp2_with fail
          go_ret
          rw [HA.out]
          exact ⟨rfl, HST.out⟩

set_option maxHeartbeats 1000000 in
set_option maxRecDepth 100000 in
theorem cut_calls (w : World) (p : Nat) (d : Dk) (S : Nat → Prop) (n : ByteArray) (k : Int) (hd : IsD w p d S) (hc : d.c < 4611686018427387904) (hl : d.fs.length ≤ 4611686018427387904) :
    Calls Try.prog 39 #[.pointer (some ⟨p, 0, none⟩), .string n, .int .i64 k] w fun e w' => e = .returned (.int .i64 (cutD d n k).2) ∧ DStep w S p (cutD d n k).1 w' := by
  have hKw : ∀ args w, (callFunc 84 args).run Try.prog w = .ok (.enter 84 args) w := enters_of Try.func84 (by kernel_rfl) rfl
  go_enter Try.func39, Try.ntmps39
  go_wp2_with fail
  have hm : Mod NoneB w (w.alloc (.cells #[.int .i64 k] 3)) := (Mod.refl NoneB _).alloc _
  have x0 := box1 w (.cells #[.int .i64 k] 3)
  generalize (w.alloc (.cells #[.int .i64 k] 3)) = w1 at hm x0 ⊢
  have hS1 : IsD w1 p d S := hd.mod0 hm
  have hmS : Mod S w w1 := hm.mono (fun _ _ h => h.elim)
  have HW : Calls Try.prog 79 #[.pointer (some ⟨p, 0, none⟩), .string n, .func (.func 84) #[] #[.pointer (some ⟨w.heap.size, 0, none⟩)]] w1
      fun e w' => e = .returned (.int .i64 (cutD d n k).2) ∧ DStep w1 S p (cutD d n k).1 w' := by
    refine with_calls w1 p d S n _ _ (cutF k) hKw hS1 hc hl ?_
    intro w2 dn row es FA KA hm2 hda hS hi _
    exact cutC_calls w2 p _ row FA KA es S k _ _ hda hS hi (by rw [blk_cell (hm2.blk x0 (hd.notS (by omega)))]; rfl) (hd.notS (by omega))
  refine HW.mono ?_
  rintro e w4 ⟨rfl, S', hto⟩
  go_wp2_with fail
  go_ret
  exact ⟨rfl, S', DTo.trans ⟨hS1, hmS, fun k hk => .inl hk⟩ hto⟩
end Go.Proofs.Ytnoleekdldmagaa
