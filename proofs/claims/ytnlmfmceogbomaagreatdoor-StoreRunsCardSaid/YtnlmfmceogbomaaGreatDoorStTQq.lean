/- The reference's store: Commit, OpenStore; beside a disk. -/
import Derived.Test.YtnlmfmceogbomaaGreatDoorStSQq
namespace Go.Proofs.YtnlmfmceogbomaaGreatDoor
open Go.RowKit
set_option linter.unusedVariables false

/-- The map turned: another row of pairs in a new block. -/
theorem Rf.map {w0 w w1 : World} {p q vw vs : Nat} {most : Int} {d : Dk} {t : St} {A A' : Option Addr} {c c' : Nat} {S R : Nat → Prop} {m : List Pr} (h : Rf w0 w p q vw vs most d t A c S R) (hm : Mod NoneB w w1) (ho : OwnP w.heap.size w1 (.slice A' m.length c') m) :
    Rf w0 (w1.setCell ⟨vs, 1, none⟩ (.slice A' m.length c')) p q vw vs most d ⟨t.d, t.n, t.sk, m⟩ A' c' S R ∧ Mod (fun j => S j ∨ R j ∨ j = vw ∨ j = vs) w (w1.setCell ⟨vs, 1, none⟩ (.slice A' m.length c')) := by
  have h1 := h.mod0 hm
  have hs : Mod (fun k => k = vs) w1 (w1.setCell ⟨vs, 1, none⟩ (.slice A' m.length c')) := (Mod.refl (fun k => k = vs) w1).setCell (p := ⟨vs, 1, none⟩) (fun _ => rfl) _
  have lv := blk_lt h.st
  have hnv : ∀ g, (Value.slice A' m.length c').ownBlock = some g → g ≠ vs := fun g hg e => by have := ho.new g hg; omega
  refine ⟨⟨h1.base.trans_new hs (fun k hk => .inr (by rw [hk]; exact h.w0s)), h1.isD.mod hs (fun k hk e => h.sS (e ▸ hk)), h.S0, h1.isR.mod hs (fun k hk e => h.sR (e ▸ hk)) (fun k hk => by rw [hk]; exact h.w0s), h.SR, hs.blk h1.wal (fun e => h.ws e), (setCell_blk0 h1.st).trans rfl, own_rd (ho.own.mod hs hnv), h.w0w, h.w0s, h.wS, h.wR, h.sS, h.sR, h.ws, fun ad had => ?_⟩, (hm.mono (fun _ _ h => h.elim)).trans hs (fun k _ hk => .inr (.inr (.inr hk)))⟩
  subst had
  have hn := ho.new ad.block rfl
  have hl := ho.own.lt (g := ad.block) rfl
  have b0 := h.base.size
  have hz := hs.size
  exact ⟨⟨by omega, by omega⟩, fun hh => absurd (h.isD.lt hh) (Nat.not_lt.2 hn), fun hh => absurd (h.isR.lt hh) (Nat.not_lt.2 hn), fun e => by have := blk_lt h.wal; omega, hnv ad.block rfl⟩

set_option maxHeartbeats 4000000 in
set_option maxRecDepth 100000 in
theorem rscommit_calls {w0 w : World} {p q vw vs : Nat} {most : Int} {d : Dk} {t : St} {A : Option Addr} {c : Nat} {S R : Nat → Prop} (h : Rf w0 w p q vw vs most d t A c S R) (hf : FitF t) (l : List Op3) (B : Option Addr) (cb : Nat) (hr : Rd w0 3 B l.length (encOs l)) (hs : SmallO l) (hlen : t.r.length + l.length ≤ 1000000)
    (hf2 : (commitW t.d t.n t.sk l).e = 0 → FitF ⟨(commitW t.d t.n t.sk l).d, (commitW t.d t.n t.sk l).n, (commitW t.d t.n t.sk l).sk, applyT t.r l⟩) :
    Calls Tryz.prog 32 #[.pointer (some ⟨vs, 0, none⟩), .slice B l.length cb] w (RfE w0 w p q vw vs most d A c S R (commitS most t l)) := by
  obtain ⟨td, n, sk, r⟩ := t
  have y0 : w.cell? ⟨vs, 0, none⟩ = some (.pointer (some ⟨vw, 0, none⟩)) := by rw [blk_cell h.st]; rfl
  have hfn := hf.n
  have hfc := hf.d.c
  have hfl := hf.d.l
  have hfu := hf.d.u
  have hop := opsR_le hs
  simp only at hfn hfc hfl hfu hlen
  have hcm := rwcommit_calls w0.heap.size w q vw td R n sk l B cb h.isR h.wal h.wR h.w0w (hr.mod0 h.base) hs (by omega) (by omega) (by omega) (by omega) hf.d.cap
  obtain ⟨k, hk⟩ : ∃ k, k = commitW td n sk l := ⟨_, rfl⟩
  have hcs : commitS most ⟨td, n, sk, r⟩ l = if k.e = 0 then (afterS most ⟨k.d, k.n, k.sk, applyT r l⟩, 0) else (⟨k.d, k.n, k.sk, r⟩, k.e) := by rw [hk]; rfl
  simp only [← hk] at hcm hf2
  have HCM := Lib.hid hcm
  have HCS := Lib.hid hcs
  have HF2 := Lib.hid hf2
  have H := Lib.hid h
  have HR := Lib.hid hr
  clear hcm hcs hf2 h hr hk hop hfn hfc hfl hfu hf hs
  go_enter Tryz.func32, Tryz.ntmps32
  go_wp2_with fail
  refine HCM.out.mono ?_
  rintro e w1 ⟨rfl, R1, g1, g2, g3, g4⟩
  have hm1 : Mod (fun j => S j ∨ R j ∨ j = vw) w w1 := g2.mono (fun j _ hj => .inr hj)
  have hdS : IsD w1 p d S := H.out.isD.mod g2 (fun k hk hh => hh.elim (H.out.SR k hk) (fun e => H.out.wS (e ▸ hk)))
  have hSR1 : ∀ k, S k → ¬ R1 k := fun k hk hh => (g3 k hh).elim (H.out.SR k hk) (fun hn => by have := H.out.isD.lt hk; omega)
  have hst := H.out.turn hdS g1 hSR1 g4 hm1 (fun j hj => .inl (.inl hj)) (fun j hj => (g3 j hj).imp .inr id)
  simp only at hst
  have HST := Lib.hid hst
  have HM1 := Lib.hid hm1
  have HG3 := Lib.hid g3
  obtain ⟨e5, he5⟩ : ∃ e, e = k.e := ⟨_, rfl⟩
  rw [← he5]
  clear hst hm1 hdS hSR1 g1 g2 g3 g4 HCM y0
  by_cases h0 : e5 = 0
  case neg =>
    have hcs : commitS most ⟨td, n, sk, r⟩ l = (⟨k.d, k.n, k.sk, r⟩, e5) := by rw [HCS.out, if_neg (by omega), he5]
    have hfin : RfE w0 w p q vw vs most d A c S R (commitS most ⟨td, n, sk, r⟩ l) (.returned (.int .i64 e5)) w1 := by
      rw [hcs]
      exact RfE.same (k := (⟨k.d, k.n, k.sk, r⟩, e5)) HST.out HM1.out (fun j hj => .inl (.inl hj)) (fun j hj => (HG3.out j hj).imp .inr id)
    have HFIN := Lib.hid hfin
    have q0 : (((e5 : Nat) : Int) != 0) = true := bne_iff_ne.mpr (by omega)
    have q0' : (((e5 : Nat) : Int) == 0) = false := beq_eq_false_iff_ne.mpr (by omega)
    clear hfin hcs he5 h0 HF2 HCS
    go_wp2_with fail
    go_ret
    exact HFIN.out
  have hcs : commitS most ⟨td, n, sk, r⟩ l = (afterS most ⟨k.d, k.n, k.sk, applyT r l⟩, 0) := by rw [HCS.out, if_pos (by omega)]
  have hfs := HF2.out (by omega)
  have q0 : (((e5 : Nat) : Int) != 0) = false := by rw [h0]; rfl
  have q0' : (((e5 : Nat) : Int) == 0) = true := by rw [h0]; rfl
  have y0 : w1.cell? ⟨vs, 0, none⟩ = some (.pointer (some ⟨vw, 0, none⟩)) := by rw [blk_cell HST.out.st]; rfl
  have y1 : w1.cell? ⟨vs, 1, none⟩ = some (.slice A r.length c) := by rw [blk_cell HST.out.st]; rfl
  have hap := rapply_calls r l A B c cb w1 HST.out.own (HR.out.mod0 HST.out.base) (by omega)
  have HAP := Lib.hid hap
  have HCS2 := Lib.hid hcs
  have HFS := Lib.hid hfs
  clear hap hcs hfs HF2 HCS HR he5 h0
  go_wp2_with fail
  refine HAP.out.mono ?_
  rintro ez w2 ⟨v', rfl, hov, hm2⟩
  obtain ⟨A', c', rfl, _, _, _⟩ := hov.own.out
  obtain ⟨hrf, hmf⟩ := HST.out.map hm2 hov
  simp only at hrf
  have HNEW : Hid (∀ ad, A' = some ad → w1.heap.size ≤ ad.block) := Lib.hid (fun ad had => by subst had; exact hov.new ad.block rfl)
  have h2st := HST.out.mod0 hm2
  have y22 : w2.cell? ⟨vs, 1, none⟩ = some (.slice A r.length c) := by rw [blk_cell h2st.st]; rfl
  have fr : w2.frozen? ⟨vs, 1, none⟩ = false := blk_frozen h2st.st 1
  obtain ⟨w3, hw3⟩ : ∃ x, x = w2.setCell ⟨vs, 1, none⟩ (.slice A' (applyT r l).length c') := ⟨_, rfl⟩
  have HW3 := Lib.hid hw3
  rw [← hw3] at hrf hmf
  have hmw : Mod (fun j => S j ∨ R j ∨ j = vw ∨ j = vs) w w3 := (HM1.out.mono (fun j _ hj => hj.imp id (Or.imp id .inl))).trans hmf (fun j hj hh => by
    rcases hh with hh | hh | hh
    · exact .inl hh
    · exact (HG3.out j hh).elim (fun h => .inr (.inl h)) (fun h => absurd hj (Nat.not_lt.2 h))
    · exact .inr (.inr hh))
  have y0 : w3.cell? ⟨vs, 0, none⟩ = some (.pointer (some ⟨vw, 0, none⟩)) := by rw [blk_cell hrf.st]; rfl
  have y2 : w3.cell? ⟨vs, 2, none⟩ = some (.int .i64 most) := by rw [blk_cell hrf.st]; rfl
  have z1 : w3.cell? ⟨vw, 1, none⟩ = some (.int .i64 k.n) := by rw [blk_cell hrf.wal]; rfl
  have HRF := Lib.hid hrf
  have HMW := Lib.hid hmw
  have hnewW : ∀ ad, A' = some ad → w.heap.size ≤ ad.block := fun ad had => Nat.le_trans HM1.out.size (HNEW.out ad had)
  have HNW := Lib.hid hnewW
  clear hrf hmf hmw hov hm2 h2st hw3 HST HAP hnewW y1
  go_wp2_with fail
  rw [← HW3.out]
  go_wp2_with fail
  by_cases hmo : most < (k.n : Int)
  · have haf : afterS most ⟨k.d, k.n, k.sk, applyT r l⟩ = (checkS ⟨k.d, k.n, k.sk, applyT r l⟩).1 := if_pos hmo
    have hd3 := HRF.out.mod0 ((Mod.refl NoneB w3).drew)
    have hd3' : ∀ W, Mod NoneB w3 W → Calls Tryz.prog 31 #[.pointer (some ⟨vs, 0, none⟩)] W (RfE w0 W p q vw vs most d A' c' S R1 (checkS ⟨k.d, k.n, k.sk, applyT r l⟩)) := fun W hm => rscheck_calls (HRF.out.mod0 hm) HFS.out
    have HCK := Lib.hid hd3'
    have HAF := Lib.hid haf
    have HFIN : Hid (∀ W e w', Mod NoneB w3 W → RfE w0 W p q vw vs most d A' c' S R1 (checkS ⟨k.d, k.n, k.sk, applyT r l⟩) e w' → RfE w0 w p q vw vs most d A c S R (commitS most ⟨td, n, sk, r⟩ l) (.returned (.int .i64 0)) w') := Lib.hid fun W e w' hm hh => by
      obtain ⟨_, A6, c6, S6, R6, r1, r2, r3, r4, r5⟩ := hh
      rw [HCS2.out, HAF.out]
      have hmW : Mod (fun j => S j ∨ R j ∨ j = vw ∨ j = vs) w W := HMW.out.trans (hm.mono (fun _ _ h => h.elim)) (fun _ _ h => h)
      have hR1 : ∀ j, j < w.heap.size → R1 j → R j := fun j hj hh => (HG3.out j hh).elim id (fun h => absurd hj (Nat.not_lt.2 h))
      have up : ∀ j, ((S j ∨ R1 j) ∨ W.heap.size ≤ j) → (S j ∨ R j) ∨ w.heap.size ≤ j := fun j hj => by
        rcases hj with (hj | hj) | hj
        · exact .inl (.inl hj)
        · exact (HG3.out j hj).imp .inr id
        · exact .inr (Nat.le_trans hmW.size hj)
      refine ⟨rfl, A6, c6, S6, R6, r1, hmW.trans r2 (fun j hj hh => ?_), fun j hj => up j (r3 j hj), fun j hj => up j (r4 j hj), .inr fun ad had => ?_⟩
      · rcases hh with hh | hh | hh
        · exact .inl hh
        · exact .inr (.inl (hR1 j hj hh))
        · exact .inr (.inr hh)
      · rcases r5 with ⟨h1, _⟩ | h1
        · exact HNW.out ad (h1 ▸ had)
        · exact Nat.le_trans hmW.size (h1 ad had)
    clear hd3 hd3' haf HRF HNW HNEW
    go_quiet (fail)
    go_wp2_with fail
    refine (HCK.out _ ((Mod.refl NoneB w3).drewN _)).mono ?_
    intro ez w5 hz
    have hfin := HFIN.out _ _ _ ((Mod.refl NoneB w3).drewN _) hz
    obtain ⟨rfl, _⟩ := hz
    have HF := Lib.hid hfin
    clear hfin
    go_wp2_with fail
    go_ret
    exact HF.out
  · have haf : afterS most ⟨k.d, k.n, k.sk, applyT r l⟩ = ⟨k.d, k.n, k.sk, applyT r l⟩ := if_neg hmo
    have HFIN : Hid (∀ W, Mod NoneB w3 W → RfE w0 w p q vw vs most d A c S R (commitS most ⟨td, n, sk, r⟩ l) (.returned (.int .i64 0)) W) := Lib.hid fun W hm => by
      rw [HCS2.out, haf]
      exact ⟨rfl, A', c', S, R1, HRF.out.mod0 hm, HMW.out.trans (hm.mono (fun _ _ h => h.elim)) (fun _ _ h => h), fun j hj => .inl (.inl hj), fun j hj => (HG3.out j hj).imp .inr id, .inr HNW.out⟩
    clear haf HRF HNW HNEW
    go_quiet (fail)
    go_wp2_with fail
    go_ret
    exact HFIN.out _ ((Mod.refl NoneB w3).drewN _)
end Go.Proofs.YtnlmfmceogbomaaGreatDoor
