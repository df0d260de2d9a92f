/- The reference's log. -/
import Derived.Test.YtnlmfmceogbomaaGreatDoorWlAQq
import Derived.Test.YtnlmfmceogbomaaGreatDoorBatRQq
import Derived.Test.YtnlmfmceogbomaaGreatDoorRdDQq
namespace Go.Proofs.YtnlmfmceogbomaaGreatDoor
open Go.RowKit
set_option linter.unusedVariables false

/-- The reference's log's block. -/
def rwblk (p n : Nat) (sk : Bool) : Obj := .cells #[.pointer (some ⟨p, 0, none⟩), .int .i64 n, .bool sk] 67
def RWTo (N : Nat) (w : World) (S : Nat → Prop) (p q : Nat) (d' : Dk) (n' : Nat) (sk' : Bool) (w' : World) : Prop :=
  ∃ S', IsR N w' p d' S' ∧ Mod (fun k => S k ∨ k = q) w w' ∧ (∀ k, S' k → S k ∨ w.heap.size ≤ k) ∧ w'.heap[q]? = some (rwblk p n' sk')
theorem RStep.of0 {N : Nat} {w w1 w' : World} {S : Nat → Prop} {p : Nat} {d' : Dk} (hm : Mod NoneB w w1) (h : RStep N w1 S p d' w') : RStep N w S p d' w' := by
  obtain ⟨S', h1, h2, h3⟩ := h
  exact ⟨S', h1, (hm.mono (fun _ _ h => h.elim)).trans h2 (fun k _ hk => hk), fun k hk => (h3 k hk).imp id (fun h => Nat.le_trans hm.size h)⟩
theorem RStep.wto {N : Nat} {w w' : World} {S : Nat → Prop} {p q n : Nat} {sk : Bool} {d' : Dk} (h : RStep N w S p d' w') (hq : w.heap[q]? = some (rwblk p n sk)) (hqS : ¬ S q) : RWTo N w S p q d' n sk w' := by
  obtain ⟨S', h1, h2, h3⟩ := h
  exact ⟨S', h1, h2.mono (fun _ _ h => .inl h), h3, h2.blk hq hqS⟩
theorem RWTo.setN {N : Nat} {w w1 : World} {S : Nat → Prop} {p q n : Nat} {sk : Bool} {d1 : Dk} (h : RWTo N w S p q d1 n sk w1) (hqS : ¬ S q) (hlt : q < w.heap.size) (hqN : N ≤ q) (n' : Nat) : RWTo N w S p q d1 n' sk (w1.setCell ⟨q, 1, none⟩ (.int .i64 n')) := by
  obtain ⟨S', h1, h2, h3, h4⟩ := h
  have hqS' : ¬ S' q := fun hh => (h3 q hh).elim hqS (fun h => by omega)
  have hs : Mod (fun k => k = q) w1 (w1.setCell ⟨q, 1, none⟩ (.int .i64 n')) := (Mod.refl (fun k => k = q) w1).setCell (p := ⟨q, 1, none⟩) (fun _ => rfl) _
  refine ⟨S', h1.mod hs (fun k hk he => hqS' (by rw [← he]; exact hk)) (fun k hk => by rw [hk]; exact hqN), h2.trans (hs.mono (fun _ _ h => .inr h)) (fun k _ hk => hk), h3, ?_⟩
  exact (setCell_blk0 h4).trans rfl
theorem RWTo.setS {N : Nat} {w w1 : World} {S : Nat → Prop} {p q n : Nat} {sk : Bool} {d1 : Dk} (h : RWTo N w S p q d1 n sk w1) (hqS : ¬ S q) (hlt : q < w.heap.size) (hqN : N ≤ q) (sk' : Bool) : RWTo N w S p q d1 n sk' (w1.setCell ⟨q, 2, none⟩ (.bool sk')) := by
  obtain ⟨S', h1, h2, h3, h4⟩ := h
  have hqS' : ¬ S' q := fun hh => (h3 q hh).elim hqS (fun h => by omega)
  have hs : Mod (fun k => k = q) w1 (w1.setCell ⟨q, 2, none⟩ (.bool sk')) := (Mod.refl (fun k => k = q) w1).setCell (p := ⟨q, 2, none⟩) (fun _ => rfl) _
  refine ⟨S', h1.mod hs (fun k hk he => hqS' (by rw [← he]; exact hk)) (fun k hk => by rw [hk]; exact hqN), h2.trans (hs.mono (fun _ _ h => .inr h)) (fun k _ hk => hk), h3, ?_⟩
  exact (setCell_blk0 h4).trans rfl

/-- Reset. -/
def RResetE (N : Nat) (w : World) (S : Nat → Prop) (p q : Nat) (r : Cm) (e : Ending) (w' : World) : Prop := e = .returned (.int .i64 r.e) ∧ RWTo N w S p q r.d r.n r.sk w'
set_option maxHeartbeats 1000000 in
set_option maxRecDepth 100000 in
theorem rwreset_calls (N : Nat) (w : World) (p q : Nat) (d : Dk) (S : Nat → Prop) (n : Nat) (sk : Bool) (hd : IsR N w p d S) (hq : w.heap[q]? = some (rwblk p n sk)) (hqS : ¬ S q) (hqN : N ≤ q) (hc : d.c < 4611686018427387904) (hl : d.fs.length ≤ 1000000) (hu : usedF d.fs ≤ 70368744177664) :
    Calls Tryz.prog 58 #[.pointer (some ⟨q, 0, none⟩)] w (RResetE N w S p q (resetW d n sk)) := by
  have y0 : w.cell? ⟨q, 0, none⟩ = some (.pointer (some ⟨p, 0, none⟩)) := by rw [blk_cell hq]; rfl
  have y2 : w.cell? ⟨q, 2, none⟩ = some (.bool sk) := by rw [blk_cell hq]; rfl
  have hlt := blk_lt hq
  cases sk with
  | true =>
    have hr : resetW d n true = ⟨d, n, true, 8⟩ := rfl
    have HR := Lib.hid hr
    clear hr y0
    go_enter Tryz.func58, Tryz.ntmps58
    go_wp2_with fail
    go_ret
    rw [HR.out]
    exact ⟨rfl, S, hd, Mod.refl _ _, fun k hk => .inl hk, hq⟩
  | false =>
    have hct := rcut_calls N w p d S sLog 0 hd ⟨hc, hl, by omega⟩ hu
    have HCT := Lib.hid hct
    have HR : Hid (resetW d n false = resetD d n) := Lib.hid rfl
    have HQ := Lib.hid hq
    clear hct hd hc hl hq
    obtain ⟨e0, he0⟩ : ∃ e, e = (cutD d sLog 0).2 := ⟨_, rfl⟩
    rw [← he0] at HCT
    go_enter Tryz.func58, Tryz.ntmps58
    go_wp2_with fail
    refine HCT.out.mono ?_
    rintro e w1 ⟨rfl, hs⟩
    have hw := hs.wto HQ.out hqS
    have hb1 : w1.heap[q]? = some (rwblk p n false) := by obtain ⟨_, _, _, _, h⟩ := hw; exact h
    have f1 : w1.frozen? ⟨q, 1, none⟩ = false := blk_frozen hb1 1
    have f2 : w1.frozen? ⟨q, 2, none⟩ = false := blk_frozen hb1 2
    have z1 : w1.cell? ⟨q, 1, none⟩ = some (.int .i64 n) := by rw [blk_cell hb1]; rfl
    have z2 : w1.cell? ⟨q, 2, none⟩ = some (.bool false) := by rw [blk_cell hb1]; rfl
    have HW := Lib.hid hw
    clear hs hw
    by_cases h0 : e0 = 0
    · have hr : resetD d n = ⟨(cutD d sLog 0).1, 0, false, 0⟩ := if_pos (by rw [← he0]; exact h0)
      subst h0
      have HRD := Lib.hid hr
      have hb2 : (w1.setCell ⟨q, 1, none⟩ (.int .i64 0)).heap[q]? = some (rwblk p 0 false) := (setCell_blk0 hb1).trans rfl
      have f3 : (w1.setCell ⟨q, 1, none⟩ (.int .i64 0)).frozen? ⟨q, 2, none⟩ = false := blk_frozen hb2 2
      have z3 : (w1.setCell ⟨q, 1, none⟩ (.int .i64 0)).cell? ⟨q, 2, none⟩ = some (.bool false) := by rw [blk_cell hb2]; rfl
      clear hr he0 y0 y2 hb1 hb2
      go_wp2_with fail
      go_ret
      rw [HR.out, HRD.out]
      exact ⟨rfl, (HW.out.setN hqS hlt hqN 0).setS hqS hlt hqN false⟩
    · have hr : resetD d n = ⟨(cutD d sLog 0).1, n, decide (e0 = 7), e0⟩ := by
        unfold resetD
        rw [if_neg (by rw [← he0]; exact h0), ← he0]
      have HRD := Lib.hid hr
      have q0 : (((e0 : Nat) : Int) == 0) = false := beq_eq_false_iff_ne.mpr (by omega)
      clear hr he0 y0 y2 hb1
      by_cases h7 : e0 = 7
      · subst h7
        go_wp2_with fail
        go_ret
        rw [HR.out, HRD.out]
        exact ⟨rfl, HW.out.setS hqS hlt hqN true⟩
      · have q7 : (((e0 : Nat) : Int) == 7) = false := beq_eq_false_iff_ne.mpr (by omega)
        have hd7 : decide (e0 = 7) = false := decide_eq_false h7
        have HD7 := Lib.hid hd7
        clear hd7 h7
        go_wp2_with fail
        go_ret
        rw [HR.out, HRD.out, HD7.out]
        exact ⟨rfl, HW.out.setS hqS hlt hqN false⟩

/-- Commit. -/
def RCommitE (N : Nat) (w : World) (S : Nat → Prop) (p q : Nat) (r : Cm) (e : Ending) (w' : World) : Prop := e = .returned (.int .i64 r.e) ∧ RWTo N w S p q r.d r.n r.sk w'
set_option maxHeartbeats 4000000 in
set_option maxRecDepth 100000 in
theorem rwcommit_calls (N : Nat) (w : World) (p q : Nat) (d : Dk) (S : Nat → Prop) (n : Nat) (sk : Bool) (l : List Op3) (A : Option Addr) (c : Nat) (hd : IsR N w p d S) (hq : w.heap[q]? = some (rwblk p n sk)) (hqS : ¬ S q) (hqN : N ≤ q) (hr : Rd w 3 A l.length (encOs l)) (hs : SmallO l)
    (hn : n ≤ 70368744177664) (hc : d.c + 3 < 4611686018427387904) (hl : d.fs.length + 3 ≤ 1000000) (hsz : usedF d.fs + (opsR l).1.length ≤ 70368744177664) (hcap : d.p.cap ≤ 9223372036854775807) :
    Calls Tryz.prog 59 #[.pointer (some ⟨q, 0, none⟩), .slice A l.length c] w (RCommitE N w S p q (commitW d n sk l)) := by
  have hlt := blk_lt hq
  have y0 : w.cell? ⟨q, 0, none⟩ = some (.pointer (some ⟨p, 0, none⟩)) := by rw [blk_cell hq]; rfl
  have y2 : w.cell? ⟨q, 2, none⟩ = some (.bool sk) := by rw [blk_cell hq]; rfl
  cases sk with
  | true =>
    have hr' : commitW d n true l = ⟨d, n, true, 8⟩ := rfl
    have HR := Lib.hid hr'
    clear hr' y0 hs hn hc hl hsz
    go_enter Tryz.func59, Tryz.ntmps59
    go_wp2_with fail
    go_ret
    rw [HR.out]
    exact ⟨rfl, S, hd, Mod.refl _ _, fun k hk => .inl hk, hq⟩
  | false =>
    have hen := rops_calls l A c w hr (fun o ho => by have := hs o ho; omega)
    rw [opsX_small hs] at hen
    obtain ⟨r, hrr⟩ : ∃ r, r = opsR l := ⟨_, rfl⟩
    rw [← hrr] at hen hsz
    have HEN := Lib.hid hen
    have HRR := Lib.hid hrr
    have HD := Lib.hid hd
    have HQ := Lib.hid hq
    have HCW : Hid (commitW d n false l = commitD d n l) := Lib.hid rfl
    clear hen hrr hd hq hs hr
    go_enter Tryz.func59, Tryz.ntmps59
    go_wp2_with fail
    refine HEN.out.mono ?_
    rintro e w2 ⟨v2, rfl, ho2, hm2, hn2⟩
    have hd2 := HD.out.mod0 hm2
    have hq2 := hm2.blk HQ.out (fun h => h)
    have hlt2 := blk_lt hq2
    by_cases he : r.2 = 0
    case neg =>
      have hcm : commitD d n l = ⟨d, n, false, r.2⟩ := by
        unfold commitD
        rw [← HRR.out, if_neg he]
      have HCM := Lib.hid hcm
      have q0 : (((r.2 : Nat) : Int) != 0) = true := bne_iff_ne.mpr (by omega)
      have q0' : (((r.2 : Nat) : Int) == 0) = false := beq_eq_false_iff_ne.mpr (by omega)
      obtain ⟨A2, c2, rfl, _⟩ := ho2.nilD0
      clear hcm y0 y2 ho2 hn2
      go_wp2_with fail
      go_ret
      rw [HCW.out, HCM.out]
      exact ⟨rfl, S, hd2, hm2.mono (fun _ _ h => h.elim), fun k hk => .inl hk, hq2⟩
    obtain ⟨b, e⟩ := r
    simp only at he hsz ho2
    subst he
    obtain ⟨A2, c2, rfl, hrb⟩ := ho2.nilD0
    have hnb : ∀ ad, A2 = some ad → ¬ S ad.block := fun ad had hS => by
      subst had
      have h1 := hn2 ad.block rfl
      have h2 := HD.out.lt hS
      omega
    have hsz' := hm2.size
    have k0 : w2.cell? ⟨q, 0, none⟩ = some (.pointer (some ⟨p, 0, none⟩)) := by rw [blk_cell hq2]; rfl
    have hap := rappend_calls N w2 p d S sLog b A2 c2 hd2 ⟨by omega, by omega, by omega⟩ hrb (fun _ => hnb) hsz hcap
    have hga := (append_grow d sLog b).ok
    obtain ⟨a1, ha1⟩ : ∃ a, a = appendD d sLog b := ⟨_, rfl⟩
    rw [← ha1] at hap hga
    have hwr : writeD d b = tryD a1 (fun d => syncD d sLog) := by rw [ha1]; rfl
    have HAP := Lib.hid hap
    have HWR := Lib.hid hwr
    have HQ2 := Lib.hid hq2
    have HM2 := Lib.hid hm2
    clear ho2 hn2 hrb hnb hap hwr y0 y2 hd2 hm2
    go_wp2_with fail
    refine HAP.out.mono ?_
    rintro e w3 ⟨rfl, S3, hd3, hm3, hn3⟩
    have hq3 := hm3.blk HQ2.out hqS
    have hqS3 : ¬ S3 q := fun h => (hn3 q h).elim hqS (fun h => by omega)
    have z0 : w3.cell? ⟨q, 0, none⟩ = some (.pointer (some ⟨p, 0, none⟩)) := by rw [blk_cell hq3]; rfl
    have HQ3 := Lib.hid hq3
    have HD3 := Lib.hid hd3
    have HM3 := Lib.hid hm3
    have HN3 := Lib.hid hn3
    have hw3 : w2.heap.size ≤ w3.heap.size := hm3.size
    obtain ⟨e1, he1⟩ : ∃ e, e = a1.2 := ⟨_, rfl⟩
    rw [← he1]
    have HE1 := Lib.hid he1
    clear he1 hq3 hd3 hm3 hn3 k0 HAP
    go_upto_if 26 with fail
    go_cut [6] (fun ev wx => ev = .int .i64 ((writeD d b).2 : Nat) ∧ RStep N w3 S3 p (writeD d b).1 wx)
    case first =>
      by_cases h0 : e1 = 0
      · have hwb : writeD d b = syncD a1.1 sLog := by rw [HWR.out, tryD_ok (by rw [← HE1.out]; exact h0)]
        have hsy := rsync_calls N w3 p a1.1 S3 sLog HD3.out ⟨by omega, by omega, by omega⟩
        rw [← hwb] at hsy
        have HSY := Lib.hid hsy
        subst h0
        clear hsy hwb
        go_wp2_with fail
        refine HSY.out.mono ?_
        rintro e w4 ⟨rfl, hs⟩
        go_wp2_with fail
        go_meet
        case rel => exact ⟨rfl, hs⟩
      · have hwb : writeD d b = a1 := by rw [HWR.out, tryD_bad (by rw [← HE1.out]; exact h0)]
        have HWB := Lib.hid hwb
        have q0' : (((e1 : Nat) : Int) == 0) = false := beq_eq_false_iff_ne.mpr (by omega)
        clear hwb
        go_wp2_with fail
        go_meet
        case rel => rw [HWB.out, ← HE1.out]; exact ⟨rfl, S3, HD3.out, Mod.refl _ _, fun k hk => .inl hk⟩
    case rest =>
      obtain ⟨rfl, S5, hd5, hm5, hn5⟩ := hcut
      obtain ⟨wr5, hwr5⟩ : ∃ a, a = writeD d b := ⟨_, rfl⟩
      rw [← hwr5] at hd5 ⊢
      have hgw : wr5.1.c ≤ d.c + 2 ∧ wr5.1.fs.length ≤ d.fs.length + 2 ∧ usedF wr5.1.fs ≤ usedF d.fs + b.length := by
        rw [hwr5, HWR.out]
        by_cases h0 : a1.2 = 0
        · rw [tryD_ok h0]
          have h2 := (sync_grow a1.1 sLog).ok
          omega
        · rw [tryD_bad h0]
          omega
      have hm5w : Mod (fun k => S k ∨ k = q) w wc := by
        have x1 : Mod (fun k => S k ∨ k = q) w w3 := (HM2.out.mono (fun _ _ h => h.elim)).trans HM3.out (fun k _ h => .inl h)
        exact x1.trans hm5 (fun k hk h => (HN3.out k h).elim .inl (fun h => by omega))
      have hn5w : ∀ k, S5 k → S k ∨ w.heap.size ≤ k := fun k hk => by
        rcases hn5 k hk with h | h
        · exact (HN3.out k h).imp id (fun h => by omega)
        · exact .inr (by omega)
      have hq5 : wc.heap[q]? = some (rwblk p n false) := hm5.blk HQ3.out hqS3
      have hto : RWTo N w S p q wr5.1 n false wc := ⟨S5, hd5, hm5w, hn5w, hq5⟩
      have hqS5 : ¬ S5 q := fun h => (hn5w q h).elim hqS (fun h => by omega)
      have k0 : wc.cell? ⟨q, 0, none⟩ = some (.pointer (some ⟨p, 0, none⟩)) := by rw [blk_cell hq5]; rfl
      have k1 : wc.cell? ⟨q, 1, none⟩ = some (.int .i64 n) := by rw [blk_cell hq5]; rfl
      have k2 : wc.cell? ⟨q, 2, none⟩ = some (.bool false) := by rw [blk_cell hq5]; rfl
      have f1 : wc.frozen? ⟨q, 1, none⟩ = false := blk_frozen hq5 1
      have f2 : wc.frozen? ⟨q, 2, none⟩ = false := blk_frozen hq5 2
      have hcm : commitD d n l = if wr5.2 = 0 then ⟨wr5.1, n + b.length, false, 0⟩ else if wr5.2 = 7 then ⟨wr5.1, n, true, 7⟩ else ⟨(cutD wr5.1 sLog n).1, n, decide ((cutD wr5.1 sLog n).2 ≠ 0), wr5.2⟩ := by
        unfold commitD
        rw [← HRR.out, hwr5]
        exact if_pos rfl
      have HCM := Lib.hid hcm
      have HTO := Lib.hid hto
      have HD5 := Lib.hid hd5
      have HQ5 := Lib.hid hq5
      have HM5 := Lib.hid hm5w
      have HN5 := Lib.hid hn5w
      have hNw : N ≤ wc.heap.size := by have := blk_lt hq5; omega
      obtain ⟨d5, e5⟩ := wr5
      simp only at hgw HCM HTO HD5
      clear hcm hto hd5 hq5 hm5w hn5w hwr5 hm5 hn5 z0
      by_cases h0 : e5 = 0
      · subst h0
        have hwn : (n : Int) + (b.length : Int) = ((n + b.length : Nat) : Int) := by omega
        have hbl : b.length ≤ 70368744177664 := by omega
        have HWN := Lib.hid hwn
        have e1 : IntKind.i64.wrap ((n : Int) + (b.length : Int)) = (n : Int) + (b.length : Int) := IntWalk.i64_in _ (by omega)
        have HC : Hid (commitW d n false l = ⟨d5, n + b.length, false, 0⟩) := Lib.hid (by rw [HCW.out, HCM.out]; rfl)
        clear hwn HCM
        go_wp2_with fail
        go_ret
        rw [HC.out]
        refine ⟨rfl, ?_⟩
        have h := HTO.out.setN hqS hlt hqN (n + b.length)
        rw [← HWN.out] at h
        exact h
      · have q0 : (((e5 : Nat) : Int) == 0) = false := beq_eq_false_iff_ne.mpr (by omega)
        by_cases h7 : e5 = 7
        · subst h7
          have HC : Hid (commitW d n false l = ⟨d5, n, true, 7⟩) := Lib.hid (by rw [HCW.out, HCM.out]; rfl)
          clear HCM
          go_wp2_with fail
          go_ret
          rw [HC.out]
          exact ⟨rfl, HTO.out.setS hqS hlt hqN true⟩
        · have q7 : (((e5 : Nat) : Int) == 7) = false := beq_eq_false_iff_ne.mpr (by omega)
          have hcu := rcut_calls N wc.drew p d5 S5 sLog n (HD5.out.mod0 (Mod.refl NoneB wc).drew) ⟨by omega, by omega, hNw⟩ (by omega)
          obtain ⟨ac, hac⟩ : ∃ a, a = cutD d5 sLog n := ⟨_, rfl⟩
          rw [← hac] at hcu
          have HCU : Hid (Calls Tryz.prog 98 #[.pointer (some ⟨p, 0, none⟩), .string ⟨#[108, 111, 103]⟩, .int .i64 (n : Int)] wc.drew fun e w' => e = .returned (.int .i64 (ac.2 : Nat)) ∧ RStep N wc.drew S5 p ac.1 w') := Lib.hid hcu
          have HC : Hid (commitW d n false l = ⟨ac.1, n, decide (ac.2 ≠ 0), e5⟩) := Lib.hid (by rw [HCW.out, HCM.out, if_neg h0, if_neg h7, ← hac])
          have HT : Hid (∀ d2 w', RStep N wc.drew S5 p d2 w' → RWTo N w S p q d2 n false w') := Lib.hid (fun d2 w' h => by
            obtain ⟨S2, x1, x2, x3⟩ := h.of0 (Mod.refl NoneB wc).drew
            exact ⟨S2, x1, HM5.out.trans (x2.mono (fun _ _ h => h)) (fun k hk h5 => (HN5.out k h5).elim (fun h => .inl h) (fun h => absurd hk (Nat.not_lt.2 h))), fun k hk => (x3 k hk).elim (HN5.out k) (fun h => .inr (Nat.le_trans HM5.out.size h)), x2.blk HQ5.out hqS5⟩)
          have hnq : ((ac.2 : Int) != 0) = decide (ac.2 ≠ 0) := by
            rw [Bool.eq_iff_iff]
            simp
          clear hcu hac HCM HTO HD5
          have HB : Hid (∀ d2 w', RStep N wc.drew S5 p d2 w' → w'.cell? ⟨q, 2, none⟩ = some (.bool false) ∧ w'.frozen? ⟨q, 2, none⟩ = false) := Lib.hid (fun d2 w' h => by
            have hq6 : w'.heap[q]? = some (rwblk p n false) := by obtain ⟨_, _, _, _, h⟩ := HT.out _ _ h; exact h
            exact ⟨by rw [blk_cell hq6]; rfl, blk_frozen hq6 2⟩)
          have k0' : wc.drew.cell? ⟨q, 0, none⟩ = some (.pointer (some ⟨p, 0, none⟩)) := k0
          have k1' : wc.drew.cell? ⟨q, 1, none⟩ = some (.int .i64 n) := k1
          clear f1 f2 k2
          go_wp2_with fail
          go_region_law (go_simp; go_at_call 98; (with_reducible refine HCU.out.mono ?_); rintro ez w6 ⟨rfl, hs6⟩; obtain ⟨z2, f6⟩ := HB.out _ _ hs6)
          all_goals
            have hto := HT.out _ _ hs6
            have HTO := Lib.hid hto
            clear hto hs6
            go_wp2_with fail
            go_ret
            rw [HC.out]
            have hb : decide (ac.2 ≠ 0) = !decide (ac.2 = 0) := by rw [Bool.eq_iff_iff]; simp
            refine ⟨rfl, ?_⟩
            show RWTo N w S p q ac.1 n (decide (ac.2 ≠ 0)) _
            rw [hb]
            exact HTO.out.setS hqS hlt hqN _

/-- Open. -/
def ROpenE (N : Nat) (w : World) (S : Nat → Prop) (p : Nat) (d : Dk) (e : Ending) (w' : World) : Prop :=
  ∃ S', IsR N w' p (openD d).1 S' ∧ Mod S w w' ∧ (∀ k, S' k → S k ∨ w.heap.size ≤ k) ∧
    (((openD d).2 = 0 ∧ ∃ q vl vs, e = .returned (.tuple #[.pointer (some ⟨q, 0, none⟩), vl, .int .i64 0]) ∧ w.heap.size ≤ q ∧ ¬ S' q ∧ w'.heap[q]? = some (rwblk p (logN d) false) ∧ BatsAt w' vl w.heap.size (logL d) vs ∧
        (∀ g, vl.ownBlock = some g → ¬ S' g) ∧ (∀ u ∈ vs, ∀ g, u.ownBlock = some g → ¬ S' g)) ∨
     ((openD d).2 ≠ 0 ∧ e = .returned (.tuple #[.pointer none, .slice none 0 0, .int .i64 (openD d).2])))
set_option maxHeartbeats 4000000 in
set_option maxRecDepth 100000 in
theorem rwopen_calls (N : Nat) (w : World) (p : Nat) (d : Dk) (S : Nat → Prop) (hd : IsR N w p d S) (hNw : N ≤ w.heap.size) (hc : d.c + 3 < 4611686018427387904) (hl : d.fs.length + 3 ≤ 1000000) (hu : usedF d.fs ≤ 70368744177664) (hB : (logB d).length ≤ 8000000) :
    Calls Tryz.prog 56 #[.pointer (some ⟨p, 0, none⟩)] w (ROpenE N w S p d) := by
  have hrd := rread_calls N w p d S sLog hd (by omega) hu
  obtain ⟨e0, he0⟩ : ∃ e, e = (readD d sLog).2 := ⟨_, rfl⟩
  obtain ⟨b, hb⟩ : ∃ b, b = logB d := ⟨_, rfl⟩
  have hb' : (readD d sLog).1 = b := hb.symm
  rw [← he0, hb'] at hrd
  rw [← hb] at hB
  have HRD := Lib.hid hrd
  have HD := Lib.hid hd
  have HB := Lib.hid hb
  have HE0 := Lib.hid he0
  clear hrd hd hb hb' he0
  go_enter Tryz.func56, Tryz.ntmps56
  go_wp2_with fail
  refine HRD.out.mono ?_
  rintro e w2 ⟨v2, rfl, ho2, hm2, hn2⟩
  obtain ⟨A2, c2, hv2, hc2, _, hr2⟩ := ho2.out
  subst hv2
  have hnA : ∀ ad, A2 = some ad → w.heap.size ≤ ad.block := fun ad had => by subst had; exact hn2 ad.block rfl
  have hd2 := HD.out.mod0 hm2
  have hnS : ∀ k, w.heap.size ≤ k → ¬ S k := fun k hk h => by have := HD.out.lt h; omega
  have hw2 := hm2.size
  clear ho2 hn2 HRD
  go_upto_if 19 with fail
  go_cut [6] (fun ev wx => ev = .int .i64 ((open1D d).2 : Nat) ∧ RStep N w2 S p (open1D d).1 wx)
  case first =>
    by_cases h3 : e0 = 3
    · subst h3
      have ho : open1D d = createD d sLog := if_pos HE0.out.symm
      have hcr := rcreate_calls N w2 p d S sLog hd2 ⟨by omega, by omega, by omega⟩
      rw [← ho] at hcr
      have HCR := Lib.hid hcr
      clear hcr ho hd2 hr2
      go_wp2_with fail
      refine HCR.out.mono ?_
      rintro e w3 ⟨rfl, hs⟩
      go_wp2_with fail
      go_meet
      case rel => exact ⟨rfl, hs⟩
    · have ho : open1D d = (d, e0) := by
        unfold open1D
        rw [← HE0.out, if_neg h3]
      have q0 : (((e0 : Nat) : Int) == 3) = false := beq_eq_false_iff_ne.mpr (by omega)
      have HO := Lib.hid ho
      clear ho
      go_wp2_with fail
      go_meet
      case rel => rw [HO.out]; exact ⟨rfl, S, hd2, Mod.refl _ _, fun k hk => .inl hk⟩
  case rest =>
    obtain ⟨rfl, S3, hd3, hm3, hn3⟩ := hcut
    rename World => w3
    have hm03 : Mod S w w3 := (hm2.mono (fun _ _ h => h.elim)).trans hm3 (fun k _ h => h)
    have hn03 : ∀ k, S3 k → S k ∨ w.heap.size ≤ k := fun k hk => (hn3 k hk).imp id (fun h => Nat.le_trans hm2.size h)
    have hof := open_fits d
    obtain ⟨o1, ho1⟩ : ∃ a, a = open1D d := ⟨_, rfl⟩
    rw [← ho1] at hd3 hof ⊢
    have hop : openD d = tryD (tryD o1 (open2D (logN d) b)) fun d => syncD d sLog := by rw [ho1, HB.out]; rfl
    have HOP := Lib.hid hop
    clear hop ho1
    by_cases h1 : o1.2 = 0
    case neg =>
      have hop : openD d = o1 := by
        rw [HOP.out, tryD_bad h1, tryD_bad h1]
      have HO := Lib.hid hop
      have q0 : (((o1.2 : Nat) : Int) != 0) = true := bne_iff_ne.mpr (by omega)
      have q0' : (((o1.2 : Nat) : Int) == 0) = false := beq_eq_false_iff_ne.mpr (by omega)
      clear hop hr2 hd2
      go_wp2_with fail
      go_ret3
      refine ⟨S3, by rw [HO.out]; exact hd3, hm03, hn03, .inr ⟨by rw [HO.out]; exact h1, ?_⟩⟩
      rw [HO.out]
      rfl
    case pos =>
      have hrb3 : Rd w3 1 A2 b.length (encB b) := hr2.modP hm3 (fun _ ad had => hnS _ (hnA ad had))
      have hsb : (scanB b).length ≤ 1000000 := by
        have h1 := scanB_good b
        have h2 := goodOf_len (scanB b)
        omega
      have hpl : ∀ q ∈ scanB b, q.length ≤ 140737488355328 := fun q hq => by
        have h1 := scanB_good b
        have h2 := goodOf_mem (scanB b) q hq
        omega
      have HSB := Lib.hid hsb
      have HPL := Lib.hid hpl
      have hus := replayB_used (scanB b)
      have hN : logN d = goodOf ((scanB b).take (replayB (scanB b)).2) := by unfold logN; rw [← HB.out]
      have hL : logL d = (replayB (scanB b)).1 := by unfold logL; rw [← HB.out]
      have hNle : logN d ≤ b.length := by rw [HB.out]; exact logN_le d
      have HN := Lib.hid hN
      have HL := Lib.hid hL
      have HUS := Lib.hid hus
      have HD3 := Lib.hid hd3
      have hwc : w.heap.size ≤ w3.heap.size := hm03.size
      clear hsb hpl hN hL hus hr2 hd2 hd3
      rw [h1]
      go_wp2_with fail
      refine (rscan_calls b A2 c2 w3 hrb3 (by omega) hc2).mono ?_
      rintro e w4 ⟨v4, vs4, rfl, hla, hm4⟩
      obtain ⟨qs, A4, c4, rfl, hbs, hrq, hqc, hpo⟩ := hla.parts HPL.out
      have hql : qs.length = (scanB b).length := by rw [← hbs]; simp [bsOf]
      have HQL := Lib.hid hql
      have hq6 : qs.length ≤ 1000000 := by have := HSB.out; omega
      clear hla hql
      go_wp2_with fail
      refine (rreplay_calls qs A4 c4 w4 hrq hpo hq6).mono ?_
      rintro e w5 ⟨v5, vs5, rfl, hba, hm5⟩
      rw [hbs] at hba
      have hrq5 := hrq.mod0 hm5
      obtain ⟨A5, c5, rfl, _⟩ := hba.rd
      have hgv : ∀ g, (Value.slice A5 (replayB (scanB b)).1.length c5).ownBlock = some g → w3.heap.size ≤ g ∧ g < w5.heap.size := fun g hg => ⟨Nat.le_trans hm4.size (hba.new g hg), hba.own.lt hg⟩
      have hgu : ∀ u ∈ vs5, ∀ g, u.ownBlock = some g → w3.heap.size ≤ g ∧ g < w5.heap.size := fun u hu g hg => ⟨Nat.le_trans hm4.size (hba.newB u hu g hg), by
        obtain ⟨l, hl⟩ := hba.entOf u hu
        exact hl.lt hg⟩
      obtain ⟨us, hus⟩ : ∃ u, u = (replayB (bsOf qs)).2 := ⟨_, rfl⟩
      have husl : us ≤ qs.length := by rw [hus, hbs, HQL.out]; exact HUS.out
      have hNu : logN d = goodOf ((scanB b).take us) := by rw [HN.out, hus, hbs]
      rw [← hus]
      have hm35 := hm4.then0 hm5
      have HGV := Lib.hid hgv
      have HGU := Lib.hid hgu
      have HBA := Lib.hid hba
      have HNU := Lib.hid hNu
      have HBS := Lib.hid hbs
      clear hgv hgu hba hrq hus hNu hbs hpo hrb3 hc2
      go_wp2_with fail
      go_loopw [11, 12] (fun n i wr => ∃ j : Nat, i = .int .i64 j ∧ j ≤ us ∧ n = .int .i64 (goodOf ((scanB b).take j) : Nat) ∧ wr = w5) (fun _ i _ => us - (intOf i).toNat)
      case atStart => exact ⟨0, rfl, by omega, by simp [goodOf], rfl⟩
      case round =>
        obtain ⟨j, rfl, hj, rfl, hwr⟩ := hrel
        have hwr2 := hwr.symm
        clear hwr
        subst hwr2
        by_cases hlt : j < us
        · have hjq : j < qs.length := by omega
          obtain ⟨ad, hA4, h0, _⟩ := Rd.elem (f := encPart) (fun _ => rfl) hrq5 (by decide) j hjq
          have y0 := h0 _ rfl
          rw [Nat.mul_one] at y0
          have hjs : j < (scanB b).length := by rw [← HQL.out]; exact hjq
          have hbj2 : qs[j].b = (scanB b)[j] := by
            have h := HBS.out
            have h2 : (bsOf qs)[j]'(by rw [h]; exact hjs) = qs[j].b := by simp [bsOf]
            rw [← h2]
            simp only [h]
          have hgs := goodOf_take_succ (scanB b) j hjs
          rw [← hbj2] at hgs
          have hgl : goodOf ((scanB b).take j) ≤ 8000000 := by
            have h1 := goodOf_take_le (scanB b) j
            have h2 := scanB_good b
            omega
          have hgl2 : goodOf ((scanB b).take (j + 1)) ≤ 8000000 := by
            have h1 := goodOf_take_le (scanB b) (j + 1)
            have h2 := scanB_good b
            omega
          obtain ⟨x, hx⟩ : ∃ x, x = qs[j].b.length := ⟨_, rfl⟩
          obtain ⟨g, hg⟩ : ∃ g, g = goodOf ((scanB b).take j) := ⟨_, rfl⟩
          rw [← hx, ← hg] at hgs
          rw [← hx] at y0
          rw [← hg] at hgl ⊢
          have HGS := Lib.hid hgs
          have hxl : x ≤ 8000000 := by omega
          have q2 : (0 : Int) ≤ (j : Int) := by omega
          have q3 : (j : Int) < (us : Int) := by omega
          have q4 : (j : Int) < (qs.length : Int) := by omega
          subst hA4
          clear hgs hx hg h0 hbj2
          go_wp2_with fail
          go_roundw
          case rel => exact ⟨j + 1, by go_num, by omega, by rw [HGS.out]; go_num, by first | rfl | trivial⟩
          case measure => simp [intOf]; omega
        · obtain rfl : j = us := by omega
          rw [← HNU.out]
          have hm3r : Mod NoneB w3 w5 := hm35
          have hd5 := HD3.out.mod0 hm3r
          have h2f := open2_fits (logN d) b o1.1
          obtain ⟨n, hnn⟩ : ∃ n, n = logN d := ⟨_, rfl⟩
          rw [← hnn] at hNle HOP h2f ⊢
          have HNN := Lib.hid hnn
          have hw35 := hm3r.size
          have hS3lt : ∀ k, S3 k → k < w3.heap.size := fun k hk => HD3.out.lt hk
          -- behind the last call, from a world behind the cut on
          have hfin : ∀ (S7 : Nat → Prop) (w7 : World) (o2 : Ans), o2 = open2D n b o1.1 → IsR N w7 p o2.1 S7 → Mod S3 w5 w7 → (∀ k, S7 k → S3 k ∨ w5.heap.size ≤ k) →
              Mod S w w7 ∧ (∀ k, S7 k → S k ∨ w.heap.size ≤ k) ∧ (∀ g, w3.heap.size ≤ g → g < w5.heap.size → ¬ S7 g) ∧ BatsAt w7 (.slice A5 (replayB (scanB b)).1.length c5) w.heap.size (logL d) vs5 := by
            intro S7 w7 o2 _ hd7 hm7 hn7
            have hold : ∀ g, w3.heap.size ≤ g → g < w5.heap.size → ¬ S3 g ∧ ¬ S7 g := fun g h1 h2 => by
              have hn3 : ¬ S3 g := fun h => by have := hS3lt g h; omega
              exact ⟨hn3, fun h => (hn7 g h).elim hn3 (fun h => by omega)⟩
            have x1 : Mod S w w5 := hm03.trans (hm3r.mono (fun _ _ h => h.elim)) (fun k _ h => h)
            refine ⟨x1.trans hm7 (fun k hk h => (hn03 k h).elim id (fun h => absurd hk (Nat.not_lt.2 h))), fun k hk => ?_, fun g h1 h2 => (hold g h1 h2).2, ?_⟩
            · rcases hn7 k hk with h | h
              · exact hn03 k h
              · exact .inr (by omega)
            · have x2 : BatsAt w5 (.slice A5 (replayB (scanB b)).1.length c5) w.heap.size (logL d) vs5 := by
                rw [HL.out]
                exact ⟨HBA.out.own, HBA.out.len, HBA.out.ent, HBA.out.one, fun g hg => Nat.le_trans hwc (HGV.out g hg).1, fun u hu g hg => Nat.le_trans hwc (HGU.out u hu g hg).1⟩
              exact x2.mod hm7 (fun g hg => (hold g (HGV.out g hg).1 (HGV.out g hg).2).1) (fun u hu g hg => (hold g (HGU.out u hu g hg).1 (HGU.out u hu g hg).2).1)
          have HFIN := Lib.hid hfin
          have huf2 : usedF (open2D n b o1.1).1.fs ≤ usedF o1.1.fs := by
            unfold open2D
            split
            · have := (cut_grow o1.1 sLog n).ok; omega
            · exact Nat.le_refl _
          clear hnn hrq5 hfin
          by_cases hlt2 : n < b.length
          · have ho2 : open2D n b o1.1 = cutD o1.1 sLog n := if_pos hlt2
            have hcu := rcut_calls N w5 p o1.1 S3 sLog n hd5 ⟨by omega, by omega, by omega⟩ (by omega)
            rw [← ho2] at hcu
            have HCU := Lib.hid hcu
            have q7 : (n : Int) < (b.length : Int) := by omega
            clear hcu ho2 hd5
            go_wp2_with fail
            refine HCU.out.mono ?_
            rintro e w7 ⟨rfl, S7, hd7, hm7, hn7⟩
            by_cases h2 : (open2D n b o1.1).2 = 0
            · rw [h2]
              have hfi := HFIN.out S7 w7 _ rfl hd7 hm7 hn7
              have HFI := Lib.hid hfi
              have ho : openD d = syncD (open2D n b o1.1).1 sLog := by rw [HOP.out, tryD_ok h1]; exact tryD_ok h2
              have hsy := rsync_calls N w7 p (open2D n b o1.1).1 S7 sLog hd7 ⟨by omega, by omega, by have := hm7.size; omega⟩
              rw [← ho] at hsy
              have HSY := Lib.hid hsy
              have HM7 := Lib.hid hm7
              clear hsy ho hd7 hm7 hn7 hfi
              go_wp2_with fail
              refine HSY.out.mono ?_
              rintro e w8 ⟨rfl, S8, hd8, hm8, hn8⟩
              have h78 : Mod S w w8 ∧ (∀ k, S8 k → S k ∨ w.heap.size ≤ k) ∧ (∀ g, w3.heap.size ≤ g → g < w5.heap.size → ¬ S8 g) ∧ BatsAt w8 (.slice A5 (replayB (scanB b)).1.length c5) w.heap.size (logL d) vs5 := by
                obtain ⟨x1, x2, x3, x4⟩ := HFI.out
                have h57 := HM7.out.size
                refine ⟨x1.trans hm8 (fun k hk h => (x2 k h).elim id (fun h => absurd hk (Nat.not_lt.2 h))), fun k hk => (hn8 k hk).elim (x2 k) (fun h => .inr (Nat.le_trans x1.size h)), fun g g1 g2 h => (hn8 g h).elim (x3 g g1 g2) (fun h => by omega), ?_⟩
                exact x4.mod hm8 (fun g hg => x3 g (HGV.out g hg).1 (HGV.out g hg).2) (fun u hu g hg => x3 g (HGU.out u hu g hg).1 (HGU.out u hu g hg).2)
              have H8 := Lib.hid h78
              have HD8 := Lib.hid hd8
              clear h78 hm8 hn8 hd8 HFI HM7
              by_cases he : (openD d).2 = 0
              · rw [he]
                have hal : Mod NoneB w8 (w8.alloc (rwblk p n false)) := (Mod.refl NoneB w8).alloc _
                have hbx := box1 w8 (rwblk p n false)
                have HAL := Lib.hid hal
                have HBX := Lib.hid hbx
                clear hal hbx
                go_wp2_with fail
                go_ret3
                have h8 := HAL.out.size
                refine ⟨S8, HD8.out.mod0 HAL.out, H8.out.1.trans (HAL.out.mono (fun _ _ h => h.elim)) (fun k _ h => h), H8.out.2.1, .inl ⟨he, w8.heap.size, _, vs5, rfl, H8.out.1.size, fun h => by have := HD8.out.lt h; omega, by rw [← HNN.out]; exact HBX.out, H8.out.2.2.2.mod0 HAL.out,
                  fun g hg => H8.out.2.2.1 g (HGV.out g hg).1 (HGV.out g hg).2, fun u hu g hg => H8.out.2.2.1 g (HGU.out u hu g hg).1 (HGU.out u hu g hg).2⟩⟩
              · obtain ⟨ee, hee⟩ : ∃ e, e = (openD d).2 := ⟨_, rfl⟩
                rw [← hee] at he ⊢
                have HEE := Lib.hid hee
                have q9 : (((ee : Nat) : Int) != 0) = true := bne_iff_ne.mpr (by omega)
                have q9' : (((ee : Nat) : Int) == 0) = false := beq_eq_false_iff_ne.mpr (by omega)
                clear hee
                go_wp2_with fail
                go_ret3
                exact ⟨S8, HD8.out, H8.out.1, H8.out.2.1, .inr ⟨by rw [← HEE.out]; exact he, by rw [← HEE.out]; rfl⟩⟩
            · have hop : openD d = open2D n b o1.1 := by rw [HOP.out, tryD_ok h1]; exact tryD_bad h2
              have hfi := HFIN.out S7 w7 _ rfl hd7 hm7 hn7
              have HFI := Lib.hid hfi
              rw [← hop] at hd7
              have HD7 := Lib.hid hd7
              obtain ⟨ee, hee⟩ : ∃ e, e = (open2D n b o1.1).2 := ⟨_, rfl⟩
              have hee2 : ee = (openD d).2 := by rw [hop]; exact hee
              rw [← hee] at h2 ⊢
              have HEE := Lib.hid hee2
              have q9 : (((ee : Nat) : Int) != 0) = true := bne_iff_ne.mpr (by omega)
              have q9' : (((ee : Nat) : Int) == 0) = false := beq_eq_false_iff_ne.mpr (by omega)
              clear hee hee2 hop hfi hd7 hm7 hn7
              go_wp2_with fail
              go_ret3
              exact ⟨S7, HD7.out, HFI.out.1, HFI.out.2.1, .inr ⟨by rw [← HEE.out]; exact h2, by rw [← HEE.out]; rfl⟩⟩
          · have ho2 : open2D n b o1.1 = (o1.1, 0) := if_neg hlt2
            have q7 : ¬ ((n : Int) < (b.length : Int)) := by omega
            have h2 : (open2D n b o1.1).2 = 0 := by rw [ho2]
            have hd7 : IsR N w5 p (open2D n b o1.1).1 S3 := by rw [ho2]; exact hd5
            have hm7 : Mod S3 w5 w5 := Mod.refl _ _
            have hn7 : ∀ k, S3 k → S3 k ∨ w5.heap.size ≤ k := fun k hk => .inl hk
            clear ho2 hd5
            have hfi := HFIN.out S3 w5 _ rfl hd7 hm7 hn7
            have HFI := Lib.hid hfi
            have ho : openD d = syncD (open2D n b o1.1).1 sLog := by rw [HOP.out, tryD_ok h1]; exact tryD_ok h2
            have hsy := rsync_calls N w5 p (open2D n b o1.1).1 S3 sLog hd7 ⟨by omega, by omega, by have := hm7.size; omega⟩
            rw [← ho] at hsy
            have HSY := Lib.hid hsy
            have HM7 := Lib.hid hm7
            clear hsy ho hd7 hm7 hn7 hfi
            go_wp2_with fail
            refine HSY.out.mono ?_
            rintro e w8 ⟨rfl, S8, hd8, hm8, hn8⟩
            have h78 : Mod S w w8 ∧ (∀ k, S8 k → S k ∨ w.heap.size ≤ k) ∧ (∀ g, w3.heap.size ≤ g → g < w5.heap.size → ¬ S8 g) ∧ BatsAt w8 (.slice A5 (replayB (scanB b)).1.length c5) w.heap.size (logL d) vs5 := by
              obtain ⟨x1, x2, x3, x4⟩ := HFI.out
              have h57 := HM7.out.size
              refine ⟨x1.trans hm8 (fun k hk h => (x2 k h).elim id (fun h => absurd hk (Nat.not_lt.2 h))), fun k hk => (hn8 k hk).elim (x2 k) (fun h => .inr (Nat.le_trans x1.size h)), fun g g1 g2 h => (hn8 g h).elim (x3 g g1 g2) (fun h => by omega), ?_⟩
              exact x4.mod hm8 (fun g hg => x3 g (HGV.out g hg).1 (HGV.out g hg).2) (fun u hu g hg => x3 g (HGU.out u hu g hg).1 (HGU.out u hu g hg).2)
            have H8 := Lib.hid h78
            have HD8 := Lib.hid hd8
            clear h78 hm8 hn8 hd8 HFI HM7
            by_cases he : (openD d).2 = 0
            · rw [he]
              have hal : Mod NoneB w8 (w8.alloc (rwblk p n false)) := (Mod.refl NoneB w8).alloc _
              have hbx := box1 w8 (rwblk p n false)
              have HAL := Lib.hid hal
              have HBX := Lib.hid hbx
              clear hal hbx
              go_wp2_with fail
              go_ret3
              have h8 := HAL.out.size
              refine ⟨S8, HD8.out.mod0 HAL.out, H8.out.1.trans (HAL.out.mono (fun _ _ h => h.elim)) (fun k _ h => h), H8.out.2.1, .inl ⟨he, w8.heap.size, _, vs5, rfl, H8.out.1.size, fun h => by have := HD8.out.lt h; omega, by rw [← HNN.out]; exact HBX.out, H8.out.2.2.2.mod0 HAL.out,
                fun g hg => H8.out.2.2.1 g (HGV.out g hg).1 (HGV.out g hg).2, fun u hu g hg => H8.out.2.2.1 g (HGU.out u hu g hg).1 (HGU.out u hu g hg).2⟩⟩
            · obtain ⟨ee, hee⟩ : ∃ e, e = (openD d).2 := ⟨_, rfl⟩
              rw [← hee] at he ⊢
              have HEE := Lib.hid hee
              have q9 : (((ee : Nat) : Int) != 0) = true := bne_iff_ne.mpr (by omega)
              have q9' : (((ee : Nat) : Int) == 0) = false := beq_eq_false_iff_ne.mpr (by omega)
              clear hee
              go_wp2_with fail
              go_ret3
              exact ⟨S8, HD8.out, H8.out.1, H8.out.2.1, .inr ⟨by rw [← HEE.out]; exact he, by rw [← HEE.out]; rfl⟩⟩
end Go.Proofs.YtnlmfmceogbomaaGreatDoor
