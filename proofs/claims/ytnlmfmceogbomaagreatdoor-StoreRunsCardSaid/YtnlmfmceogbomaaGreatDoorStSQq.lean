/- The log and the reference's log, side by side, each on its own disk. -/
import Derived.BigQuiet
import Derived.Test.YtnlmfmceogbomaaGreatDoorWlBQq
import Derived.Test.YtnlmfmceogbomaaGreatDoorStLQq
import Derived.Test.YtnlmfmceogbomaaGreatDoorWalRQq
import Derived.Test.YtnlmfmceogbomaaGreatDoorTwoTQq
import Derived.Test.YtnlmfmceogbomaaGreatDoorSameQq
namespace Go.Proofs.YtnlmfmceogbomaaGreatDoor
open Go.RowKit
set_option linter.unusedVariables false

def NoB7 : Nat → Prop := fun _ => False
/-- The disk d behind p in just the blocks S, the reference's disk r behind q in just the blocks R; all that was in w0 is as it was. -/
structure Tw (w0 w : World) (p q : Nat) (d r : Dk) (S R : Nat → Prop) : Prop where
  isD : IsD w p d S
  isR : IsR w0.heap.size w q r R
  base : Mod NoneB w0 w
  own : ∀ k, S k → w0.heap.size ≤ k
  apart : ∀ k, S k → ¬ R k
structure FitT (d : Dk) : Prop where
  c : d.c ≤ 1000000
  l : d.fs.length ≤ 1000
  u : usedF d.fs ≤ 8000000
  cap : d.p.cap ≤ 9223372036854775807
section
variable {w0 w w1 : World} {p q x v n n2 : Nat} {d r d' : Dk} {S R S' R' : Nat → Prop} {sk sk2 : Bool}
theorem Tw.two (h : Tw w0 w p q d r S R) : Two NoB7 w0 w p q d r :=
  ⟨R, ⟨S, h.isD, Mod.refl _ _, fun k hk hh => by
    rcases hh with hh | hh | hh
    · have := h.own k hk; omega
    · exact hh
    · exact h.apart k hk hh, fun k hh => by
    rcases hh with hh | hh | hh
    · exact Nat.lt_of_lt_of_le hh h.base.size
    · exact hh.elim
    · exact h.isR.lt hh⟩, h.isR, fun _ _ hh => hh, h.base⟩
theorem Tw.toD {T : Nat → Prop} (h : Tw w0 w p q d r S R) (h1 : IsD w1 p d' S') (hm : Mod T w w1) (hT : ∀ k, T k → w0.heap.size ≤ k ∧ ¬ R k) (hn : ∀ k, S' k → S k ∨ w.heap.size ≤ k) : Tw w0 w1 p q d' r S' R :=
  ⟨h1, h.isR.mod hm (fun k hk ht => (hT k ht).2 hk) (fun k ht => (hT k ht).1), h.base.trans_new hm (fun k hk => .inr (hT k hk).1), fun k hk => (hn k hk).elim (h.own k) (Nat.le_trans h.base.size), fun k hk hR => (hn k hk).elim (fun hs => h.apart k hs hR) (fun hs => by have := h.isR.lt hR; omega)⟩
theorem Tw.toR {T : Nat → Prop} (h : Tw w0 w p q d r S R) (h1 : IsR w0.heap.size w1 q d' R') (hm : Mod T w w1) (hT : ∀ k, T k → w0.heap.size ≤ k ∧ ¬ S k) (hn : ∀ k, R' k → R k ∨ w.heap.size ≤ k) : Tw w0 w1 p q d d' S R' :=
  ⟨h.isD.mod hm (fun k hk ht => (hT k ht).2 hk), h1, h.base.trans_new hm (fun k hk => .inr (hT k hk).1), h.own, fun k hk hR => (hn k hR).elim (h.apart k hk) (fun hs => by have := h.isD.lt hk; omega)⟩
def RsD (w0 : World) (p q : Nat) (d' r : Dk) (R : Nat → Prop) (e : Ending) (w' : World) : Prop := e = .returned (.tuple #[]) ∧ ∃ S', Tw w0 w' p q d' r S' R
def RsR (w0 : World) (p q : Nat) (d r' : Dk) (S : Nat → Prop) (e : Ending) (w' : World) : Prop := e = .returned (.tuple #[]) ∧ ∃ R', Tw w0 w' p q d r' S R'
theorem Tw.restart (h : Tw w0 w p q d r S R) (pl : Pl) (F K : Option Addr) (fc kc : Nat) (hF : Rd w0 1 F pl.fail.length (encI pl.fail)) (hK : Rd w0 1 K pl.keep.length (encI pl.keep)) (hf : pl.fail.length ≤ 1099511627776) (hk : pl.keep.length ≤ 1099511627776) (hd : FitT d) :
    Calls Tryz.prog 21 #[.pointer (some ⟨p, 0, none⟩), .agg #[.int .i64 pl.cap, .slice F pl.fail.length fc, .int .i64 pl.crash, .bool pl.done, .slice K pl.keep.length kc]] w (RsD w0 p q (restartD d pl) r R) := by
  refine (restart_calls w p d S pl F K fc kc h.isD (hF.mod0 h.base) (hK.mod0 h.base) (fun hp ad had hs => ?_) (fun hp ad had hs => ?_) hf hk (by have := hd.l; omega) (by have := hd.u; omega)).mono ?_
  · have := hF.block_lt (by decide) hp ad had; have := h.own _ hs; omega
  · have := hK.block_lt (by decide) hp ad had; have := h.own _ hs; omega
  rintro e w1 ⟨rfl, S', h1, h2, h3⟩
  exact ⟨rfl, S', h.toD h1 h2 (fun k hk => ⟨h.own k hk, h.apart k hk⟩) h3⟩
theorem Tw.rrestart (h : Tw w0 w p q d r S R) (pl : Pl) (F K : Option Addr) (fc kc : Nat) (hF : Rd w0 1 F pl.fail.length (encI pl.fail)) (hK : Rd w0 1 K pl.keep.length (encI pl.keep)) (hd : FitT r) :
    Calls Tryz.prog 30 #[.pointer (some ⟨q, 0, none⟩), .agg #[.int .i64 pl.cap, .slice F pl.fail.length fc, .int .i64 pl.crash, .bool pl.done, .slice K pl.keep.length kc]] w (RsR w0 p q d (restartD r pl) S) := by
  refine (rrestart_calls w0.heap.size w q r R pl F K fc kc h.isR h.base.size (hF.mod0 h.base) (hK.mod0 h.base) (hF.block_lt (by decide)) (hK.block_lt (by decide)) (by have := hd.l; omega) (by have := hd.u; omega)).mono ?_
  rintro e w1 ⟨rfl, R', h1, h2, h3⟩
  exact ⟨rfl, R', h.toR h1 h2 (fun k hk => ⟨h.isR.new hk, fun hs => h.apart k hs hk⟩) h3⟩
end
end Go.Proofs.YtnlmfmceogbomaaGreatDoor

/- The reference's store: Check, Commit; beside a disk. -/
namespace Go.Proofs.YtnlmfmceogbomaaGreatDoor
open Go.RowKit
set_option linter.unusedVariables false

/-- The reference's Save beside a disk: the two disks' blocks may turn, no others. -/
def RsE (N : Nat) (p q : Nat) (d r' : Dk) (ec : Nat) (S R : Nat → Prop) (w : World) (e : Ending) (w' : World) : Prop :=
  e = .returned (.int .i64 ec) ∧ ∃ S' R', IsD w' p d S' ∧ IsR N w' q r' R' ∧ (∀ k, S' k → ¬ R' k) ∧ Mod (fun k => S k ∨ R k) w w' ∧ (∀ k, S' k → (S k ∨ R k) ∨ w.heap.size ≤ k) ∧ (∀ k, R' k → (S k ∨ R k) ∨ w.heap.size ≤ k)
theorem rsave_two {w0 w : World} {p q : Nat} {d r : Dk} {S R : Nat → Prop} (hb : Mod NoneB w0 w) (hd : IsD w p d S) (hS0 : ∀ k, S k → w0.heap.size ≤ k) (hr : IsR w0.heap.size w q r R) (hSR : ∀ k, S k → ¬ R k) (l : List Pr) (A : Option Addr) (c : Nat) (hrd : Rd w 2 A l.length (encPs l)) (hs : SmallP l) (hroom : RoomT r (tableR l).1 0) :
    Calls Tryz.prog 57 #[.pointer (some ⟨q, 0, none⟩), .slice A l.length c] w (RsE w0.heap.size p q d (saveR r l).1 (saveR r l).2 S R w) := by
  have h2 : Two (fun k => w0.heap.size ≤ k ∧ k < w.heap.size ∧ ¬ S k ∧ ¬ R k) w0 w p q d r := ⟨R, ⟨S, hd, Mod.refl _ _, fun k hk hh => by
    rcases hh with hh | hh | hh
    · have := hS0 k hk; omega
    · exact hh.2.2.1 hk
    · exact hSR k hk hh, fun k hh => by
    rcases hh with hh | hh | hh
    · exact Nat.lt_of_lt_of_le hh hb.size
    · exact hh.2.1
    · exact hr.lt hh⟩, hr, fun k hk hg => hg.2.2.2 hk, hb⟩
  refine (h2.rsave l A c hrd hs hroom).mono ?_
  rintro e w' ⟨he, ⟨R', ⟨S', k1, _, k3, _⟩, k4, k5, _⟩, hm⟩
  have key : ∀ k, w0.heap.size ≤ k → ¬ (w0.heap.size ≤ k ∧ k < w.heap.size ∧ ¬ S k ∧ ¬ R k) → (S k ∨ R k) ∨ w.heap.size ≤ k := fun k h0 hn => by
    by_cases hlt : k < w.heap.size
    · by_cases hS : S k
      · exact .inl (.inl hS)
      · by_cases hR : R k
        · exact .inl (.inr hR)
        · exact absurd ⟨h0, hlt, hS, hR⟩ hn
    · exact .inr (by omega)
  refine ⟨he, S', R', k1, k4, fun k hk hR => k3 k hk (.inr (.inr hR)), hm.mono (fun k hk hf => (key k hf.1 hf.2).elim id (fun h => absurd hk (Nat.not_lt.2 h))), fun k hk => ?_, fun k hk => key k (k4.new hk) (k5 k hk)⟩
  have hn := k3 k hk
  exact key k (Nat.not_lt.1 fun h => hn (.inl h)) (fun h => hn (.inr (.inl h)))

def rsblk (v : Nat) (A : Option Addr) (n c : Nat) (m : Int) : Obj := .cells #[.pointer (some ⟨v, 0, none⟩), .slice A n c, .int .i64 m] 70
/-- The reference's store vs with its log vw on its disk q, beside the disk d behind p. -/
structure Rf (w0 w : World) (p q vw vs : Nat) (most : Int) (d : Dk) (t : St) (A : Option Addr) (c : Nat) (S R : Nat → Prop) : Prop where
  base : Mod NoneB w0 w
  isD : IsD w p d S
  S0 : ∀ k, S k → w0.heap.size ≤ k
  isR : IsR w0.heap.size w q t.d R
  SR : ∀ k, S k → ¬ R k
  wal : w.heap[vw]? = some (rwblk q t.n t.sk)
  st : w.heap[vs]? = some (rsblk vw A t.r.length c most)
  own : Rd w 2 A t.r.length (encPs t.r)
  w0w : w0.heap.size ≤ vw
  w0s : w0.heap.size ≤ vs
  wS : ¬ S vw
  wR : ¬ R vw
  sS : ¬ S vs
  sR : ¬ R vs
  ws : vw ≠ vs
  far : ∀ ad, A = some ad → (w0.heap.size ≤ ad.block ∧ ad.block < w.heap.size) ∧ ¬ S ad.block ∧ ¬ R ad.block ∧ ad.block ≠ vw ∧ ad.block ≠ vs
structure FitF (t : St) : Prop where
  d : FitT t.d
  n : t.n ≤ 8000000
  small : SmallP t.r
/-- Behind a call: the map in the same block, or in a new one. -/
def RfE (w0 w : World) (p q vw vs : Nat) (most : Int) (d : Dk) (A : Option Addr) (c : Nat) (S R : Nat → Prop) (k : St × Nat) (e : Ending) (w' : World) : Prop :=
  e = .returned (.int .i64 k.2) ∧ ∃ A' c' S' R', Rf w0 w' p q vw vs most d k.1 A' c' S' R' ∧ Mod (fun j => S j ∨ R j ∨ j = vw ∨ j = vs) w w' ∧ (∀ j, S' j → (S j ∨ R j) ∨ w.heap.size ≤ j) ∧ (∀ j, R' j → (S j ∨ R j) ∨ w.heap.size ≤ j) ∧ ((A' = A ∧ c' = c ∧ k.1.r.length = k.1.r.length) ∨ ∀ ad, A' = some ad → w.heap.size ≤ ad.block)
section
variable {w0 w w1 w' : World} {p q vw vs : Nat} {most : Int} {d : Dk} {t : St} {A : Option Addr} {c : Nat} {S R S' R' S1 R1 : Nat → Prop}
theorem Rf.mod0 (h : Rf w0 w p q vw vs most d t A c S R) (hm : Mod NoneB w w1) : Rf w0 w1 p q vw vs most d t A c S R :=
  ⟨h.base.then0 hm, h.isD.mod0 hm, h.S0, h.isR.mod0 hm, h.SR, hm.blk h.wal (fun h => h), hm.blk h.st (fun h => h), h.own.mod0 hm, h.w0w, h.w0s, h.wS, h.wR, h.sS, h.sR, h.ws, fun ad had => ⟨⟨(h.far ad had).1.1, Nat.lt_of_lt_of_le (h.far ad had).1.2 hm.size⟩, (h.far ad had).2⟩⟩
/-- The two disks turned, and the log's block. -/
theorem Rf.turn {d' : Dk} {n' : Nat} {sk' : Bool} (h : Rf w0 w p q vw vs most d t A c S R) (hd : IsD w1 p d S') (hr : IsR w0.heap.size w1 q d' R') (hSR : ∀ k, S' k → ¬ R' k) (hw : w1.heap[vw]? = some (rwblk q n' sk')) (hm : Mod (fun j => S j ∨ R j ∨ j = vw) w w1)
    (hS : ∀ j, S' j → (S j ∨ R j) ∨ w.heap.size ≤ j) (hR : ∀ j, R' j → (S j ∨ R j) ∨ w.heap.size ≤ j) : Rf w0 w1 p q vw vs most d ⟨d', n', sk', t.r⟩ A c S' R' := by
  have l1 := blk_lt h.wal
  have l2 := blk_lt h.st
  have b0 := h.base.size
  refine ⟨h.base.trans_new hm (fun k hk => .inr ?_), hd, fun k hk => ?_, hr, hSR, hw, hm.blk h.st (fun hh => ?_), h.own.mod hm (fun g hg hh => ?_), h.w0w, h.w0s, fun hh => ?_, fun hh => ?_, fun hh => ?_, fun hh => ?_, h.ws, fun g hg => ?_⟩
  · rcases hk with hk | hk | hk
    · exact h.S0 k hk
    · exact h.isR.new hk
    · rw [hk]; exact h.w0w
  · rcases hS k hk with (hk | hk) | hk
    · exact h.S0 k hk
    · exact h.isR.new hk
    · omega
  · rcases hh with hh | hh | hh
    · exact h.sS hh
    · exact h.sR hh
    · exact h.ws hh.symm
  · obtain ⟨_, f1, f2, f3, _⟩ := h.far g hg
    rcases hh with hh | hh | hh
    · exact f1 hh
    · exact f2 hh
    · exact f3 hh
  · rcases hS _ hh with (hh | hh) | hh
    · exact h.wS hh
    · exact h.wR hh
    · omega
  · rcases hR _ hh with (hh | hh) | hh
    · exact h.wS hh
    · exact h.wR hh
    · omega
  · rcases hS _ hh with (hh | hh) | hh
    · exact h.sS hh
    · exact h.sR hh
    · omega
  · rcases hR _ hh with (hh | hh) | hh
    · exact h.sS hh
    · exact h.sR hh
    · omega
  · obtain ⟨⟨f0, hlt⟩, f1, f2, f3, f4⟩ := h.far g hg
    refine ⟨⟨f0, Nat.lt_of_lt_of_le hlt hm.size⟩, fun hh => ?_, fun hh => ?_, f3, f4⟩
    · rcases hS _ hh with (hh | hh) | hh
      · exact f1 hh
      · exact f2 hh
      · omega
    · rcases hR _ hh with (hh | hh) | hh
      · exact f1 hh
      · exact f2 hh
      · omega
theorem RfE.same {k : St × Nat} (h : Rf w0 w1 p q vw vs most d k.1 A c S' R') (hm : Mod (fun j => S j ∨ R j ∨ j = vw) w w1) (hS : ∀ j, S' j → (S j ∨ R j) ∨ w.heap.size ≤ j) (hR : ∀ j, R' j → (S j ∨ R j) ∨ w.heap.size ≤ j) : RfE w0 w p q vw vs most d A c S R k (.returned (.int .i64 k.2)) w1 :=
  ⟨rfl, A, c, S', R', h, hm.mono (fun j _ hj => hj.imp id (Or.imp id .inl)), hS, hR, .inl ⟨rfl, rfl, rfl⟩⟩
end
theorem FitT.roomT {d : Dk} (h : FitT d) (l : List Pr) : RoomT d (tableR l).1 0 := ⟨by have := h.c; omega, by have := h.l; omega, by have := h.u; rw [Nat.mul_zero]; omega, table_len l, h.cap⟩

set_option maxHeartbeats 4000000 in
set_option maxRecDepth 100000 in
theorem rscheck_calls {w0 w : World} {p q vw vs : Nat} {most : Int} {d : Dk} {t : St} {A : Option Addr} {c : Nat} {S R : Nat → Prop} (h : Rf w0 w p q vw vs most d t A c S R) (hf : FitF t) :
    Calls Tryz.prog 31 #[.pointer (some ⟨vs, 0, none⟩)] w (RfE w0 w p q vw vs most d A c S R (checkS t)) := by
  obtain ⟨td, n, sk, r⟩ := t
  have y0 : w.cell? ⟨vs, 0, none⟩ = some (.pointer (some ⟨vw, 0, none⟩)) := by rw [blk_cell h.st]; rfl
  have y1 : w.cell? ⟨vs, 1, none⟩ = some (.slice A r.length c) := by rw [blk_cell h.st]; rfl
  have z0 : w.cell? ⟨vw, 0, none⟩ = some (.pointer (some ⟨q, 0, none⟩)) := by rw [blk_cell h.wal]; rfl
  have z2 : w.cell? ⟨vw, 2, none⟩ = some (.bool sk) := by rw [blk_cell h.wal]; rfl
  cases sk with
  | true =>
    have hfin : RfE w0 w p q vw vs most d A c S R (checkS ⟨td, n, true, r⟩) (.returned (.int .i64 8)) w := RfE.same (k := (⟨td, n, true, r⟩, 8)) h (Mod.refl _ _) (fun j hj => .inl (.inl hj)) (fun j hj => .inl (.inr hj))
    have HFIN := Lib.hid hfin
    clear hfin h hf
    go_enter Tryz.func31, Tryz.ntmps31
    go_wp2_with fail
    go_ret
    exact HFIN.out
  | false =>
    have hkE : checkS ⟨td, n, false, r⟩ = if (saveR td r).2 = 0 then (⟨(resetD (saveR td r).1 n).d, (resetD (saveR td r).1 n).n, (resetD (saveR td r).1 n).sk, r⟩, (resetD (saveR td r).1 n).e) else (⟨(saveR td r).1, n, false, r⟩, (saveR td r).2) := rfl
    have hd := h.mod0 ((Mod.refl NoneB w).drew)
    have hsv := rsave_two hd.base hd.isD hd.S0 hd.isR hd.SR r A c hd.own hf.small (hf.d.roomT r)
    have hgr : (saveR td r).1.c ≤ td.c + 5 ∧ (saveR td r).1.fs.length ≤ td.fs.length + 5 ∧ usedF (saveR td r).1.fs ≤ usedF td.fs + 5 * 1048584 := by
      unfold saveR
      split
      · have g := saveD_grow td (tableR r).1
        have hl := table_len r
        exact ⟨g.1, g.2.1, by have := g.2.2; omega⟩
      · exact ⟨by simp, by simp, by simp⟩
    have hfc := hf.d.c
    have hfl := hf.d.l
    have hfu := hf.d.u
    simp only at hfc hfl hfu
    obtain ⟨a1, ha1⟩ : ∃ a, a = saveR td r := ⟨_, rfl⟩
    rw [← ha1] at hkE hsv hgr
    have HKE := Lib.hid hkE
    have HSV := Lib.hid hsv
    have HD := Lib.hid hd
    clear hkE hsv hd ha1 hf h
    go_enter Tryz.func31, Tryz.ntmps31
    go_wp2_with fail
    refine wp_region_still_tail 11 (by kernel_rfl) (by kernel_rfl) ?_
    simp only [List.take_succ_cons, List.take_zero, List.drop_succ_cons, List.drop_zero]
    repeat still_step
    refine wpStill_nil ?_
    change wpList _ _ _ _ _ w.drew
    go_wp2_with fail
    refine HSV.out.mono ?_
    rintro ez w1 ⟨rfl, S', R', h1, h2, h3, h4, h5, h6⟩
    have hm1 : Mod (fun j => S j ∨ R j ∨ j = vw) w.drew w1 := h4.mono (fun j _ hj => hj.elim .inl (fun h => .inr (.inl h)))
    have hmw : Mod (fun j => S j ∨ R j ∨ j = vw) w w1 := (((Mod.refl NoneB w).drew).mono (fun _ _ h => h.elim)).trans hm1 (fun _ _ h => h)
    have hw1 : w1.heap[vw]? = some (rwblk q n false) := h4.blk HD.out.wal (fun hh => hh.elim HD.out.wS HD.out.wR)
    have hst := HD.out.turn h1 h2 h3 hw1 hm1 h5 h6
    have HST := Lib.hid hst
    have HMW := Lib.hid hmw
    have H5 : Hid (∀ j, S' j → (S j ∨ R j) ∨ w.heap.size ≤ j) := Lib.hid h5
    have H6 : Hid (∀ j, R' j → (S j ∨ R j) ∨ w.heap.size ≤ j) := Lib.hid h6
    clear hst hmw h1 h2 h3 h4 h5 h6 hm1 hw1 HSV y0 y1 z0 z2
    by_cases h0 : a1.2 = 0
    case neg =>
      have hk : checkS ⟨td, n, false, r⟩ = (⟨a1.1, n, false, r⟩, a1.2) := by rw [HKE.out, if_neg h0]
      have hfin : RfE w0 w p q vw vs most d A c S R (checkS ⟨td, n, false, r⟩) (.returned (.int .i64 a1.2)) w1 := by rw [hk]; exact RfE.same (k := (⟨a1.1, n, false, r⟩, a1.2)) HST.out HMW.out H5.out H6.out
      have HFIN := Lib.hid hfin
      obtain ⟨e5, he5⟩ : ∃ e, e = a1.2 := ⟨_, rfl⟩
      rw [← he5] at h0 HFIN ⊢
      have q0 : (((e5 : Nat) : Int) != 0) = true := bne_iff_ne.mpr (by omega)
      have q0' : (((e5 : Nat) : Int) == 0) = false := beq_eq_false_iff_ne.mpr (by omega)
      clear hk hfin he5 HKE
      go_wp2_with fail
      go_ret
      exact HFIN.out
    have hk : checkS ⟨td, n, false, r⟩ = (⟨(resetD a1.1 n).d, (resetD a1.1 n).n, (resetD a1.1 n).sk, r⟩, (resetD a1.1 n).e) := by rw [HKE.out, if_pos h0]
    have hrs := rwreset_calls w0.heap.size w1 q vw a1.1 R' n false HST.out.isR HST.out.wal HST.out.wR HST.out.w0w (by omega) (by omega) (by omega)
    have hrr : resetW a1.1 n false = resetD a1.1 n := rfl
    rw [hrr] at hrs
    obtain ⟨z, hz⟩ : ∃ z, z = resetD a1.1 n := ⟨_, rfl⟩
    rw [← hz] at hk hrs
    have y0 : w1.cell? ⟨vs, 0, none⟩ = some (.pointer (some ⟨vw, 0, none⟩)) := by rw [blk_cell HST.out.st]; rfl
    have q0 : (((a1.2 : Nat) : Int) != 0) = false := by rw [h0]; rfl
    have q0' : (((a1.2 : Nat) : Int) == 0) = true := by rw [h0]; rfl
    have HRS := Lib.hid hrs
    have HK := Lib.hid hk
    clear hrs hk hrr hz h0 hgr HKE
    go_wp2_with fail
    refine HRS.out.mono ?_
    rintro ez w2 ⟨rfl, R2, g1, g2, g3, g4⟩
    have hmS : Mod (fun j => S' j ∨ R' j ∨ j = vw) w1 w2 := g2.mono (fun j _ hj => .inr hj)
    have hdS : IsD w2 p d S' := HST.out.isD.mod g2 (fun k hk hh => hh.elim (HST.out.SR k hk) (fun e => HST.out.wS (e ▸ hk)))
    have hSR2 : ∀ k, S' k → ¬ R2 k := fun k hk hh => (g3 k hh).elim (HST.out.SR k hk) (fun hn => by have := HST.out.isD.lt hk; omega)
    have hst2 := HST.out.turn hdS g1 hSR2 g4 hmS (fun j hj => .inl (.inl hj)) (fun j hj => (g3 j hj).imp .inr id)
    have hfin : RfE w0 w p q vw vs most d A c S R (checkS ⟨td, n, false, r⟩) (.returned (.int .i64 z.e)) w2 := by
      rw [HK.out]
      refine RfE.same (k := (⟨z.d, z.n, z.sk, r⟩, z.e)) hst2 (HMW.out.trans hmS (fun k hk hh => ?_)) H5.out (fun j hj => ?_)
      · rcases hh with hh | hh | hh
        · exact (H5.out k hh).elim (fun h => h.elim .inl (fun h => .inr (.inl h))) (fun h => absurd hk (Nat.not_lt.2 h))
        · exact (H6.out k hh).elim (fun h => h.elim .inl (fun h => .inr (.inl h))) (fun h => absurd hk (Nat.not_lt.2 h))
        · exact .inr (.inr hh)
      · exact (g3 j hj).elim (H6.out j) (fun h => .inr (Nat.le_trans HMW.out.size h))
    have HFIN := Lib.hid hfin
    clear hfin hst2 hSR2 hdS hmS g1 g2 g3 g4 HRS HST
    go_wp2_with fail
    go_ret
    exact HFIN.out
end Go.Proofs.YtnlmfmceogbomaaGreatDoor
