/- The log and the reference's log, side by side, each on its own disk. -/
import Derived.Test.YtedjfbbfpnkbeaaGreatDoorWalR
import Derived.Test.YtedjfbbfpnkbeaaGreatDoorWlB
import Derived.Test.YtedjfbbfpnkbeaaGreatDoorTwo
namespace Go.Proofs.YtedjfbbfpnkbeaaGreatDoor
open Go.RowKit
set_option linter.unusedVariables false

def NoB7 : Nat → Prop := fun _ => False
/-- The disk d behind p in just the blocks S, the reference's disk r behind q in just the blocks R; all that was in w0 is as it was. -/
structure Tw (w0 w : World) (p q : Nat) (d r : Dk) (S R : Nat → Prop) : Prop where
  isD : IsD w p d S
  isR : IsR w0.heap.size w q r R
  base : Mod NoneB w0 w
  own : ∀ k, S k → w0.heap.size ≤ k
  apart : ∀ k, S k → ¬ R k
structure FitT (d : Dk) : Prop where
  c : d.c ≤ 1000000
  l : d.fs.length ≤ 1000
  u : usedF d.fs ≤ 8000000
  cap : d.p.cap ≤ 9223372036854775807
section
variable {w0 w w1 : World} {p q x v n n2 : Nat} {d r d' : Dk} {S R S' R' : Nat → Prop} {sk sk2 : Bool}
theorem Tw.two (h : Tw w0 w p q d r S R) : Two NoB7 w0 w p q d r :=
  ⟨R, ⟨S, h.isD, Mod.refl _ _, fun k hk hh => by
    rcases hh with hh | hh | hh
    · have := h.own k hk; omega
    · exact hh
    · exact h.apart k hk hh, fun k hh => by
    rcases hh with hh | hh | hh
    · exact Nat.lt_of_lt_of_le hh h.base.size
    · exact hh.elim
    · exact h.isR.lt hh⟩, h.isR, fun _ _ hh => hh, h.base⟩
theorem Tw.mod0 (h : Tw w0 w p q d r S R) (hm : Mod NoneB w w1) : Tw w0 w1 p q d r S R := ⟨h.isD.mod0 hm, h.isR.mod0 hm, h.base.then0 hm, h.own, h.apart⟩
theorem Tw.toD {T : Nat → Prop} (h : Tw w0 w p q d r S R) (h1 : IsD w1 p d' S') (hm : Mod T w w1) (hT : ∀ k, T k → w0.heap.size ≤ k ∧ ¬ R k) (hn : ∀ k, S' k → S k ∨ w.heap.size ≤ k) : Tw w0 w1 p q d' r S' R :=
  ⟨h1, h.isR.mod hm (fun k hk ht => (hT k ht).2 hk) (fun k ht => (hT k ht).1), h.base.trans_new hm (fun k hk => .inr (hT k hk).1), fun k hk => (hn k hk).elim (h.own k) (Nat.le_trans h.base.size), fun k hk hR => (hn k hk).elim (fun hs => h.apart k hs hR) (fun hs => by have := h.isR.lt hR; omega)⟩
theorem Tw.toR {T : Nat → Prop} (h : Tw w0 w p q d r S R) (h1 : IsR w0.heap.size w1 q d' R') (hm : Mod T w w1) (hT : ∀ k, T k → w0.heap.size ≤ k ∧ ¬ S k) (hn : ∀ k, R' k → R k ∨ w.heap.size ≤ k) : Tw w0 w1 p q d d' S R' :=
  ⟨h.isD.mod hm (fun k hk ht => (hT k ht).2 hk), h1, h.base.trans_new hm (fun k hk => .inr (hT k hk).1), h.own, fun k hk hR => (hn k hR).elim (h.apart k hk) (fun hs => by have := h.isD.lt hk; omega)⟩
/-- The open logs' blocks. -/
structure Lg (w0 w : World) (p q x v n : Nat) (sk : Bool) (n2 : Nat) (sk2 : Bool) (S R : Nat → Prop) : Prop where
  hx : w.heap[x]? = some (wblk p n sk)
  hv : w.heap[v]? = some (rwblk q n2 sk2)
  x0 : w0.heap.size ≤ x
  v0 : w0.heap.size ≤ v
  xv : x ≠ v
  xS : ¬ S x
  xR : ¬ R x
  vS : ¬ S v
  vR : ¬ R v
theorem Lg.mod0 (h : Lg w0 w p q x v n sk n2 sk2 S R) (hm : Mod NoneB w w1) : Lg w0 w1 p q x v n sk n2 sk2 S R := ⟨hm.blk h.hx (fun h => h), hm.blk h.hv (fun h => h), h.x0, h.v0, h.xv, h.xS, h.xR, h.vS, h.vR⟩
/-- Behind a call of the log, and of the reference's. -/
def TwC (w0 w : World) (p q x v : Nat) (a r : Dk) (cm : Cm) (n2 : Nat) (sk2 : Bool) (R : Nat → Prop) (e : Ending) (w' : World) : Prop :=
  e = .returned (.int .i64 cm.e) ∧ ∃ S', Tw w0 w' p q cm.d r S' R ∧ Lg w0 w' p q x v cm.n cm.sk n2 sk2 S' R
def TwR (w0 w : World) (p q x v : Nat) (d a : Dk) (n : Nat) (sk : Bool) (cm : Cm) (S : Nat → Prop) (e : Ending) (w' : World) : Prop :=
  e = .returned (.int .i64 cm.e) ∧ ∃ R', Tw w0 w' p q d cm.d S R' ∧ Lg w0 w' p q x v n sk cm.n cm.sk S R'
theorem Lg.toC {cm : Cm} (g : Lg w0 w p q x v n sk n2 sk2 S R) (h : Tw w0 w p q d r S R) (hw : WTo w S p x cm.d cm.n cm.sk w1) : ∃ S', Tw w0 w1 p q cm.d r S' R ∧ Lg w0 w1 p q x v cm.n cm.sk n2 sk2 S' R := by
  obtain ⟨S', h1, h2, h3, h4⟩ := hw
  have hx := blk_lt g.hx
  have hv := blk_lt g.hv
  refine ⟨S', h.toD h1 h2 (fun k hk => ?_) h3, h4, h2.blk g.hv (fun hh => hh.elim g.vS (fun e => g.xv e.symm)), g.x0, g.v0, g.xv, fun hh => (h3 _ hh).elim g.xS (fun e => by omega), g.xR, fun hh => (h3 _ hh).elim g.vS (fun e => by omega), g.vR⟩
  rcases hk with hk | rfl
  · exact ⟨h.own k hk, h.apart k hk⟩
  · exact ⟨g.x0, g.xR⟩
theorem Lg.toR {cm : Cm} (g : Lg w0 w p q x v n sk n2 sk2 S R) (h : Tw w0 w p q d r S R) (hw : RWTo w0.heap.size w R q v cm.d cm.n cm.sk w1) : ∃ R', Tw w0 w1 p q d cm.d S R' ∧ Lg w0 w1 p q x v n sk cm.n cm.sk S R' := by
  obtain ⟨R', h1, h2, h3, h4⟩ := hw
  have hx := blk_lt g.hx
  have hv := blk_lt g.hv
  refine ⟨R', h.toR h1 h2 (fun k hk => ?_) h3, h2.blk g.hx (fun hh => hh.elim g.xR g.xv), h4, g.x0, g.v0, g.xv, g.xS, fun hh => (h3 _ hh).elim g.xR (fun e => by omega), g.vS, fun hh => (h3 _ hh).elim g.vR (fun e => by omega)⟩
  rcases hk with hk | rfl
  · exact ⟨h.isR.new hk, fun hs => h.apart k hs hk⟩
  · exact ⟨g.v0, g.vS⟩
theorem Lg.commit (g : Lg w0 w p q x v n sk n2 sk2 S R) (h : Tw w0 w p q d r S R) (ht : TabW w0) (hf : FitT d) (hn : n ≤ 8000000) (l : List Op3) (A : Option Addr) (c : Nat) (hr : Rd w0 3 A l.length (encOs l)) (hs : SmallO l) :
    Calls Tryz.prog 17 #[.pointer (some ⟨x, 0, none⟩), .slice A l.length c] w (TwC w0 w p q x v d r (commitW d n sk l) n2 sk2 R) := by
  refine (wcommit_calls w p x d S n sk l A c h.isD g.hx g.xS (hr.mod0 h.base) hs (ht.mod0 h.base) (by omega) (by have := hf.c; omega) (by have := hf.l; omega) (by have := hf.u; have := opsR_le hs; omega)).mono ?_
  rintro e w1 ⟨rfl, hw⟩
  exact ⟨rfl, g.toC h hw⟩
theorem Lg.reset (g : Lg w0 w p q x v n sk n2 sk2 S R) (h : Tw w0 w p q d r S R) (hf : FitT d) :
    Calls Tryz.prog 14 #[.pointer (some ⟨x, 0, none⟩)] w (TwC w0 w p q x v d r (resetW d n sk) n2 sk2 R) := by
  refine (wreset_calls w p x d S n sk h.isD g.hx g.xS (by have := hf.c; omega) (by have := hf.l; omega)).mono ?_
  rintro e w1 ⟨rfl, hw⟩
  exact ⟨rfl, g.toC h hw⟩
theorem Lg.rcommit (g : Lg w0 w p q x v n sk n2 sk2 S R) (h : Tw w0 w p q d r S R) (hf : FitT r) (hn : n2 ≤ 8000000) (l : List Op3) (A : Option Addr) (c : Nat) (hr : Rd w0 3 A l.length (encOs l)) (hs : SmallO l) :
    Calls Tryz.prog 18 #[.pointer (some ⟨v, 0, none⟩), .slice A l.length c] w (TwR w0 w p q x v d r n sk (commitW r n2 sk2 l) S) := by
  refine (rwcommit_calls w0.heap.size w q v r R n2 sk2 l A c h.isR g.hv g.vR g.v0 (hr.mod0 h.base) hs (by omega) (by have := hf.c; omega) (by have := hf.l; omega) (by have := hf.u; have := opsR_le hs; omega) hf.cap).mono ?_
  rintro e w1 ⟨rfl, hw⟩
  exact ⟨rfl, g.toR h hw⟩
theorem Lg.rreset (g : Lg w0 w p q x v n sk n2 sk2 S R) (h : Tw w0 w p q d r S R) (hf : FitT r) :
    Calls Tryz.prog 15 #[.pointer (some ⟨v, 0, none⟩)] w (TwR w0 w p q x v d r n sk (resetW r n2 sk2) S) := by
  refine (rwreset_calls w0.heap.size w q v r R n2 sk2 h.isR g.hv g.vR g.v0 (by have := hf.c; omega) (by have := hf.l; omega) (by have := hf.u; omega)).mono ?_
  rintro e w1 ⟨rfl, hw⟩
  exact ⟨rfl, g.toR h hw⟩
/-- Both opened. -/
def TwOx (w0 w : World) (p q : Nat) (d r : Dk) (S R S' : Nat → Prop) (e : Ending) (w' : World) : Prop :=
  Tw w0 w' p q (openD d).1 r S' R ∧ Mod S w w' ∧ (∀ k, S' k → S k ∨ w.heap.size ≤ k) ∧
    (((openD d).2 = 0 ∧ ∃ x vl vs, e = .returned (.tuple #[.pointer (some ⟨x, 0, none⟩), vl, .int .i64 0]) ∧ w.heap.size ≤ x ∧ ¬ S' x ∧ w'.heap[x]? = some (wblk p (logN d) false) ∧ BatsAt w' vl w.heap.size (logL d) vs) ∨
     ((openD d).2 ≠ 0 ∧ e = .returned (.tuple #[.pointer none, .slice none 0 0, .int .i64 (openD d).2])))
def TwPx (w0 w : World) (p q : Nat) (d r : Dk) (S R R' : Nat → Prop) (e : Ending) (w' : World) : Prop :=
  Tw w0 w' p q d (openD r).1 S R' ∧ Mod R w w' ∧ (∀ k, R' k → R k ∨ w.heap.size ≤ k) ∧
    (((openD r).2 = 0 ∧ ∃ v vl vs, e = .returned (.tuple #[.pointer (some ⟨v, 0, none⟩), vl, .int .i64 0]) ∧ w.heap.size ≤ v ∧ ¬ R' v ∧ w'.heap[v]? = some (rwblk q (logN r) false) ∧ BatsAt w' vl w.heap.size (logL r) vs) ∨
     ((openD r).2 ≠ 0 ∧ e = .returned (.tuple #[.pointer none, .slice none 0 0, .int .i64 (openD r).2])))
def TwO (w0 w : World) (p q : Nat) (d r : Dk) (S R : Nat → Prop) (e : Ending) (w' : World) : Prop := ∃ S', TwOx w0 w p q d r S R S' e w'
def TwP (w0 w : World) (p q : Nat) (d r : Dk) (S R : Nat → Prop) (e : Ending) (w' : World) : Prop := ∃ R', TwPx w0 w p q d r S R R' e w'
/-- How what Open tells lies. -/
theorem TwOx.shape {w0 w w' : World} {p q : Nat} {d r : Dk} {S R S' : Nat → Prop} {e : Ending} (h : TwOx w0 w p q d r S R S' e w') : ∃ (ox A : Option Addr) (n c ec : Nat), e = .returned (.tuple #[.pointer ox, .slice A n c, .int .i64 ec]) := by
  obtain ⟨_, _, _, ⟨_, x, vl, vs, rfl, _, _, _, hb⟩ | ⟨_, rfl⟩⟩ := h
  · obtain ⟨A, c, rfl, _⟩ := hb.rd
    exact ⟨_, A, _, c, 0, rfl⟩
  · exact ⟨none, none, 0, 0, _, rfl⟩
theorem TwPx.shape {w0 w w' : World} {p q : Nat} {d r : Dk} {S R R' : Nat → Prop} {e : Ending} (h : TwPx w0 w p q d r S R R' e w') : ∃ (ox A : Option Addr) (n c ec : Nat), e = .returned (.tuple #[.pointer ox, .slice A n c, .int .i64 ec]) := by
  obtain ⟨_, _, _, ⟨_, x, vl, vs, rfl, _, _, _, hb⟩ | ⟨_, rfl⟩⟩ := h
  · obtain ⟨A, c, rfl, _⟩ := hb.rd
    exact ⟨_, A, _, c, 0, rfl⟩
  · exact ⟨none, none, 0, 0, _, rfl⟩
theorem Tw.open (h : Tw w0 w p q d r S R) (ht : TabW w0) (hf : FitT d) : Calls Tryz.prog 8 #[.pointer (some ⟨p, 0, none⟩)] w (TwO w0 w p q d r S R) := by
  have hT : ¬ S 1 := fun hk => by have := h.own _ hk; have := ht.lt; omega
  refine (wopen_calls w p d S h.isD (ht.mod0 h.base) hT (by have := hf.c; omega) (by have := hf.l; omega) (by have := hf.u; omega) (by have := logB_le d; have := hf.u; omega)).mono ?_
  rintro e w1 ⟨S', h1, h2, h3, ⟨h4, x, vl, vs, h5, h6, h7, h8, h9, _, _⟩ | h4⟩
  · exact ⟨S', h.toD h1 h2 (fun k hk => ⟨h.own k hk, h.apart k hk⟩) h3, h2, h3, .inl ⟨h4, x, vl, vs, h5, h6, h7, h8, h9⟩⟩
  · exact ⟨S', h.toD h1 h2 (fun k hk => ⟨h.own k hk, h.apart k hk⟩) h3, h2, h3, .inr h4⟩
theorem Tw.ropen (h : Tw w0 w p q d r S R) (hf : FitT r) : Calls Tryz.prog 9 #[.pointer (some ⟨q, 0, none⟩)] w (TwP w0 w p q d r S R) := by
  refine (rwopen_calls w0.heap.size w q r R h.isR h.base.size (by have := hf.c; omega) (by have := hf.l; omega) (by have := hf.u; omega) (by have := logB_le r; have := hf.u; omega)).mono ?_
  rintro e w1 ⟨R', h1, h2, h3, ⟨h4, x, vl, vs, h5, h6, h7, h8, h9, _, _⟩ | h4⟩
  · exact ⟨R', h.toR h1 h2 (fun k hk => ⟨h.isR.new hk, fun hs => h.apart k hs hk⟩) h3, h2, h3, .inl ⟨h4, x, vl, vs, h5, h6, h7, h8, h9⟩⟩
  · exact ⟨R', h.toR h1 h2 (fun k hk => ⟨h.isR.new hk, fun hs => h.apart k hs hk⟩) h3, h2, h3, .inr h4⟩
def RsD (w0 : World) (p q : Nat) (d' r : Dk) (R : Nat → Prop) (e : Ending) (w' : World) : Prop := e = .returned (.tuple #[]) ∧ ∃ S', Tw w0 w' p q d' r S' R
def RsR (w0 : World) (p q : Nat) (d r' : Dk) (S : Nat → Prop) (e : Ending) (w' : World) : Prop := e = .returned (.tuple #[]) ∧ ∃ R', Tw w0 w' p q d r' S R'
theorem Tw.restart (h : Tw w0 w p q d r S R) (pl : Pl) (F K : Option Addr) (fc kc : Nat) (hF : Rd w0 1 F pl.fail.length (encI pl.fail)) (hK : Rd w0 1 K pl.keep.length (encI pl.keep)) (hf : pl.fail.length ≤ 1099511627776) (hk : pl.keep.length ≤ 1099511627776) (hd : FitT d) :
    Calls Tryz.prog 12 #[.pointer (some ⟨p, 0, none⟩), .agg #[.int .i64 pl.cap, .slice F pl.fail.length fc, .int .i64 pl.crash, .bool pl.done, .slice K pl.keep.length kc]] w (RsD w0 p q (restartD d pl) r R) := by
  refine (restart_calls w p d S pl F K fc kc h.isD (hF.mod0 h.base) (hK.mod0 h.base) (fun hp ad had hs => ?_) (fun hp ad had hs => ?_) hf hk (by have := hd.l; omega) (by have := hd.u; omega)).mono ?_
  · have := hF.block_lt (by decide) hp ad had; have := h.own _ hs; omega
  · have := hK.block_lt (by decide) hp ad had; have := h.own _ hs; omega
  rintro e w1 ⟨rfl, S', h1, h2, h3⟩
  exact ⟨rfl, S', h.toD h1 h2 (fun k hk => ⟨h.own k hk, h.apart k hk⟩) h3⟩
theorem Tw.rrestart (h : Tw w0 w p q d r S R) (pl : Pl) (F K : Option Addr) (fc kc : Nat) (hF : Rd w0 1 F pl.fail.length (encI pl.fail)) (hK : Rd w0 1 K pl.keep.length (encI pl.keep)) (hd : FitT r) :
    Calls Tryz.prog 13 #[.pointer (some ⟨q, 0, none⟩), .agg #[.int .i64 pl.cap, .slice F pl.fail.length fc, .int .i64 pl.crash, .bool pl.done, .slice K pl.keep.length kc]] w (RsR w0 p q d (restartD r pl) S) := by
  refine (rrestart_calls w0.heap.size w q r R pl F K fc kc h.isR h.base.size (hF.mod0 h.base) (hK.mod0 h.base) (hF.block_lt (by decide)) (hK.block_lt (by decide)) (by have := hd.l; omega) (by have := hd.u; omega)).mono ?_
  rintro e w1 ⟨rfl, R', h1, h2, h3⟩
  exact ⟨rfl, R', h.toR h1 h2 (fun k hk => ⟨h.isR.new hk, fun hs => h.apart k hs hk⟩) h3⟩
end
theorem Tw.fresh {w0 w1 w2 w4 : World} {p q : Nat} {d r : Dk} {S R : Nat → Prop} (h0 : Mod NoneB w0 w1) (hd : IsD w2 p d S) (hm : Mod NoneB w1 w2) (hS : ∀ k, S k → w1.heap.size ≤ k) (hr : IsR w0.heap.size w4 q r R) (hm4 : Mod NoneB w2 w4) (hR : ∀ k, R k → w2.heap.size ≤ k) : Tw w0 w4 p q d r S R :=
  ⟨hd.mod0 hm4, hr, (h0.then0 hm).then0 hm4, fun k hk => Nat.le_trans h0.size (hS k hk), fun k hk hk2 => by have := hd.lt hk; have := hR k hk2; omega⟩
theorem create_plan (d : Dk) (n : ByteArray) : (createD d n).1.p = d.p := by
  unfold createD
  refine gate_plan fun c dn => ?_
  unfold createF
  split
  · rfl
  · split <;> rfl
theorem open_small (d : Dk) : (openD d).1.c ≤ d.c + 3 ∧ (openD d).1.fs.length ≤ d.fs.length + 3 ∧ usedF (openD d).1.fs ≤ usedF d.fs ∧ (openD d).1.p = d.p := by
  have h1 : (open1D d).1.c ≤ d.c + 1 ∧ (open1D d).1.fs.length ≤ d.fs.length + 1 ∧ usedF (open1D d).1.fs ≤ usedF d.fs ∧ (open1D d).1.p = d.p := by
    unfold open1D
    split
    · have := (create_grow d sLog).ok; exact ⟨this.1, this.2.1, by omega, create_plan d sLog⟩
    · exact ⟨by simp, by simp, by simp, rfl⟩
  have h2 : ∀ (n : Nat) (b : List UInt8) (d : Dk), (open2D n b d).1.c ≤ d.c + 1 ∧ (open2D n b d).1.fs.length ≤ d.fs.length + 1 ∧ usedF (open2D n b d).1.fs ≤ usedF d.fs ∧ (open2D n b d).1.p = d.p := by
    intro n b d
    unfold open2D
    split
    · have := (cut_grow d sLog n).ok; exact ⟨this.1, this.2.1, by omega, cut_plan d sLog n⟩
    · exact ⟨by simp, by simp, by simp, rfl⟩
  have h3 : ∀ d : Dk, (syncD d sLog).1.c ≤ d.c + 1 ∧ (syncD d sLog).1.fs.length ≤ d.fs.length + 1 ∧ usedF (syncD d sLog).1.fs ≤ usedF d.fs ∧ (syncD d sLog).1.p = d.p := fun d => by
    have := (sync_grow d sLog).ok; exact ⟨this.1, this.2.1, by omega, sync_plan d sLog⟩
  obtain ⟨a1, a2, a3, a4⟩ := h1
  obtain ⟨b1, b2, b3, b4⟩ := h2 (logN d) (logB d) (open1D d).1
  obtain ⟨c1, c2, c3, c4⟩ := h3 (open2D (logN d) (logB d) (open1D d).1).1
  unfold openD
  by_cases e1 : (open1D d).2 = 0
  · rw [tryD_ok e1]
    by_cases e2 : (open2D (logN d) (logB d) (open1D d).1).2 = 0
    · rw [tryD_ok e2]
      exact ⟨by omega, by omega, by omega, c4.trans (b4.trans a4)⟩
    · rw [tryD_bad e2]
      exact ⟨by omega, by omega, by omega, b4.trans a4⟩
  · rw [tryD_bad e1, tryD_bad e1]
    exact ⟨by omega, by omega, by omega, a4⟩
/-- A disk behind j steps. -/
structure GoodW (j : Nat) (d : Dk) : Prop where
  c : d.c ≤ 3 * j
  l : d.fs.length ≤ 3 * j
  u : usedF d.fs ≤ 26100 * j
  cap : d.p.cap ≤ 9223372036854775807
theorem GoodW.fit {j : Nat} {d : Dk} (h : GoodW j d) (hj : j ≤ 200) : FitT d := ⟨by have := h.c; omega, by have := h.l; omega, by have := h.u; omega, h.cap⟩
theorem GoodW.open {j : Nat} {d : Dk} (h : GoodW j d) : GoodW (j + 1) (openD d).1 ∧ logN d ≤ 26100 * j := by
  obtain ⟨h1, h2, h3, h4⟩ := open_small d
  have := h.c; have := h.l; have := h.u
  have h5 := logN_le d
  have h6 := logB_le d
  exact ⟨⟨by omega, by omega, by omega, by rw [h4]; exact h.cap⟩, by omega⟩
theorem restF_le7 (keep : List Int) (i : Nat) (f : Fl) : (restF keep i f).b.length ≤ f.b.length := by
  unfold restF
  simp only
  split
  · simp only [List.length_take]; omega
  · exact Nat.le_refl _
theorem usedF_mapIdx7 (g : Nat → Fl → Fl) (h : ∀ i f, (g i f).b.length ≤ f.b.length) (l : List Fl) : usedF (l.mapIdx g) ≤ usedF l := by
  induction l generalizing g with
  | nil => simp [usedF]
  | cons f l ih =>
    rw [List.mapIdx_cons, usedF_cons, usedF_cons]
    have h1 := ih (fun i => g (i + 1)) (fun i f => h (i + 1) f)
    have h2 := h 0 f
    omega
theorem restartF_used (d : Dk) (p : Pl) : (restartD d p).fs.length = d.fs.length ∧ usedF (restartD d p).fs ≤ usedF d.fs := ⟨by simp [restartD], usedF_mapIdx7 _ (restF_le7 d.p.keep) _⟩
theorem GoodW.restart {j : Nat} {d : Dk} (h : GoodW j d) (p : Pl) (hp : p.cap ≤ 9223372036854775807) : GoodW j (restartD d p) := by
  have g := (restartF_used d p)
  exact ⟨Nat.zero_le _, by rw [g.1]; exact h.l, Nat.le_trans g.2 h.u, hp⟩
theorem opsR_le5 {l : List Op3} (hw : wtO l ≤ 5000) : (opsR l).1.length ≤ 26100 := by
  unfold opsR
  split
  · rename_i h; have := bytesO_len h hw; simpa using this
  · simp
theorem GoodW.commit {j n : Nat} {sk : Bool} {d : Dk} (h : GoodW j d) (hn : n ≤ 26100 * j) (l : List Op3) (hw : wtO l ≤ 5000) : GoodW (j + 1) (commitW d n sk l).d ∧ (commitW d n sk l).n ≤ 26100 * (j + 1) := by
  have := h.c; have := h.l; have := h.u
  have ho := opsR_le5 hw
  cases sk with
  | true => exact ⟨⟨by show d.c ≤ _; omega, by show d.fs.length ≤ _; omega, by show usedF d.fs ≤ _; omega, h.cap⟩, by show n ≤ _; omega⟩
  | false =>
    have e : commitW d n false l = commitD d n l := rfl
    rw [e]
    obtain ⟨h1, h2⟩ := commit_small d n l
    obtain ⟨h3, h4, h5⟩ := commit_used d n l
    exact ⟨⟨by omega, by omega, by omega, by rw [h1]; exact h.cap⟩, by omega⟩
theorem GoodW.reset {j n : Nat} {sk : Bool} {d : Dk} (h : GoodW j d) (hn : n ≤ 26100 * j) : GoodW (j + 1) (resetW d n sk).d ∧ (resetW d n sk).n ≤ 26100 * (j + 1) := by
  have := h.c; have := h.l; have := h.u
  cases sk with
  | true => exact ⟨⟨by show d.c ≤ _; omega, by show d.fs.length ≤ _; omega, by show usedF d.fs ≤ _; omega, h.cap⟩, by show n ≤ _; omega⟩
  | false =>
    have e : resetW d n false = resetD d n := rfl
    rw [e]
    have h1 := cut_plan d sLog 0
    have h2 := (cut_grow d sLog 0).ok
    unfold resetD
    split
    · exact ⟨⟨by simp only; omega, by simp only; omega, by simp only; omega, by simp only; rw [h1]; exact h.cap⟩, by simp only; omega⟩
    · exact ⟨⟨by simp only; omega, by simp only; omega, by simp only; omega, by simp only; rw [h1]; exact h.cap⟩, by simp only; omega⟩
theorem GoodW.next {j : Nat} {d : Dk} (h : GoodW j d) : GoodW (j + 1) d := ⟨by have := h.c; omega, by have := h.l; omega, by have := h.u; omega, h.cap⟩
/-- Behind j steps: the two logs are open, or neither. -/
def StW (w0 w : World) (p q : Nat) (d : Dk) (j : Nat) (wv vv : Value) : Prop :=
  (wv = .pointer none ∧ vv = .pointer none ∧ ∃ S R, Tw w0 w p q d d S R) ∨
  (∃ x v n sk S R, wv = .pointer (some ⟨x, 0, none⟩) ∧ vv = .pointer (some ⟨v, 0, none⟩) ∧ Tw w0 w p q d d S R ∧ Lg w0 w p q x v n sk n sk S R ∧ n ≤ 26100 * j)
theorem StW.mod0 {w0 w w1 : World} {p q : Nat} {d : Dk} {j : Nat} {wv vv : Value} (h : StW w0 w p q d j wv vv) (hm : Mod NoneB w w1) : StW w0 w1 p q d j wv vv := by
  rcases h with ⟨h1, h2, S, R, h3⟩ | ⟨x, v, n, sk, S, R, h1, h2, h3, h4, h5⟩
  · exact .inl ⟨h1, h2, S, R, h3.mod0 hm⟩
  · exact .inr ⟨x, v, n, sk, S, R, h1, h2, h3.mod0 hm, h4.mod0 hm, h5⟩
theorem StW.next {w0 w : World} {p q : Nat} {d : Dk} {j : Nat} {wv vv : Value} (h : StW w0 w p q d j wv vv) : StW w0 w p q d (j + 1) wv vv := by
  rcases h with h | ⟨x, v, n, sk, S, R, h1, h2, h3, h4, h5⟩
  · exact .inl h
  · exact .inr ⟨x, v, n, sk, S, R, h1, h2, h3, h4, by omega⟩
theorem StW.tw {w0 w : World} {p q : Nat} {d : Dk} {j : Nat} {wv vv : Value} (h : StW w0 w p q d j wv vv) : ∃ S R, Tw w0 w p q d d S R := by
  rcases h with ⟨_, _, h⟩ | ⟨x, v, n, sk, S, R, _, _, h3, _⟩
  · exact h
  · exact ⟨S, R, h3⟩
theorem open_both {w0 w wa wb : World} {p q : Nat} {d : Dk} {S R S2 R2 : Nat → Prop} {ox A ov A2 : Option Addr} {n c ec n2 c2 ec2 j : Nat} (hT : Tw w0 w p q d d S R)
    (h1 : TwOx w0 w p q d d S R S2 (.returned (.tuple #[.pointer ox, .slice A n c, .int .i64 ec])) wa)
    (h2 : TwPx w0 wa p q (openD d).1 d S2 R R2 (.returned (.tuple #[.pointer ov, .slice A2 n2 c2, .int .i64 ec2])) wb) (hn : logN d ≤ 26100 * j) :
    ec = ec2 ∧ n = n2 ∧ ox.isNone = ov.isNone ∧ StW w0 wb p q (openD d).1 j (.pointer ox) (.pointer ov) ∧
      Calls Tryz.prog 11 #[.slice A n c, .slice A2 n2 c2] wb fun e w' => e = .returned (.bool true) ∧ Mod NoneB wb w' := by
  obtain ⟨hTa, hma, hna, hor⟩ := h1
  obtain ⟨hTb, hmb, hnb, hor2⟩ := h2
  have hRlt : ∀ k, R k → k < w.heap.size := fun k hk => hT.isR.lt hk
  rcases hor with ⟨hok, x, vl, vs, he, hxN, hxS, hx, hba⟩ | ⟨hbad, he⟩ <;> rcases hor2 with ⟨hok2, v, vl2, vs2, he2, hvN, hvR, hv, hba2⟩ | ⟨hbad2, he2⟩
  · injection he with he
    injection he with he
    simp only [Array.mk.injEq, List.cons.injEq, and_true, Value.pointer.injEq, Value.int.injEq, true_and] at he
    obtain ⟨rfl, rfl, he3⟩ := he
    injection he2 with he2
    injection he2 with he2
    simp only [Array.mk.injEq, List.cons.injEq, and_true, Value.pointer.injEq, Value.int.injEq, true_and] at he2
    obtain ⟨rfl, rfl, he4⟩ := he2
    obtain ⟨A6, c6, e6, hb6⟩ := (hba.mod hmb (fun g hg hR => by have := hba.new g hg; have := hRlt g hR; omega) (fun u hu g hg hR => by have := hba.newB u hu g hg; have := hRlt g hR; omega)).rd
    obtain ⟨A7, c7, e7, hb7⟩ := hba2.rd
    injection e6 with e6 e6n e6c
    injection e7 with e7 e7n e7c
    subst e6 e6n e6c e7 e7n e7c
    have hxa := blk_lt hx
    refine ⟨by omega, rfl, rfl, .inr ⟨x, v, logN d, false, S2, R2, rfl, rfl, hTb, ⟨hmb.blk hx (fun h => by have := hRlt _ h; omega), hv, Nat.le_trans hT.base.size hxN, Nat.le_trans hTa.base.size hvN, by omega, hxS, fun h => (hnb x h).elim (fun h => by have := hRlt _ h; omega) (fun h => by omega), fun h => by have := hTa.isD.lt h; omega, hvR⟩, hn⟩, ?_⟩
    have h := batches_calls (logL d) (logL d) A A2 c c2 vs vs2 wb hb6 hb7
    rw [decide_eq_true rfl] at h
    exact h
  · exact absurd hok hbad2
  · exact absurd hok2 hbad
  · injection he with he
    injection he with he
    simp only [Array.mk.injEq, List.cons.injEq, and_true, Value.pointer.injEq, Value.int.injEq, true_and, Value.slice.injEq] at he
    obtain ⟨rfl, ⟨rfl, rfl, rfl⟩, he3⟩ := he
    injection he2 with he2
    injection he2 with he2
    simp only [Array.mk.injEq, List.cons.injEq, and_true, Value.pointer.injEq, Value.int.injEq, true_and, Value.slice.injEq] at he2
    obtain ⟨rfl, ⟨rfl, rfl, rfl⟩, he4⟩ := he2
    refine ⟨by omega, rfl, rfl, .inl ⟨rfl, rfl, S2, R2, hTb⟩, ?_⟩
    have h := batches_calls [] [] none none 0 0 [] [] wb ⟨Rd.nil _ _ _, rfl, fun i h => by cases h⟩ ⟨Rd.nil _ _ _, rfl, fun i h => by cases h⟩
    rw [decide_eq_true rfl] at h
    exact h
end Go.Proofs.YtedjfbbfpnkbeaaGreatDoor

