/- The disk and the reference's disk side by side: each call of either in one line. -/
import Derived.Test.YtedjfbbfpnkbeaaGreatDoorRdD
import Derived.Test.YtedjfbbfpnkbeaaGreatDoorRdAB
import Derived.Test.YtedjfbbfpnkbeaaGreatDoorDkFs
namespace Go.Proofs.YtedjfbbfpnkbeaaGreatDoor
open Go.RowKit
set_option linter.unusedVariables false

/-- The disk d behind p, the reference's disk r behind q, in blocks newer than w0; none of G is theirs; all that was in w0 is as it was. -/
def Two (G : Nat → Prop) (w0 w : World) (p q : Nat) (d r : Dk) : Prop := ∃ R, Dx (fun k => k < w0.heap.size ∨ G k ∨ R k) w w p d ∧ IsR w0.heap.size w q r R ∧ (∀ k, R k → ¬ G k) ∧ Mod NoneB w0 w
/-- What a call may write. -/
def Free (G : Nat → Prop) (w0 : World) : Nat → Prop := fun k => w0.heap.size ≤ k ∧ ¬ G k
/-- Behind a call from w on. -/
structure TwoTo (G : Nat → Prop) (w0 w w' : World) (p q : Nat) (d r : Dk) : Prop where
  two : Two G w0 w' p q d r
  mod : Mod (Free G w0) w w'
section
variable {G : Nat → Prop}
theorem Two.base {w0 w : World} {p q : Nat} {d r : Dk} (h : Two G w0 w p q d r) : Mod NoneB w0 w := by obtain ⟨_, _, _, _, h⟩ := h; exact h
theorem Dx.rebase {F : Nat → Prop} {w0 w : World} {p : Nat} {d : Dk} (h : Dx F w0 w p d) : Dx F w w p d := by
  have h5 := h.lt
  obtain ⟨S, h1, h2, h3, h4⟩ := h
  exact ⟨S, h1, Mod.refl _ _, h3, h5⟩
theorem Two.mod0 {w0 w w1 : World} {p q : Nat} {d r : Dk} (h : Two G w0 w p q d r) (hm : Mod NoneB w w1) : Two G w0 w1 p q d r := by
  obtain ⟨R, h1, h2, h3, h4⟩ := h
  exact ⟨R, (h1.mod0 hm).rebase, h2.mod0 hm, h3, h4.then0 hm⟩
/-- Other blocks are kept from here on: they are as new as that. -/
theorem Two.keep {G' : Nat → Prop} {w0 w w1 : World} {p q : Nat} {d r : Dk} (h : Two G w0 w p q d r) (hm : Mod NoneB w w1) (hG : ∀ k, G' k → (G k ∨ w.heap.size ≤ k) ∧ k < w1.heap.size) : Two G' w0 w1 p q d r := by
  obtain ⟨R, h1, h2, h3, h4⟩ := h
  refine ⟨R, h1.keep hm (fun k hk => ?_), h2.mod0 hm, fun k hR hg => ?_, h4.then0 hm⟩
  · rcases hk with hk | hk | hk
    · exact ⟨.inl (.inl hk), Nat.lt_of_lt_of_le (h1.lt0 k (.inl hk)) hm.size⟩
    · exact ⟨(hG k hk).1.elim (fun h => .inl (.inr (.inl h))) .inr, (hG k hk).2⟩
    · exact ⟨.inl (.inr (.inr hk)), Nat.lt_of_lt_of_le (h2.lt hk) hm.size⟩
  · rcases (hG k hg).1 with h | h
    · exact h3 k hR h
    · have := h2.lt hR; omega
theorem Two.drop {G' : Nat → Prop} {w0 w : World} {p q : Nat} {d r : Dk} (h : Two G w0 w p q d r) (hG : ∀ k, G' k → G k) : Two G' w0 w p q d r := by
  obtain ⟨R, h1, h2, h3, h4⟩ := h
  refine ⟨R, h1.drop (Mod.refl _ _) (fun k hk => ?_), h2, fun k hR hg => h3 k hR (hG k hg), h4⟩
  have : k < w0.heap.size ∨ G k ∨ R k := hk.imp id (Or.imp (hG k) id)
  exact ⟨this, h1.lt0 k this⟩
/-- Behind a call of the disk. -/
theorem Two.ofD {w0 w w' : World} {p q : Nat} {d' r : Dk} {R : Nat → Prop} (h2 : IsR w0.heap.size w q r R) (h3 : ∀ k, R k → ¬ G k) (h4 : Mod NoneB w0 w) (hs : Dx (fun k => k < w0.heap.size ∨ G k ∨ R k) w w' p d') : TwoTo G w0 w w' p q d' r := by
  have hk := hs.kept
  have hN : ∀ k, ¬ (k < w0.heap.size ∨ G k ∨ R k) → w0.heap.size ≤ k := fun k hn => Nat.not_lt.1 (fun h => hn (.inl h))
  refine ⟨⟨R, hs.rebase, h2.mod hk (fun k hR hn => hn (.inr (.inr hR))) hN, h3, h4.trans_new hk (fun k hn => .inr (hN k hn))⟩, hk.mono (fun k _ hn => ⟨hN k hn, fun h => hn (.inr (.inl h))⟩)⟩
/-- Behind a call of the reference's disk. -/
theorem Two.ofR {w0 w w' : World} {p q : Nat} {d r' : Dk} {R : Nat → Prop} (h1 : Dx (fun k => k < w0.heap.size ∨ G k ∨ R k) w w p d) (hR : ∀ k, R k → w0.heap.size ≤ k) (h3 : ∀ k, R k → ¬ G k) (h4 : Mod NoneB w0 w) (hs : RStep w0.heap.size w R q r' w') : TwoTo G w0 w w' p q d r' := by
  obtain ⟨R', g1, g2, g3⟩ := hs
  obtain ⟨S, k1, k2, k3, k4⟩ := h1
  refine ⟨⟨R', ⟨S, k1.mod g2 (fun k hS hk => k3 k hS (.inr (.inr hk))), Mod.refl _ _, fun k hS hk => ?_, fun k hk => ?_⟩, g1, fun k hk hg => ?_, h4.trans_new g2 (fun k hk => .inr (hR k hk))⟩, g2.mono (fun k _ hk => ⟨hR k hk, h3 k hk⟩)⟩
  · rcases hk with hk | hk | hk
    · exact k3 k hS (.inl hk)
    · exact k3 k hS (.inr (.inl hk))
    · rcases g3 k hk with hk | hk
      · exact k3 k hS (.inr (.inr hk))
      · exact k1.notS hk hS
  · rcases hk with hk | hk | hk
    · exact Nat.lt_of_lt_of_le (k4 k (.inl hk)) g2.size
    · exact Nat.lt_of_lt_of_le (k4 k (.inr (.inl hk))) g2.size
    · exact g1.lt hk
  · rcases g3 k hk with h | h
    · exact h3 k h hg
    · have := k4 k (.inr (.inl hg)); omega
end
structure FitsR (d : Dk) : Prop where
  c : d.c < 4611686018427387904
  l : d.fs.length ≤ 1000000
  u : usedF d.fs ≤ 70368744177664
theorem FitsR.d {d : Dk} (h : FitsR d) : Fits d := ⟨h.c, Nat.le_trans h.l (by decide), h.u⟩
theorem FitsR.room {d : Dk} (h : FitsR d) {w0 w : World} (hm : Mod NoneB w0 w) : RoomR w0.heap.size w d := ⟨h.c, h.l, hm.size⟩
section
variable {G : Nat → Prop} {w0 w : World} {p q : Nat} {d r : Dk}
theorem Two.create (h : Two G w0 w p q d r) (n : ByteArray) (hf : FitsR d) :
    Calls Tryz.prog 24 #[.pointer (some ⟨p, 0, none⟩), .string n] w fun e w' => e = .returned (.int .i64 ((createD d n).2 : Nat)) ∧ TwoTo G w0 w w' p q (createD d n).1 r := by
  obtain ⟨R, h1, h2, hG, h3⟩ := h
  refine (h1.create n hf.d).mono ?_
  rintro e w1 ⟨rfl, hs⟩
  exact ⟨rfl, Two.ofD h2 hG h3 hs⟩
theorem Two.sync (h : Two G w0 w p q d r) (n : ByteArray) (hf : FitsR d) :
    Calls Tryz.prog 28 #[.pointer (some ⟨p, 0, none⟩), .string n] w fun e w' => e = .returned (.int .i64 ((syncD d n).2 : Nat)) ∧ TwoTo G w0 w w' p q (syncD d n).1 r := by
  obtain ⟨R, h1, h2, hG, h3⟩ := h
  refine (h1.sync n hf.d).mono ?_
  rintro e w1 ⟨rfl, hs⟩
  exact ⟨rfl, Two.ofD h2 hG h3 hs⟩
theorem Two.cut (h : Two G w0 w p q d r) (n : ByteArray) (k : Int) (hf : FitsR d) :
    Calls Tryz.prog 27 #[.pointer (some ⟨p, 0, none⟩), .string n, .int .i64 k] w fun e w' => e = .returned (.int .i64 ((cutD d n k).2 : Nat)) ∧ TwoTo G w0 w w' p q (cutD d n k).1 r := by
  obtain ⟨R, h1, h2, hG, h3⟩ := h
  refine (h1.cut n k hf.d).mono ?_
  rintro e w1 ⟨rfl, hs⟩
  exact ⟨rfl, Two.ofD h2 hG h3 hs⟩
/-- Bytes that were there ahead. -/
theorem Two.append (h : Two G w0 w p q d r) (n : ByteArray) (b : List UInt8) (B : Option Addr) (bc : Nat) (hb : Rd w0 1 B b.length (encB b)) (hf : FitsR d) (hu : usedF d.fs + b.length ≤ 70368744177664) :
    Calls Tryz.prog 38 #[.pointer (some ⟨p, 0, none⟩), .string n, .slice B b.length bc] w fun e w' => e = .returned (.int .i64 ((appendD d n b).2 : Nat)) ∧ TwoTo G w0 w w' p q (appendD d n b).1 r := by
  obtain ⟨R, h1, h2, hG, h3⟩ := h
  refine (h1.append (Mod.refl _ _) n b B bc (hb.mod0 h3) (fun hp ad hA => .inl (.inl (hb.block_lt (by decide) hp ad hA))) hf.d hu).mono ?_
  rintro e w1 ⟨rfl, hs⟩
  exact ⟨rfl, Two.ofD h2 hG h3 hs⟩
theorem Two.read (h : Two G w0 w p q d r) (n : ByteArray) (hf : FitsR d) :
    Calls Tryz.prog 23 #[.pointer (some ⟨p, 0, none⟩), .string n] w fun e w' =>
      ∃ v, e = .returned (.tuple #[v, .int .i64 ((readD d n).2 : Nat)]) ∧ Own w' 5 1 v (readD d n).1.length (encB (readD d n).1) ∧ Two G w0 w' p q d r ∧ Mod NoneB w w' := by
  have h0 := h
  obtain ⟨R, h1, h2, hG, h3⟩ := h
  refine (h1.read n hf.d).mono ?_
  rintro e w1 ⟨v, rfl, h4, h5, h6, h7⟩
  exact ⟨v, rfl, h4, h0.mod0 h6, h6⟩
theorem Two.restart (h : Two G w0 w p q d r) (pl : Pl) (F K : Option Addr) (fc kc : Nat) (hF : Rd w0 1 F pl.fail.length (encI pl.fail)) (hK : Rd w0 1 K pl.keep.length (encI pl.keep)) (hf : pl.fail.length ≤ 1099511627776) (hk : pl.keep.length ≤ 1099511627776) (hd : FitsR d) :
    Calls Tryz.prog 12 #[.pointer (some ⟨p, 0, none⟩), .agg #[.int .i64 pl.cap, .slice F pl.fail.length fc, .int .i64 pl.crash, .bool pl.done, .slice K pl.keep.length kc]] w fun e w' => e = .returned (.tuple #[]) ∧ TwoTo G w0 w w' p q (restartD d pl) r := by
  obtain ⟨R, h1, h2, hG, h3⟩ := h
  refine (h1.restart (Mod.refl _ _) pl F K fc kc (hF.mod0 h3) (hK.mod0 h3) (fun hp ad hA => .inl (.inl (hF.block_lt (by decide) hp ad hA))) (fun hp ad hA => .inl (.inl (hK.block_lt (by decide) hp ad hA))) hf hk hd.d).mono ?_
  rintro e w1 ⟨rfl, hs⟩
  exact ⟨rfl, Two.ofD h2 hG h3 hs⟩
theorem Two.calls (h : Two G w0 w p q d r) : Calls Tryz.prog 44 #[.pointer (some ⟨p, 0, none⟩)] w fun e w' => e = .returned (.int .i64 d.c) ∧ w' = w := by
  obtain ⟨R, h1, h2, hG, h3⟩ := h
  exact h1.calls
theorem Two.down (h : Two G w0 w p q d r) : Calls Tryz.prog 45 #[.pointer (some ⟨p, 0, none⟩)] w fun e w' => e = .returned (.bool d.dn) ∧ w' = w := by
  obtain ⟨R, h1, h2, hG, h3⟩ := h
  exact h1.down
theorem Two.files (h : Two G w0 w p q d r) (hf : FitsR d) :
    Calls Tryz.prog 43 #[.pointer (some ⟨p, 0, none⟩)] w fun e w' => ∃ zs A c, e = .returned (.slice A zs.length c) ∧ zs.map (·.1) = d.fs ∧ Rd w' 3 A zs.length (encFs zs) ∧ ZsAt w' zs ∧ Mod NoneB w w' := by
  obtain ⟨R, h1, h2, hG, h3⟩ := h
  refine (h1.files hf.d).mono ?_
  rintro e w1 ⟨v, vs, rfl, h4, h5, h6⟩
  obtain ⟨zs, A, c, k1, k2, k3, k4⟩ := h4.zs
  subst k2
  exact ⟨zs, A, c, rfl, k1, k3, k4, h6⟩
/-- What the reference's disk shows. -/
theorem Two.shows (h : Two G w0 w p q d r) : ∃ zs A c, zs.map (·.1) = r.fs ∧ w.cell? ⟨q, 5, none⟩ = some (.slice A zs.length c) ∧ Rd w 3 A zs.length (encFs zs) ∧ ZsAt w zs ∧ w.cell? ⟨q, 6, none⟩ = some (.int .i64 r.c) ∧ w.cell? ⟨q, 7, none⟩ = some (.bool r.dn) := by
  obtain ⟨R, h1, ⟨row, FA, KA, zs, h2, hS⟩, hG, h3⟩ := h
  obtain ⟨A, c, k1, k2, k3⟩ := h2.fil.zs
  subst k1
  exact ⟨zs, A, c, h2.fs.symm, h2.cellAt 5, k2, k3, h2.cellAt 6, h2.cellAt 7⟩

theorem Two.rcreate (h : Two G w0 w p q d r) (n : ByteArray) (hf : FitsR r) :
    Calls Tryz.prog 30 #[.pointer (some ⟨q, 0, none⟩), .string n] w fun e w' => e = .returned (.int .i64 ((createD r n).2 : Nat)) ∧ TwoTo G w0 w w' p q d (createD r n).1 := by
  obtain ⟨R, h1, h2, hG, h3⟩ := h
  refine (rcreate_calls _ w q r R n h2 (hf.room h3)).mono ?_
  rintro e w1 ⟨rfl, hs⟩
  exact ⟨rfl, Two.ofR h1 (fun k hk => h2.new hk) hG h3 hs⟩
theorem Two.rsync (h : Two G w0 w p q d r) (n : ByteArray) (hf : FitsR r) :
    Calls Tryz.prog 34 #[.pointer (some ⟨q, 0, none⟩), .string n] w fun e w' => e = .returned (.int .i64 ((syncD r n).2 : Nat)) ∧ TwoTo G w0 w w' p q d (syncD r n).1 := by
  obtain ⟨R, h1, h2, hG, h3⟩ := h
  refine (rsync_calls _ w q r R n h2 (hf.room h3)).mono ?_
  rintro e w1 ⟨rfl, hs⟩
  exact ⟨rfl, Two.ofR h1 (fun k hk => h2.new hk) hG h3 hs⟩
theorem Two.rcut (h : Two G w0 w p q d r) (n : ByteArray) (k : Int) (hf : FitsR r) :
    Calls Tryz.prog 33 #[.pointer (some ⟨q, 0, none⟩), .string n, .int .i64 k] w fun e w' => e = .returned (.int .i64 ((cutD r n k).2 : Nat)) ∧ TwoTo G w0 w w' p q d (cutD r n k).1 := by
  obtain ⟨R, h1, h2, hG, h3⟩ := h
  refine (rcut_calls _ w q r R n k h2 (hf.room h3) hf.u).mono ?_
  rintro e w1 ⟨rfl, hs⟩
  exact ⟨rfl, Two.ofR h1 (fun k hk => h2.new hk) hG h3 hs⟩
theorem Two.rappend (h : Two G w0 w p q d r) (n : ByteArray) (b : List UInt8) (B : Option Addr) (bc : Nat) (hb : Rd w0 1 B b.length (encB b)) (hf : FitsR r) (hu : usedF r.fs + b.length ≤ 70368744177664) (hcap : r.p.cap ≤ 9223372036854775807) :
    Calls Tryz.prog 41 #[.pointer (some ⟨q, 0, none⟩), .string n, .slice B b.length bc] w fun e w' => e = .returned (.int .i64 ((appendD r n b).2 : Nat)) ∧ TwoTo G w0 w w' p q d (appendD r n b).1 := by
  obtain ⟨R, h1, h2, hG, h3⟩ := h
  refine (rappend_calls _ w q r R n b B bc h2 (hf.room h3) (hb.mod0 h3) (fun hp ad hA hR => by have := h2.new hR; have := hb.block_lt (by decide) hp ad hA; omega) hu hcap).mono ?_
  rintro e w1 ⟨rfl, hs⟩
  exact ⟨rfl, Two.ofR h1 (fun k hk => h2.new hk) hG h3 hs⟩
theorem Two.rread (h : Two G w0 w p q d r) (n : ByteArray) (hf : FitsR r) :
    Calls Tryz.prog 29 #[.pointer (some ⟨q, 0, none⟩), .string n] w fun e w' => ∃ v, e = .returned (.tuple #[v, .int .i64 ((readD r n).2 : Nat)]) ∧ Own w' 5 1 v (readD r n).1.length (encB (readD r n).1) ∧ Two G w0 w' p q d r ∧ Mod NoneB w w' := by
  have h0 := h
  obtain ⟨R, h1, h2, hG, h3⟩ := h
  refine (rread_calls _ w q r R n h2 hf.l hf.u).mono ?_
  rintro e w1 ⟨v, rfl, h4, h6, h7⟩
  exact ⟨v, rfl, h4, h0.mod0 h6, h6⟩
theorem Two.rrestart (h : Two G w0 w p q d r) (pl : Pl) (F K : Option Addr) (fc kc : Nat) (hF : Rd w0 1 F pl.fail.length (encI pl.fail)) (hK : Rd w0 1 K pl.keep.length (encI pl.keep)) (hf : FitsR r) :
    Calls Tryz.prog 13 #[.pointer (some ⟨q, 0, none⟩), .agg #[.int .i64 pl.cap, .slice F pl.fail.length fc, .int .i64 pl.crash, .bool pl.done, .slice K pl.keep.length kc]] w fun e w' => e = .returned (.tuple #[]) ∧ TwoTo G w0 w w' p q d (restartD r pl) := by
  obtain ⟨R, h1, h2, hG, h3⟩ := h
  refine (rrestart_calls _ w q r R pl F K fc kc h2 h3.size (hF.mod0 h3) (hK.mod0 h3) (fun hp ad hA => hF.block_lt (by decide) hp ad hA) (fun hp ad hA => hK.block_lt (by decide) hp ad hA) hf.l hf.u).mono ?_
  rintro e w1 ⟨rfl, hs⟩
  exact ⟨rfl, Two.ofR h1 (fun k hk => h2.new hk) hG h3 hs⟩
end
end Go.Proofs.YtedjfbbfpnkbeaaGreatDoor

