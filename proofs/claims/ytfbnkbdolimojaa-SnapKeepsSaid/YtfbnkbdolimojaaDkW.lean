/- A disk in blocks of the law's own: each of its calls in one line. -/
import Derived.Test.YtfbnkbdolimojaaDkAw
import Derived.Test.YtfbnkbdolimojaaDkOne
namespace Go.Proofs.Ytfbnkbdolimojaa
open Go.RowKit
set_option linter.unusedVariables false

/-- In the world w a disk d lies behind p, in blocks that are newer than the world w0; all that was in w0 is as it was. -/
def Dw (w0 w : World) (p : Nat) (d : Dk) : Prop := ∃ S, IsD w p d S ∧ Mod NoneB w0 w ∧ ∀ k, S k → w0.heap.size ≤ k
structure Fits (d : Dk) : Prop where
  c : d.c < 4611686018427387904
  l : d.fs.length ≤ 1099511627776
  u : usedF d.fs ≤ 70368744177664
theorem Dw.base {w0 w : World} {p : Nat} {d : Dk} (h : Dw w0 w p d) : Mod NoneB w0 w := by obtain ⟨_, _, h, _⟩ := h; exact h
theorem Dw.mod0 {w0 w w1 : World} {p : Nat} {d : Dk} (h : Dw w0 w p d) (hm : Mod NoneB w w1) : Dw w0 w1 p d := by
  obtain ⟨S, h1, h2, h3⟩ := h
  exact ⟨S, h1.mod0 hm, h2.then0 hm, h3⟩
theorem Dw.of {w0 w w' : World} {S : Nat → Prop} {p : Nat} {d' : Dk} (hm : Mod NoneB w0 w) (hS : ∀ k, S k → w0.heap.size ≤ k) (h : DStep w S p d' w') : Dw w0 w' p d' := by
  obtain ⟨S', hto⟩ := h
  obtain ⟨h1, h2, h3⟩ := hto.go hm hS
  exact ⟨S', h1, h2, h3⟩
/-- A base further back. -/
theorem Dw.back {w0 w1 w : World} {p : Nat} {d : Dk} (h : Dw w1 w p d) (hm : Mod NoneB w0 w1) : Dw w0 w p d := by
  obtain ⟨S, h1, h2, h3⟩ := h
  exact ⟨S, h1, hm.then0 h2, fun k hk => Nat.le_trans hm.size (h3 k hk)⟩

theorem Dw.new (w0 w : World) (hm : Mod NoneB w0 w) (pl : Pl) (F K : Option Addr) (fc kc : Nat) (hF : Rd w 1 F pl.fail.length (encI pl.fail)) (hK : Rd w 1 K pl.keep.length (encI pl.keep)) (hf : pl.fail.length ≤ 1099511627776) (hk : pl.keep.length ≤ 1099511627776) :
    Calls Try.prog 13 #[.agg #[.int .i64 pl.cap, .slice F pl.fail.length fc, .int .i64 pl.crash, .bool pl.done, .slice K pl.keep.length kc]] w fun e w' =>
      ∃ p, e = .returned (.pointer (some ⟨p, 0, none⟩)) ∧ Dw w0 w' p ⟨pl, [], 0, false⟩ := by
  refine (new_calls w pl F K fc kc hF hK hf hk).mono ?_
  rintro e w1 ⟨p, S, rfl, h1, h2, h3⟩
  exact ⟨p, rfl, S, h1, hm.then0 h2, fun k hk => Nat.le_trans hm.size (h3 k hk)⟩
theorem Dw.create {w0 w : World} {p : Nat} {d : Dk} (h : Dw w0 w p d) (n : ByteArray) (hf : Fits d) :
    Calls Try.prog 49 #[.pointer (some ⟨p, 0, none⟩), .string n] w fun e w' => e = .returned (.int .i64 (createD d n).2) ∧ Dw w0 w' p (createD d n).1 := by
  obtain ⟨S, h1, h2, h3⟩ := h
  refine (create_calls w p d S n h1 hf.c hf.l).mono ?_
  rintro e w1 ⟨rfl, hs⟩
  exact ⟨rfl, Dw.of h2 h3 hs⟩
theorem Dw.sync {w0 w : World} {p : Nat} {d : Dk} (h : Dw w0 w p d) (n : ByteArray) (hf : Fits d) :
    Calls Try.prog 51 #[.pointer (some ⟨p, 0, none⟩), .string n] w fun e w' => e = .returned (.int .i64 (syncD d n).2) ∧ Dw w0 w' p (syncD d n).1 := by
  obtain ⟨S, h1, h2, h3⟩ := h
  refine (sync_calls w p d S n h1 hf.c (Nat.le_trans hf.l (by decide))).mono ?_
  rintro e w1 ⟨rfl, hs⟩
  exact ⟨rfl, Dw.of h2 h3 hs⟩
theorem Dw.remove {w0 w : World} {p : Nat} {d : Dk} (h : Dw w0 w p d) (n : ByteArray) (hf : Fits d) :
    Calls Try.prog 61 #[.pointer (some ⟨p, 0, none⟩), .string n] w fun e w' => e = .returned (.int .i64 (removeD d n).2) ∧ Dw w0 w' p (removeD d n).1 := by
  obtain ⟨S, h1, h2, h3⟩ := h
  refine (remove_calls w p d S n h1 hf.c hf.l).mono ?_
  rintro e w1 ⟨rfl, hs⟩
  exact ⟨rfl, Dw.of h2 h3 hs⟩
theorem Dw.rename {w0 w : World} {p : Nat} {d : Dk} (h : Dw w0 w p d) (n nt : ByteArray) (hf : Fits d) :
    Calls Try.prog 59 #[.pointer (some ⟨p, 0, none⟩), .string n, .string nt] w fun e w' => e = .returned (.int .i64 (renameD d n nt).2) ∧ Dw w0 w' p (renameD d n nt).1 := by
  obtain ⟨S, h1, h2, h3⟩ := h
  refine (rename_calls w p d S n nt h1 hf.c hf.l).mono ?_
  rintro e w1 ⟨rfl, hs⟩
  exact ⟨rfl, Dw.of h2 h3 hs⟩
theorem Dw.cut {w0 w : World} {p : Nat} {d : Dk} (h : Dw w0 w p d) (n : ByteArray) (k : Int) (hf : Fits d) :
    Calls Try.prog 57 #[.pointer (some ⟨p, 0, none⟩), .string n, .int .i64 k] w fun e w' => e = .returned (.int .i64 (cutD d n k).2) ∧ Dw w0 w' p (cutD d n k).1 := by
  obtain ⟨S, h1, h2, h3⟩ := h
  refine (cut_calls w p d S n k h1 hf.c (Nat.le_trans hf.l (by decide))).mono ?_
  rintro e w1 ⟨rfl, hs⟩
  exact ⟨rfl, Dw.of h2 h3 hs⟩
/-- Bytes that lie in blocks older than the disk, or newer than it is now. -/
theorem Dw.append {w0 w1 w : World} {p : Nat} {d : Dk} (h : Dw w0 w1 p d) (hm : Mod NoneB w1 w) (n : ByteArray) (b : List UInt8) (B : Option Addr) (bc : Nat) (hb : Rd w 1 B b.length (encB b))
    (hB : 0 < b.length → ∀ ad, B = some ad → ad.block < w0.heap.size ∨ w1.heap.size ≤ ad.block) (hf : Fits d) (hu : usedF d.fs + b.length ≤ 70368744177664) :
    Calls Try.prog 50 #[.pointer (some ⟨p, 0, none⟩), .string n, .slice B b.length bc] w fun e w' => e = .returned (.int .i64 (appendD d n b).2) ∧ Dw w0 w' p (appendD d n b).1 := by
  obtain ⟨S, h1, h2, h3⟩ := h
  refine (append_calls w p d S n b B bc (h1.mod0 hm) hb (fun hp ad hA hs => ?_) hf.c (Nat.le_trans hf.l (by decide)) hu).mono ?_
  · rcases hB hp ad hA with hq | hq
    · have := h3 _ hs; omega
    · exact h1.notS hq hs
  · rintro e w1 ⟨rfl, hs⟩
    exact ⟨rfl, Dw.of (h2.then0 hm) h3 hs⟩
theorem Dw.read {w0 w : World} {p : Nat} {d : Dk} (h : Dw w0 w p d) (n : ByteArray) (hf : Fits d) :
    Calls Try.prog 52 #[.pointer (some ⟨p, 0, none⟩), .string n] w fun e w' =>
      ∃ v, e = .returned (.tuple #[v, .int .i64 (readD d n).2]) ∧ Own w' 5 1 v (readD d n).1.length (encB (readD d n).1) ∧ Dw w0 w' p d ∧ Mod NoneB w w' ∧ (∀ g, v.ownBlock = some g → w.heap.size ≤ g) := by
  obtain ⟨S, h1, h2, h3⟩ := h
  refine (read_calls w p d S n h1 (Nat.le_trans hf.l (by decide)) hf.u).mono ?_
  rintro e w1 ⟨v, rfl, h4, h5, h6⟩
  exact ⟨v, rfl, h4, ⟨S, h1.mod0 h5, h2.then0 h5, h3⟩, h5, h6⟩
theorem Dw.calls {w0 w : World} {p : Nat} {d : Dk} (h : Dw w0 w p d) : Calls Try.prog 17 #[.pointer (some ⟨p, 0, none⟩)] w fun e w' => e = .returned (.int .i64 d.c) ∧ w' = w := by
  obtain ⟨S, h1, _, _⟩ := h
  exact callsD_calls w p d S h1
theorem Dw.down {w0 w : World} {p : Nat} {d : Dk} (h : Dw w0 w p d) : Calls Try.prog 16 #[.pointer (some ⟨p, 0, none⟩)] w fun e w' => e = .returned (.bool d.dn) ∧ w' = w := by
  obtain ⟨S, h1, _, _⟩ := h
  exact downD_calls w p d S h1
theorem Dw.restart {w0 w1 w : World} {p : Nat} {d : Dk} (h : Dw w0 w1 p d) (hm : Mod NoneB w1 w) (pl : Pl) (F K : Option Addr) (fc kc : Nat) (hF : Rd w 1 F pl.fail.length (encI pl.fail)) (hK : Rd w 1 K pl.keep.length (encI pl.keep))
    (hoF : 0 < pl.fail.length → ∀ ad, F = some ad → ad.block < w0.heap.size ∨ w1.heap.size ≤ ad.block) (hoK : 0 < pl.keep.length → ∀ ad, K = some ad → ad.block < w0.heap.size ∨ w1.heap.size ≤ ad.block)
    (hf : pl.fail.length ≤ 1099511627776) (hk : pl.keep.length ≤ 1099511627776) (hd : Fits d) :
    Calls Try.prog 44 #[.pointer (some ⟨p, 0, none⟩), .agg #[.int .i64 pl.cap, .slice F pl.fail.length fc, .int .i64 pl.crash, .bool pl.done, .slice K pl.keep.length kc]] w fun e w' => e = .returned (.tuple #[]) ∧ Dw w0 w' p (restartD d pl) := by
  obtain ⟨S, h1, h2, h3⟩ := h
  have ho : ∀ (n : Nat) (A : Option Addr), (0 < n → ∀ ad, A = some ad → ad.block < w0.heap.size ∨ w1.heap.size ≤ ad.block) → 0 < n → Off S A := by
    intro n A hA hp ad hAd hs
    rcases hA hp ad hAd with hq | hq
    · have := h3 _ hs; omega
    · exact h1.notS hq hs
  refine (restart_calls w p d S pl F K fc kc (h1.mod0 hm) hF hK (ho _ _ hoF) (ho _ _ hoK) hf hk hd.l hd.u).mono ?_
  rintro e w1 ⟨rfl, hs⟩
  exact ⟨rfl, Dw.of (h2.then0 hm) h3 hs⟩
/-- A plan that names nothing: no slices. -/
theorem Dw.restart0 {w0 w : World} {p : Nat} {d : Dk} (h : Dw w0 w p d) (cap : Int) (hd : Fits d) :
    Calls Try.prog 44 #[.pointer (some ⟨p, 0, none⟩), .agg #[.int .i64 cap, .slice none 0 0, .int .i64 0, .bool false, .slice none 0 0]] w fun e w' => e = .returned (.tuple #[]) ∧ Dw w0 w' p (restartD d ⟨cap, [], 0, false, []⟩) :=
  h.restart (Mod.refl _ _) ⟨cap, [], 0, false, []⟩ none none 0 0 (Rd.nil _ _ _) (Rd.nil _ _ _) (fun h => absurd h (Nat.lt_irrefl _)) (fun h => absurd h (Nat.lt_irrefl _)) (Nat.zero_le _) (Nat.zero_le _) hd
theorem Dw.new0 (w0 w : World) (hm : Mod NoneB w0 w) (cap : Int) :
    Calls Try.prog 13 #[.agg #[.int .i64 cap, .slice none 0 0, .int .i64 0, .bool false, .slice none 0 0]] w fun e w' => ∃ p, e = .returned (.pointer (some ⟨p, 0, none⟩)) ∧ Dw w0 w' p (freeD cap [] [] 0) :=
  Dw.new w0 w hm ⟨cap, [], 0, false, []⟩ none none 0 0 (Rd.nil _ _ _) (Rd.nil _ _ _) (Nat.zero_le _) (Nat.zero_le _)
theorem Own.nilD {w : World} {T size n : Nat} {v : Value} {cs : List Value} (h : Own w T size v n cs) : ∃ A c, v = .slice A n c ∧ Rd w size A n cs := by
  obtain ⟨A, c, h1, _, _, h2⟩ := h.out
  exact ⟨A, c, h1, h2⟩
end Go.Proofs.Ytfbnkbdolimojaa
