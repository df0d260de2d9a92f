/- A disk beside blocks that are kept: each of its calls in one line. -/
import Derived.Test.YtfbnkbdolimojaaDkFiles
namespace Go.Proofs.Ytfbnkbdolimojaa
open Go.RowKit
set_option linter.unusedVariables false

/-- In the world w a disk d lies behind p; from w0 on the blocks F were kept, and the disk has none of them. -/
def Dx (F : Nat → Prop) (w0 w : World) (p : Nat) (d : Dk) : Prop := ∃ S, IsD w p d S ∧ Mod (fun k => ¬ F k) w0 w ∧ (∀ k, S k → ¬ F k) ∧ ∀ k, F k → k < w0.heap.size
def OldB (w : World) : Nat → Prop := fun k => k < w.heap.size
theorem Dx.kept {F : Nat → Prop} {w0 w : World} {p : Nat} {d : Dk} (h : Dx F w0 w p d) : Mod (fun k => ¬ F k) w0 w := by obtain ⟨_, _, h, _⟩ := h; exact h
theorem Dx.lt0 {F : Nat → Prop} {w0 w : World} {p : Nat} {d : Dk} (h : Dx F w0 w p d) : ∀ k, F k → k < w0.heap.size := by obtain ⟨_, _, _, _, h⟩ := h; exact h
theorem Dx.lt {F : Nat → Prop} {w0 w : World} {p : Nat} {d : Dk} (h : Dx F w0 w p d) : ∀ k, F k → k < w.heap.size := fun k hk => Nat.lt_of_lt_of_le (h.lt0 k hk) h.kept.size
theorem Dx.mod0 {F : Nat → Prop} {w0 w w1 : World} {p : Nat} {d : Dk} (h : Dx F w0 w p d) (hm : Mod NoneB w w1) : Dx F w0 w1 p d := by
  obtain ⟨S, h1, h2, h3, h4⟩ := h
  exact ⟨S, h1.mod0 hm, h2.then0 hm, h3, h4⟩
theorem Dx.of {F : Nat → Prop} {w0 w w' : World} {S : Nat → Prop} {p : Nat} {d d' : Dk} (h1 : IsD w p d S) (hm : Mod (fun k => ¬ F k) w0 w) (hS : ∀ k, S k → ¬ F k) (hF : ∀ k, F k → k < w0.heap.size) (h : DStep w S p d' w') : Dx F w0 w' p d' := by
  obtain ⟨S', hto⟩ := h
  refine ⟨S', hto.isD, hm.trans hto.mod (fun k _ hk => hS k hk), fun k hk hf => (hto.new k hk).elim (fun h => hS k h hf) (fun h => ?_), hF⟩
  have := hF k hf
  have := hm.size
  omega
theorem Dw.toX {w0 w : World} {p : Nat} {d : Dk} (h : Dw w0 w p d) : Dx (OldB w0) w0 w p d := by
  obtain ⟨S, h1, h2, h3⟩ := h
  exact ⟨S, h1, h2.mono (fun k hk hf => hf.elim), fun k hk hf => by have := h3 k hk; unfold OldB at hf; omega, fun k hk => hk⟩
theorem Dx.old {w0 w : World} {p : Nat} {d : Dk} (h : Dx (OldB w0) w0 w p d) : Dw w0 w p d := by
  obtain ⟨S, h1, h2, h3, _⟩ := h
  exact ⟨S, h1, h2.mono (fun k hk hn => absurd hk hn), fun k hk => Nat.not_lt.1 (h3 k hk)⟩
/-- More blocks that are kept from here on: they are the disk's no more than those that were. -/
theorem Dx.keep {F G : Nat → Prop} {w0 w1 w : World} {p : Nat} {d : Dk} (h : Dx F w0 w1 p d) (hm : Mod NoneB w1 w) (hG : ∀ k, G k → (F k ∨ w1.heap.size ≤ k) ∧ k < w.heap.size) : Dx G w w p d := by
  obtain ⟨S, h1, h2, h3, h4⟩ := h
  refine ⟨S, h1.mod0 hm, Mod.refl _ _, fun k hk hg => ?_, fun k hk => (hG k hk).2⟩
  rcases (hG k hg).1 with h | h
  · exact h3 k hk h
  · exact h1.notS h hk
/-- Fewer, from further back. -/
theorem Dx.drop {F G : Nat → Prop} {w0 w1 w : World} {p : Nat} {d : Dk} (h : Dx G w1 w p d) (hm : Mod (fun k => ¬ F k) w0 w1) (hF : ∀ k, F k → G k ∧ k < w0.heap.size) : Dx F w0 w p d := by
  obtain ⟨S, h1, h2, h3, h4⟩ := h
  exact ⟨S, h1, hm.trans h2 (fun k _ hk hf => hk (hF k hf).1), fun k hk hf => h3 k hk (hF k hf).1, fun k hk => (hF k hk).2⟩
theorem Dx.blk {F : Nat → Prop} {w0 w : World} {p : Nat} {d : Dk} (h : Dx F w0 w p d) {g : Nat} {o : Obj} (hb : w0.heap[g]? = some o) (hF : F g) : w.heap[g]? = some o := h.kept.blk hb (fun hn => hn hF)
theorem Dx.rd {F : Nat → Prop} {w0 w : World} {p : Nat} {d : Dk} (h : Dx F w0 w p d) {size n : Nat} {A : Option Addr} {cs : List Value} (hr : Rd w0 size A n cs) (hF : 0 < n → ∀ ad, A = some ad → F ad.block) : Rd w size A n cs :=
  hr.modP h.kept (fun hp ad hA hn => hn (hF hp ad hA))

theorem Dx.create {Kp : Nat → Prop} {w0 w : World} {p : Nat} {d : Dk} (h : Dx Kp w0 w p d) (n : ByteArray) (hf : Fits d) :
    Calls Try.prog 49 #[.pointer (some ⟨p, 0, none⟩), .string n] w fun e w' => e = .returned (.int .i64 (createD d n).2) ∧ Dx Kp w0 w' p (createD d n).1 := by
  obtain ⟨S, h1, h2, h3, h4⟩ := h
  refine (create_calls w p d S n h1 hf.c hf.l).mono ?_
  rintro e w1 ⟨rfl, hs⟩
  exact ⟨rfl, Dx.of h1 h2 h3 h4 hs⟩
theorem Dx.sync {Kp : Nat → Prop} {w0 w : World} {p : Nat} {d : Dk} (h : Dx Kp w0 w p d) (n : ByteArray) (hf : Fits d) :
    Calls Try.prog 51 #[.pointer (some ⟨p, 0, none⟩), .string n] w fun e w' => e = .returned (.int .i64 (syncD d n).2) ∧ Dx Kp w0 w' p (syncD d n).1 := by
  obtain ⟨S, h1, h2, h3, h4⟩ := h
  refine (sync_calls w p d S n h1 hf.c (Nat.le_trans hf.l (by decide))).mono ?_
  rintro e w1 ⟨rfl, hs⟩
  exact ⟨rfl, Dx.of h1 h2 h3 h4 hs⟩
theorem Dx.remove {Kp : Nat → Prop} {w0 w : World} {p : Nat} {d : Dk} (h : Dx Kp w0 w p d) (n : ByteArray) (hf : Fits d) :
    Calls Try.prog 61 #[.pointer (some ⟨p, 0, none⟩), .string n] w fun e w' => e = .returned (.int .i64 (removeD d n).2) ∧ Dx Kp w0 w' p (removeD d n).1 := by
  obtain ⟨S, h1, h2, h3, h4⟩ := h
  refine (remove_calls w p d S n h1 hf.c hf.l).mono ?_
  rintro e w1 ⟨rfl, hs⟩
  exact ⟨rfl, Dx.of h1 h2 h3 h4 hs⟩
theorem Dx.rename {Kp : Nat → Prop} {w0 w : World} {p : Nat} {d : Dk} (h : Dx Kp w0 w p d) (n nt : ByteArray) (hf : Fits d) :
    Calls Try.prog 59 #[.pointer (some ⟨p, 0, none⟩), .string n, .string nt] w fun e w' => e = .returned (.int .i64 (renameD d n nt).2) ∧ Dx Kp w0 w' p (renameD d n nt).1 := by
  obtain ⟨S, h1, h2, h3, h4⟩ := h
  refine (rename_calls w p d S n nt h1 hf.c hf.l).mono ?_
  rintro e w1 ⟨rfl, hs⟩
  exact ⟨rfl, Dx.of h1 h2 h3 h4 hs⟩
theorem Dx.cut {Kp : Nat → Prop} {w0 w : World} {p : Nat} {d : Dk} (h : Dx Kp w0 w p d) (n : ByteArray) (k : Int) (hf : Fits d) :
    Calls Try.prog 57 #[.pointer (some ⟨p, 0, none⟩), .string n, .int .i64 k] w fun e w' => e = .returned (.int .i64 (cutD d n k).2) ∧ Dx Kp w0 w' p (cutD d n k).1 := by
  obtain ⟨S, h1, h2, h3, h4⟩ := h
  refine (cut_calls w p d S n k h1 hf.c (Nat.le_trans hf.l (by decide))).mono ?_
  rintro e w1 ⟨rfl, hs⟩
  exact ⟨rfl, Dx.of h1 h2 h3 h4 hs⟩
/-- Bytes that lie in blocks older than the disk, or newer than it is now. -/
theorem Dx.append {Kp : Nat → Prop} {w0 w1 w : World} {p : Nat} {d : Dk} (h : Dx Kp w0 w1 p d) (hm : Mod NoneB w1 w) (n : ByteArray) (b : List UInt8) (B : Option Addr) (bc : Nat) (hb : Rd w 1 B b.length (encB b))
    (hB : 0 < b.length → ∀ ad, B = some ad → Kp ad.block ∨ w1.heap.size ≤ ad.block) (hf : Fits d) (hu : usedF d.fs + b.length ≤ 70368744177664) :
    Calls Try.prog 50 #[.pointer (some ⟨p, 0, none⟩), .string n, .slice B b.length bc] w fun e w' => e = .returned (.int .i64 (appendD d n b).2) ∧ Dx Kp w0 w' p (appendD d n b).1 := by
  obtain ⟨S, h1, h2, h3, h4⟩ := h
  refine (append_calls w p d S n b B bc (h1.mod0 hm) hb (fun hp ad hA hs => ?_) hf.c (Nat.le_trans hf.l (by decide)) hu).mono ?_
  · rcases hB hp ad hA with hq | hq
    · exact h3 _ hs hq
    · exact h1.notS hq hs
  · rintro e w1 ⟨rfl, hs⟩
    exact ⟨rfl, Dx.of (h1.mod0 hm) (h2.then0 hm) h3 h4 hs⟩
theorem Dx.read {Kp : Nat → Prop} {w0 w : World} {p : Nat} {d : Dk} (h : Dx Kp w0 w p d) (n : ByteArray) (hf : Fits d) :
    Calls Try.prog 52 #[.pointer (some ⟨p, 0, none⟩), .string n] w fun e w' =>
      ∃ v, e = .returned (.tuple #[v, .int .i64 (readD d n).2]) ∧ Own w' 5 1 v (readD d n).1.length (encB (readD d n).1) ∧ Dx Kp w0 w' p d ∧ Mod NoneB w w' ∧ (∀ g, v.ownBlock = some g → w.heap.size ≤ g) := by
  obtain ⟨S, h1, h2, h3, h4⟩ := h
  refine (read_calls w p d S n h1 (Nat.le_trans hf.l (by decide)) hf.u).mono ?_
  rintro e w1 ⟨v, rfl, g4, h5, h6⟩
  exact ⟨v, rfl, g4, ⟨S, h1.mod0 h5, h2.then0 h5, h3, h4⟩, h5, h6⟩
theorem Dx.calls {Kp : Nat → Prop} {w0 w : World} {p : Nat} {d : Dk} (h : Dx Kp w0 w p d) : Calls Try.prog 17 #[.pointer (some ⟨p, 0, none⟩)] w fun e w' => e = .returned (.int .i64 d.c) ∧ w' = w := by
  obtain ⟨S, h1, _, _, _⟩ := h
  exact callsD_calls w p d S h1
theorem Dx.down {Kp : Nat → Prop} {w0 w : World} {p : Nat} {d : Dk} (h : Dx Kp w0 w p d) : Calls Try.prog 16 #[.pointer (some ⟨p, 0, none⟩)] w fun e w' => e = .returned (.bool d.dn) ∧ w' = w := by
  obtain ⟨S, h1, _, _, _⟩ := h
  exact downD_calls w p d S h1
theorem Dx.restart {Kp : Nat → Prop} {w0 w1 w : World} {p : Nat} {d : Dk} (h : Dx Kp w0 w1 p d) (hm : Mod NoneB w1 w) (pl : Pl) (F K : Option Addr) (fc kc : Nat) (hF : Rd w 1 F pl.fail.length (encI pl.fail)) (hK : Rd w 1 K pl.keep.length (encI pl.keep))
    (hoF : 0 < pl.fail.length → ∀ ad, F = some ad → Kp ad.block ∨ w1.heap.size ≤ ad.block) (hoK : 0 < pl.keep.length → ∀ ad, K = some ad → Kp ad.block ∨ w1.heap.size ≤ ad.block)
    (hf : pl.fail.length ≤ 1099511627776) (hk : pl.keep.length ≤ 1099511627776) (hd : Fits d) :
    Calls Try.prog 44 #[.pointer (some ⟨p, 0, none⟩), .agg #[.int .i64 pl.cap, .slice F pl.fail.length fc, .int .i64 pl.crash, .bool pl.done, .slice K pl.keep.length kc]] w fun e w' => e = .returned (.tuple #[]) ∧ Dx Kp w0 w' p (restartD d pl) := by
  obtain ⟨S, h1, h2, h3, h4⟩ := h
  have ho : ∀ (n : Nat) (A : Option Addr), (0 < n → ∀ ad, A = some ad → Kp ad.block ∨ w1.heap.size ≤ ad.block) → 0 < n → Off S A := by
    intro n A hA hp ad hAd hs
    rcases hA hp ad hAd with hq | hq
    · exact h3 _ hs hq
    · exact h1.notS hq hs
  refine (restart_calls w p d S pl F K fc kc (h1.mod0 hm) hF hK (ho _ _ hoF) (ho _ _ hoK) hf hk hd.l hd.u).mono ?_
  rintro e w1 ⟨rfl, hs⟩
  exact ⟨rfl, Dx.of (h1.mod0 hm) (h2.then0 hm) h3 h4 hs⟩
theorem Dx.restart0 {Kp : Nat → Prop} {w0 w : World} {p : Nat} {d : Dk} (h : Dx Kp w0 w p d) (cap : Int) (hd : Fits d) :
    Calls Try.prog 44 #[.pointer (some ⟨p, 0, none⟩), .agg #[.int .i64 cap, .slice none 0 0, .int .i64 0, .bool false, .slice none 0 0]] w fun e w' => e = .returned (.tuple #[]) ∧ Dx Kp w0 w' p (restartD d ⟨cap, [], 0, false, []⟩) :=
  h.restart (Mod.refl _ _) ⟨cap, [], 0, false, []⟩ none none 0 0 (Rd.nil _ _ _) (Rd.nil _ _ _) (fun h => absurd h (Nat.lt_irrefl _)) (fun h => absurd h (Nat.lt_irrefl _)) (Nat.zero_le _) (Nat.zero_le _) hd
theorem Dx.files {Kp : Nat → Prop} {w0 w : World} {p : Nat} {d : Dk} (h : Dx Kp w0 w p d) (hf : Fits d) :
    Calls Try.prog 65 #[.pointer (some ⟨p, 0, none⟩)] w fun e w' => ∃ v vs, e = .returned v ∧ FilesAt w' v w.heap.size d.fs vs ∧ Dx Kp w0 w' p d ∧ Mod NoneB w w' := by
  obtain ⟨S, h1, h2, h3, h4⟩ := h
  refine (files_calls w p d S h1 hf.l hf.u).mono ?_
  rintro e w1 ⟨v, vs, rfl, g4, h5⟩
  exact ⟨v, vs, rfl, g4, ⟨S, h1.mod0 h5, h2.then0 h5, h3, h4⟩, h5⟩
end Go.Proofs.Ytfbnkbdolimojaa
