/- A disk in blocks of the law's own: each of its calls in one line. -/
import Derived.Test.YtaldneffhbgepaaDoorDkAw
import Derived.Test.YtaldneffhbgepaaDoorDkOneL
import Derived.Test.YtaldneffhbgepaaDoorRead
namespace Go.Proofs.YtaldneffhbgepaaDoor
open Go.RowKit
set_option linter.unusedVariables false

/-- In the world w a disk d lies behind p, in blocks that are newer than the world w0; all that was in w0 is as it was. -/
def Dw (w0 w : World) (p : Nat) (d : Dk) : Prop := ∃ S, IsD w p d S ∧ Mod NoneB w0 w ∧ ∀ k, S k → w0.heap.size ≤ k
structure Fits (d : Dk) : Prop where
  c : d.c < 4611686018427387904
  l : d.fs.length ≤ 1099511627776
  u : usedF d.fs ≤ 70368744177664
theorem Dw.base {w0 w : World} {p : Nat} {d : Dk} (h : Dw w0 w p d) : Mod NoneB w0 w := by obtain ⟨_, _, h, _⟩ := h; exact h
theorem Dw.mod0 {w0 w w1 : World} {p : Nat} {d : Dk} (h : Dw w0 w p d) (hm : Mod NoneB w w1) : Dw w0 w1 p d := by
  obtain ⟨S, h1, h2, h3⟩ := h
  exact ⟨S, h1.mod0 hm, h2.then0 hm, h3⟩
theorem Dw.of {w0 w w' : World} {S : Nat → Prop} {p : Nat} {d' : Dk} (hm : Mod NoneB w0 w) (hS : ∀ k, S k → w0.heap.size ≤ k) (h : DStep w S p d' w') : Dw w0 w' p d' := by
  obtain ⟨S', hto⟩ := h
  obtain ⟨h1, h2, h3⟩ := hto.go hm hS
  exact ⟨S', h1, h2, h3⟩
/-- A base further back. -/
theorem Dw.back {w0 w1 w : World} {p : Nat} {d : Dk} (h : Dw w1 w p d) (hm : Mod NoneB w0 w1) : Dw w0 w p d := by
  obtain ⟨S, h1, h2, h3⟩ := h
  exact ⟨S, h1, hm.then0 h2, fun k hk => Nat.le_trans hm.size (h3 k hk)⟩

theorem Dw.new (w0 w : World) (hm : Mod NoneB w0 w) (pl : Pl) (F K : Option Addr) (fc kc : Nat) (hF : Rd w 1 F pl.fail.length (encI pl.fail)) (hK : Rd w 1 K pl.keep.length (encI pl.keep)) (hf : pl.fail.length ≤ 1099511627776) (hk : pl.keep.length ≤ 1099511627776) :
    Calls Tryd.prog 28 #[.agg #[.int .i64 pl.cap, .slice F pl.fail.length fc, .int .i64 pl.crash, .bool pl.done, .slice K pl.keep.length kc]] w fun e w' =>
      ∃ p, e = .returned (.pointer (some ⟨p, 0, none⟩)) ∧ Dw w0 w' p ⟨pl, [], 0, false⟩ := by
  refine (new_calls w pl F K fc kc hF hK hf hk).mono ?_
  rintro e w1 ⟨p, S, rfl, h1, h2, h3⟩
  exact ⟨p, rfl, S, h1, hm.then0 h2, fun k hk => Nat.le_trans hm.size (h3 k hk)⟩
theorem Dw.create {w0 w : World} {p : Nat} {d : Dk} (h : Dw w0 w p d) (n : ByteArray) (hf : Fits d) :
    Calls Tryd.prog 33 #[.pointer (some ⟨p, 0, none⟩), .string n] w fun e w' => e = .returned (.int .i64 (createD d n).2) ∧ Dw w0 w' p (createD d n).1 := by
  obtain ⟨S, h1, h2, h3⟩ := h
  refine (create_calls w p d S n h1 hf.c hf.l).mono ?_
  rintro e w1 ⟨rfl, hs⟩
  exact ⟨rfl, Dw.of h2 h3 hs⟩
theorem Dw.sync {w0 w : World} {p : Nat} {d : Dk} (h : Dw w0 w p d) (n : ByteArray) (hf : Fits d) :
    Calls Tryd.prog 51 #[.pointer (some ⟨p, 0, none⟩), .string n] w fun e w' => e = .returned (.int .i64 (syncD d n).2) ∧ Dw w0 w' p (syncD d n).1 := by
  obtain ⟨S, h1, h2, h3⟩ := h
  refine (sync_calls w p d S n h1 hf.c (Nat.le_trans hf.l (by decide))).mono ?_
  rintro e w1 ⟨rfl, hs⟩
  exact ⟨rfl, Dw.of h2 h3 hs⟩
theorem Dw.cut {w0 w : World} {p : Nat} {d : Dk} (h : Dw w0 w p d) (n : ByteArray) (k : Int) (hf : Fits d) :
    Calls Tryd.prog 50 #[.pointer (some ⟨p, 0, none⟩), .string n, .int .i64 k] w fun e w' => e = .returned (.int .i64 (cutD d n k).2) ∧ Dw w0 w' p (cutD d n k).1 := by
  obtain ⟨S, h1, h2, h3⟩ := h
  refine (cut_calls w p d S n k h1 hf.c (Nat.le_trans hf.l (by decide))).mono ?_
  rintro e w1 ⟨rfl, hs⟩
  exact ⟨rfl, Dw.of h2 h3 hs⟩
/-- Bytes that lie in blocks older than the disk, or newer than it is now. -/
theorem Dw.append {w0 w1 w : World} {p : Nat} {d : Dk} (h : Dw w0 w1 p d) (hm : Mod NoneB w1 w) (n : ByteArray) (b : List UInt8) (B : Option Addr) (bc : Nat) (hb : Rd w 1 B b.length (encB b))
    (hB : 0 < b.length → ∀ ad, B = some ad → ad.block < w0.heap.size ∨ w1.heap.size ≤ ad.block) (hf : Fits d) (hu : usedF d.fs + b.length ≤ 70368744177664) :
    Calls Tryd.prog 34 #[.pointer (some ⟨p, 0, none⟩), .string n, .slice B b.length bc] w fun e w' => e = .returned (.int .i64 (appendD d n b).2) ∧ Dw w0 w' p (appendD d n b).1 := by
  obtain ⟨S, h1, h2, h3⟩ := h
  refine (append_calls w p d S n b B bc (h1.mod0 hm) hb (fun hp ad hA hs => ?_) hf.c (Nat.le_trans hf.l (by decide)) hu).mono ?_
  · rcases hB hp ad hA with hq | hq
    · have := h3 _ hs; omega
    · exact h1.notS hq hs
  · rintro e w1 ⟨rfl, hs⟩
    exact ⟨rfl, Dw.of (h2.then0 hm) h3 hs⟩
theorem Dw.read {w0 w : World} {p : Nat} {d : Dk} (h : Dw w0 w p d) (n : ByteArray) (hf : Fits d) :
    Calls Tryd.prog 49 #[.pointer (some ⟨p, 0, none⟩), .string n] w fun e w' =>
      ∃ v, e = .returned (.tuple #[v, .int .i64 (readD d n).2]) ∧ Own w' 5 1 v (readD d n).1.length (encB (readD d n).1) ∧ Dw w0 w' p d ∧ Mod NoneB w w' ∧ (∀ g, v.ownBlock = some g → w.heap.size ≤ g) := by
  obtain ⟨S, h1, h2, h3⟩ := h
  refine (read_calls w p d S n h1 (Nat.le_trans hf.l (by decide)) hf.u).mono ?_
  rintro e w1 ⟨v, rfl, h4, h5, h6⟩
  exact ⟨v, rfl, h4, ⟨S, h1.mod0 h5, h2.then0 h5, h3⟩, h5, h6⟩
theorem Dw.restart {w0 w1 w : World} {p : Nat} {d : Dk} (h : Dw w0 w1 p d) (hm : Mod NoneB w1 w) (pl : Pl) (F K : Option Addr) (fc kc : Nat) (hF : Rd w 1 F pl.fail.length (encI pl.fail)) (hK : Rd w 1 K pl.keep.length (encI pl.keep))
    (hoF : 0 < pl.fail.length → ∀ ad, F = some ad → ad.block < w0.heap.size ∨ w1.heap.size ≤ ad.block) (hoK : 0 < pl.keep.length → ∀ ad, K = some ad → ad.block < w0.heap.size ∨ w1.heap.size ≤ ad.block)
    (hf : pl.fail.length ≤ 1099511627776) (hk : pl.keep.length ≤ 1099511627776) (hd : Fits d) :
    Calls Tryd.prog 36 #[.pointer (some ⟨p, 0, none⟩), .agg #[.int .i64 pl.cap, .slice F pl.fail.length fc, .int .i64 pl.crash, .bool pl.done, .slice K pl.keep.length kc]] w fun e w' => e = .returned (.tuple #[]) ∧ Dw w0 w' p (restartD d pl) := by
  obtain ⟨S, h1, h2, h3⟩ := h
  have ho : ∀ (n : Nat) (A : Option Addr), (0 < n → ∀ ad, A = some ad → ad.block < w0.heap.size ∨ w1.heap.size ≤ ad.block) → 0 < n → Off S A := by
    intro n A hA hp ad hAd hs
    rcases hA hp ad hAd with hq | hq
    · have := h3 _ hs; omega
    · exact h1.notS hq hs
  refine (restart_calls w p d S pl F K fc kc (h1.mod0 hm) hF hK (ho _ _ hoF) (ho _ _ hoK) hf hk hd.l hd.u).mono ?_
  rintro e w1 ⟨rfl, hs⟩
  exact ⟨rfl, Dw.of (h2.then0 hm) h3 hs⟩
/-- A plan that names nothing: no slices. -/
theorem Dw.restart0 {w0 w : World} {p : Nat} {d : Dk} (h : Dw w0 w p d) (cap : Int) (hd : Fits d) :
    Calls Tryd.prog 36 #[.pointer (some ⟨p, 0, none⟩), .agg #[.int .i64 cap, .slice none 0 0, .int .i64 0, .bool false, .slice none 0 0]] w fun e w' => e = .returned (.tuple #[]) ∧ Dw w0 w' p (restartD d ⟨cap, [], 0, false, []⟩) :=
  h.restart (Mod.refl _ _) ⟨cap, [], 0, false, []⟩ none none 0 0 (Rd.nil _ _ _) (Rd.nil _ _ _) (fun h => absurd h (Nat.lt_irrefl _)) (fun h => absurd h (Nat.lt_irrefl _)) (Nat.zero_le _) (Nat.zero_le _) hd
theorem Dw.new0 (w0 w : World) (hm : Mod NoneB w0 w) (cap : Int) :
    Calls Tryd.prog 28 #[.agg #[.int .i64 cap, .slice none 0 0, .int .i64 0, .bool false, .slice none 0 0]] w fun e w' => ∃ p, e = .returned (.pointer (some ⟨p, 0, none⟩)) ∧ Dw w0 w' p (freeD cap [] [] 0) :=
  Dw.new w0 w hm ⟨cap, [], 0, false, []⟩ none none 0 0 (Rd.nil _ _ _) (Rd.nil _ _ _) (Nat.zero_le _) (Nat.zero_le _)
theorem Own.nilD {w : World} {T size n : Nat} {v : Value} {cs : List Value} (h : Own w T size v n cs) : ∃ A c, v = .slice A n c ∧ Rd w size A n cs := by
  obtain ⟨A, c, h1, _, _, h2⟩ := h.out
  exact ⟨A, c, h1, h2⟩
end Go.Proofs.YtaldneffhbgepaaDoor

/- A disk's Files. -/
namespace Go.Proofs.YtaldneffhbgepaaDoor
open Go.RowKit
set_option linter.unusedVariables false

def encFl (x : Fl × Value) : List Value := [.string x.1.n, x.2, .int .i64 x.1.s]
def encFs (l : List (Fl × Value)) : List Value := l.flatMap encFl
theorem encFs_length (l : List (Fl × Value)) : (encFs l).length = l.length * 3 := flatMap_length encFl 3 (fun _ => rfl) l
theorem encFl_one (f : Fl) (A : Option Addr) (n c : Nat) : ∀ u ∈ encFl (f, .slice A n c), u.oneCell' = true := by
  intro u hu
  simp [encFl] at hu
  rcases hu with rfl | rfl | rfl <;> rfl
theorem encFs_get (l : List (Fl × Value)) (i : Nat) (h : i < l.length) : (encFs l)[i * 3]? = some (.string l[i].1.n) ∧ (encFs l)[i * 3 + 1]? = some l[i].2 ∧ (encFs l)[i * 3 + 2]? = some (.int .i64 l[i].1.s) := by
  induction l generalizing i with
  | nil => simp at h
  | cons x l ih =>
    unfold encFs at *
    rw [List.flatMap_cons]
    cases i with
    | zero => exact ⟨rfl, rfl, rfl⟩
    | succ i =>
      have := ih i (by simpa using h)
      have e : (i + 1) * 3 = i * 3 + (encFl x).length := by show (i + 1) * 3 = i * 3 + 3; omega
      simp only [List.getElem_cons_succ]
      rw [e]
      refine ⟨?_, ?_, ?_⟩
      · rw [List.getElem?_append_right (by omega), Nat.add_sub_cancel]; exact this.1
      · rw [List.getElem?_append_right (by omega), show i * 3 + (encFl x).length + 1 - (encFl x).length = i * 3 + 1 from by omega]; exact this.2.1
      · rw [List.getElem?_append_right (by omega), show i * 3 + (encFl x).length + 2 - (encFl x).length = i * 3 + 2 from by omega]; exact this.2.2


end Go.Proofs.YtaldneffhbgepaaDoor

/- A disk beside blocks that are kept: each of its calls in one line. -/
namespace Go.Proofs.YtaldneffhbgepaaDoor
open Go.RowKit
set_option linter.unusedVariables false

/-- In the world w a disk d lies behind p; from w0 on the blocks F were kept, and the disk has none of them. -/
def Dx (F : Nat → Prop) (w0 w : World) (p : Nat) (d : Dk) : Prop := ∃ S, IsD w p d S ∧ Mod (fun k => ¬ F k) w0 w ∧ (∀ k, S k → ¬ F k) ∧ ∀ k, F k → k < w0.heap.size
def OldB (w : World) : Nat → Prop := fun k => k < w.heap.size
theorem Dx.kept {F : Nat → Prop} {w0 w : World} {p : Nat} {d : Dk} (h : Dx F w0 w p d) : Mod (fun k => ¬ F k) w0 w := by obtain ⟨_, _, h, _⟩ := h; exact h
theorem Dx.lt0 {F : Nat → Prop} {w0 w : World} {p : Nat} {d : Dk} (h : Dx F w0 w p d) : ∀ k, F k → k < w0.heap.size := by obtain ⟨_, _, _, _, h⟩ := h; exact h
theorem Dx.lt {F : Nat → Prop} {w0 w : World} {p : Nat} {d : Dk} (h : Dx F w0 w p d) : ∀ k, F k → k < w.heap.size := fun k hk => Nat.lt_of_lt_of_le (h.lt0 k hk) h.kept.size
theorem Dx.mod0 {F : Nat → Prop} {w0 w w1 : World} {p : Nat} {d : Dk} (h : Dx F w0 w p d) (hm : Mod NoneB w w1) : Dx F w0 w1 p d := by
  obtain ⟨S, h1, h2, h3, h4⟩ := h
  exact ⟨S, h1.mod0 hm, h2.then0 hm, h3, h4⟩
theorem Dx.of {F : Nat → Prop} {w0 w w' : World} {S : Nat → Prop} {p : Nat} {d d' : Dk} (h1 : IsD w p d S) (hm : Mod (fun k => ¬ F k) w0 w) (hS : ∀ k, S k → ¬ F k) (hF : ∀ k, F k → k < w0.heap.size) (h : DStep w S p d' w') : Dx F w0 w' p d' := by
  obtain ⟨S', hto⟩ := h
  refine ⟨S', hto.isD, hm.trans hto.mod (fun k _ hk => hS k hk), fun k hk hf => (hto.new k hk).elim (fun h => hS k h hf) (fun h => ?_), hF⟩
  have := hF k hf
  have := hm.size
  omega
theorem Dw.toX {w0 w : World} {p : Nat} {d : Dk} (h : Dw w0 w p d) : Dx (OldB w0) w0 w p d := by
  obtain ⟨S, h1, h2, h3⟩ := h
  exact ⟨S, h1, h2.mono (fun k hk hf => hf.elim), fun k hk hf => by have := h3 k hk; unfold OldB at hf; omega, fun k hk => hk⟩
theorem Dx.old {w0 w : World} {p : Nat} {d : Dk} (h : Dx (OldB w0) w0 w p d) : Dw w0 w p d := by
  obtain ⟨S, h1, h2, h3, _⟩ := h
  exact ⟨S, h1, h2.mono (fun k hk hn => absurd hk hn), fun k hk => Nat.not_lt.1 (h3 k hk)⟩
/-- More blocks that are kept from here on: they are the disk's no more than those that were. -/
theorem Dx.keep {F G : Nat → Prop} {w0 w1 w : World} {p : Nat} {d : Dk} (h : Dx F w0 w1 p d) (hm : Mod NoneB w1 w) (hG : ∀ k, G k → (F k ∨ w1.heap.size ≤ k) ∧ k < w.heap.size) : Dx G w w p d := by
  obtain ⟨S, h1, h2, h3, h4⟩ := h
  refine ⟨S, h1.mod0 hm, Mod.refl _ _, fun k hk hg => ?_, fun k hk => (hG k hk).2⟩
  rcases (hG k hg).1 with h | h
  · exact h3 k hk h
  · exact h1.notS h hk
/-- Fewer, from further back. -/
theorem Dx.drop {F G : Nat → Prop} {w0 w1 w : World} {p : Nat} {d : Dk} (h : Dx G w1 w p d) (hm : Mod (fun k => ¬ F k) w0 w1) (hF : ∀ k, F k → G k ∧ k < w0.heap.size) : Dx F w0 w p d := by
  obtain ⟨S, h1, h2, h3, h4⟩ := h
  exact ⟨S, h1, hm.trans h2 (fun k _ hk hf => hk (hF k hf).1), fun k hk hf => h3 k hk (hF k hf).1, fun k hk => (hF k hk).2⟩
theorem Dx.blk {F : Nat → Prop} {w0 w : World} {p : Nat} {d : Dk} (h : Dx F w0 w p d) {g : Nat} {o : Obj} (hb : w0.heap[g]? = some o) (hF : F g) : w.heap[g]? = some o := h.kept.blk hb (fun hn => hn hF)
theorem Dx.rd {F : Nat → Prop} {w0 w : World} {p : Nat} {d : Dk} (h : Dx F w0 w p d) {size n : Nat} {A : Option Addr} {cs : List Value} (hr : Rd w0 size A n cs) (hF : 0 < n → ∀ ad, A = some ad → F ad.block) : Rd w size A n cs :=
  hr.modP h.kept (fun hp ad hA hn => hn (hF hp ad hA))

theorem Dx.create {Kp : Nat → Prop} {w0 w : World} {p : Nat} {d : Dk} (h : Dx Kp w0 w p d) (n : ByteArray) (hf : Fits d) :
    Calls Tryd.prog 33 #[.pointer (some ⟨p, 0, none⟩), .string n] w fun e w' => e = .returned (.int .i64 (createD d n).2) ∧ Dx Kp w0 w' p (createD d n).1 := by
  obtain ⟨S, h1, h2, h3, h4⟩ := h
  refine (create_calls w p d S n h1 hf.c hf.l).mono ?_
  rintro e w1 ⟨rfl, hs⟩
  exact ⟨rfl, Dx.of h1 h2 h3 h4 hs⟩
theorem Dx.sync {Kp : Nat → Prop} {w0 w : World} {p : Nat} {d : Dk} (h : Dx Kp w0 w p d) (n : ByteArray) (hf : Fits d) :
    Calls Tryd.prog 51 #[.pointer (some ⟨p, 0, none⟩), .string n] w fun e w' => e = .returned (.int .i64 (syncD d n).2) ∧ Dx Kp w0 w' p (syncD d n).1 := by
  obtain ⟨S, h1, h2, h3, h4⟩ := h
  refine (sync_calls w p d S n h1 hf.c (Nat.le_trans hf.l (by decide))).mono ?_
  rintro e w1 ⟨rfl, hs⟩
  exact ⟨rfl, Dx.of h1 h2 h3 h4 hs⟩
theorem Dx.cut {Kp : Nat → Prop} {w0 w : World} {p : Nat} {d : Dk} (h : Dx Kp w0 w p d) (n : ByteArray) (k : Int) (hf : Fits d) :
    Calls Tryd.prog 50 #[.pointer (some ⟨p, 0, none⟩), .string n, .int .i64 k] w fun e w' => e = .returned (.int .i64 (cutD d n k).2) ∧ Dx Kp w0 w' p (cutD d n k).1 := by
  obtain ⟨S, h1, h2, h3, h4⟩ := h
  refine (cut_calls w p d S n k h1 hf.c (Nat.le_trans hf.l (by decide))).mono ?_
  rintro e w1 ⟨rfl, hs⟩
  exact ⟨rfl, Dx.of h1 h2 h3 h4 hs⟩
/-- Bytes that lie in blocks older than the disk, or newer than it is now. -/
theorem Dx.append {Kp : Nat → Prop} {w0 w1 w : World} {p : Nat} {d : Dk} (h : Dx Kp w0 w1 p d) (hm : Mod NoneB w1 w) (n : ByteArray) (b : List UInt8) (B : Option Addr) (bc : Nat) (hb : Rd w 1 B b.length (encB b))
    (hB : 0 < b.length → ∀ ad, B = some ad → Kp ad.block ∨ w1.heap.size ≤ ad.block) (hf : Fits d) (hu : usedF d.fs + b.length ≤ 70368744177664) :
    Calls Tryd.prog 34 #[.pointer (some ⟨p, 0, none⟩), .string n, .slice B b.length bc] w fun e w' => e = .returned (.int .i64 (appendD d n b).2) ∧ Dx Kp w0 w' p (appendD d n b).1 := by
  obtain ⟨S, h1, h2, h3, h4⟩ := h
  refine (append_calls w p d S n b B bc (h1.mod0 hm) hb (fun hp ad hA hs => ?_) hf.c (Nat.le_trans hf.l (by decide)) hu).mono ?_
  · rcases hB hp ad hA with hq | hq
    · exact h3 _ hs hq
    · exact h1.notS hq hs
  · rintro e w1 ⟨rfl, hs⟩
    exact ⟨rfl, Dx.of (h1.mod0 hm) (h2.then0 hm) h3 h4 hs⟩
theorem Dx.read {Kp : Nat → Prop} {w0 w : World} {p : Nat} {d : Dk} (h : Dx Kp w0 w p d) (n : ByteArray) (hf : Fits d) :
    Calls Tryd.prog 49 #[.pointer (some ⟨p, 0, none⟩), .string n] w fun e w' =>
      ∃ v, e = .returned (.tuple #[v, .int .i64 (readD d n).2]) ∧ Own w' 5 1 v (readD d n).1.length (encB (readD d n).1) ∧ Dx Kp w0 w' p d ∧ Mod NoneB w w' ∧ (∀ g, v.ownBlock = some g → w.heap.size ≤ g) := by
  obtain ⟨S, h1, h2, h3, h4⟩ := h
  refine (read_calls w p d S n h1 (Nat.le_trans hf.l (by decide)) hf.u).mono ?_
  rintro e w1 ⟨v, rfl, g4, h5, h6⟩
  exact ⟨v, rfl, g4, ⟨S, h1.mod0 h5, h2.then0 h5, h3, h4⟩, h5, h6⟩
theorem Dx.restart {Kp : Nat → Prop} {w0 w1 w : World} {p : Nat} {d : Dk} (h : Dx Kp w0 w1 p d) (hm : Mod NoneB w1 w) (pl : Pl) (F K : Option Addr) (fc kc : Nat) (hF : Rd w 1 F pl.fail.length (encI pl.fail)) (hK : Rd w 1 K pl.keep.length (encI pl.keep))
    (hoF : 0 < pl.fail.length → ∀ ad, F = some ad → Kp ad.block ∨ w1.heap.size ≤ ad.block) (hoK : 0 < pl.keep.length → ∀ ad, K = some ad → Kp ad.block ∨ w1.heap.size ≤ ad.block)
    (hf : pl.fail.length ≤ 1099511627776) (hk : pl.keep.length ≤ 1099511627776) (hd : Fits d) :
    Calls Tryd.prog 36 #[.pointer (some ⟨p, 0, none⟩), .agg #[.int .i64 pl.cap, .slice F pl.fail.length fc, .int .i64 pl.crash, .bool pl.done, .slice K pl.keep.length kc]] w fun e w' => e = .returned (.tuple #[]) ∧ Dx Kp w0 w' p (restartD d pl) := by
  obtain ⟨S, h1, h2, h3, h4⟩ := h
  have ho : ∀ (n : Nat) (A : Option Addr), (0 < n → ∀ ad, A = some ad → Kp ad.block ∨ w1.heap.size ≤ ad.block) → 0 < n → Off S A := by
    intro n A hA hp ad hAd hs
    rcases hA hp ad hAd with hq | hq
    · exact h3 _ hs hq
    · exact h1.notS hq hs
  refine (restart_calls w p d S pl F K fc kc (h1.mod0 hm) hF hK (ho _ _ hoF) (ho _ _ hoK) hf hk hd.l hd.u).mono ?_
  rintro e w1 ⟨rfl, hs⟩
  exact ⟨rfl, Dx.of (h1.mod0 hm) (h2.then0 hm) h3 h4 hs⟩
theorem Dx.restart0 {Kp : Nat → Prop} {w0 w : World} {p : Nat} {d : Dk} (h : Dx Kp w0 w p d) (cap : Int) (hd : Fits d) :
    Calls Tryd.prog 36 #[.pointer (some ⟨p, 0, none⟩), .agg #[.int .i64 cap, .slice none 0 0, .int .i64 0, .bool false, .slice none 0 0]] w fun e w' => e = .returned (.tuple #[]) ∧ Dx Kp w0 w' p (restartD d ⟨cap, [], 0, false, []⟩) :=
  h.restart (Mod.refl _ _) ⟨cap, [], 0, false, []⟩ none none 0 0 (Rd.nil _ _ _) (Rd.nil _ _ _) (fun h => absurd h (Nat.lt_irrefl _)) (fun h => absurd h (Nat.lt_irrefl _)) (Nat.zero_le _) (Nat.zero_le _) hd
end Go.Proofs.YtaldneffhbgepaaDoor

