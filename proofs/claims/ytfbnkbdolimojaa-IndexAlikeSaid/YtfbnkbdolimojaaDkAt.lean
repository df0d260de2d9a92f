/- A disk in memory: how it lies, its blocks, what keeps it. -/
import Derived.Test.YtfbnkbdolimojaaDkMod
import Derived.Test.YtfbnkbdolimojaaNums
namespace Go.Proofs.Ytfbnkbdolimojaa
open Go.RowKit
set_option linter.unusedVariables false

/-- A file in memory: its block, where its bytes lie, what it holds. -/
structure Ent where
  g : Nat
  v : Value
  f : Fl
structure EntOk (w : World) (e : Ent) : Prop where
  blk : w.heap[e.g]? = some (.cells #[.string e.f.n, e.v, .int .i64 e.f.s] 137 (0, 0))
  own : Own w 5 1 e.v e.f.b.length (encB e.f.b)

def Apart2 (a b : Ent) : Prop := a.g ≠ b.g ∧ ∀ k, a.v.ownBlock = some k → b.v.ownBlock ≠ some k

def dkCells (d : Dk) (row FA KA : Value) : Array Value :=
  #[.int .i64 d.p.cap, FA, .int .i64 d.p.crash, .bool d.p.done, KA, row, .int .i64 d.c, .bool d.dn]

structure DkAt (w : World) (p : Nat) (d : Dk) (row : Value) (es : List Ent) (FA KA : Value) : Prop where
  blk : w.heap[p]? = some (.cells (dkCells d row FA KA) 91 (0, 0))
  row : Own w 135 1 row es.length (encGs (es.map (·.g)))
  fs : d.fs = es.map (·.f)
  ent : ∀ e ∈ es, EntOk w e
  ap : es.Pairwise Apart2
  fail : Own w 3 1 FA d.p.fail.length (encI d.p.fail)
  keep : Own w 3 1 KA d.p.keep.length (encI d.p.keep)
  rises : Rises (asPs d.fs)
  sync : ∀ f ∈ d.fs, f.s ≤ f.b.length

def Foot (p : Nat) (row : Value) (es : List Ent) (FA KA : Value) (k : Nat) : Prop :=
  k = p ∨ row.ownBlock = some k ∨ (∃ e ∈ es, e.g = k ∨ e.v.ownBlock = some k) ∨ FA.ownBlock = some k ∨ KA.ownBlock = some k

/-- A disk behind the pointer 'p', in the blocks S and no others. -/
def IsD (w : World) (p : Nat) (d : Dk) (S : Nat → Prop) : Prop := ∃ row es FA KA, DkAt w p d row es FA KA ∧ ∀ k, S k ↔ Foot p row es FA KA k

theorem Own.tag {w : World} {T size n g : Nat} {v : Value} {cs : List Value} (h : Own w T size v n cs) (hg : v.ownBlock = some g) : ∃ cur, w.heap[g]? = some (.cells cur T (0, 0)) := by
  obtain ⟨_, ⟨rfl, _⟩ | ⟨g', cap, cur, rfl, _, hh, _⟩⟩ := h
  · simp [Value.ownBlock] at hg
  · simp [Value.ownBlock] at hg
    subst hg
    exact ⟨cur, hh⟩
theorem tag_ne {w : World} {a b T1 T2 : Nat} {c1 c2 : Array Value} {f1 f2 : Nat × Nat} (h1 : w.heap[a]? = some (.cells c1 T1 f1)) (h2 : w.heap[b]? = some (.cells c2 T2 f2)) (hT : T1 ≠ T2) : a ≠ b := by
  rintro rfl
  rw [h1] at h2
  injection h2 with h2
  injection h2 with _ h2 _
  exact hT h2

namespace DkAt
variable {w w1 : World} {p : Nat} {d : Dk} {row FA KA : Value} {es : List Ent}
theorem lt (h : DkAt w p d row es FA KA) {k : Nat} (hk : Foot p row es FA KA k) : k < w.heap.size := by
  rcases hk with rfl | hk | ⟨e, he, rfl | hk⟩ | hk | hk
  · exact blk_lt h.blk
  · exact h.row.lt hk
  · exact blk_lt (h.ent e he).blk
  · exact (h.ent e he).own.lt hk
  · exact h.fail.lt hk
  · exact h.keep.lt hk
theorem step (h : DkAt w p d row es FA KA) (hm : ∀ k, Foot p row es FA KA k → w1.heap[k]? = w.heap[k]?) : DkAt w1 p d row es FA KA where
  blk := (hm p (.inl rfl)).trans h.blk
  row := h.row.step (fun g hg => hm g (.inr (.inl hg)))
  fs := h.fs
  ent := fun e he => ⟨(hm _ (.inr (.inr (.inl ⟨e, he, .inl rfl⟩)))).trans (h.ent e he).blk, (h.ent e he).own.step (fun g hg => hm g (.inr (.inr (.inl ⟨e, he, .inr hg⟩))))⟩
  ap := h.ap
  fail := h.fail.step (fun g hg => hm g (.inr (.inr (.inr (.inl hg)))))
  keep := h.keep.step (fun g hg => hm g (.inr (.inr (.inr (.inr hg)))))
  rises := h.rises
  sync := h.sync
theorem mod {T : Nat → Prop} (h : DkAt w p d row es FA KA) (hm : Mod T w w1) (hs : ∀ k, Foot p row es FA KA k → ¬ T k) : DkAt w1 p d row es FA KA :=
  h.step (fun k hk => hm.block k (h.lt hk) (hs k hk))
theorem rowNe (h : DkAt w p d row es FA KA) {g : Nat} (hg : row.ownBlock = some g) : g ≠ p := by
  obtain ⟨cur, hc⟩ := h.row.tag hg
  exact tag_ne hc h.blk (by decide)
theorem entNe (h : DkAt w p d row es FA KA) {e : Ent} (he : e ∈ es) : e.g ≠ p := tag_ne (h.ent e he).blk h.blk (by decide)
theorem bytesNe (h : DkAt w p d row es FA KA) {e : Ent} (he : e ∈ es) {g : Nat} (hg : e.v.ownBlock = some g) : g ≠ p := by
  obtain ⟨cur, hc⟩ := (h.ent e he).own.tag hg
  exact tag_ne hc h.blk (by decide)
theorem failNe (h : DkAt w p d row es FA KA) {g : Nat} (hg : FA.ownBlock = some g) : g ≠ p := by
  obtain ⟨cur, hc⟩ := h.fail.tag hg
  exact tag_ne hc h.blk (by decide)
theorem keepNe (h : DkAt w p d row es FA KA) {g : Nat} (hg : KA.ownBlock = some g) : g ≠ p := by
  obtain ⟨cur, hc⟩ := h.keep.tag hg
  exact tag_ne hc h.blk (by decide)
/-- The disk's own block turns, all else is left: what the block says now. -/
theorem turn (h : DkAt w p d row es FA KA) {d' : Dk} (hm : Mod (fun k => k = p) w w1) (hb : w1.heap[p]? = some (.cells (dkCells d' row FA KA) 91 (0, 0))) (hp : d'.p = d.p) (hf : d'.fs = d.fs) : DkAt w1 p d' row es FA KA where
  blk := hb
  row := h.row.mod hm (fun g hg => h.rowNe hg)
  fs := hf.trans h.fs
  ent := fun e he => ⟨hm.blk (h.ent e he).blk (h.entNe he), (h.ent e he).own.mod hm (fun g hg => h.bytesNe he hg)⟩
  ap := h.ap
  fail := by rw [hp]; exact h.fail.mod hm (fun g hg => h.failNe hg)
  keep := by rw [hp]; exact h.keep.mod hm (fun g hg => h.keepNe hg)
  rises := by rw [hf]; exact h.rises
  sync := by rw [hf]; exact h.sync
theorem cellAt (h : DkAt w p d row es FA KA) (j : Nat) : w.cell? ⟨p, j, none⟩ = (dkCells d row FA KA)[j]? := blk_cell h.blk j
end DkAt

theorem setCell_blk {w : World} {p j : Nat} {u : Value} {cs : Array Value} {T : Nat} (h : w.heap[p]? = some (.cells cs T (0, 0))) : (w.setCell ⟨p, j, none⟩ u).heap[p]? = some (.cells (cs.setIfInBounds j u) T (0, 0)) := by
  simp only [World.setCell]
  rw [Array.getElem?_modify]
  simp [h]

theorem IsD.lt {w : World} {p : Nat} {d : Dk} {S : Nat → Prop} (h : IsD w p d S) {k : Nat} (hk : S k) : k < w.heap.size := by
  obtain ⟨row, es, FA, KA, hd, hs⟩ := h
  exact hd.lt ((hs k).1 hk)
theorem IsD.mod {w w1 : World} {p : Nat} {d : Dk} {S T : Nat → Prop} (h : IsD w p d S) (hm : Mod T w w1) (ht : ∀ k, S k → ¬ T k) : IsD w1 p d S := by
  obtain ⟨row, es, FA, KA, hd, hs⟩ := h
  exact ⟨row, es, FA, KA, hd.mod hm (fun k hk => ht k ((hs k).2 hk)), hs⟩
theorem IsD.mod0 {w w1 : World} {p : Nat} {d : Dk} {S : Nat → Prop} (h : IsD w p d S) (hm : Mod NoneB w w1) : IsD w1 p d S := h.mod hm (fun _ _ hf => hf)

/-- From a disk in the blocks S at 'w' to one in S' at 'w'': nothing but its blocks has turned; its blocks are old ones of its own or new ones. -/
structure DTo (w : World) (S : Nat → Prop) (p : Nat) (d' : Dk) (w' : World) (S' : Nat → Prop) : Prop where
  isD : IsD w' p d' S'
  mod : Mod S w w'
  new : ∀ k, S' k → S k ∨ w.heap.size ≤ k
def DStep (w : World) (S : Nat → Prop) (p : Nat) (d' : Dk) (w' : World) : Prop := ∃ S', DTo w S p d' w' S'
theorem DTo.trans {w w1 w2 : World} {S S1 S2 : Nat → Prop} {p : Nat} {d1 d2 : Dk} (h : DTo w S p d1 w1 S1) (k : DTo w1 S1 p d2 w2 S2) : DTo w S p d2 w2 S2 :=
  ⟨k.isD, h.mod.trans k.mod (fun i hi hk => (h.new i hk).elim id (fun h2 => absurd hi (Nat.not_lt.2 h2))), fun i hi => (k.new i hi).elim (h.new i) (fun h2 => .inr (Nat.le_trans h.mod.size h2))⟩
end Go.Proofs.Ytfbnkbdolimojaa
