/- A disk in memory: how it lies, its blocks, what keeps it. -/
import Derived.Test.YtdmdiokfpbmnaaaDoorDkMod
import Derived.Test.YtdmdiokfpbmnaaaDoorNums
import Derived.BigQuiet
import Derived.WalkMore
import Derived.Deep.DeepCutAuto
import Derived.StillTailTactics
import Derived.Deep.RegionLaw
import Derived.BigRegion
namespace Go.Proofs.YtdmdiokfpbmnaaaDoor
open Go.RowKit
set_option linter.unusedVariables false

/-- A file in memory: its block, where its bytes lie, what it holds. -/
structure Ent where
  g : Nat
  v : Value
  f : Fl

def Apart2 (a b : Ent) : Prop := a.g ≠ b.g ∧ ∀ k, a.v.ownBlock = some k → b.v.ownBlock ≠ some k

def dkCells (d : Dk) (row FA KA : Value) : Array Value :=
  #[.int .i64 d.p.cap, FA, .int .i64 d.p.crash, .bool d.p.done, KA, row, .int .i64 d.c, .bool d.dn]


def Foot (p : Nat) (row : Value) (es : List Ent) (FA KA : Value) (k : Nat) : Prop :=
  k = p ∨ row.ownBlock = some k ∨ (∃ e ∈ es, e.g = k ∨ e.v.ownBlock = some k) ∨ FA.ownBlock = some k ∨ KA.ownBlock = some k


theorem Own.tag {w : World} {T size n g : Nat} {v : Value} {cs : List Value} (h : Own w T size v n cs) (hg : v.ownBlock = some g) : ∃ cur, w.heap[g]? = some (.cells cur T (0, 0)) := by
  obtain ⟨_, ⟨rfl, _⟩ | ⟨g', cap, cur, rfl, _, hh, _⟩⟩ := h
  · simp [Value.ownBlock] at hg
  · simp [Value.ownBlock] at hg
    subst hg
    exact ⟨cur, hh⟩
theorem tag_ne {w : World} {a b T1 T2 : Nat} {c1 c2 : Array Value} {f1 f2 : Nat × Nat} (h1 : w.heap[a]? = some (.cells c1 T1 f1)) (h2 : w.heap[b]? = some (.cells c2 T2 f2)) (hT : T1 ≠ T2) : a ≠ b := by
  rintro rfl
  rw [h1] at h2
  injection h2 with h2
  injection h2 with _ h2 _
  exact hT h2

namespace DkAt
variable {w w1 : World} {p : Nat} {d : Dk} {row FA KA : Value} {es : List Ent}
end DkAt

theorem setCell_blk {w : World} {p j : Nat} {u : Value} {cs : Array Value} {T : Nat} (h : w.heap[p]? = some (.cells cs T (0, 0))) : (w.setCell ⟨p, j, none⟩ u).heap[p]? = some (.cells (cs.setIfInBounds j u) T (0, 0)) := by
  simp only [World.setCell]
  rw [Array.getElem?_modify]
  simp [h]


end Go.Proofs.YtdmdiokfpbmnaaaDoor

/- A disk's find, gate, with. -/
namespace Go.Proofs.YtdmdiokfpbmnaaaDoor
open Go.RowKit
set_option linter.unusedVariables false




end Go.Proofs.YtdmdiokfpbmnaaaDoor

/- A disk's with: what it does with a file. -/
namespace Go.Proofs.YtdmdiokfpbmnaaaDoor
open Go.RowKit
set_option linter.unusedVariables false



theorem box3 (w : World) (a b c : Obj) : (((w.alloc a).alloc b).alloc c).heap[w.heap.size]? = some a ∧ (((w.alloc a).alloc b).alloc c).heap[w.heap.size + 1]? = some b ∧ (((w.alloc a).alloc b).alloc c).heap[w.heap.size + 1 + 1]? = some c := by
  refine ⟨?_, ?_, ?_⟩
  · exact (((Mod.refl NoneB _).alloc _).alloc _).blk (heap_alloc_new w a) (fun h => h)
  · have := ((Mod.refl NoneB _).alloc c).blk (heap_alloc_new (w.alloc a) b) (fun h => h)
    simpa using this
  · have := heap_alloc_new ((w.alloc a).alloc b) c
    simpa using this

end Go.Proofs.YtdmdiokfpbmnaaaDoor

/- What keeps a disk where one of its files turns, where a file goes, where one comes. -/
namespace Go.Proofs.YtdmdiokfpbmnaaaDoor
open Go.RowKit
set_option linter.unusedVariables false

theorem Apart2.symm {a b : Ent} (h : Apart2 a b) : Apart2 b a := ⟨fun e => h.1 e.symm, fun k hb ha => h.2 k ha hb⟩
theorem apart_get {es : List Ent} (h : es.Pairwise Apart2) {i j : Nat} (hi : i < es.length) (hj : j < es.length) (hne : i ≠ j) : Apart2 es[i] es[j] := by
  rw [List.pairwise_iff_getElem] at h
  rcases Nat.lt_or_gt_of_ne hne with h1 | h1
  · exact h i j hi hj h1
  · exact (h j i hj hi h1).symm
theorem apart_mem {es : List Ent} (h : es.Pairwise Apart2) {i : Nat} (hi : i < es.length) {e : Ent} (he : e ∈ es.eraseIdx i) : Apart2 es[i] e := by
  obtain ⟨j, hj, hne, rfl⟩ := List.mem_eraseIdx_iff_getElem.1 he
  exact apart_get h hi hj (fun e => hne e.symm)

/-- The blocks of one file. -/
def EntB (e : Ent) (k : Nat) : Prop := k = e.g ∨ e.v.ownBlock = some k

namespace DkAt
variable {w w1 : World} {p : Nat} {d : Dk} {row FA KA : Value} {es : List Ent}


end DkAt
end Go.Proofs.YtdmdiokfpbmnaaaDoor

/- A disk's used, Append. -/
namespace Go.Proofs.YtdmdiokfpbmnaaaDoor
open Go.RowKit
set_option linter.unusedVariables false

end Go.Proofs.YtdmdiokfpbmnaaaDoor

/- A disk's Append. -/
namespace Go.Proofs.YtdmdiokfpbmnaaaDoor
open Go.RowKit
set_option linter.unusedVariables false


theorem NewOr.back {w w1 : World} {v v' : Value} (h : NewOr w1 v v') (hm : w.heap.size ≤ w1.heap.size) : NewOr w v v' := by
  rcases h with h | ⟨b, h, hb⟩
  · exact .inl h
  · exact .inr ⟨b, h, Nat.le_trans hm hb⟩

/-- append to a row that is owned, as one step of a region that draws its order. -/
theorem step_append {P : Program} {w : World} {ops : Array Oper} {o : Oper} {a : Act} {K : Act → World → Prop} {Q : Exit → Act → World → Prop} {E : Prop} (hg : o.guard = none) (s x : Operand) (t : TypeId)
    (ho : o.op = .call { callee := .builtin .append, args := #[s, x], argTypes := #[t, t] })
    (e : TypeId) (z : Value) (size bytes : Nat) (ht : P.underlying t = some (.slice e)) (hti : TI P e z size bytes) (hzs : z.cells.size = size) (hsz : 0 < size) (hb0 : 0 < bytes)
    (v : Value) (n : Nat) (xs : List Value) (hs : a.eval s = v) (hown : Own w e size v n xs)
    (A : Option Addr) (m c : Nat) (news : List Value) (hx : a.eval x = .slice A m c) (hl : news.length = m * size) (hnews : 0 < m → ∃ a, A = some a ∧ ∀ j u, news[j]? = some u → w.cell? (a.add j) = some u) (h1 : ∀ u ∈ news, u.oneCell' = true)
    (hbytes : (n + m) * bytes ≤ 140737488355328)
    (h : ∀ v' w', Own w' e size v' (n + m) (xs ++ news) → Mod (OnlyBlk v) w w' → NewOr w v v' → K (a.put o.dst v') w') :
    if Region.wanted o (yielded ops a.tmps) = true then Oper.wp P o a w K Q else E := by
  have hw : Region.wanted o (yielded ops a.tmps) = true := by simp [Region.wanted, hg]
  rw [if_pos hw]
  obtain ⟨v', w', hr, h2, h3, h4⟩ := run_append_gen (P := P) t o.type e z size bytes ht hti hzs hsz v n xs hown A m c news hl hnews h1 hbytes hb0
  unfold Oper.wp execOp
  simp only [ho, resolve, invoke, builtin, Sem.run_bind, Sem.run_pure, Result.andThen_ok, List.map_toArray, List.map_cons, List.map_nil, hs, hx, hr]
  exact h v' w' h2 h3 h4

end Go.Proofs.YtdmdiokfpbmnaaaDoor

/- A disk's Append, Sync, Cut, as calls. -/
namespace Go.Proofs.YtdmdiokfpbmnaaaDoor
open Go.RowKit
set_option linter.unusedVariables false

theorem box2 (w : World) (a b : Obj) : ((w.alloc a).alloc b).heap[w.heap.size]? = some a ∧ ((w.alloc a).alloc b).heap[w.heap.size + 1]? = some b := by
  refine ⟨?_, ?_⟩
  · exact ((Mod.refl NoneB _).alloc _).blk (heap_alloc_new w a) (fun h => h)
  · have := heap_alloc_new (w.alloc a) b
    simpa using this
/-- A slice whose block is none of these. -/
def Off (S : Nat → Prop) (A : Option Addr) : Prop := ∀ ad, A = some ad → ¬ S ad.block



end Go.Proofs.YtdmdiokfpbmnaaaDoor

/- A disk's put. -/
namespace Go.Proofs.YtdmdiokfpbmnaaaDoor
open Go.RowKit
set_option linter.unusedVariables false

def putE (es : List Ent) (d : Dk) (x : Ent) : List Ent := es.take (lbF d.fs x.f.n) ++ x :: es.drop (if hitF d.fs x.f.n then lbF d.fs x.f.n + 1 else lbF d.fs x.f.n)
theorem mem_putE {es : List Ent} {d : Dk} {x e : Ent} (h : e ∈ putE es d x) : e = x ∨ e ∈ es := by
  unfold putE at h
  rw [List.mem_append, List.mem_cons] at h
  rcases h with h | h | h
  · exact .inr (List.mem_of_mem_take h)
  · exact .inl h
  · exact .inr (List.mem_of_mem_drop h)
theorem putE_apart {es : List Ent} {d : Dk} {x : Ent} (h : es.Pairwise Apart2) (hx : ∀ e ∈ es, Apart2 e x) : (putE es d x).Pairwise Apart2 := by
  unfold putE
  rw [List.pairwise_append, List.pairwise_cons]
  refine ⟨h.sublist (List.take_sublist _ _), ⟨fun e he => (hx e (List.mem_of_mem_drop he)).symm, h.sublist (List.drop_sublist _ _)⟩, ?_⟩
  intro a ha b hb
  rw [List.mem_cons] at hb
  rcases hb with rfl | hb
  · exact hx a (List.mem_of_mem_take ha)
  · have hs : (es.take (lbF d.fs x.f.n) ++ es.drop (lbF d.fs x.f.n)).Pairwise Apart2 := by rw [List.take_append_drop]; exact h
    refine (List.pairwise_append.1 hs).2.2 a ha b ?_
    split at hb
    · exact List.mem_of_mem_drop (by rw [List.drop_drop]; exact hb)
    · exact hb
theorem putE_fs {es : List Ent} {d : Dk} {x : Ent} (h : d.fs = es.map (·.f)) : putF d.fs x.f = (putE es d x).map (·.f) := by
  unfold putF putE
  rw [List.map_append, List.map_cons, List.map_take, List.map_drop, ← h]
theorem putF_as (fs : List Fl) (f : Fl) : asPs (putF fs f) = putT (asPs fs) f.n ⟨#[]⟩ := by
  unfold putF putT asPs lbF hitF
  rw [List.map_append, List.map_cons, List.map_take, List.map_drop]
  rfl
theorem mem_putF {fs : List Fl} {f g : Fl} (h : g ∈ putF fs f) : g = f ∨ g ∈ fs := by
  unfold putF at h
  rw [List.mem_append, List.mem_cons] at h
  rcases h with h | h | h
  · exact .inr (List.mem_of_mem_take h)
  · exact .inl h
  · exact .inr (List.mem_of_mem_drop h)




theorem encGs_set (l : List Nat) (i x : Nat) : (encGs l).set i (.pointer (some ⟨x, 0, none⟩)) = encGs (l.set i x) := by
  unfold encGs
  induction l generalizing i with
  | nil => simp
  | cons y l ih =>
    cases i with
    | zero => simp [encG]
    | succ i => simp only [List.flatMap_cons, List.set_cons_succ, encG, List.singleton_append, ih]

end Go.Proofs.YtdmdiokfpbmnaaaDoor

/- A disk's Create. -/
namespace Go.Proofs.YtdmdiokfpbmnaaaDoor
open Go.RowKit
set_option linter.unusedVariables false

theorem Foot.ent {p : Nat} {row FA KA : Value} {es : List Ent} {e : Ent} (he : e ∈ es) {k : Nat} (hk : EntB e k) : Foot p row es FA KA k := .inr (.inr (.inl ⟨e, he, hk.elim (fun h => .inl h.symm) .inr⟩))
theorem isEmpty_toList (n : ByteArray) : n.toList.isEmpty = decide (n = ⟨#[]⟩) := by
  have e : (⟨#[]⟩ : ByteArray).toList = [] := by decide +kernel
  rw [← beq_toList, e]
  cases n.toList <;> rfl


end Go.Proofs.YtdmdiokfpbmnaaaDoor

/- A disk's Remove. -/
namespace Go.Proofs.YtdmdiokfpbmnaaaDoor
open Go.RowKit
set_option linter.unusedVariables false

theorem erase_map {α β : Type} (f : α → β) (l : List α) (i : Nat) : (l.eraseIdx i).map f = (l.map f).eraseIdx i := by
  rw [List.eraseIdx_eq_take_drop_succ, List.eraseIdx_eq_take_drop_succ, List.map_append, List.map_take, List.map_drop]


theorem box1 (w : World) (a : Obj) : (w.alloc a).heap[w.heap.size]? = some a := heap_alloc_new w a

end Go.Proofs.YtdmdiokfpbmnaaaDoor

/- A disk's Rename. -/
namespace Go.Proofs.YtdmdiokfpbmnaaaDoor
open Go.RowKit
set_option linter.unusedVariables false

theorem newOr_in {w w1 : World} {S : Nat → Prop} {row row' : Value} (h : ∀ k, row.ownBlock = some k → S k ∨ w.heap.size ≤ k) (hno : NewOr w1 row row') (hm : w.heap.size ≤ w1.heap.size) : ∀ k, row'.ownBlock = some k → S k ∨ w.heap.size ≤ k := by
  intro k hk
  rcases hno with h1 | ⟨b, h1, hb⟩
  · exact h k (by rw [← h1]; exact hk)
  · rw [h1] at hk
    injection hk with hk
    subst hk
    exact .inr (Nat.le_trans hm hb)


end Go.Proofs.YtdmdiokfpbmnaaaDoor

/- A disk's Cut. -/
namespace Go.Proofs.YtdmdiokfpbmnaaaDoor
open Go.RowKit
set_option linter.unusedVariables false

theorem Own.shrink {w : World} {T n c m : Nat} {V : Option Addr} {cs : List Value} (h : Own w T 1 (.slice V n c) n cs) (hm : m ≤ n) : Own w T 1 (.slice V m c) m (cs.take m) := by
  obtain ⟨hl, ⟨h1, hn⟩ | ⟨g, cap, cur, he, _, hh, hnc, hcm, hcs, htk⟩⟩ := h
  · injection h1 with h1 h2 h3
    subst h1 h2 h3
    obtain rfl : m = 0 := by omega
    exact Own.nil _ _ _
  · injection he with h1 h2 h3
    subst h1 h3
    refine Own.of_blk hh (by omega) (by simpa [maxLen] using hcm) hcs ?_
    rw [← htk, List.take_take, Nat.min_eq_left (by omega), Nat.mul_one]
theorem encB_take (b : List UInt8) (m : Nat) : encB (b.take m) = (encB b).take m := by simp [encB]


end Go.Proofs.YtdmdiokfpbmnaaaDoor

