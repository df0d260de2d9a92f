/- append to a slice that is full: a new block, whatever the old one is. -/
import Derived.Test.YtaldneffhbgepaaDoorRow
namespace Go.Proofs.YtaldneffhbgepaaDoor
open Go.RowKit
set_option linter.unusedVariables false
section
variable {P : Program}
theorem wpList_append_full {w : World} {ops : Array Oper} {rest : List Oper} {o : Oper} {a : Act} {Q : Exit → Act → World → Prop} (hgd : o.guard = none) (s x : Operand) (t : TypeId)
    (ho : o.op = .call { callee := .builtin .append, args := #[s, x], argTypes := #[t, t] })
    (e : TypeId) (z : Value) (size bytes : Nat) (ht : P.underlying t = some (.slice e)) (hti : TI P e z size bytes) (hzs : z.cells.size = size) (hsz : 0 < size) (hb0 : 0 < bytes)
    (ad : Addr) (n cap : Nat) (xs : List Value) (hs : a.eval s = .slice (some ad) n cap) (hlx : xs.length = n * size) (hold : ∀ (j : Nat) u, xs[j]? = some u → w.cell? (ad.add j) = some u)
    (A : Option Addr) (m c : Nat) (news : List Value) (hx : a.eval x = .slice A m c) (hl : news.length = m * size) (hm : 0 < m) (hnews : 0 < m → ∃ a, A = some a ∧ ∀ j u, news[j]? = some u → w.cell? (a.add j) = some u) (h1 : ∀ u ∈ news, u.oneCell' = true)
    (hcap : cap < n + m) (hbytes : (n + m) * bytes ≤ 140737488355328)
    (h : ∀ (newCap : Nat) w', Own w' e size (.slice (some ⟨w.heap.size, 0, none⟩) (n + m) newCap) (n + m) (xs ++ news) → Mod NoneB w w' → wpList P ops Q rest (a.put o.dst (.slice (some ⟨w.heap.size, 0, none⟩) (n + m) newCap)) w') :
    wpList P ops Q (o :: rest) a w := by
  refine wpList_plain hgd fun K hK => ?_
  have hsmall : n + m ≤ 140737488355328 := Nat.le_trans (Nat.le_mul_of_pos_right _ hb0) hbytes
  obtain ⟨i, hi, hz, rfl, rfl⟩ := hti.parts
  obtain ⟨b, rfl, hna⟩ := hnews hm
  have hlen : (xs ++ news).length = (n + m) * i.size := by rw [List.length_append, hlx, hl, Nat.add_mul]
  have hge := grownCap_ge w (n + m) cap e
  have hcm : grownCap w (n + m) cap e ≤ maxLen := grownCap_le_maxLen w (n + m) cap e (by simp only [maxLen]; omega)
  have grown : Own (w.drew.alloc (.cells (xs.toArray ++ news.toArray ++ Builtin.zeroCells z.cells (grownCap w (n + m) cap e - (n + m))) e)) e i.size
      (.slice (some ⟨w.heap.size, 0, none⟩) (n + m) (grownCap w (n + m) cap e)) (n + m) (xs ++ news) := by
    refine Own.of_blk (heap_alloc_new w.drew _) hge (by simpa [maxLen] using hcm) ?_ ?_
    · simp only [Array.size_append, List.size_toArray, size_zeroCells, hzs, hlx, hl, ← Nat.add_mul]
      congr 1
      omega
    · simp only [Array.toList_append, List.append_assoc]
      rw [← List.append_assoc, ← hlen]
      exact List.take_left
  have hr := run_append_grow (P := P) w t o.type e i z ht hi hz ad n cap xs hlx hold b m c news hl hna (by omega) (by omega) (growslice_fits (by omega) hbytes)
  unfold Oper.wp execOp
  simp only [ho, resolve, invoke, builtin, Sem.run_bind, Sem.run_pure, Result.andThen_ok, List.map_toArray, List.map_cons, List.map_nil, hs, hx, hr]
  exact hK _ _ (h _ _ grown (((Mod.refl _ w).drew).alloc _))
end
end Go.Proofs.YtaldneffhbgepaaDoor

