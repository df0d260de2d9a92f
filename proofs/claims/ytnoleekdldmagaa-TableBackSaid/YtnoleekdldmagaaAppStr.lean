/- append of a text's bytes to a row of bytes that is owned. No program stands here. -/
import Derived.Test.YtnoleekdldmagaaRow
import Derived.Deep.AppendSrc
namespace Go.Proofs.Ytnoleekdldmagaa
open Go.RowKit
set_option linter.unusedVariables false

section
variable {P : Program}
theorem run_append_str {w : World} (t tx ty e : TypeId) (z : Value) (bytes : Nat) (ht : P.underlying t = some (.slice e)) (hk : P.underlying tx = some .string) (hti : TI P e z 1 bytes) (hzs : z.cells.size = 1)
    (v : Value) (n : Nat) (xs : List Value) (hown : Own w e 1 v n xs) (s : ByteArray) (hbytes : (n + s.size) * bytes ≤ 140737488355328) (hb0 : 0 < bytes) :
    ∃ v' w', (Builtin.append_ #[t, tx] ty #[v, .string s]).run P w = .ok v' w' ∧ Own w' e 1 v' (n + s.size) (xs ++ byteCells s) ∧ Mod (OnlyBlk v) w w' ∧ NewOr w v v' := by
  have hsmall : n + s.size ≤ 140737488355328 := Nat.le_trans (Nat.le_mul_of_pos_right _ hb0) hbytes
  have hb1 : ∀ m : Nat, m * bytes ≤ 140737488355328 → m ≤ 140737488355328 := fun m h => Nat.le_trans (Nat.le_mul_of_pos_right _ hb0) h
  obtain ⟨i, hi, hz, h1, rfl⟩ := hti.parts
  have hsrc : Src P i.size tx (.string s) s.size (byteCells s) w := by rw [h1]; exact Src.ofString w hk s
  have hnl : (byteCells s).length = s.size := byteCells_length s
  have hlx : xs.length = n := by have := hown.len; omega
  have hlen : (xs ++ byteCells s).length = (n + s.size) * 1 := by rw [List.length_append, hlx, hnl]; omega
  have grown : ∀ old : Nat,
      Own (w.drew.alloc (.cells ((xs ++ byteCells s).toArray ++ Builtin.zeroCells z.cells (grownCap w (n + s.size) old e - (n + s.size))) e)) e 1
        (.slice (some ⟨w.heap.size, 0, none⟩) (n + s.size) (grownCap w (n + s.size) old e)) (n + s.size) (xs ++ byteCells s) := by
    intro old
    have hge := grownCap_ge w (n + s.size) old e
    have hcm : grownCap w (n + s.size) old e ≤ maxLen := grownCap_le_maxLen w (n + s.size) old e (by simp only [maxLen]; omega)
    refine Own.of_blk (heap_alloc_new w.drew _) hge (by simpa [maxLen] using hcm) ?_ ?_
    · simp only [Array.size_append, List.size_toArray, size_zeroCells, hzs, hlen]
      omega
    · simp only [Array.toList_append]
      rw [← hlen]
      exact List.take_left
  have hmod : ∀ o : Obj, Mod (OnlyBlk v) w (w.drew.alloc o) := fun o => ((Mod.refl _ w).drew).alloc o
  rcases hown with ⟨_, ⟨rfl, rfl⟩ | ⟨g, cap, cur, rfl, _, hh, hnc, hcm, hcs, htk⟩⟩
  · obtain rfl : xs = [] := List.eq_nil_of_length_eq_zero hlx
    rcases Nat.eq_zero_or_pos s.size with h0 | h0
    · refine ⟨.slice none 0 0, w, ?_, ?_, Mod.refl _ _, .inl rfl⟩
      · have hq : byteCells s = [] := List.eq_nil_of_length_eq_zero (by omega)
        have hl0 := hsrc.len w
        have hc0 := hsrc.cells
        rw [h0] at hl0 hc0
        rw [hq] at hc0
        simp [Builtin.append_, run_underlying ht, run_underlying hk, sizeOf, typeInfo, hi, hl0, hc0]
      · have hq : byteCells s = [] := List.eq_nil_of_length_eq_zero (by omega)
        rw [h0, hq]
        exact Own.nil _ _ _
    · have hr := run_append_grow_src (P := P) w t tx ty e i z ht hi hz none 0 0 [] (run_firstCells_none _ _ _ _ _) (.string s) s.size _ hsrc (by omega) (by omega) (by
        have := nextslicecap_zero h0
        simp only [Nat.zero_add] at hbytes ⊢
        rw [this]
        omega)
      exact ⟨_, _, hr, grown 0, hmod _, .inr ⟨_, rfl, Nat.le_refl _⟩⟩
  · by_cases hroom : n + s.size ≤ cap
    · have hfit : n * i.size + (byteCells s).length ≤ cur.size := by rw [h1, hnl, hcs]; omega
      have hst := run_storeCells_at P g (n * i.size) e (byteCells s) 0 cur w hh (by simpa using hfit) hsrc.one
      simp only [Nat.add_zero] at hst
      have hr : (Builtin.append_ #[t, tx] ty #[.slice (some ⟨g, 0, none⟩) n cap, .string s]).run P w = .ok (.slice (some ⟨g, 0, none⟩) (n + s.size) cap) (w.setRow g (cur.toList.take (n * i.size) ++ byteCells s ++ cur.toList.drop (n * i.size + (byteCells s).length)).toArray) := by
        simp [Builtin.append_, run_underlying ht, run_underlying hk, sizeOf, typeInfo, hi, hsrc.len, hroom, hsrc.cells, add_zero, hst]
      refine ⟨_, _, hr, Own.of_blk (setRow_heap w g cur _ e _ hh) hroom (by simpa [maxLen] using hcm) ?_ ?_, (setRow_mod _ _ _).mono (fun k _ hk => by subst hk; rfl), .inl rfl⟩
      · simp only [List.size_toArray, List.length_append, List.length_take, List.length_drop, Array.length_toList]
        omega
      · have e1 : n * i.size = n * 1 := by rw [h1]
        rw [e1, htk, ← hlen]
        exact List.take_left
    · have holds : ∀ j u, xs[j]? = some u → w.drew.cell? ((⟨g, 0, none⟩ : Addr).add j) = some u := by
        intro j u hu
        rw [add_zero]
        show w.cell? _ = _
        rw [blk_cell hh]
        rw [← htk, List.getElem?_take] at hu
        split at hu
        · simpa using hu
        · cases hu
      have hold := run_firstCells_some (P := P) w.drew i.size n ⟨g, 0, none⟩ n cap xs (by rw [h1, hlx]; omega) holds
      have hr := run_append_grow_src (P := P) w t tx ty e i z ht hi hz (some ⟨g, 0, none⟩) n cap xs hold (.string s) s.size _ hsrc (by omega) (by omega) (growslice_fits (by omega) hbytes)
      exact ⟨_, _, hr, grown cap, hmod _, .inr ⟨_, rfl, Nat.le_refl _⟩⟩

/-- append(v, s...) of a text. -/
theorem wpList_append_str {w : World} {ops : Array Oper} {rest : List Oper} {o : Oper} {a : Act} {Q : Exit → Act → World → Prop} (hgd : o.guard = none) (s x : Operand) (t tx : TypeId)
    (ho : o.op = .call { callee := .builtin .append, args := #[s, x], argTypes := #[t, tx] })
    (e : TypeId) (z : Value) (bytes : Nat) (ht : P.underlying t = some (.slice e)) (hk : P.underlying tx = some .string) (hti : TI P e z 1 bytes) (hzs : z.cells.size = 1) (hb0 : 0 < bytes)
    (v : Value) (n : Nat) (xs : List Value) (hs : a.eval s = v) (hown : Own w e 1 v n xs)
    (str : ByteArray) (hx : a.eval x = .string str) (hbytes : (n + str.size) * bytes ≤ 140737488355328)
    (h : ∀ v' w', Own w' e 1 v' (n + str.size) (xs ++ byteCells str) → Mod (OnlyBlk v) w w' → NewOr w v v' → wpList P ops Q rest (a.put o.dst v') w') :
    wpList P ops Q (o :: rest) a w := by
  refine wpList_plain hgd fun K hK => ?_
  obtain ⟨v', w', hr, h2, h3, h4⟩ := run_append_str (P := P) t tx o.type e z bytes ht hk hti hzs v n xs hown str hbytes hb0
  unfold Oper.wp execOp
  simp only [ho, resolve, invoke, builtin, Sem.run_bind, Sem.run_pure, Result.andThen_ok, List.map_toArray, List.map_cons, List.map_nil, hs, hx, hr]
  exact hK _ _ (h v' w' h2 h3 h4)
/-- append to a row that is owned, as one step of a region that draws its order. -/
theorem step_app {w : World} {ops : Array Oper} {o : Oper} {a : Act} {K : Act → World → Prop} {Q : Exit → Act → World → Prop} {E : Prop} (hg : o.guard = none) (s x : Operand) (t : TypeId)
    (ho : o.op = .call { callee := .builtin .append, args := #[s, x], argTypes := #[t, t] })
    (e : TypeId) (z : Value) (size bytes : Nat) (ht : P.underlying t = some (.slice e)) (hti : TI P e z size bytes) (hzs : z.cells.size = size) (hsz : 0 < size) (hb0 : 0 < bytes)
    (v : Value) (n : Nat) (xs : List Value) (hs : a.eval s = v) (hown : Own w e size v n xs)
    (A : Option Addr) (m c : Nat) (news : List Value) (hx : a.eval x = .slice A m c) (hl : news.length = m * size) (hnews : 0 < m → ∃ a, A = some a ∧ ∀ j u, news[j]? = some u → w.cell? (a.add j) = some u) (h1 : ∀ u ∈ news, u.oneCell' = true)
    (hbytes : (n + m) * bytes ≤ 140737488355328)
    (h : ∀ v' w', Own w' e size v' (n + m) (xs ++ news) → Mod (OnlyBlk v) w w' → NewOr w v v' → K (a.put o.dst v') w') :
    if Region.wanted o (yielded ops a.tmps) = true then Oper.wp P o a w K Q else E := by
  have hw : Region.wanted o (yielded ops a.tmps) = true := by simp [Region.wanted, hg]
  rw [if_pos hw]
  obtain ⟨v', w', hr, h2, h3, h4⟩ := run_append_gen (P := P) t o.type e z size bytes ht hti hzs hsz v n xs hown A m c news hl hnews h1 hbytes hb0
  unfold Oper.wp execOp
  simp only [ho, resolve, invoke, builtin, Sem.run_bind, Sem.run_pure, Result.andThen_ok, List.map_toArray, List.map_cons, List.map_nil, hs, hx, hr]
  exact h v' w' h2 h3 h4
end
end Go.Proofs.Ytnoleekdldmagaa
