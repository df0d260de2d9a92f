/- Laws on rows of elements of whatever size: what is owned, append, copy, clear. No program stands here. -/
import Derived.Lib.Overlaps
import Derived.Test.YtkklofnabmdmfaaGreatDoorAfterQq
namespace Go.Proofs.YtkklofnabmdmfaaGreatDoor
open Go.RowKit

/-- 'cs' laid over 'L' from place 'off' on. -/
def spl {α : Type} (L : List α) (off : Nat) (cs : List α) : List α := L.take off ++ (cs ++ L.drop (off + cs.length))
theorem spl_length {α : Type} (L : List α) (off : Nat) (cs : List α) (h : off + cs.length ≤ L.length) : (spl L off cs).length = L.length := by simp [spl]; omega

theorem spl_take {α : Type} (L : List α) (off : Nat) (cs : List α) (h : off ≤ L.length) : (spl L off cs).take (off + cs.length) = L.take off ++ cs := by
  have e : (L.take off ++ cs).length = off + cs.length := by rw [List.length_append, List.length_take, Nat.min_eq_left h]
  unfold spl
  rw [← List.append_assoc]
  exact e ▸ List.take_left
theorem spl_take_le {α : Type} (L : List α) (off m : Nat) (cs : List α) (h : m ≤ off) (h2 : off ≤ L.length) : (spl L off cs).take m = L.take m := by
  unfold spl
  rw [List.take_append_of_le_length (by rw [List.length_take]; omega), List.take_take, Nat.min_eq_left h]
theorem spl_two {α : Type} (L X D : List α) (a : Nat) (h : a + X.length ≤ L.length) : (spl (spl L a X) (a + X.length) D).take (a + X.length + D.length) = L.take a ++ (X ++ D) := by
  rw [spl_take _ _ _ (by rw [spl_length _ _ _ h]; exact h), spl_take _ _ _ (by omega), List.append_assoc]
theorem spl_shift {α : Type} (L X D : List α) (a : Nat) (h : a + X.length + D.length ≤ L.length) : (spl (spl L (a + X.length) D) a X).take (a + X.length + D.length) = L.take a ++ (X ++ D) := by
  have e1 : (spl L (a + X.length) D).take a = L.take a := by
    unfold spl
    rw [List.take_append_of_le_length (by simp; omega), List.take_take, Nat.min_eq_left (by omega)]
  have e2 : ((spl L (a + X.length) D).drop (a + X.length)) = D ++ L.drop (a + X.length + D.length) := by
    have e : (L.take (a + X.length)).length = a + X.length := by rw [List.length_take, Nat.min_eq_left (by omega)]
    unfold spl
    conv => lhs; arg 1; rw [← e]
    exact List.drop_left
  have e3 : (spl (spl L (a + X.length) D) a X) = (L.take a ++ (X ++ D)) ++ L.drop (a + X.length + D.length) := by
    rw [show spl (spl L (a + X.length) D) a X = (spl L (a + X.length) D).take a ++ (X ++ (spl L (a + X.length) D).drop (a + X.length)) from rfl, e1, e2]
    simp [List.append_assoc]
  have e4 : (L.take a ++ (X ++ D)).length = a + X.length + D.length := by simp; omega
  rw [e3]
  exact e4 ▸ List.take_left

/-- A row that is owned: nil, or the head of a block that is no string's. -/
def Own (w : World) (T : TypeId) (size : Nat) (v : Value) (n : Nat) (cs : List Value) : Prop := w.ownsRow 0 T size v n cs

theorem add_zero (g j : Nat) : (⟨g, 0, none⟩ : Addr).add j = ⟨g, j, none⟩ := by unfold Addr.add; split <;> simp_all
theorem add_off (g o j : Nat) : (⟨g, o, none⟩ : Addr).add j = ⟨g, o + j, none⟩ := by unfold Addr.add; split <;> simp_all

namespace Own
variable {w w1 : World} {T size n : Nat} {v : Value} {cs : List Value} {S : Nat → Prop}
theorem nil (w : World) (T size : Nat) : Own w T size (.slice none 0 0) 0 [] := World.ownsRow_nil _ _ _ _
theorem out (h : Own w T size v n cs) : ∃ A c, v = .slice A n c ∧ n ≤ c ∧ c ≤ 9223372036854775807 ∧ Rd w size A n cs := by
  obtain ⟨hl, ⟨rfl, rfl⟩ | ⟨g, cap, cur, rfl, _, hh, hnc, hcm, hcs, htk⟩⟩ := h
  · exact ⟨none, 0, rfl, by omega, by omega, by simpa using hl, by omega, fun h => absurd h (by omega)⟩
  · simp only [maxLen] at hcm
    refine ⟨_, cap, rfl, hnc, hcm, hl, by omega, fun _ => ⟨_, rfl, fun j u hu => ?_⟩⟩
    rw [add_zero, blk_cell hh]
    rw [← htk, List.getElem?_take] at hu
    split at hu
    · simpa using hu
    · cases hu
theorem len (h : Own w T size v n cs) : cs.length = n * size := h.1
theorem lt (h : Own w T size v n cs) {g : Nat} (hg : v.ownBlock = some g) : g < w.heap.size := (World.ownsRow.lt h g hg).2
theorem step (h : Own w T size v n cs) (hm : ∀ g, v.ownBlock = some g → w1.heap[g]? = w.heap[g]?) : Own w1 T size v n cs := by
  obtain ⟨hl, h2⟩ := h
  refine ⟨hl, ?_⟩
  rcases h2 with h2 | ⟨g, cap, cur, rfl, h0, hh, r⟩
  · exact .inl h2
  · exact .inr ⟨g, cap, cur, rfl, h0, (hm g (by simp [Value.ownBlock])).trans hh, r⟩
theorem mod (h : Own w T size v n cs) (hm : Mod S w w1) (hs : ∀ g, v.ownBlock = some g → ¬ S g) : Own w1 T size v n cs :=
  h.step (fun g hg => hm.block g (h.lt hg) (hs g hg))
theorem mod0 (h : Own w T size v n cs) (hm : Mod NoneB w w1) : Own w1 T size v n cs := h.mod hm (fun _ _ hf => hf)
/-- The block behind a row that has something. -/
theorem form (h : Own w T size v n cs) (hn : 0 < n) : ∃ g cap cur, v = .slice (some ⟨g, 0, none⟩) n cap ∧ w.heap[g]? = some (.cells cur T (0, 0)) ∧ n ≤ cap ∧ cap ≤ 9223372036854775807 ∧ cur.size = cap * size ∧ cur.toList.take (n * size) = cs := by
  obtain ⟨_, ⟨_, rfl⟩ | ⟨g, cap, cur, rfl, _, hh, hnc, hcm, hcs, htk⟩⟩ := h
  · omega
  · exact ⟨g, cap, cur, rfl, hh, hnc, hcm, hcs, htk⟩
/-- A block that is filled so is owned. -/
theorem of_blk {g cap : Nat} {cur : Array Value} (hh : w.heap[g]? = some (.cells cur T (0, 0))) (hnc : n ≤ cap) (hcm : cap ≤ 9223372036854775807) (hcs : cur.size = cap * size) (htk : cur.toList.take (n * size) = cs) :
    Own w T size (.slice (some ⟨g, 0, none⟩) n cap) n cs := by
  refine ⟨?_, .inr ⟨g, cap, cur, rfl, Nat.zero_le _, hh, hnc, by simpa [maxLen] using hcm, hcs, htk⟩⟩
  rw [← htk, List.length_take, Array.length_toList, hcs]
  exact Nat.min_eq_left (Nat.mul_le_mul_right _ hnc)
theorem set {g c : Nat} (h : Own w T size (.slice (some ⟨g, 0, none⟩) n c) n cs) (j : Nat) (u : Value) : Own (w.setCell ⟨g, j, none⟩ u) T size (.slice (some ⟨g, 0, none⟩) n c) n (cs.set j u) := by
  obtain ⟨hl, ⟨h1, _⟩ | ⟨g', cap, cur, he, _, hh, hnc, hcm, hcs, htk⟩⟩ := h
  · cases h1
  · have e1 : g = g' := by injection he with h; injection h with h; injection h
    have e2 : c = cap := by injection he
    subst e1
    subst e2
    have hb : (w.setCell ⟨g, j, none⟩ u).heap[g]? = some (.cells (cur.setIfInBounds j u) T (0, 0)) := by
      have hlt := blk_lt hh
      have hv := (Array.getElem?_eq_some_iff.1 hh).2
      simp only [World.setCell]
      rw [Array.getElem?_modify]
      simp [hh]
    refine Own.of_blk hb hnc (by simpa [maxLen] using hcm) (by simpa using hcs) ?_
    rw [Array.toList_setIfInBounds, List.take_set, htk]
theorem cellAt {g c : Nat} (h : Own w T size (.slice (some ⟨g, 0, none⟩) n c) n cs) (j : Nat) (u : Value) (hu : cs[j]? = some u) : w.cell? ⟨g, j, none⟩ = some u := by
  obtain ⟨A, c', he, _, _, hr⟩ := h.out
  have hn : 0 < n := by
    rcases Nat.eq_zero_or_pos n with h0 | h0
    · have := h.1
      rw [h0, Nat.zero_mul] at this
      rw [List.eq_nil_of_length_eq_zero this] at hu
      cases hu
    · exact h0
  obtain ⟨ad, e, hc⟩ := hr.2.2 hn
  have e1 : some ⟨g, 0, none⟩ = A := by injection he
  rw [e] at e1
  injection e1 with e1
  subst e1
  have := hc j u hu
  rwa [add_zero] at this
theorem frozenAt {g c : Nat} (h : Own w T size (.slice (some ⟨g, 0, none⟩) n c) n cs) (j : Nat) : w.frozen? ⟨g, j, none⟩ = false := by
  obtain ⟨_, ⟨h1, _⟩ | ⟨g', cap, cur, he, _, hh, _⟩⟩ := h
  · cases h1
  · have e1 : g = g' := by injection he with h; injection h with h; injection h
    subst e1
    exact blk_frozen hh j
theorem addrOf (h : Own w T size v n cs) (hn : 0 < n) : ∃ g c, v = .slice (some ⟨g, 0, none⟩) n c := by
  obtain ⟨g, cap, cur, rfl, _⟩ := h.form hn
  exact ⟨g, cap, rfl⟩
end Own

theorem ownBlock_slice (A : Option Addr) (n c n' c' : Nat) : (Value.slice A n c).ownBlock = (Value.slice A n' c').ownBlock := by cases A <;> rfl
/-- A value's block is that one or a new one. -/
def NewOr (w : World) (v v' : Value) : Prop := v'.ownBlock = v.ownBlock ∨ ∃ b, v'.ownBlock = some b ∧ w.heap.size ≤ b
def OnlyBlk (v : Value) : Nat → Prop := fun k => v.ownBlock = some k

theorem OnlyBlk.cap {A : Option Addr} {n c n' c' k : Nat} (h : OnlyBlk (.slice A n c) k) : OnlyBlk (.slice A n' c') k := by
  unfold OnlyBlk at *
  rw [ownBlock_slice A n' c' n c]
  exact h
theorem NewOr.cap {w : World} {A : Option Addr} {n c n' c' : Nat} {v : Value} (h : NewOr w (.slice A n c) v) : NewOr w (.slice A n' c') v := by
  unfold NewOr at *
  rw [ownBlock_slice A n' c' n c]
  exact h

section
variable {P : Program}
theorem grownBy_mod {w w1 : World} {row : Option Nat} (h : w.grownBy w1 row) : Mod (fun k => row = some k) w w1 :=
  ⟨h.os, h.tape, h.output, h.size, fun k hk hn => h.block k hk (fun e => hn e.symm)⟩
theorem setRow_mod (w : World) (g : Nat) (cs : Array Value) : Mod (fun k => k = g) w (w.setRow g cs) :=
  ⟨rfl, rfl, rfl, by simp [World.setRow], fun k _ hn => setRow_other w g k cs hn⟩

theorem run_copy_rows (w : World) (dT sT ty elem : TypeId) (size g o dLen dCap : Nat) (a : Addr) (sLen sCap : Nat) (cur : Array Value) (t : TypeId) (cs : List Value)
    (hu : P.underlying dT = some (.slice elem)) (hs : (P.info? elem).map (·.size) = some size)
    (hg : w.heap[g]? = some (.cells cur t (0, 0))) (hn : cs.length = Nat.min sLen dLen * size)
    (hsrc : ∀ j v, cs[j]? = some v → w.cell? (a.add j) = some v) (hfit : o + cs.length ≤ cur.size) (h1 : ∀ v ∈ cs, v.oneCell' = true) :
    (Builtin.copy_ #[dT, sT] ty #[.slice (some ⟨g, o, none⟩) dLen dCap, .slice (some a) sLen sCap]).run P w =
      .ok (goInt (Nat.min sLen dLen : Nat)) (w.setRow g (cur.toList.take o ++ cs ++ cur.toList.drop (o + cs.length)).toArray) := by
  have hst := run_storeCells_at P g o t cs 0 cur w hg (by simpa using hfit) h1
  cases hq : P.info? elem with
  | none => simp [hq] at hs
  | some i =>
    have hi : i.size = size := by simpa [hq] using hs
    have hf := run_firstCells_some (P := P) w i.size (Nat.min sLen dLen) a sLen sCap cs (by rw [hi]; exact hn) hsrc
    simp only [Nat.add_zero] at hst
    simp [Builtin.copy_, run_underlying hu, Builtin.lenOf, sizeOf, typeInfo, hq, hf, hst]

/-- copy into a block that is known whole: what goes over lies there from 'off' on. -/
theorem wpList_copy {w : World} {ops : Array Oper} {rest : List Oper} {o : Oper} {a : Act} {Q : Exit → Act → World → Prop} (hgd : o.guard = none) (d s : Operand) (dT sT : TypeId)
    (ho : o.op = .call { callee := .builtin .copy, args := #[d, s], argTypes := #[dT, sT] }) (elem : TypeId) (size : Nat) (hu : P.underlying dT = some (.slice elem)) (hsz : (P.info? elem).map (·.size) = some size)
    (dp sp : Option Addr) (dLen dCap sLen sCap : Nat) (hd : a.eval d = .slice dp dLen dCap) (hs : a.eval s = .slice sp sLen sCap)
    (g off : Nat) (cur : List Value) (t : TypeId) (hg : w.heap[g]? = some (.cells cur.toArray t (0, 0))) (cs : List Value) (hn : cs.length = Nat.min sLen dLen * size)
    (hpos : 0 < Nat.min sLen dLen → dp = some ⟨g, off, none⟩ ∧ ∃ ad, sp = some ad ∧ ∀ j v, cs[j]? = some v → w.cell? (ad.add j) = some v)
    (hfit : off + cs.length ≤ cur.length) (h1 : ∀ v ∈ cs, v.oneCell' = true)
    (h : ∀ w', w'.heap[g]? = some (.cells (spl cur off cs).toArray t (0, 0)) → Mod (fun k => k = g) w w' → wpList P ops Q rest (a.put o.dst (goInt (Nat.min sLen dLen : Nat))) w') :
    wpList P ops Q (o :: rest) a w := by
  refine wpList_plain hgd fun K hK => ?_
  by_cases h0 : Nat.min sLen dLen = 0
  · obtain rfl : cs = [] := List.eq_nil_of_length_eq_zero (by rw [hn, h0]; simp)
    have hw := h w (by simpa [spl] using hg) (Mod.refl _ _)
    have hrun : (Builtin.copy_ #[dT, sT] o.type #[.slice dp dLen dCap, .slice sp sLen sCap]).run P w = .ok (goInt (0 : Nat)) w := by
      have hf : ∀ x : Addr, (Builtin.firstCells (P.info? elem |>.map (·.size) |>.getD 0) 0 (.slice (some x) sLen sCap)).run P w = .ok #[] w := fun x => run_firstCells_some w _ 0 x sLen sCap [] (by simp) (by simp)
      cases hq : P.info? elem with
      | none => simp [hq] at hsz
      | some i =>
        simp only [hq, Option.map_some, Option.getD_some] at hf
        have hf0 := run_firstCells_none (P := P) (w := w) i.size 0 sLen sCap
        cases dp <;> cases sp <;> simp [Builtin.copy_, run_underlying hu, Builtin.lenOf, sizeOf, typeInfo, hq, h0, hf, hf0, storeCells]
    unfold Oper.wp
    simp only [h0] at hw
    simp [execOp, ho, resolve, invoke, builtin, hd, hs, hrun, Result.andThen]
    exact hK _ _ hw
  · obtain ⟨rfl, ad, rfl, hsrc⟩ := hpos (by omega)
    have hrun := run_copy_rows (P := P) w dT sT o.type elem size g off dLen dCap ad sLen sCap cur.toArray t cs hu hsz hg hn hsrc (by simpa using hfit) h1
    have hw := h _ (by simpa [spl] using setRow_heap w g _ _ t _ hg) (setRow_mod _ _ _)
    unfold Oper.wp
    simp [execOp, ho, resolve, invoke, builtin, hd, hs, hrun, Result.andThen]
    exact hK _ _ hw

/-- An element type's row of the table. -/
def TI (P : Program) (e : TypeId) (z : Value) (size bytes : Nat) : Prop := (P.info? e).map (fun i => (i.zero, i.size, i.bytes)) = some (some z, size, bytes)
theorem TI.parts {e : TypeId} {z : Value} {size bytes : Nat} (h : TI P e z size bytes) : ∃ i, P.info? e = some i ∧ i.zero = some z ∧ i.size = size ∧ i.bytes = bytes := by
  unfold TI at h
  cases hq : P.info? e with
  | none => simp [hq] at h
  | some i =>
    simp only [hq, Option.map_some, Option.some.injEq, Prod.mk.injEq] at h
    exact ⟨i, rfl, h.1, h.2.1, h.2.2⟩
theorem TI.size {e : TypeId} {z : Value} {size bytes : Nat} (h : TI P e z size bytes) : (P.info? e).map (·.size) = some size := by
  obtain ⟨i, hi, _, hs, _⟩ := h.parts
  simp [hi, hs]

theorem run_append_gen {w : World} (t ty e : TypeId) (z : Value) (size bytes : Nat) (ht : P.underlying t = some (.slice e)) (hti : TI P e z size bytes) (hzs : z.cells.size = size) (hsz : 0 < size)
    (v : Value) (n : Nat) (xs : List Value) (hown : Own w e size v n xs)
    (A : Option Addr) (m c : Nat) (news : List Value) (hl : news.length = m * size) (hnews : 0 < m → ∃ a, A = some a ∧ ∀ j u, news[j]? = some u → w.cell? (a.add j) = some u) (h1 : ∀ u ∈ news, u.oneCell' = true)
    (hbytes : (n + m) * bytes ≤ 140737488355328) (hb0 : 0 < bytes) :
    ∃ v' w', (Builtin.append_ #[t, t] ty #[v, .slice A m c]).run P w = .ok v' w' ∧ Own w' e size v' (n + m) (xs ++ news) ∧ Mod (OnlyBlk v) w w' ∧ NewOr w v v' := by
  have hsmall : n + m ≤ 140737488355328 := Nat.le_trans (Nat.le_mul_of_pos_right _ hb0) hbytes
  obtain ⟨i, hi, hz, rfl, rfl⟩ := hti.parts
  have hlx : xs.length = n * i.size := hown.len
  rcases Nat.eq_zero_or_pos m with rfl | hm
  · obtain rfl : news = [] := List.eq_nil_of_length_eq_zero (by simpa using hl)
    obtain ⟨B, cb, rfl, hnc, _, _⟩ := hown.out
    refine ⟨.slice B n cb, w, ?_, by simpa using hown, Mod.refl _ _, .inl rfl⟩
    have hf : ∀ x : Addr, (Builtin.firstCells i.size 0 (.slice (some x) 0 c)).run P w = .ok #[] w := fun x => run_firstCells_some w _ 0 x 0 c [] (by simp) (by simp)
    have hf0 := run_firstCells_none (P := P) (w := w) i.size 0 0 c
    cases A <;> cases B <;> simp [Builtin.append_, run_underlying ht, sizeOf, typeInfo, hi, Builtin.lenOf, hnc, hf, hf0, storeCells]
  · obtain ⟨a, rfl, hna⟩ := hnews hm
    have hlen : (xs ++ news).length = (n + m) * i.size := by rw [List.length_append, hlx, hl, Nat.add_mul]
    have grown : ∀ old : Nat, old < n + m →
        Own (w.drew.alloc (.cells (xs.toArray ++ news.toArray ++ Builtin.zeroCells z.cells (grownCap w (n + m) old e - (n + m))) e)) e i.size
          (.slice (some ⟨w.heap.size, 0, none⟩) (n + m) (grownCap w (n + m) old e)) (n + m) (xs ++ news) := by
      intro old _
      have hge := grownCap_ge w (n + m) old e
      have hcm : grownCap w (n + m) old e ≤ maxLen := grownCap_le_maxLen w (n + m) old e (by simp only [maxLen]; omega)
      refine Own.of_blk (heap_alloc_new w.drew _) hge (by simpa [maxLen] using hcm) ?_ ?_
      · simp only [Array.size_append, List.size_toArray, size_zeroCells, hzs, hlx, hl, ← Nat.add_mul]
        congr 1
        omega
      · simp only [Array.toList_append, List.append_assoc]
        rw [← List.append_assoc, ← hlen]
        exact List.take_left
    have hmod : ∀ o : Obj, Mod (OnlyBlk v) w (w.drew.alloc o) := fun o => ((Mod.refl _ w).drew).alloc o
    rcases hown with ⟨_, ⟨rfl, rfl⟩ | ⟨g, cap, cur, rfl, _, hh, hnc, hcm, hcs, htk⟩⟩
    · obtain rfl : xs = [] := List.eq_nil_of_length_eq_zero (by simpa using hlx)
      have hr := run_append_nil (P := P) w t ty e i z ht hi hz a m c news hl hna hm (by omega) (by have hb := hbytes; simp only [Nat.zero_add] at hb; omega)
      have hgr := grown 0 (by omega)
      simp only [Nat.zero_add, List.nil_append, Array.empty_append] at hgr ⊢
      exact ⟨_, _, hr, hgr, hmod _, .inr ⟨_, rfl, Nat.le_refl _⟩⟩
    · by_cases hroom : n + m ≤ cap
      · have hfit : n * i.size + news.length ≤ cur.size := by rw [hl, hcs, ← Nat.add_mul]; exact Nat.mul_le_mul_right _ hroom
        have hr := run_append_room (P := P) w t ty e i ht hi g n cap cur hh a m c news hl hna h1 hroom hfit
        refine ⟨_, _, hr, Own.of_blk (setRow_heap w g cur _ e _ hh) hroom (by simpa [maxLen] using hcm) ?_ ?_, (setRow_mod _ _ _).mono (fun k _ hk => by subst hk; rfl), .inl rfl⟩
        · simp only [List.size_toArray, List.length_append, List.length_take, List.length_drop, Array.length_toList]
          omega
        · rw [htk, ← hlen]
          exact List.take_left
      · have hol : Own w e i.size (.slice (some ⟨g, 0, none⟩) n cap) n xs := Own.of_blk hh hnc (by simpa [maxLen] using hcm) hcs htk
        have holds : ∀ j u, xs[j]? = some u → w.cell? ((⟨g, 0, none⟩ : Addr).add j) = some u := by
          intro j u hu
          rw [add_zero, blk_cell hh]
          rw [← htk, List.getElem?_take] at hu
          split at hu
          · simpa using hu
          · cases hu
        have hr := run_append_grow (P := P) w t ty e i z ht hi hz ⟨g, 0, none⟩ n cap xs hlx holds a m c news hl hna (by omega) (by omega) (growslice_fits (by omega) hbytes)
        exact ⟨_, _, hr, grown cap (by omega), hmod _, .inr ⟨_, rfl, Nat.le_refl _⟩⟩

/-- append to a row that is owned: 'append(v, xs...)', and 'append(v, x)', whose x the walk has laid in a block of its own. -/
theorem wpList_append {w : World} {ops : Array Oper} {rest : List Oper} {o : Oper} {a : Act} {Q : Exit → Act → World → Prop} (hgd : o.guard = none) (s x : Operand) (t : TypeId)
    (ho : o.op = .call { callee := .builtin .append, args := #[s, x], argTypes := #[t, t] })
    (e : TypeId) (z : Value) (size bytes : Nat) (ht : P.underlying t = some (.slice e)) (hti : TI P e z size bytes) (hzs : z.cells.size = size) (hsz : 0 < size) (hb0 : 0 < bytes)
    (v : Value) (n : Nat) (xs : List Value) (hs : a.eval s = v) (hown : Own w e size v n xs)
    (A : Option Addr) (m c : Nat) (news : List Value) (hx : a.eval x = .slice A m c) (hl : news.length = m * size) (hnews : 0 < m → ∃ a, A = some a ∧ ∀ j u, news[j]? = some u → w.cell? (a.add j) = some u) (h1 : ∀ u ∈ news, u.oneCell' = true)
    (hbytes : (n + m) * bytes ≤ 140737488355328)
    (h : ∀ v' w', Own w' e size v' (n + m) (xs ++ news) → Mod (OnlyBlk v) w w' → NewOr w v v' → wpList P ops Q rest (a.put o.dst v') w') :
    wpList P ops Q (o :: rest) a w := by
  refine wpList_plain hgd fun K hK => ?_
  obtain ⟨v', w', hr, h2, h3, h4⟩ := run_append_gen (P := P) t o.type e z size bytes ht hti hzs hsz v n xs hown A m c news hl hnews h1 hbytes hb0
  unfold Oper.wp execOp
  simp only [ho, resolve, invoke, builtin, Sem.run_bind, Sem.run_pure, Result.andThen_ok, List.map_toArray, List.map_cons, List.map_nil, hs, hx, hr]
  exact hK _ _ (h v' w' h2 h3 h4)

/-- append within the capacity of a block that is known whole: 'append(s[:i], s[j:]...)'. -/
theorem wpList_append_fits {w : World} {ops : Array Oper} {rest : List Oper} {o : Oper} {a : Act} {Q : Exit → Act → World → Prop} (hgd : o.guard = none) (s x : Operand) (t : TypeId)
    (ho : o.op = .call { callee := .builtin .append, args := #[s, x], argTypes := #[t, t] })
    (e : TypeId) (z : Value) (size bytes : Nat) (ht : P.underlying t = some (.slice e)) (hti : TI P e z size bytes)
    (g n cap : Nat) (cur : List Value) (hs : a.eval s = .slice (some ⟨g, 0, none⟩) n cap) (hh : w.heap[g]? = some (.cells cur.toArray e (0, 0)))
    (A : Option Addr) (m c : Nat) (news : List Value) (hx : a.eval x = .slice A m c) (hl : news.length = m * size) (hnews : 0 < m → ∃ a, A = some a ∧ ∀ j u, news[j]? = some u → w.cell? (a.add j) = some u) (h1 : ∀ u ∈ news, u.oneCell' = true)
    (hroom : n + m ≤ cap) (hfit : n * size + news.length ≤ cur.length)
    (h : ∀ w', w'.heap[g]? = some (.cells (spl cur (n * size) news).toArray e (0, 0)) → Mod (fun k => k = g) w w' → wpList P ops Q rest (a.put o.dst (.slice (some ⟨g, 0, none⟩) (n + m) cap)) w') :
    wpList P ops Q (o :: rest) a w := by
  refine wpList_plain hgd fun K hK => ?_
  obtain ⟨i, hi, hz, rfl, rfl⟩ := hti.parts
  have hrun : ∃ w', (Builtin.append_ #[t, t] o.type #[.slice (some ⟨g, 0, none⟩) n cap, .slice A m c]).run P w = .ok (.slice (some ⟨g, 0, none⟩) (n + m) cap) w' ∧
      w'.heap[g]? = some (.cells (spl cur (n * i.size) news).toArray e (0, 0)) ∧ Mod (fun k => k = g) w w' := by
    rcases Nat.eq_zero_or_pos m with rfl | hm
    · obtain rfl : news = [] := List.eq_nil_of_length_eq_zero (by simpa using hl)
      refine ⟨w, ?_, by simpa [spl] using hh, Mod.refl _ _⟩
      have hf : ∀ x : Addr, (Builtin.firstCells i.size 0 (.slice (some x) 0 c)).run P w = .ok #[] w := fun x => run_firstCells_some w _ 0 x 0 c [] (by simp) (by simp)
      have hf0 := run_firstCells_none (P := P) (w := w) i.size 0 0 c
      have hnc : n ≤ cap := by omega
      cases A <;> simp [Builtin.append_, run_underlying ht, sizeOf, typeInfo, hi, Builtin.lenOf, hnc, hf, hf0, storeCells]
    · obtain ⟨b, rfl, hna⟩ := hnews hm
      have hr := run_append_room (P := P) w t o.type e i ht hi g n cap cur.toArray hh b m c news hl hna h1 hroom (by simpa using hfit)
      exact ⟨_, hr, by simpa [spl] using setRow_heap w g _ _ e _ hh, setRow_mod _ _ _⟩
  obtain ⟨w', hr, h2, h3⟩ := hrun
  unfold Oper.wp execOp
  simp only [ho, resolve, invoke, builtin, Sem.run_bind, Sem.run_pure, Result.andThen_ok, List.map_toArray, List.map_cons, List.map_nil, hs, hx, hr]
  exact hK _ _ (h w' h2 h3)

/-- 'append(s, make(S, k)...)' where there is no room: a new row, zeros behind what was there. -/
theorem wpList_append_zeros {w : World} {ops : Array Oper} {rest : List Oper} {o : Oper} {a : Act} {Q : Exit → Act → World → Prop} (hgd : o.guard = none) (s x : Operand) (t ti : TypeId)
    (ho : o.op = .call { callee := .builtin .append, args := #[s, x], argTypes := #[t, ti] })
    (e : TypeId) (z : Value) (size bytes : Nat) (ht : P.underlying t = some (.slice e)) (hu : P.underlying ti = some (.int .i64)) (hti : TI P e z size bytes) (hzs : z.cells.size = size) (hb0 : 0 < bytes) (hsz : 0 < size)
    (B : Option Addr) (n cap : Nat) (olds : List Value) (hs : a.eval s = .slice B n cap) (hold : Rd w size B n olds)
    (k : Nat) (kk : Int) (hx : a.eval x = .int .i64 kk) (hkk : kk = k) (hgrow : cap < n + k) (hbytes : (n + k) * bytes ≤ 140737488355328)
    (h : ∀ (newCap : Nat) (cur : List Value) (w' : World), w'.heap[w.heap.size]? = some (.cells cur.toArray e (0, 0)) → n + k ≤ newCap → newCap ≤ 9223372036854775807 → cur.length = newCap * size → cur.take (n * size) = olds → Mod NoneB w w' → w.heap.size < w'.heap.size →
      wpList P ops Q rest (a.put o.dst (.slice (some ⟨w.heap.size, 0, none⟩) (n + k) newCap)) w') :
    wpList P ops Q (o :: rest) a w := by
  refine wpList_plain hgd fun K hK => ?_
  have hsmall : n + k ≤ 140737488355328 := Nat.le_trans (Nat.le_mul_of_pos_right _ hb0) hbytes
  subst hkk
  obtain ⟨i, hi, hz, rfl, rfl⟩ := hti.parts
  have hge := grownCap_ge w (n + k) cap e
  have hcm : grownCap w (n + k) cap e ≤ maxLen := grownCap_le_maxLen w (n + k) cap e (by simp only [maxLen]; omega)
  have hkb : k * i.bytes ≤ 140737488355328 := Nat.le_trans (Nat.mul_le_mul_right _ (by omega)) hbytes
  have hkb' : ¬ (281474976710656 < (k : Int) * (i.bytes : Int)) := by
    have : ((k * i.bytes : Nat) : Int) = (k : Int) * (i.bytes : Int) := by push_cast; rfl
    omega
  have hwk : IntKind.i64.wrap (k : Int) = k := by simp [IntKind.wrap, IntKind.bits, IntKind.signed]; omega
  have hcap : ¬ (n + k ≤ cap) := by omega
  have hk00 : ¬ ((k : Int) < 0) := by omega
  have h63 : ¬ (9223372036854775807 < (n : Int) + (k : Int)) := by omega
  have h48 : ¬ (281474976710656 < Builtin.nextslicecap (n + k) cap * i.bytes) := by
    have := growslice_fits (need := n + k) (old := cap) (bytes := i.bytes) (by omega) hbytes
    omega
  have hfo : (Builtin.firstCells i.size n (.slice B n cap)).run P w.drew = .ok olds.toArray w.drew := by
    rcases Nat.eq_zero_or_pos n with rfl | hn
    · obtain rfl : olds = [] := List.eq_nil_of_length_eq_zero (by have := hold.1; simpa using this)
      cases B with
      | none => exact run_firstCells_none _ _ _ _ _
      | some b => exact run_firstCells_some _ _ 0 b 0 cap [] (by simp) (by simp)
    · obtain ⟨b, rfl, hc⟩ := hold.2.2 hn
      exact run_firstCells_some _ _ n b n cap olds hold.1 (by simpa using hc)
  have hrun : ∃ mid : Array Value, (Builtin.append_ #[t, ti] o.type #[.slice B n cap, .int .i64 k]).run P w =
      .ok (.slice (some ⟨w.heap.size, 0, none⟩) (n + k) (grownCap w (n + k) cap e)) (w.drew.alloc (.cells (olds.toArray ++ mid ++ Builtin.zeroCells z.cells (grownCap w (n + k) cap e - (n + k))) e)) ∧ mid.size = k * i.size := by
    by_cases hk0 : k * i.size = 0
    · refine ⟨#[], ?_, by simp [hk0]⟩
      simp [Builtin.append_, run_underlying ht, run_underlying hu, sizeOf, typeInfo, zeroValue, hi, hz, asInt, asIntOf, hk00, hwk, hkb', hk0, hcap, h63, h48, Question.forced, hfo, newRow, grownCap, Builtin.lenOf]
    · refine ⟨Builtin.zeroCells z.cells k, ?_, by rw [size_zeroCells, hzs]⟩
      simp [Builtin.append_, run_underlying ht, run_underlying hu, sizeOf, typeInfo, zeroValue, hi, hz, asInt, asIntOf, hk00, hwk, hkb', hk0, hcap, h63, h48, Question.forced, hfo, newRow, grownCap, Builtin.lenOf]
  obtain ⟨mid, hr, hms⟩ := hrun
  unfold Oper.wp execOp
  simp only [ho, resolve, invoke, builtin, Sem.run_bind, Sem.run_pure, Result.andThen_ok, List.map_toArray, List.map_cons, List.map_nil, hs, hx, hr]
  refine hK _ _ (h _ (olds ++ (mid.toList ++ (Builtin.zeroCells z.cells (grownCap w (n + k) cap e - (n + k))).toList)) _ ((heap_alloc_new w.drew _).trans (by simp)) hge (by simpa [maxLen] using hcm) ?_ ?_ (((Mod.refl _ w).drew).alloc _) (by simp))
  · simp only [List.length_append, Array.length_toList, size_zeroCells, hzs, hms, hold.1, ← Nat.add_mul]
    congr 1
    omega
  · rw [← hold.1]
    exact List.take_left

/-- clear(s[i:j]) of a block that is known whole. -/
theorem wpList_clear {w : World} {ops : Array Oper} {rest : List Oper} {o : Oper} {a : Act} {Q : Exit → Act → World → Prop} (hgd : o.guard = none) (s : Operand) (t : TypeId)
    (ho : o.op = .call { callee := .builtin .clear, args := #[s], argTypes := #[t] })
    (e : TypeId) (z : Value) (size bytes : Nat) (ht : P.underlying t = some (.slice e)) (hti : TI P e z size bytes) (hzs : z.cells.size = size) (hz1 : ∀ u ∈ z.cells.toList, u.oneCell' = true) (hsz : 0 < size)
    (A : Option Addr) (n cap g off : Nat) (cur : List Value) (hs : a.eval s = .slice A n cap) (hA : 0 < n → A = some ⟨g, off, none⟩) (hh : w.heap[g]? = some (.cells cur.toArray e (0, 0)))
    (hfit : off + n * size ≤ cur.length)
    (h : ∀ w' zs, w'.heap[g]? = some (.cells (spl cur off zs).toArray e (0, 0)) → zs.length = n * size → Mod (fun k => k = g) w w' → wpList P ops Q rest (a.put o.dst (.tuple #[])) w') :
    wpList P ops Q (o :: rest) a w := by
  refine wpList_plain hgd fun K hK => ?_
  obtain ⟨i, hi, hz, rfl, rfl⟩ := hti.parts
  rcases Nat.eq_zero_or_pos n with rfl | hn
  · have hr : (Builtin.clear_ #[t] o.type #[.slice A 0 cap]).run P w = .ok (.tuple #[]) w := by
      cases A <;> simp [Builtin.clear_, run_underlying ht]
    unfold Oper.wp execOp
    simp only [ho, resolve, invoke, builtin, Sem.run_bind, Sem.run_pure, Result.andThen_ok, List.map_toArray, List.map_cons, List.map_nil, hs, hr]
    exact hK _ _ (h w [] (by simpa [spl] using hh) (by simp) (Mod.refl _ _))
  · obtain rfl := hA hn
    have hone : ∀ u ∈ (Builtin.zeroCells z.cells n).toList, u.oneCell' = true := by
      intro u hu
      simp only [Builtin.zeroCells, Array.toList_map, List.mem_map] at hu
      obtain ⟨j, _, rfl⟩ := hu
      have hlt : j % z.cells.size < z.cells.size := Nat.mod_lt _ (by omega)
      refine hz1 _ ?_
      rw [getElem!_pos z.cells _ hlt]
      simp
    have hst := run_storeCells_at P g off e (Builtin.zeroCells z.cells n).toList 0 cur.toArray w hh (by simp [size_zeroCells, hzs]; omega) hone
    simp only [Nat.add_zero] at hst
    obtain ⟨n, rfl⟩ : ∃ k, n = k + 1 := ⟨n - 1, by omega⟩
    have hr : (Builtin.clear_ #[t] o.type #[.slice (some ⟨g, off, none⟩) (n + 1) cap]).run P w = .ok (.tuple #[]) (w.setRow g (cur.toArray.toList.take off ++ (Builtin.zeroCells z.cells (n + 1)).toList ++ cur.toArray.toList.drop (off + (Builtin.zeroCells z.cells (n + 1)).toList.length)).toArray) := by
      simp only [Builtin.clear_, zeroValue, typeInfo] at *
      simp [run_underlying ht, hi, hz, hst]
    unfold Oper.wp execOp
    simp only [ho, resolve, invoke, builtin, Sem.run_bind, Sem.run_pure, Result.andThen_ok, List.map_toArray, List.map_cons, List.map_nil, hs, hr]
    exact hK _ _ (h _ (Builtin.zeroCells z.cells (n + 1)).toList (by simpa [spl] using setRow_heap w g _ _ e _ hh) (by simp [size_zeroCells, hzs]) (setRow_mod _ _ _))
end
end Go.Proofs.YtkklofnabmdmfaaGreatDoor
