/- Batches, maps as bytes, in plain words. No program stands here. -/
import Derived.Test.YtdmdiokfpbmnaaaDoorConvR
import Derived.Lib.ItoaNum
import Derived.Test.YtdmdiokfpbmnaaaDoorCodec
import Derived.Test.YtdmdiokfpbmnaaaDoorItoa
import Derived.Test.YtdmdiokfpbmnaaaDoorPlain
import Derived.Test.YtdmdiokfpbmnaaaDoorTabA
import Derived.Test.YtdmdiokfpbmnaaaDoorDkOpsA
import Derived.WalkMore
import Derived.Deep.RegionHeld3
import Derived.Laws.StructEq
namespace Go.Proofs.YtdmdiokfpbmnaaaDoor
set_option linter.unusedVariables false

def digitsB (n : Nat) : ByteArray := strOf (Lib.decDigits n)
/-- The value of decimal digits. -/
def valB (l : List UInt8) : Nat := l.foldl (fun r c => r * 10 + (c.toNat - 48)) 0
theorem valB_digits (u : Nat) : valB (Lib.decDigits u) = u := by
  induction u using Nat.strongRecOn with
  | _ u ih =>
    by_cases h : u < 10
    · rw [Lib.decDigits_one h]
      show 0 * 10 + ((UInt8.ofNat (48 + u)).toNat - 48) = u
      rw [UInt8.toNat_ofNat']
      omega
    · rw [Lib.decDigits, dif_neg h]
      unfold valB
      rw [List.foldl_append]
      show (valB (Lib.decDigits (u / 10))) * 10 + ((UInt8.ofNat (48 + u % 10)).toNat - 48) = u
      rw [ih (u / 10) (by omega), UInt8.toNat_ofNat']
      omega
theorem digitsB_inj {a b : Nat} (h : digitsB a = digitsB b) : a = b := by
  have := strOf_inj h
  rw [← valB_digits a, this, valB_digits]
theorem digitsB_size (n : Nat) : (digitsB n).size = Lib.nDigits n := by unfold digitsB; rw [strOf_size, Lib.decDigits_length]
theorem digitsB_size_le {n : Nat} (h : n < 10000) : (digitsB n).size ≤ 4 := by
  rw [digitsB_size]
  have : ∀ k, Lib.nDigits k ≤ Lib.nDigits (k / 10) + 1 := by
    intro k
    by_cases h : k < 10
    · rw [Lib.nDigits_small h]; omega
    · rw [Lib.nDigits_big h]; omega
  have h1 := this n
  have h2 := this (n / 10)
  have h3 := this (n / 10 / 10)
  have h4 := Lib.nDigits_small (u := n / 10 / 10 / 10) (by omega)
  omega

def recO (o : Op3) : List UInt8 := if o.del then 100 :: encL [o.k] else 112 :: encL [o.k, o.v]
def recE (n : Nat) : List UInt8 := 99 :: encL [digitsB n]
/-- May ops be a batch? -/
def rightO (l : List Op3) : Prop := l.length ≤ 1000 ∧ ∀ o ∈ l, o.del = true → o.v = ⟨#[]⟩
instance (l : List Op3) : Decidable (rightO l) := by unfold rightO; exact inferInstance
/-- A batch as records, as bytes. -/
def recsO (l : List Op3) : List (List UInt8) := l.map recO ++ [recE l.length]
def bytesO (l : List Op3) : List UInt8 := framesB (recsO l)

inductive Kd where
  | op (o : Op3)
  | fin
  | bad
def kindT (now : Nat) (k : UInt8) : Option (List ByteArray) → Kd
  | some [a, b] => if k = 112 then .op ⟨false, a, b⟩ else .bad
  | some [a] => if k = 100 then .op ⟨true, a, ⟨#[]⟩⟩ else if k = 99 ∧ a = digitsB now then .fin else .bad
  | _ => .bad
/-- What a record says behind so many ops. -/
def kindB (now : Nat) : List UInt8 → Kd
  | [] => .bad
  | k :: r => kindT now k (decL r)
theorem kindB_cons (now : Nat) (k : UInt8) (r : List UInt8) : kindB now (k :: r) = kindT now k (decL r) := rfl
/-- The batches that records begin with, behind i records of which 'used' are used, and ops that are open; and how many are used. -/
def replayGo : List Op3 → Nat → Nat → List (List UInt8) → List (List Op3) × Nat
  | _, _, used, [] => ([], used)
  | now, i, used, p :: ps => match kindB now.length p with
    | .op o => replayGo (now ++ [o]) (i + 1) used ps
    | .fin => (now :: (replayGo [] (i + 1) (i + 1) ps).1, (replayGo [] (i + 1) (i + 1) ps).2)
    | .bad => ([], used)
def replayB (ps : List (List UInt8)) : List (List Op3) × Nat := replayGo [] 0 0 ps

theorem replayGo_op (now : List Op3) (i used : Nat) (p : List UInt8) (ps : List (List UInt8)) {o : Op3} (h : kindB now.length p = .op o) : replayGo now i used (p :: ps) = replayGo (now ++ [o]) (i + 1) used ps := by
  conv => lhs; unfold replayGo
  rw [h]
theorem replayGo_fin (now : List Op3) (i used : Nat) (p : List UInt8) (ps : List (List UInt8)) (h : kindB now.length p = .fin) :
    replayGo now i used (p :: ps) = (now :: (replayGo [] (i + 1) (i + 1) ps).1, (replayGo [] (i + 1) (i + 1) ps).2) := by
  conv => lhs; unfold replayGo
  rw [h]
theorem replayGo_bad (now : List Op3) (i used : Nat) (p : List UInt8) (ps : List (List UInt8)) (h : kindB now.length p = .bad) : replayGo now i used (p :: ps) = ([], used) := by
  conv => lhs; unfold replayGo
  rw [h]

/-- Ops that may be written: their texts are short. -/
def SmallO (l : List Op3) : Prop := ∀ o ∈ l, o.k.size + o.v.size ≤ 1000000
theorem recO_length (o : Op3) : (recO o).length ≤ 13 + o.k.size + o.v.size := by
  unfold recO
  split
  · rw [List.length_cons, encL_length]; simp; omega
  · rw [List.length_cons, encL_length]; simp; omega
theorem recE_length {n : Nat} (h : n < 10000) : (recE n).length ≤ 13 := by
  unfold recE
  have := digitsB_size_le h
  rw [List.length_cons, encL_length]; simp; omega
theorem recsO_small {l : List Op3} (h : SmallO l) (hr : l.length ≤ 1000) : ∀ p ∈ recsO l, p.length ≤ 1048576 := by
  intro p hp
  unfold recsO at hp
  rcases List.mem_append.1 hp with hp | hp
  · obtain ⟨o, ho, rfl⟩ := List.mem_map.1 hp
    have := recO_length o
    have := h o ho
    omega
  · rw [List.mem_singleton] at hp
    subst hp
    have := recE_length (n := l.length) (by omega)
    omega
theorem dec_one (a : ByteArray) (h : a.size < 4294967296) : decL (encL [a]) = some [a] :=
  decL_encL _ (by show 1 < 4294967296; omega) (fun s hs => by rw [List.mem_singleton] at hs; subst hs; exact h)
theorem dec_two (a b : ByteArray) (h : a.size < 4294967296) (h2 : b.size < 4294967296) : decL (encL [a, b]) = some [a, b] :=
  decL_encL _ (by show 2 < 4294967296; omega) (fun s hs => by
    rcases List.mem_cons.1 hs with rfl | hs
    · exact h
    · rw [List.mem_singleton] at hs; subst hs; exact h2)
theorem kind_recO (now : Nat) {o : Op3} (h : o.del = true → o.v = ⟨#[]⟩) (hs : o.k.size + o.v.size ≤ 1000000) : kindB now (recO o) = .op o := by
  obtain ⟨d, k, v⟩ := o
  cases d with
  | true =>
    have hv : v = ⟨#[]⟩ := h rfl
    subst hv
    show kindT now 100 (decL (encL [k])) = _
    rw [dec_one k (by simp only at hs; omega)]
    rfl
  | false =>
    show kindT now 112 (decL (encL [k, v])) = _
    simp only at hs
    rw [dec_two k v (by omega) (by omega)]
    rfl
theorem kind_recE (n : Nat) (h : n < 10000) : kindB n (recE n) = .fin := by
  have h1 := digitsB_size_le h
  show kindT n 99 (decL (encL [digitsB n])) = _
  rw [dec_one _ (by omega)]
  simp [kindT]
theorem replayGo_ops (l : List Op3) (h : ∀ o ∈ l, (o.del = true → o.v = ⟨#[]⟩) ∧ o.k.size + o.v.size ≤ 1000000) : ∀ (now : List Op3) (i used : Nat) (ps : List (List UInt8)),
    replayGo now i used (l.map recO ++ ps) = replayGo (now ++ l) (i + l.length) used ps := by
  induction l with
  | nil => intro now i used ps; simp
  | cons o l ih =>
    intro now i used ps
    obtain ⟨h1, h2⟩ := h o (List.mem_cons_self ..)
    show replayGo now i used (recO o :: (l.map recO ++ ps)) = _
    rw [replayGo_op _ _ _ _ _ (kind_recO _ h1 h2), ih (fun x hx => h x (List.mem_cons_of_mem _ hx)), List.append_assoc, List.length_cons]
    congr 1
    omega
theorem replayGo_batch (l : List Op3) (hr : rightO l) (hs : SmallO l) (i used : Nat) (ps : List (List UInt8)) :
    replayGo [] i used (recsO l ++ ps) = (l :: (replayGo [] (i + l.length + 1) (i + l.length + 1) ps).1, (replayGo [] (i + l.length + 1) (i + l.length + 1) ps).2) := by
  unfold recsO
  rw [List.append_assoc, replayGo_ops l (fun o ho => ⟨hr.2 o ho, hs o ho⟩), List.nil_append]
  show replayGo l (i + l.length) used (recE l.length :: ps) = _
  exact replayGo_fin _ _ _ _ _ (kind_recE _ (by have := hr.1; omega))
/-- Batches one behind the other are told, all of them; what stands behind them is told as if it stood alone. -/
theorem replayGo_batches (ls : List (List Op3)) (h : ∀ l ∈ ls, rightO l ∧ SmallO l) : ∀ (i used : Nat) (ps : List (List UInt8)), ∃ j u, (ls = [] → j = i ∧ u = used) ∧ (ls ≠ [] → j = i + (ls.map fun l => l.length + 1).sum ∧ u = j) ∧
    replayGo [] i used (ls.flatMap recsO ++ ps) = (ls ++ (replayGo [] j u ps).1, (replayGo [] j u ps).2) := by
  induction ls with
  | nil => intro i used ps; exact ⟨i, used, fun _ => ⟨rfl, rfl⟩, fun h => absurd rfl h, rfl⟩
  | cons l ls ih =>
    intro i used ps
    obtain ⟨h1, h2⟩ := h l (List.mem_cons_self ..)
    obtain ⟨j, u, he, hn, hq⟩ := ih (fun x hx => h x (List.mem_cons_of_mem _ hx)) (i + l.length + 1) (i + l.length + 1) ps
    refine ⟨j, u, (fun h => by cases h), (fun _ => ?_), ?_⟩
    · by_cases hl : ls = []
      · obtain ⟨rfl, rfl⟩ := he hl
        subst hl
        refine ⟨?_, rfl⟩
        simp only [List.map_cons, List.map_nil, List.sum_cons, List.sum_nil]
        omega
      · obtain ⟨h1, h2⟩ := hn hl
        rw [List.map_cons, List.sum_cons]
        exact ⟨by omega, h2⟩
    · rw [List.flatMap_cons, List.append_assoc, replayGo_batch l h1 h2, hq]
      rfl
end Go.Proofs.YtdmdiokfpbmnaaaDoor

/- Batches: batch.Right, record, Encode. -/
namespace Go.Proofs.YtdmdiokfpbmnaaaDoor
open Go.RowKit
set_option linter.unusedVariables false

/-- The library's table of tens, as the row lays it. -/
def TabW (w : World) : Prop := Lib.TabIs Tryd.prog w "internal/strconv.uint64pow10" .u64 Lib.pow10Tab
theorem TabW.mod {S : Nat → Prop} {w w1 : World} (h : TabW w) (hm : Mod S w w1) (hs : ∀ k, k < 64 → ¬ S k) : TabW w1 := by
  have hg : Tryd.prog.globalNamed "internal/strconv.uint64pow10" = some 3 := by kernel_rfl
  unfold TabW Lib.TabIs World.var? at *
  rw [hg] at h ⊢
  simp only [Option.bind_some] at h ⊢
  have hlt : 3 < w.heap.size := by
    cases hq : w.heap[3]? with
    | none => rw [hq] at h; cases h
    | some o => exact (Array.getElem?_eq_some_iff.1 hq).1
  rw [hm.block _ hlt (hs _ (by decide))]
  exact h
theorem TabW.mod0 {w w1 : World} (h : TabW w) (hm : Mod NoneB w w1) : TabW w1 := h.mod hm (fun _ _ h => h)
theorem grow_mod (w : World) (os : Array Obj) (k : Nat) : Mod NoneB w (Sort.grow (w.drewN k) os) :=
  ⟨rfl, rfl, rfl, by simp [Sort.grow], fun i hi _ => by show (w.heap ++ os)[i]? = w.heap[i]?; exact Array.getElem?_append_left hi⟩
/-- A number's digits. -/
theorem itoa_calls (n : Nat) (w : World) (hn : n ≤ 1000000) (ht : TabW w) :
    Calls Tryd.prog 31 #[.int .i64 n] w fun e w' => e = .returned (.string (digitsB n)) ∧ Mod NoneB w w' := by
  refine (strconv_Itoa n (by omega) (by omega) w ht).mono ?_
  rintro e w1 ⟨rfl, k, os, rfl⟩
  refine ⟨?_, grow_mod w os k⟩
  rw [Lib.itoa_nonneg]
  rfl
def notNil (s : ByteArray) : Bool := decide (s ≠ ⟨#[]⟩)
/-- What must not be in a batch. -/
def BadO (o : Op3) : Prop := o.del = true ∧ o.v ≠ ⟨#[]⟩
instance (o : Op3) : Decidable (BadO o) := by unfold BadO; exact inferInstance



end Go.Proofs.YtdmdiokfpbmnaaaDoor

/- batch.Encode. -/
namespace Go.Proofs.YtdmdiokfpbmnaaaDoor
open Go.RowKit
set_option linter.unusedVariables false

/-- A batch's bytes, or why there are none. -/
def opsR (l : List Op3) : List UInt8 × Nat := if rightO l then (bytesO l, 0) else ([], 1)
/-- What stands behind j ops. -/
def outO (l : List Op3) (j : Nat) : List UInt8 := framesB ((l.take j).map recO)
theorem outO_zero (l : List Op3) : outO l 0 = [] := by simp [outO, framesB]
theorem outO_succ (l : List Op3) (j : Nat) (h : j < l.length) : outO l (j + 1) = outO l j ++ frameB (recO l[j]) := by
  unfold outO
  rw [List.take_succ_eq_append_getElem h, List.map_append, framesB_append]
  simp [framesB]
theorem outO_all (l : List Op3) : outO l l.length ++ frameB (recE l.length) = bytesO l := by
  unfold outO bytesO recsO
  rw [List.take_length, framesB_append]
  simp [framesB]
theorem outO_le {l : List Op3} (hs : SmallO l) : ∀ j, j ≤ l.length → (outO l j).length ≤ j * 1000021 := by
  intro j
  induction j with
  | zero => intro _; rw [outO_zero]; simp
  | succ j ih =>
    intro h
    have h1 := ih (by omega)
    have h2 := recO_length l[j]
    have h3 := hs l[j] (List.getElem_mem _)
    rw [outO_succ l j h, List.length_append, frameB_length, Nat.add_mul]
    omega
theorem encL_one (a : ByteArray) : (encL [a]).length = 8 + a.size := by rw [encL_length]; simp; omega
theorem encL_two (a b : ByteArray) : (encL [a, b]).length = 12 + a.size + b.size := by rw [encL_length]; simp; omega

end Go.Proofs.YtdmdiokfpbmnaaaDoor

/- batch.Replay. -/
namespace Go.Proofs.YtdmdiokfpbmnaaaDoor
open Go.RowKit
set_option linter.unusedVariables false

theorem encO_one (o : Op3) : ∀ u ∈ encO o, u.oneCell' = true := by
  intro u hu
  simp [encO] at hu
  rcases hu with rfl | rfl | rfl <;> rfl
/-- Records as they came in. -/
structure PartOk (w : World) (p : Part) : Prop where
  rd : Rd w 1 p.A p.b.length (encB p.b)
  cap : p.b.length ≤ p.c
  top : p.b.length ≤ 140737488355328
def bsOf (ps : List Part) : List (List UInt8) := ps.map (·.b)

theorem add_nil0 (ad : Addr) : ad.add 0 = ad := by unfold Addr.add; split <;> simp_all
set_option maxRecDepth 100000 in
/-- b[1:], as the walk takes it. -/
theorem tail_at {w : World} {ad : Addr} {c : Nat} {k : UInt8} {r : List UInt8} (h : Rd w 1 (some ad) (k :: r).length (encB (k :: r))) (hnc : (k :: r).length ≤ c) :
    ∃ A', (∀ W, (Instr.slice 33 (.slice (some ad) (k :: r).length c) (some (.int .i64 1)) none none).run Tryd.prog W = .ok (.slice A' r.length (c - 1)) W) ∧
      (∀ W, (Instr.sliceAt 33 (.slice (some ad) (k :: r).length c) (some (.int .i64 1)) none none).run Tryd.prog W = .ok (.slice A' r.length (c - 1)) W) ∧ Rd w 1 A' r.length (encB r) := by
  have ht : Tryd.prog.underlying 33 = some (.slice (Tryd.prog.elem 33)) := by kernel_rfl
  have he : Tryd.prog.elem 33 = 5 := by kernel_rfl
  obtain ⟨ti, hti, _, hs, _⟩ := (tiB).parts
  have hrun : ∀ W, (Instr.slice 33 (.slice (some ad) (k :: r).length c) (some (.int .i64 1)) none none).run Tryd.prog W = .ok (.slice (if c = 1 then some ad else some (ad.add 1)) r.length (c - 1)) W := by
    intro W
    rw [run_slice_l W 33 (some ad) _ c ht .i64 _ (by omega) (by simp; omega), he]
    simp [sizeOf, typeInfo, hti, hs, sliced]
  refine ⟨_, hrun, fun W => by rw [run_sliceAt_slice W _ _ _ _ _ ht]; exact hrun W, ?_⟩
  by_cases hci : c = 1
  · have h0 : r = [] := List.eq_nil_of_length_eq_zero (by simp at hnc; omega)
    subst h0
    exact Rd.nil _ _ _
  · rw [if_neg hci]
    have h2 := h.sub 1 r.length (by simp; omega)
    simpa using h2
theorem kindT_bad {now : Nat} {k : UInt8} {ts : List ByteArray} (h1 : ¬ (k = 112 ∧ ts.length = 2)) (h2 : ¬ (k = 100 ∧ ts.length = 1)) (h3 : ¬ (k = 99 ∧ ∃ a, ts = [a] ∧ a = digitsB now)) : kindT now k (some ts) = .bad := by
  match ts with
  | [] => rfl
  | [a] =>
    show (if k = 100 then _ else if k = 99 ∧ a = digitsB now then _ else _) = _
    rw [if_neg (fun h => h2 ⟨h, rfl⟩), if_neg (fun h => h3 ⟨h.1, a, rfl, h.2⟩)]
  | [a, b] =>
    show (if k = 112 then _ else _) = _
    rw [if_neg (fun h => h1 ⟨h, rfl⟩)]
  | a :: b :: d :: l => rfl
theorem u8_ne {k : UInt8} {n : Nat} (hn : n < 256) (h : k ≠ UInt8.ofNat n) : (((k.toNat : Int) == (n : Int))) = false := by
  refine beq_eq_false_iff_ne.mpr (fun e => h ?_)
  apply UInt8.toNat_inj.1
  rw [UInt8.toNat_ofNat']
  omega
theorem drop_cons {α : Type} (l : List α) (j : Nat) (h : j < l.length) : l.drop j = l[j] :: l.drop (j + 1) := List.drop_eq_getElem_cons h

end Go.Proofs.YtdmdiokfpbmnaaaDoor

/- The document's SameOps and Batches: are two lists one? -/
namespace Go.Proofs.YtdmdiokfpbmnaaaDoor
open Go.RowKit
set_option linter.unusedVariables false

theorem take_eq_succ0 {α : Type} {a b : List α} {j : Nat} (h : a.take j = b.take j) (ha : j < a.length) (hb : j < b.length) (he : a[j] = b[j]) : a.take (j + 1) = b.take (j + 1) := by
  rw [List.take_succ_eq_append_getElem ha, List.take_succ_eq_append_getElem hb, h, he]


/-- Batches as they lie: a row of rows of ops. -/
def BatsRd (w : World) (A : Option Addr) (n : Nat) (ls : List (List Op3)) (vs : List Value) : Prop := Rd w 1 A n vs ∧ vs.length = ls.length ∧ ∀ i (h : i < ls.length) (h' : i < vs.length), ∃ B bc, vs[i] = .slice B ls[i].length bc ∧ Rd w 3 B ls[i].length (encOs ls[i])
theorem BatsRd.mod0 {w w1 : World} {A : Option Addr} {n : Nat} {ls : List (List Op3)} {vs : List Value} (h : BatsRd w A n ls vs) (hm : Mod NoneB w w1) : BatsRd w1 A n ls vs :=
  ⟨h.1.mod0 hm, h.2.1, fun i h1 h2 => by obtain ⟨B, bc, e, hr⟩ := h.2.2 i h1 h2; exact ⟨B, bc, e, hr.mod0 hm⟩⟩
theorem Rd.one {w : World} {A : Option Addr} {n : Nat} {vs : List Value} (h : Rd w 1 A n vs) (i : Nat) (hi : i < vs.length) : ∃ ad, A = some ad ∧ w.cell? (ad.add i) = some vs[i] := by
  have hl := h.1
  obtain ⟨ad, e, hc⟩ := h.2.2 (by omega)
  exact ⟨ad, e, hc i _ (List.getElem?_eq_getElem hi)⟩
end Go.Proofs.YtdmdiokfpbmnaaaDoor

/- The document's RightOps. -/
namespace Go.Proofs.YtdmdiokfpbmnaaaDoor
open Go.RowKit
set_option linter.unusedVariables false

end Go.Proofs.YtdmdiokfpbmnaaaDoor

/- The document's Digits. -/
namespace Go.Proofs.YtdmdiokfpbmnaaaDoor
open Go.RowKit
set_option linter.unusedVariables false

theorem decDigits_big {u : Nat} (h : ¬ u < 10) : Lib.decDigits u = Lib.decDigits (u / 10) ++ [UInt8.ofNat (48 + u % 10)] := by rw [Lib.decDigits, dif_neg h]
theorem digit_toNat (u : Nat) : ((UInt8.ofNat (48 + u % 10)).toNat : Int) = 48 + (u : Int) % 10 := by
  rw [UInt8.toNat_ofNat']
  omega
set_option maxHeartbeats 2000000 in
set_option maxRecDepth 100000 in
theorem rdigits_calls (n : Nat) (w : World) (hn : n ≤ 1000000) :
    Calls Tryd.prog 32 #[.int .i64 n] w fun e w' => e = .returned (.string (digitsB n)) ∧ Mod NoneB w w' := by
  have b0 : ¬ ((n : Int) < 0) := by omega
  go_enter Tryd.func32, Tryd.ntmps32
  go_wp2_with fail
  go_loopw [3, 4] (fun uv sv wr => ∃ (u : Nat) (t : List UInt8), uv = .int .u64 u ∧ sv = .string (strOf t) ∧ u + t.length ≤ n ∧ Lib.decDigits n = Lib.decDigits u ++ t ∧ Mod NoneB w wr) (fun uv _ _ => (intOf uv).toNat)
  case atStart => exact ⟨n, [], by first | rfl | go_num, by rfl, by simp, by simp, Mod.refl _ _⟩
  case round =>
    obtain ⟨u, t, rfl, rfl, hut, hdd, hm⟩ := hrel
    have HDD := Lib.hid hdd
    clear hdd
    by_cases h10 : u < 10
    · have hd := Lib.decDigits_one h10
      have e1 : (u : Int) < 10 := by omega
      have hx : ((UInt8.ofNat (48 + u)).toNat : Int) = 48 + (u : Int) := by rw [UInt8.toNat_ofNat']; omega
      obtain ⟨x, hX⟩ : ∃ x, x = UInt8.ofNat (48 + u) := ⟨_, rfl⟩
      rw [← hX] at hd hx
      clear hX
      have hbx := box1 wr (.cells #[.int .u8 (48 + (u : Int))] 5)
      have hrd : Rd (wr.alloc (.cells #[.int .u8 (48 + (u : Int))] 5)) 1 (some ⟨wr.heap.size, 0, none⟩) 1 (encB [x]) := by
        have h := rd_blk (sz := 1) (n := 1) hbx rfl (by decide)
        have e : (#[Value.int .u8 (48 + (u : Int))] : Array Value).toList = encB [x] := by
          show [Value.int .u8 (48 + (u : Int))] = [Value.int .u8 (x.toNat : Int)]
          rw [hx]
        rw [e] at h
        exact h
      have hcv : (convert 33 9 (.slice (some ⟨wr.heap.size, 0, none⟩) 1 1)).run Tryd.prog (wr.alloc (.cells #[.int .u8 (48 + (u : Int))] 5)) = .ok (.string (strOf [x])) (wr.alloc (.cells #[.int .u8 (48 + (u : Int))] 5)) := conv_strN (by simp) hrd
      have hsz : ¬ (9223372036854775807 < (strOf [x]).size + (strOf t).size) := by rw [strOf_size, strOf_size]; simp; omega
      have HM := Lib.hid (hm.alloc (.cells #[.int .u8 (48 + (u : Int))] 5))
      have HD := Lib.hid hd
      clear hbx hrd hd hm hx
      go_wp2_with fail
      go_ret
      refine ⟨?_, by repeat (first | exact HM.out | apply Mod.alloc)⟩
      unfold digitsB
      rw [HDD.out, HD.out, strOf_append]
      rfl
    · have hd := decDigits_big h10
      have hx := digit_toNat u
      have e1 : ¬ ((u : Int) < 10) := by omega
      obtain ⟨x, hX⟩ : ∃ x, x = UInt8.ofNat (48 + u % 10) := ⟨_, rfl⟩
      rw [← hX] at hd hx
      clear hX
      have hbx := box1 wr (.cells #[.int .u8 (48 + (u : Int) % 10)] 5)
      have hrd : Rd (wr.alloc (.cells #[.int .u8 (48 + (u : Int) % 10)] 5)) 1 (some ⟨wr.heap.size, 0, none⟩) 1 (encB [x]) := by
        have h := rd_blk (sz := 1) (n := 1) hbx rfl (by decide)
        have e : (#[Value.int .u8 (48 + (u : Int) % 10)] : Array Value).toList = encB [x] := by
          show [Value.int .u8 (48 + (u : Int) % 10)] = [Value.int .u8 (x.toNat : Int)]
          rw [hx]
        rw [e] at h
        exact h
      have hcv : (convert 33 9 (.slice (some ⟨wr.heap.size, 0, none⟩) 1 1)).run Tryd.prog (wr.alloc (.cells #[.int .u8 (48 + (u : Int) % 10)] 5)) = .ok (.string (strOf [x])) (wr.alloc (.cells #[.int .u8 (48 + (u : Int) % 10)] 5)) := conv_strN (by simp) hrd
      have hsz : ¬ (9223372036854775807 < (strOf [x]).size + (strOf t).size) := by rw [strOf_size, strOf_size]; simp; omega
      have HM := Lib.hid (hm.alloc (.cells #[.int .u8 (48 + (u : Int) % 10)] 5))
      have HD := Lib.hid hd
      clear hbx hrd hd hm hx
      go_wp2_with fail
      go_roundw
      case rel => exact ⟨u / 10, [x] ++ t, by go_num, by rw [strOf_append], by simp; omega, by rw [HDD.out, HD.out, List.append_assoc], by repeat (first | exact HM.out | apply Mod.alloc)⟩
      case measure => simp [intOf]; omega
end Go.Proofs.YtdmdiokfpbmnaaaDoor

