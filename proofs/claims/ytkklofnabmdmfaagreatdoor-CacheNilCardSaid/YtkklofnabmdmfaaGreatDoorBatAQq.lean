/- Batches, maps as bytes, in plain words. No program stands here. -/
import Derived.Lib.ItoaNum
import Derived.WalkMore
import Derived.Deep.RegionHeld3
import Derived.Laws.StructEq
import Derived.Test.YtkklofnabmdmfaaGreatDoorConvRQq
import Derived.Test.YtkklofnabmdmfaaGreatDoorCodecQq
import Derived.Test.YtkklofnabmdmfaaGreatDoorItoaQq
import Derived.Test.YtkklofnabmdmfaaGreatDoorTabAQq
import Derived.Test.YtkklofnabmdmfaaGreatDoorDkOpsAQq
import Derived.Test.YtkklofnabmdmfaaGreatDoorDkFsQq
namespace Go.Proofs.YtkklofnabmdmfaaGreatDoor
set_option linter.unusedVariables false

def digitsB (n : Nat) : ByteArray := strOf (Lib.decDigits n)
theorem digitsB_size (n : Nat) : (digitsB n).size = Lib.nDigits n := by unfold digitsB; rw [strOf_size, Lib.decDigits_length]
theorem digitsB_size_le {n : Nat} (h : n < 10000) : (digitsB n).size ≤ 4 := by
  rw [digitsB_size]
  have : ∀ k, Lib.nDigits k ≤ Lib.nDigits (k / 10) + 1 := by
    intro k
    by_cases h : k < 10
    · rw [Lib.nDigits_small h]; omega
    · rw [Lib.nDigits_big h]; omega
  have h1 := this n
  have h2 := this (n / 10)
  have h3 := this (n / 10 / 10)
  have h4 := Lib.nDigits_small (u := n / 10 / 10 / 10) (by omega)
  omega

def recO (o : Op3) : List UInt8 := if o.del then 100 :: encL [o.k] else 112 :: encL [o.k, o.v]
def recE (n : Nat) : List UInt8 := 99 :: encL [digitsB n]
/-- May ops be a batch? -/
def rightO (l : List Op3) : Prop := l.length ≤ 1000 ∧ ∀ o ∈ l, o.del = true → o.v = ⟨#[]⟩
instance (l : List Op3) : Decidable (rightO l) := by unfold rightO; exact inferInstance
/-- A batch as records, as bytes. -/
def recsO (l : List Op3) : List (List UInt8) := l.map recO ++ [recE l.length]
def bytesO (l : List Op3) : List UInt8 := framesB (recsO l)

inductive Kd where
  | op (o : Op3)
  | fin
  | bad
def kindT (now : Nat) (k : UInt8) : Option (List ByteArray) → Kd
  | some [a, b] => if k = 112 then .op ⟨false, a, b⟩ else .bad
  | some [a] => if k = 100 then .op ⟨true, a, ⟨#[]⟩⟩ else if k = 99 ∧ a = digitsB now then .fin else .bad
  | _ => .bad
/-- What a record says behind so many ops. -/
def kindB (now : Nat) : List UInt8 → Kd
  | [] => .bad
  | k :: r => kindT now k (decL r)
theorem kindB_cons (now : Nat) (k : UInt8) (r : List UInt8) : kindB now (k :: r) = kindT now k (decL r) := rfl
/-- The batches that records begin with, behind i records of which 'used' are used, and ops that are open; and how many are used. -/
def replayGo : List Op3 → Nat → Nat → List (List UInt8) → List (List Op3) × Nat
  | _, _, used, [] => ([], used)
  | now, i, used, p :: ps => match kindB now.length p with
    | .op o => replayGo (now ++ [o]) (i + 1) used ps
    | .fin => (now :: (replayGo [] (i + 1) (i + 1) ps).1, (replayGo [] (i + 1) (i + 1) ps).2)
    | .bad => ([], used)
def replayB (ps : List (List UInt8)) : List (List Op3) × Nat := replayGo [] 0 0 ps

theorem replayGo_op (now : List Op3) (i used : Nat) (p : List UInt8) (ps : List (List UInt8)) {o : Op3} (h : kindB now.length p = .op o) : replayGo now i used (p :: ps) = replayGo (now ++ [o]) (i + 1) used ps := by
  conv => lhs; unfold replayGo
  rw [h]
theorem replayGo_fin (now : List Op3) (i used : Nat) (p : List UInt8) (ps : List (List UInt8)) (h : kindB now.length p = .fin) :
    replayGo now i used (p :: ps) = (now :: (replayGo [] (i + 1) (i + 1) ps).1, (replayGo [] (i + 1) (i + 1) ps).2) := by
  conv => lhs; unfold replayGo
  rw [h]
theorem replayGo_bad (now : List Op3) (i used : Nat) (p : List UInt8) (ps : List (List UInt8)) (h : kindB now.length p = .bad) : replayGo now i used (p :: ps) = ([], used) := by
  conv => lhs; unfold replayGo
  rw [h]

/-- Ops that may be written: their texts are short. -/
def SmallO (l : List Op3) : Prop := ∀ o ∈ l, o.k.size + o.v.size ≤ 1000000
theorem recO_length (o : Op3) : (recO o).length ≤ 13 + o.k.size + o.v.size := by
  unfold recO
  split
  · rw [List.length_cons, encL_length]; simp; omega
  · rw [List.length_cons, encL_length]; simp; omega
theorem recE_length {n : Nat} (h : n < 10000) : (recE n).length ≤ 13 := by
  unfold recE
  have := digitsB_size_le h
  rw [List.length_cons, encL_length]; simp; omega
theorem recsO_small {l : List Op3} (h : SmallO l) (hr : l.length ≤ 1000) : ∀ p ∈ recsO l, p.length ≤ 1048576 := by
  intro p hp
  unfold recsO at hp
  rcases List.mem_append.1 hp with hp | hp
  · obtain ⟨o, ho, rfl⟩ := List.mem_map.1 hp
    have := recO_length o
    have := h o ho
    omega
  · rw [List.mem_singleton] at hp
    subst hp
    have := recE_length (n := l.length) (by omega)
    omega
theorem dec_one (a : ByteArray) (h : a.size < 4294967296) : decL (encL [a]) = some [a] :=
  decL_encL _ (by show 1 < 4294967296; omega) (fun s hs => by rw [List.mem_singleton] at hs; subst hs; exact h)
theorem dec_two (a b : ByteArray) (h : a.size < 4294967296) (h2 : b.size < 4294967296) : decL (encL [a, b]) = some [a, b] :=
  decL_encL _ (by show 2 < 4294967296; omega) (fun s hs => by
    rcases List.mem_cons.1 hs with rfl | hs
    · exact h
    · rw [List.mem_singleton] at hs; subst hs; exact h2)
theorem kind_recO (now : Nat) {o : Op3} (h : o.del = true → o.v = ⟨#[]⟩) (hs : o.k.size + o.v.size ≤ 1000000) : kindB now (recO o) = .op o := by
  obtain ⟨d, k, v⟩ := o
  cases d with
  | true =>
    have hv : v = ⟨#[]⟩ := h rfl
    subst hv
    show kindT now 100 (decL (encL [k])) = _
    rw [dec_one k (by simp only at hs; omega)]
    rfl
  | false =>
    show kindT now 112 (decL (encL [k, v])) = _
    simp only at hs
    rw [dec_two k v (by omega) (by omega)]
    rfl
theorem kind_recE (n : Nat) (h : n < 10000) : kindB n (recE n) = .fin := by
  have h1 := digitsB_size_le h
  show kindT n 99 (decL (encL [digitsB n])) = _
  rw [dec_one _ (by omega)]
  simp [kindT]
theorem replayGo_ops (l : List Op3) (h : ∀ o ∈ l, (o.del = true → o.v = ⟨#[]⟩) ∧ o.k.size + o.v.size ≤ 1000000) : ∀ (now : List Op3) (i used : Nat) (ps : List (List UInt8)),
    replayGo now i used (l.map recO ++ ps) = replayGo (now ++ l) (i + l.length) used ps := by
  induction l with
  | nil => intro now i used ps; simp
  | cons o l ih =>
    intro now i used ps
    obtain ⟨h1, h2⟩ := h o (List.mem_cons_self ..)
    show replayGo now i used (recO o :: (l.map recO ++ ps)) = _
    rw [replayGo_op _ _ _ _ _ (kind_recO _ h1 h2), ih (fun x hx => h x (List.mem_cons_of_mem _ hx)), List.append_assoc, List.length_cons]
    congr 1
    omega
theorem replayGo_batch (l : List Op3) (hr : rightO l) (hs : SmallO l) (i used : Nat) (ps : List (List UInt8)) :
    replayGo [] i used (recsO l ++ ps) = (l :: (replayGo [] (i + l.length + 1) (i + l.length + 1) ps).1, (replayGo [] (i + l.length + 1) (i + l.length + 1) ps).2) := by
  unfold recsO
  rw [List.append_assoc, replayGo_ops l (fun o ho => ⟨hr.2 o ho, hs o ho⟩), List.nil_append]
  show replayGo l (i + l.length) used (recE l.length :: ps) = _
  exact replayGo_fin _ _ _ _ _ (kind_recE _ (by have := hr.1; omega))
end Go.Proofs.YtkklofnabmdmfaaGreatDoor

/- Batches: batch.Right, record, Encode. -/
namespace Go.Proofs.YtkklofnabmdmfaaGreatDoor
open Go.RowKit
set_option linter.unusedVariables false

/-- The library's table of tens, as the row lays it. -/
def TabW (w : World) : Prop := Lib.TabIs Tryz.prog w "internal/strconv.uint64pow10" .u64 Lib.pow10Tab
theorem TabW.mod {S : Nat → Prop} {w w1 : World} (h : TabW w) (hm : Mod S w w1) (hs : ∀ k, k < 64 → ¬ S k) : TabW w1 := by
  have hg : Tryz.prog.globalNamed "internal/strconv.uint64pow10" = some 3 := by kernel_rfl
  unfold TabW Lib.TabIs World.var? at *
  rw [hg] at h ⊢
  simp only [Option.bind_some] at h ⊢
  have hlt : 3 < w.heap.size := by
    cases hq : w.heap[3]? with
    | none => rw [hq] at h; cases h
    | some o => exact (Array.getElem?_eq_some_iff.1 hq).1
  rw [hm.block _ hlt (hs _ (by decide))]
  exact h
theorem TabW.mod0 {w w1 : World} (h : TabW w) (hm : Mod NoneB w w1) : TabW w1 := h.mod hm (fun _ _ h => h)
theorem grow_mod (w : World) (os : Array Obj) (k : Nat) : Mod NoneB w (Sort.grow (w.drewN k) os) :=
  ⟨rfl, rfl, rfl, by simp [Sort.grow], fun i hi _ => by show (w.heap ++ os)[i]? = w.heap[i]?; exact Array.getElem?_append_left hi⟩
/-- A number's digits. -/
theorem itoa_calls (n : Nat) (w : World) (hn : n ≤ 1000000) (ht : TabW w) :
    Calls Tryz.prog 94 #[.int .i64 n] w fun e w' => e = .returned (.string (digitsB n)) ∧ Mod NoneB w w' := by
  refine (strconv_Itoa n (by omega) (by omega) w ht).mono ?_
  rintro e w1 ⟨rfl, k, os, rfl⟩
  refine ⟨?_, grow_mod w os k⟩
  rw [Lib.itoa_nonneg]
  rfl
/-- What must not be in a batch. -/
def BadO (o : Op3) : Prop := o.del = true ∧ o.v ≠ ⟨#[]⟩
instance (o : Op3) : Decidable (BadO o) := by unfold BadO; exact inferInstance

end Go.Proofs.YtkklofnabmdmfaaGreatDoor

/- batch.Encode. -/
namespace Go.Proofs.YtkklofnabmdmfaaGreatDoor
open Go.RowKit
set_option linter.unusedVariables false

end Go.Proofs.YtkklofnabmdmfaaGreatDoor

/- batch.Replay. -/
namespace Go.Proofs.YtkklofnabmdmfaaGreatDoor
open Go.RowKit
set_option linter.unusedVariables false

theorem tiOp : TI Tryz.prog 69 (.agg #[.bool false, .string ⟨#[]⟩, .string ⟨#[]⟩]) 3 40 := by unfold TI; kernel_rfl
theorem tiOps : TI Tryz.prog 64 (.slice none 0 0) 1 24 := by unfold TI; kernel_rfl
/-- Batches as they are told: a row of rows of ops, each in a block of its own; all in blocks from N on. -/
structure BatsAt (w : World) (v : Value) (N : Nat) (ls : List (List Op3)) (vs : List Value) : Prop where
  own : Own w 64 1 v ls.length vs
  len : vs.length = ls.length
  ent : ∀ i (h : i < ls.length) (h' : i < vs.length), Own w 69 3 vs[i] ls[i].length (encOs ls[i])
  one : ∀ u ∈ vs, u.oneCell' = true
  new : ∀ g, v.ownBlock = some g → N ≤ g
  newB : ∀ u ∈ vs, ∀ g, u.ownBlock = some g → N ≤ g
theorem BatsAt.nil (w : World) (N : Nat) : BatsAt w (.slice none 0 0) N [] [] := ⟨Own.nil _ _ _, rfl, (fun i h => by cases h), (fun u h => by cases h), (fun g h => by cases h), (fun u h => by cases h)⟩
theorem BatsAt.mod {w w1 : World} {v : Value} {N : Nat} {ls : List (List Op3)} {vs : List Value} {T : Nat → Prop} (h : BatsAt w v N ls vs) (hm : Mod T w w1) (h1 : ∀ g, v.ownBlock = some g → ¬ T g) (h2 : ∀ u ∈ vs, ∀ g, u.ownBlock = some g → ¬ T g) : BatsAt w1 v N ls vs :=
  ⟨h.own.mod hm h1, h.len, fun i hi hi' => (h.ent i hi hi').mod hm (h2 _ (List.getElem_mem _)), h.one, h.new, h.newB⟩
theorem BatsAt.mod0 {w w1 : World} {v : Value} {N : Nat} {ls : List (List Op3)} {vs : List Value} (h : BatsAt w v N ls vs) (hm : Mod NoneB w w1) : BatsAt w1 v N ls vs := h.mod hm (fun _ _ h => h) (fun _ _ _ _ h => h)
theorem BatsAt.entOf {w : World} {v : Value} {N : Nat} {ls : List (List Op3)} {vs : List Value} (h : BatsAt w v N ls vs) (u : Value) (hu : u ∈ vs) : ∃ l : List Op3, Own w 69 3 u l.length (encOs l) := by
  obtain ⟨i, hi, rfl⟩ := List.getElem_of_mem hu
  exact ⟨_, h.ent i (by rw [← h.len]; exact hi) hi⟩
/-- One more behind. -/
theorem BatsAt.snoc {w w1 : World} {v v1 u : Value} {N : Nat} {ls : List (List Op3)} {vs : List Value} {l : List Op3} (h : BatsAt w v N ls vs) (hm : Mod (OnlyBlk v) w w1) (hno : NewOr w v v1) (hN : N ≤ w.heap.size)
    (ho : Own w1 64 1 v1 (ls.length + 1) (vs ++ [u])) (hu : Own w 69 3 u l.length (encOs l)) (h1 : u.oneCell' = true) (hn : ∀ g, u.ownBlock = some g → N ≤ g) : BatsAt w1 v1 N (ls ++ [l]) (vs ++ [u]) where
  own := by rw [List.length_append]; exact ho
  len := by simp [h.len]
  ent := by
    have ht : ∀ (x : Value) (n : Nat) (cs : List Value), Own w 69 3 x n cs → Own w1 69 3 x n cs := by
      intro x n cs hx
      refine hx.mod hm (fun g hg hk => ?_)
      obtain ⟨c1, hc1⟩ := hx.tag0 hg
      obtain ⟨c2, hc2⟩ := h.own.tag0 hk
      exact tag_ne0 hc1 hc2 (by decide) rfl
    intro i h2 h3
    have hl := h.len
    by_cases hi : i < ls.length
    · rw [List.getElem_append_left (by omega), List.getElem_append_left (by omega)]
      exact ht _ _ _ (h.ent i hi (by omega))
    · obtain rfl : i = ls.length := by simp at h2; omega
      have e1 : (vs ++ [u])[ls.length] = u := by simp [← hl]
      have e2 : (ls ++ [l])[ls.length] = l := by simp
      rw [e1, e2]
      exact ht _ _ _ hu
  one := fun x hx => by
    rcases List.mem_append.1 hx with hx | hx
    · exact h.one x hx
    · rw [List.mem_singleton] at hx; subst hx; exact h1
  new := fun g hg => by
    rcases hno with hq | ⟨b, hq, hb⟩
    · exact h.new g (by rw [← hq]; exact hg)
    · rw [hq] at hg
      injection hg with hg
      omega
  newB := fun x hx g hg => by
    rcases List.mem_append.1 hx with hx | hx
    · exact h.newB x hx g hg
    · rw [List.mem_singleton] at hx; subst hx; exact hn g hg
/-- One more op behind those that are open. -/
theorem replay_keep {w2 w5 : World} {N : Nat} {vl vo v5 : Value} {done : List (List Op3)} {vs : List Value} {now : List Op3} {o : Op3} (hba : BatsAt w2 vl N done vs) (ho : Own w2 69 3 vo now.length (encOs now)) (hnb : ∀ g, vo.ownBlock = some g → N ≤ g ∧ ∀ u ∈ vs, u.ownBlock ≠ some g)
    (ho5 : Own w5 69 3 v5 (now.length + 1) (encOs now ++ encO o)) (hm5 : Mod (OnlyBlk vo) w2 w5) (hno5 : NewOr w2 vo v5) (hN : N ≤ w2.heap.size) :
    BatsAt w5 vl N done vs ∧ Own w5 69 3 v5 (now ++ [o]).length (encOs (now ++ [o])) ∧ (∀ g, v5.ownBlock = some g → N ≤ g ∧ ∀ u ∈ vs, u.ownBlock ≠ some g) := by
  refine ⟨hba.mod hm5 (fun g hg hk => ?_) (fun u hu g hg hk => (hnb g hk).2 u hu hg), ?_, fun g hg => ?_⟩
  · obtain ⟨c1, h1⟩ := hba.own.tag0 hg
    obtain ⟨c2, h2⟩ := ho.tag0 hk
    exact tag_ne0 h1 h2 (by decide) rfl
  · have e : encOs (now ++ [o]) = encOs now ++ encO o := by unfold encOs; rw [List.flatMap_append]; simp
    rw [e, List.length_append]
    exact ho5
  · rcases hno5 with h | ⟨b, h, hb⟩
    · exact hnb g (by rw [← h]; exact hg)
    · rw [h] at hg
      injection hg with hg
      subst hg
      refine ⟨Nat.le_trans hN hb, fun u hu hub => ?_⟩
      obtain ⟨l, hl⟩ := hba.entOf u hu
      have := hl.lt hub
      omega
theorem encO_one (o : Op3) : ∀ u ∈ encO o, u.oneCell' = true := by
  intro u hu
  simp [encO] at hu
  rcases hu with rfl | rfl | rfl <;> rfl
/-- Batches that are told, and how many records are used. -/
def ReplE (r : List (List Op3) × Nat) (w : World) (e : Ending) (w' : World) : Prop :=
  ∃ v vs, e = .returned (.tuple #[v, .int .i64 (r.2 : Nat)]) ∧ BatsAt w' v w.heap.size r.1 vs ∧ Mod NoneB w w'
/-- Records as they came in. -/
structure PartOk (w : World) (p : Part) : Prop where
  rd : Rd w 1 p.A p.b.length (encB p.b)
  cap : p.b.length ≤ p.c
  top : p.b.length ≤ 140737488355328
def bsOf (ps : List Part) : List (List UInt8) := ps.map (·.b)

theorem add_nil0 (ad : Addr) : ad.add 0 = ad := by unfold Addr.add; split <;> simp_all
set_option maxRecDepth 100000 in
/-- b[1:], as the walk takes it. -/
theorem tail_at {w : World} {ad : Addr} {c : Nat} {k : UInt8} {r : List UInt8} (h : Rd w 1 (some ad) (k :: r).length (encB (k :: r))) (hnc : (k :: r).length ≤ c) :
    ∃ A', (∀ W, (Instr.slice 25 (.slice (some ad) (k :: r).length c) (some (.int .i64 1)) none none).run Tryz.prog W = .ok (.slice A' r.length (c - 1)) W) ∧
      (∀ W, (Instr.sliceAt 25 (.slice (some ad) (k :: r).length c) (some (.int .i64 1)) none none).run Tryz.prog W = .ok (.slice A' r.length (c - 1)) W) ∧ Rd w 1 A' r.length (encB r) := by
  have ht : Tryz.prog.underlying 25 = some (.slice (Tryz.prog.elem 25)) := by kernel_rfl
  have he : Tryz.prog.elem 25 = 5 := by kernel_rfl
  obtain ⟨ti, hti, _, hs, _⟩ := (tiB).parts
  have hrun : ∀ W, (Instr.slice 25 (.slice (some ad) (k :: r).length c) (some (.int .i64 1)) none none).run Tryz.prog W = .ok (.slice (if c = 1 then some ad else some (ad.add 1)) r.length (c - 1)) W := by
    intro W
    rw [run_slice_l W 25 (some ad) _ c ht .i64 _ (by omega) (by simp; omega), he]
    simp [sizeOf, typeInfo, hti, hs, sliced]
  refine ⟨_, hrun, fun W => by rw [run_sliceAt_slice W _ _ _ _ _ ht]; exact hrun W, ?_⟩
  by_cases hci : c = 1
  · have h0 : r = [] := List.eq_nil_of_length_eq_zero (by simp at hnc; omega)
    subst h0
    exact Rd.nil _ _ _
  · rw [if_neg hci]
    have h2 := h.sub 1 r.length (by simp; omega)
    simpa using h2
theorem kindT_bad {now : Nat} {k : UInt8} {ts : List ByteArray} (h1 : ¬ (k = 112 ∧ ts.length = 2)) (h2 : ¬ (k = 100 ∧ ts.length = 1)) (h3 : ¬ (k = 99 ∧ ∃ a, ts = [a] ∧ a = digitsB now)) : kindT now k (some ts) = .bad := by
  match ts with
  | [] => rfl
  | [a] =>
    show (if k = 100 then _ else if k = 99 ∧ a = digitsB now then _ else _) = _
    rw [if_neg (fun h => h2 ⟨h, rfl⟩), if_neg (fun h => h3 ⟨h.1, a, rfl, h.2⟩)]
  | [a, b] =>
    show (if k = 112 then _ else _) = _
    rw [if_neg (fun h => h1 ⟨h, rfl⟩)]
  | a :: b :: d :: l => rfl
theorem u8_ne {k : UInt8} {n : Nat} (hn : n < 256) (h : k ≠ UInt8.ofNat n) : (((k.toNat : Int) == (n : Int))) = false := by
  refine beq_eq_false_iff_ne.mpr (fun e => h ?_)
  apply UInt8.toNat_inj.1
  rw [UInt8.toNat_ofNat']
  omega
theorem drop_cons {α : Type} (l : List α) (j : Nat) (h : j < l.length) : l.drop j = l[j] :: l.drop (j + 1) := List.drop_eq_getElem_cons h

set_option maxHeartbeats 16000000 in
set_option maxRecDepth 100000 in
theorem replay_calls (ps : List Part) (A : Option Addr) (c : Nat) (w : World) (hr : Rd w 1 A ps.length (ps.flatMap encPart)) (hp : ∀ p ∈ ps, PartOk w p) (hn : ps.length ≤ 1000000) (ht : TabW w) :
    Calls Tryz.prog 56 #[.slice A ps.length c] w (ReplE (replayB (bsOf ps)) w) := by
  have hlen : (bsOf ps).length = ps.length := by simp [bsOf]
  have HLEN := Lib.hid hlen
  have HP := Lib.hid hp
  have HT := Lib.hid ht
  have huo := Tryz.underlying64
  have huos := Tryz.underlying79
  clear hlen hp ht
  go_enter Tryz.func56, Tryz.ntmps56
  go_wp2_with fail
  go_step3
  go_wp2_with fail
  go_step3
  go_wp2_with fail
  go_loopw [2, 3, 4, 12] (fun vl us vo i wr => ∃ (j used : Nat) (done : List (List Op3)) (vs : List Value) (now : List Op3), i = .int .i64 j ∧ us = .int .i64 used ∧ j ≤ ps.length ∧ now.length ≤ j ∧ done.length ≤ j ∧ used ≤ j ∧ BatsAt wr vl w.heap.size done vs ∧ Own wr 69 3 vo now.length (encOs now) ∧ (∀ g, vo.ownBlock = some g → w.heap.size ≤ g ∧ ∀ u ∈ vs, u.ownBlock ≠ some g) ∧ Mod NoneB w wr ∧
      replayB (bsOf ps) = (done ++ (replayGo now j used ((bsOf ps).drop j)).1, (replayGo now j used ((bsOf ps).drop j)).2)) (fun _ _ _ i _ => ps.length - (intOf i).toNat)
  case atStart => exact ⟨0, 0, [], [], [], rfl, rfl, by omega, by simp, by simp, by omega, BatsAt.nil _ _, Own.nil _ _ _, fun g h => by simp [Value.ownBlock] at h, Mod.refl _ _, by simp [replayB]⟩
  case round =>
    obtain ⟨j, used, done, vs, now, rfl, rfl, hj, hnl, hdl, hul, hba, hon, hnb, hm, hrp⟩ := hrel
    by_cases hlt : j < ps.length
    · obtain ⟨ad, rfl, h0, _⟩ := Rd.elem (f := encPart) (fun _ => rfl) hr (by decide) j hlt
      have c0 := hm.cell0 (h0 _ rfl)
      rw [Nat.mul_one] at c0
      have hpk := HP.out ps[j] (List.getElem_mem _)
      have hdr : (bsOf ps).drop j = ps[j].b :: (bsOf ps).drop (j + 1) := by
        have h1 : j < (bsOf ps).length := by rw [HLEN.out]; exact hlt
        rw [drop_cons _ _ h1]
        congr 1
        simp [bsOf]
      obtain ⟨p, hpp⟩ : ∃ p, p = ps[j] := ⟨_, rfl⟩
      rw [← hpp] at c0 hpk hdr
      rw [hdr] at hrp
      obtain ⟨pA, pb, pc⟩ := p
      obtain ⟨hrd, hcap, htop⟩ := hpk
      simp only at hrd hcap htop hrp c0
      replace hrd := hrd.mod0 hm
      clear h0 hpp hdr
      have HBA := Lib.hid hba
      have HON := Lib.hid hon
      have HNB := Lib.hid hnb
      have HRP := Lib.hid hrp
      clear hba hon hnb hrp
      cases pb with
      | nil =>
        have hbad := replayGo_bad now j used [] ((bsOf ps).drop (j + 1)) rfl
        have HBAD := Lib.hid hbad
        clear hbad
        go_wp2_with fail
        go_ret2
        rw [HRP.out, HBAD.out, List.append_nil]
        exact ⟨_, vs, rfl, HBA.out, hm⟩
      | cons k r =>
        obtain ⟨adp, rfl, hce⟩ := hrd.2.2 (by simp)
        have c1 := hce 0 (.int .u8 k.toNat) rfl
        rw [add_nil0] at c1
        obtain ⟨A', hs1, hs2, hrt⟩ := tail_at hrd hcap
        have hdec := decode_calls r A' (pc - 1) wr hrt (by simp at htop; omega) (by simp at hcap; omega)
        have HDEC := Lib.hid hdec
        have hkb := kindB_cons now.length k r
        have HKB := Lib.hid hkb
        have g1 : (1 : Int) ≤ ((k :: r).length : Int) := Int.ofNat_le.2 (by simp : 1 ≤ (k :: r).length)
        have g2 : ((((k :: r).length : Nat) : Int) == 0) = false := beq_eq_false_iff_ne.mpr (by simp; omega)
        have g0 : 0 < (k :: r).length := Nat.succ_pos _
        have g3 : (0 : Int) < ((k :: r).length : Int) := by omega
        obtain ⟨nb, hnbb⟩ : ∃ nb, nb = (k :: r).length := ⟨_, rfl⟩
        rw [← hnbb] at c0 g1 g2 g3 hs1 hs2
        clear hrd hce hdec hkb hrt hcap htop hnbb
        go_wp2_with fail
        refine HDEC.out.mono ?_
        rintro e w2 ⟨vt, rfl, hot, hmt, hnt⟩
        have c2 := hmt.cell0 c1
        have hm2 := hm.then0 hmt
        clear c0 c1 hs1 hs2 HDEC
        cases hdl : decL r with
        | none =>
          rw [hdl] at HKB
          have hbad := replayGo_bad now j used (k :: r) ((bsOf ps).drop (j + 1)) HKB.out
          have HBAD := Lib.hid hbad
          have HMT := Lib.hid hmt
          clear hbad hdl hot hnt
          simp only [errT, Option.isSome_none, Bool.false_eq_true, if_false]
          go_wp2_with fail
          go_ret2
          rw [HRP.out, HBAD.out, List.append_nil]
          exact ⟨_, vs, rfl, HBA.out.mod0 HMT.out, hm2⟩
        | some ts =>
          rw [hdl] at HKB hot
          simp only [Option.getD_some] at hot
          clear hdl
          simp only [errT, Option.isSome_some, if_true]
          have HKN := Lib.hid hnt
          obtain ⟨Vt, ct, hvt, _⟩ := hot.nilD0
          by_cases h112 : k = 112
          · have z0 : (((k.toNat : Nat) : Int)) = 112 := by rw [h112]; rfl
            rw [z0] at c2
            by_cases hl2 : ts.length = 2
            · obtain ⟨a, b, rfl⟩ : ∃ a b, ts = [a, b] := by
                match ts, hl2 with
                | [a, b], _ => exact ⟨a, b, rfl⟩
              obtain ⟨gt, ctt, hvg⟩ := hot.addrOf (by simp)
              have hvg2 : vt = .slice (some ⟨gt, 0, none⟩) 2 ctt := hvg
              subst hvg2
              have y0 : w2.cell? ⟨gt, 0, none⟩ = some (.string a) := Own.cellAt (n := 2) hot 0 _ rfl
              have y1 : w2.cell? ⟨gt, 1, none⟩ = some (.string b) := Own.cellAt (n := 2) hot 1 _ rfl
              have hop := replayGo_op now j used (k :: r) ((bsOf ps).drop (j + 1)) (o := ⟨false, a, b⟩) (HKB.out.trans (show kindT now.length k (some [a, b]) = _ from if_pos h112))
              have HOP := Lib.hid hop
              have hal : Mod NoneB w2 (w2.alloc (.cells #[.bool false, .string a, .string b] 69)).drew := ((Mod.refl NoneB w2).alloc _).drew
              have hbx := box1 w2 (.cells #[.bool false, .string a, .string b] 69)
              have hbx2 : (w2.alloc (.cells #[.bool false, .string a, .string b] 69)).drew.heap[w2.heap.size]? = some (.cells #[.bool false, .string a, .string b] 69) := hbx
              have hnx : 0 < 1 → ∃ x, (some ⟨w2.heap.size, 0, none⟩ : Option Addr) = some x ∧ ∀ (i : Nat) u, (encO ⟨false, a, b⟩)[i]? = some u → (w2.alloc (.cells #[.bool false, .string a, .string b] 69)).drew.cell? (x.add i) = some u := (rd_blk (sz := 3) (n := 1) hbx2 rfl (by decide)).2.2
              have hox := (HON.out.mod0 hmt).mod0 hal
              obtain ⟨Ao, co, hvo, _, _, _⟩ := hox.out
              have h40 : (now.length + 1) * 40 ≤ 140737488355328 := by omega
              have HBA2 := Lib.hid ((HBA.out.mod0 hmt).mod0 hal)
              have HM2 := Lib.hid (hm2.then0 hal)
              have hgt : ∀ g, (Value.slice (some ⟨gt, 0, none⟩) 2 ctt).ownBlock = some g → ¬ OnlyBlk (.slice Ao now.length co) g := fun g hg hk => by
                obtain ⟨d1, e1⟩ := (hot.mod0 hal).tag0 hg
                rw [hvo] at hox
                obtain ⟨d2, e2⟩ := hox.tag0 hk
                exact tag_ne0 e1 e2 (by decide) rfl
              have HGT := Lib.hid (hgt gt rfl)
              have u0 : (w2.alloc (.cells #[.bool false, .string a, .string b] 69)).drew.cell? ⟨gt, 0, none⟩ = some (.string a) := hal.cell0 y0
              have u1 : (w2.alloc (.cells #[.bool false, .string a, .string b] 69)).drew.cell? ⟨gt, 1, none⟩ = some (.string b) := hal.cell0 y1
              subst hvo
              clear hbx hbx2 hal hop hnt hmt hot hvt hgt
              go_wp2_with fail
              go_region_held3 (fun w' => w'.cell? ⟨gt, 0, none⟩ = some (.string a) ∧ w'.cell? ⟨gt, 1, none⟩ = some (.string b)) (first | go_keep | exact ⟨y05, y15⟩ | exact ⟨u0, u1⟩)
                ((refine step_app rfl (.tmp 39) (.tmp 47) 64 rfl 69 _ 3 40 huo tiOp rfl (by decide) (by decide) _ now.length (encOs now) (by simp [Act.eval]) hox (some ⟨w2.heap.size, 0, none⟩) 1 1 (encO ⟨false, a, b⟩) (by simp [Act.eval]) rfl hnx (encO_one _) h40 ?_; intro v5 w5 ho5 hm5 hno5; have y05 := hm5.cell u0 HGT.out; have y15 := hm5.cell u1 HGT.out))
              all_goals
                have hk := replay_keep HBA2.out hox HNB.out ho5 hm5 hno5 HM2.out.size
                have hm5w : Mod NoneB w w5 := HM2.out.trans_new hm5 (fun k hk => .inr (HNB.out k hk).1)
                have HK := Lib.hid (And.intro hk hm5w)
                obtain ⟨A5, c5, rfl, _⟩ := ho5.out
                clear hk hm5w ho5 hm5 hno5 hox hnx h40 u0 u1 y05 y15 y0 y1
                go_wp2_with fail
                go_roundw
                case rel => exact ⟨j + 1, used, done, vs, now ++ [⟨false, a, b⟩], by go_num, rfl, by omega, by simp; omega, by omega, by omega, HK.out.1.1, HK.out.1.2.1, HK.out.1.2.2, HK.out.2, by rw [HRP.out, HOP.out]⟩
                case measure => simp [intOf]; omega
            · have b2 : (((ts.length : Nat) : Int) == 2) = false := beq_eq_false_iff_ne.mpr (by omega)
              subst hvt
              have hbad := replayGo_bad now j used (k :: r) ((bsOf ps).drop (j + 1)) (HKB.out.trans (kindT_bad (ts := ts) (fun h => hl2 h.2) (fun h => by rw [h112] at h; exact absurd h.1 (by decide)) (fun h => by rw [h112] at h; exact absurd h.1 (by decide))))
              have HBAD := Lib.hid hbad
              have HMT := Lib.hid hmt
              clear hbad hot hnt hmt
              go_wp2_with fail
              go_quiet (fail)
              go_wp2_with fail
              go_ret2
              rw [HRP.out, HBAD.out, List.append_nil]
              exact ⟨_, vs, rfl, (HBA.out.mod0 HMT.out).mod0 ((Mod.refl NoneB w2).drewN nq), hm2.drewN nq⟩
          by_cases h100 : k = 100
          · have z0 : (((k.toNat : Nat) : Int)) = 100 := by rw [h100]; rfl
            rw [z0] at c2
            by_cases hl1 : ts.length = 1
            · obtain ⟨a, rfl⟩ : ∃ a, ts = [a] := by
                match ts, hl1 with
                | [a], _ => exact ⟨a, rfl⟩
              obtain ⟨gt, ctt, hvg⟩ := hot.addrOf (by simp)
              have hvg2 : vt = .slice (some ⟨gt, 0, none⟩) 1 ctt := hvg
              subst hvg2
              have y0 : w2.cell? ⟨gt, 0, none⟩ = some (.string a) := Own.cellAt (n := 1) hot 0 _ rfl
              have hop := replayGo_op now j used (k :: r) ((bsOf ps).drop (j + 1)) (o := ⟨true, a, ⟨#[]⟩⟩) (HKB.out.trans (show kindT now.length k (some [a]) = _ from if_pos h100))
              have HOP := Lib.hid hop
              have hal : Mod NoneB w2 (w2.alloc (.cells #[.bool true, .string a, .string ⟨#[]⟩] 69)) := (Mod.refl NoneB w2).alloc _
              have hbx := box1 w2 (.cells #[.bool true, .string a, .string ⟨#[]⟩] 69)
              have hnx : 0 < 1 → ∃ x, (some ⟨w2.heap.size, 0, none⟩ : Option Addr) = some x ∧ ∀ (i : Nat) u, (encO ⟨true, a, ⟨#[]⟩⟩)[i]? = some u → (w2.alloc (.cells #[.bool true, .string a, .string ⟨#[]⟩] 69)).cell? (x.add i) = some u := (rd_blk (sz := 3) (n := 1) hbx rfl (by decide)).2.2
              have hox := (HON.out.mod0 hmt).mod0 hal
              obtain ⟨Ao, co, hvo, _, _, _⟩ := hox.out
              have h40 : (now.length + 1) * 40 ≤ 140737488355328 := by omega
              have HBA2 := Lib.hid ((HBA.out.mod0 hmt).mod0 hal)
              have HM2 := Lib.hid (hm2.then0 hal)
              subst hvo
              clear hbx hal hop hnt hmt hot hvt
              go_wp2_with (at_builtin; refine wpList_append rfl (.tmp 57) (.tmp 62) 64 rfl 69 _ 3 40 huo tiOp rfl (by decide) (by decide) _ now.length (encOs now) rfl hox (some ⟨w2.heap.size, 0, none⟩) 1 1 (encO ⟨true, a, ⟨#[]⟩⟩) rfl rfl hnx (encO_one _) h40 ?_)
              intro v5 w5 ho5 hm5 hno5
              have hk := replay_keep HBA2.out hox HNB.out ho5 hm5 hno5 HM2.out.size
              have hm5w : Mod NoneB w w5 := HM2.out.trans_new hm5 (fun k hk => .inr (HNB.out k hk).1)
              have HK := Lib.hid (And.intro hk hm5w)
              obtain ⟨A5, c5, rfl, _⟩ := ho5.out
              clear hk hm5w ho5 hm5 hno5 hox hnx h40
              go_wp2_with fail
              go_roundw
              case rel => exact ⟨j + 1, used, done, vs, now ++ [⟨true, a, ⟨#[]⟩⟩], by go_num, rfl, by omega, by simp; omega, by omega, by omega, HK.out.1.1, HK.out.1.2.1, HK.out.1.2.2, HK.out.2, by rw [HRP.out, HOP.out]⟩
              case measure => simp [intOf]; omega
            · have b2 : (((ts.length : Nat) : Int) == 1) = false := beq_eq_false_iff_ne.mpr (by omega)
              subst hvt
              have hbad := replayGo_bad now j used (k :: r) ((bsOf ps).drop (j + 1)) (HKB.out.trans (kindT_bad (ts := ts) (fun h => h112 h.1) (fun h => hl1 h.2) (fun h => by rw [h100] at h; exact absurd h.1 (by decide))))
              have HBAD := Lib.hid hbad
              have HMT := Lib.hid hmt
              clear hbad hot hnt hmt
              go_wp2_with fail
              go_quiet (fail)
              go_wp2_with fail
              go_ret2
              rw [HRP.out, HBAD.out, List.append_nil]
              exact ⟨_, vs, rfl, (HBA.out.mod0 HMT.out).mod0 ((Mod.refl NoneB w2).drewN nq), hm2.drewN nq⟩
          by_cases h99 : k = 99
          · have z0 : (((k.toNat : Nat) : Int)) = 99 := by rw [h99]; rfl
            rw [z0] at c2
            by_cases hl1 : ts.length = 1
            · obtain ⟨a, rfl⟩ : ∃ a, ts = [a] := by
                match ts, hl1 with
                | [a], _ => exact ⟨a, rfl⟩
              obtain ⟨gt, ctt, hvg⟩ := hot.addrOf (by simp)
              have hvg2 : vt = .slice (some ⟨gt, 0, none⟩) 1 ctt := hvg
              subst hvg2
              have y0 : w2.cell? ⟨gt, 0, none⟩ = some (.string a) := Own.cellAt (n := 1) hot 0 _ rfl
              have hdr : Mod NoneB w2 w2.drew := (Mod.refl NoneB w2).drew
              have hit := itoa_calls now.length w2.drew (by omega) (HT.out.mod0 (hm2.then0 hdr))
              have HIT := Lib.hid hit
              have HMT := Lib.hid hmt
              obtain ⟨Ao, co, hvo, _, _, _⟩ := HON.out.out
              have y0d : w2.drew.cell? ⟨gt, 0, none⟩ = some (.string a) := y0
              by_cases ha : a = digitsB now.length
              · have bq : (a.toList == (digitsB now.length).toList) = true := by rw [beq_toList]; exact decide_eq_true ha
                have hfin := replayGo_fin now j used (k :: r) ((bsOf ps).drop (j + 1)) (HKB.out.trans (show kindT now.length k (some [a]) = _ by
                  show (if k = 100 then _ else if k = 99 ∧ a = digitsB now.length then _ else _) = _
                  rw [if_neg h100, if_pos ⟨h99, ha⟩]))
                have HFIN := Lib.hid hfin
                obtain ⟨dg, hdg⟩ : ∃ dg, dg = digitsB now.length := ⟨_, rfl⟩
                rw [← hdg] at HIT bq
                have HVO := Lib.hid hvo
                have HM2 := Lib.hid hm2
                have huN : w.heap.size ≤ w2.heap.size := hm2.size
                subst hvo
                clear hfin hit hmt hot hvt hdg ha hnt
                go_wp2_with fail
                go_region_held3 (fun w' => w'.cell? ⟨gt, 0, none⟩ = some (.string a)) (first | go_keep | exact y05)
                  ((go_at_call 94; (with_reducible refine HIT.out.mono ?_); rintro ez w5 ⟨rfl, hm5⟩; have y05 := hm5.cell0 y0d))
                all_goals
                  have hm25 : Mod NoneB w2 w5 := hdr.then0 hm5
                  have hba5 := (HBA.out.mod0 HMT.out).mod0 hm25
                  have hon5 := (HON.out.mod0 HMT.out).mod0 hm25
                  have hal : Mod NoneB w5 (w5.alloc (.cells #[.slice Ao now.length co] 64)) := (Mod.refl NoneB w5).alloc _
                  have hbx := box1 w5 (.cells #[.slice Ao now.length co] 64)
                  have hnx : 0 < 1 → ∃ x, (some ⟨w5.heap.size, 0, none⟩ : Option Addr) = some x ∧ ∀ (i : Nat) u, ([Value.slice Ao now.length co])[i]? = some u → (w5.alloc (.cells #[.slice Ao now.length co] 64)).cell? (x.add i) = some u := (rd_blk (sz := 1) (n := 1) hbx rfl (by decide)).2.2
                  have hba6 := hba5.mod0 hal
                  have hon6 := hon5.mod0 hal
                  have hm6 : Mod NoneB w (w5.alloc (.cells #[.slice Ao now.length co] 64)) := (HM2.out.then0 hm25).then0 hal
                  have h24 : (done.length + 1) * 24 ≤ 140737488355328 := by omega
                  obtain ⟨Al, cl, hvl, _, _, _⟩ := hba6.own.out
                  have HBA6 := Lib.hid hba6
                  have HON6 := Lib.hid hon6
                  have hown := hba6.own
                  subst hvl
                  clear hba5 hon5 hba6 hon6 hbx hal hm25 hm5 y05 y0 y0d hdr HIT hm2
                  go_wp2_with (at_builtin; refine wpList_append rfl (.tmp 81) (.tmp 83) 79 rfl 64 _ 1 24 huos tiOps rfl (by decide) (by decide) _ done.length vs rfl hown (some ⟨w5.heap.size, 0, none⟩) 1 1 [.slice Ao now.length co] rfl rfl hnx (fun u hu => by rw [List.mem_singleton] at hu; subst hu; rfl) h24 ?_)
                  intro v7 w7 ho7 hm7 hno7
                  have hsn := HBA6.out.snoc hm7 hno7 hm6.size ho7 HON6.out rfl (fun g hg => (HNB.out g hg).1)
                  have hm7w : Mod NoneB w w7 := hm6.trans_new hm7 (fun k hk => .inr (HBA6.out.new k hk))
                  have HSN := Lib.hid (And.intro hsn hm7w)
                  obtain ⟨A7, c7, rfl, _⟩ := ho7.out
                  clear hsn hm7w ho7 hm7 hno7 hown hnx h24 hm6
                  go_wp2_with fail
                  go_roundw
                  case rel => exact ⟨j + 1, j + 1, done ++ [now], vs ++ [.slice Ao now.length co], [], by go_num, by go_num, by omega, by simp, by simp; omega, by omega, HSN.out.1, Own.nil _ _ _, fun g h => by simp [Value.ownBlock] at h, HSN.out.2, by rw [HRP.out, HFIN.out]; simp⟩
                  case measure => simp [intOf]; omega
              · have bq : (a.toList == (digitsB now.length).toList) = false := by rw [beq_toList]; exact decide_eq_false ha
                have hbad := replayGo_bad now j used (k :: r) ((bsOf ps).drop (j + 1)) (HKB.out.trans (kindT_bad (ts := [a]) (fun h => h112 h.1) (fun h => h100 h.1) (fun h => by obtain ⟨_, a', ha', hd'⟩ := h; injection ha' with ha'; exact ha (ha'.trans hd'))))
                have HBAD := Lib.hid hbad
                obtain ⟨dg, hdg⟩ : ∃ dg, dg = digitsB now.length := ⟨_, rfl⟩
                rw [← hdg] at HIT bq
                subst hvo
                clear hbad hit hmt hot hvt hdg ha hnt
                go_wp2_with fail
                go_region_held3 (fun w' => w'.cell? ⟨gt, 0, none⟩ = some (.string a)) (first | go_keep | exact y05)
                  ((go_at_call 94; (with_reducible refine HIT.out.mono ?_); rintro ez w5 ⟨rfl, hm5⟩; have y05 := hm5.cell0 y0d))
                all_goals
                  go_wp2_with fail
                  go_ret2
                  rw [HRP.out, HBAD.out, List.append_nil]
                  exact ⟨_, vs, rfl, (HBA.out.mod0 HMT.out).mod0 (hdr.then0 hm5), (hm2.then0 hdr).then0 hm5⟩
            · have b2 : (((ts.length : Nat) : Int) == 1) = false := beq_eq_false_iff_ne.mpr (by omega)
              subst hvt
              have hbad := replayGo_bad now j used (k :: r) ((bsOf ps).drop (j + 1)) (HKB.out.trans (kindT_bad (ts := ts) (fun h => h112 h.1) (fun h => h100 h.1) (fun h => by obtain ⟨_, a, ha, _⟩ := h; exact hl1 (by rw [ha]; rfl))))
              have HBAD := Lib.hid hbad
              have HMT := Lib.hid hmt
              clear hbad hot hnt hmt
              go_wp2_with fail
              go_quiet (fail)
              go_wp2_with fail
              go_ret2
              rw [HRP.out, HBAD.out, List.append_nil]
              exact ⟨_, vs, rfl, (HBA.out.mod0 HMT.out).mod0 ((Mod.refl NoneB w2).drewN nq), hm2.drewN nq⟩
          have q1 : (((k.toNat : Nat) : Int) == 112) = false := u8_ne (n := 112) (by decide) h112
          have q2 : (((k.toNat : Nat) : Int) == 100) = false := u8_ne (n := 100) (by decide) h100
          have q3 : (((k.toNat : Nat) : Int) == 99) = false := u8_ne (n := 99) (by decide) h99
          subst hvt
          have hbad := replayGo_bad now j used (k :: r) ((bsOf ps).drop (j + 1)) (HKB.out.trans (kindT_bad (ts := ts) (fun h => h112 h.1) (fun h => h100 h.1) (fun h => h99 h.1)))
          have HBAD := Lib.hid hbad
          have HMT := Lib.hid hmt
          clear hbad hot hnt hmt
          go_wp2_with fail
          go_quiet (fail)
          go_wp2_with fail
          go_ret2
          rw [HRP.out, HBAD.out, List.append_nil]
          exact ⟨_, vs, rfl, (HBA.out.mod0 HMT.out).mod0 ((Mod.refl NoneB w2).drewN nq), hm2.drewN nq⟩
    · obtain rfl : j = ps.length := by omega
      have hend : (bsOf ps).drop ps.length = [] := List.drop_eq_nil_of_le (by rw [HLEN.out]; exact Nat.le_refl _)
      rw [hend] at hrp
      have HRP := Lib.hid hrp
      clear hend hrp hon hnb
      go_wp2_with fail
      go_ret2
      rw [HRP.out]
      exact ⟨_, vs, rfl, by simpa [replayGo] using hba, hm⟩
end Go.Proofs.YtkklofnabmdmfaaGreatDoor

/- The document's SameOps and Batches: are two lists one? -/
namespace Go.Proofs.YtkklofnabmdmfaaGreatDoor
open Go.RowKit
set_option linter.unusedVariables false

/-- Batches as they lie: a row of rows of ops. -/
def BatsRd (w : World) (A : Option Addr) (n : Nat) (ls : List (List Op3)) (vs : List Value) : Prop := Rd w 1 A n vs ∧ vs.length = ls.length ∧ ∀ i (h : i < ls.length) (h' : i < vs.length), ∃ B bc, vs[i] = .slice B ls[i].length bc ∧ Rd w 3 B ls[i].length (encOs ls[i])
theorem BatsAt.rd {w : World} {v : Value} {N : Nat} {ls : List (List Op3)} {vs : List Value} (h : BatsAt w v N ls vs) : ∃ A c, v = .slice A ls.length c ∧ BatsRd w A ls.length ls vs := by
  obtain ⟨A, c, e, hr⟩ := h.own.nilD0
  refine ⟨A, c, e, hr, h.len, fun i h1 h2 => ?_⟩
  obtain ⟨B, bc, e2, hr2⟩ := (h.ent i h1 h2).nilD0
  exact ⟨B, bc, e2, hr2⟩
theorem Rd.one {w : World} {A : Option Addr} {n : Nat} {vs : List Value} (h : Rd w 1 A n vs) (i : Nat) (hi : i < vs.length) : ∃ ad, A = some ad ∧ w.cell? (ad.add i) = some vs[i] := by
  have hl := h.1
  obtain ⟨ad, e, hc⟩ := h.2.2 (by omega)
  exact ⟨ad, e, hc i _ (List.getElem?_eq_getElem hi)⟩
end Go.Proofs.YtkklofnabmdmfaaGreatDoor

/- The document's RightOps. -/
namespace Go.Proofs.YtkklofnabmdmfaaGreatDoor
open Go.RowKit
set_option linter.unusedVariables false

end Go.Proofs.YtkklofnabmdmfaaGreatDoor

/- The document's Digits. -/
namespace Go.Proofs.YtkklofnabmdmfaaGreatDoor
open Go.RowKit
set_option linter.unusedVariables false

theorem decDigits_big {u : Nat} (h : ¬ u < 10) : Lib.decDigits u = Lib.decDigits (u / 10) ++ [UInt8.ofNat (48 + u % 10)] := by rw [Lib.decDigits, dif_neg h]
theorem digit_toNat (u : Nat) : ((UInt8.ofNat (48 + u % 10)).toNat : Int) = 48 + (u : Int) % 10 := by
  rw [UInt8.toNat_ofNat']
  omega
end Go.Proofs.YtkklofnabmdmfaaGreatDoor
