/- Batches, maps as bytes, in plain words. No program stands here. -/
import Derived.Test.YtaldneffhbgepaaDoorRecsA
import Derived.Lib.ItoaNum
namespace Go.Proofs.YtaldneffhbgepaaDoor
set_option linter.unusedVariables false

def digitsB (n : Nat) : ByteArray := strOf (Lib.decDigits n)
/-- The value of decimal digits. -/
def valB (l : List UInt8) : Nat := l.foldl (fun r c => r * 10 + (c.toNat - 48)) 0
theorem valB_digits (u : Nat) : valB (Lib.decDigits u) = u := by
  induction u using Nat.strongRecOn with
  | _ u ih =>
    by_cases h : u < 10
    · rw [Lib.decDigits_one h]
      show 0 * 10 + ((UInt8.ofNat (48 + u)).toNat - 48) = u
      rw [UInt8.toNat_ofNat']
      omega
    · rw [Lib.decDigits, dif_neg h]
      unfold valB
      rw [List.foldl_append]
      show (valB (Lib.decDigits (u / 10))) * 10 + ((UInt8.ofNat (48 + u % 10)).toNat - 48) = u
      rw [ih (u / 10) (by omega), UInt8.toNat_ofNat']
      omega
theorem digitsB_inj {a b : Nat} (h : digitsB a = digitsB b) : a = b := by
  have := strOf_inj h
  rw [← valB_digits a, this, valB_digits]
theorem digitsB_size (n : Nat) : (digitsB n).size = Lib.nDigits n := by unfold digitsB; rw [strOf_size, Lib.decDigits_length]
theorem digitsB_size_le {n : Nat} (h : n < 10000) : (digitsB n).size ≤ 4 := by
  rw [digitsB_size]
  have : ∀ k, Lib.nDigits k ≤ Lib.nDigits (k / 10) + 1 := by
    intro k
    by_cases h : k < 10
    · rw [Lib.nDigits_small h]; omega
    · rw [Lib.nDigits_big h]; omega
  have h1 := this n
  have h2 := this (n / 10)
  have h3 := this (n / 10 / 10)
  have h4 := Lib.nDigits_small (u := n / 10 / 10 / 10) (by omega)
  omega

def recO (o : Op3) : List UInt8 := if o.del then 100 :: encL [o.k] else 112 :: encL [o.k, o.v]
def recE (n : Nat) : List UInt8 := 99 :: encL [digitsB n]
/-- May ops be a batch? -/
def rightO (l : List Op3) : Prop := l.length ≤ 1000 ∧ ∀ o ∈ l, o.del = true → o.v = ⟨#[]⟩
instance (l : List Op3) : Decidable (rightO l) := by unfold rightO; exact inferInstance
/-- A batch as records, as bytes. -/
def recsO (l : List Op3) : List (List UInt8) := l.map recO ++ [recE l.length]
def bytesO (l : List Op3) : List UInt8 := framesB (recsO l)

inductive Kd where
  | op (o : Op3)
  | fin
  | bad
def kindT (now : Nat) (k : UInt8) : Option (List ByteArray) → Kd
  | some [a, b] => if k = 112 then .op ⟨false, a, b⟩ else .bad
  | some [a] => if k = 100 then .op ⟨true, a, ⟨#[]⟩⟩ else if k = 99 ∧ a = digitsB now then .fin else .bad
  | _ => .bad
/-- What a record says behind so many ops. -/
def kindB (now : Nat) : List UInt8 → Kd
  | [] => .bad
  | k :: r => kindT now k (decL r)
theorem kindB_cons (now : Nat) (k : UInt8) (r : List UInt8) : kindB now (k :: r) = kindT now k (decL r) := rfl
/-- The batches that records begin with, behind i records of which 'used' are used, and ops that are open; and how many are used. -/
def replayGo : List Op3 → Nat → Nat → List (List UInt8) → List (List Op3) × Nat
  | _, _, used, [] => ([], used)
  | now, i, used, p :: ps => match kindB now.length p with
    | .op o => replayGo (now ++ [o]) (i + 1) used ps
    | .fin => (now :: (replayGo [] (i + 1) (i + 1) ps).1, (replayGo [] (i + 1) (i + 1) ps).2)
    | .bad => ([], used)
def replayB (ps : List (List UInt8)) : List (List Op3) × Nat := replayGo [] 0 0 ps

theorem replayGo_op (now : List Op3) (i used : Nat) (p : List UInt8) (ps : List (List UInt8)) {o : Op3} (h : kindB now.length p = .op o) : replayGo now i used (p :: ps) = replayGo (now ++ [o]) (i + 1) used ps := by
  conv => lhs; unfold replayGo
  rw [h]
theorem replayGo_fin (now : List Op3) (i used : Nat) (p : List UInt8) (ps : List (List UInt8)) (h : kindB now.length p = .fin) :
    replayGo now i used (p :: ps) = (now :: (replayGo [] (i + 1) (i + 1) ps).1, (replayGo [] (i + 1) (i + 1) ps).2) := by
  conv => lhs; unfold replayGo
  rw [h]
theorem replayGo_bad (now : List Op3) (i used : Nat) (p : List UInt8) (ps : List (List UInt8)) (h : kindB now.length p = .bad) : replayGo now i used (p :: ps) = ([], used) := by
  conv => lhs; unfold replayGo
  rw [h]

/-- Ops that may be written: their texts are short. -/
def SmallO (l : List Op3) : Prop := ∀ o ∈ l, o.k.size + o.v.size ≤ 1000000
theorem recO_length (o : Op3) : (recO o).length ≤ 13 + o.k.size + o.v.size := by
  unfold recO
  split
  · rw [List.length_cons, encL_length]; simp; omega
  · rw [List.length_cons, encL_length]; simp; omega
theorem recE_length {n : Nat} (h : n < 10000) : (recE n).length ≤ 13 := by
  unfold recE
  have := digitsB_size_le h
  rw [List.length_cons, encL_length]; simp; omega
theorem recsO_small {l : List Op3} (h : SmallO l) (hr : l.length ≤ 1000) : ∀ p ∈ recsO l, p.length ≤ 1048576 := by
  intro p hp
  unfold recsO at hp
  rcases List.mem_append.1 hp with hp | hp
  · obtain ⟨o, ho, rfl⟩ := List.mem_map.1 hp
    have := recO_length o
    have := h o ho
    omega
  · rw [List.mem_singleton] at hp
    subst hp
    have := recE_length (n := l.length) (by omega)
    omega
theorem dec_one (a : ByteArray) (h : a.size < 4294967296) : decL (encL [a]) = some [a] :=
  decL_encL _ (by show 1 < 4294967296; omega) (fun s hs => by rw [List.mem_singleton] at hs; subst hs; exact h)
theorem dec_two (a b : ByteArray) (h : a.size < 4294967296) (h2 : b.size < 4294967296) : decL (encL [a, b]) = some [a, b] :=
  decL_encL _ (by show 2 < 4294967296; omega) (fun s hs => by
    rcases List.mem_cons.1 hs with rfl | hs
    · exact h
    · rw [List.mem_singleton] at hs; subst hs; exact h2)
theorem kind_recO (now : Nat) {o : Op3} (h : o.del = true → o.v = ⟨#[]⟩) (hs : o.k.size + o.v.size ≤ 1000000) : kindB now (recO o) = .op o := by
  obtain ⟨d, k, v⟩ := o
  cases d with
  | true =>
    have hv : v = ⟨#[]⟩ := h rfl
    subst hv
    show kindT now 100 (decL (encL [k])) = _
    rw [dec_one k (by simp only at hs; omega)]
    rfl
  | false =>
    show kindT now 112 (decL (encL [k, v])) = _
    simp only at hs
    rw [dec_two k v (by omega) (by omega)]
    rfl
theorem kind_recE (n : Nat) (h : n < 10000) : kindB n (recE n) = .fin := by
  have h1 := digitsB_size_le h
  show kindT n 99 (decL (encL [digitsB n])) = _
  rw [dec_one _ (by omega)]
  simp [kindT]
theorem replayGo_ops (l : List Op3) (h : ∀ o ∈ l, (o.del = true → o.v = ⟨#[]⟩) ∧ o.k.size + o.v.size ≤ 1000000) : ∀ (now : List Op3) (i used : Nat) (ps : List (List UInt8)),
    replayGo now i used (l.map recO ++ ps) = replayGo (now ++ l) (i + l.length) used ps := by
  induction l with
  | nil => intro now i used ps; simp
  | cons o l ih =>
    intro now i used ps
    obtain ⟨h1, h2⟩ := h o (List.mem_cons_self ..)
    show replayGo now i used (recO o :: (l.map recO ++ ps)) = _
    rw [replayGo_op _ _ _ _ _ (kind_recO _ h1 h2), ih (fun x hx => h x (List.mem_cons_of_mem _ hx)), List.append_assoc, List.length_cons]
    congr 1
    omega
theorem replayGo_batch (l : List Op3) (hr : rightO l) (hs : SmallO l) (i used : Nat) (ps : List (List UInt8)) :
    replayGo [] i used (recsO l ++ ps) = (l :: (replayGo [] (i + l.length + 1) (i + l.length + 1) ps).1, (replayGo [] (i + l.length + 1) (i + l.length + 1) ps).2) := by
  unfold recsO
  rw [List.append_assoc, replayGo_ops l (fun o ho => ⟨hr.2 o ho, hs o ho⟩), List.nil_append]
  show replayGo l (i + l.length) used (recE l.length :: ps) = _
  exact replayGo_fin _ _ _ _ _ (kind_recE _ (by have := hr.1; omega))
/-- Batches one behind the other are told, all of them; what stands behind them is told as if it stood alone. -/
theorem replayGo_batches (ls : List (List Op3)) (h : ∀ l ∈ ls, rightO l ∧ SmallO l) : ∀ (i used : Nat) (ps : List (List UInt8)), ∃ j u, (ls = [] → j = i ∧ u = used) ∧ (ls ≠ [] → j = i + (ls.map fun l => l.length + 1).sum ∧ u = j) ∧
    replayGo [] i used (ls.flatMap recsO ++ ps) = (ls ++ (replayGo [] j u ps).1, (replayGo [] j u ps).2) := by
  induction ls with
  | nil => intro i used ps; exact ⟨i, used, fun _ => ⟨rfl, rfl⟩, fun h => absurd rfl h, rfl⟩
  | cons l ls ih =>
    intro i used ps
    obtain ⟨h1, h2⟩ := h l (List.mem_cons_self ..)
    obtain ⟨j, u, he, hn, hq⟩ := ih (fun x hx => h x (List.mem_cons_of_mem _ hx)) (i + l.length + 1) (i + l.length + 1) ps
    refine ⟨j, u, (fun h => by cases h), (fun _ => ?_), ?_⟩
    · by_cases hl : ls = []
      · obtain ⟨rfl, rfl⟩ := he hl
        subst hl
        refine ⟨?_, rfl⟩
        simp only [List.map_cons, List.map_nil, List.sum_cons, List.sum_nil]
        omega
      · obtain ⟨h1, h2⟩ := hn hl
        rw [List.map_cons, List.sum_cons]
        exact ⟨by omega, h2⟩
    · rw [List.flatMap_cons, List.append_assoc, replayGo_batch l h1 h2, hq]
      rfl
end Go.Proofs.YtaldneffhbgepaaDoor

