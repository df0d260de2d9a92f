/- The document's way to read diagnostics: the same (plain). -/
import Derived.Test.YtdmdiokfpbmnaaaDoorDgP
import Derived.Test.YtdmdiokfpbmnaaaDoorDgW
namespace Go.Proofs.YtdmdiokfpbmnaaaDoor

/-- A number's digits, as far as an int goes. -/
def bigO : Nat → List UInt8 → Option Nat
  | n, [] => some n
  | n, c :: r => if c.toNat < 48 ∨ 57 < c.toNat ∨ (9223372036854775807 - (c.toNat - 48)) / 10 < n then none else bigO (10 * n + (c.toNat - 48)) r
def bigV (l : List UInt8) : Nat := (bigO 0 l).getD 0
theorem bigO_cons (n : Nat) (c : UInt8) (r : List UInt8) : bigO n (c :: r) = if c.toNat < 48 ∨ 57 < c.toNat ∨ (9223372036854775807 - (c.toNat - 48)) / 10 < n then none else bigO (10 * n + (c.toNat - 48)) r := rfl
theorem bigO_app : ∀ (a b : List UInt8) (k : Nat), bigO k (a ++ b) = (bigO k a).bind fun v => bigO v b
  | [], b, k => rfl
  | x :: a, b, k => by
    rw [List.cons_append, bigO_cons, bigO_cons]
    split
    · rfl
    · exact bigO_app a b _
theorem bigO_le : ∀ (l : List UInt8) (n m : Nat), n ≤ 9223372036854775807 → bigO n l = some m → m ≤ 9223372036854775807
  | [], n, m, hn, h => by cases h; exact hn
  | c :: r, n, m, hn, h => by
    unfold bigO at h
    split at h
    · cases h
    · rename_i hc
      exact bigO_le r _ m (by omega) h
theorem bigV_le (l : List UInt8) : bigV l ≤ 9223372036854775807 := by
  unfold bigV
  cases h : bigO 0 l with
  | none => exact Nat.zero_le _
  | some m => exact bigO_le l 0 m (Nat.zero_le _) h
theorem bigO_digits (u : Nat) (h : u ≤ 9223372036854775807) : bigO 0 (Lib.decDigits u) = some u := by
  induction u using Nat.strongRecOn with
  | _ u ih =>
    by_cases h10 : u < 10
    · rw [Lib.decDigits_one h10]
      unfold bigO
      rw [ofNat_dig h10, if_neg (by omega)]
      unfold bigO
      congr 1
      omega
    · have hd := ofNat_dig (Nat.mod_lt u (show 0 < 10 by omega))
      rw [Lib.decDigits, dif_neg h10, bigO_app, ih (u / 10) (by omega) (by omega), Option.bind_some]
      unfold bigO
      rw [hd, if_neg (by omega)]
      unfold bigO
      congr 1
      omega
theorem bigV_digs {z : Int} (h : Int64 z) : (bigV (digs z).data.toList : Int) = max z 0 := by
  unfold Int64 at h
  unfold bigV
  rw [digs_data, bigO_digits _ (by omega)]
  show (((max z 0).toNat : Nat) : Int) = _
  omega
def quadB : List ByteArray → List Dg
  | m :: a :: c :: n :: r => ⟨m, bigV a.data.toList, bigV c.data.toList, n⟩ :: quadB r
  | _ => []
theorem big64 (l : List UInt8) : Int64 (bigV l : Int) := by
  have := bigV_le l
  unfold Int64
  omega
theorem digs_big (a : ByteArray) : digs (bigV a.data.toList : Int) = a ↔ digs (atoiV a.data.toList) = a := by
  constructor
  · intro h
    have h1 := atoiV_digs (big64 a.data.toList)
    rw [h] at h1
    rw [h1, Int.max_eq_left (by omega)]
    exact h
  · intro h
    have h1 := bigV_digs (atoiV_range a.data.toList)
    rw [h] at h1
    rw [h1]
    unfold digs at h ⊢
    rw [show max (max (atoiV a.data.toList) 0) 0 = max (atoiV a.data.toList) 0 by omega]
    exact h
theorem digs_val {a : ByteArray} (h : digs (atoiV a.data.toList) = a) : (bigV a.data.toList : Int) = atoiV a.data.toList := by
  have h1 := bigV_digs (atoiV_range a.data.toList)
  rw [h] at h1
  have h2 := atoiV_digs (big64 a.data.toList)
  rw [(digs_big a).2 h] at h2
  omega
theorem quad_same : ∀ (t : List ByteArray), t.length % 4 = 0 → quadUp t = if diagT (quadB t) = t then some (quadB t) else none
  | [], _ => rfl
  | [_], h => by simp at h
  | [_, _], h => by simp at h
  | [_, _, _], h => by simp at h
  | m :: a :: c :: n :: r, h => by
    have ih := quad_same r (by simp only [List.length_cons] at h; omega)
    have e : diagT (quadB (m :: a :: c :: n :: r)) = m :: digs (bigV a.data.toList : Int) :: digs (bigV c.data.toList : Int) :: n :: diagT (quadB r) := rfl
    rw [e]
    unfold quadUp
    by_cases h1 : digs (atoiV a.data.toList) = a ∧ digs (atoiV c.data.toList) = c
    · rw [if_pos h1, (digs_big a).2 h1.1, (digs_big c).2 h1.2, ih]
      have e2 : quadB (m :: a :: c :: n :: r) = ⟨m, atoiV a.data.toList, atoiV c.data.toList, n⟩ :: quadB r := by
        show _ :: _ = _ :: _
        rw [digs_val h1.1, digs_val h1.2]
      rw [e2]
      by_cases h2 : diagT (quadB r) = r
      · rw [if_pos h2, if_pos (by rw [h2])]
        rfl
      · rw [if_neg h2, if_neg (fun e3 => h2 (by simpa using e3))]
        rfl
    · rw [if_neg h1, if_neg]
      intro e3
      simp only [List.cons.injEq] at e3
      exact h1 ⟨(digs_big a).1 e3.2.1, (digs_big c).1 e3.2.2.1⟩
theorem quadB_ok : ∀ (t : List ByteArray), ∀ d ∈ quadB t, OkD d ∧ 0 ≤ d.a ∧ 0 ≤ d.c
  | [], d, hd => by cases hd
  | [_], d, hd => by cases hd
  | [_, _], d, hd => by cases hd
  | [_, _, _], d, hd => by cases hd
  | m :: a :: c :: n :: r, d, hd => by
    have hd2 : d ∈ (⟨m, bigV a.data.toList, bigV c.data.toList, n⟩ : Dg) :: quadB r := hd
    rcases List.mem_cons.1 hd2 with rfl | hd2
    · exact ⟨⟨big64 _, big64 _⟩, Int.natCast_nonneg _, Int.natCast_nonneg _⟩
    · exact quadB_ok r d hd2
theorem get4_back {r : List UInt8} {k : Nat} (h : get4 r = some k) : r = u32 k ++ r.drop 4 := by
  match r, h with
  | b0 :: b1 :: b2 :: b3 :: r, h =>
    unfold get4 at h
    injection h with h
    have h0 := b0.toNat_lt
    have h1 := b1.toNat_lt
    have h2 := b2.toNat_lt
    have h3 := b3.toNat_lt
    have ext : ∀ (x : UInt8) (n : Nat), x.toNat = n % 256 → x = UInt8.ofNat n := fun x n e => UInt8.toNat_inj.1 (by rw [UInt8.toNat_ofNat', e])
    show _ = [UInt8.ofNat (k / 16777216), UInt8.ofNat (k / 65536), UInt8.ofNat (k / 256), UInt8.ofNat k] ++ r
    rw [← ext b0 (k / 16777216) (by omega), ← ext b1 (k / 65536) (by omega), ← ext b2 (k / 256) (by omega), ← ext b3 k (by omega)]
    rfl
theorem decGo_back : ∀ (n : Nat) (r : List UInt8) (l : List ByteArray), decGo n r = some l → r = l.flatMap encS
  | 0, r, l, h => by
    rw [decGo_end] at h
    split at h
    · cases h; assumption
    · cases h
  | n + 1, r, l, h => by
    cases h4 : get4 r with
    | none => rw [decGo_no h4] at h; cases h
    | some k =>
      by_cases hk : k + 4 ≤ r.length
      · rw [decGo_step h4 hk] at h
        cases hq : decGo n (r.drop (4 + k)) with
        | none => rw [hq] at h; cases h
        | some l2 =>
          rw [hq] at h
          cases h
          have ih := decGo_back n _ l2 hq
          have h5 := get4_back h4
          rw [List.flatMap_cons, ← ih]
          unfold encS
          rw [strOf_size, data_strOf, List.length_take, List.length_drop, Nat.min_eq_left (by omega), ← List.drop_drop, List.append_assoc, List.take_append_drop]
          exact h5
      · rw [decGo_long h4 (by omega)] at h; cases h
theorem encL_decL {b : List UInt8} {t : List ByteArray} (h : decL b = some t) : encL t = b := by
  unfold decL at h
  cases h4 : get4 b with
  | none => rw [h4] at h; cases h
  | some n =>
    rw [h4] at h
    have h1 := decGo_back _ _ _ h
    have h2 := (decGo_len _ _ _ h).1
    have h3 := get4_back h4
    unfold encL
    rw [h2, ← h1]
    exact h3.symm
/-- What the document's Decode tells. -/
def rdecDg (b : List UInt8) : Option (List Dg) := (decL b).bind fun t => if t.length % 4 = 0 ∧ encL (diagT (quadB t)) = b then some (quadB t) else none
theorem diagT_size {l : List Dg} (h : ∀ d ∈ l, OkD d ∧ d.m.size ≤ 1073741824 ∧ d.n.size ≤ 1073741824) : ∀ s ∈ diagT l, s.size ≤ 1073741824 := by
  intro s hs
  unfold diagT at hs
  obtain ⟨d, hd, hs⟩ := List.mem_flatMap.1 hs
  obtain ⟨⟨k1, k2⟩, k3, k4⟩ := h d hd
  simp only [List.mem_cons, List.not_mem_nil, or_false] at hs
  have d1 := digs_size k1
  have d2 := digs_size k2
  rcases hs with rfl | rfl | rfl | rfl <;> omega
theorem quadB_size : ∀ (t : List ByteArray) (k : Nat), (∀ s ∈ t, s.size ≤ k) → (∀ d ∈ quadB t, d.m.size ≤ k ∧ d.n.size ≤ k) ∧ 4 * (quadB t).length ≤ t.length
  | [], k, _ => ⟨(fun d hd => by cases hd), Nat.le_refl _⟩
  | [_], k, _ => ⟨(fun d hd => by cases hd), Nat.zero_le _⟩
  | [_, _], k, _ => ⟨(fun d hd => by cases hd), Nat.zero_le _⟩
  | [_, _, _], k, _ => ⟨(fun d hd => by cases hd), Nat.zero_le _⟩
  | m :: a :: c :: n :: r, k, h => by
    have ih := quadB_size r k (fun s hs => h s (by simp [hs]))
    have e : quadB (m :: a :: c :: n :: r) = ⟨m, bigV a.data.toList, bigV c.data.toList, n⟩ :: quadB r := rfl
    rw [e]
    refine ⟨fun d hd => ?_, by simp only [List.length_cons]; omega⟩
    rcases List.mem_cons.1 hd with rfl | hd
    · exact ⟨h m (by simp), h n (by simp)⟩
    · exact ih.1 d hd
theorem rdec_same {b : List UInt8} (hb : b.length ≤ 1073741824) : rdecDg b = decDg b := by
  unfold rdecDg decDg
  cases h : decL b with
  | none => rfl
  | some t =>
    show (if _ then _ else _) = quadUp t
    by_cases h4 : t.length % 4 = 0
    · rw [quad_same t h4]
      have hsz := decL_size h
      have hq := quadB_size t 1073741824 (fun s hs => by have := hsz.1 s hs; omega)
      have e : encL (diagT (quadB t)) = b ↔ diagT (quadB t) = t := by
        rw [← encL_decL h]
        constructor
        · intro e
          have hs := diagT_size (l := quadB t) (fun d hd => ⟨(quadB_ok t d hd).1, hq.1 d hd⟩)
          exact encL_inj (by rw [diagT_length]; omega) (fun s hs' => by have := hs s hs'; omega) (by omega) (fun s hs' => by have := hsz.1 s hs'; omega) e
        · intro e; rw [e]
      by_cases h5 : diagT (quadB t) = t
      · rw [if_pos ⟨h4, e.2 h5⟩, if_pos h5]
      · rw [if_neg (fun h6 => h5 (e.1 h6.2)), if_neg h5]
    · rw [if_neg (fun h6 => h4 h6.1), quadUp_short t h4]
end Go.Proofs.YtdmdiokfpbmnaaaDoor

