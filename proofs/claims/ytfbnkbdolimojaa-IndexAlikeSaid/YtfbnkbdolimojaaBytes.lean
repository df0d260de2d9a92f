/- Lists of texts as bytes, records, in plain words. No program stands here. -/
import Derived.Test.YtfbnkbdolimojaaConv
namespace Go.Proofs.Ytfbnkbdolimojaa

def u32 (n : Nat) : List UInt8 := [UInt8.ofNat (n / 16777216), UInt8.ofNat (n / 65536), UInt8.ofNat (n / 256), UInt8.ofNat n]
theorem u32_length (n : Nat) : (u32 n).length = 4 := rfl
def get4 : List UInt8 → Option Nat
  | b0 :: b1 :: b2 :: b3 :: _ => some (b0.toNat * 16777216 + b1.toNat * 65536 + b2.toNat * 256 + b3.toNat)
  | _ => none
theorem get4_u32 (n : Nat) (h : n < 4294967296) (r : List UInt8) : get4 (u32 n ++ r) = some n := by
  simp only [u32, get4, List.cons_append, UInt8.toNat_ofNat', Option.some.injEq]
  omega
theorem get4_short {b : List UInt8} (h : b.length < 4) : get4 b = none := by
  match b, h with
  | [], _ => rfl
  | [_], _ => rfl
  | [_, _], _ => rfl
  | [_, _, _], _ => rfl
  | _ :: _ :: _ :: _ :: _, h => simp at h; omega
theorem get4_long {b : List UInt8} (h : 4 ≤ b.length) : ∃ n, get4 b = some n ∧ n < 4294967296 := by
  match b, h with
  | [], h => simp at h
  | [_], h => simp at h
  | [_, _], h => simp at h
  | [_, _, _], h => simp at h
  | b0 :: b1 :: b2 :: b3 :: _, _ =>
    refine ⟨_, rfl, ?_⟩
    have h0 := b0.toNat_lt
    have h1 := b1.toNat_lt
    have h2 := b2.toNat_lt
    have h3 := b3.toNat_lt
    omega
theorem get4_lt {b : List UInt8} {n : Nat} (h : get4 b = some n) : 4 ≤ b.length ∧ n < 4294967296 := by
  by_cases hl : 4 ≤ b.length
  · obtain ⟨m, hm, hlt⟩ := get4_long hl
    rw [hm] at h
    injection h with h
    subst h
    exact ⟨hl, hlt⟩
  · rw [get4_short (by omega)] at h
    cases h
theorem get4_take {b : List UInt8} {k : Nat} (h : 4 ≤ k) : get4 (b.take k) = get4 b := by
  match b, k, h with
  | [], _, _ => simp
  | [_], k + 1, _ => simp
  | [_, _], k + 2, _ => simp
  | [_, _, _], k + 3, _ => simp
  | b0 :: b1 :: b2 :: b3 :: r, k + 4, _ => simp [get4]
theorem get4_at (b : List UInt8) (i : Nat) (h : i + 4 ≤ b.length) : get4 (b.drop i) = some (b[i].toNat * 16777216 + b[i + 1].toNat * 65536 + b[i + 2].toNat * 256 + b[i + 3].toNat) := by
  rw [List.drop_eq_getElem_cons (by omega), List.drop_eq_getElem_cons (by omega), List.drop_eq_getElem_cons (by omega), List.drop_eq_getElem_cons (by omega)]
  rfl

/-- A text as bytes, a list of texts as bytes. -/
def encS (s : ByteArray) : List UInt8 := u32 s.size ++ s.data.toList
def encL (l : List ByteArray) : List UInt8 := u32 l.length ++ l.flatMap encS
def decGo : Nat → List UInt8 → Option (List ByteArray)
  | 0, r => if r = [] then some [] else none
  | n + 1, r => match get4 r with
    | none => none
    | some k => if k + 4 ≤ r.length then (decGo n (r.drop (4 + k))).map (strOf ((r.drop 4).take k) :: ·) else none
def decL (b : List UInt8) : Option (List ByteArray) := match get4 b with
  | none => none
  | some n => decGo n (b.drop 4)
theorem strOf_data (s : ByteArray) : strOf s.data.toList = s := by
  cases s; simp [strOf]
theorem data_strOf (b : List UInt8) : (strOf b).data.toList = b := by simp [strOf]
theorem strOf_inj {a b : List UInt8} (h : strOf a = strOf b) : a = b := by rw [← data_strOf a, h, data_strOf]
theorem size_data (s : ByteArray) : s.data.toList.length = s.size := Array.length_toList
theorem encS_length (s : ByteArray) : (encS s).length = 4 + s.size := by unfold encS; rw [List.length_append, u32_length, size_data]
theorem decGo_enc (l : List ByteArray) (h : ∀ s ∈ l, s.size < 4294967296) : decGo l.length (l.flatMap encS) = some l := by
  induction l with
  | nil => rfl
  | cons s l ih =>
    rw [List.flatMap_cons, List.length_cons]
    unfold decGo
    have e : encS s ++ l.flatMap encS = u32 s.size ++ (s.data.toList ++ l.flatMap encS) := by rw [encS, List.append_assoc]
    rw [e, get4_u32 _ (h s (List.mem_cons_self ..))]
    simp only
    have hl : s.data.toList.length = s.size := size_data s
    rw [if_pos (by rw [List.length_append, List.length_append, u32_length, hl]; omega)]
    have e1 : (u32 s.size ++ (s.data.toList ++ l.flatMap encS)).drop (4 + s.size) = l.flatMap encS := by
      rw [← List.append_assoc]
      exact List.drop_left' (by rw [List.length_append, u32_length, hl])
    have e2 : ((u32 s.size ++ (s.data.toList ++ l.flatMap encS)).drop 4).take s.size = s.data.toList := by
      rw [List.drop_left' (u32_length _), List.take_left' hl]
    rw [e1, e2, ih (fun x hx => h x (List.mem_cons_of_mem _ hx)), strOf_data]
    rfl
theorem decL_encL (l : List ByteArray) (hl : l.length < 4294967296) (h : ∀ s ∈ l, s.size < 4294967296) : decL (encL l) = some l := by
  unfold decL encL
  rw [get4_u32 _ hl]
  simp only
  rw [List.drop_left' (u32_length _)]
  exact decGo_enc l h
theorem decGo_len : ∀ (n : Nat) (r : List UInt8) (l : List ByteArray), decGo n r = some l → l.length = n ∧ 4 * n ≤ r.length := by
  intro n
  induction n with
  | zero =>
    intro r l h
    unfold decGo at h
    split at h
    · injection h with h; subst h; exact ⟨rfl, Nat.zero_le _⟩
    · cases h
  | succ n ih =>
    intro r l h
    unfold decGo at h
    cases hg : get4 r with
    | none => simp [hg] at h
    | some k =>
      simp only [hg] at h
      split at h
      · cases hd : decGo n (r.drop (4 + k)) with
        | none => simp [hd] at h
        | some l' =>
          simp only [hd, Option.map_some, Option.some.injEq] at h
          subst h
          obtain ⟨h1, h2⟩ := ih _ _ hd
          rw [List.length_drop] at h2
          exact ⟨by simp [h1], by omega⟩
      · cases h
theorem encL_inj {a b : List ByteArray} (ha : a.length < 4294967296) (ha' : ∀ s ∈ a, s.size < 4294967296) (hb : b.length < 4294967296) (hb' : ∀ s ∈ b, s.size < 4294967296) (h : encL a = encL b) : a = b := by
  have := decL_encL a ha ha'
  rw [h, decL_encL b hb hb'] at this
  injection this with this
  exact this.symm
theorem encL_length (l : List ByteArray) : (encL l).length = 4 + (l.map fun s => 4 + s.size).sum := by
  unfold encL
  rw [List.length_append, u32_length, List.length_flatMap]
  congr 2
  exact List.map_congr_left fun s _ => encS_length s
end Go.Proofs.Ytfbnkbdolimojaa
