/- Sums, records one behind the other, in plain words. No program stands here. -/
import Derived.Test.YtfbnkbdolimojaaBytes
namespace Go.Proofs.Ytfbnkbdolimojaa

def crcBit (c : Nat) : Nat := if c % 2 = 1 then (c / 2) ^^^ 3988292384 else c / 2
def crcBits : Nat → Nat → Nat
  | 0, c => c
  | n + 1, c => crcBit (crcBits n c)
def crcByte (c : Nat) (x : UInt8) : Nat := crcBits 8 (c ^^^ x.toNat)
def crcFrom (c : Nat) (b : List UInt8) : Nat := b.foldl crcByte c
def crcB (b : List UInt8) : Nat := crcFrom 4294967295 b ^^^ 4294967295
theorem crcBit_lt {c : Nat} (h : c < 4294967296) : crcBit c < 4294967296 := by
  unfold crcBit
  have h2 : c / 2 < 2 ^ 32 := by omega
  split
  · exact Nat.xor_lt_two_pow h2 (by decide)
  · exact h2
theorem crcBits_lt (n : Nat) {c : Nat} (h : c < 4294967296) : crcBits n c < 4294967296 := by
  induction n with
  | zero => exact h
  | succ n ih => exact crcBit_lt ih
theorem crcByte_lt {c : Nat} (h : c < 4294967296) (x : UInt8) : crcByte c x < 4294967296 :=
  crcBits_lt _ (Nat.xor_lt_two_pow (n := 32) h (by have := x.toNat_lt; omega))
theorem crcFrom_lt (b : List UInt8) : ∀ {c : Nat}, c < 4294967296 → crcFrom c b < 4294967296 := by
  induction b with
  | nil => intro c h; exact h
  | cons x b ih => intro c h; exact ih (crcByte_lt h x)
theorem crcB_lt (b : List UInt8) : crcB b < 4294967296 := Nat.xor_lt_two_pow (n := 32) (crcFrom_lt b (by decide)) (by decide)
theorem crcFrom_snoc (c : Nat) (b : List UInt8) (x : UInt8) : crcFrom c (b ++ [x]) = crcByte (crcFrom c b) x := by unfold crcFrom; rw [List.foldl_append]; rfl

/-- A record. -/
def frameB (p : List UInt8) : List UInt8 := u32 p.length ++ (u32 (crcB p) ++ p)
theorem frameB_length (p : List UInt8) : (frameB p).length = 8 + p.length := by unfold frameB; rw [List.length_append, List.length_append, u32_length, u32_length]; omega
/-- What the first record of bytes holds, where they begin with one. -/
def scan1 (b : List UInt8) : Option (List UInt8) := match get4 b with
  | none => none
  | some n => match get4 (b.drop 4) with
    | none => none
    | some s => if n ≤ 1048576 ∧ n + 8 ≤ b.length ∧ crcB ((b.drop 8).take n) = s then some ((b.drop 8).take n) else none
theorem scan1_len {b p : List UInt8} (h : scan1 b = some p) : 8 + p.length ≤ b.length ∧ p.length ≤ 1048576 ∧ get4 b = some p.length ∧ p = (b.drop 8).take p.length := by
  unfold scan1 at h
  cases h1 : get4 b with
  | none => simp [h1] at h
  | some n =>
    cases h2 : get4 (b.drop 4) with
    | none => simp [h1, h2] at h
    | some s =>
      simp only [h1, h2] at h
      split at h
      · rename_i hc
        injection h with h
        have hl : p.length = n := by rw [← h, List.length_take, List.length_drop]; omega
        subst hl
        exact ⟨by omega, hc.1, rfl, h.symm⟩
      · cases h
def scanF : Nat → List UInt8 → List (List UInt8)
  | 0, _ => []
  | k + 1, b => match scan1 b with
    | none => []
    | some p => p :: scanF k (b.drop (8 + p.length))
/-- The records that bytes begin with. -/
def scanB (b : List UInt8) : List (List UInt8) := scanF b.length b
/-- How many bytes records have. -/
def goodOf (ps : List (List UInt8)) : Nat := (ps.map fun p => 8 + p.length).sum
theorem scanF_enough : ∀ (k j : Nat) (b : List UInt8), b.length ≤ k → b.length ≤ j → scanF k b = scanF j b := by
  intro k
  induction k with
  | zero =>
    intro j b hk hj
    obtain rfl : b = [] := List.eq_nil_of_length_eq_zero (by omega)
    cases j with
    | zero => rfl
    | succ j => rfl
  | succ k ih =>
    intro j b hk hj
    cases j with
    | zero =>
      obtain rfl : b = [] := List.eq_nil_of_length_eq_zero (by omega)
      rfl
    | succ j =>
      unfold scanF
      cases h : scan1 b with
      | none => rfl
      | some p =>
        obtain ⟨h1, _⟩ := scan1_len h
        simp only
        rw [ih j _ (by rw [List.length_drop]; omega) (by rw [List.length_drop]; omega)]
theorem scanB_none {b : List UInt8} (h : scan1 b = none) : scanB b = [] := by
  unfold scanB
  cases hb : b.length with
  | zero => rfl
  | succ k => unfold scanF; rw [h]
theorem scanB_some {b p : List UInt8} (h : scan1 b = some p) : scanB b = p :: scanB (b.drop (8 + p.length)) := by
  obtain ⟨h1, _⟩ := scan1_len h
  unfold scanB
  cases hb : b.length with
  | zero => omega
  | succ k =>
    conv => lhs; unfold scanF
    rw [h]
    simp only
    rw [scanF_enough k _ _ (by rw [List.length_drop]; omega) (Nat.le_refl _)]
theorem scanB_good (b : List UInt8) : goodOf (scanB b) ≤ b.length := by
  have : ∀ (k : Nat) (b : List UInt8), b.length ≤ k → goodOf (scanB b) ≤ b.length := by
    intro k
    induction k with
    | zero =>
      intro b hb
      obtain rfl : b = [] := List.eq_nil_of_length_eq_zero (by omega)
      exact Nat.le_refl _
    | succ k ih =>
      intro b hb
      cases h : scan1 b with
      | none => rw [scanB_none h]; exact Nat.zero_le _
      | some p =>
        obtain ⟨h1, _⟩ := scan1_len h
        rw [scanB_some h]
        have := ih (b.drop (8 + p.length)) (by rw [List.length_drop]; omega)
        rw [List.length_drop] at this
        show (8 + p.length) + goodOf _ ≤ _
        omega
  exact this _ b (Nat.le_refl _)
theorem scan1_frame (p r : List UInt8) (h : p.length ≤ 1048576) : scan1 (frameB p ++ r) = some p := by
  have e : frameB p ++ r = u32 p.length ++ (u32 (crcB p) ++ (p ++ r)) := by unfold frameB; simp only [List.append_assoc]
  have e8 : (frameB p ++ r).drop 8 = p ++ r := by
    rw [e, ← List.append_assoc]
    exact List.drop_left' rfl
  unfold scan1
  rw [e8]
  rw [e, get4_u32 _ (by omega), List.drop_left' (u32_length _), get4_u32 _ (crcB_lt p)]
  simp only
  rw [List.take_left' rfl, if_pos ⟨h, by simp [u32_length]; omega, rfl⟩]
theorem scan1_cut (p : List UInt8) (k : Nat) (h : p.length ≤ 1048576) (hk : k < (frameB p).length) : scan1 ((frameB p).take k) = none := by
  rw [frameB_length] at hk
  unfold scan1
  by_cases h4 : 4 ≤ k
  · rw [get4_take h4]
    have e : get4 (frameB p) = some p.length := by unfold frameB; exact get4_u32 _ (by omega) _
    rw [e]
    simp only
    cases get4 (((frameB p).take k).drop 4) with
    | none => rfl
    | some s =>
      simp only
      rw [if_neg]
      rintro ⟨_, h2, _⟩
      rw [List.length_take, frameB_length] at h2
      omega
  · rw [get4_short (by rw [List.length_take]; omega)]
def framesB (ps : List (List UInt8)) : List UInt8 := ps.flatMap frameB
theorem framesB_length (ps : List (List UInt8)) : (framesB ps).length = goodOf ps := by
  unfold framesB goodOf
  rw [List.length_flatMap]
  congr 1
  exact List.map_congr_left fun p _ => frameB_length p
theorem framesB_append (a b : List (List UInt8)) : framesB (a ++ b) = framesB a ++ framesB b := by unfold framesB; rw [List.flatMap_append]
theorem framesB_cons (p : List UInt8) (a : List (List UInt8)) : framesB (p :: a) = frameB p ++ framesB a := rfl
theorem scanB_frames (ps : List (List UInt8)) (r : List UInt8) (h : ∀ p ∈ ps, p.length ≤ 1048576) : scanB (framesB ps ++ r) = ps ++ scanB r := by
  induction ps with
  | nil => rfl
  | cons p ps ih =>
    rw [framesB_cons, List.append_assoc, scanB_some (scan1_frame p _ (h p (List.mem_cons_self ..))), ← frameB_length, List.drop_left, ih (fun q hq => h q (List.mem_cons_of_mem _ hq))]
    rfl
/-- Records cut anywhere: those whose end is there. -/
def endsIn : List (List UInt8) → Nat → Nat
  | [], _ => 0
  | p :: ps, k => if 8 + p.length ≤ k then endsIn ps (k - (8 + p.length)) + 1 else 0
theorem endsIn_le (ps : List (List UInt8)) : ∀ k, endsIn ps k ≤ ps.length := by
  induction ps with
  | nil => intro k; exact Nat.le_refl _
  | cons p ps ih =>
    intro k
    unfold endsIn
    split
    · have := ih (k - (8 + p.length)); rw [List.length_cons]; omega
    · omega
theorem scanB_cut (ps : List (List UInt8)) (h : ∀ p ∈ ps, p.length ≤ 1048576) : ∀ k, k ≤ (framesB ps).length → scanB ((framesB ps).take k) = ps.take (endsIn ps k) := by
  induction ps with
  | nil => intro k _; simp [framesB, endsIn]; rfl
  | cons p ps ih =>
    intro k hk
    have hp := h p (List.mem_cons_self ..)
    unfold endsIn
    rw [framesB_cons] at hk ⊢
    rw [List.length_append] at hk
    have hl := frameB_length p
    split
    · rename_i h1
      rw [List.take_append, List.take_of_length_le (by omega), hl]
      rw [scanB_some (scan1_frame p _ hp), ← hl, List.drop_left, hl, ih (fun q hq => h q (List.mem_cons_of_mem _ hq)) _ (by omega)]
      rfl
    · rename_i h1
      rw [List.take_append_of_le_length (by omega), scanB_none (scan1_cut p k hp (by omega))]
      rfl
end Go.Proofs.Ytfbnkbdolimojaa
