/- What a key hangs on, as texts; two are alike just where all that is shown is alike (plain). -/
import Derived.Test.YtdmdiokfpbmnaaaDoorConvR
namespace Go.Proofs.YtdmdiokfpbmnaaaDoor

def oneB : ByteArray := ⟨#[49]⟩
def zeroB : ByteArray := ⟨#[48]⟩
def noB : ByteArray := ⟨#[]⟩
/-- What is shown, or not, as two texts. -/
def shwT (p : List UInt8) (h : Bool) : List ByteArray := if h then [oneB, strOf p] else [zeroB, noB]
theorem shwT_length (p : List UInt8) (h : Bool) : (shwT p h).length = 2 := by unfold shwT; split <;> rfl
def hasAt (H : List Bool) (j : Nat) : Bool := H.getD j false
def faceAt (F : List (List UInt8)) (j : Nat) : List UInt8 := F.getD j []
def keyUp (F : List (List UInt8)) (H : List Bool) (j : Nat) : List ByteArray := (List.range j).flatMap fun i => shwT (faceAt F i) (hasAt H i)
theorem keyUp_succ (F : List (List UInt8)) (H : List Bool) (j : Nat) : keyUp F H (j + 1) = keyUp F H j ++ shwT (faceAt F j) (hasAt H j) := by
  unfold keyUp
  rw [List.range_succ, List.flatMap_append, List.flatMap_singleton]
theorem keyUp_length (F : List (List UInt8)) (H : List Bool) (j : Nat) : (keyUp F H j).length = 2 * j := by
  induction j with
  | zero => rfl
  | succ j ih => rw [keyUp_succ, List.length_append, shwT_length, ih]; omega
def keyT (a b c : ByteArray) (F : List (List UInt8)) (H : List Bool) : List ByteArray := [a, b, c] ++ keyUp F H F.length
theorem keyT_length (a b c : ByteArray) (F : List (List UInt8)) (H : List Bool) : (keyT a b c F H).length = 3 + 2 * F.length := by
  unfold keyT
  rw [List.length_append, keyUp_length]
  simp
theorem strOf_injK {a b : List UInt8} (h : strOf a = strOf b) : a = b := strOf_inj h
theorem shwT_inj {p q : List UInt8} {h i : Bool} : shwT p h = shwT q i ↔ h = i ∧ (h = true → p = q) := by
  have hne : oneB ≠ zeroB := by decide
  unfold shwT
  cases h <;> cases i
  · simp
  · simp [Ne.symm hne]
  · simp [hne]
  · simp
    exact ⟨strOf_injK, fun e => by rw [e]⟩
/-- What is shown of the imports before k is alike. -/
def alikeUp (F G : List (List UInt8)) (H I : List Bool) (k : Nat) : Prop := ∀ i, i < k → hasAt H i = hasAt I i ∧ (hasAt H i = true → faceAt F i = faceAt G i)
instance (F G : List (List UInt8)) (H I : List Bool) (k : Nat) : Decidable (alikeUp F G H I k) := by unfold alikeUp; exact inferInstance
theorem alikeUp_succ (F G : List (List UInt8)) (H I : List Bool) (k : Nat) : alikeUp F G H I (k + 1) ↔ alikeUp F G H I k ∧ hasAt H k = hasAt I k ∧ (hasAt H k = true → faceAt F k = faceAt G k) := by
  constructor
  · intro h
    exact ⟨fun i hi => h i (by omega), h k (by omega)⟩
  · rintro ⟨h, h2⟩ i hi
    by_cases hk : i = k
    · subst hk; exact h2
    · exact h i (by omega)
theorem keyUp_inj (F G : List (List UInt8)) (H I : List Bool) (k : Nat) : keyUp F H k = keyUp G I k ↔ alikeUp F G H I k := by
  induction k with
  | zero => exact ⟨fun _ i hi => absurd hi (Nat.not_lt_zero _), fun _ => rfl⟩
  | succ k ih =>
    rw [keyUp_succ, keyUp_succ, alikeUp_succ, ← ih]
    constructor
    · intro h
      obtain ⟨h1, h2⟩ := List.append_inj h (by rw [keyUp_length, keyUp_length])
      exact ⟨h1, shwT_inj.1 h2⟩
    · rintro ⟨h1, h2⟩
      rw [h1, shwT_inj.2 h2]
/-- All that a key hangs on is alike. -/
def keyAlike (a b c a' b' c' : ByteArray) (F G : List (List UInt8)) (H I : List Bool) : Prop :=
  (F.length = G.length ∧ a = a' ∧ b = b' ∧ c = c') ∧ alikeUp F G H I (min F.length G.length)
instance (a b c a' b' c' : ByteArray) (F G : List (List UInt8)) (H I : List Bool) : Decidable (keyAlike a b c a' b' c' F G H I) := by unfold keyAlike; exact inferInstance
theorem keyT_inj (a b c a' b' c' : ByteArray) (F G : List (List UInt8)) (H I : List Bool) : keyT a b c F H = keyT a' b' c' G I ↔ keyAlike a b c a' b' c' F G H I := by
  constructor
  · intro h
    have hl := congrArg List.length h
    rw [keyT_length, keyT_length] at hl
    have hn : F.length = G.length := by omega
    unfold keyT at h
    obtain ⟨h1, h2⟩ := List.append_inj h rfl
    simp only [List.cons.injEq, and_true] at h1
    rw [← hn] at h2
    refine ⟨⟨hn, h1⟩, ?_⟩
    rw [← hn, Nat.min_self]
    exact (keyUp_inj _ _ _ _ _).1 h2
  · rintro ⟨⟨hn, rfl, rfl, rfl⟩, h⟩
    rw [← hn, Nat.min_self] at h
    unfold keyT
    rw [← hn, (keyUp_inj _ _ _ _ _).2 h]
/-- Texts that are short enough. -/
def ShortF (F : List (List UInt8)) : Prop := F.length ≤ 3000 ∧ ∀ p ∈ F, p.length ≤ 3000
theorem ShortF.at {F : List (List UInt8)} (h : ShortF F) (j : Nat) : (faceAt F j).length ≤ 3000 := by
  unfold faceAt
  by_cases hj : j < F.length
  · rw [List.getD_eq_getElem?_getD, List.getElem?_eq_getElem hj]
    exact h.2 _ (List.getElem_mem _)
  · rw [List.getD_eq_getElem?_getD, List.getElem?_eq_none (by omega)]
    simp
theorem keyUp_short {F : List (List UInt8)} (h : ShortF F) (H : List Bool) (j : Nat) : ∀ s ∈ keyUp F H j, s.size ≤ 3000 := by
  intro s hs
  unfold keyUp at hs
  obtain ⟨i, _, hs⟩ := List.mem_flatMap.1 hs
  unfold shwT at hs
  split at hs
  · simp only [List.mem_cons, List.not_mem_nil, or_false] at hs
    rcases hs with rfl | rfl
    · decide
    · rw [strOf_size]; exact h.at i
  · simp only [List.mem_cons, List.not_mem_nil, or_false] at hs
    rcases hs with rfl | rfl <;> decide
theorem keyT_short {a b c : ByteArray} {F : List (List UInt8)} (ha : a.size ≤ 3000) (hb : b.size ≤ 3000) (hc : c.size ≤ 3000) (h : ShortF F) (H : List Bool) : ∀ s ∈ keyT a b c F H, s.size ≤ 3000 := by
  intro s hs
  unfold keyT at hs
  rcases List.mem_append.1 hs with hs | hs
  · simp only [List.mem_cons, List.not_mem_nil, or_false] at hs
    rcases hs with rfl | rfl | rfl <;> assumption
  · exact keyUp_short h H _ s hs
theorem encL_short {t : List ByteArray} (n k : Nat) (hn : t.length ≤ n) (h : ∀ s ∈ t, s.size ≤ k) : (encL t).length ≤ 4 + n * (4 + k) := by
  have h2 : ∀ t : List ByteArray, (∀ s ∈ t, s.size ≤ k) → (t.map fun s => 4 + s.size).sum ≤ t.length * (4 + k) := by
    intro t
    induction t with
    | nil => intro _; simp
    | cons s t ih =>
      intro hs
      have k1 := hs s (List.mem_cons_self ..)
      have k2 := ih (fun q hq => hs q (List.mem_cons_of_mem _ hq))
      rw [List.map_cons, List.sum_cons, List.length_cons, Nat.succ_mul]
      omega
  have h3 := h2 t h
  have h4 : t.length * (4 + k) ≤ n * (4 + k) := Nat.mul_le_mul_right _ hn
  rw [encL_length]
  omega
theorem keyT_enc {a b c : ByteArray} {F : List (List UInt8)} (ha : a.size ≤ 3000) (hb : b.size ≤ 3000) (hc : c.size ≤ 3000) (h : ShortF F) (H : List Bool) : (encL (keyT a b c F H)).length ≤ 70368744177664 := by
  have := encL_short (t := keyT a b c F H) 6003 3000 (by rw [keyT_length]; have := h.1; omega) (keyT_short ha hb hc h H)
  omega
theorem keyE_inj {a b c a' b' c' : ByteArray} {F G : List (List UInt8)} {H I : List Bool} (ha : a.size ≤ 3000) (hb : b.size ≤ 3000) (hc : c.size ≤ 3000) (h : ShortF F) (ha' : a'.size ≤ 3000) (hb' : b'.size ≤ 3000) (hc' : c'.size ≤ 3000) (h' : ShortF G) :
    decide (strOf (encL (keyT a b c F H)) = strOf (encL (keyT a' b' c' G I))) = decide (keyAlike a b c a' b' c' F G H I) := by
  have k1 := keyT_short ha hb hc h H
  have k2 := keyT_short ha' hb' hc' h' I
  have m1 := keyT_length a b c F H
  have m2 := keyT_length a' b' c' G I
  have n1 := h.1
  have n2 := h'.1
  apply decide_eq_decide.2
  rw [← keyT_inj]
  exact ⟨fun e => encL_inj (by omega) (fun s hs => by have := k1 s hs; omega) (by omega) (fun s hs => by have := k2 s hs; omega) (strOf_injK e), fun e => by rw [e]⟩
/-- Alike so far: the texts. -/
def strUp (e : Bool) (a b : List ByteArray) (k : Nat) : Bool := e && decide (a.take k = b.take k)
theorem strUp_zero (e : Bool) (a b : List ByteArray) : strUp e a b 0 = e := by unfold strUp; simp
theorem strUp_succ (e : Bool) (a b : List ByteArray) (k : Nat) (ha : k < a.length) (hb : k < b.length) : strUp e a b (k + 1) = (strUp e a b k && decide (a[k] = b[k])) := by
  unfold strUp
  rw [List.take_succ_eq_append_getElem ha, List.take_succ_eq_append_getElem hb, Bool.and_assoc]
  congr 1
  rw [← Bool.decide_and, decide_eq_decide]
  constructor
  · intro h
    obtain ⟨h1, h2⟩ := List.append_inj h (by rw [List.length_take, List.length_take]; omega)
    exact ⟨h1, by simpa using h2⟩
  · rintro ⟨h1, h2⟩
    rw [h1, h2]
/-- Alike so far: what is shown of the imports. -/
def sameUp (e : Bool) (F G : List (List UInt8)) (H I : List Bool) (k : Nat) : Bool := e && decide (alikeUp F G H I k)
theorem sameUp_zero (e : Bool) (F G : List (List UInt8)) (H I : List Bool) : sameUp e F G H I 0 = e := by
  unfold sameUp
  have h0 : alikeUp F G H I 0 := fun i hi => absurd hi (Nat.not_lt_zero _)
  rw [decide_eq_true h0, Bool.and_true]
theorem sameUp_succ (e : Bool) (F G : List (List UInt8)) (H I : List Bool) (k : Nat) :
    sameUp e F G H I (k + 1) = (sameUp e F G H I k && ((hasAt H k == hasAt I k) && (!hasAt H k || decide (strOf (faceAt F k) = strOf (faceAt G k))))) := by
  unfold sameUp
  rw [Bool.and_assoc]
  congr 1
  have e1 : (hasAt H k == hasAt I k) = decide (hasAt H k = hasAt I k) := rfl
  have e2 : (!hasAt H k || decide (strOf (faceAt F k) = strOf (faceAt G k))) = decide (hasAt H k = true → faceAt F k = faceAt G k) := by
    cases hasAt H k
    · simp
    · simp
      exact ⟨strOf_injK, fun e => by rw [e]⟩
  rw [e1, e2, ← Bool.decide_and, ← Bool.decide_and, decide_eq_decide]
  exact alikeUp_succ F G H I k
theorem same_all {a b : List ByteArray} {F G : List (List UInt8)} {H I : List Bool} (ha : a.length = 3) (hb : b.length = 3) :
    sameUp (strUp (decide (F.length = G.length)) a b 3) F G H I (min F.length G.length) = decide (keyAlike a[0] a[1] a[2] b[0] b[1] b[2] F G H I) := by
  match a, ha, b, hb with
  | [a0, a1, a2], _, [b0, b1, b2], _ =>
    unfold sameUp strUp keyAlike
    rw [← Bool.decide_and, ← Bool.decide_and]
    refine decide_eq_decide.2 ?_
    simp
end Go.Proofs.YtdmdiokfpbmnaaaDoor

