/- What a key hangs on, as texts; two are alike just where all that is shown is alike (plain). -/
import Derived.Test.YtkklofnabmdmfaaGreatDoorConvRQq
namespace Go.Proofs.YtkklofnabmdmfaaGreatDoor

def zeroB : ByteArray := ⟨#[48]⟩
def noB : ByteArray := ⟨#[]⟩
def hasAt (H : List Bool) (j : Nat) : Bool := H.getD j false
def faceAt (F : List (List UInt8)) (j : Nat) : List UInt8 := F.getD j []
/-- What is shown of the imports before k is alike. -/
def alikeUp (F G : List (List UInt8)) (H I : List Bool) (k : Nat) : Prop := ∀ i, i < k → hasAt H i = hasAt I i ∧ (hasAt H i = true → faceAt F i = faceAt G i)
instance (F G : List (List UInt8)) (H I : List Bool) (k : Nat) : Decidable (alikeUp F G H I k) := by unfold alikeUp; exact inferInstance
/-- All that a key hangs on is alike. -/
def keyAlike (a b c a' b' c' : ByteArray) (F G : List (List UInt8)) (H I : List Bool) : Prop :=
  (F.length = G.length ∧ a = a' ∧ b = b' ∧ c = c') ∧ alikeUp F G H I (min F.length G.length)
instance (a b c a' b' c' : ByteArray) (F G : List (List UInt8)) (H I : List Bool) : Decidable (keyAlike a b c a' b' c' F G H I) := by unfold keyAlike; exact inferInstance
theorem encL_short {t : List ByteArray} (n k : Nat) (hn : t.length ≤ n) (h : ∀ s ∈ t, s.size ≤ k) : (encL t).length ≤ 4 + n * (4 + k) := by
  have h2 : ∀ t : List ByteArray, (∀ s ∈ t, s.size ≤ k) → (t.map fun s => 4 + s.size).sum ≤ t.length * (4 + k) := by
    intro t
    induction t with
    | nil => intro _; simp
    | cons s t ih =>
      intro hs
      have k1 := hs s (List.mem_cons_self ..)
      have k2 := ih (fun q hq => hs q (List.mem_cons_of_mem _ hq))
      rw [List.map_cons, List.sum_cons, List.length_cons, Nat.succ_mul]
      omega
  have h3 := h2 t h
  have h4 : t.length * (4 + k) ≤ n * (4 + k) := Nat.mul_le_mul_right _ hn
  rw [encL_length]
  omega
end Go.Proofs.YtkklofnabmdmfaaGreatDoor
