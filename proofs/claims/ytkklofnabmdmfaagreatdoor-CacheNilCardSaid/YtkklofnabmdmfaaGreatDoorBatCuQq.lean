/- BatchCuts: of batches one behind the other, cut anywhere, those whose end is there are told, whole, and no others: the walk of the law. -/
import Derived.Test.YtkklofnabmdmfaaGreatDoorBatAQq
import Derived.Test.YtkklofnabmdmfaaGreatDoorRefCQq
import Derived.Test.YtkklofnabmdmfaaGreatDoorOpenBQq
namespace Go.Proofs.YtkklofnabmdmfaaGreatDoor
open Go.RowKit
set_option linter.unusedVariables false

/-- Batches' bytes, one behind the other. -/
def catO (ls : List (List Op3)) : List UInt8 := ls.flatMap bytesO
theorem catO_cons (l : List Op3) (ls : List (List Op3)) : catO (l :: ls) = bytesO l ++ catO ls := rfl
theorem catO_append (a b : List (List Op3)) : catO (a ++ b) = catO a ++ catO b := List.flatMap_append
theorem catO_frames (ls : List (List Op3)) : catO ls = framesB (ls.flatMap recsO) := by
  induction ls with
  | nil => rfl
  | cons l ls ih => rw [catO_cons, List.flatMap_cons, framesB_append, ih]; rfl
/-- How many of the batches end within k bytes. -/
def endsO : List (List Op3) → Nat → Nat
  | [], _ => 0
  | l :: ls, k => if (bytesO l).length ≤ k then endsO ls (k - (bytesO l).length) + 1 else 0
theorem endsIn_ge (a R : List (List UInt8)) : ∀ k, goodOf a ≤ k → endsIn (a ++ R) k = a.length + endsIn R (k - goodOf a) := by
  induction a with
  | nil => intro k _; simp [goodOf]
  | cons p a ih =>
    intro k h
    have hg : goodOf (p :: a) = 8 + p.length + goodOf a := by simp [goodOf]
    rw [hg] at h ⊢
    have e : endsIn (p :: a ++ R) k = if 8 + p.length ≤ k then endsIn (a ++ R) (k - (8 + p.length)) + 1 else 0 := rfl
    rw [e, if_pos (by omega), ih _ (by omega), List.length_cons, Nat.sub_sub]
    omega
theorem endsIn_lt (a R : List (List UInt8)) : ∀ k, k < goodOf a → endsIn (a ++ R) k < a.length := by
  induction a with
  | nil => intro k h; simp [goodOf] at h
  | cons p a ih =>
    intro k h
    have hg : goodOf (p :: a) = 8 + p.length + goodOf a := by simp [goodOf]
    rw [hg] at h
    rw [List.cons_append, List.length_cons]
    unfold endsIn
    split
    · have := ih (k - (8 + p.length)) (by omega); omega
    · omega
theorem bytesO_good (l : List Op3) : (bytesO l).length = goodOf (recsO l) := framesB_length _
theorem replay_cut (ls : List (List Op3)) (h : ∀ l ∈ ls, rightO l ∧ SmallO l) : ∀ (k i used : Nat), (replayGo [] i used ((ls.flatMap recsO).take (endsIn (ls.flatMap recsO) k))).1 = ls.take (endsO ls k) := by
  induction ls with
  | nil => intro k i used; simp [endsIn, endsO, replayGo]
  | cons l ls ih =>
    intro k i used
    obtain ⟨hr, hs⟩ := h l (List.mem_cons_self ..)
    rw [List.flatMap_cons]
    unfold endsO
    rw [bytesO_good]
    by_cases hk : goodOf (recsO l) ≤ k
    · rw [if_pos hk, endsIn_ge _ _ _ hk, List.take_length_add_append, replayGo_batch l hr hs, List.take_succ_cons, ih (fun x hx => h x (List.mem_cons_of_mem _ hx))]
    · rw [if_neg hk]
      have hlt := endsIn_lt (recsO l) (ls.flatMap recsO) k (by omega)
      have hrl : (recsO l).length = l.length + 1 := by simp [recsO]
      rw [List.take_append_of_le_length (by omega)]
      generalize endsIn (recsO l ++ ls.flatMap recsO) k = m at *
      have e : (recsO l).take m = (l.take m).map recO ++ [] := by
        unfold recsO
        rw [List.take_append_of_le_length (by rw [List.length_map]; omega), List.append_nil, List.map_take]
      rw [e, replayGo_ops (l.take m) (fun o ho => ⟨hr.2 o (List.mem_of_mem_take ho), hs o (List.mem_of_mem_take ho)⟩)]
      simp [replayGo]
theorem cut_told (ls : List (List Op3)) (h : ∀ l ∈ ls, rightO l ∧ SmallO l) (k : Nat) (hk : k ≤ (catO ls).length) : (replayB (scanB ((catO ls).take k))).1 = ls.take (endsO ls k) := by
  have hp : ∀ p ∈ ls.flatMap recsO, p.length ≤ 1048576 := fun p hp => by
    obtain ⟨l, hl, hp⟩ := List.mem_flatMap.1 hp
    exact recsO_small (h l hl).2 (h l hl).1.1 p hp
  rw [catO_frames] at hk ⊢
  rw [scanB_cut _ hp k hk]
  exact replay_cut ls h k 0 0

end Go.Proofs.YtkklofnabmdmfaaGreatDoor
