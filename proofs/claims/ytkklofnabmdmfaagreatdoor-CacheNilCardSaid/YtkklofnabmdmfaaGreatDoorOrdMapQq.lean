/- The order of texts: plain facts on lists of bytes. -/
import Derived.Lib.Bytealg
import Derived.Test.YtkklofnabmdmfaaGreatDoorAfterQq
namespace Go.Proofs.YtkklofnabmdmfaaGreatDoor
open Go.RowKit Go.Lib

theorem cb_self (a : List UInt8) : compareBytes a a = 0 := by
  induction a with
  | nil => rfl
  | cons x a ih => simp [compareBytes, UInt8.lt_irrefl, ih]
theorem cb_swap : ∀ a b : List UInt8, compareBytes b a = - compareBytes a b
  | [], [] => rfl
  | [], _ :: _ => rfl
  | _ :: _, [] => rfl
  | x :: a, y :: b => by
    have ih := cb_swap a b
    unfold compareBytes
    by_cases h : x < y
    · have h2 : ¬ y < x := UInt8.lt_asymm h
      simp [h, h2]
    · by_cases h2 : y < x
      · simp [h, h2]
      · simp [h, h2, ih]
theorem cb_zero : ∀ a b : List UInt8, compareBytes a b = 0 → a = b
  | [], [], _ => rfl
  | [], _ :: _, h => by simp [compareBytes] at h
  | _ :: _, [], h => by simp [compareBytes] at h
  | x :: a, y :: b, h => by
    unfold compareBytes at h
    by_cases h1 : x < y
    · simp [h1] at h
    · by_cases h2 : y < x
      · simp [h1, h2] at h
      · simp only [h1, h2, if_false] at h
        rw [cb_zero a b h, UInt8.le_antisymm (UInt8.not_lt.1 h2) (UInt8.not_lt.1 h1)]
theorem cb_trans : ∀ a b c : List UInt8, compareBytes a b < 0 → compareBytes b c < 0 → compareBytes a c < 0
  | [], [], _, h, _ => by simp [compareBytes] at h
  | [], _ :: _, [], _, h => by simp [compareBytes] at h
  | [], _ :: _, _ :: _, _, _ => by simp [compareBytes]
  | _ :: _, [], _, h, _ => by simp [compareBytes] at h
  | _ :: _, _ :: _, [], _, h => by simp [compareBytes] at h
  | x :: a, y :: b, z :: c, h1, h2 => by
    unfold compareBytes at h1 h2 ⊢
    by_cases p1 : x < y
    · by_cases p2 : y < z
      · simp [UInt8.lt_trans p1 p2]
      · by_cases p3 : z < y
        · simp [p2, p3] at h2
        · have : y = z := UInt8.le_antisymm (UInt8.not_lt.1 p3) (UInt8.not_lt.1 p2)
          subst this
          simp [p1]
    · by_cases q1 : y < x
      · simp [p1, q1] at h1
      · have : x = y := UInt8.le_antisymm (UInt8.not_lt.1 q1) (UInt8.not_lt.1 p1)
        subst this
        by_cases p2 : x < z
        · simp [p2]
        · by_cases p3 : z < x
          · simp [p2, p3] at h2
          · simp only [p1, p2, p3, if_false] at h1 h2 ⊢
            exact cb_trans a b c h1 h2
theorem less_cb : ∀ a b : List UInt8, Op.bytesLess a b = decide (compareBytes a b < 0)
  | [], [] => rfl
  | [], _ :: _ => rfl
  | _ :: _, [] => rfl
  | x :: a, y :: b => by
    have ih := less_cb a b
    unfold Op.bytesLess compareBytes
    by_cases h : x < y
    · simp [h]
    · by_cases h2 : y < x
      · have hne : (x == y) = false := beq_eq_false_iff_ne.2 fun e => by subst e; exact h h2
        simp [h, h2, hne]
      · have : x = y := UInt8.le_antisymm (UInt8.not_lt.1 h2) (UInt8.not_lt.1 h)
        subst this
        simp [UInt8.lt_irrefl, ih]

/-- The order of texts. -/
def cmpS (a b : ByteArray) : Int := compareBytes a.data.toList b.data.toList
theorem ba_ext {a b : ByteArray} (h : a.data.toList = b.data.toList) : a = b := by
  obtain ⟨⟨la⟩⟩ := a
  obtain ⟨⟨lb⟩⟩ := b
  have h : la = lb := h
  rw [h]
theorem cmpS_self (a : ByteArray) : cmpS a a = 0 := cb_self _
theorem cmpS_zero {a b : ByteArray} (h : cmpS a b = 0) : a = b := ba_ext (cb_zero _ _ h)
theorem cmpS_swap (a b : ByteArray) : cmpS b a = - cmpS a b := cb_swap _ _
theorem cmpS_trans {a b c : ByteArray} (h : cmpS a b < 0) (k : cmpS b c < 0) : cmpS a c < 0 := cb_trans _ _ _ h k
theorem cmpS_iff (a b : ByteArray) : cmpS a b = 0 ↔ a = b := ⟨cmpS_zero, fun h => by subst h; exact cmpS_self a⟩
theorem ba_toList (a : ByteArray) : a.toList = a.data.toList := ByteArray.toList_eq a
theorem less_cmpS (a b : ByteArray) : Op.bytesLess a.toList b.toList = decide (cmpS a b < 0) := by rw [ba_toList, ba_toList]; exact less_cb _ _
theorem beq_toList (a b : ByteArray) : (a.toList == b.toList) = decide (a = b) := by
  rw [ba_toList, ba_toList, Bool.eq_iff_iff]
  simp only [beq_iff_eq, decide_eq_true_iff]
  exact ⟨ba_ext, fun h => by rw [h]⟩
end Go.Proofs.YtkklofnabmdmfaaGreatDoor

/- Maps as lists of pairs whose keys rise: plain facts. -/
namespace Go.Proofs.YtkklofnabmdmfaaGreatDoor

/-- A pair of a map. -/
structure Pr where
  k : ByteArray
  v : ByteArray
deriving DecidableEq
/-- An op of a batch. -/
structure Op3 where
  del : Bool
  k : ByteArray
  v : ByteArray
deriving DecidableEq
/-- How many pairs stand ahead of a key. -/
def lb (l : List Pr) (key : ByteArray) : Nat := (l.takeWhile fun p => decide (cmpS p.k key < 0)).length
theorem lb_le (l : List Pr) (key : ByteArray) : lb l key ≤ l.length := (List.takeWhile_sublist _).length_le
/-- The keys rise, as far as this key goes: what stands ahead of it is less, what stands from there on is not. -/
def Parts (l : List Pr) (key : ByteArray) : Prop := ∀ i, ∀ h : i < l.length, (cmpS l[i].k key < 0 ↔ i < lb l key)
def hitB (l : List Pr) (key : ByteArray) : Bool := if h : lb l key < l.length then decide (cmpS l[lb l key].k key = 0) else false
/-- The keys rise. -/
def Rises (l : List Pr) : Prop := l.Pairwise fun a b => cmpS a.k b.k < 0
def getT (l : List Pr) (key : ByteArray) : Option ByteArray := (l.find? fun p => decide (p.k = key)).map (·.v)
def putT (l : List Pr) (key v : ByteArray) : List Pr := l.take (lb l key) ++ ⟨key, v⟩ :: l.drop (if hitB l key then lb l key + 1 else lb l key)
def delT (l : List Pr) (key : ByteArray) : List Pr := if hitB l key then l.take (lb l key) ++ l.drop (lb l key + 1) else l
def stepT (l : List Pr) (o : Op3) : List Pr := if o.del then delT l o.k else putT l o.k o.v

theorem lt_irrefl (a : ByteArray) : ¬ cmpS a a < 0 := by rw [cmpS_self]; decide
theorem lt_asymm {a b : ByteArray} (h : cmpS a b < 0) : ¬ cmpS b a < 0 := by rw [cmpS_swap]; omega
theorem lt_tri (a b : ByteArray) : cmpS a b < 0 ∨ a = b ∨ cmpS b a < 0 := by
  rcases Int.lt_trichotomy (cmpS a b) 0 with h | h | h
  · exact .inl h
  · exact .inr (.inl (cmpS_zero h))
  · exact .inr (.inr (by rw [cmpS_swap]; omega))
theorem lb_cons (p : Pr) (l : List Pr) (key : ByteArray) : lb (p :: l) key = if cmpS p.k key < 0 then lb l key + 1 else 0 := by
  unfold lb
  rw [List.takeWhile_cons]
  by_cases h : cmpS p.k key < 0 <;> simp [h]
theorem hitB_cons (p : Pr) (l : List Pr) (key : ByteArray) : hitB (p :: l) key = if cmpS p.k key < 0 then hitB l key else decide (p.k = key) := by
  unfold hitB
  by_cases h : cmpS p.k key < 0
  · simp only [lb_cons, h, if_true, List.length_cons, List.getElem_cons_succ]
    by_cases h2 : lb l key < l.length
    · simp [h2]
    · simp [h2]
  · simp only [lb_cons, h, if_false, List.length_cons, List.getElem_cons_zero]
    simp [cmpS_iff]

theorem putT_nil (key v : ByteArray) : putT [] key v = [⟨key, v⟩] := rfl
theorem putT_cons (p : Pr) (l : List Pr) (key v : ByteArray) :
    putT (p :: l) key v = if cmpS p.k key < 0 then p :: putT l key v else if p.k = key then ⟨key, v⟩ :: l else ⟨key, v⟩ :: p :: l := by
  unfold putT
  rw [lb_cons, hitB_cons]
  by_cases h : cmpS p.k key < 0
  · simp only [h, if_true]
    cases hitB l key <;> simp
  · by_cases h2 : p.k = key
    · subst h2
      simp [cmpS_self]
    · simp [h, h2]
theorem delT_cons (p : Pr) (l : List Pr) (key : ByteArray) :
    delT (p :: l) key = if cmpS p.k key < 0 then p :: delT l key else if p.k = key then l else p :: l := by
  unfold delT
  rw [lb_cons, hitB_cons]
  by_cases h : cmpS p.k key < 0
  · simp only [h, if_true]
    cases hitB l key <;> simp
  · by_cases h2 : p.k = key
    · subst h2
      simp [cmpS_self]
    · simp [h, h2]

theorem rises_nil : Rises [] := List.Pairwise.nil
theorem rises_cons (p : Pr) (l : List Pr) : Rises (p :: l) ↔ (∀ q ∈ l, cmpS p.k q.k < 0) ∧ Rises l := List.pairwise_cons

theorem parts_of_rises {l : List Pr} (h : Rises l) (key : ByteArray) : Parts l key := by
  induction l with
  | nil => intro i hi; simp at hi
  | cons p l ih =>
    obtain ⟨h1, h2⟩ := (rises_cons p l).1 h
    intro i hi
    rw [lb_cons]
    by_cases hp : cmpS p.k key < 0
    · cases i with
      | zero => simp [hp]
      | succ i => simpa [hp] using ih h2 i (by simpa using hi)
    · cases i with
      | zero => simp [hp]
      | succ i =>
        simp only [hp, if_false, Nat.not_lt_zero, iff_false, List.getElem_cons_succ]
        intro hq
        exact hp (cmpS_trans (h1 _ (List.getElem_mem _)) hq)

theorem mem_putT {l : List Pr} {key v : ByteArray} {q : Pr} (h : q ∈ putT l key v) : q = ⟨key, v⟩ ∨ q ∈ l := by
  unfold putT at h
  rcases List.mem_append.1 h with h | h
  · exact .inr (List.mem_of_mem_take h)
  · rcases List.mem_cons.1 h with h | h
    · exact .inl h
    · exact .inr (List.mem_of_mem_drop h)
theorem mem_delT {l : List Pr} {key : ByteArray} {q : Pr} (h : q ∈ delT l key) : q ∈ l := by
  unfold delT at h
  split at h
  · rcases List.mem_append.1 h with h | h
    · exact List.mem_of_mem_take h
    · exact List.mem_of_mem_drop h
  · exact h
theorem rises_putT {l : List Pr} (h : Rises l) (key v : ByteArray) : Rises (putT l key v) := by
  induction l with
  | nil => rw [putT_nil]; exact List.pairwise_singleton _ _
  | cons p l ih =>
    obtain ⟨h1, h2⟩ := (rises_cons p l).1 h
    rw [putT_cons]
    split
    · rename_i hp
      refine (rises_cons _ _).2 ⟨fun q hq => ?_, ih h2⟩
      rcases mem_putT hq with rfl | hq
      · exact hp
      · exact h1 q hq
    · rename_i hp
      split
      · rename_i he
        subst he
        exact (rises_cons _ _).2 ⟨h1, h2⟩
      · rename_i he
        have hk : cmpS key p.k < 0 := by
          rcases lt_tri p.k key with h | h | h
          · exact absurd h hp
          · exact absurd h he
          · exact h
        refine (rises_cons _ _).2 ⟨fun q hq => ?_, h⟩
        rcases List.mem_cons.1 hq with rfl | hq
        · exact hk
        · exact cmpS_trans hk (h1 q hq)
theorem rises_delT {l : List Pr} (h : Rises l) (key : ByteArray) : Rises (delT l key) := by
  induction l with
  | nil => exact h
  | cons p l ih =>
    obtain ⟨h1, h2⟩ := (rises_cons p l).1 h
    rw [delT_cons]
    split
    · exact (rises_cons _ _).2 ⟨fun q hq => h1 q (mem_delT hq), ih h2⟩
    · split
      · exact h2
      · exact h
theorem rises_stepT {l : List Pr} (h : Rises l) (o : Op3) : Rises (stepT l o) := by
  unfold stepT
  split
  · exact rises_delT h _
  · exact rises_putT h _ _
theorem rises_fold {l : List Pr} (h : Rises l) (ops : List Op3) : Rises (ops.foldl stepT l) := by
  induction ops generalizing l with
  | nil => exact h
  | cons o ops ih => exact ih (rises_stepT h o)

theorem getT_nil (key : ByteArray) : getT [] key = none := rfl
theorem getT_cons (p : Pr) (l : List Pr) (key : ByteArray) : getT (p :: l) key = if p.k = key then some p.v else getT l key := by
  unfold getT
  rw [List.find?_cons]
  by_cases h : p.k = key <;> simp [h]
theorem getT_none {l : List Pr} {key : ByteArray} (h : ∀ q ∈ l, q.k ≠ key) : getT l key = none := by
  induction l with
  | nil => rfl
  | cons p l ih =>
    rw [getT_cons, if_neg (h p (by simp))]
    exact ih fun q hq => h q (by simp [hq])
theorem getT_putT {l : List Pr} (h : Rises l) (key v key' : ByteArray) : getT (putT l key v) key' = if key = key' then some v else getT l key' := by
  induction l with
  | nil => rw [putT_nil, getT_cons]
  | cons p l ih =>
    obtain ⟨h1, h2⟩ := (rises_cons p l).1 h
    rw [putT_cons]
    by_cases hp : cmpS p.k key < 0
    · rw [if_pos hp, getT_cons, getT_cons, ih h2]
      by_cases e : p.k = key'
      · rw [if_pos e, if_pos e, if_neg]
        rintro rfl
        subst e
        exact lt_irrefl _ hp
      · rw [if_neg e, if_neg e]
    · rw [if_neg hp]
      by_cases he : p.k = key
      · rw [if_pos he, getT_cons, getT_cons]
        subst he
        by_cases e : p.k = key' <;> simp [e]
      · rw [if_neg he, getT_cons]
/-- Two maps with the same values at all keys are one. -/
theorem rises_ext {l m : List Pr} (hl : Rises l) (hm : Rises m) (h : ∀ key, getT l key = getT m key) : l = m := by
  induction l generalizing m with
  | nil =>
    cases m with
    | nil => rfl
    | cons q m => have := h q.k; rw [getT_nil, getT_cons, if_pos rfl] at this; cases this
  | cons p l ih =>
    cases m with
    | nil => have := h p.k; rw [getT_nil, getT_cons, if_pos rfl] at this; cases this
    | cons q m =>
      obtain ⟨l1, l2⟩ := (rises_cons p l).1 hl
      obtain ⟨m1, m2⟩ := (rises_cons q m).1 hm
      have hk : p.k = q.k := by
        rcases lt_tri p.k q.k with hlt | he | hlt
        · have h1 := h p.k
          rw [getT_cons, if_pos rfl, getT_cons, if_neg (fun e => by rw [e] at hlt; exact lt_irrefl _ hlt)] at h1
          rw [getT_none (fun r hr e => by have := m1 r hr; rw [e] at this; exact lt_asymm hlt this)] at h1
          cases h1
        · exact he
        · have h1 := h q.k
          rw [getT_cons, if_neg (fun e => by rw [e] at hlt; exact lt_irrefl _ hlt), getT_cons, if_pos rfl] at h1
          rw [getT_none (fun r hr e => by have := l1 r hr; rw [e] at this; exact lt_asymm hlt this)] at h1
          cases h1
      have hv : p.v = q.v := by
        have h1 := h p.k
        rw [getT_cons, if_pos rfl, getT_cons, if_pos hk.symm] at h1
        exact Option.some.inj h1
      have hpq : p = q := by cases p; cases q; simp at hk hv; subst hk; subst hv; rfl
      subst hpq
      rw [ih l2 m2]
      intro key
      by_cases e : p.k = key
      · subst e
        rw [getT_none (fun r hr e => by have := l1 r hr; rw [e] at this; exact lt_irrefl _ this), getT_none (fun r hr e => by have := m1 r hr; rw [e] at this; exact lt_irrefl _ this)]
      · have h1 := h key
        rwa [getT_cons, if_neg e, getT_cons, if_neg e] at h1

/-- Any list as a map: later pairs take the place of elder ones. -/
def normT (l : List Pr) : List Pr := l.foldl (fun m p => putT m p.k p.v) []
instance : DecidablePred Rises := fun l => inferInstanceAs (Decidable (l.Pairwise _))
def applyT (l : List Pr) (ops : List Op3) : List Pr := ops.foldl stepT (if Rises l then l else normT l)
theorem rises_foldput {m : List Pr} (h : Rises m) (l : List Pr) : Rises (l.foldl (fun m p => putT m p.k p.v) m) := by
  induction l generalizing m with
  | nil => exact h
  | cons p l ih => exact ih (rises_putT h _ _)
theorem rises_normT (l : List Pr) : Rises (normT l) := rises_foldput rises_nil l
theorem rises_start (l : List Pr) : Rises (if Rises l then l else normT l) := by
  split
  · assumption
  · exact rises_normT l
theorem rises_applyT (l : List Pr) (ops : List Op3) : Rises (applyT l ops) := rises_fold (rises_start l) ops
theorem applyT_rises {l : List Pr} (h : Rises l) (ops : List Op3) : applyT l ops = ops.foldl stepT l := by unfold applyT; rw [if_pos h]
theorem applyT_append (l : List Pr) (a b : List Op3) : applyT l (a ++ b) = applyT (applyT l a) b := by
  rw [applyT_rises (rises_applyT l a)]
  unfold applyT
  rw [List.foldl_append]
end Go.Proofs.YtkklofnabmdmfaaGreatDoor
