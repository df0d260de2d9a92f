/- The order of diagnostics, whole; lists that rise, lists in order (plain). -/
import Derived.Test.YtdmdiokfpbmnaaaDoorOrdMap
import Derived.Test.YtdmdiokfpbmnaaaDoorDgP
import Derived.Lib.Small
namespace Go.Proofs.YtdmdiokfpbmnaaaDoor

theorem ci_lt (x y : Int) : Lib.compareInt x y < 0 ↔ x < y := by unfold Lib.compareInt; split <;> (try split) <;> constructor <;> intro h <;> omega
theorem ci_zero (x y : Int) : Lib.compareInt x y = 0 ↔ x = y := by unfold Lib.compareInt; split <;> (try split) <;> constructor <;> intro h <;> omega
theorem ci_swap (x y : Int) : Lib.compareInt y x = - Lib.compareInt x y := by unfold Lib.compareInt; split <;> (try split) <;> (try split) <;> omega
/-- The first that is not nought. -/
def or4 (a b c d : Int) : Int := if a = 0 then if b = 0 then if c = 0 then d else c else b else a
def cmpD (p q : Dg) : Int := or4 (cmpS p.m q.m) (Lib.compareInt p.a q.a) (Lib.compareInt p.c q.c) (cmpS p.n q.n)
theorem or4_neg (a b c d : Int) : or4 (-a) (-b) (-c) (-d) = - or4 a b c d := by
  unfold or4
  (repeat' split) <;> omega
theorem cmpD_swap (p q : Dg) : cmpD q p = - cmpD p q := by
  unfold cmpD
  rw [cmpS_swap p.m q.m, cmpS_swap p.n q.n, ci_swap p.a q.a, ci_swap p.c q.c, or4_neg]
theorem or4_zero {a b c d : Int} : or4 a b c d = 0 ↔ a = 0 ∧ b = 0 ∧ c = 0 ∧ d = 0 := by
  unfold or4
  split
  · split
    · split
      · simp [*]
      · constructor
        · intro h; omega
        · intro h; omega
    · constructor
      · intro h; omega
      · intro h; omega
  · constructor
    · intro h; omega
    · intro h; omega
theorem cmpD_zero {p q : Dg} : cmpD p q = 0 ↔ p = q := by
  unfold cmpD
  rw [or4_zero, cmpS_iff, cmpS_iff, ci_zero, ci_zero]
  cases p; cases q
  simp
theorem cmpD_self (p : Dg) : cmpD p p = 0 := cmpD_zero.2 rfl
def ltD (p q : Dg) : Prop := cmpD p q < 0
instance (p q : Dg) : Decidable (ltD p q) := by unfold ltD; exact inferInstance
theorem ltD_iff (p q : Dg) : ltD p q ↔ cmpS p.m q.m < 0 ∨ (p.m = q.m ∧ (p.a < q.a ∨ (p.a = q.a ∧ (p.c < q.c ∨ (p.c = q.c ∧ cmpS p.n q.n < 0))))) := by
  unfold ltD cmpD or4
  by_cases h1 : cmpS p.m q.m = 0
  · rw [if_pos h1]
    have e1 := cmpS_zero h1
    by_cases h2 : Lib.compareInt p.a q.a = 0
    · rw [if_pos h2]
      have e2 := (ci_zero _ _).1 h2
      by_cases h3 : Lib.compareInt p.c q.c = 0
      · rw [if_pos h3]
        have e3 := (ci_zero _ _).1 h3
        simp [e1, e2, e3, cmpS_self]
      · rw [if_neg h3]
        have e3 : p.c ≠ q.c := fun e => h3 ((ci_zero _ _).2 e)
        rw [ci_lt]
        simp [e1, e2, e3, cmpS_self]
    · rw [if_neg h2]
      have e2 : p.a ≠ q.a := fun e => h2 ((ci_zero _ _).2 e)
      rw [ci_lt]
      simp [e1, e2, cmpS_self]
  · rw [if_neg h1]
    have e1 : p.m ≠ q.m := fun e => h1 ((cmpS_iff _ _).2 e)
    simp [e1]
theorem ltD_irrefl (p : Dg) : ¬ ltD p p := by unfold ltD; rw [cmpD_self]; decide
theorem ltD_asymm {p q : Dg} (h : ltD p q) : ¬ ltD q p := by unfold ltD at h ⊢; rw [cmpD_swap]; omega
theorem ltD_tri (p q : Dg) : ltD p q ∨ p = q ∨ ltD q p := by
  unfold ltD
  rw [cmpD_swap p q]
  by_cases h : cmpD p q = 0
  · exact .inr (.inl (cmpD_zero.1 h))
  · omega
theorem ltD_trans {p q r : Dg} (h : ltD p q) (k : ltD q r) : ltD p r := by
  rw [ltD_iff] at h k ⊢
  rcases h with h | ⟨e1, h⟩
  · rcases k with k | ⟨f1, k⟩
    · exact .inl (cmpS_trans h k)
    · exact .inl (by rw [← f1]; exact h)
  · rcases k with k | ⟨f1, k⟩
    · exact .inl (by rw [e1]; exact k)
    · refine .inr ⟨e1.trans f1, ?_⟩
      rcases h with h | ⟨e2, h⟩
      · rcases k with k | ⟨f2, k⟩
        · exact .inl (by omega)
        · exact .inl (by omega)
      · rcases k with k | ⟨f2, k⟩
        · exact .inl (by omega)
        · refine .inr ⟨by omega, ?_⟩
          rcases h with h | ⟨e3, h⟩
          · rcases k with k | ⟨f3, k⟩
            · exact .inl (by omega)
            · exact .inl (by omega)
          · rcases k with k | ⟨f3, k⟩
            · exact .inl (by omega)
            · exact .inr ⟨by omega, cmpS_trans h k⟩
/-- Not behind. -/
def leD (p q : Dg) : Prop := ¬ ltD q p
theorem leD_trans {p q r : Dg} (h : leD p q) (k : leD q r) : leD p r := by
  intro h2
  rcases ltD_tri p q with h3 | rfl | h3
  · exact k (ltD_trans h2 h3)
  · exact k h2
  · exact h h3
theorem leD_refl (p : Dg) : leD p p := ltD_irrefl p
theorem leD_of_lt {p q : Dg} (h : ltD p q) : leD p q := ltD_asymm h
theorem leD_eq {p q : Dg} (h : leD p q) (k : leD q p) : p = q := by
  rcases ltD_tri p q with h3 | h3 | h3
  · exact absurd h3 k
  · exact h3
  · exact absurd h3 h
theorem ltD_of_le {p q : Dg} (h : leD p q) (k : p ≠ q) : ltD p q := by
  rcases ltD_tri p q with h3 | h3 | h3
  · exact h3
  · exact absurd h3 k
  · exact absurd h3 h
/-- Lists in order; lists that rise. -/
def InD (l : List Dg) : Prop := l.Pairwise leD
def RisesD (l : List Dg) : Prop := l.Pairwise ltD
theorem RisesD.nodup {l : List Dg} (h : RisesD l) : l.Nodup := h.imp fun {a b} hab e => by subst e; exact ltD_irrefl _ hab
/-- Of the same members there is one list that rises. -/
theorem rises_one {a b : List Dg} (h : RisesD a) (k : RisesD b) (e : ∀ x, x ∈ a ↔ x ∈ b) : a = b := by
  refine List.Perm.eq_of_pairwise (le := leD) (fun x y _ _ h1 h2 => leD_eq h1 h2) (h.imp fun {a b} hab => leD_of_lt hab) (k.imp fun {a b} hab => leD_of_lt hab) ?_
  exact (List.perm_ext_iff_of_nodup h.nodup k.nodup).2 e
theorem len_sub : ∀ (a b : List Dg), a.Nodup → (∀ x, x ∈ a → x ∈ b) → a.length ≤ b.length
  | [], _, _, _ => Nat.zero_le _
  | x :: a, b, hn, h => by
    have hx := h x (List.mem_cons_self ..)
    have h1 := List.length_erase_of_mem hx
    have h2 := len_sub a (b.erase x) (List.nodup_cons.1 hn).2 (fun y hy => (List.mem_erase_of_ne (fun e : y = x => (List.nodup_cons.1 hn).1 (by rw [← e]; exact hy))).2 (h y (List.mem_cons_of_mem _ hy)))
    have h3 := List.length_pos_of_mem hx
    rw [List.length_cons]
    omega
theorem rises_le {a b : List Dg} (h : RisesD a) (e : ∀ x, x ∈ a → x ∈ b) : a.length ≤ b.length :=
  len_sub a b h.nodup e
/-- s is what l is, sorted. -/
def SortD (l s : List Dg) : Prop := RisesD s ∧ ∀ x, x ∈ s ↔ x ∈ l
theorem SortD.eq {l m s t : List Dg} (h : SortD l s) (k : SortD m t) (e : ∀ x, x ∈ l ↔ x ∈ m) : s = t :=
  rises_one h.1 k.1 fun x => (h.2 x).trans ((e x).trans (k.2 x).symm)
/-- Two lists in order, merged. -/
theorem merge_step_b {o ra rb : List Dg} {x y : Dg} (hio : InD (o ++ x :: ra)) (hib : InD (o ++ y :: rb)) (h : ltD y x) : InD ((o ++ [y]) ++ x :: ra) ∧ InD ((o ++ [y]) ++ rb) := by
  unfold InD at *
  rw [List.append_assoc, List.append_assoc]
  refine ⟨?_, hib⟩
  rw [List.pairwise_append] at hio hib ⊢
  obtain ⟨h1, h2, h3⟩ := hio
  obtain ⟨k1, k2, k3⟩ := hib
  refine ⟨h1, ?_, fun a ha b hb => ?_⟩
  · rw [List.singleton_append, List.pairwise_cons]
    refine ⟨fun b hb => ?_, h2⟩
    rcases List.mem_cons.1 hb with rfl | hb
    · exact leD_of_lt h
    · exact leD_trans (leD_of_lt h) ((List.pairwise_cons.1 h2).1 b hb)
  · rw [List.singleton_append] at hb
    rcases List.mem_cons.1 hb with rfl | hb
    · exact k3 a ha _ (List.mem_cons_self ..)
    · exact h3 a ha b hb
theorem merge_step_a {o ra rb : List Dg} {x y : Dg} (hio : InD (o ++ x :: ra)) (hib : InD (o ++ y :: rb)) (h : ¬ ltD y x) : InD ((o ++ [x]) ++ ra) ∧ InD ((o ++ [x]) ++ y :: rb) := by
  unfold InD at *
  rw [List.append_assoc, List.append_assoc]
  refine ⟨hio, ?_⟩
  rw [List.pairwise_append] at hio hib ⊢
  obtain ⟨h1, h2, h3⟩ := hio
  obtain ⟨k1, k2, k3⟩ := hib
  refine ⟨h1, ?_, fun a ha b hb => ?_⟩
  · rw [List.singleton_append, List.pairwise_cons]
    refine ⟨fun b hb => ?_, k2⟩
    rcases List.mem_cons.1 hb with rfl | hb
    · exact h
    · exact leD_trans h ((List.pairwise_cons.1 k2).1 b hb)
  · rw [List.singleton_append] at hb
    rcases List.mem_cons.1 hb with rfl | hb
    · exact h3 a ha _ (List.mem_cons_self ..)
    · exact k3 a ha b hb
/-- What is left of a list's first i when what is alike, side by side, is told once. -/
def cUp (l : List Dg) : Nat → List Dg
  | 0 => []
  | i + 1 => cUp l i ++ (if h : i < l.length then if 0 < i ∧ l[i - 1]? = some l[i] then [] else [l[i]] else [])
theorem cUp_skip {l : List Dg} {i : Nat} (h : i < l.length) (h0 : 0 < i) (e : l[i - 1]'(by omega) = l[i]) : cUp l (i + 1) = cUp l i := by
  rw [cUp, dif_pos h, if_pos ⟨h0, by rw [List.getElem?_eq_getElem (by omega), e]⟩, List.append_nil]
theorem cUp_take {l : List Dg} {i : Nat} (h : i < l.length) (e : ∀ h0 : 0 < i, l[i - 1]'(by omega) ≠ l[i]) : cUp l (i + 1) = cUp l i ++ [l[i]] := by
  rw [cUp, dif_pos h, if_neg]
  rintro ⟨h0, e2⟩
  rw [List.getElem?_eq_getElem (by omega)] at e2
  exact e h0 (Option.some.inj e2)
theorem cUp_le (l : List Dg) (i : Nat) : (cUp l i).length ≤ i := by
  induction i with
  | zero => exact Nat.le_refl _
  | succ i ih =>
    rw [cUp, List.length_append]
    split
    · split <;> simp <;> omega
    · simp; omega
theorem cUp_mem (l : List Dg) (i : Nat) (h : i ≤ l.length) (x : Dg) : x ∈ cUp l i ↔ x ∈ l.take i := by
  induction i with
  | zero => simp [cUp]
  | succ i ih =>
    have ih := ih (by omega)
    rw [List.take_succ_eq_append_getElem (by omega), List.mem_append, List.mem_singleton]
    by_cases e : ∃ h0 : 0 < i, l[i - 1] = l[i]
    · obtain ⟨h0, e⟩ := e
      rw [cUp_skip (by omega) h0 e, ih]
      constructor
      · exact .inl
      · rintro (h | rfl)
        · exact h
        · rw [← e]
          exact List.mem_take_iff_getElem.2 ⟨i - 1, by omega, rfl⟩
    · rw [cUp_take (by omega) (fun h0 e2 => e ⟨h0, e2⟩), List.mem_append, List.mem_singleton, ih]
theorem cUp_rises {l : List Dg} (hl : InD l) (i : Nat) (h : i ≤ l.length) : RisesD (cUp l i) := by
  induction i with
  | zero => exact List.Pairwise.nil
  | succ i ih =>
    have ih := ih (by omega)
    by_cases e : ∃ h0 : 0 < i, l[i - 1] = l[i]
    · obtain ⟨h0, e⟩ := e
      rw [cUp_skip (by omega) h0 e]
      exact ih
    · have e2 : ∀ h0 : 0 < i, l[i - 1] ≠ l[i] := fun h0 e2 => e ⟨h0, e2⟩
      rw [cUp_take (by omega) e2]
      refine List.pairwise_append.2 ⟨ih, List.pairwise_singleton _ _, fun x hx y hy => ?_⟩
      obtain rfl := List.mem_singleton.1 hy
      obtain ⟨k, hk, rfl⟩ := List.mem_take_iff_getElem.1 ((cUp_mem l i (by omega) x).1 hx)
      have h0 : 0 < i := by omega
      have hle := List.pairwise_iff_getElem.1 hl
      have h1 := ltD_of_le (hle (i - 1) i (by omega) (by omega) (by omega)) (e2 h0)
      by_cases hk2 : k = i - 1
      · subst hk2; exact h1
      · have h2 := hle k (i - 1) (by omega) (by omega) (by omega)
        rcases ltD_tri l[k] l[i] with h3 | h3 | h3
        · exact h3
        · exact absurd (h3 ▸ h1) h2
        · exact absurd (ltD_trans h1 h3) h2
theorem cUp_sort {l m : List Dg} (h : InD m) (hp : m.Perm l) : SortD l (cUp m m.length) :=
  ⟨cUp_rises h _ (Nat.le_refl _), fun x => by rw [cUp_mem m _ (Nat.le_refl _), List.take_length]; exact hp.mem_iff⟩
end Go.Proofs.YtdmdiokfpbmnaaaDoor

