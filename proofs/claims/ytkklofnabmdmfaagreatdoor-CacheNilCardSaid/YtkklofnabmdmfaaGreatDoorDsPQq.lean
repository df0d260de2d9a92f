/- Diagnostics: their digits, the texts that they are. No walk stands here. -/
import Derived.Lib.AtoiAllCases
import Derived.Lib.Small
import Derived.Test.YtkklofnabmdmfaaGreatDoorOrdMapQq
import Derived.Test.YtkklofnabmdmfaaGreatDoorConvRQq
import Derived.Test.YtkklofnabmdmfaaGreatDoorBatAQq
import Derived.Test.YtkklofnabmdmfaaGreatDoorAtoiQq
namespace Go.Proofs.YtkklofnabmdmfaaGreatDoor
set_option linter.unusedVariables false

/-- A diagnostic. -/
structure Dg where
  m : ByteArray
  a : Int
  c : Int
  n : ByteArray
  deriving DecidableEq
instance : Inhabited Dg := ⟨⟨⟨#[]⟩, 0, 0, ⟨#[]⟩⟩⟩
def encD (d : Dg) : List Value := [.string d.m, .int .i64 d.a, .int .i64 d.c, .string d.n]
def encDs (l : List Dg) : List Value := l.flatMap encD
def Int64 (z : Int) : Prop := -9223372036854775808 ≤ z ∧ z ≤ 9223372036854775807
def OkD (d : Dg) : Prop := Int64 d.a ∧ Int64 d.c
theorem encDs_append (a b : List Dg) : encDs (a ++ b) = encDs a ++ encDs b := by unfold encDs; rw [List.flatMap_append]
theorem encD_one (d : Dg) : ∀ u ∈ encD d, u.oneCell' = true := by
  intro u hu
  unfold encD at hu
  simp only [List.mem_cons, List.not_mem_nil, or_false] at hu
  rcases hu with rfl | rfl | rfl | rfl <;> rfl
/-- A number's digits; of one below 0: of 0. -/
def digs (z : Int) : ByteArray := digitsB (max z 0).toNat
theorem digs_data (z : Int) : (digs z).data.toList = Lib.decDigits (max z 0).toNat := data_strOf _
def diagT (l : List Dg) : List ByteArray := l.flatMap fun d => [d.m, digs d.a, digs d.c, d.n]
theorem diagT_append (a b : List Dg) : diagT (a ++ b) = diagT a ++ diagT b := by unfold diagT; rw [List.flatMap_append]
theorem diagT_length (l : List Dg) : (diagT l).length = 4 * l.length := by
  induction l with
  | nil => rfl
  | cons d l ih => show ([d.m, digs d.a, digs d.c, d.n] ++ diagT l).length = _; rw [List.length_append, ih]; show 4 + 4 * l.length = 4 * (l.length + 1); omega
theorem parse_app : ∀ (a b : List UInt8) (k : Nat), Lib.parseUint10 k (a ++ b) = match Lib.parseUint10 k a with
    | .ok v => Lib.parseUint10 v b
    | e => e
  | [], b, k => rfl
  | x :: a, b, k => by
    have ih := parse_app a b
    rw [List.cons_append]
    simp only [Lib.parseUint10]
    split
    · split
      · rfl
      · split
        · rfl
        · exact ih _
    · rfl
theorem ofNat_dig {d : Nat} (h : d < 10) : (UInt8.ofNat (48 + d)).toNat = 48 + d := by rw [UInt8.toNat_ofNat', Nat.mod_eq_of_lt (Nat.lt_of_lt_of_le (show 48 + d < 58 by omega) (by decide))]
theorem parse_digs (u : Nat) (h : u ≤ 9223372036854775807) : Lib.parseUint10 0 (Lib.decDigits u) = .ok u := by
  induction u using Nat.strongRecOn with
  | _ u ih =>
    by_cases h10 : u < 10
    · rw [Lib.decDigits_one h10]
      simp only [Lib.parseUint10]
      rw [ofNat_dig h10, if_pos ⟨by omega, by omega⟩, if_neg (by omega), if_neg (by omega)]
      congr 1
      omega
    · rw [Lib.decDigits, dif_neg h10, parse_app, ih (u / 10) (by omega) (by omega)]
      simp only [Lib.parseUint10]
      rw [ofNat_dig (Nat.mod_lt _ (by omega)), if_pos ⟨by omega, by omega⟩, if_neg (by omega), if_neg (by omega)]
      congr 1
      omega
theorem digits_head (u : Nat) : ∃ c r, Lib.decDigits u = c :: r ∧ 48 ≤ c.toNat ∧ c.toNat ≤ 57 := by
  induction u using Nat.strongRecOn with
  | _ u ih =>
    by_cases h10 : u < 10
    · rw [Lib.decDigits_one h10]
      exact ⟨_, _, rfl, by rw [ofNat_dig h10]; omega, by rw [ofNat_dig h10]; omega⟩
    · obtain ⟨c, r, e, h1, h2⟩ := ih (u / 10) (by omega)
      rw [Lib.decDigits, dif_neg h10, e]
      exact ⟨c, r ++ [UInt8.ofNat (48 + u % 10)], rfl, h1, h2⟩
theorem atoi_digits (u : Nat) (h : u ≤ 9223372036854775807) : Lib.atoiAll (Lib.decDigits u) = .ok (u : Int) := by
  obtain ⟨c, r, e, h1, h2⟩ := digits_head u
  have hp := parse_digs u h
  rw [e] at hp ⊢
  rw [Lib.atoiAll_plain c r (by omega) (by omega)]
  unfold Lib.parseMag
  rw [if_neg (List.cons_ne_nil _ _), hp]
  show (if 9223372036854775808 ≤ u then _ else _) = _
  rw [if_neg (by omega)]
theorem atoiV_digits (u : Nat) (h : u ≤ 9223372036854775807) : atoiV (Lib.decDigits u) = u := by
  unfold atoiV
  rw [atoi_digits u h]
theorem atoiV_range (l : List UInt8) : Int64 (atoiV l) := by
  unfold atoiV Int64
  rcases h : Lib.atoiAll l with v | _ | _
  · exact Lib.atoiAll_bounds h
  · exact ⟨(by decide : (-9223372036854775808 : Int) ≤ 0), (by decide : (0 : Int) ≤ 9223372036854775807)⟩
  · exact Lib.atoiSat_bounds l
theorem atoiV_digs {z : Int} (h : Int64 z) : atoiV (digs z).data.toList = max z 0 := by
  unfold Int64 at h
  rw [digs_data, atoiV_digits _ (by omega)]
  omega
/-- The diagnostics that texts are, four and four. -/
def quadUp : List ByteArray → Option (List Dg)
  | m :: a :: c :: n :: r => if digs (atoiV a.data.toList) = a ∧ digs (atoiV c.data.toList) = c then (quadUp r).map (⟨m, atoiV a.data.toList, atoiV c.data.toList, n⟩ :: ·) else none
  | [] => some []
  | _ => none
theorem quadUp_short : ∀ (t : List ByteArray), t.length % 4 ≠ 0 → quadUp t = none
  | [], h => absurd rfl h
  | [_], _ => rfl
  | [_, _], _ => rfl
  | [_, _, _], _ => rfl
  | m :: a :: c :: n :: r, h => by
    unfold quadUp
    rw [quadUp_short r (by simp only [List.length_cons] at h; omega)]
    split <;> rfl
theorem quadUp_diagT (l : List Dg) (h : ∀ d ∈ l, OkD d ∧ 0 ≤ d.a ∧ 0 ≤ d.c) : quadUp (diagT l) = some l := by
  induction l with
  | nil => rfl
  | cons d l ih =>
    obtain ⟨h1, h2, h3⟩ := h d (List.mem_cons_self ..)
    have e1 : atoiV (digs d.a).data.toList = d.a := by rw [atoiV_digs h1.1]; omega
    have e2 : atoiV (digs d.c).data.toList = d.c := by rw [atoiV_digs h1.2]; omega
    show quadUp (d.m :: digs d.a :: digs d.c :: d.n :: diagT l) = _
    unfold quadUp
    rw [e1, e2, if_pos ⟨rfl, rfl⟩, ih (fun x hx => h x (List.mem_cons_of_mem _ hx))]
    rfl
def decDg (b : List UInt8) : Option (List Dg) := (decL b).bind quadUp
end Go.Proofs.YtkklofnabmdmfaaGreatDoor

/- The order of diagnostics, whole; lists that rise, lists in order (plain). -/
namespace Go.Proofs.YtkklofnabmdmfaaGreatDoor

/-- The first that is not nought. -/
def or4 (a b c d : Int) : Int := if a = 0 then if b = 0 then if c = 0 then d else c else b else a
def cmpD (p q : Dg) : Int := or4 (cmpS p.m q.m) (Lib.compareInt p.a q.a) (Lib.compareInt p.c q.c) (cmpS p.n q.n)
def ltD (p q : Dg) : Prop := cmpD p q < 0
instance (p q : Dg) : Decidable (ltD p q) := by unfold ltD; exact inferInstance
end Go.Proofs.YtkklofnabmdmfaaGreatDoor
