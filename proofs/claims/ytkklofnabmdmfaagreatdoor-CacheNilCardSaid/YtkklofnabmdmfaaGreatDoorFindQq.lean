/- The search for a key among pairs (table.find): what it answers at a list whose keys rise. -/
import Derived.Test.YtkklofnabmdmfaaGreatDoorOrdMapQq
import Derived.Test.YtkklofnabmdmfaaGreatDoorShelfQq
import Derived.Test.YtkklofnabmdmfaaGreatDoorAfterQq
namespace Go.Proofs.YtkklofnabmdmfaaGreatDoor
open Go.RowKit

def encP (p : Pr) : List Value := [.string p.k, .string p.v]
def encPs (l : List Pr) : List Value := l.flatMap encP
theorem encPs_length (l : List Pr) : (encPs l).length = l.length * 2 := by
  unfold encPs
  induction l with
  | nil => rfl
  | cons x l ih => rw [List.flatMap_cons, List.length_append, ih, List.length_cons]; simp [encP]; omega
theorem encPs_one (l : List Pr) : ∀ u ∈ encPs l, u.oneCell' = true := by
  intro u hu
  unfold encPs at hu
  obtain ⟨p, _, hu⟩ := List.mem_flatMap.1 hu
  simp [encP] at hu
  rcases hu with rfl | rfl <;> rfl
theorem encPs_split (l : List Pr) (i : Nat) : encPs l = encPs (l.take i) ++ encPs (l.drop i) := by unfold encPs; rw [← List.flatMap_append, List.take_append_drop]
theorem encPs_get (l : List Pr) (i : Nat) (h : i < l.length) : (encPs l)[i * 2]? = some (.string l[i].k) ∧ (encPs l)[i * 2 + 1]? = some (.string l[i].v) := by
  unfold encPs
  induction l generalizing i with
  | nil => simp at h
  | cons x l ih =>
    rw [List.flatMap_cons]
    cases i with
    | zero => simp [encP]
    | succ i =>
      have := ih i (by simpa using h)
      have e1 : (i + 1) * 2 = (encP x).length + i * 2 := by simp [encP]; omega
      rw [e1, Nat.add_assoc, List.getElem?_append_right (by omega), List.getElem?_append_right (by omega)]
      simpa using this
theorem addr_field (ad : Addr) (m j : Nat) (hj : 0 < j) : ad.add (m + j) = ⟨(ad.add m).block, (ad.add m).off + j, none⟩ := by
  unfold Addr.add
  by_cases hm : m = 0
  · subst hm
    simp [Nat.ne_of_gt hj]
  · simp [hm, Nat.add_assoc]
/-- Element i of a row of pairs. -/
theorem Rd.pair {w : World} {A : Option Addr} {n : Nat} {l : List Pr} (h : Rd w 2 A n (encPs l)) (i : Nat) (hi : i < l.length) :
    ∃ ad, A = some ad ∧ w.cell? (ad.add (i * 2)) = some (.string l[i].k) ∧ w.cell? ⟨(ad.add (i * 2)).block, (ad.add (i * 2)).off + 1, none⟩ = some (.string l[i].v) := by
  have hl : l.length = n := by have := h.1; rw [encPs_length] at this; omega
  obtain ⟨ad, e, hc⟩ := h.2.2 (by omega)
  have hg := encPs_get l i hi
  exact ⟨ad, e, hc _ _ hg.1, by rw [← addr_field _ _ 1 (by omega)]; exact hc _ _ hg.2⟩

set_option maxHeartbeats 400000 in
theorem findS1_calls (p : Pr) (key : ByteArray) (w : World) :
    Calls Tryz.prog 100 #[.agg #[.string p.k, .string p.v], .string key] w fun e w' => e = .returned (.int .i64 (cmpS p.k key)) ∧ Mod NoneB w w' := by
  go_enter Tryz.func100, Tryz.ntmps100
  go_wp2_with ((with_reducible refine (strings_Compare _ _ _).mono ?_); rintro e w' ⟨rfl, rfl⟩)
  go_ret
  exact ⟨rfl, (Mod.refl _ _).alloc _⟩

set_option maxHeartbeats 1000000 in
theorem bsearchP_calls (l : List Pr) (key : ByteArray) (A : Option Addr) (c : Nat) (w : World) (hp : Parts l key) (hr : Rd w 2 A l.length (encPs l)) (hlen : l.length ≤ 4611686018427387904) :
    Calls Tryz.prog 99 #[.slice A l.length c, .string key, .func (.func 100) #[] #[]] w fun e w' =>
      e = .returned (.tuple #[.int .i64 (lb l key), .bool (hitB l key)]) ∧ Mod NoneB w w' := by
  have hlb := lb_le l key
  go_enter Tryz.func99, Tryz.ntmps99
  go_wp2_with fail
  go_loopw [9, 10] (fun i j wr => ∃ a b : Nat, i = .int .i64 a ∧ j = .int .i64 b ∧ a ≤ lb l key ∧ lb l key ≤ b ∧ b ≤ l.length ∧ Mod NoneB w wr)
    (fun i j _ => (intOf j - intOf i).toNat)
  case atStart => exact ⟨0, l.length, rfl, rfl, by omega, hlb, by omega, Mod.refl _ _⟩
  case round =>
    obtain ⟨a, b, rfl, rfl, ha, hb, hbl, hm⟩ := hrel
    by_cases hlt : a < b
    · have hml : (a + b) / 2 < l.length := by omega
      obtain ⟨ad, rfl, h0, h1⟩ := hr.pair ((a + b) / 2) hml
      replace h0 := hm.cell0 h0
      replace h1 := hm.cell0 h1
      obtain ⟨q, hq⟩ : ∃ q, q = l[(a + b) / 2] := ⟨_, rfl⟩
      rw [← hq] at h0 h1
      have HQ := Lib.hid hq
      clear hq
      by_cases hc : cmpS q.k key < 0
      · have hc' : decide (cmpS q.k key < 0) = true := by simpa using hc
        have hlt2 : (a + b) / 2 < lb l key := (hp _ hml).1 (by rw [← HQ.out]; exact hc)
        go_wp2_with ((with_reducible refine (findS1_calls q key _).mono ?_); rintro e w1 ⟨rfl, hm1⟩)
        go_roundw
        case rel => exact ⟨(a + b) / 2 + 1, b, by go_num, rfl, by omega, hb, hbl, hm.then0 hm1⟩
        case measure => simp [intOf]; omega
      · have hc' : decide (cmpS q.k key < 0) = false := by simpa using hc
        have hlt2 : lb l key ≤ (a + b) / 2 := Nat.le_of_not_lt fun h => hc (by have := (hp _ hml).2 h; rwa [← HQ.out] at this)
        go_wp2_with ((with_reducible refine (findS1_calls q key _).mono ?_); rintro e w1 ⟨rfl, hm1⟩)
        go_roundw
        case rel => exact ⟨a, (a + b) / 2, rfl, by go_num, ha, by omega, by omega, hm.then0 hm1⟩
        case measure => simp [intOf]; omega
    · obtain rfl : a = lb l key := by omega
      by_cases hin : lb l key < l.length
      · obtain ⟨ad, rfl, h0, h1⟩ := hr.pair (lb l key) hin
        replace h0 := hm.cell0 h0
        replace h1 := hm.cell0 h1
        have hh : hitB l key = decide (cmpS l[lb l key].k key = 0) := by unfold hitB; rw [dif_pos hin]
        obtain ⟨q, hq⟩ : ∃ q, q = l[lb l key] := ⟨_, rfl⟩
        rw [← hq] at h0 h1 hh
        have HH := Lib.hid hh
        clear hq hh
        go_wp2_with ((with_reducible refine (findS1_calls q key _).mono ?_); rintro e w1 ⟨rfl, hm1⟩)
        go_ret2
        exact ⟨by rw [HH.out]; rfl, hm.then0 hm1⟩
      · have hh : hitB l key = false := by unfold hitB; rw [dif_neg hin]
        have HH := Lib.hid hh
        clear hh
        go_wp2_with fail
        go_ret2
        exact ⟨by rw [HH.out]; rfl, hm⟩

/-- table.find: a key's place among pairs, and whether it is there. -/
theorem find_calls (l : List Pr) (key : ByteArray) (A : Option Addr) (c : Nat) (w : World) (hp : Parts l key) (hr : Rd w 2 A l.length (encPs l)) (hlen : l.length ≤ 4611686018427387904) :
    Calls Tryz.prog 62 #[.slice A l.length c, .string key] w fun e w' =>
      e = .returned (.tuple #[.int .i64 (lb l key), .bool (hitB l key)]) ∧ Mod NoneB w w' := by
  go_enter Tryz.func62, Tryz.ntmps62
  go_wp2_with ((with_reducible refine (bsearchP_calls l key A c _ hp hr hlen).mono ?_); rintro e w1 ⟨rfl, hm1⟩)
  go_ret2
  exact ⟨rfl, hm1⟩
end Go.Proofs.YtkklofnabmdmfaaGreatDoor
