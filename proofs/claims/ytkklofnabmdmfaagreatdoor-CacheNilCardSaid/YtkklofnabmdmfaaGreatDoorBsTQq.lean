/- slices.BinarySearch at texts. -/
import Derived.Test.YtkklofnabmdmfaaGreatDoorOrdMapQq
import Derived.Test.YtkklofnabmdmfaaGreatDoorInsTQq
namespace Go.Proofs.YtkklofnabmdmfaaGreatDoor
open Go.RowKit
set_option linter.unusedVariables false

/-- Texts as the keys of a map. -/
def asK (l : List ByteArray) : List Pr := l.map fun s => ⟨s, ⟨#[]⟩⟩
theorem asK_length (l : List ByteArray) : (asK l).length = l.length := by unfold asK; rw [List.length_map]
theorem asK_at (l : List ByteArray) (i : Nat) (h : i < l.length) (h2 : i < (asK l).length) : (asK l)[i].k = l[i] := congrArg Pr.k (List.getElem_map (fun s => (⟨s, ⟨#[]⟩⟩ : Pr)) (l := l) (i := i) (h := h2))
theorem nan1_calls (s : ByteArray) (w : World) : Calls Tryz.prog 68 #[.string s] w fun e w' => e = .returned (.bool false) ∧ w' = w := by
  have b : (s.toList == s.toList) = true := beq_self_eq_true _
  go_enter Tryz.func68, Tryz.ntmps68
  go_wp2_with fail
  go_ret
  exact ⟨rfl, rfl⟩
theorem nan2_calls (s : ByteArray) (w : World) : Calls Tryz.prog 37 #[.string s] w fun e w' => e = .returned (.bool false) ∧ w' = w := by
  have b : (s.toList == s.toList) = true := beq_self_eq_true _
  go_enter Tryz.func37, Tryz.ntmps37
  go_wp2_with fail
  go_ret
  exact ⟨rfl, rfl⟩
set_option maxHeartbeats 1000000 in
set_option maxRecDepth 100000 in
theorem lessS_calls (a b : ByteArray) (w : World) : Calls Tryz.prog 36 #[.string a, .string b] w fun e w' => e = .returned (.bool (decide (cmpS a b < 0))) ∧ Mod NoneB w w' := by
  have hl := less_cmpS a b
  go_enter Tryz.func36, Tryz.ntmps36
  go_wp2_with ((with_reducible refine (nan1_calls _ _).mono ?_); rintro ez wz ⟨rfl, hwz⟩; have hwz2 := hwz.symm; clear hwz; subst hwz2)
  go_ret
  exact ⟨rfl, Mod.refl _ _⟩
set_option maxHeartbeats 2000000 in
set_option maxRecDepth 100000 in
theorem bsearchT_calls (l : List ByteArray) (key : ByteArray) (A : Option Addr) (c : Nat) (w : World) (hp : Parts (asK l) key) (hr : Rd w 1 A l.length (encTs l)) (hlen : l.length ≤ 4611686018427387904) :
    Calls Tryz.prog 22 #[.slice A l.length c, .string key] w fun e w' => e = .returned (.tuple #[.int .i64 (lb (asK l) key), .bool (hitB (asK l) key)]) ∧ Mod NoneB w w' := by
  have hlb := lb_le (asK l) key
  rw [asK_length] at hlb
  have HP := Lib.hid hp
  clear hp
  go_enter Tryz.func22, Tryz.ntmps22
  go_wp2_with fail
  go_loopw [7, 8, 9] (fun i j _ wr => ∃ a b : Nat, i = .int .i64 a ∧ j = .int .i64 b ∧ a ≤ lb (asK l) key ∧ lb (asK l) key ≤ b ∧ b ≤ l.length ∧ Mod NoneB w wr)
    (fun i j _ _ => (intOf j - intOf i).toNat)
  case atStart => exact ⟨0, l.length, rfl, rfl, by omega, hlb, by omega, Mod.refl _ _⟩
  case round =>
    obtain ⟨a, b, rfl, rfl, ha, hb, hbl, hm⟩ := hrel
    by_cases hlt : a < b
    · have hml : (a + b) / 2 < l.length := by omega
      obtain ⟨ad, hA, h0, _⟩ := Rd.elem (f := encT) (fun _ => rfl) hr (by decide) ((a + b) / 2) hml
      subst hA
      replace h0 := hm.cell0 (h0 _ rfl)
      rw [Nat.mul_one] at h0
      have hpm := HP.out ((a + b) / 2) (by rw [asK_length]; exact hml)
      rw [asK_at l _ hml] at hpm
      obtain ⟨q, hq⟩ : ∃ q, q = l[(a + b) / 2] := ⟨_, rfl⟩
      rw [← hq] at h0 hpm
      have HPM := Lib.hid hpm
      clear hq hpm
      by_cases hc : cmpS q key < 0
      · have hc' : decide (cmpS q key < 0) = true := by simpa using hc
        have hlt2 : (a + b) / 2 < lb (asK l) key := HPM.out.1 hc
        go_wp2_with ((with_reducible refine (lessS_calls q key _).mono ?_); rintro e w1 ⟨rfl, hm1⟩)
        go_roundw
        case rel => exact ⟨(a + b) / 2 + 1, b, by go_num, rfl, by omega, hb, hbl, hm.then0 hm1⟩
        case measure => simp [intOf]; omega
      · have hc' : decide (cmpS q key < 0) = false := by simpa using hc
        have hlt2 : lb (asK l) key ≤ (a + b) / 2 := Nat.le_of_not_lt fun h => hc (HPM.out.2 h)
        go_wp2_with ((with_reducible refine (lessS_calls q key _).mono ?_); rintro e w1 ⟨rfl, hm1⟩)
        go_roundw
        case rel => exact ⟨a, (a + b) / 2, rfl, by go_num, ha, by omega, by omega, hm.then0 hm1⟩
        case measure => simp [intOf]; omega
    · obtain rfl : a = lb (asK l) key := by omega
      by_cases hin : lb (asK l) key < l.length
      · obtain ⟨ad, hA, h0, _⟩ := Rd.elem (f := encT) (fun _ => rfl) hr (by decide) (lb (asK l) key) hin
        subst hA
        replace h0 := hm.cell0 (h0 _ rfl)
        rw [Nat.mul_one] at h0
        have hh : hitB (asK l) key = decide (l[lb (asK l) key] = key) := by
          unfold hitB
          rw [dif_pos (by rw [asK_length]; exact hin), asK_at l _ hin]
          exact decide_eq_decide.2 (cmpS_iff _ _)
        obtain ⟨q, hq⟩ : ∃ q, q = l[lb (asK l) key] := ⟨_, rfl⟩
        rw [← hq] at h0 hh
        have hbq := beq_toList q key
        obtain ⟨bh, hbh⟩ : ∃ bh, bh = decide (q = key) := ⟨_, rfl⟩
        rw [← hbh] at hh hbq
        have HH := Lib.hid hh
        clear hq hh hbh
        have g2 : ((lb (asK l) key : Nat) : Int) < l.length := by omega
        have g1 : (0 : Int) ≤ (lb (asK l) key : Nat) := by omega
        cases bh with
        | true =>
          go_wp2_with ((with_reducible refine (nan2_calls _ _).mono ?_); rintro ez wz ⟨rfl, hwz⟩; have hwz2 := hwz.symm; clear hwz; subst hwz2)
          go_ret2
          exact ⟨by rw [HH.out]; rfl, hm⟩
        | false =>
          go_wp2_with ((with_reducible refine (nan2_calls _ _).mono ?_); rintro ez wz ⟨rfl, hwz⟩; have hwz2 := hwz.symm; clear hwz; subst hwz2)
          go_ret2
          exact ⟨by rw [HH.out]; rfl, hm⟩
      · have hh : hitB (asK l) key = false := by unfold hitB; rw [dif_neg (by rw [asK_length]; exact hin)]
        have HH := Lib.hid hh
        clear hh
        go_wp2_with fail
        go_ret2
        exact ⟨by rw [HH.out]; rfl, hm⟩
end Go.Proofs.YtkklofnabmdmfaaGreatDoor
