/- Check sums: sum.Sum. -/
import Derived.Test.YtnoleekdldmagaaRecs
import Derived.Laws.BitsAllLaws
namespace Go.Proofs.Ytnoleekdldmagaa
open Go.RowKit
set_option linter.unusedVariables false

set_option maxHeartbeats 2000000 in
set_option maxRecDepth 100000 in
theorem more_calls (b : List UInt8) (A : Option Addr) (c : Nat) (w : World) (hr : Rd w 1 A b.length (encB b)) :
    Calls Try.prog 150 #[.int .i64 0, .slice A b.length c] w fun e w' => e = .returned (.int .i64 (crcB b : Nat)) ∧ w' = w := by
  have hn := hr.2.1
  go_enter Try.func150, Try.ntmps150
  go_wp2_with fail
  go_loopw [5, 7, 8, 14, 22] (fun cv x lo t k wr => ∃ j : Nat, t = .int .i64 j ∧ cv = .int .u32 (crcFrom 4294967295 (b.take j) : Nat) ∧ j ≤ b.length ∧ wr = w) (fun _ _ _ t _ _ => b.length - (intOf t).toNat)
  case atStart => exact ⟨0, rfl, rfl, by omega, rfl⟩
  case round =>
    obtain ⟨j, rfl, rfl, hj, rfl⟩ := hrel
    have hlt0 := crcFrom_lt (b.take j) (c := 4294967295) (by decide)
    by_cases hlt : j < b.length
    · obtain ⟨ad, rfl, h0⟩ := hr.bytes j hlt
      have htk : crcFrom 4294967295 (b.take (j + 1)) = crcByte (crcFrom 4294967295 (b.take j)) b[j] := by rw [List.take_succ_eq_append_getElem hlt, crcFrom_snoc]
      obtain ⟨c0, hc0⟩ : ∃ c0, c0 = crcFrom 4294967295 (b.take j) := ⟨_, rfl⟩
      obtain ⟨x, hx⟩ : ∃ x, x = b[j] := ⟨_, rfl⟩
      rw [← hc0] at hlt0 htk ⊢
      rw [← hx] at h0 htk
      have hxl := x.toNat_lt
      have HTK := Lib.hid htk
      clear hc0 hx htk
      have e1 : bits .xor .u32 (c0 : Int) (x.toNat : Int) = ((c0 ^^^ x.toNat : Nat) : Int) := u32_xor_nat _ _ hlt0 (by omega)
      have hlx : c0 ^^^ x.toNat < 4294967296 := Nat.xor_lt_two_pow (n := 32) hlt0 (by omega)
      have hcb : crcByte c0 x = crcBits 8 (c0 ^^^ x.toNat) := rfl
      have HCB := Lib.hid hcb
      go_wp2_with fail
      clear e1 hcb hlt0
      obtain ⟨c1, hc1⟩ : ∃ c1, c1 = c0 ^^^ x.toNat := ⟨_, rfl⟩
      rw [← hc1] at hlx HCB ⊢
      clear hc1
      go_loopw [5, 8, 22] (fun cv lo k wx => ∃ m : Nat, k = .int .i64 m ∧ cv = .int .u32 (crcBits m c1 : Nat) ∧ m ≤ 8 ∧ wx = wr) (fun _ _ k _ => 8 - (intOf k).toNat)
      case atStart => exact ⟨0, rfl, rfl, by omega, rfl⟩
      case round =>
        obtain ⟨m, rfl, rfl, hm, rfl⟩ := hrel
        have hl1 := crcBits_lt m hlx
        have hst : crcBits (m + 1) c1 = crcBit (crcBits m c1) := rfl
        obtain ⟨d, hd⟩ : ∃ d, d = crcBits m c1 := ⟨_, rfl⟩
        rw [← hd] at hl1 hst ⊢
        have HST := Lib.hid hst
        have HD := Lib.hid hd
        clear hd hst
        by_cases hlm : m < 8
        · by_cases hodd : d % 2 = 1
          · have hb : crcBit d = (d / 2) ^^^ 3988292384 := if_pos hodd
            have e2 : bits .xor .u32 ((d : Int) / 2) 3988292384 = (((d / 2) ^^^ 3988292384 : Nat) : Int) := u32_xor_nat (d / 2) 3988292384 (by omega) (by decide)
            have e3 : (bits .and .u32 (d : Int) 1 == 1) = true := by
              have h := u32_and_nat d 1 hl1 (by decide)
              rw [nat_mask1] at h
              simp only [Int.natCast_one] at h
              rw [h]; simp; omega
            have HB := Lib.hid hb
            clear hb hodd
            go_wp2_with fail
            go_roundw
            case rel => exact ⟨m + 1, by go_num, by rw [HST.out, HB.out], by omega, by trivial⟩
            case measure => simp [intOf]; omega
          · have hb : crcBit d = d / 2 := if_neg hodd
            have e3 : (bits .and .u32 (d : Int) 1 == 1) = false := by
              have h := u32_and_nat d 1 hl1 (by decide)
              rw [nat_mask1] at h
              simp only [Int.natCast_one] at h
              rw [h]; simp; omega
            have HB := Lib.hid hb
            clear hb hodd
            go_wp2_with fail
            go_roundw
            case rel => exact ⟨m + 1, by go_num, by rw [HST.out, HB.out]; rfl, by omega, by trivial⟩
            case measure => simp [intOf]; omega
        · obtain rfl : m = 8 := by omega
          go_wp2_with fail
          go_roundw
          case rel => exact ⟨j + 1, by go_num, by rw [HTK.out, HCB.out, HD.out], by omega, by trivial⟩
          case measure => simp [intOf]; omega
    · have hje : j = b.length := by omega
      subst hje
      rw [List.take_length] at hlt0 ⊢
      have e1 : bits .xor .u32 ((crcFrom 4294967295 b : Nat) : Int) 4294967295 = (crcB b : Nat) := u32_xor_nat _ _ hlt0 (by decide)
      have hl := crcB_lt b
      go_wp2_with fail
      go_ret
      exact ⟨rfl, rfl⟩
set_option maxHeartbeats 2000000 in
set_option maxRecDepth 100000 in
theorem sum_calls (b : List UInt8) (A : Option Addr) (c : Nat) (w : World) (hr : Rd w 1 A b.length (encB b)) :
    Calls Try.prog 131 #[.slice A b.length c] w fun e w' => e = .returned (.int .i64 (crcB b : Nat)) ∧ w' = w := by
  go_enter Try.func131, Try.ntmps131
  go_wp2_with (with_reducible refine (more_calls b A c _ hr).mono ?_; rintro e wz ⟨rfl, rfl⟩)
  go_ret
  exact ⟨rfl, rfl⟩
end Go.Proofs.Ytnoleekdldmagaa
