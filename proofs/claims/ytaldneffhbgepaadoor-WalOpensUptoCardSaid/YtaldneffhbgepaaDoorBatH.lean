/- The document's Digits. -/
import Derived.Test.YtaldneffhbgepaaDoorBatF
namespace Go.Proofs.YtaldneffhbgepaaDoor
open Go.RowKit
set_option linter.unusedVariables false

theorem decDigits_big {u : Nat} (h : ¬ u < 10) : Lib.decDigits u = Lib.decDigits (u / 10) ++ [UInt8.ofNat (48 + u % 10)] := by rw [Lib.decDigits, dif_neg h]
theorem digit_toNat (u : Nat) : ((UInt8.ofNat (48 + u % 10)).toNat : Int) = 48 + (u : Int) % 10 := by
  rw [UInt8.toNat_ofNat']
  omega
set_option maxHeartbeats 2000000 in
set_option maxRecDepth 100000 in
theorem rdigits_calls (n : Nat) (w : World) (hn : n ≤ 1000000) :
    Calls Tryd.prog 26 #[.int .i64 n] w fun e w' => e = .returned (.string (digitsB n)) ∧ Mod NoneB w w' := by
  have b0 : ¬ ((n : Int) < 0) := by omega
  go_enter Tryd.func26, Tryd.ntmps26
  go_wp2_with fail
  go_loopw [3, 4] (fun uv sv wr => ∃ (u : Nat) (t : List UInt8), uv = .int .u64 u ∧ sv = .string (strOf t) ∧ u + t.length ≤ n ∧ Lib.decDigits n = Lib.decDigits u ++ t ∧ Mod NoneB w wr) (fun uv _ _ => (intOf uv).toNat)
  case atStart => exact ⟨n, [], by first | rfl | go_num, by rfl, by simp, by simp, Mod.refl _ _⟩
  case round =>
    obtain ⟨u, t, rfl, rfl, hut, hdd, hm⟩ := hrel
    have HDD := Lib.hid hdd
    clear hdd
    by_cases h10 : u < 10
    · have hd := Lib.decDigits_one h10
      have e1 : (u : Int) < 10 := by omega
      have hx : ((UInt8.ofNat (48 + u)).toNat : Int) = 48 + (u : Int) := by rw [UInt8.toNat_ofNat']; omega
      obtain ⟨x, hX⟩ : ∃ x, x = UInt8.ofNat (48 + u) := ⟨_, rfl⟩
      rw [← hX] at hd hx
      clear hX
      have hbx := box1 wr (.cells #[.int .u8 (48 + (u : Int))] 5)
      have hrd : Rd (wr.alloc (.cells #[.int .u8 (48 + (u : Int))] 5)) 1 (some ⟨wr.heap.size, 0, none⟩) 1 (encB [x]) := by
        have h := rd_blk (sz := 1) (n := 1) hbx rfl (by decide)
        have e : (#[Value.int .u8 (48 + (u : Int))] : Array Value).toList = encB [x] := by
          show [Value.int .u8 (48 + (u : Int))] = [Value.int .u8 (x.toNat : Int)]
          rw [hx]
        rw [e] at h
        exact h
      have hcv : (convert 26 9 (.slice (some ⟨wr.heap.size, 0, none⟩) 1 1)).run Tryd.prog (wr.alloc (.cells #[.int .u8 (48 + (u : Int))] 5)) = .ok (.string (strOf [x])) (wr.alloc (.cells #[.int .u8 (48 + (u : Int))] 5)) := conv_strN (by simp) hrd
      have hsz : ¬ (9223372036854775807 < (strOf [x]).size + (strOf t).size) := by rw [strOf_size, strOf_size]; simp; omega
      have HM := Lib.hid (hm.alloc (.cells #[.int .u8 (48 + (u : Int))] 5))
      have HD := Lib.hid hd
      clear hbx hrd hd hm hx
      go_wp2_with fail
      go_ret
      refine ⟨?_, by repeat (first | exact HM.out | apply Mod.alloc)⟩
      unfold digitsB
      rw [HDD.out, HD.out, strOf_append]
      rfl
    · have hd := decDigits_big h10
      have hx := digit_toNat u
      have e1 : ¬ ((u : Int) < 10) := by omega
      obtain ⟨x, hX⟩ : ∃ x, x = UInt8.ofNat (48 + u % 10) := ⟨_, rfl⟩
      rw [← hX] at hd hx
      clear hX
      have hbx := box1 wr (.cells #[.int .u8 (48 + (u : Int) % 10)] 5)
      have hrd : Rd (wr.alloc (.cells #[.int .u8 (48 + (u : Int) % 10)] 5)) 1 (some ⟨wr.heap.size, 0, none⟩) 1 (encB [x]) := by
        have h := rd_blk (sz := 1) (n := 1) hbx rfl (by decide)
        have e : (#[Value.int .u8 (48 + (u : Int) % 10)] : Array Value).toList = encB [x] := by
          show [Value.int .u8 (48 + (u : Int) % 10)] = [Value.int .u8 (x.toNat : Int)]
          rw [hx]
        rw [e] at h
        exact h
      have hcv : (convert 26 9 (.slice (some ⟨wr.heap.size, 0, none⟩) 1 1)).run Tryd.prog (wr.alloc (.cells #[.int .u8 (48 + (u : Int) % 10)] 5)) = .ok (.string (strOf [x])) (wr.alloc (.cells #[.int .u8 (48 + (u : Int) % 10)] 5)) := conv_strN (by simp) hrd
      have hsz : ¬ (9223372036854775807 < (strOf [x]).size + (strOf t).size) := by rw [strOf_size, strOf_size]; simp; omega
      have HM := Lib.hid (hm.alloc (.cells #[.int .u8 (48 + (u : Int) % 10)] 5))
      have HD := Lib.hid hd
      clear hbx hrd hd hm hx
      go_wp2_with fail
      go_roundw
      case rel => exact ⟨u / 10, [x] ++ t, by go_num, by rw [strOf_append], by simp; omega, by rw [HDD.out, HD.out, List.append_assoc], by repeat (first | exact HM.out | apply Mod.alloc)⟩
      case measure => simp [intOf]; omega
end Go.Proofs.YtaldneffhbgepaaDoor

