/- The document's Digits of any int, Text, Less, EncodeDiags, big, DecodeDiags, Sort. -/
import Derived.Deep.RegionHeld3
import Derived.Test.YtkklofnabmdmfaaGreatDoorBatAQq
import Derived.Test.YtkklofnabmdmfaaGreatDoorDgWQq
import Derived.Test.YtkklofnabmdmfaaGreatDoorDsPQq
import Derived.Test.YtkklofnabmdmfaaGreatDoorDgBQq
import Derived.Test.YtkklofnabmdmfaaGreatDoorRefCQq
namespace Go.Proofs.YtkklofnabmdmfaaGreatDoor
open Go.RowKit
set_option linter.unusedVariables false

set_option maxHeartbeats 4000000 in
set_option maxRecDepth 100000 in
theorem rdigitsZ_calls (z : Int) (hz : Int64 z) (w : World) : Calls Tryz.prog 87 #[.int .i64 z] w fun e w' => e = .returned (.string (itoaB z)) ∧ Mod NoneB w w' := by
  obtain ⟨hz1, hz2⟩ := hz
  have hlen := Lib.itoa_length_le z hz1 hz2
  by_cases hneg : z < 0
  · obtain ⟨n, hn⟩ : ∃ n : Nat, n = z.natAbs := ⟨_, rfl⟩
    have hit : Lib.itoa z = 45 :: Lib.decDigits n := by unfold Lib.itoa; rw [if_pos hneg, hn]
    have hl2 : (Lib.decDigits n).length ≤ 20 := by rw [hit, List.length_cons] at hlen; omega
    have HLEN := Lib.hid hl2
    have HIT := Lib.hid hit
    have c1 : IntKind.u64.wrap z = z + 18446744073709551616 := by rw [IntKind.wrap_u64]; omega
    have c2 : IntKind.u64.wrap (-(z + 18446744073709551616)) = (n : Int) := by rw [IntKind.wrap_u64]; omega
    clear hit hl2 hlen
    go_enter Tryz.func87, Tryz.ntmps87
    have hn9 : n ≤ 9223372036854775808 := by omega
    have HN := Lib.hid hn
    clear hn
    go_wp2_with fail
    go_loopw [3, 4] (fun uv sv wr => ∃ (u : Nat) (t : List UInt8), uv = .int .u64 u ∧ sv = .string (strOf t) ∧ u ≤ n ∧ Lib.decDigits n = Lib.decDigits u ++ t ∧ Mod NoneB w wr) (fun uv _ _ => (intOf uv).toNat)
    case atStart => exact ⟨n, [], by first | rfl | go_num | simp_all, by rfl, by omega, by simp, Mod.refl _ _⟩
    case round =>
      obtain ⟨u, t, rfl, rfl, hut, hdd, hm⟩ := hrel
      have htl : t.length ≤ 30 := by
        have h1 := congrArg List.length hdd
        rw [List.length_append] at h1
        have := HLEN.out
        omega
      have HDD := Lib.hid hdd
      clear hdd
      by_cases h10 : u < 10
      · have hd := Lib.decDigits_one h10
        have e1 : (u : Int) < 10 := by omega
        have hx : ((UInt8.ofNat (48 + u)).toNat : Int) = 48 + (u : Int) := by rw [UInt8.toNat_ofNat']; omega
        obtain ⟨x, hX⟩ : ∃ x, x = UInt8.ofNat (48 + u) := ⟨_, rfl⟩
        rw [← hX] at hd hx
        clear hX
        have hbx := box1 wr (.cells #[.int .u8 (48 + (u : Int))] 5)
        have hrd : Rd (wr.alloc (.cells #[.int .u8 (48 + (u : Int))] 5)) 1 (some ⟨wr.heap.size, 0, none⟩) 1 (encB [x]) := by
          have h := rd_blk (sz := 1) (n := 1) hbx rfl (by decide)
          have e : (#[Value.int .u8 (48 + (u : Int))] : Array Value).toList = encB [x] := by
            show [Value.int .u8 (48 + (u : Int))] = [Value.int .u8 (x.toNat : Int)]
            rw [hx]
          rw [e] at h
          exact h
        have hcv : (convert 25 9 (.slice (some ⟨wr.heap.size, 0, none⟩) 1 1)).run Tryz.prog (wr.alloc (.cells #[.int .u8 (48 + (u : Int))] 5)) = .ok (.string (strOf [x])) (wr.alloc (.cells #[.int .u8 (48 + (u : Int))] 5)) := conv_strN (by simp) hrd
        have hsz : ¬ (9223372036854775807 < (strOf [x]).size + (strOf t).size) := by rw [strOf_size, strOf_size]; simp; omega
        have hsy : ¬ (9223372036854775807 < (⟨#[45]⟩ : ByteArray).size + (strOf [x] ++ strOf t).size) := by
          rw [ByteArray.size_append, strOf_size, strOf_size]
          show ¬ (_ < 1 + (1 + t.length))
          omega
        have hsy2 : ¬ (9223372036854775807 < 1 + ((strOf [x]).size + (strOf t).size)) := by rw [strOf_size, strOf_size]; simp; omega
        have HM := Lib.hid (hm.alloc (.cells #[.int .u8 (48 + (u : Int))] 5))
        have HD := Lib.hid hd
        clear hbx hrd hd hm hx
        go_wp2_with fail
        go_ret
        refine ⟨?_, by repeat (first | exact HM.out | apply Mod.alloc)⟩
        unfold itoaB
        have e : Lib.itoa z = 45 :: Lib.decDigits n := HIT.out
        rw [e, show (⟨((45 : UInt8) :: Lib.decDigits n).toArray⟩ : ByteArray) = strOf ([45] ++ Lib.decDigits n) from rfl, HDD.out, HD.out, strOf_append, strOf_append]
        rfl
      · have hd := decDigits_big h10
        have hx := digit_toNat u
        have e1 : ¬ ((u : Int) < 10) := by omega
        obtain ⟨x, hX⟩ : ∃ x, x = UInt8.ofNat (48 + u % 10) := ⟨_, rfl⟩
        rw [← hX] at hd hx
        clear hX
        have hbx := box1 wr (.cells #[.int .u8 (48 + (u : Int) % 10)] 5)
        have hrd : Rd (wr.alloc (.cells #[.int .u8 (48 + (u : Int) % 10)] 5)) 1 (some ⟨wr.heap.size, 0, none⟩) 1 (encB [x]) := by
          have h := rd_blk (sz := 1) (n := 1) hbx rfl (by decide)
          have e : (#[Value.int .u8 (48 + (u : Int) % 10)] : Array Value).toList = encB [x] := by
            show [Value.int .u8 (48 + (u : Int) % 10)] = [Value.int .u8 (x.toNat : Int)]
            rw [hx]
          rw [e] at h
          exact h
        have hcv : (convert 25 9 (.slice (some ⟨wr.heap.size, 0, none⟩) 1 1)).run Tryz.prog (wr.alloc (.cells #[.int .u8 (48 + (u : Int) % 10)] 5)) = .ok (.string (strOf [x])) (wr.alloc (.cells #[.int .u8 (48 + (u : Int) % 10)] 5)) := conv_strN (by simp) hrd
        have hsz : ¬ (9223372036854775807 < (strOf [x]).size + (strOf t).size) := by rw [strOf_size, strOf_size]; simp; omega
        have HM := Lib.hid (hm.alloc (.cells #[.int .u8 (48 + (u : Int) % 10)] 5))
        have HD := Lib.hid hd
        clear hbx hrd hd hm hx
        go_wp2_with fail
        go_roundw
        case rel => exact ⟨u / 10, [x] ++ t, by go_num, by rw [strOf_append], by omega, by rw [HDD.out, HD.out, List.append_assoc], by repeat (first | exact HM.out | apply Mod.alloc)⟩
        case measure => simp [intOf]; omega
  · obtain ⟨n, hn⟩ : ∃ n : Nat, n = z.toNat := ⟨_, rfl⟩
    have hit : Lib.itoa z = Lib.decDigits n := by unfold Lib.itoa; rw [if_neg hneg, hn]
    have hl2 : (Lib.decDigits n).length ≤ 21 := by rw [hit] at hlen; omega
    have HLEN := Lib.hid hl2
    have HIT := Lib.hid hit
    obtain rfl : z = (n : Int) := by omega
    have c1 : IntKind.u64.wrap (n : Int) = (n : Int) := by rw [IntKind.wrap_u64]; omega
    clear hit hl2 hlen
    go_enter Tryz.func87, Tryz.ntmps87
    have hn9 : n ≤ 9223372036854775808 := by omega
    have HN := Lib.hid hn
    clear hn
    go_wp2_with fail
    go_loopw [3, 4] (fun uv sv wr => ∃ (u : Nat) (t : List UInt8), uv = .int .u64 u ∧ sv = .string (strOf t) ∧ u ≤ n ∧ Lib.decDigits n = Lib.decDigits u ++ t ∧ Mod NoneB w wr) (fun uv _ _ => (intOf uv).toNat)
    case atStart => exact ⟨n, [], by first | rfl | go_num | simp_all, by rfl, by omega, by simp, Mod.refl _ _⟩
    case round =>
      obtain ⟨u, t, rfl, rfl, hut, hdd, hm⟩ := hrel
      have htl : t.length ≤ 30 := by
        have h1 := congrArg List.length hdd
        rw [List.length_append] at h1
        have := HLEN.out
        omega
      have HDD := Lib.hid hdd
      clear hdd
      by_cases h10 : u < 10
      · have hd := Lib.decDigits_one h10
        have e1 : (u : Int) < 10 := by omega
        have hx : ((UInt8.ofNat (48 + u)).toNat : Int) = 48 + (u : Int) := by rw [UInt8.toNat_ofNat']; omega
        obtain ⟨x, hX⟩ : ∃ x, x = UInt8.ofNat (48 + u) := ⟨_, rfl⟩
        rw [← hX] at hd hx
        clear hX
        have hbx := box1 wr (.cells #[.int .u8 (48 + (u : Int))] 5)
        have hrd : Rd (wr.alloc (.cells #[.int .u8 (48 + (u : Int))] 5)) 1 (some ⟨wr.heap.size, 0, none⟩) 1 (encB [x]) := by
          have h := rd_blk (sz := 1) (n := 1) hbx rfl (by decide)
          have e : (#[Value.int .u8 (48 + (u : Int))] : Array Value).toList = encB [x] := by
            show [Value.int .u8 (48 + (u : Int))] = [Value.int .u8 (x.toNat : Int)]
            rw [hx]
          rw [e] at h
          exact h
        have hcv : (convert 25 9 (.slice (some ⟨wr.heap.size, 0, none⟩) 1 1)).run Tryz.prog (wr.alloc (.cells #[.int .u8 (48 + (u : Int))] 5)) = .ok (.string (strOf [x])) (wr.alloc (.cells #[.int .u8 (48 + (u : Int))] 5)) := conv_strN (by simp) hrd
        have hsz : ¬ (9223372036854775807 < (strOf [x]).size + (strOf t).size) := by rw [strOf_size, strOf_size]; simp; omega
        have hsy : ¬ (9223372036854775807 < (⟨#[45]⟩ : ByteArray).size + (strOf [x] ++ strOf t).size) := by
          rw [ByteArray.size_append, strOf_size, strOf_size]
          show ¬ (_ < 1 + (1 + t.length))
          omega
        have hsy2 : ¬ (9223372036854775807 < 1 + ((strOf [x]).size + (strOf t).size)) := by rw [strOf_size, strOf_size]; simp; omega
        have HM := Lib.hid (hm.alloc (.cells #[.int .u8 (48 + (u : Int))] 5))
        have HD := Lib.hid hd
        clear hbx hrd hd hm hx
        go_wp2_with fail
        go_ret
        refine ⟨?_, by repeat (first | exact HM.out | apply Mod.alloc)⟩
        unfold itoaB
        have e : Lib.itoa (n : Int) = Lib.decDigits n := HIT.out
        rw [e, show (⟨(Lib.decDigits n).toArray⟩ : ByteArray) = strOf (Lib.decDigits n) from rfl, HDD.out, HD.out, strOf_append]; rfl
      · have hd := decDigits_big h10
        have hx := digit_toNat u
        have e1 : ¬ ((u : Int) < 10) := by omega
        obtain ⟨x, hX⟩ : ∃ x, x = UInt8.ofNat (48 + u % 10) := ⟨_, rfl⟩
        rw [← hX] at hd hx
        clear hX
        have hbx := box1 wr (.cells #[.int .u8 (48 + (u : Int) % 10)] 5)
        have hrd : Rd (wr.alloc (.cells #[.int .u8 (48 + (u : Int) % 10)] 5)) 1 (some ⟨wr.heap.size, 0, none⟩) 1 (encB [x]) := by
          have h := rd_blk (sz := 1) (n := 1) hbx rfl (by decide)
          have e : (#[Value.int .u8 (48 + (u : Int) % 10)] : Array Value).toList = encB [x] := by
            show [Value.int .u8 (48 + (u : Int) % 10)] = [Value.int .u8 (x.toNat : Int)]
            rw [hx]
          rw [e] at h
          exact h
        have hcv : (convert 25 9 (.slice (some ⟨wr.heap.size, 0, none⟩) 1 1)).run Tryz.prog (wr.alloc (.cells #[.int .u8 (48 + (u : Int) % 10)] 5)) = .ok (.string (strOf [x])) (wr.alloc (.cells #[.int .u8 (48 + (u : Int) % 10)] 5)) := conv_strN (by simp) hrd
        have hsz : ¬ (9223372036854775807 < (strOf [x]).size + (strOf t).size) := by rw [strOf_size, strOf_size]; simp; omega
        have HM := Lib.hid (hm.alloc (.cells #[.int .u8 (48 + (u : Int) % 10)] 5))
        have HD := Lib.hid hd
        clear hbx hrd hd hm hx
        go_wp2_with fail
        go_roundw
        case rel => exact ⟨u / 10, [x] ++ t, by go_num, by rw [strOf_append], by omega, by rw [HDD.out, HD.out, List.append_assoc], by repeat (first | exact HM.out | apply Mod.alloc)⟩
        case measure => simp [intOf]; omega
end Go.Proofs.YtkklofnabmdmfaaGreatDoor
