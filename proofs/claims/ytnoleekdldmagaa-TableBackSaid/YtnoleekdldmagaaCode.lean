/- Numbers as four bytes: code.U32, code.Get. -/
import Derived.Test.YtnoleekdldmagaaRecs
import Derived.Laws.BitsAllLaws
namespace Go.Proofs.Ytnoleekdldmagaa
open Go.RowKit
set_option linter.unusedVariables false

set_option maxHeartbeats 2000000 in
set_option maxRecDepth 100000 in
theorem u32_calls (n : Nat) (w : World) (hn : n < 4294967296) :
    Calls Try.prog 130 #[.int .i64 n] w fun e w' => e = .returned (.slice (some ⟨w.heap.size, 0, none⟩) 4 4) ∧ w'.heap[w.heap.size]? = some (.cells (encB (u32 n)).toArray 5 (0, 0)) ∧ Mod NoneB w w' := by
  have hc : (encB (u32 n)).toArray = #[.int .u8 ((n : Int) / 16777216), .int .u8 ((n : Int) / 65536 % 256), .int .u8 ((n : Int) / 256 % 256), .int .u8 ((n : Int) % 256)] := by
    simp [encB, u32]
    omega
  have HC := Lib.hid hc
  clear hc
  go_enter Try.func130, Try.ntmps130
  go_wp2_with fail
  go_ret
  refine ⟨rfl, ?_, (Mod.refl NoneB w).alloc _⟩
  rw [HC.out]
  exact heap_alloc_new w _

theorem add_succ (ad : Addr) (i : Nat) : ad.add (i + 1) = ⟨ad.block, ad.off + (i + 1), none⟩ := by unfold Addr.add; split <;> simp_all
theorem i64_or (i : Nat) (x y : Int) (hx0 : 0 ≤ x) (hx : x % 2 ^ i = 0) (hx1 : x < 2 ^ 63) (hy0 : 0 ≤ y) (hy : y < 2 ^ i) (hy1 : y < 2 ^ 63) : bits .or .i64 x y = x + y :=
  bits_join .i64 63 (by decide) (fun n h0 h1 => IntWalk.i64_in _ (by omega)) i x y hx0 hx hx1 hy0 hy hy1
def getV4 (b : List UInt8) (i : Nat) : Nat := (get4 (b.drop i)).getD 0
def getB4 (b : List UInt8) (i : Nat) : Bool := (get4 (b.drop i)).isSome
set_option maxHeartbeats 2000000 in
set_option maxRecDepth 100000 in
theorem cget_calls (b : List UInt8) (i : Nat) (A : Option Addr) (c : Nat) (w : World) (hr : Rd w 1 A b.length (encB b)) (hi : i ≤ 4611686018427387904) :
    Calls Try.prog 132 #[.slice A b.length c, .int .i64 i] w fun e w' => e = .returned (.tuple #[.int .i64 (getV4 b i : Nat), .bool (getB4 b i)]) ∧ Mod NoneB w w' := by
  have hn := hr.2.1
  by_cases hlt : i + 4 ≤ b.length
  · have hg := get4_at b i hlt
    have hv : getV4 b i = b[i].toNat * 16777216 + b[i + 1].toNat * 65536 + b[i + 2].toNat * 256 + b[i + 3].toNat := by unfold getV4; rw [hg]; rfl
    have hb : getB4 b i = true := by unfold getB4; rw [hg]; rfl
    obtain ⟨ad, rfl, h0⟩ := hr.bytes i (by omega)
    obtain ⟨ad', e, h1⟩ := hr.bytes (i + 1) (by omega)
    cases e
    obtain ⟨ad', e, h2⟩ := hr.bytes (i + 2) (by omega)
    cases e
    obtain ⟨ad', e, h3⟩ := hr.bytes (i + 3) (by omega)
    cases e
    obtain ⟨x0, hx0⟩ : ∃ x, x = b[i].toNat := ⟨_, rfl⟩
    obtain ⟨x1, hx1⟩ : ∃ x, x = b[i + 1].toNat := ⟨_, rfl⟩
    obtain ⟨x2, hx2⟩ : ∃ x, x = b[i + 2].toNat := ⟨_, rfl⟩
    obtain ⟨x3, hx3⟩ : ∃ x, x = b[i + 3].toNat := ⟨_, rfl⟩
    have l0 : x0 < 256 := by rw [hx0]; exact UInt8.toNat_lt _
    have l1 : x1 < 256 := by rw [hx1]; exact UInt8.toNat_lt _
    have l2 : x2 < 256 := by rw [hx2]; exact UInt8.toNat_lt _
    have l3 : x3 < 256 := by rw [hx3]; exact UInt8.toNat_lt _
    rw [← hx0] at h0 hv
    rw [← hx1] at h1 hv
    rw [← hx2] at h2 hv
    rw [← hx3] at h3 hv
    have HV := Lib.hid hv
    have HB := Lib.hid hb
    clear hg hv hb hx0 hx1 hx2 hx3
    go_enter Try.func132, Try.ntmps132
    go_wp2_with fail
    have a1 : w.cell? ⟨ad.block, ad.off + (i + 1), none⟩ = some (.int .u8 x1) := by rw [← add_succ]; exact h1
    have a2 : w.cell? ⟨ad.block, ad.off + (i + 2), none⟩ = some (.int .u8 x2) := by rw [← add_succ]; exact h2
    have a3 : w.cell? ⟨ad.block, ad.off + (i + 3), none⟩ = some (.int .u8 x3) := by rw [← add_succ]; exact h3
    have w0 : IntKind.i64.wrap (x0 : Int) = x0 := IntWalk.i64_in _ (by omega)
    have w1 : IntKind.i64.wrap (x1 : Int) = x1 := IntWalk.i64_in _ (by omega)
    have w2 : IntKind.i64.wrap (x2 : Int) = x2 := IntWalk.i64_in _ (by omega)
    have w3 : IntKind.i64.wrap (x3 : Int) = x3 := IntWalk.i64_in _ (by omega)
    have s0 : IntKind.i64.wrap ((x0 : Int) * 16777216) = x0 * 16777216 := IntWalk.i64_in _ (by omega)
    have s1 : IntKind.i64.wrap ((x1 : Int) * 65536) = x1 * 65536 := IntWalk.i64_in _ (by omega)
    have s2 : IntKind.i64.wrap ((x2 : Int) * 256) = x2 * 256 := IntWalk.i64_in _ (by omega)
    have o1 : bits .or .i64 ((x0 : Int) * 16777216) ((x1 : Int) * 65536) = x0 * 16777216 + x1 * 65536 := i64_or 24 _ _ (by omega) (by omega) (by omega) (by omega) (by omega) (by omega)
    have o2 : bits .or .i64 ((x0 : Int) * 16777216 + x1 * 65536) ((x2 : Int) * 256) = x0 * 16777216 + x1 * 65536 + x2 * 256 := i64_or 16 _ _ (by omega) (by omega) (by omega) (by omega) (by omega) (by omega)
    have o3 : bits .or .i64 ((x0 : Int) * 16777216 + x1 * 65536 + x2 * 256) (x3 : Int) = x0 * 16777216 + x1 * 65536 + x2 * 256 + x3 := i64_or 8 _ _ (by omega) (by omega) (by omega) (by omega) (by omega) (by omega)
    have e1 : IntKind.i64.wrap ((i : Int) + 1) = i + 1 := IntWalk.i64_in _ (by omega)
    have e2 : IntKind.i64.wrap ((i : Int) + 2) = i + 2 := IntWalk.i64_in _ (by omega)
    have e3 : IntKind.i64.wrap ((i : Int) + 3) = i + 3 := IntWalk.i64_in _ (by omega)
    have t1 : ((i : Int) + 1).toNat = i + 1 := by omega
    have t2 : ((i : Int) + 2).toNat = i + 2 := by omega
    have t3 : ((i : Int) + 3).toNat = i + 3 := by omega
    have g0 : (0 : Int) ≤ i := by omega
    have g1 : (0 : Int) ≤ i + 1 := by omega
    have g2 : (0 : Int) ≤ i + 2 := by omega
    have g3 : (0 : Int) ≤ i + 3 := by omega
    have k0 : (i : Int) < b.length := by omega
    have k1 : (i : Int) + 1 < b.length := by omega
    have k2 : (i : Int) + 2 < b.length := by omega
    have k3 : (i : Int) + 3 < b.length := by omega
    go_quiet (fail)
    clear e1 e2 e3 t1 t2 t3 g0 g1 g2 g3 k0 k1 k2 k3
    have hmq : Mod NoneB w (w.drewN nq) := (Mod.refl NoneB w).drewN nq
    clear w0 w1 w2 w3 s0 s1 s2 o1 o2 o3
    go_wp2_with fail
    go_ret2
    exact ⟨by rw [HV.out, HB.out]; simp, hmq⟩
  · have hg : get4 (b.drop i) = none := get4_short (by rw [List.length_drop]; omega)
    have hv : getV4 b i = 0 := by unfold getV4; rw [hg]; rfl
    have hb : getB4 b i = false := by unfold getB4; rw [hg]; rfl
    have HV := Lib.hid hv
    have HB := Lib.hid hb
    clear hg hv hb
    by_cases h4 : b.length < 4
    · clear hlt
      go_enter Try.func132, Try.ntmps132
      go_wp2_with fail
      go_ret2
      exact ⟨by rw [HV.out, HB.out]; rfl, Mod.refl _ _⟩
    · have h5 : (b.length : Int) - 4 < i := by omega
      clear hlt
      go_enter Try.func132, Try.ntmps132
      go_wp2_with fail
      go_ret2
      exact ⟨by rw [HV.out, HB.out]; rfl, Mod.refl _ _⟩
end Go.Proofs.Ytnoleekdldmagaa
