/- slices.Grow of nothing, slices.Concat of bytes. -/
import Derived.Test.YtnoleekdldmagaaNums
import Derived.Test.YtnoleekdldmagaaFlat
namespace Go.Proofs.Ytnoleekdldmagaa
open Go.RowKit
set_option linter.unusedVariables false

set_option maxHeartbeats 2000000 in
set_option maxRecDepth 100000 in
theorem growB_calls (n : Nat) (w : World) (hn : n ≤ 70368744177664) :
    Calls Try.prog 149 #[.slice none 0 0, .int .i64 n] w fun e w' => ∃ v, e = .returned v ∧ Own w' 5 1 v 0 [] ∧ Mod NoneB w w' ∧ (∀ g, v.ownBlock = some g → w.heap.size ≤ g) := by
  have hu := Try.underlying35
  have hu3 := Try.underlying3
  by_cases h0 : n = 0
  · subst h0
    go_enter Try.func149, Try.ntmps149
    go_wp2_with fail
    go_ret
    exact ⟨_, rfl, Own.nil _ _ _, Mod.refl _ _, fun g h => by simp [Value.ownBlock] at h⟩
  · have hpos : (0 : Int) < (n : Int) := by omega
    have hg0 : 0 < 0 + n := by omega
    have hb : (0 + n) * 1 ≤ 140737488355328 := by omega
    have hx : (n : Int) = ((n : Nat) : Int) := rfl
    go_enter Try.func149, Try.ntmps149
    go_wp2_with (at_builtin; refine wpList_append_zeros rfl (.tmp 20) (.tmp 21) 35 3 rfl 5 _ 1 1 hu hu3 tiB rfl (by decide) (by decide) none 0 0 [] rfl (Rd.nil _ _ _) n _ rfl rfl hg0 hb ?_)
    intro nc cur w1 hh hge hcm hcl hm hlt1
    go_wp2_with fail
    go_ret
    exact ⟨_, rfl, Own.of_blk (n := 0) hh (Nat.zero_le _) hcm (by simpa using hcl) rfl, hm, fun g h => by simp [Value.ownBlock] at h; omega⟩

/-- Bytes as a slice. -/
structure Part where
  A : Option Addr
  b : List UInt8
  c : Nat
def encPart (p : Part) : List Value := [.slice p.A p.b.length p.c]
def flatP (l : List Part) : List UInt8 := l.flatMap (·.b)
theorem flatP_take (l : List Part) (j : Nat) (h : j < l.length) : flatP (l.take (j + 1)) = flatP (l.take j) ++ l[j].b := by
  unfold flatP; rw [List.take_succ_eq_append_getElem h, List.flatMap_append]; simp
theorem flatP_take_le (l : List Part) (j : Nat) : (flatP (l.take j)).length ≤ (flatP l).length := by
  conv => rhs; rw [← List.take_append_drop j l]
  unfold flatP; rw [List.flatMap_append, List.length_append]; omega

set_option maxHeartbeats 4000000 in
set_option maxRecDepth 100000 in
theorem concatB_calls (l : List Part) (A : Option Addr) (c : Nat) (w : World) (hr : Rd w 1 A l.length (l.flatMap encPart)) (hp : ∀ p ∈ l, Rd w 1 p.A p.b.length (encB p.b)) (hsz : (flatP l).length ≤ 70368744177664) (hll : l.length ≤ 1000000) :
    Calls Try.prog 129 #[.slice A l.length c] w fun e w' => ∃ v, e = .returned v ∧ Own w' 5 1 v (flatP l).length (encB (flatP l)) ∧ Mod NoneB w w' ∧ (∀ g, v.ownBlock = some g → w.heap.size ≤ g) := by
  have hu := Try.underlying35
  have HP := Lib.hid hp
  clear hp
  go_enter Try.func129, Try.ntmps129
  go_wp2_with fail
  go_loopw [3, 5, 11] (fun s x t wr => ∃ j : Nat, t = .int .i64 j ∧ s = .int .i64 (flatP (l.take j)).length ∧ j ≤ l.length ∧ wr = w) (fun _ _ t _ => l.length - (intOf t).toNat)
  case atStart => exact ⟨0, rfl, rfl, by omega, rfl⟩
  case round =>
    obtain ⟨j, rfl, rfl, hj, rfl⟩ := hrel
    by_cases hlt : j < l.length
    · obtain ⟨ad, rfl, h0, _⟩ := Rd.elem (f := encPart) (fun _ => rfl) hr (by decide) j hlt
      replace h0 := h0 _ rfl
      rw [Nat.mul_one] at h0
      have htk := flatP_take l j hlt
      have hle := flatP_take_le l (j + 1)
      rw [htk, List.length_append] at hle
      obtain ⟨p, hpp⟩ : ∃ p, p = l[j] := ⟨_, rfl⟩
      rw [← hpp] at h0 htk hle
      obtain ⟨s, hs⟩ : ∃ s, s = (flatP (l.take j)).length := ⟨_, rfl⟩
      rw [← hs] at hle ⊢
      have HS := Lib.hid hs
      have HTK := Lib.hid htk
      clear hpp htk hs
      go_wp2_with fail
      go_roundw
      case rel => exact ⟨j + 1, by go_num, by rw [HTK.out, List.length_append, ← HS.out]; go_num, by omega, by trivial⟩
      case measure => simp [intOf]; omega
    · have hje : j = l.length := by omega
      subst hje
      rw [List.take_length]
      obtain ⟨N, hN⟩ : ∃ N, N = (flatP l).length := ⟨_, rfl⟩
      rw [← hN] at hsz ⊢
      have HN := Lib.hid hN
      clear hN
      go_wp2_with fail
      refine (growB_calls N wr hsz).mono ?_
      rintro e w1 ⟨v, rfl, ho1, hm1, hn1⟩
      have HN1 := Lib.hid hn1
      obtain ⟨wE, hwE⟩ : ∃ x, x = wr := ⟨_, rfl⟩
      subst hwE
      clear hn1
      go_wp2_with fail
      go_loopw [6, 8, 27] (fun v x t wr => ∃ j : Nat, t = .int .i64 j ∧ j ≤ l.length ∧ Own wr 5 1 v (flatP (l.take j)).length (encB (flatP (l.take j))) ∧ Mod NoneB wE wr ∧ (∀ g, v.ownBlock = some g → wE.heap.size ≤ g)) (fun _ _ t _ => l.length - (intOf t).toNat)
      case atStart => exact ⟨0, rfl, by omega, ho1, hm1, HN1.out⟩
      case round =>
        obtain ⟨j, rfl, hj2, hoj, hmj, hnj⟩ := hrel
        clear ho1 hm1 HN1
        by_cases hlt2 : j < l.length
        · obtain ⟨ad, rfl, h0, _⟩ := Rd.elem (f := encPart) (fun _ => rfl) hr (by decide) j hlt2
          replace h0 := hmj.cell0 (h0 _ rfl)
          rw [Nat.mul_one] at h0
          have hrp := (HP.out l[j] (List.getElem_mem _)).mod0 hmj
          have htk := flatP_take l j hlt2
          have hle := flatP_take_le l (j + 1)
          rw [htk, List.length_append, ← HN.out] at hle
          obtain ⟨p, hpp⟩ : ∃ p, p = l[j] := ⟨_, rfl⟩
          rw [← hpp] at h0 htk hle hrp
          obtain ⟨s, hs⟩ : ∃ s, s = (flatP (l.take j)).length := ⟨_, rfl⟩
          rw [← hs] at hle hoj
          have HS := Lib.hid hs
          have HTK := Lib.hid htk
          have hb : (s + p.b.length) * 1 ≤ 140737488355328 := by omega
          have hnews := hrp.2.2
          have HNJ := Lib.hid hnj
          have HOJ := Lib.hid hoj
          clear hpp htk hs hrp hnj
          go_wp2_with (at_builtin; refine wpList_append rfl (.tmp 31) (.tmp 32) 35 rfl 5 _ 1 1 hu tiB rfl (by decide) (by decide) _ s (encB (flatP (l.take j))) rfl hoj p.A p.b.length p.c (encB p.b) rfl (encB_length1 p.b) hnews (encB_one p.b) hb ?_)
          intro v5 w5 ho5 hm5 hno5
          have hm6 : Mod NoneB wE w5 := hmj.trans_new hm5 (fun k hk => .inr (HNJ.out k hk))
          have hn6 : ∀ g, v5.ownBlock = some g → wE.heap.size ≤ g := by
            intro g hg
            rcases hno5 with hq | ⟨b, hq, hb⟩
            · exact HNJ.out g (by rw [← hq]; exact hg)
            · rw [hq] at hg
              injection hg with hg
              have h1 := hmj.size
              omega
          have ho6 : Own w5 5 1 v5 (flatP (l.take (j + 1))).length (encB (flatP (l.take (j + 1)))) := by
            rw [HTK.out, List.length_append, ← HS.out, encB_append]
            exact ho5
          obtain ⟨A5, c5, rfl, _, _, _⟩ := ho5.out
          have HO6 := Lib.hid ho6
          have HN6 := Lib.hid hn6
          clear ho6 hn6 ho5 hno5 hoj
          go_wp2_with fail
          go_roundw
          case rel => exact ⟨j + 1, by go_num, by omega, HO6.out, hm6, HN6.out⟩
          case measure => simp [intOf]; omega
        · have hje : j = l.length := by omega
          subst hje
          rw [List.take_length, ← HN.out] at hoj
          have HOJ := Lib.hid hoj
          have HNJ := Lib.hid hnj
          obtain ⟨A5, c5, rfl, _, _, _⟩ := hoj.out
          clear hoj hnj
          go_wp2_with fail
          go_ret
          refine ⟨_, rfl, ?_, hmj, HNJ.out⟩
          rw [← HN.out]
          exact HOJ.out
end Go.Proofs.Ytnoleekdldmagaa
