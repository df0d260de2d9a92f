/- Slices of numbers and of bytes: how they lie; slices.Clone, Index, Contains at them. -/
import Derived.Test.YtkklofnabmdmfaaGreatDoorPtrsFindQq
import Derived.Test.YtkklofnabmdmfaaGreatDoorPtrsQq
namespace Go.Proofs.YtkklofnabmdmfaaGreatDoor
open Go.RowKit
set_option linter.unusedVariables false

def encI (l : List Int) : List Value := l.map fun z => .int .i64 z
def encB (l : List UInt8) : List Value := l.map fun z => .int .u8 z.toNat
theorem encI_length (l : List Int) : (encI l).length = l.length := by simp [encI]
theorem encB_length (l : List UInt8) : (encB l).length = l.length := by simp [encB]
theorem encI_length1 (l : List Int) : (encI l).length = l.length * 1 := by simp [encI]
theorem encB_length1 (l : List UInt8) : (encB l).length = l.length * 1 := by simp [encB]
theorem encI_one (l : List Int) : ∀ u ∈ encI l, u.oneCell' = true := by
  intro u hu
  unfold encI at hu
  obtain ⟨x, _, rfl⟩ := List.mem_map.1 hu
  rfl
theorem encB_one (l : List UInt8) : ∀ u ∈ encB l, u.oneCell' = true := by
  intro u hu
  unfold encB at hu
  obtain ⟨x, _, rfl⟩ := List.mem_map.1 hu
  rfl
theorem encB_append (a b : List UInt8) : encB (a ++ b) = encB a ++ encB b := by simp [encB]
theorem tiI : TI Tryz.prog 3 (.int .i64 0) 1 8 := by unfold TI; kernel_rfl
theorem tiB : TI Tryz.prog 5 (.int .u8 0) 1 1 := by unfold TI; kernel_rfl

theorem Rd.ints {w : World} {A : Option Addr} {n : Nat} {l : List Int} (h : Rd w 1 A n (encI l)) (i : Nat) (hi : i < l.length) : ∃ ad, A = some ad ∧ w.cell? (ad.add i) = some (.int .i64 l[i]) := by
  have hl : l.length = n := by have := h.1; rw [encI_length] at this; omega
  obtain ⟨ad, e, hc⟩ := h.2.2 (by omega)
  exact ⟨ad, e, hc _ _ (by simp [encI, hi])⟩
theorem Rd.bytes {w : World} {A : Option Addr} {n : Nat} {l : List UInt8} (h : Rd w 1 A n (encB l)) (i : Nat) (hi : i < l.length) : ∃ ad, A = some ad ∧ w.cell? (ad.add i) = some (.int .u8 l[i].toNat) := by
  have hl : l.length = n := by have := h.1; rw [encB_length] at this; omega
  obtain ⟨ad, e, hc⟩ := h.2.2 (by omega)
  exact ⟨ad, e, hc _ _ (by simp [encB, hi])⟩

set_option maxHeartbeats 1000000 in
set_option maxRecDepth 100000 in
theorem cloneI_calls (l : List Int) (A : Option Addr) (c : Nat) (w : World) (hr : Rd w 1 A l.length (encI l)) (hsz : l.length * 8 ≤ 140737488355328) :
    Calls Tryz.prog 51 #[.slice A l.length c] w fun e w' =>
      ∃ v', e = .returned v' ∧ Own w' 3 1 v' l.length (encI l) ∧ Mod NoneB w w' ∧ (∀ g, v'.ownBlock = some g → w.heap.size ≤ g) := by
  have hu := Tryz.underlying33
  have hq : ∀ (a : Option Addr) n c (w : World), (binOp .eql 33 (.slice a n c) (.slice none 0 0)).run Tryz.prog w = .ok (.bool a.isNone) w := fun a n c w => Lib.run_eql_slice_nil w _ _ a n c 0 0 hu
  cases A with
  | none =>
    have h0 : l = [] := by
      by_cases hp : 0 < l.length
      · obtain ⟨ad, h, _⟩ := hr.2.2 hp
        cases h
      · exact List.eq_nil_of_length_eq_zero (by omega)
    subst h0
    go_enter Tryz.func51, Tryz.ntmps51
    go_wp2_with fail
    go_ret
    exact ⟨_, rfl, Own.nil _ _ _, Mod.refl _ _, fun g h => by cases h⟩
  | some ad =>
    go_enter Tryz.func51, Tryz.ntmps51
    have hown : Own (w.alloc (.cells #[] 3)) 3 1 (.slice (some ⟨w.heap.size, 0, none⟩) 0 0) 0 [] := Own.of_blk (cap := 0) (heap_alloc_new w _) (by omega) (by omega) (by simp) (by simp)
    have hn : 0 < l.length → ∃ a, (some ad : Option Addr) = some a ∧ ∀ (j : Nat) u, (encI l)[j]? = some u → (w.alloc (.cells #[] 3)).cell? (a.add j) = some u := by
      intro hp
      obtain ⟨a, h1, h2⟩ := hr.2.2 hp
      exact ⟨a, h1, fun j u hu => ((Mod.refl NoneB w).alloc _).cell0 (h2 j u hu)⟩
    go_wp2_with (at_builtin; refine wpList_append rfl (.tmp 5) (.tmp 6) 33 rfl 3 _ 1 8 hu tiI rfl (by decide) (by decide) _ 0 [] rfl hown (some ad) l.length c (encI l) rfl (encI_length1 l) hn (encI_one l) ?c1 ?_)
    case c1 => omega
    intro v' w1 ho hm hno
    go_wp2_with fail
    go_ret
    refine ⟨_, rfl, ho, ((Mod.refl NoneB w).alloc _).trans_new hm (fun k hk => .inr ?_), fun g hg => ?_⟩
    · simp [OnlyBlk, Value.ownBlock] at hk; omega
    · rcases hno with h | ⟨b, h, hb⟩
      · have h1 : v'.ownBlock = some g := hg
        rw [h] at h1
        simp [Value.ownBlock] at h1
        omega
      · have h1 : v'.ownBlock = some g := hg
        rw [h] at h1
        simp at h1 hb
        omega

set_option maxHeartbeats 1000000 in
set_option maxRecDepth 100000 in
theorem cloneB_calls (l : List UInt8) (A : Option Addr) (c : Nat) (w : World) (hr : Rd w 1 A l.length (encB l)) (hsz : l.length * 1 ≤ 140737488355328) :
    Calls Tryz.prog 89 #[.slice A l.length c] w fun e w' =>
      ∃ v', e = .returned v' ∧ Own w' 5 1 v' l.length (encB l) ∧ Mod NoneB w w' ∧ (∀ g, v'.ownBlock = some g → w.heap.size ≤ g) := by
  have hu := Tryz.underlying25
  have hq : ∀ (a : Option Addr) n c (w : World), (binOp .eql 25 (.slice a n c) (.slice none 0 0)).run Tryz.prog w = .ok (.bool a.isNone) w := fun a n c w => Lib.run_eql_slice_nil w _ _ a n c 0 0 hu
  cases A with
  | none =>
    have h0 : l = [] := by
      by_cases hp : 0 < l.length
      · obtain ⟨ad, h, _⟩ := hr.2.2 hp
        cases h
      · exact List.eq_nil_of_length_eq_zero (by omega)
    subst h0
    go_enter Tryz.func89, Tryz.ntmps89
    go_wp2_with fail
    go_ret
    exact ⟨_, rfl, Own.nil _ _ _, Mod.refl _ _, fun g h => by cases h⟩
  | some ad =>
    go_enter Tryz.func89, Tryz.ntmps89
    have hown : Own (w.alloc (.cells #[] 5)) 5 1 (.slice (some ⟨w.heap.size, 0, none⟩) 0 0) 0 [] := Own.of_blk (cap := 0) (heap_alloc_new w _) (by omega) (by omega) (by simp) (by simp)
    have hn : 0 < l.length → ∃ a, (some ad : Option Addr) = some a ∧ ∀ (j : Nat) u, (encB l)[j]? = some u → (w.alloc (.cells #[] 5)).cell? (a.add j) = some u := by
      intro hp
      obtain ⟨a, h1, h2⟩ := hr.2.2 hp
      exact ⟨a, h1, fun j u hu => ((Mod.refl NoneB w).alloc _).cell0 (h2 j u hu)⟩
    go_wp2_with (at_builtin; refine wpList_append rfl (.tmp 5) (.tmp 6) 25 rfl 5 _ 1 1 hu tiB rfl (by decide) (by decide) _ 0 [] rfl hown (some ad) l.length c (encB l) rfl (encB_length1 l) hn (encB_one l) ?c1 ?_)
    case c1 => omega
    intro v' w1 ho hm hno
    go_wp2_with fail
    go_ret
    refine ⟨_, rfl, ho, ((Mod.refl NoneB w).alloc _).trans_new hm (fun k hk => .inr ?_), fun g hg => ?_⟩
    · simp [OnlyBlk, Value.ownBlock] at hk; omega
    · rcases hno with h | ⟨b, h, hb⟩
      · have h1 : v'.ownBlock = some g := hg
        rw [h] at h1
        simp [Value.ownBlock] at h1
        omega
      · have h1 : v'.ownBlock = some g := hg
        rw [h] at h1
        simp at h1 hb
        omega

/-- The place of a number among others; -1: it is not there. -/
def idxI (l : List Int) (x : Int) : Int := match l.findIdx? (· == x) with | some i => i | none => -1
theorem idxI_none {l : List Int} {x : Int} (h : x ∉ l) : idxI l x = -1 := by
  unfold idxI
  rw [List.findIdx?_eq_none_iff.2 (fun y hy => by simp; rintro rfl; exact h hy)]
theorem idxI_nonneg (l : List Int) (x : Int) : (0 ≤ idxI l x) ↔ x ∈ l := by
  constructor
  · intro h
    by_cases hm : x ∈ l
    · exact hm
    · rw [idxI_none hm] at h; omega
  · intro h
    unfold idxI
    cases hf : l.findIdx? (· == x) with
    | none => have := List.findIdx?_eq_none_iff.1 hf x h; simp at this
    | some i => simp

set_option maxHeartbeats 1000000 in
set_option maxRecDepth 100000 in
theorem containsI_calls (l : List Int) (x : Int) (A : Option Addr) (c : Nat) (w : World) (hr : Rd w 1 A l.length (encI l)) :
    Calls Tryz.prog 123 #[.slice A l.length c, .int .i64 x] w fun e w' => e = .returned (.bool (decide (x ∈ l))) ∧ w' = w := by
  have hn := hr.2.1
  have hi : Calls Tryz.prog 154 #[.slice A l.length c, .int .i64 x] w fun e w' => e = .returned (.int .i64 (idxI l x)) ∧ w' = w := by
    go_enter Tryz.func154, Tryz.ntmps154
    go_wp2_with fail
    go_loopw [5, 8] (fun i0 i wr => ∃ j : Nat, i = .int .i64 j ∧ j ≤ l.length ∧ (∀ y ∈ l.take j, y ≠ x) ∧ wr = w) (fun _ i _ => l.length - (intOf i).toNat)
    case atStart => exact ⟨0, rfl, by omega, fun y hy => by simp at hy, rfl⟩
    case round =>
      obtain ⟨j, rfl, hj, hno, rfl⟩ := hrel
      have HNO := Lib.hid hno
      clear hno
      by_cases hlt : j < l.length
      · obtain ⟨ad, rfl, h0⟩ := hr.ints j hlt
        obtain ⟨z, hz⟩ : ∃ z, z = l[j] := ⟨_, rfl⟩
        rw [← hz] at h0
        have HZ := Lib.hid hz
        clear hz
        by_cases he : x = z
        · have b1 : (x == z) = true := by simpa using he
          have hf : idxI l x = j := by
            unfold idxI
            have : l.findIdx? (· == x) = some j := by
              rw [List.findIdx?_eq_some_iff_getElem]
              refine ⟨hlt, by rw [← HZ.out]; simpa using he.symm, fun k hk => ?_⟩
              have := HNO.out l[k] (List.mem_take_iff_getElem.2 ⟨k, by omega, rfl⟩)
              simpa using this
            rw [this]
          have HF := Lib.hid hf
          clear hf he
          go_wp2_with fail
          go_ret
          exact ⟨by rw [HF.out]; rfl, rfl⟩
        · have b1 : (x == z) = false := by simpa using he
          have HE := Lib.hid he
          clear he
          go_wp2_with fail
          go_roundw
          case rel =>
            refine ⟨j + 1, by go_num, by omega, fun y hy => ?_, by trivial⟩
            rw [List.take_succ_eq_append_getElem hlt, List.mem_append, List.mem_singleton] at hy
            rcases hy with hy | rfl
            · exact HNO.out y hy
            · intro h; exact HE.out (by rw [HZ.out, h])
          case measure => simp [intOf]; omega
      · have hj' : j = l.length := by omega
        subst hj'
        have hx : idxI l x = -1 := idxI_none (fun hm => HNO.out x (by rw [List.take_length]; exact hm) rfl)
        have HX := Lib.hid hx
        clear hx
        go_wp2_with fail
        go_ret
        exact ⟨by rw [HX.out]; rfl, rfl⟩
  have hd : decide (0 ≤ idxI l x) = decide (x ∈ l) := by rw [decide_eq_decide]; exact idxI_nonneg l x
  rw [← hd]
  clear hd
  go_enter Tryz.func123, Tryz.ntmps123
  go_wp2_with (with_reducible refine hi.mono ?_; rintro e w1 ⟨rfl, rfl⟩)
  go_ret
  exact ⟨rfl, rfl⟩
end Go.Proofs.YtkklofnabmdmfaaGreatDoor
