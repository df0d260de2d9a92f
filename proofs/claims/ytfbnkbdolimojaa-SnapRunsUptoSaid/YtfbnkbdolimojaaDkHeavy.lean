/- Law 1's Heavy: what it lets by. -/
import Derived.Test.YtfbnkbdolimojaaOpenA
import Derived.Test.YtfbnkbdolimojaaFlat
namespace Go.Proofs.Ytfbnkbdolimojaa
open Go.RowKit
set_option linter.unusedVariables false

def sumB (l : List ActV) : Nat := (l.map fun a => min a.b.length 5000).sum
/-- An act that is let by. -/
def LightA (a : ActV) : Prop := a.p.p.fail.length ≤ 200 ∧ a.p.p.keep.length ≤ 200 ∧ a.name.size ≤ 100 ∧ a.nto.size ≤ 100
instance (a : ActV) : Decidable (LightA a) := by unfold LightA; exact inferInstance
theorem sumB_take (l : List ActV) (i : Nat) (h : i < l.length) : sumB (l.take (i + 1)) = sumB (l.take i) + min l[i].b.length 5000 := by
  unfold sumB; rw [List.take_succ_eq_append_getElem h, List.map_append, List.sum_append]; simp
theorem sumB_le (l : List ActV) : sumB l ≤ l.length * 5000 := by
  unfold sumB
  induction l with
  | nil => simp
  | cons x l ih => rw [List.map_cons, List.sum_cons, List.length_cons, Nat.add_mul]; omega

def HeavyP (l : List ActV) (w : World) (e : Ending) (w' : World) : Prop := ∃ b, e = .returned (.bool b) ∧ Mod NoneB w w' ∧ (b = false → l.length ≤ 120 ∧ sumB l ≤ 20000 ∧ ∀ a ∈ l, LightA a)
set_option maxHeartbeats 4000000 in
set_option maxRecDepth 100000 in
theorem heavy1_calls (l : List ActV) (A : Option Addr) (c : Nat) (w : World) (hr : Rd w 10 A l.length (l.flatMap encAct)) :
    Calls Try.prog 11 #[.slice A l.length c] w (HeavyP l w) := by
  have hn := hr.2.1
  go_enter Try.func11, Try.ntmps11
  go_wp2_with fail
  go_loopw [3, 4] (fun n i wr => ∃ j : Nat, i = .int .i64 j ∧ n = .int .i64 (sumB (l.take j) : Nat) ∧ j ≤ l.length ∧ j ≤ 200 ∧ (∀ a ∈ l.take j, LightA a) ∧ Mod NoneB w wr) (fun _ i _ => l.length - (intOf i).toNat)
  case atStart => exact ⟨0, rfl, rfl, by omega, by omega, fun a ha => by simp at ha, Mod.refl _ _⟩
  case round =>
    obtain ⟨j, rfl, rfl, hj, hj2, hla, hm⟩ := hrel
    have HLA := Lib.hid hla
    clear hla
    by_cases hlt : j < l.length ∧ j < 200
    · obtain ⟨hlt, hlt2⟩ := hlt
      have hst := sumB_take l j hlt
      have hsl := sumB_le (l.take j)
      rw [List.length_take] at hsl
      obtain ⟨ad, rfl, h0, hk⟩ := Rd.elem (f := encAct) (fun _ => rfl) hr (by decide) j hlt
      have h1 := hm.cell0 (hk 1 _ (by decide) (by decide) rfl)
      have h2 := hm.cell0 (hk 2 _ (by decide) (by decide) rfl)
      have h3 := hm.cell0 (hk 3 _ (by decide) (by decide) rfl)
      have h6 := hm.cell0 (hk 6 _ (by decide) (by decide) rfl)
      have h9 := hm.cell0 (hk 9 _ (by decide) (by decide) rfl)
      have htk : l.take (j + 1) = l.take j ++ [l[j]] := List.take_succ_eq_append_getElem hlt
      obtain ⟨a, ha⟩ : ∃ a, a = l[j] := ⟨_, rfl⟩
      rw [← ha] at h1 h2 h3 h6 h9 hst htk
      have HST := Lib.hid hst
      have HTK := Lib.hid htk
      have hs : sumB (l.take j) ≤ 1000000 := by omega
      obtain ⟨s, hss⟩ : ∃ s, s = sumB (l.take j) := ⟨_, rfl⟩
      rw [← hss] at hs HST ⊢
      clear h0 hk ha hsl hst htk hss
      by_cases hli : LightA a
      · have hq := hli
        unfold LightA at hq
        obtain ⟨q1, q2, q3, q4⟩ := hq
        have e1 : min ((a.b.length : Nat) : Int) 5000 = ((min a.b.length 5000 : Nat) : Int) := by omega
        have HE := Lib.hid e1
        have HLI := Lib.hid hli
        clear e1 hli
        go_wp2_with fail
        go_roundw
        case rel =>
          refine ⟨j + 1, by go_num, ?_, by omega, by omega, fun x hx => ?_, hm⟩
          · rw [HST.out, HE.out]; simp
          · rw [HTK.out] at hx
            rcases List.mem_append.1 hx with hx | hx
            · exact HLA.out x hx
            · rw [List.mem_singleton] at hx; subst hx; exact HLI.out
        case measure => simp [intOf]; omega
      · have hq : 200 < a.p.p.fail.length ∨ 200 < a.p.p.keep.length ∨ 100 < a.name.size ∨ 100 < a.nto.size := by unfold LightA at hli; omega
        clear hli
        by_cases q1 : 200 < a.p.p.fail.length
        · clear hq
          go_wp2_with fail
          go_ret
          exact ⟨true, rfl, hm, fun h => by cases h⟩
        · by_cases q2 : 200 < a.p.p.keep.length
          · clear hq
            go_wp2_with fail
            go_ret
            exact ⟨true, rfl, hm, fun h => by cases h⟩
          · by_cases q3 : 100 < a.name.size
            · clear hq
              go_wp2_with fail
              go_ret
              exact ⟨true, rfl, hm, fun h => by cases h⟩
            · have q4 : 100 < a.nto.size := by omega
              clear hq
              go_wp2_with fail
              go_ret
              exact ⟨true, rfl, hm, fun h => by cases h⟩
    · by_cases hl : 120 < l.length
      · by_cases hl2 : j < l.length
        · have hj3 : j = 200 := by omega
          clear hlt
          subst hj3
          go_wp2_with fail
          go_ret
          exact ⟨true, rfl, hm, fun h => by cases h⟩
        · clear hlt
          go_wp2_with fail
          go_ret
          exact ⟨true, rfl, hm, fun h => by cases h⟩
      · have hj3 : j = l.length := by omega
        subst hj3
        have hla := HLA.out
        have hsl := sumB_le l
        rw [List.take_length] at hla ⊢
        clear HLA
        have HLA := Lib.hid hla
        clear hla hlt
        obtain ⟨s, hss⟩ : ∃ s, s = sumB l := ⟨_, rfl⟩
        rw [← hss] at hsl ⊢
        have HSS := Lib.hid hss
        clear hss
        by_cases hs : 20000 < s
        · have b1 : decide ((20000 : Int) < (s : Int)) = true := by simp; omega
          go_wp2_with fail
          go_ret
          exact ⟨true, by first | rfl | simp [b1], hm, fun h => by cases h⟩
        · have b1 : decide ((20000 : Int) < (s : Int)) = false := by simp; omega
          have b2 : decide ((120 : Int) < (l.length : Int)) = false := by simp; omega
          go_wp2_with fail
          go_ret
          exact ⟨false, by first | rfl | simp [b1, b2], hm, fun _ => ⟨by omega, by rw [← HSS.out]; omega, HLA.out⟩⟩
end Go.Proofs.Ytfbnkbdolimojaa
