/- table.Right, the laws' Great, aquiferref1.Pairs. -/
import Derived.Test.YtfbnkbdolimojaaTable
namespace Go.Proofs.Ytfbnkbdolimojaa
open Go.RowKit

theorem rises_take_succ {l : List Pr} {i : Nat} (h : i + 1 < l.length) (hr : Rises (l.take (i + 1))) (hk : cmpS l[i].k l[i + 1].k < 0) : Rises (l.take (i + 2)) := by
  rw [show l.take (i + 2) = l.take (i + 1) ++ [l[i + 1]] from by rw [List.take_succ_eq_append_getElem h]]
  refine List.pairwise_append.2 ⟨hr, List.pairwise_singleton _ _, fun a ha b hb => ?_⟩
  rw [List.mem_singleton] at hb
  subst hb
  rw [List.take_succ_eq_append_getElem (by omega)] at ha hr
  rcases List.mem_append.1 ha with ha' | ha'
  · exact cmpS_trans ((List.pairwise_append.1 hr).2.2 a ha' _ (List.mem_singleton.2 rfl)) hk
  · rw [List.mem_singleton] at ha'
    subst ha'
    exact hk
theorem rises_pair {l : List Pr} (h : Rises l) {i : Nat} (hi : i + 1 < l.length) : cmpS l[i].k l[i + 1].k < 0 :=
  List.pairwise_iff_getElem.1 h i (i + 1) (by omega) hi (by omega)

set_option maxHeartbeats 1000000 in
set_option maxRecDepth 100000 in
theorem right_calls (l : List Pr) (A : Option Addr) (c : Nat) (w : World) (hr : Rd w 2 A l.length (encPs l)) :
    Calls Try.prog 28 #[.slice A l.length c] w fun e w' => e = .returned (.bool (decide (Rises l))) ∧ Mod NoneB w w' := by
  have hn := hr.2.1
  go_enter Try.func28, Try.ntmps28
  go_wp2_with fail
  go_loopw [3] (fun i wr => ∃ j : Nat, i = .int .i64 ((j + 1 : Nat) : Int) ∧ (j + 1 ≤ l.length ∨ j = 0) ∧ Rises (l.take (j + 1)) ∧ Mod NoneB w wr) (fun i _ => l.length - (intOf i).toNat)
  case atStart =>
    refine ⟨0, rfl, .inr rfl, ?_, Mod.refl _ _⟩
    cases l with
    | nil => exact rises_nil
    | cons p l => exact List.pairwise_singleton _ _
  case round =>
    obtain ⟨j, rfl, hj, hrj, hm⟩ := hrel
    have HR := Lib.hid hrj
    clear hrj
    by_cases hlt : j + 1 < l.length
    · obtain ⟨ad, rfl, h0, _⟩ := hr.pair j (by omega)
      obtain ⟨ad', e, h1, _⟩ := hr.pair (j + 1) hlt
      cases e
      replace h0 := hm.cell0 h0
      replace h1 := hm.cell0 h1
      obtain ⟨p, hp⟩ : ∃ p, p = l[j] := ⟨_, rfl⟩
      obtain ⟨q, hq⟩ : ∃ q, q = l[j + 1] := ⟨_, rfl⟩
      rw [← hp] at h0
      rw [← hq] at h1
      have HP := Lib.hid hp
      have HQ := Lib.hid hq
      clear hp hq hj
      by_cases hk : cmpS p.k q.k < 0
      · have b1 : Op.bytesLess q.k.toList p.k.toList = false := by rw [less_cmpS]; exact decide_eq_false (lt_asymm hk)
        have b2 : (q.k.toList == p.k.toList) = false := by rw [beq_toList]; exact decide_eq_false (fun e => by rw [e] at hk; exact lt_irrefl _ hk)
        have HK := Lib.hid (show cmpS l[j].k l[j + 1].k < 0 by rw [← HP.out, ← HQ.out]; exact hk)
        clear hk
        have e1 : IntKind.i64.wrap ((j : Int) + 1) = j + 1 := IntWalk.i64_in _ (by omega)
        have e2 : IntKind.i64.wrap (j : Int) = j := IntWalk.i64_in _ (by omega)
        have e7 : (0 : Int) ≤ j := by omega
        have e3 : (0 : Int) ≤ j + 1 := by omega
        have e4 : ((j : Int) + 1).toNat = j + 1 := by omega
        have e5 : (j : Int) + 1 < l.length := by omega
        have e6 : (j : Int) < l.length := by omega
        go_wp2_with fail
        go_quiet (fail)
        clear e1 e2 e3 e4 e5 e6 e7
        go_wp2_with fail
        go_roundw
        case rel => exact ⟨j + 1, by go_num, .inl (by omega), rises_take_succ hlt HR.out HK.out, hm.drewN _⟩
        case measure => simp [intOf]; omega
      · have hno : ¬ Rises l := fun h => hk (by rw [HP.out, HQ.out]; exact rises_pair h hlt)
        have HN := Lib.hid hno
        have b3 : (Op.bytesLess q.k.toList p.k.toList || q.k.toList == p.k.toList) = true := by
          rw [less_cmpS, beq_toList, Bool.or_eq_true, decide_eq_true_iff, decide_eq_true_iff]
          rcases lt_tri p.k q.k with h | h | h
          · exact absurd h hk
          · exact .inr h.symm
          · exact .inl h
        clear hk hno
        have e1 : IntKind.i64.wrap ((j : Int) + 1) = j + 1 := IntWalk.i64_in _ (by omega)
        have e2 : IntKind.i64.wrap (j : Int) = j := IntWalk.i64_in _ (by omega)
        have e7 : (0 : Int) ≤ j := by omega
        have e3 : (0 : Int) ≤ j + 1 := by omega
        have e4 : ((j : Int) + 1).toNat = j + 1 := by omega
        have e5 : (j : Int) + 1 < l.length := by omega
        have e6 : (j : Int) < l.length := by omega
        go_wp2_with fail
        go_quiet (fail)
        clear e1 e2 e3 e4 e5 e6 e7
        go_wp2_with fail
        go_ret
        exact ⟨by rw [decide_eq_false HN.out]; rfl, hm.drewN _⟩
    · have hyes : Rises l := by
        have h := HR.out
        rwa [List.take_of_length_le (by omega)] at h
      have HY := Lib.hid hyes
      clear hyes
      go_wp2_with fail
      go_ret
      exact ⟨by rw [decide_eq_true HY.out]; rfl, hm⟩
end Go.Proofs.Ytfbnkbdolimojaa
