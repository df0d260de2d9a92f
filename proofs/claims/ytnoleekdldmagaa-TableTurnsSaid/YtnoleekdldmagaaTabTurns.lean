/- TableTurns: the walk of the law. -/
import Derived.Test.YtnoleekdldmagaaTabLast
import Derived.BigQuiet
namespace Go.Proofs.Ytnoleekdldmagaa
open Go.RowKit
set_option linter.unusedVariables false

theorem forall_take_succ {α : Type} {l : List α} {j : Nat} {q : α → Prop} (h : ∀ x ∈ l.take j, q x) (hj : j < l.length) (hq : q l[j]) : ∀ x ∈ l.take (j + 1), q x := by
  intro x hx
  rw [List.take_succ_eq_append_getElem hj, List.mem_append, List.mem_singleton] at hx
  rcases hx with hx | rfl
  · exact h x hx
  · exact hq

set_option maxHeartbeats 2000000 in
set_option maxRecDepth 100000 in
theorem tableTurns_walk (l : List Pr) (a b : List Op3) (A B C : Option Addr) (c c' c'' : Nat) (w : World) (hr : Rd w 2 A l.length (encPs l)) (hs : Rd w 3 B a.length (encOs a)) (ht : Rd w 3 C b.length (encOs b)) :
    Calls Try.prog 4 #[.slice A l.length c, .slice B a.length c', .slice C b.length c''] w fun e w' => e = .returned (.bool true) ∧ Mod NoneB w w' := by
  go_enter Try.func4, Try.ntmps4
  go_wp2_with fail
  refine (greatP_calls l A c _ hr).mono ?_
  rintro e w1 ⟨g, rfl, hm1, hb1⟩
  cases g with
  | true =>
    go_wp2_with ((with_reducible refine (awake6_calls _).mono ?_); rintro e wz ⟨rfl, hmz⟩)
    go_ret
    exact ⟨rfl, hm1.then0 hmz⟩
  | false =>
    obtain ⟨hl, _⟩ := wtP_le (hb1 rfl)
    clear hb1
    go_wp2_with fail
    refine (greatO_calls a B c' _ (hs.mod0 hm1)).mono ?_
    rintro e w2 ⟨g, rfl, hm2, hb2⟩
    have hm12 := hm1.then0 hm2
    clear hm1 hm2
    cases g with
    | true =>
      go_wp2_with ((with_reducible refine (awake6_calls _).mono ?_); rintro e wz ⟨rfl, hmz⟩)
      go_ret
      exact ⟨rfl, hm12.then0 hmz⟩
    | false =>
      obtain ⟨ha, _⟩ := wtO_le (hb2 rfl)
      clear hb2
      go_wp2_with fail
      refine (greatO_calls b C c'' _ (ht.mod0 hm12)).mono ?_
      rintro e w3 ⟨g, rfl, hm3, hb3⟩
      have hm13 := hm12.then0 hm3
      clear hm12 hm3
      cases g with
      | true =>
        go_wp2_with ((with_reducible refine (awake6_calls _).mono ?_); rintro e wz ⟨rfl, hmz⟩)
        go_ret
        exact ⟨rfl, hm13.then0 hmz⟩
      | false =>
        obtain ⟨hb, _⟩ := wtO_le (hb3 rfl)
        clear hb3
        go_wp2_with fail
        go_loopw [7, 8] (fun i k wr => ∃ j : Nat, i = .int .i64 j ∧ j ≤ a.length ∧ (∀ x ∈ a.take j, ∀ y ∈ b, x.k ≠ y.k) ∧ Mod NoneB w wr) (fun i k _ => a.length - (intOf i).toNat)
        case atStart => exact ⟨0, rfl, by omega, fun x hx => by simp at hx, hm13⟩
        case round =>
          obtain ⟨j, rfl, hj, hno, hm⟩ := hrel
          have HNO := Lib.hid hno
          clear hno
          by_cases hlt : j < a.length
          · obtain ⟨ad, rfl, _, h1, _⟩ := hs.op j hlt
            obtain ⟨o, hoo⟩ : ∃ o, o = a[j] := ⟨_, rfl⟩
            rw [← hoo] at h1
            have HO := Lib.hid hoo
            clear hoo
            go_wp2_with fail
            go_loopw [8] (fun k wr => ∃ m : Nat, k = .int .i64 m ∧ m ≤ b.length ∧ (∀ y ∈ b.take m, o.k ≠ y.k) ∧ Mod NoneB w wr) (fun k _ => b.length - (intOf k).toNat)
            case atStart => exact ⟨0, rfl, by omega, fun x hx => by simp at hx, hm⟩
            case round =>
              obtain ⟨m, rfl, hm', hno, hmm⟩ := hrel
              have HN2 := Lib.hid hno
              clear hno
              by_cases hlt2 : m < b.length
              · obtain ⟨ad2, rfl, _, h2, _⟩ := ht.op m hlt2
                obtain ⟨q, hqq⟩ : ∃ q, q = b[m] := ⟨_, rfl⟩
                rw [← hqq] at h2
                have HQ := Lib.hid hqq
                clear hqq
                replace h1 := hmm.cell0 h1
                replace h2 := hmm.cell0 h2
                have e1 : (0 : Int) ≤ j := by omega
                have e2 : (j : Int) < a.length := by omega
                have e3 : (0 : Int) ≤ m := by omega
                have e4 : (m : Int) < b.length := by omega
                by_cases he : o.k = q.k
                · have b1 : (o.k.toList == q.k.toList) = true := by rw [beq_toList]; exact decide_eq_true he
                  clear he
                  go_wp2_with fail
                  go_quiet (fail)
                  clear e1 e2 e3 e4
                  go_wp2_with ((with_reducible refine (awake6_calls _).mono ?_); rintro e wz ⟨rfl, hmz⟩)
                  go_ret
                  exact ⟨rfl, (hmm.drewN _).then0 hmz⟩
                · have b1 : (o.k.toList == q.k.toList) = false := by rw [beq_toList]; exact decide_eq_false he
                  have HE := Lib.hid he
                  clear he
                  go_wp2_with fail
                  go_quiet (fail)
                  clear e1 e2 e3 e4
                  go_wp2_with fail
                  go_roundw
                  case rel => exact ⟨m + 1, by go_num, by omega, forall_take_succ HN2.out hlt2 (by rw [← HQ.out]; exact HE.out), hmm.drewN _⟩
                  case measure => simp [intOf]; omega
              · have hmb : m = b.length := by omega
                subst hmb
                go_wp2_with fail
                go_roundw
                case rel => exact ⟨j + 1, by go_num, by omega, forall_take_succ HNO.out hlt (by have h := HN2.out; rw [List.take_length, HO.out] at h; exact h), hmm⟩
                case measure => simp [intOf]; omega
          · have hja : j = a.length := by omega
            subst hja
            have hturn : applyT (applyT l a) b = applyT (applyT l b) a := applyT_turns l a b (by have h := HNO.out; rwa [List.take_length] at h)
            have HT := Lib.hid hturn
            clear hturn
            go_wp2_with fail
            refine (apply_calls l a A B c c' _ (hr.mod0 hm) (hs.mod0 hm) (by omega)).mono ?_
            rintro e w4 ⟨v4, rfl, ho4, hm4⟩
            have hl4 := applyT_length_le l a
            obtain ⟨m4, h4⟩ : ∃ m, m = applyT l a := ⟨_, rfl⟩
            rw [← h4] at hl4 ho4
            have H4 := Lib.hid h4
            have hm14 := hm.then0 hm4
            clear h4 hm4
            go_wp2_with fail
            refine (applyO_calls _ m4 b _ C c'' _ ho4 (ht.mod0 hm14) (by omega)).mono ?_
            rintro e w5 ⟨v5, rfl, ho5, hm5⟩
            have hm15 := hm14.then0 hm5
            clear hm14 hm5 ho4
            go_wp2_with fail
            refine (apply_calls l b A C c c'' _ (hr.mod0 hm15) (ht.mod0 hm15) (by omega)).mono ?_
            rintro e w6 ⟨v6, rfl, ho6, hm6⟩
            have hl6 := applyT_length_le l b
            obtain ⟨m6, h6⟩ : ∃ m, m = applyT l b := ⟨_, rfl⟩
            rw [← h6] at hl6 ho6
            have H6 := Lib.hid h6
            have hm16 := hm15.then0 hm6
            have ho56 := ho5.mod0 hm6
            clear h6 hm15 hm6 ho5
            go_wp2_with fail
            refine (applyO_calls _ m6 a _ B c' _ ho6 (hs.mod0 hm16) (by omega)).mono ?_
            rintro e w7 ⟨v7, rfl, ho7, hm7⟩
            have hm17 := hm16.then0 hm7
            have ho57 := ho56.mod0 hm7
            have heq : applyT m6 a = applyT m4 b := by rw [H6.out, H4.out]; exact HT.out.symm
            rw [heq] at ho7
            obtain ⟨m, hmm⟩ : ∃ m, m = applyT m4 b := ⟨_, rfl⟩
            rw [← hmm] at ho7 ho57
            clear heq hmm hm16 hm7 ho6 ho56 hl4 hl6
            obtain ⟨A5, c5, rfl, hr5⟩ := ho57.out
            obtain ⟨A7, c7, rfl, hr7⟩ := ho7.out
            clear ho57 ho7
            go_wp2_with fail
            refine (pairs_calls m m A5 A7 c5 c7 _ hr5 hr7).mono ?_
            rintro e w8 ⟨rfl, hm8⟩
            rw [decide_eq_true (rfl : m = m)]
            have hm18 := hm17.then0 hm8
            go_wp2_with ((with_reducible refine (awake6_calls _).mono ?_); rintro e wz ⟨rfl, hmz⟩)
            go_ret
            exact ⟨rfl, hm18.then0 hmz⟩
end Go.Proofs.Ytnoleekdldmagaa
