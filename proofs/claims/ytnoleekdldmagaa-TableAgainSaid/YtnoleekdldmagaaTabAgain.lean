/- TableAgain: the walk of the law. -/
import Derived.Test.YtnoleekdldmagaaTabLast
namespace Go.Proofs.Ytnoleekdldmagaa
open Go.RowKit
set_option linter.unusedVariables false

theorem tiO : TI Try.prog 31 (.agg #[.bool false, .string ⟨#[]⟩, .string ⟨#[]⟩]) 3 40 := by unfold TI; kernel_rfl
theorem encOs_one (l : List Op3) : ∀ u ∈ encOs l, u.oneCell' = true := by
  intro u hu
  unfold encOs at hu
  rw [List.mem_flatMap] at hu
  obtain ⟨o, _, h⟩ := hu
  simp only [encO, List.mem_cons, List.not_mem_nil, or_false] at h
  rcases h with rfl | rfl | rfl <;> rfl
theorem encOs_append (a b : List Op3) : encOs (a ++ b) = encOs a ++ encOs b := by unfold encOs; rw [List.flatMap_append]
theorem Rd.news {w : World} {size n : Nat} {A : Option Addr} {cs : List Value} (h : Rd w size A n cs) (hp : 0 < n) : ∃ a, A = some a ∧ ∀ (j : Nat) u, cs[j]? = some u → w.cell? (a.add j) = some u := h.2.2 hp

set_option maxHeartbeats 2000000 in
set_option maxRecDepth 100000 in
theorem tableAgain_walk (l : List Pr) (a b : List Op3) (A B C : Option Addr) (c c' c'' : Nat) (w : World) (hr : Rd w 2 A l.length (encPs l)) (hs : Rd w 3 B a.length (encOs a)) (ht : Rd w 3 C b.length (encOs b)) :
    Calls Try.prog 3 #[.slice A l.length c, .slice B a.length c', .slice C b.length c''] w fun e w' => e = .returned (.bool true) ∧ Mod NoneB w w' := by
  have hu := Try.underlying23
  go_enter Try.func3, Try.ntmps3
  go_wp2_with fail
  refine (greatP_calls l A c _ hr).mono ?_
  rintro e w1 ⟨g, rfl, hm1, hb1⟩
  cases g with
  | true =>
    go_wp2_with ((with_reducible refine (awake6_calls _).mono ?_); rintro e wz ⟨rfl, hmz⟩)
    go_ret
    exact ⟨rfl, hm1.then0 hmz⟩
  | false =>
    obtain ⟨hl, _⟩ := wtP_le (hb1 rfl)
    clear hb1
    go_wp2_with fail
    refine (greatO_calls a B c' _ (hs.mod0 hm1)).mono ?_
    rintro e w2 ⟨g, rfl, hm2, hb2⟩
    have hm12 := hm1.then0 hm2
    clear hm1 hm2
    cases g with
    | true =>
      go_wp2_with ((with_reducible refine (awake6_calls _).mono ?_); rintro e wz ⟨rfl, hmz⟩)
      go_ret
      exact ⟨rfl, hm12.then0 hmz⟩
    | false =>
      obtain ⟨ha, _⟩ := wtO_le (hb2 rfl)
      clear hb2
      go_wp2_with fail
      refine (greatO_calls b C c'' _ (ht.mod0 hm12)).mono ?_
      rintro e w3 ⟨g, rfl, hm3, hb3⟩
      have hm13 := hm12.then0 hm3
      clear hm12 hm3
      cases g with
      | true =>
        go_wp2_with ((with_reducible refine (awake6_calls _).mono ?_); rintro e wz ⟨rfl, hmz⟩)
        go_ret
        exact ⟨rfl, hm13.then0 hmz⟩
      | false =>
        obtain ⟨hb, _⟩ := wtO_le (hb3 rfl)
        clear hb3
        have hown : Own (w3.alloc (.cells #[] 31)) 31 3 (.slice (some ⟨w3.heap.size, 0, none⟩) 0 0) 0 [] := Own.of_blk (cap := 0) (heap_alloc_new w3 _) (by omega) (by omega) (by simp) (by simp)
        have hm14 : Mod NoneB w (w3.alloc (.cells #[] 31)) := hm13.alloc _
        go_wp2_with (at_builtin; refine wpList_append rfl (.tmp 22) (.tmp 23) 23 rfl 31 _ 3 40 hu tiO rfl (by decide) (by decide) _ 0 [] rfl hown B a.length c' (encOs a) rfl (encOs_length a) (hs.mod0 hm14).news (encOs_one a) ?c1 ?_)
        case c1 => omega
        intro v4 w4 ho4 hm4 hno4
        have hm15 : Mod NoneB w w4 := hm13.trans_new (((Mod.refl (OnlyBlk (.slice (some ⟨w3.heap.size, 0, none⟩) 0 0)) w3).alloc _).trans hm4 (fun k _ h => h)) (fun k hk => .inr ?c2)
        case c2 => have hsz := hm13.size; simp [OnlyBlk, Value.ownBlock] at hk; omega
        have hnew : ∀ k, OnlyBlk v4 k → ¬ k < w.heap.size := by
          intro k hk
          have hsz := hm13.size
          rcases hno4 with h | ⟨q, h, hq⟩
          · have h1 : v4.ownBlock = some k := hk
            rw [h1] at h
            simp [Value.ownBlock] at h
            omega
          · have h1 : v4.ownBlock = some k := hk
            rw [h1] at h
            injection h with h
            simp at hq
            omega
        go_wp2_with (at_builtin; refine wpList_append rfl (.tmp 25) (.tmp 26) 23 rfl 31 _ 3 40 hu tiO rfl (by decide) (by decide) _ a.length (encOs a) rfl ho4 C b.length c'' (encOs b) rfl (encOs_length b) (ht.mod0 hm15).news (encOs_one b) ?c3 ?_)
        case c3 => omega
        intro v5 w5 ho5 hm5 hno5
        have hm16 : Mod NoneB w w5 := hm15.trans hm5 (fun k hk h => absurd hk (hnew k h))
        go_wp2_with fail
        rw [← encOs_append, ← List.length_append] at ho5
        obtain ⟨B5, c5, rfl, _, _, hr5⟩ := ho5.out
        have hab : (a ++ b).length = a.length + b.length := List.length_append
        have hab2 : (l.length + (a ++ b).length + 1) * 32 ≤ 140737488355328 := by rw [hab]; omega
        refine (apply_calls l (a ++ b) A B5 c c5 _ (hr.mod0 hm16) hr5 hab2).mono ?_
        rintro e w6 ⟨v6, rfl, ho6, hm6⟩
        have hm17 := hm16.then0 hm6
        have hl6 := applyT_length_le l (a ++ b)
        rw [hab] at hl6
        have hri := rises_applyT l (a ++ b)
        obtain ⟨m6, h6⟩ : ∃ m, m = applyT l (a ++ b) := ⟨_, rfl⟩
        rw [← h6] at hl6 ho6 hri
        have H6 := Lib.hid h6
        have HRI := Lib.hid (decide_eq_true hri)
        clear hab hab2 hr5 hm16 hm6 h6 hri
        go_wp2_with fail
        refine (apply_calls l a A B c c' _ (hr.mod0 hm17) (hs.mod0 hm17) (by omega)).mono ?_
        rintro e w7 ⟨v7, rfl, ho7, hm7⟩
        have hl7 := applyT_length_le l a
        have hm18 := hm17.then0 hm7
        have ho67 := ho6.mod0 hm7
        obtain ⟨m7, h7⟩ : ∃ m, m = applyT l a := ⟨_, rfl⟩
        rw [← h7] at hl7 ho7
        have H7 := Lib.hid h7
        clear hm17 hm7 ho6 h7
        go_wp2_with fail
        refine (applyO_calls _ m7 b _ C c'' _ ho7 (ht.mod0 hm18) (by omega)).mono ?_
        rintro e w8 ⟨v8, rfl, ho8, hm8⟩
        have hm19 := hm18.then0 hm8
        have ho68 := ho67.mod0 hm8
        have h8 : applyT m7 b = m6 := by rw [H7.out, H6.out, applyT_append]
        rw [h8] at ho8
        clear hm18 hm8 ho67 ho7 h8
        go_wp2_with fail
        refine (applyO_calls _ m6 a _ B c' _ ho68 (hs.mod0 hm19) (by omega)).mono ?_
        rintro e w9 ⟨v9, rfl, ho9, hm9⟩
        have hl9 := applyT_length_le m6 a
        have hm20 := hm19.then0 hm9
        have ho69 := ho68.mod0 hm9
        have ho89 := ho8.mod0 hm9
        obtain ⟨m9, h9⟩ : ∃ m, m = applyT m6 a := ⟨_, rfl⟩
        rw [← h9] at hl9 ho9
        have H9 := Lib.hid h9
        clear hm19 hm9 ho68 ho8 h9
        go_wp2_with fail
        refine (applyO_calls _ m9 b _ C c'' _ ho9 (ht.mod0 hm20) (by omega)).mono ?_
        rintro e w10 ⟨v10, rfl, ho10, hm10⟩
        have hm21 := hm20.then0 hm10
        have ho610 := ho69.mod0 hm10
        have ho810 := ho89.mod0 hm10
        have h10 : applyT m9 b = m6 := by rw [H9.out, ← applyT_append, H6.out, applyT_again]
        rw [h10] at ho10
        clear hm20 hm10 ho69 ho89 ho9 h10 hl6 hl7 hl9
        obtain ⟨m, hmm⟩ : ∃ m, m = m6 := ⟨_, rfl⟩
        subst hmm
        obtain ⟨A6, c6, rfl, hr6⟩ := ho610.out
        obtain ⟨A8, c8, rfl, hr8⟩ := ho810.out
        obtain ⟨A10, c10, rfl, hr10⟩ := ho10.out
        clear ho610 ho810 ho10
        go_wp2_with fail
        refine (right_calls m A6 c6 _ hr6).mono ?_
        rintro e w11 ⟨rfl, hm11⟩
        rw [HRI.out]
        have hm22 := hm21.then0 hm11
        go_wp2_with fail
        refine (pairs_calls m m A6 A8 c6 c8 _ (hr6.mod0 hm11) (hr8.mod0 hm11)).mono ?_
        rintro e w12 ⟨rfl, hm12⟩
        have hm23 := hm22.then0 hm12
        rw [decide_eq_true (rfl : m = m)]
        go_wp2_with fail
        refine (pairs_calls m m A6 A10 c6 c10 _ ((hr6.mod0 hm11).mod0 hm12) ((hr10.mod0 hm11).mod0 hm12)).mono ?_
        rintro e w13 ⟨rfl, hm13'⟩
        have hm24 := hm23.then0 hm13'
        rw [decide_eq_true (rfl : m = m)]
        go_wp2_with ((with_reducible refine (awake6_calls _).mono ?_); rintro e wz ⟨rfl, hmz⟩)
        go_ret
        exact ⟨rfl, hm24.then0 hmz⟩
end Go.Proofs.Ytnoleekdldmagaa
