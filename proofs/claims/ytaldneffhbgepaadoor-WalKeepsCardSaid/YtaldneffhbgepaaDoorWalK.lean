/- What is there behind a crash of the log's disk: plain facts. No program stands here. -/
import Derived.Test.YtaldneffhbgepaaDoorWalV
namespace Go.Proofs.YtaldneffhbgepaaDoor
open Go.RowKit
set_option linter.unusedVariables false

theorem hit_plan (d : Dk) (n : ByteArray) (f : Dk → Nat → Ans) (h : ∀ i, (f d i).1.p = d.p) : (hitAns d n f).1.p = d.p := by
  by_cases hh : hitF d.fs n = true
  · rw [hitAns_true _ hh]; exact h _
  · unfold hitAns
    rw [if_neg hh]
theorem append_plan (d : Dk) (n : ByteArray) (b : List UInt8) : (appendD d n b).1.p = d.p := by
  unfold appendD withD
  refine gate_plan fun c dn => hit_plan _ n _ fun i => ?_
  unfold appendF
  split <;> rfl
theorem sync_plan (d : Dk) (n : ByteArray) : (syncD d n).1.p = d.p := by
  unfold syncD withD
  exact gate_plan fun c dn => hit_plan _ n _ fun i => rfl
theorem cut_plan (d : Dk) (n : ByteArray) (k : Int) : (cutD d n k).1.p = d.p := by
  unfold cutD withD
  refine gate_plan fun c dn => hit_plan _ n _ fun i => ?_
  unfold cutF
  split <;> rfl
theorem write_small (d : Dk) (b : List UInt8) : (writeD d b).1.p = d.p ∧ (writeD d b).1.c ≤ d.c + 2 := by
  have h1 := append_plan d sLog b
  have h2 := (append_grow d sLog b).c
  have h3 := sync_plan (appendD d sLog b).1 sLog
  have h4 := (sync_grow (appendD d sLog b).1 sLog).c
  unfold writeD tryD
  split
  · exact ⟨h3.trans h1, by show (syncD (appendD d sLog b).1 sLog).1.c ≤ d.c + 2; omega⟩
  · exact ⟨h1, by omega⟩
theorem commit_small (d : Dk) (n : Nat) (l : List Op3) : (commitD d n l).d.p = d.p ∧ (commitD d n l).d.c ≤ d.c + 3 := by
  obtain ⟨h1, h2⟩ := write_small d (opsR l).1
  have h3 := cut_plan (writeD d (opsR l).1).1 sLog n
  have h4 := (cut_grow (writeD d (opsR l).1).1 sLog n).c
  unfold commitD
  split
  · split
    · exact ⟨h1, by show _ ≤ _; simp only; omega⟩
    · split
      · exact ⟨h1, by show _ ≤ _; simp only; omega⟩
      · exact ⟨h3.trans h1, by show _ ≤ _; simp only; omega⟩
  · exact ⟨rfl, by show _ ≤ _; simp only; omega⟩
theorem commit_wrong (d : Dk) (n : Nat) (l : List Op3) (h : ¬ rightO l) : commitD d n l = ⟨d, n, false, 1⟩ := by
  have ho : opsR l = ([], 1) := if_neg h
  unfold commitD
  rw [ho]
  exact if_neg (by decide)
theorem catO_le5 (ls : List (List Op3)) (h : ∀ l ∈ ls, rightO l ∧ wtO l ≤ 5000) : (catO ls).length ≤ 26100 * ls.length := by
  induction ls with
  | nil => simp [catO]
  | cons l ls ih =>
    have h1 := ih (fun x hx => h x (List.mem_cons_of_mem _ hx))
    obtain ⟨h2, h3⟩ := h l (List.mem_cons_self ..)
    have h4 := bytesO_len h2 h3
    rw [catO_cons, List.length_append, List.length_cons]
    omega
/-- What is told behind a crash: all that was told OK, and at most the one behind it. -/
theorem keeps_end (S : List (List Op3)) (l : List Op3) (d : Dk) (k : Nat) (hk : KSick S l d) (hkp : d.p.keep = [(k : Int)]) (hS : ∀ l ∈ S, rightO l ∧ wtO l ≤ 5000) (hl : rightO l ∧ wtO l ≤ 5000) (hn : S.length ≤ 40) :
    ∃ (T : List UInt8) (R : List (List Op3)) (c9 : Nat), restartD d ⟨100000, [], 0, false, []⟩ = freeD 100000 [] [⟨sLog, T, T.length⟩] 0 ∧ T.length ≤ 1100000 ∧ c9 ≤ 2 ∧ (catO R).length ≤ 1100000 ∧
      logL (freeD 100000 [] [⟨sLog, T, T.length⟩] 0) = R ∧ openD (freeD 100000 [] [⟨sLog, T, T.length⟩] 0) = (freeD 100000 [] [⟨sLog, catO R, (catO R).length⟩] c9, 0) ∧
      openD (freeD 100000 [] [⟨sLog, catO R, (catO R).length⟩] c9) = (freeD 100000 [] [⟨sLog, catO R, (catO R).length⟩] (c9 + 1), 0) ∧ logL (freeD 100000 [] [⟨sLog, catO R, (catO R).length⟩] c9) = R ∧
      (R = S ∨ R = S ++ [l]) ∧ (KGood S d → R = S) := by
  obtain ⟨r, s, hfs, hs1, hs2, hr⟩ := hk
  have hcl : catO (S ++ [l]) = catO S ++ bytesO l := by rw [catO_append, catO_one']
  have hbp := bytesO_pos l
  have hle := catO_le5 S hS
  have hbl := bytesO_len hl.1 hl.2
  have hle2 : 26100 * S.length ≤ 26100 * 40 := Nat.mul_le_mul_left _ hn
  have hall : ∀ x ∈ S ++ [l], rightO x ∧ SmallO x := fun x hx => by
    rcases List.mem_append.1 hx with h | h
    · exact ⟨(hS x h).1, smallO_of (hS x h).2⟩
    · rw [List.mem_singleton] at h; subst h; exact ⟨hl.1, smallO_of hl.2⟩
  have hrest : restartD d ⟨100000, [], 0, false, []⟩ = freeD 100000 [] [⟨sLog, (catO S ++ r).take (s + k), ((catO S ++ r).take (s + k)).length⟩] 0 := by
    unfold restartD freeD
    rw [hkp, hfs]
    simp only [List.mapIdx_cons, List.mapIdx_nil]
    rw [restF_len _ _ _ hs2]
    simp
  obtain ⟨m, hm1, hm2, hT, hg⟩ : ∃ m, (catO S).length ≤ m ∧ m ≤ (catO (S ++ [l])).length ∧ (catO S ++ r).take (s + k) = (catO (S ++ [l])).take m ∧ (r = [] → m = (catO S).length) := by
    rw [hcl]
    rcases hr with rfl | rfl
    · refine ⟨(catO S).length, Nat.le_refl _, by rw [List.length_append]; omega, ?_, fun _ => rfl⟩
      rw [List.append_nil, List.take_left, List.take_of_length_le (by omega)]
    · refine ⟨min (s + k) (catO S ++ bytesO l).length, ?_, by omega, ?_, fun h => by rw [h] at hbp; simp at hbp⟩
      · rw [List.length_append] at hs2 ⊢; omega
      · rw [← List.take_take, List.take_length]
  rw [hT] at hrest
  obtain ⟨h1, h2, h3⟩ := log_cut (freeD 100000 [] [⟨sLog, (catO (S ++ [l])).take m, ((catO (S ++ [l])).take m).length⟩] 0) (S ++ [l]) m _ rfl rfl hall hm2
  obtain ⟨c9, hc9, hof⟩ := open_free 100000 [] ((catO (S ++ [l])).take m) ((catO (S ++ [l])).take m).length 0 _ h3
  rw [catO_take _ _ hm2] at hof
  have hes := endsO_snoc S l m hm1
  have hR : (S ++ [l]).take (endsO (S ++ [l]) m) = S ∨ (S ++ [l]).take (endsO (S ++ [l]) m) = S ++ [l] := by
    rw [hes]
    split
    · right; exact List.take_of_length_le (by simp)
    · left; exact List.take_left
  have hRg : KGood S d → (S ++ [l]).take (endsO (S ++ [l]) m) = S := by
    rintro ⟨hg1, _⟩
    rw [hfs] at hg1
    have e1 : catO S ++ r = catO S := by
      injection hg1 with h _
      injection h
    have e2 : r = [] := by
      have := congrArg List.length e1
      rw [List.length_append] at this
      exact List.length_eq_zero_iff.1 (by omega)
    rw [hes, hg e2, if_neg (by omega)]
    exact List.take_left
  have hmem : ∀ x ∈ (S ++ [l]).take (endsO (S ++ [l]) m), rightO x ∧ SmallO x := fun x hx => hall x (List.mem_of_mem_take hx)
  have hml : ((catO (S ++ [l])).take m).length ≤ 1100000 := by rw [List.length_take, hcl, List.length_append]; omega
  have hRl : (catO ((S ++ [l]).take (endsO (S ++ [l]) m))).length ≤ 1100000 := by
    rcases hR with h | h
    · rw [h]; omega
    · rw [h, hcl, List.length_append]; omega
  have ho2 := open_cat 100000 [] ((S ++ [l]).take (endsO (S ++ [l]) m)) (catO ((S ++ [l]).take (endsO (S ++ [l]) m))).length c9 hmem
  obtain ⟨_, hl2, _⟩ := log_cat (freeD 100000 [] [⟨sLog, catO ((S ++ [l]).take (endsO (S ++ [l]) m)), (catO ((S ++ [l]).take (endsO (S ++ [l]) m))).length⟩] c9) _ _ rfl rfl hmem
  exact ⟨_, _, c9, hrest, hml, by omega, hRl, h2, hof, ho2, hl2, hR, hRg⟩
end Go.Proofs.YtaldneffhbgepaaDoor

