/- The reference's Apply of no ops. -/
import Derived.Deep.DrawnRows
import Derived.Test.YtnlmfmceogbomaaGreatDoorTabAQq
import Derived.Test.YtnlmfmceogbomaaGreatDoorTabEQq
import Derived.Test.YtnlmfmceogbomaaGreatDoorRefPutAQq
namespace Go.Proofs.YtnlmfmceogbomaaGreatDoor
open Go.RowKit
set_option linter.unusedVariables false

theorem rputO_calls (N : Nat) (l : List Pr) (x : Pr) (v : Value) (w : World) (ho : OwnP N w v l) (hN : N ≤ w.heap.size) (hsz : (l.length + 1) * 32 ≤ 140737488355328) :
    Calls Tryz.prog 43 #[v, .agg #[.string x.k, .string x.v]] w fun e w' => ∃ v', e = .returned v' ∧ OwnP N w' v' (putT l x.k x.v) ∧ Mod (fun k => N ≤ k) w w' :=
  (rput_calls l x v w ho.own hsz).mono fun e w' ⟨v', he, h1, h2, h3⟩ =>
    ⟨v', he, ⟨h1, fun g hg => by
      rcases h3 with h | ⟨b, h, hb⟩
      · exact ho.new g (h ▸ hg)
      · rw [h] at hg; injection hg with hg; omega⟩, h2.mono fun k _ hk => ho.new k hk⟩

end Go.Proofs.YtnlmfmceogbomaaGreatDoor

/- The reference's Find and Apply, of any ops. -/
namespace Go.Proofs.YtnlmfmceogbomaaGreatDoor
open Go.RowKit
set_option linter.unusedVariables false

theorem putT_last (key v : ByteArray) : ∀ (m : List Pr), (∀ q ∈ m, cmpS q.k key < 0) → putT m key v = m ++ [⟨key, v⟩]
  | [], _ => rfl
  | p :: m, h => by
    rw [putT_cons, if_pos (h p (by simp)), putT_last key v m (fun q hq => h q (by simp [hq]))]
    rfl
theorem foldput_rises : ∀ (l m : List Pr), Rises (m ++ l) → l.foldl (fun m p => putT m p.k p.v) m = m ++ l
  | [], m, _ => by simp
  | p :: l, m, h => by
    have h1 : ∀ q ∈ m, cmpS q.k p.k < 0 := fun q hq => (List.pairwise_append.1 h).2.2 q hq p (by simp)
    rw [List.foldl_cons, putT_last p.k p.v m h1]
    have h2 := foldput_rises l (m ++ [p]) (by rw [List.append_assoc]; exact h)
    rw [show (⟨p.k, p.v⟩ : Pr) = p from rfl, h2, List.append_assoc]
    rfl
theorem normT_rises {l : List Pr} (h : Rises l) : normT l = l := foldput_rises l [] h
theorem applyT_norm (l : List Pr) (ops : List Op3) : applyT l ops = ops.foldl stepT (normT l) := by
  unfold applyT
  by_cases h : Rises l
  · rw [if_pos h, normT_rises h]
  · rw [if_neg h]
theorem delT_filter (key : ByteArray) : ∀ (l : List Pr), Rises l → l.filter (fun p => decide (p.k ≠ key)) = delT l key
  | [], _ => rfl
  | p :: l, h => by
    obtain ⟨h1, h2⟩ := (rises_cons p l).1 h
    rw [delT_cons]
    by_cases hp : cmpS p.k key < 0
    · have hne : p.k ≠ key := fun e => by rw [e] at hp; exact lt_irrefl _ hp
      rw [if_pos hp, List.filter_cons_of_pos (by simpa using hne), delT_filter key l h2]
    · rw [if_neg hp]
      by_cases he : p.k = key
      · rw [if_pos he, List.filter_cons_of_neg (by simpa using he)]
        refine List.filter_eq_self.2 fun q hq => ?_
        have := h1 q hq
        rw [he] at this
        simp only [decide_eq_true_eq]
        intro e
        rw [e] at this
        exact lt_irrefl _ this
      · rw [if_neg he]
        refine List.filter_eq_self.2 fun q hq => ?_
        simp only [decide_eq_true_eq]
        rcases List.mem_cons.1 hq with rfl | hq
        · exact he
        · intro e
          have := h1 q hq
          rw [e] at this
          exact hp this
theorem filter_take {α : Type} (f : α → Bool) (l : List α) (k : Nat) (h : k < l.length) : (l.take (k + 1)).filter f = if f l[k] then (l.take k).filter f ++ [l[k]] else (l.take k).filter f := by
  rw [List.take_succ_eq_append_getElem h, List.filter_append]
  by_cases hf : f l[k]
  · rw [if_pos hf]; simp [hf]
  · rw [if_neg hf]; simp [hf]

theorem len_ok {a n : Nat} (h : (a + 1) * 32 ≤ 140737488355328) (hm : n ≤ a) : (n + 1) * 32 ≤ 140737488355328 := by omega

set_option maxHeartbeats 1000000 in
set_option maxRecDepth 100000 in
theorem rapply_calls (l : List Pr) (ops : List Op3) (A B : Option Addr) (c c' : Nat) (w : World) (hr : Rd w 2 A l.length (encPs l)) (hs : Rd w 3 B ops.length (encOs ops)) (hsz : (l.length + ops.length + 1) * 32 ≤ 140737488355328) :
    Calls Tryz.prog 17 #[.slice A l.length c, .slice B ops.length c'] w fun e w' => ∃ v, e = .returned v ∧ OwnP w.heap.size w' v (applyT l ops) ∧ Mod NoneB w w' := by
  have hn := hr.2.1
  have hn' := hs.2.1
  have hap := applyT_norm l ops
  have HAP := Lib.hid hap
  have hle : ∀ n, n ≤ l.length + ops.length → (n + 1) * 32 ≤ 140737488355328 := fun n h => len_ok hsz h
  have HLE := Lib.hid hle
  clear hap hsz hle
  go_enter Tryz.func17, Tryz.ntmps17
  go_wp2_with fail
  go_loopw [5, 6] (fun v i wr => ∃ j : Nat, i = .int .i64 j ∧ j ≤ l.length ∧ OwnP w.heap.size wr v ((l.take j).foldl (fun m p => putT m p.k p.v) []) ∧ Mod NoneB w wr) (fun _ i _ => l.length - (intOf i).toNat)
  case atStart => exact ⟨0, rfl, Nat.zero_le _, OwnP.nil _ _, Mod.refl _ _⟩
  case round =>
    obtain ⟨j, rfl, hj, ho, hm⟩ := hrel
    by_cases hlt : j < l.length
    · obtain ⟨ad, rfl, h0, h1⟩ := (hr.mod0 hm).pair j hlt
      have hll := foldput_length_le (l.take j) []
      have hst := foldl_take_succ (fun m (p : Pr) => putT m p.k p.v) [] l j hlt
      rw [List.length_take] at hll
      simp only [List.length_nil] at hll
      obtain ⟨m, hmd⟩ : ∃ m, m = (l.take j).foldl (fun m (p : Pr) => putT m p.k p.v) [] := ⟨_, rfl⟩
      rw [← hmd] at hll hst ho
      have hml := HLE.out _ (Nat.le_trans hll (by omega))
      have HST := Lib.hid hst
      clear hmd hll
      have e6 : (j : Int) < l.length := by omega
      have e7 : (0 : Int) ≤ j := by omega
      have e8 : IntKind.i64.wrap ((j : Int) + 1) = j + 1 := IntWalk.i64_in _ (by omega)
      clear hst
      go_wp2_with fail
      refine (rputO_calls w.heap.size m l[j] _ _ ho hm.size hml).mono ?_
      rintro e w5 ⟨v5, rfl, ho5, hm5⟩
      rw [← HST.out] at ho5
      go_wp2_with fail
      go_roundw
      case rel => exact ⟨j + 1, by go_num, by omega, ho5, hm.trans_new hm5 (fun k hk => .inr hk)⟩
      case measure => simp [intOf]; omega
    · have hje : j = l.length := by omega
      subst hje
      rw [List.take_length] at ho
      have hnl := foldput_length_le l []
      simp only [List.length_nil, Nat.zero_add] at hnl
      replace hnl : (normT l).length ≤ l.length := hnl
      replace ho : OwnP w.heap.size wr _ (normT l) := ho
      have hrn := rises_normT l
      obtain ⟨s, hsd⟩ : ∃ s, s = normT l := ⟨_, rfl⟩
      rw [← hsd] at HAP ho hnl hrn
      have HRN := Lib.hid hrn
      have HO := Lib.hid ho
      clear ho hsd hrn
      go_wp2_with fail
      go_loopw [5, 7, 8, 9] (fun v i _ _ wq => ∃ j : Nat, i = .int .i64 j ∧ j ≤ ops.length ∧ OwnP w.heap.size wq v ((ops.take j).foldl stepT s) ∧ Mod NoneB w wq) (fun _ i _ _ _ => ops.length - (intOf i).toNat)
      case atStart => exact ⟨0, rfl, Nat.zero_le _, HO.out, hm⟩
      case round =>
        clear hm
        obtain ⟨j, rfl, hj, ho, hm⟩ := hrel
        by_cases hlt : j < ops.length
        · obtain ⟨ad, rfl, h0, h1, h2⟩ := (hs.mod0 hm).op j hlt
          have hll := fold_length_le (ops.take j) s
          have hst := foldl_take_succ stepT s ops j hlt
          have hri := rises_fold HRN.out (ops.take j)
          rw [List.length_take] at hll
          obtain ⟨m, hmd⟩ : ∃ m, m = (ops.take j).foldl stepT s := ⟨_, rfl⟩
          obtain ⟨o, hod⟩ : ∃ o, o = ops[j] := ⟨_, rfl⟩
          rw [← hmd] at ho hll hst hri
          rw [← hod] at h0 h1 h2 hst
          have hmlo : m.length ≤ l.length + ops.length := by omega
          have hml := HLE.out m.length hmlo
          have e6 : (j : Int) < ops.length := by omega
          have e7 : (0 : Int) ≤ j := by omega
          have e8 : IntKind.i64.wrap ((j : Int) + 1) = j + 1 := IntWalk.i64_in _ (by omega)
          have HST := Lib.hid hst
          have HRI := Lib.hid hri
          clear hst hri hmd hod hll
          obtain ⟨A5, c5, rfl, hr5⟩ := ho.own.nilD0
          cases hdel : o.del with
          | false =>
            rw [hdel] at h0
            have hput : Calls Tryz.prog 43 #[.slice A5 m.length c5, .agg #[.string o.k, .string o.v]] _ _ := rputO_calls w.heap.size m ⟨o.k, o.v⟩ _ _ (ho.mod0 ((Mod.refl NoneB _).drew)) hm.size hml
            have hstp : stepT m o = putT m o.k o.v := by unfold stepT; rw [hdel]; rfl
            rw [hstp] at HST
            have HPUT := Lib.hid hput
            clear hput hdel hstp
            go_wp2_with fail
            go_region_law (go_simp; go_at_call 43; (with_reducible refine HPUT.out.mono ?_); rintro ez w5 ⟨v5, rfl, ho5, hm5⟩)
            all_goals
              have hmq : Mod NoneB w w5 := hm.drew.trans_new hm5 (fun k hk => .inr hk)
              have ho6 := ho5
              rw [← HST.out] at ho6
              have HO6 := Lib.hid ho6
              clear ho6 ho5 h0 h1 h2 ho
              go_wp2_with fail
              go_roundw
              case rel => exact ⟨j + 1, by go_num, by omega, HO6.out, hmq⟩
              case measure => simp [intOf]; omega
          | true =>
            rw [hdel] at h0
            have hstp : stepT m o = delT m o.k := by unfold stepT; rw [hdel]; rfl
            rw [hstp, ← delT_filter o.k m HRI.out] at HST
            clear hdel hstp
            obtain ⟨n0, hn0⟩ : ∃ n0, n0 = wr.heap.size := ⟨_, rfl⟩
            have hwn : w.heap.size ≤ n0 := by rw [hn0]; exact hm.size
            have hmlen : m.length ≤ 9223372036854775807 := hr5.2.1
            go_wp2_with fail
            clear ho h0 h2
            go_loopw [8, 9] (fun v8 i wx => ∃ k : Nat, i = .int .i64 k ∧ k ≤ m.length ∧ OwnP n0 wx v8 ((m.take k).filter fun p => decide (p.k ≠ o.k)) ∧ Mod NoneB wr wx) (fun _ i _ => m.length - (intOf i).toNat)
            case atStart => exact ⟨0, rfl, Nat.zero_le _, OwnP.nil _ _, Mod.refl _ _⟩
            case round =>
              obtain ⟨k, rfl, hk, ho8, hm8⟩ := hrel
              by_cases hltk : k < m.length
              · obtain ⟨ad5, rfl, p0, p1⟩ := (hr5.mod0 hm8).pair k hltk
                have o1 := hm8.cell0 h1
                have hft := filter_take (fun p => decide (p.k ≠ o.k)) m k hltk
                have hfl := List.length_filter_le (fun p : Pr => decide (p.k ≠ o.k)) (m.take k)
                rw [List.length_take] at hfl
                obtain ⟨q, hq⟩ : ∃ q, q = m[k] := ⟨_, rfl⟩
                rw [← hq] at p0 p1 hft
                obtain ⟨t, ht⟩ : ∃ t, t = (m.take k).filter (fun p => decide (p.k ≠ o.k)) := ⟨_, rfl⟩
                rw [← ht] at ho8 hft hfl
                have k6 : (k : Int) < m.length := by omega
                have k7 : (0 : Int) ≤ k := by omega
                have k8 : IntKind.i64.wrap ((k : Int) + 1) = k + 1 := IntWalk.i64_in _ (by omega)
                have htl : (t.length + 1) * 32 ≤ 140737488355328 := HLE.out _ (by omega)
                clear hq ht hfl
                by_cases he : q.k = o.k
                · have b1 : (q.k.toList == o.k.toList) = true := by rw [beq_toList]; exact decide_eq_true he
                  have b2 : (q.k.toList != o.k.toList) = false := by simp [bne, b1]
                  rw [if_neg (by simp [he])] at hft
                  rw [← hft] at ho8
                  have HO8 := Lib.hid ho8
                  clear hft ho8 he
                  go_wp2_with fail
                  go_quiet (fail)
                  go_wp2_with fail
                  go_roundw
                  case rel => exact ⟨k + 1, by go_num, by omega, HO8.out.mod0 ((Mod.refl NoneB _).drewN nq), hm8.drewN nq⟩
                  case measure => simp [intOf]; omega
                · have b1 : (q.k.toList == o.k.toList) = false := by rw [beq_toList]; exact decide_eq_false he
                  have b2 : (q.k.toList != o.k.toList) = true := by simp [bne, b1]
                  rw [if_pos (by simp [he])] at hft
                  have HFT := Lib.hid hft
                  clear hft he
                  go_wp2_with fail
                  go_quiet (fail)
                  have hm9 := hm8.drewN nq
                  have ho9 := ho8.mod0 ((Mod.refl NoneB wr).drewN nq)
                  have q0 := ((Mod.refl NoneB wr).drewN nq).cell0 p0
                  have q1 := ((Mod.refl NoneB wr).drewN nq).cell0 p1
                  generalize wr.drewN nq = w9 at hm9 ho9 q0 q1 ⊢
                  have hal : Mod NoneB w9 (w9.alloc (.cells #[.string q.k, .string q.v] 88)) := (Mod.refl NoneB w9).alloc _
                  have hox := ho9.mod0 hal
                  have hnx : 0 < 1 → ∃ a, (some ⟨w9.heap.size, 0, none⟩ : Option Addr) = some a ∧ ∀ (j : Nat) u, (encPs [q])[j]? = some u → (w9.alloc (.cells #[.string q.k, .string q.v] 88)).cell? (a.add j) = some u := (rdBlk (sz := 2) (n := 1) (heap_alloc_new w9 (.cells #[.string q.k, .string q.v] 88)) rfl (by omega)).2.2
                  have hup := Tryz.underlying37
                  clear p0 p1 o1 ho8 hm8 ho9
                  go_wp2_with (at_builtin; refine wpList_append rfl (.tmp 64) (.tmp 69) 37 rfl 88 _ 2 32 hup tiP rfl (by decide) (by decide) _ t.length (encPs t) rfl hox.own (some ⟨w9.heap.size, 0, none⟩) 1 1 (encPs [q]) rfl rfl hnx (encPs_one _) htl ?_)
                  intro v5 w5 ho5 hm5 hno5
                  have hmw := (hm9.then0 hal).trans_new hm5 (fun k hk => .inr (by rw [← hn0]; exact hox.new k hk))
                  have hn5 : ∀ g, v5.ownBlock = some g → n0 ≤ g := by
                    intro g hg
                    rcases hno5 with hq | ⟨b, hq, hb⟩
                    · exact hox.new g (by rw [← hq]; exact hg)
                    · rw [hq] at hg
                      injection hg with hg
                      have h1 := hm9.size
                      subst hg
                      rw [hn0]
                      exact Nat.le_trans (Nat.le_trans h1 hal.size) hb
                  have ho6 : OwnP n0 w5 v5 ((m.take (k + 1)).filter fun p => decide (p.k ≠ o.k)) := by
                    rw [HFT.out]
                    refine ⟨?_, hn5⟩
                    have e : encPs (t ++ [q]) = encPs t ++ encPs [q] := by unfold encPs; rw [List.flatMap_append]
                    rw [e, List.length_append]
                    exact ho5
                  obtain ⟨V5, cv5, rfl, _, _, _⟩ := ho5.out
                  have HO6 := Lib.hid ho6
                  clear ho6 hn5 ho5 hox hnx hno5
                  go_wp2_with fail
                  go_roundw
                  case rel => exact ⟨k + 1, by go_num, by omega, HO6.out, hmw⟩
                  case measure => simp [intOf]; omega
              · have hke : k = m.length := by omega
                subst hke
                rw [List.take_length, ← HST.out] at ho8
                have HO8 := Lib.hid ho8
                clear ho8
                go_wp2_with fail
                go_roundw
                case rel => exact ⟨j + 1, by go_num, by omega, ⟨HO8.out.own, fun g hg => Nat.le_trans hwn (HO8.out.new g hg)⟩, hm.then0 hm8⟩
                case measure => simp [intOf]; omega
        · have hje : j = ops.length := by omega
          subst hje
          rw [List.take_length] at ho
          have HO2 := Lib.hid ho
          clear ho
          go_wp2_with fail
          go_ret
          rw [HAP.out]
          exact ⟨_, rfl, HO2.out, hm⟩
end Go.Proofs.YtnlmfmceogbomaaGreatDoor
