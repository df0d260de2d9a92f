/- TableLast: what is at a key behind ops is what the last op of that key says, or what was there: the walk of the law. -/
import Derived.Test.YtnoleekdldmagaaTabAw
namespace Go.Proofs.Ytnoleekdldmagaa
open Go.RowKit
set_option linter.unusedVariables false

theorem saysT_take (ops : List Op3) (key : ByteArray) (r : Option ByteArray) (j : Nat) (h : j < ops.length) :
    saysT (ops.take (j + 1)) key r = if ops[j].k = key then (if ops[j].del then none else some ops[j].v) else saysT (ops.take j) key r := by
  unfold saysT
  rw [foldl_take_succ _ _ _ _ h]

theorem getO_calls (N : Nat) (l : List Pr) (key : ByteArray) (v : Value) (w : World) (ho : OwnP N w v l) (hsz : l.length ≤ 4611686018427387904) :
    Calls Try.prog 30 #[v, .string key] w fun e w' => e = .returned (.tuple #[.string (getV l key), .bool (getB l key)]) ∧ Mod NoneB w w' := by
  obtain ⟨A, c, rfl, h⟩ := ho.out
  exact get_calls l key A c w h hsz
theorem applyO_calls (N : Nat) (l : List Pr) (ops : List Op3) (v : Value) (B : Option Addr) (c' : Nat) (w : World) (ho : OwnP N w v l) (hs : Rd w 3 B ops.length (encOs ops)) (hsz : (l.length + ops.length + 1) * 32 ≤ 140737488355328) :
    Calls Try.prog 27 #[v, .slice B ops.length c'] w fun e w' => ∃ v', e = .returned v' ∧ OwnP w.heap.size w' v' (applyT l ops) ∧ Mod NoneB w w' := by
  obtain ⟨A, c, rfl, h⟩ := ho.out
  exact apply_calls l ops A B c c' w h hs hsz
theorem applyT_length_le (l : List Pr) (ops : List Op3) : (applyT l ops).length ≤ l.length + ops.length := by
  unfold applyT
  refine Nat.le_trans (fold_length_le _ _) ?_
  have : (if Rises l then l else normT l).length ≤ l.length := by
    split
    · omega
    · have := foldput_length_le l []; unfold normT; simpa using this
  omega

set_option maxHeartbeats 2000000 in
set_option maxRecDepth 100000 in
theorem tableLast_walk (l : List Pr) (ops : List Op3) (key : ByteArray) (A B : Option Addr) (c c' : Nat) (w : World) (hr : Rd w 2 A l.length (encPs l)) (hs : Rd w 3 B ops.length (encOs ops)) :
    Calls Try.prog 5 #[.slice A l.length c, .slice B ops.length c', .string key] w fun e w' => e = .returned (.bool true) ∧ Mod NoneB w w' := by
  go_enter Try.func5, Try.ntmps5
  go_wp2_with fail
  refine (greatP_calls l A c _ hr).mono ?_
  rintro e w1 ⟨b, rfl, hm1, hb1⟩
  cases b with
  | true =>
    go_wp2_with ((with_reducible refine (awake6_calls _).mono ?_); rintro e wz ⟨rfl, hmz⟩)
    go_ret
    exact ⟨rfl, hm1.then0 hmz⟩
  | false =>
    obtain ⟨hl, _⟩ := wtP_le (hb1 rfl)
    clear hb1
    go_wp2_with fail
    refine (greatO_calls ops B c' _ (hs.mod0 hm1)).mono ?_
    rintro e w2 ⟨b, rfl, hm2, hb2⟩
    have hm12 := hm1.then0 hm2
    clear hm1 hm2
    cases b with
    | true =>
      go_wp2_with ((with_reducible refine (awake6_calls _).mono ?_); rintro e wz ⟨rfl, hmz⟩)
      go_ret
      exact ⟨rfl, hm12.then0 hmz⟩
    | false =>
      obtain ⟨ho, _⟩ := wtO_le (hb2 rfl)
      clear hb2
      by_cases hk : 300 < key.size
      · go_wp2_with ((with_reducible refine (awake6_calls _).mono ?_); rintro e wz ⟨rfl, hmz⟩)
        go_ret
        exact ⟨rfl, hm12.then0 hmz⟩
      · go_wp2_with fail
        refine (applyN_calls l [] l.length 0 rfl rfl _ _ _ _ _ (hr.mod0 hm12) (Rd.nil _ _ _) (by omega)).mono ?_
        rintro e w3 ⟨v3, rfl, ho3, hm3⟩
        have hm13 := hm12.then0 hm3
        have hl3 := applyT_length_le l []
        simp only [List.length_nil, Nat.add_zero] at hl3
        have hri : Rises (applyT l []) := rises_applyT l []
        obtain ⟨m, hmm⟩ : ∃ m, m = applyT l [] := ⟨_, rfl⟩
        rw [← hmm] at ho3 hl3 hri
        have HRI := Lib.hid hri
        clear hmm hm12 hm3 hri
        go_wp2_with fail
        refine (getO_calls _ m key _ _ ho3 (by omega)).mono ?_
        rintro e w4 ⟨rfl, hm4⟩
        have hm14 := hm13.then0 hm4
        have ho4 := ho3.mod0 hm4
        clear hm13 hm4 ho3
        go_wp2_with fail
        go_loopw [7, 8, 9] (fun wt hs i wr => ∃ (j : Nat) (s : ByteArray) (b : Bool), i = .int .i64 j ∧ wt = .string s ∧ hs = .bool b ∧ j ≤ ops.length ∧ saysT (ops.take j) key (getT m key) = (if b then some s else none) ∧ Mod NoneB w4 wr) (fun _ _ i _ => ops.length - (intOf i).toNat)
        case atStart =>
          refine ⟨0, _, _, rfl, rfl, rfl, by omega, ?_, Mod.refl _ _⟩
          show getT m key = _
          unfold getV getB
          cases getT m key <;> rfl
        case round =>
          obtain ⟨j, s, b, rfl, rfl, rfl, hj, hsy, hm⟩ := hrel
          have HSY := Lib.hid hsy
          clear hsy
          by_cases hlt : j < ops.length
          · obtain ⟨bd, rfl, h0, h1, h2⟩ := hs.op j hlt
            replace h0 := hm.cell0 (hm14.cell0 h0)
            replace h1 := hm.cell0 (hm14.cell0 h1)
            replace h2 := hm.cell0 (hm14.cell0 h2)
            have hst := saysT_take ops key (getT m key) j hlt
            obtain ⟨o, hoo⟩ : ∃ o, o = ops[j] := ⟨_, rfl⟩
            rw [← hoo] at h0 h1 h2 hst
            clear hoo
            by_cases he : o.k = key
            · have b1 : (o.k.toList == key.toList) = true := by rw [beq_toList]; exact decide_eq_true he
              rw [if_pos he] at hst
              have HST := Lib.hid hst
              clear hst he
              go_wp2_with fail
              go_roundw
              case rel => exact ⟨j + 1, o.v, !o.del, by go_num, rfl, rfl, by omega, by rw [HST.out]; cases o.del <;> rfl, hm⟩
              case measure => simp [intOf]; omega
            · have b1 : (o.k.toList == key.toList) = false := by rw [beq_toList]; exact decide_eq_false he
              rw [if_neg he, HSY.out] at hst
              have HST := Lib.hid hst
              clear hst he
              go_wp2_with fail
              go_roundw
              case rel => exact ⟨j + 1, s, b, by go_num, rfl, rfl, by omega, HST.out, hm⟩
              case measure => simp [intOf]; omega
          · have hjl : j = ops.length := by omega
            subst hjl
            have hfin : getT (applyT m ops) key = if b then some s else none := by
              have h := HSY.out
              rw [List.take_length] at h
              rw [applyT_rises HRI.out, getT_fold HRI.out]
              exact h
            have HF := Lib.hid hfin
            clear hfin
            have hl5 := applyT_length_le m ops
            go_wp2_with fail
            refine (applyO_calls _ m ops _ _ _ _ (ho4.mod0 hm) (hs.mod0 (hm14.then0 hm)) (by omega)).mono ?_
            rintro e w5 ⟨v5, rfl, ho5, hm5⟩
            have hm15 := (hm14.then0 hm).then0 hm5
            go_wp2_with fail
            refine (getO_calls _ (applyT m ops) key _ _ ho5 (by omega)).mono ?_
            rintro e w6 ⟨rfl, hm6⟩
            have hm16 := hm15.then0 hm6
            have hgb : getB (applyT m ops) key = b := by unfold getB; rw [HF.out]; cases b <;> rfl
            rw [hgb]
            clear hgb
            cases b with
            | true =>
              have hgv : getV (applyT m ops) key = s := by unfold getV; rw [HF.out]; rfl
              rw [hgv]
              clear hgv
              go_wp2_with ((with_reducible refine (awake6_calls _).mono ?_); rintro e wz ⟨rfl, hmz⟩)
              go_ret
              exact ⟨rfl, hm16.then0 hmz⟩
            | false =>
              go_wp2_with ((with_reducible refine (awake6_calls _).mono ?_); rintro e wz ⟨rfl, hmz⟩)
              go_ret
              exact ⟨rfl, hm16.then0 hmz⟩
end Go.Proofs.Ytnoleekdldmagaa
