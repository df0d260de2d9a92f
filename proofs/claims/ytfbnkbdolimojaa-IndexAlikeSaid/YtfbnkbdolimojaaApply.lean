/- table.Apply: what ops make of pairs. -/
import Derived.Test.YtfbnkbdolimojaaEqs
import Derived.Deep.DeepCutAuto
namespace Go.Proofs.Ytfbnkbdolimojaa
open Go.RowKit
set_option linter.unusedVariables false

/-- Pairs that are owned, in blocks from N on. -/
structure OwnP (N : Nat) (w : World) (v : Value) (m : List Pr) : Prop where
  own : Own w 102 2 v m.length (encPs m)
  new : ∀ g, v.ownBlock = some g → N ≤ g
theorem OwnP.nil (N : Nat) (w : World) : OwnP N w (.slice none 0 0) [] := ⟨Own.nil _ _ _, fun g h => by cases h⟩
theorem OwnP.mod0 {N : Nat} {w w1 : World} {v : Value} {m : List Pr} (h : OwnP N w v m) (hm : Mod NoneB w w1) : OwnP N w1 v m := ⟨h.own.mod0 hm, h.new⟩
theorem stepT_length_le (l : List Pr) (o : Op3) : (stepT l o).length ≤ l.length + 1 := by
  unfold stepT
  split
  · unfold delT
    have := lb_le l o.k
    split
    · simp; omega
    · omega
  · exact putT_length_le _ _ _
theorem fold_length_le (ops : List Op3) (l : List Pr) : (ops.foldl stepT l).length ≤ l.length + ops.length := by
  induction ops generalizing l with
  | nil => simp
  | cons o ops ih => have := ih (stepT l o); have := stepT_length_le l o; simp only [List.foldl_cons, List.length_cons]; omega
theorem foldput_length_le (ps : List Pr) (l : List Pr) : (ps.foldl (fun m p => putT m p.k p.v) l).length ≤ l.length + ps.length := by
  induction ps generalizing l with
  | nil => simp
  | cons o ops ih => have := ih (putT l o.k o.v); have := putT_length_le l o.k o.v; simp only [List.foldl_cons, List.length_cons]; omega
theorem foldl_take_succ {α β : Type} (f : β → α → β) (b : β) (l : List α) (j : Nat) (h : j < l.length) : (l.take (j + 1)).foldl f b = f ((l.take j).foldl f b) l[j] := by
  rw [List.take_succ_eq_append_getElem h, List.foldl_append]
  rfl

theorem putO_calls (N : Nat) (l : List Pr) (key val : ByteArray) (v : Value) (w : World) (hr : Rises l) (ho : OwnP N w v l) (hN : N ≤ w.heap.size) (hsz : (l.length + 1) * 32 ≤ 140737488355328) :
    Calls Try.prog 76 #[v, .string key, .string val] w fun e w' => ∃ v', e = .returned v' ∧ OwnP N w' v' (putT l key val) ∧ Mod (fun k => N ≤ k) w w' :=
  (put_calls l key val v w hr ho.own hsz).mono fun e w' ⟨v', he, h1, h2, h3⟩ =>
    ⟨v', he, ⟨h1, fun g hg => by
      rcases h3 with h | ⟨b, h, hb⟩
      · exact ho.new g (h ▸ hg)
      · rw [h] at hg; injection hg with hg; omega⟩, h2.mono fun k _ hk => ho.new k hk⟩
theorem delO_calls (N : Nat) (l : List Pr) (i : Nat) (v : Value) (w : World) (ho : OwnP N w v l) (hN : N ≤ w.heap.size) (hi : i < l.length) :
    Calls Try.prog 77 #[v, .int .i64 i, .int .i64 (i + 1)] w fun e w' => ∃ v', e = .returned v' ∧ OwnP N w' v' (l.take i ++ l.drop (i + 1)) ∧ Mod (fun k => N ≤ k) w w' :=
  (deleteP_calls l i v w ho.own hi).mono fun e w' ⟨v', he, h1, h2, h3⟩ =>
    ⟨v', he, ⟨by rw [show (l.take i ++ l.drop (i + 1)).length = l.length - 1 from by simp; omega]; exact h1, fun g hg => by
      rcases h3 with h | ⟨b, h, hb⟩
      · exact ho.new g (h ▸ hg)
      · rw [h] at hg; injection hg with hg; omega⟩, h2.mono fun k _ hk => ho.new k hk⟩
theorem cloneO_calls (l : List Pr) (A : Option Addr) (c : Nat) (N : Nat) (w : World) (hr : Rd w 2 A l.length (encPs l)) (hN : N ≤ w.heap.size) (hsz : l.length * 32 ≤ 140737488355328) :
    Calls Try.prog 75 #[.slice A l.length c] w fun e w' => ∃ v', e = .returned v' ∧ OwnP N w' v' l ∧ Mod (fun k => N ≤ k) w w' :=
  (cloneP_calls l A c w hr hsz).mono fun e w' ⟨v', he, h1, h2, h3⟩ => ⟨v', he, ⟨h1, fun g hg => Nat.le_trans hN (h3 g hg)⟩, h2.mono fun k _ hk => hk.elim⟩
theorem findO_calls (N : Nat) (l : List Pr) (key : ByteArray) (v : Value) (w : World) (hr : Rises l) (ho : OwnP N w v l) (hsz : l.length ≤ 4611686018427387904) :
    Calls Try.prog 66 #[v, .string key] w fun e w' => e = .returned (.tuple #[.int .i64 (lb l key), .bool (hitB l key)]) ∧ Mod NoneB w w' := by
  obtain ⟨A, c, rfl, _, _, h⟩ := ho.own.out
  exact find_calls l key A c w (parts_of_rises hr key) h hsz

set_option maxHeartbeats 800000 in
set_option maxRecDepth 100000 in
theorem apply_calls (l : List Pr) (ops : List Op3) (A B : Option Addr) (c c' : Nat) (w : World) (hr : Rd w 2 A l.length (encPs l)) (hs : Rd w 3 B ops.length (encOs ops)) (hsz : (l.length + ops.length + 1) * 32 ≤ 140737488355328) :
    Calls Try.prog 31 #[.slice A l.length c, .slice B ops.length c'] w fun e w' => ∃ v', e = .returned v' ∧ OwnP w.heap.size w' v' (applyT l ops) ∧ Mod NoneB w w' := by
  have hn := hr.2.1
  have hn' := hs.2.1
  obtain ⟨N, hN⟩ : ∃ N, N = w.heap.size := ⟨_, rfl⟩
  rw [← hN]
  have HN := Lib.hid hN
  clear hN
  have toN : ∀ {w1 : World}, Mod (fun k => N ≤ k) w w1 → Mod NoneB w w1 := fun h => h.mono fun k hk h2 => absurd hk (by have := HN.out; omega)
  have hN' : N ≤ w.heap.size := Nat.le_of_eq HN.out
  obtain ⟨st, hst⟩ : ∃ st, st = (if Rises l then l else normT l) := ⟨_, rfl⟩
  have hst1 : Rises st := by rw [hst]; exact rises_start l
  have hst2 : st.length ≤ l.length := by
    rw [hst]
    split
    · exact Nat.le_refl _
    · have := foldput_length_le l []; unfold normT; simpa using this
  have happ : applyT l ops = ops.foldl stepT st := by rw [hst]; rfl
  rw [happ]
  clear happ
  have hbd : ∀ n : Nat, n + 1 ≤ l.length + ops.length + 1 → (n + 1) * 32 ≤ 140737488355328 := fun n h => Nat.le_trans (Nat.mul_le_mul_right 32 h) hsz
  have HB := Lib.hid hbd
  clear hbd
  have HST := Lib.hid hst
  have HR1 := Lib.hid hst1
  clear hst hst1
  go_enter Try.func31, Try.ntmps31
  go_upto_if 13 with ((with_reducible refine (right_calls l A c _ hr).mono ?_); rintro e w1 ⟨rfl, hm1⟩)
  go_cut [5] (fun v wx => OwnP N wx v st ∧ Mod NoneB w wx)
  case first =>
    by_cases hR : Rises l
    · have hd : decide (Rises l) = true := decide_eq_true hR
      have HE : Hid (st = l) := Lib.hid (by rw [HST.out, if_pos hR])
      rw [hd]
      clear hd hR
      go_wp2_with ((with_reducible refine (cloneO_calls l A c N _ (hr.mod0 hm1) (by have := hm1.size; omega) (by omega)).mono ?_); rintro e w2 ⟨v2, rfl, ho2, hm2⟩)
      go_meet
      case rel => exact ⟨by rw [HE.out]; exact ho2, toN ((hm1.mono (fun _ _ h => h.elim)).trans_new hm2 (fun k hk => .inl hk))⟩
    · have hd : decide (Rises l) = false := decide_eq_false hR
      have HE : Hid (st = normT l) := Lib.hid (by rw [HST.out, if_neg hR])
      rw [hd]
      clear hd hR
      go_wp2_with fail
      go_loopw [5, 18] (fun v i wr => ∃ j : Nat, i = .int .i64 j ∧ j ≤ l.length ∧ OwnP N wr v (normT (l.take j)) ∧ Mod NoneB w wr) (fun _ i _ => l.length - (intOf i).toNat)
      case atStart => exact ⟨0, rfl, by omega, OwnP.nil _ _, hm1⟩
      case round =>
        obtain ⟨j, rfl, hj, ho, hm⟩ := hrel
        by_cases hlt : j < l.length
        · obtain ⟨ad, rfl, h0, h1⟩ := hr.pair j hlt
          replace h0 := hm.cell0 h0
          replace h1 := hm.cell0 h1
          have hsu : normT (l.take (j + 1)) = putT (normT (l.take j)) l[j].k l[j].v := foldl_take_succ _ _ _ _ hlt
          have hln : (normT (l.take j)).length ≤ l.length := by
            have := foldput_length_le (l.take j) []
            unfold normT
            simp at this
            omega
          have hrs := rises_normT (l.take j)
          obtain ⟨p, hp⟩ : ∃ p, p = l[j] := ⟨_, rfl⟩
          rw [← hp] at h0 h1 hsu
          obtain ⟨m, hmm⟩ : ∃ m, m = normT (l.take j) := ⟨_, rfl⟩
          rw [← hmm] at hsu hln hrs ho
          have HS := Lib.hid hsu
          have HRS := Lib.hid hrs
          clear hp hmm hsu hrs
          have hb1 : (m.length + 1) * 32 ≤ 140737488355328 := HB.out _ (Nat.succ_le_succ (Nat.le_trans hln (Nat.le_add_right _ _)))
          have hm1 := hm.alloc (.cells #[.string p.k, .string p.v] 102)
          have hb2 : N ≤ (wr.alloc (.cells #[.string p.k, .string p.v] 102)).heap.size := Nat.le_trans hN' hm1.size
          go_wp2_with fail
          refine (putO_calls N m p.k p.v _ _ HRS.out (ho.mod0 ((Mod.refl NoneB wr).alloc _)) hb2 hb1).mono ?_
          rintro e w2 ⟨v2, rfl, ho2, hm2⟩
          go_wp2_with fail
          go_roundw
          case rel => exact ⟨j + 1, by go_num, by omega, by rw [HS.out]; exact ho2, toN ((hm1.mono (fun _ _ h => h.elim)).trans_new hm2 (fun k hk => .inl hk))⟩
          case measure => simp [intOf]; omega
        · have hjl : j = l.length := by omega
          subst hjl
          rw [List.take_length, ← HE.out] at ho
          go_wp2_with fail
          go_meet
          case rel => exact ⟨ho, hm⟩
  case rest =>
    obtain ⟨ho, hm⟩ := hcut
    go_wp2_with fail
    go_loopw [5, 31] (fun v i wr => ∃ j : Nat, i = .int .i64 j ∧ j ≤ ops.length ∧ OwnP N wr v ((ops.take j).foldl stepT st) ∧ Mod NoneB w wr) (fun _ i _ => ops.length - (intOf i).toNat)
    case atStart => exact ⟨0, rfl, by omega, ho, hm⟩
    case round =>
      clear ho hm
      obtain ⟨j, rfl, hj, ho, hm⟩ := hrel
      by_cases hlt : j < ops.length
      · obtain ⟨bd, rfl, h0, h1, h2⟩ := hs.op j hlt
        replace h0 := hm.cell0 h0
        replace h1 := hm.cell0 h1
        replace h2 := hm.cell0 h2
        have hsu : (ops.take (j + 1)).foldl stepT st = stepT ((ops.take j).foldl stepT st) ops[j] := foldl_take_succ _ _ _ _ hlt
        have hln : ((ops.take j).foldl stepT st).length ≤ l.length + ops.length :=
          Nat.le_trans (fold_length_le (ops.take j) st) (Nat.add_le_add hst2 (by rw [List.length_take]; exact Nat.min_le_right _ _))
        have hrs := rises_fold HR1.out (ops.take j)
        obtain ⟨o, ho'⟩ : ∃ o, o = ops[j] := ⟨_, rfl⟩
        rw [← ho'] at h0 h1 h2 hsu
        obtain ⟨m, hmm⟩ : ∃ m, m = (ops.take j).foldl stepT st := ⟨_, rfl⟩
        rw [← hmm] at hsu hln hrs ho
        have HS := Lib.hid hsu
        have HRS := Lib.hid hrs
        clear ho' hmm hsu hrs
        have hb1 : (m.length + 1) * 32 ≤ 140737488355328 := HB.out _ (Nat.succ_le_succ hln)
        have hb3 : m.length ≤ 4611686018427387904 := by clear hs hr h0 h1 h2; omega
        have hszN : ∀ {w2 : World}, Mod NoneB w w2 → N ≤ w2.heap.size := fun h => Nat.le_trans hN' h.size
        obtain ⟨od, ok, ov⟩ := o
        cases od with
        | false =>
          have HP : Hid (stepT m ⟨false, ok, ov⟩ = putT m ok ov) := Lib.hid rfl
          go_wp2_with fail
          refine (findO_calls N m ok _ _ HRS.out (ho.mod0 ((Mod.refl NoneB wr).alloc _)) hb3).mono ?_
          rintro e w2 ⟨rfl, hm2⟩
          have ho2 := (ho.mod0 ((Mod.refl NoneB wr).alloc (.cells #[.bool false, .string ok, .string ov] 69))).mod0 hm2
          have hm3 : Mod NoneB w w2 := (hm.alloc _).then0 hm2
          have c0 := hm2.cell0 (a := ⟨wr.heap.size, 0, none⟩) (v := .bool false) (by simp [World.cell?_alloc_new])
          have c1 := hm2.cell0 (a := ⟨wr.heap.size, 1, none⟩) (v := .string ok) (by simp [World.cell?_alloc_new])
          have c2 := hm2.cell0 (a := ⟨wr.heap.size, 2, none⟩) (v := .string ov) (by simp [World.cell?_alloc_new])
          go_wp2_with fail
          refine (putO_calls N m ok ov _ _ HRS.out ho2 (hszN hm3) hb1).mono ?_
          rintro e w4 ⟨v4, rfl, ho4, hm4⟩
          go_wp2_with fail
          go_roundw
          case rel => exact ⟨j + 1, by go_num, by omega, by rw [HS.out, HP.out]; exact ho4, toN ((hm3.mono (fun _ _ h => h.elim)).trans_new hm4 (fun k hk => .inl hk))⟩
          case measure => simp [intOf]; omega
        | true =>
          have hlb := lb_le m ok
          cases hh : hitB m ok with
          | true =>
            have hlt2 : lb m ok < m.length := by
              unfold hitB at hh
              by_cases h : lb m ok < m.length
              · exact h
              · rw [dif_neg h] at hh; cases hh
            have HP : Hid (stepT m ⟨true, ok, ov⟩ = m.take (lb m ok) ++ m.drop (lb m ok + 1)) := Lib.hid (by unfold stepT delT; simp [hh])
            have HH := Lib.hid hh
            clear hh
            go_wp2_with fail
            refine (findO_calls N m ok _ _ HRS.out (ho.mod0 ((Mod.refl NoneB wr).alloc _)) hb3).mono ?_
            rintro e w2 ⟨rfl, hm2⟩
            rw [HH.out]
            have ho2 := (ho.mod0 ((Mod.refl NoneB wr).alloc (.cells #[.bool true, .string ok, .string ov] 69))).mod0 hm2
            have hm3 : Mod NoneB w w2 := (hm.alloc _).then0 hm2
            have c0 := hm2.cell0 (a := ⟨wr.heap.size, 0, none⟩) (v := .bool true) (by simp [World.cell?_alloc_new])
            go_wp2_with fail
            refine (delO_calls N m (lb m ok) _ _ ho2 (hszN hm3) hlt2).mono ?_
            rintro e w4 ⟨v4, rfl, ho4, hm4⟩
            go_wp2_with fail
            go_roundw
            case rel => exact ⟨j + 1, by go_num, by omega, by rw [HS.out, HP.out]; exact ho4, toN ((hm3.mono (fun _ _ h => h.elim)).trans_new hm4 (fun k hk => .inl hk))⟩
            case measure => simp [intOf]; omega
          | false =>
            have HP : Hid (stepT m ⟨true, ok, ov⟩ = m) := Lib.hid (by unfold stepT delT; simp [hh])
            have HH := Lib.hid hh
            clear hh
            go_wp2_with fail
            refine (findO_calls N m ok _ _ HRS.out (ho.mod0 ((Mod.refl NoneB wr).alloc _)) hb3).mono ?_
            rintro e w2 ⟨rfl, hm2⟩
            rw [HH.out]
            have ho2 := (ho.mod0 ((Mod.refl NoneB wr).alloc (.cells #[.bool true, .string ok, .string ov] 69))).mod0 hm2
            have hm3 : Mod NoneB w w2 := (hm.alloc _).then0 hm2
            have c0 := hm2.cell0 (a := ⟨wr.heap.size, 0, none⟩) (v := .bool true) (by simp [World.cell?_alloc_new])
            go_wp2_with fail
            go_roundw
            case rel => exact ⟨j + 1, by go_num, by omega, by rw [HS.out, HP.out]; exact ho2, hm3⟩
            case measure => simp [intOf]; omega
      · have hjl : j = ops.length := by omega
        subst hjl
        rw [List.take_length] at ho
        go_wp2_with fail
        go_ret
        exact ⟨_, rfl, ho, hm⟩
end Go.Proofs.Ytfbnkbdolimojaa
