/- slices.Compact of diagnostics, diag.Sort. -/
import Derived.Test.YtdmdiokfpbmnaaaDoorDsM
import Derived.Test.YtdmdiokfpbmnaaaDoorDgB
namespace Go.Proofs.YtdmdiokfpbmnaaaDoor
open Go.RowKit
set_option linter.unusedVariables false

theorem eqlD (p q : Dg) (w : World) : (binOp .eql 27 (.agg #[.string p.m, .int .i64 p.a, .int .i64 p.c, .string p.n]) (.agg #[.string q.m, .int .i64 q.a, .int .i64 q.c, .string q.n])).run Tryd.prog w = .ok (.bool (decide (p = q))) w :=
  eql_of _ fun d => eqD_in d w p q
theorem encDs_setD : ∀ (l : List Dg) (i : Nat) (p : Dg), ((((encDs l).set (i * 4) (.string p.m)).set (i * 4 + 1) (.int .i64 p.a)).set (i * 4 + 2) (.int .i64 p.c)).set (i * 4 + 3) (.string p.n) = encDs (l.set i p)
  | [], i, p => by simp [encDs]
  | q :: l, 0, p => by simp [encDs, encD]
  | q :: l, i + 1, p => by
    have h := encDs_setD l i p
    have e : (i + 1) * 4 = i * 4 + 1 + 1 + 1 + 1 := by omega
    simp only [encDs, List.flatMap_cons, encD, e, List.cons_append, List.nil_append, List.set_cons_succ] at h ⊢
    rw [h]
theorem encDs_at (l : List Dg) (i : Nat) (h : i < l.length) : (encDs l)[i * 4]? = some (.string l[i].m) ∧ (encDs l)[i * 4 + 1]? = some (.int .i64 l[i].a) ∧ (encDs l)[i * 4 + 2]? = some (.int .i64 l[i].c) ∧ (encDs l)[i * 4 + 3]? = some (.string l[i].n) := by
  have k := fun k hk => flatMap_at encD 4 (fun _ => rfl) l i h k hk
  exact ⟨k 0 (by decide), k 1 (by decide), k 2 (by decide), k 3 (by decide)⟩
/-- While alike ones are dropped: what is there, its first K kept. -/
def cMix (l : List Dg) (r : Nat) : List Dg := cUp l r ++ l.drop (cUp l r).length
theorem cMix_length (l : List Dg) (r : Nat) (h : r ≤ l.length) : (cMix l r).length = l.length := by
  have := cUp_le l r
  unfold cMix
  rw [List.length_append, List.length_drop]
  omega
theorem cMix_at (l : List Dg) (r i : Nat) (h : r ≤ l.length) (hi : i < l.length) (hk : (cUp l r).length ≤ i) (hm : i < (cMix l r).length) : (cMix l r)[i] = l[i] := by
  apply Option.some.inj
  rw [← List.getElem?_eq_getElem, ← List.getElem?_eq_getElem]
  unfold cMix
  rw [List.getElem?_append_right hk, List.getElem?_drop]
  congr 1
  omega
theorem cMix_take (l : List Dg) (r : Nat) (hr : r < l.length) (hk : (cUp l r).length ≤ r) (e : ∀ h0 : 0 < r, l[r - 1] ≠ l[r]) : (cMix l r).set (cUp l r).length l[r] = cMix l (r + 1) := by
  have e1 := cUp_take hr e
  unfold cMix
  rw [e1, List.length_append, List.set_append_right _ _ (Nat.le_refl _), Nat.sub_self]
  have e2 : l.drop (cUp l r).length = l[(cUp l r).length]'(by omega) :: l.drop ((cUp l r).length + 1) := List.drop_eq_getElem_cons (by omega)
  rw [e2, List.set_cons_zero, List.append_assoc]
  rfl
theorem cMix_skip (l : List Dg) (r : Nat) (hr : r < l.length) (h0 : 0 < r) (e : l[r - 1] = l[r]) : cMix l (r + 1) = cMix l r := by
  unfold cMix
  rw [cUp_skip hr h0 e]

def CpE (l : List Dg) (v : Value) (w : World) (e : Ending) (w' : World) : Prop :=
  ∃ A c, e = .returned (.slice A (cUp l l.length).length c) ∧ (cUp l l.length).length ≤ c ∧ Rd w' 4 A (cUp l l.length).length (encDs (cUp l l.length)) ∧ Mod (OnlyBlk v) w w' ∧ ∀ ad, A = some ad → v.ownBlock = some ad.block
set_option maxHeartbeats 16000000 in
set_option maxRecDepth 100000 in
theorem compact_calls (l : List Dg) (v : Value) (w : World) (ho : Own w 27 4 v l.length (encDs l)) (hb : l.length ≤ 100000) :
    Calls Tryd.prog 24 #[v] w (CpE l v w) := by
  by_cases h2 : l.length < 2
  · obtain ⟨A, c, rfl, hlc, _, hr⟩ := ho.out
    have hcu : cUp l l.length = l := by
      match l, h2 with
      | [], _ => rfl
      | [x], _ => rfl
    have hbk : ∀ ad, A = some ad → (Value.slice A l.length c).ownBlock = some ad.block := by
      intro ad hA
      obtain ⟨_, ⟨h1, _⟩ | ⟨g, cap, cur, h1, _⟩⟩ := ho
      · injection h1 with h1; rw [h1] at hA; cases hA
      · injection h1 with h1; rw [h1] at hA; cases hA; rw [h1]; rfl
    have HCU := Lib.hid hcu
    have HR := Lib.hid hr
    have HBK := Lib.hid hbk
    have e2 : (l.length : Int) < 2 := by omega
    clear hcu hr hbk ho
    go_enter Tryd.func24, Tryd.ntmps24
    go_wp2_with fail
    go_ret
    unfold CpE
    rw [HCU.out]
    exact ⟨A, c, rfl, hlc, HR.out, Mod.refl _ _, HBK.out⟩
  · obtain ⟨g, c, rfl⟩ := ho.addrOf (by omega)
    have hlc : l.length ≤ c := by
      obtain ⟨A, c', he, h, _⟩ := ho.out
      injection he with _ _ he
      omega
    have hlc9 : c ≤ 9223372036854775807 := by
      obtain ⟨A, c', he, _, h, _⟩ := ho.out
      injection he with _ _ he
      omega
    have HO := Lib.hid ho
    have e2 : ¬ (l.length : Int) < 2 := by omega
    clear ho
    go_enter Tryd.func24, Tryd.ntmps24
    go_wp2_with fail
    go_loopw [3, 4, 5] (fun k _ _ wr => ∃ i : Nat, k = .int .i64 i ∧ 1 ≤ i ∧ i ≤ l.length ∧ cUp l i = l.take i ∧ Mod NoneB w wr) (fun k _ _ _ => l.length - (intOf k).toNat)
    case atStart =>
      refine ⟨1, rfl, by omega, by omega, ?_, Mod.refl _ _⟩
      have h0 : 0 < l.length := by omega
      rw [cUp_take h0 (fun h => absurd h (by omega)), List.take_succ_eq_append_getElem h0]
      rfl
    case round =>
      obtain ⟨i, rfl, hi1, hil, hcu, hm⟩ := hrel
      have HCU := Lib.hid hcu
      clear hcu
      by_cases hlt : i < l.length
      · obtain ⟨k0, k1, k2, k3⟩ := encDs_at l i hlt
        obtain ⟨p0, p1, p2, p3⟩ := encDs_at l (i - 1) (by omega)
        have hw := HO.out.mod0 hm
        replace k0 := hw.cellAt _ _ k0
        replace k1 := hw.cellAt _ _ k1
        replace k2 := hw.cellAt _ _ k2
        replace k3 := hw.cellAt _ _ k3
        replace p0 := hw.cellAt _ _ p0
        replace p1 := hw.cellAt _ _ p1
        replace p2 := hw.cellAt _ _ p2
        replace p3 := hw.cellAt _ _ p3
        have htk := List.take_succ_eq_append_getElem hlt
        have hi0 : 0 < i := by omega
        have hsk := fun (e : l[i - 1] = l[i]) => cUp_skip hlt hi0 e
        have hta := fun (e : ∀ h0 : 0 < i, l[i - 1] ≠ l[i]) => cUp_take hlt e
        obtain ⟨x, hx⟩ : ∃ x, x = l[i] := ⟨_, rfl⟩
        obtain ⟨y, hy⟩ : ∃ y, y = l[i - 1] := ⟨_, rfl⟩
        rw [← hx] at k0 k1 k2 k3 htk
        rw [← hy] at p0 p1 p2 p3
        have HX := Lib.hid hx
        have HY := Lib.hid hy
        have HSK := Lib.hid hsk
        have HTA := Lib.hid hta
        have HTK := Lib.hid htk
        obtain ⟨j, hj⟩ : ∃ j, j = i - 1 := ⟨_, rfl⟩
        rw [← hj] at p0 p1 p2 p3
        have hij : i = j + 1 := by omega
        have n1 : IntKind.i64.wrap ((i : Int) - 1) = j := by rw [show (i : Int) - 1 = j by omega]; exact IntWalk.i64_in _ (by omega)
        have f1 : (0 : Int) ≤ i := by omega
        have f2 : (i : Int) < l.length := by omega
        have f3 : (0 : Int) ≤ j := by omega
        have f4 : (j : Int) < l.length := by omega
        have heq := eqlD x y
        have HIJ := Lib.hid hij
        clear hx hy hsk hta htk hw hj hij
        by_cases hxy : x = y
        · rw [decide_eq_true hxy] at heq
          have hskip := HSK.out (by rw [← HX.out, ← HY.out]; exact hxy.symm)
          have f5 : ¬ (c = i) := by omega
          have f6 : (i : Int) ≤ l.length := by omega
          have hK0 : (cUp l (i + 1)).length = i := by rw [hskip, HCU.out, List.length_take]; omega
          have hM0 : cMix l (i + 1) = l := by unfold cMix; rw [hK0, hskip, HCU.out, List.take_append_drop]
          have HK0 := Lib.hid hK0
          have HM0 := Lib.hid hM0
          clear hxy hskip hK0 hM0 HSK HTA HTK HX HY
          go_wp2_with fail
          go_quiet (fail)
          have hmq : Mod NoneB w (wr.drewN nq) := hm.drewN nq
          generalize wr.drewN nq = w2 at hmq ⊢
          clear k0 k1 k2 k3 p0 p1 p2 p3 heq n1 f3 f4
          have HOW := Lib.hid (HO.out.mod0 hmq)
          go_wp2_with fail
          go_loopw [3, 5] (fun k t wr => ∃ m K : Nat, t = .int .i64 m ∧ k = .int .i64 K ∧ 1 ≤ m ∧ i + m ≤ l.length ∧ (cUp l (i + m)).length = K ∧ K < i + m ∧ Own wr 27 4 (.slice (some ⟨g, 0, none⟩) l.length c) l.length (encDs (cMix l (i + m))) ∧ Mod (fun q => q = g) w wr) (fun _ t _ => l.length - (intOf t).toNat)
          case atStart => exact ⟨1, i, rfl, rfl, by omega, by omega, HK0.out, by omega, by rw [HM0.out]; exact HOW.out, hmq.mono fun _ _ h => h.elim⟩
          case round =>
            obtain ⟨m, K, rfl, rfl, hm1, himl, hK, hKi, how, hmod⟩ := hrel
            have HK := Lib.hid hK
            clear hK hm hmq HOW HK0 HM0
            by_cases hlt2 : i + m < l.length
            · have hmx := cMix_length l (i + m) (by omega)
              have hx0 := encDs_at (cMix l (i + m)) (i + m) (by omega)
              have hy0 := encDs_at (cMix l (i + m)) (i + m - 1) (by omega)
              rw [cMix_at l (i + m) (i + m) (by omega) hlt2 (by have := HK.out; omega)] at hx0
              rw [cMix_at l (i + m) (i + m - 1) (by omega) (by omega) (by have := HK.out; omega)] at hy0
              have hta := fun (e : ∀ h0 : 0 < i + m, l[i + m - 1] ≠ l[i + m]) => cMix_take l (i + m) hlt2 (by have := HK.out; omega) e
              have hts := fun (e : ∀ h0 : 0 < i + m, l[i + m - 1] ≠ l[i + m]) => cUp_take hlt2 e
              have hr0 : 0 < i + m := by omega
              have hsk := fun (e : l[i + m - 1] = l[i + m]) => cMix_skip l (i + m) hlt2 hr0 e
              have hss := fun (e : l[i + m - 1] = l[i + m]) => cUp_skip hlt2 hr0 e
              obtain ⟨x, hx⟩ : ∃ x, x = l[i + m] := ⟨_, rfl⟩
              obtain ⟨y, hy⟩ : ∃ y, y = l[i + m - 1] := ⟨_, rfl⟩
              rw [← hx] at hx0 hta
              rw [← hy] at hy0
              rw [HK.out] at hta
              obtain ⟨j, hj⟩ : ∃ j, j = m - 1 := ⟨_, rfl⟩
              rw [show (i + m) * 4 = i * 4 + m * 4 by omega] at hx0
              rw [show (i + m - 1) * 4 = i * 4 + j * 4 by omega] at hy0
              obtain ⟨k0, k1, k2, k3⟩ := hx0
              obtain ⟨p0, p1, p2, p3⟩ := hy0
              replace k0 := how.cellAt _ _ k0
              replace k1 := how.cellAt _ _ k1
              replace k2 := how.cellAt _ _ k2
              replace k3 := how.cellAt _ _ k3
              replace p0 := how.cellAt _ _ p0
              replace p1 := how.cellAt _ _ p1
              replace p2 := how.cellAt _ _ p2
              replace p3 := how.cellAt _ _ p3
              obtain ⟨z0, z1, z2, z3⟩ := encDs_at (cMix l (i + m)) K (by omega)
              replace z0 := how.cellAt _ _ z0
              replace z1 := how.cellAt _ _ z1
              replace z2 := how.cellAt _ _ z2
              replace z3 := how.cellAt _ _ z3
              obtain ⟨q, hq⟩ : ∃ q, q = (cMix l (i + m))[K]'(by omega) := ⟨_, rfl⟩
              rw [← hq] at z0 z1 z2 z3
              have HX := Lib.hid hx
              have HY := Lib.hid hy
              have HTA := Lib.hid hta
              have HTS := Lib.hid hts
              have HSK := Lib.hid hsk
              have HSS := Lib.hid hss
              have n1 : IntKind.i64.wrap ((m : Int) - 1) = j := by rw [show (m : Int) - 1 = j by omega]; exact IntWalk.i64_in _ (by omega)
              have g1 : (0 : Int) ≤ m := by omega
              have g2 : (m : Int) < ((l.length - i : Nat) : Int) := by omega
              have g3 : (0 : Int) ≤ j := by omega
              have g4 : (j : Int) < ((l.length - i : Nat) : Int) := by omega
              have g5 : (0 : Int) ≤ K := by omega
              have g6 : (K : Int) < l.length := by omega
              have heq := neqD x y
              have HJ := Lib.hid hj
              clear hx hy hta hts hsk hss hj hq
              by_cases hxy : x = y
              · rw [decide_eq_true hxy] at heq
                have HXY := Lib.hid hxy
                clear hxy z0 z1 z2 z3
                go_wp2_with fail
                go_quiet (fail)
                clear k0 k1 k2 k3 p0 p1 p2 p3 heq n1 g1 g2 g3 g4 g5 g6
                go_wp2_with fail
                go_roundw
                case rel =>
                  have e := HXY.out
                  rw [HX.out, HY.out] at e
                  exact ⟨m + 1, K, by go_num, rfl, by omega, by omega, by rw [← Nat.add_assoc, HSS.out e.symm]; exact HK.out, by omega, by rw [← Nat.add_assoc, HSK.out e.symm]; exact how.mod0 ((Mod.refl NoneB wr).drewN _), hmod.drewN _⟩
                case measure => simp [intOf]; omega
              · rw [decide_eq_false hxy] at heq
                have HXY := Lib.hid hxy
                clear hxy
                go_wp2_with fail
                go_quiet (fail)
                have hdq : Mod NoneB wr (wr.drewN nq) := (Mod.refl NoneB wr).drewN nq
                have hmq : Mod (fun q => q = g) w (wr.drewN nq) := hmod.drewN nq
                generalize wr.drewN nq = w3 at hdq hmq ⊢
                have how3 := how.mod0 hdq
                replace k0 := hdq.cell0 k0
                replace k1 := hdq.cell0 k1
                replace k2 := hdq.cell0 k2
                replace k3 := hdq.cell0 k3
                replace z0 := hdq.cell0 z0
                replace z1 := hdq.cell0 z1
                replace z2 := hdq.cell0 z2
                replace z3 := hdq.cell0 z3
                have f0 := how3.frozenAt (K * 4)
                have q1 := how3.frozenAt (K * 4 + 1)
                have q2 := how3.frozenAt (K * 4 + 2)
                have q3 := how3.frozenAt (K * 4 + 3)
                have hs := (((how3.set (K * 4) (.string x.m)).set (K * 4 + 1) (.int .i64 x.a)).set (K * 4 + 2) (.int .i64 x.c)).set (K * 4 + 3) (.string x.n)
                rw [encDs_setD, HTA.out (fun h0 e => HXY.out (by rw [HY.out]; exact e.symm))] at hs
                have HS := Lib.hid hs
                clear hs how how3 hmod hdq p0 p1 p2 p3 heq n1
                go_wp2_with fail
                go_roundw
                case rel =>
                  refine ⟨m + 1, K + 1, by go_num, by go_num, by omega, by omega, ?_, by omega, by rw [← Nat.add_assoc]; exact HS.out, (((hmq.setCell (p := ⟨g, K * 4, none⟩) (fun _ => rfl) _).setCell (p := ⟨g, K * 4 + 1, none⟩) (fun _ => rfl) _).setCell (p := ⟨g, K * 4 + 2, none⟩) (fun _ => rfl) _).setCell (p := ⟨g, K * 4 + 3, none⟩) (fun _ => rfl) _⟩
                  rw [← Nat.add_assoc, HTS.out (fun h0 e => HXY.out (by rw [HX.out, HY.out]; exact e.symm)), List.length_append, HK.out]
                  rfl
                case measure => simp [intOf]; omega
            · have hin : i + m = l.length := by omega
              rw [hin] at how
              have hkk := HK.out
              rw [hin] at hkk
              obtain ⟨g', cap, cur, he, hh, hnc, hcm, hcs, htk⟩ := how.form (by omega)
              obtain ⟨rfl, rfl⟩ : g = g' ∧ c = cap := by injection he with h1 h2 h3; injection h1 with h1; injection h1 with h1; exact ⟨h1, h3⟩
              clear he
              have htK : cur.toList.take (K * 4) = encDs (cUp l l.length) := by
                have h1 := congrArg (List.take (K * 4)) htk
                rw [List.take_take, Nat.min_eq_left (by omega)] at h1
                rw [h1]
                unfold cMix
                rw [encDs_append, List.take_left' (by rw [encDs_length, hkk])]
              have hcl : cur.toList.length = c * 4 := by rw [Array.length_toList, hcs]
              have HTK := Lib.hid htK
              have HKK := Lib.hid hkk
              have hu := Tryd.underlying22
              have hzz : ∀ u ∈ (Value.agg #[.string ⟨#[]⟩, .int .i64 0, .int .i64 0, .string ⟨#[]⟩]).cells.toList, u.oneCell' = true := by
                intro u hu
                have e : (Value.agg #[.string ⟨#[]⟩, .int .i64 0, .int .i64 0, .string ⟨#[]⟩]).cells.toList = [.string ⟨#[]⟩, .int .i64 0, .int .i64 0, .string ⟨#[]⟩] := rfl
                rw [e] at hu
                simp only [List.mem_cons, List.not_mem_nil, or_false] at hu
                rcases hu with rfl | rfl | rfl | rfl <;> rfl
              have hh2 : wr.heap[g]? = some (.cells cur.toList.toArray 27 (0, 0)) := by simpa using hh
              have g2 : ¬ (m : Int) < ((l.length - i : Nat) : Int) := by omega
              have g5 : (0 : Int) ≤ K := by omega
              have g6 : (K : Int) ≤ l.length := by omega
              have g7 : ¬ (c = K) := by omega
              have g8 : (K : Int) ≤ c := by omega
              clear how htk hh htK hkk hin
              go_wp2_with (with_reducible refine wpList_clear rfl (.tmp 56) 22 rfl 27 _ 4 48 hu tiD rfl hzz (by decide) _ _ _ g (K * 4) _ rfl (fun _ => rfl) hh2 ?c2 ?_)
              case c2 => omega
              intro w4 zs hh3 hz hm4
              have hmo : Mod (fun q => q = g) w w4 := hmod.trans hm4 (fun _ _ h => h)
              have hrd : Rd w4 4 (some ⟨g, 0, none⟩) (cUp l l.length).length (encDs (cUp l l.length)) := by
                rw [HKK.out]
                refine ⟨by rw [encDs_length, HKK.out], by omega, fun _ => ⟨_, rfl, fun j u hu => ?_⟩⟩
                rw [add_zero, blk_cell hh3]
                have hj : j < K * 4 := by have := (List.getElem?_eq_some_iff.1 hu).1; rw [encDs_length, HKK.out] at this; exact this
                rw [← HTK.out, ← spl_take_le cur.toList (K * 4) (K * 4) zs (Nat.le_refl _) (by rw [hcl]; omega), List.getElem?_take, if_pos hj] at hu
                simpa using hu
              have HRD := Lib.hid hrd
              clear hrd hh3 hz hm4 hh2 hzz
              go_wp2_with fail
              go_ret
              have hrd := HRD.out
              have hk := HKK.out
              unfold CpE
              rw [hk] at hrd ⊢
              exact ⟨_, c, rfl, by omega, hrd, hmo.mono fun _ _ h => by subst h; rfl, fun ad h => by injection h with h; subst h; rfl⟩
        · rw [decide_eq_false hxy] at heq
          have HXY := Lib.hid hxy
          clear hxy
          go_wp2_with fail
          go_quiet (fail)
          clear f1 f2 f3 f4 n1 heq k0 k1 k2 k3 p0 p1 p2 p3
          go_wp2_with fail
          go_roundw
          case rel => exact ⟨i + 1, by go_num, by omega, by omega, by rw [HTA.out (fun h0 e => HXY.out (by rw [HX.out, HY.out]; exact e.symm)), HTK.out, HCU.out, ← HX.out], hm.drewN _⟩
          case measure => simp [intOf]; omega
      · obtain rfl : i = l.length := by omega
        have hcu := HCU.out
        rw [List.take_length] at hcu
        have HC2 := Lib.hid hcu
        have f2 : ¬ (l.length : Int) < l.length := by omega
        clear hcu
        go_wp2_with fail
        go_ret
        unfold CpE
        rw [HC2.out]
        obtain ⟨A, c', he, _, _, hr⟩ := (HO.out.mod0 hm).out
        injection he with h1 h2 h3
        subst h1
        exact ⟨_, c, rfl, hlc, hr, hm.mono fun _ _ h => h.elim, fun ad h => by injection h with h; subst h; rfl⟩

def SoD (l : List Dg) (w : World) (e : Ending) (w' : World) : Prop :=
  ∃ A s, e = .returned (.slice A s.length s.length) ∧ SortD l s ∧ Rd w' 4 A s.length (encDs s) ∧ Mod NoneB w w' ∧ s.length ≤ l.length
set_option maxHeartbeats 4000000 in
set_option maxRecDepth 100000 in
theorem sort_calls (l : List Dg) (A : Option Addr) (c : Nat) (w : World) (hr : Rd w 4 A l.length (encDs l)) (hlc : l.length ≤ c) (hb : l.length ≤ 100000) :
    Calls Tryd.prog 9 #[.slice A l.length c] w (SoD l w) := by
  have HM := Lib.hid (merged_calls l.length l (Nat.le_refl _) A c w hr hlc hb)
  clear hr
  go_enter Tryd.func9, Tryd.ntmps9
  go_wp2_with fail
  refine HM.out.mono ?_
  rintro e w1 ⟨v1, m, rfl, ho1, hp1, hi1, hm1, hn1⟩
  rw [← hp1.length_eq] at ho1
  have hlm := hp1.length_eq
  have HC := Lib.hid (compact_calls m v1 w1 ho1 (by omega))
  have hso := cUp_sort hi1 hp1
  have HSO := Lib.hid hso
  have hle : (cUp m m.length).length ≤ m.length := cUp_le m m.length
  have HN1 : Hid (∀ k, OnlyBlk v1 k → w.heap.size ≤ k) := Lib.hid fun k hk => hn1 k hk
  clear HM ho1 hi1 hp1 hso hn1
  go_wp2_with fail
  refine HC.out.mono ?_
  rintro e w2 ⟨A2, c2, rfl, hc2, hr2, hm2, _⟩
  have hm12 : Mod NoneB w w2 := hm1.trans_new hm2 (fun k hk => .inr (HN1.out k hk))
  obtain ⟨s, hs⟩ : ∃ s, s = cUp m m.length := ⟨_, rfl⟩
  rw [← hs] at HSO hle hc2 hr2 ⊢
  have hn := hr2.2.1
  have HR := Lib.hid hr2
  have g1 : (0 : Int) ≤ s.length := by omega
  have g2 : (s.length : Int) ≤ c2 := by omega
  clear hs HC hm2 hr2
  cases A2 with
  | none =>
    go_wp2_with fail
    go_ret
    exact ⟨none, s, rfl, HSO.out, HR.out, hm12, by omega⟩
  | some ad =>
    go_wp2_with fail
    go_ret
    exact ⟨some ad, s, rfl, HSO.out, HR.out, hm12, by omega⟩
end Go.Proofs.YtdmdiokfpbmnaaaDoor

