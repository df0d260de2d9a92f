/- The reference's put: plain facts. -/
import Derived.Test.YtnlmfmceogbomaaGreatDoorPlainQq
import Derived.Test.YtnlmfmceogbomaaGreatDoorTabAQq
import Derived.Test.YtnlmfmceogbomaaGreatDoorTabEQq
namespace Go.Proofs.YtnlmfmceogbomaaGreatDoor
set_option linter.unusedVariables false

theorem encPs_setP : ∀ (l : List Pr) (i : Nat) (p : Pr), ((encPs l).set (i * 2) (.string p.k)).set (i * 2 + 1) (.string p.v) = encPs (l.set i p)
  | [], i, p => by simp [encPs]
  | q :: l, 0, p => by simp [encPs, encP]
  | q :: l, i + 1, p => by
    have h := encPs_setP l i p
    have e : (i + 1) * 2 = i * 2 + 1 + 1 := by omega
    simp only [encPs, List.flatMap_cons, encP, e, List.cons_append, List.nil_append, List.set_cons_succ] at h ⊢
    rw [h]
theorem putT_hit {l : List Pr} {key v : ByteArray} (h : hitB l key = true) : putT l key v = l.set (lb l key) ⟨key, v⟩ := by
  have hlt : lb l key < l.length := by
    unfold hitB at h
    by_cases h1 : lb l key < l.length
    · exact h1
    · rw [dif_neg h1] at h; cases h
  unfold putT
  rw [h, List.set_eq_take_append_cons_drop, if_pos hlt]
  rfl
theorem putT_miss {l : List Pr} {key v : ByteArray} (h : hitB l key = false) : putT l key v = l.take (lb l key) ++ ⟨key, v⟩ :: l.drop (lb l key) := by
  unfold putT
  rw [h]
  rfl
end Go.Proofs.YtnlmfmceogbomaaGreatDoor

/- The reference's put. -/
namespace Go.Proofs.YtnlmfmceogbomaaGreatDoor
open Go.RowKit
set_option linter.unusedVariables false

theorem encPs_getO {L : List Pr} {i : Nat} {p : Pr} (h : L[i]? = some p) : (encPs L)[i * 2]? = some (.string p.k) ∧ (encPs L)[i * 2 + 1]? = some (.string p.v) := by
  obtain ⟨h1, rfl⟩ := List.getElem?_eq_some_iff.1 h
  exact encPs_get L i h1

set_option maxHeartbeats 4000000 in
set_option maxRecDepth 100000 in
theorem rput_calls (l : List Pr) (x : Pr) (v : Value) (w : World) (hown : Own w 88 2 v l.length (encPs l)) (hsz : (l.length + 1) * 32 ≤ 140737488355328) :
    Calls Tryz.prog 43 #[v, .agg #[.string x.k, .string x.v]] w fun e w' =>
      ∃ v', e = .returned v' ∧ Own w' 88 2 v' (putT l x.k x.v).length (encPs (putT l x.k x.v)) ∧ Mod (OnlyBlk v) w w' ∧ NewOr w v v' := by
  have hu := Tryz.underlying37
  obtain ⟨A, c, rfl, hnc, hcm, hrd⟩ := hown.out
  have hlb := lb_le l x.k
  go_enter Tryz.func43, Tryz.ntmps43
  go_wp2_with fail
  go_loopw [5] (fun i wr => ∃ j : Nat, i = .int .i64 j ∧ j ≤ lb l x.k ∧ wr.cell? ⟨w.heap.size, 0, none⟩ = some (.string x.k) ∧ wr.cell? ⟨w.heap.size, 1, none⟩ = some (.string x.v) ∧ Mod NoneB w wr ∧ w.heap.size < wr.heap.size) (fun i _ => lb l x.k - (intOf i).toNat)
  case atStart =>
    exact ⟨0, rfl, Nat.zero_le _, blk_cell (heap_alloc_new w _) 0, blk_cell (heap_alloc_new w _) 1, (Mod.refl NoneB w).alloc _, by simp⟩
  case round =>
    obtain ⟨j, rfl, hj, hx0, hx1, hm, hlt⟩ := hrel
    by_cases hjl : j < lb l x.k
    · have hjn : j < l.length := by omega
      have hls := lb_less x.k l j hjn hjl
      obtain ⟨ad, rfl, h0, _⟩ := (hrd.mod0 hm).pair j hjn
      obtain ⟨p, hp⟩ : ∃ p, p = l[j] := ⟨_, rfl⟩
      rw [← hp] at h0 hls
      have b1 : Op.bytesLess p.k.toList x.k.toList = true := by rw [less_cmpS]; exact decide_eq_true hls
      have e1 : IntKind.i64.wrap ((j : Int) + 1) = j + 1 := IntWalk.i64_in _ (by omega)
      have e6 : (j : Int) < l.length := by omega
      have e7 : (0 : Int) ≤ j := by omega
      clear hp hls
      go_wp2_with fail
      go_quiet (fail)
      go_wp2_with fail
      go_roundw
      case rel => exact ⟨j + 1, by go_num, by omega, ((Mod.refl NoneB wr).drewN _).cell0 hx0, ((Mod.refl NoneB wr).drewN _).cell0 hx1, hm.drewN _, by simpa using hlt⟩
      case measure => simp [intOf]; omega
    · have hje : j = lb l x.k := by omega
      have e7 : (0 : Int) ≤ j := by omega
      cases hh : hitB l x.k with
      | true =>
        have hjn : j < l.length := by
          rw [hje]
          unfold hitB at hh
          by_cases h1 : lb l x.k < l.length
          · exact h1
          · rw [dif_neg h1] at hh; cases hh
        have hk : l[j].k = x.k := by
          subst hje
          unfold hitB at hh
          rw [dif_pos hjn] at hh
          exact cmpS_zero (of_decide_eq_true hh)
        have hput := putT_hit (v := x.v) hh
        rw [← hje] at hput
        have hlen : (putT l x.k x.v).length = l.length := by rw [hput]; simp
        obtain ⟨g, c', he⟩ := hown.addrOf (by omega)
        obtain ⟨rfl, rfl⟩ : A = some ⟨g, 0, none⟩ ∧ c = c' := by injection he with h1 h2 h3; exact ⟨h1, h3⟩
        clear he
        have hrw := hrd.mod0 hm
        obtain ⟨ad, ha, h0, h1⟩ := hrw.pair j hjn
        injection ha with ha
        subst ha
        rw [hk, add_zero] at h0
        rw [add_zero] at h1
        replace h1 : wr.cell? ⟨g, j * 2 + 1, none⟩ = some (.string l[j].v) := h1
        have hf0 := (hown.mod0 hm).frozenAt (j * 2)
        have hf1 := (hown.mod0 hm).frozenAt (j * 2 + 1)
        obtain ⟨y, hy⟩ : ∃ y, y = l[j].v := ⟨_, rfl⟩
        rw [← hy] at h1
        clear hy
        have b1 : Op.bytesLess x.k.toList x.k.toList = false := by rw [less_cmpS]; exact decide_eq_false (lt_irrefl _)
        have b2 : (x.k.toList == x.k.toList) = true := by simp
        have e6 : (j : Int) < l.length := by omega
        have HP := Lib.hid hput
        have HL := Lib.hid hlen
        clear hput hlen hk hh hje hrd
        go_wp2_with fail
        go_quiet (fail)
        go_wp2_with fail
        go_quiet (fail)
        go_wp2_with fail
        go_ret
        have ho2 := fun n => ((hown.mod0 (hm.drewN n)).set (j * 2) (.string x.k)).set (j * 2 + 1) (.string x.v)
        simp only [encPs_setP, ← HP.out] at ho2
        refine ⟨_, rfl, ?_, ?_, .inl rfl⟩
        · rw [HL.out]
          exact ho2 _
        · exact (((hm.drewN _).mono (S' := OnlyBlk (.slice (some ⟨g, 0, none⟩) l.length c)) (fun _ _ h => h.elim)).setCell (p := ⟨g, j * 2, none⟩) (fun _ => rfl) _).setCell (p := ⟨g, j * 2 + 1, none⟩) (fun _ => rfl) _
      | false =>
        have hput := putT_miss (v := x.v) hh
        rw [← hje] at hput
        have hjl2 : j ≤ l.length := by omega
        have hlen : (putT l x.k x.v).length = l.length + 1 := by rw [hput]; simp; omega
        have hz0 : l.take l.length ++ (⟨⟨#[]⟩, ⟨#[]⟩⟩ : Pr) :: l.drop l.length = l ++ [⟨⟨#[]⟩, ⟨#[]⟩⟩] := by simp
        have HZ := Lib.hid hz0
        have HP := Lib.hid hput
        have HL := Lib.hid hlen
        have hrw := hrd.mod0 hm
        have hown' := hown.mod0 hm
        have hbx : w.heap.size < wr.heap.size := hlt
        have hnw : ∀ n, 0 < 1 → ∃ a, (some ⟨wr.heap.size, 0, none⟩ : Option Addr) = some a ∧ ∀ (j : Nat) u, (encPs [⟨⟨#[]⟩, ⟨#[]⟩⟩])[j]? = some u → ((wr.drewN n).alloc (.cells #[.string ⟨#[]⟩, .string ⟨#[]⟩] 88)).cell? (a.add j) = some u := by
          intro n
          have h := (rdBlk (sz := 2) (n := 1) (heap_alloc_new (wr.drewN n) (.cells #[.string ⟨#[]⟩, .string ⟨#[]⟩] 88)) rfl (by omega)).2.2
          have e : (wr.drewN n).heap.size = wr.heap.size := by simp
          rw [e] at h
          exact h
        have e1n : IntKind.i64.wrap (l.length : Int) = l.length := IntWalk.i64_in _ (by omega)
        by_cases hjn : j < l.length
        case' pos =>
          have hns := lb_stop x.k l (by omega)
          have hne : ¬ l[j].k = x.k := by
            intro hk
            subst hje
            unfold hitB at hh
            rw [dif_pos hjn] at hh
            rw [hk] at hh
            exact absurd hh (by simp [cmpS_self])
          obtain ⟨ad, rfl, h0, _⟩ := hrw.pair j hjn
          obtain ⟨p, hp⟩ : ∃ p, p = l[j] := ⟨_, rfl⟩
          have hns' : ¬ cmpS p.k x.k < 0 := by subst hje; rw [hp]; exact hns
          rw [← hp] at h0 hne
          have b1 : Op.bytesLess p.k.toList x.k.toList = false := by rw [less_cmpS]; exact decide_eq_false hns'
          have b2 : (p.k.toList == x.k.toList) = false := by rw [beq_toList]; exact decide_eq_false hne
          have e6 : (j : Int) < l.length := by omega
          clear hput hlen hz0 hh hje hp hns hns' hne
        case' neg =>
          have e6 : ¬ (j : Int) < l.length := by omega
          clear hput hlen hz0 hh hje
        all_goals
          go_wp2_with fail
          go_quiet (fail)
          go_wp2_with fail
          go_quiet (fail)
          go_wp2_with (at_builtin; refine wpList_append rfl (.tmp 42) (.tmp 44) 37 rfl 88 _ 2 32 hu tiP rfl (by decide) (by decide) _ l.length (encPs l) rfl (hown'.mod0 (((Mod.refl NoneB wr).drewN _).alloc _)) (some ⟨wr.heap.size, 0, none⟩) 1 1 (encPs [⟨⟨#[]⟩, ⟨#[]⟩⟩]) rfl rfl (hnw _) (encPs_one _) hsz ?_)
          intro v4 w4 ho4 hm4 hno4
          have hbx0 := hm4.cell ((((Mod.refl NoneB wr).drewN _).alloc _).cell0 hx0) (fun h => absurd (hown.lt h) (Nat.lt_irrefl _))
          have hbx1 := hm4.cell ((((Mod.refl NoneB wr).drewN _).alloc _).cell0 hx1) (fun h => absurd (hown.lt h) (Nat.lt_irrefl _))
          obtain ⟨g, c4, he4⟩ := ho4.addrOf (by omega)
          subst he4
          obtain ⟨hg, hgS, hnv⟩ := hno4.two (w := w) (fun _ h => hown.lt h) (by simp; omega)
          have hmw := (((hm.mono (fun _ _ h => h.elim)).drewN _).alloc _).trans hm4 (fun _ _ h => h)
          have ho5 : Own w4 88 2 (.slice (some ⟨g, 0, none⟩) (l.length + 1) c4) (l.length + 1) (encPs (l.take l.length ++ (⟨⟨#[]⟩, ⟨#[]⟩⟩ : Pr) :: l.drop l.length)) := by
            rw [HZ.out]
            have e : encPs (l ++ [⟨⟨#[]⟩, ⟨#[]⟩⟩]) = encPs l ++ encPs [⟨⟨#[]⟩, ⟨#[]⟩⟩] := by unfold encPs; rw [List.flatMap_append]
            rw [e]
            exact ho4
          have HO5 := Lib.hid ho5
          clear ho4 ho5 hno4 hm4 hown' hrw hx0 hx1 hnw
          go_wp2_with fail
          go_loopw [6] (fun i wq => ∃ (k : Nat) (z : Pr), i = .int .i64 k ∧ j ≤ k ∧ k ≤ l.length ∧ Own wq 88 2 (.slice (some ⟨g, 0, none⟩) (l.length + 1) c4) (l.length + 1) (encPs (l.take k ++ z :: l.drop k)) ∧ Mod (fun q => q = g) w4 wq) (fun i _ => (intOf i).toNat)
          case atStart => exact ⟨l.length, _, by go_num, hjl2, Nat.le_refl _, HO5.out, Mod.refl _ _⟩
          case round =>
            obtain ⟨k, z, rfl, hjk, hkl, hov, hmq⟩ := hrel
            by_cases hlt2 : j < k
            · first
              | (exfalso; omega)
              | (skip
                 obtain ⟨m, rfl⟩ : ∃ m, k = m + 1 := ⟨k - 1, by omega⟩
                 have hml : m < l.length := by omega
                 have c0 := hov.cellAt (m * 2) _ (encPs_getO (shift_get z l m hml)).1
                 have c1 := hov.cellAt (m * 2 + 1) _ (encPs_getO (shift_get z l m hml)).2
                 have d0 := hov.cellAt ((m + 1) * 2) _ (encPs_getO (shift_at z l (m + 1) hkl)).1
                 have d1 := hov.cellAt ((m + 1) * 2 + 1) _ (encPs_getO (shift_at z l (m + 1) hkl)).2
                 have f0 := hov.frozenAt ((m + 1) * 2)
                 have f1 := hov.frozenAt ((m + 1) * 2 + 1)
                 have hs := (hov.set ((m + 1) * 2) (.string l[m].k)).set ((m + 1) * 2 + 1) (.string l[m].v)
                 rw [encPs_setP, shift_step z l m hml] at hs
                 have HS := Lib.hid hs
                 clear hs
                 have n1 : IntKind.i64.wrap (m : Int) = m := IntWalk.i64_in _ (by omega)
                 have n2 : ((m : Int) + 1).toNat = m + 1 := by omega
                 have n3 : (0 : Int) ≤ (m : Int) + 1 := by omega
                 have n4 : (m : Int) + 1 < (l.length : Int) + 1 := by omega
                 have n5 : (m : Int) < (l.length : Int) + 1 := by omega
                 have n6 : (j : Int) < (m : Int) + 1 := by omega
                 have n7 : (0 : Int) ≤ (m : Int) := by omega
                 have n8 : (m : Int) < l.length := by omega
                 go_wp2_with fail
                 go_roundw
                 case rel => exact ⟨m, l[m], by go_num, by omega, by omega, HS.out, (hmq.setCell (p := ⟨g, (m + 1) * 2, none⟩) (fun _ => rfl) _).setCell (p := ⟨g, (m + 1) * 2 + 1, none⟩) (fun _ => rfl) _⟩
                 case measure => simp [intOf])
            · have hkj : k = j := by omega
              subst hkj
              have x0 := hmq.cell hbx0 (fun h => hg h.symm)
              have x1 := hmq.cell hbx1 (fun h => hg h.symm)
              have d0 := hov.cellAt (k * 2) _ (encPs_getO (shift_at z l k hkl)).1
              have d1 := hov.cellAt (k * 2 + 1) _ (encPs_getO (shift_at z l k hkl)).2
              have f0 := hov.frozenAt (k * 2)
              have f1 := hov.frozenAt (k * 2 + 1)
              have hs := (hov.set (k * 2) (.string x.k)).set (k * 2 + 1) (.string x.v)
              rw [encPs_setP, shift_set z _ l k hkl, ← HP.out, ← HL.out] at hs
              have HS := Lib.hid hs
              clear hs
              have n5 : (k : Int) < (l.length : Int) + 1 := by omega
              go_wp2_with fail
              go_ret
              exact ⟨_, rfl, by rw [← HL.out]; exact HS.out, hmw.trans_new ((hmq.setCell (p := ⟨g, k * 2, none⟩) (fun _ => rfl) _).setCell (p := ⟨g, k * 2 + 1, none⟩) (fun _ => rfl) _) (fun q hq => by rw [hq]; exact hgS), hnv⟩
end Go.Proofs.YtnlmfmceogbomaaGreatDoor
