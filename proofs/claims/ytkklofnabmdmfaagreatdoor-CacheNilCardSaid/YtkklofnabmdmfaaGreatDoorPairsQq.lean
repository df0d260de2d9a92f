/- slices.Insert, slices.Delete, slices.Clone at pairs. -/
import Derived.StillTailTactics
import Derived.WalkSpells
import Derived.WalkLawsBesides
import Derived.Test.YtkklofnabmdmfaaGreatDoorFindQq
import Derived.Test.YtkklofnabmdmfaaGreatDoorRowQq
namespace Go.Proofs.YtkklofnabmdmfaaGreatDoor
open Go.RowKit

theorem tiP : TI Tryz.prog 88 (.agg #[.string ⟨#[]⟩, .string ⟨#[]⟩]) 2 32 := by unfold TI; kernel_rfl

set_option maxHeartbeats 1000000 in
set_option maxRecDepth 100000 in
theorem insertP_calls (l : List Pr) (x : Pr) (i : Nat) (v : Value) (gx : Nat) (w : World) (hown : Own w 88 2 v l.length (encPs l)) (hi : i ≤ l.length)
    (hx : w.heap[gx]? = some (.cells #[.string x.k, .string x.v] 88 (0, 0))) (hne : ∀ g, v.ownBlock = some g → g ≠ gx) (hsz : (l.length + 1) * 32 ≤ 140737488355328) :
    Calls Tryz.prog 98 #[v, .int .i64 i, .slice (some ⟨gx, 0, none⟩) 1 1] w fun e w' =>
      ∃ v', e = .returned v' ∧ Own w' 88 2 v' (l.length + 1) (encPs (l.take i ++ x :: l.drop i)) ∧ Mod (OnlyBlk v) w w' ∧ NewOr w v v' := by
  obtain ⟨A, c, rfl, hnc, hcm, hr⟩ := hown.out
  have hu := Tryz.underlying44
  have hn1 : 0 < 1 → ∃ a, (some ⟨gx, 0, none⟩ : Option Addr) = some a ∧ ∀ (j : Nat) u, ([.string x.k, .string x.v] : List Value)[j]? = some u → w.cell? (a.add j) = some u :=
    fun _ => ⟨_, rfl, fun j u hu => by rw [add_zero, blk_cell hx]; simpa using hu⟩
  have ho1 : ∀ u ∈ ([.string x.k, .string x.v] : List Value), u.oneCell' = true := by intro u hu; simp at hu; rcases hu with rfl | rfl <;> rfl
  by_cases hin : i = l.length
  · subst hin
    have hfin : encPs l ++ [.string x.k, .string x.v] = encPs (l.take l.length ++ x :: l.drop l.length) := by simp [encPs, encP]
    have HF := Lib.hid hfin
    clear hfin
    go_enter Tryz.func98, Tryz.ntmps98
    go_wp2_with (at_builtin; refine wpList_append rfl _ _ 44 rfl 88 _ 2 32 hu tiP rfl (by decide) (by decide) _ l.length (encPs l) rfl hown (some ⟨gx, 0, none⟩) 1 1 [.string x.k, .string x.v] rfl rfl hn1 ho1 hsz ?_)
    all_goals
      intro v' w1 ho hm hno
      go_wp2
      go_ret
      rw [HF.out] at ho
      exact ⟨v', rfl, ho, hm.mono (fun _ _ h => h.cap), hno.cap⟩
  · have hlt : i < l.length := by omega
    have hp1 : 0 < l.length := by omega
    obtain ⟨g, cap, cur, he, hh, hnc', hcm', hcs, htk⟩ := hown.form hp1
    obtain ⟨rfl, _, rfl⟩ : A = some ⟨g, 0, none⟩ ∧ l.length = l.length ∧ c = cap := by injection he with h1 h2 h3; exact ⟨h1, h2, h3⟩
    clear he
    have hci : ¬ c = i := by omega
    have hcl : ¬ (c = l.length + 1) ∨ c = l.length + 1 := by omega
    by_cases hroom : l.length + 1 ≤ c
    · have hroom' : ¬ (c < l.length + 1) := by omega
      have hgg : g ≠ gx := hne g rfl
      have hci2 : ¬ c = i + 1 := by omega
      have hc0 : 0 < c := by omega
      have hov : ∀ la ca off lb cb, (callFunc 128 #[.slice (some ⟨gx, 0, none⟩) la ca, .slice (some ⟨g, off, none⟩) lb cb]).run Tryz.prog w = .ok (.value (.bool false)) w := fun la ca off lb cb => by
        rw [run_callFunc_extern Tryz.func128 (by kernel_rfl) (by kernel_rfl) (by kernel_rfl) (e := Extern.SlicesOverlaps.overlaps #[44, 44] #[4]) (by kernel_rfl),
          Lib.run_overlaps_apart w _ _ 88 hu 2 (fun _ => Tryz.sizeOf88 _) _ _ _ _ _ _ (fun h => hgg h.symm) 88 88 2 cur.size (by simp [World.shape?, hx]) (by simp [World.shape?, hh]) (by rw [hcs]; omega) (by simp [World.frozen?, hx]) (by simp [World.frozen?, hx])]
        rfl
      go_enter Tryz.func98, Tryz.ntmps98
      have hh0 : w.drew.heap[g]? = some (.cells cur.toList.toArray 88 (0, 0)) := (show w.drew.heap[g]? = _ from hh).trans (by simp)
      have hld : (encPs (l.drop i)).length = (l.length - i) * 2 := by rw [encPs_length, List.length_drop]
      have hcl : cur.toList.length = c * 2 := by simpa using hcs
      have hs2 : ∀ (j : Nat) u, (encPs (l.drop i))[j]? = some u → w.drew.cell? ((⟨g, i * 2, none⟩ : Addr).add j) = some u := by
        intro j u hu
        rw [add_off, blk_cell (w := w.drew) hh]
        have e2 : (encPs l)[i * 2 + j]? = some u := by
          rw [encPs_split l i, List.getElem?_append_right (by rw [encPs_length, List.length_take]; omega), encPs_length, List.length_take, Nat.min_eq_left hi, Nat.add_sub_cancel_left]
          exact hu
        rw [← htk, List.getElem?_take] at e2
        split at e2
        · simpa using e2
        · cases e2
      have HTK := Lib.hid htk
      clear htk
      go_wp2_with fail
      have e1 : IntKind.i64.wrap ((i : Int) + 1) = i + 1 := IntWalk.i64_in _ (by omega)
      have e2 : (0 : Int) ≤ i + 1 := by omega
      have e3 : ((i : Int) + 1).toNat = i + 1 := by omega
      have e4 : (i : Int) + 1 ≤ l.length + 1 := by omega
      have e5 : (i : Int) ≤ l.length + 1 := by omega
      go_still_tail 8, (by kernel_rfl)
      clear e1 e2 e3 e4 e5
      change wpList _ _ _ _ _ w.drew
      refine wpList_copy rfl (.tmp 73) (.tmp 76) 44 44 rfl 88 2 hu tiP.size _ _ _ _ _ _ rfl rfl g ((i + 1) * 2) cur.toList 88 hh0 (encPs (l.drop i)) ?c4 (fun _ => ⟨rfl, _, rfl, hs2⟩) ?c5 (encPs_one _) ?_
      case c4 => rw [hld, show Nat.min (l.length + 1 - i) (l.length - i) = l.length - i from Nat.min_eq_right (by omega)]
      case c5 => rw [hcl, hld]; omega
      intro w1 hh1 hm1
      have hgx : w1.heap[gx]? = some (.cells #[.string x.k, .string x.v] 88 (0, 0)) := hm1.blk (w := w.drew) hx (fun h => hgg h.symm)
      have hs1 : ∀ (j : Nat) u, ([.string x.k, .string x.v] : List Value)[j]? = some u → w1.cell? ((⟨gx, 0, none⟩ : Addr).add j) = some u := fun j u hu => by rw [add_zero, blk_cell hgx]; simpa using hu
      have hl1 : (spl cur.toList ((i + 1) * 2) (encPs (l.drop i))).length = c * 2 := by rw [spl_length _ _ _ (by rw [hcl, hld]; omega), hcl]
      go_wp2_with (with_reducible refine wpList_copy rfl (.tmp 80) (.tmp 81) 44 44 rfl 88 2 hu tiP.size _ _ _ _ _ _ rfl rfl g (i * 2) _ 88 hh1 [.string x.k, .string x.v] ?c6 (fun _ => ⟨rfl, _, rfl, hs1⟩) ?c7 ho1 ?_)
      case c6 => rw [show Nat.min 1 (l.length + 1 - i) = 1 from Nat.min_eq_left (by omega)]; rfl
      case c7 => rw [hl1]; simp; omega
      intro w2 hh2 hm2
      have hfin : (spl (spl cur.toList ((i + 1) * 2) (encPs (l.drop i))) (i * 2) [.string x.k, .string x.v]).take ((l.length + 1) * 2) = encPs (l.take i ++ x :: l.drop i) := by
        have h1 := spl_shift cur.toList [.string x.k, .string x.v] (encPs (l.drop i)) (i * 2) (by rw [hcl, hld]; simp; omega)
        rw [show i * 2 + ([.string x.k, .string x.v] : List Value).length = (i + 1) * 2 from by simp; omega, show (i + 1) * 2 + (encPs (l.drop i)).length = (l.length + 1) * 2 from by rw [hld]; omega] at h1
        rw [h1]
        have h2 : cur.toList.take (i * 2) = encPs (l.take i) := by
          have h3 := congrArg (List.take (i * 2)) HTK.out
          rw [List.take_take, Nat.min_eq_left (by omega), encPs_split l i, List.take_append_of_le_length (by rw [encPs_length, List.length_take]; omega)] at h3
          rw [h3]
          exact List.take_of_length_le (by rw [encPs_length, List.length_take]; omega)
        rw [h2]
        simp [encPs, encP]
      have HO : Own w2 88 2 (.slice (some ⟨g, 0, none⟩) (l.length + 1) c) (l.length + 1) (encPs (l.take i ++ x :: l.drop i)) :=
        Own.of_blk hh2 (by omega) hcm (by simp only [List.size_toArray]; rw [spl_length _ _ _ (by rw [hl1]; simp; omega), hl1]) (by simpa using hfin)
      have HM : Mod (fun k => k = g) w w2 := ((Mod.refl _ w).drew.trans hm1 (fun _ _ h => h)).trans hm2 (fun _ _ h => h)
      clear hfin
      go_wp2_with fail
      go_ret
      exact ⟨_, rfl, HO, HM.mono (fun _ _ h => by subst h; rfl), .inl rfl⟩
    · have hroom' : c < l.length + 1 := by omega
      have hu3 := Tryz.underlying3
      have hrd : Rd w 2 (some ⟨g, 0, none⟩) i (encPs (l.take i)) := by
        have hq := hr.2.2 hp1
        refine ⟨by rw [encPs_length, List.length_take]; omega, by omega, fun _ => ?_⟩
        obtain ⟨ad, e, hc⟩ := hq
        refine ⟨ad, e, fun j u hu => hc j u ?_⟩
        have : encPs l = encPs (l.take i) ++ encPs (l.drop i) := by unfold encPs; rw [← List.flatMap_append, List.take_append_drop]
        rw [this, List.getElem?_append_left (List.getElem?_eq_some_iff.1 hu).1]
        exact hu
      obtain ⟨B, hB⟩ : ∃ B, B = w.heap.size := ⟨_, rfl⟩
      go_enter Tryz.func98, Tryz.ntmps98
      go_wp2_with (at_builtin; refine wpList_append_zeros rfl (.tmp 34) (.tmp 39) 44 3 rfl 88 _ 2 32 hu hu3 tiP rfl (by decide) (by decide) (some ⟨g, 0, none⟩) i c (encPs (l.take i)) rfl hrd (l.length + 1 - i) _ rfl (by omega) (by omega) (by omega) ?_)
      rw [← hB]
      have HB := Lib.hid hB
      clear hB
      rw [show i + (l.length + 1 - i) = l.length + 1 from by omega]
      intro nc cur1 w1 hh1 hn1' hncm hcs1 htk1 hm1 hlt1
      have hnci : ¬ nc = i := by omega
      have hB1 : B < w1.heap.size := blk_lt hh1
      have hgx : w1.heap[gx]? = some (.cells #[.string x.k, .string x.v] 88 (0, 0)) := hm1.blk hx (fun h => h)
      have hs1 : ∀ (j : Nat) u, ([.string x.k, .string x.v] : List Value)[j]? = some u → w1.cell? ((⟨gx, 0, none⟩ : Addr).add j) = some u := fun j u hu => by rw [add_zero, blk_cell hgx]; simpa using hu
      have hmin1 : Nat.min 1 (l.length + 1 - i) = 1 := Nat.min_eq_left (by omega)
      go_wp2_with (with_reducible refine wpList_copy rfl (.tmp 43) (.tmp 44) 44 44 rfl 88 2 hu tiP.size _ _ _ _ _ _ rfl rfl B (i * 2) cur1 88 hh1 [.string x.k, .string x.v] ?c1 (fun _ => ⟨rfl, _, rfl, hs1⟩) ?c3 ho1 ?_)
      case c1 => rw [hmin1]; rfl
      case c3 => rw [hcs1]; simp; omega
      intro w2 hh2 hm2
      have hnci2 : ¬ nc = i + 1 := by omega
      go_wp2_with fail
      have e1 : IntKind.i64.wrap ((i : Int) + 1) = i + 1 := IntWalk.i64_in _ (by omega)
      have e2 : (0 : Int) ≤ i + 1 := by omega
      have e3 : ((i : Int) + 1).toNat = i + 1 := by omega
      have e4 : (i : Int) + 1 ≤ l.length + 1 := by omega
      go_still_tail 8, (by kernel_rfl)
      clear e1 e2 e3 e4
      change wpList _ _ _ _ _ w2.drew
      have hl1 : (spl cur1 (i * 2) [.string x.k, .string x.v]).length = nc * 2 := by rw [spl_length _ _ _ (by rw [hcs1]; simp; omega), hcs1]
      have hld : (encPs (l.drop i)).length = (l.length - i) * 2 := by rw [encPs_length, List.length_drop]
      have hgB : g ≠ B := by have := blk_lt hh; rw [HB.out]; omega
      have hs2 : ∀ (j : Nat) u, (encPs (l.drop i))[j]? = some u → w2.drew.cell? ((⟨g, i * 2, none⟩ : Addr).add j) = some u := by
        intro j u hu
        have hg2 : w2.drew.heap[g]? = some (.cells cur 88 (0, 0)) := hm2.blk (hm1.blk hh (fun h => h)) hgB
        rw [add_off, blk_cell hg2]
        have e : encPs l = encPs (l.take i) ++ encPs (l.drop i) := by unfold encPs; rw [← List.flatMap_append, List.take_append_drop]
        have e2 : (encPs l)[i * 2 + j]? = some u := by
          rw [e, List.getElem?_append_right (by rw [encPs_length, List.length_take]; omega), encPs_length, List.length_take, Nat.min_eq_left hi, Nat.add_sub_cancel_left]
          exact hu
        rw [← htk, List.getElem?_take] at e2
        split at e2
        · simpa using e2
        · cases e2
      refine wpList_copy rfl (.tmp 50) (.tmp 53) 44 44 rfl 88 2 hu tiP.size _ _ _ _ _ _ rfl rfl B ((i + 1) * 2) (spl cur1 (i * 2) [.string x.k, .string x.v]) 88 hh2 (encPs (l.drop i)) ?c4 (fun _ => ⟨rfl, _, rfl, hs2⟩) ?c5 ?c6 ?_
      case c4 => rw [encPs_length, List.length_drop, show Nat.min (l.length - i) (l.length - i) = l.length - i from Nat.min_self _]
      case c5 => rw [hl1, hld]; omega
      case c6 => exact encPs_one _
      intro w3 hh3 hm3
      have hfin : (spl (spl cur1 (i * 2) [.string x.k, .string x.v]) ((i + 1) * 2) (encPs (l.drop i))).take ((l.length + 1) * 2) = encPs (l.take i ++ x :: l.drop i) := by
        have h1 := spl_two cur1 [.string x.k, .string x.v] (encPs (l.drop i)) (i * 2) (by rw [hcs1]; simp; omega)
        rw [show i * 2 + ([.string x.k, .string x.v] : List Value).length = (i + 1) * 2 from by simp; omega, show (i + 1) * 2 + (encPs (l.drop i)).length = (l.length + 1) * 2 from by rw [encPs_length, List.length_drop]; omega, htk1] at h1
        rw [h1]
        simp [encPs, encP]
      have HO : Own w3 88 2 (.slice (some ⟨B, 0, none⟩) (l.length + 1) nc) (l.length + 1) (encPs (l.take i ++ x :: l.drop i)) :=
        Own.of_blk hh3 (by omega) hncm (by simp only [List.size_toArray]; rw [spl_length _ _ _ (by rw [hl1, hld]; omega), hl1]) (by simpa using hfin)
      have HM : Mod NoneB w w3 := by
        have h1 : Mod NoneB w w2 := hm1.trans hm2 (fun k hk he => by subst he; have := HB.out; omega)
        exact (h1.drew).trans hm3 (fun k hk he => by subst he; have := HB.out; omega)
      clear hfin
      go_wp2_with fail
      go_ret
      exact ⟨_, rfl, HO, HM.mono (fun _ _ h => h.elim), .inr ⟨B, rfl, Nat.le_of_eq HB.out.symm⟩⟩

set_option maxHeartbeats 1000000 in
set_option maxRecDepth 100000 in
theorem deleteP_calls (l : List Pr) (i : Nat) (v : Value) (w : World) (hown : Own w 88 2 v l.length (encPs l)) (hi : i < l.length) :
    Calls Tryz.prog 63 #[v, .int .i64 i, .int .i64 (i + 1)] w fun e w' =>
      ∃ v', e = .returned v' ∧ Own w' 88 2 v' (l.length - 1) (encPs (l.take i ++ l.drop (i + 1))) ∧ Mod (OnlyBlk v) w w' ∧ NewOr w v v' := by
  have hu := Tryz.underlying44
  obtain ⟨g, c, cur, rfl, hh, hnc, hcm, hcs, htk⟩ := hown.form (by omega)
  have hne : ¬ i = i + 1 := by omega
  have hc0 : ¬ c = 0 := by omega
  have hci1 : c = i + 1 ∨ ¬ c = i + 1 := by omega
  have hcl : cur.toList.length = c * 2 := by simpa using hcs
  have hh0 : w.drew.heap[g]? = some (.cells cur.toList.toArray 88 (0, 0)) := (show w.drew.heap[g]? = _ from hh).trans (by simp)
  have hld : (encPs (l.drop (i + 1))).length = (l.length - (i + 1)) * 2 := by rw [encPs_length, List.length_drop]
  have hs2 : ∀ (j : Nat) u, (encPs (l.drop (i + 1)))[j]? = some u → w.drew.cell? ((⟨g, (i + 1) * 2, none⟩ : Addr).add j) = some u := by
    intro j u hu
    rw [add_off, blk_cell (w := w.drew) hh]
    have e2 : (encPs l)[(i + 1) * 2 + j]? = some u := by
      rw [encPs_split l (i + 1), List.getElem?_append_right (by rw [encPs_length, List.length_take]; omega), encPs_length, List.length_take, Nat.min_eq_left (by omega), Nat.add_sub_cancel_left]
      exact hu
    rw [← htk, List.getElem?_take] at e2
    split at e2
    · simpa using e2
    · cases e2
  have HTK := Lib.hid htk
  clear htk
  have hbq : ((i : Int) == (i : Int) + 1) = false := by rw [beq_eq_false_iff_ne]; omega
  have hfin : ∀ zs : List Value, zs.length = (l.length - (l.length - 1)) * 2 → (spl (spl cur.toList (i * 2) (encPs (l.drop (i + 1)))) ((l.length - 1) * 2) zs).take ((l.length - 1) * 2) = encPs (l.take i ++ l.drop (i + 1)) := by
    intro zs hz
    have hl1 : (spl cur.toList (i * 2) (encPs (l.drop (i + 1)))).length = c * 2 := by rw [spl_length _ _ _ (by rw [hcl, hld]; omega), hcl]
    have h1 : (spl (spl cur.toList (i * 2) (encPs (l.drop (i + 1)))) ((l.length - 1) * 2) zs).take ((l.length - 1) * 2) = (spl cur.toList (i * 2) (encPs (l.drop (i + 1)))).take ((l.length - 1) * 2) := by
      exact spl_take_le _ _ _ _ (Nat.le_refl _) (by rw [hl1]; omega)
    have h2 := spl_take cur.toList (i * 2) (encPs (l.drop (i + 1))) (by omega)
    rw [show i * 2 + (encPs (l.drop (i + 1))).length = (l.length - 1) * 2 from by rw [hld]; omega] at h2
    have h3 : cur.toList.take (i * 2) = encPs (l.take i) := by
      have h4 := congrArg (List.take (i * 2)) HTK.out
      rw [List.take_take, Nat.min_eq_left (by omega), encPs_split l i, List.take_append_of_le_length (by rw [encPs_length, List.length_take]; omega)] at h4
      rw [h4]
      exact List.take_of_length_le (by rw [encPs_length, List.length_take]; omega)
    rw [h1, h2, h3]
    simp [encPs]
  have HF := Lib.hid hfin
  clear hfin
  have hown' : ∀ (w2 : World) (zs : List Value), zs.length = (l.length - (l.length - 1)) * 2 → w2.heap[g]? = some (.cells (spl (spl cur.toList (i * 2) (encPs (l.drop (i + 1)))) ((l.length - 1) * 2) zs).toArray 88 (0, 0)) →
      Own w2 88 2 (.slice (some ⟨g, 0, none⟩) (l.length - 1) c) (l.length - 1) (encPs (l.take i ++ l.drop (i + 1))) := by
    intro w2 zs hz h
    have hl1 : (spl cur.toList (i * 2) (encPs (l.drop (i + 1)))).length = c * 2 := by rw [spl_length _ _ _ (by rw [hcl, hld]; omega), hcl]
    exact Own.of_blk h (by omega) hcm (by simp only [List.size_toArray]; rw [spl_length _ _ _ (by rw [hl1, hz]; omega), hl1]) (by simpa using HF.out zs hz)
  have HO := Lib.hid hown'
  clear hown'
  obtain ⟨n, hn⟩ : ∃ n, l.length = n + 1 := ⟨l.length - 1, by omega⟩
  have hl1 : (spl cur.toList (i * 2) (encPs (l.drop (i + 1)))).length = c * 2 := by rw [spl_length _ _ _ (by rw [hcl, hld]; omega), hcl]
  have hzz : ∀ u ∈ (Value.agg #[.string ⟨#[]⟩, .string ⟨#[]⟩]).cells.toList, u.oneCell' = true := by intro u hu; simp [Value.cells] at hu; subst hu; rfl
  simp only [hn, Nat.add_sub_cancel] at *
  have hcn : ¬ c = n := by omega
  have hnews : c ≠ i + 1 → 0 < n + 1 - (i + 1) → ∃ a, (some ⟨g, (i + 1) * 2, none⟩ : Option Addr) = some a ∧ ∀ (j : Nat) u, (encPs (l.drop (i + 1)))[j]? = some u → w.drew.cell? (a.add j) = some u := fun _ _ => ⟨_, rfl, hs2⟩
  clear hn
  have hh1 : (n + 1 - n) = 1 := by omega
  by_cases hci : c = i + 1
  · subst hci
    obtain rfl : n = i := by omega
    go_enter Tryz.func63, Tryz.ntmps63
    go_wp2_with fail
    have e1 : (0 : Int) ≤ n := by omega
    have e2 : (n : Int) ≤ n + 1 := by omega
    have e3 : (0 : Int) ≤ n + 1 := by omega
    have e4 : ((n : Int) + 1).toNat = n + 1 := by omega
    go_still_tail 6, (by kernel_rfl)
    change wpList _ _ _ _ _ w.drew
    clear e1 e2 e3 e4
    refine wpList_append_fits rfl (.tmp 22) (.tmp 25) 44 rfl 88 _ 2 32 hu tiP g n (n + 1) cur.toList rfl hh0 _ 0 _ [] rfl rfl (fun h => absurd h (by omega)) (fun u hu => by cases hu) (by omega) ?c1 ?_
    case c1 => rw [hcl]; simp; omega
    intro w1 hh2 hm1
    have hdn : encPs (l.drop (n + 1)) = [] := List.eq_nil_of_length_eq_zero (by rw [hld]; omega)
    rw [← hdn] at hh2
    clear hdn
    go_wp2_with (with_reducible refine wpList_clear rfl (.tmp 31) 44 rfl 88 _ 2 32 hu tiP rfl hzz (by decide) _ _ _ g (n * 2) _ rfl (fun _ => rfl) hh2 ?c2 ?_)
    case c2 => rw [hl1]; omega
    intro w2 zs hh3 hz hm2
    have HOW := HO.out w2 zs (by omega) hh3
    have HM : Mod (fun k => k = g) w w2 := ((Mod.refl _ w).drew.trans hm1 (fun _ _ h => h)).trans hm2 (fun _ _ h => h)
    go_wp2_with fail
    go_ret
    exact ⟨_, rfl, HOW, HM.mono (fun _ _ h => by subst h; rfl), .inl rfl⟩
  · go_enter Tryz.func63, Tryz.ntmps63
    go_wp2_with fail
    have e1 : (0 : Int) ≤ i := by omega
    have e2 : (i : Int) ≤ c := by omega
    have e3 : (0 : Int) ≤ i + 1 := by omega
    have e4 : ((i : Int) + 1).toNat = i + 1 := by omega
    have e5 : (i : Int) + 1 ≤ n + 1 := by omega
    go_still_tail 6, (by kernel_rfl)
    change wpList _ _ _ _ _ w.drew
    clear e1 e2 e3 e4 e5
    refine wpList_append_fits rfl (.tmp 22) (.tmp 25) 44 rfl 88 _ 2 32 hu tiP g i c cur.toList rfl hh0 _ (n - i) _ (encPs (l.drop (i + 1))) rfl (by rw [hld]; omega) (fun _ => ⟨_, rfl, hs2⟩) (encPs_one _) (by omega) ?c3 ?_
    case c3 => rw [hcl, hld]; omega
    rw [show i + (n - i) = n from by omega]
    intro w1 hh2 hm1
    go_wp2_with (with_reducible refine wpList_clear rfl (.tmp 31) 44 rfl 88 _ 2 32 hu tiP rfl hzz (by decide) _ _ _ g (n * 2) _ rfl (fun _ => rfl) hh2 ?c4 ?_)
    case c4 => rw [hl1]; omega
    intro w2 zs hh3 hz hm2
    have HOW := HO.out w2 zs (by omega) hh3
    have HM : Mod (fun k => k = g) w w2 := ((Mod.refl _ w).drew.trans hm1 (fun _ _ h => h)).trans hm2 (fun _ _ h => h)
    go_wp2_with fail
    go_ret
    exact ⟨_, rfl, HOW, HM.mono (fun _ _ h => by subst h; rfl), .inl rfl⟩
end Go.Proofs.YtkklofnabmdmfaaGreatDoor
