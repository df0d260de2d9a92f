/- slices.Insert, slices.Delete, slices.Clone at pointers to files. -/
import Derived.StillTailTactics
import Derived.WalkSpells
import Derived.WalkLawsBesides
import Derived.Test.YtkklofnabmdmfaaGreatDoorPtrsFindQq
import Derived.Test.YtkklofnabmdmfaaGreatDoorRowQq
namespace Go.Proofs.YtkklofnabmdmfaaGreatDoor
open Go.RowKit

theorem tiG : TI Tryz.prog 89 (.pointer none) 1 8 := by unfold TI; kernel_rfl

set_option maxHeartbeats 1000000 in
set_option maxRecDepth 100000 in
theorem insertG_calls (l : List Nat) (x : Nat) (i : Nat) (v : Value) (gx : Nat) (w : World) (hown : Own w 89 1 v l.length (encGs l)) (hi : i ≤ l.length)
    (hx : w.heap[gx]? = some (.cells #[.pointer (some ⟨x, 0, none⟩)] 89 (0, 0))) (hne : ∀ g, v.ownBlock = some g → g ≠ gx) (hsz : (l.length + 1) * 8 ≤ 140737488355328) :
    Calls Tryz.prog 124 #[v, .int .i64 i, .slice (some ⟨gx, 0, none⟩) 1 1] w fun e w' =>
      ∃ v', e = .returned v' ∧ Own w' 89 1 v' (l.length + 1) (encGs (l.take i ++ x :: l.drop i)) ∧ Mod (OnlyBlk v) w w' ∧ NewOr w v v' := by
  obtain ⟨A, c, rfl, hnc, hcm, hr⟩ := hown.out
  have hu := Tryz.underlying73
  have hn1 : 0 < 1 → ∃ a, (some ⟨gx, 0, none⟩ : Option Addr) = some a ∧ ∀ (j : Nat) u, ([.pointer (some ⟨x, 0, none⟩)] : List Value)[j]? = some u → w.cell? (a.add j) = some u :=
    fun _ => ⟨_, rfl, fun j u hu => by rw [add_zero, blk_cell hx]; simpa using hu⟩
  have ho1 : ∀ u ∈ ([.pointer (some ⟨x, 0, none⟩)] : List Value), u.oneCell' = true := by intro u hu; simp at hu; subst hu; rfl
  by_cases hin : i = l.length
  · subst hin
    have hfin : encGs l ++ [.pointer (some ⟨x, 0, none⟩)] = encGs (l.take l.length ++ x :: l.drop l.length) := by simp [encGs, encG]
    have HF := Lib.hid hfin
    clear hfin
    go_enter Tryz.func124, Tryz.ntmps124
    go_wp2_with (at_builtin; refine wpList_append rfl _ _ 73 rfl 89 _ 1 8 hu tiG rfl (by decide) (by decide) _ l.length (encGs l) rfl hown (some ⟨gx, 0, none⟩) 1 1 [.pointer (some ⟨x, 0, none⟩)] rfl rfl hn1 ho1 hsz ?_)
    all_goals
      intro v' w1 ho hm hno
      go_wp2
      go_ret
      rw [HF.out] at ho
      exact ⟨v', rfl, ho, hm.mono (fun _ _ h => h.cap), hno.cap⟩
  · have hlt : i < l.length := by omega
    have hp1 : 0 < l.length := by omega
    obtain ⟨g, cap, cur, he, hh, hnc', hcm', hcs, htk⟩ := hown.form hp1
    rw [Nat.mul_one] at hcs htk
    obtain ⟨rfl, _, rfl⟩ : A = some ⟨g, 0, none⟩ ∧ l.length = l.length ∧ c = cap := by injection he with h1 h2 h3; exact ⟨h1, h2, h3⟩
    clear he
    have hci : ¬ c = i := by omega
    have hcl : ¬ (c = l.length + 1) ∨ c = l.length + 1 := by omega
    by_cases hroom : l.length + 1 ≤ c
    · have hroom' : ¬ (c < l.length + 1) := by omega
      have hgg : g ≠ gx := hne g rfl
      have hci2 : ¬ c = i + 1 := by omega
      have hc0 : 0 < c := by omega
      have hov : ∀ la ca off lb cb, (callFunc 155 #[.slice (some ⟨gx, 0, none⟩) la ca, .slice (some ⟨g, off, none⟩) lb cb]).run Tryz.prog w = .ok (.value (.bool false)) w := fun la ca off lb cb => by
        rw [run_callFunc_extern Tryz.func155 (by kernel_rfl) (by kernel_rfl) (by kernel_rfl) (e := Extern.SlicesOverlaps.overlaps #[73, 73] #[4]) (by kernel_rfl),
          Lib.run_overlaps_apart w _ _ 89 hu 1 (fun _ => Tryz.sizeOf89 _) _ _ _ _ _ _ (fun h => hgg h.symm) 89 89 1 cur.size (by simp [World.shape?, hx]) (by simp [World.shape?, hh]) (by rw [hcs]; omega) (by simp [World.frozen?, hx]) (by simp [World.frozen?, hx])]
        rfl
      go_enter Tryz.func124, Tryz.ntmps124
      have hh0 : w.drew.heap[g]? = some (.cells cur.toList.toArray 89 (0, 0)) := (show w.drew.heap[g]? = _ from hh).trans (by simp)
      have hld : (encGs (l.drop i)).length = (l.length - i) := by rw [encGs_length, List.length_drop]
      have hcl : cur.toList.length = c := by simpa using hcs
      have hs2 : ∀ (j : Nat) u, (encGs (l.drop i))[j]? = some u → w.drew.cell? ((⟨g, i, none⟩ : Addr).add j) = some u := by
        intro j u hu
        rw [add_off, blk_cell (w := w.drew) hh]
        have e2 : (encGs l)[i + j]? = some u := by
          rw [encGs_split l i, List.getElem?_append_right (by rw [encGs_length, List.length_take]; omega), encGs_length, List.length_take, Nat.min_eq_left hi, Nat.add_sub_cancel_left]
          exact hu
        rw [← htk, List.getElem?_take] at e2
        split at e2
        · simpa using e2
        · cases e2
      have HTK := Lib.hid htk
      clear htk
      go_wp2_with fail
      have e1 : IntKind.i64.wrap ((i : Int) + 1) = i + 1 := IntWalk.i64_in _ (by omega)
      have e2 : (0 : Int) ≤ i + 1 := by omega
      have e3 : ((i : Int) + 1).toNat = i + 1 := by omega
      have e4 : (i : Int) + 1 ≤ l.length + 1 := by omega
      have e5 : (i : Int) ≤ l.length + 1 := by omega
      go_still_tail 8, (by kernel_rfl)
      clear e1 e2 e3 e4 e5
      change wpList _ _ _ _ _ w.drew
      refine wpList_copy rfl (.tmp 73) (.tmp 76) 73 73 rfl 89 1 hu tiG.size _ _ _ _ _ _ rfl rfl g ((i + 1)) cur.toList 89 hh0 (encGs (l.drop i)) ?c4 (fun _ => ⟨rfl, _, rfl, hs2⟩) ?c5 (encGs_one _) ?_
      case c4 => rw [Nat.mul_one, hld, show Nat.min (l.length + 1 - i) (l.length - i) = l.length - i from Nat.min_eq_right (by omega)]
      case c5 => rw [hcl, hld]; omega
      intro w1 hh1 hm1
      have hgx : w1.heap[gx]? = some (.cells #[.pointer (some ⟨x, 0, none⟩)] 89 (0, 0)) := hm1.blk (w := w.drew) hx (fun h => hgg h.symm)
      have hs1 : ∀ (j : Nat) u, ([.pointer (some ⟨x, 0, none⟩)] : List Value)[j]? = some u → w1.cell? ((⟨gx, 0, none⟩ : Addr).add j) = some u := fun j u hu => by rw [add_zero, blk_cell hgx]; simpa using hu
      have hl1 : (spl cur.toList ((i + 1)) (encGs (l.drop i))).length = c := by rw [spl_length _ _ _ (by rw [hcl, hld]; omega), hcl]
      go_wp2_with (with_reducible refine wpList_copy rfl (.tmp 80) (.tmp 81) 73 73 rfl 89 1 hu tiG.size _ _ _ _ _ _ rfl rfl g i _ 89 hh1 [.pointer (some ⟨x, 0, none⟩)] ?c6 (fun _ => ⟨rfl, _, rfl, hs1⟩) ?c7 ho1 ?_)
      case c6 => rw [show Nat.min 1 (l.length + 1 - i) = 1 from Nat.min_eq_left (by omega)]; rfl
      case c7 => rw [hl1]; simp; omega
      intro w2 hh2 hm2
      have hfin : (spl (spl cur.toList ((i + 1)) (encGs (l.drop i))) i [.pointer (some ⟨x, 0, none⟩)]).take ((l.length + 1)) = encGs (l.take i ++ x :: l.drop i) := by
        have h1 := spl_shift cur.toList [.pointer (some ⟨x, 0, none⟩)] (encGs (l.drop i)) i (by rw [hcl, hld]; simp; omega)
        rw [show i + ([.pointer (some ⟨x, 0, none⟩)] : List Value).length = (i + 1) from by simp, show (i + 1) + (encGs (l.drop i)).length = (l.length + 1) from by rw [hld]; omega] at h1
        rw [h1]
        have h2 : cur.toList.take i = encGs (l.take i) := by
          have h3 := congrArg (List.take i) HTK.out
          rw [List.take_take, Nat.min_eq_left (by omega), encGs_split l i, List.take_append_of_le_length (by rw [encGs_length, List.length_take]; omega)] at h3
          rw [h3]
          exact List.take_of_length_le (by rw [encGs_length, List.length_take]; omega)
        rw [h2]
        simp [encGs, encG]
      have HO : Own w2 89 1 (.slice (some ⟨g, 0, none⟩) (l.length + 1) c) (l.length + 1) (encGs (l.take i ++ x :: l.drop i)) :=
        Own.of_blk hh2 (by omega) hcm (by simp only [List.size_toArray]; rw [spl_length _ _ _ (by rw [hl1]; simp; omega), hl1, Nat.mul_one]) (by simpa using hfin)
      have HM : Mod (fun k => k = g) w w2 := ((Mod.refl _ w).drew.trans hm1 (fun _ _ h => h)).trans hm2 (fun _ _ h => h)
      clear hfin
      go_wp2_with fail
      go_ret
      exact ⟨_, rfl, HO, HM.mono (fun _ _ h => by subst h; rfl), .inl rfl⟩
    · have hroom' : c < l.length + 1 := by omega
      have hu3 := Tryz.underlying3
      have hrd : Rd w 1 (some ⟨g, 0, none⟩) i (encGs (l.take i)) := by
        have hq := hr.2.2 hp1
        refine ⟨by rw [encGs_length, List.length_take]; omega, by omega, fun _ => ?_⟩
        obtain ⟨ad, e, hc⟩ := hq
        refine ⟨ad, e, fun j u hu => hc j u ?_⟩
        have : encGs l = encGs (l.take i) ++ encGs (l.drop i) := by unfold encGs; rw [← List.flatMap_append, List.take_append_drop]
        rw [this, List.getElem?_append_left (List.getElem?_eq_some_iff.1 hu).1]
        exact hu
      obtain ⟨B, hB⟩ : ∃ B, B = w.heap.size := ⟨_, rfl⟩
      go_enter Tryz.func124, Tryz.ntmps124
      go_wp2_with (at_builtin; refine wpList_append_zeros rfl (.tmp 34) (.tmp 39) 73 3 rfl 89 _ 1 8 hu hu3 tiG rfl (by decide) (by decide) (some ⟨g, 0, none⟩) i c (encGs (l.take i)) rfl hrd (l.length + 1 - i) _ rfl (by omega) (by omega) (by omega) ?_)
      rw [← hB]
      have HB := Lib.hid hB
      clear hB
      rw [show i + (l.length + 1 - i) = l.length + 1 from by omega]
      intro nc cur1 w1 hh1 hn1' hncm hcs1 htk1 hm1 hlt1
      have hnci : ¬ nc = i := by omega
      have hB1 : B < w1.heap.size := blk_lt hh1
      have hgx : w1.heap[gx]? = some (.cells #[.pointer (some ⟨x, 0, none⟩)] 89 (0, 0)) := hm1.blk hx (fun h => h)
      have hs1 : ∀ (j : Nat) u, ([.pointer (some ⟨x, 0, none⟩)] : List Value)[j]? = some u → w1.cell? ((⟨gx, 0, none⟩ : Addr).add j) = some u := fun j u hu => by rw [add_zero, blk_cell hgx]; simpa using hu
      have hmin1 : Nat.min 1 (l.length + 1 - i) = 1 := Nat.min_eq_left (by omega)
      go_wp2_with (with_reducible refine wpList_copy rfl (.tmp 43) (.tmp 44) 73 73 rfl 89 1 hu tiG.size _ _ _ _ _ _ rfl rfl B i cur1 89 hh1 [.pointer (some ⟨x, 0, none⟩)] ?c1 (fun _ => ⟨rfl, _, rfl, hs1⟩) ?c3 ho1 ?_)
      case c1 => rw [hmin1]; rfl
      case c3 => rw [hcs1]; simp; omega
      intro w2 hh2 hm2
      have hnci2 : ¬ nc = i + 1 := by omega
      go_wp2_with fail
      have e1 : IntKind.i64.wrap ((i : Int) + 1) = i + 1 := IntWalk.i64_in _ (by omega)
      have e2 : (0 : Int) ≤ i + 1 := by omega
      have e3 : ((i : Int) + 1).toNat = i + 1 := by omega
      have e4 : (i : Int) + 1 ≤ l.length + 1 := by omega
      go_still_tail 8, (by kernel_rfl)
      clear e1 e2 e3 e4
      change wpList _ _ _ _ _ w2.drew
      have hl1 : (spl cur1 i [.pointer (some ⟨x, 0, none⟩)]).length = nc := by rw [spl_length _ _ _ (by rw [hcs1]; simp; omega), hcs1]
      have hld : (encGs (l.drop i)).length = (l.length - i) := by rw [encGs_length, List.length_drop]
      have hgB : g ≠ B := by have := blk_lt hh; rw [HB.out]; omega
      have hs2 : ∀ (j : Nat) u, (encGs (l.drop i))[j]? = some u → w2.drew.cell? ((⟨g, i, none⟩ : Addr).add j) = some u := by
        intro j u hu
        have hg2 : w2.drew.heap[g]? = some (.cells cur 89 (0, 0)) := hm2.blk (hm1.blk hh (fun h => h)) hgB
        rw [add_off, blk_cell hg2]
        have e : encGs l = encGs (l.take i) ++ encGs (l.drop i) := by unfold encGs; rw [← List.flatMap_append, List.take_append_drop]
        have e2 : (encGs l)[i + j]? = some u := by
          rw [e, List.getElem?_append_right (by rw [encGs_length, List.length_take]; omega), encGs_length, List.length_take, Nat.min_eq_left hi, Nat.add_sub_cancel_left]
          exact hu
        rw [← htk, List.getElem?_take] at e2
        split at e2
        · simpa using e2
        · cases e2
      refine wpList_copy rfl (.tmp 50) (.tmp 53) 73 73 rfl 89 1 hu tiG.size _ _ _ _ _ _ rfl rfl B ((i + 1)) (spl cur1 i [.pointer (some ⟨x, 0, none⟩)]) 89 hh2 (encGs (l.drop i)) ?c4 (fun _ => ⟨rfl, _, rfl, hs2⟩) ?c5 ?c6 ?_
      case c4 => rw [Nat.mul_one, encGs_length, List.length_drop, show Nat.min (l.length - i) (l.length - i) = l.length - i from Nat.min_self _]
      case c5 => rw [hl1, hld]; omega
      case c6 => exact encGs_one _
      intro w3 hh3 hm3
      have hfin : (spl (spl cur1 i [.pointer (some ⟨x, 0, none⟩)]) ((i + 1)) (encGs (l.drop i))).take ((l.length + 1)) = encGs (l.take i ++ x :: l.drop i) := by
        have h1 := spl_two cur1 [.pointer (some ⟨x, 0, none⟩)] (encGs (l.drop i)) i (by rw [hcs1]; simp; omega)
        rw [show i + ([.pointer (some ⟨x, 0, none⟩)] : List Value).length = (i + 1) from by simp, show (i + 1) + (encGs (l.drop i)).length = (l.length + 1) from by rw [encGs_length, List.length_drop]; omega, htk1] at h1
        rw [h1]
        simp [encGs, encG]
      have HO : Own w3 89 1 (.slice (some ⟨B, 0, none⟩) (l.length + 1) nc) (l.length + 1) (encGs (l.take i ++ x :: l.drop i)) :=
        Own.of_blk hh3 (by omega) hncm (by simp only [List.size_toArray]; rw [spl_length _ _ _ (by rw [hl1, hld]; omega), hl1, Nat.mul_one]) (by simpa using hfin)
      have HM : Mod NoneB w w3 := by
        have h1 : Mod NoneB w w2 := hm1.trans hm2 (fun k hk he => by subst he; have := HB.out; omega)
        exact (h1.drew).trans hm3 (fun k hk he => by subst he; have := HB.out; omega)
      clear hfin
      go_wp2_with fail
      go_ret
      exact ⟨_, rfl, HO, HM.mono (fun _ _ h => h.elim), .inr ⟨B, rfl, Nat.le_of_eq HB.out.symm⟩⟩

end Go.Proofs.YtkklofnabmdmfaaGreatDoor
