/- cmp.Or, diag.compare, diag.Less, slices.Clone, slices.Compact, diag.merged, diag.Sort. -/
import Derived.Test.YtdmdiokfpbmnaaaDoorDgW
import Derived.Test.YtdmdiokfpbmnaaaDoorDsP
import Derived.Test.YtdmdiokfpbmnaaaDoorBatA
import Derived.Deep.RegionHeld3
namespace Go.Proofs.YtdmdiokfpbmnaaaDoor
open Go.RowKit
set_option linter.unusedVariables false

theorem encDs_one (l : List Dg) : ∀ u ∈ encDs l, u.oneCell' = true := by
  intro u hu
  unfold encDs at hu
  obtain ⟨d, _, hd⟩ := List.mem_flatMap.1 hu
  exact encD_one d u hd
def fnz : List Int → Int
  | [] => 0
  | x :: l => if x = 0 then fnz l else x
theorem fnz_or4 (a b c d : Int) : fnz [a, b, c, d] = or4 a b c d := by
  unfold or4
  simp only [fnz]
  (repeat' split) <;> simp_all
theorem Rd.int {w : World} {A : Option Addr} {n : Nat} {l : List Int} (h : Rd w 1 A n (encI l)) (i : Nat) (hi : i < l.length) : ∃ ad, A = some ad ∧ w.cell? (ad.add i) = some (.int .i64 l[i]) := by
  have hl : l.length = n := by have := h.1; simp [encI] at this; omega
  obtain ⟨ad, e, hc⟩ := h.2.2 (by omega)
  exact ⟨ad, e, hc i _ (by simp [encI, hi])⟩
set_option maxHeartbeats 1000000 in
set_option maxRecDepth 100000 in
theorem or_calls (l : List Int) (A : Option Addr) (c : Nat) (w : World) (hr : Rd w 1 A l.length (encI l)) :
    Calls Tryd.prog 40 #[.slice A l.length c] w fun e w' => e = .returned (.int .i64 (fnz l)) ∧ Mod NoneB w w' := by
  have hn := hr.2.1
  go_enter Tryd.func40, Tryd.ntmps40
  go_wp2_with fail
  go_loopw [5, 8] (fun _ t wr => ∃ j : Nat, t = .int .i64 j ∧ j ≤ l.length ∧ fnz l = fnz (l.drop j) ∧ Mod NoneB w wr) (fun _ t _ => l.length - (intOf t).toNat)
  case atStart => exact ⟨0, rfl, by omega, rfl, Mod.refl _ _⟩
  case round =>
    obtain ⟨j, rfl, hj, hf, hm⟩ := hrel
    by_cases hlt : j < l.length
    · obtain ⟨ad, rfl, k0⟩ := hr.int j hlt
      replace k0 := hm.cell0 k0
      have hd : l.drop j = l[j] :: l.drop (j + 1) := List.drop_eq_getElem_cons hlt
      rw [hd] at hf
      obtain ⟨x, hx⟩ : ∃ x, x = l[j] := ⟨_, rfl⟩
      rw [← hx] at hf k0
      have HF := Lib.hid hf
      clear hf hd hx
      have e1 : (0 : Int) ≤ j := by omega
      have e2 : (j : Int) < l.length := by omega
      by_cases h0 : x = 0
      · subst h0
        go_wp2_with fail
        go_roundw
        case rel => exact ⟨j + 1, by go_num, by omega, by rw [HF.out]; simp [fnz], hm⟩
        case measure => simp [intOf]; omega
      · have b0 : (x != 0) = true := by rw [bne_iff_ne]; exact h0
        have H0 := Lib.hid h0
        clear h0
        go_wp2_with fail
        go_ret
        exact ⟨by rw [HF.out]; simp only [fnz]; rw [if_neg H0.out]; rfl, hm⟩
    · have hje : l.drop j = [] := List.drop_eq_nil_of_le (by omega)
      rw [hje] at hf
      have HF := Lib.hid hf
      clear hf hje
      have e2 : ¬ (j : Int) < l.length := by omega
      go_wp2_with fail
      go_ret
      exact ⟨by rw [HF.out]; rfl, hm⟩

def aggD (p : Dg) : Value := .agg #[.string p.m, .int .i64 p.a, .int .i64 p.c, .string p.n]
set_option maxHeartbeats 4000000 in
set_option maxRecDepth 100000 in
theorem compare_calls (p q : Dg) (w : World) :
    Calls Tryd.prog 26 #[.agg #[.string p.m, .int .i64 p.a, .int .i64 p.c, .string p.n], .agg #[.string q.m, .int .i64 q.a, .int .i64 q.c, .string q.n]] w fun e w' => e = .returned (.int .i64 (cmpD p q)) ∧ Mod NoneB w w' := by
  have hor : ∀ W A, Rd W 1 A 4 (encI [cmpS p.m q.m, Lib.compareInt p.a q.a, Lib.compareInt p.c q.c, cmpS p.n q.n]) → Calls Tryd.prog 40 #[.slice A 4 4] W fun e w' => e = .returned (.int .i64 (cmpD p q)) ∧ Mod NoneB W w' := by
    intro W A hr
    have h := or_calls [cmpS p.m q.m, Lib.compareInt p.a q.a, Lib.compareInt p.c q.c, cmpS p.n q.n] A 4 W hr
    rw [fnz_or4] at h
    exact h
  have HOR := Lib.hid hor
  obtain ⟨w1, hw1⟩ : ∃ w1, w1 = w.alloc (.cells #[.string p.m, .int .i64 p.a, .int .i64 p.c, .string p.n] 27) := ⟨_, rfl⟩
  obtain ⟨w2, hw2⟩ : ∃ w2, w2 = w1.alloc (.cells #[.string q.m, .int .i64 q.a, .int .i64 q.c, .string q.n] 27) := ⟨_, rfl⟩
  have bx : w1.heap[w.heap.size]? = some (.cells #[.string p.m, .int .i64 p.a, .int .i64 p.c, .string p.n] 27) := by rw [hw1]; exact heap_alloc_new w _
  have by_ : w2.heap[w1.heap.size]? = some (.cells #[.string q.m, .int .i64 q.a, .int .i64 q.c, .string q.n] 27) := by rw [hw2]; exact heap_alloc_new w1 _
  have hs1 : w1.heap.size = w.heap.size + 1 := by rw [hw1]; simp
  have hm1 : Mod NoneB w w1 := by rw [hw1]; exact (Mod.refl _ _).alloc _
  have hm2 : Mod NoneB w1 w2 := by rw [hw2]; exact (Mod.refl _ _).alloc _
  have bx2 := hm2.blk bx (fun h => h)
  have HMD : Mod NoneB w w2.drew := (hm1.then0 hm2).drew
  have d2 : Mod NoneB w2 w2.drew := (Mod.refl _ _).drew
  have d0 := blk_cell (d2.blk bx2 (fun h => h)) 0
  have d1 := blk_cell (d2.blk bx2 (fun h => h)) 1
  have d3 := blk_cell (d2.blk bx2 (fun h => h)) 2
  have d4 := blk_cell (d2.blk bx2 (fun h => h)) 3
  have g0 := blk_cell (d2.blk by_ (fun h => h)) 0
  have g1 := blk_cell (d2.blk by_ (fun h => h)) 1
  have g3 := blk_cell (d2.blk by_ (fun h => h)) 2
  have g4 := blk_cell (d2.blk by_ (fun h => h)) 3
  have hs2 : w2.heap.size = w.heap.size + 1 + 1 := by rw [hw2]; simp [hs1]
  have dA : Mod NoneB w2 (w2.alloc (.cells #[.int .i64 (cmpS p.m q.m), .int .i64 (Lib.compareInt p.a q.a), .int .i64 (Lib.compareInt p.c q.c), .int .i64 (cmpS p.n q.n)] 3)).drew := ((Mod.refl NoneB w2).alloc _).drew
  have hrA : Rd (w2.alloc (.cells #[.int .i64 (cmpS p.m q.m), .int .i64 (Lib.compareInt p.a q.a), .int .i64 (Lib.compareInt p.c q.c), .int .i64 (cmpS p.n q.n)] 3)).drew 1 (some ⟨w.heap.size + 1 + 1, 0, none⟩) 4 (encI [cmpS p.m q.m, Lib.compareInt p.a q.a, Lib.compareInt p.c q.c, cmpS p.n q.n]) := by
    rw [← hs2]
    exact (rdBlk (sz := 1) (n := 4) (heap_alloc_new w2 (.cells #[.int .i64 (cmpS p.m q.m), .int .i64 (Lib.compareInt p.a q.a), .int .i64 (Lib.compareInt p.c q.c), .int .i64 (cmpS p.n q.n)] 3)) rfl (by omega)).mod0 ((Mod.refl NoneB _).drew)
  have HMA : Mod NoneB w (w2.alloc (.cells #[.int .i64 (cmpS p.m q.m), .int .i64 (Lib.compareInt p.a q.a), .int .i64 (Lib.compareInt p.c q.c), .int .i64 (cmpS p.n q.n)] 3)).drew := (hm1.then0 hm2).then0 dA
  have e0 := blk_cell (dA.blk bx2 (fun h => h)) 0
  have e1 := blk_cell (dA.blk bx2 (fun h => h)) 1
  have e2 := blk_cell (dA.blk bx2 (fun h => h)) 2
  have e3 := blk_cell (dA.blk bx2 (fun h => h)) 3
  have e4 := blk_cell (dA.blk by_ (fun h => h)) 0
  have e5 := blk_cell (dA.blk by_ (fun h => h)) 1
  have e6 := blk_cell (dA.blk by_ (fun h => h)) 2
  have e7 := blk_cell (dA.blk by_ (fun h => h)) 3
  rw [hs1] at g0 g1 g3 g4 e4 e5 e6 e7
  have HRA := Lib.hid hrA
  clear bx by_ bx2 hm1 hm2 d2 hs1 hs2 dA hrA hor
  subst hw2
  subst hw1
  go_enter Tryd.func26, Tryd.ntmps26
  go_wp2_with fail
  go_region_held3 (fun w' => (w'.cell? ⟨w.heap.size, 0, none⟩ = some (.string p.m) ∧ w'.cell? ⟨w.heap.size, 1, none⟩ = some (.int .i64 p.a) ∧ w'.cell? ⟨w.heap.size, 2, none⟩ = some (.int .i64 p.c) ∧ w'.cell? ⟨w.heap.size, 3, none⟩ = some (.string p.n)) ∧ w'.cell? ⟨w.heap.size + 1, 0, none⟩ = some (.string q.m) ∧ w'.cell? ⟨w.heap.size + 1, 1, none⟩ = some (.int .i64 q.a) ∧ w'.cell? ⟨w.heap.size + 1, 2, none⟩ = some (.int .i64 q.c) ∧ w'.cell? ⟨w.heap.size + 1, 3, none⟩ = some (.string q.n)) (first | exact ⟨⟨d0, d1, d3, d4⟩, g0, g1, g3, g4⟩ | exact ⟨⟨x0, x1, x2, x3⟩, x4, x5, x6, x7⟩ | exact ⟨⟨y0, y1, y2, y3⟩, y4, y5, y6, y7⟩ | go_keep)
    (first
      | (go_at_call 41; (with_reducible refine (strings_Compare _ _ _).mono ?_); rintro ez wz ⟨rfl, hwz⟩; subst hwz)
      | (go_at_call 42; (with_reducible refine (cmp_Compare_int _ _ _).mono ?_); rintro ez wz ⟨rfl, hwz⟩; have hwz2 := hwz.symm; clear hwz; subst hwz2)
      | (go_at_call 40; (with_reducible refine (HOR.out _ _ HRA.out).mono ?_); rintro ez w5 ⟨rfl, hm5⟩
         have x0 := hm5.cell0 e0; have x1 := hm5.cell0 e1; have x2 := hm5.cell0 e2; have x3 := hm5.cell0 e3; have x4 := hm5.cell0 e4; have x5 := hm5.cell0 e5; have x6 := hm5.cell0 e6; have x7 := hm5.cell0 e7))
  all_goals
    go_wp2_with fail
    go_ret
    exact ⟨rfl, HMA.then0 hm5⟩
set_option maxHeartbeats 1000000 in
set_option maxRecDepth 100000 in
theorem cloneD_calls (l : List Dg) (A : Option Addr) (c : Nat) (w : World) (hr : Rd w 4 A l.length (encDs l)) (hsz : l.length * 48 ≤ 140737488355328) :
    Calls Tryd.prog 39 #[.slice A l.length c] w fun e w' =>
      ∃ v', e = .returned v' ∧ Own w' 27 4 v' l.length (encDs l) ∧ Mod NoneB w w' ∧ (∀ g, v'.ownBlock = some g → w.heap.size ≤ g) := by
  have hu := Tryd.underlying22
  have hq : ∀ (a : Option Addr) n c (w : World), (binOp .eql 22 (.slice a n c) (.slice none 0 0)).run Tryd.prog w = .ok (.bool a.isNone) w := fun a n c w => Lib.run_eql_slice_nil w _ _ a n c 0 0 hu
  cases A with
  | none =>
    have h0 : l = [] := by
      by_cases hp : 0 < l.length
      · obtain ⟨ad, h, _⟩ := hr.2.2 hp
        cases h
      · exact List.eq_nil_of_length_eq_zero (by omega)
    subst h0
    go_enter Tryd.func39, Tryd.ntmps39
    go_wp2_with fail
    go_ret
    exact ⟨_, rfl, Own.nil _ _ _, Mod.refl _ _, fun g h => by cases h⟩
  | some ad =>
    go_enter Tryd.func39, Tryd.ntmps39
    have hown : Own (w.alloc (.cells #[] 27)) 27 4 (.slice (some ⟨w.heap.size, 0, none⟩) 0 0) 0 [] := Own.of_blk (cap := 0) (heap_alloc_new w _) (by omega) (by omega) (by simp) (by simp)
    have hn : 0 < l.length → ∃ a, (some ad : Option Addr) = some a ∧ ∀ (j : Nat) u, (encDs l)[j]? = some u → (w.alloc (.cells #[] 27)).cell? (a.add j) = some u := by
      intro hp
      obtain ⟨a, h1, h2⟩ := hr.2.2 hp
      exact ⟨a, h1, fun j u hu => ((Mod.refl NoneB w).alloc _).cell0 (h2 j u hu)⟩
    go_wp2_with (at_builtin; refine wpList_append rfl (.tmp 5) (.tmp 6) 22 rfl 27 _ 4 48 hu tiD rfl (by decide) (by decide) _ 0 [] rfl hown (some ad) l.length c (encDs l) rfl (encDs_length l) hn (encDs_one l) ?c1 ?_)
    case c1 => omega
    intro v' w1 ho hm hno
    go_wp2_with fail
    go_ret
    refine ⟨_, rfl, ho, ((Mod.refl NoneB w).alloc _).trans_new hm (fun k hk => .inr ?_), fun g hg => ?_⟩
    · simp [OnlyBlk, Value.ownBlock] at hk; omega
    · rcases hno with h | ⟨b, h, hb⟩
      · have h1 : v'.ownBlock = some g := hg
        rw [h] at h1
        simp [Value.ownBlock] at h1
        omega
      · have h1 : v'.ownBlock = some g := hg
        rw [h] at h1
        simp at h1 hb
        omega

set_option maxHeartbeats 2000000 in
set_option maxRecDepth 100000 in
theorem less_calls (p q : Dg) (w : World) :
    Calls Tryd.prog 10 #[.agg #[.string p.m, .int .i64 p.a, .int .i64 p.c, .string p.n], .agg #[.string q.m, .int .i64 q.a, .int .i64 q.c, .string q.n]] w fun e w' => e = .returned (.bool (decide (ltD p q))) ∧ Mod NoneB w w' := by
  have HC := Lib.hid (fun W => compare_calls p q W)
  obtain ⟨w1, hw1⟩ : ∃ w1, w1 = w.alloc (.cells #[.string p.m, .int .i64 p.a, .int .i64 p.c, .string p.n] 27) := ⟨_, rfl⟩
  obtain ⟨w2, hw2⟩ : ∃ w2, w2 = w1.alloc (.cells #[.string q.m, .int .i64 q.a, .int .i64 q.c, .string q.n] 27) := ⟨_, rfl⟩
  have bx : w1.heap[w.heap.size]? = some (.cells #[.string p.m, .int .i64 p.a, .int .i64 p.c, .string p.n] 27) := by rw [hw1]; exact heap_alloc_new w _
  have by_ : w2.heap[w1.heap.size]? = some (.cells #[.string q.m, .int .i64 q.a, .int .i64 q.c, .string q.n] 27) := by rw [hw2]; exact heap_alloc_new w1 _
  have hs1 : w1.heap.size = w.heap.size + 1 := by rw [hw1]; simp
  have hm1 : Mod NoneB w w1 := by rw [hw1]; exact (Mod.refl _ _).alloc _
  have hm2 : Mod NoneB w1 w2 := by rw [hw2]; exact (Mod.refl _ _).alloc _
  have bx2 := hm2.blk bx (fun h => h)
  have hmw := hm1.then0 hm2
  have d0 := blk_cell bx2 0
  have d1 := blk_cell bx2 1
  have d3 := blk_cell bx2 2
  have d4 := blk_cell bx2 3
  have g0 := blk_cell by_ 0
  have g1 := blk_cell by_ 1
  have g3 := blk_cell by_ 2
  have g4 := blk_cell by_ 3
  rw [hs1] at g0 g1 g3 g4
  clear bx by_ bx2 hm1 hm2 hs1
  subst hw2
  subst hw1
  go_enter Tryd.func10, Tryd.ntmps10
  go_wp2_with ((with_reducible refine (HC.out _).mono ?_); rintro ez w3 ⟨rfl, hm3⟩)
  go_ret
  exact ⟨rfl, hmw.then0 hm3⟩

theorem add_addD (ad : Addr) (i j : Nat) : (ad.add i).add j = ad.add (i + j) := by
  unfold Addr.add
  by_cases h1 : i = 0 <;> by_cases h2 : j = 0 <;> simp_all <;> omega
theorem Rd.dropD {w : World} {ad : Addr} {n : Nat} {l : List Dg} (h : Rd w 4 (some ad) n (encDs l)) (hl : l.length = n) (i : Nat) (hi : i ≤ n) : Rd w 4 (some (ad.add (i * 4))) (n - i) (encDs (l.drop i)) := by
  refine ⟨by rw [encDs_length, List.length_drop]; omega, by have := h.2.1; omega, fun hp => ⟨_, rfl, fun j u hu => ?_⟩⟩
  obtain ⟨a, e, hc⟩ := h.2.2 (by omega)
  injection e with e
  subst e
  rw [show (ad.add (i * 4)).add j = ad.add (i * 4 + j) from add_addD _ _ _]
  refine hc _ u ?_
  have e : encDs l = encDs (l.take i) ++ encDs (l.drop i) := by rw [← encDs_append, List.take_append_drop]
  rw [e, List.getElem?_append_right (by rw [encDs_length, List.length_take]; omega), encDs_length, List.length_take, Nat.min_eq_left (by omega), Nat.add_sub_cancel_left]
  exact hu
theorem Rd.takeD {w : World} {A : Option Addr} {n : Nat} {l : List Dg} (h : Rd w 4 A n (encDs l)) (hl : l.length = n) (i : Nat) (hi : i ≤ n) : Rd w 4 A i (encDs (l.take i)) := by
  refine ⟨by rw [encDs_length, List.length_take]; omega, by have := h.2.1; omega, fun hp => ?_⟩
  obtain ⟨a, e, hc⟩ := h.2.2 (by omega)
  refine ⟨a, e, fun j u hu => hc j u ?_⟩
  have e : encDs l = encDs (l.take i) ++ encDs (l.drop i) := by rw [← encDs_append, List.take_append_drop]
  rw [e, List.getElem?_append_left (List.getElem?_eq_some_iff.1 hu).1]
  exact hu
set_option maxRecDepth 100000 in
theorem dropD_at {w : World} {ad : Addr} {n c : Nat} {l : List Dg} (h : Rd w 4 (some ad) n (encDs l)) (hl : l.length = n) (hnc : n ≤ c) (i : Nat) (hi : i ≤ n) (lo : Int) (hlo : lo = i) :
    ∃ A', (∀ W, (Instr.slice 22 (.slice (some ad) n c) (some (.int .i64 lo)) none none).run Tryd.prog W = .ok (.slice A' (n - i) (c - i)) W) ∧
      (∀ W, (Instr.sliceAt 22 (.slice (some ad) n c) (some (.int .i64 lo)) none none).run Tryd.prog W = .ok (.slice A' (n - i) (c - i)) W) ∧ Rd w 4 A' (n - i) (encDs (l.drop i)) ∧ ∃ a, A' = some a ∧ a.block = ad.block := by
  subst hlo
  have ht : Tryd.prog.underlying 22 = some (.slice (Tryd.prog.elem 22)) := by kernel_rfl
  have he : Tryd.prog.elem 22 = 27 := by kernel_rfl
  obtain ⟨ti, hti, _, hs, _⟩ := (tiD).parts
  have hrun : ∀ W, (Instr.slice 22 (.slice (some ad) n c) (some (.int .i64 (i : Int))) none none).run Tryd.prog W = .ok (.slice (if c = i then some ad else some (ad.add (i * 4))) (n - i) (c - i)) W := by
    intro W
    rw [run_slice_l W 22 (some ad) n c ht .i64 _ (by omega) (by omega), he]
    simp [sizeOf, typeInfo, hti, hs, sliced]
  refine ⟨_, hrun, fun W => by rw [run_sliceAt_slice W _ _ _ _ _ ht]; exact hrun W, ?_⟩
  by_cases hci : c = i
  · rw [if_pos hci]
    have h0 : n - i = 0 := by omega
    have h1 : l.drop i = [] := List.drop_eq_nil_of_le (by omega)
    rw [h0, h1]
    exact ⟨Rd.nil _ _ _, ad, rfl, rfl⟩
  · rw [if_neg hci]
    exact ⟨h.dropD hl i hi, _, rfl, by unfold Addr.add; split <;> rfl⟩
set_option maxRecDepth 100000 in
theorem takeD_at {w : World} {ad : Addr} {n c : Nat} {l : List Dg} (h : Rd w 4 (some ad) n (encDs l)) (hl : l.length = n) (hnc : n ≤ c) (k : Nat) (hk : k ≤ n) (hi : Int) (hhi : hi = k) :
    ∃ A', (∀ W, (Instr.slice 22 (.slice (some ad) n c) none (some (.int .i64 hi)) none).run Tryd.prog W = .ok (.slice A' k c) W) ∧
      (∀ W, (Instr.sliceAt 22 (.slice (some ad) n c) none (some (.int .i64 hi)) none).run Tryd.prog W = .ok (.slice A' k c) W) ∧ Rd w 4 A' k (encDs (l.take k)) := by
  subst hhi
  have ht : Tryd.prog.underlying 22 = some (.slice (Tryd.prog.elem 22)) := by kernel_rfl
  have he : Tryd.prog.elem 22 = 27 := by kernel_rfl
  obtain ⟨ti, hti, _, hs, _⟩ := (tiD).parts
  have hrun : ∀ W, (Instr.slice 22 (.slice (some ad) n c) none (some (.int .i64 (k : Int))) none).run Tryd.prog W = .ok (.slice (if c = 0 then (some ad) else (some ad).map (·.add 0)) k c) W := by
    intro W
    rw [run_slice_h W 22 (some ad) n c ht .i64 _ (by omega) (by omega), he]
    simp [sizeOf, typeInfo, hti, hs, sliced]
  have e0 : ((some ad).map (·.add 0)) = some ad := by simp [add_nil0]
  rw [e0, ite_self] at hrun
  exact ⟨_, hrun, fun W => by rw [run_sliceAt_slice W _ _ _ _ _ ht]; exact hrun W, h.takeD hl k hk⟩
end Go.Proofs.YtdmdiokfpbmnaaaDoor

