/- code.Decode: the texts that bytes are. -/
import Derived.Test.YtnoleekdldmagaaEnc
namespace Go.Proofs.Ytnoleekdldmagaa
open Go.RowKit
set_option linter.unusedVariables false

/-- Texts that are told, or that there are none. -/
def errT (r : Option (List ByteArray)) : Nat := if r.isSome then 0 else 2
def TextsE (r : Option (List ByteArray)) (w : World) (e : Ending) (w' : World) : Prop :=
  ∃ v, e = .returned (.tuple #[v, .int .i64 (errT r : Nat)]) ∧ Own w' 9 1 v (r.getD []).length (encTs (r.getD [])) ∧ Mod NoneB w w' ∧ (∀ g, v.ownBlock = some g → w.heap.size ≤ g)
theorem TextsE.none {w w' : World} (hm : Mod NoneB w w') : TextsE none w (.returned (.tuple #[.slice none 0 0, .int .i64 2])) w' :=
  ⟨_, rfl, Own.nil _ _ _, hm, fun g h => by simp [Value.ownBlock] at h⟩
theorem getV4_some {b : List UInt8} {i n : Nat} (h : get4 (b.drop i) = some n) : getV4 b i = n ∧ getB4 b i = true := by unfold getV4 getB4; rw [h]; exact ⟨rfl, rfl⟩
theorem getV4_none {b : List UInt8} {i : Nat} (h : get4 (b.drop i) = none) : getV4 b i = 0 ∧ getB4 b i = false := by unfold getV4 getB4; rw [h]; exact ⟨rfl, rfl⟩
theorem get4_drop_lt {b : List UInt8} {i n : Nat} (h : get4 (b.drop i) = some n) : i + 4 ≤ b.length ∧ n < 4294967296 := by
  obtain ⟨h1, h2⟩ := get4_lt h
  rw [List.length_drop] at h1
  exact ⟨by omega, h2⟩

theorem decGo_step {m k : Nat} {r : List UInt8} (h : get4 r = some k) (hk : k + 4 ≤ r.length) : decGo (m + 1) r = (decGo m (r.drop (4 + k))).map (strOf ((r.drop 4).take k) :: ·) := by
  conv => lhs; unfold decGo
  rw [h]
  simp only [if_pos hk]
theorem decGo_long {m k : Nat} {r : List UInt8} (h : get4 r = some k) (hk : r.length < k + 4) : decGo (m + 1) r = none := by
  conv => lhs; unfold decGo
  rw [h]
  simp only [if_neg (by omega : ¬ k + 4 ≤ r.length)]
theorem decGo_no {m : Nat} {r : List UInt8} (h : get4 r = none) : decGo (m + 1) r = none := by
  conv => lhs; unfold decGo
  rw [h]
theorem decGo_end (r : List UInt8) : decGo 0 r = if r = [] then some [] else none := rfl

/-- Bytes in the midst of bytes. -/
theorem Rd.sub {w : World} {ad : Addr} {n : Nat} {l : List UInt8} (h : Rd w 1 (some ad) n (encB l)) (i k : Nat) (hk : i + k ≤ n) : Rd w 1 (some (ad.add i)) k (encB ((l.drop i).take k)) := by
  have hl : l.length = n := by have := h.1; rw [encB_length] at this; omega
  refine ⟨by rw [encB_length, List.length_take, List.length_drop]; omega, Nat.le_trans (by omega) h.2.1, fun hp => ⟨_, rfl, fun j u hu => ?_⟩⟩
  obtain ⟨ad', e, hc⟩ := h.2.2 (by omega)
  injection e with e
  subst e
  have e2 : (ad.add i).add j = ad.add (i + j) := by unfold Addr.add; split <;> split <;> simp_all <;> omega
  rw [e2]
  refine hc _ u ?_
  unfold encB at *
  rw [List.getElem?_map] at hu ⊢
  rw [List.getElem?_take] at hu
  split at hu
  · rw [List.getElem?_drop] at hu; exact hu
  · cases hu

set_option maxRecDepth 100000 in
/-- b[i : i+k], as the walk takes it. -/
theorem sub_at {w : World} {ad : Addr} {n c : Nat} {l : List UInt8} (h : Rd w 1 (some ad) n (encB l)) (hnc : n ≤ c) (i k : Nat) (hk : i + k ≤ n) (lo hi : Int) (hlo : lo = i) (hhi : hi = (i : Int) + k) :
    ∃ A', (∀ W, (Instr.slice 35 (.slice (some ad) n c) (some (.int .i64 lo)) (some (.int .i64 hi)) none).run Try.prog W = .ok (.slice A' k (c - i)) W) ∧
      (∀ W, (Instr.sliceAt 35 (.slice (some ad) n c) (some (.int .i64 lo)) (some (.int .i64 hi)) none).run Try.prog W = .ok (.slice A' k (c - i)) W) ∧ Rd w 1 A' k (encB ((l.drop i).take k)) := by
  subst hlo hhi
  have ht : Try.prog.underlying 35 = some (.slice (Try.prog.elem 35)) := by kernel_rfl
  have he : Try.prog.elem 35 = 5 := by kernel_rfl
  obtain ⟨ti, hti, _, hs, _⟩ := (tiB).parts
  have hrun : ∀ W, (Instr.slice 35 (.slice (some ad) n c) (some (.int .i64 (i : Int))) (some (.int .i64 ((i : Int) + k))) none).run Try.prog W = .ok (.slice (if c = i then some ad else some (ad.add i)) k (c - i)) W := by
    intro W
    rw [run_slice_lh W 35 (some ad) n c ht .i64 .i64 _ _ (by omega) (by omega) (by omega), he]
    simp [sizeOf, typeInfo, hti, hs, sliced, show ((i : Int) + k).toNat = i + k from by omega]
  refine ⟨_, hrun, fun W => by rw [run_sliceAt_slice W _ _ _ _ _ ht]; exact hrun W, ?_⟩
  by_cases hci : c = i
  · have h0 : k = 0 := by omega
    subst h0
    rw [List.take_zero]
    exact Rd.nil _ _ _
  · rw [if_neg hci]
    exact h.sub i k hk

set_option maxHeartbeats 2000000 in
set_option maxRecDepth 100000 in
theorem dnext_calls (b : List UInt8) (B : Option Addr) (bc i q1 q4 : Nat) (w : World) (hr : Rd w 1 B b.length (encB b)) (hi : i ≤ 2305843009213693952) (x1 : w.heap[q1]? = some (.cells #[.slice B b.length bc] 35 (0, 0))) (x4 : w.heap[q4]? = some (.cells #[.int .i64 i] 3 (0, 0))) :
    Calls Try.prog 133 #[.pointer (some ⟨q1, 0, none⟩), .pointer (some ⟨q4, 0, none⟩)] w fun e w' => e = .returned (.tuple #[.int .i64 (getV4 b i : Nat), .bool (getB4 b i)]) ∧ w'.heap[q4]? = some (.cells #[.int .i64 ((i + 4 : Nat) : Int)] 3 (0, 0)) ∧ Mod (fun k => k = q4) w w' := by
  have y1 : w.cell? ⟨q1, 0, none⟩ = some (.slice B b.length bc) := by rw [blk_cell x1]; rfl
  have y4 : w.cell? ⟨q4, 0, none⟩ = some (.int .i64 i) := by rw [blk_cell x4]; rfl
  go_enter Try.func133, Try.ntmps133
  go_wp2_with fail
  refine (cget_calls b i B bc w hr (by omega)).mono ?_
  rintro e w1 ⟨rfl, hm1⟩
  have x41 := hm1.blk x4 (fun h => h)
  have y41 : w1.cell? ⟨q4, 0, none⟩ = some (.int .i64 i) := hm1.cell0 y4
  have f41 : w1.frozen? ⟨q4, 0, none⟩ = false := blk_frozen x41 0
  have hs := setCell_blk0 (j := 0) (u := .int .i64 ((i + 4 : Nat) : Int)) x41
  have hm2 : Mod (fun k => k = q4) w (w1.setCell ⟨q4, 0, none⟩ (.int .i64 ((i + 4 : Nat) : Int))) := Mod.setCell (S := fun k => k = q4) (hm1.mono (fun _ _ h => h.elim)) (p := ⟨q4, 0, none⟩) (fun _ => rfl) _
  have e4 : ((i + 4 : Nat) : Int) = (i : Int) + 4 := by omega
  rw [e4] at hs hm2
  have HE4 := Lib.hid e4
  clear e4 y1 y4 x4 x1 x41
  obtain ⟨V, hV⟩ : ∃ V, V = getV4 b i := ⟨_, rfl⟩
  obtain ⟨O, hO⟩ : ∃ O, O = getB4 b i := ⟨_, rfl⟩
  rw [← hV, ← hO]
  have HVV := Lib.hid hV
  have HOO := Lib.hid hO
  clear hV hO
  go_wp2_with fail
  go_ret2
  refine ⟨?_, by rw [HE4.out]; exact hs, hm2⟩
  first
    | rfl
    | (rw [← HVV.out, ← HOO.out]; rfl)

set_option maxHeartbeats 4000000 in
set_option maxRecDepth 100000 in
theorem decode_calls (b : List UInt8) (B : Option Addr) (bc : Nat) (w : World) (hr : Rd w 1 B b.length (encB b)) (hlb : b.length ≤ 70368744177664) (hbc : b.length ≤ bc) :
    Calls Try.prog 99 #[.slice B b.length bc] w (TextsE (decL b) w) := by
  go_enter Try.func99, Try.ntmps99
  go_wp2_with fail
  have hal : Mod NoneB w ((w.alloc (.cells #[.slice B b.length bc] 35)).alloc (.cells #[.int .i64 0] 3)) := ((Mod.refl NoneB w).alloc _).alloc _
  have x1 : ((w.alloc (.cells #[.slice B b.length bc] 35)).alloc (.cells #[.int .i64 0] 3)).heap[w.heap.size]? = some (.cells #[.slice B b.length bc] 35 (0, 0)) := ((Mod.refl NoneB _).alloc _).blk (heap_alloc_new w _) (fun h => h)
  have x4 : ((w.alloc (.cells #[.slice B b.length bc] 35)).alloc (.cells #[.int .i64 0] 3)).heap[w.heap.size + 1]? = some (.cells #[.int .i64 0] 3 (0, 0)) := heap_alloc2_new w _ _
  generalize (w.alloc (.cells #[.slice B b.length bc] 35)).alloc (.cells #[.int .i64 0] 3) = w1 at hal x1 x4 ⊢
  obtain ⟨q1, hq1⟩ : ∃ q, q = w.heap.size := ⟨_, rfl⟩
  obtain ⟨q4, hq4⟩ : ∃ q, q = w.heap.size + 1 := ⟨_, rfl⟩
  rw [← hq4, ← hq1]
  rw [← hq1] at x1
  rw [← hq4] at x4
  have n1 : w.heap.size ≤ q1 := by omega
  have n4 : w.heap.size ≤ q4 := by omega
  have n14 : q1 ≠ q4 := by omega
  clear hq1 hq4
  have hr1 := hr.mod0 hal
  refine (dnext_calls b B bc 0 q1 q4 w1 hr1 (by omega) x1 x4).mono ?_
  rintro e w2 ⟨rfl, x42, hm2⟩
  have hm2w : Mod NoneB w w2 := hal.trans_new hm2 (fun k hk => .inr (by subst hk; exact n4))
  have x12 := hm2.blk x1 n14
  have y12 : w2.cell? ⟨q1, 0, none⟩ = some (.slice B b.length bc) := by rw [blk_cell x12]; rfl
  have hl4 : IntKind.i64.wrap ((b.length : Int) / 4) = (b.length : Int) / 4 := IntWalk.i64_in _ (by omega)
  clear x1 x4 hal hm2 hr1
  cases hg : get4 (b.drop 0) with
  | none =>
    obtain ⟨hv, ho⟩ := getV4_none hg
    have hd : decL b = none := by unfold decL; rw [List.drop_zero] at hg; rw [hg]
    rw [hv, ho]
    have HD := Lib.hid hd
    clear hg hv ho hd
    go_wp2_with fail
    go_ret2
    rw [HD.out]
    exact TextsE.none hm2w
  | some n =>
    obtain ⟨hv, ho⟩ := getV4_some hg
    obtain ⟨h04, hn32⟩ := get4_drop_lt hg
    have hd : decL b = decGo n (b.drop 4) := by unfold decL; rw [List.drop_zero] at hg; rw [hg]
    rw [hv, ho]
    have HD := Lib.hid hd
    clear hg hv ho hd
    by_cases hbig : b.length / 4 < n
    · have hno : decL b = none := by
        rw [HD.out]
        cases hq : decGo n (b.drop 4) with
        | none => rfl
        | some l =>
          have := (decGo_len _ _ _ hq).2
          rw [List.length_drop] at this
          omega
      have HNO := Lib.hid hno
      have hb1 : decide ((b.length : Int) / 4 < (n : Int)) = true := by simp; omega
      clear hno
      go_wp2_with fail
      go_ret2
      rw [HNO.out]
      exact TextsE.none hm2w
    · have hb1 : decide ((b.length : Int) / 4 < (n : Int)) = false := by simp; omega
      go_wp2_with fail
      clear hb1 hl4
      go_loopw [8, 9, 10, 27, 29] (fun v a9 a10 t a29 wr => ∃ (j at_ : Nat) (ts : List ByteArray), t = .int .i64 j ∧ j ≤ n ∧ at_ ≤ b.length ∧ ts.length = j ∧ Own wr 9 1 v ts.length (encTs ts) ∧ wr.heap[q1]? = some (.cells #[.slice B b.length bc] 35 (0, 0)) ∧ wr.heap[q4]? = some (.cells #[.int .i64 at_] 3 (0, 0)) ∧
        decL b = (decGo (n - j) (b.drop at_)).map (ts ++ ·) ∧ Mod NoneB w wr ∧ (∀ g, v.ownBlock = some g → w.heap.size ≤ g)) (fun _ _ _ t _ _ => n - (intOf t).toNat)
      case atStart => exact ⟨0, 4, [], rfl, by omega, by omega, rfl, Own.nil _ _ _, x12, x42, by rw [HD.out]; simp, hm2w, fun g h => by simp [Value.ownBlock] at h⟩
      case round =>
        obtain ⟨j, at_, ts, rfl, hj, hat, htl, hov, x1, x4, hdj, hmj, hnv⟩ := hrel
        clear x12 x42 hm2w HD y12
        have HDJ := Lib.hid hdj
        have HOV := Lib.hid hov
        have HNV := Lib.hid hnv
        have HTL := Lib.hid htl
        clear hdj hnv htl
        by_cases hlt : j < n
        · obtain ⟨m, hm⟩ : ∃ m, n - j = m + 1 := ⟨n - j - 1, by omega⟩
          have hm' : n - (j + 1) = m := by omega
          have HM := Lib.hid hm
          have HM' := Lib.hid hm'
          clear hm hm'
          go_wp2_with fail
          refine (dnext_calls b B bc at_ q1 q4 wr (hr.mod0 hmj) (by omega) x1 x4).mono ?_
          rintro e w3 ⟨rfl, x43, hm3⟩
          have hm3w : Mod NoneB w w3 := hmj.trans_new hm3 (fun k hk => .inr (by subst hk; exact n4))
          have x13 := hm3.blk x1 n14
          have y13 : w3.cell? ⟨q1, 0, none⟩ = some (.slice B b.length bc) := by rw [blk_cell x13]; rfl
          have y43 : w3.cell? ⟨q4, 0, none⟩ = some (.int .i64 ((at_ + 4 : Nat) : Int)) := by rw [blk_cell x43]; rfl
          cases hg : get4 (b.drop at_) with
          | none =>
            obtain ⟨hv, ho⟩ := getV4_none hg
            have hd : decL b = none := by rw [HDJ.out, HM.out, decGo_no hg]; rfl
            rw [hv, ho]
            have HD := Lib.hid hd
            clear hg hv ho hd
            go_wp2_with fail
            go_ret2
            rw [HD.out]
            exact TextsE.none hm3w
          | some k =>
            obtain ⟨hv, ho⟩ := getV4_some hg
            obtain ⟨h04, hk32⟩ := get4_drop_lt hg
            rw [hv, ho]
            clear hv ho
            have e43 : ((at_ + 4 : Nat) : Int) = (at_ : Int) + 4 := by omega
            rw [e43] at y43
            clear e43
            by_cases hlong : b.length < at_ + 4 + k
            · have hd : decL b = none := by rw [HDJ.out, HM.out, decGo_long hg (by rw [List.length_drop]; omega)]; rfl
              have hb1 : decide ((b.length : Int) - ((at_ : Int) + 4) < (k : Int)) = true := by simp; omega
              have HD := Lib.hid hd
              clear hg hd
              go_wp2_with fail
              go_ret2
              rw [HD.out]
              exact TextsE.none hm3w
            · have hd := decGo_step (m := m) hg (by rw [List.length_drop]; omega)
              rw [List.drop_drop, List.drop_drop] at hd
              have hd2 : decL b = (decGo m (b.drop (at_ + 4 + k))).map (ts ++ [strOf ((b.drop (at_ + 4)).take k)] ++ ·) := by
                rw [HDJ.out, HM.out, hd, Option.map_map]
                congr 1
                · funext x; simp
                · rw [Nat.add_assoc]
              have hb1 : decide ((b.length : Int) - ((at_ : Int) + 4) < (k : Int)) = false := by simp; omega
              have HD := Lib.hid hd2
              obtain ⟨ad, rfl, _⟩ := hr.2.2 (by omega)
              obtain ⟨A', hs1, hs2, hrs⟩ := sub_at ((hr.mod0 hmj).modP hm3 (fun hp ad he hq => by have := (hr.mod0 hmj).block_lt (by decide) hp ad he; have h2 := hr.block_lt (by decide) hp ad he; omega)) hbc (at_ + 4) k (by omega) ((at_ : Int) + 4) ((at_ : Int) + 4 + k) (by omega) (by omega)
              obtain ⟨str, hstr⟩ : ∃ str, str = strOf ((b.drop (at_ + 4)).take k) := ⟨_, rfl⟩
              have hcv : (convert 35 9 (.slice A' k (bc - (at_ + 4)))).run Try.prog w3 = .ok (.string str) w3 := by
                rw [hstr]
                exact conv_strN (by rw [List.length_take, List.length_drop]; omega) hrs
              have HSTR := Lib.hid hstr
              clear hg hd hd2 hrs hstr
              have hov3 := hov.mod hm3 (fun g hg he => by
                subst he
                obtain ⟨c', hc'⟩ := hov.tag0 hg
                exact tag_ne0 x4 hc' (by decide) rfl)
              have htsl : ts.length ≤ 4294967296 := by have := HTL.out; omega
              obtain ⟨nt, hnt⟩ : ∃ nt, nt = ts.length := ⟨_, rfl⟩
              rw [← hnt] at htsl hov3
              have HNT := Lib.hid hnt
              have h16 : (nt + 1) * 16 ≤ 140737488355328 := by omega
              have hus := Try.underlying132
              have hox := hov3.mod0 ((Mod.refl NoneB w3).alloc (.cells #[.string str] 9))
              have hnx : 0 < 1 → ∃ a, (some ⟨w3.heap.size, 0, none⟩ : Option Addr) = some a ∧ ∀ (j : Nat) u, (encTs [str])[j]? = some u → (w3.alloc (.cells #[.string str] 9)).cell? (a.add j) = some u := (rdBlk (sz := 1) (n := 1) (heap_alloc_new w3 (.cells #[.string str] 9)) rfl (by omega)).2.2
              have hmx : Mod NoneB w3 (w3.alloc (.cells #[.string str] 9)) := (Mod.refl NoneB w3).alloc _
              clear hov hnt hov3
              go_wp2_with (at_builtin; refine wpList_append rfl (.tmp 44) (.tmp 52) 132 rfl 9 _ 1 16 hus tiS rfl (by decide) (by decide) _ nt (encTs ts) rfl hox (some ⟨w3.heap.size, 0, none⟩) 1 1 (encTs [str]) rfl rfl hnx (encTs_one _) h16 ?_)
              intro v5 w5 ho5 hm5 hno5
              have x15 : w5.heap[q1]? = some (.cells #[.slice (some ad) b.length bc] 35 (0, 0)) := hm5.blk (hmx.blk x13 (fun h => h)) (fun h => by
                obtain ⟨c', hc'⟩ := hox.tag0 h
                exact tag_ne0 (hmx.blk x13 (fun h => h)) hc' (by decide) rfl)
              have x45 : w5.heap[q4]? = some (.cells #[.int .i64 ((at_ + 4 : Nat) : Int)] 3 (0, 0)) := hm5.blk (hmx.blk x43 (fun h => h)) (fun h => by
                obtain ⟨c', hc'⟩ := hox.tag0 h
                exact tag_ne0 (hmx.blk x43 (fun h => h)) hc' (by decide) rfl)
              have y45 : w5.cell? ⟨q4, 0, none⟩ = some (.int .i64 ((at_ : Int) + 4)) := by rw [blk_cell x45]; simp
              have f45 : w5.frozen? ⟨q4, 0, none⟩ = false := blk_frozen x45 0
              have hm5w : Mod NoneB w w5 := (hm3w.then0 hmx).trans_new hm5 (fun k hk => .inr (HNV.out k hk))
              have hn5 : ∀ g, v5.ownBlock = some g → w.heap.size ≤ g := by
                intro g hg
                rcases hno5 with hq | ⟨b, hq, hb⟩
                · exact HNV.out g (by rw [← hq]; exact hg)
                · rw [hq] at hg
                  injection hg with hg
                  have h1 := (hm3w.then0 hmx).size
                  omega
              have hs6 := setCell_blk0 (j := 0) (u := .int .i64 ((at_ : Int) + 4 + k)) x45
              have hms : Mod (fun k => k = q4) w5 (w5.setCell ⟨q4, 0, none⟩ (.int .i64 ((at_ : Int) + 4 + k))) := Mod.setCell (S := fun k => k = q4) (Mod.refl _ _) (p := ⟨q4, 0, none⟩) (fun _ => rfl) _
              have x16 := hms.blk x15 n14
              have hm6w := hm5w.trans_new hms (fun k hk => .inr (by subst hk; exact n4))
              have ho6 : Own (w5.setCell ⟨q4, 0, none⟩ (.int .i64 ((at_ : Int) + 4 + k))) 9 1 v5 (ts ++ [str]).length (encTs (ts ++ [str])) := by
                have h := ho5.mod hms (fun g hg he => by
                  subst he
                  obtain ⟨c', hc'⟩ := ho5.tag0 hg
                  exact tag_ne0 x45 hc' (by decide) rfl)
                rw [List.length_append, encTs_append, ← HNT.out]
                exact h
              obtain ⟨A5, c5, rfl, _, _, _⟩ := ho5.out
              have HO6 := Lib.hid ho6
              have HN5 := Lib.hid hn5
              have HS6 := Lib.hid hs6
              have HX16 := Lib.hid x16
              clear ho6 hn5 hs6 x16 ho5 hox hnx hno5 hcv hs1 hs2 x1 x4 x13 x43 x15 y13 y43
              go_wp2_with fail
              go_roundw
              case rel => exact ⟨j + 1, at_ + 4 + k, ts ++ [str], by go_num, by omega, by omega, by simp [HTL.out], HO6.out, HX16.out, by have h := HS6.out; simpa using h, by rw [HM'.out, HD.out, HSTR.out], hm6w, HN5.out⟩
              case measure => simp [intOf]; omega
        · have hje : j = n := by omega
          subst hje
          have y1 : wr.cell? ⟨q1, 0, none⟩ = some (.slice B b.length bc) := by rw [blk_cell x1]; rfl
          have y4 : wr.cell? ⟨q4, 0, none⟩ = some (.int .i64 (at_ : Int)) := by rw [blk_cell x4]; rfl
          have hd : decL b = if b.drop at_ = [] then some ts else none := by
            rw [HDJ.out, Nat.sub_self, decGo_end]
            split
            · simp
            · rfl
          have HD := Lib.hid hd
          clear hd
          obtain ⟨A8, c8, rfl, _, _, _⟩ := hov.out
          clear hov
          by_cases hall : at_ = b.length
          · have hd2 : decL b = some ts := by rw [HD.out, if_pos (by rw [hall]; exact List.drop_length)]
            have HD2 := Lib.hid hd2
            have b1 : ((at_ : Int) == (b.length : Int)) = true := by simp; omega
            have b2 : ((at_ : Int) != (b.length : Int)) = false := by simp; omega
            have b3 : (at_ == b.length) = true := by simp; omega
            clear hd2 hall x1 x4
            go_wp2_with fail
            go_ret2
            rw [HD2.out]
            exact ⟨_, rfl, HOV.out, hmj, HNV.out⟩
          · have hd2 : decL b = none := by
              rw [HD.out, if_neg (fun h => ?_)]
              have := congrArg List.length h
              rw [List.length_drop, List.length_nil] at this
              omega
            have HD2 := Lib.hid hd2
            have b1 : ((at_ : Int) == (b.length : Int)) = false := by simp; omega
            have b2 : ((at_ : Int) != (b.length : Int)) = true := by simp; omega
            have b3 : (at_ == b.length) = false := by simp; omega
            clear hd2 hall x1 x4
            go_wp2_with fail
            go_ret2
            rw [HD2.out]
            exact TextsE.none hmj
end Go.Proofs.Ytnoleekdldmagaa
