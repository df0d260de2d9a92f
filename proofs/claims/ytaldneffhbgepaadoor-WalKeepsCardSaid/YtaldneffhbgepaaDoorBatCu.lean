/- BatchCuts: of batches one behind the other, cut anywhere, those whose end is there are told, whole, and no others: the walk of the law. -/
import Derived.Test.YtaldneffhbgepaaDoorOpenB
import Derived.Test.YtaldneffhbgepaaDoorBatG
import Derived.Test.YtaldneffhbgepaaDoorBatK
import Derived.Test.YtaldneffhbgepaaDoorRefC
namespace Go.Proofs.YtaldneffhbgepaaDoor
open Go.RowKit
set_option linter.unusedVariables false

/-- Batches' bytes, one behind the other. -/
def catO (ls : List (List Op3)) : List UInt8 := ls.flatMap bytesO
theorem catO_cons (l : List Op3) (ls : List (List Op3)) : catO (l :: ls) = bytesO l ++ catO ls := rfl
theorem catO_append (a b : List (List Op3)) : catO (a ++ b) = catO a ++ catO b := List.flatMap_append
theorem catO_frames (ls : List (List Op3)) : catO ls = framesB (ls.flatMap recsO) := by
  induction ls with
  | nil => rfl
  | cons l ls ih => rw [catO_cons, List.flatMap_cons, framesB_append, ih]; rfl
/-- How many of the batches end within k bytes. -/
def endsO : List (List Op3) → Nat → Nat
  | [], _ => 0
  | l :: ls, k => if (bytesO l).length ≤ k then endsO ls (k - (bytesO l).length) + 1 else 0
theorem endsO_le (ls : List (List Op3)) : ∀ k, endsO ls k ≤ ls.length := by
  induction ls with
  | nil => intro k; exact Nat.le_refl _
  | cons l ls ih =>
    intro k
    unfold endsO
    split
    · have := ih (k - (bytesO l).length); rw [List.length_cons]; omega
    · omega
theorem endsO_iff (ls : List (List Op3)) : ∀ (n k : Nat), n < ls.length → (n < endsO ls k ↔ (catO (ls.take (n + 1))).length ≤ k) := by
  induction ls with
  | nil => intro n k h; simp at h
  | cons l ls ih =>
    intro n k h
    unfold endsO
    rw [List.take_succ_cons, catO_cons, List.length_append]
    cases n with
    | zero =>
      rw [List.take_zero]
      have : (catO []).length = 0 := rfl
      rw [this]
      split <;> omega
    | succ n =>
      have h2 := ih n (k - (bytesO l).length) (by simpa using h)
      split
      · omega
      · omega
theorem endsIn_ge (a R : List (List UInt8)) : ∀ k, goodOf a ≤ k → endsIn (a ++ R) k = a.length + endsIn R (k - goodOf a) := by
  induction a with
  | nil => intro k _; simp [goodOf]
  | cons p a ih =>
    intro k h
    have hg : goodOf (p :: a) = 8 + p.length + goodOf a := by simp [goodOf]
    rw [hg] at h ⊢
    have e : endsIn (p :: a ++ R) k = if 8 + p.length ≤ k then endsIn (a ++ R) (k - (8 + p.length)) + 1 else 0 := rfl
    rw [e, if_pos (by omega), ih _ (by omega), List.length_cons, Nat.sub_sub]
    omega
theorem endsIn_lt (a R : List (List UInt8)) : ∀ k, k < goodOf a → endsIn (a ++ R) k < a.length := by
  induction a with
  | nil => intro k h; simp [goodOf] at h
  | cons p a ih =>
    intro k h
    have hg : goodOf (p :: a) = 8 + p.length + goodOf a := by simp [goodOf]
    rw [hg] at h
    rw [List.cons_append, List.length_cons]
    unfold endsIn
    split
    · have := ih (k - (8 + p.length)) (by omega); omega
    · omega
theorem bytesO_good (l : List Op3) : (bytesO l).length = goodOf (recsO l) := framesB_length _
theorem replay_cut (ls : List (List Op3)) (h : ∀ l ∈ ls, rightO l ∧ SmallO l) : ∀ (k i used : Nat), (replayGo [] i used ((ls.flatMap recsO).take (endsIn (ls.flatMap recsO) k))).1 = ls.take (endsO ls k) := by
  induction ls with
  | nil => intro k i used; simp [endsIn, endsO, replayGo]
  | cons l ls ih =>
    intro k i used
    obtain ⟨hr, hs⟩ := h l (List.mem_cons_self ..)
    rw [List.flatMap_cons]
    unfold endsO
    rw [bytesO_good]
    by_cases hk : goodOf (recsO l) ≤ k
    · rw [if_pos hk, endsIn_ge _ _ _ hk, List.take_length_add_append, replayGo_batch l hr hs, List.take_succ_cons, ih (fun x hx => h x (List.mem_cons_of_mem _ hx))]
    · rw [if_neg hk]
      have hlt := endsIn_lt (recsO l) (ls.flatMap recsO) k (by omega)
      have hrl : (recsO l).length = l.length + 1 := by simp [recsO]
      rw [List.take_append_of_le_length (by omega)]
      generalize endsIn (recsO l ++ ls.flatMap recsO) k = m at *
      have e : (recsO l).take m = (l.take m).map recO ++ [] := by
        unfold recsO
        rw [List.take_append_of_le_length (by rw [List.length_map]; omega), List.append_nil, List.map_take]
      rw [e, replayGo_ops (l.take m) (fun o ho => ⟨hr.2 o (List.mem_of_mem_take ho), hs o (List.mem_of_mem_take ho)⟩)]
      simp [replayGo]
theorem cut_told (ls : List (List Op3)) (h : ∀ l ∈ ls, rightO l ∧ SmallO l) (k : Nat) (hk : k ≤ (catO ls).length) : (replayB (scanB ((catO ls).take k))).1 = ls.take (endsO ls k) := by
  have hp : ∀ p ∈ ls.flatMap recsO, p.length ≤ 1048576 := fun p hp => by
    obtain ⟨l, hl, hp⟩ := List.mem_flatMap.1 hp
    exact recsO_small (h l hl).2 (h l hl).1.1 p hp
  rw [catO_frames] at hk ⊢
  rw [scanB_cut _ hp k hk]
  exact replay_cut ls h k 0 0
theorem cut_len (ls : List (List Op3)) (h : ∀ l ∈ ls, rightO l ∧ SmallO l) (k : Nat) (hk : k ≤ (catO ls).length) : (scanB ((catO ls).take k)).length ≤ ls.length * 1001 := by
  have hp : ∀ p ∈ ls.flatMap recsO, p.length ≤ 1048576 := fun p hp => by
    obtain ⟨l, hl, hp⟩ := List.mem_flatMap.1 hp
    exact recsO_small (h l hl).2 (h l hl).1.1 p hp
  have hl : (ls.flatMap recsO).length ≤ ls.length * 1001 := by
    clear hk hp
    induction ls with
    | nil => simp
    | cons l ls ih =>
      have h1 := ih (fun x hx => h x (List.mem_cons_of_mem _ hx))
      have h2 := (h l (List.mem_cons_self ..)).1.1
      have h3 : (recsO l).length = l.length + 1 := by simp [recsO]
      rw [List.flatMap_cons, List.length_append, List.length_cons, Nat.add_mul]
      omega
  rw [catO_frames] at hk ⊢
  rw [scanB_cut _ hp k hk, List.length_take]
  omega
/-- Where the batches end. -/
def endsL (ls : List (List Op3)) (n : Nat) : List Int := (List.range n).map fun i => ((catO (ls.take (i + 1))).length : Int)
theorem endsL_length (ls : List (List Op3)) (n : Nat) : (endsL ls n).length = n := by simp [endsL]
theorem endsL_succ (ls : List (List Op3)) (n : Nat) : endsL ls (n + 1) = endsL ls n ++ [((catO (ls.take (n + 1))).length : Int)] := by simp [endsL, List.range_succ]
theorem endsL_get (ls : List (List Op3)) (n i : Nat) (h : i < n) : (endsL ls n)[i]? = some ((catO (ls.take (i + 1))).length : Int) := by simp [endsL, h]
theorem catO_le (ls : List (List Op3)) (h : ∀ l ∈ ls, rightO l ∧ SmallO l) : (catO ls).length ≤ ls.length * 1002000000 := by
  induction ls with
  | nil => simp [catO]
  | cons l ls ih =>
    have h1 := bytesO_length (h l (List.mem_cons_self ..)).1 (h l (List.mem_cons_self ..)).2
    have h2 := ih (fun x hx => h x (List.mem_cons_of_mem _ hx))
    rw [catO_cons, List.length_append, List.length_cons, Nat.add_mul]
    omega
theorem batsRd_of {w : World} {A : Option Addr} {l : List OsV} (hr : Rd w 1 A l.length (l.flatMap encOv)) (ho : ∀ x ∈ l, OsOk w x) (n : Nat) (hn : n ≤ l.length) : BatsRd w A n ((l.map (·.l)).take n) ((l.take n).map fun x => Value.slice x.A x.l.length x.c) := by
  have e : l.flatMap encOv = l.map fun x => Value.slice x.A x.l.length x.c := by
    clear hr ho hn
    induction l with
    | nil => rfl
    | cons x l ih => rw [List.flatMap_cons, ih]; rfl
  rw [e] at hr
  refine ⟨⟨by simp; omega, Nat.le_trans hn hr.2.1, fun hp => ?_⟩, by simp, fun i h1 h2 => ?_⟩
  · obtain ⟨ad, ea, hc⟩ := hr.2.2 (by omega)
    refine ⟨ad, ea, fun j u hu => hc j u ?_⟩
    rw [List.map_take, List.getElem?_take] at hu
    split at hu
    · exact hu
    · cases hu
  · have hi : i < l.length := by simp at h1; omega
    refine ⟨l[i].A, l[i].c, by simp, ?_⟩
    have h := ho l[i] (List.getElem_mem hi)
    unfold OsOk at h
    simpa using h

set_option maxHeartbeats 8000000 in
set_option maxRecDepth 100000 in
theorem batchCuts_walk (l0 : List OsV) (z1 : Int) (a0 : Option Addr) (c0 : Nat) (w : World) (rd0 : Rd w 1 a0 l0.length (l0.flatMap encOv)) (ok0 : ∀ x ∈ l0, OsOk w x) (lc0 : l0.length ≤ c0) (wz1 : (Lit.int .u16 z1).wf = true) (htab : TabW w) :
    Calls Tryd.prog 4 #[.slice a0 l0.length c0, .int .u16 z1] w fun e w' => e = .returned (.bool true) ∧ Mod NoneB w w' := by
  have hz1 : 0 ≤ z1 ∧ z1 ≤ 65535 := by simp [Lit.wf] at wz1; exact wz1
  obtain ⟨k1, hk1⟩ : ∃ k : Nat, z1 = k := ⟨z1.toNat, by omega⟩
  subst hk1
  have hk1l : k1 ≤ 65535 := by omega
  clear wz1 hz1
  have hu := Tryd.underlying26
  have hui := Tryd.underlying39
  have HOK := Lib.hid ok0
  obtain ⟨ls, hls⟩ : ∃ ls, ls = l0.map (·.l) := ⟨_, rfl⟩
  have hlen : ls.length = l0.length := by rw [hls]; simp
  have HLS := Lib.hid hls
  have HLN := Lib.hid hlen
  clear ok0 hls hlen
  by_cases hl20 : l0.length ≤ 20
  case neg =>
    have q1 : (20 : Int) < (l0.length : Int) := by omega
    go_enter Tryd.func4, Tryd.ntmps4
    clear hl20
    go_wp2_with ((with_reducible refine (awake5_calls _ htab).mono ?_); rintro e wz ⟨rfl, hmz⟩)
    go_ret
    exact ⟨rfl, hmz⟩
  have q1 : ¬ ((20 : Int) < (l0.length : Int)) := by omega
  go_enter Tryd.func4, Tryd.ntmps4
  go_wp2_with fail
  clear q1
  go_loopw [5, 6, 7, 8, 9] (fun v u i a8 a9 wr => ∃ (j : Nat), i = .int .i64 j ∧ j ≤ l0.length ∧ (∀ l ∈ ls.take j, rightO l ∧ SmallO l) ∧ Own wr 5 1 v (catO (ls.take j)).length (encB (catO (ls.take j))) ∧ Own wr 3 1 u j (encI (endsL ls j)) ∧ Mod NoneB w wr ∧ (∀ g, v.ownBlock = some g → w.heap.size ≤ g) ∧ (∀ g, u.ownBlock = some g → w.heap.size ≤ g)) (fun _ _ i _ _ _ => l0.length - (intOf i).toNat)
  case atStart => exact ⟨0, rfl, by omega, (fun l hl => by simp at hl), by simp [catO]; exact Own.nil _ _ _, by simp [endsL, encI]; exact Own.nil _ _ _, Mod.refl _ _, fun g h => by simp [Value.ownBlock] at h, fun g h => by simp [Value.ownBlock] at h⟩
  case round =>
    obtain ⟨j, rfl, hj, hall, hob, hoe, hmr, hnb, hne⟩ := hrel
    have htj : (ls.take j).length ≤ 20 := by rw [List.length_take]; omega
    have hcl := catO_le _ hall
    have hcl2 : (ls.take j).length * 1002000000 ≤ 20 * 1002000000 := Nat.mul_le_mul_right _ htj
    by_cases hlt : j < l0.length
    · obtain ⟨ad, rfl, h0, _⟩ := Rd.elem (f := encOv) (fun _ => rfl) (rd0.mod0 hmr) (by decide) j hlt
      have y0 := h0 _ rfl
      rw [Nat.mul_one] at y0
      have hjl : j < ls.length := by rw [HLN.out]; exact hlt
      have hlj : ls[j] = l0[j].l := by have := HLS.out; subst this; simp
      have hrd := (HOK.out l0[j] (List.getElem_mem _)).mod0 hmr
      have htk : ls.take (j + 1) = ls.take j ++ [ls[j]] := List.take_succ_eq_append_getElem hjl
      have hes := endsL_succ ls j
      have q2 : (0 : Int) ≤ (j : Int) := by omega
      have q3 : (j : Int) < (l0.length : Int) := by omega
      rw [hlj] at htk
      obtain ⟨x, hx⟩ : ∃ x, x = l0[j] := ⟨_, rfl⟩
      rw [← hx] at y0 hrd htk
      obtain ⟨l, X, xc⟩ := x
      simp only [OsOk] at hrd htk y0
      have HTK := Lib.hid htk
      have HES := Lib.hid hes
      have HALL := Lib.hid hall
      clear hx hlj h0 htk hes hall
      go_wp2_with fail
      refine (greatO_calls l X xc _ hrd).mono ?_
      rintro e w1 ⟨b, rfl, hm1, hb1⟩
      have hm11 := hmr.then0 hm1
      cases b with
      | true =>
        clear hb1
        go_wp2_with ((with_reducible refine (awake5_calls _ (htab.mod0 hm11)).mono ?_); rintro e wz ⟨rfl, hmz⟩)
        go_ret
        exact ⟨rfl, hm11.then0 hmz⟩
      | false =>
        have hs := smallO_of (hb1 rfl)
        have hwl := (wtO_le (hb1 rfl)).1
        clear hb1
        have y1 := hm1.cell0 y0
        go_wp2_with fail
        refine (rrightops_calls l X xc _ (hrd.mod0 hm1)).mono ?_
        rintro e w2 ⟨rfl, hm2⟩
        have hm12 := hm11.then0 hm2
        have hmr2 := hm1.then0 hm2
        by_cases hr : rightO l
        case neg =>
          rw [decide_eq_false hr]
          clear hr
          go_wp2_with ((with_reducible refine (awake5_calls _ (htab.mod0 hm12)).mono ?_); rintro e wz ⟨rfl, hmz⟩)
          go_ret
          exact ⟨rfl, hm12.then0 hmz⟩
        rw [decide_eq_true hr]
        have ho : opsR l = (bytesO l, 0) := if_pos hr
        have hxl := bytesO_length hr hs
        have hca : catO (ls.take (j + 1)) = catO (ls.take j) ++ bytesO l := by
          rw [HTK.out, catO_append]
          congr 1
          simp [catO]
        obtain ⟨x, hx⟩ : ∃ x, x = bytesO l := ⟨_, rfl⟩
        rw [← hx] at ho hxl hca
        have HO := Lib.hid ho
        have HCA := Lib.hid hca
        have HRS := Lib.hid (And.intro hr hs)
        have y2 := hm2.cell0 y1
        have hrd2 := hrd.mod0 hmr2
        clear ho hca hr hs hx y0 y1 hrd
        go_wp2_with fail
        refine (bencode_calls l X xc w2 hrd2 HRS.out.2 (htab.mod0 hm12)).mono ?_
        intro e w3 h3
        rw [HO.out] at h3
        obtain ⟨A3, c3, rfl, hc3, hrx, hm3⟩ := h3.open
        simp only at hc3 hrx
        have hm13 := hm12.then0 hm3
        have hob3 := (hob.mod0 hmr2).mod0 hm3
        have hoe3 := (hoe.mod0 hmr2).mod0 hm3
        obtain ⟨out, hout⟩ : ∃ out, out = catO (ls.take j) := ⟨_, rfl⟩
        rw [← hout] at hob3 HCA hcl
        obtain ⟨Ab, cb, hvb, _⟩ := hob3.nilD0
        have hnx := hrx.2.2
        have hlx : (encB x).length = x.length * 1 := by rw [encB_length, Nat.mul_one]
        have h1b : (out.length + x.length) * 1 ≤ 140737488355328 := by omega
        have hnb3 := hnb
        clear h3 hout hob hoe y2 hrd2
        subst hvb
        go_wp2_with first
          | ((with_reducible refine (num_calls _ _).mono ?_); rintro ez wz ⟨rfl, rfl⟩)
          | (at_builtin; refine wpList_append rfl (.tmp 51) (.tmp 52) 26 rfl 5 _ 1 1 hu tiB rfl (by decide) (by decide) _ out.length (encB out) rfl hob3 A3 x.length c3 (encB x) rfl hlx hnx (encB_one _) h1b ?_)
        intro v4 w4 ho4 hm4 hno4
        have hoe4 := hoe3.mod hm4 (fun g hg hk => by
          obtain ⟨d1, e1⟩ := hoe3.tag0 hg
          obtain ⟨d2, e2⟩ := hob3.tag0 hk
          exact tag_ne0 e1 e2 (by decide) rfl)
        have hm14 : Mod NoneB w w4 := hm13.trans_new hm4 (fun k hk => .inr (hnb3 k hk))
        have hn4 : ∀ g, v4.ownBlock = some g → w.heap.size ≤ g := fun g hg => by
          rcases hno4 with hq | ⟨b, hq, hb⟩
          · exact hnb3 g (by rw [← hq]; exact hg)
          · rw [hq] at hg; injection hg with hg; have := hm13.size; omega
        have hez : encB out ++ encB x = encB (out ++ x) := by simp [encB]
        have hcl4 : (catO (ls.take (j + 1))).length = out.length + x.length := by rw [HCA.out, List.length_append]
        rw [hez] at ho4
        obtain ⟨nb, hnbe⟩ : ∃ n, n = out.length + x.length := ⟨_, rfl⟩
        rw [← hnbe] at ho4 hcl4
        have hnbl : nb ≤ 140737488355328 := by omega
        obtain ⟨A4, c4, rfl, _⟩ := ho4.out
        have HCL := Lib.hid hcl4
        have hal : Mod NoneB w4 (w4.alloc (.cells #[.int .i64 nb] 3)) := (Mod.refl NoneB w4).alloc _
        have hbx := box1 w4 (.cells #[.int .i64 nb] 3)
        have hnx2 : 0 < 1 → ∃ a, (some ⟨w4.heap.size, 0, none⟩ : Option Addr) = some a ∧ ∀ (i : Nat) u, (encI [(nb : Int)])[i]? = some u → (w4.alloc (.cells #[.int .i64 nb] 3)).cell? (a.add i) = some u := (rd_blk (sz := 1) (n := 1) hbx rfl (by decide)).2.2
        have h8 : (j + 1) * 8 ≤ 140737488355328 := by omega
        have ho4a := ho4.mod0 hal
        have hoe4a := hoe4.mod0 hal
        obtain ⟨Ae, ce, hve, _⟩ := hoe4a.nilD0
        have hne4 := hne
        clear hez hcl4 hnbe hbx hob3 hoe3 hm4 hno4 hcl hnx hlx h1b
        subst hve
        go_wp2_with (at_builtin; refine wpList_append rfl (.tmp 54) (.tmp 57) 39 rfl 3 _ 1 8 hui tiI rfl (by decide) (by decide) _ j (encI (endsL ls j)) rfl hoe4a (some ⟨w4.heap.size, 0, none⟩) 1 1 (encI [(nb : Int)]) rfl rfl hnx2 (encI_one _) h8 ?_)
        intro v5 w5 ho5 hm5 hno5
        have hm15 : Mod NoneB w w5 := (hm14.then0 hal).trans_new hm5 (fun k hk => .inr (hne4 k hk))
        have hn5 : ∀ g, v5.ownBlock = some g → w.heap.size ≤ g := fun g hg => by
          rcases hno5 with hq | ⟨b, hq, hb⟩
          · exact hne4 g (by rw [← hq]; exact hg)
          · rw [hq] at hg; injection hg with hg; have := (hm14.then0 hal).size; omega
        have hob5 := ho4a.mod hm5 (fun g hg hk => by
          obtain ⟨d1, e1⟩ := ho4a.tag0 hg
          obtain ⟨d2, e2⟩ := hoe4a.tag0 hk
          exact tag_ne0 e1 e2 (by decide) rfl)
        have hall5 : ∀ l ∈ ls.take (j + 1), rightO l ∧ SmallO l := fun y hy => by
          rw [HTK.out] at hy
          rcases List.mem_append.1 hy with hy | hy
          · exact HALL.out y hy
          · rw [List.mem_singleton] at hy; subst hy; exact HRS.out
        have hob6 : Own w5 5 1 (.slice A4 nb c4) (catO (ls.take (j + 1))).length (encB (catO (ls.take (j + 1)))) := by
          rw [HCL.out, HCA.out]
          exact hob5
        have hoe6 : Own w5 3 1 v5 (j + 1) (encI (endsL ls (j + 1))) := by
          rw [HES.out, HCL.out]
          have e : encI (endsL ls j ++ [(nb : Int)]) = encI (endsL ls j) ++ encI [(nb : Int)] := by simp [encI]
          rw [e]
          exact ho5
        have HR := Lib.hid (And.intro hall5 (And.intro hob6 (And.intro hoe6 (And.intro hm15 (And.intro hn4 hn5)))))
        obtain ⟨A5, c5, rfl, _⟩ := ho5.out
        clear hall5 hob6 hoe6 hm15 hn4 hn5 hob5 ho5 hm5 hno5 ho4 ho4a hoe4 hoe4a hnx2 hal hm14
        go_wp2_with fail
        go_roundw
        case rel => exact ⟨j + 1, by go_num, by omega, HR.out.1, HR.out.2.1, HR.out.2.2.1, HR.out.2.2.2.1, HR.out.2.2.2.2.1, HR.out.2.2.2.2.2⟩
        case measure => simp [intOf]; omega
    · obtain rfl : j = l0.length := by omega
      have htl : ls.take l0.length = ls := List.take_of_length_le (by rw [HLN.out]; exact Nat.le_refl _)
      rw [htl] at hall hob hcl htj
      have hct := cut_told ls hall (k1 % ((catO ls).length + 1)) (by have := Nat.mod_lt k1 (show 0 < (catO ls).length + 1 by omega); omega)
      have hbl : (catO ls).length ≤ 20040000000 := by omega
      have hcn := cut_len ls hall (k1 % ((catO ls).length + 1)) (by have := Nat.mod_lt k1 (show 0 < (catO ls).length + 1 by omega); omega)
      obtain ⟨b, hb⟩ : ∃ b, b = catO ls := ⟨_, rfl⟩
      rw [← hb] at hob hct hbl hcn
      obtain ⟨Ab, cb, rfl, hcb, _, hrb⟩ := hob.out
      obtain ⟨Ae, ce, rfl, hce, _, hre⟩ := hoe.out
      obtain ⟨k, hk⟩ : ∃ k, k = k1 % (b.length + 1) := ⟨_, rfl⟩
      have hkl : k ≤ b.length := by have := Nat.mod_lt k1 (show 0 < b.length + 1 by omega); omega
      rw [← hk] at hct hcn
      have HCN := Lib.hid hcn
      clear hcn
      have HCT := Lib.hid hct
      have HB := Lib.hid hb
      have HK := Lib.hid hk
      clear hct hb hk hall hob hoe hnb hne hcl hcl2 htj htl
      have hkI : ((k1 : Int) % ((b.length : Int) + 1)) = (k : Int) := by rw [HK.out]; push_cast; rfl
      have e1 : (0 : Int) ≤ (k : Int) := by omega
      have e2 : (k : Int) ≤ (cb : Int) := by omega
      have hrk := hrb.takeB hkl
      have htl : (b.take k).length = k := by rw [List.length_take]; omega
      have hsc : Calls Tryd.prog 23 #[.slice Ab k cb] wr (ScanE (b.take k) wr) := by
        have h := rscan_calls (b.take k) Ab cb wr (by rw [htl]; exact hrk) (by rw [htl]; omega) (by rw [htl]; omega)
        rw [htl] at h
        exact h
      have HSC := Lib.hid hsc
      have hkc : k ≤ 20040000000 := by omega
      have hpl : ∀ p ∈ scanB (b.take k), p.length ≤ 140737488355328 := fun p hp => by
        have h1 := scanB_good (b.take k)
        rw [htl] at h1
        have h2 : 8 + p.length ≤ goodOf (scanB (b.take k)) := by
          generalize scanB (b.take k) = ps at hp
          clear HCT HSC h1
          induction ps with
          | nil => cases hp
          | cons q ps ih =>
            have e : goodOf (q :: ps) = 8 + q.length + goodOf ps := by simp [goodOf]
            rw [e]
            rcases List.mem_cons.1 hp with rfl | hp
            · omega
            · have := ih hp; omega
        omega
      have HPL := Lib.hid hpl
      clear hsc hrk htl hpl
      go_wp2_with fail
      rw [hkI]
      clear hkI
      refine HSC.out.mono ?_
      rintro e w2 ⟨v2, vs2, rfl, hla, hm2⟩
      obtain ⟨qs, A2, c2, rfl, hbs, hrq, _, hpo⟩ := hla.parts HPL.out
      have hm12 := hmr.then0 hm2
      have hql : qs.length ≤ 1000000 := by
        have h1 := congrArg List.length hbs
        have h2 := HCN.out
        have h3 := HLN.out
        simp only [bsOf, List.length_map] at h1
        have h4 : ls.length * 1001 ≤ 20 * 1001 := Nat.mul_le_mul_right _ (by omega)
        omega
      clear hla HPL
      go_wp2_with fail
      refine (replay_calls qs A2 c2 w2 hrq hpo hql (htab.mod0 hm12)).mono ?_
      rintro e w3 ⟨v3, vs3, rfl, hba, hm3⟩
      rw [hbs, HCT.out] at hba
      have hm13 := hm12.then0 hm3
      obtain ⟨A3, c3, rfl, hbr⟩ := hba.rd
      have hel := endsO_le ls k
      have hee : (ls.take (endsO ls k)).length = endsO ls k := by rw [List.length_take]; omega
      have hiff := fun n (hn : n < ls.length) => endsO_iff ls n k hn
      have hre3 := (hre.mod0 hm2).mod0 hm3
      have hgt : ∀ n, n < l0.length → ∃ ad, Ae = some ad ∧ wr.cell? (ad.add n) = some (.int .i64 ((catO (ls.take (n + 1))).length : Int)) := fun n hn => by
        obtain ⟨ad, e, hc⟩ := hre.2.2 (by omega)
        refine ⟨ad, e, hc n _ ?_⟩
        unfold encI
        rw [List.getElem?_map, endsL_get ls l0.length n hn]
        rfl
      obtain ⟨m, hm⟩ : ∃ m, m = endsO ls k := ⟨_, rfl⟩
      rw [← hm] at hel hee hiff hbr hba ⊢
      rw [hee] at hbr hba ⊢
      have HM := Lib.hid hm
      have HIF := Lib.hid hiff
      have HGT := Lib.hid hgt
      have hml : m ≤ l0.length := by have := HLN.out; omega
      have hu2 := hba.own.nilD0
      have hm03 : Mod NoneB wr w3 := hm2.then0 hm3
      have hbo := batsRd_of (rd0.mod0 hm13) (fun x hx => (HOK.out x hx).mod0 hm13) m hml
      rw [← HLS.out] at hbo
      have hbc : Calls Tryd.prog 22 #[.slice A3 m c3, .slice a0 m c0] w3 fun e w' => e = .returned (.bool true) ∧ Mod NoneB w3 w' := by
        have h := batches_calls (ls.take m) (ls.take m) A3 a0 c3 c0 vs3 _ w3 (by rw [hee]; exact hbr) (by rw [hee]; exact hbo)
        rw [hee, decide_eq_true rfl] at h
        exact h
      have HBC := Lib.hid hbc
      clear hba hm hee hiff hgt hrq hpo hbs hql hre hre3 hel hu2 hbo hbc hbr
      go_wp2_with fail
      go_loopw [15] (fun i wx => ∃ n : Nat, i = .int .i64 n ∧ n ≤ m ∧ wx = w3) (fun i _ => m - (intOf i).toNat)
      case atStart => exact ⟨0, rfl, by omega, rfl⟩
      case round =>
        obtain ⟨n, rfl, hn, rfl⟩ := hrel
        by_cases hnl : n < l0.length
        · obtain ⟨ad, rfl, y0⟩ := HGT.out n hnl
          replace y0 := hm03.cell0 y0
          have hif := HIF.out n (by rw [HLN.out]; exact hnl)
          obtain ⟨x, hx⟩ : ∃ x, x = (catO (ls.take (n + 1))).length := ⟨_, rfl⟩
          rw [← hx] at y0 hif
          have q0 : (0 : Int) ≤ (n : Int) := by omega
          have q2 : (n : Int) < (l0.length : Int) := by omega
          clear hx
          by_cases hlt : n < m
          · have q3 : (x : Int) ≤ (k : Int) := by have := hif.1 hlt; omega
            clear hif
            go_wp2_with fail
            go_roundw
            case rel => exact ⟨n + 1, by go_num, by omega, by trivial⟩
            case measure => simp [intOf]; omega
          · obtain rfl : n = m := by omega
            have q3 : ¬ ((x : Int) ≤ (k : Int)) := fun h => hlt (hif.2 (by omega))
            have q4 : (n : Int) ≤ (c0 : Int) := by omega
            clear hif hlt
            go_wp2_with fail
            refine HBC.out.mono ?_
            rintro e w4 ⟨rfl, hm4⟩
            have hm14 := hm13.then0 hm4
            go_wp2_with ((with_reducible refine (awake5_calls _ (htab.mod0 hm14)).mono ?_); rintro e wz ⟨rfl, hmz⟩)
            go_ret
            exact ⟨rfl, hm14.then0 hmz⟩
        · obtain rfl : n = m := by omega
          obtain rfl : n = l0.length := by omega
          have q4 : (l0.length : Int) ≤ (c0 : Int) := by omega
          go_wp2_with fail
          refine HBC.out.mono ?_
          rintro e w4 ⟨rfl, hm4⟩
          have hm14 := hm13.then0 hm4
          go_wp2_with ((with_reducible refine (awake5_calls _ (htab.mod0 hm14)).mono ?_); rintro e wz ⟨rfl, hmz⟩)
          go_ret
          exact ⟨rfl, hm14.then0 hmz⟩
end Go.Proofs.YtaldneffhbgepaaDoor

