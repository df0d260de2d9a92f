/- The document's EncodeDiags, big. -/
import Derived.Test.YtkklofnabmdmfaaGreatDoorDaWQq
namespace Go.Proofs.YtkklofnabmdmfaaGreatDoor
open Go.RowKit
set_option linter.unusedVariables false

theorem digs_itoa (z : Int) : itoaB (max z 0) = digs z := by
  unfold itoaB digs digitsB
  rw [itoa_lib (by omega)]
  rfl
set_option maxHeartbeats 4000000 in
set_option maxRecDepth 100000 in
theorem rencodeD_calls (l : List Dg) (A : Option Addr) (c : Nat) (w : World) (hr : Rd w 4 A l.length (encDs l)) (hl1 : l.length ≤ 100000) (ok : ∀ d ∈ l, OkD d) (hss : ∀ s ∈ diagT l, s.size < 4294967296) (hsz : (encL (diagT l)).length ≤ 70368744177664) :
    Calls Tryz.prog 49 #[.slice A l.length c] w fun e w' => ∃ v, e = .returned v ∧ Own w' 5 1 v (encL (diagT l)).length (encB (encL (diagT l))) ∧ Mod NoneB w w' ∧ ∀ g, v.ownBlock = some g → w.heap.size ≤ g := by
  have hn0 := hr.2.1
  have HS := Lib.hid ok
  have HSS := Lib.hid hss
  have HSZ := Lib.hid hsz
  have HD : Hid (∀ z W, Int64 z → Mod NoneB w W → Calls Tryz.prog 87 #[.int .i64 (max z 0)] W fun e w' => e = .returned (.string (digs z)) ∧ Mod NoneB W w') := Lib.hid fun z W hz hm => by
    have h := rdigitsZ_calls (max z 0) (by unfold Int64 at hz ⊢; omega) W
    rw [digs_itoa] at h
    exact h
  clear hss hsz ok
  go_enter Tryz.func49, Tryz.ntmps49
  go_wp2_with fail
  go_loopw [3, 4] (fun v t wr => ∃ j : Nat, t = .int .i64 j ∧ j ≤ l.length ∧ Own wr 9 1 v (diagT (l.take j)).length (encTs (diagT (l.take j))) ∧ Mod NoneB w wr ∧ (∀ g, v.ownBlock = some g → w.heap.size ≤ g)) (fun _ t _ => l.length - (intOf t).toNat)
  case atStart => exact ⟨0, rfl, by omega, Own.nil _ _ _, Mod.refl _ _, fun g h => by simp [Value.ownBlock] at h⟩
  case round =>
    obtain ⟨j, rfl, hj, hov, hmj, hnv⟩ := hrel
    have HNV := Lib.hid hnv
    clear hnv
    by_cases hlt : j < l.length
    · obtain ⟨ad, rfl, h0, h1, h2, h3⟩ := hr.dg j hlt
      have hadl : ad.block < w.heap.size := hr.block_lt (by decide) (by omega) ad rfl
      have hbl : (ad.add (j * 4)).block = ad.block := by unfold Addr.add; split <;> rfl
      have hmd : Mod NoneB w wr.drew := hmj.drew
      have d0 := hmd.cell0 h0
      have d1 := hmd.cell0 h1
      have d2 := hmd.cell0 h2
      have d3 := hmd.cell0 h3
      have htk : diagT (l.take (j + 1)) = diagT (l.take j) ++ [l[j].m, digs l[j].a, digs l[j].c, l[j].n] := by rw [List.take_succ_eq_append_getElem hlt, diagT_append]; rfl
      have hlk : (diagT (l.take j)).length ≤ 400000 := by rw [diagT_length, List.length_take]; omega
      have hpo := HS.out l[j] (List.getElem_mem _)
      obtain ⟨p, hp⟩ : ∃ p, p = l[j] := ⟨_, rfl⟩
      rw [← hp] at d0 d1 d2 d3 htk hpo
      obtain ⟨ts, hts⟩ : ∃ ts, ts = diagT (l.take j) := ⟨_, rfl⟩
      rw [← hts] at hov htk hlk
      obtain ⟨n, hn⟩ : ∃ n, n = ts.length := ⟨_, rfl⟩
      rw [← hn] at hov hlk
      have HN := Lib.hid hn
      have HTK := Lib.hid htk
      have hus := Tryz.underlying58
      have h16 : (n + 4) * 16 ≤ 140737488355328 := by omega
      have HOX := Lib.hid (hov.mod0 ((Mod.refl NoneB wr).drew))
      have HPA := Lib.hid hpo.1
      have HPC := Lib.hid hpo.2
      have hne : ¬ OnlyBlk u3 ad.block := fun hk => by have := HNV.out _ hk; omega
      have hne0 : ¬ OnlyBlk u3 (ad.add (j * 4)).block := by rw [hbl]; exact hne
      have g1 : (0 : Int) ≤ j := by omega
      have g2 : (j : Int) < l.length := by omega
      clear hp hts hn htk hov hpo h0 h1 h2 h3 hbl
      go_wp2_with fail
      go_region_held3 (fun w' => w'.cell? (ad.add (j * 4)) = some (.string p.m) ∧ w'.cell? ⟨(ad.add (j * 4)).block, (ad.add (j * 4)).off + 1, none⟩ = some (.int .i64 p.a) ∧ w'.cell? ⟨(ad.add (j * 4)).block, (ad.add (j * 4)).off + 2, none⟩ = some (.int .i64 p.c) ∧ w'.cell? ⟨(ad.add (j * 4)).block, (ad.add (j * 4)).off + 3, none⟩ = some (.string p.n)) (first | exact ⟨d0, d1, d2, d3⟩ | exact ⟨y0, y1, y2, y3⟩ | exact ⟨z0, z1, z2, z3⟩ | exact ⟨x0, x1, x2, x3⟩ | go_keep)
        (first
          | (go_at_call 87; (with_reducible refine (HD.out p.a _ HPA.out hmd).mono ?_); rintro ez w3 ⟨rfl, hm3⟩; have y0 := hm3.cell0 d0; have y1 := hm3.cell0 d1; have y2 := hm3.cell0 d2; have y3 := hm3.cell0 d3)
          | (go_at_call 87; (with_reducible refine (HD.out p.c _ HPC.out (hmd.then0 hm3)).mono ?_); rintro ez w4 ⟨rfl, hm4⟩; have z0 := hm4.cell0 y0; have z1 := hm4.cell0 y1; have z2 := hm4.cell0 y2; have z3 := hm4.cell0 y3
             have hal : Mod NoneB w4 (w4.alloc (.cells #[.string p.m, .string (digs p.a), .string (digs p.c), .string p.n] 9)) := (Mod.refl NoneB w4).alloc _
             have hox := ((HOX.out.mod0 hm3).mod0 hm4).mod0 hal
             have hnx : 0 < 4 → ∃ a, (some ⟨w4.heap.size, 0, none⟩ : Option Addr) = some a ∧ ∀ (j : Nat) u, (encTs [p.m, digs p.a, digs p.c, p.n])[j]? = some u → (w4.alloc (.cells #[.string p.m, .string (digs p.a), .string (digs p.c), .string p.n] 9)).cell? (a.add j) = some u := (rdBlk (sz := 1) (n := 4) (heap_alloc_new w4 (.cells #[.string p.m, .string (digs p.a), .string (digs p.c), .string p.n] 9)) rfl (by omega)).2.2)
          | (refine step_app rfl (.tmp 11) (.tmp 36) 58 rfl 9 _ 1 16 hus tiS rfl (by decide) (by decide) _ n (encTs ts) (by simp [Act.eval]) hox (some ⟨w4.heap.size, 0, none⟩) 4 4 (encTs [p.m, digs p.a, digs p.c, p.n]) (by simp [Act.eval]) rfl hnx (encTs_one _) h16 ?_; intro v5 w5 ho5 hm5 hno5
             have x0 := hm5.cell (hal.cell0 z0) hne0
             have x1 := hm5.cell (hal.cell0 z1) hne0
             have x2 := hm5.cell (hal.cell0 z2) hne0
             have x3 := hm5.cell (hal.cell0 z3) hne0))
      all_goals
        have hmr4 := ((hmd.then0 hm3).then0 hm4).then0 hal
        have hm5w : Mod NoneB w w5 := hmr4.trans_new hm5 (fun k hk => .inr (HNV.out k hk))
        have hn5 : ∀ g, v5.ownBlock = some g → w.heap.size ≤ g := by
          intro g hg
          rcases hno5 with hq | ⟨b, hq, hb⟩
          · exact HNV.out g (by rw [← hq]; exact hg)
          · rw [hq] at hg
            injection hg with hg
            have h1 := hmr4.size
            omega
        have ho6 : Own w5 9 1 v5 (diagT (l.take (j + 1))).length (encTs (diagT (l.take (j + 1)))) := by
          rw [HTK.out, List.length_append, encTs_append, ← HN.out]
          exact ho5
        obtain ⟨A5, c5, rfl, _, _, _⟩ := ho5.out
        have HO6 := Lib.hid ho6
        have HN5 := Lib.hid hn5
        clear ho6 hn5 ho5 hox hnx hno5 hmr4 hal hm3 hm4 hm5 hmd y0 y1 y2 y3 z0 z1 z2 z3 x0 x1 x2 x3 d0 d1 d2 d3
        go_wp2_with fail
        go_roundw
        case rel => exact ⟨j + 1, by go_num, by omega, HO6.out, hm5w, HN5.out⟩
        case measure => simp [intOf]; omega
    · have hje : l.take j = l := List.take_of_length_le (by omega)
      rw [hje] at hov
      obtain ⟨A5, c5, rfl, hrt⟩ := hov.nilD0
      have HE := Lib.hid (rencode_calls (diagT l) A5 c5 wr hrt (by rw [diagT_length]; omega) HSS.out HSZ.out)
      have g2 : ¬ (j : Int) < l.length := by omega
      clear hov hje hrt
      go_wp2_with fail
      refine HE.out.mono ?_
      rintro e w6 ⟨v6, rfl, ho6, hm6, hn6⟩
      have hmw := hmj.then0 hm6
      obtain ⟨N, hN⟩ : ∃ N, N = (encL (diagT l)).length := ⟨_, rfl⟩
      have HO6 := Lib.hid ho6
      clear ho6 HE hN
      go_wp2_with fail
      go_ret
      exact ⟨_, rfl, HO6.out, hmw, fun g hg => Nat.le_trans hmj.size (hn6 g hg)⟩

end Go.Proofs.YtkklofnabmdmfaaGreatDoor
