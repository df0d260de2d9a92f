/- The document's Replay (by program: gen/refreplay.py). -/
import Derived.Test.YtnlmfmceogbomaaGreatDoorBatAQq
import Derived.Test.YtnlmfmceogbomaaGreatDoorRefCQq
namespace Go.Proofs.YtnlmfmceogbomaaGreatDoor
open Go.RowKit
set_option linter.unusedVariables false

set_option maxHeartbeats 16000000 in
set_option maxRecDepth 100000 in
theorem rreplay_calls (ps : List Part) (A : Option Addr) (c : Nat) (w : World) (hr : Rd w 1 A ps.length (ps.flatMap encPart)) (hp : ∀ p ∈ ps, PartOk w p) (hn : ps.length ≤ 1000000) :
    Calls Tryz.prog 97 #[.slice A ps.length c] w (ReplE (replayB (bsOf ps)) w) := by
  have hlen : (bsOf ps).length = ps.length := by simp [bsOf]
  have HLEN := Lib.hid hlen
  have HP := Lib.hid hp
  have huo := Tryz.underlying39
  have huos := Tryz.underlying22
  clear hlen hp
  go_enter Tryz.func97, Tryz.ntmps97
  go_wp2_with fail
  go_loopw [4, 5, 6, 7, 8, 9, 10] (fun vl vo us i a8 a9 a10 wr => ∃ (j used : Nat) (done : List (List Op3)) (vs : List Value) (now : List Op3), i = .int .i64 j ∧ us = .int .i64 used ∧ j ≤ ps.length ∧ now.length ≤ j ∧ done.length ≤ j ∧ used ≤ j ∧ BatsAt wr vl w.heap.size done vs ∧ Own wr 49 3 vo now.length (encOs now) ∧ (∀ g, vo.ownBlock = some g → w.heap.size ≤ g ∧ ∀ u ∈ vs, u.ownBlock ≠ some g) ∧ Mod NoneB w wr ∧
      replayB (bsOf ps) = (done ++ (replayGo now j used ((bsOf ps).drop j)).1, (replayGo now j used ((bsOf ps).drop j)).2)) (fun _ _ _ i _ _ _ _ => ps.length - (intOf i).toNat)
  case atStart => exact ⟨0, 0, [], [], [], rfl, rfl, by omega, by simp, by simp, by omega, BatsAt.nil _ _, Own.nil _ _ _, fun g h => by simp [Value.ownBlock] at h, Mod.refl _ _, by simp [replayB]⟩
  case round =>
    obtain ⟨j, used, done, vs, now, rfl, rfl, hj, hnl, hdl, hul, hba, hon, hnb, hm, hrp⟩ := hrel
    by_cases hlt : j < ps.length
    · obtain ⟨ad, rfl, h0, _⟩ := Rd.elem (f := encPart) (fun _ => rfl) hr (by decide) j hlt
      have c0 := hm.cell0 (h0 _ rfl)
      rw [Nat.mul_one] at c0
      have q8 : (0 : Int) ≤ (j : Int) := by omega
      have q9 : (j : Int) < (ps.length : Int) := by omega
      have hpk := HP.out ps[j] (List.getElem_mem _)
      have hdr : (bsOf ps).drop j = ps[j].b :: (bsOf ps).drop (j + 1) := by
        have h1 : j < (bsOf ps).length := by rw [HLEN.out]; exact hlt
        rw [drop_cons _ _ h1]
        congr 1
        simp [bsOf]
      obtain ⟨p, hpp⟩ : ∃ p, p = ps[j] := ⟨_, rfl⟩
      rw [← hpp] at c0 hpk hdr
      rw [hdr] at hrp
      obtain ⟨pA, pb, pc⟩ := p
      obtain ⟨hrd, hcap, htop⟩ := hpk
      simp only at hrd hcap htop hrp c0
      replace hrd := hrd.mod0 hm
      clear h0 hpp hdr
      have HBA := Lib.hid hba
      have HON := Lib.hid hon
      have HNB := Lib.hid hnb
      have HRP := Lib.hid hrp
      clear hba hon hnb hrp
      cases pb with
      | nil =>
        have hbad := replayGo_bad now j used [] ((bsOf ps).drop (j + 1)) rfl
        have HBAD := Lib.hid hbad
        clear hbad
        go_wp2_with fail
        go_ret2
        rw [HRP.out, HBAD.out, List.append_nil]
        exact ⟨_, vs, rfl, HBA.out, hm⟩
      | cons k r =>
        obtain ⟨adp, rfl, hce⟩ := hrd.2.2 (by simp)
        have c1 := hce 0 (.int .u8 k.toNat) rfl
        rw [add_nil0] at c1
        obtain ⟨A', hs1, hs2, hrt⟩ := tail_at hrd hcap
        have hdec := rdecode_calls r A' (pc - 1) wr hrt (by simp at htop; omega) (by simp at hcap; omega)
        have HDEC := Lib.hid hdec
        have hkb := kindB_cons now.length k r
        have HKB := Lib.hid hkb
        have g1 : (1 : Int) ≤ ((k :: r).length : Int) := Int.ofNat_le.2 (by simp : 1 ≤ (k :: r).length)
        have g2 : ((((k :: r).length : Nat) : Int) == 0) = false := beq_eq_false_iff_ne.mpr (by simp; omega)
        have g0 : 0 < (k :: r).length := Nat.succ_pos _
        have g3 : (0 : Int) < ((k :: r).length : Int) := by omega
        obtain ⟨nb, hnbb⟩ : ∃ nb, nb = (k :: r).length := ⟨_, rfl⟩
        rw [← hnbb] at c0 g1 g2 g3 hs1 hs2
        clear hrd hce hdec hkb hrt hcap htop hnbb
        go_wp2_with fail
        refine HDEC.out.mono ?_
        rintro e w2 ⟨vt, rfl, hot, hmt, hnt⟩
        have c2 := hmt.cell0 c1
        have c3 := hmt.cell0 c0
        have hm2 := hm.then0 hmt
        clear c0 c1 hs1 hs2 HDEC
        cases hdl : decL r with
        | none =>
          rw [hdl] at HKB
          have hbad := replayGo_bad now j used (k :: r) ((bsOf ps).drop (j + 1)) HKB.out
          have HBAD := Lib.hid hbad
          have HMT := Lib.hid hmt
          clear hbad hdl hot hnt
          simp only [errT, Option.isSome_none, Bool.false_eq_true, if_false]
          go_wp2_with fail
          go_ret2
          rw [HRP.out, HBAD.out, List.append_nil]
          exact ⟨_, vs, rfl, HBA.out.mod0 HMT.out, hm2⟩
        | some ts =>
          rw [hdl] at HKB hot
          simp only [Option.getD_some] at hot
          clear hdl
          simp only [errT, Option.isSome_some, if_true]
          have HKN := Lib.hid hnt
          obtain ⟨Vt, ct, hvt, _⟩ := hot.nilD0
          by_cases h112 : k = 112
          · have z0 : (((k.toNat : Nat) : Int)) = 112 := by rw [h112]; rfl
            rw [z0] at c2
            by_cases hl2 : ts.length = 2
            · obtain ⟨a, b, rfl⟩ : ∃ a b, ts = [a, b] := by
                match ts, hl2 with
                | [a, b], _ => exact ⟨a, b, rfl⟩
              obtain ⟨gt, ctt, hvg⟩ := hot.addrOf (by simp)
              have hvg2 : vt = .slice (some ⟨gt, 0, none⟩) 2 ctt := hvg
              subst hvg2
              have y0 : w2.cell? ⟨gt, 0, none⟩ = some (.string a) := Own.cellAt (n := 2) hot 0 _ rfl
              have y1 : w2.cell? ⟨gt, 1, none⟩ = some (.string b) := Own.cellAt (n := 2) hot 1 _ rfl
              have hop := replayGo_op now j used (k :: r) ((bsOf ps).drop (j + 1)) (o := ⟨false, a, b⟩) (HKB.out.trans (show kindT now.length k (some [a, b]) = _ from if_pos h112))
              have HOP := Lib.hid hop
              have hal : Mod NoneB w2 (w2.alloc (.cells #[.bool false, .string a, .string b] 49)).drew := ((Mod.refl NoneB w2).alloc _).drew
              have hbx := box1 w2 (.cells #[.bool false, .string a, .string b] 49)
              have hbx2 : (w2.alloc (.cells #[.bool false, .string a, .string b] 49)).drew.heap[w2.heap.size]? = some (.cells #[.bool false, .string a, .string b] 49) := hbx
              have hnx : 0 < 1 → ∃ x, (some ⟨w2.heap.size, 0, none⟩ : Option Addr) = some x ∧ ∀ (i : Nat) u, (encO ⟨false, a, b⟩)[i]? = some u → (w2.alloc (.cells #[.bool false, .string a, .string b] 49)).drew.cell? (x.add i) = some u := (rd_blk (sz := 3) (n := 1) hbx2 rfl (by decide)).2.2
              have hox := (HON.out.mod0 hmt).mod0 hal
              obtain ⟨Ao, co, hvo, _, _, _⟩ := hox.out
              have h40 : (now.length + 1) * 40 ≤ 140737488355328 := by omega
              have HBA2 := Lib.hid ((HBA.out.mod0 hmt).mod0 hal)
              have HM2 := Lib.hid (hm2.then0 hal)
              have hgt : ∀ g, (Value.slice (some ⟨gt, 0, none⟩) 2 ctt).ownBlock = some g → ¬ OnlyBlk (.slice Ao now.length co) g := fun g hg hk => by
                obtain ⟨d1, e1⟩ := (hot.mod0 hal).tag0 hg
                rw [hvo] at hox
                obtain ⟨d2, e2⟩ := hox.tag0 hk
                exact tag_ne0 e1 e2 (by decide) rfl
              have HGT := Lib.hid (hgt gt rfl)
              have u0 : (w2.alloc (.cells #[.bool false, .string a, .string b] 49)).drew.cell? ⟨gt, 0, none⟩ = some (.string a) := hal.cell0 y0
              have u1 : (w2.alloc (.cells #[.bool false, .string a, .string b] 49)).drew.cell? ⟨gt, 1, none⟩ = some (.string b) := hal.cell0 y1
              subst hvo
              clear hbx hbx2 hal hop hnt hmt hot hvt hgt
              go_wp2_with fail
              go_region_held3 (fun w' => w'.cell? ⟨gt, 0, none⟩ = some (.string a) ∧ w'.cell? ⟨gt, 1, none⟩ = some (.string b)) (first | go_keep | exact ⟨y05, y15⟩ | exact ⟨u0, u1⟩)
                ((refine step_app rfl (.tmp 47) (.tmp 55) 39 rfl 49 _ 3 40 huo tiOp rfl (by decide) (by decide) _ now.length (encOs now) (by simp [Act.eval]) hox (some ⟨w2.heap.size, 0, none⟩) 1 1 (encO ⟨false, a, b⟩) (by simp [Act.eval]) rfl hnx (encO_one _) h40 ?_; intro v5 w5 ho5 hm5 hno5; have y05 := hm5.cell u0 HGT.out; have y15 := hm5.cell u1 HGT.out))
              all_goals
                have hk := replay_keep HBA2.out hox HNB.out ho5 hm5 hno5 HM2.out.size
                have hm5w : Mod NoneB w w5 := HM2.out.trans_new hm5 (fun k hk => .inr (HNB.out k hk).1)
                have HK := Lib.hid (And.intro hk hm5w)
                obtain ⟨A5, c5, rfl, _⟩ := ho5.out
                clear hk hm5w ho5 hm5 hno5 hox hnx h40 u0 u1 y05 y15 y0 y1
                go_wp2_with fail
                go_roundw
                case rel => exact ⟨j + 1, used, done, vs, now ++ [⟨false, a, b⟩], by go_num, rfl, by omega, by simp; omega, by omega, by omega, HK.out.1.1, HK.out.1.2.1, HK.out.1.2.2, HK.out.2, by rw [HRP.out, HOP.out]⟩
                case measure => simp [intOf]; omega
            · have b2 : (((ts.length : Nat) : Int) == 2) = false := beq_eq_false_iff_ne.mpr (by omega)
              subst hvt
              have hbad := replayGo_bad now j used (k :: r) ((bsOf ps).drop (j + 1)) (HKB.out.trans (kindT_bad (ts := ts) (fun h => hl2 h.2) (fun h => by rw [h112] at h; exact absurd h.1 (by decide)) (fun h => by rw [h112] at h; exact absurd h.1 (by decide))))
              have HBAD := Lib.hid hbad
              have HMT := Lib.hid hmt
              clear hbad hot hnt hmt
              go_wp2_with fail
              go_quiet (fail)
              go_wp2_with fail
              go_ret2
              rw [HRP.out, HBAD.out, List.append_nil]
              exact ⟨_, vs, rfl, (HBA.out.mod0 HMT.out).mod0 ((Mod.refl NoneB w2).drewN nq), hm2.drewN nq⟩
          by_cases h100 : k = 100
          · have z0 : (((k.toNat : Nat) : Int)) = 100 := by rw [h100]; rfl
            rw [z0] at c2
            by_cases hl1 : ts.length = 1
            · obtain ⟨a, rfl⟩ : ∃ a, ts = [a] := by
                match ts, hl1 with
                | [a], _ => exact ⟨a, rfl⟩
              obtain ⟨gt, ctt, hvg⟩ := hot.addrOf (by simp)
              have hvg2 : vt = .slice (some ⟨gt, 0, none⟩) 1 ctt := hvg
              subst hvg2
              have y0 : w2.cell? ⟨gt, 0, none⟩ = some (.string a) := Own.cellAt (n := 1) hot 0 _ rfl
              have hop := replayGo_op now j used (k :: r) ((bsOf ps).drop (j + 1)) (o := ⟨true, a, ⟨#[]⟩⟩) (HKB.out.trans (show kindT now.length k (some [a]) = _ from if_pos h100))
              have HOP := Lib.hid hop
              have hal : Mod NoneB w2 (w2.alloc (.cells #[.bool true, .string a, .string ⟨#[]⟩] 49)) := (Mod.refl NoneB w2).alloc _
              have hbx := box1 w2 (.cells #[.bool true, .string a, .string ⟨#[]⟩] 49)
              have hnx : 0 < 1 → ∃ x, (some ⟨w2.heap.size, 0, none⟩ : Option Addr) = some x ∧ ∀ (i : Nat) u, (encO ⟨true, a, ⟨#[]⟩⟩)[i]? = some u → (w2.alloc (.cells #[.bool true, .string a, .string ⟨#[]⟩] 49)).cell? (x.add i) = some u := (rd_blk (sz := 3) (n := 1) hbx rfl (by decide)).2.2
              have hox := (HON.out.mod0 hmt).mod0 hal
              obtain ⟨Ao, co, hvo, _, _, _⟩ := hox.out
              have h40 : (now.length + 1) * 40 ≤ 140737488355328 := by omega
              have HBA2 := Lib.hid ((HBA.out.mod0 hmt).mod0 hal)
              have HM2 := Lib.hid (hm2.then0 hal)
              subst hvo
              clear hbx hal hop hnt hmt hot hvt
              go_wp2_with (at_builtin; refine wpList_append rfl (.tmp 64) (.tmp 69) 39 rfl 49 _ 3 40 huo tiOp rfl (by decide) (by decide) _ now.length (encOs now) rfl hox (some ⟨w2.heap.size, 0, none⟩) 1 1 (encO ⟨true, a, ⟨#[]⟩⟩) rfl rfl hnx (encO_one _) h40 ?_)
              intro v5 w5 ho5 hm5 hno5
              have hk := replay_keep HBA2.out hox HNB.out ho5 hm5 hno5 HM2.out.size
              have hm5w : Mod NoneB w w5 := HM2.out.trans_new hm5 (fun k hk => .inr (HNB.out k hk).1)
              have HK := Lib.hid (And.intro hk hm5w)
              obtain ⟨A5, c5, rfl, _⟩ := ho5.out
              clear hk hm5w ho5 hm5 hno5 hox hnx h40
              go_wp2_with fail
              go_roundw
              case rel => exact ⟨j + 1, used, done, vs, now ++ [⟨true, a, ⟨#[]⟩⟩], by go_num, rfl, by omega, by simp; omega, by omega, by omega, HK.out.1.1, HK.out.1.2.1, HK.out.1.2.2, HK.out.2, by rw [HRP.out, HOP.out]⟩
              case measure => simp [intOf]; omega
            · have b2 : (((ts.length : Nat) : Int) == 1) = false := beq_eq_false_iff_ne.mpr (by omega)
              subst hvt
              have hbad := replayGo_bad now j used (k :: r) ((bsOf ps).drop (j + 1)) (HKB.out.trans (kindT_bad (ts := ts) (fun h => h112 h.1) (fun h => hl1 h.2) (fun h => by rw [h100] at h; exact absurd h.1 (by decide))))
              have HBAD := Lib.hid hbad
              have HMT := Lib.hid hmt
              clear hbad hot hnt hmt
              go_wp2_with fail
              go_quiet (fail)
              go_wp2_with fail
              go_ret2
              rw [HRP.out, HBAD.out, List.append_nil]
              exact ⟨_, vs, rfl, (HBA.out.mod0 HMT.out).mod0 ((Mod.refl NoneB w2).drewN nq), hm2.drewN nq⟩
          by_cases h99 : k = 99
          · have z0 : (((k.toNat : Nat) : Int)) = 99 := by rw [h99]; rfl
            rw [z0] at c2
            by_cases hl1 : ts.length = 1
            · obtain ⟨a, rfl⟩ : ∃ a, ts = [a] := by
                match ts, hl1 with
                | [a], _ => exact ⟨a, rfl⟩
              obtain ⟨gt, ctt, hvg⟩ := hot.addrOf (by simp)
              have hvg2 : vt = .slice (some ⟨gt, 0, none⟩) 1 ctt := hvg
              subst hvg2
              have y0 : w2.cell? ⟨gt, 0, none⟩ = some (.string a) := Own.cellAt (n := 1) hot 0 _ rfl
              have hdr : Mod NoneB w2 w2.drew := (Mod.refl NoneB w2).drew
              have hit := rdigits_calls now.length w2.drew (by omega)
              have HIT := Lib.hid hit
              have HMT := Lib.hid hmt
              obtain ⟨Ao, co, hvo, _, _, _⟩ := HON.out.out
              have y0d : w2.drew.cell? ⟨gt, 0, none⟩ = some (.string a) := y0
              by_cases ha : a = digitsB now.length
              · have bq : (a.toList == (digitsB now.length).toList) = true := by rw [beq_toList]; exact decide_eq_true ha
                have hfin := replayGo_fin now j used (k :: r) ((bsOf ps).drop (j + 1)) (HKB.out.trans (show kindT now.length k (some [a]) = _ by
                  show (if k = 100 then _ else if k = 99 ∧ a = digitsB now.length then _ else _) = _
                  rw [if_neg h100, if_pos ⟨h99, ha⟩]))
                have HFIN := Lib.hid hfin
                obtain ⟨dg, hdg⟩ : ∃ dg, dg = digitsB now.length := ⟨_, rfl⟩
                rw [← hdg] at HIT bq
                have HVO := Lib.hid hvo
                have HM2 := Lib.hid hm2
                have huN : w.heap.size ≤ w2.heap.size := hm2.size
                subst hvo
                clear hfin hit hmt hot hvt hdg ha hnt
                go_wp2_with fail
                go_region_held3 (fun w' => w'.cell? ⟨gt, 0, none⟩ = some (.string a)) (first | go_keep | exact y05)
                  ((go_at_call 140; (with_reducible refine HIT.out.mono ?_); rintro ez w5 ⟨rfl, hm5⟩; have y05 := hm5.cell0 y0d))
                all_goals
                  have hm25 : Mod NoneB w2 w5 := hdr.then0 hm5
                  have hba5 := (HBA.out.mod0 HMT.out).mod0 hm25
                  have hon5 := (HON.out.mod0 HMT.out).mod0 hm25
                  have hal : Mod NoneB w5 (w5.alloc (.cells #[.slice Ao now.length co] 39)) := (Mod.refl NoneB w5).alloc _
                  have hbx := box1 w5 (.cells #[.slice Ao now.length co] 39)
                  have hnx : 0 < 1 → ∃ x, (some ⟨w5.heap.size, 0, none⟩ : Option Addr) = some x ∧ ∀ (i : Nat) u, ([Value.slice Ao now.length co])[i]? = some u → (w5.alloc (.cells #[.slice Ao now.length co] 39)).cell? (x.add i) = some u := (rd_blk (sz := 1) (n := 1) hbx rfl (by decide)).2.2
                  have hba6 := hba5.mod0 hal
                  have hon6 := hon5.mod0 hal
                  have hm6 : Mod NoneB w (w5.alloc (.cells #[.slice Ao now.length co] 39)) := (HM2.out.then0 hm25).then0 hal
                  have h24 : (done.length + 1) * 24 ≤ 140737488355328 := by omega
                  obtain ⟨Al, cl, hvl, _, _, _⟩ := hba6.own.out
                  have HBA6 := Lib.hid hba6
                  have HON6 := Lib.hid hon6
                  have hown := hba6.own
                  subst hvl
                  clear hba5 hon5 hba6 hon6 hbx hal hm25 hm5 y05 y0 y0d hdr HIT hm2
                  go_wp2_with (at_builtin; refine wpList_append rfl (.tmp 87) (.tmp 89) 22 rfl 39 _ 1 24 huos tiOps rfl (by decide) (by decide) _ done.length vs rfl hown (some ⟨w5.heap.size, 0, none⟩) 1 1 [.slice Ao now.length co] rfl rfl hnx (fun u hu => by rw [List.mem_singleton] at hu; subst hu; rfl) h24 ?_)
                  intro v7 w7 ho7 hm7 hno7
                  have hsn := HBA6.out.snoc hm7 hno7 hm6.size ho7 HON6.out rfl (fun g hg => (HNB.out g hg).1)
                  have hm7w : Mod NoneB w w7 := hm6.trans_new hm7 (fun k hk => .inr (HBA6.out.new k hk))
                  have HSN := Lib.hid (And.intro hsn hm7w)
                  obtain ⟨A7, c7, rfl, _⟩ := ho7.out
                  clear hsn hm7w ho7 hm7 hno7 hown hnx h24 hm6
                  go_wp2_with fail
                  go_roundw
                  case rel => exact ⟨j + 1, j + 1, done ++ [now], vs ++ [.slice Ao now.length co], [], by go_num, by go_num, by omega, by simp, by simp; omega, by omega, HSN.out.1, Own.nil _ _ _, fun g h => by simp [Value.ownBlock] at h, HSN.out.2, by rw [HRP.out, HFIN.out]; simp⟩
                  case measure => simp [intOf]; omega
              · have bq : (a.toList == (digitsB now.length).toList) = false := by rw [beq_toList]; exact decide_eq_false ha
                have hbad := replayGo_bad now j used (k :: r) ((bsOf ps).drop (j + 1)) (HKB.out.trans (kindT_bad (ts := [a]) (fun h => h112 h.1) (fun h => h100 h.1) (fun h => by obtain ⟨_, a', ha', hd'⟩ := h; injection ha' with ha'; exact ha (ha'.trans hd'))))
                have HBAD := Lib.hid hbad
                obtain ⟨dg, hdg⟩ : ∃ dg, dg = digitsB now.length := ⟨_, rfl⟩
                rw [← hdg] at HIT bq
                subst hvo
                clear hbad hit hmt hot hvt hdg ha hnt
                go_wp2_with fail
                go_region_held3 (fun w' => w'.cell? ⟨gt, 0, none⟩ = some (.string a)) (first | go_keep | exact y05)
                  ((go_at_call 140; (with_reducible refine HIT.out.mono ?_); rintro ez w5 ⟨rfl, hm5⟩; have y05 := hm5.cell0 y0d))
                all_goals
                  go_wp2_with fail
                  go_ret2
                  rw [HRP.out, HBAD.out, List.append_nil]
                  exact ⟨_, vs, rfl, (HBA.out.mod0 HMT.out).mod0 (hdr.then0 hm5), (hm2.then0 hdr).then0 hm5⟩
            · have b2 : (((ts.length : Nat) : Int) == 1) = false := beq_eq_false_iff_ne.mpr (by omega)
              subst hvt
              have hbad := replayGo_bad now j used (k :: r) ((bsOf ps).drop (j + 1)) (HKB.out.trans (kindT_bad (ts := ts) (fun h => h112 h.1) (fun h => h100 h.1) (fun h => by obtain ⟨_, a, ha, _⟩ := h; exact hl1 (by rw [ha]; rfl))))
              have HBAD := Lib.hid hbad
              have HMT := Lib.hid hmt
              clear hbad hot hnt hmt
              go_wp2_with fail
              go_quiet (fail)
              go_wp2_with fail
              go_ret2
              rw [HRP.out, HBAD.out, List.append_nil]
              exact ⟨_, vs, rfl, (HBA.out.mod0 HMT.out).mod0 ((Mod.refl NoneB w2).drewN nq), hm2.drewN nq⟩
          have q1 : (((k.toNat : Nat) : Int) == 112) = false := u8_ne (n := 112) (by decide) h112
          have q2 : (((k.toNat : Nat) : Int) == 100) = false := u8_ne (n := 100) (by decide) h100
          have q3 : (((k.toNat : Nat) : Int) == 99) = false := u8_ne (n := 99) (by decide) h99
          subst hvt
          have hbad := replayGo_bad now j used (k :: r) ((bsOf ps).drop (j + 1)) (HKB.out.trans (kindT_bad (ts := ts) (fun h => h112 h.1) (fun h => h100 h.1) (fun h => h99 h.1)))
          have HBAD := Lib.hid hbad
          have HMT := Lib.hid hmt
          clear hbad hot hnt hmt
          go_wp2_with fail
          go_quiet (fail)
          go_wp2_with fail
          go_ret2
          rw [HRP.out, HBAD.out, List.append_nil]
          exact ⟨_, vs, rfl, (HBA.out.mod0 HMT.out).mod0 ((Mod.refl NoneB w2).drewN nq), hm2.drewN nq⟩
    · obtain rfl : j = ps.length := by omega
      have hend : (bsOf ps).drop ps.length = [] := List.drop_eq_nil_of_le (by rw [HLEN.out]; exact Nat.le_refl _)
      rw [hend] at hrp
      have HRP := Lib.hid hrp
      clear hend hrp hon hnb
      go_wp2_with fail
      go_ret2
      rw [HRP.out]
      exact ⟨_, vs, rfl, by simpa [replayGo] using hba, hm⟩
end Go.Proofs.YtnlmfmceogbomaaGreatDoor

/- The document's Ops. -/
namespace Go.Proofs.YtnlmfmceogbomaaGreatDoor
open Go.RowKit
set_option linter.unusedVariables false

/-- No record is too long. -/
def LongO (l : List Op3) : Prop := ∀ p ∈ recsO l, p.length ≤ 1048576
instance (l : List Op3) : Decidable (LongO l) := by unfold LongO; exact inferInstance
/-- A batch's bytes by the document, whatever its texts' length, or why there are none. -/
def opsX (l : List Op3) : List UInt8 × Nat := if rightO l then (if LongO l then (bytesO l, 0) else ([], 9)) else ([], 1)
theorem opsX_small {l : List Op3} (hs : SmallO l) : opsX l = opsR l := by
  unfold opsX opsR
  by_cases h : rightO l
  · rw [if_pos h, if_pos h, if_pos (show LongO l from recsO_small hs h.1)]
  · rw [if_neg h, if_neg h]
def outX (l : List Op3) (j : Nat) : List UInt8 := framesB ((recsO l).take j)
theorem recsO_length (l : List Op3) : (recsO l).length = l.length + 1 := by simp [recsO]
theorem recsO_at (l : List Op3) (j : Nat) (h : j < l.length) : (recsO l)[j]'(by rw [recsO_length]; omega) = recO l[j] := by
  unfold recsO
  rw [List.getElem_append_left (by simpa using h)]
  simp
theorem recsO_end (l : List Op3) : (recsO l)[l.length]'(by rw [recsO_length]; omega) = recE l.length := by
  unfold recsO
  rw [List.getElem_append_right (by simp)]
  simp
theorem outX_zero (l : List Op3) : outX l 0 = [] := by simp [outX, framesB]
theorem outX_succ (l : List Op3) (j : Nat) (h : j < (recsO l).length) : outX l (j + 1) = outX l j ++ frameB (recsO l)[j] := by
  unfold outX
  rw [List.take_succ_eq_append_getElem h, framesB_append]
  simp [framesB]
theorem outX_all (l : List Op3) : outX l (l.length + 1) = bytesO l := by
  unfold outX bytesO
  rw [List.take_of_length_le (by rw [recsO_length]; omega)]
theorem outX_le {l : List Op3} : ∀ j, j ≤ l.length + 1 → (∀ p ∈ (recsO l).take j, p.length ≤ 1048576) → (outX l j).length ≤ j * 1048584 := by
  intro j
  induction j with
  | zero => intro _ _; rw [outX_zero]; simp
  | succ j ih =>
    intro h hp
    have hj : j < (recsO l).length := by rw [recsO_length]; omega
    rw [List.take_succ_eq_append_getElem hj] at hp
    have h1 := ih (by omega) (fun p h => hp p (List.mem_append_left _ h))
    have h2 := hp (recsO l)[j] (List.mem_append_right _ (List.mem_singleton.2 rfl))
    rw [outX_succ l j hj, List.length_append, frameB_length, Nat.add_mul]
    omega
theorem longO_end {l : List Op3} (hp : ∀ p ∈ (recsO l).take (l.length + 1), p.length ≤ 1048576) : LongO l := by
  rwa [List.take_of_length_le (by rw [recsO_length]; omega)] at hp
theorem longO_not {l : List Op3} {j : Nat} (h : j < (recsO l).length) (hp : 1048576 < ((recsO l)[j]).length) : ¬ LongO l := fun hl => by
  have := hl _ (List.getElem_mem h)
  omega

set_option maxHeartbeats 8000000 in
set_option maxRecDepth 100000 in
theorem rops_calls (l : List Op3) (A : Option Addr) (c : Nat) (w : World) (hr : Rd w 3 A l.length (encOs l)) (hs : ∀ o ∈ l, o.k.size + o.v.size ≤ 2147483648) :
    Calls Tryz.prog 105 #[.slice A l.length c] w (BytesE (opsX l) w) := by
  have hn := hr.2.1
  have hri := rrightops_calls l A c w hr
  have HRI := Lib.hid hri
  clear hri
  have hu := Tryz.underlying24
  by_cases hR : rightO l
  · rw [decide_eq_true hR] at HRI
    have HRR := Lib.hid hR
    have HS := Lib.hid hs
    have hl1 := hR.1
    clear hR hs
    go_enter Tryz.func105, Tryz.ntmps105
    go_wp2_with fail
    refine HRI.out.mono ?_
    rintro e w1 ⟨rfl, hm1⟩
    go_wp2_with fail
    go_loopw [4, 5, 6, 7, 8, 9] (fun v i a6 a7 a8 a9 wr => ∃ (j : Nat), i = .int .i64 j ∧ j ≤ l.length + 1 ∧ Own wr 5 1 v (outX l j).length (encB (outX l j)) ∧ (∀ p ∈ (recsO l).take j, p.length ≤ 1048576) ∧ Mod NoneB w wr ∧ (∀ g, v.ownBlock = some g → w.heap.size ≤ g)) (fun _ i _ _ _ _ _ => l.length + 1 - (intOf i).toNat)
    case atStart => exact ⟨0, rfl, by omega, by rw [outX_zero]; exact Own.nil _ _ _, (fun p hp => by simp at hp), hm1, fun g h => by simp [Value.ownBlock] at h⟩
    case round =>
      obtain ⟨j, rfl, hj, hor, hsm, hmr, hnr⟩ := hrel
      have hole := outX_le j hj hsm
      have hj1 : j * 1048584 ≤ 1001 * 1048584 := Nat.mul_le_mul_right _ (by omega)
      by_cases hlt : j < l.length + 1
      · have hjr : j < (recsO l).length := by rw [recsO_length]; exact hlt
        have hsu := outX_succ l j hjr
        have q1 : (j : Int) ≤ (l.length : Int) := by omega
        have hdg := rdigits_calls l.length (wr.alloc (.cells #[.int .u8 99] 5)) (by omega)
        have HDG := Lib.hid hdg
        have hdz := digitsB_size_le (n := l.length) (by omega)
        have hre : recE l.length = 99 :: encL [digitsB l.length] := rfl
        obtain ⟨s, hss⟩ : ∃ s, s = digitsB l.length := ⟨_, rfl⟩
        rw [← hss] at HDG hdz hre
        have HRE := Lib.hid hre
        clear hdg hss hre
        go_wp2_with fail
        refine HDG.out.mono ?_
        rintro e w2 ⟨rfl, hm2⟩
        have HSM := Lib.hid hsm
        have HJR := Lib.hid hjr
        have HNR := Lib.hid hnr
        have hbx0 := box1 wr (.cells #[.int .u8 99] 5)
        have hwr2 : Mod NoneB wr w2 := ((Mod.refl NoneB wr).alloc _).then0 hm2
        have hw2 := hmr.then0 hwr2
        have hor2 := hor.mod0 hwr2
        have hszw := hmr.size
        have hszr := hwr2.size
        have hltr : ∀ g, u4.ownBlock = some g → g < wr.heap.size := fun g hg => hor.lt hg
        have HLT := Lib.hid hltr
        clear hsm hnr hltr
        by_cases hjl : j < l.length
        · have hat := recsO_at l j hjl
          have hmA : Mod NoneB w ((w2.alloc (.cells #[.string s] 9)).alloc (.cells #[.int .u8 112] 5)) := (hw2.alloc _).alloc _
          obtain ⟨ad, rfl, h0, h1, h2⟩ := (hr.mod0 hmA).op j hjl
          have hso := HS.out l[j] (List.getElem_mem _)
          obtain ⟨o, hoo⟩ : ∃ o, o = l[j] := ⟨_, rfl⟩
          rw [← hoo] at h0 h1 h2 hat hso
          rw [hat] at hsu
          have q2 : (0 : Int) ≤ (j : Int) := by omega
          have q3 : (j : Int) < (l.length : Int) := by omega
          have HAT := Lib.hid hat
          have HSU := Lib.hid hsu
          obtain ⟨bx1, bx2, bx3⟩ := box3 w2 (.cells #[.string s] 9) (.cells #[.int .u8 112] 5) (.cells #[.string o.k, .string o.v] 9)
          clear hoo hat hsu bx1 hbx0
          go_wp2_with fail
          go_region_held3 (fun w' => w'.cell? { block := (ad.add (j * 3)).block, off := (ad.add (j * 3)).off + 1 } = some (.string o.k) ∧ w'.cell? { block := (ad.add (j * 3)).block, off := (ad.add (j * 3)).off + 2 } = some (.string o.v)) (first | go_keep | exact ⟨h1, h2⟩) (fail)
          all_goals
            have hmB : Mod NoneB ((w2.alloc (.cells #[.string s] 9)).alloc (.cells #[.int .u8 112] 5)) (((w2.alloc (.cells #[.string s] 9)).alloc (.cells #[.int .u8 112] 5)).alloc (.cells #[.string o.k, .string o.v] 9)).drew := ((Mod.refl NoneB _).alloc _).drew
            have hm2A : Mod NoneB w2 ((w2.alloc (.cells #[.string s] 9)).alloc (.cells #[.int .u8 112] 5)) := ((Mod.refl NoneB w2).alloc _).alloc _
            have cx2 : (((w2.alloc (.cells #[.string s] 9)).alloc (.cells #[.int .u8 112] 5)).alloc (.cells #[.string o.k, .string o.v] 9)).drew.heap[w2.heap.size + 1]? = some (.cells #[.int .u8 112] 5) := bx2
            have cx3 : (((w2.alloc (.cells #[.string s] 9)).alloc (.cells #[.int .u8 112] 5)).alloc (.cells #[.string o.k, .string o.v] 9)).drew.heap[w2.heap.size + 1 + 1]? = some (.cells #[.string o.k, .string o.v] 9) := bx3
            replace h0 := hmB.cell0 h0
            replace h1 := hmB.cell0 h1
            have hmB2 := hm2A.then0 hmB
            have horB := hor2.mod0 hmB2
            have hmBw := hw2.then0 hmB2
            clear bx2 bx3 hmB hm2A hmA hor2
            obtain ⟨wB, hwB⟩ : ∃ x, x = (((w2.alloc (.cells #[.string s] 9)).alloc (.cells #[.int .u8 112] 5)).alloc (.cells #[.string o.k, .string o.v] 9)).drew := ⟨_, rfl⟩
            rw [← hwB] at h0 h1 cx2 cx3 horB hmBw hmB2 ⊢
            clear hwB
            cases hd : o.del with
            | true =>
              have hre : recO o = 100 :: encL [o.k] := by unfold recO; rw [if_pos hd]
              rw [hd] at h0
              rw [hre] at HSU HAT
              have HLO := HAT
              have hel := encL_one o.k
              have HEL : Hid ((encL [o.k]).length ≤ 3147483648) := Lib.hid (by rw [hel]; omega)
              have HSZ : Hid (∀ t ∈ [o.k], t.size < 4294967296) := Lib.hid (fun t ht => by rw [List.mem_singleton] at ht; subst ht; omega)
              obtain ⟨ey0, ey1⟩ := box2 wB (.cells #[.int .u8 100] 5) (.cells #[.string o.k] 9)
              have hal : Mod NoneB wB ((wB.alloc (.cells #[.int .u8 100] 5)).alloc (.cells #[.string o.k] 9)) := ((Mod.refl NoneB wB).alloc _).alloc _
              have h1C : (wB.alloc (.cells #[.int .u8 100] 5)).cell? { block := (ad.add (j * 3)).block, off := (ad.add (j * 3)).off + 1 } = some (.string o.k) := ((Mod.refl NoneB wB).alloc _).cell0 h1
              have hopE : Own ((wB.alloc (.cells #[.int .u8 100] 5)).alloc (.cells #[.string o.k] 9)) 5 1 (.slice (some ⟨wB.heap.size, 0, none⟩) 1 1) 1 (encB [100]) := Own.of_blk (cap := 1) ey0 (by omega) (by omega) rfl rfl
              have htsE : Rd ((wB.alloc (.cells #[.int .u8 100] 5)).alloc (.cells #[.string o.k] 9)) 1 (some ⟨wB.heap.size + 1, 0, none⟩) 1 (encTs [o.k]) := rd_blk ey1 rfl (by omega)
              have horE := horB.mod0 hal
              have hmE := hmBw.then0 hal
              have HGP : Hid (w.heap.size ≤ wB.heap.size) := Lib.hid hmBw.size
              have HGN : Hid (∀ g, u4.ownBlock = some g → g ≠ wB.heap.size) := Lib.hid (fun g hg => by have := HLT.out g hg; have := hmB2.size; omega)
              clear hd hre hel ey0 ey1 hal horB hmBw hmB2 h1 cx2 cx3 hm2 hwr2 hw2 hor hmr HDG hso
              have hen := rencode_calls [o.k] _ 1 _ htsE (by simp) HSZ.out (by have := HEL.out; omega)
              have HEN := Lib.hid hen
              clear hen htsE
              go_wp2_with fail
              refine HEN.out.mono ?_
              rintro e w5 ⟨v5, rfl, ho5, hm5, hn5⟩
              obtain ⟨b, hb⟩ : ∃ b, b = encL [o.k] := ⟨_, rfl⟩
              rw [← hb] at ho5 HSU HEL HLO
              obtain ⟨B, bc, rfl, hrb⟩ := ho5.nilD0
              have hop5 := hopE.mod0 hm5
              have hor5 := horE.mod0 hm5
              have hm55 := hmE.then0 hm5
              have hnx := hrb.2.2
              have hbl := HEL.out
              have hlen : (encB b).length = b.length * 1 := by rw [encB_length, Nat.mul_one]
              have h1 : (1 + b.length) * 1 ≤ 140737488355328 := by omega
              have hgN : w.heap.size ≤ wB.heap.size := HGP.out
              clear hopE horE hmE hb HEN
              go_wp2_with (at_builtin; refine wpList_append rfl (.tmp 52) (.tmp 54) 24 rfl 5 _ 1 1 hu tiB rfl (by decide) (by decide) _ 1 (encB [100]) rfl hop5 B b.length bc (encB b) rfl hlen hnx (encB_one _) h1 ?_)
              intro v6 w6 ho6 hm6 hno6
              obtain ⟨A6, c6, rfl, _, _, hr6⟩ := ho6.out
              have he6 : encB [100] ++ encB b = encB (100 :: b) := by simp [encB]
              have hr6' : Rd w6 1 A6 (100 :: b).length (encB (100 :: b)) := by
                rw [← he6, List.length_cons, Nat.add_comm]
                exact hr6
              have hm66 : Mod NoneB w w6 := hm55.trans_new hm6 (fun g hg => .inr (by
                have e := Option.some.inj (show some wB.heap.size = some g from hg)
                omega))
              have hor6 := hor5.mod hm6 (fun g hg hk => HGN.out g hg (Option.some.inj (show some wB.heap.size = some g from hk)).symm)
              have hfc : Calls Tryz.prog 141 #[.slice A6 (1 + b.length) c6] w6 (BytesE (frameR (100 :: b)) w6) := by
                have h := rframe_calls (100 :: b) A6 c6 w6 hr6'
                rw [List.length_cons, Nat.add_comm] at h
                exact h
              by_cases hlong : (100 :: b).length ≤ 1048576
              · rw [frameR_ok hlong] at hfc
                have HFC := Lib.hid hfc
                have hfl : (frameB (100 :: b)).length ≤ 1048584 := by rw [frameB_length]; omega
                obtain ⟨f, hf⟩ : ∃ f, f = frameB (100 :: b) := ⟨_, rfl⟩
                rw [← hf] at hfl HSU HFC
                have HLO2 : Hid (∀ p ∈ (recsO l).take (j + 1), p.length ≤ 1048576) := Lib.hid (by
                  rw [List.take_succ_eq_append_getElem HJR.out]
                  intro p hp
                  rcases List.mem_append.1 hp with hp | hp
                  · exact HSM.out p hp
                  · rw [List.mem_singleton] at hp; rw [hp, HLO.out]; exact hlong)
                clear hf hfc hr6 hr6' he6 ho6 hno6 hop5 hor5 hrb hnx hlen h1 hm6 hm55 hm5 hn5 ho5 hlong
                go_wp2_with fail
                refine HFC.out.mono ?_
                rintro e w7 ⟨v7, rfl, ho7, hm7, hn7⟩
                obtain ⟨F, fc, rfl, hrf⟩ := ho7.nilD0
                have hor7 := hor6.mod0 hm7
                have hm77 := hm66.then0 hm7
                obtain ⟨Ao, co, hvo, _⟩ := hor7.nilD0
                have hnf := hrf.2.2
                have hlf : (encB f).length = f.length * 1 := by rw [encB_length, Nat.mul_one]
                obtain ⟨out, hout⟩ : ∃ out, out = outX l j := ⟨_, rfl⟩
                rw [← hout] at hor7 hole HSU hvo
                have h2 : (out.length + f.length) * 1 ≤ 140737488355328 := by omega
                clear hout hor6 hm66 hm7 hrf HFC ho7
                subst hvo
                go_wp2_with (at_builtin; refine wpList_append rfl (.tmp 64) (.tmp 65) 24 rfl 5 _ 1 1 hu tiB rfl (by decide) (by decide) _ out.length (encB out) rfl hor7 F f.length fc (encB f) rfl hlf hnf (encB_one _) h2 ?_)
                intro v8 w8 ho8 hm8 hno8
                have hn8 : ∀ g, v8.ownBlock = some g → w.heap.size ≤ g := fun g hg => by
                  rcases hno8 with h | ⟨b, h, hb⟩
                  · exact HNR.out g (by rw [← h]; exact hg)
                  · rw [h] at hg; injection hg with hg; have := hm77.size; omega
                have hm8w : Mod NoneB w w8 := hm77.trans_new hm8 (fun k hk => .inr (HNR.out k hk))
                have ho8' : Own w8 5 1 v8 (outX l (j + 1)).length (encB (outX l (j + 1))) := by
                  rw [HSU.out, List.length_append]
                  have e : encB (out ++ f) = encB out ++ encB f := by simp [encB]
                  rw [e]
                  exact ho8
                have HR8 := Lib.hid (And.intro ho8' (And.intro hm8w hn8))
                obtain ⟨A8, c8, rfl, _⟩ := ho8.out
                clear ho8 ho8' hm8 hm8w hn8 hno8 hor7 hnf hlf h2 HNR
                go_wp2_with fail
                go_roundw
                case rel => exact ⟨j + 1, by go_num, by omega, HR8.out.1, HLO2.out, HR8.out.2.1, HR8.out.2.2⟩
                case measure => simp [intOf] <;> omega
              · rw [frameR_bad (by omega)] at hfc
                have HFC := Lib.hid hfc
                have ho : opsX l = ([], 9) := by
                  unfold opsX
                  rw [if_pos HRR.out, if_neg (longO_not HJR.out (by rw [HLO.out]; omega))]
                have HO := Lib.hid ho
                clear ho hfc hr6 hr6' he6 ho6 hno6 hop5 hor5 hor6 hrb hnx hlen h1 hm6 hm55 hm5 hn5 ho5 hlong
                go_wp2_with fail
                refine HFC.out.mono ?_
                rintro e w7 ⟨v7, rfl, ho7, hm7, hn7⟩
                clear ho7 hn7
                go_wp2_with fail
                go_ret2
                rw [HO.out]
                exact ⟨_, rfl, Own.nil _ _ _, hm66.then0 hm7, fun g h => by simp [Value.ownBlock] at h⟩
            | false =>
              have hre : recO o = 112 :: encL [o.k, o.v] := by unfold recO; rw [if_neg (by rw [hd]; decide)]
              rw [hd] at h0
              rw [hre] at HSU HAT
              have HLO := HAT
              have hel := encL_two o.k o.v
              have HEL : Hid ((encL [o.k, o.v]).length ≤ 3147483648) := Lib.hid (by rw [hel]; omega)
              have HSZ : Hid (∀ t ∈ [o.k, o.v], t.size < 4294967296) := Lib.hid (fun t ht => by simp at ht; rcases ht with rfl | rfl <;> omega)
              have hopE : Own wB 5 1 (.slice (some ⟨w2.heap.size + 1, 0, none⟩) 1 1) 1 (encB [112]) := Own.of_blk (cap := 1) cx2 (by omega) (by omega) rfl rfl
              have htsE : Rd wB 1 (some ⟨w2.heap.size + 1 + 1, 0, none⟩) 2 (encTs [o.k, o.v]) := rd_blk cx3 rfl (by omega)
              have horE := horB
              have hmE := hmBw
              have HGP : Hid (w.heap.size ≤ w2.heap.size + 1) := Lib.hid (by omega)
              have HGN : Hid (∀ g, u4.ownBlock = some g → g ≠ w2.heap.size + 1) := Lib.hid (fun g hg => by have := HLT.out g hg; omega)
              clear hd hre hel horB hmBw hmB2 h1 cx2 cx3 hm2 hwr2 hw2 hor hmr HDG hso
              have hen := rencode_calls [o.k, o.v] _ 2 _ htsE (by simp) HSZ.out (by have := HEL.out; omega)
              have HEN := Lib.hid hen
              clear hen htsE
              go_wp2_with fail
              refine HEN.out.mono ?_
              rintro e w5 ⟨v5, rfl, ho5, hm5, hn5⟩
              obtain ⟨b, hb⟩ : ∃ b, b = encL [o.k, o.v] := ⟨_, rfl⟩
              rw [← hb] at ho5 HSU HEL HLO
              obtain ⟨B, bc, rfl, hrb⟩ := ho5.nilD0
              have hop5 := hopE.mod0 hm5
              have hor5 := horE.mod0 hm5
              have hm55 := hmE.then0 hm5
              have hnx := hrb.2.2
              have hbl := HEL.out
              have hlen : (encB b).length = b.length * 1 := by rw [encB_length, Nat.mul_one]
              have h1 : (1 + b.length) * 1 ≤ 140737488355328 := by omega
              have hgN : w.heap.size ≤ (w2.heap.size + 1) := HGP.out
              clear hopE horE hmE hb HEN
              go_wp2_with (at_builtin; refine wpList_append rfl (.tmp 52) (.tmp 54) 24 rfl 5 _ 1 1 hu tiB rfl (by decide) (by decide) _ 1 (encB [112]) rfl hop5 B b.length bc (encB b) rfl hlen hnx (encB_one _) h1 ?_)
              intro v6 w6 ho6 hm6 hno6
              obtain ⟨A6, c6, rfl, _, _, hr6⟩ := ho6.out
              have he6 : encB [112] ++ encB b = encB (112 :: b) := by simp [encB]
              have hr6' : Rd w6 1 A6 (112 :: b).length (encB (112 :: b)) := by
                rw [← he6, List.length_cons, Nat.add_comm]
                exact hr6
              have hm66 : Mod NoneB w w6 := hm55.trans_new hm6 (fun g hg => .inr (by
                have e := Option.some.inj (show some (w2.heap.size + 1) = some g from hg)
                omega))
              have hor6 := hor5.mod hm6 (fun g hg hk => HGN.out g hg (Option.some.inj (show some (w2.heap.size + 1) = some g from hk)).symm)
              have hfc : Calls Tryz.prog 141 #[.slice A6 (1 + b.length) c6] w6 (BytesE (frameR (112 :: b)) w6) := by
                have h := rframe_calls (112 :: b) A6 c6 w6 hr6'
                rw [List.length_cons, Nat.add_comm] at h
                exact h
              by_cases hlong : (112 :: b).length ≤ 1048576
              · rw [frameR_ok hlong] at hfc
                have HFC := Lib.hid hfc
                have hfl : (frameB (112 :: b)).length ≤ 1048584 := by rw [frameB_length]; omega
                obtain ⟨f, hf⟩ : ∃ f, f = frameB (112 :: b) := ⟨_, rfl⟩
                rw [← hf] at hfl HSU HFC
                have HLO2 : Hid (∀ p ∈ (recsO l).take (j + 1), p.length ≤ 1048576) := Lib.hid (by
                  rw [List.take_succ_eq_append_getElem HJR.out]
                  intro p hp
                  rcases List.mem_append.1 hp with hp | hp
                  · exact HSM.out p hp
                  · rw [List.mem_singleton] at hp; rw [hp, HLO.out]; exact hlong)
                clear hf hfc hr6 hr6' he6 ho6 hno6 hop5 hor5 hrb hnx hlen h1 hm6 hm55 hm5 hn5 ho5 hlong
                go_wp2_with fail
                refine HFC.out.mono ?_
                rintro e w7 ⟨v7, rfl, ho7, hm7, hn7⟩
                obtain ⟨F, fc, rfl, hrf⟩ := ho7.nilD0
                have hor7 := hor6.mod0 hm7
                have hm77 := hm66.then0 hm7
                obtain ⟨Ao, co, hvo, _⟩ := hor7.nilD0
                have hnf := hrf.2.2
                have hlf : (encB f).length = f.length * 1 := by rw [encB_length, Nat.mul_one]
                obtain ⟨out, hout⟩ : ∃ out, out = outX l j := ⟨_, rfl⟩
                rw [← hout] at hor7 hole HSU hvo
                have h2 : (out.length + f.length) * 1 ≤ 140737488355328 := by omega
                clear hout hor6 hm66 hm7 hrf HFC ho7
                subst hvo
                go_wp2_with (at_builtin; refine wpList_append rfl (.tmp 64) (.tmp 65) 24 rfl 5 _ 1 1 hu tiB rfl (by decide) (by decide) _ out.length (encB out) rfl hor7 F f.length fc (encB f) rfl hlf hnf (encB_one _) h2 ?_)
                intro v8 w8 ho8 hm8 hno8
                have hn8 : ∀ g, v8.ownBlock = some g → w.heap.size ≤ g := fun g hg => by
                  rcases hno8 with h | ⟨b, h, hb⟩
                  · exact HNR.out g (by rw [← h]; exact hg)
                  · rw [h] at hg; injection hg with hg; have := hm77.size; omega
                have hm8w : Mod NoneB w w8 := hm77.trans_new hm8 (fun k hk => .inr (HNR.out k hk))
                have ho8' : Own w8 5 1 v8 (outX l (j + 1)).length (encB (outX l (j + 1))) := by
                  rw [HSU.out, List.length_append]
                  have e : encB (out ++ f) = encB out ++ encB f := by simp [encB]
                  rw [e]
                  exact ho8
                have HR8 := Lib.hid (And.intro ho8' (And.intro hm8w hn8))
                obtain ⟨A8, c8, rfl, _⟩ := ho8.out
                clear ho8 ho8' hm8 hm8w hn8 hno8 hor7 hnf hlf h2 HNR
                go_wp2_with fail
                go_roundw
                case rel => exact ⟨j + 1, by go_num, by omega, HR8.out.1, HLO2.out, HR8.out.2.1, HR8.out.2.2⟩
                case measure => simp [intOf] <;> omega
              · rw [frameR_bad (by omega)] at hfc
                have HFC := Lib.hid hfc
                have ho : opsX l = ([], 9) := by
                  unfold opsX
                  rw [if_pos HRR.out, if_neg (longO_not HJR.out (by rw [HLO.out]; omega))]
                have HO := Lib.hid ho
                clear ho hfc hr6 hr6' he6 ho6 hno6 hop5 hor5 hor6 hrb hnx hlen h1 hm6 hm55 hm5 hn5 ho5 hlong
                go_wp2_with fail
                refine HFC.out.mono ?_
                rintro e w7 ⟨v7, rfl, ho7, hm7, hn7⟩
                clear ho7 hn7
                go_wp2_with fail
                go_ret2
                rw [HO.out]
                exact ⟨_, rfl, Own.nil _ _ _, hm66.then0 hm7, fun g h => by simp [Value.ownBlock] at h⟩
        · obtain rfl : j = l.length := by omega
          have HAT : Hid ((recsO l)[l.length]'(HJR.out) = 99 :: encL [s]) := Lib.hid ((recsO_end l).trans HRE.out)
          rw [HAT.out] at hsu
          have HSU := Lib.hid hsu
          have HLO := HAT
          have hel := encL_one s
          have HEL : Hid ((encL [s]).length ≤ 3147483648) := Lib.hid (by rw [hel]; omega)
          have HSZ : Hid (∀ t ∈ [s], t.size < 4294967296) := Lib.hid (fun t ht => by rw [List.mem_singleton] at ht; subst ht; omega)
          have hal : Mod NoneB w2 (w2.alloc (.cells #[.string s] 9)) := (Mod.refl NoneB w2).alloc _
          have hbx2 := hal.blk (hm2.blk hbx0 (fun h => h)) (fun h => h)
          have hbx3 := box1 w2 (.cells #[.string s] 9)
          have hopE : Own (w2.alloc (.cells #[.string s] 9)) 5 1 (.slice (some ⟨wr.heap.size, 0, none⟩) 1 1) 1 (encB [99]) := Own.of_blk (cap := 1) hbx2 (by omega) (by omega) rfl rfl
          have htsE : Rd (w2.alloc (.cells #[.string s] 9)) 1 (some ⟨w2.heap.size, 0, none⟩) 1 (encTs [s]) := rd_blk hbx3 rfl (by omega)
          have horE := hor2.mod0 hal
          have hmE := hw2.then0 hal
          have HGP : Hid (w.heap.size ≤ wr.heap.size) := Lib.hid hszw
          have HGN : Hid (∀ g, u4.ownBlock = some g → g ≠ wr.heap.size) := Lib.hid (fun g hg => by have := HLT.out g hg; omega)
          clear hsu hel hal hbx2 hbx3 hbx0 hor2 hm2 hwr2 hw2 hor hmr HDG
          have hen := rencode_calls [s] _ 1 _ htsE (by simp) HSZ.out (by have := HEL.out; omega)
          have HEN := Lib.hid hen
          clear hen htsE
          go_wp2_with fail
          refine HEN.out.mono ?_
          rintro e w5 ⟨v5, rfl, ho5, hm5, hn5⟩
          obtain ⟨b, hb⟩ : ∃ b, b = encL [s] := ⟨_, rfl⟩
          rw [← hb] at ho5 HSU HEL HLO
          obtain ⟨B, bc, rfl, hrb⟩ := ho5.nilD0
          have hop5 := hopE.mod0 hm5
          have hor5 := horE.mod0 hm5
          have hm55 := hmE.then0 hm5
          have hnx := hrb.2.2
          have hbl := HEL.out
          have hlen : (encB b).length = b.length * 1 := by rw [encB_length, Nat.mul_one]
          have h1 : (1 + b.length) * 1 ≤ 140737488355328 := by omega
          have hgN : w.heap.size ≤ wr.heap.size := HGP.out
          clear hopE horE hmE hb HEN
          go_wp2_with (at_builtin; refine wpList_append rfl (.tmp 52) (.tmp 54) 24 rfl 5 _ 1 1 hu tiB rfl (by decide) (by decide) _ 1 (encB [99]) rfl hop5 B b.length bc (encB b) rfl hlen hnx (encB_one _) h1 ?_)
          intro v6 w6 ho6 hm6 hno6
          obtain ⟨A6, c6, rfl, _, _, hr6⟩ := ho6.out
          have he6 : encB [99] ++ encB b = encB (99 :: b) := by simp [encB]
          have hr6' : Rd w6 1 A6 (99 :: b).length (encB (99 :: b)) := by
            rw [← he6, List.length_cons, Nat.add_comm]
            exact hr6
          have hm66 : Mod NoneB w w6 := hm55.trans_new hm6 (fun g hg => .inr (by
            have e := Option.some.inj (show some wr.heap.size = some g from hg)
            omega))
          have hor6 := hor5.mod hm6 (fun g hg hk => HGN.out g hg (Option.some.inj (show some wr.heap.size = some g from hk)).symm)
          have hfc : Calls Tryz.prog 141 #[.slice A6 (1 + b.length) c6] w6 (BytesE (frameR (99 :: b)) w6) := by
            have h := rframe_calls (99 :: b) A6 c6 w6 hr6'
            rw [List.length_cons, Nat.add_comm] at h
            exact h
          by_cases hlong : (99 :: b).length ≤ 1048576
          · rw [frameR_ok hlong] at hfc
            have HFC := Lib.hid hfc
            have hfl : (frameB (99 :: b)).length ≤ 1048584 := by rw [frameB_length]; omega
            obtain ⟨f, hf⟩ : ∃ f, f = frameB (99 :: b) := ⟨_, rfl⟩
            rw [← hf] at hfl HSU HFC
            have HLO2 : Hid (∀ p ∈ (recsO l).take (l.length + 1), p.length ≤ 1048576) := Lib.hid (by
              rw [List.take_succ_eq_append_getElem HJR.out]
              intro p hp
              rcases List.mem_append.1 hp with hp | hp
              · exact HSM.out p hp
              · rw [List.mem_singleton] at hp; rw [hp, HLO.out]; exact hlong)
            clear hf hfc hr6 hr6' he6 ho6 hno6 hop5 hor5 hrb hnx hlen h1 hm6 hm55 hm5 hn5 ho5 hlong
            go_wp2_with fail
            refine HFC.out.mono ?_
            rintro e w7 ⟨v7, rfl, ho7, hm7, hn7⟩
            obtain ⟨F, fc, rfl, hrf⟩ := ho7.nilD0
            have hor7 := hor6.mod0 hm7
            have hm77 := hm66.then0 hm7
            obtain ⟨Ao, co, hvo, _⟩ := hor7.nilD0
            have hnf := hrf.2.2
            have hlf : (encB f).length = f.length * 1 := by rw [encB_length, Nat.mul_one]
            obtain ⟨out, hout⟩ : ∃ out, out = outX l l.length := ⟨_, rfl⟩
            rw [← hout] at hor7 hole HSU hvo
            have h2 : (out.length + f.length) * 1 ≤ 140737488355328 := by omega
            clear hout hor6 hm66 hm7 hrf HFC ho7
            subst hvo
            go_wp2_with (at_builtin; refine wpList_append rfl (.tmp 64) (.tmp 65) 24 rfl 5 _ 1 1 hu tiB rfl (by decide) (by decide) _ out.length (encB out) rfl hor7 F f.length fc (encB f) rfl hlf hnf (encB_one _) h2 ?_)
            intro v8 w8 ho8 hm8 hno8
            have hn8 : ∀ g, v8.ownBlock = some g → w.heap.size ≤ g := fun g hg => by
              rcases hno8 with h | ⟨b, h, hb⟩
              · exact HNR.out g (by rw [← h]; exact hg)
              · rw [h] at hg; injection hg with hg; have := hm77.size; omega
            have hm8w : Mod NoneB w w8 := hm77.trans_new hm8 (fun k hk => .inr (HNR.out k hk))
            have ho8' : Own w8 5 1 v8 (outX l (l.length + 1)).length (encB (outX l (l.length + 1))) := by
              rw [HSU.out, List.length_append]
              have e : encB (out ++ f) = encB out ++ encB f := by simp [encB]
              rw [e]
              exact ho8
            have HR8 := Lib.hid (And.intro ho8' (And.intro hm8w hn8))
            obtain ⟨A8, c8, rfl, _⟩ := ho8.out
            clear ho8 ho8' hm8 hm8w hn8 hno8 hor7 hnf hlf h2 HNR
            go_wp2_with fail
            go_roundw
            case rel => exact ⟨l.length + 1, by go_num, by omega, HR8.out.1, HLO2.out, HR8.out.2.1, HR8.out.2.2⟩
            case measure => simp [intOf] <;> omega
          · rw [frameR_bad (by omega)] at hfc
            have HFC := Lib.hid hfc
            have ho : opsX l = ([], 9) := by
              unfold opsX
              rw [if_pos HRR.out, if_neg (longO_not HJR.out (by rw [HLO.out]; omega))]
            have HO := Lib.hid ho
            clear ho hfc hr6 hr6' he6 ho6 hno6 hop5 hor5 hor6 hrb hnx hlen h1 hm6 hm55 hm5 hn5 ho5 hlong
            go_wp2_with fail
            refine HFC.out.mono ?_
            rintro e w7 ⟨v7, rfl, ho7, hm7, hn7⟩
            clear ho7 hn7
            go_wp2_with fail
            go_ret2
            rw [HO.out]
            exact ⟨_, rfl, Own.nil _ _ _, hm66.then0 hm7, fun g h => by simp [Value.ownBlock] at h⟩
      · obtain rfl : j = l.length + 1 := by omega
        have ho : opsX l = (bytesO l, 0) := by
          unfold opsX
          rw [if_pos HRR.out, if_pos (longO_end hsm)]
        have q1 : ¬ ((l.length : Int) + 1 ≤ (l.length : Int)) := by omega
        have hall := outX_all l
        have HO := Lib.hid ho
        have HALL := Lib.hid hall
        clear ho hall hsm
        go_wp2_with fail
        go_ret2
        rw [HO.out]
        exact ⟨_, rfl, by rw [← HALL.out]; exact hor, hmr, hnr⟩
  · rw [decide_eq_false hR] at HRI
    have ho : opsX l = ([], 1) := if_neg hR
    have HO := Lib.hid ho
    clear ho hR hs
    go_enter Tryz.func105, Tryz.ntmps105
    go_wp2_with fail
    refine HRI.out.mono ?_
    rintro e w1 ⟨rfl, hm1⟩
    go_wp2_with fail
    go_ret2
    rw [HO.out]
    exact ⟨_, rfl, Own.nil _ _ _, hm1, fun g h => by simp [Value.ownBlock] at h⟩
end Go.Proofs.YtnlmfmceogbomaaGreatDoor
