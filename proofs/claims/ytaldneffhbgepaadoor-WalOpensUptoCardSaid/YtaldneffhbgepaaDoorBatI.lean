/- The document's Replay (by program: gen/refreplay.py). -/
import Derived.Test.YtaldneffhbgepaaDoorBatE
import Derived.Test.YtaldneffhbgepaaDoorBatH
import Derived.Test.YtaldneffhbgepaaDoorRefC
namespace Go.Proofs.YtaldneffhbgepaaDoor
open Go.RowKit
set_option linter.unusedVariables false

set_option maxHeartbeats 16000000 in
set_option maxRecDepth 100000 in
theorem rreplay_calls (ps : List Part) (A : Option Addr) (c : Nat) (w : World) (hr : Rd w 1 A ps.length (ps.flatMap encPart)) (hp : ∀ p ∈ ps, PartOk w p) (hn : ps.length ≤ 1000000) :
    Calls Tryd.prog 18 #[.slice A ps.length c] w (ReplE (replayB (bsOf ps)) w) := by
  have hlen : (bsOf ps).length = ps.length := by simp [bsOf]
  have HLEN := Lib.hid hlen
  have HP := Lib.hid hp
  have huo := Tryd.underlying22
  have huos := Tryd.underlying32
  clear hlen hp
  go_enter Tryd.func18, Tryd.ntmps18
  go_wp2_with fail
  go_loopw [4, 5, 6, 7, 8, 9, 10] (fun vl vo us i a8 a9 a10 wr => ∃ (j used : Nat) (done : List (List Op3)) (vs : List Value) (now : List Op3), i = .int .i64 j ∧ us = .int .i64 used ∧ j ≤ ps.length ∧ now.length ≤ j ∧ done.length ≤ j ∧ used ≤ j ∧ BatsAt wr vl w.heap.size done vs ∧ Own wr 67 3 vo now.length (encOs now) ∧ (∀ g, vo.ownBlock = some g → w.heap.size ≤ g ∧ ∀ u ∈ vs, u.ownBlock ≠ some g) ∧ Mod NoneB w wr ∧
      replayB (bsOf ps) = (done ++ (replayGo now j used ((bsOf ps).drop j)).1, (replayGo now j used ((bsOf ps).drop j)).2)) (fun _ _ _ i _ _ _ _ => ps.length - (intOf i).toNat)
  case atStart => exact ⟨0, 0, [], [], [], rfl, rfl, by omega, by simp, by simp, by omega, BatsAt.nil _ _, Own.nil _ _ _, fun g h => by simp [Value.ownBlock] at h, Mod.refl _ _, by simp [replayB]⟩
  case round =>
    obtain ⟨j, used, done, vs, now, rfl, rfl, hj, hnl, hdl, hul, hba, hon, hnb, hm, hrp⟩ := hrel
    by_cases hlt : j < ps.length
    · obtain ⟨ad, rfl, h0, _⟩ := Rd.elem (f := encPart) (fun _ => rfl) hr (by decide) j hlt
      have c0 := hm.cell0 (h0 _ rfl)
      rw [Nat.mul_one] at c0
      have q8 : (0 : Int) ≤ (j : Int) := by omega
      have q9 : (j : Int) < (ps.length : Int) := by omega
      have hpk := HP.out ps[j] (List.getElem_mem _)
      have hdr : (bsOf ps).drop j = ps[j].b :: (bsOf ps).drop (j + 1) := by
        have h1 : j < (bsOf ps).length := by rw [HLEN.out]; exact hlt
        rw [drop_cons _ _ h1]
        congr 1
        simp [bsOf]
      obtain ⟨p, hpp⟩ : ∃ p, p = ps[j] := ⟨_, rfl⟩
      rw [← hpp] at c0 hpk hdr
      rw [hdr] at hrp
      obtain ⟨pA, pb, pc⟩ := p
      obtain ⟨hrd, hcap, htop⟩ := hpk
      simp only at hrd hcap htop hrp c0
      replace hrd := hrd.mod0 hm
      clear h0 hpp hdr
      have HBA := Lib.hid hba
      have HON := Lib.hid hon
      have HNB := Lib.hid hnb
      have HRP := Lib.hid hrp
      clear hba hon hnb hrp
      cases pb with
      | nil =>
        have hbad := replayGo_bad now j used [] ((bsOf ps).drop (j + 1)) rfl
        have HBAD := Lib.hid hbad
        clear hbad
        go_wp2_with fail
        go_ret2
        rw [HRP.out, HBAD.out, List.append_nil]
        exact ⟨_, vs, rfl, HBA.out, hm⟩
      | cons k r =>
        obtain ⟨adp, rfl, hce⟩ := hrd.2.2 (by simp)
        have c1 := hce 0 (.int .u8 k.toNat) rfl
        rw [add_nil0] at c1
        obtain ⟨A', hs1, hs2, hrt⟩ := tail_at hrd hcap
        have hdec := rdecode_calls r A' (pc - 1) wr hrt (by simp at htop; omega) (by simp at hcap; omega)
        have HDEC := Lib.hid hdec
        have hkb := kindB_cons now.length k r
        have HKB := Lib.hid hkb
        have g1 : (1 : Int) ≤ ((k :: r).length : Int) := Int.ofNat_le.2 (by simp : 1 ≤ (k :: r).length)
        have g2 : ((((k :: r).length : Nat) : Int) == 0) = false := beq_eq_false_iff_ne.mpr (by simp; omega)
        have g0 : 0 < (k :: r).length := Nat.succ_pos _
        have g3 : (0 : Int) < ((k :: r).length : Int) := by omega
        obtain ⟨nb, hnbb⟩ : ∃ nb, nb = (k :: r).length := ⟨_, rfl⟩
        rw [← hnbb] at c0 g1 g2 g3 hs1 hs2
        clear hrd hce hdec hkb hrt hcap htop hnbb
        go_wp2_with fail
        refine HDEC.out.mono ?_
        rintro e w2 ⟨vt, rfl, hot, hmt, hnt⟩
        have c2 := hmt.cell0 c1
        have c3 := hmt.cell0 c0
        have hm2 := hm.then0 hmt
        clear c0 c1 hs1 hs2 HDEC
        cases hdl : decL r with
        | none =>
          rw [hdl] at HKB
          have hbad := replayGo_bad now j used (k :: r) ((bsOf ps).drop (j + 1)) HKB.out
          have HBAD := Lib.hid hbad
          have HMT := Lib.hid hmt
          clear hbad hdl hot hnt
          simp only [errT, Option.isSome_none, Bool.false_eq_true, if_false]
          go_wp2_with fail
          go_ret2
          rw [HRP.out, HBAD.out, List.append_nil]
          exact ⟨_, vs, rfl, HBA.out.mod0 HMT.out, hm2⟩
        | some ts =>
          rw [hdl] at HKB hot
          simp only [Option.getD_some] at hot
          clear hdl
          simp only [errT, Option.isSome_some, if_true]
          have HKN := Lib.hid hnt
          obtain ⟨Vt, ct, hvt, _⟩ := hot.nilD0
          by_cases h112 : k = 112
          · have z0 : (((k.toNat : Nat) : Int)) = 112 := by rw [h112]; rfl
            rw [z0] at c2
            by_cases hl2 : ts.length = 2
            · obtain ⟨a, b, rfl⟩ : ∃ a b, ts = [a, b] := by
                match ts, hl2 with
                | [a, b], _ => exact ⟨a, b, rfl⟩
              obtain ⟨gt, ctt, hvg⟩ := hot.addrOf (by simp)
              have hvg2 : vt = .slice (some ⟨gt, 0, none⟩) 2 ctt := hvg
              subst hvg2
              have y0 : w2.cell? ⟨gt, 0, none⟩ = some (.string a) := Own.cellAt (n := 2) hot 0 _ rfl
              have y1 : w2.cell? ⟨gt, 1, none⟩ = some (.string b) := Own.cellAt (n := 2) hot 1 _ rfl
              have hop := replayGo_op now j used (k :: r) ((bsOf ps).drop (j + 1)) (o := ⟨false, a, b⟩) (HKB.out.trans (show kindT now.length k (some [a, b]) = _ from if_pos h112))
              have HOP := Lib.hid hop
              have hal : Mod NoneB w2 (w2.alloc (.cells #[.bool false, .string a, .string b] 67)).drew := ((Mod.refl NoneB w2).alloc _).drew
              have hbx := box1 w2 (.cells #[.bool false, .string a, .string b] 67)
              have hbx2 : (w2.alloc (.cells #[.bool false, .string a, .string b] 67)).drew.heap[w2.heap.size]? = some (.cells #[.bool false, .string a, .string b] 67) := hbx
              have hnx : 0 < 1 → ∃ x, (some ⟨w2.heap.size, 0, none⟩ : Option Addr) = some x ∧ ∀ (i : Nat) u, (encO ⟨false, a, b⟩)[i]? = some u → (w2.alloc (.cells #[.bool false, .string a, .string b] 67)).drew.cell? (x.add i) = some u := (rd_blk (sz := 3) (n := 1) hbx2 rfl (by decide)).2.2
              have hox := (HON.out.mod0 hmt).mod0 hal
              obtain ⟨Ao, co, hvo, _, _, _⟩ := hox.out
              have h40 : (now.length + 1) * 40 ≤ 140737488355328 := by omega
              have HBA2 := Lib.hid ((HBA.out.mod0 hmt).mod0 hal)
              have HM2 := Lib.hid (hm2.then0 hal)
              have hgt : ∀ g, (Value.slice (some ⟨gt, 0, none⟩) 2 ctt).ownBlock = some g → ¬ OnlyBlk (.slice Ao now.length co) g := fun g hg hk => by
                obtain ⟨d1, e1⟩ := (hot.mod0 hal).tag0 hg
                rw [hvo] at hox
                obtain ⟨d2, e2⟩ := hox.tag0 hk
                exact tag_ne0 e1 e2 (by decide) rfl
              have HGT := Lib.hid (hgt gt rfl)
              have u0 : (w2.alloc (.cells #[.bool false, .string a, .string b] 67)).drew.cell? ⟨gt, 0, none⟩ = some (.string a) := hal.cell0 y0
              have u1 : (w2.alloc (.cells #[.bool false, .string a, .string b] 67)).drew.cell? ⟨gt, 1, none⟩ = some (.string b) := hal.cell0 y1
              subst hvo
              clear hbx hbx2 hal hop hnt hmt hot hvt hgt
              go_wp2_with fail
              go_region_held3 (fun w' => w'.cell? ⟨gt, 0, none⟩ = some (.string a) ∧ w'.cell? ⟨gt, 1, none⟩ = some (.string b)) (first | go_keep | exact ⟨y05, y15⟩ | exact ⟨u0, u1⟩)
                ((refine step_app rfl (.tmp 47) (.tmp 55) 22 rfl 67 _ 3 40 huo tiOp rfl (by decide) (by decide) _ now.length (encOs now) (by simp [Act.eval]) hox (some ⟨w2.heap.size, 0, none⟩) 1 1 (encO ⟨false, a, b⟩) (by simp [Act.eval]) rfl hnx (encO_one _) h40 ?_; intro v5 w5 ho5 hm5 hno5; have y05 := hm5.cell u0 HGT.out; have y15 := hm5.cell u1 HGT.out))
              all_goals
                have hk := replay_keep HBA2.out hox HNB.out ho5 hm5 hno5 HM2.out.size
                have hm5w : Mod NoneB w w5 := HM2.out.trans_new hm5 (fun k hk => .inr (HNB.out k hk).1)
                have HK := Lib.hid (And.intro hk hm5w)
                obtain ⟨A5, c5, rfl, _⟩ := ho5.out
                clear hk hm5w ho5 hm5 hno5 hox hnx h40 u0 u1 y05 y15 y0 y1
                go_wp2_with fail
                go_roundw
                case rel => exact ⟨j + 1, used, done, vs, now ++ [⟨false, a, b⟩], by go_num, rfl, by omega, by simp; omega, by omega, by omega, HK.out.1.1, HK.out.1.2.1, HK.out.1.2.2, HK.out.2, by rw [HRP.out, HOP.out]⟩
                case measure => simp [intOf]; omega
            · have b2 : (((ts.length : Nat) : Int) == 2) = false := beq_eq_false_iff_ne.mpr (by omega)
              subst hvt
              have hbad := replayGo_bad now j used (k :: r) ((bsOf ps).drop (j + 1)) (HKB.out.trans (kindT_bad (ts := ts) (fun h => hl2 h.2) (fun h => by rw [h112] at h; exact absurd h.1 (by decide)) (fun h => by rw [h112] at h; exact absurd h.1 (by decide))))
              have HBAD := Lib.hid hbad
              have HMT := Lib.hid hmt
              clear hbad hot hnt hmt
              go_wp2_with fail
              go_quiet (fail)
              go_wp2_with fail
              go_ret2
              rw [HRP.out, HBAD.out, List.append_nil]
              exact ⟨_, vs, rfl, (HBA.out.mod0 HMT.out).mod0 ((Mod.refl NoneB w2).drewN nq), hm2.drewN nq⟩
          by_cases h100 : k = 100
          · have z0 : (((k.toNat : Nat) : Int)) = 100 := by rw [h100]; rfl
            rw [z0] at c2
            by_cases hl1 : ts.length = 1
            · obtain ⟨a, rfl⟩ : ∃ a, ts = [a] := by
                match ts, hl1 with
                | [a], _ => exact ⟨a, rfl⟩
              obtain ⟨gt, ctt, hvg⟩ := hot.addrOf (by simp)
              have hvg2 : vt = .slice (some ⟨gt, 0, none⟩) 1 ctt := hvg
              subst hvg2
              have y0 : w2.cell? ⟨gt, 0, none⟩ = some (.string a) := Own.cellAt (n := 1) hot 0 _ rfl
              have hop := replayGo_op now j used (k :: r) ((bsOf ps).drop (j + 1)) (o := ⟨true, a, ⟨#[]⟩⟩) (HKB.out.trans (show kindT now.length k (some [a]) = _ from if_pos h100))
              have HOP := Lib.hid hop
              have hal : Mod NoneB w2 (w2.alloc (.cells #[.bool true, .string a, .string ⟨#[]⟩] 67)) := (Mod.refl NoneB w2).alloc _
              have hbx := box1 w2 (.cells #[.bool true, .string a, .string ⟨#[]⟩] 67)
              have hnx : 0 < 1 → ∃ x, (some ⟨w2.heap.size, 0, none⟩ : Option Addr) = some x ∧ ∀ (i : Nat) u, (encO ⟨true, a, ⟨#[]⟩⟩)[i]? = some u → (w2.alloc (.cells #[.bool true, .string a, .string ⟨#[]⟩] 67)).cell? (x.add i) = some u := (rd_blk (sz := 3) (n := 1) hbx rfl (by decide)).2.2
              have hox := (HON.out.mod0 hmt).mod0 hal
              obtain ⟨Ao, co, hvo, _, _, _⟩ := hox.out
              have h40 : (now.length + 1) * 40 ≤ 140737488355328 := by omega
              have HBA2 := Lib.hid ((HBA.out.mod0 hmt).mod0 hal)
              have HM2 := Lib.hid (hm2.then0 hal)
              subst hvo
              clear hbx hal hop hnt hmt hot hvt
              go_wp2_with (at_builtin; refine wpList_append rfl (.tmp 64) (.tmp 69) 22 rfl 67 _ 3 40 huo tiOp rfl (by decide) (by decide) _ now.length (encOs now) rfl hox (some ⟨w2.heap.size, 0, none⟩) 1 1 (encO ⟨true, a, ⟨#[]⟩⟩) rfl rfl hnx (encO_one _) h40 ?_)
              intro v5 w5 ho5 hm5 hno5
              have hk := replay_keep HBA2.out hox HNB.out ho5 hm5 hno5 HM2.out.size
              have hm5w : Mod NoneB w w5 := HM2.out.trans_new hm5 (fun k hk => .inr (HNB.out k hk).1)
              have HK := Lib.hid (And.intro hk hm5w)
              obtain ⟨A5, c5, rfl, _⟩ := ho5.out
              clear hk hm5w ho5 hm5 hno5 hox hnx h40
              go_wp2_with fail
              go_roundw
              case rel => exact ⟨j + 1, used, done, vs, now ++ [⟨true, a, ⟨#[]⟩⟩], by go_num, rfl, by omega, by simp; omega, by omega, by omega, HK.out.1.1, HK.out.1.2.1, HK.out.1.2.2, HK.out.2, by rw [HRP.out, HOP.out]⟩
              case measure => simp [intOf]; omega
            · have b2 : (((ts.length : Nat) : Int) == 1) = false := beq_eq_false_iff_ne.mpr (by omega)
              subst hvt
              have hbad := replayGo_bad now j used (k :: r) ((bsOf ps).drop (j + 1)) (HKB.out.trans (kindT_bad (ts := ts) (fun h => h112 h.1) (fun h => hl1 h.2) (fun h => by rw [h100] at h; exact absurd h.1 (by decide))))
              have HBAD := Lib.hid hbad
              have HMT := Lib.hid hmt
              clear hbad hot hnt hmt
              go_wp2_with fail
              go_quiet (fail)
              go_wp2_with fail
              go_ret2
              rw [HRP.out, HBAD.out, List.append_nil]
              exact ⟨_, vs, rfl, (HBA.out.mod0 HMT.out).mod0 ((Mod.refl NoneB w2).drewN nq), hm2.drewN nq⟩
          by_cases h99 : k = 99
          · have z0 : (((k.toNat : Nat) : Int)) = 99 := by rw [h99]; rfl
            rw [z0] at c2
            by_cases hl1 : ts.length = 1
            · obtain ⟨a, rfl⟩ : ∃ a, ts = [a] := by
                match ts, hl1 with
                | [a], _ => exact ⟨a, rfl⟩
              obtain ⟨gt, ctt, hvg⟩ := hot.addrOf (by simp)
              have hvg2 : vt = .slice (some ⟨gt, 0, none⟩) 1 ctt := hvg
              subst hvg2
              have y0 : w2.cell? ⟨gt, 0, none⟩ = some (.string a) := Own.cellAt (n := 1) hot 0 _ rfl
              have hdr : Mod NoneB w2 w2.drew := (Mod.refl NoneB w2).drew
              have hit := rdigits_calls now.length w2.drew (by omega)
              have HIT := Lib.hid hit
              have HMT := Lib.hid hmt
              obtain ⟨Ao, co, hvo, _, _, _⟩ := HON.out.out
              have y0d : w2.drew.cell? ⟨gt, 0, none⟩ = some (.string a) := y0
              by_cases ha : a = digitsB now.length
              · have bq : (a.toList == (digitsB now.length).toList) = true := by rw [beq_toList]; exact decide_eq_true ha
                have hfin := replayGo_fin now j used (k :: r) ((bsOf ps).drop (j + 1)) (HKB.out.trans (show kindT now.length k (some [a]) = _ by
                  show (if k = 100 then _ else if k = 99 ∧ a = digitsB now.length then _ else _) = _
                  rw [if_neg h100, if_pos ⟨h99, ha⟩]))
                have HFIN := Lib.hid hfin
                obtain ⟨dg, hdg⟩ : ∃ dg, dg = digitsB now.length := ⟨_, rfl⟩
                rw [← hdg] at HIT bq
                have HVO := Lib.hid hvo
                have HM2 := Lib.hid hm2
                have huN : w.heap.size ≤ w2.heap.size := hm2.size
                subst hvo
                clear hfin hit hmt hot hvt hdg ha hnt
                go_wp2_with fail
                go_region_held3 (fun w' => w'.cell? ⟨gt, 0, none⟩ = some (.string a)) (first | go_keep | exact y05)
                  ((go_at_call 26; (with_reducible refine HIT.out.mono ?_); rintro ez w5 ⟨rfl, hm5⟩; have y05 := hm5.cell0 y0d))
                all_goals
                  have hm25 : Mod NoneB w2 w5 := hdr.then0 hm5
                  have hba5 := (HBA.out.mod0 HMT.out).mod0 hm25
                  have hon5 := (HON.out.mod0 HMT.out).mod0 hm25
                  have hal : Mod NoneB w5 (w5.alloc (.cells #[.slice Ao now.length co] 22)) := (Mod.refl NoneB w5).alloc _
                  have hbx := box1 w5 (.cells #[.slice Ao now.length co] 22)
                  have hnx : 0 < 1 → ∃ x, (some ⟨w5.heap.size, 0, none⟩ : Option Addr) = some x ∧ ∀ (i : Nat) u, ([Value.slice Ao now.length co])[i]? = some u → (w5.alloc (.cells #[.slice Ao now.length co] 22)).cell? (x.add i) = some u := (rd_blk (sz := 1) (n := 1) hbx rfl (by decide)).2.2
                  have hba6 := hba5.mod0 hal
                  have hon6 := hon5.mod0 hal
                  have hm6 : Mod NoneB w (w5.alloc (.cells #[.slice Ao now.length co] 22)) := (HM2.out.then0 hm25).then0 hal
                  have h24 : (done.length + 1) * 24 ≤ 140737488355328 := by omega
                  obtain ⟨Al, cl, hvl, _, _, _⟩ := hba6.own.out
                  have HBA6 := Lib.hid hba6
                  have HON6 := Lib.hid hon6
                  have hown := hba6.own
                  subst hvl
                  clear hba5 hon5 hba6 hon6 hbx hal hm25 hm5 y05 y0 y0d hdr HIT hm2
                  go_wp2_with (at_builtin; refine wpList_append rfl (.tmp 87) (.tmp 89) 32 rfl 22 _ 1 24 huos tiOps rfl (by decide) (by decide) _ done.length vs rfl hown (some ⟨w5.heap.size, 0, none⟩) 1 1 [.slice Ao now.length co] rfl rfl hnx (fun u hu => by rw [List.mem_singleton] at hu; subst hu; rfl) h24 ?_)
                  intro v7 w7 ho7 hm7 hno7
                  have hsn := HBA6.out.snoc hm7 hno7 hm6.size ho7 HON6.out rfl (fun g hg => (HNB.out g hg).1)
                  have hm7w : Mod NoneB w w7 := hm6.trans_new hm7 (fun k hk => .inr (HBA6.out.new k hk))
                  have HSN := Lib.hid (And.intro hsn hm7w)
                  obtain ⟨A7, c7, rfl, _⟩ := ho7.out
                  clear hsn hm7w ho7 hm7 hno7 hown hnx h24 hm6
                  go_wp2_with fail
                  go_roundw
                  case rel => exact ⟨j + 1, j + 1, done ++ [now], vs ++ [.slice Ao now.length co], [], by go_num, by go_num, by omega, by simp, by simp; omega, by omega, HSN.out.1, Own.nil _ _ _, fun g h => by simp [Value.ownBlock] at h, HSN.out.2, by rw [HRP.out, HFIN.out]; simp⟩
                  case measure => simp [intOf]; omega
              · have bq : (a.toList == (digitsB now.length).toList) = false := by rw [beq_toList]; exact decide_eq_false ha
                have hbad := replayGo_bad now j used (k :: r) ((bsOf ps).drop (j + 1)) (HKB.out.trans (kindT_bad (ts := [a]) (fun h => h112 h.1) (fun h => h100 h.1) (fun h => by obtain ⟨_, a', ha', hd'⟩ := h; injection ha' with ha'; exact ha (ha'.trans hd'))))
                have HBAD := Lib.hid hbad
                obtain ⟨dg, hdg⟩ : ∃ dg, dg = digitsB now.length := ⟨_, rfl⟩
                rw [← hdg] at HIT bq
                subst hvo
                clear hbad hit hmt hot hvt hdg ha hnt
                go_wp2_with fail
                go_region_held3 (fun w' => w'.cell? ⟨gt, 0, none⟩ = some (.string a)) (first | go_keep | exact y05)
                  ((go_at_call 26; (with_reducible refine HIT.out.mono ?_); rintro ez w5 ⟨rfl, hm5⟩; have y05 := hm5.cell0 y0d))
                all_goals
                  go_wp2_with fail
                  go_ret2
                  rw [HRP.out, HBAD.out, List.append_nil]
                  exact ⟨_, vs, rfl, (HBA.out.mod0 HMT.out).mod0 (hdr.then0 hm5), (hm2.then0 hdr).then0 hm5⟩
            · have b2 : (((ts.length : Nat) : Int) == 1) = false := beq_eq_false_iff_ne.mpr (by omega)
              subst hvt
              have hbad := replayGo_bad now j used (k :: r) ((bsOf ps).drop (j + 1)) (HKB.out.trans (kindT_bad (ts := ts) (fun h => h112 h.1) (fun h => h100 h.1) (fun h => by obtain ⟨_, a, ha, _⟩ := h; exact hl1 (by rw [ha]; rfl))))
              have HBAD := Lib.hid hbad
              have HMT := Lib.hid hmt
              clear hbad hot hnt hmt
              go_wp2_with fail
              go_quiet (fail)
              go_wp2_with fail
              go_ret2
              rw [HRP.out, HBAD.out, List.append_nil]
              exact ⟨_, vs, rfl, (HBA.out.mod0 HMT.out).mod0 ((Mod.refl NoneB w2).drewN nq), hm2.drewN nq⟩
          have q1 : (((k.toNat : Nat) : Int) == 112) = false := u8_ne (n := 112) (by decide) h112
          have q2 : (((k.toNat : Nat) : Int) == 100) = false := u8_ne (n := 100) (by decide) h100
          have q3 : (((k.toNat : Nat) : Int) == 99) = false := u8_ne (n := 99) (by decide) h99
          subst hvt
          have hbad := replayGo_bad now j used (k :: r) ((bsOf ps).drop (j + 1)) (HKB.out.trans (kindT_bad (ts := ts) (fun h => h112 h.1) (fun h => h100 h.1) (fun h => h99 h.1)))
          have HBAD := Lib.hid hbad
          have HMT := Lib.hid hmt
          clear hbad hot hnt hmt
          go_wp2_with fail
          go_quiet (fail)
          go_wp2_with fail
          go_ret2
          rw [HRP.out, HBAD.out, List.append_nil]
          exact ⟨_, vs, rfl, (HBA.out.mod0 HMT.out).mod0 ((Mod.refl NoneB w2).drewN nq), hm2.drewN nq⟩
    · obtain rfl : j = ps.length := by omega
      have hend : (bsOf ps).drop ps.length = [] := List.drop_eq_nil_of_le (by rw [HLEN.out]; exact Nat.le_refl _)
      rw [hend] at hrp
      have HRP := Lib.hid hrp
      clear hend hrp hon hnb
      go_wp2_with fail
      go_ret2
      rw [HRP.out]
      exact ⟨_, vs, rfl, by simpa [replayGo] using hba, hm⟩
end Go.Proofs.YtaldneffhbgepaaDoor

