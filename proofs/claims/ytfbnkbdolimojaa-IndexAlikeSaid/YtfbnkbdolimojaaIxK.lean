/- IndexAlike: with one bucket, and with many, all answers are the same: the walk of the law. -/
import Derived.Test.YtfbnkbdolimojaaIxR
namespace Go.Proofs.Ytfbnkbdolimojaa
open Go.RowKit
set_option linter.unusedVariables false

/-- Two indexes that answer alike. -/
structure Like (x y : Ix) : Prop where
  okx : IxOk x
  oky : IxOk y
  get : ∀ key, getX x key = getX y key
  lenx : x.bs.length ≤ 1024
  leny : y.bs.length ≤ 1024
theorem Like.put {x y : Ix} (h : Like x y) (k v : ByteArray) : Like (putX x k v) (putX y k v) :=
  ⟨h.okx.put k v, h.oky.put k v, fun key => by rw [getX_put h.okx, getX_put h.oky, h.get], by rw [putX_len]; exact h.lenx, by rw [putX_len]; exact h.leny⟩
theorem Like.del {x y : Ix} (h : Like x y) (k : ByteArray) : Like (delX x k) (delX y k) :=
  ⟨h.okx.del k, h.oky.del k, fun key => by rw [getX_del h.okx, getX_del h.oky, h.get], by rw [delX_len]; exact h.lenx, by rw [delX_len]; exact h.leny⟩
theorem Like.n {x y : Ix} (h : Like x y) : x.n = y.n := by
  obtain ⟨m, hp, hs⟩ := ix_sorted h.oky
  obtain ⟨h1, h2, h3⟩ := sorted_map h.oky hp hs
  rw [← h3]
  exact ix_len h.okx h1 (fun key => (h.get key).trans (h2 key).symm)
theorem putX_le (x : Ix) (k v : ByteArray) : (putX x k v).n ≤ x.n + 1 := by rw [putX_n]; split <;> omega
theorem delX_le (x : Ix) (k : ByteArray) : (delX x k).n ≤ x.n := by
  unfold delX
  split
  · exact Nat.le_refl _
  · simp only; omega

theorem xdelb_calls (w : World) (p : Nat) (x : Ix) (S : Nat → Prop) (key : ByteArray) (gb : Bool) (h : IsX w p x S) (hr : RoomX x) (hks : key.size ≤ 1000000) (hone : getT (atB x.bs key) key ≠ none → 1 ≤ x.n) (hb : (getX x key).isSome = gb) :
    Calls Try.prog 39 #[.pointer (some ⟨p, 0, none⟩), .string key] w fun e w' => e = .returned (.bool gb) ∧ ∃ S', IsX w' p (delX x key) S' ∧ Mod S w w' ∧ ∀ k, S' k → S k ∨ w.heap.size ≤ k := by
  rw [← hb]
  exact xdel_calls w p x S key h hr hks hone

set_option maxHeartbeats 8000000 in
set_option maxRecDepth 100000 in
theorem indexAlike_walk (z0 z1 : Int) (l2 : List Act9) (a2 : Option Addr) (c2 : Nat) (w : World) (wz0 : (Lit.int .u16 z0).wf = true) (wz1 : (Lit.int .u16 z1).wf = true) (rd2 : Rd w 3 a2 l2.length (l2.flatMap encA9)) :
    Calls Try.prog 6 #[.int .u16 z0, .int .u16 z1, .slice a2 l2.length c2] w fun e w' => e = .returned (.bool true) ∧ Mod NoneB w w' := by
  have hz0 : 0 ≤ z0 ∧ z0 ≤ 65535 := by simp [Lit.wf] at wz0; exact wz0
  have hz1 : 0 ≤ z1 ∧ z1 ≤ 65535 := by simp [Lit.wf] at wz1; exact wz1
  obtain ⟨hz00, hz01⟩ := hz0
  obtain ⟨hz10, hz11⟩ := hz1
  clear wz0 wz1
  go_enter Try.func6, Try.ntmps6
  go_wp2_with fail
  refine (heavy9_calls l2 a2 c2 _ rd2).mono ?_
  rintro e w1 ⟨b, rfl, hm1, hb1⟩
  cases b with
  | true =>
    clear hb1
    go_wp2_with ((with_reducible refine (awake9_calls _).mono ?_); rintro e wz ⟨rfl, hmz⟩)
    go_ret
    exact ⟨rfl, hm1.then0 hmz⟩
  | false =>
    obtain ⟨hll, hli⟩ := hb1 rfl
    have HLI := Lib.hid hli
    clear hb1 hli
    go_wp2_with fail
    refine (xnew_calls _ w1).mono ?_
    rintro e w2 ⟨p, S0, k, rfl, hk0, hk1, hX0, hm2, hS0⟩
    have hokx := IxOk.new hk0
    have hgx := getX_new hk0
    have hlx : (newX k).bs.length ≤ 1024 := by simp [newX]; omega
    have hnx : (newX k).n = 0 := rfl
    obtain ⟨x0, hx0⟩ : ∃ x0, x0 = newX k := ⟨_, rfl⟩
    rw [← hx0] at hokx hgx hX0 hlx hnx
    clear hx0 hk0 hk1
    go_wp2_with fail
    refine (xnew_calls _ w2).mono ?_
    rintro e w3 ⟨q, T0, k', rfl, hk0, hk1, hY0, hm3, hT0⟩
    have hly : (newX k').bs.length ≤ 1024 := by simp [newX]; omega
    have hgy := getX_new hk0
    have hli0 : Like x0 (newX k') := ⟨hokx, IxOk.new hk0, fun key => by rw [hgx, hgy], hlx, hly⟩
    obtain ⟨y0, hy0⟩ : ∃ y0, y0 = newX k' := ⟨_, rfl⟩
    rw [← hy0] at hli0 hY0
    have hdj : ∀ k, S0 k → ¬ T0 k := fun k hs ht => absurd (hX0.lt hs) (Nat.not_lt.2 (hT0 k ht))
    have hX3 := hX0.mod0 hm3
    have hm13 := (hm1.then0 hm2).then0 hm3
    have hs0 : ∀ j, S0 j → w.heap.size ≤ j := fun j hj => Nat.le_trans hm1.size (hS0 j hj)
    have ht0 : ∀ j, T0 j → w.heap.size ≤ j := fun j hj => Nat.le_trans (hm1.then0 hm2).size (hT0 j hj)
    clear hy0 hk0 hk1 hm1 hm2 hm3 hS0 hT0 hX0 hokx hgx hgy hlx hly
    go_wp2_with fail
    go_loopw [9] (fun i wr => ∃ (j : Nat) (x y : Ix) (S T : Nat → Prop), i = .int .i64 j ∧ j ≤ l2.length ∧ x.n ≤ j ∧ Like x y ∧ IsX wr p x S ∧ IsX wr q y T ∧ (∀ k, S k → ¬ T k) ∧ (∀ k, S k → w.heap.size ≤ k) ∧ (∀ k, T k → w.heap.size ≤ k) ∧ Mod NoneB w wr) (fun i _ => l2.length - (intOf i).toNat)
    case atStart => exact ⟨0, x0, y0, S0, T0, rfl, by omega, by omega, hli0, hX3, hY0, hdj, hs0, ht0, hm13⟩
    case round =>
      clear hli0 hX3 hY0 hdj hs0 ht0 hm13 hnx
      obtain ⟨j, x, y, S, T, rfl, hj, hxj, hlk, hX, hY, hST, hS, hT, hm⟩ := hrel
      have hn := hlk.n
      have hrx : RoomX x := hlk.okx.room hlk.lenx (by omega)
      have hry : RoomX y := hlk.oky.room hlk.leny (by omega)
      by_cases hlt : j < l2.length
      · obtain ⟨ad, rfl, h0, hk⟩ := Rd.elem (f := encA9) (fun _ => rfl) rd2 (by decide) j hlt
        have g0 := hm.cell0 (h0 _ rfl)
        have g1 := hm.cell0 (hk 1 _ (by decide) (by decide) rfl)
        have g2 := hm.cell0 (hk 2 _ (by decide) (by decide) rfl)
        have hla := HLI.out l2[j] (List.getElem_mem _)
        unfold LightI at hla
        obtain ⟨a, ha⟩ : ∃ a, a = l2[j] := ⟨_, rfl⟩
        rw [← ha] at g0 g1 g2 hla
        obtain ⟨ad', ak, av⟩ := a
        simp only at g0 g1 g2 hla
        clear h0 hk ha
        have hgk := hlk.get ak
        have HGK := Lib.hid hgk
        obtain ⟨wB, hwB⟩ : ∃ wB, wB = wr.alloc (.cells #[.int .i64 ad', .string ak, .string av] 66) := ⟨_, rfl⟩
        have hal : Mod NoneB wr wB := by rw [hwB]; exact (Mod.refl NoneB wr).alloc _
        have hbk : wB.heap[wr.heap.size]? = some (.cells #[.int .i64 ad', .string ak, .string av] 66 (0, 0)) := by rw [hwB]; exact heap_alloc_new wr _
        have HWB := Lib.hid hwB
        clear hwB hgk
        have d0 : wB.cell? ⟨wr.heap.size, 0, none⟩ = some (.int .i64 ad') := blk_cell hbk 0
        have d1 : wB.cell? ⟨wr.heap.size, 1, none⟩ = some (.string ak) := blk_cell hbk 1
        have d2 : wB.cell? ⟨wr.heap.size, 2, none⟩ = some (.string av) := blk_cell hbk 2
        have hXB := hX.mod0 hal
        have hYB := hY.mod0 hal
        have hnS : ¬ S wr.heap.size := fun h => absurd (hX.lt h) (Nat.lt_irrefl _)
        have hnT : ¬ T wr.heap.size := fun h => absurd (hY.lt h) (Nat.lt_irrefl _)
        have hmB := hm.then0 hal
        have hbw : w.heap.size ≤ wB.heap.size := hmB.size
        have HNS := Lib.hid hnS
        have HNT := Lib.hid hnT
        have HST := Lib.hid hST
        have HBW := Lib.hid hbw
        clear hX hY hm hal hbk hnS hnT hST hbw
        by_cases q0 : ad' = 0 ∨ ad' = 1
        · have hlk2 := hlk.put ak av
          have hle2 := putX_le x ak av
          obtain ⟨x2, hx2⟩ : ∃ x2, x2 = putX x ak av := ⟨_, rfl⟩
          obtain ⟨y2, hy2⟩ : ∃ y2, y2 = putX y ak av := ⟨_, rfl⟩
          rw [← hx2] at hlk2 hle2
          rw [← hy2] at hlk2
          have HX2 := Lib.hid hx2
          have HY2 := Lib.hid hy2
          have HLK2 := Lib.hid hlk2
          clear hx2 hy2 hlk2
          have hPX := xput_calls wB p x S ak av hXB hrx (by omega)
          have HPX := Lib.hid hPX
          clear hPX
          rcases q0 with q0 | q0
          all_goals
            subst q0
            go_wp2_with fail
            rw [← HWB.out]
            obtain ⟨gg, hgg⟩ : ∃ gg, gg = wr.heap.size := ⟨_, rfl⟩
            rw [← hgg] at d0 d1 d2 HNS HNT ⊢
            clear hgg g0 g1 g2 HWB
            refine HPX.out.mono ?_
            rintro e w3 ⟨rfl, S3, hX3, hm3, hn3⟩
            rw [← HX2.out] at hX3
            have d1' := hm3.cell d1 HNS.out
            have d2' := hm3.cell d2 HNS.out
            have hY3 := hYB.mod hm3 (fun k ht hs => HST.out k hs ht)
            have hT3 : ∀ k, T k → ¬ S3 k := fun k ht hs => (hn3 k hs).elim (fun h => HST.out k h ht) (fun h => absurd (hYB.lt ht) (Nat.not_lt.2 h))
            have hm13 := hmB.trans_new hm3 (fun k hk => .inr (hS k hk))
            have hS3 : ∀ k, S3 k → w.heap.size ≤ k := fun k hk => (hn3 k hk).elim (hS k) (fun h => Nat.le_trans HBW.out h)
            have HT3 := Lib.hid hT3
            have HS3 := Lib.hid hS3
            clear hT3 hS3 hn3 hm3 hXB hYB hmB d0 d1 d2 HPX
            go_wp2_with fail
            refine (xput_calls w3 q y T ak av hY3 hry (by omega)).mono ?_
            rintro e w4 ⟨rfl, T4, hY4, hm4, hn4⟩
            rw [← HY2.out] at hY4
            have hX4 := hX3.mod hm4 (fun k hs ht => HT3.out k ht hs)
            have hS4 : ∀ k, S3 k → ¬ T4 k := fun k hs ht => (hn4 k ht).elim (fun h => HT3.out k h hs) (fun h => absurd (hX3.lt hs) (Nat.not_lt.2 h))
            have hm14 := hm13.trans_new hm4 (fun k hk => .inr (hT k hk))
            have hT4 : ∀ k, T4 k → w.heap.size ≤ k := fun k hk => (hn4 k hk).elim (hT k) (fun h => Nat.le_trans hm13.size h)
            have HS4 := Lib.hid hS4
            have HT4 := Lib.hid hT4
            clear hS4 hT4 hn4 hm4 hX3 hY3 d1' d2'
            go_wp2_with fail
            go_roundw
            case rel => exact ⟨j + 1, x2, y2, S3, T4, by go_num, by omega, by omega, HLK2.out, hX4, hY4, HS4.out, HS3.out, HT4.out, hm14⟩
            case measure => simp [intOf]; omega
        by_cases q2 : ad' = 2
        · subst q2
          obtain ⟨gv, hgv⟩ : ∃ gv, gv = (getX y ak).getD ⟨#[]⟩ := ⟨_, rfl⟩
          obtain ⟨gb, hgb⟩ : ∃ gb, gb = (getX y ak).isSome := ⟨_, rfl⟩
          have HGV := Lib.hid hgv
          have HGB := Lib.hid hgb
          have b1 : (gb != gb) = false := by simp
          have b2 : (gv.toList != gv.toList) = false := by simp
          clear hgv hgb q0
          go_wp2_with fail
          rw [← HWB.out]
          obtain ⟨gg, hgg⟩ : ∃ gg, gg = wr.heap.size := ⟨_, rfl⟩
          rw [← hgg] at d0 d1 d2 HNS HNT ⊢
          clear hgg g0 g1 g2 HWB
          refine (xget_calls wB p x S ak hXB hrx (by omega)).mono ?_
          rintro e w3 ⟨rfl, hm3⟩
          rw [HGK.out, ← HGV.out, ← HGB.out]
          have d1' := hm3.cell0 d1
          have hX3 := hXB.mod0 hm3
          have hY3 := hYB.mod0 hm3
          have hm13 := hmB.then0 hm3
          clear hXB hYB hmB hm3 d0 d1 d2
          go_wp2_with fail
          refine (xget_calls w3 q y T ak hY3 hry (by omega)).mono ?_
          rintro e w4 ⟨rfl, hm4⟩
          rw [← HGV.out, ← HGB.out]
          have hX4 := hX3.mod0 hm4
          have hY4 := hY3.mod0 hm4
          have hm14 := hm13.then0 hm4
          have HS := Lib.hid hS
          have HT := Lib.hid hT
          have HLK := Lib.hid hlk
          clear hX3 hY3 hm13 hm4 d1' hS hT hlk
          go_wp2_with fail
          go_roundw
          case rel => exact ⟨j + 1, x, y, S, T, by go_num, by omega, by omega, HLK.out, hX4, hY4, HST.out, HS.out, HT.out, hm14⟩
          case measure => simp [intOf]; omega
        by_cases q3 : ad' = 3
        · subst q3
          obtain ⟨gb, hgb⟩ : ∃ gb, gb = (getX y ak).isSome := ⟨_, rfl⟩
          have hbx : (getX x ak).isSome = gb := by rw [HGK.out, hgb]
          have hby : (getX y ak).isSome = gb := hgb.symm
          have b1 : (gb != gb) = false := by simp
          have hks : ak.size ≤ 1000000 := by omega
          have hox := ix_one hlk.okx ak
          have hoy := ix_one hlk.oky ak
          have hlk2 := hlk.del ak
          have hle2 := delX_le x ak
          obtain ⟨x2, hx2⟩ : ∃ x2, x2 = delX x ak := ⟨_, rfl⟩
          obtain ⟨y2, hy2⟩ : ∃ y2, y2 = delX y ak := ⟨_, rfl⟩
          have hdx : ∀ w', IsX w' p x S → Calls Try.prog 39 #[.pointer (some ⟨p, 0, none⟩), .string ak] w' fun e w'' => e = .returned (.bool gb) ∧ ∃ S', IsX w'' p x2 S' ∧ Mod S w' w'' ∧ ∀ k, S' k → S k ∨ w'.heap.size ≤ k := fun w' h => by rw [hx2]; exact xdelb_calls w' p x S ak gb h hrx hks hox hbx
          have hdy : ∀ w', IsX w' q y T → Calls Try.prog 39 #[.pointer (some ⟨q, 0, none⟩), .string ak] w' fun e w'' => e = .returned (.bool gb) ∧ ∃ T', IsX w'' q y2 T' ∧ Mod T w' w'' ∧ ∀ k, T' k → T k ∨ w'.heap.size ≤ k := fun w' h => by rw [hy2]; exact xdelb_calls w' q y T ak gb h hry hks hoy hby
          rw [← hx2] at hlk2 hle2
          rw [← hy2] at hlk2
          have HLK2 := Lib.hid hlk2
          have HDX := Lib.hid hdx
          have HDY := Lib.hid hdy
          have hXD : IsX wB.drew p x S := hXB.mod0 ((Mod.refl NoneB wB).drew)
          have hYD : IsX wB.drew q y T := hYB.mod0 ((Mod.refl NoneB wB).drew)
          have hmD : Mod NoneB w wB.drew := hmB.drew
          have hbD : w.heap.size ≤ wB.drew.heap.size := HBW.out
          have HXD := Lib.hid hXD
          have HYD := Lib.hid hYD
          have HMD := Lib.hid hmD
          have HBD := Lib.hid hbD
          have HS := Lib.hid hS
          have HT := Lib.hid hT
          clear q0 q2 hlk hlk2 hdx hdy hXD hYD hmD hbD hgb hbx hby hx2 hy2 hox hoy hS hT hmB hXB hYB
          go_wp2_with fail
          rw [← HWB.out]
          obtain ⟨gg, hgg⟩ : ∃ gg, gg = wr.heap.size := ⟨_, rfl⟩
          rw [← hgg] at d0 d1 d2 HNS HNT ⊢
          clear hgg g0 g1 g2 HWB
          have d1D : wB.drew.cell? ⟨gg, 1, none⟩ = some (.string ak) := d1
          clear d0 d2
          go_region_law (first
            | (go_simp; go_at_call 39; (with_reducible refine (HDX.out _ HXD.out).mono ?_); rintro ez w3 ⟨rfl, S3, hX3, hm3, hn3⟩; have d1a := hm3.cell d1D HNS.out; have hY3 := HYD.out.mod hm3 (fun k ht hs => HST.out k hs ht))
            | (go_simp; go_at_call 39; (with_reducible refine (HDY.out _ hY3).mono ?_); rintro ez wf ⟨rfl, T3, hYf, hm4, hn4⟩; have hXf := hX3.mod hm4 (fun k hs ht => (hn3 k hs).elim (fun h => HST.out k h ht) (fun h => absurd (HYD.out.lt ht) (Nat.not_lt.2 h))); have hmf := (HMD.out.trans_new hm3 (fun k hk => .inr (HS.out k hk))).trans_new hm4 (fun k hk => .inr (HT.out k hk)); have hSf : ∀ k, S3 k → w.heap.size ≤ k := fun k hk => (hn3 k hk).elim (HS.out k) (fun h => Nat.le_trans HBD.out h); have hTf : ∀ k, T3 k → w.heap.size ≤ k := fun k hk => (hn4 k hk).elim (HT.out k) (fun h => Nat.le_trans HBD.out (Nat.le_trans hm3.size h)); have hSTf : ∀ k, S3 k → ¬ T3 k := fun k hs ht => (hn4 k ht).elim (fun h => (hn3 k hs).elim (fun h2 => HST.out k h2 h) (fun h2 => absurd (HYD.out.lt h) (Nat.not_lt.2 h2))) (fun h => absurd (hX3.lt hs) (Nat.not_lt.2 h)))
            | (go_simp; go_at_call 39; (with_reducible refine (HDY.out _ HYD.out).mono ?_); rintro ez w3 ⟨rfl, T3, hY3, hm3, hn3⟩; have d1a := hm3.cell d1D HNT.out; have hX3 := HXD.out.mod hm3 (fun k hs ht => HST.out k hs ht))
            | (go_simp; go_at_call 39; (with_reducible refine (HDX.out _ hX3).mono ?_); rintro ez wf ⟨rfl, S3, hXf, hm4, hn4⟩; have hYf := hY3.mod hm4 (fun k ht hs => (hn3 k ht).elim (fun h => HST.out k hs h) (fun h => absurd (HXD.out.lt hs) (Nat.not_lt.2 h))); have hmf := (HMD.out.trans_new hm3 (fun k hk => .inr (HT.out k hk))).trans_new hm4 (fun k hk => .inr (HS.out k hk)); have hTf : ∀ k, T3 k → w.heap.size ≤ k := fun k hk => (hn3 k hk).elim (HT.out k) (fun h => Nat.le_trans HBD.out h); have hSf : ∀ k, S3 k → w.heap.size ≤ k := fun k hk => (hn4 k hk).elim (HS.out k) (fun h => Nat.le_trans HBD.out (Nat.le_trans hm3.size h)); have hSTf : ∀ k, S3 k → ¬ T3 k := fun k hs ht => (hn4 k hs).elim (fun h => (hn3 k ht).elim (fun h2 => HST.out k h h2) (fun h2 => absurd (HXD.out.lt h) (Nat.not_lt.2 h2))) (fun h => absurd (hY3.lt ht) (Nat.not_lt.2 h))))
          all_goals
            clear HDX HDY HXD HYD HMD HBD hm3 hm4 hn3 hn4 d1a d1D
            go_wp2_with fail
            go_roundw
            case rel => exact ⟨j + 1, x2, y2, S3, T3, by go_num, by omega, by omega, HLK2.out, hXf, hYf, hSTf, hSf, hTf, hmf⟩
            case measure => simp [intOf]; omega
        · have q00 : ¬ ad' = 0 := fun h => q0 (.inl h)
          have q01 : ¬ ad' = 1 := fun h => q0 (.inr h)
          have HS := Lib.hid hS
          have HT := Lib.hid hT
          have HLK := Lib.hid hlk
          clear hS hT hlk q0
          go_wp2_with fail
          rw [← HWB.out]
          go_roundw
          case rel => exact ⟨j + 1, x, y, S, T, by go_num, by omega, by omega, HLK.out, hXB, hYB, HST.out, HS.out, HT.out, hmB⟩
          case measure => simp [intOf]; omega
      · have HRX := Lib.hid hrx
        have HRY := Lib.hid hry
        have HLK := Lib.hid hlk
        have hxn : x.n ≤ 1000 := by omega
        have HN := Lib.hid hn
        clear hrx hry hlk hS hT hST hn
        go_wp2_with fail
        refine (xall_calls wr p x S hX HLK.out.okx HRX.out).mono ?_
        rintro e w3 ⟨A3, c3, m, rfl, hp, hs, hr3, hm3, _⟩
        obtain ⟨s1, s2, s3⟩ := sorted_map HLK.out.okx hp hs
        have hX3 := hX.mod0 hm3
        have hY3 := hY.mod0 hm3
        have hm13 := hm.then0 hm3
        have S1 := Lib.hid s1
        have S2 := Lib.hid s2
        clear hp hs s1 s2 s3 hX hY hm hm3
        go_wp2_with fail
        refine (xall_calls w3 q y T hY3 HLK.out.oky HRY.out).mono ?_
        rintro e w4 ⟨A4, c4, m', rfl, hp, hs, hr4, hm4, _⟩
        obtain ⟨s1, s2, s3⟩ := sorted_map HLK.out.oky hp hs
        have hmm : m = m' := rises_ext S1.out s1 (fun key => ((S2.out key).trans (HLK.out.get key)).trans (s2 key).symm)
        subst hmm
        have hpa : Calls Try.prog 30 #[.slice A3 m.length c3, .slice A4 m.length c4] w4 fun e w'' => e = .returned (.bool true) ∧ Mod NoneB w4 w'' := by
          have h := pairs_calls m m A3 A4 c3 c4 w4 (hr3.mod0 hm4) hr4
          rw [decide_eq_true rfl] at h
          exact h
        have HPA := Lib.hid hpa
        have hX4 := hX3.mod0 hm4
        have hY4 := hY3.mod0 hm4
        have hm14 := hm13.then0 hm4
        clear hpa hp hs s1 s2 s3 HRX HRY hr3 hr4 hX3 hY3 hm13 S1 S2 HLK
        go_wp2_with fail
        refine HPA.out.mono ?_
        rintro e w5 ⟨rfl, hm5⟩
        go_wp2_with fail
        refine (xlen_calls w5 p x S (hX4.mod0 hm5)).mono ?_
        rintro e wy ⟨rfl, hwy⟩
        subst hwy
        go_wp2_with fail
        refine (xlen_calls wy q y T (hY4.mod0 hm5)).mono ?_
        rintro e wx ⟨rfl, hwx⟩
        subst hwx
        rw [← HN.out]
        have hm15 := hm14.then0 hm5
        clear hX4 hY4 hm14 hm5 HN HPA
        go_wp2_with ((with_reducible refine (awake9_calls _).mono ?_); rintro ez wz ⟨rfl, hmz⟩)
        go_ret
        exact ⟨rfl, hm15.then0 hmz⟩
end Go.Proofs.Ytfbnkbdolimojaa
