/- IndexRuns: whatever is done, with however many buckets, it answers as a list of pairs would: the walk of the law. -/
import Derived.Test.YtfbnkbdolimojaaIxAll
import Derived.Test.YtfbnkbdolimojaaOpenI
import Derived.Test.YtfbnkbdolimojaaRefApp
import Derived.Test.YtfbnkbdolimojaaEqs
namespace Go.Proofs.Ytfbnkbdolimojaa
open Go.RowKit
set_option linter.unusedVariables false

theorem ix_sorted {x : Ix} (h : IxOk x) : ∃ m : List Pr, m.Perm x.bs.flatten ∧ m.Pairwise fun a b => ¬ cmpS b.k a.k < 0 := by
  refine ⟨x.bs.flatten.mergeSort fun a b => decide (¬ cmpS b.k a.k < 0), List.mergeSort_perm _ _, ?_⟩
  have hs := List.pairwise_mergeSort (le := fun a b : Pr => decide (¬ cmpS b.k a.k < 0)) (fun a b c h1 h2 => by
    simp only [decide_eq_true_eq] at *
    intro h3
    rcases lt_tri c.k b.k with h4 | h4 | h4
    · exact h2 h4
    · rw [h4] at h3; exact h1 h3
    · exact h1 (cmpS_trans h4 h3)) (fun a b => by
    simp only [Bool.or_eq_true, decide_eq_true_eq]
    by_cases h1 : cmpS b.k a.k < 0
    · exact .inr (lt_asymm h1)
    · exact .inl h1) x.bs.flatten
  exact hs.imp fun {a b} h => by simpa using h
/-- An index and a map that answer alike have one size. -/
theorem ix_len {x : Ix} {r : List Pr} (h : IxOk x) (hr : Rises r) (hg : ∀ key, getX x key = getT r key) : x.n = r.length := by
  obtain ⟨m, hp, hs⟩ := ix_sorted h
  obtain ⟨h1, h2, h3⟩ := sorted_map h hp hs
  rw [← h3, rises_ext h1 hr (fun key => (h2 key).trans (hg key))]
theorem ix_one {x : Ix} (h : IxOk x) (key : ByteArray) (hk : getT (atB x.bs key) key ≠ none) : 1 ≤ x.n := by
  cases hg : getT (atB x.bs key) key with
  | none => exact absurd hg hk
  | some v =>
    have h1 := (mem_getT (h.once_at key)).1 hg
    have h2 := (mem_flatten h ⟨key, v⟩).2 h1
    rw [h.n]
    exact List.length_pos_of_mem h2
theorem delX_len (x : Ix) (key : ByteArray) : (delX x key).bs.length = x.bs.length := by unfold delX; split <;> simp
theorem apply_put {r : List Pr} (h : Rises r) (k v : ByteArray) : applyT r [⟨false, k, v⟩] = putT r k v := by rw [applyT_rises h]; rfl
theorem apply_del {r : List Pr} (h : Rises r) (k : ByteArray) : applyT r [⟨true, k, ⟨#[]⟩⟩] = delT r k := by rw [applyT_rises h]; rfl

theorem delT_length_le (r : List Pr) (k : ByteArray) : (delT r k).length ≤ r.length + 1 := by
  unfold delT
  split
  · simp; omega
  · omega
/-- An index and a map that answer alike. -/
structure Twin (x : Ix) (r : List Pr) : Prop where
  ok : IxOk x
  rises : Rises r
  get : ∀ key, getX x key = getT r key
  len : x.bs.length ≤ 1024
theorem Twin.put {x : Ix} {r : List Pr} (h : Twin x r) (k v : ByteArray) : Twin (putX x k v) (putT r k v) :=
  ⟨h.ok.put k v, rises_putT h.rises k v, fun key => by rw [getX_put h.ok, getT_putT h.rises, h.get], by rw [putX_len]; exact h.len⟩
theorem Twin.del {x : Ix} {r : List Pr} (h : Twin x r) (k : ByteArray) : Twin (delX x k) (delT r k) :=
  ⟨h.ok.del k, rises_delT h.rises k, fun key => by rw [getX_del h.ok, getT_delT h.rises, h.get], by rw [delX_len]; exact h.len⟩
theorem Twin.n {x : Ix} {r : List Pr} (h : Twin x r) : x.n = r.length := ix_len h.ok h.rises h.get
theorem Twin.room {x : Ix} {r : List Pr} (h : Twin x r) (hr : r.length ≤ 1000000) : RoomX x := h.ok.room h.len (by rw [h.n]; exact hr)

set_option maxHeartbeats 8000000 in
set_option maxRecDepth 100000 in
theorem indexRuns_walk (z0 : Int) (l1 : List Act9) (a1 : Option Addr) (c1 : Nat) (w : World) (rd1 : Rd w 3 a1 l1.length (l1.flatMap encA9)) :
    Calls Try.prog 5 #[.int .i64 z0, .slice a1 l1.length c1] w fun e w' => e = .returned (.bool true) ∧ Mod NoneB w w' := by
  go_enter Try.func5, Try.ntmps5
  go_wp2_with fail
  refine (heavy9_calls l1 a1 c1 _ rd1).mono ?_
  rintro e w1 ⟨b, rfl, hm1, hb1⟩
  cases b with
  | true =>
    clear hb1
    go_wp2_with ((with_reducible refine (awake9_calls _).mono ?_); rintro e wz ⟨rfl, hmz⟩)
    go_ret
    exact ⟨rfl, hm1.then0 hmz⟩
  | false =>
    obtain ⟨hll, hli⟩ := hb1 rfl
    have HLI := Lib.hid hli
    clear hb1 hli
    go_wp2_with fail
    refine (xnew_calls z0 w1).mono ?_
    rintro e w2 ⟨p, S0, k, rfl, hk0, hk1, hX0, hm2, hS0⟩
    have ht0 : Twin (newX k) [] := ⟨IxOk.new hk0, rises_nil, fun key => by rw [getX_new hk0]; rfl, by simp [newX]; omega⟩
    have hm12 := hm1.then0 hm2
    have hs0 : ∀ j, S0 j → w.heap.size ≤ j := fun j hj => Nat.le_trans hm1.size (hS0 j hj)
    obtain ⟨x0, hx0⟩ : ∃ x0, x0 = newX k := ⟨_, rfl⟩
    rw [← hx0] at ht0 hX0
    clear hx0 hk0 hk1 hm1 hm2 hS0
    go_wp2_with fail
    go_loopw [6, 7] (fun v i wr => ∃ (j : Nat) (x : Ix) (r : List Pr) (S : Nat → Prop) (A : Option Addr) (c : Nat), v = .slice A r.length c ∧ i = .int .i64 j ∧ j ≤ l1.length ∧ r.length ≤ j ∧ Twin x r ∧ IsX wr p x S ∧ (∀ k, S k → w.heap.size ≤ k) ∧ Mod NoneB w wr ∧ Rd wr 2 A r.length (encPs r) ∧ (∀ ad, A = some ad → ¬ S ad.block ∧ ad.block < wr.heap.size)) (fun _ i _ => l1.length - (intOf i).toNat)
    case atStart => exact ⟨0, x0, [], S0, none, 0, rfl, rfl, by omega, by simp, ht0, hX0, hs0, hm12, Rd.nil _ _ _, fun ad h => by cases h⟩
    case round =>
      clear ht0 hX0 hs0 hm12
      obtain ⟨j, x, r, S, A, c, rfl, rfl, hj, hrj, htw, hX, hS, hm, hrd, hA⟩ := hrel
      have hrm := htw.room (by omega)
      by_cases hlt : j < l1.length
      · obtain ⟨ad, rfl, h0, hk⟩ := Rd.elem (f := encA9) (fun _ => rfl) rd1 (by decide) j hlt
        have g0 := hm.cell0 (h0 _ rfl)
        have g1 := hm.cell0 (hk 1 _ (by decide) (by decide) rfl)
        have g2 := hm.cell0 (hk 2 _ (by decide) (by decide) rfl)
        have hla := HLI.out l1[j] (List.getElem_mem _)
        unfold LightI at hla
        obtain ⟨a, ha⟩ : ∃ a, a = l1[j] := ⟨_, rfl⟩
        rw [← ha] at g0 g1 g2 hla
        obtain ⟨ad', ak, av⟩ := a
        simp only at g0 g1 g2 hla
        clear h0 hk ha
        obtain ⟨gv, hgv⟩ : ∃ gv, gv = getV r ak := ⟨_, rfl⟩
        obtain ⟨gb, hgb⟩ : ∃ gb, gb = getB r ak := ⟨_, rfl⟩
        have hxv : (getX x ak).getD ⟨#[]⟩ = gv := by rw [hgv, htw.get]; rfl
        have hxb : (getX x ak).isSome = gb := by rw [hgb, htw.get]; rfl
        have HGV := Lib.hid hgv
        have HGB := Lib.hid hgb
        have HXV := Lib.hid hxv
        have HXB := Lib.hid hxb
        clear hgv hgb hxv hxb
        obtain ⟨wB, hwB⟩ : ∃ wB, wB = wr.alloc (.cells #[.int .i64 ad', .string ak, .string av] 66) := ⟨_, rfl⟩
        have hal : Mod NoneB wr wB := by rw [hwB]; exact (Mod.refl NoneB wr).alloc _
        have hbk : wB.heap[wr.heap.size]? = some (.cells #[.int .i64 ad', .string ak, .string av] 66 (0, 0)) := by rw [hwB]; exact heap_alloc_new wr _
        have HWB := Lib.hid hwB
        clear hwB
        have d0 : wB.cell? ⟨wr.heap.size, 0, none⟩ = some (.int .i64 ad') := blk_cell hbk 0
        have d1 : wB.cell? ⟨wr.heap.size, 1, none⟩ = some (.string ak) := blk_cell hbk 1
        have d2 : wB.cell? ⟨wr.heap.size, 2, none⟩ = some (.string av) := blk_cell hbk 2
        have hXB := hX.mod0 hal
        have hrB := hrd.mod0 hal
        have hnB : ¬ S wr.heap.size := fun h => absurd (hX.lt h) (Nat.lt_irrefl _)
        have hmB := hm.then0 hal
        have hAB : ∀ ad, A = some ad → ¬ S ad.block ∧ ad.block < wB.heap.size := fun ad h => ⟨(hA ad h).1, Nat.lt_of_lt_of_le (hA ad h).2 hal.size⟩
        have HAB := Lib.hid hAB
        have HNB := Lib.hid hnB
        go_wp2_with fail
        rw [← HWB.out]
        obtain ⟨gg, hgg⟩ : ∃ gg, gg = wr.heap.size := ⟨_, rfl⟩
        rw [← hgg] at d0 d1 d2 HNB ⊢
        clear hA hX hrd hm hal hbk g0 g1 g2 hgg HWB hAB hnB
        go_wp2_with fail
        refine (rfind_calls r ak A c wB hrB).mono ?_
        rintro e wz ⟨rfl, hwz⟩
        subst hwz
        rw [← HGV.out, ← HGB.out]
        have hbw : w.heap.size ≤ wz.heap.size := hmB.size
        have HBW := Lib.hid hbw
        have hn0 := htw.n
        have HN := Lib.hid hn0
        clear hbw hn0
        by_cases q0 : ad' = 0
        · subst q0
          have htw2 := htw.put ak av
          have hpl := putT_length_le r ak av
          have hn2 : (putX x ak av).n = (putT r ak av).length := htw2.n
          have hap := apply_put htw.rises ak av
          obtain ⟨x2, hx2⟩ : ∃ x2, x2 = putX x ak av := ⟨_, rfl⟩
          obtain ⟨r2, hr2⟩ : ∃ r2, r2 = putT r ak av := ⟨_, rfl⟩
          rw [← hx2] at htw2 hn2
          rw [← hr2] at htw2 hn2 hpl hap
          have HX2 := Lib.hid hx2
          have HN2 := Lib.hid hn2
          have HTW2 := Lib.hid htw2
          have HAP := Lib.hid hap
          clear hx2 hr2 hn2 htw2 hap
          go_wp2_with fail
          refine (xput_calls _ p x S ak av hXB hrm (by omega)).mono ?_
          rintro e w3 ⟨rfl, S3, hX3, hm3, hn3⟩
          rw [← HX2.out] at hX3
          have d1' := hm3.cell d1 HNB.out
          have d2' := hm3.cell d2 HNB.out
          have hr3 := hrB.modP hm3 (fun _ ad h => (HAB.out ad h).1)
          obtain ⟨w4, hw4⟩ : ∃ w4, w4 = w3.alloc (.cells #[.bool false, .string ak, .string av] 69) := ⟨_, rfl⟩
          have hal4 : Mod NoneB w3 w4 := by rw [hw4]; exact (Mod.refl NoneB w3).alloc _
          have hop : Rd w4 3 (some ⟨w3.heap.size, 0, none⟩) 1 (encOs [⟨false, ak, av⟩]) := rdBlk (sz := 3) (n := 1) (by rw [hw4]; exact heap_alloc_new w3 _) rfl (by omega)
          have hX4 := hX3.mod0 hal4
          have hm34 : Mod NoneB w w4 := (hmB.trans_new hm3 (fun k hk => .inr (hS k hk))).then0 hal4
          have hlt3 : ∀ k, S3 k → k < w4.heap.size := fun k hk => hX4.lt hk
          have hr4 := hr3.mod0 hal4
          have HW4 := Lib.hid hw4
          have hrl : r.length ≤ 1000 := by omega
          clear hw4 hX3 hr3 hal4 d0 d1 d2 hrB hXB hm3 hmB
          go_wp2_with fail
          rw [← HW4.out]
          go_wp2_with fail
          refine (rapply_calls r [⟨false, ak, av⟩] A (some ⟨w3.heap.size, 0, none⟩) c 1 w4 hr4 hop (by simp only [List.length_cons, List.length_nil]; omega)).mono ?_
          rintro e w5 ⟨v5, rfl, ho5, hm5⟩
          rw [HAP.out] at ho5
          have hlt5 : ∀ g, v5.ownBlock = some g → g < w5.heap.size := fun g hg => ho5.own.lt hg
          have hnew5 := ho5.new
          obtain ⟨A5, c5, rfl, hr5⟩ := ho5.own.nilD0
          have hA5 : ∀ ad, A5 = some ad → ¬ S3 ad.block ∧ ad.block < w5.heap.size := fun ad h => ⟨fun hs => by
            have h1 := hnew5 ad.block (by rw [h]; rfl)
            have h2 := hlt3 _ hs
            omega, hlt5 ad.block (by rw [h]; rfl)⟩
          have hX5 := hX4.mod0 hm5
          have hm35 := hm34.then0 hm5
          have hS3 : ∀ k, S3 k → w.heap.size ≤ k := fun k hk => (hn3 k hk).elim (hS k) (fun h => by have := HBW.out; omega)
          have HA5 := Lib.hid hA5
          have HS3 := Lib.hid hS3
          clear ho5 hlt5 hnew5 hA5 hS3 hlt3 hn3 hr4 hop hX4 hm34 hm5 d1' d2' HW4
          go_wp2_with fail
          refine (xlen_calls w5 p x2 S3 hX5).mono ?_
          rintro e wy ⟨rfl, hwy⟩
          subst hwy
          rw [HN2.out]
          go_wp2_with fail
          go_roundw
          case rel => exact ⟨j + 1, x2, r2, S3, A5, c5, rfl, by go_num, by omega, by omega, HTW2.out, hX5, HS3.out, hm35, hr5, HA5.out⟩
          case measure => simp [intOf]; omega
        by_cases q1 : ad' = 1
        · subst q1
          have htw2 := htw.put ak av
          have hpl := putT_length_le r ak av
          have hn2 : (putX x ak av).n = (putT r ak av).length := htw2.n
          have hap := apply_put htw.rises ak av
          obtain ⟨x2, hx2⟩ : ∃ x2, x2 = putX x ak av := ⟨_, rfl⟩
          obtain ⟨r2, hr2⟩ : ∃ r2, r2 = putT r ak av := ⟨_, rfl⟩
          rw [← hx2] at htw2 hn2
          rw [← hr2] at htw2 hn2 hpl hap
          have HX2 := Lib.hid hx2
          have HN2 := Lib.hid hn2
          have HTW2 := Lib.hid htw2
          have HAP := Lib.hid hap
          clear hx2 hr2 hn2 htw2 hap
          go_wp2_with fail
          refine (xput_calls _ p x S ak av hXB hrm (by omega)).mono ?_
          rintro e w3 ⟨rfl, S3, hX3, hm3, hn3⟩
          rw [← HX2.out] at hX3
          have d1' := hm3.cell d1 HNB.out
          have d2' := hm3.cell d2 HNB.out
          have hr3 := hrB.modP hm3 (fun _ ad h => (HAB.out ad h).1)
          obtain ⟨w4, hw4⟩ : ∃ w4, w4 = w3.alloc (.cells #[.bool false, .string ak, .string av] 69) := ⟨_, rfl⟩
          have hal4 : Mod NoneB w3 w4 := by rw [hw4]; exact (Mod.refl NoneB w3).alloc _
          have hop : Rd w4 3 (some ⟨w3.heap.size, 0, none⟩) 1 (encOs [⟨false, ak, av⟩]) := rdBlk (sz := 3) (n := 1) (by rw [hw4]; exact heap_alloc_new w3 _) rfl (by omega)
          have hX4 := hX3.mod0 hal4
          have hm34 : Mod NoneB w w4 := (hmB.trans_new hm3 (fun k hk => .inr (hS k hk))).then0 hal4
          have hlt3 : ∀ k, S3 k → k < w4.heap.size := fun k hk => hX4.lt hk
          have hr4 := hr3.mod0 hal4
          have HW4 := Lib.hid hw4
          have hrl : r.length ≤ 1000 := by omega
          clear hw4 hX3 hr3 hal4 d0 d1 d2 hrB hXB hm3 hmB
          go_wp2_with fail
          rw [← HW4.out]
          go_wp2_with fail
          refine (rapply_calls r [⟨false, ak, av⟩] A (some ⟨w3.heap.size, 0, none⟩) c 1 w4 hr4 hop (by simp only [List.length_cons, List.length_nil]; omega)).mono ?_
          rintro e w5 ⟨v5, rfl, ho5, hm5⟩
          rw [HAP.out] at ho5
          have hlt5 : ∀ g, v5.ownBlock = some g → g < w5.heap.size := fun g hg => ho5.own.lt hg
          have hnew5 := ho5.new
          obtain ⟨A5, c5, rfl, hr5⟩ := ho5.own.nilD0
          have hA5 : ∀ ad, A5 = some ad → ¬ S3 ad.block ∧ ad.block < w5.heap.size := fun ad h => ⟨fun hs => by
            have h1 := hnew5 ad.block (by rw [h]; rfl)
            have h2 := hlt3 _ hs
            omega, hlt5 ad.block (by rw [h]; rfl)⟩
          have hX5 := hX4.mod0 hm5
          have hm35 := hm34.then0 hm5
          have hS3 : ∀ k, S3 k → w.heap.size ≤ k := fun k hk => (hn3 k hk).elim (hS k) (fun h => by have := HBW.out; omega)
          have HA5 := Lib.hid hA5
          have HS3 := Lib.hid hS3
          clear ho5 hlt5 hnew5 hA5 hS3 hlt3 hn3 hr4 hop hX4 hm34 hm5 d1' d2' HW4
          go_wp2_with fail
          refine (xlen_calls w5 p x2 S3 hX5).mono ?_
          rintro e wy ⟨rfl, hwy⟩
          subst hwy
          rw [HN2.out]
          go_wp2_with fail
          go_roundw
          case rel => exact ⟨j + 1, x2, r2, S3, A5, c5, rfl, by go_num, by omega, by omega, HTW2.out, hX5, HS3.out, hm35, hr5, HA5.out⟩
          case measure => simp [intOf]; omega
        by_cases q2 : ad' = 2
        · subst q2
          go_wp2_with fail
          refine (xget_calls _ p x S ak hXB hrm (by omega)).mono ?_
          rintro e w3 ⟨rfl, hm3⟩
          rw [HXV.out, HXB.out]
          have b1 : (gb != gb) = false := by simp
          have b2 : (gv.toList != gv.toList) = false := by simp
          have hX3 := hXB.mod0 hm3
          have hr3 := hrB.mod0 hm3
          have hm13 := hmB.then0 hm3
          have hA3 : ∀ ad, A = some ad → ¬ S ad.block ∧ ad.block < w3.heap.size := fun ad h => ⟨(HAB.out ad h).1, Nat.lt_of_lt_of_le (HAB.out ad h).2 hm3.size⟩
          have HA3 := Lib.hid hA3
          have HS := Lib.hid hS
          clear hA3 hm3 hXB hrB hmB d0 d1 d2 hS
          go_wp2_with fail
          refine (xlen_calls _ p x S hX3).mono ?_
          rintro e wy ⟨rfl, hwy⟩
          subst hwy
          rw [HN.out]
          go_wp2_with fail
          go_roundw
          case rel => exact ⟨j + 1, x, r, S, A, c, rfl, by go_num, by omega, by omega, htw, hX3, HS.out, hm13, hr3, HA3.out⟩
          case measure => simp [intOf]; omega
        by_cases q3 : ad' = 3
        · subst q3
          have htw2 := htw.del ak
          have hpl := delT_length_le r ak
          have hn2 : (delX x ak).n = (delT r ak).length := htw2.n
          have hap := apply_del htw.rises ak
          obtain ⟨x2, hx2⟩ : ∃ x2, x2 = delX x ak := ⟨_, rfl⟩
          obtain ⟨r2, hr2⟩ : ∃ r2, r2 = delT r ak := ⟨_, rfl⟩
          rw [← hx2] at htw2 hn2
          rw [← hr2] at htw2 hn2 hpl hap
          have HX2 := Lib.hid hx2
          have HN2 := Lib.hid hn2
          have HTW2 := Lib.hid htw2
          have HAP := Lib.hid hap
          clear hx2 hr2 hn2 htw2 hap
          go_wp2_with fail
          refine (xdel_calls _ p x S ak hXB hrm (by omega) (ix_one htw.ok ak)).mono ?_
          rintro e w3 ⟨rfl, S3, hX3, hm3, hn3⟩
          rw [← HX2.out] at hX3
          rw [HXB.out]
          have b1 : (gb != gb) = false := by simp
          have d1' := hm3.cell d1 HNB.out
          have d2' := hm3.cell d2 HNB.out
          have hr3 := hrB.modP hm3 (fun _ ad h => (HAB.out ad h).1)
          obtain ⟨w4, hw4⟩ : ∃ w4, w4 = w3.alloc (.cells #[.bool true, .string ak, .string ⟨#[]⟩] 69) := ⟨_, rfl⟩
          have hal4 : Mod NoneB w3 w4 := by rw [hw4]; exact (Mod.refl NoneB w3).alloc _
          have hop : Rd w4 3 (some ⟨w3.heap.size, 0, none⟩) 1 (encOs [⟨true, ak, ⟨#[]⟩⟩]) := rdBlk (sz := 3) (n := 1) (by rw [hw4]; exact heap_alloc_new w3 _) rfl (by omega)
          have hX4 := hX3.mod0 hal4
          have hm34 : Mod NoneB w w4 := (hmB.trans_new hm3 (fun k hk => .inr (hS k hk))).then0 hal4
          have hlt3 : ∀ k, S3 k → k < w4.heap.size := fun k hk => hX4.lt hk
          have hr4 := hr3.mod0 hal4
          have HW4 := Lib.hid hw4
          have hrl : r.length ≤ 1000 := by omega
          clear hw4 hX3 hr3 hal4 d0 d1 d2 hrB hXB hm3 hmB
          go_wp2_with fail
          rw [← HW4.out]
          go_wp2_with fail
          refine (rapply_calls r [⟨true, ak, ⟨#[]⟩⟩] A (some ⟨w3.heap.size, 0, none⟩) c 1 w4 hr4 hop (by simp only [List.length_cons, List.length_nil]; omega)).mono ?_
          rintro e w5 ⟨v5, rfl, ho5, hm5⟩
          rw [HAP.out] at ho5
          have hlt5 : ∀ g, v5.ownBlock = some g → g < w5.heap.size := fun g hg => ho5.own.lt hg
          have hnew5 := ho5.new
          obtain ⟨A5, c5, rfl, hr5⟩ := ho5.own.nilD0
          have hA5 : ∀ ad, A5 = some ad → ¬ S3 ad.block ∧ ad.block < w5.heap.size := fun ad h => ⟨fun hs => by
            have h1 := hnew5 ad.block (by rw [h]; rfl)
            have h2 := hlt3 _ hs
            omega, hlt5 ad.block (by rw [h]; rfl)⟩
          have hX5 := hX4.mod0 hm5
          have hm35 := hm34.then0 hm5
          have hS3 : ∀ k, S3 k → w.heap.size ≤ k := fun k hk => (hn3 k hk).elim (hS k) (fun h => by have := HBW.out; omega)
          have HA5 := Lib.hid hA5
          have HS3 := Lib.hid hS3
          clear ho5 hlt5 hnew5 hA5 hS3 hlt3 hn3 hr4 hop hX4 hm34 hm5 d1' d2' HW4
          go_wp2_with fail
          refine (xlen_calls w5 p x2 S3 hX5).mono ?_
          rintro e wy ⟨rfl, hwy⟩
          subst hwy
          rw [HN2.out]
          go_wp2_with fail
          go_roundw
          case rel => exact ⟨j + 1, x2, r2, S3, A5, c5, rfl, by go_num, by omega, by omega, HTW2.out, hX5, HS3.out, hm35, hr5, HA5.out⟩
          case measure => simp [intOf]; omega
        · have HS := Lib.hid hS
          clear hS
          go_wp2_with fail
          refine (xlen_calls _ p x S hXB).mono ?_
          rintro e wy ⟨rfl, hwy⟩
          subst hwy
          rw [HN.out]
          go_wp2_with fail
          go_roundw
          case rel => exact ⟨j + 1, x, r, S, A, c, rfl, by go_num, by omega, by omega, htw, hXB, HS.out, hmB, hrB, HAB.out⟩
          case measure => simp [intOf]; omega
      · have hje : j = l1.length := by omega
        have HRM := Lib.hid hrm
        have HTW := Lib.hid htw
        have hrlt := hrm.n
        clear hrm htw hS
        go_wp2_with fail
        refine (xall_calls wr p x S hX HTW.out.ok HRM.out).mono ?_
        rintro e w3 ⟨A3, c3, m, rfl, hp, hs, hr3, hm3, _⟩
        obtain ⟨s1, s2, s3⟩ := sorted_map HTW.out.ok hp hs
        have hmr : m = r := rises_ext s1 HTW.out.rises (fun key => (s2 key).trans (HTW.out.get key))
        subst hmr
        have hpa : Calls Try.prog 30 #[.slice A3 m.length c3, .slice A m.length c] w3 fun e w'' => e = .returned (.bool true) ∧ Mod NoneB w3 w'' := by
          have h := pairs_calls m m A3 A c3 c w3 hr3 (hrd.mod0 hm3)
          rw [decide_eq_true rfl] at h
          exact h
        have HPA := Lib.hid hpa
        have hm13 := hm.then0 hm3
        clear hpa hp hs s1 s2 s3 HTW HRM hr3 hm3 hX hrd hA hm
        go_wp2_with (first
          | ((with_reducible refine HPA.out.mono ?_); rintro ez wq ⟨rfl, hmq⟩)
          | ((with_reducible refine (awake9_calls _).mono ?_); rintro ez wz ⟨rfl, hmz⟩))
        go_ret
        exact ⟨rfl, (hm13.then0 hmq).then0 hmz⟩
end Go.Proofs.Ytfbnkbdolimojaa
