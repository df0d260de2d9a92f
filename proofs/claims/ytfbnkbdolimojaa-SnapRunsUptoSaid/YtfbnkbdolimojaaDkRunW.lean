/- DiskRuns: whatever is done, by whatever plans, a disk answers, and has, what the document says: the walk of the law. -/
import Derived.Test.YtfbnkbdolimojaaDoA
import Derived.Test.YtfbnkbdolimojaaSame
import Derived.Test.YtfbnkbdolimojaaBulk
namespace Go.Proofs.Ytfbnkbdolimojaa
open Go.RowKit
set_option linter.unusedVariables false

def NoB : Nat → Prop := fun _ => False
/-- Two new disks. -/
theorem Two.fresh {w0 w1 w2 w4 : World} {p q : Nat} {d r : Dk} {S R : Nat → Prop} (h0 : Mod NoneB w0 w1) (hd : IsD w2 p d S) (hm : Mod NoneB w1 w2) (hS : ∀ k, S k → w1.heap.size ≤ k) (hr : IsR w0.heap.size w4 q r R) (hm4 : Mod NoneB w2 w4) (hR : ∀ k, R k → w2.heap.size ≤ k) : Two NoB w0 w4 p q d r := by
  refine ⟨R, ⟨S, hd.mod0 hm4, Mod.refl _ _, fun k hk hn => ?_, fun k hk => ?_⟩, hr, fun _ _ h => h, (h0.then0 hm).then0 hm4⟩
  · have h1 := hS k hk
    have h2 := hd.lt hk
    have h3 := h0.size
    rcases hn with hn | hn | hn
    · omega
    · exact hn
    · have := hR k hn; omega
  · have h3 := ((h0.then0 hm).then0 hm4).size
    rcases hk with hk | hk | hk
    · omega
    · exact hk.elim
    · exact hr.lt hk
/-- A disk behind j acts. -/
structure GoodJ (l : List ActV) (j : Nat) (d : Dk) : Prop where
  c : d.c ≤ j
  n : d.fs.length ≤ j
  u : usedF d.fs ≤ lensB (l.take j)
  cap : d.p.cap ≤ 9223372036854775807
theorem GoodJ.fits {l : List ActV} {j : Nat} {d : Dk} (h : GoodJ l j d) (hj : j ≤ 120) (hb : lensB l ≤ 1048576) : FitsR d := by
  have := lensB_take_le l j
  exact ⟨by have := h.c; omega, by have := h.n; omega, by have := h.u; omega⟩
theorem GoodJ.next {l : List ActV} {j : Nat} {d : Dk} (h : GoodJ l j d) (hj : j < l.length) (hc : l[j].p.p.cap ≤ 9223372036854775807) : GoodJ l (j + 1) (doD d l[j]) := by
  have hg := doD_grow d l[j]
  have h1 := lensB_take l j hj
  refine ⟨by have := hg.c; have := h.c; omega, by have := hg.l; have := h.n; omega, by have := hg.u; have := h.u; omega, ?_⟩
  rcases doD_cap d l[j] with e | e
  · rw [e]; exact h.cap
  · rw [e]; exact hc

set_option maxHeartbeats 4000000 in
set_option maxRecDepth 100000 in
theorem diskRuns_walk (x0 : PlV) (l1 : List ActV) (a1 : Option Addr) (c1 : Nat) (w : World) (ok0 : PlOk w x0) (cap0 : x0.p.cap ≤ 9223372036854775807) (rd1 : Rd w 10 a1 l1.length (l1.flatMap encAct)) (ok1 : ∀ x ∈ l1, ActOk2 w x) (bk1 : lensB l1 ≤ 1048576) :
    Calls Try.prog 3 #[.agg #[.int .i64 x0.p.cap, .slice x0.F x0.p.fail.length x0.fc, .int .i64 x0.p.crash, .bool x0.p.done, .slice x0.K x0.p.keep.length x0.kc], .slice a1 l1.length c1] w fun e w' => e = .returned (.bool true) ∧ Mod NoneB w w' := by
  go_enter Try.func3, Try.ntmps3
  go_wp2_with fail
  obtain ⟨o1, ho1⟩ : ∃ o, o = Obj.cells #[.int .i64 x0.p.cap, .slice x0.F x0.p.fail.length x0.fc, .int .i64 x0.p.crash, .bool x0.p.done, .slice x0.K x0.p.keep.length x0.kc] 24 := ⟨_, rfl⟩
  have hm1 : Mod NoneB w (w.alloc o1) := (Mod.refl NoneB _).alloc _
  have z1 := box1 w o1
  rw [← ho1]
  obtain ⟨B, hB⟩ : ∃ B, B = w.heap.size := ⟨_, rfl⟩
  rw [← hB] at z1 ⊢
  generalize w.alloc o1 = w1 at hm1 z1 ⊢
  rw [ho1] at z1
  clear ho1 hB
  refine (heavy1_calls l1 a1 c1 w1 (rd1.mod0 hm1)).mono ?_
  rintro e w2 ⟨b, rfl, hm2, hb2⟩
  have z2 := hm2.blk z1 (fun h => h)
  have hm12 := hm1.then0 hm2
  have x0c : w2.cell? ⟨B, 0, none⟩ = some (.int .i64 x0.p.cap) := by rw [blk_cell z2]; rfl
  have x1c : w2.cell? ⟨B, 1, none⟩ = some (.slice x0.F x0.p.fail.length x0.fc) := by rw [blk_cell z2]; rfl
  have x2c : w2.cell? ⟨B, 2, none⟩ = some (.int .i64 x0.p.crash) := by rw [blk_cell z2]; rfl
  have x3c : w2.cell? ⟨B, 3, none⟩ = some (.bool x0.p.done) := by rw [blk_cell z2]; rfl
  have x4c : w2.cell? ⟨B, 4, none⟩ = some (.slice x0.K x0.p.keep.length x0.kc) := by rw [blk_cell z2]; rfl
  clear z1 z2 hm1 hm2
  cases b with
  | true =>
    clear hb2
    go_wp2_with ((with_reducible refine (awake1_calls _).mono ?_); rintro e wz ⟨rfl, hz⟩)
    go_ret
    exact ⟨rfl, hm12.then0 hz⟩
  | false =>
    obtain ⟨hl120, _, hli⟩ := hb2 rfl
    clear hb2
    by_cases hf2 : 200 < x0.p.fail.length
    · clear hli
      go_wp2_with ((with_reducible refine (awake1_calls _).mono ?_); rintro e wz ⟨rfl, hz⟩)
      go_ret
      exact ⟨rfl, hm12.then0 hz⟩
    by_cases hk2 : 200 < x0.p.keep.length
    · clear hli
      go_wp2_with ((with_reducible refine (awake1_calls _).mono ?_); rintro e wz ⟨rfl, hz⟩)
      go_ret
      exact ⟨rfl, hm12.then0 hz⟩
    have hnew : ∀ W, Mod NoneB w2 W → Calls Try.prog 13 #[.agg #[.int .i64 x0.p.cap, .slice x0.F x0.p.fail.length x0.fc, .int .i64 x0.p.crash, .bool x0.p.done, .slice x0.K x0.p.keep.length x0.kc]] W fun e w' => ∃ p S, e = .returned (.pointer (some ⟨p, 0, none⟩)) ∧ IsD w' p ⟨x0.p, [], 0, false⟩ S ∧ Mod NoneB W w' ∧ ∀ k, S k → W.heap.size ≤ k :=
      fun W hm => new_calls W x0.p x0.F x0.K x0.fc x0.kc (ok0.fail.mod0 (hm12.then0 hm)) (ok0.keep.mod0 (hm12.then0 hm)) (by omega) (by omega)
    have hrnew : ∀ W, Mod NoneB w2 W → Calls Try.prog 14 #[.agg #[.int .i64 x0.p.cap, .slice x0.F x0.p.fail.length x0.fc, .int .i64 x0.p.crash, .bool x0.p.done, .slice x0.K x0.p.keep.length x0.kc]] W fun e w' => ∃ p S, e = .returned (.pointer (some ⟨p, 0, none⟩)) ∧ IsR w.heap.size w' p ⟨x0.p, [], 0, false⟩ S ∧ Mod NoneB W w' ∧ ∀ k, S k → W.heap.size ≤ k :=
      fun W hm => rnew_calls w.heap.size W x0.p x0.F x0.K x0.fc x0.kc (ok0.fail.mod0 (hm12.then0 hm)) (ok0.keep.mod0 (hm12.then0 hm)) (ok0.fail.block_lt (by decide)) (ok0.keep.block_lt (by decide)) (hm12.then0 hm).size
    have HNEW := Lib.hid hnew
    have HRNEW := Lib.hid hrnew
    have HLI := Lib.hid hli
    have HOK0 := Lib.hid ok0
    have HOK1 := Lib.hid ok1
    have hwd : Mod NoneB w w2.drew := hm12.drew
    have HWD := Lib.hid hwd
    clear hnew hrnew hli ok0 ok1 hwd hm12
    go_wp2_with fail
    go_region_held3 (fun w' => w'.cell? ⟨B, 0, none⟩ = some (.int .i64 x0.p.cap) ∧ w'.cell? ⟨B, 1, none⟩ = some (.slice x0.F x0.p.fail.length x0.fc) ∧ w'.cell? ⟨B, 2, none⟩ = some (.int .i64 x0.p.crash) ∧ w'.cell? ⟨B, 3, none⟩ = some (.bool x0.p.done) ∧ w'.cell? ⟨B, 4, none⟩ = some (.slice x0.K x0.p.keep.length x0.kc)) (first | go_keep | exact ⟨v0, v1, v2, v3, v4⟩ | exact ⟨u0, u1, u2, u3, u4⟩)
      (first
        | (go_at_call 13; (with_reducible refine (HNEW.out _ ((Mod.refl NoneB w2).drew)).mono ?_); rintro ez w3 ⟨p, S, rfl, hD, hm3, hS⟩; have v0 := hm3.cell0 (w := w2.drew) x0c; have v1 := hm3.cell0 (w := w2.drew) x1c; have v2 := hm3.cell0 (w := w2.drew) x2c; have v3 := hm3.cell0 (w := w2.drew) x3c; have v4 := hm3.cell0 (w := w2.drew) x4c)
        | (go_at_call 14; (with_reducible refine (HRNEW.out _ (((Mod.refl NoneB w2).drew).then0 hm3)).mono ?_); rintro ez w4 ⟨q, R, rfl, hR, hm4, hRS⟩; have u0 := hm4.cell0 v0; have u1 := hm4.cell0 v1; have u2 := hm4.cell0 v2; have u3 := hm4.cell0 v3; have u4 := hm4.cell0 v4))
    all_goals
      have htwo : Two NoB w w4 p q ⟨x0.p, [], 0, false⟩ ⟨x0.p, [], 0, false⟩ := Two.fresh HWD.out hD hm3 hS hR hm4 hRS
      have HT := Lib.hid htwo
      clear htwo hD hm3 hS hR hm4 hRS v0 v1 v2 v3 v4 u0 u1 u2 u3 u4 HNEW HRNEW x0c x1c x2c x3c x4c
      go_wp2_with fail
      go_loopw [7] (fun i wr => ∃ (j : Nat) (d : Dk), i = .int .i64 j ∧ j ≤ l1.length ∧ Two NoB w wr p q d d ∧ GoodJ l1 j d) (fun i _ => l1.length - (intOf i).toNat)
      case atStart => exact ⟨0, _, rfl, by omega, HT.out, ⟨Nat.le_refl _, Nat.le_refl _, by simp [usedF], cap0⟩⟩
      case round =>
        obtain ⟨j, d, rfl, hj, ht, hgd⟩ := hrel
        have hft := hgd.fits (by omega) bk1
        have hb := ht.base
        by_cases hlt : j < l1.length
        · obtain ⟨ad, rfl, h0, hk⟩ := Rd.elem (f := encAct) (fun _ => rfl) (rd1.mod0 hb) (by decide) j hlt
          have hok := HOK1.out l1[j] (List.getElem_mem _)
          have hla := HLI.out l1[j] (List.getElem_mem _)
          have hnx := hgd.next hlt hok.cap
          have hul : usedF d.fs + l1[j].b.length ≤ 70368744177664 := by
            have h1 := hgd.u
            have h2 := lensB_take_le l1 j
            have h3 := lensB_get l1 j hlt
            omega
          obtain ⟨a, ha⟩ : ∃ a, a = l1[j] := ⟨_, rfl⟩
          rw [← ha] at h0 hk hok hla hnx hul
          have c0 := h0 _ rfl
          have c1 := hk 1 _ (by decide) (by decide) rfl
          have c2 := hk 2 _ (by decide) (by decide) rfl
          have c3 := hk 3 _ (by decide) (by decide) rfl
          have c4 := hk 4 _ (by decide) (by decide) rfl
          have c5 := hk 5 _ (by decide) (by decide) rfl
          have c6 := hk 6 _ (by decide) (by decide) rfl
          have c7 := hk 7 _ (by decide) (by decide) rfl
          have c8 := hk 8 _ (by decide) (by decide) rfl
          have c9 := hk 9 _ (by decide) (by decide) rfl
          have hdo : ∀ W, Mod NoneB wr W → Calls Try.prog 15 #[.pointer (some ⟨p, 0, none⟩), .pointer (some ⟨q, 0, none⟩), .agg (actCs a.act a)] W fun e w' => e = .returned (.bool true) ∧ Two NoB w w' p q (doD d a) (doD d a) := fun W hm => by
            refine (do_calls NoB w W p q d a (ht.mod0 hm) hft hok.ok hla hul hgd.cap).mono ?_
            rintro e w5 ⟨rfl, h5⟩
            exact ⟨rfl, h5.two⟩
          unfold actCs at hdo
          have HDO := Lib.hid hdo
          have HNX := Lib.hid hnx
          have g0 : (0 : Int) ≤ (j : Int) := by omega
          have g1 : (j : Int) < (l1.length : Int) := by omega
          clear h0 hk hok hla hnx hul ha hdo ht hgd hft hb HT
          go_wp2_with fail
          go_region_law (first
            | (go_simp; go_at_call 15; (with_reducible refine (HDO.out _ ((Mod.refl NoneB wr).drew)).mono ?_); rintro ez w5 ⟨rfl, h5⟩; obtain ⟨_, _, _, _, _, _, _, y6, y7⟩ := h5.shows)
            | (go_simp; go_at_call 16; (with_reducible refine (h5.down).mono ?_); rintro ez wy ⟨rfl, hwy⟩; subst hwy)
            | (go_simp; go_at_call 17; (with_reducible refine (h5.calls).mono ?_); rintro ez wy ⟨rfl, hwy⟩; subst hwy))
          all_goals
            clear c0 c1 c2 c3 c4 c5 c6 c7 c8 c9 y6 y7 HDO
            go_wp2_with fail
            go_roundw
            case rel => exact ⟨j + 1, _, by go_num, by omega, h5, HNX.out⟩
            case measure => simp [intOf]; omega
        · clear HT
          go_wp2_with (first
            | ((with_reducible refine (same1_calls NoB w _ p q d ht hft).mono ?_); rintro ez wy ⟨rfl, hmy⟩)
            | ((with_reducible refine (awake1_calls _).mono ?_); rintro e wz ⟨rfl, hz⟩))
          go_ret
          exact ⟨rfl, (hb.then0 hmy).then0 hz⟩
end Go.Proofs.Ytfbnkbdolimojaa
