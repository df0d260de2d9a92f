/- snap.Save. -/
import Derived.Test.YtfbnkbdolimojaaSnapS
namespace Go.Proofs.Ytfbnkbdolimojaa
open Go.RowKit
set_option linter.unusedVariables false

/-- A disk that may be saved to, and what is saved. -/
structure RoomS (d : Dk) (b : List UInt8) (j : Nat) : Prop where
  c : d.c ≤ 1099511627776 + j
  l : d.fs.length ≤ 1000000 + j
  u : usedF d.fs ≤ 549755813888 + b.length * j
  b : b.length ≤ 1048584
theorem RoomS.fits {d : Dk} {b : List UInt8} {j : Nat} (h : RoomS d b j) (hj : j ≤ 5) : Fits d ∧ usedF d.fs + b.length ≤ 70368744177664 := by
  have h1 : b.length * j ≤ 1048584 * 5 := Nat.mul_le_mul h.b hj
  have h2 := h.c
  have h3 := h.l
  have h4 := h.u
  have h5 := h.b
  exact ⟨⟨by omega, by omega, by omega⟩, by omega⟩
theorem RoomS.step {d : Dk} {b : List UInt8} {j : Nat} (h : RoomS d b j) : RoomS (stepS b j d).1 b (j + 1) := by
  have g := stepS_grow b j d
  have g1 := g.c
  have g2 := g.l
  have g3 := g.u
  have h2 := h.c
  have h3 := h.l
  have h4 := h.u
  exact ⟨by omega, by omega, by rw [Nat.mul_add]; omega, h.b⟩

def SaveE (r : Ans) (Kp : Nat → Prop) (w0 : World) (p : Nat) (e : Ending) (w' : World) : Prop := e = .returned (.int .i64 (r.2 : Nat)) ∧ Dx Kp w0 w' p r.1

set_option maxHeartbeats 4000000 in
set_option maxRecDepth 100000 in
theorem save_calls {Kp : Nat → Prop} {w0 w : World} {p : Nat} {d : Dk} (h : Dx Kp w0 w p d) (l : List Pr) (A : Option Addr) (c : Nat) (hr : Rd w 2 A l.length (encPs l)) (hs : SmallP l) (hroom : RoomS d (tableR l).1 0) :
    Calls Try.prog 43 #[.pointer (some ⟨p, 0, none⟩), .slice A l.length c] w (SaveE (saveR d l) Kp w0 p) := by
  go_enter Try.func43, Try.ntmps43
  go_wp2_with fail
  refine (tencode_calls l A c w hr hs).mono ?_
  rintro e w1 ⟨v, rfl, hov, hm, hnv⟩
  obtain ⟨R, hR⟩ : ∃ R, R = tableR l := ⟨_, rfl⟩
  rw [← hR] at hov hroom ⊢
  have hsr : saveR d l = if R.2 = 0 then saveD d R.1 else (d, R.2) := by rw [hR]; rfl
  have HSR := Lib.hid hsr
  obtain ⟨b, er⟩ := R
  simp only at hov hroom HSR
  clear hsr hR
  obtain ⟨B, bc, rfl, hrb⟩ := hov.nilD0
  clear hov
  by_cases he : er = 0
  · subst he
    have hsv : saveR d l = restS b 5 0 d := by rw [HSR.out]; simp [saveD]
    have HSV := Lib.hid hsv
    clear hsv HSR
    go_wp2_with fail
    have hlt1 := h.lt
    obtain ⟨q, hq0⟩ : ∃ q, q = w1.heap.size := ⟨_, rfl⟩
    have hal : Mod NoneB w1 ((w1.alloc (.cells #[.pointer (some ⟨p, 0, none⟩), .slice B b.length bc] 132)).alloc (.cells #[.func (.func 83) #[.pointer (some ⟨q, 0, none⟩)] #[], .func (.func 84) #[.pointer (some ⟨q, 0, none⟩)] #[], .func (.func 85) #[.pointer (some ⟨q, 0, none⟩)] #[], .func (.func 86) #[.pointer (some ⟨q, 0, none⟩)] #[], .func (.func 87) #[.pointer (some ⟨q, 0, none⟩)] #[]] 133)) := ((Mod.refl NoneB w1).alloc _).alloc _
    obtain ⟨xq, xg⟩ := box2 w1 (.cells #[.pointer (some ⟨p, 0, none⟩), .slice B b.length bc] 132) (.cells #[.func (.func 83) #[.pointer (some ⟨q, 0, none⟩)] #[], .func (.func 84) #[.pointer (some ⟨q, 0, none⟩)] #[], .func (.func 85) #[.pointer (some ⟨q, 0, none⟩)] #[], .func (.func 86) #[.pointer (some ⟨q, 0, none⟩)] #[], .func (.func 87) #[.pointer (some ⟨q, 0, none⟩)] #[]] 133)
    rw [← hq0] at xq xg ⊢
    have hszB : q + 2 ≤ ((w1.alloc (.cells #[.pointer (some ⟨p, 0, none⟩), .slice B b.length bc] 132)).alloc (.cells #[.func (.func 83) #[.pointer (some ⟨q, 0, none⟩)] #[], .func (.func 84) #[.pointer (some ⟨q, 0, none⟩)] #[], .func (.func 85) #[.pointer (some ⟨q, 0, none⟩)] #[], .func (.func 86) #[.pointer (some ⟨q, 0, none⟩)] #[], .func (.func 87) #[.pointer (some ⟨q, 0, none⟩)] #[]] 133)).heap.size := by have := blk_lt xg; omega
    obtain ⟨wB, hwB⟩ : ∃ wB, wB = ((w1.alloc (.cells #[.pointer (some ⟨p, 0, none⟩), .slice B b.length bc] 132)).alloc (.cells #[.func (.func 83) #[.pointer (some ⟨q, 0, none⟩)] #[], .func (.func 84) #[.pointer (some ⟨q, 0, none⟩)] #[], .func (.func 85) #[.pointer (some ⟨q, 0, none⟩)] #[], .func (.func 86) #[.pointer (some ⟨q, 0, none⟩)] #[], .func (.func 87) #[.pointer (some ⟨q, 0, none⟩)] #[]] 133)) := ⟨_, rfl⟩
    rw [← hwB] at hal xq xg hszB ⊢
    have hmB : Mod NoneB w wB := hm.then0 hal
    have hqw : w.heap.size ≤ q := by rw [hq0]; exact hm.size
    have hbk := hrb.block_lt (by decide)
    have hrbB := hrb.mod0 hal
    obtain ⟨G, hGd⟩ : ∃ G : Nat → Prop, G = fun k => Kp k ∨ k = q ∨ k = q + 1 ∨ ∃ ad, B = some ad ∧ 0 < b.length ∧ k = ad.block := ⟨_, rfl⟩
    have hGq : G q := by rw [hGd]; exact .inr (.inl rfl)
    have hGg : G (q + 1) := by rw [hGd]; exact .inr (.inr (.inl rfl))
    have hBG : 0 < b.length → ∀ ad, B = some ad → G ad.block := fun hp ad h => by rw [hGd]; exact .inr (.inr (.inr ⟨ad, h, hp, rfl⟩))
    have hDB : Dx G wB wB p d := by
      refine h.keep hmB (fun k hk => ?_)
      rw [hGd] at hk
      rcases hk with hk | rfl | rfl | ⟨ad, hA, hp, rfl⟩
      · exact ⟨.inl hk, Nat.lt_of_lt_of_le (hlt1 k hk) hmB.size⟩
      · exact ⟨.inr hqw, by omega⟩
      · exact ⟨.inr (by omega), by omega⟩
      · refine ⟨.inr (hnv ad.block (by rw [hA]; rfl)), ?_⟩
        have := hbk hp ad hA
        omega
    have hdr : ∀ w' d', Dx G wB w' p d' → Dx Kp w0 w' p d' := by
      intro w' d' hx
      refine hx.drop (h.kept.then0 hmB) (fun k hk => ⟨by rw [hGd]; exact .inl hk, h.lt0 k hk⟩)
    have HDR := Lib.hid hdr
    have HXQ := Lib.hid xq
    have HXG := Lib.hid xg
    clear hdr hGd hnv hbk xq xg hal hm hmB h hlt1 hwB hr hs hrb hq0
    go_loopw [9, 10, 37] (fun f er t wr => ∃ (j : Nat) (d' : Dk), t = .int .i64 j ∧ j ≤ 5 ∧ Dx G wB wr p d' ∧ restS b 5 0 d = restS b (5 - j) j d' ∧ RoomS d' b j) (fun _ _ t _ => 5 - (intOf t).toNat)
    case atStart => exact ⟨0, d, rfl, by omega, hDB, rfl, hroom⟩
    case round =>
      obtain ⟨j, d', rfl, hj, hDj, hrs, hrm⟩ := hrel
      clear hDB hroom
      have HRS := Lib.hid hrs
      have hq := hDj.blk HXQ.out hGq
      have hxg := hDj.blk HXG.out hGg
      have y0 := blk_cell hxg 0
      have y1 := blk_cell hxg 1
      have y2 := blk_cell hxg 2
      have y3 := blk_cell hxg 3
      have y4 := blk_cell hxg 4
      replace hq : wr.heap[q]? = some (savB p B b.length bc) := hq
      clear hrs hxg
      have hcase : j = 0 ∨ j = 1 ∨ j = 2 ∨ j = 3 ∨ j = 4 ∨ j = 5 := by omega
      rcases hcase with rfl | rfl | rfl | rfl | rfl | rfl
      · have hC : Calls Try.prog 83 #[.pointer (some ⟨q, 0, none⟩)] wr fun e w' => e = .returned (.int .i64 ((stepS b 0 d').2 : Nat)) ∧ Dx G wB w' p (stepS b 0 d').1 := sclear_calls hDj (hrm.fits (by omega)).1 hq
        have hst := hrm.step
        have hok : (stepS b 0 d').2 = 0 → restS b 5 0 d = restS b 4 (0 + 1) (stepS b 0 d').1 := fun h => by rw [HRS.out]; exact restS_ok h
        have hno : (stepS b 0 d').2 ≠ 0 → restS b 5 0 d = stepS b 0 d' := fun h => by rw [HRS.out]; exact restS_no h
        obtain ⟨R, hR⟩ : ∃ R, R = stepS b 0 d' := ⟨_, rfl⟩
        rw [← hR] at hC hst hok hno
        have HC := Lib.hid hC
        have HOK := Lib.hid hok
        have HNO := Lib.hid hno
        clear hC hok hno hR hq hDj hrm
        go_wp2_with fail
        refine HC.out.mono ?_
        rintro e w2 ⟨rfl, hD2⟩
        obtain ⟨d2, e2⟩ := R
        simp only at hD2 hst HOK HNO
        by_cases h0 : e2 = 0
        · subst h0
          have hrs2 := HOK.out rfl
          have HRS2 := Lib.hid hrs2
          clear hrs2
          go_wp2_with fail
          go_roundw
          case rel => exact ⟨1, d2, rfl, by omega, hD2, HRS2.out, hst⟩
          case measure => simp [intOf]
        · have hfin := HNO.out h0
          have HFIN := Lib.hid hfin
          have b1 : ((e2 : Int) == 0) = false := by simp; omega
          have b2 : ((e2 : Int) != 0) = true := by simp; omega
          have b3 : (e2 == 0) = false := by simp; omega
          clear hfin h0
          go_wp2_with fail
          go_ret
          unfold SaveE
          rw [HSV.out, HFIN.out]
          exact ⟨rfl, HDR.out w2 d2 hD2⟩
      · have hC : Calls Try.prog 84 #[.pointer (some ⟨q, 0, none⟩)] wr fun e w' => e = .returned (.int .i64 ((stepS b 1 d').2 : Nat)) ∧ Dx G wB w' p (stepS b 1 d').1 := screate_calls hDj (hrm.fits (by omega)).1 hq
        have hst := hrm.step
        have hok : (stepS b 1 d').2 = 0 → restS b 5 0 d = restS b 3 (1 + 1) (stepS b 1 d').1 := fun h => by rw [HRS.out]; exact restS_ok h
        have hno : (stepS b 1 d').2 ≠ 0 → restS b 5 0 d = stepS b 1 d' := fun h => by rw [HRS.out]; exact restS_no h
        obtain ⟨R, hR⟩ : ∃ R, R = stepS b 1 d' := ⟨_, rfl⟩
        rw [← hR] at hC hst hok hno
        have HC := Lib.hid hC
        have HOK := Lib.hid hok
        have HNO := Lib.hid hno
        clear hC hok hno hR hq hDj hrm
        go_wp2_with fail
        refine HC.out.mono ?_
        rintro e w2 ⟨rfl, hD2⟩
        obtain ⟨d2, e2⟩ := R
        simp only at hD2 hst HOK HNO
        by_cases h0 : e2 = 0
        · subst h0
          have hrs2 := HOK.out rfl
          have HRS2 := Lib.hid hrs2
          clear hrs2
          go_wp2_with fail
          go_roundw
          case rel => exact ⟨2, d2, rfl, by omega, hD2, HRS2.out, hst⟩
          case measure => simp [intOf]
        · have hfin := HNO.out h0
          have HFIN := Lib.hid hfin
          have b1 : ((e2 : Int) == 0) = false := by simp; omega
          have b2 : ((e2 : Int) != 0) = true := by simp; omega
          have b3 : (e2 == 0) = false := by simp; omega
          clear hfin h0
          go_wp2_with fail
          go_ret
          unfold SaveE
          rw [HSV.out, HFIN.out]
          exact ⟨rfl, HDR.out w2 d2 hD2⟩
      · have hC : Calls Try.prog 85 #[.pointer (some ⟨q, 0, none⟩)] wr fun e w' => e = .returned (.int .i64 ((stepS b 2 d').2 : Nat)) ∧ Dx G wB w' p (stepS b 2 d').1 := swrite_calls b hDj (hrm.fits (by omega)).1 hq (hDj.rd hrbB hBG) hBG (hrm.fits (by omega)).2
        have hst := hrm.step
        have hok : (stepS b 2 d').2 = 0 → restS b 5 0 d = restS b 2 (2 + 1) (stepS b 2 d').1 := fun h => by rw [HRS.out]; exact restS_ok h
        have hno : (stepS b 2 d').2 ≠ 0 → restS b 5 0 d = stepS b 2 d' := fun h => by rw [HRS.out]; exact restS_no h
        obtain ⟨R, hR⟩ : ∃ R, R = stepS b 2 d' := ⟨_, rfl⟩
        rw [← hR] at hC hst hok hno
        have HC := Lib.hid hC
        have HOK := Lib.hid hok
        have HNO := Lib.hid hno
        clear hC hok hno hR hq hDj hrm
        go_wp2_with fail
        refine HC.out.mono ?_
        rintro e w2 ⟨rfl, hD2⟩
        obtain ⟨d2, e2⟩ := R
        simp only at hD2 hst HOK HNO
        by_cases h0 : e2 = 0
        · subst h0
          have hrs2 := HOK.out rfl
          have HRS2 := Lib.hid hrs2
          clear hrs2
          go_wp2_with fail
          go_roundw
          case rel => exact ⟨3, d2, rfl, by omega, hD2, HRS2.out, hst⟩
          case measure => simp [intOf]
        · have hfin := HNO.out h0
          have HFIN := Lib.hid hfin
          have b1 : ((e2 : Int) == 0) = false := by simp; omega
          have b2 : ((e2 : Int) != 0) = true := by simp; omega
          have b3 : (e2 == 0) = false := by simp; omega
          clear hfin h0
          go_wp2_with fail
          go_ret
          unfold SaveE
          rw [HSV.out, HFIN.out]
          exact ⟨rfl, HDR.out w2 d2 hD2⟩
      · have hC : Calls Try.prog 86 #[.pointer (some ⟨q, 0, none⟩)] wr fun e w' => e = .returned (.int .i64 ((stepS b 3 d').2 : Nat)) ∧ Dx G wB w' p (stepS b 3 d').1 := ssync_calls hDj (hrm.fits (by omega)).1 hq
        have hst := hrm.step
        have hok : (stepS b 3 d').2 = 0 → restS b 5 0 d = restS b 1 (3 + 1) (stepS b 3 d').1 := fun h => by rw [HRS.out]; exact restS_ok h
        have hno : (stepS b 3 d').2 ≠ 0 → restS b 5 0 d = stepS b 3 d' := fun h => by rw [HRS.out]; exact restS_no h
        obtain ⟨R, hR⟩ : ∃ R, R = stepS b 3 d' := ⟨_, rfl⟩
        rw [← hR] at hC hst hok hno
        have HC := Lib.hid hC
        have HOK := Lib.hid hok
        have HNO := Lib.hid hno
        clear hC hok hno hR hq hDj hrm
        go_wp2_with fail
        refine HC.out.mono ?_
        rintro e w2 ⟨rfl, hD2⟩
        obtain ⟨d2, e2⟩ := R
        simp only at hD2 hst HOK HNO
        by_cases h0 : e2 = 0
        · subst h0
          have hrs2 := HOK.out rfl
          have HRS2 := Lib.hid hrs2
          clear hrs2
          go_wp2_with fail
          go_roundw
          case rel => exact ⟨4, d2, rfl, by omega, hD2, HRS2.out, hst⟩
          case measure => simp [intOf]
        · have hfin := HNO.out h0
          have HFIN := Lib.hid hfin
          have b1 : ((e2 : Int) == 0) = false := by simp; omega
          have b2 : ((e2 : Int) != 0) = true := by simp; omega
          have b3 : (e2 == 0) = false := by simp; omega
          clear hfin h0
          go_wp2_with fail
          go_ret
          unfold SaveE
          rw [HSV.out, HFIN.out]
          exact ⟨rfl, HDR.out w2 d2 hD2⟩
      · have hC : Calls Try.prog 87 #[.pointer (some ⟨q, 0, none⟩)] wr fun e w' => e = .returned (.int .i64 ((stepS b 4 d').2 : Nat)) ∧ Dx G wB w' p (stepS b 4 d').1 := srename_calls hDj (hrm.fits (by omega)).1 hq
        have hst := hrm.step
        have hok : (stepS b 4 d').2 = 0 → restS b 5 0 d = restS b 0 (4 + 1) (stepS b 4 d').1 := fun h => by rw [HRS.out]; exact restS_ok h
        have hno : (stepS b 4 d').2 ≠ 0 → restS b 5 0 d = stepS b 4 d' := fun h => by rw [HRS.out]; exact restS_no h
        obtain ⟨R, hR⟩ : ∃ R, R = stepS b 4 d' := ⟨_, rfl⟩
        rw [← hR] at hC hst hok hno
        have HC := Lib.hid hC
        have HOK := Lib.hid hok
        have HNO := Lib.hid hno
        clear hC hok hno hR hq hDj hrm
        go_wp2_with fail
        refine HC.out.mono ?_
        rintro e w2 ⟨rfl, hD2⟩
        obtain ⟨d2, e2⟩ := R
        simp only at hD2 hst HOK HNO
        by_cases h0 : e2 = 0
        · subst h0
          have hrs2 := HOK.out rfl
          have HRS2 := Lib.hid hrs2
          clear hrs2
          go_wp2_with fail
          go_roundw
          case rel => exact ⟨5, d2, rfl, by omega, hD2, HRS2.out, hst⟩
          case measure => simp [intOf]
        · have hfin := HNO.out h0
          have HFIN := Lib.hid hfin
          have b1 : ((e2 : Int) == 0) = false := by simp; omega
          have b2 : ((e2 : Int) != 0) = true := by simp; omega
          have b3 : (e2 == 0) = false := by simp; omega
          clear hfin h0
          go_wp2_with fail
          go_ret
          unfold SaveE
          rw [HSV.out, HFIN.out]
          exact ⟨rfl, HDR.out w2 d2 hD2⟩
      · have hfin : restS b 5 0 d = (d', 0) := HRS.out
        have HFIN := Lib.hid hfin
        clear hfin hq y0 y1 y2 y3 y4
        go_wp2_with fail
        go_ret
        unfold SaveE
        rw [HSV.out, HFIN.out]
        exact ⟨rfl, HDR.out _ _ hDj⟩
  · have hsv : saveR d l = (d, er) := by rw [HSR.out]; simp [he]
    have HSV := Lib.hid hsv
    have b1 : ((er : Int) == 0) = false := by simp; omega
    have b2 : ((er : Int) != 0) = true := by simp; omega
    have b3 : (er == 0) = false := by simp; omega
    have hD := h.mod0 hm
    clear hsv HSR he
    go_wp2_with fail
    go_ret
    unfold SaveE
    rw [HSV.out]
    exact ⟨rfl, hD⟩
end Go.Proofs.Ytfbnkbdolimojaa
