/- snap.Load. -/
import Derived.Test.YtnlmfmceogbomaaGreatDoorDkFs
import Derived.Test.YtnlmfmceogbomaaGreatDoorTabE
import Derived.Test.YtnlmfmceogbomaaGreatDoorSnapP
import Derived.StillTailTactics
import Derived.Test.YtnlmfmceogbomaaGreatDoorRefT
import Derived.Test.YtnlmfmceogbomaaGreatDoorDkAn
import Derived.Test.YtnlmfmceogbomaaGreatDoorRefAp
namespace Go.Proofs.YtnlmfmceogbomaaGreatDoor
open Go.RowKit
set_option linter.unusedVariables false

/-- What is loaded from a disk. -/
def loadR (d : Dk) : List Pr × Nat := if (readD d sSnap).2 = 3 then ([], 0) else if (readD d sSnap).2 = 0 then ((fromT (readD d sSnap).1).getD [], errP (fromT (readD d sSnap).1)) else ([], (readD d sSnap).2)
def LoadE (r : List Pr × Nat) (Kp : Nat → Prop) (w0 w : World) (p : Nat) (d : Dk) (e : Ending) (w' : World) : Prop :=
  ∃ v, e = .returned (.tuple #[v, .int .i64 r.2]) ∧ Own w' 88 2 v r.1.length (encPs r.1) ∧ Dx Kp w0 w' p d ∧ Mod NoneB w w' ∧ (∀ g, v.ownBlock = some g → w.heap.size ≤ g)
theorem readD_le (d : Dk) (n : ByteArray) : (readD d n).1.length ≤ usedF d.fs := by
  unfold readD
  split
  · exact Nat.zero_le _
  · split
    · rename_i h
      rw [fileAt_get (hitF_lt h)]
      exact usedF_get _ _ _
    · exact Nat.zero_le _
theorem readD_err (d : Dk) (n : ByteArray) : (readD d n).2 = 0 ∨ (readD d n).2 = 3 ∨ (readD d n).2 = 7 := by
  unfold readD
  split
  · exact .inr (.inr rfl)
  · split
    · exact .inl rfl
    · exact .inr (.inl rfl)

set_option maxHeartbeats 4000000 in
set_option maxRecDepth 100000 in
theorem load_calls {Kp : Nat → Prop} {w0 w : World} {p : Nat} {d : Dk} (h : Dx Kp w0 w p d) (hf : Fits d) (hu : usedF d.fs ≤ 1099511627776) :
    Calls Tryz.prog 35 #[.pointer (some ⟨p, 0, none⟩)] w (LoadE (loadR d) Kp w0 w p d) := by
  have hle := readD_le d sSnap
  have herr := readD_err d sSnap
  have hR : ∃ R, R = readD d sSnap := ⟨_, rfl⟩
  go_enter Tryz.func35, Tryz.ntmps35
  go_wp2_with fail
  refine (h.read sSnap hf).mono ?_
  rintro e w1 ⟨v, rfl, hov, hD, hm, hn⟩
  obtain ⟨R, hR⟩ := hR
  have hl : loadR d = if R.2 = 3 then ([], 0) else if R.2 = 0 then ((fromT R.1).getD [], errP (fromT R.1)) else ([], R.2) := by rw [hR]; rfl
  rw [← hR] at hov hle herr ⊢
  have HL := Lib.hid hl
  obtain ⟨b, e⟩ := R
  simp only at hov hle herr HL
  clear hl hR
  obtain ⟨A, c, rfl, hbc, _, hrb⟩ := hov.out
  clear hov
  rcases herr with rfl | rfl | rfl
  · go_wp2_with fail
    refine (tdecode_calls b A c w1 hrb (by omega) hbc).mono ?_
    rintro ez w2 ⟨v2, rfl, ho2, hm2, hn2⟩
    have hl2 : loadR d = ((fromT b).getD [], errP (fromT b)) := by rw [HL.out]; simp
    have HL2 := Lib.hid hl2
    have HO2 := Lib.hid ho2
    have HN2 := Lib.hid hn2
    obtain ⟨A2, c2, rfl, _⟩ := ho2.nilD0
    obtain ⟨q, hq⟩ : ∃ q, q = (fromT b).getD [] := ⟨_, rfl⟩
    obtain ⟨ee, hee⟩ : ∃ q, q = errP (fromT b) := ⟨_, rfl⟩
    rw [← hq] at HO2 HN2 HL2 ⊢
    rw [← hee] at HL2 ⊢
    clear hl2 ho2 hn2 hq hee HL
    go_wp2_with fail
    go_ret2
    rw [HL2.out]
    exact ⟨_, rfl, HO2.out, hD.mod0 hm2, hm.then0 hm2, fun g hg => Nat.le_trans hm.size (HN2.out g hg)⟩
  · go_wp2_with fail
    go_ret2
    have hl2 : loadR d = ([], 0) := by rw [HL.out]; simp
    rw [hl2]
    exact ⟨_, rfl, Own.nil _ _ _, hD, hm, fun g h => by simp [Value.ownBlock] at h⟩
  · go_wp2_with fail
    go_ret2
    have hl2 : loadR d = ([], 7) := by rw [HL.out]; simp
    rw [hl2]
    exact ⟨_, rfl, Own.nil _ _ _, hD, hm, fun g h => by simp [Value.ownBlock] at h⟩
end Go.Proofs.YtnlmfmceogbomaaGreatDoor

/- The calls of a save: snap.saving's methods. -/
namespace Go.Proofs.YtnlmfmceogbomaaGreatDoor
open Go.RowKit
set_option linter.unusedVariables false

theorem hasF_take (fs : List Fl) (n : ByteArray) (j : Nat) (h : j < fs.length) : hasF (fs.take (j + 1)) n = (hasF (fs.take j) n || decide (fs[j].n = n)) := by
  unfold hasF
  rw [List.take_succ_eq_append_getElem h, List.any_append]
  simp
theorem hasF_pos {fs : List Fl} {n : ByteArray} {j : Nat} (h : j < fs.length) (he : fs[j].n = n) : hasF fs n = true := by
  unfold hasF
  rw [List.any_eq_true]
  exact ⟨fs[j], List.getElem_mem _, by simpa using he⟩

set_option maxHeartbeats 1000000 in
set_option maxRecDepth 100000 in
theorem isTmp_calls (n : ByteArray) (u : Value) (s : Nat) (w : World) :
    Calls Tryz.prog 128 #[.agg #[.string n, u, .int .i64 s]] w fun e w' => e = .returned (.bool (decide (n = sTmp))) ∧ Mod NoneB w w' := by
  have hst : sTmp.toList = [116, 109, 112] := by rw [ba_toList]; rfl
  have hd : decide (n = sTmp) = (n.toList == [116, 109, 112]) := by rw [← hst]; exact (beq_toList n sTmp).symm
  have HD := Lib.hid hd
  clear hd hst
  go_enter Tryz.func128, Tryz.ntmps128
  go_wp2_with fail
  go_ret
  refine ⟨?_, (Mod.refl NoneB w).alloc _⟩
  rw [HD.out]
  rfl

/-- Where the first such file stands; -1: there is none. -/
def IdxE (fs : List Fl) (w : World) (e : Ending) (w' : World) : Prop := ∃ z : Int, e = .returned (.int .i64 z) ∧ (0 ≤ z ↔ hasF fs sTmp = true) ∧ Mod NoneB w w'
set_option maxHeartbeats 2000000 in
set_option maxRecDepth 100000 in
theorem indexF_calls (fs : List Fl) (vs : List Value) (hv : vs.length = fs.length) (A : Option Addr) (c : Nat) (w : World) (hr : Rd w 3 A fs.length ((fs.zip vs).flatMap encFl)) :
    Calls Tryz.prog 164 #[.slice A fs.length c, .func (.func 128) #[] #[]] w (IdxE fs w) := by
  have hn := hr.2.1
  have hzl : (fs.zip vs).length = fs.length := by rw [List.length_zip]; omega
  have HZL := Lib.hid hzl
  clear hzl hv
  go_enter Tryz.func164, Tryz.ntmps164
  go_wp2_with fail
  go_loopw [5, 8] (fun x t wr => ∃ j : Nat, t = .int .i64 j ∧ j ≤ fs.length ∧ hasF (fs.take j) sTmp = false ∧ Mod NoneB w wr) (fun _ t _ => fs.length - (intOf t).toNat)
  case atStart => exact ⟨0, rfl, by omega, rfl, Mod.refl _ _⟩
  case round =>
    obtain ⟨j, rfl, hj, hno, hm⟩ := hrel
    have HNO := Lib.hid hno
    clear hno
    by_cases hlt : j < fs.length
    · have hz1 : j < (fs.zip vs).length := by rw [HZL.out]; exact hlt
      obtain ⟨ad, rfl, h0, hk⟩ := Rd.elem (f := encFl) (fun _ => rfl) hr (by decide) j hz1
      have c0 := hm.cell0 (h0 _ rfl)
      have c1 := hm.cell0 (hk 1 _ (by decide) (by decide) rfl)
      have c2 := hm.cell0 (hk 2 _ (by decide) (by decide) rfl)
      have hn1 : ((fs.zip vs)[j]'hz1).1 = fs[j] := by simp
      have htk := hasF_take fs sTmp j hlt
      obtain ⟨y, hy⟩ : ∃ y, y = (fs.zip vs)[j]'hz1 := ⟨_, rfl⟩
      rw [← hy] at c0 c1 c2 hn1
      obtain ⟨f, u⟩ := y
      simp only at c0 c1 c2 hn1
      rw [← hn1] at htk
      have hpos : ∀ h : decide (f.n = sTmp) = true, hasF fs sTmp = true := fun h => hasF_pos hlt (by rw [← hn1]; exact of_decide_eq_true h)
      have HTK := Lib.hid htk
      have HPOS := Lib.hid hpos
      obtain ⟨bt, hbt⟩ : ∃ bt, bt = decide (f.n = sTmp) := ⟨_, rfl⟩
      rw [← hbt] at HTK HPOS
      have HBT := Lib.hid hbt
      clear h0 hk hn1 htk hy hpos hbt hz1
      go_wp2_with fail
      refine (isTmp_calls f.n u f.s wr).mono ?_
      rintro e w2 ⟨rfl, hm2⟩
      rw [← HBT.out]
      cases bt with
      | true =>
        go_wp2_with fail
        go_ret
        exact ⟨j, rfl, ⟨fun _ => HPOS.out trivial, fun _ => by omega⟩, hm.then0 hm2⟩
      | false =>
        go_wp2_with fail
        go_roundw
        case rel => exact ⟨j + 1, by go_num, by omega, by rw [HTK.out, HNO.out]; rfl, hm.then0 hm2⟩
        case measure => simp [intOf]; omega
    · have hall : fs.take j = fs := List.take_of_length_le (by omega)
      have hno : hasF fs sTmp = false := by have h := HNO.out; rw [hall] at h; exact h
      have HN2 := Lib.hid hno
      clear hall hno
      go_wp2_with fail
      go_ret
      exact ⟨-1, rfl, ⟨fun h => by omega, fun h => by rw [HN2.out] at h; cases h⟩, hm⟩
set_option maxHeartbeats 2000000 in
set_option maxRecDepth 100000 in
theorem containsF_calls (fs : List Fl) (vs : List Value) (hv : vs.length = fs.length) (A : Option Addr) (c : Nat) (w : World) (hr : Rd w 3 A fs.length ((fs.zip vs).flatMap encFl)) :
    Calls Tryz.prog 127 #[.slice A fs.length c, .func (.func 128) #[] #[]] w fun e w' => e = .returned (.bool (hasF fs sTmp)) ∧ Mod NoneB w w' := by
  go_enter Tryz.func127, Tryz.ntmps127
  go_wp2_with fail
  refine (indexF_calls fs vs hv A c w hr).mono ?_
  rintro e w1 ⟨z, rfl, hz, hm⟩
  cases hb : hasF fs sTmp with
  | true =>
    have h0 : 0 ≤ z := hz.2 hb
    have HB := Lib.hid hb
    clear hz hb
    go_wp2_with fail
    go_ret
    exact ⟨by rw [HB.out]; rfl, hm⟩
  | false =>
    have h0 : z < 0 := by
      rcases Int.lt_or_le z 0 with h | h
      · exact h
      · have := hz.1 h; rw [hb] at this; cases this
    have hdz : decide (0 ≤ z) = false := by rw [decide_eq_false_iff_not]; omega
    have HB := Lib.hid hb
    clear hz hb
    go_wp2_with fail
    go_ret
    exact ⟨by rw [HB.out]; rfl, hm⟩

def savB (p : Nat) (B : Option Addr) (n bc : Nat) : Obj := .cells #[.pointer (some ⟨p, 0, none⟩), .slice B n bc] 145 (0, 0)

set_option maxHeartbeats 2000000 in
set_option maxRecDepth 100000 in
theorem sclear_calls {Kp : Nat → Prop} {w0 w : World} {p q : Nat} {d : Dk} {B : Option Addr} {n bc : Nat} (h : Dx Kp w0 w p d) (hf : Fits d) (hq : w.heap[q]? = some (savB p B n bc)) :
    Calls Tryz.prog 84 #[.pointer (some ⟨q, 0, none⟩)] w fun e w' => e = .returned (.int .i64 (clearD d).2) ∧ Dx Kp w0 w' p (clearD d).1 := by
  have y0 : w.cell? ⟨q, 0, none⟩ = some (.pointer (some ⟨p, 0, none⟩)) := by rw [blk_cell hq]; rfl
  have hfn := hf.l
  go_enter Tryz.func84, Tryz.ntmps84
  go_wp2_with fail
  refine (h.files hf).mono ?_
  rintro e w1 ⟨v, vs, rfl, hfa, hD, hm⟩
  obtain ⟨A, c, rfl, hra⟩ := hfa.own.nilD0
  have hvl := hfa.len
  replace y0 := hm.cell0 y0
  clear hfa
  go_wp2_with fail
  refine (containsF_calls d.fs vs hvl A c w1 hra).mono ?_
  rintro e w2 ⟨rfl, hm2⟩
  replace y0 := hm2.cell0 y0
  cases hb : hasF d.fs sTmp with
  | true =>
    have hc : clearD d = removeD d sTmp := by unfold clearD; rw [if_pos hb]
    have HC := Lib.hid hc
    clear hb hc hvl
    go_wp2_with fail
    refine ((hD.mod0 hm2).remove sTmp hf).mono ?_
    rintro e w3 ⟨rfl, hD3⟩
    rw [← HC.out] at hD3 ⊢
    obtain ⟨ee, hee⟩ : ∃ ee, ee = (clearD d).2 := ⟨_, rfl⟩
    rw [← hee]
    have HE := Lib.hid hee
    clear hee
    go_wp2_with fail
    go_ret
    exact ⟨by first | rfl | (rw [← HE.out]; rfl), hD3⟩
  | false =>
    have hc : clearD d = (d, 0) := by unfold clearD; rw [if_neg (by rw [hb]; simp)]
    have HC := Lib.hid hc
    clear hb hc hvl
    go_wp2_with fail
    go_ret
    rw [HC.out]
    exact ⟨rfl, hD.mod0 hm2⟩

set_option maxHeartbeats 1000000 in
set_option maxRecDepth 100000 in
theorem screate_calls {Kp : Nat → Prop} {w0 w : World} {p q : Nat} {d : Dk} {B : Option Addr} {n bc : Nat} (h : Dx Kp w0 w p d) (hf : Fits d) (hq : w.heap[q]? = some (savB p B n bc)) :
    Calls Tryz.prog 85 #[.pointer (some ⟨q, 0, none⟩)] w fun e w' => e = .returned (.int .i64 (createD d sTmp).2) ∧ Dx Kp w0 w' p (createD d sTmp).1 := by
  have y0 : w.cell? ⟨q, 0, none⟩ = some (.pointer (some ⟨p, 0, none⟩)) := by rw [blk_cell hq]; rfl
  have hC := h.create sTmp hf
  obtain ⟨R, hR⟩ : ∃ R, R = createD d sTmp := ⟨_, rfl⟩
  rw [← hR] at hC ⊢
  have HC := Lib.hid hC
  clear hR hC
  go_enter Tryz.func85, Tryz.ntmps85
  go_wp2_with fail
  refine HC.out.mono ?_
  rintro e w1 ⟨rfl, hD⟩
  go_wp2_with fail
  go_ret
  exact ⟨rfl, hD⟩

set_option maxHeartbeats 1000000 in
set_option maxRecDepth 100000 in
theorem ssync_calls {Kp : Nat → Prop} {w0 w : World} {p q : Nat} {d : Dk} {B : Option Addr} {n bc : Nat} (h : Dx Kp w0 w p d) (hf : Fits d) (hq : w.heap[q]? = some (savB p B n bc)) :
    Calls Tryz.prog 87 #[.pointer (some ⟨q, 0, none⟩)] w fun e w' => e = .returned (.int .i64 (syncD d sTmp).2) ∧ Dx Kp w0 w' p (syncD d sTmp).1 := by
  have y0 : w.cell? ⟨q, 0, none⟩ = some (.pointer (some ⟨p, 0, none⟩)) := by rw [blk_cell hq]; rfl
  have hC := h.sync sTmp hf
  obtain ⟨R, hR⟩ : ∃ R, R = syncD d sTmp := ⟨_, rfl⟩
  rw [← hR] at hC ⊢
  have HC := Lib.hid hC
  clear hR hC
  go_enter Tryz.func87, Tryz.ntmps87
  go_wp2_with fail
  refine HC.out.mono ?_
  rintro e w1 ⟨rfl, hD⟩
  go_wp2_with fail
  go_ret
  exact ⟨rfl, hD⟩

set_option maxHeartbeats 1000000 in
set_option maxRecDepth 100000 in
theorem srename_calls {Kp : Nat → Prop} {w0 w : World} {p q : Nat} {d : Dk} {B : Option Addr} {n bc : Nat} (h : Dx Kp w0 w p d) (hf : Fits d) (hq : w.heap[q]? = some (savB p B n bc)) :
    Calls Tryz.prog 88 #[.pointer (some ⟨q, 0, none⟩)] w fun e w' => e = .returned (.int .i64 (renameD d sTmp sSnap).2) ∧ Dx Kp w0 w' p (renameD d sTmp sSnap).1 := by
  have y0 : w.cell? ⟨q, 0, none⟩ = some (.pointer (some ⟨p, 0, none⟩)) := by rw [blk_cell hq]; rfl
  have hC := h.rename sTmp sSnap hf
  obtain ⟨R, hR⟩ : ∃ R, R = renameD d sTmp sSnap := ⟨_, rfl⟩
  rw [← hR] at hC ⊢
  have HC := Lib.hid hC
  clear hR hC
  go_enter Tryz.func88, Tryz.ntmps88
  go_wp2_with fail
  refine HC.out.mono ?_
  rintro e w1 ⟨rfl, hD⟩
  go_wp2_with fail
  go_ret
  exact ⟨rfl, hD⟩

set_option maxHeartbeats 1000000 in
set_option maxRecDepth 100000 in
theorem swrite_calls {Kp : Nat → Prop} {w0 w : World} {p q : Nat} {d : Dk} {B : Option Addr} {bc : Nat} (b : List UInt8) (h : Dx Kp w0 w p d) (hf : Fits d) (hq : w.heap[q]? = some (savB p B b.length bc)) (hb : Rd w 1 B b.length (encB b)) (hB : 0 < b.length → ∀ ad, B = some ad → Kp ad.block) (hu : usedF d.fs + b.length ≤ 70368744177664) :
    Calls Tryz.prog 86 #[.pointer (some ⟨q, 0, none⟩)] w fun e w' => e = .returned (.int .i64 (appendD d sTmp b).2) ∧ Dx Kp w0 w' p (appendD d sTmp b).1 := by
  have y0 : w.cell? ⟨q, 0, none⟩ = some (.pointer (some ⟨p, 0, none⟩)) := by rw [blk_cell hq]; rfl
  have y1 : w.cell? ⟨q, 1, none⟩ = some (.slice B b.length bc) := by rw [blk_cell hq]; rfl
  have hd : Mod NoneB w w.drew := (Mod.refl NoneB w).drew
  have hC := (h.mod0 hd).append (Mod.refl _ _) sTmp b B bc (hb.mod0 hd) (fun hp ad h => .inl (hB hp ad h)) hf hu
  obtain ⟨R, hR⟩ : ∃ R, R = appendD d sTmp b := ⟨_, rfl⟩
  rw [← hR] at hC ⊢
  have HC := Lib.hid hC
  clear hR hC hd
  go_enter Tryz.func86, Tryz.ntmps86
  go_wp2_with fail
  go_region_law (go_simp; go_at_call 26; refine HC.out.mono ?_; rintro ez wz ⟨rfl, hz⟩)
  all_goals
    go_wp2_with fail
    go_ret
    exact ⟨rfl, hz⟩
end Go.Proofs.YtnlmfmceogbomaaGreatDoor

/- snap.Save. -/
namespace Go.Proofs.YtnlmfmceogbomaaGreatDoor
open Go.RowKit
set_option linter.unusedVariables false

/-- A disk that may be saved to, and what is saved. -/
structure RoomS (d : Dk) (b : List UInt8) (j : Nat) : Prop where
  c : d.c ≤ 1099511627776 + j
  l : d.fs.length ≤ 1000000 + j
  u : usedF d.fs ≤ 549755813888 + b.length * j
  b : b.length ≤ 1048584
theorem RoomS.fits {d : Dk} {b : List UInt8} {j : Nat} (h : RoomS d b j) (hj : j ≤ 5) : Fits d ∧ usedF d.fs + b.length ≤ 70368744177664 := by
  have h1 : b.length * j ≤ 1048584 * 5 := Nat.mul_le_mul h.b hj
  have h2 := h.c
  have h3 := h.l
  have h4 := h.u
  have h5 := h.b
  exact ⟨⟨by omega, by omega, by omega⟩, by omega⟩
theorem RoomS.step {d : Dk} {b : List UInt8} {j : Nat} (h : RoomS d b j) : RoomS (stepS b j d).1 b (j + 1) := by
  have g := stepS_grow b j d
  have g1 := g.c
  have g2 := g.l
  have g3 := g.u
  have h2 := h.c
  have h3 := h.l
  have h4 := h.u
  exact ⟨by omega, by omega, by rw [Nat.mul_add]; omega, h.b⟩

def SaveE (r : Ans) (Kp : Nat → Prop) (w0 : World) (p : Nat) (e : Ending) (w' : World) : Prop := e = .returned (.int .i64 (r.2 : Nat)) ∧ Dx Kp w0 w' p r.1

set_option maxHeartbeats 4000000 in
set_option maxRecDepth 100000 in
theorem save_calls {Kp : Nat → Prop} {w0 w : World} {p : Nat} {d : Dk} (h : Dx Kp w0 w p d) (l : List Pr) (A : Option Addr) (c : Nat) (hr : Rd w 2 A l.length (encPs l)) (hs : SmallP l) (hroom : RoomS d (tableR l).1 0) :
    Calls Tryz.prog 48 #[.pointer (some ⟨p, 0, none⟩), .slice A l.length c] w (SaveE (saveR d l) Kp w0 p) := by
  go_enter Tryz.func48, Tryz.ntmps48
  go_wp2_with fail
  refine (tencode_calls l A c w hr hs).mono ?_
  rintro e w1 ⟨v, rfl, hov, hm, hnv⟩
  obtain ⟨R, hR⟩ : ∃ R, R = tableR l := ⟨_, rfl⟩
  rw [← hR] at hov hroom ⊢
  have hsr : saveR d l = if R.2 = 0 then saveD d R.1 else (d, R.2) := by rw [hR]; rfl
  have HSR := Lib.hid hsr
  obtain ⟨b, er⟩ := R
  simp only at hov hroom HSR
  clear hsr hR
  obtain ⟨B, bc, rfl, hrb⟩ := hov.nilD0
  clear hov
  by_cases he : er = 0
  · subst he
    have hsv : saveR d l = restS b 5 0 d := by rw [HSR.out]; simp [saveD]
    have HSV := Lib.hid hsv
    clear hsv HSR
    go_wp2_with fail
    have hlt1 := h.lt
    obtain ⟨q, hq0⟩ : ∃ q, q = w1.heap.size := ⟨_, rfl⟩
    have hal : Mod NoneB w1 ((w1.alloc (.cells #[.pointer (some ⟨p, 0, none⟩), .slice B b.length bc] 145)).alloc (.cells #[.func (.func 84) #[.pointer (some ⟨q, 0, none⟩)] #[], .func (.func 85) #[.pointer (some ⟨q, 0, none⟩)] #[], .func (.func 86) #[.pointer (some ⟨q, 0, none⟩)] #[], .func (.func 87) #[.pointer (some ⟨q, 0, none⟩)] #[], .func (.func 88) #[.pointer (some ⟨q, 0, none⟩)] #[]] 53)) := ((Mod.refl NoneB w1).alloc _).alloc _
    obtain ⟨xq, xg⟩ := box2 w1 (.cells #[.pointer (some ⟨p, 0, none⟩), .slice B b.length bc] 145) (.cells #[.func (.func 84) #[.pointer (some ⟨q, 0, none⟩)] #[], .func (.func 85) #[.pointer (some ⟨q, 0, none⟩)] #[], .func (.func 86) #[.pointer (some ⟨q, 0, none⟩)] #[], .func (.func 87) #[.pointer (some ⟨q, 0, none⟩)] #[], .func (.func 88) #[.pointer (some ⟨q, 0, none⟩)] #[]] 53)
    rw [← hq0] at xq xg ⊢
    have hszB : q + 2 ≤ ((w1.alloc (.cells #[.pointer (some ⟨p, 0, none⟩), .slice B b.length bc] 145)).alloc (.cells #[.func (.func 84) #[.pointer (some ⟨q, 0, none⟩)] #[], .func (.func 85) #[.pointer (some ⟨q, 0, none⟩)] #[], .func (.func 86) #[.pointer (some ⟨q, 0, none⟩)] #[], .func (.func 87) #[.pointer (some ⟨q, 0, none⟩)] #[], .func (.func 88) #[.pointer (some ⟨q, 0, none⟩)] #[]] 53)).heap.size := by have := blk_lt xg; omega
    obtain ⟨wB, hwB⟩ : ∃ wB, wB = ((w1.alloc (.cells #[.pointer (some ⟨p, 0, none⟩), .slice B b.length bc] 145)).alloc (.cells #[.func (.func 84) #[.pointer (some ⟨q, 0, none⟩)] #[], .func (.func 85) #[.pointer (some ⟨q, 0, none⟩)] #[], .func (.func 86) #[.pointer (some ⟨q, 0, none⟩)] #[], .func (.func 87) #[.pointer (some ⟨q, 0, none⟩)] #[], .func (.func 88) #[.pointer (some ⟨q, 0, none⟩)] #[]] 53)) := ⟨_, rfl⟩
    rw [← hwB] at hal xq xg hszB ⊢
    have hmB : Mod NoneB w wB := hm.then0 hal
    have hqw : w.heap.size ≤ q := by rw [hq0]; exact hm.size
    have hbk := hrb.block_lt (by decide)
    have hrbB := hrb.mod0 hal
    obtain ⟨G, hGd⟩ : ∃ G : Nat → Prop, G = fun k => Kp k ∨ k = q ∨ k = q + 1 ∨ ∃ ad, B = some ad ∧ 0 < b.length ∧ k = ad.block := ⟨_, rfl⟩
    have hGq : G q := by rw [hGd]; exact .inr (.inl rfl)
    have hGg : G (q + 1) := by rw [hGd]; exact .inr (.inr (.inl rfl))
    have hBG : 0 < b.length → ∀ ad, B = some ad → G ad.block := fun hp ad h => by rw [hGd]; exact .inr (.inr (.inr ⟨ad, h, hp, rfl⟩))
    have hDB : Dx G wB wB p d := by
      refine h.keep hmB (fun k hk => ?_)
      rw [hGd] at hk
      rcases hk with hk | rfl | rfl | ⟨ad, hA, hp, rfl⟩
      · exact ⟨.inl hk, Nat.lt_of_lt_of_le (hlt1 k hk) hmB.size⟩
      · exact ⟨.inr hqw, by omega⟩
      · exact ⟨.inr (by omega), by omega⟩
      · refine ⟨.inr (hnv ad.block (by rw [hA]; rfl)), ?_⟩
        have := hbk hp ad hA
        omega
    have hdr : ∀ w' d', Dx G wB w' p d' → Dx Kp w0 w' p d' := by
      intro w' d' hx
      refine hx.drop (h.kept.then0 hmB) (fun k hk => ⟨by rw [hGd]; exact .inl hk, h.lt0 k hk⟩)
    have HDR := Lib.hid hdr
    have HXQ := Lib.hid xq
    have HXG := Lib.hid xg
    clear hdr hGd hnv hbk xq xg hal hm hmB h hlt1 hwB hr hs hrb hq0
    go_loopw [9, 10, 37] (fun f er t wr => ∃ (j : Nat) (d' : Dk), t = .int .i64 j ∧ j ≤ 5 ∧ Dx G wB wr p d' ∧ restS b 5 0 d = restS b (5 - j) j d' ∧ RoomS d' b j) (fun _ _ t _ => 5 - (intOf t).toNat)
    case atStart => exact ⟨0, d, rfl, by omega, hDB, rfl, hroom⟩
    case round =>
      obtain ⟨j, d', rfl, hj, hDj, hrs, hrm⟩ := hrel
      clear hDB hroom
      have HRS := Lib.hid hrs
      have hq := hDj.blk HXQ.out hGq
      have hxg := hDj.blk HXG.out hGg
      have y0 := blk_cell hxg 0
      have y1 := blk_cell hxg 1
      have y2 := blk_cell hxg 2
      have y3 := blk_cell hxg 3
      have y4 := blk_cell hxg 4
      replace hq : wr.heap[q]? = some (savB p B b.length bc) := hq
      clear hrs hxg
      have hcase : j = 0 ∨ j = 1 ∨ j = 2 ∨ j = 3 ∨ j = 4 ∨ j = 5 := by omega
      rcases hcase with rfl | rfl | rfl | rfl | rfl | rfl
      · have hC : Calls Tryz.prog 84 #[.pointer (some ⟨q, 0, none⟩)] wr fun e w' => e = .returned (.int .i64 ((stepS b 0 d').2 : Nat)) ∧ Dx G wB w' p (stepS b 0 d').1 := sclear_calls hDj (hrm.fits (by omega)).1 hq
        have hst := hrm.step
        have hok : (stepS b 0 d').2 = 0 → restS b 5 0 d = restS b 4 (0 + 1) (stepS b 0 d').1 := fun h => by rw [HRS.out]; exact restS_ok h
        have hno : (stepS b 0 d').2 ≠ 0 → restS b 5 0 d = stepS b 0 d' := fun h => by rw [HRS.out]; exact restS_no h
        obtain ⟨R, hR⟩ : ∃ R, R = stepS b 0 d' := ⟨_, rfl⟩
        rw [← hR] at hC hst hok hno
        have HC := Lib.hid hC
        have HOK := Lib.hid hok
        have HNO := Lib.hid hno
        clear hC hok hno hR hq hDj hrm
        go_wp2_with fail
        refine HC.out.mono ?_
        rintro e w2 ⟨rfl, hD2⟩
        obtain ⟨d2, e2⟩ := R
        simp only at hD2 hst HOK HNO
        by_cases h0 : e2 = 0
        · subst h0
          have hrs2 := HOK.out rfl
          have HRS2 := Lib.hid hrs2
          clear hrs2
          go_wp2_with fail
          go_roundw
          case rel => exact ⟨1, d2, rfl, by omega, hD2, HRS2.out, hst⟩
          case measure => simp [intOf]
        · have hfin := HNO.out h0
          have HFIN := Lib.hid hfin
          have b1 : ((e2 : Int) == 0) = false := by simp; omega
          have b2 : ((e2 : Int) != 0) = true := by simp; omega
          have b3 : (e2 == 0) = false := by simp; omega
          clear hfin h0
          go_wp2_with fail
          go_ret
          unfold SaveE
          rw [HSV.out, HFIN.out]
          exact ⟨rfl, HDR.out w2 d2 hD2⟩
      · have hC : Calls Tryz.prog 85 #[.pointer (some ⟨q, 0, none⟩)] wr fun e w' => e = .returned (.int .i64 ((stepS b 1 d').2 : Nat)) ∧ Dx G wB w' p (stepS b 1 d').1 := screate_calls hDj (hrm.fits (by omega)).1 hq
        have hst := hrm.step
        have hok : (stepS b 1 d').2 = 0 → restS b 5 0 d = restS b 3 (1 + 1) (stepS b 1 d').1 := fun h => by rw [HRS.out]; exact restS_ok h
        have hno : (stepS b 1 d').2 ≠ 0 → restS b 5 0 d = stepS b 1 d' := fun h => by rw [HRS.out]; exact restS_no h
        obtain ⟨R, hR⟩ : ∃ R, R = stepS b 1 d' := ⟨_, rfl⟩
        rw [← hR] at hC hst hok hno
        have HC := Lib.hid hC
        have HOK := Lib.hid hok
        have HNO := Lib.hid hno
        clear hC hok hno hR hq hDj hrm
        go_wp2_with fail
        refine HC.out.mono ?_
        rintro e w2 ⟨rfl, hD2⟩
        obtain ⟨d2, e2⟩ := R
        simp only at hD2 hst HOK HNO
        by_cases h0 : e2 = 0
        · subst h0
          have hrs2 := HOK.out rfl
          have HRS2 := Lib.hid hrs2
          clear hrs2
          go_wp2_with fail
          go_roundw
          case rel => exact ⟨2, d2, rfl, by omega, hD2, HRS2.out, hst⟩
          case measure => simp [intOf]
        · have hfin := HNO.out h0
          have HFIN := Lib.hid hfin
          have b1 : ((e2 : Int) == 0) = false := by simp; omega
          have b2 : ((e2 : Int) != 0) = true := by simp; omega
          have b3 : (e2 == 0) = false := by simp; omega
          clear hfin h0
          go_wp2_with fail
          go_ret
          unfold SaveE
          rw [HSV.out, HFIN.out]
          exact ⟨rfl, HDR.out w2 d2 hD2⟩
      · have hC : Calls Tryz.prog 86 #[.pointer (some ⟨q, 0, none⟩)] wr fun e w' => e = .returned (.int .i64 ((stepS b 2 d').2 : Nat)) ∧ Dx G wB w' p (stepS b 2 d').1 := swrite_calls b hDj (hrm.fits (by omega)).1 hq (hDj.rd hrbB hBG) hBG (hrm.fits (by omega)).2
        have hst := hrm.step
        have hok : (stepS b 2 d').2 = 0 → restS b 5 0 d = restS b 2 (2 + 1) (stepS b 2 d').1 := fun h => by rw [HRS.out]; exact restS_ok h
        have hno : (stepS b 2 d').2 ≠ 0 → restS b 5 0 d = stepS b 2 d' := fun h => by rw [HRS.out]; exact restS_no h
        obtain ⟨R, hR⟩ : ∃ R, R = stepS b 2 d' := ⟨_, rfl⟩
        rw [← hR] at hC hst hok hno
        have HC := Lib.hid hC
        have HOK := Lib.hid hok
        have HNO := Lib.hid hno
        clear hC hok hno hR hq hDj hrm
        go_wp2_with fail
        refine HC.out.mono ?_
        rintro e w2 ⟨rfl, hD2⟩
        obtain ⟨d2, e2⟩ := R
        simp only at hD2 hst HOK HNO
        by_cases h0 : e2 = 0
        · subst h0
          have hrs2 := HOK.out rfl
          have HRS2 := Lib.hid hrs2
          clear hrs2
          go_wp2_with fail
          go_roundw
          case rel => exact ⟨3, d2, rfl, by omega, hD2, HRS2.out, hst⟩
          case measure => simp [intOf]
        · have hfin := HNO.out h0
          have HFIN := Lib.hid hfin
          have b1 : ((e2 : Int) == 0) = false := by simp; omega
          have b2 : ((e2 : Int) != 0) = true := by simp; omega
          have b3 : (e2 == 0) = false := by simp; omega
          clear hfin h0
          go_wp2_with fail
          go_ret
          unfold SaveE
          rw [HSV.out, HFIN.out]
          exact ⟨rfl, HDR.out w2 d2 hD2⟩
      · have hC : Calls Tryz.prog 87 #[.pointer (some ⟨q, 0, none⟩)] wr fun e w' => e = .returned (.int .i64 ((stepS b 3 d').2 : Nat)) ∧ Dx G wB w' p (stepS b 3 d').1 := ssync_calls hDj (hrm.fits (by omega)).1 hq
        have hst := hrm.step
        have hok : (stepS b 3 d').2 = 0 → restS b 5 0 d = restS b 1 (3 + 1) (stepS b 3 d').1 := fun h => by rw [HRS.out]; exact restS_ok h
        have hno : (stepS b 3 d').2 ≠ 0 → restS b 5 0 d = stepS b 3 d' := fun h => by rw [HRS.out]; exact restS_no h
        obtain ⟨R, hR⟩ : ∃ R, R = stepS b 3 d' := ⟨_, rfl⟩
        rw [← hR] at hC hst hok hno
        have HC := Lib.hid hC
        have HOK := Lib.hid hok
        have HNO := Lib.hid hno
        clear hC hok hno hR hq hDj hrm
        go_wp2_with fail
        refine HC.out.mono ?_
        rintro e w2 ⟨rfl, hD2⟩
        obtain ⟨d2, e2⟩ := R
        simp only at hD2 hst HOK HNO
        by_cases h0 : e2 = 0
        · subst h0
          have hrs2 := HOK.out rfl
          have HRS2 := Lib.hid hrs2
          clear hrs2
          go_wp2_with fail
          go_roundw
          case rel => exact ⟨4, d2, rfl, by omega, hD2, HRS2.out, hst⟩
          case measure => simp [intOf]
        · have hfin := HNO.out h0
          have HFIN := Lib.hid hfin
          have b1 : ((e2 : Int) == 0) = false := by simp; omega
          have b2 : ((e2 : Int) != 0) = true := by simp; omega
          have b3 : (e2 == 0) = false := by simp; omega
          clear hfin h0
          go_wp2_with fail
          go_ret
          unfold SaveE
          rw [HSV.out, HFIN.out]
          exact ⟨rfl, HDR.out w2 d2 hD2⟩
      · have hC : Calls Tryz.prog 88 #[.pointer (some ⟨q, 0, none⟩)] wr fun e w' => e = .returned (.int .i64 ((stepS b 4 d').2 : Nat)) ∧ Dx G wB w' p (stepS b 4 d').1 := srename_calls hDj (hrm.fits (by omega)).1 hq
        have hst := hrm.step
        have hok : (stepS b 4 d').2 = 0 → restS b 5 0 d = restS b 0 (4 + 1) (stepS b 4 d').1 := fun h => by rw [HRS.out]; exact restS_ok h
        have hno : (stepS b 4 d').2 ≠ 0 → restS b 5 0 d = stepS b 4 d' := fun h => by rw [HRS.out]; exact restS_no h
        obtain ⟨R, hR⟩ : ∃ R, R = stepS b 4 d' := ⟨_, rfl⟩
        rw [← hR] at hC hst hok hno
        have HC := Lib.hid hC
        have HOK := Lib.hid hok
        have HNO := Lib.hid hno
        clear hC hok hno hR hq hDj hrm
        go_wp2_with fail
        refine HC.out.mono ?_
        rintro e w2 ⟨rfl, hD2⟩
        obtain ⟨d2, e2⟩ := R
        simp only at hD2 hst HOK HNO
        by_cases h0 : e2 = 0
        · subst h0
          have hrs2 := HOK.out rfl
          have HRS2 := Lib.hid hrs2
          clear hrs2
          go_wp2_with fail
          go_roundw
          case rel => exact ⟨5, d2, rfl, by omega, hD2, HRS2.out, hst⟩
          case measure => simp [intOf]
        · have hfin := HNO.out h0
          have HFIN := Lib.hid hfin
          have b1 : ((e2 : Int) == 0) = false := by simp; omega
          have b2 : ((e2 : Int) != 0) = true := by simp; omega
          have b3 : (e2 == 0) = false := by simp; omega
          clear hfin h0
          go_wp2_with fail
          go_ret
          unfold SaveE
          rw [HSV.out, HFIN.out]
          exact ⟨rfl, HDR.out w2 d2 hD2⟩
      · have hfin : restS b 5 0 d = (d', 0) := HRS.out
        have HFIN := Lib.hid hfin
        clear hfin hq y0 y1 y2 y3 y4
        go_wp2_with fail
        go_ret
        unfold SaveE
        rw [HSV.out, HFIN.out]
        exact ⟨rfl, HDR.out _ _ hDj⟩
  · have hsv : saveR d l = (d, er) := by rw [HSR.out]; simp [he]
    have HSV := Lib.hid hsv
    have b1 : ((er : Int) == 0) = false := by simp; omega
    have b2 : ((er : Int) != 0) = true := by simp; omega
    have b3 : (er == 0) = false := by simp; omega
    have hD := h.mod0 hm
    clear hsv HSR he
    go_wp2_with fail
    go_ret
    unfold SaveE
    rw [HSV.out]
    exact ⟨rfl, hD⟩
end Go.Proofs.YtnlmfmceogbomaaGreatDoor

/- Layer 8's document's example; a save beside bytes that are there: plain facts and walks. -/
namespace Go.Proofs.YtnlmfmceogbomaaGreatDoor
open Go.RowKit
set_option linter.unusedVariables false

theorem ltST : cmpS sSnap sTmp < 0 := by decide +kernel
def dS0 : Dk := freeD 1000 [] [] 0
def sA8 : ByteArray := ⟨#[97]⟩
def s18 : ByteArray := ⟨#[49]⟩
theorem aw8a : loadR dS0 = ([], 0) := by decide +kernel
theorem aw8b : (saveR dS0 [⟨sA8, s18⟩]).2 = 0 ∧ loadR (saveR dS0 [⟨sA8, s18⟩]).1 = ([⟨sA8, s18⟩], 0) ∧ (saveR dS0 [⟨sA8, s18⟩]).1.c ≤ 100 ∧ (saveR dS0 [⟨sA8, s18⟩]).1.fs.length ≤ 100 ∧ usedF (saveR dS0 [⟨sA8, s18⟩]).1.fs ≤ 1000 := by decide +kernel
theorem aw8c : (tableR [⟨sA8, s18⟩]).1.length ≤ 1000 := by decide +kernel


/-- A save to a disk of a free plan that has one file, 'snap'. -/
theorem save_one (b x : List UInt8) (c : Nat) (h : b.length + x.length ≤ 100000) : (saveD (freeD 100000 [] [⟨sSnap, b, 0⟩] c) x).2 = 0 := by
  have h0 : stepS x 0 (freeD 100000 [] [⟨sSnap, b, 0⟩] c) = (freeD 100000 [] [⟨sSnap, b, 0⟩] c, 0) := by
    have hn : hasF [⟨sSnap, b, 0⟩] sTmp = false := by simp [hasF, sSnap, sTmp]
    show clearD _ = _
    unfold clearD
    rw [if_neg (by show ¬ hasF [⟨sSnap, b, 0⟩] sTmp = true; rw [hn]; simp)]
  have h1 : stepS x 1 (freeD 100000 [] [⟨sSnap, b, 0⟩] c) = (freeD 100000 [] [⟨sSnap, b, 0⟩, ⟨sTmp, [], 0⟩] (c + 1), 0) := by
    have e1 : hitF [⟨sSnap, b, 0⟩] sTmp = false := by rw [hitF_cons, if_pos ltST, hitF_nil]
    have e2 : lbF [⟨sSnap, b, 0⟩] sTmp = 1 := by rw [lbF_cons, if_pos ltST, lbF_nil]
    show createD _ sTmp = _
    unfold createD
    rw [gateD_free]
    unfold createF
    rw [if_neg (by decide)]
    show (if hitF [⟨sSnap, b, 0⟩] sTmp = true then _ else _) = _
    rw [if_neg (by rw [e1]; simp)]
    show (({ freeD 100000 [] [⟨sSnap, b, 0⟩] (c + 1) with fs := putF [⟨sSnap, b, 0⟩] ⟨sTmp, [], 0⟩ } : Dk), 0) = _
    unfold putF
    simp only [e1, e2]
    rfl
  have g1 : ∀ (y : List UInt8) (s : Nat), hitF [⟨sSnap, b, 0⟩, ⟨sTmp, y, s⟩] sTmp = true := fun y s => by rw [hitF_cons, if_pos ltST]; exact hitF_one _ _ _ _
  have g2 : ∀ (y : List UInt8) (s : Nat), lbF [⟨sSnap, b, 0⟩, ⟨sTmp, y, s⟩] sTmp = 1 := fun y s => by rw [lbF_cons, if_pos ltST, lbF_one]
  have h2 : stepS x 2 (freeD 100000 [] [⟨sSnap, b, 0⟩, ⟨sTmp, [], 0⟩] (c + 1)) = (freeD 100000 [] [⟨sSnap, b, 0⟩, ⟨sTmp, x, 0⟩] (c + 2), 0) := by
    show appendD _ sTmp x = _
    unfold appendD withD
    rw [gateD_free, hitAns_true _ (g1 _ _)]
    show appendF x _ (lbF [⟨sSnap, b, 0⟩, ⟨sTmp, [], 0⟩] sTmp) = _
    rw [g2]
    unfold appendF
    rw [if_neg (by simp [freeD, usedF]; omega)]
    rfl
  have h3 : stepS x 3 (freeD 100000 [] [⟨sSnap, b, 0⟩, ⟨sTmp, x, 0⟩] (c + 2)) = (freeD 100000 [] [⟨sSnap, b, 0⟩, ⟨sTmp, x, x.length⟩] (c + 3), 0) := by
    show syncD _ sTmp = _
    unfold syncD withD
    rw [gateD_free, hitAns_true _ (g1 _ _)]
    show syncF _ (lbF [⟨sSnap, b, 0⟩, ⟨sTmp, x, 0⟩] sTmp) = _
    rw [g2]
    rfl
  have h4 : (stepS x 4 (freeD 100000 [] [⟨sSnap, b, 0⟩, ⟨sTmp, x, x.length⟩] (c + 3))).2 = 0 := by
    show (renameD _ sTmp sSnap).2 = 0
    unfold renameD withD
    rw [gateD_free, hitAns_true _ (g1 _ _)]
    unfold renameF
    rw [if_neg (by decide), if_neg (by decide)]
  unfold saveD
  rw [restS_ok (by rw [h0]), h0]
  show (restS x 4 1 (freeD 100000 [] [⟨sSnap, b, 0⟩] c)).2 = 0
  rw [restS_ok (by rw [h1]), h1]
  show (restS x 3 2 (freeD 100000 [] [⟨sSnap, b, 0⟩, ⟨sTmp, [], 0⟩] (c + 1))).2 = 0
  rw [restS_ok (by rw [h2]), h2]
  show (restS x 2 3 (freeD 100000 [] [⟨sSnap, b, 0⟩, ⟨sTmp, x, 0⟩] (c + 2))).2 = 0
  rw [restS_ok (by rw [h3]), h3]
  show (restS x 1 4 (freeD 100000 [] [⟨sSnap, b, 0⟩, ⟨sTmp, x, x.length⟩] (c + 3))).2 = 0
  rw [restS_ok h4]
  rfl

set_option maxHeartbeats 1000000 in
set_option maxRecDepth 100000 in
theorem load_nil (w : World) : Calls Tryz.prog 35 #[.pointer none] w fun e w' => e = .returned (.tuple #[.slice none 0 0, .int .i64 3]) ∧ w' = w := by
  go_enter Tryz.func35, Tryz.ntmps35
  go_wp2_with ((with_reducible refine (read_nil _ _).mono ?_); rintro e wz ⟨rfl, rfl⟩)
  go_ret2
  exact ⟨rfl, rfl⟩
set_option maxHeartbeats 1000000 in
set_option maxRecDepth 100000 in
theorem save_nil (v : Value) (w : World) : Calls Tryz.prog 48 #[.pointer none, v] w fun e w' => e = .returned (.int .i64 3) ∧ w' = w := by
  go_enter Tryz.func48, Tryz.ntmps48
  go_wp2_with fail
  go_ret
  exact ⟨rfl, rfl⟩
end Go.Proofs.YtnlmfmceogbomaaGreatDoor

/- Saves on a disk that has at most the two files of a save: what they make of it, whatever the plan. No program stands here. -/
namespace Go.Proofs.YtnlmfmceogbomaaGreatDoor
set_option linter.unusedVariables false

def F1 (x : List UInt8) (s : Nat) : List Fl := [⟨sSnap, x, s⟩]
def F2 (x : List UInt8) (s : Nat) (t : List UInt8) (u : Nat) : List Fl := [⟨sSnap, x, s⟩, ⟨sTmp, t, u⟩]
def T1 (t : List UInt8) (u : Nat) : List Fl := [⟨sTmp, t, u⟩]
theorem gate_okS {d : Dk} {op : Dk → Ans} (h : d.dn = false) (h1 : ((d.c + 1 : Nat) : Int) ≠ d.p.crash) (h2 : ((d.c + 1 : Nat) : Int) ∉ d.p.fail) : gateD d op = op { d with c := d.c + 1 } := by
  unfold gateD
  rw [if_neg (by simp [h]), if_neg h1, if_neg h2]
theorem gate_zero {d : Dk} {op : Dk → Ans} (h : (gateD d op).2 = 0) : gateD d op = op { d with c := d.c + 1 } := by
  unfold gateD at h ⊢
  split at h
  · exact absurd h (by simp)
  · rename_i h1
    rw [if_neg h1]
    split at h
    · exact absurd h (by simp)
    · rename_i h2
      rw [if_neg h2]
      split at h
      · exact absurd h (by simp)
      · rename_i h3
        rw [if_neg h3]
theorem gate_fs {d : Dk} {op : Dk → Ans} (P : List Fl → Prop) (h0 : P d.fs) (h1 : ∀ c dn, P (op { d with c := c, dn := dn }).1.fs) : P (gateD d op).1.fs := by
  unfold gateD
  split
  · exact h0
  · split
    · split
      · exact h1 _ _
      · exact h0
    · split
      · exact h0
      · exact h1 _ _

/-- What the calls do to the lists of files. -/
theorem hitF2 (x t : List UInt8) (s u : Nat) : hitF (F2 x s t u) sTmp = true := by unfold F2; rw [hitF_cons, if_pos ltST]; exact hitF_one _ _ _ _
theorem lbF2 (x t : List UInt8) (s u : Nat) : lbF (F2 x s t u) sTmp = 1 := by unfold F2; rw [lbF_cons, if_pos ltST, lbF_one]
theorem hitF1 (x : List UInt8) (s : Nat) : hitF (F1 x s) sTmp = false := by unfold F1; rw [hitF_cons, if_pos ltST, hitF_nil]
theorem lbF1 (x : List UInt8) (s : Nat) : lbF (F1 x s) sTmp = 1 := by unfold F1; rw [lbF_cons, if_pos ltST, lbF_nil]
theorem has1 (x : List UInt8) (s : Nat) : hasF (F1 x s) sTmp = false := by simp [hasF, F1, sSnap, sTmp]
theorem has2 (x t : List UInt8) (s u : Nat) : hasF (F2 x s t u) sTmp = true := by simp [hasF, F2]
theorem createF_1 {d : Dk} {x : List UInt8} {s : Nat} (h : d.fs = F1 x s) : createF sTmp d = ({ d with fs := F2 x s [] 0 }, 0) := by
  unfold createF
  rw [if_neg (by decide), h, if_neg (by rw [hitF1]; simp)]
  unfold putF
  simp only [hitF1, lbF1]
  rfl
theorem createF_0 {d : Dk} (h : d.fs = []) : createF sTmp d = ({ d with fs := T1 [] 0 }, 0) := by
  unfold createF
  rw [if_neg (by decide), h]
  rfl
theorem hit2 {d : Dk} {x t : List UInt8} {s u : Nat} (f : Dk → Nat → Ans) (h : d.fs = F2 x s t u) : hitAns d sTmp f = f d 1 := by
  rw [hitAns_true f (by rw [h]; exact hitF2 _ _ _ _), h, lbF2]
theorem hit1 {d : Dk} {t : List UInt8} {u : Nat} (f : Dk → Nat → Ans) (h : d.fs = T1 t u) : hitAns d sTmp f = f d 0 := by
  rw [hitAns_true f (by rw [h]; exact hitF_one _ _ _ _), h]
  unfold T1
  rw [lbF_one]
theorem appendF_2 {d : Dk} {x t y : List UInt8} {s u : Nat} (h : d.fs = F2 x s t u) (hc : ((x.length + t.length + y.length : Nat) : Int) ≤ d.p.cap) : appendF y d 1 = ({ d with fs := F2 x s (t ++ y) u }, 0) := by
  unfold appendF fileAt
  rw [h, if_neg (by simp [F2, usedF]; omega)]
  rfl
theorem appendF_2no {d : Dk} {x t y : List UInt8} {s u : Nat} (h : d.fs = F2 x s t u) (hc : d.p.cap < ((x.length + t.length + y.length : Nat) : Int)) : appendF y d 1 = (d, 5) := by
  unfold appendF
  rw [h, if_pos (by simp [F2, usedF]; omega)]
theorem appendF_1 {d : Dk} {t y : List UInt8} {u : Nat} (h : d.fs = T1 t u) (hc : ((t.length + y.length : Nat) : Int) ≤ d.p.cap) : appendF y d 0 = ({ d with fs := T1 (t ++ y) u }, 0) := by
  unfold appendF fileAt
  rw [h, if_neg (by simp [T1, usedF]; omega)]
  rfl
theorem syncF_2 {d : Dk} {x t : List UInt8} {s u : Nat} (h : d.fs = F2 x s t u) : syncF d 1 = ({ d with fs := F2 x s t t.length }, 0) := by
  unfold syncF fileAt
  rw [h]
  rfl
theorem syncF_1 {d : Dk} {t : List UInt8} {u : Nat} (h : d.fs = T1 t u) : syncF d 0 = ({ d with fs := T1 t t.length }, 0) := by
  unfold syncF fileAt
  rw [h]
  rfl
theorem renameF_2 {d : Dk} {x t : List UInt8} {s u : Nat} (h : d.fs = F2 x s t u) : renameF sTmp sSnap d 1 = ({ d with fs := F1 t u }, 0) := by
  unfold renameF fileAt
  rw [if_neg (by decide), if_neg (by decide), h]
  show (({ d with fs := putF [⟨sSnap, x, s⟩] ⟨sSnap, t, u⟩ } : Dk), 0) = _
  unfold putF
  simp only [hitF_one, lbF_one]
  rfl
theorem renameF_1 {d : Dk} {t : List UInt8} {u : Nat} (h : d.fs = T1 t u) : renameF sTmp sSnap d 0 = ({ d with fs := F1 t u }, 0) := by
  unfold renameF fileAt
  rw [if_neg (by decide), if_neg (by decide), h]
  rfl
theorem removeF_2 {d : Dk} {x t : List UInt8} {s u : Nat} (h : d.fs = F2 x s t u) : removeF d 1 = ({ d with fs := F1 x s }, 0) := by
  unfold removeF
  rw [h]
  rfl

/-- The calls from c on, n of them, are neither failed nor crashed. -/
structure Calm (d : Dk) (n : Nat) : Prop where
  dn : d.dn = false
  ok : ∀ j : Nat, d.c < j → j ≤ d.c + n → (j : Int) ≠ d.p.crash ∧ (j : Int) ∉ d.p.fail
theorem Calm.free (cap : Int) (keep : List Int) (fs : List Fl) (c n : Nat) : Calm (freeD cap keep fs c) n := ⟨rfl, fun j h _ => ⟨by show (j : Int) ≠ 0; omega, by simp [freeD]⟩⟩
theorem Calm.gate {d : Dk} {n : Nat} (h : Calm d (n + 1)) (op : Dk → Ans) : gateD d op = op { d with c := d.c + 1 } := gate_okS h.dn (h.ok (d.c + 1) (by omega) (by omega)).1 (h.ok (d.c + 1) (by omega) (by omega)).2
theorem Calm.next {d : Dk} {n : Nat} (h : Calm d (n + 1)) (fs : List Fl) : Calm { d with c := d.c + 1, fs := fs } n := ⟨h.dn, fun j h1 h2 => h.ok j (by simp only at h1; omega) (by simp only at h2; omega)⟩
theorem rest_step {b : List UInt8} {k j : Nat} {d d' : Dk} (h : stepS b j d = (d', 0)) : restS b (k + 1) j d = restS b k (j + 1) d' := by
  rw [restS_ok (by rw [h]), h]
theorem rest_last {b : List UInt8} {j : Nat} (d : Dk) : restS b 0 j d = (d, 0) := rfl
theorem rest_stop {b : List UInt8} {k j e : Nat} {d d' : Dk} (h : stepS b j d = (d', e)) (he : e ≠ 0) : restS b (k + 1) j d = (d', e) := by
  rw [restS_no (by rw [h]; exact he), h]

theorem clear_1 {d : Dk} {x : List UInt8} {s : Nat} (y : List UInt8) (h : d.fs = F1 x s) : stepS y 0 d = (d, 0) := by
  show clearD d = _
  unfold clearD
  rw [h, if_neg (by rw [has1]; simp)]
theorem clear_0 {d : Dk} (y : List UInt8) (h : d.fs = []) : stepS y 0 d = (d, 0) := by
  show clearD d = _
  unfold clearD
  rw [h, if_neg (by simp [hasF])]
theorem clear_2 {d : Dk} {x t : List UInt8} {s u n : Nat} (y : List UInt8) (h : d.fs = F2 x s t u) (hc : Calm d (n + 1)) : stepS y 0 d = ({ d with c := d.c + 1, fs := F1 x s }, 0) := by
  show clearD d = _
  unfold clearD
  rw [h, if_pos (has2 _ _ _ _)]
  unfold removeD withD
  rw [hc.gate, hit2 (d := { d with c := d.c + 1 }) _ h, removeF_2 (d := { d with c := d.c + 1 }) h]

/-- A save where no call is failed, on a disk that has the file 'snap'. -/
theorem save_on1 {d : Dk} {x y : List UInt8} {s : Nat} (h : d.fs = F1 x s) (hc : Calm d 4) (hr : ((x.length + y.length : Nat) : Int) ≤ d.p.cap) : saveD d y = ({ d with c := d.c + 4, fs := F1 y y.length }, 0) := by
  unfold saveD
  rw [rest_step (clear_1 y h)]
  have h1 : stepS y 1 d = ({ d with c := d.c + 1, fs := F2 x s [] 0 }, 0) := by
    show createD d sTmp = _
    unfold createD
    rw [hc.gate, createF_1 (d := { d with c := d.c + 1 }) h]
  rw [rest_step h1]
  have c1 := hc.next (F2 x s [] 0)
  have h2 : stepS y 2 { d with c := d.c + 1, fs := F2 x s [] 0 } = ({ d with c := d.c + 2, fs := F2 x s y 0 }, 0) := by
    show appendD _ sTmp y = _
    unfold appendD withD
    rw [c1.gate, hit2 (x := x) (s := s) (t := []) (u := 0) _ rfl, appendF_2 (x := x) (s := s) (t := []) (u := 0) rfl (by simpa using hr)]
    rfl
  rw [rest_step h2]
  have c2 : Calm { d with c := d.c + 2, fs := F2 x s y 0 } 2 := c1.next (F2 x s y 0)
  have h3 : stepS y 3 { d with c := d.c + 2, fs := F2 x s y 0 } = ({ d with c := d.c + 3, fs := F2 x s y y.length }, 0) := by
    show syncD _ sTmp = _
    unfold syncD withD
    rw [c2.gate, hit2 (x := x) (s := s) (t := y) (u := 0) _ rfl, syncF_2 (x := x) (s := s) (t := y) (u := 0) rfl]
  rw [rest_step h3]
  have c3 : Calm { d with c := d.c + 3, fs := F2 x s y y.length } 1 := c2.next (F2 x s y y.length)
  have h4 : stepS y 4 { d with c := d.c + 3, fs := F2 x s y y.length } = ({ d with c := d.c + 4, fs := F1 y y.length }, 0) := by
    show renameD _ sTmp sSnap = _
    unfold renameD withD
    rw [c3.gate, hit2 (x := x) (s := s) (t := y) (u := y.length) _ rfl, renameF_2 (x := x) (s := s) (t := y) (u := y.length) rfl]
  rw [rest_step h4]
  rfl
/-- The same on a disk without files. -/
theorem save_on0 {d : Dk} {y : List UInt8} (h : d.fs = []) (hc : Calm d 4) (hr : ((y.length : Nat) : Int) ≤ d.p.cap) : saveD d y = ({ d with c := d.c + 4, fs := F1 y y.length }, 0) := by
  unfold saveD
  rw [rest_step (clear_0 y h)]
  have h1 : stepS y 1 d = ({ d with c := d.c + 1, fs := T1 [] 0 }, 0) := by
    show createD d sTmp = _
    unfold createD
    rw [hc.gate, createF_0 (d := { d with c := d.c + 1 }) h]
  rw [rest_step h1]
  have c1 := hc.next (T1 [] 0)
  have h2 : stepS y 2 { d with c := d.c + 1, fs := T1 [] 0 } = ({ d with c := d.c + 2, fs := T1 y 0 }, 0) := by
    show appendD _ sTmp y = _
    unfold appendD withD
    rw [c1.gate, hit1 (t := []) (u := 0) _ rfl, appendF_1 (t := []) (u := 0) rfl (by simpa using hr)]
    rfl
  rw [rest_step h2]
  have c2 : Calm { d with c := d.c + 2, fs := T1 y 0 } 2 := c1.next (T1 y 0)
  have h3 : stepS y 3 { d with c := d.c + 2, fs := T1 y 0 } = ({ d with c := d.c + 3, fs := T1 y y.length }, 0) := by
    show syncD _ sTmp = _
    unfold syncD withD
    rw [c2.gate, hit1 (t := y) (u := 0) _ rfl, syncF_1 (t := y) (u := 0) rfl]
  rw [rest_step h3]
  have c3 : Calm { d with c := d.c + 3, fs := T1 y y.length } 1 := c2.next (T1 y y.length)
  have h4 : stepS y 4 { d with c := d.c + 3, fs := T1 y y.length } = ({ d with c := d.c + 4, fs := F1 y y.length }, 0) := by
    show renameD _ sTmp sSnap = _
    unfold renameD withD
    rw [c3.gate, hit1 (t := y) (u := y.length) _ rfl, renameF_1 (t := y) (u := y.length) rfl]
  rw [rest_step h4]
  rfl
/-- Without room the first file stays. -/
theorem save_full {d : Dk} {x y : List UInt8} {s : Nat} (h : d.fs = F1 x s) (hc : Calm d 2) (hr : d.p.cap < ((x.length + y.length : Nat) : Int)) : saveD d y = ({ d with c := d.c + 2, fs := F2 x s [] 0 }, 5) := by
  unfold saveD
  rw [rest_step (clear_1 y h)]
  have h1 : stepS y 1 d = ({ d with c := d.c + 1, fs := F2 x s [] 0 }, 0) := by
    show createD d sTmp = _
    unfold createD
    rw [hc.gate, createF_1 (d := { d with c := d.c + 1 }) h]
  rw [rest_step h1]
  have c1 := hc.next (F2 x s [] 0)
  refine rest_stop ?_ (by decide)
  show appendD _ sTmp y = _
  unfold appendD withD
  rw [c1.gate, hit2 (x := x) (s := s) (t := []) (u := 0) _ rfl, appendF_2no (x := x) (s := s) (t := []) (u := 0) rfl (by simpa using hr)]
/-- Where both files stand already. -/
theorem save_on2 {d : Dk} {x y t : List UInt8} {s u : Nat} (h : d.fs = F2 x s t u) (hc : Calm d 5) (hr : ((x.length + y.length : Nat) : Int) ≤ d.p.cap) : saveD d y = ({ d with c := d.c + 5, fs := F1 y y.length }, 0) := by
  have h1 := save_on1 (d := { d with c := d.c + 1, fs := F1 x s }) (y := y) rfl (hc.next _) hr
  unfold saveD at h1 ⊢
  rw [rest_step (clear_1 y rfl)] at h1
  rw [rest_step (clear_2 y h hc), h1]

/-- A save, whatever fails: what stands at 'snap' is the one that was, or this one. -/
structure TwinB (x y : List UInt8) (r : Ans) : Prop where
  fs : r.1.fs = F1 x x.length ∨ (∃ t u, r.1.fs = F2 x x.length t u) ∨ r.1.fs = F1 y y.length
  ok : r.2 = 0 → r.1.fs = F1 y y.length
theorem save_two {d : Dk} {x y : List UInt8} (h : d.fs = F1 x x.length) (hr : ((x.length + y.length : Nat) : Int) ≤ d.p.cap) : TwinB x y (saveD d y) := by
  unfold saveD
  rw [rest_step (clear_1 y h)]
  have q1 : (∃ t u, (stepS y 1 d).1.fs = F2 x x.length t u) ∨ (stepS y 1 d).1.fs = F1 x x.length := by
    show (∃ t u, (gateD d (createF sTmp)).1.fs = _) ∨ (gateD d (createF sTmp)).1.fs = _
    refine gate_fs (fun fs => (∃ t u, fs = F2 x x.length t u) ∨ fs = F1 x x.length) (.inr h) fun c dn => ?_
    rw [createF_1 (d := { d with c := c, dn := dn }) (x := x) (s := x.length) h]
    exact .inl ⟨_, _, rfl⟩
  by_cases z1 : (stepS y 1 d).2 = 0
  rotate_left
  · rw [restS_no z1]
    refine ⟨?_, fun h => absurd h z1⟩
    rcases q1 with q | q
    · exact .inr (.inl q)
    · exact .inl q
  have e1 : stepS y 1 d = ({ d with c := d.c + 1, fs := F2 x x.length [] 0 }, 0) := by
    show gateD d (createF sTmp) = _
    rw [gate_zero (show (gateD d (createF sTmp)).2 = 0 from z1), createF_1 (d := { d with c := d.c + 1 }) (x := x) (s := x.length) h]
  rw [rest_step e1]
  obtain ⟨d1, hd1⟩ : ∃ d1 : Dk, d1 = { d with c := d.c + 1, fs := F2 x x.length [] 0 } := ⟨_, rfl⟩
  have f1 : d1.fs = F2 x x.length [] 0 := by rw [hd1]
  have p1 : d1.p.cap = d.p.cap := by rw [hd1]
  rw [← hd1]
  clear hd1 e1 z1 q1
  have q2 : ∃ t u, (stepS y 2 d1).1.fs = F2 x x.length t u := by
    show ∃ t u, (gateD d1 fun d => hitAns d sTmp (appendF y)).1.fs = _
    refine gate_fs (fun fs => ∃ t u, fs = F2 x x.length t u) ⟨_, _, f1⟩ fun c dn => ?_
    rw [hit2 (d := { d1 with c := c, dn := dn }) (x := x) (s := x.length) (t := []) (u := 0) _ f1, appendF_2 (d := { d1 with c := c, dn := dn }) (x := x) (s := x.length) (t := []) (u := 0) f1 (by rw [List.length_nil]; simp only [p1]; omega)]
    exact ⟨_, _, rfl⟩
  by_cases z2 : (stepS y 2 d1).2 = 0
  rotate_left
  · rw [restS_no z2]
    exact ⟨.inr (.inl q2), fun h => absurd h z2⟩
  have e2 : stepS y 2 d1 = ({ d1 with c := d1.c + 1, fs := F2 x x.length y 0 }, 0) := by
    show gateD d1 (fun d => hitAns d sTmp (appendF y)) = _
    rw [gate_zero (show (gateD d1 fun d => hitAns d sTmp (appendF y)).2 = 0 from z2)]
    rw [hit2 (d := { d1 with c := d1.c + 1 }) (x := x) (s := x.length) (t := []) (u := 0) _ f1, appendF_2 (d := { d1 with c := d1.c + 1 }) (x := x) (s := x.length) (t := []) (u := 0) f1 (by rw [List.length_nil]; simp only [p1]; omega)]
    rfl
  rw [rest_step e2]
  obtain ⟨d2, hd2⟩ : ∃ d2 : Dk, d2 = { d1 with c := d1.c + 1, fs := F2 x x.length y 0 } := ⟨_, rfl⟩
  have f2 : d2.fs = F2 x x.length y 0 := by rw [hd2]
  rw [← hd2]
  clear hd2 e2 z2 q2 f1 p1
  have q3 : ∃ t u, (stepS y 3 d2).1.fs = F2 x x.length t u := by
    show ∃ t u, (gateD d2 fun d => hitAns d sTmp syncF).1.fs = _
    refine gate_fs (fun fs => ∃ t u, fs = F2 x x.length t u) ⟨_, _, f2⟩ fun c dn => ?_
    rw [hit2 (d := { d2 with c := c, dn := dn }) (x := x) (s := x.length) (t := y) (u := 0) _ f2, syncF_2 (d := { d2 with c := c, dn := dn }) (x := x) (s := x.length) (t := y) (u := 0) f2]
    exact ⟨_, _, rfl⟩
  by_cases z3 : (stepS y 3 d2).2 = 0
  rotate_left
  · rw [restS_no z3]
    exact ⟨.inr (.inl q3), fun h => absurd h z3⟩
  have e3 : stepS y 3 d2 = ({ d2 with c := d2.c + 1, fs := F2 x x.length y y.length }, 0) := by
    show gateD d2 (fun d => hitAns d sTmp syncF) = _
    rw [gate_zero (show (gateD d2 fun d => hitAns d sTmp syncF).2 = 0 from z3)]
    rw [hit2 (d := { d2 with c := d2.c + 1 }) (x := x) (s := x.length) (t := y) (u := 0) _ f2, syncF_2 (d := { d2 with c := d2.c + 1 }) (x := x) (s := x.length) (t := y) (u := 0) f2]
  rw [rest_step e3]
  obtain ⟨d3, hd3⟩ : ∃ d3 : Dk, d3 = { d2 with c := d2.c + 1, fs := F2 x x.length y y.length } := ⟨_, rfl⟩
  have f3 : d3.fs = F2 x x.length y y.length := by rw [hd3]
  rw [← hd3]
  clear hd3 e3 z3 q3 f2
  have q4 : d3.fs = F2 x x.length y y.length → (∃ t u, (stepS y 4 d3).1.fs = F2 x x.length t u) ∨ (stepS y 4 d3).1.fs = F1 y y.length := by
    intro _
    show (∃ t u, (gateD d3 fun d => hitAns d sTmp (renameF sTmp sSnap)).1.fs = _) ∨ (gateD d3 fun d => hitAns d sTmp (renameF sTmp sSnap)).1.fs = _
    refine gate_fs (fun fs => (∃ t u, fs = F2 x x.length t u) ∨ fs = F1 y y.length) (.inl ⟨_, _, f3⟩) fun c dn => ?_
    rw [hit2 (d := { d3 with c := c, dn := dn }) (x := x) (s := x.length) (t := y) (u := y.length) _ f3, renameF_2 (d := { d3 with c := c, dn := dn }) (x := x) (s := x.length) (t := y) (u := y.length) f3]
    exact .inr rfl
  by_cases z4 : (stepS y 4 d3).2 = 0
  rotate_left
  · rw [restS_no z4]
    refine ⟨?_, fun h => absurd h z4⟩
    rcases q4 f3 with q | q
    · exact .inr (.inl q)
    · exact .inr (.inr q)
  have e4 : stepS y 4 d3 = ({ d3 with c := d3.c + 1, fs := F1 y y.length }, 0) := by
    show gateD d3 (fun d => hitAns d sTmp (renameF sTmp sSnap)) = _
    rw [gate_zero (show (gateD d3 fun d => hitAns d sTmp (renameF sTmp sSnap)).2 = 0 from z4)]
    rw [hit2 (d := { d3 with c := d3.c + 1 }) (x := x) (s := x.length) (t := y) (u := y.length) _ f3, renameF_2 (d := { d3 with c := d3.c + 1 }) (x := x) (s := x.length) (t := y) (u := y.length) f3]
  rw [rest_step e4]
  exact ⟨.inr (.inr rfl), fun _ => rfl⟩

/-- How much a save lets a disk grow. -/
theorem restS_grow (b : List UInt8) : ∀ (k j : Nat) (d : Dk), (restS b k j d).1.c ≤ d.c + k ∧ (restS b k j d).1.fs.length ≤ d.fs.length + k ∧ usedF (restS b k j d).1.fs ≤ usedF d.fs + k * b.length
  | 0, j, d => ⟨Nat.le_refl _, Nat.le_refl _, by simp [restS]⟩
  | k + 1, j, d => by
    have g := stepS_grow b j d
    have g1 := g.c
    have g2 := g.l
    have g3 := g.u
    have e : (k + 1) * b.length = k * b.length + b.length := by rw [Nat.add_mul, Nat.one_mul]
    by_cases h : (stepS b j d).2 = 0
    · rw [restS_ok h]
      have ih := restS_grow b k (j + 1) (stepS b j d).1
      omega
    · rw [restS_no h]
      have : 0 ≤ k * b.length := Nat.zero_le _
      omega
theorem saveD_grow (d : Dk) (b : List UInt8) : (saveD d b).1.c ≤ d.c + 5 ∧ (saveD d b).1.fs.length ≤ d.fs.length + 5 ∧ usedF (saveD d b).1.fs ≤ usedF d.fs + 5 * b.length := restS_grow b 5 0 d

/-- What is loaded where 'snap' stands first. -/
theorem load_first {d : Dk} {x : List UInt8} {s : Nat} {r : List Fl} (h : d.fs = ⟨sSnap, x, s⟩ :: r) (hd : d.dn = false) : loadR d = ((fromT x).getD [], errP (fromT x)) := by
  have e : readD d sSnap = (x, 0) := by
    unfold readD
    rw [if_neg (by rw [hd]; decide), h, if_pos (hitF_one _ _ _ _)]
    unfold fileAt
    rw [h, lbF_one]
    rfl
  unfold loadR
  rw [e]
  rfl
theorem restF_whole (keep : List Int) (i : Nat) (n : ByteArray) (x : List UInt8) : restF keep i ⟨n, x, x.length⟩ = ⟨n, x, x.length⟩ := by
  rw [restF_len keep i ⟨n, x, x.length⟩ (Nat.le_refl _)]
  have e : x.take (x.length + (max 0 (keep[i]?.getD 0)).toNat) = x := List.take_of_length_le (by omega)
  simp only [e]
theorem restart_first {d : Dk} {x : List UInt8} {r : List Fl} (h : d.fs = ⟨sSnap, x, x.length⟩ :: r) (p : Pl) : ∃ r', (restartD d p).fs = ⟨sSnap, x, x.length⟩ :: r' := by
  unfold restartD
  simp only [h, List.mapIdx_cons, restF_whole]
  exact ⟨_, rfl⟩
theorem TwinB.loads {x y : List UInt8} {r : Ans} (h : TwinB x y r) (p : Pl) : (loadR (restartD r.1 p) = ((fromT y).getD [], errP (fromT y)) ∨ loadR (restartD r.1 p) = ((fromT x).getD [], errP (fromT x))) ∧ (r.2 = 0 → loadR (restartD r.1 p) = ((fromT y).getD [], errP (fromT y))) := by
  have hy : r.1.fs = F1 y y.length → loadR (restartD r.1 p) = ((fromT y).getD [], errP (fromT y)) := fun h => by
    obtain ⟨r', hr⟩ := restart_first (x := y) h p
    exact load_first hr rfl
  refine ⟨?_, fun h0 => hy (h.ok h0)⟩
  rcases h.fs with h | ⟨t, u, h⟩ | h
  · obtain ⟨r', hr⟩ := restart_first (x := x) h p
    exact .inr (load_first hr rfl)
  · obtain ⟨r', hr⟩ := restart_first (x := x) h p
    exact .inr (load_first hr rfl)
  · exact .inl (hy h)
end Go.Proofs.YtnlmfmceogbomaaGreatDoor

/- The table of pairs that were made right: plain facts. -/
namespace Go.Proofs.YtnlmfmceogbomaaGreatDoor
set_option linter.unusedVariables false

theorem wS_normT (l : List Pr) : wS (normT l) ≤ wS l := by
  have h := wS_foldput l []
  have e : wS [] = 0 := rfl
  unfold normT
  omega
theorem Dx.base {w0 w : World} {p : Nat} {d : Dk} (h : Dx (OldB w0) w0 w p d) : Mod NoneB w0 w := h.old.base
theorem bytesP {w : World} {r : List UInt8 × Nat} {e : Ending} {w' : World} (h : BytesE r w e w') : ∃ A c, e = .returned (.tuple #[.slice A r.1.length c, .int .i64 r.2]) ∧ r.1.length ≤ c ∧ Rd w' 1 A r.1.length (encB r.1) ∧ Mod NoneB w w' := by
  obtain ⟨v, rfl, ho, hm, _⟩ := h
  obtain ⟨A, c, rfl, hc, _, hr⟩ := ho.out
  exact ⟨A, c, rfl, hc, hr, hm⟩
/-- Pairs that are right, and their bytes. -/
structure Tabs (p : List Pr) (x : List UInt8) : Prop where
  ok : tableR p = (x, 0)
  back : fromT x = some p
  lo : 12 ≤ x.length
  hi : x.length ≤ 24012
  small : SmallP p
theorem tabs_norm (l : List Pr) (h : wS l ≤ 24000) : ∃ x, Tabs (normT l) x := by
  have hn := wS_normT l
  have hs := wS_small (l := normT l) (by omega)
  have hr := rises_normT l
  have hf : (frameB (encL (tabT (normT l)))).length = 8 + (encL (tabT (normT l))).length := frameB_length _
  have hb := tabT_bytes (normT l)
  have h1 := hs.1
  have h2 := hs.2
  have h3 := tableR_ok hr (show wS (normT l) ≤ 24000 by omega)
  have h4 := fromT_frame hr hs.1 (by omega)
  exact ⟨_, h3, h4, by omega, by omega, h1⟩
theorem Tabs.save {p : List Pr} {x : List UInt8} (h : Tabs p x) (d : Dk) : saveR d p = saveD d x := by
  unfold saveR
  rw [h.ok]
  exact if_pos rfl
theorem Tabs.load {p : List Pr} {x : List UInt8} (h : Tabs p x) : ((fromT x).getD [], errP (fromT x)) = (p, 0) := by rw [h.back]; rfl
theorem Tabs.room {p : List Pr} {x : List UInt8} (h : Tabs p x) {d : Dk} (hc : d.c ≤ 1000) (hl : d.fs.length ≤ 1000) (hu : usedF d.fs ≤ 1000000) : RoomS d (tableR p).1 0 := by
  rw [h.ok]
  have := h.hi
  exact ⟨by omega, by omega, by simp only [Nat.mul_zero]; omega, by simp only; omega⟩

/-- Of a disk that is a little too small for two. -/
theorem falls_ok {p q : List Pr} {x y : List UInt8} (hp : Tabs p x) (hq : Tabs q y) :
    ∃ D1 D2 D3 D4 : Dk, saveR (freeD (((x.length + y.length : Nat) : Int) - 1) [] [] 0) p = (D1, 0) ∧ saveR D1 q = (D2, 5) ∧ loadR D2 = (p, 0) ∧ restartD D2 ⟨((x.length + y.length : Nat) : Int), [], 0, false, []⟩ = D3 ∧
      saveR D3 q = (D4, 0) ∧ loadR D4 = (q, 0) ∧ (∀ D, D = D1 ∨ D = D2 ∨ D = D3 ∨ D = D4 → D.c ≤ 100 ∧ D.fs.length ≤ 100 ∧ usedF D.fs ≤ 100000) := by
  have l1 := hp.lo
  have l2 := hq.lo
  have u1 := hp.hi
  have u2 := hq.hi
  have s1 := save_on0 (d := freeD (((x.length + y.length : Nat) : Int) - 1) [] [] 0) (y := x) rfl (Calm.free _ _ _ _ _) (by show (x.length : Int) ≤ _ - 1; omega)
  have s2 := save_full (d := freeD (((x.length + y.length : Nat) : Int) - 1) [] (F1 x x.length) 4) (x := x) (y := y) (s := x.length) rfl (Calm.free _ _ _ _ _) (by show _ - 1 < ((x.length + y.length : Nat) : Int); omega)
  have r3 : restartD (freeD (((x.length + y.length : Nat) : Int) - 1) [] (F2 x x.length [] 0) 6) ⟨((x.length + y.length : Nat) : Int), [], 0, false, []⟩ = freeD ((x.length + y.length : Nat) : Int) [] (F2 x x.length [] 0) 0 := by
    rw [restart_free]
    unfold F2
    rw [List.mapIdx_cons, restF_whole]
    rfl
  have s4 := save_on2 (d := freeD ((x.length + y.length : Nat) : Int) [] (F2 x x.length [] 0) 0) (x := x) (y := y) (s := x.length) (t := []) (u := 0) rfl (Calm.free _ _ _ _ _) (Int.le_refl _)
  refine ⟨freeD (((x.length + y.length : Nat) : Int) - 1) [] (F1 x x.length) 4, freeD (((x.length + y.length : Nat) : Int) - 1) [] (F2 x x.length [] 0) 6, freeD ((x.length + y.length : Nat) : Int) [] (F2 x x.length [] 0) 0, freeD ((x.length + y.length : Nat) : Int) [] (F1 y y.length) 5, ?_, ?_, ?_, r3, ?_, ?_, ?_⟩
  · rw [hp.save, s1]; rfl
  · rw [hq.save, s2]; rfl
  · rw [← hp.load]; exact load_first (r := [⟨sTmp, [], 0⟩]) rfl rfl
  · rw [hq.save, s4]; rfl
  · rw [← hq.load]; exact load_first (r := []) rfl rfl
  · intro D hD
    rcases hD with rfl | rfl | rfl | rfl <;> refine ⟨by simp [freeD], by simp [freeD, F1, F2], by simp [freeD, F1, F2, usedF]; omega⟩

/-- Of a disk that fails or crashes in the second save. -/
theorem keeps_ok {p q : List Pr} {x y : List UInt8} (hp : Tabs p x) (hq : Tabs q y) (pl : Pl) (hcap : pl.cap = 100000) (hcr : 5 ≤ pl.crash) (hfl : ∀ k ∈ pl.fail, 5 ≤ k) :
    ∃ (D1 D2 D3 : Dk) (f : Nat), saveR ⟨pl, [], 0, false⟩ p = (D1, 0) ∧ saveR D1 q = (D2, f) ∧ restartD D2 ⟨100000, [], 0, false, []⟩ = D3 ∧
      (loadR D3 = (q, 0) ∨ f ≠ 0 ∧ loadR D3 = (p, 0)) ∧ (∀ D, D = D1 ∨ D = D2 ∨ D = D3 → D.c ≤ 100 ∧ D.fs.length ≤ 100 ∧ usedF D.fs ≤ 1000000) := by
  have l1 := hp.lo
  have l2 := hq.lo
  have u1 := hp.hi
  have u2 := hq.hi
  have s1 := save_on0 (d := ⟨pl, [], 0, false⟩) (y := x) rfl ⟨rfl, fun j h1 h2 => by
    simp only at h1 h2
    refine ⟨?_, fun h => ?_⟩
    · show (j : Int) ≠ pl.crash
      omega
    · have := hfl _ h
      omega⟩ (by show (x.length : Int) ≤ pl.cap; omega)
  obtain ⟨D1, h1⟩ : ∃ D1 : Dk, D1 = ⟨pl, F1 x x.length, 4, false⟩ := ⟨_, rfl⟩
  have h1f : D1.fs = F1 x x.length := by rw [h1]
  have s2 := save_two (d := D1) (x := x) (y := y) h1f (by rw [h1]; show ((x.length + y.length : Nat) : Int) ≤ pl.cap; omega)
  have g2 := saveD_grow D1 y
  obtain ⟨D2, h2⟩ : ∃ D2 : Ans, D2 = saveD D1 y := ⟨_, rfl⟩
  rw [← h2] at s2 g2
  have lo := s2.loads ⟨100000, [], 0, false, []⟩
  rw [hp.load, hq.load] at lo
  have e1 : D1.c = 4 := by rw [h1]
  have e2 : D1.fs.length = 1 := by rw [h1f]; rfl
  have e3 : usedF D1.fs = x.length := by rw [h1f]; simp [F1, usedF]
  have g3 : (restartD D2.1 ⟨100000, [], 0, false, []⟩).fs.length = D2.1.fs.length := by simp [restartD]
  have g4 : usedF (restartD D2.1 ⟨100000, [], 0, false, []⟩).fs ≤ usedF D2.1.fs := by
    have key : ∀ (fs : List Fl) (keep : List Int) (k : Nat), usedF (fs.mapIdx fun i => restF keep (i + k)) ≤ usedF fs := by
      intro fs keep
      induction fs with
      | nil => intro k; exact Nat.le_refl _
      | cons f fs ih =>
        intro k
        rw [List.mapIdx_cons, usedF_cons, usedF_cons]
        have h := ih (k + 1)
        have e : (fun i => restF keep (i + 1 + k)) = fun i => restF keep (i + (k + 1)) := by funext i; congr 1; omega
        have e' : (restF keep (0 + k) f).b.length ≤ f.b.length := by
          unfold restF
          simp only
          split
          · rw [List.length_take]; omega
          · exact Nat.le_refl _
        rw [e]
        omega
    exact key _ _ 0
  refine ⟨D1, D2.1, _, D2.2, by rw [hp.save, s1, h1], by rw [hq.save, ← h2], rfl, ?_, ?_⟩
  · by_cases h0 : D2.2 = 0
    · exact .inl (lo.2 h0)
    · exact lo.1.imp id fun h => ⟨h0, h⟩
  · intro D hD
    have e4 : (restartD D2.1 ⟨100000, [], 0, false, []⟩).c = 0 := rfl
    rcases hD with rfl | rfl | rfl
    · exact ⟨by omega, by omega, by omega⟩
    · exact ⟨by omega, by omega, by omega⟩
    · exact ⟨by omega, by omega, by omega⟩
end Go.Proofs.YtnlmfmceogbomaaGreatDoor

