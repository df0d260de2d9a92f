/- snap.Load. -/
import Derived.StillTailTactics
import Derived.Test.YtnlmfmceogbomaaGreatDoorBatCuQq
import Derived.Test.YtnlmfmceogbomaaGreatDoorDkFsQq
import Derived.Test.YtnlmfmceogbomaaGreatDoorTabEQq
import Derived.Test.YtnlmfmceogbomaaGreatDoorRefTQq
import Derived.Test.YtnlmfmceogbomaaGreatDoorRefApQq
import Derived.Test.YtnlmfmceogbomaaGreatDoorBulkAQq
namespace Go.Proofs.YtnlmfmceogbomaaGreatDoor
open Go.RowKit
set_option linter.unusedVariables false

/-- What is loaded from a disk. -/
def loadR (d : Dk) : List Pr × Nat := if (readD d sSnap).2 = 3 then ([], 0) else if (readD d sSnap).2 = 0 then ((fromT (readD d sSnap).1).getD [], errP (fromT (readD d sSnap).1)) else ([], (readD d sSnap).2)
def LoadE (r : List Pr × Nat) (Kp : Nat → Prop) (w0 w : World) (p : Nat) (d : Dk) (e : Ending) (w' : World) : Prop :=
  ∃ v, e = .returned (.tuple #[v, .int .i64 r.2]) ∧ Own w' 88 2 v r.1.length (encPs r.1) ∧ Dx Kp w0 w' p d ∧ Mod NoneB w w' ∧ (∀ g, v.ownBlock = some g → w.heap.size ≤ g)
theorem readD_le (d : Dk) (n : ByteArray) : (readD d n).1.length ≤ usedF d.fs := by
  unfold readD
  split
  · exact Nat.zero_le _
  · split
    · rename_i h
      rw [fileAt_get (hitF_lt h)]
      exact usedF_get _ _ _
    · exact Nat.zero_le _
theorem readD_err (d : Dk) (n : ByteArray) : (readD d n).2 = 0 ∨ (readD d n).2 = 3 ∨ (readD d n).2 = 7 := by
  unfold readD
  split
  · exact .inr (.inr rfl)
  · split
    · exact .inl rfl
    · exact .inr (.inl rfl)

set_option maxHeartbeats 4000000 in
set_option maxRecDepth 100000 in
theorem load_calls {Kp : Nat → Prop} {w0 w : World} {p : Nat} {d : Dk} (h : Dx Kp w0 w p d) (hf : Fits d) (hu : usedF d.fs ≤ 1099511627776) :
    Calls Tryz.prog 35 #[.pointer (some ⟨p, 0, none⟩)] w (LoadE (loadR d) Kp w0 w p d) := by
  have hle := readD_le d sSnap
  have herr := readD_err d sSnap
  have hR : ∃ R, R = readD d sSnap := ⟨_, rfl⟩
  go_enter Tryz.func35, Tryz.ntmps35
  go_wp2_with fail
  refine (h.read sSnap hf).mono ?_
  rintro e w1 ⟨v, rfl, hov, hD, hm, hn⟩
  obtain ⟨R, hR⟩ := hR
  have hl : loadR d = if R.2 = 3 then ([], 0) else if R.2 = 0 then ((fromT R.1).getD [], errP (fromT R.1)) else ([], R.2) := by rw [hR]; rfl
  rw [← hR] at hov hle herr ⊢
  have HL := Lib.hid hl
  obtain ⟨b, e⟩ := R
  simp only at hov hle herr HL
  clear hl hR
  obtain ⟨A, c, rfl, hbc, _, hrb⟩ := hov.out
  clear hov
  rcases herr with rfl | rfl | rfl
  · go_wp2_with fail
    refine (tdecode_calls b A c w1 hrb (by omega) hbc).mono ?_
    rintro ez w2 ⟨v2, rfl, ho2, hm2, hn2⟩
    have hl2 : loadR d = ((fromT b).getD [], errP (fromT b)) := by rw [HL.out]; simp
    have HL2 := Lib.hid hl2
    have HO2 := Lib.hid ho2
    have HN2 := Lib.hid hn2
    obtain ⟨A2, c2, rfl, _⟩ := ho2.nilD0
    obtain ⟨q, hq⟩ : ∃ q, q = (fromT b).getD [] := ⟨_, rfl⟩
    obtain ⟨ee, hee⟩ : ∃ q, q = errP (fromT b) := ⟨_, rfl⟩
    rw [← hq] at HO2 HN2 HL2 ⊢
    rw [← hee] at HL2 ⊢
    clear hl2 ho2 hn2 hq hee HL
    go_wp2_with fail
    go_ret2
    rw [HL2.out]
    exact ⟨_, rfl, HO2.out, hD.mod0 hm2, hm.then0 hm2, fun g hg => Nat.le_trans hm.size (HN2.out g hg)⟩
  · go_wp2_with fail
    go_ret2
    have hl2 : loadR d = ([], 0) := by rw [HL.out]; simp
    rw [hl2]
    exact ⟨_, rfl, Own.nil _ _ _, hD, hm, fun g h => by simp [Value.ownBlock] at h⟩
  · go_wp2_with fail
    go_ret2
    have hl2 : loadR d = ([], 7) := by rw [HL.out]; simp
    rw [hl2]
    exact ⟨_, rfl, Own.nil _ _ _, hD, hm, fun g h => by simp [Value.ownBlock] at h⟩
end Go.Proofs.YtnlmfmceogbomaaGreatDoor

/- The calls of a save: snap.saving's methods. -/
namespace Go.Proofs.YtnlmfmceogbomaaGreatDoor
open Go.RowKit
set_option linter.unusedVariables false

theorem hasF_take (fs : List Fl) (n : ByteArray) (j : Nat) (h : j < fs.length) : hasF (fs.take (j + 1)) n = (hasF (fs.take j) n || decide (fs[j].n = n)) := by
  unfold hasF
  rw [List.take_succ_eq_append_getElem h, List.any_append]
  simp
theorem hasF_pos {fs : List Fl} {n : ByteArray} {j : Nat} (h : j < fs.length) (he : fs[j].n = n) : hasF fs n = true := by
  unfold hasF
  rw [List.any_eq_true]
  exact ⟨fs[j], List.getElem_mem _, by simpa using he⟩

set_option maxHeartbeats 1000000 in
set_option maxRecDepth 100000 in
theorem isTmp_calls (n : ByteArray) (u : Value) (s : Nat) (w : World) :
    Calls Tryz.prog 128 #[.agg #[.string n, u, .int .i64 s]] w fun e w' => e = .returned (.bool (decide (n = sTmp))) ∧ Mod NoneB w w' := by
  have hst : sTmp.toList = [116, 109, 112] := by rw [ba_toList]; rfl
  have hd : decide (n = sTmp) = (n.toList == [116, 109, 112]) := by rw [← hst]; exact (beq_toList n sTmp).symm
  have HD := Lib.hid hd
  clear hd hst
  go_enter Tryz.func128, Tryz.ntmps128
  go_wp2_with fail
  go_ret
  refine ⟨?_, (Mod.refl NoneB w).alloc _⟩
  rw [HD.out]
  rfl

/-- Where the first such file stands; -1: there is none. -/
def IdxE (fs : List Fl) (w : World) (e : Ending) (w' : World) : Prop := ∃ z : Int, e = .returned (.int .i64 z) ∧ (0 ≤ z ↔ hasF fs sTmp = true) ∧ Mod NoneB w w'
set_option maxHeartbeats 2000000 in
set_option maxRecDepth 100000 in
theorem indexF_calls (fs : List Fl) (vs : List Value) (hv : vs.length = fs.length) (A : Option Addr) (c : Nat) (w : World) (hr : Rd w 3 A fs.length ((fs.zip vs).flatMap encFl)) :
    Calls Tryz.prog 164 #[.slice A fs.length c, .func (.func 128) #[] #[]] w (IdxE fs w) := by
  have hn := hr.2.1
  have hzl : (fs.zip vs).length = fs.length := by rw [List.length_zip]; omega
  have HZL := Lib.hid hzl
  clear hzl hv
  go_enter Tryz.func164, Tryz.ntmps164
  go_wp2_with fail
  go_loopw [5, 8] (fun x t wr => ∃ j : Nat, t = .int .i64 j ∧ j ≤ fs.length ∧ hasF (fs.take j) sTmp = false ∧ Mod NoneB w wr) (fun _ t _ => fs.length - (intOf t).toNat)
  case atStart => exact ⟨0, rfl, by omega, rfl, Mod.refl _ _⟩
  case round =>
    obtain ⟨j, rfl, hj, hno, hm⟩ := hrel
    have HNO := Lib.hid hno
    clear hno
    by_cases hlt : j < fs.length
    · have hz1 : j < (fs.zip vs).length := by rw [HZL.out]; exact hlt
      obtain ⟨ad, rfl, h0, hk⟩ := Rd.elem (f := encFl) (fun _ => rfl) hr (by decide) j hz1
      have c0 := hm.cell0 (h0 _ rfl)
      have c1 := hm.cell0 (hk 1 _ (by decide) (by decide) rfl)
      have c2 := hm.cell0 (hk 2 _ (by decide) (by decide) rfl)
      have hn1 : ((fs.zip vs)[j]'hz1).1 = fs[j] := by simp
      have htk := hasF_take fs sTmp j hlt
      obtain ⟨y, hy⟩ : ∃ y, y = (fs.zip vs)[j]'hz1 := ⟨_, rfl⟩
      rw [← hy] at c0 c1 c2 hn1
      obtain ⟨f, u⟩ := y
      simp only at c0 c1 c2 hn1
      rw [← hn1] at htk
      have hpos : ∀ h : decide (f.n = sTmp) = true, hasF fs sTmp = true := fun h => hasF_pos hlt (by rw [← hn1]; exact of_decide_eq_true h)
      have HTK := Lib.hid htk
      have HPOS := Lib.hid hpos
      obtain ⟨bt, hbt⟩ : ∃ bt, bt = decide (f.n = sTmp) := ⟨_, rfl⟩
      rw [← hbt] at HTK HPOS
      have HBT := Lib.hid hbt
      clear h0 hk hn1 htk hy hpos hbt hz1
      go_wp2_with fail
      refine (isTmp_calls f.n u f.s wr).mono ?_
      rintro e w2 ⟨rfl, hm2⟩
      rw [← HBT.out]
      cases bt with
      | true =>
        go_wp2_with fail
        go_ret
        exact ⟨j, rfl, ⟨fun _ => HPOS.out trivial, fun _ => by omega⟩, hm.then0 hm2⟩
      | false =>
        go_wp2_with fail
        go_roundw
        case rel => exact ⟨j + 1, by go_num, by omega, by rw [HTK.out, HNO.out]; rfl, hm.then0 hm2⟩
        case measure => simp [intOf]; omega
    · have hall : fs.take j = fs := List.take_of_length_le (by omega)
      have hno : hasF fs sTmp = false := by have h := HNO.out; rw [hall] at h; exact h
      have HN2 := Lib.hid hno
      clear hall hno
      go_wp2_with fail
      go_ret
      exact ⟨-1, rfl, ⟨fun h => by omega, fun h => by rw [HN2.out] at h; cases h⟩, hm⟩
set_option maxHeartbeats 2000000 in
set_option maxRecDepth 100000 in
theorem containsF_calls (fs : List Fl) (vs : List Value) (hv : vs.length = fs.length) (A : Option Addr) (c : Nat) (w : World) (hr : Rd w 3 A fs.length ((fs.zip vs).flatMap encFl)) :
    Calls Tryz.prog 127 #[.slice A fs.length c, .func (.func 128) #[] #[]] w fun e w' => e = .returned (.bool (hasF fs sTmp)) ∧ Mod NoneB w w' := by
  go_enter Tryz.func127, Tryz.ntmps127
  go_wp2_with fail
  refine (indexF_calls fs vs hv A c w hr).mono ?_
  rintro e w1 ⟨z, rfl, hz, hm⟩
  cases hb : hasF fs sTmp with
  | true =>
    have h0 : 0 ≤ z := hz.2 hb
    have HB := Lib.hid hb
    clear hz hb
    go_wp2_with fail
    go_ret
    exact ⟨by rw [HB.out]; rfl, hm⟩
  | false =>
    have h0 : z < 0 := by
      rcases Int.lt_or_le z 0 with h | h
      · exact h
      · have := hz.1 h; rw [hb] at this; cases this
    have hdz : decide (0 ≤ z) = false := by rw [decide_eq_false_iff_not]; omega
    have HB := Lib.hid hb
    clear hz hb
    go_wp2_with fail
    go_ret
    exact ⟨by rw [HB.out]; rfl, hm⟩

def savB (p : Nat) (B : Option Addr) (n bc : Nat) : Obj := .cells #[.pointer (some ⟨p, 0, none⟩), .slice B n bc] 145 (0, 0)

set_option maxHeartbeats 2000000 in
set_option maxRecDepth 100000 in
theorem sclear_calls {Kp : Nat → Prop} {w0 w : World} {p q : Nat} {d : Dk} {B : Option Addr} {n bc : Nat} (h : Dx Kp w0 w p d) (hf : Fits d) (hq : w.heap[q]? = some (savB p B n bc)) :
    Calls Tryz.prog 84 #[.pointer (some ⟨q, 0, none⟩)] w fun e w' => e = .returned (.int .i64 (clearD d).2) ∧ Dx Kp w0 w' p (clearD d).1 := by
  have y0 : w.cell? ⟨q, 0, none⟩ = some (.pointer (some ⟨p, 0, none⟩)) := by rw [blk_cell hq]; rfl
  have hfn := hf.l
  go_enter Tryz.func84, Tryz.ntmps84
  go_wp2_with fail
  refine (h.files hf).mono ?_
  rintro e w1 ⟨v, vs, rfl, hfa, hD, hm⟩
  obtain ⟨A, c, rfl, hra⟩ := hfa.own.nilD0
  have hvl := hfa.len
  replace y0 := hm.cell0 y0
  clear hfa
  go_wp2_with fail
  refine (containsF_calls d.fs vs hvl A c w1 hra).mono ?_
  rintro e w2 ⟨rfl, hm2⟩
  replace y0 := hm2.cell0 y0
  cases hb : hasF d.fs sTmp with
  | true =>
    have hc : clearD d = removeD d sTmp := by unfold clearD; rw [if_pos hb]
    have HC := Lib.hid hc
    clear hb hc hvl
    go_wp2_with fail
    refine ((hD.mod0 hm2).remove sTmp hf).mono ?_
    rintro e w3 ⟨rfl, hD3⟩
    rw [← HC.out] at hD3 ⊢
    obtain ⟨ee, hee⟩ : ∃ ee, ee = (clearD d).2 := ⟨_, rfl⟩
    rw [← hee]
    have HE := Lib.hid hee
    clear hee
    go_wp2_with fail
    go_ret
    exact ⟨by first | rfl | (rw [← HE.out]; rfl), hD3⟩
  | false =>
    have hc : clearD d = (d, 0) := by unfold clearD; rw [if_neg (by rw [hb]; simp)]
    have HC := Lib.hid hc
    clear hb hc hvl
    go_wp2_with fail
    go_ret
    rw [HC.out]
    exact ⟨rfl, hD.mod0 hm2⟩

set_option maxHeartbeats 1000000 in
set_option maxRecDepth 100000 in
theorem screate_calls {Kp : Nat → Prop} {w0 w : World} {p q : Nat} {d : Dk} {B : Option Addr} {n bc : Nat} (h : Dx Kp w0 w p d) (hf : Fits d) (hq : w.heap[q]? = some (savB p B n bc)) :
    Calls Tryz.prog 85 #[.pointer (some ⟨q, 0, none⟩)] w fun e w' => e = .returned (.int .i64 (createD d sTmp).2) ∧ Dx Kp w0 w' p (createD d sTmp).1 := by
  have y0 : w.cell? ⟨q, 0, none⟩ = some (.pointer (some ⟨p, 0, none⟩)) := by rw [blk_cell hq]; rfl
  have hC := h.create sTmp hf
  obtain ⟨R, hR⟩ : ∃ R, R = createD d sTmp := ⟨_, rfl⟩
  rw [← hR] at hC ⊢
  have HC := Lib.hid hC
  clear hR hC
  go_enter Tryz.func85, Tryz.ntmps85
  go_wp2_with fail
  refine HC.out.mono ?_
  rintro e w1 ⟨rfl, hD⟩
  go_wp2_with fail
  go_ret
  exact ⟨rfl, hD⟩

set_option maxHeartbeats 1000000 in
set_option maxRecDepth 100000 in
theorem ssync_calls {Kp : Nat → Prop} {w0 w : World} {p q : Nat} {d : Dk} {B : Option Addr} {n bc : Nat} (h : Dx Kp w0 w p d) (hf : Fits d) (hq : w.heap[q]? = some (savB p B n bc)) :
    Calls Tryz.prog 87 #[.pointer (some ⟨q, 0, none⟩)] w fun e w' => e = .returned (.int .i64 (syncD d sTmp).2) ∧ Dx Kp w0 w' p (syncD d sTmp).1 := by
  have y0 : w.cell? ⟨q, 0, none⟩ = some (.pointer (some ⟨p, 0, none⟩)) := by rw [blk_cell hq]; rfl
  have hC := h.sync sTmp hf
  obtain ⟨R, hR⟩ : ∃ R, R = syncD d sTmp := ⟨_, rfl⟩
  rw [← hR] at hC ⊢
  have HC := Lib.hid hC
  clear hR hC
  go_enter Tryz.func87, Tryz.ntmps87
  go_wp2_with fail
  refine HC.out.mono ?_
  rintro e w1 ⟨rfl, hD⟩
  go_wp2_with fail
  go_ret
  exact ⟨rfl, hD⟩

set_option maxHeartbeats 1000000 in
set_option maxRecDepth 100000 in
theorem srename_calls {Kp : Nat → Prop} {w0 w : World} {p q : Nat} {d : Dk} {B : Option Addr} {n bc : Nat} (h : Dx Kp w0 w p d) (hf : Fits d) (hq : w.heap[q]? = some (savB p B n bc)) :
    Calls Tryz.prog 88 #[.pointer (some ⟨q, 0, none⟩)] w fun e w' => e = .returned (.int .i64 (renameD d sTmp sSnap).2) ∧ Dx Kp w0 w' p (renameD d sTmp sSnap).1 := by
  have y0 : w.cell? ⟨q, 0, none⟩ = some (.pointer (some ⟨p, 0, none⟩)) := by rw [blk_cell hq]; rfl
  have hC := h.rename sTmp sSnap hf
  obtain ⟨R, hR⟩ : ∃ R, R = renameD d sTmp sSnap := ⟨_, rfl⟩
  rw [← hR] at hC ⊢
  have HC := Lib.hid hC
  clear hR hC
  go_enter Tryz.func88, Tryz.ntmps88
  go_wp2_with fail
  refine HC.out.mono ?_
  rintro e w1 ⟨rfl, hD⟩
  go_wp2_with fail
  go_ret
  exact ⟨rfl, hD⟩

set_option maxHeartbeats 1000000 in
set_option maxRecDepth 100000 in
theorem swrite_calls {Kp : Nat → Prop} {w0 w : World} {p q : Nat} {d : Dk} {B : Option Addr} {bc : Nat} (b : List UInt8) (h : Dx Kp w0 w p d) (hf : Fits d) (hq : w.heap[q]? = some (savB p B b.length bc)) (hb : Rd w 1 B b.length (encB b)) (hB : 0 < b.length → ∀ ad, B = some ad → Kp ad.block) (hu : usedF d.fs + b.length ≤ 70368744177664) :
    Calls Tryz.prog 86 #[.pointer (some ⟨q, 0, none⟩)] w fun e w' => e = .returned (.int .i64 (appendD d sTmp b).2) ∧ Dx Kp w0 w' p (appendD d sTmp b).1 := by
  have y0 : w.cell? ⟨q, 0, none⟩ = some (.pointer (some ⟨p, 0, none⟩)) := by rw [blk_cell hq]; rfl
  have y1 : w.cell? ⟨q, 1, none⟩ = some (.slice B b.length bc) := by rw [blk_cell hq]; rfl
  have hd : Mod NoneB w w.drew := (Mod.refl NoneB w).drew
  have hC := (h.mod0 hd).append (Mod.refl _ _) sTmp b B bc (hb.mod0 hd) (fun hp ad h => .inl (hB hp ad h)) hf hu
  obtain ⟨R, hR⟩ : ∃ R, R = appendD d sTmp b := ⟨_, rfl⟩
  rw [← hR] at hC ⊢
  have HC := Lib.hid hC
  clear hR hC hd
  go_enter Tryz.func86, Tryz.ntmps86
  go_wp2_with fail
  go_region_law (go_simp; go_at_call 26; refine HC.out.mono ?_; rintro ez wz ⟨rfl, hz⟩)
  all_goals
    go_wp2_with fail
    go_ret
    exact ⟨rfl, hz⟩
end Go.Proofs.YtnlmfmceogbomaaGreatDoor

/- snap.Save. -/
namespace Go.Proofs.YtnlmfmceogbomaaGreatDoor
open Go.RowKit
set_option linter.unusedVariables false

/-- A disk that may be saved to, and what is saved. -/
structure RoomS (d : Dk) (b : List UInt8) (j : Nat) : Prop where
  c : d.c ≤ 1099511627776 + j
  l : d.fs.length ≤ 1000000 + j
  u : usedF d.fs ≤ 549755813888 + b.length * j
  b : b.length ≤ 1048584
theorem RoomS.fits {d : Dk} {b : List UInt8} {j : Nat} (h : RoomS d b j) (hj : j ≤ 5) : Fits d ∧ usedF d.fs + b.length ≤ 70368744177664 := by
  have h1 : b.length * j ≤ 1048584 * 5 := Nat.mul_le_mul h.b hj
  have h2 := h.c
  have h3 := h.l
  have h4 := h.u
  have h5 := h.b
  exact ⟨⟨by omega, by omega, by omega⟩, by omega⟩
theorem RoomS.step {d : Dk} {b : List UInt8} {j : Nat} (h : RoomS d b j) : RoomS (stepS b j d).1 b (j + 1) := by
  have g := stepS_grow b j d
  have g1 := g.c
  have g2 := g.l
  have g3 := g.u
  have h2 := h.c
  have h3 := h.l
  have h4 := h.u
  exact ⟨by omega, by omega, by rw [Nat.mul_add]; omega, h.b⟩

def SaveE (r : Ans) (Kp : Nat → Prop) (w0 : World) (p : Nat) (e : Ending) (w' : World) : Prop := e = .returned (.int .i64 (r.2 : Nat)) ∧ Dx Kp w0 w' p r.1

set_option maxHeartbeats 4000000 in
set_option maxRecDepth 100000 in
theorem save_calls {Kp : Nat → Prop} {w0 w : World} {p : Nat} {d : Dk} (h : Dx Kp w0 w p d) (l : List Pr) (A : Option Addr) (c : Nat) (hr : Rd w 2 A l.length (encPs l)) (hs : SmallP l) (hroom : RoomS d (tableR l).1 0) :
    Calls Tryz.prog 48 #[.pointer (some ⟨p, 0, none⟩), .slice A l.length c] w (SaveE (saveR d l) Kp w0 p) := by
  go_enter Tryz.func48, Tryz.ntmps48
  go_wp2_with fail
  refine (tencode_calls l A c w hr hs).mono ?_
  rintro e w1 ⟨v, rfl, hov, hm, hnv⟩
  obtain ⟨R, hR⟩ : ∃ R, R = tableR l := ⟨_, rfl⟩
  rw [← hR] at hov hroom ⊢
  have hsr : saveR d l = if R.2 = 0 then saveD d R.1 else (d, R.2) := by rw [hR]; rfl
  have HSR := Lib.hid hsr
  obtain ⟨b, er⟩ := R
  simp only at hov hroom HSR
  clear hsr hR
  obtain ⟨B, bc, rfl, hrb⟩ := hov.nilD0
  clear hov
  by_cases he : er = 0
  · subst he
    have hsv : saveR d l = restS b 5 0 d := by rw [HSR.out]; simp [saveD]
    have HSV := Lib.hid hsv
    clear hsv HSR
    go_wp2_with fail
    have hlt1 := h.lt
    obtain ⟨q, hq0⟩ : ∃ q, q = w1.heap.size := ⟨_, rfl⟩
    have hal : Mod NoneB w1 ((w1.alloc (.cells #[.pointer (some ⟨p, 0, none⟩), .slice B b.length bc] 145)).alloc (.cells #[.func (.func 84) #[.pointer (some ⟨q, 0, none⟩)] #[], .func (.func 85) #[.pointer (some ⟨q, 0, none⟩)] #[], .func (.func 86) #[.pointer (some ⟨q, 0, none⟩)] #[], .func (.func 87) #[.pointer (some ⟨q, 0, none⟩)] #[], .func (.func 88) #[.pointer (some ⟨q, 0, none⟩)] #[]] 53)) := ((Mod.refl NoneB w1).alloc _).alloc _
    obtain ⟨xq, xg⟩ := box2 w1 (.cells #[.pointer (some ⟨p, 0, none⟩), .slice B b.length bc] 145) (.cells #[.func (.func 84) #[.pointer (some ⟨q, 0, none⟩)] #[], .func (.func 85) #[.pointer (some ⟨q, 0, none⟩)] #[], .func (.func 86) #[.pointer (some ⟨q, 0, none⟩)] #[], .func (.func 87) #[.pointer (some ⟨q, 0, none⟩)] #[], .func (.func 88) #[.pointer (some ⟨q, 0, none⟩)] #[]] 53)
    rw [← hq0] at xq xg ⊢
    have hszB : q + 2 ≤ ((w1.alloc (.cells #[.pointer (some ⟨p, 0, none⟩), .slice B b.length bc] 145)).alloc (.cells #[.func (.func 84) #[.pointer (some ⟨q, 0, none⟩)] #[], .func (.func 85) #[.pointer (some ⟨q, 0, none⟩)] #[], .func (.func 86) #[.pointer (some ⟨q, 0, none⟩)] #[], .func (.func 87) #[.pointer (some ⟨q, 0, none⟩)] #[], .func (.func 88) #[.pointer (some ⟨q, 0, none⟩)] #[]] 53)).heap.size := by have := blk_lt xg; omega
    obtain ⟨wB, hwB⟩ : ∃ wB, wB = ((w1.alloc (.cells #[.pointer (some ⟨p, 0, none⟩), .slice B b.length bc] 145)).alloc (.cells #[.func (.func 84) #[.pointer (some ⟨q, 0, none⟩)] #[], .func (.func 85) #[.pointer (some ⟨q, 0, none⟩)] #[], .func (.func 86) #[.pointer (some ⟨q, 0, none⟩)] #[], .func (.func 87) #[.pointer (some ⟨q, 0, none⟩)] #[], .func (.func 88) #[.pointer (some ⟨q, 0, none⟩)] #[]] 53)) := ⟨_, rfl⟩
    rw [← hwB] at hal xq xg hszB ⊢
    have hmB : Mod NoneB w wB := hm.then0 hal
    have hqw : w.heap.size ≤ q := by rw [hq0]; exact hm.size
    have hbk := hrb.block_lt (by decide)
    have hrbB := hrb.mod0 hal
    obtain ⟨G, hGd⟩ : ∃ G : Nat → Prop, G = fun k => Kp k ∨ k = q ∨ k = q + 1 ∨ ∃ ad, B = some ad ∧ 0 < b.length ∧ k = ad.block := ⟨_, rfl⟩
    have hGq : G q := by rw [hGd]; exact .inr (.inl rfl)
    have hGg : G (q + 1) := by rw [hGd]; exact .inr (.inr (.inl rfl))
    have hBG : 0 < b.length → ∀ ad, B = some ad → G ad.block := fun hp ad h => by rw [hGd]; exact .inr (.inr (.inr ⟨ad, h, hp, rfl⟩))
    have hDB : Dx G wB wB p d := by
      refine h.keep hmB (fun k hk => ?_)
      rw [hGd] at hk
      rcases hk with hk | rfl | rfl | ⟨ad, hA, hp, rfl⟩
      · exact ⟨.inl hk, Nat.lt_of_lt_of_le (hlt1 k hk) hmB.size⟩
      · exact ⟨.inr hqw, by omega⟩
      · exact ⟨.inr (by omega), by omega⟩
      · refine ⟨.inr (hnv ad.block (by rw [hA]; rfl)), ?_⟩
        have := hbk hp ad hA
        omega
    have hdr : ∀ w' d', Dx G wB w' p d' → Dx Kp w0 w' p d' := by
      intro w' d' hx
      refine hx.drop (h.kept.then0 hmB) (fun k hk => ⟨by rw [hGd]; exact .inl hk, h.lt0 k hk⟩)
    have HDR := Lib.hid hdr
    have HXQ := Lib.hid xq
    have HXG := Lib.hid xg
    clear hdr hGd hnv hbk xq xg hal hm hmB h hlt1 hwB hr hs hrb hq0
    go_loopw [9, 10, 37] (fun f er t wr => ∃ (j : Nat) (d' : Dk), t = .int .i64 j ∧ j ≤ 5 ∧ Dx G wB wr p d' ∧ restS b 5 0 d = restS b (5 - j) j d' ∧ RoomS d' b j) (fun _ _ t _ => 5 - (intOf t).toNat)
    case atStart => exact ⟨0, d, rfl, by omega, hDB, rfl, hroom⟩
    case round =>
      obtain ⟨j, d', rfl, hj, hDj, hrs, hrm⟩ := hrel
      clear hDB hroom
      have HRS := Lib.hid hrs
      have hq := hDj.blk HXQ.out hGq
      have hxg := hDj.blk HXG.out hGg
      have y0 := blk_cell hxg 0
      have y1 := blk_cell hxg 1
      have y2 := blk_cell hxg 2
      have y3 := blk_cell hxg 3
      have y4 := blk_cell hxg 4
      replace hq : wr.heap[q]? = some (savB p B b.length bc) := hq
      clear hrs hxg
      have hcase : j = 0 ∨ j = 1 ∨ j = 2 ∨ j = 3 ∨ j = 4 ∨ j = 5 := by omega
      rcases hcase with rfl | rfl | rfl | rfl | rfl | rfl
      · have hC : Calls Tryz.prog 84 #[.pointer (some ⟨q, 0, none⟩)] wr fun e w' => e = .returned (.int .i64 ((stepS b 0 d').2 : Nat)) ∧ Dx G wB w' p (stepS b 0 d').1 := sclear_calls hDj (hrm.fits (by omega)).1 hq
        have hst := hrm.step
        have hok : (stepS b 0 d').2 = 0 → restS b 5 0 d = restS b 4 (0 + 1) (stepS b 0 d').1 := fun h => by rw [HRS.out]; exact restS_ok h
        have hno : (stepS b 0 d').2 ≠ 0 → restS b 5 0 d = stepS b 0 d' := fun h => by rw [HRS.out]; exact restS_no h
        obtain ⟨R, hR⟩ : ∃ R, R = stepS b 0 d' := ⟨_, rfl⟩
        rw [← hR] at hC hst hok hno
        have HC := Lib.hid hC
        have HOK := Lib.hid hok
        have HNO := Lib.hid hno
        clear hC hok hno hR hq hDj hrm
        go_wp2_with fail
        refine HC.out.mono ?_
        rintro e w2 ⟨rfl, hD2⟩
        obtain ⟨d2, e2⟩ := R
        simp only at hD2 hst HOK HNO
        by_cases h0 : e2 = 0
        · subst h0
          have hrs2 := HOK.out rfl
          have HRS2 := Lib.hid hrs2
          clear hrs2
          go_wp2_with fail
          go_roundw
          case rel => exact ⟨1, d2, rfl, by omega, hD2, HRS2.out, hst⟩
          case measure => simp [intOf]
        · have hfin := HNO.out h0
          have HFIN := Lib.hid hfin
          have b1 : ((e2 : Int) == 0) = false := by simp; omega
          have b2 : ((e2 : Int) != 0) = true := by simp; omega
          have b3 : (e2 == 0) = false := by simp; omega
          clear hfin h0
          go_wp2_with fail
          go_ret
          unfold SaveE
          rw [HSV.out, HFIN.out]
          exact ⟨rfl, HDR.out w2 d2 hD2⟩
      · have hC : Calls Tryz.prog 85 #[.pointer (some ⟨q, 0, none⟩)] wr fun e w' => e = .returned (.int .i64 ((stepS b 1 d').2 : Nat)) ∧ Dx G wB w' p (stepS b 1 d').1 := screate_calls hDj (hrm.fits (by omega)).1 hq
        have hst := hrm.step
        have hok : (stepS b 1 d').2 = 0 → restS b 5 0 d = restS b 3 (1 + 1) (stepS b 1 d').1 := fun h => by rw [HRS.out]; exact restS_ok h
        have hno : (stepS b 1 d').2 ≠ 0 → restS b 5 0 d = stepS b 1 d' := fun h => by rw [HRS.out]; exact restS_no h
        obtain ⟨R, hR⟩ : ∃ R, R = stepS b 1 d' := ⟨_, rfl⟩
        rw [← hR] at hC hst hok hno
        have HC := Lib.hid hC
        have HOK := Lib.hid hok
        have HNO := Lib.hid hno
        clear hC hok hno hR hq hDj hrm
        go_wp2_with fail
        refine HC.out.mono ?_
        rintro e w2 ⟨rfl, hD2⟩
        obtain ⟨d2, e2⟩ := R
        simp only at hD2 hst HOK HNO
        by_cases h0 : e2 = 0
        · subst h0
          have hrs2 := HOK.out rfl
          have HRS2 := Lib.hid hrs2
          clear hrs2
          go_wp2_with fail
          go_roundw
          case rel => exact ⟨2, d2, rfl, by omega, hD2, HRS2.out, hst⟩
          case measure => simp [intOf]
        · have hfin := HNO.out h0
          have HFIN := Lib.hid hfin
          have b1 : ((e2 : Int) == 0) = false := by simp; omega
          have b2 : ((e2 : Int) != 0) = true := by simp; omega
          have b3 : (e2 == 0) = false := by simp; omega
          clear hfin h0
          go_wp2_with fail
          go_ret
          unfold SaveE
          rw [HSV.out, HFIN.out]
          exact ⟨rfl, HDR.out w2 d2 hD2⟩
      · have hC : Calls Tryz.prog 86 #[.pointer (some ⟨q, 0, none⟩)] wr fun e w' => e = .returned (.int .i64 ((stepS b 2 d').2 : Nat)) ∧ Dx G wB w' p (stepS b 2 d').1 := swrite_calls b hDj (hrm.fits (by omega)).1 hq (hDj.rd hrbB hBG) hBG (hrm.fits (by omega)).2
        have hst := hrm.step
        have hok : (stepS b 2 d').2 = 0 → restS b 5 0 d = restS b 2 (2 + 1) (stepS b 2 d').1 := fun h => by rw [HRS.out]; exact restS_ok h
        have hno : (stepS b 2 d').2 ≠ 0 → restS b 5 0 d = stepS b 2 d' := fun h => by rw [HRS.out]; exact restS_no h
        obtain ⟨R, hR⟩ : ∃ R, R = stepS b 2 d' := ⟨_, rfl⟩
        rw [← hR] at hC hst hok hno
        have HC := Lib.hid hC
        have HOK := Lib.hid hok
        have HNO := Lib.hid hno
        clear hC hok hno hR hq hDj hrm
        go_wp2_with fail
        refine HC.out.mono ?_
        rintro e w2 ⟨rfl, hD2⟩
        obtain ⟨d2, e2⟩ := R
        simp only at hD2 hst HOK HNO
        by_cases h0 : e2 = 0
        · subst h0
          have hrs2 := HOK.out rfl
          have HRS2 := Lib.hid hrs2
          clear hrs2
          go_wp2_with fail
          go_roundw
          case rel => exact ⟨3, d2, rfl, by omega, hD2, HRS2.out, hst⟩
          case measure => simp [intOf]
        · have hfin := HNO.out h0
          have HFIN := Lib.hid hfin
          have b1 : ((e2 : Int) == 0) = false := by simp; omega
          have b2 : ((e2 : Int) != 0) = true := by simp; omega
          have b3 : (e2 == 0) = false := by simp; omega
          clear hfin h0
          go_wp2_with fail
          go_ret
          unfold SaveE
          rw [HSV.out, HFIN.out]
          exact ⟨rfl, HDR.out w2 d2 hD2⟩
      · have hC : Calls Tryz.prog 87 #[.pointer (some ⟨q, 0, none⟩)] wr fun e w' => e = .returned (.int .i64 ((stepS b 3 d').2 : Nat)) ∧ Dx G wB w' p (stepS b 3 d').1 := ssync_calls hDj (hrm.fits (by omega)).1 hq
        have hst := hrm.step
        have hok : (stepS b 3 d').2 = 0 → restS b 5 0 d = restS b 1 (3 + 1) (stepS b 3 d').1 := fun h => by rw [HRS.out]; exact restS_ok h
        have hno : (stepS b 3 d').2 ≠ 0 → restS b 5 0 d = stepS b 3 d' := fun h => by rw [HRS.out]; exact restS_no h
        obtain ⟨R, hR⟩ : ∃ R, R = stepS b 3 d' := ⟨_, rfl⟩
        rw [← hR] at hC hst hok hno
        have HC := Lib.hid hC
        have HOK := Lib.hid hok
        have HNO := Lib.hid hno
        clear hC hok hno hR hq hDj hrm
        go_wp2_with fail
        refine HC.out.mono ?_
        rintro e w2 ⟨rfl, hD2⟩
        obtain ⟨d2, e2⟩ := R
        simp only at hD2 hst HOK HNO
        by_cases h0 : e2 = 0
        · subst h0
          have hrs2 := HOK.out rfl
          have HRS2 := Lib.hid hrs2
          clear hrs2
          go_wp2_with fail
          go_roundw
          case rel => exact ⟨4, d2, rfl, by omega, hD2, HRS2.out, hst⟩
          case measure => simp [intOf]
        · have hfin := HNO.out h0
          have HFIN := Lib.hid hfin
          have b1 : ((e2 : Int) == 0) = false := by simp; omega
          have b2 : ((e2 : Int) != 0) = true := by simp; omega
          have b3 : (e2 == 0) = false := by simp; omega
          clear hfin h0
          go_wp2_with fail
          go_ret
          unfold SaveE
          rw [HSV.out, HFIN.out]
          exact ⟨rfl, HDR.out w2 d2 hD2⟩
      · have hC : Calls Tryz.prog 88 #[.pointer (some ⟨q, 0, none⟩)] wr fun e w' => e = .returned (.int .i64 ((stepS b 4 d').2 : Nat)) ∧ Dx G wB w' p (stepS b 4 d').1 := srename_calls hDj (hrm.fits (by omega)).1 hq
        have hst := hrm.step
        have hok : (stepS b 4 d').2 = 0 → restS b 5 0 d = restS b 0 (4 + 1) (stepS b 4 d').1 := fun h => by rw [HRS.out]; exact restS_ok h
        have hno : (stepS b 4 d').2 ≠ 0 → restS b 5 0 d = stepS b 4 d' := fun h => by rw [HRS.out]; exact restS_no h
        obtain ⟨R, hR⟩ : ∃ R, R = stepS b 4 d' := ⟨_, rfl⟩
        rw [← hR] at hC hst hok hno
        have HC := Lib.hid hC
        have HOK := Lib.hid hok
        have HNO := Lib.hid hno
        clear hC hok hno hR hq hDj hrm
        go_wp2_with fail
        refine HC.out.mono ?_
        rintro e w2 ⟨rfl, hD2⟩
        obtain ⟨d2, e2⟩ := R
        simp only at hD2 hst HOK HNO
        by_cases h0 : e2 = 0
        · subst h0
          have hrs2 := HOK.out rfl
          have HRS2 := Lib.hid hrs2
          clear hrs2
          go_wp2_with fail
          go_roundw
          case rel => exact ⟨5, d2, rfl, by omega, hD2, HRS2.out, hst⟩
          case measure => simp [intOf]
        · have hfin := HNO.out h0
          have HFIN := Lib.hid hfin
          have b1 : ((e2 : Int) == 0) = false := by simp; omega
          have b2 : ((e2 : Int) != 0) = true := by simp; omega
          have b3 : (e2 == 0) = false := by simp; omega
          clear hfin h0
          go_wp2_with fail
          go_ret
          unfold SaveE
          rw [HSV.out, HFIN.out]
          exact ⟨rfl, HDR.out w2 d2 hD2⟩
      · have hfin : restS b 5 0 d = (d', 0) := HRS.out
        have HFIN := Lib.hid hfin
        clear hfin hq y0 y1 y2 y3 y4
        go_wp2_with fail
        go_ret
        unfold SaveE
        rw [HSV.out, HFIN.out]
        exact ⟨rfl, HDR.out _ _ hDj⟩
  · have hsv : saveR d l = (d, er) := by rw [HSR.out]; simp [he]
    have HSV := Lib.hid hsv
    have b1 : ((er : Int) == 0) = false := by simp; omega
    have b2 : ((er : Int) != 0) = true := by simp; omega
    have b3 : (er == 0) = false := by simp; omega
    have hD := h.mod0 hm
    clear hsv HSR he
    go_wp2_with fail
    go_ret
    unfold SaveE
    rw [HSV.out]
    exact ⟨rfl, hD⟩
end Go.Proofs.YtnlmfmceogbomaaGreatDoor

/- Layer 8's document's example; a save beside bytes that are there: plain facts and walks. -/
namespace Go.Proofs.YtnlmfmceogbomaaGreatDoor
open Go.RowKit
set_option linter.unusedVariables false

theorem ltST : cmpS sSnap sTmp < 0 := by decide +kernel

end Go.Proofs.YtnlmfmceogbomaaGreatDoor

/- Saves on a disk that has at most the two files of a save: what they make of it, whatever the plan. No program stands here. -/
namespace Go.Proofs.YtnlmfmceogbomaaGreatDoor
set_option linter.unusedVariables false

def T1 (t : List UInt8) (u : Nat) : List Fl := [⟨sTmp, t, u⟩]

theorem rest_last {b : List UInt8} {j : Nat} (d : Dk) : restS b 0 j d = (d, 0) := rfl

/-- How much a save lets a disk grow. -/
theorem restS_grow (b : List UInt8) : ∀ (k j : Nat) (d : Dk), (restS b k j d).1.c ≤ d.c + k ∧ (restS b k j d).1.fs.length ≤ d.fs.length + k ∧ usedF (restS b k j d).1.fs ≤ usedF d.fs + k * b.length
  | 0, j, d => ⟨Nat.le_refl _, Nat.le_refl _, by simp [restS]⟩
  | k + 1, j, d => by
    have g := stepS_grow b j d
    have g1 := g.c
    have g2 := g.l
    have g3 := g.u
    have e : (k + 1) * b.length = k * b.length + b.length := by rw [Nat.add_mul, Nat.one_mul]
    by_cases h : (stepS b j d).2 = 0
    · rw [restS_ok h]
      have ih := restS_grow b k (j + 1) (stepS b j d).1
      omega
    · rw [restS_no h]
      have : 0 ≤ k * b.length := Nat.zero_le _
      omega
theorem saveD_grow (d : Dk) (b : List UInt8) : (saveD d b).1.c ≤ d.c + 5 ∧ (saveD d b).1.fs.length ≤ d.fs.length + 5 ∧ usedF (saveD d b).1.fs ≤ usedF d.fs + 5 * b.length := restS_grow b 5 0 d

end Go.Proofs.YtnlmfmceogbomaaGreatDoor

/- The table of pairs that were made right: plain facts. -/
namespace Go.Proofs.YtnlmfmceogbomaaGreatDoor
set_option linter.unusedVariables false

end Go.Proofs.YtnlmfmceogbomaaGreatDoor
