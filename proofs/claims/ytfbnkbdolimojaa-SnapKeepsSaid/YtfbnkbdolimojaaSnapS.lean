/- The calls of a save: snap.saving's methods. -/
import Derived.Test.YtfbnkbdolimojaaSnapL
import Derived.StillTailTactics
namespace Go.Proofs.Ytfbnkbdolimojaa
open Go.RowKit
set_option linter.unusedVariables false

theorem hasF_take (fs : List Fl) (n : ByteArray) (j : Nat) (h : j < fs.length) : hasF (fs.take (j + 1)) n = (hasF (fs.take j) n || decide (fs[j].n = n)) := by
  unfold hasF
  rw [List.take_succ_eq_append_getElem h, List.any_append]
  simp
theorem hasF_pos {fs : List Fl} {n : ByteArray} {j : Nat} (h : j < fs.length) (he : fs[j].n = n) : hasF fs n = true := by
  unfold hasF
  rw [List.any_eq_true]
  exact ⟨fs[j], List.getElem_mem _, by simpa using he⟩

set_option maxHeartbeats 1000000 in
set_option maxRecDepth 100000 in
theorem isTmp_calls (n : ByteArray) (u : Value) (s : Nat) (w : World) :
    Calls Try.prog 125 #[.agg #[.string n, u, .int .i64 s]] w fun e w' => e = .returned (.bool (decide (n = sTmp))) ∧ Mod NoneB w w' := by
  have hst : sTmp.toList = [116, 109, 112] := by rw [ba_toList]; rfl
  have hd : decide (n = sTmp) = (n.toList == [116, 109, 112]) := by rw [← hst]; exact (beq_toList n sTmp).symm
  have HD := Lib.hid hd
  clear hd hst
  go_enter Try.func125, Try.ntmps125
  go_wp2_with fail
  go_ret
  refine ⟨?_, (Mod.refl NoneB w).alloc _⟩
  rw [HD.out]
  rfl

/-- Where the first such file stands; -1: there is none. -/
def IdxE (fs : List Fl) (w : World) (e : Ending) (w' : World) : Prop := ∃ z : Int, e = .returned (.int .i64 z) ∧ (0 ≤ z ↔ hasF fs sTmp = true) ∧ Mod NoneB w w'
set_option maxHeartbeats 2000000 in
set_option maxRecDepth 100000 in
theorem indexF_calls (fs : List Fl) (vs : List Value) (hv : vs.length = fs.length) (A : Option Addr) (c : Nat) (w : World) (hr : Rd w 3 A fs.length ((fs.zip vs).flatMap encFl)) :
    Calls Try.prog 148 #[.slice A fs.length c, .func (.func 125) #[] #[]] w (IdxE fs w) := by
  have hn := hr.2.1
  have hzl : (fs.zip vs).length = fs.length := by rw [List.length_zip]; omega
  have HZL := Lib.hid hzl
  clear hzl hv
  go_enter Try.func148, Try.ntmps148
  go_wp2_with fail
  go_loopw [5, 8] (fun x t wr => ∃ j : Nat, t = .int .i64 j ∧ j ≤ fs.length ∧ hasF (fs.take j) sTmp = false ∧ Mod NoneB w wr) (fun _ t _ => fs.length - (intOf t).toNat)
  case atStart => exact ⟨0, rfl, by omega, rfl, Mod.refl _ _⟩
  case round =>
    obtain ⟨j, rfl, hj, hno, hm⟩ := hrel
    have HNO := Lib.hid hno
    clear hno
    by_cases hlt : j < fs.length
    · have hz1 : j < (fs.zip vs).length := by rw [HZL.out]; exact hlt
      obtain ⟨ad, rfl, h0, hk⟩ := Rd.elem (f := encFl) (fun _ => rfl) hr (by decide) j hz1
      have c0 := hm.cell0 (h0 _ rfl)
      have c1 := hm.cell0 (hk 1 _ (by decide) (by decide) rfl)
      have c2 := hm.cell0 (hk 2 _ (by decide) (by decide) rfl)
      have hn1 : ((fs.zip vs)[j]'hz1).1 = fs[j] := by simp
      have htk := hasF_take fs sTmp j hlt
      obtain ⟨y, hy⟩ : ∃ y, y = (fs.zip vs)[j]'hz1 := ⟨_, rfl⟩
      rw [← hy] at c0 c1 c2 hn1
      obtain ⟨f, u⟩ := y
      simp only at c0 c1 c2 hn1
      rw [← hn1] at htk
      have hpos : ∀ h : decide (f.n = sTmp) = true, hasF fs sTmp = true := fun h => hasF_pos hlt (by rw [← hn1]; exact of_decide_eq_true h)
      have HTK := Lib.hid htk
      have HPOS := Lib.hid hpos
      obtain ⟨bt, hbt⟩ : ∃ bt, bt = decide (f.n = sTmp) := ⟨_, rfl⟩
      rw [← hbt] at HTK HPOS
      have HBT := Lib.hid hbt
      clear h0 hk hn1 htk hy hpos hbt hz1
      go_wp2_with fail
      refine (isTmp_calls f.n u f.s wr).mono ?_
      rintro e w2 ⟨rfl, hm2⟩
      rw [← HBT.out]
      cases bt with
      | true =>
        go_wp2_with fail
        go_ret
        exact ⟨j, rfl, ⟨fun _ => HPOS.out trivial, fun _ => by omega⟩, hm.then0 hm2⟩
      | false =>
        go_wp2_with fail
        go_roundw
        case rel => exact ⟨j + 1, by go_num, by omega, by rw [HTK.out, HNO.out]; rfl, hm.then0 hm2⟩
        case measure => simp [intOf]; omega
    · have hall : fs.take j = fs := List.take_of_length_le (by omega)
      have hno : hasF fs sTmp = false := by have h := HNO.out; rw [hall] at h; exact h
      have HN2 := Lib.hid hno
      clear hall hno
      go_wp2_with fail
      go_ret
      exact ⟨-1, rfl, ⟨fun h => by omega, fun h => by rw [HN2.out] at h; cases h⟩, hm⟩
set_option maxHeartbeats 2000000 in
set_option maxRecDepth 100000 in
theorem containsF_calls (fs : List Fl) (vs : List Value) (hv : vs.length = fs.length) (A : Option Addr) (c : Nat) (w : World) (hr : Rd w 3 A fs.length ((fs.zip vs).flatMap encFl)) :
    Calls Try.prog 124 #[.slice A fs.length c, .func (.func 125) #[] #[]] w fun e w' => e = .returned (.bool (hasF fs sTmp)) ∧ Mod NoneB w w' := by
  go_enter Try.func124, Try.ntmps124
  go_wp2_with fail
  refine (indexF_calls fs vs hv A c w hr).mono ?_
  rintro e w1 ⟨z, rfl, hz, hm⟩
  cases hb : hasF fs sTmp with
  | true =>
    have h0 : 0 ≤ z := hz.2 hb
    have HB := Lib.hid hb
    clear hz hb
    go_wp2_with fail
    go_ret
    exact ⟨by rw [HB.out]; rfl, hm⟩
  | false =>
    have h0 : z < 0 := by
      rcases Int.lt_or_le z 0 with h | h
      · exact h
      · have := hz.1 h; rw [hb] at this; cases this
    have hdz : decide (0 ≤ z) = false := by rw [decide_eq_false_iff_not]; omega
    have HB := Lib.hid hb
    clear hz hb
    go_wp2_with fail
    go_ret
    exact ⟨by rw [HB.out]; rfl, hm⟩

def savB (p : Nat) (B : Option Addr) (n bc : Nat) : Obj := .cells #[.pointer (some ⟨p, 0, none⟩), .slice B n bc] 132 (0, 0)

set_option maxHeartbeats 2000000 in
set_option maxRecDepth 100000 in
theorem sclear_calls {Kp : Nat → Prop} {w0 w : World} {p q : Nat} {d : Dk} {B : Option Addr} {n bc : Nat} (h : Dx Kp w0 w p d) (hf : Fits d) (hq : w.heap[q]? = some (savB p B n bc)) :
    Calls Try.prog 83 #[.pointer (some ⟨q, 0, none⟩)] w fun e w' => e = .returned (.int .i64 (clearD d).2) ∧ Dx Kp w0 w' p (clearD d).1 := by
  have y0 : w.cell? ⟨q, 0, none⟩ = some (.pointer (some ⟨p, 0, none⟩)) := by rw [blk_cell hq]; rfl
  have hfn := hf.l
  go_enter Try.func83, Try.ntmps83
  go_wp2_with fail
  refine (h.files hf).mono ?_
  rintro e w1 ⟨v, vs, rfl, hfa, hD, hm⟩
  obtain ⟨A, c, rfl, hra⟩ := hfa.own.nilD0
  have hvl := hfa.len
  replace y0 := hm.cell0 y0
  clear hfa
  go_wp2_with fail
  refine (containsF_calls d.fs vs hvl A c w1 hra).mono ?_
  rintro e w2 ⟨rfl, hm2⟩
  replace y0 := hm2.cell0 y0
  cases hb : hasF d.fs sTmp with
  | true =>
    have hc : clearD d = removeD d sTmp := by unfold clearD; rw [if_pos hb]
    have HC := Lib.hid hc
    clear hb hc hvl
    go_wp2_with fail
    refine ((hD.mod0 hm2).remove sTmp hf).mono ?_
    rintro e w3 ⟨rfl, hD3⟩
    rw [← HC.out] at hD3 ⊢
    obtain ⟨ee, hee⟩ : ∃ ee, ee = (clearD d).2 := ⟨_, rfl⟩
    rw [← hee]
    have HE := Lib.hid hee
    clear hee
    go_wp2_with fail
    go_ret
    exact ⟨by first | rfl | (rw [← HE.out]; rfl), hD3⟩
  | false =>
    have hc : clearD d = (d, 0) := by unfold clearD; rw [if_neg (by rw [hb]; simp)]
    have HC := Lib.hid hc
    clear hb hc hvl
    go_wp2_with fail
    go_ret
    rw [HC.out]
    exact ⟨rfl, hD.mod0 hm2⟩

set_option maxHeartbeats 1000000 in
set_option maxRecDepth 100000 in
theorem screate_calls {Kp : Nat → Prop} {w0 w : World} {p q : Nat} {d : Dk} {B : Option Addr} {n bc : Nat} (h : Dx Kp w0 w p d) (hf : Fits d) (hq : w.heap[q]? = some (savB p B n bc)) :
    Calls Try.prog 84 #[.pointer (some ⟨q, 0, none⟩)] w fun e w' => e = .returned (.int .i64 (createD d sTmp).2) ∧ Dx Kp w0 w' p (createD d sTmp).1 := by
  have y0 : w.cell? ⟨q, 0, none⟩ = some (.pointer (some ⟨p, 0, none⟩)) := by rw [blk_cell hq]; rfl
  have hC := h.create sTmp hf
  obtain ⟨R, hR⟩ : ∃ R, R = createD d sTmp := ⟨_, rfl⟩
  rw [← hR] at hC ⊢
  have HC := Lib.hid hC
  clear hR hC
  go_enter Try.func84, Try.ntmps84
  go_wp2_with fail
  refine HC.out.mono ?_
  rintro e w1 ⟨rfl, hD⟩
  go_wp2_with fail
  go_ret
  exact ⟨rfl, hD⟩

set_option maxHeartbeats 1000000 in
set_option maxRecDepth 100000 in
theorem ssync_calls {Kp : Nat → Prop} {w0 w : World} {p q : Nat} {d : Dk} {B : Option Addr} {n bc : Nat} (h : Dx Kp w0 w p d) (hf : Fits d) (hq : w.heap[q]? = some (savB p B n bc)) :
    Calls Try.prog 86 #[.pointer (some ⟨q, 0, none⟩)] w fun e w' => e = .returned (.int .i64 (syncD d sTmp).2) ∧ Dx Kp w0 w' p (syncD d sTmp).1 := by
  have y0 : w.cell? ⟨q, 0, none⟩ = some (.pointer (some ⟨p, 0, none⟩)) := by rw [blk_cell hq]; rfl
  have hC := h.sync sTmp hf
  obtain ⟨R, hR⟩ : ∃ R, R = syncD d sTmp := ⟨_, rfl⟩
  rw [← hR] at hC ⊢
  have HC := Lib.hid hC
  clear hR hC
  go_enter Try.func86, Try.ntmps86
  go_wp2_with fail
  refine HC.out.mono ?_
  rintro e w1 ⟨rfl, hD⟩
  go_wp2_with fail
  go_ret
  exact ⟨rfl, hD⟩

set_option maxHeartbeats 1000000 in
set_option maxRecDepth 100000 in
theorem srename_calls {Kp : Nat → Prop} {w0 w : World} {p q : Nat} {d : Dk} {B : Option Addr} {n bc : Nat} (h : Dx Kp w0 w p d) (hf : Fits d) (hq : w.heap[q]? = some (savB p B n bc)) :
    Calls Try.prog 87 #[.pointer (some ⟨q, 0, none⟩)] w fun e w' => e = .returned (.int .i64 (renameD d sTmp sSnap).2) ∧ Dx Kp w0 w' p (renameD d sTmp sSnap).1 := by
  have y0 : w.cell? ⟨q, 0, none⟩ = some (.pointer (some ⟨p, 0, none⟩)) := by rw [blk_cell hq]; rfl
  have hC := h.rename sTmp sSnap hf
  obtain ⟨R, hR⟩ : ∃ R, R = renameD d sTmp sSnap := ⟨_, rfl⟩
  rw [← hR] at hC ⊢
  have HC := Lib.hid hC
  clear hR hC
  go_enter Try.func87, Try.ntmps87
  go_wp2_with fail
  refine HC.out.mono ?_
  rintro e w1 ⟨rfl, hD⟩
  go_wp2_with fail
  go_ret
  exact ⟨rfl, hD⟩

set_option maxHeartbeats 1000000 in
set_option maxRecDepth 100000 in
theorem swrite_calls {Kp : Nat → Prop} {w0 w : World} {p q : Nat} {d : Dk} {B : Option Addr} {bc : Nat} (b : List UInt8) (h : Dx Kp w0 w p d) (hf : Fits d) (hq : w.heap[q]? = some (savB p B b.length bc)) (hb : Rd w 1 B b.length (encB b)) (hB : 0 < b.length → ∀ ad, B = some ad → Kp ad.block) (hu : usedF d.fs + b.length ≤ 70368744177664) :
    Calls Try.prog 85 #[.pointer (some ⟨q, 0, none⟩)] w fun e w' => e = .returned (.int .i64 (appendD d sTmp b).2) ∧ Dx Kp w0 w' p (appendD d sTmp b).1 := by
  have y0 : w.cell? ⟨q, 0, none⟩ = some (.pointer (some ⟨p, 0, none⟩)) := by rw [blk_cell hq]; rfl
  have y1 : w.cell? ⟨q, 1, none⟩ = some (.slice B b.length bc) := by rw [blk_cell hq]; rfl
  have hd : Mod NoneB w w.drew := (Mod.refl NoneB w).drew
  have hC := (h.mod0 hd).append (Mod.refl _ _) sTmp b B bc (hb.mod0 hd) (fun hp ad h => .inl (hB hp ad h)) hf hu
  obtain ⟨R, hR⟩ : ∃ R, R = appendD d sTmp b := ⟨_, rfl⟩
  rw [← hR] at hC ⊢
  have HC := Lib.hid hC
  clear hR hC hd
  go_enter Try.func85, Try.ntmps85
  go_wp2_with fail
  go_region_law (go_simp; go_at_call 50; refine HC.out.mono ?_; rintro ez wz ⟨rfl, hz⟩)
  all_goals
    go_wp2_with fail
    go_ret
    exact ⟨rfl, hz⟩
end Go.Proofs.Ytfbnkbdolimojaa
