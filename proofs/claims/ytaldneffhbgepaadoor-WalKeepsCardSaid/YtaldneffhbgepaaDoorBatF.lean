/- The document's SameOps and Batches: are two lists one? -/
import Derived.Test.YtaldneffhbgepaaDoorBatE
import Derived.Laws.StructEq
namespace Go.Proofs.YtaldneffhbgepaaDoor
open Go.RowKit
set_option linter.unusedVariables false

theorem eqO_in (d : Nat) (w : World) (p q : Op3) : (Op.equalIn (d + 3) 67 (.agg #[.bool p.del, .string p.k, .string p.v]) (.agg #[.bool q.del, .string q.k, .string q.v])).run Tryd.prog w = .ok (decide (p = q)) w := by
  have h : (Op.equalIn (d + 3) 67 (.agg #[.bool p.del, .string p.k, .string p.v]) (.agg #[.bool q.del, .string q.k, .string q.v])).run Tryd.prog w = .ok (p.del == q.del && (p.k.toList == q.k.toList && (p.v.toList == q.v.toList && true))) w := by
    refine equal_struct Tryd.underlying67 (by kernel_rfl) ?_
    refine fields_cons (by rfl) (by go_simp; rfl) (by go_simp; rfl) (by go_simp) ?_
    refine fields_cons (by rfl) (by go_simp; rfl) (by go_simp; rfl) (by go_simp) ?_
    refine fields_cons (by rfl) (by go_simp; rfl) (by go_simp; rfl) (by go_simp) ?_
    exact fields_nil
  have hb : (p.del == q.del && (p.k.toList == q.k.toList && (p.v.toList == q.v.toList && true))) = decide (p = q) := by
    rw [beq_toList, beq_toList]
    cases p; cases q
    rw [Bool.eq_iff_iff]
    simp
  rw [← hb]
  exact h
theorem neqO (p q : Op3) (w : World) : (binOp .neq 67 (.agg #[.bool p.del, .string p.k, .string p.v]) (.agg #[.bool q.del, .string q.k, .string q.v])).run Tryd.prog w = .ok (.bool (!(decide (p = q)))) w :=
  neq_of _ fun d => eqO_in d w p q
theorem take_eq_succ0 {α : Type} {a b : List α} {j : Nat} (h : a.take j = b.take j) (ha : j < a.length) (hb : j < b.length) (he : a[j] = b[j]) : a.take (j + 1) = b.take (j + 1) := by
  rw [List.take_succ_eq_append_getElem ha, List.take_succ_eq_append_getElem hb, h, he]

set_option maxHeartbeats 1000000 in
set_option maxRecDepth 100000 in
theorem sameops_calls (a b : List Op3) (A B : Option Addr) (c c' : Nat) (w : World) (hr : Rd w 3 A a.length (encOs a)) (hs : Rd w 3 B b.length (encOs b)) :
    Calls Tryd.prog 24 #[.slice A a.length c, .slice B b.length c'] w fun e w' => e = .returned (.bool (decide (a = b))) ∧ Mod NoneB w w' := by
  have hn := hr.2.1
  have hn' := hs.2.1
  by_cases hl : a.length = b.length
  · have e1 : ((a.length : Int) != b.length) = false := by simp [hl]
    have HL := Lib.hid hl
    clear hl
    go_enter Tryd.func24, Tryd.ntmps24
    go_wp2_with fail
    clear e1
    go_loopw [5] (fun i wr => ∃ j : Nat, i = .int .i64 j ∧ j ≤ a.length ∧ a.take j = b.take j ∧ Mod NoneB w wr) (fun i _ => a.length - (intOf i).toNat)
    case atStart => exact ⟨0, rfl, by omega, by simp, Mod.refl _ _⟩
    case round =>
      obtain ⟨j, rfl, hj, ht, hm⟩ := hrel
      have HT := Lib.hid ht
      clear ht
      by_cases hlt : j < a.length
      · have hlb : j < b.length := by have := HL.out; omega
        obtain ⟨ad, rfl, h0, h1, h2⟩ := hr.op j hlt
        obtain ⟨bd, rfl, g0, g1, g2⟩ := hs.op j hlb
        replace h0 := hm.cell0 h0
        replace h1 := hm.cell0 h1
        replace h2 := hm.cell0 h2
        replace g0 := hm.cell0 g0
        replace g1 := hm.cell0 g1
        replace g2 := hm.cell0 g2
        obtain ⟨p, hp⟩ : ∃ p, p = a[j] := ⟨_, rfl⟩
        obtain ⟨q, hq⟩ : ∃ q, q = b[j] := ⟨_, rfl⟩
        rw [← hp] at h0 h1 h2
        rw [← hq] at g0 g1 g2
        have HP := Lib.hid hp
        have HQ := Lib.hid hq
        clear hp hq
        have hne := neqO p q
        have e2 : (0 : Int) ≤ j := by omega
        have e3 : (j : Int) < a.length := by omega
        have e4 : (j : Int) < b.length := by omega
        by_cases he : p = q
        · have hd : decide (p = q) = true := decide_eq_true he
          have HE := Lib.hid he
          clear he
          rw [hd] at hne
          clear hd
          go_wp2_with fail
          go_quiet (fail)
          clear e2 e3 e4
          go_wp2_with fail
          go_roundw
          case rel => exact ⟨j + 1, by go_num, by omega, take_eq_succ0 HT.out hlt hlb (by rw [← HP.out, ← HQ.out]; exact HE.out), hm.drewN _⟩
          case measure => simp [intOf]; omega
        · have hd : decide (p = q) = false := decide_eq_false he
          have HE : Hid (a ≠ b) := Lib.hid fun e => he (by rw [HP.out, HQ.out]; simp only [e])
          clear he
          rw [hd] at hne
          clear hd
          go_wp2_with fail
          go_quiet (fail)
          clear e2 e3 e4
          go_wp2_with fail
          go_ret
          exact ⟨by rw [decide_eq_false HE.out]; rfl, hm.drewN _⟩
      · have he : a = b := by
          have h := HT.out
          have := HL.out
          rwa [List.take_of_length_le (by omega), List.take_of_length_le (by omega)] at h
        have HE := Lib.hid he
        clear he
        go_wp2_with fail
        go_ret
        exact ⟨by rw [decide_eq_true HE.out]; rfl, hm⟩
  · have e1 : ((a.length : Int) != b.length) = true := by rw [bne_iff_ne]; omega
    have HE : Hid (a ≠ b) := Lib.hid fun e => hl (by rw [e])
    clear hl
    go_enter Tryd.func24, Tryd.ntmps24
    go_wp2_with fail
    go_ret
    exact ⟨by rw [decide_eq_false HE.out]; rfl, Mod.refl _ _⟩

/-- Batches as they lie: a row of rows of ops. -/
def BatsRd (w : World) (A : Option Addr) (n : Nat) (ls : List (List Op3)) (vs : List Value) : Prop := Rd w 1 A n vs ∧ vs.length = ls.length ∧ ∀ i (h : i < ls.length) (h' : i < vs.length), ∃ B bc, vs[i] = .slice B ls[i].length bc ∧ Rd w 3 B ls[i].length (encOs ls[i])
theorem BatsRd.mod0 {w w1 : World} {A : Option Addr} {n : Nat} {ls : List (List Op3)} {vs : List Value} (h : BatsRd w A n ls vs) (hm : Mod NoneB w w1) : BatsRd w1 A n ls vs :=
  ⟨h.1.mod0 hm, h.2.1, fun i h1 h2 => by obtain ⟨B, bc, e, hr⟩ := h.2.2 i h1 h2; exact ⟨B, bc, e, hr.mod0 hm⟩⟩
theorem BatsAt.rd {w : World} {v : Value} {N : Nat} {ls : List (List Op3)} {vs : List Value} (h : BatsAt w v N ls vs) : ∃ A c, v = .slice A ls.length c ∧ BatsRd w A ls.length ls vs := by
  obtain ⟨A, c, e, hr⟩ := h.own.nilD0
  refine ⟨A, c, e, hr, h.len, fun i h1 h2 => ?_⟩
  obtain ⟨B, bc, e2, hr2⟩ := (h.ent i h1 h2).nilD0
  exact ⟨B, bc, e2, hr2⟩
theorem Rd.one {w : World} {A : Option Addr} {n : Nat} {vs : List Value} (h : Rd w 1 A n vs) (i : Nat) (hi : i < vs.length) : ∃ ad, A = some ad ∧ w.cell? (ad.add i) = some vs[i] := by
  have hl := h.1
  obtain ⟨ad, e, hc⟩ := h.2.2 (by omega)
  exact ⟨ad, e, hc i _ (List.getElem?_eq_getElem hi)⟩
set_option maxHeartbeats 1000000 in
set_option maxRecDepth 100000 in
theorem batches_calls (a b : List (List Op3)) (A B : Option Addr) (c c' : Nat) (va vb : List Value) (w : World) (hr : BatsRd w A a.length a va) (hs : BatsRd w B b.length b vb) :
    Calls Tryd.prog 22 #[.slice A a.length c, .slice B b.length c'] w fun e w' => e = .returned (.bool (decide (a = b))) ∧ Mod NoneB w w' := by
  have hn := hr.1.2.1
  have hn' := hs.1.2.1
  by_cases hl : a.length = b.length
  · have e1 : ((a.length : Int) != b.length) = false := by simp [hl]
    have HL := Lib.hid hl
    have HR := Lib.hid hr
    have HS := Lib.hid hs
    clear hl hr hs
    go_enter Tryd.func22, Tryd.ntmps22
    go_wp2_with fail
    clear e1
    go_loopw [5] (fun i wr => ∃ j : Nat, i = .int .i64 j ∧ j ≤ a.length ∧ a.take j = b.take j ∧ Mod NoneB w wr) (fun i _ => a.length - (intOf i).toNat)
    case atStart => exact ⟨0, rfl, by omega, by simp, Mod.refl _ _⟩
    case round =>
      obtain ⟨j, rfl, hj, ht, hm⟩ := hrel
      have HT := Lib.hid ht
      clear ht
      by_cases hlt : j < a.length
      · have hlb : j < b.length := by have := HL.out; omega
        have ja : j < va.length := by rw [HR.out.2.1]; exact hlt
        have jb : j < vb.length := by rw [HS.out.2.1]; exact hlb
        obtain ⟨ad, rfl, h0⟩ := HR.out.1.one j ja
        obtain ⟨bd, rfl, g0⟩ := HS.out.1.one j jb
        obtain ⟨Pa, ca, ea, hra⟩ := HR.out.2.2 j hlt ja
        obtain ⟨Pb, cb, eb, hrb⟩ := HS.out.2.2 j hlb jb
        rw [ea] at h0
        rw [eb] at g0
        replace h0 := hm.cell0 h0
        replace g0 := hm.cell0 g0
        have hsm : ∀ W, Mod NoneB w W → Calls Tryd.prog 24 #[.slice Pa a[j].length ca, .slice Pb b[j].length cb] W fun e w' => e = .returned (.bool (decide (a[j] = b[j]))) ∧ Mod NoneB W w' :=
          fun W hW => sameops_calls a[j] b[j] Pa Pb ca cb W (hra.mod0 hW) (hrb.mod0 hW)
        obtain ⟨p, hp⟩ : ∃ p, p = a[j] := ⟨_, rfl⟩
        obtain ⟨q, hq⟩ : ∃ q, q = b[j] := ⟨_, rfl⟩
        rw [← hp] at h0 hsm
        rw [← hq] at g0 hsm
        have HSM := Lib.hid hsm
        have HP := Lib.hid hp
        have HQ := Lib.hid hq
        clear hp hq hsm ea eb hra hrb ja jb
        have e2 : (0 : Int) ≤ j := by omega
        have e3 : (j : Int) < a.length := by omega
        have e4 : (j : Int) < b.length := by omega
        obtain ⟨bb, hbb⟩ : ∃ bb, bb = decide (p = q) := ⟨_, rfl⟩
        rw [← hbb] at HSM
        have HBB := Lib.hid hbb
        clear hbb
        go_wp2_with fail
        go_region_held3 (fun w' => w'.cell? (ad.add j) = some (.slice Pa p.length ca) ∧ w'.cell? (bd.add j) = some (.slice Pb q.length cb)) (first | go_keep | exact ⟨y0, y1⟩)
          ((go_at_call 24; (with_reducible refine (HSM.out _ (hm.drew)).mono ?_); rintro ez w5 ⟨rfl, hm5⟩; have y0 := hm5.cell0 (w := wr.drew) h0; have y1 := hm5.cell0 (w := wr.drew) g0))
        all_goals
          have hm6 : Mod NoneB w w5 := hm.drew.then0 hm5
          clear e2 e3 e4 y0 y1 h0 g0 hm5
          cases bb with
          | true =>
            have he : p = q := of_decide_eq_true HBB.out.symm
            have HE := Lib.hid he
            clear he
            go_wp2_with fail
            go_roundw
            case rel => exact ⟨j + 1, by go_num, by omega, take_eq_succ0 HT.out hlt hlb (by rw [← HP.out, ← HQ.out]; exact HE.out), hm6⟩
            case measure => simp [intOf]; omega
          | false =>
            have he : p ≠ q := of_decide_eq_false HBB.out.symm
            have HE : Hid (a ≠ b) := Lib.hid fun e => he (by rw [HP.out, HQ.out]; simp only [e])
            clear he
            go_wp2_with fail
            go_ret
            exact ⟨by rw [decide_eq_false HE.out]; rfl, hm6⟩
      · have he : a = b := by
          have h := HT.out
          have := HL.out
          rwa [List.take_of_length_le (by omega), List.take_of_length_le (by omega)] at h
        have HE := Lib.hid he
        clear he
        go_wp2_with fail
        go_ret
        exact ⟨by rw [decide_eq_true HE.out]; rfl, hm⟩
  · have e1 : ((a.length : Int) != b.length) = true := by rw [bne_iff_ne]; omega
    have HE : Hid (a ≠ b) := Lib.hid fun e => hl (by rw [e])
    clear hl
    go_enter Tryd.func22, Tryd.ntmps22
    go_wp2_with fail
    go_ret
    exact ⟨by rw [decide_eq_false HE.out]; rfl, Mod.refl _ _⟩
end Go.Proofs.YtaldneffhbgepaaDoor

