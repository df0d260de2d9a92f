/- The reference's Diags, great, diag.Text, awake of law 18; DiagBack: what was told is read back: the walk of the law. -/
import Derived.Test.YtdmdiokfpbmnaaaDoorDgW
namespace Go.Proofs.YtdmdiokfpbmnaaaDoor
open Go.RowKit
set_option linter.unusedVariables false

theorem lnum_calls (k : Int) (w : World) : Calls Tryd.prog 14 #[.int .i64 k] w fun e w' => e = .returned (.int .i64 k) ∧ w' = w := by
  go_enter Tryd.func14, Tryd.ntmps14
  go_wp2_with fail
  go_ret
  exact ⟨rfl, rfl⟩
theorem eqD_in (d : Nat) (w : World) (p q : Dg) : (Op.equalIn (d + 3) 27 (.agg #[.string p.m, .int .i64 p.a, .int .i64 p.c, .string p.n]) (.agg #[.string q.m, .int .i64 q.a, .int .i64 q.c, .string q.n])).run Tryd.prog w = .ok (decide (p = q)) w := by
  have h : (Op.equalIn (d + 3) 27 (.agg #[.string p.m, .int .i64 p.a, .int .i64 p.c, .string p.n]) (.agg #[.string q.m, .int .i64 q.a, .int .i64 q.c, .string q.n])).run Tryd.prog w = .ok (p.m.toList == q.m.toList && (p.a == q.a && (p.c == q.c && (p.n.toList == q.n.toList && true)))) w := by
    refine equal_struct Tryd.underlying27 (by kernel_rfl) ?_
    refine fields_cons (by rfl) (by go_simp; rfl) (by go_simp; rfl) (by go_simp) ?_
    refine fields_cons (by rfl) (by go_simp; rfl) (by go_simp; rfl) (by go_simp) ?_
    refine fields_cons (by rfl) (by go_simp; rfl) (by go_simp; rfl) (by go_simp) ?_
    refine fields_cons (by rfl) (by go_simp; rfl) (by go_simp; rfl) (by go_simp) ?_
    exact fields_nil
  have hb : (p.m.toList == q.m.toList && (p.a == q.a && (p.c == q.c && (p.n.toList == q.n.toList && true)))) = decide (p = q) := by
    have hI : ∀ x y : Int, (x == y) = decide (x = y) := fun x y => rfl
    rw [beq_toList, beq_toList, hI, hI]
    cases p; cases q
    simp
  rw [← hb]
  exact h
theorem neqD (p q : Dg) (w : World) : (binOp .neq 27 (.agg #[.string p.m, .int .i64 p.a, .int .i64 p.c, .string p.n]) (.agg #[.string q.m, .int .i64 q.a, .int .i64 q.c, .string q.n])).run Tryd.prog w = .ok (.bool (!(decide (p = q)))) w :=
  neq_of _ fun d => eqD_in d w p q

set_option maxHeartbeats 1000000 in
set_option maxRecDepth 100000 in
theorem diags_calls (a b : List Dg) (A B : Option Addr) (c c' : Nat) (w : World) (hr : Rd w 4 A a.length (encDs a)) (hs : Rd w 4 B b.length (encDs b)) :
    Calls Tryd.prog 11 #[.slice A a.length c, .slice B b.length c'] w fun e w' => e = .returned (.bool (decide (a = b))) ∧ Mod NoneB w w' := by
  have hn := hr.2.1
  have hn' := hs.2.1
  by_cases hl : a.length = b.length
  · have e1 : ((a.length : Int) != b.length) = false := by simp [hl]
    have HL := Lib.hid hl
    clear hl
    go_enter Tryd.func11, Tryd.ntmps11
    go_wp2_with fail
    clear e1
    go_loopw [5] (fun i wr => ∃ j : Nat, i = .int .i64 j ∧ j ≤ a.length ∧ a.take j = b.take j ∧ Mod NoneB w wr) (fun i _ => a.length - (intOf i).toNat)
    case atStart => exact ⟨0, rfl, by omega, by simp, Mod.refl _ _⟩
    case round =>
      obtain ⟨j, rfl, hj, ht, hm⟩ := hrel
      have HT := Lib.hid ht
      clear ht
      by_cases hlt : j < a.length
      · have hlb : j < b.length := by have := HL.out; omega
        obtain ⟨ad, rfl, h0, h1, h2, h3⟩ := hr.dg j hlt
        obtain ⟨bd, rfl, g0, g1, g2, g3⟩ := hs.dg j hlb
        replace h0 := hm.cell0 h0
        replace h1 := hm.cell0 h1
        replace h2 := hm.cell0 h2
        replace h3 := hm.cell0 h3
        replace g0 := hm.cell0 g0
        replace g1 := hm.cell0 g1
        replace g2 := hm.cell0 g2
        replace g3 := hm.cell0 g3
        obtain ⟨p, hp⟩ : ∃ p, p = a[j] := ⟨_, rfl⟩
        obtain ⟨q, hq⟩ : ∃ q, q = b[j] := ⟨_, rfl⟩
        rw [← hp] at h0 h1 h2 h3
        rw [← hq] at g0 g1 g2 g3
        have HP := Lib.hid hp
        have HQ := Lib.hid hq
        clear hp hq
        have hne := neqD p q
        have e2 : (0 : Int) ≤ j := by omega
        have e3 : (j : Int) < a.length := by omega
        have e4 : (j : Int) < b.length := by omega
        by_cases he : p = q
        · have hd : decide (p = q) = true := decide_eq_true he
          have HE := Lib.hid he
          clear he
          rw [hd] at hne
          clear hd
          go_wp2_with fail
          go_quiet (fail)
          clear e2 e3 e4
          go_wp2_with fail
          go_roundw
          case rel => exact ⟨j + 1, by go_num, by omega, take_eq_succ HT.out hlt hlb (by rw [← HP.out, ← HQ.out]; exact HE.out), hm.drewN _⟩
          case measure => simp [intOf]; omega
        · have hd : decide (p = q) = false := decide_eq_false he
          have HE : Hid (a ≠ b) := Lib.hid fun e => he (by rw [HP.out, HQ.out]; simp only [e])
          clear he
          rw [hd] at hne
          clear hd
          go_wp2_with fail
          go_quiet (fail)
          clear e2 e3 e4
          go_wp2_with fail
          go_ret
          exact ⟨by rw [decide_eq_false HE.out]; rfl, hm.drewN _⟩
      · have he : a = b := by
          have h := HT.out
          have := HL.out
          rwa [List.take_of_length_le (by omega), List.take_of_length_le (by omega)] at h
        have HE := Lib.hid he
        clear he
        go_wp2_with fail
        go_ret
        exact ⟨by rw [decide_eq_true HE.out]; rfl, hm⟩
  · have e1 : ((a.length : Int) != b.length) = true := by rw [bne_iff_ne]; omega
    have HE : Hid (a ≠ b) := Lib.hid fun e => hl (by rw [e])
    clear hl
    go_enter Tryd.func11, Tryd.ntmps11
    go_wp2_with fail
    go_ret
    exact ⟨by rw [decide_eq_false HE.out]; rfl, Mod.refl _ _⟩

/-- Few and short. -/
def FewD (l : List Dg) : Prop := l.length ≤ 100 ∧ ∀ d ∈ l, d.m.size ≤ 100 ∧ d.n.size ≤ 100
theorem FewD.small {l : List Dg} (h : FewD l) (ok : ∀ d ∈ l, OkD d) : SmallD l := ⟨by have := h.1; omega, fun d hd => ⟨ok d hd, by have := h.2 d hd; omega, by have := h.2 d hd; omega⟩⟩

def GreatD (l : List Dg) (w : World) (e : Ending) (w' : World) : Prop := ∃ b, e = .returned (.bool b) ∧ Mod NoneB w w' ∧ (b = false → FewD l)
set_option maxHeartbeats 2000000 in
set_option maxRecDepth 100000 in
theorem great18_calls (l : List Dg) (A : Option Addr) (c : Nat) (w : World) (hr : Rd w 4 A l.length (encDs l)) :
    Calls Tryd.prog 7 #[.slice A l.length c] w (GreatD l w) := by
  have hn := hr.2.1
  go_enter Tryd.func7, Tryd.ntmps7
  go_wp2_with fail
  go_loopw [3] (fun i wr => ∃ j : Nat, i = .int .i64 j ∧ j ≤ l.length ∧ j ≤ 200 ∧ (∀ d ∈ l.take j, d.m.size ≤ 100 ∧ d.n.size ≤ 100) ∧ Mod NoneB w wr) (fun i _ => l.length - (intOf i).toNat)
  case atStart => exact ⟨0, rfl, by omega, by omega, by simp, Mod.refl _ _⟩
  case round =>
    obtain ⟨j, rfl, hj, hj2, ht, hm⟩ := hrel
    have HT := Lib.hid ht
    clear ht
    by_cases hlt : j < l.length
    · by_cases hl2 : j < 200
      · obtain ⟨ad, rfl, h0, h1, h2, h3⟩ := hr.dg j hlt
        replace h0 := hm.cell0 h0
        replace h3 := hm.cell0 h3
        obtain ⟨p, hp⟩ : ∃ p, p = l[j] := ⟨_, rfl⟩
        rw [← hp] at h0 h3
        have HP := Lib.hid hp
        have e2 : (0 : Int) ≤ j := by omega
        have e3 : (j : Int) < l.length := by omega
        have e4 : (j : Int) < 200 := by omega
        clear hp h1 h2
        by_cases c1 : p.m.size ≤ 100
        · have k1 : ¬ (100 : Int) < (p.m.size : Int) := by omega
          by_cases c2 : p.n.size ≤ 100
          · have k2 : ¬ (100 : Int) < (p.n.size : Int) := by omega
            go_wp2_with fail
            go_roundw
            case rel =>
              refine ⟨j + 1, by go_num, by omega, by omega, ?_, hm⟩
              intro d hd
              rw [List.take_succ_eq_append_getElem hlt] at hd
              rcases List.mem_append.1 hd with h | h
              · exact HT.out d h
              · rw [List.mem_singleton, ← HP.out] at h
                rw [h]
                exact ⟨c1, c2⟩
            case measure => simp [intOf]; omega
          · have k2 : (100 : Int) < (p.n.size : Int) := by omega
            go_wp2_with fail
            go_ret
            exact ⟨true, rfl, hm, fun h => by cases h⟩
        · have k1 : (100 : Int) < (p.m.size : Int) := by omega
          go_wp2_with fail
          go_ret
          exact ⟨true, rfl, hm, fun h => by cases h⟩
      · have e3 : (j : Int) < l.length := by omega
        have e4 : ¬ (j : Int) < 200 := by omega
        go_wp2_with fail
        go_ret
        exact ⟨true, by simp; omega, hm, fun h => by cases h⟩
    · have e3 : ¬ (j : Int) < l.length := by omega
      go_wp2_with fail
      go_ret
      refine ⟨decide ((100 : Int) < l.length), rfl, hm, fun h => ?_⟩
      have h1 := of_decide_eq_false h
      refine ⟨by omega, ?_⟩
      have := HT.out
      rwa [List.take_of_length_le (by omega)] at this
/-- A diagnostic as a text. -/
def itoaB (z : Int) : ByteArray := ⟨(Lib.itoa z).toArray⟩
theorem itoaB_size {z : Int} (h : Int64 z) : (itoaB z).size ≤ 21 := by
  have := Lib.itoa_length_le z h.1 h.2
  unfold itoaB
  simpa [ByteArray.size] using this
def textD (d : Dg) : ByteArray := d.m ++ ⟨#[58]⟩ ++ itoaB d.a ++ ⟨#[58, 32]⟩ ++ itoaB d.c ++ ⟨#[32]⟩ ++ d.n

set_option maxHeartbeats 2000000 in
set_option maxRecDepth 100000 in
theorem text_calls (d : Dg) (ok : OkD d) (hs : d.m.size + d.n.size ≤ 1099511627776) (w : World) (ht : TabW w) :
    Calls Tryd.prog 15 #[.agg #[.string d.m, .int .i64 d.a, .int .i64 d.c, .string d.n]] w fun e w' => e = .returned (.string (textD d)) ∧ Mod NoneB w w' := by
  have HI : Hid (∀ z W, Int64 z → Mod NoneB w W → Calls Tryd.prog 31 #[.int .i64 z] W fun e w' => e = .returned (.string (itoaB z)) ∧ Mod NoneB W w') := Lib.hid fun z W hz hm => by
    refine (strconv_Itoa z hz.1 hz.2 W (ht.mod0 hm)).mono ?_
    rintro e w1 ⟨rfl, k, os, rfl⟩
    exact ⟨rfl, grow_mod W os k⟩
  have hW1 : Mod NoneB w (w.alloc (.cells #[.string d.m, .int .i64 d.a, .int .i64 d.c, .string d.n] 27)).drew := ((Mod.refl NoneB w).alloc _).drew
  have bx : (w.alloc (.cells #[.string d.m, .int .i64 d.a, .int .i64 d.c, .string d.n] 27)).drew.heap[w.heap.size]? = some (.cells #[.string d.m, .int .i64 d.a, .int .i64 d.c, .string d.n] 27) := heap_alloc_new w _
  have d0 := blk_cell bx 0
  have d1 := blk_cell bx 1
  have d2 := blk_cell bx 2
  have d3 := blk_cell bx 3
  have HIA := Lib.hid ok.1
  have HIC := Lib.hid ok.2
  have i1 : (itoaB d.a).size ≤ 21 := itoaB_size ok.1
  have i2 : (itoaB d.c).size ≤ 21 := itoaB_size ok.2
  have s1 : ¬ (9223372036854775807 < d.m.size + (⟨#[58]⟩ : ByteArray).size) := by show ¬ (_ < _ + 1); omega
  have s2 : ¬ (9223372036854775807 < (d.m ++ ⟨#[58]⟩).size + (itoaB d.a).size) := by rw [ByteArray.size_append]; show ¬ (_ < _ + 1 + _); omega
  have s3 : ¬ (9223372036854775807 < (d.m ++ ⟨#[58]⟩ ++ itoaB d.a).size + (⟨#[58, 32]⟩ : ByteArray).size) := by rw [ByteArray.size_append, ByteArray.size_append]; show ¬ (_ < _ + 1 + _ + 2); omega
  have s4 : ¬ (9223372036854775807 < (d.m ++ ⟨#[58]⟩ ++ itoaB d.a ++ ⟨#[58, 32]⟩).size + (itoaB d.c).size) := by rw [ByteArray.size_append, ByteArray.size_append, ByteArray.size_append]; show ¬ (_ < _ + 1 + _ + 2 + _); omega
  have s5 : ¬ (9223372036854775807 < (d.m ++ ⟨#[58]⟩ ++ itoaB d.a ++ ⟨#[58, 32]⟩ ++ itoaB d.c).size + (⟨#[32]⟩ : ByteArray).size) := by rw [ByteArray.size_append, ByteArray.size_append, ByteArray.size_append, ByteArray.size_append]; show ¬ (_ < _ + 1 + _ + 2 + _ + 1); omega
  have s6 : ¬ (9223372036854775807 < (d.m ++ ⟨#[58]⟩ ++ itoaB d.a ++ ⟨#[58, 32]⟩ ++ itoaB d.c ++ ⟨#[32]⟩).size + d.n.size) := by rw [ByteArray.size_append, ByteArray.size_append, ByteArray.size_append, ByteArray.size_append, ByteArray.size_append]; show ¬ (_ < _ + 1 + _ + 2 + _ + 1 + _); omega
  have r1 : ¬ (9223372036854775807 < d.m.size + 1) := s1
  have r3 : ¬ (9223372036854775807 < (d.m ++ ⟨#[58]⟩ ++ itoaB d.a).size + 2) := s3
  have r5 : ¬ (9223372036854775807 < (d.m ++ ⟨#[58]⟩ ++ itoaB d.a ++ ⟨#[58, 32]⟩ ++ itoaB d.c).size + 1) := s5
  have q2 : ¬ (9223372036854775807 < d.m.size + 1 + (itoaB d.a).size) := by omega
  have q3 : ¬ (9223372036854775807 < d.m.size + 1 + (itoaB d.a).size + 2) := by omega
  have q4 : ¬ (9223372036854775807 < d.m.size + 1 + (itoaB d.a).size + 2 + (itoaB d.c).size) := by omega
  have q5 : ¬ (9223372036854775807 < d.m.size + 1 + (itoaB d.a).size + 2 + (itoaB d.c).size + 1) := by omega
  have q6 : ¬ (9223372036854775807 < d.m.size + 1 + (itoaB d.a).size + 2 + (itoaB d.c).size + 1 + d.n.size) := by omega
  clear bx ok i1 i2 hs
  go_enter Tryd.func15, Tryd.ntmps15
  go_wp2_with fail
  go_region_held3 (fun w' => w'.cell? ⟨w.heap.size, 0, none⟩ = some (.string d.m) ∧ w'.cell? ⟨w.heap.size, 1, none⟩ = some (.int .i64 d.a) ∧ w'.cell? ⟨w.heap.size, 2, none⟩ = some (.int .i64 d.c) ∧ w'.cell? ⟨w.heap.size, 3, none⟩ = some (.string d.n)) (first | go_keep | exact ⟨d0, d1, d2, d3⟩ | exact ⟨y0, y1, y2, y3⟩ | exact ⟨z0, z1, z2, z3⟩)
    (first
      | (go_at_call 31; (with_reducible refine (HI.out d.a _ HIA.out hW1).mono ?_); rintro ez w3 ⟨rfl, hm3⟩; have y0 := hm3.cell0 d0; have y1 := hm3.cell0 d1; have y2 := hm3.cell0 d2; have y3 := hm3.cell0 d3)
      | (go_at_call 31; (with_reducible refine (HI.out d.c _ HIC.out (hW1.then0 hm3)).mono ?_); rintro ez w4 ⟨rfl, hm4⟩; have z0 := hm4.cell0 y0; have z1 := hm4.cell0 y1; have z2 := hm4.cell0 y2; have z3 := hm4.cell0 y3))
  all_goals
    go_wp2_with fail
    go_ret
    exact ⟨rfl, (hW1.then0 hm3).then0 hm4⟩
theorem text_ex : textD ⟨⟨#[109]⟩, 3, 10, ⟨#[120]⟩⟩ = ⟨#[109, 58, 51, 58, 32, 49, 48, 32, 120]⟩ := by
  have h1 : itoaB 3 = ⟨#[51]⟩ := by unfold itoaB; rw [show Lib.itoa 3 = Lib.decDigits 3 from rfl, Lib.decDigits_one (by decide)]; rfl
  have h2 : itoaB 10 = ⟨#[49, 48]⟩ := by unfold itoaB; rw [show Lib.itoa 10 = Lib.decDigits 10 from rfl, Lib.decDigits_two (by decide) (by decide)]; rfl
  unfold textD
  simp only [h1, h2]
  decide
theorem awake18_calls (w : World) (ht : TabW w) : Calls Tryd.prog 8 #[] w fun e w' => e = .returned (.bool true) ∧ Mod NoneB w w' := by
  have hx : ∀ W, Mod NoneB w W → Calls Tryd.prog 15 #[.agg #[.string ⟨#[109]⟩, .int .i64 3, .int .i64 10, .string ⟨#[120]⟩]] W fun e w' => e = .returned (.string ⟨#[109, 58, 51, 58, 32, 49, 48, 32, 120]⟩) ∧ Mod NoneB W w' := fun W hm => by
    rw [← text_ex]
    exact text_calls ⟨⟨#[109]⟩, 3, 10, ⟨#[120]⟩⟩ ⟨⟨by decide, by decide⟩, by decide, by decide⟩ (by decide) W (ht.mod0 hm)
  have HX := Lib.hid hx
  clear hx
  go_enter Tryd.func8, Tryd.ntmps8
  go_wp2_with ((with_reducible refine (HX.out _ (Mod.refl _ _)).mono ?_); rintro ez w1 ⟨rfl, hm1⟩)
  go_ret
  exact ⟨rfl, hm1⟩

set_option maxHeartbeats 4000000 in
set_option maxRecDepth 100000 in
theorem diagBack_walk (l0 : List Dg) (a0 : Option Addr) (c0 : Nat) (w : World) (rd0 : Rd w 4 a0 l0.length (encDs l0)) (ok0 : ∀ d ∈ l0, OkD d) (htab : TabW w) (herr : ErrW w) :
    Calls Tryd.prog 4 #[.slice a0 l0.length c0] w fun e w' => e = .returned (.bool true) ∧ Mod NoneB w w' := by
  have HAW : Hid (∀ W, Mod NoneB w W → Calls Tryd.prog 8 #[] W fun e w' => e = .returned (.bool true) ∧ Mod NoneB W w') := Lib.hid fun W hm => awake18_calls W (htab.mod0 hm)
  have HOK := Lib.hid ok0
  have hn0 := rd0.2.1
  clear ok0
  go_enter Tryd.func4, Tryd.ntmps4
  go_wp2_with fail
  refine (great18_calls l0 a0 c0 w rd0).mono ?_
  rintro e w1 ⟨b, rfl, hm1, hfew⟩
  cases b with
  | true =>
    clear hfew
    go_wp2_with ((with_reducible refine (HAW.out _ hm1).mono ?_); rintro ez w2 ⟨rfl, hm2⟩)
    go_ret
    exact ⟨rfl, hm1.then0 hm2⟩
  | false =>
    have HFEW := Lib.hid (hfew rfl)
    clear hfew
    go_wp2_with fail
    go_loopw [3] (fun i wr => ∃ j : Nat, i = .int .i64 j ∧ j ≤ l0.length ∧ (∀ d ∈ l0.take j, 0 ≤ d.a ∧ 0 ≤ d.c) ∧ Mod NoneB w wr) (fun i _ => l0.length - (intOf i).toNat)
    case atStart => exact ⟨0, rfl, by omega, by simp, hm1⟩
    case round =>
      obtain ⟨j, rfl, hj, ht, hm⟩ := hrel
      have HT := Lib.hid ht
      clear ht hm1
      by_cases hlt : j < l0.length
      · obtain ⟨ad, rfl, h0, h1, h2, h3⟩ := rd0.dg j hlt
        replace h1 := hm.cell0 h1
        replace h2 := hm.cell0 h2
        obtain ⟨p, hp⟩ : ∃ p, p = l0[j] := ⟨_, rfl⟩
        rw [← hp] at h1 h2
        have HP := Lib.hid hp
        have e2 : (0 : Int) ≤ j := by omega
        have e3 : (j : Int) < l0.length := by omega
        clear hp h0 h3
        by_cases c1 : p.a < 0
        · go_wp2_with ((with_reducible refine (HAW.out _ hm).mono ?_); rintro ez w2 ⟨rfl, hm2⟩)
          go_ret
          exact ⟨rfl, hm.then0 hm2⟩
        · by_cases c2 : p.c < 0
          · go_wp2_with ((with_reducible refine (HAW.out _ hm).mono ?_); rintro ez w2 ⟨rfl, hm2⟩)
            go_ret
            exact ⟨rfl, hm.then0 hm2⟩
          · go_wp2_with fail
            go_roundw
            case rel =>
              refine ⟨j + 1, by go_num, by omega, ?_, hm⟩
              intro d hd
              rw [List.take_succ_eq_append_getElem hlt] at hd
              rcases List.mem_append.1 hd with h | h
              · exact HT.out d h
              · rw [List.mem_singleton, ← HP.out] at h
                rw [h]
                exact ⟨by omega, by omega⟩
            case measure => simp [intOf]; omega
      · have hall := HT.out
        rw [List.take_of_length_le (by omega)] at hall
        have hsd := HFEW.out.small HOK.out
        have hdec : decDg (encL (diagT l0)) = some l0 := by
          unfold decDg
          rw [decL_encL _ (by rw [diagT_length]; have := hsd.1; omega) (fun s hs => by have := hsd.texts.1 s hs; omega)]
          exact quadUp_diagT l0 (fun d hd => ⟨HOK.out d hd, hall d hd⟩)
        have hen := dgencode_calls l0 a0 c0 wr (rd0.mod0 hm) hsd (htab.mod0 hm)
        have hlen : (encL (diagT l0)).length ≤ 1073741824 := by
          have h1 := hsd.texts.1
          have h2 : ∀ t : List ByteArray, (∀ s ∈ t, s.size ≤ 4096) → (t.map fun s => 4 + s.size).sum ≤ t.length * 4100 := by
            intro t
            induction t with
            | nil => intro _; simp
            | cons s t ih =>
              intro hs
              have k1 := hs s (List.mem_cons_self ..)
              have k2 := ih (fun q hq => hs q (List.mem_cons_of_mem _ hq))
              rw [List.map_cons, List.sum_cons, List.length_cons, Nat.add_mul]
              omega
          have h3 := h2 _ h1
          have h4 := hsd.1
          rw [encL_length]
          rw [diagT_length] at h3
          omega
        have HEN := Lib.hid hen
        have HDEC := Lib.hid hdec
        have HLEN := Lib.hid hlen
        obtain ⟨bb, hbb⟩ : ∃ bb, bb = encL (diagT l0) := ⟨_, rfl⟩
        rw [← hbb] at HEN HDEC HLEN
        clear hall hsd hdec hen hlen hbb
        go_wp2_with fail
        refine HEN.out.mono ?_
        rintro e w2 ⟨v2, rfl, ho2, hm2, hn2⟩
        obtain ⟨A2, c2, rfl, hcc, _, hr2⟩ := ho2.out
        have hw2 := hm.then0 hm2
        have hde := dgdecode_calls bb A2 c2 w2 hr2 HLEN.out hcc (htab.mod0 hw2) (herr.mod0 hw2)
        rw [HDEC.out] at hde
        have HDE := Lib.hid hde
        clear ho2 hn2 hr2 hde HEN
        go_wp2_with fail
        refine HDE.out.mono ?_
        rintro e w3 ⟨v3, rfl, ho3, hm3, hn3⟩
        have e0 : errG (some l0) = 0 := rfl
        rw [e0]
        have ho3' : Own w3 27 4 v3 l0.length (encDs l0) := ho3
        obtain ⟨A3, c3, rfl, hr3⟩ := ho3'.nilD0
        have hw3 := hw2.then0 hm3
        have hdi := diags_calls l0 l0 A3 a0 c3 c0 w3 hr3 (rd0.mod0 hw3)
        rw [decide_eq_true rfl] at hdi
        have HDI := Lib.hid hdi
        clear hdi
        clear ho3 ho3' hn3 hr3 e0 HDE
        go_wp2_with first
          | ((with_reducible refine (lnum_calls _ _).mono ?_); rintro ez wz ⟨rfl, hwz⟩; have hwz2 := hwz.symm; clear hwz; subst hwz2)
          | ((with_reducible refine HDI.out.mono ?_); rintro ez w4 ⟨rfl, hm4⟩; have hw4 := hw3.then0 hm4)
          | ((with_reducible refine (HAW.out _ hw4).mono ?_); rintro ez w5 ⟨rfl, hm5⟩)
        go_ret
        exact ⟨rfl, hw4.then0 hm5⟩
end Go.Proofs.YtdmdiokfpbmnaaaDoor

