/- The document's Text, Less, EncodeDiags, big. -/
import Derived.Test.YtdmdiokfpbmnaaaDoorDaW
namespace Go.Proofs.YtdmdiokfpbmnaaaDoor
open Go.RowKit
set_option linter.unusedVariables false

set_option maxHeartbeats 2000000 in
set_option maxRecDepth 100000 in
theorem rtext_calls (d : Dg) (ok : OkD d) (hs : d.m.size + d.n.size ≤ 1099511627776) (w : World) :
    Calls Tryd.prog 16 #[.agg #[.string d.m, .int .i64 d.a, .int .i64 d.c, .string d.n]] w fun e w' => e = .returned (.string (textD d)) ∧ Mod NoneB w w' := by
  have HI : Hid (∀ z W, Int64 z → Mod NoneB w W → Calls Tryd.prog 32 #[.int .i64 z] W fun e w' => e = .returned (.string (itoaB z)) ∧ Mod NoneB W w') := Lib.hid fun z W hz hm => rdigitsZ_calls z hz W
  have hW1 : Mod NoneB w (w.alloc (.cells #[.string d.m, .int .i64 d.a, .int .i64 d.c, .string d.n] 27)).drew := ((Mod.refl NoneB w).alloc _).drew
  have bx : (w.alloc (.cells #[.string d.m, .int .i64 d.a, .int .i64 d.c, .string d.n] 27)).drew.heap[w.heap.size]? = some (.cells #[.string d.m, .int .i64 d.a, .int .i64 d.c, .string d.n] 27) := heap_alloc_new w _
  have d0 := blk_cell bx 0
  have d1 := blk_cell bx 1
  have d2 := blk_cell bx 2
  have d3 := blk_cell bx 3
  have HIA := Lib.hid ok.1
  have HIC := Lib.hid ok.2
  have i1 : (itoaB d.a).size ≤ 21 := itoaB_size ok.1
  have i2 : (itoaB d.c).size ≤ 21 := itoaB_size ok.2
  have s1 : ¬ (9223372036854775807 < d.m.size + (⟨#[58]⟩ : ByteArray).size) := by show ¬ (_ < _ + 1); omega
  have s2 : ¬ (9223372036854775807 < (d.m ++ ⟨#[58]⟩).size + (itoaB d.a).size) := by rw [ByteArray.size_append]; show ¬ (_ < _ + 1 + _); omega
  have s3 : ¬ (9223372036854775807 < (d.m ++ ⟨#[58]⟩ ++ itoaB d.a).size + (⟨#[58, 32]⟩ : ByteArray).size) := by rw [ByteArray.size_append, ByteArray.size_append]; show ¬ (_ < _ + 1 + _ + 2); omega
  have s4 : ¬ (9223372036854775807 < (d.m ++ ⟨#[58]⟩ ++ itoaB d.a ++ ⟨#[58, 32]⟩).size + (itoaB d.c).size) := by rw [ByteArray.size_append, ByteArray.size_append, ByteArray.size_append]; show ¬ (_ < _ + 1 + _ + 2 + _); omega
  have s5 : ¬ (9223372036854775807 < (d.m ++ ⟨#[58]⟩ ++ itoaB d.a ++ ⟨#[58, 32]⟩ ++ itoaB d.c).size + (⟨#[32]⟩ : ByteArray).size) := by rw [ByteArray.size_append, ByteArray.size_append, ByteArray.size_append, ByteArray.size_append]; show ¬ (_ < _ + 1 + _ + 2 + _ + 1); omega
  have s6 : ¬ (9223372036854775807 < (d.m ++ ⟨#[58]⟩ ++ itoaB d.a ++ ⟨#[58, 32]⟩ ++ itoaB d.c ++ ⟨#[32]⟩).size + d.n.size) := by rw [ByteArray.size_append, ByteArray.size_append, ByteArray.size_append, ByteArray.size_append, ByteArray.size_append]; show ¬ (_ < _ + 1 + _ + 2 + _ + 1 + _); omega
  have r1 : ¬ (9223372036854775807 < d.m.size + 1) := s1
  have r3 : ¬ (9223372036854775807 < (d.m ++ ⟨#[58]⟩ ++ itoaB d.a).size + 2) := s3
  have r5 : ¬ (9223372036854775807 < (d.m ++ ⟨#[58]⟩ ++ itoaB d.a ++ ⟨#[58, 32]⟩ ++ itoaB d.c).size + 1) := s5
  have q2 : ¬ (9223372036854775807 < d.m.size + 1 + (itoaB d.a).size) := by omega
  have q3 : ¬ (9223372036854775807 < d.m.size + 1 + (itoaB d.a).size + 2) := by omega
  have q4 : ¬ (9223372036854775807 < d.m.size + 1 + (itoaB d.a).size + 2 + (itoaB d.c).size) := by omega
  have q5 : ¬ (9223372036854775807 < d.m.size + 1 + (itoaB d.a).size + 2 + (itoaB d.c).size + 1) := by omega
  have q6 : ¬ (9223372036854775807 < d.m.size + 1 + (itoaB d.a).size + 2 + (itoaB d.c).size + 1 + d.n.size) := by omega
  clear bx ok i1 i2 hs
  go_enter Tryd.func16, Tryd.ntmps16
  go_wp2_with fail
  go_region_held3 (fun w' => w'.cell? ⟨w.heap.size, 0, none⟩ = some (.string d.m) ∧ w'.cell? ⟨w.heap.size, 1, none⟩ = some (.int .i64 d.a) ∧ w'.cell? ⟨w.heap.size, 2, none⟩ = some (.int .i64 d.c) ∧ w'.cell? ⟨w.heap.size, 3, none⟩ = some (.string d.n)) (first | go_keep | exact ⟨d0, d1, d2, d3⟩ | exact ⟨y0, y1, y2, y3⟩ | exact ⟨z0, z1, z2, z3⟩)
    (first
      | (go_at_call 32; (with_reducible refine (HI.out d.a _ HIA.out hW1).mono ?_); rintro ez w3 ⟨rfl, hm3⟩; have y0 := hm3.cell0 d0; have y1 := hm3.cell0 d1; have y2 := hm3.cell0 d2; have y3 := hm3.cell0 d3)
      | (go_at_call 32; (with_reducible refine (HI.out d.c _ HIC.out (hW1.then0 hm3)).mono ?_); rintro ez w4 ⟨rfl, hm4⟩; have z0 := hm4.cell0 y0; have z1 := hm4.cell0 y1; have z2 := hm4.cell0 y2; have z3 := hm4.cell0 y3))
  all_goals
    go_wp2_with fail
    go_ret
    exact ⟨rfl, (hW1.then0 hm3).then0 hm4⟩

set_option maxHeartbeats 4000000 in
set_option maxRecDepth 100000 in
theorem rless_calls (p q : Dg) (w : World) :
    Calls Tryd.prog 17 #[.agg #[.string p.m, .int .i64 p.a, .int .i64 p.c, .string p.n], .agg #[.string q.m, .int .i64 q.a, .int .i64 q.c, .string q.n]] w fun e w' => e = .returned (.bool (decide (ltD p q))) ∧ Mod NoneB w w' := by
  have hlt : decide (ltD p q) = if p.m = q.m then if p.a = q.a then if p.c = q.c then decide (cmpS p.n q.n < 0) else decide (p.c < q.c) else decide (p.a < q.a) else decide (cmpS p.m q.m < 0) := by
    have h := ltD_iff p q
    by_cases h1 : p.m = q.m
    · rw [if_pos h1]
      by_cases h2 : p.a = q.a
      · rw [if_pos h2]
        by_cases h3 : p.c = q.c
        · rw [if_pos h3]
          refine decide_eq_decide.2 (h.trans ?_)
          simp [h1, h2, h3, cmpS_self]
        · rw [if_neg h3]
          refine decide_eq_decide.2 (h.trans ?_)
          simp [h1, h2, h3, cmpS_self]
      · rw [if_neg h2]
        refine decide_eq_decide.2 (h.trans ?_)
        simp [h1, h2, cmpS_self]
    · rw [if_neg h1]
      refine decide_eq_decide.2 (h.trans ?_)
      simp [h1]
  have HLT := Lib.hid hlt
  obtain ⟨w1, hw1⟩ : ∃ w1, w1 = w.alloc (.cells #[.string p.m, .int .i64 p.a, .int .i64 p.c, .string p.n] 27) := ⟨_, rfl⟩
  obtain ⟨w2, hw2⟩ : ∃ w2, w2 = w1.alloc (.cells #[.string q.m, .int .i64 q.a, .int .i64 q.c, .string q.n] 27) := ⟨_, rfl⟩
  have bx : w1.heap[w.heap.size]? = some (.cells #[.string p.m, .int .i64 p.a, .int .i64 p.c, .string p.n] 27) := by rw [hw1]; exact heap_alloc_new w _
  have by_ : w2.heap[w1.heap.size]? = some (.cells #[.string q.m, .int .i64 q.a, .int .i64 q.c, .string q.n] 27) := by rw [hw2]; exact heap_alloc_new w1 _
  have hs1 : w1.heap.size = w.heap.size + 1 := by rw [hw1]; simp
  have hm1 : Mod NoneB w w1 := by rw [hw1]; exact (Mod.refl _ _).alloc _
  have hm2 : Mod NoneB w1 w2 := by rw [hw2]; exact (Mod.refl _ _).alloc _
  have bx2 := hm2.blk bx (fun h => h)
  have hmw := hm1.then0 hm2
  have d0 := blk_cell bx2 0
  have d1 := blk_cell bx2 1
  have d3 := blk_cell bx2 2
  have d4 := blk_cell bx2 3
  have g0 := blk_cell by_ 0
  have g1 := blk_cell by_ 1
  have g3 := blk_cell by_ 2
  have g4 := blk_cell by_ 3
  rw [hs1] at g0 g1 g3 g4
  have bl1 := less_cmpS p.m q.m
  have bl2 := less_cmpS p.n q.n
  have be1 := beq_toList p.m q.m
  clear bx by_ bx2 hm1 hm2 hs1 hlt
  subst hw2
  subst hw1
  by_cases h1 : p.m = q.m
  · rw [decide_eq_true h1] at be1
    by_cases h2 : p.a = q.a
    · have b2 : (p.a != q.a) = false := by simp [h2]
      by_cases h3 : p.c = q.c
      · have b3 : (p.c != q.c) = false := by simp [h3]
        have H1 := Lib.hid h1
        have H2 := Lib.hid h2
        have H3 := Lib.hid h3
        clear h1 h2 h3
        go_enter Tryd.func17, Tryd.ntmps17
        go_wp2_with fail
        go_ret
        exact ⟨by rw [HLT.out, if_pos H1.out, if_pos H2.out, if_pos H3.out]; rfl, hmw⟩
      · have b3 : (p.c != q.c) = true := by rw [bne_iff_ne]; exact h3
        have H1 := Lib.hid h1
        have H2 := Lib.hid h2
        have H3 := Lib.hid h3
        clear h1 h2 h3
        go_enter Tryd.func17, Tryd.ntmps17
        go_wp2_with fail
        go_ret
        exact ⟨by rw [HLT.out, if_pos H1.out, if_pos H2.out, if_neg H3.out]; rfl, hmw⟩
    · have b2 : (p.a != q.a) = true := by rw [bne_iff_ne]; exact h2
      have H1 := Lib.hid h1
      have H2 := Lib.hid h2
      clear h1 h2
      go_enter Tryd.func17, Tryd.ntmps17
      go_wp2_with fail
      go_ret
      exact ⟨by rw [HLT.out, if_pos H1.out, if_neg H2.out]; rfl, hmw⟩
  · rw [decide_eq_false h1] at be1
    have H1 := Lib.hid h1
    clear h1
    go_enter Tryd.func17, Tryd.ntmps17
    go_wp2_with fail
    go_ret
    exact ⟨by rw [HLT.out, if_neg H1.out]; rfl, hmw⟩
end Go.Proofs.YtdmdiokfpbmnaaaDoor

