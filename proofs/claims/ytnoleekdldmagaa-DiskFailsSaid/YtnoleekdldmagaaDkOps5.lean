/- A disk's Create. -/
import Derived.Test.YtnoleekdldmagaaDkOps4
namespace Go.Proofs.Ytnoleekdldmagaa
open Go.RowKit
set_option linter.unusedVariables false

theorem DkAt.stepTo {w w' : World} {p : Nat} {d d' : Dk} {row row' FA KA : Value} {es es' : List Ent} {S : Nat → Prop} (h : DkAt w p d row es FA KA) (hS : ∀ k, S k ↔ Foot p row es FA KA k) (hd : DkAt w' p d' row' es' FA KA)
    (hm : Mod (fun k => k = p ∨ row.ownBlock = some k) w w') (hno : NewOr w row row') (hout : ∀ e ∈ es', ∀ k, EntB e k → S k ∨ w.heap.size ≤ k) : DStep w S p d' w' := by
  refine ⟨_, ⟨row', es', FA, KA, hd, fun _ => Iff.rfl⟩, hm.mono (fun k _ hk => (hS k).2 ?_), ?_⟩
  · rcases hk with rfl | hk
    · exact .inl rfl
    · exact .inr (.inl hk)
  · rintro k (rfl | hk | ⟨e, he, hk⟩ | hk | hk)
    · exact .inl ((hS _).2 (.inl rfl))
    · rcases hno with h1 | ⟨b, h1, hb⟩
      · exact .inl ((hS _).2 (.inr (.inl (by rw [← h1]; exact hk))))
      · rw [h1] at hk
        injection hk with hk
        subst hk
        exact .inr hb
    · exact hout e he k (hk.elim (fun h => .inl h.symm) .inr)
    · exact .inl ((hS _).2 (.inr (.inr (.inr (.inl hk)))))
    · exact .inl ((hS _).2 (.inr (.inr (.inr (.inr hk)))))
theorem Foot.ent {p : Nat} {row FA KA : Value} {es : List Ent} {e : Ent} (he : e ∈ es) {k : Nat} (hk : EntB e k) : Foot p row es FA KA k := .inr (.inr (.inl ⟨e, he, hk.elim (fun h => .inl h.symm) .inr⟩))
theorem isEmpty_toList (n : ByteArray) : n.toList.isEmpty = decide (n = ⟨#[]⟩) := by
  have e : (⟨#[]⟩ : ByteArray).toList = [] := by decide +kernel
  rw [← beq_toList, e]
  cases n.toList <;> rfl

set_option maxHeartbeats 2000000 in
set_option maxRecDepth 100000 in
theorem createC_calls (w : World) (p : Nat) (d : Dk) (row FA KA : Value) (es : List Ent) (S : Nat → Prop) (name : ByteArray) (q0 q1 : Nat) (hd : DkAt w p d row es FA KA) (hS : ∀ k, S k ↔ Foot p row es FA KA k) (hl : es.length ≤ 1099511627776)
    (x0 : w.cell? ⟨q0, 0, none⟩ = some (.string name)) (x1 : w.cell? ⟨q1, 0, none⟩ = some (.pointer (some ⟨p, 0, none⟩))) :
    Calls Try.prog 76 #[.pointer (some ⟨q0, 0, none⟩), .pointer (some ⟨q1, 0, none⟩)] w fun e w' => e = .returned (.int .i64 (createF name d).2) ∧ DStep w S p (createF name d).1 w' := by
  have HD := Lib.hid hd
  have HS := Lib.hid hS
  clear hS
  by_cases hne : name = ⟨#[]⟩
  · have ha : createF name d = (d, 1) := by unfold createF; rw [if_pos hne]
    have HA := Lib.hid ha
    subst hne
    clear ha hd
    go_enter Try.func76, Try.ntmps76
    go_wp2_with fail
    go_ret
    rw [HA.out]
    exact ⟨rfl, S, ⟨row, es, FA, KA, HD.out, HS.out⟩, Mod.refl _ _, fun k hk => .inl hk⟩
  · have b1 : name.toList.isEmpty = false := by rw [isEmpty_toList]; exact decide_eq_false hne
    have HN := Lib.hid hne
    clear hne
    go_enter Try.func76, Try.ntmps76
    go_wp2_with fail
    refine (dfind_calls _ p d row FA KA es name hd (by omega)).mono ?_
    rintro e w1 ⟨rfl, hm1⟩
    clear hd
    have hd1 := HD.out.mod hm1 (fun _ _ h => h)
    have hmS : Mod S w w1 := hm1.mono (fun _ _ h => h.elim)
    cases hh : hitF d.fs name with
    | true =>
      have ha : createF name d = (d, 4) := by unfold createF; rw [if_neg HN.out, if_pos hh]
      have HA := Lib.hid ha
      have HD1 := Lib.hid hd1
      clear ha hh hd1
      go_wp2_with fail
      go_ret
      rw [HA.out]
      exact ⟨rfl, S, ⟨row, es, FA, KA, HD1.out, HS.out⟩, hmS, fun k hk => .inl hk⟩
    | false =>
      have ha : createF name d = ({ d with fs := putF d.fs ⟨name, [], 0⟩ }, 0) := by unfold createF; rw [if_neg HN.out, if_neg (by rw [hh]; simp)]
      have HA := Lib.hid ha
      have HD1 := Lib.hid hd1
      replace x0 := hm1.cell0 x0
      replace x1 := hm1.cell0 x1
      clear ha hh hd1
      go_wp2_with fail
      have hma : Mod NoneB w1 (w1.alloc (.cells #[.string name, .slice none 0 0, .int .i64 0] 120)) := (Mod.refl NoneB _).alloc _
      have hgx := heap_alloc_new w1 (.cells #[.string name, .slice none 0 0, .int .i64 0] 120)
      have hd2 := HD1.out.mod hma (fun _ _ h => h)
      generalize w1.alloc (.cells #[.string name, .slice none 0 0, .int .i64 0] 120) = w2 at hma hgx hd2 ⊢
      have hxk : ∀ k, EntB ⟨w1.heap.size, .slice none 0 0, ⟨name, [], 0⟩⟩ k → k = w1.heap.size := by
        rintro k (h | h)
        · exact h
        · simp [Value.ownBlock] at h
      refine (dput_calls w2 p d row FA KA es ⟨w1.heap.size, .slice none 0 0, ⟨name, [], 0⟩⟩ hd2 ⟨hgx, Own.nil _ _ _⟩ (fun k hk hf => ?_) (Nat.zero_le _) hl).mono ?_
      · have h1 := hxk k hk
        have h2 := HD1.out.lt hf
        omega
      rintro e w3 ⟨rfl, row', hd3, hm3, hno3⟩
      have hst : DStep w1 S p { d with fs := putF d.fs ⟨name, [], 0⟩ } w3 := by
        refine HD1.out.stepTo HS.out hd3 ((hma.mono (fun _ _ h => h.elim)).trans hm3 (fun _ _ h => h)) (hno3.back hma.size) (fun e he k hk => ?_)
        rcases mem_putE he with rfl | he
        · exact .inr (Nat.le_of_eq (hxk k hk).symm)
        · exact .inl ((HS.out k).2 (Foot.ent he hk))
      have HST := Lib.hid hst
      clear hst hd3 hd2 hgx hxk
      go_wp2_with fail
      go_ret
      rw [HA.out]
      obtain ⟨S', hto⟩ := HST.out
      exact ⟨rfl, S', DTo.trans ⟨⟨row, es, FA, KA, HD1.out, HS.out⟩, hmS, fun k hk => .inl hk⟩ hto⟩

set_option maxHeartbeats 1000000 in
set_option maxRecDepth 100000 in
theorem create_calls (w : World) (p : Nat) (d : Dk) (S : Nat → Prop) (name : ByteArray) (hd : IsD w p d S) (hc : d.c < 4611686018427387904) (hl : d.fs.length ≤ 1099511627776) :
    Calls Try.prog 34 #[.pointer (some ⟨p, 0, none⟩), .string name] w fun e w' => e = .returned (.int .i64 (createD d name).2) ∧ DStep w S p (createD d name).1 w' := by
  have hKw : ∀ args w, (callFunc 76 args).run Try.prog w = .ok (.enter 76 args) w := enters_of Try.func76 (by kernel_rfl) rfl
  go_enter Try.func34, Try.ntmps34
  go_wp2_with fail
  have hm : Mod NoneB w ((w.alloc (.cells #[.pointer (some ⟨p, 0, none⟩)] 38)).alloc (.cells #[.string name] 9)) := ((Mod.refl NoneB _).alloc _).alloc _
  obtain ⟨x0, x1⟩ := box2 w (.cells #[.pointer (some ⟨p, 0, none⟩)] 38) (.cells #[.string name] 9)
  generalize ((w.alloc (.cells #[.pointer (some ⟨p, 0, none⟩)] 38)).alloc (.cells #[.string name] 9)) = w1 at hm x0 x1 ⊢
  have hS1 : IsD w1 p d S := hd.mod0 hm
  have hmS : Mod S w w1 := hm.mono (fun _ _ h => h.elim)
  have HW : Calls Try.prog 75 #[.pointer (some ⟨p, 0, none⟩), .func (.func 76) #[] #[.pointer (some ⟨w.heap.size + 1, 0, none⟩), .pointer (some ⟨w.heap.size, 0, none⟩)]] w1
      fun e w' => e = .returned (.int .i64 (createD d name).2) ∧ DStep w1 S p (createD d name).1 w' := by
    refine gate_calls w1 p d S _ _ (createF name) hKw hS1 hc ?_
    intro w2 dn hm2 hd2
    obtain ⟨row, es, FA, KA, hda, hS⟩ := hd2
    exact createC_calls w2 p _ row FA KA es S name _ _ hda hS (by rw [← hda.len]; exact hl) (by rw [blk_cell (hm2.blk x1 (hd.notS (by omega)))]; rfl) (by rw [blk_cell (hm2.blk x0 (hd.notS (by omega)))]; rfl)
  refine HW.mono ?_
  rintro e w4 ⟨rfl, S', hto⟩
  go_wp2_with fail
  go_ret
  exact ⟨rfl, S', DTo.trans ⟨hS1, hmS, fun k hk => .inl hk⟩ hto⟩
end Go.Proofs.Ytnoleekdldmagaa
