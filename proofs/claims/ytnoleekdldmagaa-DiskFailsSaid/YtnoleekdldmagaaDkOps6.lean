/- A disk's Remove. -/
import Derived.Test.YtnoleekdldmagaaDkOps5
namespace Go.Proofs.Ytnoleekdldmagaa
open Go.RowKit
set_option linter.unusedVariables false

theorem deleteGn_calls (l : List Nat) (n : Nat) (hl : l.length = n) (i : Nat) (v : Value) (w : World) (hown : Own w 118 1 v n (encGs l)) (hi : i < n) :
    Calls Try.prog 86 #[v, .int .i64 i, .int .i64 (i + 1)] w fun e w' =>
      ∃ v', e = .returned v' ∧ Own w' 118 1 v' (n - 1) (encGs (l.eraseIdx i)) ∧ Mod (OnlyBlk v) w w' ∧ NewOr w v v' := by
  subst hl
  rw [List.eraseIdx_eq_take_drop_succ]
  exact deleteG_calls l i v w hown hi
theorem erase_map {α β : Type} (f : α → β) (l : List α) (i : Nat) : (l.eraseIdx i).map f = (l.map f).eraseIdx i := by
  rw [List.eraseIdx_eq_take_drop_succ, List.eraseIdx_eq_take_drop_succ, List.map_append, List.map_take, List.map_drop]
/-- A file is taken off the row. -/
theorem DkAt.drop {w w5 : World} {p : Nat} {d : Dk} {row row' FA KA : Value} {es : List Ent} {i : Nat} (h : DkAt w p d row es FA KA) (hi : i < es.length) (hm : Mod (OnlyBlk row) w w5) (hno : NewOr w row row')
    (ho : Own w5 118 1 row' (es.length - 1) (encGs ((es.map (·.g)).eraseIdx i))) :
    DkAt (w5.setCell ⟨p, 5, none⟩ row') p { d with fs := d.fs.eraseIdx i } row' (es.eraseIdx i) FA KA ∧ Mod (fun k => k = p ∨ row.ownBlock = some k) w (w5.setCell ⟨p, 5, none⟩ row') := by
  have hsub : (es.eraseIdx i).Sublist es := List.eraseIdx_sublist _ _
  refine h.rowTo (es' := es.eraseIdx i) (fs' := d.fs.eraseIdx i) hm hno ?_ ?_ (fun e he => h.ent e (hsub.mem he)) (fun e he => .inl (hsub.mem he)) (h.ap.sublist hsub) ?_ (fun f hf => h.sync f ((List.eraseIdx_sublist _ _).mem hf))
  · rw [List.length_eraseIdx_of_lt hi, erase_map]; exact ho
  · rw [h.fs, erase_map]
  · have e : asPs (d.fs.eraseIdx i) = (asPs d.fs).eraseIdx i := by unfold asPs; exact erase_map _ _ _
    rw [e]
    exact List.Pairwise.sublist (List.eraseIdx_sublist _ _) h.rises

set_option maxHeartbeats 2000000 in
set_option maxRecDepth 100000 in
theorem removeC_calls (w : World) (p : Nat) (d : Dk) (row FA KA : Value) (es : List Ent) (S : Nat → Prop) (i g q0 : Nat) (hd : DkAt w p d row es FA KA) (hS : ∀ k, S k ↔ Foot p row es FA KA k) (hi : i < es.length) (hl : es.length ≤ 1099511627776)
    (x0 : w.cell? ⟨q0, 0, none⟩ = some (.pointer (some ⟨p, 0, none⟩))) (hq : ¬ S q0) :
    Calls Try.prog 87 #[.int .i64 i, .pointer (some ⟨g, 0, none⟩), .pointer (some ⟨q0, 0, none⟩)] w fun e w' => e = .returned (.int .i64 (removeF d i).2) ∧ DStep w S p (removeF d i).1 w' := by
  have hdd : DkAt w.drew p d row es FA KA := hd.mod ((Mod.refl NoneB w).drew) (fun _ _ h => h)
  obtain ⟨A, c, rfl, _, _, _⟩ := hd.row.out
  have h5 : w.cell? ⟨p, 5, none⟩ = some (.slice A es.length c) := hd.cellAt 5
  have hC := deleteGn_calls (es.map (·.g)) es.length (by simp) i _ w.drew hdd.row hi
  have hcx : ∀ w5 : World, Mod (OnlyBlk (.slice A es.length c)) w.drew w5 → w5.cell? ⟨q0, 0, none⟩ = some (.pointer (some ⟨p, 0, none⟩)) ∧ w5.cell? ⟨p, 5, none⟩ = some (.slice A es.length c) ∧ w5.frozen? ⟨p, 5, none⟩ = false := by
    intro w5 hm
    have hp5 := hm.blk hdd.blk (fun hk => hdd.rowNe hk rfl)
    refine ⟨hm.cell (w := w.drew) x0 (fun h => hq ((hS _).2 (.inr (.inl h)))), by rw [blk_cell hp5]; rfl, blk_frozen hp5 5⟩
  have HCX := Lib.hid hcx
  have HC := Lib.hid hC
  have HD := Lib.hid hdd
  have HD0 := Lib.hid hd
  have HS := Lib.hid hS
  have e1 : IntKind.i64.wrap ((i : Int) + 1) = i + 1 := IntWalk.i64_in _ (by omega)
  clear hcx hC hdd hd hS
  go_enter Try.func87, Try.ntmps87
  go_wp2_with fail
  go_region_law (go_simp; go_at_call 86; refine HC.out.mono ?_; rintro e w5 ⟨v5, rfl, ho5, hm5, hno5⟩; obtain ⟨A5, c5, rfl, _, _, _⟩ := ho5.out; obtain ⟨y0, y1, y2⟩ := HCX.out w5 hm5)
  all_goals
    obtain ⟨hfin, hmf⟩ := HD.out.drop hi hm5 hno5 ho5
    have hst : DStep w.drew S p { d with fs := d.fs.eraseIdx i } (w5.setCell ⟨p, 5, none⟩ (.slice A5 (es.length - 1) c5)) :=
      HD.out.stepTo HS.out hfin hmf hno5 (fun e he k hk => .inl ((HS.out k).2 (Foot.ent ((List.eraseIdx_sublist es i).mem he) hk)))
    have HST := Lib.hid hst
    clear hfin hmf hst
    go_wp2_with fail
    go_ret
    obtain ⟨S', hto⟩ := HST.out
    exact ⟨rfl, S', DTo.trans ⟨⟨_, es, FA, KA, HD.out, HS.out⟩, (Mod.refl S w).drew, fun k hk => .inl hk⟩ hto⟩

theorem box1 (w : World) (a : Obj) : (w.alloc a).heap[w.heap.size]? = some a := heap_alloc_new w a

set_option maxHeartbeats 1000000 in
set_option maxRecDepth 100000 in
theorem remove_calls (w : World) (p : Nat) (d : Dk) (S : Nat → Prop) (name : ByteArray) (hd : IsD w p d S) (hc : d.c < 4611686018427387904) (hl : d.fs.length ≤ 1099511627776) :
    Calls Try.prog 45 #[.pointer (some ⟨p, 0, none⟩), .string name] w fun e w' => e = .returned (.int .i64 (removeD d name).2) ∧ DStep w S p (removeD d name).1 w' := by
  have hKw : ∀ args w, (callFunc 87 args).run Try.prog w = .ok (.enter 87 args) w := enters_of Try.func87 (by kernel_rfl) rfl
  go_enter Try.func45, Try.ntmps45
  go_wp2_with fail
  have hm : Mod NoneB w (w.alloc (.cells #[.pointer (some ⟨p, 0, none⟩)] 38)) := (Mod.refl NoneB _).alloc _
  have x0 := box1 w (.cells #[.pointer (some ⟨p, 0, none⟩)] 38)
  generalize (w.alloc (.cells #[.pointer (some ⟨p, 0, none⟩)] 38)) = w1 at hm x0 ⊢
  have hS1 : IsD w1 p d S := hd.mod0 hm
  have hmS : Mod S w w1 := hm.mono (fun _ _ h => h.elim)
  have HW : Calls Try.prog 79 #[.pointer (some ⟨p, 0, none⟩), .string name, .func (.func 87) #[] #[.pointer (some ⟨w.heap.size, 0, none⟩)]] w1
      fun e w' => e = .returned (.int .i64 (removeD d name).2) ∧ DStep w1 S p (removeD d name).1 w' := by
    refine with_calls w1 p d S name _ _ removeF hKw hS1 hc (Nat.le_trans hl (by omega)) ?_
    intro w2 dn row es FA KA hm2 hda hS hi _
    exact removeC_calls w2 p _ row FA KA es S _ _ _ hda hS hi (by rw [← hda.len]; exact hl) (by rw [blk_cell (hm2.blk x0 (hd.notS (by omega)))]; rfl) (hd.notS (by omega))
  refine HW.mono ?_
  rintro e w4 ⟨rfl, S', hto⟩
  go_wp2_with fail
  go_ret
  exact ⟨rfl, S', DTo.trans ⟨hS1, hmS, fun k hk => .inl hk⟩ hto⟩
end Go.Proofs.Ytnoleekdldmagaa
