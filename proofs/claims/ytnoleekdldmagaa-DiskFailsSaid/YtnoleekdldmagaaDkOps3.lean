/- A disk's Append, Sync, Cut, as calls. -/
import Derived.Test.YtnoleekdldmagaaDkOps2
namespace Go.Proofs.Ytnoleekdldmagaa
open Go.RowKit
set_option linter.unusedVariables false

theorem box2 (w : World) (a b : Obj) : ((w.alloc a).alloc b).heap[w.heap.size]? = some a ∧ ((w.alloc a).alloc b).heap[w.heap.size + 1]? = some b := by
  refine ⟨?_, ?_⟩
  · exact ((Mod.refl NoneB _).alloc _).blk (heap_alloc_new w a) (fun h => h)
  · have := heap_alloc_new (w.alloc a) b
    simpa using this
theorem IsD.notS {w : World} {p : Nat} {d : Dk} {S : Nat → Prop} (h : IsD w p d S) {k : Nat} (hk : w.heap.size ≤ k) : ¬ S k := fun hs => absurd (h.lt hs) (Nat.not_lt.2 hk)
/-- A slice whose block is none of these. -/
def Off (S : Nat → Prop) (A : Option Addr) : Prop := ∀ ad, A = some ad → ¬ S ad.block

set_option maxHeartbeats 1000000 in
set_option maxRecDepth 100000 in
theorem append_calls (w : World) (p : Nat) (d : Dk) (S : Nat → Prop) (name : ByteArray) (b : List UInt8) (B : Option Addr) (bc : Nat) (hd : IsD w p d S) (hb : Rd w 1 B b.length (encB b)) (hoff : 0 < b.length → Off S B)
    (hc : d.c < 4611686018427387904) (hl : d.fs.length ≤ 4611686018427387904) (hsz : usedF d.fs + b.length ≤ 70368744177664) :
    Calls Try.prog 35 #[.pointer (some ⟨p, 0, none⟩), .string name, .slice B b.length bc] w fun e w' => e = .returned (.int .i64 (appendD d name b).2) ∧ DStep w S p (appendD d name b).1 w' := by
  have hKw : ∀ args w, (callFunc 80 args).run Try.prog w = .ok (.enter 80 args) w := enters_of Try.func80 (by kernel_rfl) rfl
  go_enter Try.func35, Try.ntmps35
  go_wp2_with fail
  have hm : Mod NoneB w ((w.alloc (.cells #[.pointer (some ⟨p, 0, none⟩)] 38)).alloc (.cells #[.slice B b.length bc] 35)) := ((Mod.refl NoneB _).alloc _).alloc _
  obtain ⟨x0, x1⟩ := box2 w (.cells #[.pointer (some ⟨p, 0, none⟩)] 38) (.cells #[.slice B b.length bc] 35)
  generalize ((w.alloc (.cells #[.pointer (some ⟨p, 0, none⟩)] 38)).alloc (.cells #[.slice B b.length bc] 35)) = w1 at hm x0 x1 ⊢
  have hS1 : IsD w1 p d S := hd.mod0 hm
  have hmS : Mod S w w1 := hm.mono (fun _ _ h => h.elim)
  have HW : Calls Try.prog 79 #[.pointer (some ⟨p, 0, none⟩), .string name, .func (.func 80) #[] #[.pointer (some ⟨w.heap.size, 0, none⟩), .pointer (some ⟨w.heap.size + 1, 0, none⟩)]] w1
      fun e w' => e = .returned (.int .i64 (appendD d name b).2) ∧ DStep w1 S p (appendD d name b).1 w' := by
    refine with_calls w1 p d S name _ _ (appendF b) hKw hS1 hc hl ?_
    intro w2 dn row es FA KA hm2 hda hS hi _
    exact appendC_calls w2 p _ row FA KA es S b B bc _ _ _ hda hS hi (by rw [blk_cell (hm2.blk x0 (hd.notS (by omega)))]; rfl) (by rw [blk_cell (hm2.blk x1 (hd.notS (by omega)))]; rfl) ((hb.mod0 hm).modP hm2 hoff) hsz
  refine HW.mono ?_
  rintro e w4 ⟨rfl, S', hto⟩
  go_wp2_with fail
  go_ret
  exact ⟨rfl, S', DTo.trans ⟨hS1, hmS, fun k hk => .inl hk⟩ hto⟩

set_option maxHeartbeats 1000000 in
set_option maxRecDepth 100000 in
theorem syncC_calls (w : World) (p : Nat) (d : Dk) (row FA KA : Value) (es : List Ent) (S : Nat → Prop) (i : Nat) (hd : DkAt w p d row es FA KA) (hS : ∀ k, S k ↔ Foot p row es FA KA k) (hi : i < es.length) :
    Calls Try.prog 83 #[.int .i64 i, .pointer (some ⟨es[i].g, 0, none⟩)] w fun e w' => e = .returned (.int .i64 (syncF d i).2) ∧ DStep w S p (syncF d i).1 w' := by
  have hok := hd.ent es[i] (List.getElem_mem _)
  have hfe := hd.fileAt hi
  obtain ⟨e, he⟩ : ∃ e, e = es[i] := ⟨_, rfl⟩
  rw [← he] at hok hfe ⊢
  obtain ⟨V, vc, hv, _, _, _⟩ := hok.own.out
  have y1 : w.cell? ⟨e.g, 1, none⟩ = some (.slice V e.f.b.length vc) := by rw [blk_cell hok.blk, hv]; rfl
  have y2 : w.cell? ⟨e.g, 2, none⟩ = some (.int .i64 e.f.s) := by rw [blk_cell hok.blk]; rfl
  have fr2 : w.frozen? ⟨e.g, 2, none⟩ = false := blk_frozen hok.blk 2
  have hend : DStep w S p (syncF d i).1 (w.setCell ⟨e.g, 2, none⟩ (.int .i64 e.f.b.length)) := by
    have hm : Mod (EntB es[i]) w (w.setCell ⟨e.g, 2, none⟩ (.int .i64 e.f.b.length)) := Mod.setCell (Mod.refl _ _) (p := ⟨e.g, 2, none⟩) (fun _ => .inl (by rw [he])) _
    refine hd.toEnt hS hi (e' := ⟨e.g, e.v, { e.f with s := e.f.b.length }⟩) (by rw [he]) ⟨(setCell_blk hok.blk).trans rfl, ?_⟩ hm (by rw [← he]; exact .inl rfl) (by rw [← he]) (Nat.le_refl _) (by unfold syncF; rw [hfe])
    refine hok.own.mod (Mod.setCell (S := fun k => k = e.g) (Mod.refl _ _) (p := ⟨e.g, 2, none⟩) (fun _ => rfl) _) (fun g hg hge => ?_)
    obtain ⟨c', hc'⟩ := hok.own.tag hg
    exact tag_ne hok.blk hc' (by decide) hge.symm
  have HEND := Lib.hid hend
  clear hend hok hfe he hv hd hS
  go_enter Try.func83, Try.ntmps83
  go_wp2_with fail
  go_ret
  exact ⟨rfl, HEND.out⟩

set_option maxHeartbeats 1000000 in
set_option maxRecDepth 100000 in
theorem sync_calls (w : World) (p : Nat) (d : Dk) (S : Nat → Prop) (name : ByteArray) (hd : IsD w p d S) (hc : d.c < 4611686018427387904) (hl : d.fs.length ≤ 4611686018427387904) :
    Calls Try.prog 38 #[.pointer (some ⟨p, 0, none⟩), .string name] w fun e w' => e = .returned (.int .i64 (syncD d name).2) ∧ DStep w S p (syncD d name).1 w' := by
  have hKw : ∀ args w, (callFunc 83 args).run Try.prog w = .ok (.enter 83 args) w := enters_of Try.func83 (by kernel_rfl) rfl
  have HW : Calls Try.prog 79 #[.pointer (some ⟨p, 0, none⟩), .string name, .func (.func 83) #[] #[]] w fun e w' => e = .returned (.int .i64 (syncD d name).2) ∧ DStep w S p (syncD d name).1 w' := by
    refine with_calls w p d S name _ _ syncF hKw hd hc hl ?_
    intro w2 dn row es FA KA hm2 hda hS hi _
    exact syncC_calls w2 p _ row FA KA es S _ hda hS hi
  have HH := Lib.hid HW
  clear HW hKw
  go_enter Try.func38, Try.ntmps38
  go_wp2_with fail
  refine HH.out.mono ?_
  rintro e w4 ⟨rfl, hto⟩
  go_wp2_with fail
  go_ret
  exact ⟨rfl, hto⟩
end Go.Proofs.Ytnoleekdldmagaa
