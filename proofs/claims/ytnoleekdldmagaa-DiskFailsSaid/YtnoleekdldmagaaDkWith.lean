/- A disk's with: what it does with a file. -/
import Derived.Test.YtnoleekdldmagaaDkGate
import Derived.StillTailTactics
namespace Go.Proofs.Ytnoleekdldmagaa
open Go.RowKit
set_option linter.unusedVariables false

theorem DkAt.len {w : World} {p : Nat} {d : Dk} {row FA KA : Value} {es : List Ent} (h : DkAt w p d row es FA KA) : d.fs.length = es.length := by rw [h.fs]; simp

set_option maxHeartbeats 2000000 in
set_option maxRecDepth 100000 in
theorem withC_calls (w : World) (p : Nat) (d : Dk) (row FA KA : Value) (es : List Ent) (S : Nat → Prop) (name : ByteArray) (K : FuncId) (caps : Array Value) (f : Dk → Nat → Ans) (b0 b1 b2 : Nat)
    (hK : ∀ args w, (callFunc K args).run Try.prog w = .ok (.enter K args) w) (hd : DkAt w p d row es FA KA) (hS : ∀ k, S k ↔ Foot p row es FA KA k) (hl : es.length ≤ 4611686018427387904)
    (h0 : w.cell? ⟨b0, 0, none⟩ = some (.pointer (some ⟨p, 0, none⟩))) (h1 : w.cell? ⟨b1, 0, none⟩ = some (.string name)) (h2 : w.cell? ⟨b2, 0, none⟩ = some (.func (.func K) #[] caps))
    (H : ∀ w1, Mod NoneB w w1 → ∀ hi : lbF d.fs name < es.length, hitF d.fs name = true → Calls Try.prog K (#[.int .i64 (lbF d.fs name), .pointer (some ⟨es[lbF d.fs name].g, 0, none⟩)] ++ caps) w1 fun e w' => e = .returned (.int .i64 (f d (lbF d.fs name)).2) ∧ DStep w1 S p (f d (lbF d.fs name)).1 w') :
    Calls Try.prog 123 #[.pointer (some ⟨b0, 0, none⟩), .pointer (some ⟨b1, 0, none⟩), .pointer (some ⟨b2, 0, none⟩)] w fun e w' =>
      e = .returned (.int .i64 (hitAns d name f).2) ∧ DStep w S p (hitAns d name f).1 w' := by
  have HH := Lib.hid H
  have HD := Lib.hid hd
  have HS := Lib.hid hS
  have hlen := hd.len
  have hlb : hitF d.fs name = true → lbF d.fs name < es.length := fun h => by rw [← hlen]; exact hitF_lt h
  have HLB := Lib.hid hlb
  clear H hS hlen hlb
  go_enter Try.func123, Try.ntmps123
  go_wp2_with fail
  refine (dfind_calls _ p d row FA KA es name hd hl).mono ?_
  rintro e w1 ⟨rfl, hm1⟩
  clear hd
  cases hh : hitF d.fs name with
  | false =>
    have HHH := Lib.hid hh
    clear hh
    go_wp2_with fail
    go_ret
    rw [hitAns_false f HHH.out]
    refine ⟨rfl, S, ?_⟩
    exact ⟨⟨row, es, FA, KA, HD.out.mod hm1 (fun _ _ h => h), HS.out⟩, hm1.mono (fun _ _ h => h.elim), fun k hk => .inl hk⟩
  | true =>
    have hi := HLB.out hh
    have hd1 : DkAt w1 p d row es FA KA := HD.out.mod hm1 (fun _ _ h => h)
    have hC := HH.out _ ((Mod.refl NoneB w).then0 hm1 |>.drew) hi hh
    obtain ⟨A, c, rfl, _, _, hr⟩ := hd1.row.out
    have h5 : w1.cell? ⟨p, 5, none⟩ = some (.slice A es.length c) := hd1.cellAt 5
    have hlm : (es.map (·.g)).length = es.length := by simp
    obtain ⟨ad, rfl, hp⟩ := hr.ptr (lbF d.fs name) (by rw [hlm]; exact hi)
    simp only [List.getElem_map] at hp
    obtain ⟨g, hg⟩ : ∃ g, g = es[lbF d.fs name].g := ⟨_, rfl⟩
    rw [← hg] at hp hC
    replace h0 := hm1.cell0 h0
    replace h2 := hm1.cell0 h2
    have e1 : (0 : Int) ≤ (lbF d.fs name : Int) := by omega
    have e2 : (lbF d.fs name : Int) < (es.length : Int) := by omega
    have HHH := Lib.hid hh
    have HC := Lib.hid hC
    clear hg hh hd1 hr hC
    go_wp2_with fail
    go_still_tail 9, (by kernel_rfl)
    change wpList _ _ _ _ _ w1.drew
    clear e1 e2
    go_wp2_with fail
    refine HC.out.mono ?_
    rintro e w4 ⟨rfl, S', hto⟩
    go_wp2_with fail
    go_ret
    rw [hitAns_true f HHH.out]
    refine ⟨rfl, S', ?_⟩
    refine DTo.trans (w1 := w1.drew) (S1 := S) (d1 := d) ⟨⟨_, es, FA, KA, HD.out.mod (hm1.drew) (fun _ _ h => h), HS.out⟩, (hm1.drew).mono (fun _ _ h => h.elim), fun k hk => .inl hk⟩ hto

theorem box3 (w : World) (a b c : Obj) : (((w.alloc a).alloc b).alloc c).heap[w.heap.size]? = some a ∧ (((w.alloc a).alloc b).alloc c).heap[w.heap.size + 1]? = some b ∧ (((w.alloc a).alloc b).alloc c).heap[w.heap.size + 1 + 1]? = some c := by
  refine ⟨?_, ?_, ?_⟩
  · exact (((Mod.refl NoneB _).alloc _).alloc _).blk (heap_alloc_new w a) (fun h => h)
  · have := ((Mod.refl NoneB _).alloc c).blk (heap_alloc_new (w.alloc a) b) (fun h => h)
    simpa using this
  · have := heap_alloc_new ((w.alloc a).alloc b) c
    simpa using this

set_option maxHeartbeats 2000000 in
set_option maxRecDepth 100000 in
theorem with_calls (w : World) (p : Nat) (d : Dk) (S : Nat → Prop) (name : ByteArray) (K : FuncId) (caps : Array Value) (f : Dk → Nat → Ans)
    (hK : ∀ args w, (callFunc K args).run Try.prog w = .ok (.enter K args) w) (hd : IsD w p d S) (hc : d.c < 4611686018427387904) (hl : d.fs.length ≤ 4611686018427387904)
    (H : ∀ w1 dn row es FA KA, Mod S w w1 → DkAt w1 p { d with c := d.c + 1, dn := dn } row es FA KA → (∀ k, S k ↔ Foot p row es FA KA k) → ∀ hi : lbF d.fs name < es.length, hitF d.fs name = true →
      Calls Try.prog K (#[.int .i64 (lbF d.fs name), .pointer (some ⟨es[lbF d.fs name].g, 0, none⟩)] ++ caps) w1 fun e w' =>
        e = .returned (.int .i64 (f { d with c := d.c + 1, dn := dn } (lbF d.fs name)).2) ∧ DStep w1 S p (f { d with c := d.c + 1, dn := dn } (lbF d.fs name)).1 w') :
    Calls Try.prog 79 #[.pointer (some ⟨p, 0, none⟩), .string name, .func (.func K) #[] caps] w fun e w' => e = .returned (.int .i64 (withD d name f).2) ∧ DStep w S p (withD d name f).1 w' := by
  have hKw : ∀ args w, (callFunc 123 args).run Try.prog w = .ok (.enter 123 args) w := enters_of Try.func123 (by kernel_rfl) rfl
  have HH := Lib.hid H
  have HK := Lib.hid hK
  clear H hK
  go_enter Try.func79, Try.ntmps79
  go_wp2_with fail
  have hm : Mod NoneB w (((w.alloc (.cells #[.pointer (some ⟨p, 0, none⟩)] 38)).alloc (.cells #[.string name] 9)).alloc (.cells #[.func (.func K) #[] caps] 123)) := (((Mod.refl NoneB _).alloc _).alloc _).alloc _
  obtain ⟨x0, x1, x2⟩ := box3 w (.cells #[.pointer (some ⟨p, 0, none⟩)] 38) (.cells #[.string name] 9) (.cells #[.func (.func K) #[] caps] 123)
  generalize (((w.alloc (.cells #[.pointer (some ⟨p, 0, none⟩)] 38)).alloc (.cells #[.string name] 9)).alloc (.cells #[.func (.func K) #[] caps] 123)) = w1 at hm x0 x1 x2 ⊢
  have hS1 : IsD w1 p d S := hd.mod0 hm
  have hn : ∀ k, w.heap.size ≤ k → ¬ S k := fun k hk h => absurd (hd.lt h) (Nat.not_lt.2 hk)
  have hmS : Mod S w w1 := hm.mono (fun _ _ h => h.elim)
  have HG : Calls Try.prog 75 #[.pointer (some ⟨p, 0, none⟩), .func (.func 123) #[] #[.pointer (some ⟨w.heap.size, 0, none⟩), .pointer (some ⟨w.heap.size + 1, 0, none⟩), .pointer (some ⟨w.heap.size + 1 + 1, 0, none⟩)]] w1
      fun e w' => e = .returned (.int .i64 (withD d name f).2) ∧ DStep w1 S p (withD d name f).1 w' := by
    refine gate_calls w1 p d S _ _ (fun d => hitAns d name f) hKw hS1 hc ?_
    intro w2 dn hm2 hd2
    obtain ⟨row, es, FA, KA, hda, hS⟩ := hd2
    refine withC_calls w2 p _ row FA KA es S name K caps f _ _ _ HK.out hda hS (by rw [← hda.len]; exact hl) ?_ ?_ ?_ ?_
    · rw [blk_cell (hm2.blk x0 (hn _ (by omega)))]; rfl
    · rw [blk_cell (hm2.blk x1 (hn _ (by omega)))]; rfl
    · rw [blk_cell (hm2.blk x2 (hn _ (by omega)))]; rfl
    · intro w3 hm3 hi hh
      exact HH.out w3 dn row es FA KA ((hmS.trans hm2 (fun _ _ h => h)).then0 hm3) (hda.mod hm3 (fun _ _ h => h)) hS hi hh
  refine HG.mono ?_
  rintro e w4 ⟨rfl, S', hto⟩
  go_wp2_with fail
  go_ret
  exact ⟨rfl, S', DTo.trans ⟨hS1, hmS, fun k hk => .inl hk⟩ hto⟩
end Go.Proofs.Ytnoleekdldmagaa
