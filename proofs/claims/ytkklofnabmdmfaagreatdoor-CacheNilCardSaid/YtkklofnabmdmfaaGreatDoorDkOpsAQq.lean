/- A disk in memory: how it lies, its blocks, what keeps it. -/
import Derived.BigQuiet
import Derived.WalkMore
import Derived.Deep.DeepCutAuto
import Derived.StillTailTactics
import Derived.Deep.RegionLaw
import Derived.BigRegion
import Derived.Test.YtkklofnabmdmfaaGreatDoorNumsQq
import Derived.Test.YtkklofnabmdmfaaGreatDoorDkModQq
namespace Go.Proofs.YtkklofnabmdmfaaGreatDoor
open Go.RowKit
set_option linter.unusedVariables false

/-- A file in memory: its block, where its bytes lie, what it holds. -/
structure Ent where
  g : Nat
  v : Value
  f : Fl
structure EntOk (w : World) (e : Ent) : Prop where
  blk : w.heap[e.g]? = some (.cells #[.string e.f.n, e.v, .int .i64 e.f.s] 91 (0, 0))
  own : Own w 5 1 e.v e.f.b.length (encB e.f.b)

def Apart2 (a b : Ent) : Prop := a.g ≠ b.g ∧ ∀ k, a.v.ownBlock = some k → b.v.ownBlock ≠ some k

def dkCells (d : Dk) (row FA KA : Value) : Array Value :=
  #[.int .i64 d.p.cap, FA, .int .i64 d.p.crash, .bool d.p.done, KA, row, .int .i64 d.c, .bool d.dn]

structure DkAt (w : World) (p : Nat) (d : Dk) (row : Value) (es : List Ent) (FA KA : Value) : Prop where
  blk : w.heap[p]? = some (.cells (dkCells d row FA KA) 75 (0, 0))
  row : Own w 89 1 row es.length (encGs (es.map (·.g)))
  fs : d.fs = es.map (·.f)
  ent : ∀ e ∈ es, EntOk w e
  ap : es.Pairwise Apart2
  fail : Own w 3 1 FA d.p.fail.length (encI d.p.fail)
  keep : Own w 3 1 KA d.p.keep.length (encI d.p.keep)
  rises : Rises (asPs d.fs)
  sync : ∀ f ∈ d.fs, f.s ≤ f.b.length

def Foot (p : Nat) (row : Value) (es : List Ent) (FA KA : Value) (k : Nat) : Prop :=
  k = p ∨ row.ownBlock = some k ∨ (∃ e ∈ es, e.g = k ∨ e.v.ownBlock = some k) ∨ FA.ownBlock = some k ∨ KA.ownBlock = some k

/-- A disk behind the pointer 'p', in the blocks S and no others. -/
def IsD (w : World) (p : Nat) (d : Dk) (S : Nat → Prop) : Prop := ∃ row es FA KA, DkAt w p d row es FA KA ∧ ∀ k, S k ↔ Foot p row es FA KA k

theorem Own.tag {w : World} {T size n g : Nat} {v : Value} {cs : List Value} (h : Own w T size v n cs) (hg : v.ownBlock = some g) : ∃ cur, w.heap[g]? = some (.cells cur T (0, 0)) := by
  obtain ⟨_, ⟨rfl, _⟩ | ⟨g', cap, cur, rfl, _, hh, _⟩⟩ := h
  · simp [Value.ownBlock] at hg
  · simp [Value.ownBlock] at hg
    subst hg
    exact ⟨cur, hh⟩
theorem tag_ne {w : World} {a b T1 T2 : Nat} {c1 c2 : Array Value} {f1 f2 : Nat × Nat} (h1 : w.heap[a]? = some (.cells c1 T1 f1)) (h2 : w.heap[b]? = some (.cells c2 T2 f2)) (hT : T1 ≠ T2) : a ≠ b := by
  rintro rfl
  rw [h1] at h2
  injection h2 with h2
  injection h2 with _ h2 _
  exact hT h2

namespace DkAt
variable {w w1 : World} {p : Nat} {d : Dk} {row FA KA : Value} {es : List Ent}
theorem lt (h : DkAt w p d row es FA KA) {k : Nat} (hk : Foot p row es FA KA k) : k < w.heap.size := by
  rcases hk with rfl | hk | ⟨e, he, rfl | hk⟩ | hk | hk
  · exact blk_lt h.blk
  · exact h.row.lt hk
  · exact blk_lt (h.ent e he).blk
  · exact (h.ent e he).own.lt hk
  · exact h.fail.lt hk
  · exact h.keep.lt hk
theorem step (h : DkAt w p d row es FA KA) (hm : ∀ k, Foot p row es FA KA k → w1.heap[k]? = w.heap[k]?) : DkAt w1 p d row es FA KA where
  blk := (hm p (.inl rfl)).trans h.blk
  row := h.row.step (fun g hg => hm g (.inr (.inl hg)))
  fs := h.fs
  ent := fun e he => ⟨(hm _ (.inr (.inr (.inl ⟨e, he, .inl rfl⟩)))).trans (h.ent e he).blk, (h.ent e he).own.step (fun g hg => hm g (.inr (.inr (.inl ⟨e, he, .inr hg⟩))))⟩
  ap := h.ap
  fail := h.fail.step (fun g hg => hm g (.inr (.inr (.inr (.inl hg)))))
  keep := h.keep.step (fun g hg => hm g (.inr (.inr (.inr (.inr hg)))))
  rises := h.rises
  sync := h.sync
theorem mod {T : Nat → Prop} (h : DkAt w p d row es FA KA) (hm : Mod T w w1) (hs : ∀ k, Foot p row es FA KA k → ¬ T k) : DkAt w1 p d row es FA KA :=
  h.step (fun k hk => hm.block k (h.lt hk) (hs k hk))
theorem rowNe (h : DkAt w p d row es FA KA) {g : Nat} (hg : row.ownBlock = some g) : g ≠ p := by
  obtain ⟨cur, hc⟩ := h.row.tag hg
  exact tag_ne hc h.blk (by decide)
theorem entNe (h : DkAt w p d row es FA KA) {e : Ent} (he : e ∈ es) : e.g ≠ p := tag_ne (h.ent e he).blk h.blk (by decide)
theorem bytesNe (h : DkAt w p d row es FA KA) {e : Ent} (he : e ∈ es) {g : Nat} (hg : e.v.ownBlock = some g) : g ≠ p := by
  obtain ⟨cur, hc⟩ := (h.ent e he).own.tag hg
  exact tag_ne hc h.blk (by decide)
theorem failNe (h : DkAt w p d row es FA KA) {g : Nat} (hg : FA.ownBlock = some g) : g ≠ p := by
  obtain ⟨cur, hc⟩ := h.fail.tag hg
  exact tag_ne hc h.blk (by decide)
theorem keepNe (h : DkAt w p d row es FA KA) {g : Nat} (hg : KA.ownBlock = some g) : g ≠ p := by
  obtain ⟨cur, hc⟩ := h.keep.tag hg
  exact tag_ne hc h.blk (by decide)
/-- The disk's own block turns, all else is left: what the block says now. -/
theorem turn (h : DkAt w p d row es FA KA) {d' : Dk} (hm : Mod (fun k => k = p) w w1) (hb : w1.heap[p]? = some (.cells (dkCells d' row FA KA) 75 (0, 0))) (hp : d'.p = d.p) (hf : d'.fs = d.fs) : DkAt w1 p d' row es FA KA where
  blk := hb
  row := h.row.mod hm (fun g hg => h.rowNe hg)
  fs := hf.trans h.fs
  ent := fun e he => ⟨hm.blk (h.ent e he).blk (h.entNe he), (h.ent e he).own.mod hm (fun g hg => h.bytesNe he hg)⟩
  ap := h.ap
  fail := by rw [hp]; exact h.fail.mod hm (fun g hg => h.failNe hg)
  keep := by rw [hp]; exact h.keep.mod hm (fun g hg => h.keepNe hg)
  rises := by rw [hf]; exact h.rises
  sync := by rw [hf]; exact h.sync
theorem cellAt (h : DkAt w p d row es FA KA) (j : Nat) : w.cell? ⟨p, j, none⟩ = (dkCells d row FA KA)[j]? := blk_cell h.blk j
end DkAt

theorem setCell_blk {w : World} {p j : Nat} {u : Value} {cs : Array Value} {T : Nat} (h : w.heap[p]? = some (.cells cs T (0, 0))) : (w.setCell ⟨p, j, none⟩ u).heap[p]? = some (.cells (cs.setIfInBounds j u) T (0, 0)) := by
  simp only [World.setCell]
  rw [Array.getElem?_modify]
  simp [h]

theorem IsD.lt {w : World} {p : Nat} {d : Dk} {S : Nat → Prop} (h : IsD w p d S) {k : Nat} (hk : S k) : k < w.heap.size := by
  obtain ⟨row, es, FA, KA, hd, hs⟩ := h
  exact hd.lt ((hs k).1 hk)
theorem IsD.mod {w w1 : World} {p : Nat} {d : Dk} {S T : Nat → Prop} (h : IsD w p d S) (hm : Mod T w w1) (ht : ∀ k, S k → ¬ T k) : IsD w1 p d S := by
  obtain ⟨row, es, FA, KA, hd, hs⟩ := h
  exact ⟨row, es, FA, KA, hd.mod hm (fun k hk => ht k ((hs k).2 hk)), hs⟩
theorem IsD.mod0 {w w1 : World} {p : Nat} {d : Dk} {S : Nat → Prop} (h : IsD w p d S) (hm : Mod NoneB w w1) : IsD w1 p d S := h.mod hm (fun _ _ hf => hf)

/-- From a disk in the blocks S at 'w' to one in S' at 'w'': nothing but its blocks has turned; its blocks are old ones of its own or new ones. -/
structure DTo (w : World) (S : Nat → Prop) (p : Nat) (d' : Dk) (w' : World) (S' : Nat → Prop) : Prop where
  isD : IsD w' p d' S'
  mod : Mod S w w'
  new : ∀ k, S' k → S k ∨ w.heap.size ≤ k
def DStep (w : World) (S : Nat → Prop) (p : Nat) (d' : Dk) (w' : World) : Prop := ∃ S', DTo w S p d' w' S'
theorem DTo.trans {w w1 w2 : World} {S S1 S2 : Nat → Prop} {p : Nat} {d1 d2 : Dk} (h : DTo w S p d1 w1 S1) (k : DTo w1 S1 p d2 w2 S2) : DTo w S p d2 w2 S2 :=
  ⟨k.isD, h.mod.trans k.mod (fun i hi hk => (h.new i hk).elim id (fun h2 => absurd hi (Nat.not_lt.2 h2))), fun i hi => (k.new i hi).elim (h.new i) (fun h2 => .inr (Nat.le_trans h.mod.size h2))⟩
end Go.Proofs.YtkklofnabmdmfaaGreatDoor

/- A disk's find, gate, with. -/
namespace Go.Proofs.YtkklofnabmdmfaaGreatDoor
open Go.RowKit
set_option linter.unusedVariables false

theorem bsearchGn_calls (fs : List Fl) (gs : List Nat) (n : Nat) (hn : gs.length = n) (key : ByteArray) (A : Option Addr) (c : Nat) (w : World) (hp : Parts (asPs fs) key) (hr : Rd w 1 A n (encGs gs)) (hnm : NamesAt w gs fs) (hlen : n ≤ 4611686018427387904) :
    Calls Tryz.prog 121 #[.slice A n c, .string key, .func (.func 122) #[] #[]] w fun e w' =>
      e = .returned (.tuple #[.int .i64 (lb (asPs fs) key), .bool (hitB (asPs fs) key)]) ∧ Mod NoneB w w' := by
  subst hn
  exact bsearchG_calls fs gs key A c w hp hr hnm hlen

theorem DkAt.names {w : World} {p : Nat} {d : Dk} {row FA KA : Value} {es : List Ent} (h : DkAt w p d row es FA KA) : NamesAt w (es.map (·.g)) d.fs := by
  rw [h.fs]
  refine ⟨by simp, fun i h1 h2 => ?_⟩
  simp only [List.length_map] at h1 h2
  simp only [List.getElem_map]
  rw [blk_cell (h.ent es[i] (List.getElem_mem _)).blk]
  rfl

set_option maxHeartbeats 1000000 in
set_option maxRecDepth 100000 in
theorem dfind_calls (w : World) (p : Nat) (d : Dk) (row FA KA : Value) (es : List Ent) (key : ByteArray) (hd : DkAt w p d row es FA KA) (hlen : es.length ≤ 4611686018427387904) :
    Calls Tryz.prog 88 #[.pointer (some ⟨p, 0, none⟩), .string key] w fun e w' =>
      e = .returned (.tuple #[.int .i64 (lbF d.fs key), .bool (hitF d.fs key)]) ∧ Mod NoneB w w' := by
  have hp := parts_of_rises hd.rises key
  have hnm := hd.names
  obtain ⟨A, c, rfl, _, _, hr⟩ := hd.row.out
  have h5 : w.cell? ⟨p, 5, none⟩ = some (.slice A es.length c) := hd.cellAt 5
  go_enter Tryz.func88, Tryz.ntmps88
  go_wp2_with fail
  refine (bsearchGn_calls d.fs (es.map (·.g)) es.length (by simp) key A c _ hp hr hnm hlen).mono ?_
  rintro e w1 ⟨rfl, hm1⟩
  go_wp2_with fail
  go_ret2
  exact ⟨rfl, hm1⟩

set_option maxHeartbeats 2000000 in
set_option maxRecDepth 100000 in
theorem gate_calls (w : World) (p : Nat) (d : Dk) (S : Nat → Prop) (K : FuncId) (caps : Array Value) (op : Dk → Ans) (hK : ∀ args w, (callFunc K args).run Tryz.prog w = .ok (.enter K args) w) (hd : IsD w p d S) (hc : d.c < 4611686018427387904)
    (H : ∀ w1 dn, Mod S w w1 → IsD w1 p { d with c := d.c + 1, dn := dn } S → Calls Tryz.prog K caps w1 fun e w' => e = .returned (.int .i64 (op { d with c := d.c + 1, dn := dn }).2) ∧ DStep w1 S p (op { d with c := d.c + 1, dn := dn }).1 w') :
    Calls Tryz.prog 90 #[.pointer (some ⟨p, 0, none⟩), .func (.func K) #[] caps] w fun e w' => e = .returned (.int .i64 (gateD d op).2) ∧ DStep w S p (gateD d op).1 w' := by
  obtain ⟨row, es, FA, KA, hda, hS⟩ := hd
  have HD := hda
  have h7 : w.cell? ⟨p, 7, none⟩ = some (.bool d.dn) := hda.cellAt 7
  have h6 : w.cell? ⟨p, 6, none⟩ = some (.int .i64 d.c) := hda.cellAt 6
  obtain ⟨pl, fs, cc, dn⟩ := d
  simp only at h6 h7 hc H HD hda
  have hSp : S p := (hS p).2 (.inl rfl)
  have HH := Lib.hid H
  have HSS := Lib.hid hS
  have HDD := Lib.hid HD
  clear H hS HD hda
  cases dn with
  | true =>
    go_enter Tryz.func90, Tryz.ntmps90
    go_wp2_with fail
    go_step3
    go_wp2_with fail
    try rw [Exit.noGoto_ret]
    go_ret
    refine ⟨rfl, S, ⟨⟨row, es, FA, KA, HDD.out, HSS.out⟩, Mod.refl _ _, fun k hk => .inl hk⟩⟩
  | false =>
    have fr6 : w.frozen? ⟨p, 6, none⟩ = false := blk_frozen HDD.out.blk 6
    go_enter Tryz.func90, Tryz.ntmps90
    go_wp2_with fail
    go_step3
    go_wp2_with fail
    have hm1 : Mod (fun k => k = p) w (w.setCell ⟨p, 6, none⟩ (.int .i64 (↑cc + 1))) := Mod.setCell (S := fun k => k = p) (Mod.refl _ _) (p := ⟨p, 6, none⟩) (fun _ => rfl) _
    have hd1 : DkAt (w.setCell ⟨p, 6, none⟩ (.int .i64 (↑cc + 1))) p ⟨pl, fs, cc + 1, false⟩ row es FA KA := HDD.out.turn hm1 ((setCell_blk HDD.out.blk).trans rfl) rfl rfl
    generalize w.setCell ⟨p, 6, none⟩ (.int .i64 (↑cc + 1)) = w1 at hm1 hd1 ⊢
    clear h6 h7 fr6
    have hmS : Mod S w w1 := hm1.mono (fun k _ hk => by subst hk; exact hSp)
    have h6 : w1.cell? ⟨p, 6, none⟩ = some (.int .i64 (↑cc + 1)) := hd1.cellAt 6
    have h2 : w1.cell? ⟨p, 2, none⟩ = some (.int .i64 pl.crash) := hd1.cellAt 2
    have h3 : w1.cell? ⟨p, 3, none⟩ = some (.bool pl.done) := hd1.cellAt 3
    have fr7 : w1.frozen? ⟨p, 7, none⟩ = false := blk_frozen hd1.blk 7
    have HD1 := Lib.hid hd1
    have hd1' := hd1
    clear hd1 hm1
    go_step3
    have h7 : w1.cell? ⟨p, 7, none⟩ = some (.bool false) := hd1'.cellAt 7
    clear hd1'
    by_cases hcr : ((cc : Int) + 1) = pl.crash
    · have b1 : (((cc : Int) + 1) == pl.crash) = true := by simpa using hcr
      have hg : gateD ⟨pl, fs, cc, false⟩ op = (if pl.done then (op ⟨pl, fs, cc + 1, true⟩).1 else ⟨pl, fs, cc + 1, true⟩, 7) := by
        unfold gateD
        rw [if_neg (by simp), if_pos (show ((cc + 1 : Nat) : Int) = pl.crash from hcr)]
      have HG := Lib.hid hg
      clear hcr hg
      cases hdn : pl.done with
      | true =>
        rw [hdn] at h3
        have HDN := Lib.hid hdn
        clear hdn
        go_wp2_with fail
        go_quiet (fail)
        go_wp2_with fail
        have hd3 : DkAt ((w1.drewN nq).setCell ⟨p, 7, none⟩ (.bool true)) p ⟨pl, fs, cc + 1, true⟩ row es FA KA :=
          (HD1.out.mod ((Mod.refl NoneB w1).drewN nq) (fun _ _ h => h)).turn (Mod.setCell (S := fun k => k = p) (Mod.refl _ _) (p := ⟨p, 7, none⟩) (fun _ => rfl) _) ((setCell_blk (HD1.out.mod ((Mod.refl NoneB w1).drewN nq) (fun _ _ h => h)).blk).trans rfl) rfl rfl
        have hm3 : Mod S w ((w1.drewN nq).setCell ⟨p, 7, none⟩ (.bool true)) := (hmS.drewN nq).setCell (p := ⟨p, 7, none⟩) (fun _ => hSp) _
        refine (HH.out _ true hm3 ⟨row, es, FA, KA, hd3, HSS.out⟩).mono ?_
        rintro e w4 ⟨rfl, S', hto⟩
        have HTO : DTo w S p (op ⟨pl, fs, cc + 1, true⟩).1 w4 S' := DTo.trans ⟨⟨row, es, FA, KA, hd3, HSS.out⟩, hm3, fun k hk => .inl hk⟩ hto
        clear hd3 hm3 hto
        go_wp2_with fail
        try rw [Exit.noGoto_ret]
        go_ret
        refine ⟨by rw [HG.out]; rfl, S', ?_⟩
        rw [HG.out, HDN.out]
        exact HTO
      | false =>
        rw [hdn] at h3
        have HDN := Lib.hid hdn
        clear hdn
        go_wp2_with fail
        go_quiet (fail)
        go_wp2_with fail
        have hd3 : DkAt ((w1.drewN nq).setCell ⟨p, 7, none⟩ (.bool true)) p ⟨pl, fs, cc + 1, true⟩ row es FA KA :=
          (HD1.out.mod ((Mod.refl NoneB w1).drewN nq) (fun _ _ h => h)).turn (Mod.setCell (S := fun k => k = p) (Mod.refl _ _) (p := ⟨p, 7, none⟩) (fun _ => rfl) _) ((setCell_blk (HD1.out.mod ((Mod.refl NoneB w1).drewN nq) (fun _ _ h => h)).blk).trans rfl) rfl rfl
        have hm3 : Mod S w ((w1.drewN nq).setCell ⟨p, 7, none⟩ (.bool true)) := (hmS.drewN nq).setCell (p := ⟨p, 7, none⟩) (fun _ => hSp) _
        try rw [Exit.noGoto_ret]
        go_ret
        refine ⟨by rw [HG.out]; rfl, S, ?_⟩
        rw [HG.out, HDN.out]
        exact ⟨⟨row, es, FA, KA, hd3, HSS.out⟩, hm3, fun k hk => .inl hk⟩
    · have b1 : (((cc : Int) + 1) == pl.crash) = false := by simpa using hcr
      have HCR := Lib.hid hcr
      clear hcr
      go_wp2_with fail
      go_quiet (fail)
      go_wp2_with fail
      have hd2 : DkAt (w1.drewN nq) p ⟨pl, fs, cc + 1, false⟩ row es FA KA := HD1.out.mod ((Mod.refl NoneB w1).drewN nq) (fun _ _ h => h)
      have hm2 : Mod S w (w1.drewN nq) := hmS.drewN nq
      clear h2 h3 h6 h7 fr7
      generalize w1.drewN nq = w2 at hd2 hm2 ⊢
      obtain ⟨FL, fc, rfl, _, _, hrf⟩ := hd2.fail.out
      have h6 : w2.cell? ⟨p, 6, none⟩ = some (.int .i64 (↑cc + 1)) := hd2.cellAt 6
      have h1 : w2.cell? ⟨p, 1, none⟩ = some (.slice FL pl.fail.length fc) := hd2.cellAt 1
      have HD2 := Lib.hid hd2
      clear hd2
      have hcn : ∀ n, Calls Tryz.prog 123 #[.slice FL pl.fail.length fc, .int .i64 (↑cc + 1)] (w2.drewN n) fun e w' => e = .returned (.bool (decide ((cc : Int) + 1 ∈ pl.fail))) ∧ w' = w2.drewN n := fun n => containsI_calls pl.fail _ FL fc _ (hrf.mod0 ((Mod.refl NoneB w2).drewN n))
      by_cases hin : (cc : Int) + 1 ∈ pl.fail
      · rw [decide_eq_true hin] at hcn
        have hg : gateD ⟨pl, fs, cc, false⟩ op = (⟨pl, fs, cc + 1, false⟩, 6) := by
          unfold gateD
          rw [if_neg (by simp), if_neg (show ¬ ((cc + 1 : Nat) : Int) = pl.crash from HCR.out), if_pos (show ((cc + 1 : Nat) : Int) ∈ pl.fail from hin)]
        have HG := Lib.hid hg
        clear hin hg
        go_quiet ((go_at_call 123; exact Calls.quiet_of_same (hcn _)))
        go_wp2_with fail
        try rw [Exit.noGoto_ret]
        go_ret
        refine ⟨by rw [HG.out]; rfl, S, ?_⟩
        rw [HG.out]
        exact ⟨⟨row, es, _, KA, HD2.out.mod ((Mod.refl NoneB w2).drewN nq) (fun _ _ h => h), HSS.out⟩, hm2.drewN nq, fun k hk => .inl hk⟩
      · rw [decide_eq_false hin] at hcn
        have hg : gateD ⟨pl, fs, cc, false⟩ op = op ⟨pl, fs, cc + 1, false⟩ := by
          unfold gateD
          rw [if_neg (by simp), if_neg (show ¬ ((cc + 1 : Nat) : Int) = pl.crash from HCR.out), if_neg (show ¬ ((cc + 1 : Nat) : Int) ∈ pl.fail from hin)]
        have HG := Lib.hid hg
        clear hin hg
        go_quiet ((go_at_call 123; exact Calls.quiet_of_same (hcn _)))
        go_wp2_with fail
        have hd3 := HD2.out.mod (w1 := w2.drewN nq) ((Mod.refl NoneB w2).drewN nq) (fun _ _ h => h)
        have hm3 := hm2.drewN nq
        refine (HH.out _ false hm3 ⟨row, es, _, KA, hd3, HSS.out⟩).mono ?_
        rintro e w4 ⟨rfl, S', hto⟩
        have HTO := DTo.trans ⟨⟨row, es, _, KA, hd3, HSS.out⟩, hm3, fun k hk => .inl hk⟩ hto
        clear hd3 hm3 hto
        go_wp2_with fail
        try rw [Exit.noGoto_ret]
        go_ret
        refine ⟨by rw [HG.out]; rfl, S', ?_⟩
        rw [HG.out]
        exact HTO
end Go.Proofs.YtkklofnabmdmfaaGreatDoor

/- A disk's with: what it does with a file. -/
namespace Go.Proofs.YtkklofnabmdmfaaGreatDoor
open Go.RowKit
set_option linter.unusedVariables false

theorem DkAt.len {w : World} {p : Nat} {d : Dk} {row FA KA : Value} {es : List Ent} (h : DkAt w p d row es FA KA) : d.fs.length = es.length := by rw [h.fs]; simp

set_option maxHeartbeats 2000000 in
set_option maxRecDepth 100000 in
theorem withC_calls (w : World) (p : Nat) (d : Dk) (row FA KA : Value) (es : List Ent) (S : Nat → Prop) (name : ByteArray) (K : FuncId) (caps : Array Value) (f : Dk → Nat → Ans) (b0 b1 b2 : Nat)
    (hK : ∀ args w, (callFunc K args).run Tryz.prog w = .ok (.enter K args) w) (hd : DkAt w p d row es FA KA) (hS : ∀ k, S k ↔ Foot p row es FA KA k) (hl : es.length ≤ 4611686018427387904)
    (h0 : w.cell? ⟨b0, 0, none⟩ = some (.pointer (some ⟨p, 0, none⟩))) (h1 : w.cell? ⟨b1, 0, none⟩ = some (.string name)) (h2 : w.cell? ⟨b2, 0, none⟩ = some (.func (.func K) #[] caps))
    (H : ∀ w1, Mod NoneB w w1 → ∀ hi : lbF d.fs name < es.length, hitF d.fs name = true → Calls Tryz.prog K (#[.int .i64 (lbF d.fs name), .pointer (some ⟨es[lbF d.fs name].g, 0, none⟩)] ++ caps) w1 fun e w' => e = .returned (.int .i64 (f d (lbF d.fs name)).2) ∧ DStep w1 S p (f d (lbF d.fs name)).1 w') :
    Calls Tryz.prog 127 #[.pointer (some ⟨b0, 0, none⟩), .pointer (some ⟨b1, 0, none⟩), .pointer (some ⟨b2, 0, none⟩)] w fun e w' =>
      e = .returned (.int .i64 (hitAns d name f).2) ∧ DStep w S p (hitAns d name f).1 w' := by
  have HH := Lib.hid H
  have HD := Lib.hid hd
  have HS := Lib.hid hS
  have hlen := hd.len
  have hlb : hitF d.fs name = true → lbF d.fs name < es.length := fun h => by rw [← hlen]; exact hitF_lt h
  have HLB := Lib.hid hlb
  clear H hS hlen hlb
  go_enter Tryz.func127, Tryz.ntmps127
  go_wp2_with fail
  refine (dfind_calls _ p d row FA KA es name hd hl).mono ?_
  rintro e w1 ⟨rfl, hm1⟩
  clear hd
  cases hh : hitF d.fs name with
  | false =>
    have HHH := Lib.hid hh
    clear hh
    go_wp2_with fail
    go_ret
    rw [hitAns_false f HHH.out]
    refine ⟨rfl, S, ?_⟩
    exact ⟨⟨row, es, FA, KA, HD.out.mod hm1 (fun _ _ h => h), HS.out⟩, hm1.mono (fun _ _ h => h.elim), fun k hk => .inl hk⟩
  | true =>
    have hi := HLB.out hh
    have hd1 : DkAt w1 p d row es FA KA := HD.out.mod hm1 (fun _ _ h => h)
    have hC := HH.out _ ((Mod.refl NoneB w).then0 hm1 |>.drew) hi hh
    obtain ⟨A, c, rfl, _, _, hr⟩ := hd1.row.out
    have h5 : w1.cell? ⟨p, 5, none⟩ = some (.slice A es.length c) := hd1.cellAt 5
    have hlm : (es.map (·.g)).length = es.length := by simp
    obtain ⟨ad, rfl, hp⟩ := hr.ptr (lbF d.fs name) (by rw [hlm]; exact hi)
    simp only [List.getElem_map] at hp
    obtain ⟨g, hg⟩ : ∃ g, g = es[lbF d.fs name].g := ⟨_, rfl⟩
    rw [← hg] at hp hC
    replace h0 := hm1.cell0 h0
    replace h2 := hm1.cell0 h2
    have e1 : (0 : Int) ≤ (lbF d.fs name : Int) := by omega
    have e2 : (lbF d.fs name : Int) < (es.length : Int) := by omega
    have HHH := Lib.hid hh
    have HC := Lib.hid hC
    clear hg hh hd1 hr hC
    go_wp2_with fail
    go_still_tail 9, (by kernel_rfl)
    change wpList _ _ _ _ _ w1.drew
    clear e1 e2
    go_wp2_with fail
    refine HC.out.mono ?_
    rintro e w4 ⟨rfl, S', hto⟩
    go_wp2_with fail
    go_ret
    rw [hitAns_true f HHH.out]
    refine ⟨rfl, S', ?_⟩
    refine DTo.trans (w1 := w1.drew) (S1 := S) (d1 := d) ⟨⟨_, es, FA, KA, HD.out.mod (hm1.drew) (fun _ _ h => h), HS.out⟩, (hm1.drew).mono (fun _ _ h => h.elim), fun k hk => .inl hk⟩ hto

theorem box3 (w : World) (a b c : Obj) : (((w.alloc a).alloc b).alloc c).heap[w.heap.size]? = some a ∧ (((w.alloc a).alloc b).alloc c).heap[w.heap.size + 1]? = some b ∧ (((w.alloc a).alloc b).alloc c).heap[w.heap.size + 1 + 1]? = some c := by
  refine ⟨?_, ?_, ?_⟩
  · exact (((Mod.refl NoneB _).alloc _).alloc _).blk (heap_alloc_new w a) (fun h => h)
  · have := ((Mod.refl NoneB _).alloc c).blk (heap_alloc_new (w.alloc a) b) (fun h => h)
    simpa using this
  · have := heap_alloc_new ((w.alloc a).alloc b) c
    simpa using this

set_option maxHeartbeats 2000000 in
set_option maxRecDepth 100000 in
theorem with_calls (w : World) (p : Nat) (d : Dk) (S : Nat → Prop) (name : ByteArray) (K : FuncId) (caps : Array Value) (f : Dk → Nat → Ans)
    (hK : ∀ args w, (callFunc K args).run Tryz.prog w = .ok (.enter K args) w) (hd : IsD w p d S) (hc : d.c < 4611686018427387904) (hl : d.fs.length ≤ 4611686018427387904)
    (H : ∀ w1 dn row es FA KA, Mod S w w1 → DkAt w1 p { d with c := d.c + 1, dn := dn } row es FA KA → (∀ k, S k ↔ Foot p row es FA KA k) → ∀ hi : lbF d.fs name < es.length, hitF d.fs name = true →
      Calls Tryz.prog K (#[.int .i64 (lbF d.fs name), .pointer (some ⟨es[lbF d.fs name].g, 0, none⟩)] ++ caps) w1 fun e w' =>
        e = .returned (.int .i64 (f { d with c := d.c + 1, dn := dn } (lbF d.fs name)).2) ∧ DStep w1 S p (f { d with c := d.c + 1, dn := dn } (lbF d.fs name)).1 w') :
    Calls Tryz.prog 95 #[.pointer (some ⟨p, 0, none⟩), .string name, .func (.func K) #[] caps] w fun e w' => e = .returned (.int .i64 (withD d name f).2) ∧ DStep w S p (withD d name f).1 w' := by
  have hKw : ∀ args w, (callFunc 127 args).run Tryz.prog w = .ok (.enter 127 args) w := enters_of Tryz.func127 (by kernel_rfl) rfl
  have HH := Lib.hid H
  have HK := Lib.hid hK
  clear H hK
  go_enter Tryz.func95, Tryz.ntmps95
  go_wp2_with fail
  have hm : Mod NoneB w (((w.alloc (.cells #[.pointer (some ⟨p, 0, none⟩)] 31)).alloc (.cells #[.string name] 9)).alloc (.cells #[.func (.func K) #[] caps] 166)) := (((Mod.refl NoneB _).alloc _).alloc _).alloc _
  obtain ⟨x0, x1, x2⟩ := box3 w (.cells #[.pointer (some ⟨p, 0, none⟩)] 31) (.cells #[.string name] 9) (.cells #[.func (.func K) #[] caps] 166)
  generalize (((w.alloc (.cells #[.pointer (some ⟨p, 0, none⟩)] 31)).alloc (.cells #[.string name] 9)).alloc (.cells #[.func (.func K) #[] caps] 166)) = w1 at hm x0 x1 x2 ⊢
  have hS1 : IsD w1 p d S := hd.mod0 hm
  have hn : ∀ k, w.heap.size ≤ k → ¬ S k := fun k hk h => absurd (hd.lt h) (Nat.not_lt.2 hk)
  have hmS : Mod S w w1 := hm.mono (fun _ _ h => h.elim)
  have HG : Calls Tryz.prog 90 #[.pointer (some ⟨p, 0, none⟩), .func (.func 127) #[] #[.pointer (some ⟨w.heap.size, 0, none⟩), .pointer (some ⟨w.heap.size + 1, 0, none⟩), .pointer (some ⟨w.heap.size + 1 + 1, 0, none⟩)]] w1
      fun e w' => e = .returned (.int .i64 (withD d name f).2) ∧ DStep w1 S p (withD d name f).1 w' := by
    refine gate_calls w1 p d S _ _ (fun d => hitAns d name f) hKw hS1 hc ?_
    intro w2 dn hm2 hd2
    obtain ⟨row, es, FA, KA, hda, hS⟩ := hd2
    refine withC_calls w2 p _ row FA KA es S name K caps f _ _ _ HK.out hda hS (by rw [← hda.len]; exact hl) ?_ ?_ ?_ ?_
    · rw [blk_cell (hm2.blk x0 (hn _ (by omega)))]; rfl
    · rw [blk_cell (hm2.blk x1 (hn _ (by omega)))]; rfl
    · rw [blk_cell (hm2.blk x2 (hn _ (by omega)))]; rfl
    · intro w3 hm3 hi hh
      exact HH.out w3 dn row es FA KA ((hmS.trans hm2 (fun _ _ h => h)).then0 hm3) (hda.mod hm3 (fun _ _ h => h)) hS hi hh
  refine HG.mono ?_
  rintro e w4 ⟨rfl, S', hto⟩
  go_wp2_with fail
  go_ret
  exact ⟨rfl, S', DTo.trans ⟨hS1, hmS, fun k hk => .inl hk⟩ hto⟩
end Go.Proofs.YtkklofnabmdmfaaGreatDoor

/- What keeps a disk where one of its files turns, where a file goes, where one comes. -/
namespace Go.Proofs.YtkklofnabmdmfaaGreatDoor
open Go.RowKit
set_option linter.unusedVariables false

theorem Apart2.symm {a b : Ent} (h : Apart2 a b) : Apart2 b a := ⟨fun e => h.1 e.symm, fun k hb ha => h.2 k ha hb⟩
theorem apart_get {es : List Ent} (h : es.Pairwise Apart2) {i j : Nat} (hi : i < es.length) (hj : j < es.length) (hne : i ≠ j) : Apart2 es[i] es[j] := by
  rw [List.pairwise_iff_getElem] at h
  rcases Nat.lt_or_gt_of_ne hne with h1 | h1
  · exact h i j hi hj h1
  · exact (h j i hj hi h1).symm

/-- The blocks of one file. -/
def EntB (e : Ent) (k : Nat) : Prop := k = e.g ∨ e.v.ownBlock = some k
theorem EntOk.mod {w w1 : World} {e : Ent} {T : Nat → Prop} (h : EntOk w e) (hm : Mod T w w1) (hs : ∀ k, EntB e k → ¬ T k) : EntOk w1 e :=
  ⟨hm.blk h.blk (hs _ (.inl rfl)), h.own.mod hm (fun g hg => hs g (.inr hg))⟩
theorem EntOk.apart {w : World} {a b : Ent} (ha : EntOk w a) (hb : EntOk w b) (h : Apart2 a b) {k : Nat} (hk : EntB b k) : ¬ EntB a k := by
  rintro (rfl | h1)
  · rcases hk with h2 | h2
    · exact h.1 h2
    · obtain ⟨c, hc⟩ := hb.own.tag h2
      exact tag_ne ha.blk hc (by decide) rfl
  · rcases hk with rfl | h2
    · obtain ⟨c, hc⟩ := ha.own.tag h1
      exact tag_ne hb.blk hc (by decide) rfl
    · exact h.2 k h1 h2

namespace DkAt
variable {w w1 : World} {p : Nat} {d : Dk} {row FA KA : Value} {es : List Ent}
theorem rowEnt (h : DkAt w p d row es FA KA) {e : Ent} (he : e ∈ es) {k : Nat} (hk : row.ownBlock = some k) : ¬ EntB e k := by
  obtain ⟨c, hc⟩ := h.row.tag hk
  rintro (rfl | h1)
  · exact tag_ne (h.ent e he).blk hc (by decide) rfl
  · obtain ⟨c', hc'⟩ := (h.ent e he).own.tag h1
    exact tag_ne hc' hc (by decide) rfl
theorem failEnt (h : DkAt w p d row es FA KA) {e : Ent} (he : e ∈ es) {k : Nat} (hk : FA.ownBlock = some k) : ¬ EntB e k := by
  obtain ⟨c, hc⟩ := h.fail.tag hk
  rintro (rfl | h1)
  · exact tag_ne (h.ent e he).blk hc (by decide) rfl
  · obtain ⟨c', hc'⟩ := (h.ent e he).own.tag h1
    exact tag_ne hc' hc (by decide) rfl
theorem keepEnt (h : DkAt w p d row es FA KA) {e : Ent} (he : e ∈ es) {k : Nat} (hk : KA.ownBlock = some k) : ¬ EntB e k := by
  obtain ⟨c, hc⟩ := h.keep.tag hk
  rintro (rfl | h1)
  · exact tag_ne (h.ent e he).blk hc (by decide) rfl
  · obtain ⟨c', hc'⟩ := (h.ent e he).own.tag h1
    exact tag_ne hc' hc (by decide) rfl
theorem diskEnt (h : DkAt w p d row es FA KA) {e : Ent} (he : e ∈ es) : ¬ EntB e p := by
  rintro (h1 | h1)
  · exact h.entNe he h1.symm
  · exact h.bytesNe he h1 rfl
theorem rowFail (h : DkAt w p d row es FA KA) {k : Nat} (hk : row.ownBlock = some k) : FA.ownBlock ≠ some k := by
  intro hf
  obtain ⟨c, hc⟩ := h.row.tag hk
  obtain ⟨c', hc'⟩ := h.fail.tag hf
  exact tag_ne hc hc' (by decide) rfl
theorem rowKeep (h : DkAt w p d row es FA KA) {k : Nat} (hk : row.ownBlock = some k) : KA.ownBlock ≠ some k := by
  intro hf
  obtain ⟨c, hc⟩ := h.row.tag hk
  obtain ⟨c', hc'⟩ := h.keep.tag hf
  exact tag_ne hc hc' (by decide) rfl

/-- One file turns. -/
theorem setEnt (h : DkAt w p d row es FA KA) {i : Nat} (hi : i < es.length) {e' : Ent} (hg : e'.g = es[i].g) (hok : EntOk w1 e') (hm : Mod (EntB es[i]) w w1) (hno : NewOr w es[i].v e'.v)
    (hn : e'.f.n = es[i].f.n) (hs : e'.f.s ≤ e'.f.b.length) : DkAt w1 p { d with fs := (es.set i e').map (·.f) } row (es.set i e') FA KA := by
  have hmem : es[i] ∈ es := List.getElem_mem _
  have hother : ∀ j, ∀ hj : j < es.length, j ≠ i → Apart2 e' es[j] := by
    intro j hj hne
    have ha := apart_get h.ap hi hj (fun e => hne e.symm)
    refine ⟨by rw [hg]; exact ha.1, fun k hk hk2 => ?_⟩
    rcases hno with h1 | ⟨b, h1, hb⟩
    · exact ha.2 k (by rw [← h1]; exact hk) hk2
    · rw [h1] at hk
      injection hk with hk
      subst hk
      have := (h.ent _ (List.getElem_mem hj)).own.lt hk2
      omega
  refine ⟨hm.blk h.blk (h.diskEnt hmem), ?_, rfl, ?_, ?_, h.fail.mod hm (fun g hg => h.failEnt hmem hg), h.keep.mod hm (fun g hg => h.keepEnt hmem hg), ?_, ?_⟩
  · have e1 : (es.set i e').map (·.g) = es.map (·.g) := by
      refine List.ext_getElem (by simp) fun j h1 h2 => ?_
      simp only [List.getElem_map, List.getElem_set]
      split
      · rename_i hij; subst hij; exact hg
      · rfl
    rw [e1, List.length_set]
    exact h.row.mod hm (fun g hg => h.rowEnt hmem hg)
  · intro e he
    rcases List.mem_or_eq_of_mem_set he with he | rfl
    · by_cases hei : e.g = es[i].g
      · obtain ⟨j, hj, rfl⟩ := List.getElem_of_mem he
        by_cases hji : j = i
        · subst hji
          obtain ⟨k, hk, hk2⟩ := List.getElem_of_mem ‹es[j] ∈ es.set j e'›
          rw [List.getElem_set] at hk2
          split at hk2
          · rw [← hk2]; exact hok
          · rename_i hkj
            have := (apart_get h.ap (by simpa using hk) hi (fun e => hkj e.symm)).1
            rw [hk2] at this
            exact absurd rfl this
        · exact absurd hei (apart_get h.ap hj hi hji).1
      · obtain ⟨j, hj, rfl⟩ := List.getElem_of_mem he
        have hji : i ≠ j := by rintro rfl; exact hei rfl
        exact (h.ent _ he).mod hm (fun k hk => (h.ent _ hmem).apart (h.ent _ he) (apart_get h.ap hi hj hji) hk)
    · exact hok
  · rw [List.pairwise_iff_getElem]
    intro a b ha hb hab
    simp only [List.length_set] at ha hb
    rw [List.getElem_set, List.getElem_set]
    split
    · rename_i hia
      subst hia
      rw [if_neg (by omega)]
      exact hother b hb (by omega)
    · split
      · rename_i hib
        subst hib
        exact (hother a ha (by omega)).symm
      · exact apart_get h.ap ha hb (by omega)
  · have e1 : asPs ((es.set i e').map (·.f)) = asPs d.fs := by
      rw [h.fs]
      unfold asPs
      refine List.ext_getElem (by simp) fun j h1 h2 => ?_
      simp only [List.getElem_map, List.getElem_set]
      split
      · rename_i hij; subst hij; unfold asP; rw [hn]
      · rfl
    show Rises (asPs _)
    rw [e1]
    exact h.rises
  · intro f hf
    simp only [List.mem_map] at hf
    obtain ⟨e, he, rfl⟩ := hf
    rcases List.mem_or_eq_of_mem_set he with he | rfl
    · exact h.sync _ (by rw [h.fs]; exact List.mem_map_of_mem he)
    · exact hs

/-- One file turns: the disk goes on. -/
theorem toEnt {S : Nat → Prop} (h : DkAt w p d row es FA KA) (hS : ∀ k, S k ↔ Foot p row es FA KA k) {i : Nat} (hi : i < es.length) {e' : Ent} (hg : e'.g = es[i].g) (hok : EntOk w1 e') (hm : Mod (EntB es[i]) w w1) (hno : NewOr w es[i].v e'.v)
    (hn : e'.f.n = es[i].f.n) (hs : e'.f.s ≤ e'.f.b.length) {d' : Dk} (hd' : d' = { d with fs := d.fs.set i e'.f }) : DStep w S p d' w1 := by
  have hfs : d.fs.set i e'.f = (es.set i e').map (·.f) := by rw [h.fs, List.map_set]
  refine ⟨Foot p row (es.set i e') FA KA, ⟨row, es.set i e', FA, KA, ?_, fun _ => Iff.rfl⟩, ?_, ?_⟩
  · rw [hd', hfs]
    exact h.setEnt hi hg hok hm hno hn hs
  · refine hm.mono (fun k _ hk => (hS k).2 (.inr (.inr (.inl ⟨es[i], List.getElem_mem _, ?_⟩))))
    rcases hk with rfl | hk
    · exact .inl rfl
    · exact .inr hk
  · rintro k (rfl | hk | ⟨e, he, hk⟩ | hk | hk)
    · exact .inl ((hS _).2 (.inl rfl))
    · exact .inl ((hS _).2 (.inr (.inl hk)))
    · rcases List.mem_or_eq_of_mem_set he with he | rfl
      · exact .inl ((hS _).2 (.inr (.inr (.inl ⟨e, he, hk⟩))))
      · rcases hk with rfl | hk
        · exact .inl ((hS _).2 (.inr (.inr (.inl ⟨es[i], List.getElem_mem _, .inl hg.symm⟩))))
        · rcases hno with h1 | ⟨b, h1, hb⟩
          · exact .inl ((hS _).2 (.inr (.inr (.inl ⟨es[i], List.getElem_mem _, .inr (by rw [← h1]; exact hk)⟩))))
          · rw [h1] at hk
            injection hk with hk
            subst hk
            exact .inr hb
    · exact .inl ((hS _).2 (.inr (.inr (.inr (.inl hk)))))
    · exact .inl ((hS _).2 (.inr (.inr (.inr (.inr hk)))))
end DkAt
end Go.Proofs.YtkklofnabmdmfaaGreatDoor

/- A disk's used, Append. -/
namespace Go.Proofs.YtkklofnabmdmfaaGreatDoor
open Go.RowKit
set_option linter.unusedVariables false

end Go.Proofs.YtkklofnabmdmfaaGreatDoor

/- A disk's Append. -/
namespace Go.Proofs.YtkklofnabmdmfaaGreatDoor
open Go.RowKit
set_option linter.unusedVariables false

theorem DkAt.fileAt {w : World} {p : Nat} {d : Dk} {row FA KA : Value} {es : List Ent} (h : DkAt w p d row es FA KA) {i : Nat} (hi : i < es.length) : fileAt d i = es[i].f := by
  rw [fileAt_get (by rw [h.len]; exact hi)]
  simp only [h.fs, List.getElem_map]

theorem EntOk.fileBlk {w w5 : World} {e : Ent} (h : EntOk w e) (hm : Mod (OnlyBlk e.v) w w5) : w5.heap[e.g]? = some (.cells #[.string e.f.n, e.v, .int .i64 e.f.s] 91 (0, 0)) := by
  refine hm.blk h.blk (fun hk => ?_)
  obtain ⟨c', hc'⟩ := h.own.tag hk
  exact tag_ne h.blk hc' (by decide) rfl
/-- A file gets other bytes, in its row or in a new one. -/
theorem EntOk.bytes {w w5 : World} {e : Ent} (h : EntOk w e) (hm : Mod (OnlyBlk e.v) w w5) {v5 : Value} {b' : List UInt8} (ho : Own w5 5 1 v5 b'.length (encB b')) :
    EntOk (w5.setCell ⟨e.g, 1, none⟩ v5) ⟨e.g, v5, { e.f with b := b' }⟩ ∧ Mod (EntB e) w (w5.setCell ⟨e.g, 1, none⟩ v5) := by
  have hb := h.fileBlk hm
  refine ⟨⟨(setCell_blk hb).trans rfl, ?_⟩, ?_⟩
  · refine ho.mod (Mod.setCell (S := fun k => k = e.g) (Mod.refl _ _) (p := ⟨e.g, 1, none⟩) (fun _ => rfl) _) (fun g hg hge => ?_)
    obtain ⟨c', hc'⟩ := ho.tag hg
    exact tag_ne hb hc' (by decide) hge.symm
  · exact (hm.mono (fun _ _ hk => .inr hk)).setCell (p := ⟨e.g, 1, none⟩) (fun _ => .inl rfl) _
theorem NewOr.back {w w1 : World} {v v' : Value} (h : NewOr w1 v v') (hm : w.heap.size ≤ w1.heap.size) : NewOr w v v' := by
  rcases h with h | ⟨b, h, hb⟩
  · exact .inl h
  · exact .inr ⟨b, h, Nat.le_trans hm hb⟩

end Go.Proofs.YtkklofnabmdmfaaGreatDoor

/- A disk's Append, Sync, Cut, as calls. -/
namespace Go.Proofs.YtkklofnabmdmfaaGreatDoor
open Go.RowKit
set_option linter.unusedVariables false

theorem box2 (w : World) (a b : Obj) : ((w.alloc a).alloc b).heap[w.heap.size]? = some a ∧ ((w.alloc a).alloc b).heap[w.heap.size + 1]? = some b := by
  refine ⟨?_, ?_⟩
  · exact ((Mod.refl NoneB _).alloc _).blk (heap_alloc_new w a) (fun h => h)
  · have := heap_alloc_new (w.alloc a) b
    simpa using this
theorem IsD.notS {w : World} {p : Nat} {d : Dk} {S : Nat → Prop} (h : IsD w p d S) {k : Nat} (hk : w.heap.size ≤ k) : ¬ S k := fun hs => absurd (h.lt hs) (Nat.not_lt.2 hk)

set_option maxHeartbeats 1000000 in
set_option maxRecDepth 100000 in
theorem syncC_calls (w : World) (p : Nat) (d : Dk) (row FA KA : Value) (es : List Ent) (S : Nat → Prop) (i : Nat) (hd : DkAt w p d row es FA KA) (hS : ∀ k, S k ↔ Foot p row es FA KA k) (hi : i < es.length) :
    Calls Tryz.prog 97 #[.int .i64 i, .pointer (some ⟨es[i].g, 0, none⟩)] w fun e w' => e = .returned (.int .i64 (syncF d i).2) ∧ DStep w S p (syncF d i).1 w' := by
  have hok := hd.ent es[i] (List.getElem_mem _)
  have hfe := hd.fileAt hi
  obtain ⟨e, he⟩ : ∃ e, e = es[i] := ⟨_, rfl⟩
  rw [← he] at hok hfe ⊢
  obtain ⟨V, vc, hv, _, _, _⟩ := hok.own.out
  have y1 : w.cell? ⟨e.g, 1, none⟩ = some (.slice V e.f.b.length vc) := by rw [blk_cell hok.blk, hv]; rfl
  have y2 : w.cell? ⟨e.g, 2, none⟩ = some (.int .i64 e.f.s) := by rw [blk_cell hok.blk]; rfl
  have fr2 : w.frozen? ⟨e.g, 2, none⟩ = false := blk_frozen hok.blk 2
  have hend : DStep w S p (syncF d i).1 (w.setCell ⟨e.g, 2, none⟩ (.int .i64 e.f.b.length)) := by
    have hm : Mod (EntB es[i]) w (w.setCell ⟨e.g, 2, none⟩ (.int .i64 e.f.b.length)) := Mod.setCell (Mod.refl _ _) (p := ⟨e.g, 2, none⟩) (fun _ => .inl (by rw [he])) _
    refine hd.toEnt hS hi (e' := ⟨e.g, e.v, { e.f with s := e.f.b.length }⟩) (by rw [he]) ⟨(setCell_blk hok.blk).trans rfl, ?_⟩ hm (by rw [← he]; exact .inl rfl) (by rw [← he]) (Nat.le_refl _) (by unfold syncF; rw [hfe])
    refine hok.own.mod (Mod.setCell (S := fun k => k = e.g) (Mod.refl _ _) (p := ⟨e.g, 2, none⟩) (fun _ => rfl) _) (fun g hg hge => ?_)
    obtain ⟨c', hc'⟩ := hok.own.tag hg
    exact tag_ne hok.blk hc' (by decide) hge.symm
  have HEND := Lib.hid hend
  clear hend hok hfe he hv hd hS
  go_enter Tryz.func97, Tryz.ntmps97
  go_wp2_with fail
  go_ret
  exact ⟨rfl, HEND.out⟩

set_option maxHeartbeats 1000000 in
set_option maxRecDepth 100000 in
theorem sync_calls (w : World) (p : Nat) (d : Dk) (S : Nat → Prop) (name : ByteArray) (hd : IsD w p d S) (hc : d.c < 4611686018427387904) (hl : d.fs.length ≤ 4611686018427387904) :
    Calls Tryz.prog 58 #[.pointer (some ⟨p, 0, none⟩), .string name] w fun e w' => e = .returned (.int .i64 (syncD d name).2) ∧ DStep w S p (syncD d name).1 w' := by
  have hKw : ∀ args w, (callFunc 97 args).run Tryz.prog w = .ok (.enter 97 args) w := enters_of Tryz.func97 (by kernel_rfl) rfl
  have HW : Calls Tryz.prog 95 #[.pointer (some ⟨p, 0, none⟩), .string name, .func (.func 97) #[] #[]] w fun e w' => e = .returned (.int .i64 (syncD d name).2) ∧ DStep w S p (syncD d name).1 w' := by
    refine with_calls w p d S name _ _ syncF hKw hd hc hl ?_
    intro w2 dn row es FA KA hm2 hda hS hi _
    exact syncC_calls w2 p _ row FA KA es S _ hda hS hi
  have HH := Lib.hid HW
  clear HW hKw
  go_enter Tryz.func58, Tryz.ntmps58
  go_wp2_with fail
  refine HH.out.mono ?_
  rintro e w4 ⟨rfl, hto⟩
  go_wp2_with fail
  go_ret
  exact ⟨rfl, hto⟩
end Go.Proofs.YtkklofnabmdmfaaGreatDoor

/- A disk's put. -/
namespace Go.Proofs.YtkklofnabmdmfaaGreatDoor
open Go.RowKit
set_option linter.unusedVariables false

def putE (es : List Ent) (d : Dk) (x : Ent) : List Ent := es.take (lbF d.fs x.f.n) ++ x :: es.drop (if hitF d.fs x.f.n then lbF d.fs x.f.n + 1 else lbF d.fs x.f.n)
theorem mem_putE {es : List Ent} {d : Dk} {x e : Ent} (h : e ∈ putE es d x) : e = x ∨ e ∈ es := by
  unfold putE at h
  rw [List.mem_append, List.mem_cons] at h
  rcases h with h | h | h
  · exact .inr (List.mem_of_mem_take h)
  · exact .inl h
  · exact .inr (List.mem_of_mem_drop h)
theorem putE_apart {es : List Ent} {d : Dk} {x : Ent} (h : es.Pairwise Apart2) (hx : ∀ e ∈ es, Apart2 e x) : (putE es d x).Pairwise Apart2 := by
  unfold putE
  rw [List.pairwise_append, List.pairwise_cons]
  refine ⟨h.sublist (List.take_sublist _ _), ⟨fun e he => (hx e (List.mem_of_mem_drop he)).symm, h.sublist (List.drop_sublist _ _)⟩, ?_⟩
  intro a ha b hb
  rw [List.mem_cons] at hb
  rcases hb with rfl | hb
  · exact hx a (List.mem_of_mem_take ha)
  · have hs : (es.take (lbF d.fs x.f.n) ++ es.drop (lbF d.fs x.f.n)).Pairwise Apart2 := by rw [List.take_append_drop]; exact h
    refine (List.pairwise_append.1 hs).2.2 a ha b ?_
    split at hb
    · exact List.mem_of_mem_drop (by rw [List.drop_drop]; exact hb)
    · exact hb
theorem putE_fs {es : List Ent} {d : Dk} {x : Ent} (h : d.fs = es.map (·.f)) : putF d.fs x.f = (putE es d x).map (·.f) := by
  unfold putF putE
  rw [List.map_append, List.map_cons, List.map_take, List.map_drop, ← h]
theorem putF_as (fs : List Fl) (f : Fl) : asPs (putF fs f) = putT (asPs fs) f.n ⟨#[]⟩ := by
  unfold putF putT asPs lbF hitF
  rw [List.map_append, List.map_cons, List.map_take, List.map_drop]
  rfl
theorem mem_putF {fs : List Fl} {f g : Fl} (h : g ∈ putF fs f) : g = f ∨ g ∈ fs := by
  unfold putF at h
  rw [List.mem_append, List.mem_cons] at h
  rcases h with h | h | h
  · exact .inr (List.mem_of_mem_take h)
  · exact .inl h
  · exact .inr (List.mem_of_mem_drop h)

theorem insertGn_calls (l : List Nat) (n : Nat) (hl : l.length = n) (x : Nat) (i : Nat) (v : Value) (gx : Nat) (w : World) (hown : Own w 89 1 v n (encGs l)) (hi : i ≤ n)
    (hx : w.heap[gx]? = some (.cells #[.pointer (some ⟨x, 0, none⟩)] 89 (0, 0))) (hne : ∀ g, v.ownBlock = some g → g ≠ gx) (hsz : (n + 1) * 8 ≤ 140737488355328) :
    Calls Tryz.prog 124 #[v, .int .i64 i, .slice (some ⟨gx, 0, none⟩) 1 1] w fun e w' =>
      ∃ v', e = .returned v' ∧ Own w' 89 1 v' (n + 1) (encGs (l.take i ++ x :: l.drop i)) ∧ Mod (OnlyBlk v) w w' ∧ NewOr w v v' := by
  subst hl
  exact insertG_calls l x i v gx w hown hi hx hne hsz

/-- The disk's own block gets another row. -/
theorem DkAt.rowTo {w w5 : World} {p : Nat} {d : Dk} {row row' FA KA : Value} {es es' : List Ent} {fs' : List Fl} (h : DkAt w p d row es FA KA) (hm : Mod (OnlyBlk row) w w5) (hno : NewOr w row row')
    (ho : Own w5 89 1 row' es'.length (encGs (es'.map (·.g)))) (hfs : fs' = es'.map (·.f)) (hent : ∀ e ∈ es', EntOk w e) (hout : ∀ e ∈ es', e ∈ es ∨ ¬ ∃ k, EntB e k ∧ Foot p row es FA KA k) (hap : es'.Pairwise Apart2) (hr : Rises (asPs fs')) (hsy : ∀ f ∈ fs', f.s ≤ f.b.length) :
    DkAt (w5.setCell ⟨p, 5, none⟩ row') p { d with fs := fs' } row' es' FA KA ∧ Mod (fun k => k = p ∨ row.ownBlock = some k) w (w5.setCell ⟨p, 5, none⟩ row') := by
  have hp5 : w5.heap[p]? = some (.cells (dkCells d row FA KA) 75 (0, 0)) := hm.blk h.blk (fun hk => h.rowNe hk rfl)
  have hms : Mod (fun k => k = p) w5 (w5.setCell ⟨p, 5, none⟩ row') := Mod.setCell (S := fun k => k = p) (Mod.refl _ _) (p := ⟨p, 5, none⟩) (fun _ => rfl) _
  have hmm : Mod (fun k => k = p ∨ row.ownBlock = some k) w (w5.setCell ⟨p, 5, none⟩ row') := (hm.mono (fun _ _ hk => .inr hk)).trans hms (fun _ _ hk => .inl hk)
  have hentp : ∀ e ∈ es', ∀ k, EntB e k → ¬ (k = p ∨ row.ownBlock = some k) := by
    intro e he k hk hk2
    rcases hout e he with h1 | h1
    · rcases hk2 with rfl | hk2
      · exact h.diskEnt h1 hk
      · exact h.rowEnt h1 hk2 hk
    · refine h1 ⟨k, hk, ?_⟩
      rcases hk2 with rfl | hk2
      · exact .inl rfl
      · exact .inr (.inl hk2)
  refine ⟨⟨(setCell_blk hp5).trans rfl, ho.mod hms (fun g hg hgp => ?_), hfs, fun e he => (hent e he).mod hmm (hentp e he), hap, h.fail.mod hmm (fun g hg hk => ?_), h.keep.mod hmm (fun g hg hk => ?_), hr, hsy⟩, hmm⟩
  · obtain ⟨c', hc'⟩ := ho.tag hg
    exact tag_ne hp5 hc' (by decide) hgp.symm
  · rcases hk with rfl | hk
    · exact h.failNe hg rfl
    · exact h.rowFail hk hg
  · rcases hk with rfl | hk
    · exact h.keepNe hg rfl
    · exact h.rowKeep hk hg

/-- The row is written in place. -/
theorem DkAt.rowSame {w w5 : World} {p : Nat} {d : Dk} {row FA KA : Value} {es es' : List Ent} {fs' : List Fl} (h : DkAt w p d row es FA KA) (hm : Mod (OnlyBlk row) w w5)
    (ho : Own w5 89 1 row es'.length (encGs (es'.map (·.g)))) (hfs : fs' = es'.map (·.f)) (hent : ∀ e ∈ es', EntOk w e) (hout : ∀ e ∈ es', e ∈ es ∨ ¬ ∃ k, EntB e k ∧ Foot p row es FA KA k) (hap : es'.Pairwise Apart2) (hr : Rises (asPs fs')) (hsy : ∀ f ∈ fs', f.s ≤ f.b.length) :
    DkAt w5 p { d with fs := fs' } row es' FA KA := by
  have hentp : ∀ e ∈ es', ∀ k, EntB e k → ¬ row.ownBlock = some k := by
    intro e he k hk hk2
    rcases hout e he with h1 | h1
    · exact h.rowEnt h1 hk2 hk
    · exact h1 ⟨k, hk, .inr (.inl hk2)⟩
  exact ⟨hm.blk h.blk (fun hk => h.rowNe hk rfl), ho, hfs, fun e he => (hent e he).mod hm (hentp e he), hap, h.fail.mod hm (fun g hg hk => h.rowFail hk hg), h.keep.mod hm (fun g hg hk => h.rowKeep hk hg), hr, hsy⟩

theorem encGs_set (l : List Nat) (i x : Nat) : (encGs l).set i (.pointer (some ⟨x, 0, none⟩)) = encGs (l.set i x) := by
  unfold encGs
  induction l generalizing i with
  | nil => simp
  | cons y l ih =>
    cases i with
    | zero => simp [encG]
    | succ i => simp only [List.flatMap_cons, List.set_cons_succ, encG, List.singleton_append, ih]

set_option maxHeartbeats 2000000 in
set_option maxRecDepth 100000 in
theorem dput_calls (w : World) (p : Nat) (d : Dk) (row FA KA : Value) (es : List Ent) (x : Ent) (hd : DkAt w p d row es FA KA) (hx : EntOk w x) (hxF : ∀ k, EntB x k → ¬ Foot p row es FA KA k) (hxs : x.f.s ≤ x.f.b.length) (hlen : es.length ≤ 1099511627776) :
    Calls Tryz.prog 92 #[.pointer (some ⟨p, 0, none⟩), .pointer (some ⟨x.g, 0, none⟩)] w fun e w' => e = .returned (.tuple #[]) ∧
      ∃ row', DkAt w' p { d with fs := putF d.fs x.f } row' (putE es d x) FA KA ∧ Mod (fun k => k = p ∨ row.ownBlock = some k) w w' ∧ NewOr w row row' := by
  have hn : w.cell? ⟨x.g, 0, none⟩ = some (.string x.f.n) := by rw [blk_cell hx.blk]; rfl
  have hxa : ∀ e ∈ es, Apart2 e x := by
    intro e he
    refine ⟨fun h => hxF x.g (.inl rfl) (.inr (.inr (.inl ⟨e, he, .inl h⟩))), fun k h1 h2 => hxF k (.inr h2) (.inr (.inr (.inl ⟨e, he, .inr h1⟩)))⟩
  have hlb : lbF d.fs x.f.n ≤ es.length := by rw [← hd.len]; exact lbF_le _ _
  have HLB : hitF d.fs x.f.n = true → lbF d.fs x.f.n < es.length := fun h => by rw [← hd.len]; exact hitF_lt h
  have hlb1 : (lbF d.fs x.f.n) ≤ (es.map (·.g)).length := by simpa using hlb
  have hr : Rises (asPs (putF d.fs x.f)) := by rw [putF_as]; exact rises_putT hd.rises _ _
  have hsy : ∀ f ∈ putF d.fs x.f, f.s ≤ f.b.length := by
    intro f hf
    rcases mem_putF hf with rfl | hf
    · exact hxs
    · exact hd.sync f hf
  have HHLB := Lib.hid HLB
  have HD := Lib.hid hd
  have HR := Lib.hid hr
  have HSY := Lib.hid hsy
  have HXA := Lib.hid hxa
  have HXF := Lib.hid hxF
  have HX := Lib.hid hx
  clear HLB hr hsy hxa hxF hx
  go_enter Tryz.func92, Tryz.ntmps92
  go_wp2_with fail
  refine (dfind_calls _ p d row FA KA es x.f.n hd (by omega)).mono ?_
  rintro e w1 ⟨rfl, hm1⟩
  clear hd
  have hd1 := HD.out.mod hm1 (fun _ _ h => h)
  have hx1 := HX.out.mod hm1 (fun _ _ h => h)
  have h5 : w1.cell? ⟨p, 5, none⟩ = some row := hd1.cellAt 5
  have fr5 : w1.frozen? ⟨p, 5, none⟩ = false := blk_frozen hd1.blk 5
  obtain ⟨A, c, hrow, hnc, hcm, hrr⟩ := hd1.row.out
  cases hh : hitF d.fs x.f.n with
  | true =>
    have hi := HHLB.out hh
    have hes : putE es d x = es.set (lbF d.fs x.f.n) x := by
      unfold putE
      rw [hh, if_pos rfl, List.set_eq_take_append_cons_drop, if_pos hi]
    have HES := Lib.hid hes
    obtain ⟨g, cap, cur, hrow2, _⟩ := hd1.row.form (by omega)
    rw [hrow2] at hrow
    injection hrow with hA _ hcc
    subst hA hcc hrow2
    have hs0 := hd1.row.set (lbF d.fs x.f.n) (.pointer (some ⟨x.g, 0, none⟩))
    rw [encGs_set, ← List.map_set, ← hes] at hs0
    have hl5 : (putE es d x).length = es.length := by rw [hes]; simp
    rw [← hl5] at hs0
    have hcell : w1.cell? ⟨g, lbF d.fs x.f.n, none⟩ = some (.pointer (some ⟨es[lbF d.fs x.f.n].g, 0, none⟩)) := hd1.row.cellAt _ _ (by rw [encGs_get _ _ (by simpa using hi)]; simp)
    have hfr : w1.frozen? ⟨g, lbF d.fs x.f.n, none⟩ = false := hd1.row.frozenAt _
    have hms : Mod (OnlyBlk (.slice (some ⟨g, 0, none⟩) es.length cap)) w1 (w1.setCell ⟨g, lbF d.fs x.f.n, none⟩ (.pointer (some ⟨x.g, 0, none⟩))) := Mod.setCell (S := OnlyBlk (.slice (some ⟨g, 0, none⟩) es.length cap)) (Mod.refl _ _) (p := ⟨g, lbF d.fs x.f.n, none⟩) (fun _ => rfl) _
    have hfin : DkAt (w1.setCell ⟨g, lbF d.fs x.f.n, none⟩ (.pointer (some ⟨x.g, 0, none⟩))) p { d with fs := putF d.fs x.f } (.slice (some ⟨g, 0, none⟩) es.length cap) (putE es d x) FA KA := by
      refine hd1.rowSame hms ?_ (putE_fs hd1.fs) ?_ ?_ (putE_apart hd1.ap HXA.out) HR.out HSY.out
      · rw [hl5] at hs0 ⊢; exact hs0
      · intro e he
        rcases mem_putE he with rfl | he
        · exact hx1
        · exact hd1.ent e he
      · intro e he
        rcases mem_putE he with rfl | he
        · exact .inr (fun ⟨k, h1, h2⟩ => HXF.out k h1 h2)
        · exact .inl he
    have HFIN := Lib.hid hfin
    have hmm : Mod (fun k => k = p ∨ (Value.slice (some ⟨g, 0, none⟩) es.length cap).ownBlock = some k) w (w1.setCell ⟨g, lbF d.fs x.f.n, none⟩ (.pointer (some ⟨x.g, 0, none⟩))) :=
      (hm1.mono (fun _ _ h => h.elim)).trans hms (fun k _ hk => .inr hk)
    have HMM := Lib.hid hmm
    have e1 : (0 : Int) ≤ (lbF d.fs x.f.n : Int) := by omega
    have e2 : (lbF d.fs x.f.n : Int) < (es.length : Int) := by omega
    have hz : (⟨g, 0, none⟩ : Addr).add (lbF d.fs x.f.n) = ⟨g, lbF d.fs x.f.n, none⟩ := add_zero _ _
    clear hes hs0 hl5 hms hfin hmm hd1 hh
    go_wp2_with fail
    go_end0
    exact ⟨rfl, _, HFIN.out, HMM.out, .inl rfl⟩
  | false =>
    have HHH := Lib.hid hh
    clear hh
    subst hrow
    have HD1 := Lib.hid hd1
    clear hd1
    go_wp2_with fail
    have hma : Mod NoneB w1 (w1.alloc (.cells #[.pointer (some ⟨x.g, 0, none⟩)] 89)) := (Mod.refl NoneB _).alloc _
    have hd2 := HD1.out.mod hma (fun _ _ h => h)
    have hx2 := hx1.mod hma (fun _ _ h => h)
    have hgx := heap_alloc_new w1 (.cells #[.pointer (some ⟨x.g, 0, none⟩)] 89)
    have hnx : ∀ g, (Value.slice A es.length c).ownBlock = some g → g ≠ w1.heap.size := fun g hg he => by have := HD1.out.row.lt hg; omega
    generalize w1.alloc (.cells #[.pointer (some ⟨x.g, 0, none⟩)] 89) = w2 at hma hd2 hx2 hgx ⊢
    refine (insertGn_calls (es.map (·.g)) es.length (by simp) x.g _ _ w1.heap.size w2 hd2.row hlb hgx hnx (by omega)).mono ?_
    rintro e w3 ⟨v3, rfl, ho3, hm3, hno3⟩
    have hl5 : (putE es d x).length = es.length + 1 := by
      unfold putE
      rw [HHH.out]
      simp
      omega
    have hes : (es.map (·.g)).take (lbF d.fs x.f.n) ++ x.g :: (es.map (·.g)).drop (lbF d.fs x.f.n) = (putE es d x).map (·.g) := by
      unfold putE
      rw [HHH.out]
      simp
    rw [hes, ← hl5] at ho3
    obtain ⟨A3, c3, rfl, _, _, _⟩ := ho3.out
    have hp3 : w3.heap[p]? = some (.cells (dkCells d (.slice A es.length c) FA KA) 75 (0, 0)) := hm3.blk hd2.blk (fun hk => hd2.rowNe hk rfl)
    obtain ⟨hfin, hmf⟩ := hd2.rowTo (es' := putE es d x) (fs' := putF d.fs x.f) hm3 hno3 ho3 (putE_fs hd2.fs) (fun e he => by
        rcases mem_putE he with rfl | he
        · exact hx2
        · exact hd2.ent e he) (fun e he => by
        rcases mem_putE he with rfl | he
        · exact .inr (fun ⟨k, h1, h2⟩ => HXF.out k h1 h2)
        · exact .inl he) (putE_apart hd2.ap HXA.out) HR.out HSY.out
    have HFIN := Lib.hid hfin
    have hmm := (hm1.trans hma (fun _ _ h => h)).mono (S' := fun k => k = p ∨ (Value.slice A es.length c).ownBlock = some k) (fun _ _ h => h.elim) |>.trans hmf (fun _ _ h => h)
    have HMM := Lib.hid hmm
    have hnb := (hno3.back hma.size).back hm1.size
    have HNB := Lib.hid hnb
    have y5 : w3.cell? ⟨p, 5, none⟩ = some (.slice A es.length c) := by rw [blk_cell hp3]; rfl
    have fy5 : w3.frozen? ⟨p, 5, none⟩ = false := blk_frozen hp3 5
    clear hl5 hes hfin hmf hmm hnb hp3 ho3 hno3
    go_wp2_with fail
    go_end0
    exact ⟨rfl, _, HFIN.out, HMM.out, HNB.out⟩
end Go.Proofs.YtkklofnabmdmfaaGreatDoor

/- A disk's Create. -/
namespace Go.Proofs.YtkklofnabmdmfaaGreatDoor
open Go.RowKit
set_option linter.unusedVariables false

theorem DkAt.stepTo {w w' : World} {p : Nat} {d d' : Dk} {row row' FA KA : Value} {es es' : List Ent} {S : Nat → Prop} (h : DkAt w p d row es FA KA) (hS : ∀ k, S k ↔ Foot p row es FA KA k) (hd : DkAt w' p d' row' es' FA KA)
    (hm : Mod (fun k => k = p ∨ row.ownBlock = some k) w w') (hno : NewOr w row row') (hout : ∀ e ∈ es', ∀ k, EntB e k → S k ∨ w.heap.size ≤ k) : DStep w S p d' w' := by
  refine ⟨_, ⟨row', es', FA, KA, hd, fun _ => Iff.rfl⟩, hm.mono (fun k _ hk => (hS k).2 ?_), ?_⟩
  · rcases hk with rfl | hk
    · exact .inl rfl
    · exact .inr (.inl hk)
  · rintro k (rfl | hk | ⟨e, he, hk⟩ | hk | hk)
    · exact .inl ((hS _).2 (.inl rfl))
    · rcases hno with h1 | ⟨b, h1, hb⟩
      · exact .inl ((hS _).2 (.inr (.inl (by rw [← h1]; exact hk))))
      · rw [h1] at hk
        injection hk with hk
        subst hk
        exact .inr hb
    · exact hout e he k (hk.elim (fun h => .inl h.symm) .inr)
    · exact .inl ((hS _).2 (.inr (.inr (.inr (.inl hk)))))
    · exact .inl ((hS _).2 (.inr (.inr (.inr (.inr hk)))))
theorem Foot.ent {p : Nat} {row FA KA : Value} {es : List Ent} {e : Ent} (he : e ∈ es) {k : Nat} (hk : EntB e k) : Foot p row es FA KA k := .inr (.inr (.inl ⟨e, he, hk.elim (fun h => .inl h.symm) .inr⟩))
theorem isEmpty_toList (n : ByteArray) : n.toList.isEmpty = decide (n = ⟨#[]⟩) := by
  have e : (⟨#[]⟩ : ByteArray).toList = [] := by decide +kernel
  rw [← beq_toList, e]
  cases n.toList <;> rfl

set_option maxHeartbeats 2000000 in
set_option maxRecDepth 100000 in
theorem createC_calls (w : World) (p : Nat) (d : Dk) (row FA KA : Value) (es : List Ent) (S : Nat → Prop) (name : ByteArray) (q0 q1 : Nat) (hd : DkAt w p d row es FA KA) (hS : ∀ k, S k ↔ Foot p row es FA KA k) (hl : es.length ≤ 1099511627776)
    (x0 : w.cell? ⟨q0, 0, none⟩ = some (.string name)) (x1 : w.cell? ⟨q1, 0, none⟩ = some (.pointer (some ⟨p, 0, none⟩))) :
    Calls Tryz.prog 91 #[.pointer (some ⟨q0, 0, none⟩), .pointer (some ⟨q1, 0, none⟩)] w fun e w' => e = .returned (.int .i64 (createF name d).2) ∧ DStep w S p (createF name d).1 w' := by
  have HD := Lib.hid hd
  have HS := Lib.hid hS
  clear hS
  by_cases hne : name = ⟨#[]⟩
  · have ha : createF name d = (d, 1) := by unfold createF; rw [if_pos hne]
    have HA := Lib.hid ha
    subst hne
    clear ha hd
    go_enter Tryz.func91, Tryz.ntmps91
    go_wp2_with fail
    go_ret
    rw [HA.out]
    exact ⟨rfl, S, ⟨row, es, FA, KA, HD.out, HS.out⟩, Mod.refl _ _, fun k hk => .inl hk⟩
  · have b1 : name.toList.isEmpty = false := by rw [isEmpty_toList]; exact decide_eq_false hne
    have HN := Lib.hid hne
    clear hne
    go_enter Tryz.func91, Tryz.ntmps91
    go_wp2_with fail
    refine (dfind_calls _ p d row FA KA es name hd (by omega)).mono ?_
    rintro e w1 ⟨rfl, hm1⟩
    clear hd
    have hd1 := HD.out.mod hm1 (fun _ _ h => h)
    have hmS : Mod S w w1 := hm1.mono (fun _ _ h => h.elim)
    cases hh : hitF d.fs name with
    | true =>
      have ha : createF name d = (d, 4) := by unfold createF; rw [if_neg HN.out, if_pos hh]
      have HA := Lib.hid ha
      have HD1 := Lib.hid hd1
      clear ha hh hd1
      go_wp2_with fail
      go_ret
      rw [HA.out]
      exact ⟨rfl, S, ⟨row, es, FA, KA, HD1.out, HS.out⟩, hmS, fun k hk => .inl hk⟩
    | false =>
      have ha : createF name d = ({ d with fs := putF d.fs ⟨name, [], 0⟩ }, 0) := by unfold createF; rw [if_neg HN.out, if_neg (by rw [hh]; simp)]
      have HA := Lib.hid ha
      have HD1 := Lib.hid hd1
      replace x0 := hm1.cell0 x0
      replace x1 := hm1.cell0 x1
      clear ha hh hd1
      go_wp2_with fail
      have hma : Mod NoneB w1 (w1.alloc (.cells #[.string name, .slice none 0 0, .int .i64 0] 91)) := (Mod.refl NoneB _).alloc _
      have hgx := heap_alloc_new w1 (.cells #[.string name, .slice none 0 0, .int .i64 0] 91)
      have hd2 := HD1.out.mod hma (fun _ _ h => h)
      generalize w1.alloc (.cells #[.string name, .slice none 0 0, .int .i64 0] 91) = w2 at hma hgx hd2 ⊢
      have hxk : ∀ k, EntB ⟨w1.heap.size, .slice none 0 0, ⟨name, [], 0⟩⟩ k → k = w1.heap.size := by
        rintro k (h | h)
        · exact h
        · simp [Value.ownBlock] at h
      refine (dput_calls w2 p d row FA KA es ⟨w1.heap.size, .slice none 0 0, ⟨name, [], 0⟩⟩ hd2 ⟨hgx, Own.nil _ _ _⟩ (fun k hk hf => ?_) (Nat.zero_le _) hl).mono ?_
      · have h1 := hxk k hk
        have h2 := HD1.out.lt hf
        omega
      rintro e w3 ⟨rfl, row', hd3, hm3, hno3⟩
      have hst : DStep w1 S p { d with fs := putF d.fs ⟨name, [], 0⟩ } w3 := by
        refine HD1.out.stepTo HS.out hd3 ((hma.mono (fun _ _ h => h.elim)).trans hm3 (fun _ _ h => h)) (hno3.back hma.size) (fun e he k hk => ?_)
        rcases mem_putE he with rfl | he
        · exact .inr (Nat.le_of_eq (hxk k hk).symm)
        · exact .inl ((HS.out k).2 (Foot.ent he hk))
      have HST := Lib.hid hst
      clear hst hd3 hd2 hgx hxk
      go_wp2_with fail
      go_ret
      rw [HA.out]
      obtain ⟨S', hto⟩ := HST.out
      exact ⟨rfl, S', DTo.trans ⟨⟨row, es, FA, KA, HD1.out, HS.out⟩, hmS, fun k hk => .inl hk⟩ hto⟩

set_option maxHeartbeats 1000000 in
set_option maxRecDepth 100000 in
theorem create_calls (w : World) (p : Nat) (d : Dk) (S : Nat → Prop) (name : ByteArray) (hd : IsD w p d S) (hc : d.c < 4611686018427387904) (hl : d.fs.length ≤ 1099511627776) :
    Calls Tryz.prog 54 #[.pointer (some ⟨p, 0, none⟩), .string name] w fun e w' => e = .returned (.int .i64 (createD d name).2) ∧ DStep w S p (createD d name).1 w' := by
  have hKw : ∀ args w, (callFunc 91 args).run Tryz.prog w = .ok (.enter 91 args) w := enters_of Tryz.func91 (by kernel_rfl) rfl
  go_enter Tryz.func54, Tryz.ntmps54
  go_wp2_with fail
  have hm : Mod NoneB w ((w.alloc (.cells #[.pointer (some ⟨p, 0, none⟩)] 31)).alloc (.cells #[.string name] 9)) := ((Mod.refl NoneB _).alloc _).alloc _
  obtain ⟨x0, x1⟩ := box2 w (.cells #[.pointer (some ⟨p, 0, none⟩)] 31) (.cells #[.string name] 9)
  generalize ((w.alloc (.cells #[.pointer (some ⟨p, 0, none⟩)] 31)).alloc (.cells #[.string name] 9)) = w1 at hm x0 x1 ⊢
  have hS1 : IsD w1 p d S := hd.mod0 hm
  have hmS : Mod S w w1 := hm.mono (fun _ _ h => h.elim)
  have HW : Calls Tryz.prog 90 #[.pointer (some ⟨p, 0, none⟩), .func (.func 91) #[] #[.pointer (some ⟨w.heap.size + 1, 0, none⟩), .pointer (some ⟨w.heap.size, 0, none⟩)]] w1
      fun e w' => e = .returned (.int .i64 (createD d name).2) ∧ DStep w1 S p (createD d name).1 w' := by
    refine gate_calls w1 p d S _ _ (createF name) hKw hS1 hc ?_
    intro w2 dn hm2 hd2
    obtain ⟨row, es, FA, KA, hda, hS⟩ := hd2
    exact createC_calls w2 p _ row FA KA es S name _ _ hda hS (by rw [← hda.len]; exact hl) (by rw [blk_cell (hm2.blk x1 (hd.notS (by omega)))]; rfl) (by rw [blk_cell (hm2.blk x0 (hd.notS (by omega)))]; rfl)
  refine HW.mono ?_
  rintro e w4 ⟨rfl, S', hto⟩
  go_wp2_with fail
  go_ret
  exact ⟨rfl, S', DTo.trans ⟨hS1, hmS, fun k hk => .inl hk⟩ hto⟩
end Go.Proofs.YtkklofnabmdmfaaGreatDoor

/- A disk's Remove. -/
namespace Go.Proofs.YtkklofnabmdmfaaGreatDoor
open Go.RowKit
set_option linter.unusedVariables false

theorem box1 (w : World) (a : Obj) : (w.alloc a).heap[w.heap.size]? = some a := heap_alloc_new w a

end Go.Proofs.YtkklofnabmdmfaaGreatDoor

/- A disk's Rename. -/
namespace Go.Proofs.YtkklofnabmdmfaaGreatDoor
open Go.RowKit
set_option linter.unusedVariables false

end Go.Proofs.YtkklofnabmdmfaaGreatDoor

/- A disk's Cut. -/
namespace Go.Proofs.YtkklofnabmdmfaaGreatDoor
open Go.RowKit
set_option linter.unusedVariables false

theorem Own.shrink {w : World} {T n c m : Nat} {V : Option Addr} {cs : List Value} (h : Own w T 1 (.slice V n c) n cs) (hm : m ≤ n) : Own w T 1 (.slice V m c) m (cs.take m) := by
  obtain ⟨hl, ⟨h1, hn⟩ | ⟨g, cap, cur, he, _, hh, hnc, hcm, hcs, htk⟩⟩ := h
  · injection h1 with h1 h2 h3
    subst h1 h2 h3
    obtain rfl : m = 0 := by omega
    exact Own.nil _ _ _
  · injection he with h1 h2 h3
    subst h1 h3
    refine Own.of_blk hh (by omega) (by simpa [maxLen] using hcm) hcs ?_
    rw [← htk, List.take_take, Nat.min_eq_left (by omega), Nat.mul_one]
theorem EntOk.synced {w : World} {e : Ent} (h : EntOk w e) (s : Nat) : EntOk (w.setCell ⟨e.g, 2, none⟩ (.int .i64 s)) ⟨e.g, e.v, { e.f with s := s }⟩ := by
  refine ⟨(setCell_blk h.blk).trans rfl, h.own.mod (Mod.setCell (S := fun k => k = e.g) (Mod.refl _ _) (p := ⟨e.g, 2, none⟩) (fun _ => rfl) _) (fun g hg hge => ?_)⟩
  obtain ⟨c', hc'⟩ := h.own.tag hg
  exact tag_ne h.blk hc' (by decide) hge.symm
theorem encB_take (b : List UInt8) (m : Nat) : encB (b.take m) = (encB b).take m := by simp [encB]

set_option maxHeartbeats 2000000 in
set_option maxRecDepth 100000 in
theorem cutC_calls (w : World) (p : Nat) (d : Dk) (row FA KA : Value) (es : List Ent) (S : Nat → Prop) (k : Int) (i q0 : Nat) (hd : DkAt w p d row es FA KA) (hS : ∀ k, S k ↔ Foot p row es FA KA k) (hi : i < es.length)
    (x0 : w.cell? ⟨q0, 0, none⟩ = some (.int .i64 k)) (hq0 : ¬ S q0) :
    Calls Tryz.prog 96 #[.int .i64 i, .pointer (some ⟨es[i].g, 0, none⟩), .pointer (some ⟨q0, 0, none⟩)] w fun e w' => e = .returned (.int .i64 (cutF k d i).2) ∧ DStep w S p (cutF k d i).1 w' := by
  have hok := hd.ent es[i] (List.getElem_mem _)
  have hfe := hd.fileAt hi
  have hsy : es[i].f.s ≤ es[i].f.b.length := hd.sync _ (by rw [hd.fs]; exact List.mem_map_of_mem (List.getElem_mem hi))
  have heS : S es[i].g := (hS _).2 (Foot.ent (List.getElem_mem hi) (.inl rfl))
  obtain ⟨e, he⟩ : ∃ e, e = es[i] := ⟨_, rfl⟩
  rw [← he] at hok hfe hsy heS ⊢
  obtain ⟨V, vc, hv, hnc, hcm, _⟩ := hok.own.out
  have y1 : w.cell? ⟨e.g, 1, none⟩ = some (.slice V e.f.b.length vc) := by rw [blk_cell hok.blk, hv]; rfl
  have HE := Lib.hid he
  have HD := Lib.hid hd
  have HS := Lib.hid hS
  have HOK := Lib.hid hok
  have HV := Lib.hid hv
  by_cases hneg : k < 0
  · have ha : cutF k d i = (d, 1) := by unfold cutF; rw [if_pos (.inl hneg)]
    have HA := Lib.hid ha
    have b1 : decide (k < 0) = true := by simpa using hneg
    clear ha hfe hd hS hok hv he
    go_enter Tryz.func96, Tryz.ntmps96
    go_wp2_with fail
    go_quiet (fail)
    go_wp2_with fail
    go_ret
    rw [HA.out]
    exact ⟨rfl, S, ⟨row, es, FA, KA, HD.out.mod ((Mod.refl NoneB w).drewN nq) (fun _ _ h => h), HS.out⟩, (Mod.refl S w).drewN nq, fun k hk => .inl hk⟩
  · have b1 : decide (k < 0) = false := by simpa using hneg
    by_cases hbig : (e.f.b.length : Int) < k
    · have ha : cutF k d i = (d, 1) := by unfold cutF; rw [if_pos (.inr (by rw [hfe]; exact hbig))]
      have HA := Lib.hid ha
      have b2 : decide ((e.f.b.length : Int) < k) = true := by simpa using hbig
      clear ha hfe hd hS hok hv he
      go_enter Tryz.func96, Tryz.ntmps96
      go_wp2_with fail
      go_quiet (fail)
      go_wp2_with fail
      go_ret
      rw [HA.out]
      exact ⟨rfl, S, ⟨row, es, FA, KA, HD.out.mod ((Mod.refl NoneB w).drewN nq) (fun _ _ h => h), HS.out⟩, (Mod.refl S w).drewN nq, fun k hk => .inl hk⟩
    · obtain ⟨m, rfl⟩ : ∃ m : Nat, k = m := ⟨k.toNat, by omega⟩
      have hm : m ≤ e.f.b.length := by omega
      have ha : cutF m d i = ({ d with fs := d.fs.set i { e.f with b := e.f.b.take m, s := min e.f.s m } }, 0) := by
        unfold cutF
        rw [if_neg (by rw [hfe]; omega), hfe]
        rfl
      have HA := Lib.hid ha
      have b2 : decide ((e.f.b.length : Int) < m) = false := by simpa using hbig
      clear ha hfe hd hS hok hv he hneg hbig
      go_enter Tryz.func96, Tryz.ntmps96
      go_wp2_with fail
      go_quiet (fail)
      have hmq : Mod NoneB w (w.drewN nq) := (Mod.refl NoneB w).drewN nq
      have hokq := HOK.out.mod hmq (fun _ _ h => h)
      have x0q := hmq.cell0 x0
      have y1q := hmq.cell0 y1
      generalize w.drewN nq = w1 at hmq hokq x0q y1q ⊢
      have fr1 : w1.frozen? ⟨e.g, 1, none⟩ = false := blk_frozen hokq.blk 1
      have HOKQ := Lib.hid hokq
      clear x0 y1 hokq
      have e1 : (0 : Int) ≤ m := by omega
      have e2 : (m : Int) ≤ e.f.b.length := by omega
      have e3 : m ≤ vc := by omega
      have e4 : (m : Int) ≤ vc := by omega
      go_wp2_with fail
      go_region_law (fail)
      all_goals
        have hlen : (e.f.b.take m).length = m := by rw [List.length_take]; omega
        have hown : Own w1 5 1 (.slice V m vc) (e.f.b.take m).length (encB (e.f.b.take m)) := by
          rw [hlen, encB_take]
          have h := HOKQ.out.own
          rw [HV.out] at h
          exact h.shrink hm
        obtain ⟨hok2, hm2⟩ := HOKQ.out.bytes (Mod.refl _ w1) hown
        have hdr : Mod NoneB (w1.setCell ⟨e.g, 1, none⟩ (.slice V m vc)) (w1.setCell ⟨e.g, 1, none⟩ (.slice V m vc)).drew := (Mod.refl _ _).drew
        have hok3 := hok2.mod hdr (fun _ _ h => h)
        have hm3 := hm2.then0 hdr
        have x0r : (w1.setCell ⟨e.g, 1, none⟩ (.slice V m vc)).drew.cell? ⟨q0, 0, none⟩ = some (.int .i64 m) := by
          refine hm3.cell x0q (fun h => hq0 ?_)
          exact (HS.out _).2 (Foot.ent (List.getElem_mem hi) (by rw [← HE.out]; exact h))
        generalize (w1.setCell ⟨e.g, 1, none⟩ (.slice V m vc)).drew = w2 at hok3 hm3 x0r ⊢
        have y2r : w2.cell? ⟨e.g, 2, none⟩ = some (.int .i64 e.f.s) := by rw [blk_cell hok3.blk]; rfl
        have fr2r : w2.frozen? ⟨e.g, 2, none⟩ = false := blk_frozen hok3.blk 2
        have HOK3 := Lib.hid hok3
        have HM3 := Lib.hid hm3
        have HLEN := Lib.hid hlen
        clear hok2 hm2 hdr hok3 hm3 hown x0q y1q fr1 e3 e4 hlen
        go_wp2_with fail
        go_region_law (fail)
        all_goals
          rw [show min (e.f.s : Int) (m : Int) = ((min e.f.s m : Nat) : Int) by omega]
          have hok4 := (HOK3.out.synced (min e.f.s m)).mod ((Mod.refl NoneB _).drew) (fun _ _ h => h)
          have hm4 : Mod (EntB e) w (w2.setCell ⟨e.g, 2, none⟩ (.int .i64 ((min e.f.s m : Nat) : Int))).drew :=
            (((hmq.mono (fun _ _ h => h.elim)).trans HM3.out (fun _ _ h => h)).setCell (p := ⟨e.g, 2, none⟩) (fun _ => .inl rfl) _).drew
          have hst : DStep w S p { d with fs := d.fs.set i { e.f with b := e.f.b.take m, s := min e.f.s m } } (w2.setCell ⟨e.g, 2, none⟩ (.int .i64 ((min e.f.s m : Nat) : Int))).drew := by
            refine HD.out.toEnt HS.out hi (e' := ⟨e.g, .slice V m vc, { e.f with b := e.f.b.take m, s := min e.f.s m }⟩) (by rw [HE.out]) hok4 (by rw [← HE.out]; exact hm4) ?_ (by rw [← HE.out]) ?_ rfl
            · rw [← HE.out, HV.out]
              exact .inl (ownBlock_slice _ _ _ _ _)
            · show min e.f.s m ≤ (e.f.b.take m).length
              rw [HLEN.out]
              omega
          have HST := Lib.hid hst
          clear hst hok4 hm4
          go_wp2_with fail
          go_ret
          rw [HA.out]
          exact ⟨rfl, HST.out⟩

set_option maxHeartbeats 1000000 in
set_option maxRecDepth 100000 in
theorem cut_calls (w : World) (p : Nat) (d : Dk) (S : Nat → Prop) (n : ByteArray) (k : Int) (hd : IsD w p d S) (hc : d.c < 4611686018427387904) (hl : d.fs.length ≤ 4611686018427387904) :
    Calls Tryz.prog 57 #[.pointer (some ⟨p, 0, none⟩), .string n, .int .i64 k] w fun e w' => e = .returned (.int .i64 (cutD d n k).2) ∧ DStep w S p (cutD d n k).1 w' := by
  have hKw : ∀ args w, (callFunc 96 args).run Tryz.prog w = .ok (.enter 96 args) w := enters_of Tryz.func96 (by kernel_rfl) rfl
  go_enter Tryz.func57, Tryz.ntmps57
  go_wp2_with fail
  have hm : Mod NoneB w (w.alloc (.cells #[.int .i64 k] 3)) := (Mod.refl NoneB _).alloc _
  have x0 := box1 w (.cells #[.int .i64 k] 3)
  generalize (w.alloc (.cells #[.int .i64 k] 3)) = w1 at hm x0 ⊢
  have hS1 : IsD w1 p d S := hd.mod0 hm
  have hmS : Mod S w w1 := hm.mono (fun _ _ h => h.elim)
  have HW : Calls Tryz.prog 95 #[.pointer (some ⟨p, 0, none⟩), .string n, .func (.func 96) #[] #[.pointer (some ⟨w.heap.size, 0, none⟩)]] w1
      fun e w' => e = .returned (.int .i64 (cutD d n k).2) ∧ DStep w1 S p (cutD d n k).1 w' := by
    refine with_calls w1 p d S n _ _ (cutF k) hKw hS1 hc hl ?_
    intro w2 dn row es FA KA hm2 hda hS hi _
    exact cutC_calls w2 p _ row FA KA es S k _ _ hda hS hi (by rw [blk_cell (hm2.blk x0 (hd.notS (by omega)))]; rfl) (hd.notS (by omega))
  refine HW.mono ?_
  rintro e w4 ⟨rfl, S', hto⟩
  go_wp2_with fail
  go_ret
  exact ⟨rfl, S', DTo.trans ⟨hS1, hmS, fun k hk => .inl hk⟩ hto⟩
end Go.Proofs.YtkklofnabmdmfaaGreatDoor
