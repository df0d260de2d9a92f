/- A disk in blocks of the law's own: each of its calls in one line. -/
import Derived.Test.YtnlmfmceogbomaaGreatDoorDkOneLQq
import Derived.Test.YtnlmfmceogbomaaGreatDoorOpenSQq
import Derived.Test.YtnlmfmceogbomaaGreatDoorBatCuQq
namespace Go.Proofs.YtnlmfmceogbomaaGreatDoor
open Go.RowKit
set_option linter.unusedVariables false

/-- In the world w a disk d lies behind p, in blocks that are newer than the world w0; all that was in w0 is as it was. -/
def Dw (w0 w : World) (p : Nat) (d : Dk) : Prop := ∃ S, IsD w p d S ∧ Mod NoneB w0 w ∧ ∀ k, S k → w0.heap.size ≤ k
structure Fits (d : Dk) : Prop where
  c : d.c < 4611686018427387904
  l : d.fs.length ≤ 1099511627776
  u : usedF d.fs ≤ 70368744177664

theorem Dw.new (w0 w : World) (hm : Mod NoneB w0 w) (pl : Pl) (F K : Option Addr) (fc kc : Nat) (hF : Rd w 1 F pl.fail.length (encI pl.fail)) (hK : Rd w 1 K pl.keep.length (encI pl.keep)) (hf : pl.fail.length ≤ 1099511627776) (hk : pl.keep.length ≤ 1099511627776) :
    Calls Tryz.prog 13 #[.agg #[.int .i64 pl.cap, .slice F pl.fail.length fc, .int .i64 pl.crash, .bool pl.done, .slice K pl.keep.length kc]] w fun e w' =>
      ∃ p, e = .returned (.pointer (some ⟨p, 0, none⟩)) ∧ Dw w0 w' p ⟨pl, [], 0, false⟩ := by
  refine (new_calls w pl F K fc kc hF hK hf hk).mono ?_
  rintro e w1 ⟨p, S, rfl, h1, h2, h3⟩
  exact ⟨p, rfl, S, h1, hm.then0 h2, fun k hk => Nat.le_trans hm.size (h3 k hk)⟩
theorem Dw.new0 (w0 w : World) (hm : Mod NoneB w0 w) (cap : Int) :
    Calls Tryz.prog 13 #[.agg #[.int .i64 cap, .slice none 0 0, .int .i64 0, .bool false, .slice none 0 0]] w fun e w' => ∃ p, e = .returned (.pointer (some ⟨p, 0, none⟩)) ∧ Dw w0 w' p (freeD cap [] [] 0) :=
  Dw.new w0 w hm ⟨cap, [], 0, false, []⟩ none none 0 0 (Rd.nil _ _ _) (Rd.nil _ _ _) (Nat.zero_le _) (Nat.zero_le _)
end Go.Proofs.YtnlmfmceogbomaaGreatDoor

/- A disk's Files. -/
namespace Go.Proofs.YtnlmfmceogbomaaGreatDoor
open Go.RowKit
set_option linter.unusedVariables false

def encFl (x : Fl × Value) : List Value := [.string x.1.n, x.2, .int .i64 x.1.s]
def encFs (l : List (Fl × Value)) : List Value := l.flatMap encFl
theorem encFl_one (f : Fl) (A : Option Addr) (n c : Nat) : ∀ u ∈ encFl (f, .slice A n c), u.oneCell' = true := by
  intro u hu
  simp [encFl] at hu
  rcases hu with rfl | rfl | rfl <;> rfl
theorem tiFile : TI Tryz.prog 110 (.agg #[.string ⟨#[]⟩, .slice none 0 0, .int .i64 0]) 3 48 := by unfold TI; kernel_rfl
theorem encFs_get (l : List (Fl × Value)) (i : Nat) (h : i < l.length) : (encFs l)[i * 3]? = some (.string l[i].1.n) ∧ (encFs l)[i * 3 + 1]? = some l[i].2 ∧ (encFs l)[i * 3 + 2]? = some (.int .i64 l[i].1.s) := by
  induction l generalizing i with
  | nil => simp at h
  | cons x l ih =>
    unfold encFs at *
    rw [List.flatMap_cons]
    cases i with
    | zero => exact ⟨rfl, rfl, rfl⟩
    | succ i =>
      have := ih i (by simpa using h)
      have e : (i + 1) * 3 = i * 3 + (encFl x).length := by show (i + 1) * 3 = i * 3 + 3; omega
      simp only [List.getElem_cons_succ]
      rw [e]
      refine ⟨?_, ?_, ?_⟩
      · rw [List.getElem?_append_right (by omega), Nat.add_sub_cancel]; exact this.1
      · rw [List.getElem?_append_right (by omega), show i * 3 + (encFl x).length + 1 - (encFl x).length = i * 3 + 1 from by omega]; exact this.2.1
      · rw [List.getElem?_append_right (by omega), show i * 3 + (encFl x).length + 2 - (encFl x).length = i * 3 + 2 from by omega]; exact this.2.2

/-- Files as they are told: a row of them, the bytes of each in a block of their own; all in blocks from N on. -/
structure FilesAt (w : World) (v : Value) (N : Nat) (fs : List Fl) (vs : List Value) : Prop where
  own : Own w 110 3 v fs.length (encFs (fs.zip vs))
  len : vs.length = fs.length
  byt : ∀ i (h : i < fs.length) (h' : i < vs.length), Own w 5 1 vs[i] fs[i].b.length (encB fs[i].b)
  one : ∀ u ∈ vs, u.oneCell' = true
  new : ∀ g, v.ownBlock = some g → N ≤ g
  newB : ∀ u ∈ vs, ∀ g, u.ownBlock = some g → N ≤ g
theorem FilesAt.mod0 {w w1 : World} {v : Value} {N : Nat} {fs : List Fl} {vs : List Value} (h : FilesAt w v N fs vs) (hm : Mod NoneB w w1) : FilesAt w1 v N fs vs :=
  ⟨h.own.mod0 hm, h.len, fun i h1 h2 => (h.byt i h1 h2).mod0 hm, h.one, h.new, h.newB⟩
theorem FilesAt.nil (w : World) (N : Nat) : FilesAt w (.slice none 0 0) N [] [] := ⟨Own.nil _ _ _, rfl, (fun i h => by cases h), (fun u h => by cases h), (fun g h => by cases h), (fun u h => by cases h)⟩
/-- One more file behind. -/
theorem FilesAt.snoc {w w1 : World} {v v1 u : Value} {N : Nat} {fs : List Fl} {vs : List Value} {f : Fl} (h : FilesAt w v N fs vs) (hm : Mod (OnlyBlk v) w w1) (hno : NewOr w v v1) (hN : N ≤ w.heap.size)
    (ho : Own w1 110 3 v1 (fs.length + 1) (encFs (fs.zip vs) ++ encFl (f, u))) (hu : Own w 5 1 u f.b.length (encB f.b)) (h1 : u.oneCell' = true) (hn : ∀ g, u.ownBlock = some g → N ≤ g) : FilesAt w1 v1 N (fs ++ [f]) (vs ++ [u]) where
  own := by
    have e : (fs ++ [f]).zip (vs ++ [u]) = fs.zip vs ++ [(f, u)] := by rw [List.zip_append h.len.symm]; rfl
    rw [List.length_append, e]
    unfold encFs at ho ⊢
    rw [List.flatMap_append]
    simpa using ho
  len := by simp [h.len]
  byt := by
    have ht : ∀ (x : Value) (n : Nat) (cs : List Value), Own w 5 1 x n cs → Own w1 5 1 x n cs := by
      intro x n cs hx
      refine hx.mod hm (fun g hg hk => ?_)
      obtain ⟨c1, hc1⟩ := hx.tag hg
      obtain ⟨c2, hc2⟩ := h.own.tag hk
      exact tag_ne hc1 hc2 (by decide) rfl
    intro i h2 h3
    have hl := h.len
    by_cases hi : i < fs.length
    · rw [List.getElem_append_left (by omega), List.getElem_append_left (by omega)]
      exact ht _ _ _ (h.byt i hi (by omega))
    · obtain rfl : i = fs.length := by simp at h2; omega
      have e1 : (vs ++ [u])[fs.length] = u := by simp [← hl]
      have e2 : (fs ++ [f])[fs.length] = f := by simp
      rw [e1, e2]
      exact ht _ _ _ hu
  one := fun x hx => by
    rcases List.mem_append.1 hx with hx | hx
    · exact h.one x hx
    · rw [List.mem_singleton] at hx; subst hx; exact h1
  new := fun g hg => by
    rcases hno with hq | ⟨b, hq, hb⟩
    · exact h.new g (by rw [← hq]; exact hg)
    · rw [hq] at hg
      injection hg with hg
      omega
  newB := fun x hx g hg => by
    rcases List.mem_append.1 hx with hx | hx
    · exact h.newB x hx g hg
    · rw [List.mem_singleton] at hx; subst hx; exact hn g hg

set_option maxHeartbeats 4000000 in
set_option maxRecDepth 100000 in
theorem files_calls (w : World) (p : Nat) (d : Dk) (S : Nat → Prop) (hd : IsD w p d S) (hl : d.fs.length ≤ 1099511627776) (hu : usedF d.fs ≤ 70368744177664) :
    Calls Tryz.prog 61 #[.pointer (some ⟨p, 0, none⟩)] w fun e w' => ∃ v vs, e = .returned v ∧ FilesAt w' v w.heap.size d.fs vs ∧ Mod NoneB w w' := by
  obtain ⟨row, es, FA, KA, hda, hS⟩ := hd
  have hlen := hda.len
  obtain ⟨A, c, hrow, _, _, hrr⟩ := hda.row.out
  subst hrow
  have h5 : w.cell? ⟨p, 5, none⟩ = some (.slice A es.length c) := hda.cellAt 5
  have HD := Lib.hid hda
  have HLEN := Lib.hid hlen
  have hle : es.length ≤ 1099511627776 := by omega
  clear hda hS hlen
  go_enter Tryz.func61, Tryz.ntmps61
  go_wp2_with fail
  go_loopw [3, 5, 13] (fun o f t wr => ∃ (j : Nat) (vs : List Value), t = .int .i64 j ∧ j ≤ es.length ∧ FilesAt wr o w.heap.size (d.fs.take j) vs ∧ Mod NoneB w wr) (fun _ _ t _ => es.length - (intOf t).toNat)
  case atStart => exact ⟨0, [], rfl, by omega, FilesAt.nil _ _, Mod.refl _ _⟩
  case round =>
    obtain ⟨j, vs, rfl, hj, hfa, hmj⟩ := hrel
    have HFA := Lib.hid hfa
    clear hfa
    by_cases hlt : j < es.length
    · have hltF : j < d.fs.length := by rw [HLEN.out]; exact hlt
      have hdj := HD.out.mod hmj (fun _ _ h => h)
      have hok := hdj.ent es[j] (List.getElem_mem _)
      have hfe : es[j].f = d.fs[j] := by rw [← HD.out.fileAt hlt]; exact fileAt_get hltF
      have hlm : (es.map (·.g)).length = es.length := by simp
      obtain ⟨ad, rfl, hp⟩ := hrr.ptr j (by rw [hlm]; exact hlt)
      simp only [List.getElem_map] at hp
      replace hp := hmj.cell0 hp
      have hbl : d.fs[j].b.length ≤ usedF d.fs := usedF_get _ _ _
      have htk : d.fs.take (j + 1) = d.fs.take j ++ [d.fs[j]] := List.take_succ_eq_append_getElem hltF
      have htl : (d.fs.take j).length = j := by rw [List.length_take]; omega
      obtain ⟨f, hf⟩ : ∃ f, f = d.fs[j] := ⟨_, rfl⟩
      obtain ⟨e, he⟩ : ∃ e, e = es[j] := ⟨_, rfl⟩
      rw [← hf] at hfe hbl htk
      rw [← he] at hok hfe hp
      obtain ⟨V, vc, hv, _, _, hrv⟩ := hok.own.out
      have y0 : wr.cell? ⟨e.g, 0, none⟩ = some (.string e.f.n) := by rw [blk_cell hok.blk]; rfl
      have y1 : wr.cell? ⟨e.g, 1, none⟩ = some (.slice V e.f.b.length vc) := by rw [blk_cell hok.blk, hv]; rfl
      have y2 : wr.cell? ⟨e.g, 2, none⟩ = some (.int .i64 e.f.s) := by rw [blk_cell hok.blk]; rfl
      rw [hfe] at y0 y1 y2 hrv
      have HTK := Lib.hid htk
      have HTL := Lib.hid htl
      have hcl : ∀ w2, Mod NoneB wr w2 → Calls Tryz.prog 51 #[.slice V f.b.length vc] w2 fun e w' => ∃ v', e = .returned v' ∧ Own w' 5 1 v' f.b.length (encB f.b) ∧ Mod NoneB w2 w' ∧ (∀ g, v'.ownBlock = some g → w2.heap.size ≤ g) :=
        fun w2 hm => cloneB_calls f.b V vc w2 (hrv.mod0 hm) (by omega)
      have HCL := Lib.hid hcl
      clear hdj hok hfe hlm hf he hv htk htl hcl hrv hrr
      have hown := HFA.out.own
      rw [HTL.out] at hown
      obtain ⟨Ao, co, ho3, _, _, _⟩ := hown.out
      subst ho3
      have h48 : (j + 1) * 48 ≤ 140737488355328 := by omega
      have huF := Tryz.underlying102
      have hN : w.heap.size ≤ wr.heap.size := hmj.size
      go_wp2_with fail
      go_region_law (first
        | (go_simp; go_at_call 51; refine (HCL.out _ ((Mod.refl NoneB wr).drew)).mono ?_; rintro ea wa ⟨va, rfl, hoa, hma, hna⟩; obtain ⟨Va, ca, rfl, _, _, _⟩ := hoa.out; have ya0 := hma.cell0 (w := wr.drew) y0; have ya2 := hma.cell0 (w := wr.drew) y2; have hox := ((hown.mod0 ((Mod.refl NoneB wr).drew)).mod0 hma).mod0 ((Mod.refl NoneB wa).alloc (.cells #[.string f.n, .slice Va f.b.length ca, .int .i64 f.s] 110)); have hbx := box1 wa (.cells #[.string f.n, .slice Va f.b.length ca, .int .i64 f.s] 110); have hnx : 0 < 1 → ∃ a, (some ⟨wa.heap.size, 0, none⟩ : Option Addr) = some a ∧ ∀ (j : Nat) u, (encFl (f, .slice Va f.b.length ca))[j]? = some u → (wa.alloc (.cells #[.string f.n, .slice Va f.b.length ca, .int .i64 f.s] 110)).cell? (a.add j) = some u := (rd_blk (sz := 3) (n := 1) hbx rfl (by decide)).2.2)
        | (refine step_append rfl (.tmp 17) (.tmp 32) 102 rfl 110 _ 3 48 huF tiFile rfl (by decide) (by decide) _ j (encFs ((d.fs.take j).zip vs)) (by simp [Act.eval]) hox (some ⟨wa.heap.size, 0, none⟩) 1 1 (encFl (f, .slice Va f.b.length ca)) (by simp [Act.eval]) rfl hnx (encFl_one _ _ _ _) h48 ?_; intro v5 w5 ho5 hm5 hno5; obtain ⟨V5, c5, rfl, _, _, _⟩ := ho5.out))
      all_goals
        have hfa5 : FilesAt w5 (.slice V5 (j + 1) c5) w.heap.size (d.fs.take j ++ [f]) (vs ++ [.slice Va f.b.length ca]) := by
          have hal := (Mod.refl NoneB wa).alloc (.cells #[.string f.n, .slice Va f.b.length ca, .int .i64 f.s] 110)
          refine FilesAt.snoc (w := wa.alloc (.cells #[.string f.n, .slice Va f.b.length ca, .int .i64 f.s] 110)) (((HFA.out.mod0 ((Mod.refl NoneB wr).drew)).mod0 hma).mod0 hal) hm5 hno5 (Nat.le_trans hN (Nat.le_trans hma.size hal.size)) (by rw [HTL.out]; exact ho5) (hoa.mod0 hal) rfl (fun g hg => Nat.le_trans hN (hna g hg))
        rw [← HTK.out] at hfa5
        have hm6 : Mod NoneB w w5 := by
          have hal : Mod NoneB w (wa.alloc (.cells #[.string f.n, .slice Va f.b.length ca, .int .i64 f.s] 110)) := ((hmj.drew).then0 hma).alloc _
          refine hal.trans_new hm5 (fun k hk => .inr ?_)
          exact HFA.out.new k hk
        have HF5 := Lib.hid hfa5
        clear hfa5 ho5 hox hbx hnx
        go_wp2_with fail
        go_roundw
        case rel => exact ⟨j + 1, _, by go_num, by omega, HF5.out, hm6⟩
        case measure => simp [intOf]; omega
    · have hje : j = es.length := by omega
      subst hje
      go_wp2_with fail
      go_ret
      refine ⟨_, vs, rfl, ?_, hmj⟩
      have := HFA.out
      rwa [List.take_of_length_le (by rw [HLEN.out]; omega)] at this
end Go.Proofs.YtnlmfmceogbomaaGreatDoor

/- A disk beside blocks that are kept: each of its calls in one line. -/
namespace Go.Proofs.YtnlmfmceogbomaaGreatDoor
open Go.RowKit
set_option linter.unusedVariables false

/-- In the world w a disk d lies behind p; from w0 on the blocks F were kept, and the disk has none of them. -/
def Dx (F : Nat → Prop) (w0 w : World) (p : Nat) (d : Dk) : Prop := ∃ S, IsD w p d S ∧ Mod (fun k => ¬ F k) w0 w ∧ (∀ k, S k → ¬ F k) ∧ ∀ k, F k → k < w0.heap.size
theorem Dx.kept {F : Nat → Prop} {w0 w : World} {p : Nat} {d : Dk} (h : Dx F w0 w p d) : Mod (fun k => ¬ F k) w0 w := by obtain ⟨_, _, h, _⟩ := h; exact h
theorem Dx.lt0 {F : Nat → Prop} {w0 w : World} {p : Nat} {d : Dk} (h : Dx F w0 w p d) : ∀ k, F k → k < w0.heap.size := by obtain ⟨_, _, _, _, h⟩ := h; exact h
theorem Dx.lt {F : Nat → Prop} {w0 w : World} {p : Nat} {d : Dk} (h : Dx F w0 w p d) : ∀ k, F k → k < w.heap.size := fun k hk => Nat.lt_of_lt_of_le (h.lt0 k hk) h.kept.size
theorem Dx.mod0 {F : Nat → Prop} {w0 w w1 : World} {p : Nat} {d : Dk} (h : Dx F w0 w p d) (hm : Mod NoneB w w1) : Dx F w0 w1 p d := by
  obtain ⟨S, h1, h2, h3, h4⟩ := h
  exact ⟨S, h1.mod0 hm, h2.then0 hm, h3, h4⟩
theorem Dx.of {F : Nat → Prop} {w0 w w' : World} {S : Nat → Prop} {p : Nat} {d d' : Dk} (h1 : IsD w p d S) (hm : Mod (fun k => ¬ F k) w0 w) (hS : ∀ k, S k → ¬ F k) (hF : ∀ k, F k → k < w0.heap.size) (h : DStep w S p d' w') : Dx F w0 w' p d' := by
  obtain ⟨S', hto⟩ := h
  refine ⟨S', hto.isD, hm.trans hto.mod (fun k _ hk => hS k hk), fun k hk hf => (hto.new k hk).elim (fun h => hS k h hf) (fun h => ?_), hF⟩
  have := hF k hf
  have := hm.size
  omega
/-- More blocks that are kept from here on: they are the disk's no more than those that were. -/
theorem Dx.keep {F G : Nat → Prop} {w0 w1 w : World} {p : Nat} {d : Dk} (h : Dx F w0 w1 p d) (hm : Mod NoneB w1 w) (hG : ∀ k, G k → (F k ∨ w1.heap.size ≤ k) ∧ k < w.heap.size) : Dx G w w p d := by
  obtain ⟨S, h1, h2, h3, h4⟩ := h
  refine ⟨S, h1.mod0 hm, Mod.refl _ _, fun k hk hg => ?_, fun k hk => (hG k hk).2⟩
  rcases (hG k hg).1 with h | h
  · exact h3 k hk h
  · exact h1.notS h hk
/-- Fewer, from further back. -/
theorem Dx.drop {F G : Nat → Prop} {w0 w1 w : World} {p : Nat} {d : Dk} (h : Dx G w1 w p d) (hm : Mod (fun k => ¬ F k) w0 w1) (hF : ∀ k, F k → G k ∧ k < w0.heap.size) : Dx F w0 w p d := by
  obtain ⟨S, h1, h2, h3, h4⟩ := h
  exact ⟨S, h1, hm.trans h2 (fun k _ hk hf => hk (hF k hf).1), fun k hk hf => h3 k hk (hF k hf).1, fun k hk => (hF k hk).2⟩
theorem Dx.blk {F : Nat → Prop} {w0 w : World} {p : Nat} {d : Dk} (h : Dx F w0 w p d) {g : Nat} {o : Obj} (hb : w0.heap[g]? = some o) (hF : F g) : w.heap[g]? = some o := h.kept.blk hb (fun hn => hn hF)
theorem Dx.rd {F : Nat → Prop} {w0 w : World} {p : Nat} {d : Dk} (h : Dx F w0 w p d) {size n : Nat} {A : Option Addr} {cs : List Value} (hr : Rd w0 size A n cs) (hF : 0 < n → ∀ ad, A = some ad → F ad.block) : Rd w size A n cs :=
  hr.modP h.kept (fun hp ad hA hn => hn (hF hp ad hA))

theorem Dx.create {Kp : Nat → Prop} {w0 w : World} {p : Nat} {d : Dk} (h : Dx Kp w0 w p d) (n : ByteArray) (hf : Fits d) :
    Calls Tryz.prog 66 #[.pointer (some ⟨p, 0, none⟩), .string n] w fun e w' => e = .returned (.int .i64 (createD d n).2) ∧ Dx Kp w0 w' p (createD d n).1 := by
  obtain ⟨S, h1, h2, h3, h4⟩ := h
  refine (create_calls w p d S n h1 hf.c hf.l).mono ?_
  rintro e w1 ⟨rfl, hs⟩
  exact ⟨rfl, Dx.of h1 h2 h3 h4 hs⟩
theorem Dx.sync {Kp : Nat → Prop} {w0 w : World} {p : Nat} {d : Dk} (h : Dx Kp w0 w p d) (n : ByteArray) (hf : Fits d) :
    Calls Tryz.prog 70 #[.pointer (some ⟨p, 0, none⟩), .string n] w fun e w' => e = .returned (.int .i64 (syncD d n).2) ∧ Dx Kp w0 w' p (syncD d n).1 := by
  obtain ⟨S, h1, h2, h3, h4⟩ := h
  refine (sync_calls w p d S n h1 hf.c (Nat.le_trans hf.l (by decide))).mono ?_
  rintro e w1 ⟨rfl, hs⟩
  exact ⟨rfl, Dx.of h1 h2 h3 h4 hs⟩
theorem Dx.remove {Kp : Nat → Prop} {w0 w : World} {p : Nat} {d : Dk} (h : Dx Kp w0 w p d) (n : ByteArray) (hf : Fits d) :
    Calls Tryz.prog 129 #[.pointer (some ⟨p, 0, none⟩), .string n] w fun e w' => e = .returned (.int .i64 (removeD d n).2) ∧ Dx Kp w0 w' p (removeD d n).1 := by
  obtain ⟨S, h1, h2, h3, h4⟩ := h
  refine (remove_calls w p d S n h1 hf.c hf.l).mono ?_
  rintro e w1 ⟨rfl, hs⟩
  exact ⟨rfl, Dx.of h1 h2 h3 h4 hs⟩
theorem Dx.rename {Kp : Nat → Prop} {w0 w : World} {p : Nat} {d : Dk} (h : Dx Kp w0 w p d) (n nt : ByteArray) (hf : Fits d) :
    Calls Tryz.prog 130 #[.pointer (some ⟨p, 0, none⟩), .string n, .string nt] w fun e w' => e = .returned (.int .i64 (renameD d n nt).2) ∧ Dx Kp w0 w' p (renameD d n nt).1 := by
  obtain ⟨S, h1, h2, h3, h4⟩ := h
  refine (rename_calls w p d S n nt h1 hf.c hf.l).mono ?_
  rintro e w1 ⟨rfl, hs⟩
  exact ⟨rfl, Dx.of h1 h2 h3 h4 hs⟩
/-- Bytes that lie in blocks older than the disk, or newer than it is now. -/
theorem Dx.append {Kp : Nat → Prop} {w0 w1 w : World} {p : Nat} {d : Dk} (h : Dx Kp w0 w1 p d) (hm : Mod NoneB w1 w) (n : ByteArray) (b : List UInt8) (B : Option Addr) (bc : Nat) (hb : Rd w 1 B b.length (encB b))
    (hB : 0 < b.length → ∀ ad, B = some ad → Kp ad.block ∨ w1.heap.size ≤ ad.block) (hf : Fits d) (hu : usedF d.fs + b.length ≤ 70368744177664) :
    Calls Tryz.prog 26 #[.pointer (some ⟨p, 0, none⟩), .string n, .slice B b.length bc] w fun e w' => e = .returned (.int .i64 (appendD d n b).2) ∧ Dx Kp w0 w' p (appendD d n b).1 := by
  obtain ⟨S, h1, h2, h3, h4⟩ := h
  refine (append_calls w p d S n b B bc (h1.mod0 hm) hb (fun hp ad hA hs => ?_) hf.c (Nat.le_trans hf.l (by decide)) hu).mono ?_
  · rcases hB hp ad hA with hq | hq
    · exact h3 _ hs hq
    · exact h1.notS hq hs
  · rintro e w1 ⟨rfl, hs⟩
    exact ⟨rfl, Dx.of (h1.mod0 hm) (h2.then0 hm) h3 h4 hs⟩
theorem Dx.read {Kp : Nat → Prop} {w0 w : World} {p : Nat} {d : Dk} (h : Dx Kp w0 w p d) (n : ByteArray) (hf : Fits d) :
    Calls Tryz.prog 25 #[.pointer (some ⟨p, 0, none⟩), .string n] w fun e w' =>
      ∃ v, e = .returned (.tuple #[v, .int .i64 (readD d n).2]) ∧ Own w' 5 1 v (readD d n).1.length (encB (readD d n).1) ∧ Dx Kp w0 w' p d ∧ Mod NoneB w w' ∧ (∀ g, v.ownBlock = some g → w.heap.size ≤ g) := by
  obtain ⟨S, h1, h2, h3, h4⟩ := h
  refine (read_calls w p d S n h1 (Nat.le_trans hf.l (by decide)) hf.u).mono ?_
  rintro e w1 ⟨v, rfl, g4, h5, h6⟩
  exact ⟨v, rfl, g4, ⟨S, h1.mod0 h5, h2.then0 h5, h3, h4⟩, h5, h6⟩
theorem Dx.calls {Kp : Nat → Prop} {w0 w : World} {p : Nat} {d : Dk} (h : Dx Kp w0 w p d) : Calls Tryz.prog 62 #[.pointer (some ⟨p, 0, none⟩)] w fun e w' => e = .returned (.int .i64 d.c) ∧ w' = w := by
  obtain ⟨S, h1, _, _, _⟩ := h
  exact callsD_calls w p d S h1
theorem Dx.down {Kp : Nat → Prop} {w0 w : World} {p : Nat} {d : Dk} (h : Dx Kp w0 w p d) : Calls Tryz.prog 63 #[.pointer (some ⟨p, 0, none⟩)] w fun e w' => e = .returned (.bool d.dn) ∧ w' = w := by
  obtain ⟨S, h1, _, _, _⟩ := h
  exact downD_calls w p d S h1
theorem Dx.files {Kp : Nat → Prop} {w0 w : World} {p : Nat} {d : Dk} (h : Dx Kp w0 w p d) (hf : Fits d) :
    Calls Tryz.prog 61 #[.pointer (some ⟨p, 0, none⟩)] w fun e w' => ∃ v vs, e = .returned v ∧ FilesAt w' v w.heap.size d.fs vs ∧ Dx Kp w0 w' p d ∧ Mod NoneB w w' := by
  obtain ⟨S, h1, h2, h3, h4⟩ := h
  refine (files_calls w p d S h1 hf.l hf.u).mono ?_
  rintro e w1 ⟨v, vs, rfl, g4, h5⟩
  exact ⟨v, vs, rfl, g4, ⟨S, h1.mod0 h5, h2.then0 h5, h3, h4⟩, h5⟩
end Go.Proofs.YtnlmfmceogbomaaGreatDoor
