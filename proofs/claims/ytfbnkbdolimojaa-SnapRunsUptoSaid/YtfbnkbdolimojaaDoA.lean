/- What an act makes of a disk, in plain words, and how far it grows. -/
import Derived.Test.YtfbnkbdolimojaaSnapP
import Derived.Test.YtfbnkbdolimojaaOpenA
import Derived.Test.YtfbnkbdolimojaaTwo
import Derived.Test.YtfbnkbdolimojaaDkNil
import Derived.Deep.RegionHeld3
import Derived.Test.YtfbnkbdolimojaaConv
import Derived.Test.YtfbnkbdolimojaaDkHeavy
namespace Go.Proofs.Ytfbnkbdolimojaa
set_option linter.unusedVariables false

theorem cut_grow (d : Dk) (n : ByteArray) (k : Int) : Grow 0 d (cutD d n k).1 := by
  refine with_grow d n _ fun c dn i hi => ?_
  unfold cutF
  split
  · exact ⟨rfl, by simp, by simp⟩
  · refine ⟨rfl, by simp, ?_⟩
    have hg : fileAt { d with c := c, dn := dn } i = d.fs[i] := fileAt_get (d := { d with c := c, dn := dn }) hi
    rw [hg]
    have h := usedF_set d.fs i hi { d.fs[i] with b := d.fs[i].b.take k.toNat, s := min d.fs[i].s k.toNat }
    simp only [List.length_take] at h
    simp only
    omega
theorem restF_le (keep : List Int) (i : Nat) (f : Fl) : (restF keep i f).b.length ≤ f.b.length := by
  unfold restF
  simp only
  split
  · simp only [List.length_take]; omega
  · exact Nat.le_refl _
theorem usedF_mapIdx (g : Nat → Fl → Fl) (h : ∀ i f, (g i f).b.length ≤ f.b.length) (l : List Fl) : usedF (l.mapIdx g) ≤ usedF l := by
  induction l generalizing g with
  | nil => simp [usedF]
  | cons f l ih =>
    rw [List.mapIdx_cons, usedF_cons, usedF_cons]
    have h1 := ih (fun i => g (i + 1)) (fun i f => h (i + 1) f)
    have h2 := h 0 f
    omega
theorem restart_used (d : Dk) (p : Pl) : usedF (restartD d p).fs ≤ usedF d.fs := usedF_mapIdx _ (restF_le d.p.keep) _

/-- What an act makes of a disk. -/
def doD (d : Dk) (a : ActV) : Dk :=
  if a.act = 0 then (createD d a.name).1
  else if a.act = 1 ∨ a.act = 2 then (appendD d a.name a.b).1
  else if a.act = 3 then (syncD d a.name).1
  else if a.act = 4 then (cutD d a.name a.n).1
  else if a.act = 5 then (renameD d a.name a.nto).1
  else if a.act = 6 then (removeD d a.name).1
  else if a.act = 7 then restartD d a.p.p
  else d
theorem restart_grow (k : Nat) (d : Dk) (p : Pl) : Grow k d (restartD d p) := ⟨by simp [restartD], by simp [restartD], by have := restart_used d p; omega⟩
theorem Grow.mono {k k' : Nat} {d d' : Dk} (h : Grow k d d') (hk : k ≤ k') : Grow k' d d' := ⟨h.c, h.l, Nat.le_trans h.u (by omega)⟩
theorem doD_grow (d : Dk) (a : ActV) : Grow a.b.length d (doD d a) := by
  unfold doD
  split
  · exact (create_grow d _).mono (Nat.zero_le _)
  · split
    · exact append_grow d _ _
    · split
      · exact (sync_grow d _).mono (Nat.zero_le _)
      · split
        · exact (cut_grow d _ _).mono (Nat.zero_le _)
        · split
          · exact (rename_grow d _ _).mono (Nat.zero_le _)
          · split
            · exact (remove_grow d _).mono (Nat.zero_le _)
            · split
              · exact restart_grow _ d _
              · exact ⟨by omega, by omega, by omega⟩
theorem gate_cap {d : Dk} {op : Dk → Ans} (h : ∀ c dn, (op { d with c := c, dn := dn }).1.p = d.p) : (gateD d op).1.p = d.p := by
  obtain ⟨p, fs, c, dn⟩ := d
  unfold gateD
  simp only at h ⊢
  split
  · rfl
  · split
    · split
      · exact h (c + 1) true
      · rfl
    · split
      · rfl
      · exact h (c + 1) dn
theorem with_cap {d : Dk} (n : ByteArray) (f : Dk → Nat → Ans) (h : ∀ (e : Dk) i, e.p = d.p → (f e i).1.p = d.p) : (withD d n f).1.p = d.p := by
  refine gate_cap fun c dn => ?_
  unfold hitAns
  split
  · exact h _ _ rfl
  · rfl
theorem doD_cap (d : Dk) (a : ActV) : (doD d a).p = d.p ∨ (doD d a).p = a.p.p := by
  unfold doD
  split
  · refine .inl (gate_cap fun c dn => ?_)
    unfold createF
    split
    · rfl
    · split <;> rfl
  · split
    · refine .inl (with_cap _ _ fun e i he => ?_)
      unfold appendF; split <;> exact he
    · split
      · exact .inl (with_cap _ _ fun e i he => he)
      · split
        · refine .inl (with_cap _ _ fun e i he => ?_)
          unfold cutF; split <;> exact he
        · split
          · refine .inl (with_cap _ _ fun e i he => ?_)
            unfold renameF
            split
            · exact he
            · split <;> exact he
          · split
            · exact .inl (with_cap _ _ fun e i he => he)
            · split
              · exact .inr rfl
              · exact .inl rfl
def lensB (l : List ActV) : Nat := (l.map fun a => a.b.length).sum
theorem lensB_take (l : List ActV) (i : Nat) (h : i < l.length) : lensB (l.take (i + 1)) = lensB (l.take i) + l[i].b.length := by
  unfold lensB; rw [List.take_succ_eq_append_getElem h, List.map_append, List.sum_append]; simp
theorem lensB_take_le (l : List ActV) (i : Nat) : lensB (l.take i) ≤ lensB l := by
  unfold lensB
  conv => rhs; rw [← List.take_append_drop i l]
  rw [List.map_append, List.sum_append]; omega
theorem lensB_get (l : List ActV) (i : Nat) (h : i < l.length) : l[i].b.length ≤ lensB l := by
  have h1 := lensB_take l i h
  have h2 := lensB_take_le l (i + 1)
  omega
end Go.Proofs.Ytfbnkbdolimojaa

/- Law 1's Do: an act on both disks, by program (gen/do.py). -/
namespace Go.Proofs.Ytfbnkbdolimojaa
open Go.RowKit
set_option linter.unusedVariables false

/-- An act's cells, its kind in front. -/
def actCs (k : Int) (a : ActV) : Array Value := #[.int .i64 k, .string a.name, .string a.nto, .slice a.B a.b.length a.bc, .int .i64 a.n, .int .i64 a.p.p.cap, .slice a.p.F a.p.p.fail.length a.p.fc, .int .i64 a.p.p.crash, .bool a.p.p.done, .slice a.p.K a.p.p.keep.length a.p.kc]
def OnB (G : Nat → Prop) (B : Nat) : Nat → Prop := fun k => G k ∨ k = B
theorem TwoTo.home {G : Nat → Prop} {w0 w w1 w2 : World} {p q B : Nat} {d r : Dk} (hm : Mod NoneB w w1) (h : TwoTo (OnB G B) w0 w1 w2 p q d r) : TwoTo G w0 w w2 p q d r :=
  ⟨h.two.drop (fun k hk => .inl hk), (hm.mono (fun _ _ h => h.elim)).trans h.mod (fun k _ hk => ⟨hk.1, fun hg => hk.2 (.inl hg)⟩)⟩
theorem TwoTo.go {G : Nat → Prop} {w0 w w1 w2 : World} {p q : Nat} {d r d' r' : Dk} (h : TwoTo G w0 w w1 p q d r) (k : TwoTo G w0 w1 w2 p q d' r') : TwoTo G w0 w w2 p q d' r' :=
  ⟨k.two, h.mod.trans k.mod (fun _ _ h => h)⟩
theorem TwoTo.then0 {G : Nat → Prop} {w0 w w1 w2 : World} {p q : Nat} {d r : Dk} (h : TwoTo G w0 w w1 p q d r) (hm : Mod NoneB w1 w2) : TwoTo G w0 w w2 p q d r := ⟨h.two.mod0 hm, h.mod.then0 hm⟩
theorem Two.boxed {G : Nat → Prop} {w0 w : World} {p q : Nat} {d r : Dk} (h : Two G w0 w p q d r) (o : Obj) : Two (OnB G w.heap.size) w0 (w.alloc o) p q d r :=
  h.keep ((Mod.refl _ _).alloc o) (fun k hk => ⟨hk.imp id (fun e => by rw [e]; exact Nat.le_refl _), hk.elim (fun h1 => by
    obtain ⟨R, h2, _⟩ := h
    have := h2.lt0 k (.inr (.inl h1))
    simp; omega) (fun e => by rw [e]; simp)⟩)
/-- The same call is told alike of both, and leaves them alike. -/
def DoneE (G : Nat → Prop) (w0 w : World) (p q : Nat) (d' : Dk) (e : Ending) (w' : World) : Prop := e = .returned (.bool true) ∧ TwoTo G w0 w w' p q d' d'

set_option maxHeartbeats 4000000 in
set_option maxRecDepth 100000 in
theorem do0_calls (G : Nat → Prop) (w0 w : World) (p q : Nat) (d : Dk) (a : ActV) (h : Two G w0 w p q d d) (hf : FitsR d) :
    Calls Try.prog 15 #[.pointer (some ⟨p, 0, none⟩), .pointer (some ⟨q, 0, none⟩), .agg (actCs 0 a)] w (DoneE G w0 w p q (createD d a.name).1) := by
  unfold actCs
  go_enter Try.func15, Try.ntmps15
  go_wp2_with fail
  obtain ⟨o1, ho1⟩ : ∃ o, o = Obj.cells (actCs 0 a) 35 := ⟨_, rfl⟩
  have hm1 : Mod NoneB w (w.alloc o1) := (Mod.refl NoneB _).alloc _
  have h1 := h.boxed o1
  have z1 := box1 w o1
  unfold actCs at ho1
  rw [← ho1]
  obtain ⟨B, hB⟩ : ∃ B, B = w.heap.size := ⟨_, rfl⟩
  rw [← hB] at z1 h1 ⊢
  generalize w.alloc o1 = w1 at hm1 z1 h1 ⊢
  rw [ho1] at z1
  have y1 : w1.cell? ⟨B, 1, none⟩ = some (.string a.name) := by rw [blk_cell z1]; rfl
  have h1d := h1.mod0 ((Mod.refl NoneB w1).drew)
  clear z1 ho1 hB h1
  go_region_held3 (fun w' => w'.cell? ⟨B, 1, none⟩ = some (.string a.name)) (first | go_keep | exact v1 | exact x1)
    (first
      | (go_at_call 49; (with_reducible refine (h1d.create a.name hf).mono ?_); rintro ez w2 ⟨rfl, h2⟩; have x1 := h2.mod.cell (w := w1.drew) y1 (fun hh => hh.2 (.inr rfl)))
      | (go_at_call 33; (with_reducible refine (num_calls _ _).mono ?_); rintro ez wy ⟨rfl, hwy⟩; subst hwy)
      | (go_at_call 54; (with_reducible refine (h2.two.rcreate a.name hf).mono ?_); rintro ez w3 ⟨rfl, h3⟩; have v1 := h3.mod.cell x1 (fun hh => hh.2 (.inr rfl))))
  all_goals
    have h4 : TwoTo G w0 w w3 p q (createD d a.name).1 (createD d a.name).1 := TwoTo.home (hm1.then0 ((Mod.refl NoneB w1).drew)) (h2.go h3)
    have H4 := Lib.hid h4
    clear h4 h3 h2 h1d hm1
    go_wp2_with fail
    go_ret
    exact ⟨by first | rfl | simp, H4.out⟩

set_option maxHeartbeats 4000000 in
set_option maxRecDepth 100000 in
theorem do1_calls (G : Nat → Prop) (w0 w : World) (p q : Nat) (d : Dk) (a : ActV) (h : Two G w0 w p q d d) (hf : FitsR d) (hb : Rd w0 1 a.B a.b.length (encB a.b)) (hu : usedF d.fs + a.b.length ≤ 70368744177664) (hc : d.p.cap ≤ 9223372036854775807) :
    Calls Try.prog 15 #[.pointer (some ⟨p, 0, none⟩), .pointer (some ⟨q, 0, none⟩), .agg (actCs 1 a)] w (DoneE G w0 w p q (appendD d a.name a.b).1) := by
  unfold actCs
  go_enter Try.func15, Try.ntmps15
  go_wp2_with fail
  obtain ⟨o1, ho1⟩ : ∃ o, o = Obj.cells (actCs 1 a) 35 := ⟨_, rfl⟩
  have hm1 : Mod NoneB w (w.alloc o1) := (Mod.refl NoneB _).alloc _
  have h1 := h.boxed o1
  have z1 := box1 w o1
  unfold actCs at ho1
  rw [← ho1]
  obtain ⟨B, hB⟩ : ∃ B, B = w.heap.size := ⟨_, rfl⟩
  rw [← hB] at z1 h1 ⊢
  generalize w.alloc o1 = w1 at hm1 z1 h1 ⊢
  rw [ho1] at z1
  have y1 : w1.cell? ⟨B, 1, none⟩ = some (.string a.name) := by rw [blk_cell z1]; rfl
  have y3 : w1.cell? ⟨B, 3, none⟩ = some (.slice a.B a.b.length a.bc) := by rw [blk_cell z1]; rfl
  have h1d := h1.mod0 ((Mod.refl NoneB w1).drew)
  clear z1 ho1 hB h1
  go_region_held3 (fun w' => w'.cell? ⟨B, 1, none⟩ = some (.string a.name) ∧ w'.cell? ⟨B, 3, none⟩ = some (.slice a.B a.b.length a.bc)) (first | go_keep | exact ⟨v1, v3⟩ | exact ⟨x1, x3⟩)
    (first
      | (go_at_call 50; (with_reducible refine (h1d.append a.name a.b a.B a.bc hb hf hu).mono ?_); rintro ez w2 ⟨rfl, h2⟩; have x1 := h2.mod.cell (w := w1.drew) y1 (fun hh => hh.2 (.inr rfl)); have x3 := h2.mod.cell (w := w1.drew) y3 (fun hh => hh.2 (.inr rfl)))
      | (go_at_call 33; (with_reducible refine (num_calls _ _).mono ?_); rintro ez wy ⟨rfl, hwy⟩; subst hwy)
      | (go_at_call 55; (with_reducible refine (h2.two.rappend a.name a.b a.B a.bc hb hf hu hc).mono ?_); rintro ez w3 ⟨rfl, h3⟩; have v1 := h3.mod.cell x1 (fun hh => hh.2 (.inr rfl)); have v3 := h3.mod.cell x3 (fun hh => hh.2 (.inr rfl))))
  all_goals
    have h4 : TwoTo G w0 w w3 p q (appendD d a.name a.b).1 (appendD d a.name a.b).1 := TwoTo.home (hm1.then0 ((Mod.refl NoneB w1).drew)) (h2.go h3)
    have H4 := Lib.hid h4
    clear h4 h3 h2 h1d hm1
    go_wp2_with fail
    go_ret
    exact ⟨by first | rfl | simp, H4.out⟩

set_option maxHeartbeats 4000000 in
set_option maxRecDepth 100000 in
theorem do2_calls (G : Nat → Prop) (w0 w : World) (p q : Nat) (d : Dk) (a : ActV) (h : Two G w0 w p q d d) (hf : FitsR d) (hb : Rd w0 1 a.B a.b.length (encB a.b)) (hu : usedF d.fs + a.b.length ≤ 70368744177664) (hc : d.p.cap ≤ 9223372036854775807) :
    Calls Try.prog 15 #[.pointer (some ⟨p, 0, none⟩), .pointer (some ⟨q, 0, none⟩), .agg (actCs 2 a)] w (DoneE G w0 w p q (appendD d a.name a.b).1) := by
  unfold actCs
  go_enter Try.func15, Try.ntmps15
  go_wp2_with fail
  obtain ⟨o1, ho1⟩ : ∃ o, o = Obj.cells (actCs 2 a) 35 := ⟨_, rfl⟩
  have hm1 : Mod NoneB w (w.alloc o1) := (Mod.refl NoneB _).alloc _
  have h1 := h.boxed o1
  have z1 := box1 w o1
  unfold actCs at ho1
  rw [← ho1]
  obtain ⟨B, hB⟩ : ∃ B, B = w.heap.size := ⟨_, rfl⟩
  rw [← hB] at z1 h1 ⊢
  generalize w.alloc o1 = w1 at hm1 z1 h1 ⊢
  rw [ho1] at z1
  have y1 : w1.cell? ⟨B, 1, none⟩ = some (.string a.name) := by rw [blk_cell z1]; rfl
  have y3 : w1.cell? ⟨B, 3, none⟩ = some (.slice a.B a.b.length a.bc) := by rw [blk_cell z1]; rfl
  have h1d := h1.mod0 ((Mod.refl NoneB w1).drew)
  clear z1 ho1 hB h1
  go_region_held3 (fun w' => w'.cell? ⟨B, 1, none⟩ = some (.string a.name) ∧ w'.cell? ⟨B, 3, none⟩ = some (.slice a.B a.b.length a.bc)) (first | go_keep | exact ⟨v1, v3⟩ | exact ⟨x1, x3⟩)
    (first
      | (go_at_call 50; (with_reducible refine (h1d.append a.name a.b a.B a.bc hb hf hu).mono ?_); rintro ez w2 ⟨rfl, h2⟩; have x1 := h2.mod.cell (w := w1.drew) y1 (fun hh => hh.2 (.inr rfl)); have x3 := h2.mod.cell (w := w1.drew) y3 (fun hh => hh.2 (.inr rfl)))
      | (go_at_call 33; (with_reducible refine (num_calls _ _).mono ?_); rintro ez wy ⟨rfl, hwy⟩; subst hwy)
      | (go_at_call 55; (with_reducible refine (h2.two.rappend a.name a.b a.B a.bc hb hf hu hc).mono ?_); rintro ez w3 ⟨rfl, h3⟩; have v1 := h3.mod.cell x1 (fun hh => hh.2 (.inr rfl)); have v3 := h3.mod.cell x3 (fun hh => hh.2 (.inr rfl))))
  all_goals
    have h4 : TwoTo G w0 w w3 p q (appendD d a.name a.b).1 (appendD d a.name a.b).1 := TwoTo.home (hm1.then0 ((Mod.refl NoneB w1).drew)) (h2.go h3)
    have H4 := Lib.hid h4
    clear h4 h3 h2 h1d hm1
    go_wp2_with fail
    go_ret
    exact ⟨by first | rfl | simp, H4.out⟩

set_option maxHeartbeats 4000000 in
set_option maxRecDepth 100000 in
theorem do3_calls (G : Nat → Prop) (w0 w : World) (p q : Nat) (d : Dk) (a : ActV) (h : Two G w0 w p q d d) (hf : FitsR d) :
    Calls Try.prog 15 #[.pointer (some ⟨p, 0, none⟩), .pointer (some ⟨q, 0, none⟩), .agg (actCs 3 a)] w (DoneE G w0 w p q (syncD d a.name).1) := by
  unfold actCs
  go_enter Try.func15, Try.ntmps15
  go_wp2_with fail
  obtain ⟨o1, ho1⟩ : ∃ o, o = Obj.cells (actCs 3 a) 35 := ⟨_, rfl⟩
  have hm1 : Mod NoneB w (w.alloc o1) := (Mod.refl NoneB _).alloc _
  have h1 := h.boxed o1
  have z1 := box1 w o1
  unfold actCs at ho1
  rw [← ho1]
  obtain ⟨B, hB⟩ : ∃ B, B = w.heap.size := ⟨_, rfl⟩
  rw [← hB] at z1 h1 ⊢
  generalize w.alloc o1 = w1 at hm1 z1 h1 ⊢
  rw [ho1] at z1
  have y1 : w1.cell? ⟨B, 1, none⟩ = some (.string a.name) := by rw [blk_cell z1]; rfl
  have h1d := h1.mod0 ((Mod.refl NoneB w1).drew)
  clear z1 ho1 hB h1
  go_region_held3 (fun w' => w'.cell? ⟨B, 1, none⟩ = some (.string a.name)) (first | go_keep | exact v1 | exact x1)
    (first
      | (go_at_call 51; (with_reducible refine (h1d.sync a.name hf).mono ?_); rintro ez w2 ⟨rfl, h2⟩; have x1 := h2.mod.cell (w := w1.drew) y1 (fun hh => hh.2 (.inr rfl)))
      | (go_at_call 33; (with_reducible refine (num_calls _ _).mono ?_); rintro ez wy ⟨rfl, hwy⟩; subst hwy)
      | (go_at_call 56; (with_reducible refine (h2.two.rsync a.name hf).mono ?_); rintro ez w3 ⟨rfl, h3⟩; have v1 := h3.mod.cell x1 (fun hh => hh.2 (.inr rfl))))
  all_goals
    have h4 : TwoTo G w0 w w3 p q (syncD d a.name).1 (syncD d a.name).1 := TwoTo.home (hm1.then0 ((Mod.refl NoneB w1).drew)) (h2.go h3)
    have H4 := Lib.hid h4
    clear h4 h3 h2 h1d hm1
    go_wp2_with fail
    go_ret
    exact ⟨by first | rfl | simp, H4.out⟩

set_option maxHeartbeats 4000000 in
set_option maxRecDepth 100000 in
theorem do4_calls (G : Nat → Prop) (w0 w : World) (p q : Nat) (d : Dk) (a : ActV) (h : Two G w0 w p q d d) (hf : FitsR d) :
    Calls Try.prog 15 #[.pointer (some ⟨p, 0, none⟩), .pointer (some ⟨q, 0, none⟩), .agg (actCs 4 a)] w (DoneE G w0 w p q (cutD d a.name a.n).1) := by
  unfold actCs
  go_enter Try.func15, Try.ntmps15
  go_wp2_with fail
  obtain ⟨o1, ho1⟩ : ∃ o, o = Obj.cells (actCs 4 a) 35 := ⟨_, rfl⟩
  have hm1 : Mod NoneB w (w.alloc o1) := (Mod.refl NoneB _).alloc _
  have h1 := h.boxed o1
  have z1 := box1 w o1
  unfold actCs at ho1
  rw [← ho1]
  obtain ⟨B, hB⟩ : ∃ B, B = w.heap.size := ⟨_, rfl⟩
  rw [← hB] at z1 h1 ⊢
  generalize w.alloc o1 = w1 at hm1 z1 h1 ⊢
  rw [ho1] at z1
  have y1 : w1.cell? ⟨B, 1, none⟩ = some (.string a.name) := by rw [blk_cell z1]; rfl
  have y4 : w1.cell? ⟨B, 4, none⟩ = some (.int .i64 a.n) := by rw [blk_cell z1]; rfl
  have h1d := h1.mod0 ((Mod.refl NoneB w1).drew)
  clear z1 ho1 hB h1
  go_region_held3 (fun w' => w'.cell? ⟨B, 1, none⟩ = some (.string a.name) ∧ w'.cell? ⟨B, 4, none⟩ = some (.int .i64 a.n)) (first | go_keep | exact ⟨v1, v4⟩ | exact ⟨x1, x4⟩)
    (first
      | (go_at_call 57; (with_reducible refine (h1d.cut a.name a.n hf).mono ?_); rintro ez w2 ⟨rfl, h2⟩; have x1 := h2.mod.cell (w := w1.drew) y1 (fun hh => hh.2 (.inr rfl)); have x4 := h2.mod.cell (w := w1.drew) y4 (fun hh => hh.2 (.inr rfl)))
      | (go_at_call 33; (with_reducible refine (num_calls _ _).mono ?_); rintro ez wy ⟨rfl, hwy⟩; subst hwy)
      | (go_at_call 58; (with_reducible refine (h2.two.rcut a.name a.n hf).mono ?_); rintro ez w3 ⟨rfl, h3⟩; have v1 := h3.mod.cell x1 (fun hh => hh.2 (.inr rfl)); have v4 := h3.mod.cell x4 (fun hh => hh.2 (.inr rfl))))
  all_goals
    have h4 : TwoTo G w0 w w3 p q (cutD d a.name a.n).1 (cutD d a.name a.n).1 := TwoTo.home (hm1.then0 ((Mod.refl NoneB w1).drew)) (h2.go h3)
    have H4 := Lib.hid h4
    clear h4 h3 h2 h1d hm1
    go_wp2_with fail
    go_ret
    exact ⟨by first | rfl | simp, H4.out⟩

set_option maxHeartbeats 4000000 in
set_option maxRecDepth 100000 in
theorem do5_calls (G : Nat → Prop) (w0 w : World) (p q : Nat) (d : Dk) (a : ActV) (h : Two G w0 w p q d d) (hf : FitsR d) :
    Calls Try.prog 15 #[.pointer (some ⟨p, 0, none⟩), .pointer (some ⟨q, 0, none⟩), .agg (actCs 5 a)] w (DoneE G w0 w p q (renameD d a.name a.nto).1) := by
  unfold actCs
  go_enter Try.func15, Try.ntmps15
  go_wp2_with fail
  obtain ⟨o1, ho1⟩ : ∃ o, o = Obj.cells (actCs 5 a) 35 := ⟨_, rfl⟩
  have hm1 : Mod NoneB w (w.alloc o1) := (Mod.refl NoneB _).alloc _
  have h1 := h.boxed o1
  have z1 := box1 w o1
  unfold actCs at ho1
  rw [← ho1]
  obtain ⟨B, hB⟩ : ∃ B, B = w.heap.size := ⟨_, rfl⟩
  rw [← hB] at z1 h1 ⊢
  generalize w.alloc o1 = w1 at hm1 z1 h1 ⊢
  rw [ho1] at z1
  have y1 : w1.cell? ⟨B, 1, none⟩ = some (.string a.name) := by rw [blk_cell z1]; rfl
  have y2 : w1.cell? ⟨B, 2, none⟩ = some (.string a.nto) := by rw [blk_cell z1]; rfl
  have h1d := h1.mod0 ((Mod.refl NoneB w1).drew)
  clear z1 ho1 hB h1
  go_region_held3 (fun w' => w'.cell? ⟨B, 1, none⟩ = some (.string a.name) ∧ w'.cell? ⟨B, 2, none⟩ = some (.string a.nto)) (first | go_keep | exact ⟨v1, v2⟩ | exact ⟨x1, x2⟩)
    (first
      | (go_at_call 59; (with_reducible refine (h1d.rename a.name a.nto hf).mono ?_); rintro ez w2 ⟨rfl, h2⟩; have x1 := h2.mod.cell (w := w1.drew) y1 (fun hh => hh.2 (.inr rfl)); have x2 := h2.mod.cell (w := w1.drew) y2 (fun hh => hh.2 (.inr rfl)))
      | (go_at_call 33; (with_reducible refine (num_calls _ _).mono ?_); rintro ez wy ⟨rfl, hwy⟩; subst hwy)
      | (go_at_call 60; (with_reducible refine (h2.two.rrename a.name a.nto hf).mono ?_); rintro ez w3 ⟨rfl, h3⟩; have v1 := h3.mod.cell x1 (fun hh => hh.2 (.inr rfl)); have v2 := h3.mod.cell x2 (fun hh => hh.2 (.inr rfl))))
  all_goals
    have h4 : TwoTo G w0 w w3 p q (renameD d a.name a.nto).1 (renameD d a.name a.nto).1 := TwoTo.home (hm1.then0 ((Mod.refl NoneB w1).drew)) (h2.go h3)
    have H4 := Lib.hid h4
    clear h4 h3 h2 h1d hm1
    go_wp2_with fail
    go_ret
    exact ⟨by first | rfl | simp, H4.out⟩

set_option maxHeartbeats 4000000 in
set_option maxRecDepth 100000 in
theorem do6_calls (G : Nat → Prop) (w0 w : World) (p q : Nat) (d : Dk) (a : ActV) (h : Two G w0 w p q d d) (hf : FitsR d) :
    Calls Try.prog 15 #[.pointer (some ⟨p, 0, none⟩), .pointer (some ⟨q, 0, none⟩), .agg (actCs 6 a)] w (DoneE G w0 w p q (removeD d a.name).1) := by
  unfold actCs
  go_enter Try.func15, Try.ntmps15
  go_wp2_with fail
  obtain ⟨o1, ho1⟩ : ∃ o, o = Obj.cells (actCs 6 a) 35 := ⟨_, rfl⟩
  have hm1 : Mod NoneB w (w.alloc o1) := (Mod.refl NoneB _).alloc _
  have h1 := h.boxed o1
  have z1 := box1 w o1
  unfold actCs at ho1
  rw [← ho1]
  obtain ⟨B, hB⟩ : ∃ B, B = w.heap.size := ⟨_, rfl⟩
  rw [← hB] at z1 h1 ⊢
  generalize w.alloc o1 = w1 at hm1 z1 h1 ⊢
  rw [ho1] at z1
  have y1 : w1.cell? ⟨B, 1, none⟩ = some (.string a.name) := by rw [blk_cell z1]; rfl
  have h1d := h1.mod0 ((Mod.refl NoneB w1).drew)
  clear z1 ho1 hB h1
  go_region_held3 (fun w' => w'.cell? ⟨B, 1, none⟩ = some (.string a.name)) (first | go_keep | exact v1 | exact x1)
    (first
      | (go_at_call 61; (with_reducible refine (h1d.remove a.name hf).mono ?_); rintro ez w2 ⟨rfl, h2⟩; have x1 := h2.mod.cell (w := w1.drew) y1 (fun hh => hh.2 (.inr rfl)))
      | (go_at_call 33; (with_reducible refine (num_calls _ _).mono ?_); rintro ez wy ⟨rfl, hwy⟩; subst hwy)
      | (go_at_call 62; (with_reducible refine (h2.two.rremove a.name hf).mono ?_); rintro ez w3 ⟨rfl, h3⟩; have v1 := h3.mod.cell x1 (fun hh => hh.2 (.inr rfl))))
  all_goals
    have h4 : TwoTo G w0 w w3 p q (removeD d a.name).1 (removeD d a.name).1 := TwoTo.home (hm1.then0 ((Mod.refl NoneB w1).drew)) (h2.go h3)
    have H4 := Lib.hid h4
    clear h4 h3 h2 h1d hm1
    go_wp2_with fail
    go_ret
    exact ⟨by first | rfl | simp, H4.out⟩

end Go.Proofs.Ytfbnkbdolimojaa

/- Law 1's Do: Restart, Read, none; all kinds in one. -/
namespace Go.Proofs.Ytfbnkbdolimojaa
open Go.RowKit
set_option linter.unusedVariables false

set_option maxHeartbeats 4000000 in
set_option maxRecDepth 100000 in
theorem do7_calls (G : Nat → Prop) (w0 w : World) (p q : Nat) (d : Dk) (a : ActV) (h : Two G w0 w p q d d) (hf : FitsR d) (hp : PlOk w0 a.p) (h1 : a.p.p.fail.length ≤ 1099511627776) (h2 : a.p.p.keep.length ≤ 1099511627776) :
    Calls Try.prog 15 #[.pointer (some ⟨p, 0, none⟩), .pointer (some ⟨q, 0, none⟩), .agg (actCs 7 a)] w (DoneE G w0 w p q (restartD d a.p.p)) := by
  unfold actCs
  go_enter Try.func15, Try.ntmps15
  go_wp2_with fail
  obtain ⟨o1, ho1⟩ : ∃ o, o = Obj.cells (actCs 7 a) 35 := ⟨_, rfl⟩
  have hm1 : Mod NoneB w (w.alloc o1) := (Mod.refl NoneB _).alloc _
  have hb1 := h.boxed o1
  have z1 := box1 w o1
  unfold actCs at ho1
  rw [← ho1]
  obtain ⟨B, hB⟩ : ∃ B, B = w.heap.size := ⟨_, rfl⟩
  rw [← hB] at z1 hb1 ⊢
  generalize w.alloc o1 = w1 at hm1 z1 hb1 ⊢
  rw [ho1] at z1
  clear ho1 hB
  refine (hb1.restart a.p.p a.p.F a.p.K a.p.fc a.p.kc hp.fail hp.keep h1 h2 hf).mono ?_
  rintro e w2 ⟨rfl, h3⟩
  have z2 := h3.mod.blk z1 (fun hh => hh.2 (.inr rfl))
  have x5 : w2.cell? ⟨B, 5, none⟩ = some (.int .i64 a.p.p.cap) := by rw [blk_cell z2]; rfl
  have x6 : w2.cell? ⟨B, 6, none⟩ = some (.slice a.p.F a.p.p.fail.length a.p.fc) := by rw [blk_cell z2]; rfl
  have x7 : w2.cell? ⟨B, 7, none⟩ = some (.int .i64 a.p.p.crash) := by rw [blk_cell z2]; rfl
  have x8 : w2.cell? ⟨B, 8, none⟩ = some (.bool a.p.p.done) := by rw [blk_cell z2]; rfl
  have x9 : w2.cell? ⟨B, 9, none⟩ = some (.slice a.p.K a.p.p.keep.length a.p.kc) := by rw [blk_cell z2]; rfl
  clear z1 z2
  go_wp2_with fail
  refine (h3.two.rrestart a.p.p a.p.F a.p.K a.p.fc a.p.kc hp.fail hp.keep hf).mono ?_
  rintro e w3 ⟨rfl, h4⟩
  have h5 : TwoTo G w0 w w3 p q (restartD d a.p.p) (restartD d a.p.p) := TwoTo.home hm1 (h3.go h4)
  have H5 := Lib.hid h5
  clear h5 h4 h3 hb1 hm1 x5 x6 x7 x8 x9
  go_wp2_with fail
  go_ret
  exact ⟨rfl, H5.out⟩

set_option maxHeartbeats 4000000 in
set_option maxRecDepth 100000 in
theorem do8_calls (G : Nat → Prop) (w0 w : World) (p q : Nat) (d : Dk) (a : ActV) (h : Two G w0 w p q d d) (hf : FitsR d) :
    Calls Try.prog 15 #[.pointer (some ⟨p, 0, none⟩), .pointer (some ⟨q, 0, none⟩), .agg (actCs 8 a)] w (DoneE G w0 w p q d) := by
  unfold actCs
  go_enter Try.func15, Try.ntmps15
  go_wp2_with fail
  obtain ⟨o1, ho1⟩ : ∃ o, o = Obj.cells (actCs 8 a) 35 := ⟨_, rfl⟩
  have hm1 : Mod NoneB w (w.alloc o1) := (Mod.refl NoneB _).alloc _
  have z1 := box1 w o1
  unfold actCs at ho1
  rw [← ho1]
  obtain ⟨B, hB⟩ : ∃ B, B = w.heap.size := ⟨_, rfl⟩
  rw [← hB] at z1 ⊢
  generalize w.alloc o1 = w1 at hm1 z1 ⊢
  rw [ho1] at z1
  have h1 := h.mod0 hm1
  clear ho1 hB
  refine (h1.read a.name hf).mono ?_
  rintro e w2 ⟨v, rfl, hov, h2, hm2⟩
  obtain ⟨V, c, rfl, hrv⟩ := hov.nilD
  have y1 : w2.cell? ⟨B, 1, none⟩ = some (.string a.name) := by rw [blk_cell (hm2.blk z1 (fun h => h))]; rfl
  clear hov z1
  go_wp2_with fail
  refine (h2.rread a.name hf).mono ?_
  rintro e w3 ⟨v, rfl, hov, h3, hm3⟩
  obtain ⟨X, cx, rfl, hrx⟩ := hov.nilD
  obtain ⟨r, hr⟩ : ∃ r, r = readD d a.name := ⟨_, rfl⟩
  rw [← hr] at hrv hrx ⊢
  have hx1 : (convert 33 9 (.slice V r.1.length c)).run Try.prog w3 = .ok (.string (strOf r.1)) w3 := conv_str (hrv.mod0 hm3)
  have hx2 : (convert 33 9 (.slice X r.1.length cx)).run Try.prog w3 = .ok (.string (strOf r.1)) w3 := conv_str hrx
  have h4 : TwoTo G w0 w w3 p q d d := ⟨h3, ((hm1.then0 hm2).then0 hm3).mono (fun _ _ h => h.elim)⟩
  have H4 := Lib.hid h4
  clear h4 h3 h2 h1 hm3 hm2 hm1 hrv hrx hov y1 hr
  go_wp2_with ((with_reducible refine (num_calls _ _).mono ?_); rintro e wz ⟨rfl, rfl⟩)
  go_ret
  exact ⟨by first | rfl | simp, H4.out⟩

set_option maxHeartbeats 4000000 in
set_option maxRecDepth 100000 in
theorem do9_calls (G : Nat → Prop) (w0 w : World) (p q : Nat) (d : Dk) (a : ActV) (z : Int) (h : Two G w0 w p q d d) (n0 : (z == 0) = false) (n1 : (z == 1) = false) (n2 : (z == 2) = false) (n3 : (z == 3) = false) (n4 : (z == 4) = false) (n5 : (z == 5) = false) (n6 : (z == 6) = false) (n7 : (z == 7) = false) (n8 : (z == 8) = false) :
    Calls Try.prog 15 #[.pointer (some ⟨p, 0, none⟩), .pointer (some ⟨q, 0, none⟩), .agg (actCs z a)] w (DoneE G w0 w p q d) := by
  unfold actCs
  go_enter Try.func15, Try.ntmps15
  go_wp2_with fail
  go_ret
  have hm1 : ∀ o, Mod NoneB w (w.alloc o) := fun o => (Mod.refl NoneB _).alloc _
  exact ⟨rfl, ⟨h.mod0 (hm1 _), (hm1 _).mono (fun _ _ h => h.elim)⟩⟩

theorem do_calls (G : Nat → Prop) (w0 w : World) (p q : Nat) (d : Dk) (a : ActV) (h : Two G w0 w p q d d) (hf : FitsR d) (ha : ActOk w0 a) (hl : LightA a) (hu : usedF d.fs + a.b.length ≤ 70368744177664) (hc : d.p.cap ≤ 9223372036854775807) :
    Calls Try.prog 15 #[.pointer (some ⟨p, 0, none⟩), .pointer (some ⟨q, 0, none⟩), .agg (actCs a.act a)] w (DoneE G w0 w p q (doD d a)) := by
  unfold LightA at hl
  obtain ⟨z, hz⟩ : ∃ z, z = a.act := ⟨_, rfl⟩
  by_cases e0 : a.act = 0
  · have e : doD d a = (createD d a.name).1 := by unfold doD; rw [if_pos e0]
    rw [e, e0]; exact do0_calls G w0 w p q d a h hf
  by_cases e1 : a.act = 1
  · have e : doD d a = (appendD d a.name a.b).1 := by unfold doD; rw [if_neg e0, if_pos (.inl e1)]
    rw [e, e1]; exact do1_calls G w0 w p q d a h hf ha.b hu hc
  by_cases e2 : a.act = 2
  · have e : doD d a = (appendD d a.name a.b).1 := by unfold doD; rw [if_neg e0, if_pos (.inr e2)]
    rw [e, e2]; exact do2_calls G w0 w p q d a h hf ha.b hu hc
  have e12 : ¬ (a.act = 1 ∨ a.act = 2) := fun h => h.elim e1 e2
  by_cases e3 : a.act = 3
  · have e : doD d a = (syncD d a.name).1 := by unfold doD; rw [if_neg e0, if_neg e12, if_pos e3]
    rw [e, e3]; exact do3_calls G w0 w p q d a h hf
  by_cases e4 : a.act = 4
  · have e : doD d a = (cutD d a.name a.n).1 := by unfold doD; rw [if_neg e0, if_neg e12, if_neg e3, if_pos e4]
    rw [e, e4]; exact do4_calls G w0 w p q d a h hf
  by_cases e5 : a.act = 5
  · have e : doD d a = (renameD d a.name a.nto).1 := by unfold doD; rw [if_neg e0, if_neg e12, if_neg e3, if_neg e4, if_pos e5]
    rw [e, e5]; exact do5_calls G w0 w p q d a h hf
  by_cases e6 : a.act = 6
  · have e : doD d a = (removeD d a.name).1 := by unfold doD; rw [if_neg e0, if_neg e12, if_neg e3, if_neg e4, if_neg e5, if_pos e6]
    rw [e, e6]; exact do6_calls G w0 w p q d a h hf
  by_cases e7 : a.act = 7
  · have e : doD d a = restartD d a.p.p := by unfold doD; rw [if_neg e0, if_neg e12, if_neg e3, if_neg e4, if_neg e5, if_neg e6, if_pos e7]
    rw [e, e7]; exact do7_calls G w0 w p q d a h hf ha.p (by omega) (by omega)
  have e : doD d a = d := by unfold doD; rw [if_neg e0, if_neg e12, if_neg e3, if_neg e4, if_neg e5, if_neg e6, if_neg e7]
  rw [e]
  by_cases e8 : a.act = 8
  · rw [e8]; exact do8_calls G w0 w p q d a h hf
  exact do9_calls G w0 w p q d a a.act h (by simpa using e0) (by simpa using e1) (by simpa using e2) (by simpa using e3) (by simpa using e4) (by simpa using e5) (by simpa using e6) (by simpa using e7) (by simpa using e8)
end Go.Proofs.Ytfbnkbdolimojaa
