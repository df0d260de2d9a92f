/- The store in the world: how it lies, and what Get, All, Sick, Check and Commit do. -/
import Derived.StillTailTactics
import Derived.Deep.RegionHeld3
import Derived.Deep.CutBlock
import Derived.Deep.DeepCutAuto
import Derived.Test.YtnlmfmceogbomaaGreatDoorStPlQq
import Derived.Test.YtnlmfmceogbomaaGreatDoorIxRQq
namespace Go.Proofs.YtnlmfmceogbomaaGreatDoor
open Go.RowKit
set_option linter.unusedVariables false

def sblk (p q g : Nat) (m : Int) : Obj := .cells #[.pointer (some ⟨p, 0, none⟩), .pointer (some ⟨q, 0, none⟩), .pointer (some ⟨g, 0, none⟩), .int .i64 m] 86
/-- The map's side of a store: its own block, and its index. -/
structure StM (w0 w : World) (p q g s : Nat) (most : Int) (x : Ix) (r : List Pr) (X : Nat → Prop) : Prop where
  blk : w.heap[s]? = some (sblk p q g most)
  idx : IsX w g x X
  twin : Twin x r
  s0 : w0.heap.size ≤ s
  X0 : ∀ k, X k → w0.heap.size ≤ k
  sX : ¬ X s
section
variable {w0 w w1 : World} {p q g s : Nat} {most : Int} {x : Ix} {r : List Pr} {S X T : Nat → Prop}
theorem StM.mod (h : StM w0 w p q g s most x r X) (hm : Mod T w w1) (hs : ¬ T s) (hx : ∀ k, X k → ¬ T k) : StM w0 w1 p q g s most x r X := ⟨hm.blk h.blk hs, h.idx.mod hm hx, h.twin, h.s0, h.X0, h.sX⟩
theorem StM.mod0 (h : StM w0 w p q g s most x r X) (hm : Mod NoneB w w1) : StM w0 w1 p q g s most x r X := h.mod hm (fun h => h) (fun _ _ h => h)
theorem StM.room (h : StM w0 w p q g s most x r X) (hr : r.length ≤ 1000000) : RoomX x := h.twin.room hr
end
set_option maxRecDepth 100000 in
theorem sget_calls {w0 w : World} {p q g s : Nat} {most : Int} {x : Ix} {r : List Pr} {X : Nat → Prop} (h : StM w0 w p q g s most x r X) (key : ByteArray) (hr : r.length ≤ 1000000) (hk : key.size ≤ 1000000) :
    Calls Tryz.prog 23 #[.pointer (some ⟨s, 0, none⟩), .string key] w fun e w' => e = .returned (.tuple #[.string ((getT r key).getD ⟨#[]⟩), .bool (getT r key).isSome]) ∧ Mod NoneB w w' := by
  have y2 : w.cell? ⟨s, 2, none⟩ = some (.pointer (some ⟨g, 0, none⟩)) := by rw [blk_cell h.blk]; rfl
  have hc := xget_calls w g x X key h.idx (h.room hr) hk
  rw [h.twin.get key] at hc
  have HC := Lib.hid hc
  clear hc h
  go_enter Tryz.func23, Tryz.ntmps23
  go_wp2_with fail
  refine HC.out.mono ?_
  rintro e w1 ⟨rfl, hm⟩
  go_wp2_with fail
  go_ret2
  exact ⟨rfl, hm⟩
/-- The pairs that All tells. -/
def AllE (w : World) (r : List Pr) (e : Ending) (w' : World) : Prop := ∃ A c, e = .returned (.slice A r.length c) ∧ Rd w' 2 A r.length (encPs r) ∧ Mod NoneB w w' ∧ ∀ ad, A = some ad → w.heap.size ≤ ad.block
set_option maxRecDepth 100000 in
theorem sall_calls {w0 w : World} {p q g s : Nat} {most : Int} {x : Ix} {r : List Pr} {X : Nat → Prop} (h : StM w0 w p q g s most x r X) (hr : r.length ≤ 1000000) :
    Calls Tryz.prog 20 #[.pointer (some ⟨s, 0, none⟩)] w (AllE w r) := by
  have y2 : w.cell? ⟨s, 2, none⟩ = some (.pointer (some ⟨g, 0, none⟩)) := by rw [blk_cell h.blk]; rfl
  have hc : Calls Tryz.prog 44 #[.pointer (some ⟨g, 0, none⟩)] w (AllE w r) := (xall_calls w g x X h.idx h.twin.ok (h.room hr)).mono fun e w' ⟨A, c, m, he, h1, h2, h3, h4, h5⟩ => by
    obtain ⟨g1, g2, _⟩ := sorted_map h.twin.ok h1 h2
    have hm : m = r := rises_ext g1 h.twin.rises (fun key => (g2 key).trans (h.twin.get key))
    subst hm
    exact ⟨A, c, he, h3, h4, h5⟩
  have HC := Lib.hid hc
  clear hc h
  go_enter Tryz.func20, Tryz.ntmps20
  go_wp2_with fail
  refine HC.out.mono ?_
  rintro e w1 ⟨A, c, rfl, hrd, hm, hn⟩
  go_wp2_with fail
  go_ret
  exact ⟨A, c, rfl, hrd, hm, hn⟩

/-- snap.Save beside the disk's own blocks. -/
theorem save_step (w : World) (p : Nat) (d : Dk) (S : Nat → Prop) (hd : IsD w p d S) (l : List Pr) (A : Option Addr) (c : Nat) (hr : Rd w 2 A l.length (encPs l)) (hs : SmallP l) (hroom : RoomS d (tableR l).1 0) :
    Calls Tryz.prog 48 #[.pointer (some ⟨p, 0, none⟩), .slice A l.length c] w fun e w' => e = .returned (.int .i64 (saveR d l).2) ∧ DStep w S p (saveR d l).1 w' := by
  have hx : Dx (fun k => k < w.heap.size ∧ ¬ S k) w w p d := ⟨S, hd, Mod.refl _ _, fun k hk hh => hh.2 hk, fun k hk => hk.1⟩
  refine (save_calls hx l A c hr hs hroom).mono ?_
  rintro e w' ⟨he, S', h1, h2, h3, _⟩
  exact ⟨he, S', h1, h2.mono (fun k hk hn => Classical.byContradiction fun hS => hn ⟨hk, hS⟩), fun k hk => by
    by_cases h : k < w.heap.size
    · exact .inl (Classical.byContradiction fun hS => h3 k hk ⟨h, hS⟩)
    · exact .inr (Nat.not_lt.1 h)⟩
def LdE (w : World) (r : List Pr × Nat) (e : Ending) (w' : World) : Prop := ∃ v, e = .returned (.tuple #[v, .int .i64 r.2]) ∧ Own w' 88 2 v r.1.length (encPs r.1) ∧ Mod NoneB w w' ∧ (∀ g, v.ownBlock = some g → w.heap.size ≤ g)
theorem load_step (w : World) (p : Nat) (d : Dk) (S : Nat → Prop) (hd : IsD w p d S) (hf : Fits d) (hu : usedF d.fs ≤ 1099511627776) : Calls Tryz.prog 35 #[.pointer (some ⟨p, 0, none⟩)] w (LdE w (loadR d)) := by
  have hx : Dx (fun k => k < w.heap.size ∧ ¬ S k) w w p d := ⟨S, hd, Mod.refl _ _, fun k hk hh => hh.2 hk, fun k hk => hk.1⟩
  refine (load_calls hx hf hu).mono ?_
  rintro e w' ⟨v, he, h1, _, h2, h3⟩
  exact ⟨v, he, h1, h2, h3⟩

set_option maxHeartbeats 1000000 in
set_option maxRecDepth 100000 in
/-- The check's first call: the map is saved. -/
theorem check1_calls {w0 w : World} {p q g s b : Nat} {most : Int} {x : Ix} {r : List Pr} {d : Dk} {S X : Nat → Prop} (hd : IsD w p d S) (hs : StM w0 w p q g s most x r X) (hb : w.cell? ⟨b, 0, none⟩ = some (.pointer (some ⟨s, 0, none⟩))) (hbS : ¬ S b) (hsS : ¬ S s) (hr : SmallP r) (hroom : RoomS d (tableR r).1 0) :
    Calls Tryz.prog 47 #[.pointer (some ⟨b, 0, none⟩)] w fun e w' => e = .returned (.int .i64 (saveR d r).2) ∧ DStep w S p (saveR d r).1 w' := by
  have y0 : w.cell? ⟨s, 0, none⟩ = some (.pointer (some ⟨p, 0, none⟩)) := by rw [blk_cell hs.blk]; rfl
  have hm0 : Mod NoneB w w.drew := (Mod.refl NoneB w).drew
  have z0 := hm0.cell0 hb
  have z1 := hm0.cell0 y0
  have hall := sall_calls (hs.mod0 hm0) hr.1
  have hsave : ∀ w3, Mod NoneB w.drew w3 → ∀ A c, Rd w3 2 A r.length (encPs r) → Calls Tryz.prog 48 #[.pointer (some ⟨p, 0, none⟩), .slice A r.length c] w3 fun e w' => e = .returned (.int .i64 (saveR d r).2) ∧ DStep w3 S p (saveR d r).1 w' :=
    fun w3 hm A c hrd => save_step w3 p d S ((hd.mod0 hm0).mod0 hm) r A c hrd hr hroom
  have HALL := Lib.hid hall
  have HSAVE := Lib.hid hsave
  have HM0 := Lib.hid hm0
  clear hall hsave hd hs hr hroom hm0
  go_enter Tryz.func47, Tryz.ntmps47
  go_wp2_with fail
  go_region_held3 (fun w' => w'.cell? ⟨b, 0, none⟩ = some (.pointer (some ⟨s, 0, none⟩)) ∧ w'.cell? ⟨s, 0, none⟩ = some (.pointer (some ⟨p, 0, none⟩))) (first | go_keep | exact ⟨v0, v1⟩ | exact ⟨u0, u1⟩)
    (first
      | (go_at_call 20; (with_reducible refine HALL.out.mono ?_); rintro ez w3 ⟨A, c, rfl, hrA, hm3, hnA⟩; have v0 := hm3.cell0 (w := w.drew) z0; have v1 := hm3.cell0 (w := w.drew) z1)
      | (go_at_call 48; (with_reducible refine (HSAVE.out w3 hm3 A c hrA).mono ?_); rintro ez w4 ⟨rfl, hs4⟩; have u0 : w4.cell? ⟨b, 0, none⟩ = some (.pointer (some ⟨s, 0, none⟩)) := by { obtain ⟨S4, h4⟩ := hs4; exact h4.mod.cell v0 hbS }; have u1 : w4.cell? ⟨s, 0, none⟩ = some (.pointer (some ⟨p, 0, none⟩)) := by { obtain ⟨S4, h4⟩ := hs4; exact h4.mod.cell v1 hsS }))
  all_goals
    have h5 : DStep w S p (saveR d r).1 w4 := (hs4.of0 hm3).of0 HM0.out
    have H5 := Lib.hid h5
    clear h5 hs4 hm3 hrA hnA v0 v1 u0 u1 z0 z1 HALL HSAVE
    go_wp2_with fail
    go_ret
    exact ⟨rfl, H5.out⟩

/-- A store that is open, on its disk; all newer than w0. -/
structure StAt (w0 w : World) (p q g s : Nat) (most : Int) (t : St) (x : Ix) (S X : Nat → Prop) : Prop where
  lw : Lw w0 w p t.d S
  wal : w.heap[q]? = some (wblk p t.n t.sk)
  mp : StM w0 w p q g s most x t.r X
  q0 : w0.heap.size ≤ q
  qS : ¬ S q
  qX : ¬ X q
  sS : ¬ S s
  qs : q ≠ s
  SX : ∀ k, S k → ¬ X k
structure FitS (t : St) : Prop where
  d : FitL t.d
  n : t.n ≤ 8000000
  small : SmallP t.r
/-- Behind a call of the store. -/
def StE (w0 w : World) (p q g s : Nat) (most : Int) (S X : Nat → Prop) (k : St × Nat) (e : Ending) (w' : World) : Prop :=
  e = .returned (.int .i64 k.2) ∧ ∃ x' S' X', StAt w0 w' p q g s most k.1 x' S' X' ∧ Mod (fun j => S j ∨ X j ∨ j = q) w w' ∧ (∀ j, S' j → S j ∨ w.heap.size ≤ j) ∧ (∀ j, X' j → X j ∨ w.heap.size ≤ j)
section
variable {w0 w w1 : World} {p q g s : Nat} {most : Int} {x : Ix} {t : St} {S X : Nat → Prop}
theorem StAt.mod0 (h : StAt w0 w p q g s most t x S X) (hm : Mod NoneB w w1) : StAt w0 w1 p q g s most t x S X := ⟨h.lw.mod0 hm, hm.blk h.wal (fun h => h), h.mp.mod0 hm, h.q0, h.qS, h.qX, h.sS, h.qs, h.SX⟩
theorem StAt.wto {d' : Dk} {n' : Nat} {sk' : Bool} (h : StAt w0 w p q g s most t x S X) (hw : WTo w S p q d' n' sk' w1) :
    ∃ S', StAt w0 w1 p q g s most ⟨d', n', sk', t.r⟩ x S' X ∧ Mod (fun j => S j ∨ j = q) w w1 ∧ (∀ j, S' j → S j ∨ w.heap.size ≤ j) := by
  obtain ⟨S', h1, h2, h3, h4⟩ := hw
  have hq := blk_lt h.wal
  have hs := blk_lt h.mp.blk
  refine ⟨S', ⟨h.lw.to h1 h2 (fun k hk => hk.elim .inl (fun e => .inr (by rw [e]; exact h.q0))) h3, h4, h.mp.mod h2 (fun hh => hh.elim h.sS (fun e => h.qs e.symm)) (fun k hk hh => hh.elim (fun hs => h.SX k hs hk) (fun e => h.qX (e ▸ hk))), h.q0, ?_, h.qX, ?_, h.qs, ?_⟩, h2, h3⟩
  · exact fun hh => (h3 _ hh).elim h.qS (fun e => by omega)
  · exact fun hh => (h3 _ hh).elim h.sS (fun e => by omega)
  · exact fun k hk hx => (h3 k hk).elim (fun hh => h.SX k hh hx) (fun hh => by have := h.mp.idx.lt hx; omega)
theorem StAt.ste {k : Cm} (h : StAt w0 w p q g s most t x S X) (hw : WTo w S p q k.d k.n k.sk w1) (e5 : Nat) : StE w0 w p q g s most S X (⟨k.d, k.n, k.sk, t.r⟩, e5) (.returned (.int .i64 e5)) w1 := by
  obtain ⟨S', h1, h2, h3⟩ := h.wto hw
  exact ⟨rfl, x, S', X, h1, h2.mono (fun j _ hj => hj.elim .inl (fun e => .inr (.inr e))), h3, fun j hj => .inl hj⟩
theorem StE.from0 {k : St × Nat} {e : Ending} {w' : World} (hm : Mod NoneB w w1) (h : StE w0 w1 p q g s most S X k e w') : StE w0 w p q g s most S X k e w' := by
  obtain ⟨he, x', S', X', h1, h2, h3, h4⟩ := h
  exact ⟨he, x', S', X', h1, (hm.mono (fun _ _ h => h.elim)).trans h2 (fun _ _ hk => hk), fun j hj => (h3 j hj).imp id (Nat.le_trans hm.size), fun j hj => (h4 j hj).imp id (Nat.le_trans hm.size)⟩
end
set_option maxRecDepth 100000 in
theorem ssick_calls {w0 w : World} {p q g s : Nat} {most : Int} {x : Ix} {t : St} {S X : Nat → Prop} (h : StAt w0 w p q g s most t x S X) :
    Calls Tryz.prog 27 #[.pointer (some ⟨s, 0, none⟩)] w fun e w' => e = .returned (.bool t.sk) ∧ Mod NoneB w w' := by
  have y1 : w.cell? ⟨s, 1, none⟩ = some (.pointer (some ⟨q, 0, none⟩)) := by rw [blk_cell h.mp.blk]; rfl
  have hc := wsick_calls w p q t.n t.sk h.wal
  have HC := Lib.hid hc
  clear hc h
  go_enter Tryz.func27, Tryz.ntmps27
  go_wp2_with ((with_reducible refine HC.out.mono ?_); rintro ez wz ⟨rfl, hwz⟩; subst hwz)
  go_ret
  exact ⟨rfl, Mod.refl _ _⟩
end Go.Proofs.YtnlmfmceogbomaaGreatDoor

/- The store: Check, Commit. -/
namespace Go.Proofs.YtnlmfmceogbomaaGreatDoor
open Go.RowKit
set_option linter.unusedVariables false

/-- Two steps, one behind the other. -/
theorem WTo.after {w w1 w2 : World} {S S1 : Nat → Prop} {p q n' : Nat} {sk' : Bool} {d1 d2 : Dk} (h : DTo w S p d1 w1 S1) (k : WTo w1 S1 p q d2 n' sk' w2) : WTo w S p q d2 n' sk' w2 := by
  obtain ⟨S2, h1, h2, h3, h4⟩ := k
  exact ⟨S2, h1, (h.mod.mono (fun k _ hk => .inl hk)).trans h2 (fun k hk hh => hh.elim (fun hs => (h.new k hs).elim .inl (fun hn => absurd hk (Nat.not_lt.2 hn))) .inr), fun k hk => (h3 k hk).elim (h.new k) (fun hn => .inr (Nat.le_trans h.mod.size hn)), h4⟩
set_option maxHeartbeats 4000000 in
set_option maxRecDepth 100000 in
theorem scheck_calls {w0 w : World} {p q g s : Nat} {most : Int} {x : Ix} {t : St} {S X : Nat → Prop} (h : StAt w0 w p q g s most t x S X) (hf : FitS t) :
    Calls Tryz.prog 24 #[.pointer (some ⟨s, 0, none⟩)] w (StE w0 w p q g s most S X (checkS t)) := by
  obtain ⟨d, n, sk, r⟩ := t
  have hbx1 := box1 w (.cells #[.pointer (some ⟨s, 0, none⟩)] 32)
  have hal : Mod NoneB w (w.alloc (.cells #[.pointer (some ⟨s, 0, none⟩)] 32)) := (Mod.refl NoneB w).alloc _
  obtain ⟨b, hb⟩ : ∃ r, r = w.heap.size := ⟨_, rfl⟩
  obtain ⟨w1, hw1⟩ : ∃ x, x = w.alloc (.cells #[.pointer (some ⟨s, 0, none⟩)] 32) := ⟨_, rfl⟩
  have HEQ : Hid (b = w.heap.size ∧ w1 = w.alloc (.cells #[.pointer (some ⟨s, 0, none⟩)] 32)) := Lib.hid ⟨hb, hw1⟩
  rw [← hb, ← hw1] at hbx1
  rw [← hw1] at hal
  have y1 : w1.cell? ⟨b, 0, none⟩ = some (.pointer (some ⟨s, 0, none⟩)) := by rw [blk_cell hbx1]; rfl
  have h1 := h.mod0 hal
  have x0 : w1.cell? ⟨s, 0, none⟩ = some (.pointer (some ⟨p, 0, none⟩)) := by rw [blk_cell h1.mp.blk]; rfl
  have x1 : w1.cell? ⟨s, 1, none⟩ = some (.pointer (some ⟨q, 0, none⟩)) := by rw [blk_cell h1.mp.blk]; rfl
  have hsi := wsick_calls w1 p q n sk h1.wal
  have HSI := Lib.hid hsi
  clear hsi
  cases sk with
  | true =>
    have hk : checkS ⟨d, n, true, r⟩ = (⟨d, n, true, r⟩, 8) := rfl
    have hfin : StE w0 w p q g s most S X (⟨d, n, true, r⟩, 8) (.returned (.int .i64 8)) w1 := ⟨rfl, x, S, X, h1, hal.mono (fun _ _ h => h.elim), fun j hj => .inl hj, fun j hj => .inl hj⟩
    have HK := Lib.hid hk
    have HFIN := Lib.hid hfin
    clear hk hfin h1 h hf hb hw1 hbx1 hal
    go_enter Tryz.func24, Tryz.ntmps24
    go_wp2_with fail
    rw [← HEQ.out.2, ← HEQ.out.1]
    clear HEQ
    go_step3
    go_wp2_with fail
    refine HSI.out.mono ?_
    rintro ez wz ⟨rfl, hwz⟩
    subst hwz
    go_wp2_with fail
    go_ret
    rw [HK.out]
    exact HFIN.out
  | false =>
    have hkE : checkS ⟨d, n, false, r⟩ = if (saveR d r).2 = 0 then (⟨(resetD (saveR d r).1 n).d, (resetD (saveR d r).1 n).n, (resetD (saveR d r).1 n).sk, r⟩, (resetD (saveR d r).1 n).e) else (⟨(saveR d r).1, n, false, r⟩, (saveR d r).2) := rfl
    obtain ⟨a1, ha1⟩ : ∃ a, a = saveR d r := ⟨_, rfl⟩
    rw [← ha1] at hkE
    obtain ⟨z, hz⟩ : ∃ z, z = resetD a1.1 n := ⟨_, rfl⟩
    rw [← hz] at hkE
    have HKE := Lib.hid hkE
    have hgr : a1.1.c ≤ d.c + 5 ∧ a1.1.fs.length ≤ d.fs.length + 5 := by
      rw [ha1]
      unfold saveR
      split
      · have := saveD_grow d (tableR r).1; exact ⟨this.1, this.2.1⟩
      · exact ⟨by simp, by simp⟩
    have hfc := hf.d.c
    have hfl := hf.d.l
    have hfu := hf.d.u
    simp only at hfc hfl hfu
    have hbN : w.heap.size ≤ b := by omega
    have hbS : ¬ S b := h.lw.isD.notS hbN
    have hbq : b ≠ q := fun e => by have := blk_lt h.wal; omega
    have hc1 : ∀ wr, Mod NoneB w1 wr → wr.cell? ⟨b, 0, none⟩ = some (.pointer (some ⟨s, 0, none⟩)) → Calls Tryz.prog 47 #[.pointer (some ⟨b, 0, none⟩)] wr fun e w' => e = .returned (.int .i64 a1.2) ∧ DStep wr S p a1.1 w' := fun wr hm hc => by
      rw [ha1]
      exact check1_calls (h1.lw.isD.mod0 hm) (h1.mp.mod0 hm) hc hbS h.sS hf.small ⟨by omega, by omega, by rw [Nat.mul_zero]; omega, table_len r⟩
    have HC1 := Lib.hid hc1
    have HZ := Lib.hid hz
    have H1 := Lib.hid h1
    have HAL := Lib.hid hal
    have HFIN : Hid (∀ k : Cm, ∀ e5 : Nat, ∀ w4 wx, Mod NoneB w1 w4 → WTo w4 S p q k.d k.n k.sk wx → StE w0 w p q g s most S X (⟨k.d, k.n, k.sk, r⟩, e5) (.returned (.int .i64 e5)) wx) := Lib.hid fun k e5 w4 wx hm hw => StE.from0 (hal.then0 hm) (StAt.ste (h1.mod0 hm) hw e5)
    have hqS := h.qS
    have hnS : ∀ k, w.heap.size ≤ k → ¬ S k := fun k hk => h.lw.isD.notS hk
    have HNS := Lib.hid hnS
    clear hkE hc1 hz h1 h hf hb hw1 hbx1 hal ha1 hnS
    go_enter Tryz.func24, Tryz.ntmps24
    go_wp2_with fail
    rw [← HEQ.out.2, ← HEQ.out.1]
    clear HEQ
    go_step3
    go_wp2_with fail
    refine HSI.out.mono ?_
    rintro ez wz ⟨rfl, hwz⟩
    subst hwz
    go_wp2_with fail
    go_step3
    have hF1 : ∀ args w, (callFunc 47 args).run Tryz.prog w = .ok (.enter 47 args) w := enters_of Tryz.func47 (by kernel_rfl) rfl
    have hF2 : ∀ args w, (callFunc 49 args).run Tryz.prog w = .ok (.enter 49 args) w := enters_of Tryz.func49 (by kernel_rfl) rfl
    have hbx3 := box1 wz (.cells #[.func (.func 47) #[] #[.pointer (some ⟨b, 0, none⟩)], .func (.func 49) #[.pointer (some ⟨q, 0, none⟩)] #[]] 53)
    have ha4 : Mod NoneB wz (wz.alloc (.cells #[.func (.func 47) #[] #[.pointer (some ⟨b, 0, none⟩)], .func (.func 49) #[.pointer (some ⟨q, 0, none⟩)] #[]] 53)) := (Mod.refl NoneB wz).alloc _
    obtain ⟨w4, hw4⟩ : ∃ x, x = wz.alloc (.cells #[.func (.func 47) #[] #[.pointer (some ⟨b, 0, none⟩)], .func (.func 49) #[.pointer (some ⟨q, 0, none⟩)] #[]] 53) := ⟨_, rfl⟩
    rw [← hw4] at hbx3 ha4
    obtain ⟨r3, hr3⟩ : ∃ r, r = wz.heap.size := ⟨_, rfl⟩
    have hr3N : w.heap.size ≤ r3 := by rw [hr3]; exact HAL.out.size
    rw [← hr3] at hbx3
    have HEQ : Hid (r3 = wz.heap.size ∧ w4 = wz.alloc (.cells #[.func (.func 47) #[] #[.pointer (some ⟨b, 0, none⟩)], .func (.func 49) #[.pointer (some ⟨q, 0, none⟩)] #[]] 53)) := Lib.hid ⟨hr3, hw4⟩
    have y14 := ha4.cell0 y1
    have H4 := Lib.hid (H1.out.mod0 ha4)
    have HA4 := Lib.hid ha4
    clear hr3 hw4 ha4
    go_upto_block 1 with fail
    rw [← HEQ.out.2, ← HEQ.out.1]
    clear HEQ
    go_cut [2] (fun ev wx => ∃ (k : Cm), ev = .int .i64 k.e ∧ checkS ⟨d, n, false, r⟩ = (⟨k.d, k.n, k.sk, r⟩, k.e) ∧ WTo w4 S p q k.d k.n k.sk wx)
    case first =>
      have g0 : w4.cell? ⟨r3, 0, none⟩ = some (.func (.func 47) #[] #[.pointer (some ⟨b, 0, none⟩)]) := by rw [blk_cell hbx3]; rfl
      have hap := HC1.out w4 HA4.out y14
      have HAP := Lib.hid hap
      have HB3 := Lib.hid hbx3
      clear hap hbx3 x0 x1 y1 y14
      go_wp2_with fail
      go_loopw [2, 4, 22] (fun ev a8 i wr => ∃ j : Nat, i = .int .i64 j ∧ ((j = 0 ∧ wr = w4) ∨ (j = 1 ∧ ev = .int .i64 0 ∧ a1.2 = 0 ∧ DStep w4 S p a1.1 wr) ∨ (j = 2 ∧ ev = .int .i64 0 ∧ z.e = 0 ∧ a1.2 = 0 ∧ WTo w4 S p q z.d z.n z.sk wr))) (fun _ _ i _ => 2 - (intOf i).toNat)
      case atStart => exact ⟨0, rfl, .inl ⟨rfl, rfl⟩⟩
      case round =>
        obtain ⟨j, rfl, ⟨rfl, rfl⟩ | ⟨rfl, rfl, h1, hs⟩ | ⟨rfl, rfl, h1, h2, hs⟩⟩ := hrel
        · go_wp2_with fail
          refine HAP.out.mono ?_
          rintro e w5 ⟨rfl, hs⟩
          by_cases h0 : a1.2 = 0
          · rw [h0]
            go_wp2_with fail
            go_roundw
            case rel => exact ⟨1, by go_num, .inr (.inl ⟨rfl, rfl, h0, hs⟩)⟩
            case measure => simp [intOf]
          · have q0 : (((a1.2 : Nat) : Int) != 0) = true := bne_iff_ne.mpr (by omega)
            have q0' : (((a1.2 : Nat) : Int) == 0) = false := beq_eq_false_iff_ne.mpr (by omega)
            have hwto : WTo wr S p q a1.1 n false w5 := hs.wto H4.out.wal hqS
            have HW := Lib.hid hwto
            clear hwto hs
            go_wp2_with fail
            go_meet
            case rel => exact ⟨⟨a1.1, n, false, a1.2⟩, rfl, by rw [HKE.out, if_neg h0], HW.out⟩
        · obtain ⟨S1, hto⟩ := hs
          have hr3S : ¬ S r3 := HNS.out _ hr3N
          have hq1 := hto.mod.blk H4.out.wal hqS
          have hqS1 : ¬ S1 q := fun hh => (hto.new q hh).elim hqS (fun hh => by have := blk_lt H4.out.wal; omega)
          have g1 : wr.cell? ⟨r3, 1, none⟩ = some (.func (.func 49) #[.pointer (some ⟨q, 0, none⟩)] #[]) := by rw [blk_cell (hto.mod.blk HB3.out hr3S)]; rfl
          have hrs : Calls Tryz.prog 49 #[.pointer (some ⟨q, 0, none⟩)] wr fun e w' => e = .returned (.int .i64 z.e) ∧ WTo w4 S p q z.d z.n z.sk w' := (wreset_calls wr p q a1.1 S1 n false hto.isD hq1 hqS1 (by omega) (by omega)).mono fun e w' ⟨he, hw⟩ => by
            have hzz : resetW a1.1 n false = z := by rw [HZ.out]; rfl
            rw [hzz] at he hw
            exact ⟨he, hw.after hto⟩
          have HRS := Lib.hid hrs
          clear hrs hto hq1 g0
          go_wp2_with fail
          refine HRS.out.mono ?_
          rintro e w5 ⟨rfl, hs5⟩
          by_cases h0 : z.e = 0
          · rw [h0]
            go_wp2_with fail
            go_roundw
            case rel => exact ⟨2, by go_num, .inr (.inr ⟨rfl, rfl, h0, h1, hs5⟩)⟩
            case measure => simp [intOf]
          · obtain ⟨e5, he5⟩ : ∃ e, e = z.e := ⟨_, rfl⟩
            rw [← he5] at h0 ⊢
            have HE5 := Lib.hid he5
            have q0 : (((e5 : Nat) : Int) != 0) = true := bne_iff_ne.mpr (by omega)
            have q0' : (((e5 : Nat) : Int) == 0) = false := beq_eq_false_iff_ne.mpr (by omega)
            clear he5
            go_wp2_with fail
            go_meet
            case rel => exact ⟨z, by rw [HE5.out], by rw [HKE.out, if_pos h1], hs5⟩
        · have HS := Lib.hid hs
          have H1' := Lib.hid h1
          have H2' := Lib.hid h2
          clear hs h1 h2 g0
          go_wp2_with fail
          go_meet
          case rel => exact ⟨z, by rw [H1'.out]; rfl, by rw [HKE.out, if_pos H2'.out], HS.out⟩
    case rest =>
      obtain ⟨k, rfl, hk, hw⟩ := hcut
      have hfin := HFIN.out k k.e w4 wc HA4.out hw
      rw [← hk] at hfin
      have HF := Lib.hid hfin
      have HKK := Lib.hid hk
      clear hfin hk hw
      go_wp2_with fail
      go_ret
      have := HF.out
      exact this
end Go.Proofs.YtnlmfmceogbomaaGreatDoor

/- The store: Commit. -/
namespace Go.Proofs.YtnlmfmceogbomaaGreatDoor
open Go.RowKit
set_option linter.unusedVariables false

section
variable {w0 w w1 : World} {p q g s : Nat} {most : Int} {x x' : Ix} {t : St} {r' : List Pr} {S X X' S1 X1 : Nat → Prop}
/-- The index turned: the map is another. -/
theorem StAt.idx (h : StAt w0 w p q g s most t x S X) (hx : IsX w1 g x' X') (htw : Twin x' r') (hm : Mod X w w1) (hn : ∀ k, X' k → X k ∨ w.heap.size ≤ k) : StAt w0 w1 p q g s most ⟨t.d, t.n, t.sk, r'⟩ x' S X' := by
  have hq := blk_lt h.wal
  have hs := blk_lt h.mp.blk
  exact ⟨h.lw.modX hm (fun k hk => ⟨fun hS => h.SX k hS hk, h.mp.X0 k hk⟩), hm.blk h.wal h.qX,
    ⟨hm.blk h.mp.blk h.mp.sX, hx, htw, h.mp.s0, fun k hk => (hn k hk).elim (h.mp.X0 k) (Nat.le_trans h.lw.base.size), fun hh => (hn _ hh).elim h.mp.sX (fun hh => by omega)⟩,
    h.q0, h.qS, fun hh => (hn _ hh).elim h.qX (fun hh => by omega), h.sS, h.qs, fun k hk hh => (hn k hh).elim (h.SX k hk) (fun hh => by have := h.lw.isD.lt hk; omega)⟩
theorem StE.after {k : St × Nat} {e : Ending} {w' : World} (hm : Mod (fun j => S j ∨ X j ∨ j = q) w w1) (hS : ∀ j, S1 j → S j ∨ w.heap.size ≤ j) (hX : ∀ j, X1 j → X j ∨ w.heap.size ≤ j) (h : StE w0 w1 p q g s most S1 X1 k e w') : StE w0 w p q g s most S X k e w' := by
  obtain ⟨he, x', S', X', h1, h2, h3, h4⟩ := h
  refine ⟨he, x', S', X', h1, hm.trans h2 (fun j hj hh => ?_), fun j hj => (h3 j hj).elim (hS j) (fun hh => .inr (Nat.le_trans hm.size hh)), fun j hj => (h4 j hj).elim (hX j) (fun hh => .inr (Nat.le_trans hm.size hh))⟩
  rcases hh with hh | hh | hh
  · exact (hS j hh).elim .inl (fun hh => absurd hj (Nat.not_lt.2 hh))
  · exact (hX j hh).elim (fun hh => .inr (.inl hh)) (fun hh => absurd hj (Nat.not_lt.2 hh))
  · exact .inr (.inr hh)
end
theorem apply_del1 {r : List Pr} (h : Rises r) (k v : ByteArray) : applyT r [⟨true, k, v⟩] = delT r k := by rw [applyT_rises h]; rfl
theorem take_snoc {l : List Op3} {j : Nat} (h : j < l.length) : l.take (j + 1) = l.take j ++ [l[j]] := List.take_succ_eq_append_getElem h
theorem len_apply {r : List Pr} (h : Rises r) (l : List Op3) : (applyT r l).length ≤ r.length + l.length := by
  rw [applyT_rises h]
  clear h
  induction l generalizing r with
  | nil => simp
  | cons o l ih =>
    have h1 := ih (r := stepT r o)
    have h2 := stepT_length_le r o
    rw [List.foldl_cons, List.length_cons]
    omega

set_option maxHeartbeats 4000000 in
set_option maxRecDepth 100000 in
theorem scommit_calls {w0 w : World} {p q g s : Nat} {most : Int} {x : Ix} {t : St} {S X : Nat → Prop} (h : StAt w0 w p q g s most t x S X) (ht : TabW w0) (hf : FitS t) (l : List Op3) (A : Option Addr) (c : Nat) (hr : Rd w 3 A l.length (encOs l))
    (hA : 0 < l.length → ∀ ad, A = some ad → ¬ S ad.block ∧ ¬ X ad.block ∧ ad.block ≠ q) (hs : SmallO l) (hlen : t.r.length + l.length ≤ 1000000) (hf2 : (commitW t.d t.n t.sk l).e = 0 → FitS ⟨(commitW t.d t.n t.sk l).d, (commitW t.d t.n t.sk l).n, (commitW t.d t.n t.sk l).sk, applyT t.r l⟩) :
    Calls Tryz.prog 16 #[.pointer (some ⟨s, 0, none⟩), .slice A l.length c] w (StE w0 w p q g s most S X (commitS most t l)) := by
  obtain ⟨d, n, sk, r⟩ := t
  have hfn := hf.n
  have hfc := hf.d.c
  have hfl := hf.d.l
  have hfu := hf.d.u
  have hop := opsR_le hs
  simp only at hfn hfc hfl hfu hlen
  have hcm := wcommit_calls w p q d S n sk l A c h.lw.isD h.wal h.qS hr hs (ht.mod0 h.lw.base) (by omega) (by omega) (by omega) (by omega)
  have x1 : w.cell? ⟨s, 1, none⟩ = some (.pointer (some ⟨q, 0, none⟩)) := by rw [blk_cell h.mp.blk]; rfl
  obtain ⟨k, hk⟩ : ∃ k, k = commitW d n sk l := ⟨_, rfl⟩
  have hcs : commitS most ⟨d, n, sk, r⟩ l = if k.e = 0 then (afterS most ⟨k.d, k.n, k.sk, applyT r l⟩, 0) else (⟨k.d, k.n, k.sk, r⟩, k.e) := by rw [hk]; rfl
  simp only [← hk] at hcm hf2
  have HCM := Lib.hid hcm
  have HCS := Lib.hid hcs
  have HF2 := Lib.hid hf2
  have H := Lib.hid h
  have HR := Lib.hid hr
  have HA := Lib.hid hA
  have HS := Lib.hid hs
  have hris : Rises r := h.mp.twin.rises
  have HRIS := Lib.hid hris
  have HLEN := Lib.hid hlen
  have hnl := hr.2.1
  clear hcm hcs hf2 h hr hA hs hk hop hfn hfc hfl hfu hf ht hris hlen
  go_enter Tryz.func16, Tryz.ntmps16
  go_wp2_with fail
  refine HCM.out.mono ?_
  rintro e w1 ⟨rfl, hw1⟩
  obtain ⟨e5, he5⟩ : ∃ e, e = k.e := ⟨_, rfl⟩
  rw [← he5]
  by_cases h0 : e5 = 0
  case neg =>
    have hfin := H.out.ste hw1 k.e
    have hcs : commitS most ⟨d, n, sk, r⟩ l = (⟨k.d, k.n, k.sk, r⟩, k.e) := by rw [HCS.out, if_neg (by omega)]
    rw [← he5] at hfin hcs
    rw [← hcs] at hfin
    have HFIN := Lib.hid hfin
    have q0 : (((e5 : Nat) : Int) != 0) = true := bne_iff_ne.mpr (by omega)
    have q0' : (((e5 : Nat) : Int) == 0) = false := beq_eq_false_iff_ne.mpr (by omega)
    clear hfin hcs hw1 he5 h0 x1
    go_wp2_with fail
    go_ret
    exact HFIN.out
  subst h0
  obtain ⟨S1, h1, hm1, hn1⟩ := H.out.wto hw1
  simp only at h1
  have hr1 : Rd w1 3 A l.length (encOs l) := HR.out.modP hm1 (fun hp ad had hh => by
    obtain ⟨g1, g2, g3⟩ := HA.out hp ad had
    exact hh.elim g1 g3)
  have hAX : 0 < l.length → ∀ ad, A = some ad → ¬ X ad.block := fun hp ad had => (HA.out hp ad had).2.1
  have hcs : commitS most ⟨d, n, sk, r⟩ l = (afterS most ⟨k.d, k.n, k.sk, applyT r l⟩, 0) := by rw [HCS.out, if_pos he5.symm]
  have hfs := HF2.out he5.symm
  have x2 : w1.cell? ⟨s, 2, none⟩ = some (.pointer (some ⟨g, 0, none⟩)) := by rw [blk_cell h1.mp.blk]; rfl
  have x1' : w1.cell? ⟨s, 1, none⟩ = some (.pointer (some ⟨q, 0, none⟩)) := by rw [blk_cell h1.mp.blk]; rfl
  have x3 : w1.cell? ⟨s, 3, none⟩ = some (.int .i64 most) := by rw [blk_cell h1.mp.blk]; rfl
  have hsX := h1.mp.sX
  have hqX := h1.qX
  have hidx := h1.mp.idx
  have htw := h1.mp.twin
  have hlt1 := blk_lt h1.mp.blk
  have HM1 : Hid (Mod (fun j => S j ∨ X j ∨ j = q) w w1) := Lib.hid (hm1.mono (fun j _ hj => hj.elim .inl (fun e => .inr (.inr e))))
  have HN1 := Lib.hid hn1
  have H1 := Lib.hid h1
  have HCS2 := Lib.hid hcs
  have HFS := Lib.hid hfs
  have HR1 := Lib.hid hr1
  have HAX := Lib.hid hAX
  have HT0 := Lib.hid htw
  have HI0 := Lib.hid hidx
  clear hcs hfs hw1 h1 hm1 hn1 hr1 hAX x1 HCM HF2 HA HR htw hidx he5
  go_wp2_with fail
  go_loopw [7, 21] (fun ov i wr => ∃ (j : Nat) (x' : Ix) (X' : Nat → Prop), i = .int .i64 j ∧ j ≤ l.length ∧ IsX wr g x' X' ∧ Twin x' (applyT r (l.take j)) ∧ Mod X w1 wr ∧ (∀ k, X' k → X k ∨ w1.heap.size ≤ k)) (fun _ i _ => l.length - (intOf i).toNat)
  case atStart => exact ⟨0, x, X, rfl, by omega, HI0.out, by rw [List.take_zero, applyT_nil HRIS.out]; exact HT0.out, Mod.refl _ _, fun k hk => .inl hk⟩
  case round =>
    obtain ⟨j, x', X', rfl, hj, hix, htw, hm, hn⟩ := hrel
    have hrl : (applyT r (l.take j)).length ≤ 1000000 := by have := len_apply HRIS.out (l.take j); have := HLEN.out; rw [List.length_take] at *; omega
    have hrm := htw.room hrl
    by_cases hlt : j < l.length
    · obtain ⟨ad, rfl, h0, hkc⟩ := Rd.elem (f := encO) (fun _ => rfl) (HR1.out.modP hm HAX.out) (by decide) j hlt
      have g0 := h0 _ rfl
      have g1 := hkc 1 _ (by decide) (by decide) rfl
      have g2 := hkc 2 _ (by decide) (by decide) rfl
      have hks := HS.out l[j] (List.getElem_mem _)
      have htk := take_snoc hlt
      obtain ⟨o, ho⟩ : ∃ o, o = l[j] := ⟨_, rfl⟩
      rw [← ho] at g0 g1 g2 hks htk
      obtain ⟨del, ok, ov2⟩ := o
      simp only at g0 g1 g2 hks
      have hap : applyT r (l.take (j + 1)) = applyT (applyT r (l.take j)) [⟨del, ok, ov2⟩] := by rw [htk, applyT_append]
      clear h0 hkc ho htk
      obtain ⟨m, hmm⟩ : ∃ m, m = applyT r (l.take j) := ⟨_, rfl⟩
      rw [← hmm] at htw hap hrl
      obtain ⟨wB, hwB⟩ : ∃ wB, wB = wr.alloc (.cells #[.bool del, .string ok, .string ov2] 49) := ⟨_, rfl⟩
      have hal : Mod NoneB wr wB := by rw [hwB]; exact (Mod.refl NoneB wr).alloc _
      have hbk : wB.heap[wr.heap.size]? = some (.cells #[.bool del, .string ok, .string ov2] 49 (0, 0)) := by rw [hwB]; exact heap_alloc_new wr _
      have HWB := Lib.hid hwB
      clear hwB hmm
      have d0 : wB.cell? ⟨wr.heap.size, 0, none⟩ = some (.bool del) := blk_cell hbk 0
      have d1 : wB.cell? ⟨wr.heap.size, 1, none⟩ = some (.string ok) := blk_cell hbk 1
      have d2 : wB.cell? ⟨wr.heap.size, 2, none⟩ = some (.string ov2) := blk_cell hbk 2
      have s2 : wB.cell? ⟨s, 2, none⟩ = some (.pointer (some ⟨g, 0, none⟩)) := hal.cell0 (hm.cell x2 hsX)
      have hXB := hix.mod0 ((Mod.refl NoneB wr).then0 hal |>.drew)
      have hmB : Mod X w1 wB.drew := hm.trans (hal.drew.mono (fun _ _ h => h.elim)) (fun _ _ h => h)
      have hsz : ∀ kk, wB.drew.heap.size ≤ kk → w1.heap.size ≤ kk := fun kk hkk => Nat.le_trans hmB.size hkk
      -- one more round behind a step of the index
      have hround : ∀ (x2 : Ix) (w' : World), Twin x2 (applyT m [⟨del, ok, ov2⟩]) → XStep wB.drew X' g x2 w' → ∃ X2, IsX w' g x2 X2 ∧ Twin x2 (applyT r (l.take (j + 1))) ∧ Mod X w1 w' ∧ ∀ kk, X2 kk → X kk ∨ w1.heap.size ≤ kk := by
        rintro x2 w' ht2 ⟨X2, k1, k2, k3⟩
        refine ⟨X2, k1, by rw [hap]; exact ht2, hmB.trans k2 (fun kk hk hx => (hn kk hx).elim id (fun hh => absurd hk (Nat.not_lt.2 hh))), fun kk hx => (k3 kk hx).elim (hn kk) (fun hh => .inr (hsz kk hh))⟩
      have HRO := Lib.hid hround
      have hput := xput_calls wB.drew g x' X' ok ov2 hXB hrm (by omega)
      have hdel := xdel_calls wB.drew g x' X' ok hXB hrm (by omega) (fun hh => ix_one htw.ok ok hh)
      have HPUT := Lib.hid hput
      have HDEL := Lib.hid hdel
      have htp := htw.put ok ov2
      have htd := htw.del ok
      rw [← apply_put htw.rises] at htp
      rw [← apply_del1 htw.rises ok ov2] at htd
      have HTP := Lib.hid htp
      have HTD := Lib.hid htd
      obtain ⟨gg, hgg⟩ : ∃ gg, gg = wr.heap.size := ⟨_, rfl⟩
      have HGG := Lib.hid hgg
      rw [← hgg] at d0 d1 d2
      clear hround hput hdel htp htd hix htw hm hn hrm hXB hmB hsz hal hbk hks hap hrl hgg
      cases del with
      | false =>
        go_wp2_with fail
        rw [← HWB.out, ← HGG.out]
        go_wp2_with fail
        refine wp_region_still_tail 8 (by kernel_rfl) (by kernel_rfl) ?_
        simp only [List.take_succ_cons, List.take_zero, List.drop_succ_cons, List.drop_zero]
        repeat still_step
        refine wpStill_nil ?_
        change wpList _ _ _ _ _ wB.drew
        go_wp2_with fail
        refine HPUT.out.mono ?_
        rintro ez wz ⟨rfl, hst⟩
        obtain ⟨X2, e1, e2, e3, e4⟩ := HRO.out _ _ HTP.out hst
        clear hst HPUT HDEL HRO HTP HTD
        go_wp2_with fail
        go_roundw
        case rel => exact ⟨j + 1, _, X2, by go_num, by omega, e1, e2, e3, e4⟩
        case measure => simp only [intOf]; go_num
      | true =>
        go_wp2_with fail
        rw [← HWB.out, ← HGG.out]
        go_wp2_with fail
        refine wp_region_still_tail 6 (by kernel_rfl) (by kernel_rfl) ?_
        simp only [List.take_succ_cons, List.take_zero, List.drop_succ_cons, List.drop_zero]
        repeat still_step
        refine wpStill_nil ?_
        change wpList _ _ _ _ _ wB.drew
        go_wp2_with fail
        refine HDEL.out.mono ?_
        rintro ez wz ⟨rfl, hst⟩
        obtain ⟨X2, e1, e2, e3, e4⟩ := HRO.out _ _ HTD.out hst
        clear hst HPUT HDEL HRO HTP HTD
        go_wp2_with fail
        go_roundw
        case rel => exact ⟨j + 1, _, X2, by go_num, by omega, e1, e2, e3, e4⟩
        case measure => simp only [intOf]; go_num
    · have hjl : j = l.length := by omega
      subst hjl
      rw [List.take_length] at htw
      have h2 := H1.out.idx hix htw hm hn
      simp only at h2
      have y1 : wr.cell? ⟨s, 1, none⟩ = some (.pointer (some ⟨q, 0, none⟩)) := hm.cell x1' hsX
      have y3 : wr.cell? ⟨s, 3, none⟩ = some (.int .i64 most) := hm.cell x3 hsX
      have hm2 : Mod (fun j => S j ∨ X j ∨ j = q) w wr := HM1.out.trans hm (fun kk _ hk => .inr (.inl hk))
      have hX2 : ∀ kk, X' kk → X kk ∨ w.heap.size ≤ kk := fun kk hk => (hn kk hk).imp id (Nat.le_trans HM1.out.size)
      have hd2 : Mod (fun j => S j ∨ X j ∨ j = q) w wr.drew := hm2.trans (((Mod.refl NoneB wr).drew).mono (fun _ _ h => h.elim)) (fun _ _ hk => hk)
      have h2d := h2.mod0 ((Mod.refl NoneB wr).drew)
      have hsize := wsize_calls wr.drew p q k.n k.sk h2d.wal
      have y1d : wr.drew.cell? ⟨s, 1, none⟩ = some (.pointer (some ⟨q, 0, none⟩)) := y1
      have y3d : wr.drew.cell? ⟨s, 3, none⟩ = some (.int .i64 most) := y3
      by_cases hmo : most < (k.n : Int)
      · have haf : afterS most ⟨k.d, k.n, k.sk, applyT r l⟩ = (checkS ⟨k.d, k.n, k.sk, applyT r l⟩).1 := if_pos hmo
        have hck := scheck_calls h2d HFS.out
        have HCK := Lib.hid hck
        have HAF := Lib.hid haf
        have HFIN : Hid (∀ e w', StE w0 wr.drew p q g s most S1 X' (checkS ⟨k.d, k.n, k.sk, applyT r l⟩) e w' → StE w0 w p q g s most S X (commitS most ⟨d, n, sk, r⟩ l) (.returned (.int .i64 0)) w') := Lib.hid fun e w' hh => by
          obtain ⟨_, hh⟩ := StE.after hd2 HN1.out hX2 hh
          rw [HCS2.out, HAF.out]
          exact ⟨rfl, hh⟩
        clear h2 h2d hm2 hX2 hd2 hck haf hix htw hm hn hrm hrl
        go_wp2_with fail
        refine wp_region_still_tail 9 (by kernel_rfl) (by kernel_rfl) ?_
        simp only [List.take_succ_cons, List.take_zero, List.drop_succ_cons, List.drop_zero]
        repeat (first | still_step | still_call hsize)
        refine wpStill_nil ?_
        change wpList _ _ _ _ _ wr.drew
        go_wp2_with fail
        refine HCK.out.mono ?_
        rintro ez wz hz
        have hz2 := HFIN.out _ _ hz
        obtain ⟨rfl, _⟩ := hz
        have HZ := Lib.hid hz2
        clear hz2
        go_wp2_with fail
        go_ret
        exact HZ.out
      · have haf : afterS most ⟨k.d, k.n, k.sk, applyT r l⟩ = ⟨k.d, k.n, k.sk, applyT r l⟩ := if_neg hmo
        have hfin : StE w0 w p q g s most S X (commitS most ⟨d, n, sk, r⟩ l) (.returned (.int .i64 0)) wr.drew := by
          rw [HCS2.out, haf]
          exact ⟨rfl, x', S1, X', h2d, hd2, HN1.out, hX2⟩
        have HFIN := Lib.hid hfin
        clear h2 h2d hm2 hX2 hd2 haf hix htw hm hn hrm hrl hfin
        go_wp2_with fail
        refine wp_region_still_tail 9 (by kernel_rfl) (by kernel_rfl) ?_
        simp only [List.take_succ_cons, List.take_zero, List.drop_succ_cons, List.drop_zero]
        repeat (first | still_step | still_call hsize)
        refine wpStill_nil ?_
        change wpList _ _ _ _ _ wr.drew
        go_wp2_with fail
        go_ret
        exact HFIN.out
end Go.Proofs.YtnlmfmceogbomaaGreatDoor

/- The store: Open. -/
namespace Go.Proofs.YtnlmfmceogbomaaGreatDoor
open Go.RowKit
set_option linter.unusedVariables false

theorem putT_end (k v : ByteArray) : ∀ (m : List Pr), (∀ p ∈ m, cmpS p.k k < 0) → putT m k v = m ++ [⟨k, v⟩]
  | [], _ => rfl
  | p :: m, h => by rw [putT_cons, if_pos (h p (List.mem_cons_self ..)), putT_end k v m (fun q hq => h q (List.mem_cons_of_mem _ hq))]; rfl
theorem put_take {r : List Pr} (h : Rises r) (j : Nat) (hj : j < r.length) : putT (r.take j) r[j].k r[j].v = r.take (j + 1) := by
  rw [List.take_succ_eq_append_getElem hj]
  refine putT_end _ _ _ fun p hp => ?_
  obtain ⟨i, hi, rfl⟩ := List.getElem_of_mem hp
  rw [List.length_take] at hi
  rw [List.getElem_take]
  exact List.pairwise_iff_getElem.1 h i j (by omega) hj (by omega)
/-- Behind Open. -/
def SoE (w0 w : World) (p : Nat) (most : Int) (d : Dk) (S : Nat → Prop) (e : Ending) (w' : World) : Prop :=
  ∃ S', Lw w0 w' p (openK d) S' ∧ Mod S w w' ∧ (∀ j, S' j → S j ∨ w.heap.size ≤ j) ∧
    ((openE d = 0 ∧ ∃ q g s x X, e = .returned (.tuple #[.pointer (some ⟨s, 0, none⟩), .int .i64 0]) ∧ StAt w0 w' p q g s (max most 0) (openS d) x S' X ∧ w.heap.size ≤ q ∧ w.heap.size ≤ s ∧ ∀ j, X j → w.heap.size ≤ j) ∨
     (openE d ≠ 0 ∧ e = .returned (.tuple #[.pointer none, .int .i64 (openE d)])))

set_option maxHeartbeats 8000000 in
set_option maxRecDepth 100000 in
theorem sopen_calls {w0 w : World} {p : Nat} {d : Dk} {S : Nat → Prop} (h : Lw w0 w p d S) (ht : TabW w0) (hf : FitL d) (most : Int)
    (hok : openE d = 0 → SmallP (openS d).r ∧ Rises (loadR d).1 ∧ (loadR d).1.length + (logL d).flatten.length ≤ 1000000000) :
    Calls Tryz.prog 14 #[.pointer (some ⟨p, 0, none⟩), .int .i64 most] w (SoE w0 w p most d S) := by
  have hfc := hf.c
  have hfl := hf.l
  have hfu := hf.u
  have hld := load_step w p d S h.isD ⟨by omega, by omega, by omega⟩ (by omega)
  have hT : ¬ S 1 := fun hk => by have := h.own _ hk; have := ht.lt; omega
  have hop : ∀ w1, Mod NoneB w w1 → Calls Tryz.prog 36 #[.pointer (some ⟨p, 0, none⟩)] w1 (OpenE w1 S p d) := fun w1 hm =>
    wopen_calls w1 p d S (h.isD.mod0 hm) ((ht.mod0 h.base).mod0 hm) hT (by omega) (by omega) (by omega) (by have := logB_le d; omega)
  have heE : openE d = if (loadR d).2 ≠ 0 then (loadR d).2 else (openD d).2 := rfl
  have heK : openK d = if (loadR d).2 ≠ 0 then d else (openD d).1 := rfl
  have heR : (openS d).r = (logL d).foldl applyT (loadR d).1 := rfl
  obtain ⟨ld, hldE⟩ : ∃ ld, ld = loadR d := ⟨_, rfl⟩
  rw [← hldE] at hld heE heK heR hok
  have HLD := Lib.hid hld
  have HOP := Lib.hid hop
  have HEE := Lib.hid heE
  have HEK := Lib.hid heK
  have HER := Lib.hid heR
  have HOK := Lib.hid hok
  have H := Lib.hid h
  clear hld hop heE heK heR hok h ht hf hfc hfl hfu hldE
  obtain ⟨base, le⟩ := ld
  simp only at HEE HEK HER HOK
  go_enter Tryz.func14, Tryz.ntmps14
  go_wp2_with fail
  refine HLD.out.mono ?_
  rintro e w1 ⟨v, rfl, hov, hm1, hn1⟩
  simp only at hov
  by_cases hle : le = 0
  case neg =>
    have e1 : openE d = le := by rw [HEE.out, if_pos hle]
    have e2 : openK d = d := by rw [HEK.out, if_pos hle]
    have hfin : SoE w0 w p most d S (.returned (.tuple #[.pointer none, .int .i64 le])) w1 := ⟨S, by rw [e2]; exact H.out.mod0 hm1, hm1.mono (fun _ _ h => h.elim), fun j hj => .inl hj, .inr ⟨by rw [e1]; exact hle, by rw [e1]⟩⟩
    have HFIN := Lib.hid hfin
    have q0 : (((le : Nat) : Int) != 0) = true := bne_iff_ne.mpr (by omega)
    have q0' : (((le : Nat) : Int) == 0) = false := beq_eq_false_iff_ne.mpr (by omega)
    clear hfin e1 e2 hov hm1 hn1
    go_wp2_with fail
    go_ret2
    exact HFIN.out
  subst hle
  have e1 : openE d = (openD d).2 := by rw [HEE.out, if_neg (by simp)]
  have e2 : openK d = (openD d).1 := by rw [HEK.out, if_neg (by simp)]
  have HE1 := Lib.hid e1
  have HE2 := Lib.hid e2
  clear HEE HEK e1 e2
  have hop := HOP.out w1 hm1
  have HOP1 := Lib.hid hop
  clear hop HOP
  go_wp2_with fail
  refine HOP1.out.mono ?_
  rintro e w2 ⟨S', hd2, hm2, hn2, ⟨ho, q, vl, vs, rfl, hq0, hqS, hqb, hbat, hvS, huS⟩ | ⟨ho, rfl⟩⟩
  case inr =>
    have hlw : Lw w0 w2 p (openD d).1 S' := (H.out.mod0 hm1).to hd2 hm2 (fun k hk => .inl hk) hn2
    have hfin : SoE w0 w p most d S (.returned (.tuple #[.pointer none, .int .i64 (openD d).2])) w2 := ⟨S', by rw [HE2.out]; exact hlw, (hm1.mono (fun _ _ h => h.elim)).trans hm2 (fun _ _ h => h), fun j hj => (hn2 j hj).imp id (Nat.le_trans hm1.size), .inr ⟨by rw [HE1.out]; exact ho, by rw [HE1.out]⟩⟩
    obtain ⟨oe, hoe⟩ : ∃ oe, oe = (openD d).2 := ⟨_, rfl⟩
    rw [← hoe] at hfin ho ⊢
    have HFIN := Lib.hid hfin
    have q0 : (((oe : Nat) : Int) != 0) = true := bne_iff_ne.mpr (by omega)
    have q0' : (((oe : Nat) : Int) == 0) = false := beq_eq_false_iff_ne.mpr (by omega)
    clear hfin hlw hov hm1 hm2 hn1 hn2 hd2 hoe
    go_wp2_with fail
    go_ret2
    exact HFIN.out
  obtain ⟨hsm, hbr, hsz⟩ := HOK.out (by rw [HE1.out]; exact ho)
  rw [HER.out] at hsm
  have hris : Rises ((logL d).foldl applyT base) := by rw [fold_applyT _ hbr]; exact rises_applyT _ _
  have HBR := Lib.hid hbr
  have HO := Lib.hid ho
  -- what was loaded stays beside the log
  have hov2 : Own w2 88 2 v base.length (encPs base) := hov.mod hm2 (fun g' hg hS => by
    have h1 := hn1 g' hg
    exact H.out.isD.notS h1 hS)
  have hvlt : ∀ g', v.ownBlock = some g' → g' < w2.heap.size := fun g' hg => hov2.lt hg
  have hvN : ∀ g', v.ownBlock = some g' → w.heap.size ≤ g' := hn1
  have hlw : Lw w0 w2 p (openD d).1 S' := (H.out.mod0 hm1).to hd2 hm2 (fun k hk => .inl hk) hn2
  have hm02 : Mod S w w2 := (hm1.mono (fun _ _ h => h.elim)).trans hm2 (fun _ _ h => h)
  have hn02 : ∀ j, S' j → S j ∨ w.heap.size ≤ j := fun j hj => (hn2 j hj).imp id (Nat.le_trans hm1.size)
  have hqN : w.heap.size ≤ q := Nat.le_trans hm1.size hq0
  obtain ⟨Al, cl, rfl, hlc, _, hrl⟩ := hbat.own.out
  have hlenv := hbat.len
  have HLW := Lib.hid hlw
  have HM02 := Lib.hid hm02
  have HN02 := Lib.hid hn02
  have HQB := Lib.hid hqb
  have HBAT := Lib.hid hbat
  have HOV2 := Lib.hid hov2
  have HVLT := Lib.hid hvlt
  have HVN := Lib.hid hvN
  have HRL := Lib.hid hrl
  have HSM := Lib.hid hsm
  have HRIS := Lib.hid hris
  have HSZ := Lib.hid hsz
  have HQS := Lib.hid hqS
  clear hlw hm02 hn02 hqb hbat hov2 hov hvlt hvN hrl hsm hris hsz hqS hm1 hm2 hn1 hn2 hd2 hvS huS ho HOK hbr
  go_wp2_with fail
  refine (xnew_calls 64 w2).mono ?_
  rintro e w3 ⟨g, X0, kb, rfl, hkb0, hkb1, hX0, hm3, hN3⟩
  have ht0 : Twin (newX kb) [] := ⟨IxOk.new hkb0, rises_nil, fun key => by rw [getX_new hkb0]; rfl, by simp [newX]; omega⟩
  have hbx := box1 w3 (sblk p q g (max most 0))
  have hal : Mod NoneB w3 (w3.alloc (sblk p q g (max most 0))) := (Mod.refl NoneB w3).alloc _
  obtain ⟨s, hs⟩ : ∃ r, r = w3.heap.size := ⟨_, rfl⟩
  obtain ⟨w4, hw4⟩ : ∃ x, x = w3.alloc (sblk p q g (max most 0)) := ⟨_, rfl⟩
  have HEQ : Hid (s = w3.heap.size ∧ w4 = w3.alloc (.cells #[.pointer (some ⟨p, 0, none⟩), .pointer (some ⟨q, 0, none⟩), .pointer (some ⟨g, 0, none⟩), .int .i64 (max most 0)] 86)) := Lib.hid ⟨hs, hw4⟩
  rw [← hs, ← hw4] at hbx
  rw [← hw4] at hal
  have hm24 : Mod NoneB w2 w4 := hm3.then0 hal
  have hX4 := hX0.mod0 hal
  have hXlt : ∀ j, X0 j → j < s := fun j hj => by rw [hs]; exact hX0.lt hj
  have hs3 : w3.heap.size ≤ s := by omega
  have hsX : ¬ X0 s := fun hh => by have := hXlt s hh; omega
  have hx2 : w4.cell? ⟨s, 2, none⟩ = some (.pointer (some ⟨g, 0, none⟩)) := by rw [blk_cell hbx]; rfl
  have HT0 := Lib.hid ht0
  have HM24 := Lib.hid hm24
  have HX4 := Lib.hid hX4
  have HXLT := Lib.hid hXlt
  have HN3 := Lib.hid hN3
  have HM3 := Lib.hid hm3
  have HBX := Lib.hid hbx
  have hs2 : w2.heap.size ≤ s := Nat.le_trans hm3.size hs3
  have hnl : (logL d).length ≤ 9223372036854775807 := HRL.out.2.1
  clear ht0 hm24 hX4 hXlt hN3 hm3 hbx hX0 hal hs hw4 hkb0 hkb1
  go_wp2_with fail
  rw [← HEQ.out.2, ← HEQ.out.1]
  clear HEQ
  go_wp2_with fail
  go_loopw [6, 12, 41] (fun lv bv i wr => ∃ (j : Nat) (m : List Pr), i = .int .i64 j ∧ j ≤ (logL d).length ∧ m = ((logL d).take j).foldl applyT base ∧ Rises m ∧ m.length ≤ base.length + ((logL d).take j).flatten.length ∧ OwnP w.heap.size wr lv m ∧ Mod NoneB w4 wr ∧ (∀ g', lv.ownBlock = some g' → ¬ X0 g')) (fun _ _ i _ => (logL d).length - (intOf i).toNat)
  case atStart =>
    refine ⟨0, base, rfl, by omega, by simp, HBR.out, by simp, ⟨HOV2.out.mod0 HM24.out, HVN.out⟩, Mod.refl _ _, fun g' hg hx => ?_⟩
    have h1 := HN3.out g' hx
    have h2 := HVLT.out g' hg
    omega
  case round =>
    obtain ⟨j, m, rfl, hj, hmE, hrm0, hml, hown, hm, hnX⟩ := hrel
    obtain ⟨A, c, rfl, hlc2, _, hrd⟩ := hown.own.out
    by_cases hlt : j < (logL d).length
    · obtain ⟨ad, rfl, h0⟩ := HRL.out.one j (by rw [hlenv]; exact hlt)
      obtain ⟨B, cB, eB, _, _, hrB⟩ := (HBAT.out.ent j hlt (by rw [hlenv]; exact hlt)).out
      rw [eB] at h0
      have g0 := hm.cell0 (HM24.out.cell0 h0)
      have hrB2 := (hrB.mod0 HM24.out).mod0 hm
      have hfl : ((logL d).take j).flatten.length + (logL d)[j].length ≤ (logL d).flatten.length := by
        have e : ((logL d).take (j + 1)).flatten.length = ((logL d).take j).flatten.length + (logL d)[j].length := by rw [List.take_succ_eq_append_getElem hlt, List.flatten_append, List.length_append]; simp
        rw [← e]
        conv => rhs; rw [← List.take_append_drop (j + 1) (logL d), List.flatten_append, List.length_append]
        omega
      have htk : ((logL d).take (j + 1)).foldl applyT base = applyT m (logL d)[j] := by rw [List.take_succ_eq_append_getElem hlt, List.foldl_append, ← hmE]; rfl
      have htl : ((logL d).take (j + 1)).flatten.length = ((logL d).take j).flatten.length + (logL d)[j].length := by rw [List.take_succ_eq_append_getElem hlt, List.flatten_append, List.length_append]; simp
      obtain ⟨o, ho⟩ : ∃ o, o = (logL d)[j] := ⟨_, rfl⟩
      rw [← ho] at g0 hrB2 hfl htk htl
      have hap := apply_calls m o A B c cB wr hrd hrB2 (by have := HSZ.out; omega)
      have hlen' : (applyT m o).length ≤ base.length + ((logL d).take (j + 1)).flatten.length := by have h1 := len_apply hrm0 o; omega
      have HLEN := Lib.hid hlen'
      have HAP := Lib.hid hap
      have HTK := Lib.hid htk
      have HTL := Lib.hid htl
      have HML := Lib.hid hml
      have hwN : w4.heap.size ≤ wr.heap.size := hm.size
      have HNXR := Lib.hid hnX
      clear hap htk htl hml hmE hrm0 h0 eB hrB hrB2 ho hown hrd hlen' hnX hfl
      go_wp2_with fail
      refine HAP.out.mono ?_
      rintro ez wz ⟨v', rfl, hov', hmz⟩
      have hm' := hm.then0 hmz
      have hbS : w.heap.size ≤ wr.heap.size := by have h1 := HM02.out.size; have h2 := HM24.out.size; omega
      have hov2 : OwnP w.heap.size wz v' (applyT m o) := ⟨hov'.own, fun g' hg => Nat.le_trans hbS (hov'.new g' hg)⟩
      have hnx2 : ∀ g', v'.ownBlock = some g' → ¬ X0 g' := fun g' hg hx => by
        have h1 := HXLT.out g' hx
        have h2 := hov'.new g' hg
        have h3 := blk_lt HBX.out
        omega
      have H2 := Lib.hid hov2
      have H3 := Lib.hid hnx2
      have H4 := Lib.hid hm'
      clear hov' hov2 hnx2 hm' hm hmz HAP HNXR
      go_wp2_with fail
      go_roundw
      case rel => exact ⟨j + 1, applyT m o, by go_num, by omega, HTK.out.symm, rises_applyT _ _, HLEN.out, H2.out, H4.out, H3.out⟩
      case measure => simp only [intOf]; go_num
    · have hjl : j = (logL d).length := by omega
      subst hjl
      rw [List.take_length] at hmE
      have hsm := HSM.out
      have hris := HRIS.out
      rw [← hmE] at hsm hris
      have her := HER.out
      rw [← hmE] at her
      have hnX2 : ∀ ad, 0 < m.length → A = some ad → ¬ X0 ad.block := fun ad hp had => by
        subst had
        exact hnX ad.block rfl
      have hml1 := hsm.1
      have hx2r := hm.cell0 hx2
      have HSM2 := Lib.hid hsm
      have HRIS2 := Lib.hid hris
      have HER2 := Lib.hid her
      have HRD := Lib.hid hrd
      have HM := Lib.hid hm
      have HNX2 := Lib.hid hnX2
      have hnm := hrd.2.1
      clear hmE hrm0 hml hown hnX hsm hris her hrd hm hnX2 HSM HRIS HER HBAT HRL HOV2 HVLT HVN HSZ
      obtain ⟨wy, hwy⟩ : ∃ y, y = wr := ⟨_, rfl⟩
      subst hwy
      go_wp2_with fail
      go_loopw [14, 51] (fun pv i wr => ∃ (j : Nat) (x' : Ix) (X' : Nat → Prop), i = .int .i64 j ∧ j ≤ m.length ∧ IsX wr g x' X' ∧ Twin x' (m.take j) ∧ Mod X0 wy wr ∧ (∀ kk, X' kk → X0 kk ∨ wy.heap.size ≤ kk)) (fun _ i _ => m.length - (intOf i).toNat)
      case atStart => exact ⟨0, newX kb, X0, rfl, by omega, HX4.out.mod0 HM.out, by rw [List.take_zero]; exact HT0.out, Mod.refl _ _, fun kk hk => .inl hk⟩
      case round =>
        obtain ⟨j, x', X', rfl, hj, hix, htw, hmx, hnx⟩ := hrel
        have hrm := htw.room (by rw [List.length_take]; omega)
        by_cases hlt : j < m.length
        · obtain ⟨ad, rfl, h0, hkc⟩ := Rd.elem (f := encP) (fun _ => rfl) (HRD.out.modP hmx (fun hp ad had => HNX2.out ad hp had)) (by decide) j hlt
          have g0 := h0 _ rfl
          have g1 := hkc 1 _ (by decide) (by decide) rfl
          have hks := HSM2.out.2 m[j] (List.getElem_mem _)
          have htk := put_take HRIS2.out j hlt
          obtain ⟨o, ho⟩ : ∃ o, o = m[j] := ⟨_, rfl⟩
          rw [← ho] at g0 g1 hks htk
          obtain ⟨pk, pv⟩ := o
          simp only at g0 g1 hks htk
          clear h0 hkc ho
          obtain ⟨wB, hwB⟩ : ∃ wB, wB = wr.alloc (.cells #[.string pk, .string pv] 88) := ⟨_, rfl⟩
          have hal : Mod NoneB wr wB := by rw [hwB]; exact (Mod.refl NoneB wr).alloc _
          have hbk : wB.heap[wr.heap.size]? = some (.cells #[.string pk, .string pv] 88 (0, 0)) := by rw [hwB]; exact heap_alloc_new wr _
          have HWB := Lib.hid hwB
          clear hwB
          have d0 : wB.cell? ⟨wr.heap.size, 0, none⟩ = some (.string pk) := blk_cell hbk 0
          have d1 : wB.cell? ⟨wr.heap.size, 1, none⟩ = some (.string pv) := blk_cell hbk 1
          have s2 : wB.cell? ⟨s, 2, none⟩ = some (.pointer (some ⟨g, 0, none⟩)) := hal.cell0 (hmx.cell hx2r hsX)
          have hXB := hix.mod0 hal.drew
          have hmB : Mod X0 wy wB.drew := hmx.trans (hal.drew.mono (fun _ _ h => h.elim)) (fun _ _ h => h)
          have hround : ∀ (x2 : Ix) (w' : World), Twin x2 (putT (m.take j) pk pv) → XStep wB.drew X' g x2 w' → ∃ X2, IsX w' g x2 X2 ∧ Twin x2 (m.take (j + 1)) ∧ Mod X0 wy w' ∧ ∀ kk, X2 kk → X0 kk ∨ wy.heap.size ≤ kk := by
            rintro x2 w' ht2 ⟨X2, k1, k2, k3⟩
            refine ⟨X2, k1, by rw [← htk]; exact ht2, hmB.trans k2 (fun kk hk hx => (hnx kk hx).elim id (fun hh => absurd hk (Nat.not_lt.2 hh))), fun kk hx => (k3 kk hx).elim (hnx kk) (fun hh => .inr (Nat.le_trans hmB.size hh))⟩
          have HRO := Lib.hid hround
          have hput := xput_calls wB.drew g x' X' pk pv hXB hrm (by omega)
          have HPUT := Lib.hid hput
          have htp := htw.put pk pv
          have HTP := Lib.hid htp
          obtain ⟨gg, hgg⟩ : ∃ gg, gg = wr.heap.size := ⟨_, rfl⟩
          have HGG := Lib.hid hgg
          rw [← hgg] at d0 d1
          clear hround hput htp hix htw hmx hnx hrm hXB hmB hal hbk hks htk hgg
          go_wp2_with fail
          rw [← HWB.out, ← HGG.out]
          go_wp2_with fail
          refine wp_region_still_tail 8 (by kernel_rfl) (by kernel_rfl) ?_
          simp only [List.take_succ_cons, List.take_zero, List.drop_succ_cons, List.drop_zero]
          repeat still_step
          refine wpStill_nil ?_
          change wpList _ _ _ _ _ wB.drew
          go_wp2_with fail
          refine HPUT.out.mono ?_
          rintro ez wz ⟨rfl, hst⟩
          obtain ⟨X2, e1, e2, e3, e4⟩ := HRO.out _ _ HTP.out hst
          clear hst HPUT HRO HTP
          go_wp2_with fail
          go_roundw
          case rel => exact ⟨j + 1, _, X2, by go_num, by omega, e1, e2, e3, e4⟩
          case measure => simp only [intOf]; go_num
        · have hjl : j = m.length := by omega
          subst hjl
          rw [List.take_length] at htw
          have hm4 : Mod NoneB w2 wy := HM24.out.then0 HM.out
          have hNX : ∀ kk, X' kk → w2.heap.size ≤ kk := fun kk hk => (hnx kk hk).elim (HN3.out kk) (Nat.le_trans hm4.size)
          have hsr : s < wy.heap.size := Nat.lt_of_lt_of_le (blk_lt HBX.out) HM.out.size
          have hqlt : q < w2.heap.size := blk_lt HQB.out
          have hm2x : Mod X0 w2 wr := (hm4.mono (fun _ _ h => h.elim)).trans hmx (fun _ _ h => h)
          have hX2not : ∀ kk, X0 kk → ¬ S' kk ∧ w0.heap.size ≤ kk := fun kk hk => ⟨HLW.out.isD.notS (HN3.out kk hk), Nat.le_trans HLW.out.base.size (HN3.out kk hk)⟩
          have hN2 : w0.heap.size ≤ w2.heap.size := HLW.out.base.size
          have hN00 : w0.heap.size ≤ w.heap.size := H.out.base.size
          have hfin : SoE w0 w p most d S (.returned (.tuple #[.pointer (some ⟨s, 0, none⟩), .int .i64 0])) wr := by
            refine ⟨S', by rw [HE2.out]; exact HLW.out.modX hm2x hX2not, HM02.out.trans hm2x (fun kk hk hx => absurd hk (Nat.not_lt.2 (Nat.le_trans HM02.out.size (HN3.out kk hx)))), HN02.out, .inl ⟨by rw [HE1.out]; exact HO.out, q, g, s, x', X', rfl, ⟨HLW.out.modX hm2x hX2not, hm2x.blk HQB.out (fun hx => by have := HN3.out q hx; omega), ⟨hmx.blk (HM.out.blk HBX.out (fun h => h)) hsX, hix, ?_, by omega, fun kk hk => Nat.le_trans hN2 (hNX kk hk), fun hx => ?_⟩, by omega, HQS.out, fun hx => ?_, fun hx => ?_, by omega, fun kk hk hx => ?_⟩, hqN, Nat.le_trans HM02.out.size hs2, fun kk hk => Nat.le_trans HM02.out.size (hNX kk hk)⟩⟩
            · show Twin x' (openS d).r
              rw [HER2.out]
              exact htw
            · exact (hnx s hx).elim hsX (fun hh => by omega)
            · have := hNX q hx; omega
            · have := HLW.out.isD.lt hx; omega
            · have h1 := hNX kk hx
              have h2 := HLW.out.isD.lt hk
              omega
          have HFIN := Lib.hid hfin
          clear hfin hix htw hmx hnx hm4 hNX hm2x hX2not
          go_wp2_with fail
          go_ret2
          exact HFIN.out
end Go.Proofs.YtnlmfmceogbomaaGreatDoor

/- The store in a law's own world: what an opening, a commit, a check make of it, with what stays told. -/
namespace Go.Proofs.YtnlmfmceogbomaaGreatDoor
open Go.RowKit
set_option linter.unusedVariables false

theorem bytesO_le {l : List Op3} (hl : wtO l ≤ 5000) : (opsR l).1.length ≤ 26100 ∧ (rightO l → (bytesO l).length ≤ 26100) := by
  constructor
  · unfold opsR
    split
    · rename_i h; exact bytesO_len h hl
    · exact Nat.zero_le _
  · exact fun h => bytesO_len h hl
theorem wS_small1 {r : List Pr} (h : wS r ≤ 1000000) : SmallP r := ⟨by have := wS_len r; omega, fun p hp => by have := wS_mem hp; omega⟩
theorem small_wt {l : List Op3} (h : wtO l ≤ 5000) : SmallO l := by
  induction l with
  | nil => intro o ho; cases ho
  | cons o l ih =>
    have e : wtO (o :: l) = wtOE o + wtO l := rfl
    rw [e] at h
    intro u hu
    rcases List.mem_cons.1 hu with rfl | hu
    · unfold wtOE at h; omega
    · exact ih (by omega) u hu
theorem len_wt (l : List Op3) : l.length ≤ wtO l := by
  induction l with
  | nil => simp
  | cons o l ih =>
    have e : wtO (o :: l) = wtOE o + wtO l := rfl
    rw [e, List.length_cons]
    unfold wtOE
    omega
/-- A disk that no store holds; what may be told of it. -/
structure Sp (w0 w : World) (p : Nat) (d : Dk) (S : Nat → Prop) (r : List Pr) (more : Option (List Op3)) (B T : Nat) : Prop where
  lw : Lw w0 w p d S
  on : Shut d r more B T
/-- A store that is open. -/
structure So (w0 w : World) (p q g s : Nat) (most : Int) (t : St) (x : Ix) (S X : Nat → Prop) (more : Option (List Op3)) (B T : Nat) : Prop where
  at_ : StAt w0 w p q g s most t x S X
  inv : Inv t more B T
theorem Shut.fit {d : Dk} {r : List Pr} {more : Option (List Op3)} {B T : Nat} (h : Shut d r more B T) (hB : B ≤ 4000000) (hT : T ≤ 1048584) (hc : d.c ≤ 900000) : FitL d := by
  obtain ⟨h1, h2⟩ := h.used
  exact ⟨by omega, by omega, by omega⟩
theorem Inv.fit {t : St} {more : Option (List Op3)} {B T : Nat} (h : Inv t more B T) (hB : B ≤ 4000000) (hT : T ≤ 1048584) (hc : t.d.c ≤ 900000) (hw : wS t.r ≤ 1000000) : FitS t := by
  exact ⟨h.shut.fit hB hT hc, by have := h.n; omega, wS_small1 hw⟩
theorem Inv.fit2 {t : St} {more : Option (List Op3)} {B T : Nat} (h : Inv t more B T) (hB : B ≤ 4000000) (hT : T ≤ 1048584) (hc : t.d.c ≤ 900000) (l : List Op3) (hl : wtO l ≤ 5000) (hw : wS (applyT t.r l) ≤ 1000000) :
    FitS ⟨(commitW t.d t.n t.sk l).d, (commitW t.d t.n t.sk l).n, (commitW t.d t.n t.sk l).sk, applyT t.r l⟩ := by
  obtain ⟨h1, h2⟩ := h.shut.used
  have hn := h.n
  have hb := (bytesO_le hl).1
  have hk : (commitW t.d t.n t.sk l).d.c ≤ t.d.c + 3 ∧ (commitW t.d t.n t.sk l).d.fs.length ≤ t.d.fs.length + 3 ∧ usedF (commitW t.d t.n t.sk l).d.fs ≤ usedF t.d.fs + (opsR l).1.length ∧ (commitW t.d t.n t.sk l).n ≤ t.n + (opsR l).1.length := by
    unfold commitW
    split
    · exact ⟨by simp, by simp, by simp, by simp⟩
    · have g1 := commit_small t.d t.n l
      have g2 := commit_used t.d t.n l
      exact ⟨g1.2, g2.1, g2.2.1, g2.2.2⟩
  exact ⟨⟨by show (commitW t.d t.n t.sk l).d.c ≤ _; omega, by show (commitW t.d t.n t.sk l).d.fs.length ≤ _; omega, by show usedF (commitW t.d t.n t.sk l).d.fs ≤ _; omega⟩, by show (commitW t.d t.n t.sk l).n ≤ _; omega, wS_small1 hw⟩
/-- Behind an opening. -/
structure OpD (w0 w w' : World) (p : Nat) (most : Int) (d : Dk) (S : Nat → Prop) (r : List Pr) (more : Option (List Op3)) (B T q g s : Nat) (x : Ix) (S' X : Nat → Prop) : Prop where
  so : So w0 w' p q g s (max most 0) (openS d) x S' X none B T
  ok : openE d = 0
  mod : Mod S w w'
  dn : openK d = (openS d).d
  newS : ∀ j, S' j → S j ∨ w.heap.size ≤ j
  newq : w.heap.size ≤ q
  news : w.heap.size ≤ s
  newX : ∀ j, X j → w.heap.size ≤ j
  map : (openS d).r = r ∨ ∃ l, more = some l ∧ rightO l ∧ SmallO l ∧ (openS d).r = applyT r l
def OpE (w0 w : World) (p : Nat) (most : Int) (d : Dk) (S : Nat → Prop) (r : List Pr) (more : Option (List Op3)) (B T : Nat) (e : Ending) (w' : World) : Prop :=
  (∃ q g s x S' X, e = .returned (.tuple #[.pointer (some ⟨s, 0, none⟩), .int .i64 0]) ∧ OpD w0 w w' p most d S r more B T q g s x S' X) ∨
  (openE d ≠ 0 ∧ e = .returned (.tuple #[.pointer none, .int .i64 (openE d)]) ∧ ∃ S', Sp w0 w' p (openK d) S' r more B T ∧ Mod S w w' ∧ ∀ j, S' j → S j ∨ w.heap.size ≤ j)
theorem Sp.open {w0 w : World} {p : Nat} {d : Dk} {S : Nat → Prop} {r : List Pr} {more : Option (List Op3)} {B T : Nat} (h : Sp w0 w p d S r more B T) (ht : TabW w0) (hB : B ≤ 4000000) (hT : T ≤ 1048584) (hc : d.c ≤ 900000) (hw : wS r ≤ 1000000) (hm : ∀ l, more = some l → wS (applyT r l) ≤ 1000000) (most : Int) :
    Calls Tryz.prog 14 #[.pointer (some ⟨p, 0, none⟩), .int .i64 most] w (OpE w0 w p most d S r more B T) := by
  obtain ⟨h1, h2, h3, h4, h5⟩ := h.on.opens
  have hsm : openE d = 0 → SmallP (openS d).r := fun h0 => by
    obtain ⟨_, _, _, e | ⟨l, e0, _, _, e⟩⟩ := h5 h0
    · rw [e]; exact wS_small1 hw
    · rw [e]; exact wS_small1 (hm l e0)
  refine (sopen_calls h.lw ht (h.on.fit hB hT hc) most (fun h0 => ⟨hsm h0, h.on.loads.2, by have := (h5 h0).2.2.1; omega⟩)).mono ?_
  rintro e w' ⟨S', g1, g2, g3, ⟨e0, q, g, s, x, X, rfl, g4, g5, g6, g7⟩ | ⟨e0, rfl⟩⟩
  · obtain ⟨k1, k2, _, k3⟩ := h5 e0
    exact .inl ⟨q, g, s, x, S', X, rfl, ⟨⟨g4, k2⟩, e0, g2, k1, g3, g5, g6, g7, k3⟩⟩
  · exact .inr ⟨e0, rfl, S', ⟨g1, h1⟩, g2, g3⟩
section
variable {w0 w w1 : World} {p q g s : Nat} {most : Int} {t : St} {x : Ix} {S X : Nat → Prop} {more : Option (List Op3)} {B T : Nat}
theorem So.mod0 (h : So w0 w p q g s most t x S X more B T) (hm : Mod NoneB w w1) : So w0 w1 p q g s most t x S X more B T := ⟨h.at_.mod0 hm, h.inv⟩
theorem So.commit (h : So w0 w p q g s most t x S X more B T) (ht : TabW w0) (hB : B ≤ 4000000) (hT : T ≤ 1048584) (hc : t.d.c ≤ 900000) (l : List Op3) (A : Option Addr) (c : Nat) (hr : Rd w 3 A l.length (encOs l))
    (hA : 0 < l.length → ∀ ad, A = some ad → ¬ S ad.block ∧ ¬ X ad.block ∧ ad.block ≠ q) (hl : wtO l ≤ 5000) (hw : wS t.r + wO l ≤ 1000000) :
    Calls Tryz.prog 16 #[.pointer (some ⟨s, 0, none⟩), .slice A l.length c] w (StE w0 w p q g s most S X (commitS most t l)) := by
  have h1 := wS_apply h.inv.rises l
  have h2 := wS_len t.r
  have h3 := len_wt l
  exact scommit_calls h.at_ ht (h.inv.fit hB hT hc (by omega)) l A c hr hA (small_wt hl) (by omega) (fun _ => h.inv.fit2 hB hT hc l hl (by omega))
end
end Go.Proofs.YtnlmfmceogbomaaGreatDoor
