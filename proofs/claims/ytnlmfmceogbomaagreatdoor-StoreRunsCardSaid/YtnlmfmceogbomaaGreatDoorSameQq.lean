/- The disk and the reference's disk side by side: each call of either in one line. -/
import Derived.Deep.RegionHeld3
import Derived.Test.YtnlmfmceogbomaaGreatDoorDkFsQq
import Derived.Test.YtnlmfmceogbomaaGreatDoorRdABQq
import Derived.Test.YtnlmfmceogbomaaGreatDoorRdDQq
namespace Go.Proofs.YtnlmfmceogbomaaGreatDoor
open Go.RowKit
set_option linter.unusedVariables false

/-- The disk d behind p, the reference's disk r behind q, in blocks newer than w0; none of G is theirs; all that was in w0 is as it was. -/
def Two (G : Nat → Prop) (w0 w : World) (p q : Nat) (d r : Dk) : Prop := ∃ R, Dx (fun k => k < w0.heap.size ∨ G k ∨ R k) w w p d ∧ IsR w0.heap.size w q r R ∧ (∀ k, R k → ¬ G k) ∧ Mod NoneB w0 w
/-- What a call may write. -/
def Free (G : Nat → Prop) (w0 : World) : Nat → Prop := fun k => w0.heap.size ≤ k ∧ ¬ G k
/-- Behind a call from w on. -/
structure TwoTo (G : Nat → Prop) (w0 w w' : World) (p q : Nat) (d r : Dk) : Prop where
  two : Two G w0 w' p q d r
  mod : Mod (Free G w0) w w'
section
variable {G : Nat → Prop}
theorem Dx.rebase {F : Nat → Prop} {w0 w : World} {p : Nat} {d : Dk} (h : Dx F w0 w p d) : Dx F w w p d := by
  have h5 := h.lt
  obtain ⟨S, h1, h2, h3, h4⟩ := h
  exact ⟨S, h1, Mod.refl _ _, h3, h5⟩
theorem Two.mod0 {w0 w w1 : World} {p q : Nat} {d r : Dk} (h : Two G w0 w p q d r) (hm : Mod NoneB w w1) : Two G w0 w1 p q d r := by
  obtain ⟨R, h1, h2, h3, h4⟩ := h
  exact ⟨R, (h1.mod0 hm).rebase, h2.mod0 hm, h3, h4.then0 hm⟩
/-- Other blocks are kept from here on: they are as new as that. -/
theorem Two.keep {G' : Nat → Prop} {w0 w w1 : World} {p q : Nat} {d r : Dk} (h : Two G w0 w p q d r) (hm : Mod NoneB w w1) (hG : ∀ k, G' k → (G k ∨ w.heap.size ≤ k) ∧ k < w1.heap.size) : Two G' w0 w1 p q d r := by
  obtain ⟨R, h1, h2, h3, h4⟩ := h
  refine ⟨R, h1.keep hm (fun k hk => ?_), h2.mod0 hm, fun k hR hg => ?_, h4.then0 hm⟩
  · rcases hk with hk | hk | hk
    · exact ⟨.inl (.inl hk), Nat.lt_of_lt_of_le (h1.lt0 k (.inl hk)) hm.size⟩
    · exact ⟨(hG k hk).1.elim (fun h => .inl (.inr (.inl h))) .inr, (hG k hk).2⟩
    · exact ⟨.inl (.inr (.inr hk)), Nat.lt_of_lt_of_le (h2.lt hk) hm.size⟩
  · rcases (hG k hg).1 with h | h
    · exact h3 k hR h
    · have := h2.lt hR; omega
theorem Two.drop {G' : Nat → Prop} {w0 w : World} {p q : Nat} {d r : Dk} (h : Two G w0 w p q d r) (hG : ∀ k, G' k → G k) : Two G' w0 w p q d r := by
  obtain ⟨R, h1, h2, h3, h4⟩ := h
  refine ⟨R, h1.drop (Mod.refl _ _) (fun k hk => ?_), h2, fun k hR hg => h3 k hR (hG k hg), h4⟩
  have : k < w0.heap.size ∨ G k ∨ R k := hk.imp id (Or.imp (hG k) id)
  exact ⟨this, h1.lt0 k this⟩
/-- Behind a call of the reference's disk. -/
theorem Two.ofR {w0 w w' : World} {p q : Nat} {d r' : Dk} {R : Nat → Prop} (h1 : Dx (fun k => k < w0.heap.size ∨ G k ∨ R k) w w p d) (hR : ∀ k, R k → w0.heap.size ≤ k) (h3 : ∀ k, R k → ¬ G k) (h4 : Mod NoneB w0 w) (hs : RStep w0.heap.size w R q r' w') : TwoTo G w0 w w' p q d r' := by
  obtain ⟨R', g1, g2, g3⟩ := hs
  obtain ⟨S, k1, k2, k3, k4⟩ := h1
  refine ⟨⟨R', ⟨S, k1.mod g2 (fun k hS hk => k3 k hS (.inr (.inr hk))), Mod.refl _ _, fun k hS hk => ?_, fun k hk => ?_⟩, g1, fun k hk hg => ?_, h4.trans_new g2 (fun k hk => .inr (hR k hk))⟩, g2.mono (fun k _ hk => ⟨hR k hk, h3 k hk⟩)⟩
  · rcases hk with hk | hk | hk
    · exact k3 k hS (.inl hk)
    · exact k3 k hS (.inr (.inl hk))
    · rcases g3 k hk with hk | hk
      · exact k3 k hS (.inr (.inr hk))
      · exact k1.notS hk hS
  · rcases hk with hk | hk | hk
    · exact Nat.lt_of_lt_of_le (k4 k (.inl hk)) g2.size
    · exact Nat.lt_of_lt_of_le (k4 k (.inr (.inl hk))) g2.size
    · exact g1.lt hk
  · rcases g3 k hk with h | h
    · exact h3 k h hg
    · have := k4 k (.inr (.inl hg)); omega
end
structure FitsR (d : Dk) : Prop where
  c : d.c < 4611686018427387904
  l : d.fs.length ≤ 1000000
  u : usedF d.fs ≤ 70368744177664
theorem FitsR.d {d : Dk} (h : FitsR d) : Fits d := ⟨h.c, Nat.le_trans h.l (by decide), h.u⟩
theorem FitsR.room {d : Dk} (h : FitsR d) {w0 w : World} (hm : Mod NoneB w0 w) : RoomR w0.heap.size w d := ⟨h.c, h.l, hm.size⟩
section
variable {G : Nat → Prop} {w0 w : World} {p q : Nat} {d r : Dk}
theorem Two.calls (h : Two G w0 w p q d r) : Calls Tryz.prog 62 #[.pointer (some ⟨p, 0, none⟩)] w fun e w' => e = .returned (.int .i64 d.c) ∧ w' = w := by
  obtain ⟨R, h1, h2, hG, h3⟩ := h
  exact h1.calls
theorem Two.down (h : Two G w0 w p q d r) : Calls Tryz.prog 63 #[.pointer (some ⟨p, 0, none⟩)] w fun e w' => e = .returned (.bool d.dn) ∧ w' = w := by
  obtain ⟨R, h1, h2, hG, h3⟩ := h
  exact h1.down
theorem Two.files (h : Two G w0 w p q d r) (hf : FitsR d) :
    Calls Tryz.prog 61 #[.pointer (some ⟨p, 0, none⟩)] w fun e w' => ∃ zs A c, e = .returned (.slice A zs.length c) ∧ zs.map (·.1) = d.fs ∧ Rd w' 3 A zs.length (encFs zs) ∧ ZsAt w' zs ∧ Mod NoneB w w' := by
  obtain ⟨R, h1, h2, hG, h3⟩ := h
  refine (h1.files hf.d).mono ?_
  rintro e w1 ⟨v, vs, rfl, h4, h5, h6⟩
  obtain ⟨zs, A, c, k1, k2, k3, k4⟩ := h4.zs
  subst k2
  exact ⟨zs, A, c, rfl, k1, k3, k4, h6⟩
/-- What the reference's disk shows. -/
theorem Two.shows (h : Two G w0 w p q d r) : ∃ zs A c, zs.map (·.1) = r.fs ∧ w.cell? ⟨q, 5, none⟩ = some (.slice A zs.length c) ∧ Rd w 3 A zs.length (encFs zs) ∧ ZsAt w zs ∧ w.cell? ⟨q, 6, none⟩ = some (.int .i64 r.c) ∧ w.cell? ⟨q, 7, none⟩ = some (.bool r.dn) := by
  obtain ⟨R, h1, ⟨row, FA, KA, zs, h2, hS⟩, hG, h3⟩ := h
  obtain ⟨A, c, k1, k2, k3⟩ := h2.fil.zs
  subst k1
  exact ⟨zs, A, c, h2.fs.symm, h2.cellAt 5, k2, k3, h2.cellAt 6, h2.cellAt 7⟩

theorem Two.rcreate (h : Two G w0 w p q d r) (n : ByteArray) (hf : FitsR r) :
    Calls Tryz.prog 95 #[.pointer (some ⟨q, 0, none⟩), .string n] w fun e w' => e = .returned (.int .i64 ((createD r n).2 : Nat)) ∧ TwoTo G w0 w w' p q d (createD r n).1 := by
  obtain ⟨R, h1, h2, hG, h3⟩ := h
  refine (rcreate_calls _ w q r R n h2 (hf.room h3)).mono ?_
  rintro e w1 ⟨rfl, hs⟩
  exact ⟨rfl, Two.ofR h1 (fun k hk => h2.new hk) hG h3 hs⟩
theorem Two.rsync (h : Two G w0 w p q d r) (n : ByteArray) (hf : FitsR r) :
    Calls Tryz.prog 99 #[.pointer (some ⟨q, 0, none⟩), .string n] w fun e w' => e = .returned (.int .i64 ((syncD r n).2 : Nat)) ∧ TwoTo G w0 w w' p q d (syncD r n).1 := by
  obtain ⟨R, h1, h2, hG, h3⟩ := h
  refine (rsync_calls _ w q r R n h2 (hf.room h3)).mono ?_
  rintro e w1 ⟨rfl, hs⟩
  exact ⟨rfl, Two.ofR h1 (fun k hk => h2.new hk) hG h3 hs⟩
theorem Two.rremove (h : Two G w0 w p q d r) (n : ByteArray) (hf : FitsR r) :
    Calls Tryz.prog 102 #[.pointer (some ⟨q, 0, none⟩), .string n] w fun e w' => e = .returned (.int .i64 ((removeD r n).2 : Nat)) ∧ TwoTo G w0 w w' p q d (removeD r n).1 := by
  obtain ⟨R, h1, h2, hG, h3⟩ := h
  refine (rremove_calls _ w q r R n h2 (hf.room h3)).mono ?_
  rintro e w1 ⟨rfl, hs⟩
  exact ⟨rfl, Two.ofR h1 (fun k hk => h2.new hk) hG h3 hs⟩
theorem Two.rrename (h : Two G w0 w p q d r) (n nt : ByteArray) (hf : FitsR r) :
    Calls Tryz.prog 104 #[.pointer (some ⟨q, 0, none⟩), .string n, .string nt] w fun e w' => e = .returned (.int .i64 ((renameD r n nt).2 : Nat)) ∧ TwoTo G w0 w w' p q d (renameD r n nt).1 := by
  obtain ⟨R, h1, h2, hG, h3⟩ := h
  refine (rrename_calls _ w q r R n nt h2 (hf.room h3)).mono ?_
  rintro e w1 ⟨rfl, hs⟩
  exact ⟨rfl, Two.ofR h1 (fun k hk => h2.new hk) hG h3 hs⟩
theorem Two.rread (h : Two G w0 w p q d r) (n : ByteArray) (hf : FitsR r) :
    Calls Tryz.prog 93 #[.pointer (some ⟨q, 0, none⟩), .string n] w fun e w' => ∃ v, e = .returned (.tuple #[v, .int .i64 ((readD r n).2 : Nat)]) ∧ Own w' 5 1 v (readD r n).1.length (encB (readD r n).1) ∧ Two G w0 w' p q d r ∧ Mod NoneB w w' := by
  have h0 := h
  obtain ⟨R, h1, h2, hG, h3⟩ := h
  refine (rread_calls _ w q r R n h2 hf.l hf.u).mono ?_
  rintro e w1 ⟨v, rfl, h4, h6, h7⟩
  exact ⟨v, rfl, h4, h0.mod0 h6, h6⟩
end
end Go.Proofs.YtnlmfmceogbomaaGreatDoor

/- Law 1's Same: the disk and the reference's, if they are one. -/
namespace Go.Proofs.YtnlmfmceogbomaaGreatDoor
open Go.RowKit
set_option linter.unusedVariables false

set_option maxHeartbeats 4000000 in
set_option maxRecDepth 100000 in
theorem same1_calls (G : Nat → Prop) (w0 w : World) (p q : Nat) (d : Dk) (h : Two G w0 w p q d d) (hf : FitsR d) :
    Calls Tryz.prog 33 #[.pointer (some ⟨p, 0, none⟩), .pointer (some ⟨q, 0, none⟩)] w fun e w' => e = .returned (.bool true) ∧ Mod NoneB w w' := by
  obtain ⟨zb, B, cb, hzb, y5, hrb, hvb, y6, y7⟩ := h.shows
  have hnb : zb.length = d.fs.length := by rw [← hzb]; simp
  have hfi : ∀ W, Mod NoneB w W → Calls Tryz.prog 61 #[.pointer (some ⟨p, 0, none⟩)] W fun e w' => ∃ zs A c, e = .returned (.slice A d.fs.length c) ∧ zs.map (·.1) = d.fs ∧ zs.length = d.fs.length ∧ Rd w' 3 A d.fs.length (encFs zs) ∧ ZsAt w' zs ∧ Mod NoneB W w' := fun W hm => by
    refine ((h.mod0 hm).files hf).mono ?_
    rintro e w1 ⟨zs, A, c, rfl, h1, h2, h3, h4⟩
    have hl : zs.length = d.fs.length := by rw [← h1]; simp
    rw [hl] at h2 ⊢
    exact ⟨zs, A, c, rfl, h1, hl, h2, h3, h4⟩
  rw [hnb] at y5 hrb
  have hca : ∀ W, Mod NoneB w W → Calls Tryz.prog 62 #[.pointer (some ⟨p, 0, none⟩)] W fun e w' => e = .returned (.int .i64 d.c) ∧ w' = W := fun W hm => (h.mod0 hm).calls
  have hdn : ∀ W, Mod NoneB w W → Calls Tryz.prog 63 #[.pointer (some ⟨p, 0, none⟩)] W fun e w' => e = .returned (.bool d.dn) ∧ w' = W := fun W hm => (h.mod0 hm).down
  have hrf : ∀ W zs A c, Mod NoneB w W → zs.map (·.1) = d.fs → zs.length = d.fs.length → Rd W 3 A d.fs.length (encFs zs) → ZsAt W zs → Calls Tryz.prog 60 #[.slice A d.fs.length c, .slice B d.fs.length cb] W fun e w' => e = .returned (.bool true) ∧ Mod NoneB W w' := fun W zs A c hm h1 h2 h3 h4 =>
    rfiles_calls zs zb A B _ c cb W h2 hnb h3 (hrb.mod0 hm) h4 (hvb.mod0 hm) (h1.trans hzb.symm)
  have HFI := Lib.hid hfi
  have HCA := Lib.hid hca
  have HDN := Lib.hid hdn
  have HRF := Lib.hid hrf
  obtain ⟨n, hn⟩ : ∃ n, n = d.fs.length := ⟨_, rfl⟩
  rw [← hn] at y5 HFI HRF
  clear h hf hzb hrb hvb hnb hfi hca hdn hrf hn
  go_enter Tryz.func33, Tryz.ntmps33
  go_wp2_with fail
  go_region_held3 (fun w' => w'.cell? ⟨q, 5, none⟩ = some (.slice B n cb) ∧ w'.cell? ⟨q, 6, none⟩ = some (.int .i64 d.c) ∧ w'.cell? ⟨q, 7, none⟩ = some (.bool d.dn)) (first | go_keep | exact ⟨z5, z6, z7⟩ | exact ⟨x5, x6, x7⟩)
    (first
      | (go_at_call 61; (with_reducible refine (HFI.out _ ((Mod.refl NoneB w).drew)).mono ?_); rintro ez wa ⟨zs, A, c, rfl, k1, k2, k3, k4, hma⟩; have z5 := hma.cell0 (w := w.drew) y5; have z6 := hma.cell0 (w := w.drew) y6; have z7 := hma.cell0 (w := w.drew) y7; have hm1 := ((Mod.refl NoneB w).drew).then0 hma; have HK := Lib.hid (And.intro k1 (And.intro k2 (And.intro k3 k4))); clear k1 k2 k3 k4)
      | (go_at_call 60; (with_reducible refine (HRF.out _ zs A c hm1 HK.out.1 HK.out.2.1 HK.out.2.2.1 HK.out.2.2.2).mono ?_); rintro ez wb ⟨rfl, hmb⟩; have x5 := hmb.cell0 z5; have x6 := hmb.cell0 z6; have x7 := hmb.cell0 z7; have hm2 := hm1.then0 hmb)
      | (go_at_call 62; (with_reducible refine (HCA.out _ hm2).mono ?_); rintro ez wc ⟨rfl, hwc⟩; subst hwc)
      | (go_at_call 63; (with_reducible refine (HDN.out _ hm2).mono ?_); rintro ez wc ⟨rfl, hwc⟩; subst hwc))
  all_goals
    go_wp2_with fail
    go_ret
    exact ⟨by first | rfl | simp, hm2⟩
end Go.Proofs.YtnlmfmceogbomaaGreatDoor
