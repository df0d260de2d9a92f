/- Law 1's Same: the disk and the reference's, if they are one. -/
import Derived.Test.YtedjfbbfpnkbeaaGreatDoorTwo
import Derived.Deep.RegionHeld3
namespace Go.Proofs.YtedjfbbfpnkbeaaGreatDoor
open Go.RowKit
set_option linter.unusedVariables false

set_option maxHeartbeats 4000000 in
set_option maxRecDepth 100000 in
theorem same1_calls (G : Nat → Prop) (w0 w : World) (p q : Nat) (d : Dk) (h : Two G w0 w p q d d) (hf : FitsR d) :
    Calls Tryz.prog 20 #[.pointer (some ⟨p, 0, none⟩), .pointer (some ⟨q, 0, none⟩)] w fun e w' => e = .returned (.bool true) ∧ Mod NoneB w w' := by
  obtain ⟨zb, B, cb, hzb, y5, hrb, hvb, y6, y7⟩ := h.shows
  have hnb : zb.length = d.fs.length := by rw [← hzb]; simp
  have hfi : ∀ W, Mod NoneB w W → Calls Tryz.prog 43 #[.pointer (some ⟨p, 0, none⟩)] W fun e w' => ∃ zs A c, e = .returned (.slice A d.fs.length c) ∧ zs.map (·.1) = d.fs ∧ zs.length = d.fs.length ∧ Rd w' 3 A d.fs.length (encFs zs) ∧ ZsAt w' zs ∧ Mod NoneB W w' := fun W hm => by
    refine ((h.mod0 hm).files hf).mono ?_
    rintro e w1 ⟨zs, A, c, rfl, h1, h2, h3, h4⟩
    have hl : zs.length = d.fs.length := by rw [← h1]; simp
    rw [hl] at h2 ⊢
    exact ⟨zs, A, c, rfl, h1, hl, h2, h3, h4⟩
  rw [hnb] at y5 hrb
  have hca : ∀ W, Mod NoneB w W → Calls Tryz.prog 44 #[.pointer (some ⟨p, 0, none⟩)] W fun e w' => e = .returned (.int .i64 d.c) ∧ w' = W := fun W hm => (h.mod0 hm).calls
  have hdn : ∀ W, Mod NoneB w W → Calls Tryz.prog 45 #[.pointer (some ⟨p, 0, none⟩)] W fun e w' => e = .returned (.bool d.dn) ∧ w' = W := fun W hm => (h.mod0 hm).down
  have hrf : ∀ W zs A c, Mod NoneB w W → zs.map (·.1) = d.fs → zs.length = d.fs.length → Rd W 3 A d.fs.length (encFs zs) → ZsAt W zs → Calls Tryz.prog 42 #[.slice A d.fs.length c, .slice B d.fs.length cb] W fun e w' => e = .returned (.bool true) ∧ Mod NoneB W w' := fun W zs A c hm h1 h2 h3 h4 =>
    rfiles_calls zs zb A B _ c cb W h2 hnb h3 (hrb.mod0 hm) h4 (hvb.mod0 hm) (h1.trans hzb.symm)
  have HFI := Lib.hid hfi
  have HCA := Lib.hid hca
  have HDN := Lib.hid hdn
  have HRF := Lib.hid hrf
  obtain ⟨n, hn⟩ : ∃ n, n = d.fs.length := ⟨_, rfl⟩
  rw [← hn] at y5 HFI HRF
  clear h hf hzb hrb hvb hnb hfi hca hdn hrf hn
  go_enter Tryz.func20, Tryz.ntmps20
  go_wp2_with fail
  go_region_held3 (fun w' => w'.cell? ⟨q, 5, none⟩ = some (.slice B n cb) ∧ w'.cell? ⟨q, 6, none⟩ = some (.int .i64 d.c) ∧ w'.cell? ⟨q, 7, none⟩ = some (.bool d.dn)) (first | go_keep | exact ⟨z5, z6, z7⟩ | exact ⟨x5, x6, x7⟩)
    (first
      | (go_at_call 43; (with_reducible refine (HFI.out _ ((Mod.refl NoneB w).drew)).mono ?_); rintro ez wa ⟨zs, A, c, rfl, k1, k2, k3, k4, hma⟩; have z5 := hma.cell0 (w := w.drew) y5; have z6 := hma.cell0 (w := w.drew) y6; have z7 := hma.cell0 (w := w.drew) y7; have hm1 := ((Mod.refl NoneB w).drew).then0 hma; have HK := Lib.hid (And.intro k1 (And.intro k2 (And.intro k3 k4))); clear k1 k2 k3 k4)
      | (go_at_call 42; (with_reducible refine (HRF.out _ zs A c hm1 HK.out.1 HK.out.2.1 HK.out.2.2.1 HK.out.2.2.2).mono ?_); rintro ez wb ⟨rfl, hmb⟩; have x5 := hmb.cell0 z5; have x6 := hmb.cell0 z6; have x7 := hmb.cell0 z7; have hm2 := hm1.then0 hmb)
      | (go_at_call 44; (with_reducible refine (HCA.out _ hm2).mono ?_); rintro ez wc ⟨rfl, hwc⟩; subst hwc)
      | (go_at_call 45; (with_reducible refine (HDN.out _ hm2).mono ?_); rintro ez wc ⟨rfl, hwc⟩; subst hwc))
  all_goals
    go_wp2_with fail
    go_ret
    exact ⟨by first | rfl | simp, hm2⟩
end Go.Proofs.YtedjfbbfpnkbeaaGreatDoor

