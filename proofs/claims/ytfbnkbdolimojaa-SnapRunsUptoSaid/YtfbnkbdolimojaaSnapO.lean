/- Layer 8's document's example; a save beside bytes that are there: plain facts and walks. -/
import Derived.Test.YtfbnkbdolimojaaSnapA
import Derived.Test.YtfbnkbdolimojaaRefT
import Derived.Test.YtfbnkbdolimojaaWs
import Derived.Test.YtfbnkbdolimojaaDkNil
namespace Go.Proofs.Ytfbnkbdolimojaa
open Go.RowKit
set_option linter.unusedVariables false

theorem ltST : cmpS sSnap sTmp < 0 := by decide +kernel
def dS0 : Dk := freeD 1000 [] [] 0
def sA8 : ByteArray := ⟨#[97]⟩
def s18 : ByteArray := ⟨#[49]⟩
theorem aw8a : loadR dS0 = ([], 0) := by decide +kernel
theorem aw8b : (saveR dS0 [⟨sA8, s18⟩]).2 = 0 ∧ loadR (saveR dS0 [⟨sA8, s18⟩]).1 = ([⟨sA8, s18⟩], 0) ∧ (saveR dS0 [⟨sA8, s18⟩]).1.c ≤ 100 ∧ (saveR dS0 [⟨sA8, s18⟩]).1.fs.length ≤ 100 ∧ usedF (saveR dS0 [⟨sA8, s18⟩]).1.fs ≤ 1000 := by decide +kernel
theorem aw8c : (tableR [⟨sA8, s18⟩]).1.length ≤ 1000 := by decide +kernel

set_option maxHeartbeats 2000000 in
set_option maxRecDepth 100000 in
theorem awake8_calls (w : World) : Calls Try.prog 42 #[] w fun e w' => e = .returned (.bool true) ∧ Mod NoneB w w' := by
  go_enter Try.func42, Try.ntmps42
  go_wp2_with fail
  refine (Dw.new0 w _ (Mod.refl _ _) 1000).mono ?_
  rintro e w1 ⟨p, rfl, hD⟩
  replace hD : Dx (OldB w) w w1 p dS0 := hD.toX
  have hf0 : Fits dS0 := ⟨by decide, by decide, by decide⟩
  have hu0 : usedF dS0.fs ≤ 1099511627776 := by decide
  go_wp2_with fail
  refine (load_calls hD hf0 hu0).mono ?_
  rintro e w2 ⟨v, rfl, hov, hD2, hm2, _⟩
  rw [aw8a] at hov ⊢
  obtain ⟨A2, c2, hv, _⟩ := hov.nilD0
  replace hv : v = .slice A2 0 c2 := hv
  subst hv
  clear hov hD hm2
  go_wp2_with fail
  have hal : Mod NoneB w2 (w2.alloc (.cells #[.string sA8, .string s18] 102)) := (Mod.refl _ _).alloc _
  have hrd : Rd (w2.alloc (.cells #[.string sA8, .string s18] 102)) 2 (some ⟨w2.heap.size, 0, none⟩) 1 (encPs [⟨sA8, s18⟩]) := rdBlk (sz := 2) (n := 1) (heap_alloc_new w2 _) rfl (by omega)
  have hroom : RoomS dS0 (tableR [⟨sA8, s18⟩]).1 0 := ⟨by decide, by decide, by simp [dS0, freeD, usedF], by have := aw8c; omega⟩
  refine (save_calls (hD2.mod0 hal) [⟨sA8, s18⟩] (some ⟨w2.heap.size, 0, none⟩) 1 hrd ⟨by decide, by intro p hp; rw [List.mem_singleton] at hp; subst hp; decide⟩ hroom).mono ?_
  rintro e w3 ⟨rfl, hD3⟩
  obtain ⟨g1, g2, g3, g4, g5⟩ := aw8b
  obtain ⟨D, hDd⟩ : ∃ D, D = (saveR dS0 [⟨sA8, s18⟩]).1 := ⟨_, rfl⟩
  rw [← hDd] at hD3 g2 g3 g4 g5
  rw [g1]
  have G2 := Lib.hid g2
  clear hDd g1 g2 hal hrd hroom hD2
  go_wp2_with fail
  refine (load_calls hD3 ⟨by omega, by omega, by omega⟩ (by omega)).mono ?_
  rintro e w4 ⟨v, rfl, hov, hD4, hm4, _⟩
  rw [G2.out] at hov ⊢
  obtain ⟨A4, c4, hv, _⟩ := hov.nilD0
  replace hv : v = .slice A4 1 c4 := hv
  subst hv
  have hbase := hD4.old.base
  clear hov hD3 hD4
  go_wp2_with ((with_reducible refine (num_calls _ _).mono ?_); rintro e wz ⟨rfl, rfl⟩)
  go_ret
  exact ⟨rfl, hbase⟩

/-- A save to a disk of a free plan that has one file, 'snap'. -/
theorem save_one (b x : List UInt8) (c : Nat) (h : b.length + x.length ≤ 100000) : (saveD (freeD 100000 [] [⟨sSnap, b, 0⟩] c) x).2 = 0 := by
  have h0 : stepS x 0 (freeD 100000 [] [⟨sSnap, b, 0⟩] c) = (freeD 100000 [] [⟨sSnap, b, 0⟩] c, 0) := by
    have hn : hasF [⟨sSnap, b, 0⟩] sTmp = false := by simp [hasF, sSnap, sTmp]
    show clearD _ = _
    unfold clearD
    rw [if_neg (by show ¬ hasF [⟨sSnap, b, 0⟩] sTmp = true; rw [hn]; simp)]
  have h1 : stepS x 1 (freeD 100000 [] [⟨sSnap, b, 0⟩] c) = (freeD 100000 [] [⟨sSnap, b, 0⟩, ⟨sTmp, [], 0⟩] (c + 1), 0) := by
    have e1 : hitF [⟨sSnap, b, 0⟩] sTmp = false := by rw [hitF_cons, if_pos ltST, hitF_nil]
    have e2 : lbF [⟨sSnap, b, 0⟩] sTmp = 1 := by rw [lbF_cons, if_pos ltST, lbF_nil]
    show createD _ sTmp = _
    unfold createD
    rw [gateD_free]
    unfold createF
    rw [if_neg (by decide)]
    show (if hitF [⟨sSnap, b, 0⟩] sTmp = true then _ else _) = _
    rw [if_neg (by rw [e1]; simp)]
    show (({ freeD 100000 [] [⟨sSnap, b, 0⟩] (c + 1) with fs := putF [⟨sSnap, b, 0⟩] ⟨sTmp, [], 0⟩ } : Dk), 0) = _
    unfold putF
    simp only [e1, e2]
    rfl
  have g1 : ∀ (y : List UInt8) (s : Nat), hitF [⟨sSnap, b, 0⟩, ⟨sTmp, y, s⟩] sTmp = true := fun y s => by rw [hitF_cons, if_pos ltST]; exact hitF_one _ _ _ _
  have g2 : ∀ (y : List UInt8) (s : Nat), lbF [⟨sSnap, b, 0⟩, ⟨sTmp, y, s⟩] sTmp = 1 := fun y s => by rw [lbF_cons, if_pos ltST, lbF_one]
  have h2 : stepS x 2 (freeD 100000 [] [⟨sSnap, b, 0⟩, ⟨sTmp, [], 0⟩] (c + 1)) = (freeD 100000 [] [⟨sSnap, b, 0⟩, ⟨sTmp, x, 0⟩] (c + 2), 0) := by
    show appendD _ sTmp x = _
    unfold appendD withD
    rw [gateD_free, hitAns_true _ (g1 _ _)]
    show appendF x _ (lbF [⟨sSnap, b, 0⟩, ⟨sTmp, [], 0⟩] sTmp) = _
    rw [g2]
    unfold appendF
    rw [if_neg (by simp [freeD, usedF]; omega)]
    rfl
  have h3 : stepS x 3 (freeD 100000 [] [⟨sSnap, b, 0⟩, ⟨sTmp, x, 0⟩] (c + 2)) = (freeD 100000 [] [⟨sSnap, b, 0⟩, ⟨sTmp, x, x.length⟩] (c + 3), 0) := by
    show syncD _ sTmp = _
    unfold syncD withD
    rw [gateD_free, hitAns_true _ (g1 _ _)]
    show syncF _ (lbF [⟨sSnap, b, 0⟩, ⟨sTmp, x, 0⟩] sTmp) = _
    rw [g2]
    rfl
  have h4 : (stepS x 4 (freeD 100000 [] [⟨sSnap, b, 0⟩, ⟨sTmp, x, x.length⟩] (c + 3))).2 = 0 := by
    show (renameD _ sTmp sSnap).2 = 0
    unfold renameD withD
    rw [gateD_free, hitAns_true _ (g1 _ _)]
    unfold renameF
    rw [if_neg (by decide), if_neg (by decide)]
  unfold saveD
  rw [restS_ok (by rw [h0]), h0]
  show (restS x 4 1 (freeD 100000 [] [⟨sSnap, b, 0⟩] c)).2 = 0
  rw [restS_ok (by rw [h1]), h1]
  show (restS x 3 2 (freeD 100000 [] [⟨sSnap, b, 0⟩, ⟨sTmp, [], 0⟩] (c + 1))).2 = 0
  rw [restS_ok (by rw [h2]), h2]
  show (restS x 2 3 (freeD 100000 [] [⟨sSnap, b, 0⟩, ⟨sTmp, x, 0⟩] (c + 2))).2 = 0
  rw [restS_ok (by rw [h3]), h3]
  show (restS x 1 4 (freeD 100000 [] [⟨sSnap, b, 0⟩, ⟨sTmp, x, x.length⟩] (c + 3))).2 = 0
  rw [restS_ok h4]
  rfl

set_option maxHeartbeats 1000000 in
set_option maxRecDepth 100000 in
theorem load_nil (w : World) : Calls Try.prog 45 #[.pointer none] w fun e w' => e = .returned (.tuple #[.slice none 0 0, .int .i64 3]) ∧ w' = w := by
  go_enter Try.func45, Try.ntmps45
  go_wp2_with ((with_reducible refine (read_nil _ _).mono ?_); rintro e wz ⟨rfl, rfl⟩)
  go_ret2
  exact ⟨rfl, rfl⟩
set_option maxHeartbeats 1000000 in
set_option maxRecDepth 100000 in
theorem save_nil (v : Value) (w : World) : Calls Try.prog 43 #[.pointer none, v] w fun e w' => e = .returned (.int .i64 3) ∧ w' = w := by
  go_enter Try.func43, Try.ntmps43
  go_wp2_with fail
  go_ret
  exact ⟨rfl, rfl⟩
end Go.Proofs.Ytfbnkbdolimojaa
