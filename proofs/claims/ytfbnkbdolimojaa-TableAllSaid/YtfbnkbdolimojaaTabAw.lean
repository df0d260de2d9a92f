/- The document's example of layer 6: it is as it says. -/
import Derived.Test.YtfbnkbdolimojaaGet
namespace Go.Proofs.Ytfbnkbdolimojaa
open Go.RowKit
set_option linter.unusedVariables false

theorem applyN_calls (l : List Pr) (ops : List Op3) (n n' : Nat) (hl : l.length = n) (ho : ops.length = n') (A B : Option Addr) (c c' : Nat) (w : World) (hr : Rd w 2 A n (encPs l)) (hs : Rd w 3 B n' (encOs ops)) (hsz : (n + n' + 1) * 32 ≤ 140737488355328) :
    Calls Try.prog 31 #[.slice A n c, .slice B n' c'] w fun e w' => ∃ v', e = .returned v' ∧ OwnP w.heap.size w' v' (applyT l ops) ∧ Mod NoneB w w' := by
  subst hl
  subst ho
  exact apply_calls l ops A B c c' w hr hs hsz
theorem OwnP.out {N : Nat} {w : World} {v : Value} {m : List Pr} (h : OwnP N w v m) : ∃ A c, v = .slice A m.length c ∧ Rd w 2 A m.length (encPs m) := by
  obtain ⟨A, c, rfl, _, _, h⟩ := h.own.out
  exact ⟨A, c, rfl, h⟩
theorem rd_blk {w : World} {g sz n : Nat} {cs : Array Value} {t : TypeId} {f : Nat × Nat} (h : w.heap[g]? = some (.cells cs t f)) (hl : cs.size = n * sz) (hn : n ≤ 9223372036854775807) : Rd w sz (some ⟨g, 0, none⟩) n cs.toList :=
  ⟨by simpa using hl, hn, fun _ => ⟨_, rfl, fun j u hu => by rw [add_zero, blk_cell h]; simpa using hu⟩⟩

def sA : ByteArray := ⟨#[97]⟩
def s1 : ByteArray := ⟨#[49]⟩
set_option maxHeartbeats 1000000 in
set_option maxRecDepth 100000 in
theorem awake6_calls (w : World) :
    Calls Try.prog 21 #[] w fun e w' => e = .returned (.bool true) ∧ Mod NoneB w w' := by
  have x1 : applyT [⟨sA, s1⟩] [⟨true, sA, ⟨#[]⟩⟩] = [] := by decide +kernel
  have x2 : applyT [] [⟨false, sA, s1⟩] = [⟨sA, s1⟩] := by decide +kernel
  go_enter Try.func21, Try.ntmps21
  go_wp2_with fail
  have b0 : ((w.alloc (.cells #[.string sA, .string s1] 102)).alloc (.cells #[.bool true, .string sA, .string ⟨#[]⟩] 69)).heap[w.heap.size]? = some (.cells #[.string sA, .string s1] 102 (0, 0)) :=
    ((Mod.refl NoneB _).alloc _).blk (heap_alloc_new w _) (fun h => h)
  have b1 : ((w.alloc (.cells #[.string sA, .string s1] 102)).alloc (.cells #[.bool true, .string sA, .string ⟨#[]⟩] 69)).heap[w.heap.size + 1]? = some (.cells #[.bool true, .string sA, .string ⟨#[]⟩] 69 (0, 0)) :=
    heap_alloc2_new w _ _
  refine (applyN_calls [⟨sA, s1⟩] [⟨true, sA, ⟨#[]⟩⟩] 1 1 rfl rfl _ _ _ _ _ (rd_blk b0 rfl (by omega)) (rd_blk b1 rfl (by omega)) (by omega)).mono ?_
  rintro e w1 ⟨v1, rfl, ho1, hm1⟩
  rw [x1] at ho1
  obtain ⟨A1, c1, rfl, _⟩ := ho1.out
  have HM1 : Mod NoneB w w1 := (((Mod.refl NoneB w).alloc _).alloc _).then0 hm1
  clear x1 b0 b1 hm1
  go_wp2_with fail
  refine (applyN_calls [] [⟨false, sA, s1⟩] 0 1 rfl rfl _ _ _ _ _ (Rd.nil _ _ _) (rd_blk (heap_alloc_new w1 _) rfl (by omega)) (by omega)).mono ?_
  rintro e w2 ⟨v2, rfl, ho2, hm2⟩
  rw [x2] at ho2
  obtain ⟨A2, c2, rfl, _⟩ := ho2.out
  have HM2 : Mod NoneB w w2 := (HM1.alloc _).then0 hm2
  clear x2 hm2
  go_wp2_with fail
  go_ret
  exact ⟨rfl, HM2⟩
end Go.Proofs.Ytfbnkbdolimojaa
