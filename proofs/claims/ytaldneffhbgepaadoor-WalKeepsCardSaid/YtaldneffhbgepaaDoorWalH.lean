/- The statements' bound: aquiferlaw7.Heavy. -/
import Derived.Test.YtaldneffhbgepaaDoorOpenB
import Derived.Test.YtaldneffhbgepaaDoorWalW
namespace Go.Proofs.YtaldneffhbgepaaDoor
open Go.RowKit
set_option linter.unusedVariables false

/-- Within the statements' bound. -/
def LightL (l : List OsV) : Prop := l.length ≤ 40 ∧ ∀ x ∈ l, wtO x.l ≤ 5000 ∧ x.l.length ≤ 60
def LightP (ps : List PlV) : Prop := ps.length ≤ 40 ∧ ∀ x ∈ ps, x.p.fail.length ≤ 200 ∧ x.p.keep.length ≤ 50
def HeavyE (l : List OsV) (ps : List PlV) (w : World) (e : Ending) (w' : World) : Prop := ∃ b, e = .returned (.bool b) ∧ Mod NoneB w w' ∧ (b = false → LightL l ∧ LightP ps)
set_option maxHeartbeats 4000000 in
set_option maxRecDepth 100000 in
theorem heavy7_calls (l : List OsV) (ps : List PlV) (A B : Option Addr) (c c' : Nat) (w : World) (hr : Rd w 1 A l.length (l.flatMap encOv)) (ho : ∀ x ∈ l, OsOk w x) (hp : Rd w 5 B ps.length (ps.flatMap encPl)) (hpo : ∀ x ∈ ps, PlOk w x) :
    Calls Tryd.prog 32 #[.slice A l.length c, .slice B ps.length c'] w (HeavyE l ps w) := by
  have HO := Lib.hid ho
  have HPO := Lib.hid hpo
  have hn := hr.2.1
  have hn' := hp.2.1
  clear ho hpo
  by_cases h40 : l.length ≤ 40
  case neg =>
    have q1 : (40 : Int) < (l.length : Int) := by omega
    clear h40
    go_enter Tryd.func32, Tryd.ntmps32
    go_wp2_with fail
    go_ret
    exact ⟨true, rfl, Mod.refl _ _, fun h => by cases h⟩
  have q1 : ¬ ((40 : Int) < (l.length : Int)) := by omega
  by_cases p40 : ps.length ≤ 40
  case neg =>
    have q2 : (40 : Int) < (ps.length : Int) := by omega
    clear p40
    go_enter Tryd.func32, Tryd.ntmps32
    go_wp2_with fail
    go_ret
    exact ⟨true, rfl, Mod.refl _ _, fun h => by cases h⟩
  have q2 : ¬ ((40 : Int) < (ps.length : Int)) := by omega
  go_enter Tryd.func32, Tryd.ntmps32
  go_wp2_with fail
  clear q1 q2
  go_loopw [5] (fun i wr => ∃ j : Nat, i = .int .i64 j ∧ j ≤ l.length ∧ (∀ x ∈ l.take j, wtO x.l ≤ 5000 ∧ x.l.length ≤ 60) ∧ Mod NoneB w wr) (fun i _ => l.length - (intOf i).toNat)
  case atStart => exact ⟨0, rfl, by omega, (fun x hx => by simp at hx), Mod.refl _ _⟩
  case round =>
    obtain ⟨j, rfl, hj, hall, hmr⟩ := hrel
    by_cases hlt : j < l.length
    · obtain ⟨ad, rfl, h0, _⟩ := Rd.elem (f := encOv) (fun _ => rfl) (hr.mod0 hmr) (by decide) j hlt
      have y0 := h0 _ rfl
      rw [Nat.mul_one] at y0
      have hrd := (HO.out l[j] (List.getElem_mem _)).mod0 hmr
      have htk : l.take (j + 1) = l.take j ++ [l[j]] := List.take_succ_eq_append_getElem hlt
      obtain ⟨x, hx⟩ : ∃ x, x = l[j] := ⟨_, rfl⟩
      rw [← hx] at y0 hrd htk
      obtain ⟨m, X, xc⟩ := x
      simp only [OsOk] at hrd htk y0
      have HTK := Lib.hid htk
      have HALL := Lib.hid hall
      have q2 : (0 : Int) ≤ (j : Int) := by omega
      have q3 : (j : Int) < (l.length : Int) := by omega
      clear hx h0 htk hall
      go_wp2_with fail
      refine (greatO_calls m X xc _ hrd).mono ?_
      rintro e w1 ⟨b, rfl, hm1, hb1⟩
      have hm11 := hmr.then0 hm1
      cases b with
      | true =>
        clear hb1
        go_wp2_with fail
        go_ret
        exact ⟨true, rfl, hm11, fun h => by cases h⟩
      | false =>
        have hw := hb1 rfl
        have y1 := hm1.cell0 y0
        have hmn := hrd.2.1
        clear hb1 y0
        by_cases h60 : m.length ≤ 60
        · have q4 : ¬ ((60 : Int) < (m.length : Int)) := by omega
          go_wp2_with fail
          go_roundw
          case rel =>
            refine ⟨j + 1, by go_num, by omega, fun x hx => ?_, hm11⟩
            rw [HTK.out] at hx
            rcases List.mem_append.1 hx with hx | hx
            · exact HALL.out x hx
            · rw [List.mem_singleton] at hx; subst hx; exact ⟨hw, h60⟩
          case measure => simp [intOf]; omega
        · have q4 : (60 : Int) < (m.length : Int) := by omega
          go_wp2_with fail
          go_ret
          exact ⟨true, rfl, hm11, fun h => by cases h⟩
    · obtain rfl : j = l.length := by omega
      rw [List.take_length] at hall
      have HALL := Lib.hid hall
      clear hall
      go_wp2_with fail
      go_loopw [6] (fun i wx => ∃ k : Nat, i = .int .i64 k ∧ k ≤ ps.length ∧ (∀ x ∈ ps.take k, x.p.fail.length ≤ 200 ∧ x.p.keep.length ≤ 50) ∧ wx = wr) (fun i _ => ps.length - (intOf i).toNat)
      case atStart => exact ⟨0, rfl, by omega, (fun x hx => by simp at hx), rfl⟩
      case round =>
        obtain ⟨k, rfl, hk, hpl, rfl⟩ := hrel
        by_cases hlt : k < ps.length
        · obtain ⟨ad, rfl, h0, _⟩ := Rd.elem (f := encPl) (fun _ => rfl) (hp.mod0 hmr) (by decide) k hlt
          obtain ⟨ad', e', _, h1⟩ := Rd.elem (f := encPl) (fun _ => rfl) (hp.mod0 hmr) (by decide) k hlt
          cases e'
          have y1 := h1 1 _ (by decide) (by decide) rfl
          have y4 := h1 4 _ (by decide) (by decide) rfl
          have htk : ps.take (k + 1) = ps.take k ++ [ps[k]] := List.take_succ_eq_append_getElem hlt
          have hpk := HPO.out ps[k] (List.getElem_mem _)
          obtain ⟨x, hx⟩ : ∃ x, x = ps[k] := ⟨_, rfl⟩
          rw [← hx] at y1 y4 htk hpk
          have hf1 := hpk.fail.2.1
          have hf2 := hpk.keep.2.1
          have HTK := Lib.hid htk
          have HPL := Lib.hid hpl
          have q2 : (0 : Int) ≤ (k : Int) := by omega
          have q3 : (k : Int) < (ps.length : Int) := by omega
          clear hx h0 h1 htk hpl
          by_cases f200 : x.p.fail.length ≤ 200
          · have q4 : ¬ ((200 : Int) < (x.p.fail.length : Int)) := by omega
            by_cases k50 : x.p.keep.length ≤ 50
            · have q5 : ¬ ((50 : Int) < (x.p.keep.length : Int)) := by omega
              go_wp2_with fail
              go_roundw
              case rel =>
                refine ⟨k + 1, by go_num, by omega, fun y hy => ?_, by first | rfl | trivial⟩
                rw [HTK.out] at hy
                rcases List.mem_append.1 hy with hy | hy
                · exact HPL.out y hy
                · rw [List.mem_singleton] at hy; subst hy; exact ⟨f200, k50⟩
              case measure => simp [intOf]; omega
            · have q5 : (50 : Int) < (x.p.keep.length : Int) := by omega
              go_wp2_with fail
              go_ret
              exact ⟨true, rfl, hmr, fun h => by cases h⟩
          · have q4 : (200 : Int) < (x.p.fail.length : Int) := by omega
            go_wp2_with fail
            go_ret
            exact ⟨true, rfl, hmr, fun h => by cases h⟩
        · obtain rfl : k = ps.length := by omega
          rw [List.take_length] at hpl
          have HPL := Lib.hid hpl
          clear hpl
          go_wp2_with fail
          go_ret
          exact ⟨false, rfl, hmr, fun _ => ⟨⟨h40, HALL.out⟩, ⟨p40, HPL.out⟩⟩⟩
end Go.Proofs.YtaldneffhbgepaaDoor

