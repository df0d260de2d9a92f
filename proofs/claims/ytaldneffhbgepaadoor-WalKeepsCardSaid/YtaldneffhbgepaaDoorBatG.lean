/- The document's RightOps. -/
import Derived.Test.YtaldneffhbgepaaDoorBatF
namespace Go.Proofs.YtaldneffhbgepaaDoor
open Go.RowKit
set_option linter.unusedVariables false

set_option maxHeartbeats 2000000 in
set_option maxRecDepth 100000 in
theorem rrightops_calls (l : List Op3) (A : Option Addr) (c : Nat) (w : World) (hr : Rd w 3 A l.length (encOs l)) :
    Calls Tryd.prog 20 #[.slice A l.length c] w fun e w' => e = .returned (.bool (decide (rightO l))) ∧ Mod NoneB w w' := by
  have hn := hr.2.1
  go_enter Tryd.func20, Tryd.ntmps20
  go_wp2_with fail
  go_loopw [3] (fun i wr => ∃ j : Nat, i = .int .i64 j ∧ j ≤ l.length ∧ (∀ o ∈ l.take j, ¬ BadO o) ∧ Mod NoneB w wr) (fun i _ => l.length - (intOf i).toNat)
  case atStart => exact ⟨0, rfl, by omega, fun o ho => by simp at ho, Mod.refl _ _⟩
  case round =>
    obtain ⟨j, rfl, hj, hno, hm⟩ := hrel
    have HNO := Lib.hid hno
    clear hno
    by_cases hlt : j < l.length
    · obtain ⟨ad, rfl, h0, h1, h2⟩ := (hr.mod0 hm).op j hlt
      have htk : l.take (j + 1) = l.take j ++ [l[j]] := List.take_succ_eq_append_getElem hlt
      have hmem : l[j] ∈ l := List.getElem_mem _
      obtain ⟨o, ho⟩ : ∃ o, o = l[j] := ⟨_, rfl⟩
      rw [← ho] at h0 h1 h2 htk hmem
      have HTK := Lib.hid htk
      have HMEM := Lib.hid hmem
      have q0 : (0 : Int) ≤ (j : Int) := by omega
      have q1 : (j : Int) < (l.length : Int) := by omega
      clear ho htk hmem
      by_cases hb : BadO o
      · have hbd : decide (rightO l) = false := decide_eq_false (fun h => hb.2 (h.2 o HMEM.out hb.1))
        have b1 : o.v.toList.isEmpty = false := by rw [isEmpty_toList]; exact decide_eq_false hb.2
        have hd := hb.1
        rw [hd] at h0
        have HBD := Lib.hid hbd
        clear hb hbd hd
        go_wp2_with fail
        go_ret
        exact ⟨by rw [HBD.out]; rfl, hm⟩
      · have HB := Lib.hid hb
        cases hd : o.del with
        | false =>
          rw [hd] at h0
          clear hb hd
          go_wp2_with fail
          go_roundw
          case rel =>
            refine ⟨j + 1, by go_num, by omega, fun x hx => ?_, hm⟩
            rw [HTK.out] at hx
            rcases List.mem_append.1 hx with hx | hx
            · exact HNO.out x hx
            · rw [List.mem_singleton] at hx; rw [hx]; exact HB.out
          case measure => simp [intOf]; omega
        | true =>
          have hv : o.v = ⟨#[]⟩ := Classical.byContradiction fun h => hb ⟨hd, h⟩
          have b1 : o.v.toList.isEmpty = true := by rw [isEmpty_toList]; exact decide_eq_true hv
          rw [hd] at h0
          clear hb hd hv
          go_wp2_with fail
          go_roundw
          case rel =>
            refine ⟨j + 1, by go_num, by omega, fun x hx => ?_, hm⟩
            rw [HTK.out] at hx
            rcases List.mem_append.1 hx with hx | hx
            · exact HNO.out x hx
            · rw [List.mem_singleton] at hx; rw [hx]; exact HB.out
          case measure => simp [intOf]; omega
    · have hall : ∀ o ∈ l, ¬ BadO o := by
        have h := HNO.out
        rwa [List.take_of_length_le (by omega)] at h
      have hd : decide (rightO l) = decide (l.length ≤ 1000) := by
        by_cases h : l.length ≤ 1000
        · rw [decide_eq_true h]
          exact decide_eq_true ⟨h, fun o ho hdel => Classical.byContradiction fun hv => hall o ho ⟨hdel, hv⟩⟩
        · rw [decide_eq_false h]
          exact decide_eq_false (fun hh => h hh.1)
      have HD := Lib.hid hd
      clear hall hd
      go_wp2_with fail
      go_ret
      exact ⟨by rw [HD.out]; first | rfl | (congr 2; simp; omega), hm⟩
end Go.Proofs.YtaldneffhbgepaaDoor

