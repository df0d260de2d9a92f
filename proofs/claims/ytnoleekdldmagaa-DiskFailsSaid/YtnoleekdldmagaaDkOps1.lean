/- A disk's used, Append. -/
import Derived.Test.YtnoleekdldmagaaDkUpd
namespace Go.Proofs.Ytnoleekdldmagaa
open Go.RowKit
set_option linter.unusedVariables false

set_option maxHeartbeats 1000000 in
set_option maxRecDepth 100000 in
theorem used_calls (w : World) (p : Nat) (d : Dk) (row FA KA : Value) (es : List Ent) (hd : DkAt w p d row es FA KA) (hu : usedF d.fs ≤ 4611686018427387904) :
    Calls Try.prog 81 #[.pointer (some ⟨p, 0, none⟩)] w fun e w' => e = .returned (.int .i64 (usedF d.fs)) ∧ w' = w := by
  have hlen := hd.len
  obtain ⟨A, c, rfl, hnc, hcm, hr⟩ := hd.row.out
  have h5 : w.cell? ⟨p, 5, none⟩ = some (.slice A es.length c) := hd.cellAt 5
  have hn : es.length ≤ 9223372036854775807 := by omega
  have hfile : ∀ j, ∀ h : j < es.length, ∀ h' : j < d.fs.length, (∃ ad, A = some ad ∧ w.cell? (ad.add j) = some (.pointer (some ⟨es[j].g, 0, none⟩))) ∧ ∃ V vc, w.cell? ⟨es[j].g, 1, none⟩ = some (.slice V d.fs[j].b.length vc) := by
    intro j h h'
    have hlm : (es.map (·.g)).length = es.length := by simp
    obtain ⟨ad, e, hp⟩ := hr.ptr j (by rw [hlm]; exact h)
    have hok := hd.ent es[j] (List.getElem_mem _)
    obtain ⟨V, vc, hv, _, _, _⟩ := hok.own.out
    have hf : d.fs[j] = es[j].f := by simp only [hd.fs, List.getElem_map]
    refine ⟨⟨ad, e, by simpa using hp⟩, V, vc, ?_⟩
    rw [blk_cell hok.blk, hv, hf]
    rfl
  have HF := Lib.hid hfile
  have HLEN := Lib.hid hlen
  clear hfile hlen hr hd
  go_enter Try.func81, Try.ntmps81
  go_wp2_with fail
  go_loopw [3, 5, 11] (fun n f i wr => ∃ j : Nat, i = .int .i64 j ∧ j ≤ es.length ∧ n = .int .i64 (usedF (d.fs.take j)) ∧ wr = w) (fun _ _ i _ => es.length - (intOf i).toNat)
  case atStart => exact ⟨0, rfl, by omega, rfl, rfl⟩
  case round =>
    obtain ⟨j, rfl, hj, rfl, rfl⟩ := hrel
    by_cases hlt : j < es.length
    · have hlt' : j < d.fs.length := by rw [HLEN.out]; exact hlt
      obtain ⟨⟨ad, rfl, h0⟩, V, vc, h1⟩ := HF.out j hlt hlt'
      have hs := usedF_take_succ d.fs j hlt'
      have hle := usedF_take_le d.fs (j + 1)
      obtain ⟨g, hg⟩ : ∃ g, g = es[j].g := ⟨_, rfl⟩
      obtain ⟨m, hm⟩ : ∃ m, m = d.fs[j].b.length := ⟨_, rfl⟩
      obtain ⟨u, hu1⟩ : ∃ u, u = usedF (d.fs.take j) := ⟨_, rfl⟩
      rw [← hg] at h0 h1
      rw [← hm] at h1 hs
      rw [← hu1] at hs ⊢
      have hb : u + m ≤ 4611686018427387904 := by omega
      have HS := Lib.hid hs
      clear hg hm hu1 hle hs hlt'
      go_wp2_with fail
      go_roundw
      case rel => exact ⟨j + 1, by go_num, by omega, by rw [HS.out]; rfl, by trivial⟩
      case measure => simp [intOf]; omega
    · have hj' : j = es.length := by omega
      subst hj'
      have hfin : usedF (d.fs.take es.length) = usedF d.fs := by rw [← HLEN.out, List.take_length]
      rw [hfin]
      clear hfin
      go_wp2_with fail
      go_ret
      exact ⟨rfl, rfl⟩
end Go.Proofs.Ytnoleekdldmagaa
