/- The reference's Apply of no ops. -/
import Derived.Test.YtfbnkbdolimojaaRefPut
namespace Go.Proofs.Ytfbnkbdolimojaa
open Go.RowKit
set_option linter.unusedVariables false

theorem rputO_calls (N : Nat) (l : List Pr) (x : Pr) (v : Value) (w : World) (ho : OwnP N w v l) (hN : N ≤ w.heap.size) (hsz : (l.length + 1) * 32 ≤ 140737488355328) :
    Calls Try.prog 78 #[v, .agg #[.string x.k, .string x.v]] w fun e w' => ∃ v', e = .returned v' ∧ OwnP N w' v' (putT l x.k x.v) ∧ Mod (fun k => N ≤ k) w w' :=
  (rput_calls l x v w ho.own hsz).mono fun e w' ⟨v', he, h1, h2, h3⟩ =>
    ⟨v', he, ⟨h1, fun g hg => by
      rcases h3 with h | ⟨b, h, hb⟩
      · exact ho.new g (h ▸ hg)
      · rw [h] at hg; injection hg with hg; omega⟩, h2.mono fun k _ hk => ho.new k hk⟩

set_option maxHeartbeats 2000000 in
set_option maxRecDepth 100000 in
theorem rapply0_calls (l : List Pr) (A : Option Addr) (c : Nat) (w : World) (hr : Rd w 2 A l.length (encPs l)) (hsz : (l.length + 1) * 32 ≤ 140737488355328) :
    Calls Try.prog 32 #[.slice A l.length c, .slice none 0 0] w fun e w' => ∃ v, e = .returned v ∧ OwnP w.heap.size w' v (normT l) ∧ Mod NoneB w w' := by
  have hn := hr.2.1
  go_enter Try.func32, Try.ntmps32
  go_wp2_with fail
  go_loopw [5, 6] (fun v i wr => ∃ j : Nat, i = .int .i64 j ∧ j ≤ l.length ∧ OwnP w.heap.size wr v ((l.take j).foldl (fun m p => putT m p.k p.v) []) ∧ Mod NoneB w wr) (fun _ i _ => l.length - (intOf i).toNat)
  case atStart => exact ⟨0, rfl, Nat.zero_le _, OwnP.nil _ _, Mod.refl _ _⟩
  case round =>
    obtain ⟨j, rfl, hj, ho, hm⟩ := hrel
    by_cases hlt : j < l.length
    · obtain ⟨ad, rfl, h0, h1⟩ := (hr.mod0 hm).pair j hlt
      have hll := foldput_length_le (l.take j) []
      have hst := foldl_take_succ (fun m (p : Pr) => putT m p.k p.v) [] l j hlt
      rw [List.length_take] at hll
      simp only [List.length_nil] at hll
      have HST := Lib.hid hst
      have e6 : (j : Int) < l.length := by omega
      have e7 : (0 : Int) ≤ j := by omega
      have e8 : IntKind.i64.wrap ((j : Int) + 1) = j + 1 := IntWalk.i64_in _ (by omega)
      clear hst
      go_wp2_with fail
      refine (rputO_calls w.heap.size _ l[j] _ _ ho hm.size (by omega)).mono ?_
      rintro e w5 ⟨v5, rfl, ho5, hm5⟩
      rw [← HST.out] at ho5
      go_wp2_with fail
      go_roundw
      case rel => exact ⟨j + 1, by go_num, by omega, ho5, hm.trans_new hm5 (fun k hk => .inr hk)⟩
      case measure => simp [intOf]; omega
    · have hje : j = l.length := by omega
      subst hje
      rw [List.take_length] at ho
      have HO := Lib.hid ho
      clear ho
      go_wp2_with fail
      go_loopw [5, 7] (fun v i wq => i = .int .i64 0 ∧ OwnP w.heap.size wq v (normT l) ∧ Mod NoneB w wq) (fun _ _ _ => 0)
      case atStart => exact ⟨rfl, HO.out, hm⟩
      case round =>
        obtain ⟨rfl, ho2, hm2⟩ := hrel
        go_wp2_with fail
        go_ret
        exact ⟨_, rfl, ho2, hm2⟩
end Go.Proofs.Ytfbnkbdolimojaa
