/- DiskStops: from the call at which it crashes on nothing is done, till it is started again; that call itself is done, or not, as the plan says: the walk of the law. -/
import Derived.Test.YtnoleekdldmagaaDkKeeps
namespace Go.Proofs.Ytnoleekdldmagaa
open Go.RowKit
set_option linter.unusedVariables false

/-- The i-th name. -/
def nmS (i : Nat) : ByteArray := ⟨#[102, UInt8.ofNat (97 + i)]⟩
def fsS (m : Nat) : List Fl := (List.range m).map fun i => ⟨nmS i, [], 0⟩
/-- The disk behind i calls. -/
def stS (k : Nat) (done : Bool) (i : Nat) : Dk := ⟨⟨1000, [], k, done, []⟩, fsS (if i < k then i else if done then k else k - 1), min i k, decide (k ≤ i)⟩
theorem stS_step : ∀ k : Fin 21, ∀ i : Fin 25, ∀ done : Bool, 1 ≤ k.val → createD (stS k.val done i.val) (nmS i.val) = (stS k.val done (i.val + 1), if i.val + 1 < k.val then 0 else 7) := by decide +kernel
theorem fsS_length (m : Nat) : (fsS m).length = m := by simp [fsS]
theorem fsS_used (m : Nat) : usedF (fsS m) = 0 := by
  unfold usedF fsS
  rw [List.map_map]
  induction m with
  | zero => rfl
  | succ m ih => rw [List.range_succ, List.map_append, List.sum_append, ih]; rfl
theorem stS_fits (k : Nat) (done : Bool) (i : Nat) (hk : k ≤ 1000) (hi : i ≤ 1000) : Fits (stS k done i) := by
  refine ⟨?_, ?_, ?_⟩
  · show min i k < _; omega
  · show (fsS _).length ≤ _
    rw [fsS_length]; split
    · omega
    · split <;> omega
  · show usedF (fsS _) ≤ _
    rw [fsS_used]; omega

set_option maxHeartbeats 2000000 in
set_option maxRecDepth 100000 in
theorem diskStops_walk (z : Int) (done : Bool) (w : World) (wz : (Lit.int .u8 z).wf = true) :
    Calls Try.prog 10 #[.int .u8 z, .bool done] w fun e w' => e = .returned (.bool true) ∧ Mod NoneB w w' := by
  have hz : 0 ≤ z ∧ z ≤ 255 := by simp [Lit.wf] at wz; exact wz
  obtain ⟨hz0, hz1⟩ := hz
  clear wz
  obtain ⟨k, hk⟩ : ∃ k : Nat, k = 1 + z.toNat % 20 := ⟨_, rfl⟩
  have hk1 : 1 ≤ k := by omega
  have hk2 : k ≤ 20 := by omega
  have hke : 1 + z % 20 = (k : Int) := by omega
  have HKE := Lib.hid hke
  clear hke hk
  go_enter Try.func10, Try.ntmps10
  go_wp2_with fail
  rw [HKE.out]
  refine (Dw.new w _ (Mod.refl _ _) ⟨1000, [], k, done, []⟩ none none 0 0 (Rd.nil _ _ _) (Rd.nil _ _ _) (Nat.zero_le _) (Nat.zero_le _)).mono ?_
  rintro e w1 ⟨p, rfl, hD⟩
  have h0 : stS k done 0 = ⟨⟨1000, [], k, done, []⟩, [], 0, false⟩ := by
    unfold stS
    rw [if_pos (by omega), decide_eq_false (by omega), Nat.min_eq_left (by omega)]
    rfl
  rw [← h0] at hD
  clear h0
  go_wp2_with fail
  go_loopw [7, 8] (fun t ev wr => ∃ (i : Nat), t = .int .i64 i ∧ i ≤ 25 ∧ Dw w wr p (stS k done i)) (fun t _ _ => 25 - (intOf t).toNat)
  case atStart => exact ⟨0, rfl, by omega, hD⟩
  case round =>
    obtain ⟨i, rfl, hi, hDi⟩ := hrel
    clear hD
    by_cases hlt : i < 25
    · have hst := stS_step ⟨k, by omega⟩ ⟨i, hlt⟩ done hk1
      simp only at hst
      have hft := stS_fits k done i (by omega) (by omega)
      have hbx := box1 wr (.cells #[.int .u8 102, .int .u8 (97 + (i : Int))] 5)
      have hal : Mod NoneB wr (wr.alloc (.cells #[.int .u8 102, .int .u8 (97 + (i : Int))] 5)) := (Mod.refl _ _).alloc _
      have hen : encB [102, UInt8.ofNat (97 + i)] = [.int .u8 102, .int .u8 (97 + (i : Int))] := by
        simp [encB]; omega
      have hrd : Rd (wr.alloc (.cells #[.int .u8 102, .int .u8 (97 + (i : Int))] 5)) 1 (some ⟨wr.heap.size, 0, none⟩) 2 (encB [102, UInt8.ofNat (97 + i)]) := by
        rw [hen]
        exact rd_blk hbx rfl (by omega)
      have hcv : (convert 35 9 (.slice (some ⟨wr.heap.size, 0, none⟩) 2 2)).run Try.prog (wr.alloc (.cells #[.int .u8 102, .int .u8 (97 + (i : Int))] 5)) = .ok (.string (nmS i)) (wr.alloc (.cells #[.int .u8 102, .int .u8 (97 + (i : Int))] 5)) := conv_strN (b := [102, UInt8.ofNat (97 + i)]) rfl hrd
      have HST := Lib.hid hst
      clear hbx hen hrd hst
      by_cases hq : i + 1 < k
      · have hs : (createD (stS k done i) (nmS i)) = (stS k done (i + 1), 0) := by rw [HST.out, if_pos hq]
        have hdn : (stS k done (i + 1)).dn = false := decide_eq_false (by omega)
        have HS := Lib.hid hs
        have HDN := Lib.hid hdn
        have b1 : decide ((i : Int) < (k : Int) - 1) = true := by simp; omega
        have b2 : decide ((k : Int) - 1 ≤ (i : Int)) = false := by simp; omega
        clear hs hdn HST
        go_wp2_with fail
        refine ((hDi.mod0 hal).create (nmS i) hft).mono ?_
        rintro e w2 ⟨rfl, hD1⟩
        rw [HS.out] at hD1 ⊢
        clear hcv hDi hal hft
        go_wp2_with (first
          | ((with_reducible refine (num_calls _ _).mono ?_); rintro e wz ⟨rfl, rfl⟩)
          | ((with_reducible refine hD1.down.mono ?_); rintro e wz ⟨rfl, rfl⟩; rw [HDN.out]))
        go_roundw
        case rel => exact ⟨i + 1, by go_num, by omega, hD1⟩
        case measure => simp [intOf]; omega
      · have hs : (createD (stS k done i) (nmS i)) = (stS k done (i + 1), 7) := by rw [HST.out, if_neg hq]
        have hdn : (stS k done (i + 1)).dn = true := decide_eq_true (by omega)
        have HS := Lib.hid hs
        have HDN := Lib.hid hdn
        have b1 : decide ((i : Int) < (k : Int) - 1) = false := by simp; omega
        have b2 : decide ((k : Int) - 1 ≤ (i : Int)) = true := by simp; omega
        clear hs hdn HST
        go_wp2_with fail
        refine ((hDi.mod0 hal).create (nmS i) hft).mono ?_
        rintro e w2 ⟨rfl, hD1⟩
        rw [HS.out] at hD1 ⊢
        clear hcv hDi hal hft
        go_wp2_with (first
          | ((with_reducible refine (num_calls _ _).mono ?_); rintro e wz ⟨rfl, rfl⟩)
          | ((with_reducible refine hD1.down.mono ?_); rintro e wz ⟨rfl, rfl⟩; rw [HDN.out]))
        go_roundw
        case rel => exact ⟨i + 1, by go_num, by omega, hD1⟩
        case measure => simp [intOf]; omega
    · obtain rfl : i = 25 := by omega
      have hrd : readD (stS k done 25) ⟨#[102, 97]⟩ = ([], 7) := by
        unfold readD
        rw [if_pos (show (stS k done 25).dn = true from decide_eq_true (by omega))]
      have hlen : (stS k done 25).fs.length = if done then k else k - 1 := by
        show (fsS _).length = _
        rw [fsS_length, if_neg (by omega)]
      have hc : (stS k done 25).c = k := Nat.min_eq_right (by omega)
      have hft := stS_fits k done 25 (by omega) (by omega)
      have HRD := Lib.hid hrd
      have HLEN := Lib.hid hlen
      have HC := Lib.hid hc
      obtain ⟨D, hDD⟩ : ∃ D, D = stS k done 25 := ⟨_, rfl⟩
      rw [← hDD] at HRD HLEN HC hft hDi
      clear hrd hlen hc hDD
      go_wp2_with fail
      refine (hDi.read _ hft).mono ?_
      rintro e w2 ⟨v, rfl, hov, hD2, _, _⟩
      rw [HRD.out] at hov ⊢
      obtain ⟨V, c, rfl, _⟩ := hov.nilD
      clear hov hDi
      cases done with
      | true =>
        have hl : D.fs.length = k := by rw [HLEN.out]; rfl
        have HL := Lib.hid hl
        clear hl
        go_wp2_with (first
          | ((with_reducible refine (num_calls _ _).mono ?_); rintro e wz ⟨rfl, rfl⟩)
          | ((with_reducible refine (hD2.files hft).mono ?_); rintro e w3 ⟨fv, vs, rfl, hfa, hD3, _⟩; obtain ⟨Af, cf, hfv, _⟩ := hfa.own.nilD; rw [HL.out] at hfv; subst hfv)
          | ((with_reducible refine hD3.calls.mono ?_); rintro e wz ⟨rfl, rfl⟩; rw [HC.out])
          | ((with_reducible refine (awake1_calls _).mono ?_); rintro ez wz ⟨rfl, hmz⟩))
        go_ret
        exact ⟨rfl, hD3.base.then0 hmz⟩
      | false =>
        have hl : D.fs.length = k - 1 := by rw [HLEN.out]; rfl
        have hke : ((k - 1 : Nat) : Int) = (k : Int) - 1 := by omega
        have HL := Lib.hid hl
        have HKE := Lib.hid hke
        clear hl hke
        go_wp2_with (first
          | ((with_reducible refine (num_calls _ _).mono ?_); rintro e wz ⟨rfl, rfl⟩)
          | ((with_reducible refine (hD2.files hft).mono ?_); rintro e w3 ⟨fv, vs, rfl, hfa, hD3, _⟩; obtain ⟨Af, cf, hfv, _⟩ := hfa.own.nilD; rw [HL.out] at hfv; subst hfv; rw [← HKE.out])
          | ((with_reducible refine hD3.calls.mono ?_); rintro e wz ⟨rfl, rfl⟩; rw [HC.out])
          | ((with_reducible refine (awake1_calls _).mono ?_); rintro ez wz ⟨rfl, hmz⟩))
        go_ret
        exact ⟨rfl, hD3.base.then0 hmz⟩
end Go.Proofs.Ytnoleekdldmagaa
