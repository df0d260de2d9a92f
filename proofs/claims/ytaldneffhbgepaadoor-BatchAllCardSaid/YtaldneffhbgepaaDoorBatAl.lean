/- BatchAll: whether any ops are right, and their bytes, the batches in any records, how many were used: as the document says: the walk of the law. -/
import Derived.Test.YtaldneffhbgepaaDoorBatI
import Derived.Test.YtaldneffhbgepaaDoorBatJ
import Derived.Test.YtaldneffhbgepaaDoorBatK
import Derived.Test.YtaldneffhbgepaaDoorOpenB
namespace Go.Proofs.YtaldneffhbgepaaDoor
open Go.RowKit
set_option linter.unusedVariables false

theorem PartOk.mod0 {w w1 : World} {p : Part} (h : PartOk w p) (hm : Mod NoneB w w1) : PartOk w1 p := ⟨h.rd.mod0 hm, h.cap, h.top⟩
/-- How much of records is gone through. -/
def wtPs (l : List Part) : Nat := (l.map fun q => min q.b.length 10000).sum
theorem wtPs_take (l : List Part) (i : Nat) (h : i < l.length) : wtPs (l.take (i + 1)) = wtPs (l.take i) + min l[i].b.length 10000 := by
  unfold wtPs
  rw [List.take_succ_eq_append_getElem h, List.map_append, List.sum_append]
  simp
theorem wtPs_le (l : List Part) : wtPs l ≤ l.length * 10000 := by
  induction l with
  | nil => simp [wtPs]
  | cons q l ih =>
    unfold wtPs at *
    rw [List.map_cons, List.sum_cons, List.length_cons, Nat.add_mul]
    omega
set_option maxHeartbeats 8000000 in
set_option maxRecDepth 100000 in
theorem batchAll_walk (l0 : List Op3) (l1 : List Part) (a0 a1 : Option Addr) (c0 c1 : Nat) (w : World) (rd0 : Rd w 3 a0 l0.length (encOs l0)) (rd1 : Rd w 1 a1 l1.length (l1.flatMap encPart)) (ok1 : ∀ x ∈ l1, PartOk w x) (htab : TabW w) :
    Calls Tryd.prog 3 #[.slice a0 l0.length c0, .slice a1 l1.length c1] w fun e w' => e = .returned (.bool true) ∧ Mod NoneB w w' := by
  have HOK := Lib.hid ok1
  clear ok1
  have hn1 := rd1.2.1
  go_enter Tryd.func3, Tryd.ntmps3
  go_wp2_with fail
  refine (greatO_calls l0 a0 c0 _ rd0).mono ?_
  rintro e w1 ⟨b, rfl, hm1, hb1⟩
  cases b with
  | true =>
    clear hb1
    go_wp2_with ((with_reducible refine (awake5_calls _ (htab.mod0 hm1)).mono ?_); rintro e wz ⟨rfl, hmz⟩)
    go_ret
    exact ⟨rfl, hm1.then0 hmz⟩
  | false =>
    have hs0 := smallO_of (hb1 rfl)
    have hw0 := (wtO_le (hb1 rfl)).1
    clear hb1
    by_cases hl : l1.length ≤ 200
    case neg =>
      have q1 : (200 : Int) < (l1.length : Int) := by omega
      clear hl
      go_wp2_with ((with_reducible refine (awake5_calls _ (htab.mod0 hm1)).mono ?_); rintro e wz ⟨rfl, hmz⟩)
      go_ret
      exact ⟨rfl, hm1.then0 hmz⟩
    have q1 : ¬ ((200 : Int) < (l1.length : Int)) := by omega
    go_wp2_with fail
    clear q1
    go_loopw [5, 6] (fun n i wr => ∃ j : Nat, i = .int .i64 j ∧ n = .int .i64 (wtPs (l1.take j) : Nat) ∧ j ≤ l1.length ∧ Mod NoneB w wr) (fun _ i _ => l1.length - (intOf i).toNat)
    case atStart => exact ⟨0, rfl, by simp [wtPs], by omega, hm1⟩
    case round =>
      obtain ⟨j, rfl, rfl, hj, hmr⟩ := hrel
      have hwl := wtPs_le (l1.take j)
      have hwl2 : (l1.take j).length * 10000 ≤ 200 * 10000 := Nat.mul_le_mul_right _ (by rw [List.length_take]; omega)
      by_cases hlt : j < l1.length
      · obtain ⟨ad, rfl, h0, _⟩ := Rd.elem (f := encPart) (fun _ => rfl) (rd1.mod0 hmr) (by decide) j hlt
        have y0 := h0 _ rfl
        rw [Nat.mul_one] at y0
        have hpi := (HOK.out l1[j] (List.getElem_mem _)).rd.2.1
        have htk := wtPs_take l1 j hlt
        have q2 : (0 : Int) ≤ (j : Int) := by omega
        have q3 : (j : Int) < (l1.length : Int) := by omega
        obtain ⟨n, hnn⟩ : ∃ n, n = wtPs (l1.take j) := ⟨_, rfl⟩
        obtain ⟨k, hkk⟩ : ∃ k, k = l1[j].b.length := ⟨_, rfl⟩
        rw [← hnn, ← hkk] at htk
        rw [← hnn] at hwl ⊢
        rw [← hkk] at y0 hpi
        have HTK := Lib.hid htk
        clear htk hnn hkk h0
        go_wp2_with fail
        go_roundw
        case rel => exact ⟨j + 1, by go_num, by rw [HTK.out]; go_num, by omega, hmr⟩
        case measure => simp [intOf]; omega
      · obtain rfl : j = l1.length := by omega
        rw [List.take_length] at hwl ⊢
        by_cases hg : 10000 < wtPs l1
        · have q1 : (10000 : Int) < (wtPs l1 : Int) := by omega
          clear hg
          go_wp2_with ((with_reducible refine (awake5_calls _ (htab.mod0 hmr)).mono ?_); rintro e wz ⟨rfl, hmz⟩)
          go_ret
          exact ⟨rfl, hmr.then0 hmz⟩
        · have q1 : ¬ ((10000 : Int) < (wtPs l1 : Int)) := by omega
          have hpo : ∀ q ∈ l1, PartOk wr q := fun q hq => (HOK.out q hq).mod0 hmr
          have HPO := Lib.hid hpo
          have HS0 := Lib.hid hs0
          have hxs := opsX_small hs0
          have hrl : (opsR l0).1.length ≤ 1002000000 := by
            unfold opsR
            split
            · rename_i h; have := bytesO_length h hs0; simpa using this
            · simp
          obtain ⟨r, hr⟩ : ∃ r, r = opsR l0 := ⟨_, rfl⟩
          rw [← hr] at hxs hrl
          have HXS := Lib.hid hxs
          have HR := Lib.hid hr
          obtain ⟨bp, hbp⟩ : ∃ bp, bp = replayB (bsOf l1) := ⟨_, rfl⟩
          have HBP := Lib.hid hbp
          clear hpo hs0 hxs hr hbp hg
          go_wp2_with fail
          refine (bencode_calls l0 a0 c0 wr (rd0.mod0 hmr) HS0.out (htab.mod0 hmr)).mono ?_
          intro e w5 h5
          rw [← HR.out] at h5
          obtain ⟨A5, c5, rfl, hc5, hrx, hm5⟩ := h5.open
          have hm15 := hmr.then0 hm5
          clear h5
          go_wp2_with fail
          refine (rops_calls l0 a0 c0 w5 (rd0.mod0 hm15) (fun o ho => Nat.le_trans (HS0.out o ho) (by decide))).mono ?_
          intro e w6 h6
          rw [HXS.out] at h6
          obtain ⟨A6, c6, rfl, hc6, hry, hm6⟩ := h6.open
          have hm16 := hm15.then0 hm6
          have hrx6 := hrx.mod0 hm6
          clear h6
          go_wp2_with fail
          refine (replay_calls l1 a1 c1 w6 (rd1.mod0 hm16) (fun q hq => ((HPO.out q hq).mod0 hm5).mod0 hm6) (by omega) (htab.mod0 hm16)).mono ?_
          rintro e w7 ⟨v7, vs7, rfl, hba7, hm7⟩
          rw [← HBP.out] at hba7 ⊢
          have hm17 := hm16.then0 hm7
          obtain ⟨A7, c7, rfl, hbr7⟩ := hba7.rd
          clear hba7
          go_wp2_with fail
          refine (rreplay_calls l1 a1 c1 w7 (rd1.mod0 hm17) (fun q hq => (((HPO.out q hq).mod0 hm5).mod0 hm6).mod0 hm7) (by omega)).mono ?_
          rintro e w8 ⟨v8, vs8, rfl, hba8, hm8⟩
          rw [← HBP.out] at hba8 ⊢
          have hm18 := hm17.then0 hm8
          obtain ⟨A8, c8, rfl, hbr8⟩ := hba8.rd
          have hbr78 := hbr7.mod0 hm8
          have hrx8 := (hrx6.mod0 hm7).mod0 hm8
          have hry8 := (hry.mod0 hm7).mod0 hm8
          clear hba8 hbr7 hrx6 hrx hry
          go_wp2_with fail
          refine (bright_calls l0 a0 c0 w8 (rd0.mod0 hm18)).mono ?_
          rintro e w9 ⟨rfl, hm9⟩
          have hm19 := hm18.then0 hm9
          go_wp2_with fail
          refine (rrightops_calls l0 a0 c0 w9 (rd0.mod0 hm19)).mono ?_
          rintro e w10 ⟨rfl, hm10⟩
          have hm110 := hm19.then0 hm10
          obtain ⟨be, hbe⟩ : ∃ be, be = decide (rightO l0) := ⟨_, rfl⟩
          rw [← hbe]
          have hbb : (be == be) = true := by simp
          have hss : ((strOf r.1).toList == (strOf r.1).toList) = true := by simp
          have hcx : (convert 26 9 (.slice A5 r.1.length c5)).run Tryd.prog w10 = .ok (.string (strOf r.1)) w10 := conv_str ((hrx8.mod0 hm9).mod0 hm10)
          have hcy : (convert 26 9 (.slice A6 r.1.length c6)).run Tryd.prog w10 = .ok (.string (strOf r.1)) w10 := conv_str ((hry8.mod0 hm9).mod0 hm10)
          clear hbe
          go_wp2_with fail
          refine (num_calls _ _).mono ?_
          rintro e wz ⟨rfl, rfl⟩
          have hee : ((r.2 : Int) == (r.2 : Int)) = true := by simp
          go_wp2_with fail
          refine (batches_calls bp.1 bp.1 A7 A8 c7 c8 vs7 vs8 wz ((hbr78.mod0 hm9).mod0 hm10) ((hbr8.mod0 hm9).mod0 hm10)).mono ?_
          rintro e w11 ⟨rfl, hm11⟩
          rw [decide_eq_true rfl]
          have hm111 := hm110.then0 hm11
          have hee2 : ((bp.2 : Int) == (bp.2 : Int)) = true := by simp
          clear hcx hcy
          go_wp2_with ((with_reducible refine (awake5_calls _ (htab.mod0 hm111)).mono ?_); rintro e wz ⟨rfl, hmz⟩)
          go_ret
          exact ⟨rfl, hm111.then0 hmz⟩
end Go.Proofs.YtaldneffhbgepaaDoor

