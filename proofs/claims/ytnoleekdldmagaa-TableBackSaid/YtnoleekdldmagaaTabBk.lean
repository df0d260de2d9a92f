/- TableBack: what was told of right pairs is read back; of unlike ones it is unlike: the walk of the law. -/
import Derived.Test.YtnoleekdldmagaaTabD
import Derived.Test.YtnoleekdldmagaaTabLast
import Derived.Deep.DrawnRows
namespace Go.Proofs.Ytnoleekdldmagaa
open Go.RowKit
set_option linter.unusedVariables false

/-- How many bytes pairs take, at most. -/
def wS (l : List Pr) : Nat := (l.map fun p => 8 + p.k.size + p.v.size).sum
theorem wS_append (a b : List Pr) : wS (a ++ b) = wS a + wS b := by unfold wS; rw [List.map_append, List.sum_append]
theorem wS_drop (l : List Pr) (i : Nat) : wS (l.take i) + wS (l.drop i) = wS l := by rw [← wS_append, List.take_append_drop]
theorem wS_drop_le (l : List Pr) (i j : Nat) (h : i ≤ j) : wS (l.drop j) ≤ wS (l.drop i) := by
  have e : l.drop j = (l.drop i).drop (j - i) := by rw [List.drop_drop]; congr 1; omega
  rw [e]
  have := wS_drop (l.drop i) (j - i)
  omega
theorem wS_put (l : List Pr) (k v : ByteArray) : wS (putT l k v) ≤ wS l + (8 + k.size + v.size) := by
  unfold putT
  rw [wS_append]
  have e : ∀ r : List Pr, wS (⟨k, v⟩ :: r) = (8 + k.size + v.size) + wS r := fun r => rfl
  rw [e]
  have h1 := wS_drop l (lb l k)
  have h2 := wS_drop_le l (lb l k) (if hitB l k then lb l k + 1 else lb l k) (by split <;> omega)
  omega
theorem wS_foldput (l : List Pr) : ∀ m : List Pr, wS (l.foldl (fun m p => putT m p.k p.v) m) ≤ wS m + wS l := by
  induction l with
  | nil => intro m; exact Nat.le_refl _
  | cons p l ih =>
    intro m
    have h1 := ih (putT m p.k p.v)
    have h2 := wS_put m p.k p.v
    have e : wS (p :: l) = (8 + p.k.size + p.v.size) + wS l := rfl
    rw [List.foldl_cons, e]
    omega
theorem wS_apply0 (l : List Pr) : wS (applyT l []) ≤ wS l := by
  unfold applyT
  rw [List.foldl_nil]
  split
  · exact Nat.le_refl _
  · have := wS_foldput l []
    unfold normT
    have e : wS [] = 0 := rfl
    omega
theorem wS_great (l : List Pr) : wtP l ≤ 3000 → wS l ≤ 8 * wtP l := by
  induction l with
  | nil => intro _; exact Nat.le_refl _
  | cons p l ih =>
    intro h
    have e : wtP (p :: l) = wtPE p + wtP l := rfl
    have e2 : wS (p :: l) = (8 + p.k.size + p.v.size) + wS l := rfl
    rw [e] at h ⊢
    rw [e2]
    have h2 := ih (by omega)
    unfold wtPE at h ⊢
    omega
theorem wS_mem {l : List Pr} {p : Pr} (h : p ∈ l) : 8 + p.k.size + p.v.size ≤ wS l := by
  induction l with
  | nil => cases h
  | cons q l ih =>
    have e : wS (q :: l) = (8 + q.k.size + q.v.size) + wS l := rfl
    rw [e]
    rcases List.mem_cons.1 h with rfl | h
    · omega
    · have := ih h; omega
theorem wS_len (l : List Pr) : l.length * 8 ≤ wS l := by
  induction l with
  | nil => simp
  | cons q l ih =>
    have e : wS (q :: l) = (8 + q.k.size + q.v.size) + wS l := rfl
    rw [e, List.length_cons, Nat.add_mul]
    omega
theorem wS_small {l : List Pr} (h : wS l ≤ 24000) : SmallP l ∧ (encL (tabT l)).length ≤ 24004 := by
  refine ⟨⟨by have := wS_len l; omega, fun p hp => by have := wS_mem hp; omega⟩, ?_⟩
  have := tabT_bytes l
  unfold wS at h
  omega
theorem tableR_ok {l : List Pr} (hr : Rises l) (h : wS l ≤ 24000) : tableR l = (frameB (encL (tabT l)), 0) := by
  have h1 : tableR l = frameR (encL (tabT l)) := if_pos hr
  rw [h1]
  exact frameR_ok (by have := (wS_small h).2; omega)

set_option maxHeartbeats 2000000 in
set_option maxRecDepth 100000 in
theorem numb_calls (k : Int) (w : World) : Calls Try.prog 33 #[.int .i64 k] w fun e w' => e = .returned (.int .i64 k) ∧ w' = w := by
  go_enter Try.func33, Try.ntmps33
  go_wp2_with fail
  go_ret
  exact ⟨rfl, rfl⟩

theorem strOf_inj0 {a b : List UInt8} (h : strOf a = strOf b) : a = b := strOf_inj h
theorem OwnP.bytes {w : World} {r : List UInt8 × Nat} {e : Ending} {w' : World} (h : BytesE r w e w') : ∃ A c, e = .returned (.tuple #[.slice A r.1.length c, .int .i64 r.2]) ∧ r.1.length ≤ c ∧ Rd w' 1 A r.1.length (encB r.1) ∧ Mod NoneB w w' := by
  obtain ⟨v, rfl, ho, hm, _⟩ := h
  obtain ⟨A, c, rfl, hc, _, hr⟩ := ho.out
  exact ⟨A, c, rfl, hc, hr, hm⟩

attribute [local go_sem ↓] Go.wp_at_zero Go.wp_at_succ
set_option maxHeartbeats 12000000 in
set_option maxRecDepth 100000 in
theorem tableBack_walk (l0 l1 : List Pr) (a0 a1 : Option Addr) (c0 c1 : Nat) (w : World) (rd0 : Rd w 2 a0 l0.length (encPs l0)) (rd1 : Rd w 2 a1 l1.length (encPs l1)) :
    Calls Try.prog 15 #[.slice a0 l0.length c0, .slice a1 l1.length c1] w fun e w' => e = .returned (.bool true) ∧ Mod NoneB w w' := by
  go_enter Try.func15, Try.ntmps15
  go_wp2_with fail
  refine (greatP_calls l0 a0 c0 _ rd0).mono ?_
  rintro e w1 ⟨b, rfl, hm1, hb1⟩
  cases b with
  | true =>
    clear hb1
    go_wp2_with ((with_reducible refine (awake6_calls _).mono ?_); rintro e wz ⟨rfl, hmz⟩)
    go_ret
    exact ⟨rfl, hm1.then0 hmz⟩
  | false =>
    have hw0 := wS_great l0 (hb1 rfl)
    have hw0' := hb1 rfl
    clear hb1
    go_wp2_with fail
    refine (greatP_calls l1 a1 c1 _ (rd1.mod0 hm1)).mono ?_
    rintro e w2 ⟨b, rfl, hm2, hb2⟩
    have hm12 := hm1.then0 hm2
    cases b with
    | true =>
      clear hb2
      go_wp2_with ((with_reducible refine (awake6_calls _).mono ?_); rintro e wz ⟨rfl, hmz⟩)
      go_ret
      exact ⟨rfl, hm12.then0 hmz⟩
    | false =>
      have hw1 := wS_great l1 (hb2 rfl)
      have hw1' := hb2 rfl
      have hll0 := (wtP_le hw0').1
      have hll1 := (wtP_le hw1').1
      have hn0 := wS_apply0 l0
      have hn1 := wS_apply0 l1
      have hr0 : Rises (applyT l0 []) := rises_applyT l0 []
      have hr1 : Rises (applyT l1 []) := rises_applyT l1 []
      clear hb2 hm1 hm2
      go_wp2_with fail
      refine (applyN_calls l0 [] l0.length 0 rfl rfl _ _ _ _ _ (rd0.mod0 hm12) (Rd.nil _ _ _) (by omega)).mono ?_
      rintro e w3 ⟨v3, rfl, ho3, hm3⟩
      obtain ⟨p, hp⟩ : ∃ p, p = applyT l0 [] := ⟨_, rfl⟩
      rw [← hp] at ho3 hn0 hr0
      obtain ⟨A3, c3, rfl, hrp⟩ := ho3.out
      have hm13 := hm12.then0 hm3
      clear hp ho3 hm3
      go_wp2_with fail
      refine (applyN_calls l1 [] l1.length 0 rfl rfl _ _ _ _ _ (rd1.mod0 hm13) (Rd.nil _ _ _) (by omega)).mono ?_
      rintro e w4 ⟨v4, rfl, ho4, hm4⟩
      obtain ⟨q, hq⟩ : ∃ q, q = applyT l1 [] := ⟨_, rfl⟩
      rw [← hq] at ho4 hn1 hr1
      obtain ⟨A4, c4, rfl, hrq⟩ := ho4.out
      have hm14 := hm13.then0 hm4
      have hrp4 := hrp.mod0 hm4
      have hsp := wS_small (l := p) (by omega)
      have hsq := wS_small (l := q) (by omega)
      have htp := tableR_ok hr0 (by omega)
      have htq := tableR_ok hr1 (by omega)
      have hfp := fromT_frame hr0 hsp.1 (by have := hsp.2; omega)
      have hinj : decide (frameB (encL (tabT p)) = frameB (encL (tabT q))) = decide (p = q) := by
        rw [decide_eq_decide]
        exact ⟨tableR_inj hsp.1 hsq.1, fun h => by rw [h]⟩
      have hfl : (frameB (encL (tabT p))).length ≤ 100000 := by rw [frameB_length]; have := hsp.2; omega
      have hfl2 : (frameB (encL (tabT q))).length ≤ 100000 := by rw [frameB_length]; have := hsq.2; omega
      obtain ⟨x, hx⟩ : ∃ x, x = frameB (encL (tabT p)) := ⟨_, rfl⟩
      obtain ⟨y, hy⟩ : ∃ y, y = frameB (encL (tabT q)) := ⟨_, rfl⟩
      rw [← hx] at htp hfp hinj hfl
      rw [← hy] at htq hinj hfl2
      have hsp1 := hsp.1
      have hsq1 := hsq.1
      have HTP := Lib.hid htp
      have HTQ := Lib.hid htq
      have HFP := Lib.hid hfp
      have HIN := Lib.hid hinj
      have HSP := Lib.hid hsp1
      have HSQ := Lib.hid hsq1
      clear hq ho4 hm4 hrp hsp hsq htp htq hfp hinj hx hy hsp1 hsq1 hw0 hw0' hw1 hw1' hr0 hr1
      go_wp2_with fail
      refine (tencode_calls p A3 c3 w4 hrp4 HSP.out).mono ?_
      rintro e w5 h5
      rw [HTP.out] at h5
      obtain ⟨A5, c5, rfl, hc5, hrx, hm5⟩ := OwnP.bytes h5
      have hm15 := hm14.then0 hm5
      simp only at hc5 hrx
      clear h5
      go_wp2_with fail
      refine (tencode_calls q A4 c4 w5 (hrq.mod0 hm5) HSQ.out).mono ?_
      rintro e w6 h6
      rw [HTQ.out] at h6
      obtain ⟨A6, c6, rfl, hc6, hry, hm6⟩ := OwnP.bytes h6
      have hm16 := hm15.then0 hm6
      simp only at hc6 hry
      clear h6
      go_wp2_with fail
      refine (tdecode_calls x A5 c5 w6 (hrx.mod0 hm6) (by omega) hc5).mono ?_
      rintro e w7 ⟨v7, rfl, ho7, hm7, _⟩
      rw [HFP.out] at ho7 ⊢
      obtain ⟨A7, c7, hv7, hr7⟩ := ho7.nilD0
      replace hv7 : v7 = .slice A7 p.length c7 := hv7
      replace hr7 : Rd w7 2 A7 p.length (encPs p) := hr7
      subst hv7
      have e0 : errP (some p) = 0 := rfl
      rw [e0]
      have hm17 := hm16.then0 hm7
      have hrp7 := ((hrp4.mod0 hm5).mod0 hm6).mod0 hm7
      have hrq7 := ((hrq.mod0 hm5).mod0 hm6).mod0 hm7
      have hcx : ∀ w', Mod NoneB w7 w' → (convert 35 9 (.slice A5 x.length c5)).run Try.prog w' = .ok (.string (strOf x)) w' := fun w' hm => conv_str (((hrx.mod0 hm6).mod0 hm7).mod0 hm)
      have hcy : ∀ w', Mod NoneB w7 w' → (convert 35 9 (.slice A6 y.length c6)).run Try.prog w' = .ok (.string (strOf y)) w' := fun w' hm => conv_str ((hry.mod0 hm7).mod0 hm)
      have hpa : ∀ w', Mod NoneB w7 w' → Calls Try.prog 29 #[.slice A7 p.length c7, .slice A3 p.length c3] w' fun e w'' => e = .returned (.bool true) ∧ Mod NoneB w' w'' := by
        intro w' hm
        have h := pairs_calls p p A7 A3 c7 c3 w' (hr7.mod0 hm) (hrp7.mod0 hm)
        rw [decide_eq_true rfl] at h
        exact h
      have hpq : ∀ w', Mod NoneB w7 w' → Calls Try.prog 29 #[.slice A3 p.length c3, .slice A4 q.length c4] w' fun e w'' => e = .returned (.bool (decide (p = q))) ∧ Mod NoneB w' w'' :=
        fun w' hm => pairs_calls p q A3 A4 c3 c4 w' (hrp7.mod0 hm) (hrq7.mod0 hm)
      obtain ⟨be, hbe⟩ : ∃ be, be = decide (p = q) := ⟨_, rfl⟩
      rw [← hbe] at hpq HIN
      have hbq : ((strOf x).toList == (strOf y).toList) = be := by
        rw [beq_toList, ← HIN.out, decide_eq_decide]
        exact ⟨strOf_inj0, fun h => by rw [h]⟩
      have hbb : (be == be) = true := by simp
      have HCX := Lib.hid hcx
      have HCY := Lib.hid hcy
      have HPA := Lib.hid hpa
      have HPQ := Lib.hid hpq
      have HM0 : Mod NoneB w7 w7.drew := (Mod.refl NoneB w7).drew
      clear hcx hcy hpa hpq hbe hrx hry hr7 hrp7 hrq7 ho7 hrp4 hrq e0 hn0 hn1 hfl hfl2 hc5 hc6 hm7 hm6 hm5 hm16 hm15 hm14 hm13 hm12 hll0 hll1 HTP HTQ HFP HIN HSP HSQ rd0 rd1
      go_wp2_with fail
      go_region_law (first
        | (go_simp; go_at_call 33; (with_reducible refine (numb_calls _ _).mono ?_); rintro ez wz ⟨rfl, rfl⟩)
        | (go_simp; go_at_call 29; (with_reducible refine (HPA.out _ HM0).mono ?_); rintro ez wa ⟨rfl, hma⟩; have HMA := HM0.then0 hma; have cx := HCX.out wa HMA; have cy := HCY.out wa HMA)
        | (go_simp; go_at_call 29; (with_reducible refine (HPQ.out _ HMA).mono ?_); rintro ez wb ⟨rfl, hmb⟩; have HMB := HMA.then0 hmb; have cx2 := HCX.out wb HMB; have cy2 := HCY.out wb HMB)
        | (go_simp; go_at_call 26; (with_reducible refine (awake6_calls _).mono ?_); rintro ez wz ⟨rfl, hmz⟩))
      all_goals
        go_wp2_with fail
        go_ret
        exact ⟨rfl, (hm17.then0 HMB).then0 hmz⟩
end Go.Proofs.Ytnoleekdldmagaa
