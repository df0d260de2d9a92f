/- KeyApart: keys are unlike where what they hang on is: the walk of the law. -/
import Derived.Test.YtdmdiokfpbmnaaaDoorKyA
import Derived.Test.YtdmdiokfpbmnaaaDoorBatA
import Derived.Deep.RegionHeld3
namespace Go.Proofs.YtdmdiokfpbmnaaaDoor
open Go.RowKit
set_option linter.unusedVariables false

theorem wpAnyH_impK {P : Program} {md : Region.Mode} {ops : Array Oper} {Q : Exit → Act → World → Prop} {S S2 : World → Prop} (h : ∀ w, S2 w → S w) : ∀ (fuel : Nat) (listed : Array Bool) (a : Act) (w : World), wpAnyH P md ops Q S2 fuel listed a w → wpAnyH P md ops Q S fuel listed a w
  | 0, _, _, _, hh => hh
  | fuel + 1, _, _, _, hh => ⟨hh.1, fun i hi => wpOp_mono (fun a' w' h' => ⟨h _ h'.1, wpAnyH_impK h fuel _ a' w' h'.2⟩) (hh.2 i hi)⟩
theorem Rd.str {w : World} {A : Option Addr} {n : Nat} {l : List ByteArray} (h : Rd w 1 A n (encTs l)) (i : Nat) (hi : i < l.length) : ∃ ad, A = some ad ∧ w.cell? (ad.add i) = some (.string l[i]) := by
  obtain ⟨ad, e, h0, _⟩ := Rd.elem (f := encT) (fun _ => rfl) h (by decide) i hi
  have h1 := h0 _ rfl
  rw [Nat.mul_one] at h1
  exact ⟨ad, e, h1⟩
theorem Rd.part {w : World} {A : Option Addr} {n : Nat} {l : List Part} (h : Rd w 1 A n (l.flatMap encPart)) (i : Nat) (hi : i < l.length) : ∃ ad, A = some ad ∧ w.cell? (ad.add i) = some (.slice l[i].A l[i].b.length l[i].c) := by
  obtain ⟨ad, e, h0, _⟩ := Rd.elem (f := encPart) (fun _ => rfl) h (by decide) i hi
  have h1 := h0 _ rfl
  rw [Nat.mul_one] at h1
  exact ⟨ad, e, h1⟩
theorem faceAt_map {l : List Part} {j : Nat} (h : j < l.length) : faceAt (l.map (·.b)) j = l[j].b := by
  unfold faceAt
  rw [List.getD_eq_getElem?_getD, List.getElem?_map, List.getElem?_eq_getElem h]
  rfl
theorem hasAt_in {H : List Bool} {j : Nat} (h : j < H.length) : hasAt H j = H[j] := by unfold hasAt; rw [List.getD_eq_getElem?_getD, List.getElem?_eq_getElem h]; rfl
theorem hasAt_out {H : List Bool} {j : Nat} (h : ¬ j < H.length) : hasAt H j = false := by unfold hasAt; rw [List.getD_eq_getElem?_getD, List.getElem?_eq_none (by omega)]; rfl

set_option maxHeartbeats 16000000 in
set_option maxRecDepth 100000 in
theorem keyApart_walk (l0 l1 : List ByteArray) (l2 l3 : List Part) (l4 l5 : List Bool) (a0 a1 a2 a3 a4 a5 : Option Addr) (c0 c1 c2 c3 c4 c5 : Nat) (w : World)
    (rd0 : Rd w 1 a0 l0.length (encTs l0)) (rd1 : Rd w 1 a1 l1.length (encTs l1)) (rd2 : Rd w 1 a2 l2.length (l2.flatMap encPart)) (ok2 : ∀ p ∈ l2, PartOk w p) (rd3 : Rd w 1 a3 l3.length (l3.flatMap encPart)) (ok3 : ∀ p ∈ l3, PartOk w p)
    (rd4 : Rd w 1 a4 l4.length (encH l4)) (rd5 : Rd w 1 a5 l5.length (encH l5)) (htab : TabW w) (herr : ErrW w) :
    Calls Tryd.prog 6 #[.slice a0 l0.length c0, .slice a1 l1.length c1, .slice a2 l2.length c2, .slice a3 l3.length c3, .slice a4 l4.length c4, .slice a5 l5.length c5] w fun e w' => e = .returned (.bool true) ∧ Mod NoneB w w' := by
  have HAW : Hid (∀ W, Mod NoneB w W → Calls Tryd.prog 22 #[] W fun e w' => e = .returned (.bool true) ∧ Mod NoneB W w') := Lib.hid fun W hm => awake23_calls W (htab.mod0 hm) (herr.mod0 hm)
  have HG2 := Lib.hid (great23_calls l2 a2 c2 w rd2)
  have HG3 : Hid (∀ W, Mod NoneB w W → Calls Tryd.prog 21 #[.slice a3 l3.length c3] W (GreatF l3 W)) := Lib.hid fun W hm => great23_calls l3 a3 c3 W (rd3.mod0 hm)
  have OK2 := Lib.hid ok2
  have OK3 := Lib.hid ok3
  have n4 := rd4.2.1
  have n5 := rd5.2.1
  have n2 := rd2.2.1
  have n3 := rd3.2.1
  clear ok2 ok3 htab herr
  go_enter Tryd.func6, Tryd.ntmps6
  by_cases h0 : l0.length = 3
  case neg =>
    have e0 : ((l0.length : Int) != 3) = true := by rw [bne_iff_ne]; omega
    go_wp2_with ((with_reducible refine (HAW.out _ (Mod.refl _ _)).mono ?_); rintro ez w1 ⟨rfl, hm1⟩)
    go_ret
    exact ⟨rfl, hm1⟩
  by_cases h1 : l1.length = 3
  case neg =>
    have e0 : ((l0.length : Int) != 3) = false := by simp; omega
    have e1 : ((l1.length : Int) != 3) = true := by rw [bne_iff_ne]; omega
    go_wp2_with ((with_reducible refine (HAW.out _ (Mod.refl _ _)).mono ?_); rintro ez w1 ⟨rfl, hm1⟩)
    go_ret
    exact ⟨rfl, hm1⟩
  have e0 : ((l0.length : Int) != 3) = false := by simp; omega
  have e1 : ((l1.length : Int) != 3) = false := by simp; omega
  go_wp2_with fail
  refine HG2.out.mono ?_
  rintro e w1 ⟨b1, rfl, hm1, hf2⟩
  cases b1 with
  | true =>
    clear hf2
    go_wp2_with ((with_reducible refine (HAW.out _ hm1).mono ?_); rintro ez w2 ⟨rfl, hm2⟩)
    go_ret
    exact ⟨rfl, hm1.then0 hm2⟩
  | false =>
    have HF2 := Lib.hid (hf2 rfl)
    clear hf2 HG2
    go_wp2_with fail
    refine (HG3.out _ hm1).mono ?_
    rintro e w2 ⟨b2, rfl, hm2, hf3⟩
    have hmw2 := hm1.then0 hm2
    cases b2 with
    | true =>
      clear hf3
      go_wp2_with ((with_reducible refine (HAW.out _ hmw2).mono ?_); rintro ez w3 ⟨rfl, hm3⟩)
      go_ret
      exact ⟨rfl, hmw2.then0 hm3⟩
    | false =>
      have HF3 := Lib.hid (hf3 rfl)
      clear hf3 HG3 hm1 hm2
      by_cases g4 : 100 < l4.length
      · have e4 : (100 : Int) < l4.length := by omega
        go_wp2_with ((with_reducible refine (HAW.out _ hmw2).mono ?_); rintro ez w3 ⟨rfl, hm3⟩)
        go_ret
        exact ⟨rfl, hmw2.then0 hm3⟩
      by_cases g5 : 100 < l5.length
      · have e4 : ¬ (100 : Int) < l4.length := by omega
        have e5 : (100 : Int) < l5.length := by omega
        go_wp2_with ((with_reducible refine (HAW.out _ hmw2).mono ?_); rintro ez w3 ⟨rfl, hm3⟩)
        go_ret
        exact ⟨rfl, hmw2.then0 hm3⟩
      have e4 : ¬ (100 : Int) < l4.length := by omega
      have e5 : ¬ (100 : Int) < l5.length := by omega
      obtain ⟨F, hF⟩ : ∃ F, F = l2.map (·.b) := ⟨_, rfl⟩
      obtain ⟨G, hG⟩ : ∃ G, G = l3.map (·.b) := ⟨_, rfl⟩
      have hFl : F.length = l2.length := by rw [hF, List.length_map]
      have hGl : G.length = l3.length := by rw [hG, List.length_map]
      obtain ⟨E0, hE0⟩ : ∃ E0, E0 = decide (F.length = G.length) := ⟨_, rfl⟩
      have hE0' : ((l2.length : Int) == l3.length) = E0 := by
        rw [hE0, hFl, hGl]
        rw [Bool.eq_iff_iff, beq_iff_eq, decide_eq_true_iff]
        omega
      have HF := Lib.hid hF
      have HG := Lib.hid hG
      have HFL := Lib.hid hFl
      have HGL := Lib.hid hGl
      have HE0 := Lib.hid hE0
      clear hF hG hFl hGl hE0
      go_wp2_with fail
      clear hE0' e4 e5
      go_loopw [13, 14] (fun s k wr => ∃ j : Nat, k = .int .i64 j ∧ s = .bool (strUp E0 l0 l1 j) ∧ j ≤ 3 ∧ (∀ x ∈ l0.take j, x.size ≤ 1000) ∧ (∀ x ∈ l1.take j, x.size ≤ 1000) ∧ Mod NoneB w wr) (fun _ k _ => 3 - (intOf k).toNat)
      case atStart => exact ⟨0, rfl, by rw [strUp_zero], by omega, fun x hx => by simp at hx, fun x hx => by simp at hx, hmw2⟩
      case round =>
        obtain ⟨j, rfl, rfl, hj, hs0, hs1, hm⟩ := hrel
        have HS0 := Lib.hid hs0
        have HS1 := Lib.hid hs1
        clear hs0 hs1 hmw2
        by_cases hlt : j < 3
        · obtain ⟨ad0, rfl, k0⟩ := rd0.str j (by omega)
          obtain ⟨ad1, rfl, k1⟩ := rd1.str j (by omega)
          replace k0 := hm.cell0 k0
          replace k1 := hm.cell0 k1
          have hsu := strUp_succ E0 l0 l1 j (by omega) (by omega)
          have ht0 : ∀ (P : ByteArray → Prop), (∀ q ∈ l0.take j, P q) → P l0[j] → ∀ q ∈ l0.take (j + 1), P q := by
            intro P h1 h2 q hq
            rw [List.take_succ_eq_append_getElem (by omega)] at hq
            rcases List.mem_append.1 hq with h | h
            · exact h1 q h
            · rw [List.mem_singleton] at h
              rw [h]; exact h2
          have ht1 : ∀ (P : ByteArray → Prop), (∀ q ∈ l1.take j, P q) → P l1[j] → ∀ q ∈ l1.take (j + 1), P q := by
            intro P h1 h2 q hq
            rw [List.take_succ_eq_append_getElem (by omega)] at hq
            rcases List.mem_append.1 hq with h | h
            · exact h1 q h
            · rw [List.mem_singleton] at h
              rw [h]; exact h2
          obtain ⟨x, hx⟩ : ∃ x, x = l0[j] := ⟨_, rfl⟩
          obtain ⟨y, hy⟩ : ∃ y, y = l1[j] := ⟨_, rfl⟩
          rw [← hx, ← hy] at hsu
          rw [← hx] at ht0 k0
          rw [← hy] at ht1 k1
          have heb := beq_toList x y
          obtain ⟨eb, hb⟩ : ∃ eb, eb = decide (x = y) := ⟨_, rfl⟩
          rw [← hb] at heb hsu
          obtain ⟨sb, hsb⟩ : ∃ sb, sb = strUp E0 l0 l1 j := ⟨_, rfl⟩
          rw [← hsb] at hsu ⊢
          have HSU := Lib.hid hsu
          have HT0 := Lib.hid ht0
          have HT1 := Lib.hid ht1
          have f1 : (0 : Int) ≤ j := by omega
          have f2 : (j : Int) < l0.length := by omega
          have f3 : (j : Int) < l1.length := by omega
          have f4 : (j : Int) < 3 := by omega
          clear hx hy hb hsb hsu ht0 ht1
          by_cases g0 : x.size ≤ 1000
          case neg =>
            have g0' : (1000 : Int) < x.size := by omega
            go_wp2_with ((with_reducible refine (HAW.out _ hm).mono ?_); rintro ez w3 ⟨rfl, hm3⟩)
            go_ret
            exact ⟨rfl, hm.then0 hm3⟩
          by_cases g1 : y.size ≤ 1000
          case neg =>
            have g0' : ¬ (1000 : Int) < x.size := by omega
            have g1' : (1000 : Int) < y.size := by omega
            go_wp2_with ((with_reducible refine (HAW.out _ hm).mono ?_); rintro ez w3 ⟨rfl, hm3⟩)
            go_ret
            exact ⟨rfl, hm.then0 hm3⟩
          have g0' : ¬ (1000 : Int) < x.size := by omega
          have g1' : ¬ (1000 : Int) < y.size := by omega
          cases sb with
          | true =>
            go_wp2_with fail
            go_quiet (fail)
            clear f1 f2 f3 f4 g0' g1' k0 k1
            go_wp2_with fail
            go_roundw
            case rel => exact ⟨j + 1, by go_num, by rw [HSU.out, Bool.true_and], by omega, HT0.out (fun q => q.size ≤ 1000) HS0.out g0, HT1.out (fun q => q.size ≤ 1000) HS1.out g1, hm.drewN _⟩
            case measure => simp [intOf]; omega
          | false =>
            go_wp2_with fail
            go_quiet (fail)
            clear f1 f2 f3 f4 g0' g1' k0 k1
            go_wp2_with fail
            go_roundw
            case rel => exact ⟨j + 1, by go_num, by rw [HSU.out, Bool.false_and], by omega, HT0.out (fun q => q.size ≤ 1000) HS0.out g0, HT1.out (fun q => q.size ≤ 1000) HS1.out g1, hm.drewN _⟩
            case measure => simp [intOf]; omega
        · obtain rfl : j = 3 := by omega
          obtain ⟨E1, hE1⟩ : ∃ E1, E1 = strUp E0 l0 l1 3 := ⟨_, rfl⟩
          rw [← hE1]
          have HE1 := Lib.hid hE1
          clear hE1
          have f4 : ¬ ((3 : Nat) : Int) < 3 := by omega
          go_wp2_with fail
          obtain ⟨wE, hwE⟩ : ∃ x, x = wr := ⟨_, rfl⟩
          subst hwE
          go_loopw [13, 15, 16, 17] (fun s k _ _ wr => ∃ j : Nat, k = .int .i64 j ∧ s = .bool (sameUp E1 F G l4 l5 j) ∧ j ≤ min F.length G.length ∧ Mod NoneB w wr) (fun _ k _ _ _ => min F.length G.length - (intOf k).toNat)
          case atStart => exact ⟨0, rfl, by rw [sameUp_zero], by omega, hm⟩
          case round =>
            obtain ⟨j, rfl, rfl, hj, hm2⟩ := hrel
            clear hm
            by_cases hlt : j < min F.length G.length
            · have q2 : j < l2.length := by have := HFL.out; omega
              have q3 : j < l3.length := by have := HGL.out; omega
              obtain ⟨ad2, rfl, k2⟩ := rd2.part j q2
              obtain ⟨ad3, rfl, k3⟩ := rd3.part j q3
              have hcp : ∀ W, Mod NoneB w W → (convert 33 9 (.slice l2[j].A l2[j].b.length l2[j].c)).run Tryd.prog W = .ok (.string (strOf l2[j].b)) W := fun W hm => conv_str ((OK2.out _ (List.getElem_mem _)).rd.mod0 hm)
              have hcq : ∀ W, Mod NoneB w W → (convert 33 9 (.slice l3[j].A l3[j].b.length l3[j].c)).run Tryd.prog W = .ok (.string (strOf l3[j].b)) W := fun W hm => conv_str ((OK3.out _ (List.getElem_mem _)).rd.mod0 hm)
              have hsu := sameUp_succ E1 F G l4 l5 j
              rw [show faceAt F j = l2[j].b by rw [HF.out]; exact faceAt_map q2, show faceAt G j = l3[j].b by rw [HG.out]; exact faceAt_map q3] at hsu
              obtain ⟨p, hp⟩ : ∃ p, p = l2[j] := ⟨_, rfl⟩
              obtain ⟨q, hq⟩ : ∃ q, q = l3[j] := ⟨_, rfl⟩
              rw [← hp] at k2 hcp hsu
              rw [← hq] at k3 hcq hsu
              have heb := beq_toList (strOf p.b) (strOf q.b)
              obtain ⟨eb, hb⟩ : ∃ eb, eb = decide (strOf p.b = strOf q.b) := ⟨_, rfl⟩
              rw [← hb] at heb hsu
              obtain ⟨sb, hsb⟩ : ∃ sb, sb = sameUp E1 F G l4 l5 j := ⟨_, rfl⟩
              rw [← hsb] at hsu ⊢
              have hx4 : (j < l4.length ∧ ∃ ad, a4 = some ad ∧ w.cell? (ad.add j) = some (.bool (hasAt l4 j))) ∨ (¬ j < l4.length ∧ hasAt l4 j = false) := by
                by_cases h : j < l4.length
                · obtain ⟨ad, e, k⟩ := rd4.bool j h
                  exact .inl ⟨h, ad, e, by rw [hasAt_in h]; exact k⟩
                · exact .inr ⟨h, hasAt_out h⟩
              have hx5 : (j < l5.length ∧ ∃ ad, a5 = some ad ∧ w.cell? (ad.add j) = some (.bool (hasAt l5 j))) ∨ (¬ j < l5.length ∧ hasAt l5 j = false) := by
                by_cases h : j < l5.length
                · obtain ⟨ad, e, k⟩ := rd5.bool j h
                  exact .inl ⟨h, ad, e, by rw [hasAt_in h]; exact k⟩
                · exact .inr ⟨h, hasAt_out h⟩
              obtain ⟨xb, hxb⟩ : ∃ xb, xb = hasAt l4 j := ⟨_, rfl⟩
              obtain ⟨yb, hyb⟩ : ∃ yb, yb = hasAt l5 j := ⟨_, rfl⟩
              rw [← hxb] at hx4 hsu
              rw [← hyb] at hx5 hsu
              have HSU := Lib.hid hsu
              have HCP := Lib.hid hcp
              have HCQ := Lib.hid hcq
              have HK2 := Lib.hid k2
              have HK3 := Lib.hid k3
              have f1 : (0 : Int) ≤ j := by omega
              have f2 : (j : Int) < l2.length := by omega
              have f3 : (j : Int) < l3.length := by omega
              clear hp hq hb hsb hxb hyb hsu hcp hcq k2 k3
              rcases hx4 with ⟨y4, ad4, rfl, k4⟩ | ⟨y4, rfl⟩ <;> rcases hx5 with ⟨y5, ad5, rfl, k5⟩ | ⟨y5, rfl⟩
              case inl.inl =>
                replace k4 := hm2.cell0 k4
                replace k5 := hm2.cell0 k5
                have z4 : (j : Int) < l4.length := by omega
                have z5 : (j : Int) < l5.length := by omega
                go_wp2_with fail
                go_quiet (fail)
                have hm3 : Mod NoneB w (wr.drewN nq) := hm2.drewN nq
                generalize wr.drewN nq = w3 at hm3 ⊢
                have k2 := hm3.cell0 HK2.out
                have k3 := hm3.cell0 HK3.out
                have cp : ∀ k, (convert 33 9 (.slice p.A p.b.length p.c)).run Tryd.prog (w3.drewN k) = .ok (.string (strOf p.b)) (w3.drewN k) := fun k => HCP.out _ (hm3.drewN k)
                have cq : ∀ k, (convert 33 9 (.slice q.A q.b.length q.c)).run Tryd.prog (w3.drewN k) = .ok (.string (strOf q.b)) (w3.drewN k) := fun k => HCQ.out _ (hm3.drewN k)
                cases xb <;> cases yb <;> cases sb <;> 
                  (go_wp2_with fail
                   go_quiet (fail)
                   clear k2 k3 cp cq f1 f2 f3 z4 z5
                   go_wp2_with fail
                   go_roundw
                   case rel => exact ⟨j + 1, by go_num, by rw [HSU.out]; rfl, by omega, hm3.drewN _⟩
                   case measure => simp [intOf]; omega)
              case inl.inr =>
                replace k4 := hm2.cell0 k4
                have z4 : (j : Int) < l4.length := by omega
                have z5 : ¬ (j : Int) < l5.length := by omega
                go_wp2_with fail
                go_quiet (fail)
                have hm3 : Mod NoneB w (wr.drewN nq) := hm2.drewN nq
                generalize wr.drewN nq = w3 at hm3 ⊢
                have k2 := hm3.cell0 HK2.out
                have k3 := hm3.cell0 HK3.out
                have cp : ∀ k, (convert 33 9 (.slice p.A p.b.length p.c)).run Tryd.prog (w3.drewN k) = .ok (.string (strOf p.b)) (w3.drewN k) := fun k => HCP.out _ (hm3.drewN k)
                have cq : ∀ k, (convert 33 9 (.slice q.A q.b.length q.c)).run Tryd.prog (w3.drewN k) = .ok (.string (strOf q.b)) (w3.drewN k) := fun k => HCQ.out _ (hm3.drewN k)
                cases xb <;> cases sb <;> 
                  (go_wp2_with fail
                   go_quiet (fail)
                   clear k2 k3 cp cq f1 f2 f3 z4 z5
                   go_wp2_with fail
                   go_roundw
                   case rel => exact ⟨j + 1, by go_num, by rw [HSU.out]; rfl, by omega, hm3.drewN _⟩
                   case measure => simp [intOf]; omega)
              case inr.inl =>
                replace k5 := hm2.cell0 k5
                have z4 : ¬ (j : Int) < l4.length := by omega
                have z5 : (j : Int) < l5.length := by omega
                go_wp2_with fail
                go_quiet (fail)
                have hm3 : Mod NoneB w (wr.drewN nq) := hm2.drewN nq
                generalize wr.drewN nq = w3 at hm3 ⊢
                have k2 := hm3.cell0 HK2.out
                have k3 := hm3.cell0 HK3.out
                have cp : ∀ k, (convert 33 9 (.slice p.A p.b.length p.c)).run Tryd.prog (w3.drewN k) = .ok (.string (strOf p.b)) (w3.drewN k) := fun k => HCP.out _ (hm3.drewN k)
                have cq : ∀ k, (convert 33 9 (.slice q.A q.b.length q.c)).run Tryd.prog (w3.drewN k) = .ok (.string (strOf q.b)) (w3.drewN k) := fun k => HCQ.out _ (hm3.drewN k)
                cases yb <;> cases sb <;> 
                  (go_wp2_with fail
                   go_quiet (fail)
                   clear k2 k3 cp cq f1 f2 f3 z4 z5
                   go_wp2_with fail
                   go_roundw
                   case rel => exact ⟨j + 1, by go_num, by rw [HSU.out]; rfl, by omega, hm3.drewN _⟩
                   case measure => simp [intOf]; omega)
              case inr.inr =>
                have z4 : ¬ (j : Int) < l4.length := by omega
                have z5 : ¬ (j : Int) < l5.length := by omega
                go_wp2_with fail
                go_quiet (fail)
                have hm3 : Mod NoneB w (wr.drewN nq) := hm2.drewN nq
                generalize wr.drewN nq = w3 at hm3 ⊢
                have k2 := hm3.cell0 HK2.out
                have k3 := hm3.cell0 HK3.out
                have cp : ∀ k, (convert 33 9 (.slice p.A p.b.length p.c)).run Tryd.prog (w3.drewN k) = .ok (.string (strOf p.b)) (w3.drewN k) := fun k => HCP.out _ (hm3.drewN k)
                have cq : ∀ k, (convert 33 9 (.slice q.A q.b.length q.c)).run Tryd.prog (w3.drewN k) = .ok (.string (strOf q.b)) (w3.drewN k) := fun k => HCQ.out _ (hm3.drewN k)
                cases sb <;> 
                  (go_wp2_with fail
                   go_quiet (fail)
                   clear k2 k3 cp cq f1 f2 f3 z4 z5
                   go_wp2_with fail
                   go_roundw
                   case rel => exact ⟨j + 1, by go_num, by rw [HSU.out]; rfl, by omega, hm3.drewN _⟩
                   case measure => simp [intOf]; omega)
            · have hje : j = min F.length G.length := by omega
              have hall := same_all (F := F) (G := G) (H := l4) (I := l5) h0 h1
              rw [← HE0.out, ← HE1.out, ← hje] at hall
              have z0 := HS0.out
              have z1 := HS1.out
              rw [List.take_of_length_le (by omega)] at z0 z1
              have s00 := z0 l0[0] (List.getElem_mem _)
              have s01 := z0 l0[1] (List.getElem_mem _)
              have s02 := z0 l0[2] (List.getElem_mem _)
              have s10 := z1 l1[0] (List.getElem_mem _)
              have s11 := z1 l1[1] (List.getElem_mem _)
              have s12 := z1 l1[2] (List.getElem_mem _)
              have HF2' := HF2.out
              have HF3' := HF3.out
              have hinj := keyE_inj (H := l4) (I := l5) (a := l0[0]) (b := l0[1]) (c := l0[2]) (a' := l1[0]) (b' := l1[1]) (c' := l1[2]) (by omega) (by omega) (by omega) (by rw [← HF.out] at HF2'; exact HF2') (by omega) (by omega) (by omega) (by rw [← HG.out] at HF3'; exact HF3')
              rw [← hall, ← beq_toList] at hinj
              have hk1 : ∀ W, Mod NoneB w W → Calls Tryd.prog 23 #[.string l0[0], .string l0[1], .string l0[2], .slice a2 l2.length c2, .slice a4 l4.length c4] W fun e w' => ∃ v, e = .returned v ∧ Own w' 5 1 v (encL (keyT l0[0] l0[1] l0[2] F l4)).length (encB (encL (keyT l0[0] l0[1] l0[2] F l4))) ∧ Mod NoneB W w' ∧ ∀ g, v.ownBlock = some g → W.heap.size ≤ g := by
                intro W hm
                rw [HF.out]
                exact key_calls l0[0] l0[1] l0[2] l2 l4 a2 a4 c2 c4 W (rd2.mod0 hm) (fun p hp => (OK2.out p hp).rd.mod0 hm) (rd4.mod0 hm) (by omega) (by omega) (by omega) HF2.out
              have hk2 : ∀ W, Mod NoneB w W → Calls Tryd.prog 23 #[.string l1[0], .string l1[1], .string l1[2], .slice a3 l3.length c3, .slice a5 l5.length c5] W fun e w' => ∃ v, e = .returned v ∧ Own w' 5 1 v (encL (keyT l1[0] l1[1] l1[2] G l5)).length (encB (encL (keyT l1[0] l1[1] l1[2] G l5))) ∧ Mod NoneB W w' ∧ ∀ g, v.ownBlock = some g → W.heap.size ≤ g := by
                intro W hm
                rw [HG.out]
                exact key_calls l1[0] l1[1] l1[2] l3 l5 a3 a5 c3 c5 W (rd3.mod0 hm) (fun p hp => (OK3.out p hp).rd.mod0 hm) (rd5.mod0 hm) (by omega) (by omega) (by omega) HF3.out
              obtain ⟨ad0, rfl, q0⟩ := rd0.str 0 (by omega)
              obtain ⟨ad', e, q1⟩ := rd0.str 1 (by omega)
              cases e
              obtain ⟨ad', e, q2⟩ := rd0.str 2 (by omega)
              cases e
              obtain ⟨ad1, rfl, r0⟩ := rd1.str 0 (by omega)
              obtain ⟨ad', e, r1⟩ := rd1.str 1 (by omega)
              cases e
              obtain ⟨ad', e, r2⟩ := rd1.str 2 (by omega)
              cases e
              rw [add_nil0] at q0 r0
              rw [show ad0.add 1 = ⟨ad0.block, ad0.off + 1, none⟩ from add_succ ad0 0] at q1
              rw [show ad0.add 2 = ⟨ad0.block, ad0.off + 2, none⟩ from add_succ ad0 1] at q2
              rw [show ad1.add 1 = ⟨ad1.block, ad1.off + 1, none⟩ from add_succ ad1 0] at r1
              rw [show ad1.add 2 = ⟨ad1.block, ad1.off + 2, none⟩ from add_succ ad1 1] at r2
              obtain ⟨x0, hx0⟩ : ∃ x, x = l0[0] := ⟨_, rfl⟩
              obtain ⟨x1, hx1⟩ : ∃ x, x = l0[1] := ⟨_, rfl⟩
              obtain ⟨x2, hx2⟩ : ∃ x, x = l0[2] := ⟨_, rfl⟩
              obtain ⟨y0, hy0⟩ : ∃ x, x = l1[0] := ⟨_, rfl⟩
              obtain ⟨y1, hy1⟩ : ∃ x, x = l1[1] := ⟨_, rfl⟩
              obtain ⟨y2, hy2⟩ : ∃ x, x = l1[2] := ⟨_, rfl⟩
              rw [← hx0, ← hx1, ← hx2] at hk1 hinj
              rw [← hy0, ← hy1, ← hy2] at hk2 hinj
              rw [← hx0] at q0
              rw [← hx1] at q1
              rw [← hx2] at q2
              rw [← hy0] at r0
              rw [← hy1] at r1
              rw [← hy2] at r2
              obtain ⟨k1, hk1e⟩ : ∃ k, k = encL (keyT x0 x1 x2 F l4) := ⟨_, rfl⟩
              obtain ⟨k2, hk2e⟩ : ∃ k, k = encL (keyT y0 y1 y2 G l5) := ⟨_, rfl⟩
              rw [← hk1e] at hk1 hinj
              rw [← hk2e] at hk2 hinj
              have HK1 := Lib.hid hk1
              have HKK2 := Lib.hid hk2
              obtain ⟨sb, hsb⟩ : ∃ sb, sb = sameUp E1 F G l4 l5 j := ⟨_, rfl⟩
              rw [← hsb] at hinj ⊢
              have HM0 : Mod NoneB w wr.drew := hm2.drew
              replace q0 := HM0.cell0 q0
              replace q1 := HM0.cell0 q1
              replace q2 := HM0.cell0 q2
              replace r0 := HM0.cell0 r0
              replace r1 := HM0.cell0 r1
              replace r2 := HM0.cell0 r2
              have g1 : ¬ (j : Int) < l2.length ∨ (j : Int) < l2.length := by omega
              have hlen : ¬ ((j : Int) < l2.length ∧ (j : Int) < l3.length) := by have := HFL.out; have := HGL.out; omega
              have bb : (sb == sb) = true := by simp
              have i0 : ((0 : Int) < l0.length) := by omega
              have i1 : ((1 : Int) < l0.length) := by omega
              have i2 : ((2 : Int) < l0.length) := by omega
              have j0 : ((0 : Int) < l1.length) := by omega
              have j1 : ((1 : Int) < l1.length) := by omega
              have j2 : ((2 : Int) < l1.length) := by omega
              have HINJ := Lib.hid hinj
              clear hk1 hk2 hall hx0 hx1 hx2 hy0 hy1 hy2 hk1e hk2e hsb z0 z1 s00 s01 s02 s10 s11 s12 HF2' HF3' hje rd0 rd1 rd2 rd3 rd4 rd5 g1
              by_cases gl : (j : Int) < l2.length
              case neg =>
                go_wp2_with fail
                refine wp_region_held_drew (S := fun w' => w'.cell? ad0 = some (.string x0) ∧ w'.cell? ⟨ad0.block, ad0.off + 1, none⟩ = some (.string x1) ∧ w'.cell? ⟨ad0.block, ad0.off + 2, none⟩ = some (.string x2) ∧ w'.cell? ad1 = some (.string y0) ∧ w'.cell? ⟨ad1.block, ad1.off + 1, none⟩ = some (.string y1) ∧ w'.cell? ⟨ad1.block, ad1.off + 2, none⟩ = some (.string y2)) (by kernel_rfl) ⟨q0, q1, q2, r0, r1, r2⟩ (fun hHeld => ?_)
                refine wpAnyH_take (i := 0) (v := ?_) (by simp only [List.getElem?_toArray, List.getElem?_cons_zero]; rfl) (by kernel_rfl) (by kernel_rfl) (by kernel_rfl) (by exact fun _ _ _ h => h) (Or.inl ⟨by rfl, ?_⟩) (by assumption) ?_
                rotate_left
                · intro w hSw
                  try dsimp only at hSw
                  obtain ⟨z0, z1, z2, z3, z4, z5⟩ := hSw
                  go_simp
                  all_goals with_reducible rfl
                try simp only [Act.put, List.setIfInBounds_toArray, List.set_cons_zero, List.set_cons_succ]
                refine wpAnyH_take (i := 1) (v := ?_) (by simp only [List.getElem?_toArray, List.getElem?_cons_succ, List.getElem?_cons_zero]; rfl) (by kernel_rfl) (by kernel_rfl) (by kernel_rfl) (by exact fun _ _ _ h => h) (Or.inl ⟨by rfl, ?_⟩) (by assumption) ?_
                rotate_left
                · intro w hSw
                  try dsimp only at hSw
                  obtain ⟨z0, z1, z2, z3, z4, z5⟩ := hSw
                  go_simp
                  all_goals with_reducible rfl
                try simp only [Act.put, List.setIfInBounds_toArray, List.set_cons_zero, List.set_cons_succ]
                refine wpAnyH_take (i := 2) (v := ?_) (by simp only [List.getElem?_toArray, List.getElem?_cons_succ, List.getElem?_cons_zero]; rfl) (by kernel_rfl) (by kernel_rfl) (by kernel_rfl) (by exact fun _ _ _ h => h) (Or.inl ⟨by rfl, ?_⟩) (by assumption) ?_
                rotate_left
                · intro w hSw
                  try dsimp only at hSw
                  obtain ⟨z0, z1, z2, z3, z4, z5⟩ := hSw
                  go_simp
                  all_goals with_reducible rfl
                try simp only [Act.put, List.setIfInBounds_toArray, List.set_cons_zero, List.set_cons_succ]
                refine wpAnyH_take (i := 3) (v := ?_) (by simp only [List.getElem?_toArray, List.getElem?_cons_succ, List.getElem?_cons_zero]; rfl) (by kernel_rfl) (by kernel_rfl) (by kernel_rfl) (by exact fun _ _ _ h => h) (Or.inl ⟨by rfl, ?_⟩) (by assumption) ?_
                rotate_left
                · intro w hSw
                  try dsimp only at hSw
                  obtain ⟨z0, z1, z2, z3, z4, z5⟩ := hSw
                  go_simp
                  all_goals with_reducible rfl
                try simp only [Act.put, List.setIfInBounds_toArray, List.set_cons_zero, List.set_cons_succ]
                refine wpAnyH_take (i := 4) (v := ?_) (by simp only [List.getElem?_toArray, List.getElem?_cons_succ, List.getElem?_cons_zero]; rfl) (by kernel_rfl) (by kernel_rfl) (by kernel_rfl) (by exact fun _ _ _ h => h) (Or.inl ⟨by rfl, ?_⟩) (by assumption) ?_
                rotate_left
                · intro w hSw
                  try dsimp only at hSw
                  obtain ⟨z0, z1, z2, z3, z4, z5⟩ := hSw
                  go_simp
                  all_goals with_reducible rfl
                try simp only [Act.put, List.setIfInBounds_toArray, List.set_cons_zero, List.set_cons_succ]
                refine wpAnyH_take (i := 5) (v := ?_) (by simp only [List.getElem?_toArray, List.getElem?_cons_succ, List.getElem?_cons_zero]; rfl) (by kernel_rfl) (by kernel_rfl) (by kernel_rfl) (by exact fun _ _ _ h => h) (Or.inl ⟨by rfl, ?_⟩) (by assumption) ?_
                rotate_left
                · intro w hSw
                  try dsimp only at hSw
                  obtain ⟨z0, z1, z2, z3, z4, z5⟩ := hSw
                  go_simp
                  all_goals with_reducible rfl
                try simp only [Act.put, List.setIfInBounds_toArray, List.set_cons_zero, List.set_cons_succ]
                refine wpAnyH_take (i := 6) (v := ?_) (by simp only [List.getElem?_toArray, List.getElem?_cons_succ, List.getElem?_cons_zero]; rfl) (by kernel_rfl) (by kernel_rfl) (by kernel_rfl) (by exact fun _ _ _ h => h) (Or.inl ⟨by rfl, ?_⟩) (by assumption) ?_
                rotate_left
                · intro w hSw
                  try dsimp only at hSw
                  obtain ⟨z0, z1, z2, z3, z4, z5⟩ := hSw
                  go_simp
                  all_goals with_reducible rfl
                try simp only [Act.put, List.setIfInBounds_toArray, List.set_cons_zero, List.set_cons_succ]
                refine wpAnyH_take (i := 7) (v := ?_) (by simp only [List.getElem?_toArray, List.getElem?_cons_succ, List.getElem?_cons_zero]; rfl) (by kernel_rfl) (by kernel_rfl) (by kernel_rfl) (by exact fun _ _ _ h => h) (Or.inl ⟨by rfl, ?_⟩) (by assumption) ?_
                rotate_left
                · intro w hSw
                  try dsimp only at hSw
                  obtain ⟨z0, z1, z2, z3, z4, z5⟩ := hSw
                  go_simp
                  all_goals with_reducible rfl
                try simp only [Act.put, List.setIfInBounds_toArray, List.set_cons_zero, List.set_cons_succ]
                refine wpAnyH_take (i := 8) (v := ?_) (by simp only [List.getElem?_toArray, List.getElem?_cons_succ, List.getElem?_cons_zero]; rfl) (by kernel_rfl) (by kernel_rfl) (by kernel_rfl) (by exact fun _ _ _ h => h) (Or.inl ⟨by rfl, ?_⟩) (by assumption) ?_
                rotate_left
                · intro w hSw
                  try dsimp only at hSw
                  obtain ⟨z0, z1, z2, z3, z4, z5⟩ := hSw
                  go_simp
                  all_goals with_reducible rfl
                try simp only [Act.put, List.setIfInBounds_toArray, List.set_cons_zero, List.set_cons_succ]
                refine wpAnyH_take (i := 9) (v := ?_) (by simp only [List.getElem?_toArray, List.getElem?_cons_succ, List.getElem?_cons_zero]; rfl) (by kernel_rfl) (by kernel_rfl) (by kernel_rfl) (by exact fun _ _ _ h => h) (Or.inl ⟨by rfl, ?_⟩) (by assumption) ?_
                rotate_left
                · intro w hSw
                  try dsimp only at hSw
                  obtain ⟨z0, z1, z2, z3, z4, z5⟩ := hSw
                  go_simp
                  all_goals with_reducible rfl
                try simp only [Act.put, List.setIfInBounds_toArray, List.set_cons_zero, List.set_cons_succ]
                refine wpAnyH_take (i := 10) (v := ?_) (by simp only [List.getElem?_toArray, List.getElem?_cons_succ, List.getElem?_cons_zero]; rfl) (by kernel_rfl) (by kernel_rfl) (by kernel_rfl) (by exact fun _ _ _ h => h) (Or.inl ⟨by rfl, ?_⟩) (by assumption) ?_
                rotate_left
                · intro w hSw
                  try dsimp only at hSw
                  obtain ⟨z0, z1, z2, z3, z4, z5⟩ := hSw
                  go_simp
                  all_goals with_reducible rfl
                try simp only [Act.put, List.setIfInBounds_toArray, List.set_cons_zero, List.set_cons_succ]
                refine wpAnyH_take (i := 13) (v := ?_) (by simp only [List.getElem?_toArray, List.getElem?_cons_succ, List.getElem?_cons_zero]; rfl) (by kernel_rfl) (by kernel_rfl) (by kernel_rfl) (by exact fun _ _ _ h => h) (Or.inl ⟨by rfl, ?_⟩) (by assumption) ?_
                rotate_left
                · intro w hSw
                  try dsimp only at hSw
                  obtain ⟨z0, z1, z2, z3, z4, z5⟩ := hSw
                  go_simp
                  all_goals with_reducible rfl
                try simp only [Act.put, List.setIfInBounds_toArray, List.set_cons_zero, List.set_cons_succ]
                refine wpAnyH_take (i := 14) (v := ?_) (by simp only [List.getElem?_toArray, List.getElem?_cons_succ, List.getElem?_cons_zero]; rfl) (by kernel_rfl) (by kernel_rfl) (by kernel_rfl) (by exact fun _ _ _ h => h) (Or.inl ⟨by rfl, ?_⟩) (by assumption) ?_
                rotate_left
                · intro w hSw
                  try dsimp only at hSw
                  obtain ⟨z0, z1, z2, z3, z4, z5⟩ := hSw
                  go_simp
                  all_goals with_reducible rfl
                try simp only [Act.put, List.setIfInBounds_toArray, List.set_cons_zero, List.set_cons_succ]
                refine wpAnyH_take (i := 15) (v := ?_) (by simp only [List.getElem?_toArray, List.getElem?_cons_succ, List.getElem?_cons_zero]; rfl) (by kernel_rfl) (by kernel_rfl) (by kernel_rfl) (by exact fun _ _ _ h => h) (Or.inl ⟨by rfl, ?_⟩) (by assumption) ?_
                rotate_left
                · intro w hSw
                  try dsimp only at hSw
                  obtain ⟨z0, z1, z2, z3, z4, z5⟩ := hSw
                  go_simp
                  all_goals with_reducible rfl
                try simp only [Act.put, List.setIfInBounds_toArray, List.set_cons_zero, List.set_cons_succ]
                refine wpAnyH_take (i := 16) (v := ?_) (by simp only [List.getElem?_toArray, List.getElem?_cons_succ, List.getElem?_cons_zero]; rfl) (by kernel_rfl) (by kernel_rfl) (by kernel_rfl) (by exact fun _ _ _ h => h) (Or.inl ⟨by rfl, ?_⟩) (by assumption) ?_
                rotate_left
                · intro w hSw
                  try dsimp only at hSw
                  obtain ⟨z0, z1, z2, z3, z4, z5⟩ := hSw
                  go_simp
                  all_goals with_reducible rfl
                try simp only [Act.put, List.setIfInBounds_toArray, List.set_cons_zero, List.set_cons_succ]
                refine wpAnyH_take (i := 17) (v := ?_) (by simp only [List.getElem?_toArray, List.getElem?_cons_succ, List.getElem?_cons_zero]; rfl) (by kernel_rfl) (by kernel_rfl) (by kernel_rfl) (by exact fun _ _ _ h => h) (Or.inl ⟨by rfl, ?_⟩) (by assumption) ?_
                rotate_left
                · intro w hSw
                  try dsimp only at hSw
                  obtain ⟨z0, z1, z2, z3, z4, z5⟩ := hSw
                  go_simp
                  all_goals with_reducible rfl
                try simp only [Act.put, List.setIfInBounds_toArray, List.set_cons_zero, List.set_cons_succ]
                refine wpAnyH_take (i := 18) (v := ?_) (by simp only [List.getElem?_toArray, List.getElem?_cons_succ, List.getElem?_cons_zero]; rfl) (by kernel_rfl) (by kernel_rfl) (by kernel_rfl) (by exact fun _ _ _ h => h) (Or.inl ⟨by rfl, ?_⟩) (by assumption) ?_
                rotate_left
                · intro w hSw
                  try dsimp only at hSw
                  obtain ⟨z0, z1, z2, z3, z4, z5⟩ := hSw
                  go_simp
                  all_goals with_reducible rfl
                try simp only [Act.put, List.setIfInBounds_toArray, List.set_cons_zero, List.set_cons_succ]
                refine wpAnyH_take (i := 19) (v := ?_) (by simp only [List.getElem?_toArray, List.getElem?_cons_succ, List.getElem?_cons_zero]; rfl) (by kernel_rfl) (by kernel_rfl) (by kernel_rfl) (by exact fun _ _ _ h => h) (Or.inl ⟨by rfl, ?_⟩) (by assumption) ?_
                rotate_left
                · intro w hSw
                  try dsimp only at hSw
                  obtain ⟨z0, z1, z2, z3, z4, z5⟩ := hSw
                  go_simp
                  all_goals with_reducible rfl
                try simp only [Act.put, List.setIfInBounds_toArray, List.set_cons_zero, List.set_cons_succ]
                refine wpAnyH_take (i := 20) (v := ?_) (by simp only [List.getElem?_toArray, List.getElem?_cons_succ, List.getElem?_cons_zero]; rfl) (by kernel_rfl) (by kernel_rfl) (by kernel_rfl) (by exact fun _ _ _ h => h) (Or.inl ⟨by rfl, ?_⟩) (by assumption) ?_
                rotate_left
                · intro w hSw
                  try dsimp only at hSw
                  obtain ⟨z0, z1, z2, z3, z4, z5⟩ := hSw
                  go_simp
                  all_goals with_reducible rfl
                try simp only [Act.put, List.setIfInBounds_toArray, List.set_cons_zero, List.set_cons_succ]
                refine wpAnyH_take (i := 21) (v := ?_) (by simp only [List.getElem?_toArray, List.getElem?_cons_succ, List.getElem?_cons_zero]; rfl) (by kernel_rfl) (by kernel_rfl) (by kernel_rfl) (by exact fun _ _ _ h => h) (Or.inl ⟨by rfl, ?_⟩) (by assumption) ?_
                rotate_left
                · intro w hSw
                  try dsimp only at hSw
                  obtain ⟨z0, z1, z2, z3, z4, z5⟩ := hSw
                  go_simp
                  all_goals with_reducible rfl
                try simp only [Act.put, List.setIfInBounds_toArray, List.set_cons_zero, List.set_cons_succ]
                refine wpAnyH_take (i := 22) (v := ?_) (by simp only [List.getElem?_toArray, List.getElem?_cons_succ, List.getElem?_cons_zero]; rfl) (by kernel_rfl) (by kernel_rfl) (by kernel_rfl) (by exact fun _ _ _ h => h) (Or.inl ⟨by rfl, ?_⟩) (by assumption) ?_
                rotate_left
                · intro w hSw
                  try dsimp only at hSw
                  obtain ⟨z0, z1, z2, z3, z4, z5⟩ := hSw
                  go_simp
                  all_goals with_reducible rfl
                try simp only [Act.put, List.setIfInBounds_toArray, List.set_cons_zero, List.set_cons_succ]
                refine wpAnyH_take (i := 23) (v := ?_) (by simp only [List.getElem?_toArray, List.getElem?_cons_succ, List.getElem?_cons_zero]; rfl) (by kernel_rfl) (by kernel_rfl) (by kernel_rfl) (by exact fun _ _ _ h => h) (Or.inl ⟨by rfl, ?_⟩) (by assumption) ?_
                rotate_left
                · intro w hSw
                  try dsimp only at hSw
                  obtain ⟨z0, z1, z2, z3, z4, z5⟩ := hSw
                  go_simp
                  all_goals with_reducible rfl
                try simp only [Act.put, List.setIfInBounds_toArray, List.set_cons_zero, List.set_cons_succ]
                refine wpAnyH_take (i := 27) (v := ?_) (by simp only [List.getElem?_toArray, List.getElem?_cons_succ, List.getElem?_cons_zero]; rfl) (by kernel_rfl) (by kernel_rfl) (by kernel_rfl) (by exact fun _ _ _ h => h) (Or.inl ⟨by rfl, ?_⟩) (by assumption) ?_
                rotate_left
                · intro w hSw
                  try dsimp only at hSw
                  obtain ⟨z0, z1, z2, z3, z4, z5⟩ := hSw
                  go_simp
                  all_goals with_reducible rfl
                try simp only [Act.put, List.setIfInBounds_toArray, List.set_cons_zero, List.set_cons_succ]
                refine wpAnyH_ready (rs := [11]) (by kernel_rfl) (by simp) ?_
                refine AllReadyH.cons (by simp only [List.getElem?_toArray, List.getElem?_cons_succ, List.getElem?_cons_zero]; rfl) (fun K hK => ?_) AllReadyH.nil
                go_simp
                (with_reducible refine (HK1.out _ HM0).mono ?_)
                rintro ez w3 ⟨v3, rfl, ho3, hm3, _⟩
                have HM3 := HM0.then0 hm3
                obtain ⟨A3, c3', rfl, hr3⟩ := ho3.nilD0
                have cx3 : (convert 33 9 (.slice A3 k1.length c3')).run Tryd.prog w3 = .ok (.string (strOf k1)) w3 := conv_str hr3
                have hS3 := (⟨hm3.cell0 q0, hm3.cell0 q1, hm3.cell0 q2, hm3.cell0 r0, hm3.cell0 r1, hm3.cell0 r2⟩ : (fun w' : World => w'.cell? ad0 = some (.string x0) ∧ w'.cell? ⟨ad0.block, ad0.off + 1, none⟩ = some (.string x1) ∧ w'.cell? ⟨ad0.block, ad0.off + 2, none⟩ = some (.string x2) ∧ w'.cell? ad1 = some (.string y0) ∧ w'.cell? ⟨ad1.block, ad1.off + 1, none⟩ = some (.string y1) ∧ w'.cell? ⟨ad1.block, ad1.off + 2, none⟩ = some (.string y2)) w3)
                refine hK.out _ _ (hS3) (fun hHeld => ?_)
                clear hK K
                try simp only [Act.put, List.setIfInBounds_toArray, List.set_cons_zero, List.set_cons_succ]
                refine wpAnyH_impK (S2 := fun w' => (w'.cell? ad0 = some (.string x0) ∧ w'.cell? ⟨ad0.block, ad0.off + 1, none⟩ = some (.string x1) ∧ w'.cell? ⟨ad0.block, ad0.off + 2, none⟩ = some (.string x2) ∧ w'.cell? ad1 = some (.string y0) ∧ w'.cell? ⟨ad1.block, ad1.off + 1, none⟩ = some (.string y1) ∧ w'.cell? ⟨ad1.block, ad1.off + 2, none⟩ = some (.string y2)) ∧ (convert 33 9 (.slice A3 k1.length c3')).run Tryd.prog w' = .ok (.string (strOf k1)) w') (fun w' hw' => hw'.1) _ _ _ _ ?_
                have hHeld2 : (fun w' : World => (w'.cell? ad0 = some (.string x0) ∧ w'.cell? ⟨ad0.block, ad0.off + 1, none⟩ = some (.string x1) ∧ w'.cell? ⟨ad0.block, ad0.off + 2, none⟩ = some (.string x2) ∧ w'.cell? ad1 = some (.string y0) ∧ w'.cell? ⟨ad1.block, ad1.off + 1, none⟩ = some (.string y1) ∧ w'.cell? ⟨ad1.block, ad1.off + 2, none⟩ = some (.string y2)) ∧ (convert 33 9 (.slice A3 k1.length c3')).run Tryd.prog w' = .ok (.string (strOf k1)) w') w3 := ⟨hS3, cx3⟩
                refine wpAnyH_take (i := 12) (v := ?_) (by simp only [List.getElem?_toArray, List.getElem?_cons_succ, List.getElem?_cons_zero]; rfl) (by kernel_rfl) (by kernel_rfl) (by kernel_rfl) (by exact fun _ _ _ h => h) (Or.inl ⟨by rfl, ?_⟩) (by assumption) ?_
                rotate_left
                · intro w hSw
                  try dsimp only at hSw
                  obtain ⟨⟨z0, z1, z2, z3, z4, z5⟩, z6⟩ := hSw
                  go_simp
                  all_goals with_reducible rfl
                try simp only [Act.put, List.setIfInBounds_toArray, List.set_cons_zero, List.set_cons_succ]
                refine wpAnyH_ready (rs := [24]) (by kernel_rfl) (by simp) ?_
                refine AllReadyH.cons (by simp only [List.getElem?_toArray, List.getElem?_cons_succ, List.getElem?_cons_zero]; rfl) (fun K hK => ?_) AllReadyH.nil
                go_simp
                (with_reducible refine (HKK2.out _ HM3).mono ?_)
                rintro ez w4 ⟨v4, rfl, ho4, hm4, _⟩
                have HM4 := HM3.then0 hm4
                obtain ⟨A4, c4', rfl, hr4⟩ := ho4.nilD0
                have cx4 : (convert 33 9 (.slice A3 k1.length c3')).run Tryd.prog w4 = .ok (.string (strOf k1)) w4 := conv_str (hr3.mod0 hm4)
                have cy4 : (convert 33 9 (.slice A4 k2.length c4')).run Tryd.prog w4 = .ok (.string (strOf k2)) w4 := conv_str hr4
                obtain ⟨u0, u1, u2, u3, u4, u5⟩ := hS3
                have hS4 := (⟨hm4.cell0 u0, hm4.cell0 u1, hm4.cell0 u2, hm4.cell0 u3, hm4.cell0 u4, hm4.cell0 u5⟩ : (fun w' : World => w'.cell? ad0 = some (.string x0) ∧ w'.cell? ⟨ad0.block, ad0.off + 1, none⟩ = some (.string x1) ∧ w'.cell? ⟨ad0.block, ad0.off + 2, none⟩ = some (.string x2) ∧ w'.cell? ad1 = some (.string y0) ∧ w'.cell? ⟨ad1.block, ad1.off + 1, none⟩ = some (.string y1) ∧ w'.cell? ⟨ad1.block, ad1.off + 2, none⟩ = some (.string y2)) w4)
                refine hK.out _ _ (⟨hS4, cx4⟩) (fun hHeld => ?_)
                clear hK K
                try simp only [Act.put, List.setIfInBounds_toArray, List.set_cons_zero, List.set_cons_succ]
                refine wpAnyH_impK (S2 := fun w' => ((w'.cell? ad0 = some (.string x0) ∧ w'.cell? ⟨ad0.block, ad0.off + 1, none⟩ = some (.string x1) ∧ w'.cell? ⟨ad0.block, ad0.off + 2, none⟩ = some (.string x2) ∧ w'.cell? ad1 = some (.string y0) ∧ w'.cell? ⟨ad1.block, ad1.off + 1, none⟩ = some (.string y1) ∧ w'.cell? ⟨ad1.block, ad1.off + 2, none⟩ = some (.string y2)) ∧ (convert 33 9 (.slice A3 k1.length c3')).run Tryd.prog w' = .ok (.string (strOf k1)) w') ∧ (convert 33 9 (.slice A4 k2.length c4')).run Tryd.prog w' = .ok (.string (strOf k2)) w') (fun w' hw' => hw'.1) _ _ _ _ ?_
                have hHeld3 : (fun w' : World => ((w'.cell? ad0 = some (.string x0) ∧ w'.cell? ⟨ad0.block, ad0.off + 1, none⟩ = some (.string x1) ∧ w'.cell? ⟨ad0.block, ad0.off + 2, none⟩ = some (.string x2) ∧ w'.cell? ad1 = some (.string y0) ∧ w'.cell? ⟨ad1.block, ad1.off + 1, none⟩ = some (.string y1) ∧ w'.cell? ⟨ad1.block, ad1.off + 2, none⟩ = some (.string y2)) ∧ (convert 33 9 (.slice A3 k1.length c3')).run Tryd.prog w' = .ok (.string (strOf k1)) w') ∧ (convert 33 9 (.slice A4 k2.length c4')).run Tryd.prog w' = .ok (.string (strOf k2)) w') w4 := ⟨⟨hS4, cx4⟩, cy4⟩
                have hin := HINJ.out
                refine wpAnyH_take (i := 25) (v := ?_) (by simp only [List.getElem?_toArray, List.getElem?_cons_succ, List.getElem?_cons_zero]; rfl) (by kernel_rfl) (by kernel_rfl) (by kernel_rfl) (by exact fun _ _ _ h => h) (Or.inl ⟨by rfl, ?_⟩) (by assumption) ?_
                rotate_left
                · intro w hSw
                  try dsimp only at hSw
                  obtain ⟨⟨⟨z0, z1, z2, z3, z4, z5⟩, z6⟩, z7⟩ := hSw
                  go_simp
                  all_goals with_reducible rfl
                try simp only [Act.put, List.setIfInBounds_toArray, List.set_cons_zero, List.set_cons_succ]
                refine wpAnyH_take (i := 26) (v := ?_) (by simp only [List.getElem?_toArray, List.getElem?_cons_succ, List.getElem?_cons_zero]; rfl) (by kernel_rfl) (by kernel_rfl) (by kernel_rfl) (by exact fun _ _ _ h => h) (Or.inl ⟨by rfl, ?_⟩) (by assumption) ?_
                rotate_left
                · intro w hSw
                  try dsimp only at hSw
                  obtain ⟨⟨⟨z0, z1, z2, z3, z4, z5⟩, z6⟩, z7⟩ := hSw
                  go_simp
                  all_goals with_reducible rfl
                try simp only [Act.put, List.setIfInBounds_toArray, List.set_cons_zero, List.set_cons_succ]
                refine wpAnyH_take (i := 28) (v := ?_) (by simp only [List.getElem?_toArray, List.getElem?_cons_succ, List.getElem?_cons_zero]; rfl) (by kernel_rfl) (by kernel_rfl) (by kernel_rfl) (by exact fun _ _ _ h => h) (Or.inl ⟨by rfl, ?_⟩) (by assumption) ?_
                rotate_left
                · intro w hSw
                  try dsimp only at hSw
                  obtain ⟨⟨⟨z0, z1, z2, z3, z4, z5⟩, z6⟩, z7⟩ := hSw
                  go_simp
                  all_goals with_reducible rfl
                try simp only [Act.put, List.setIfInBounds_toArray, List.set_cons_zero, List.set_cons_succ]
                refine wpAnyH_take (i := 29) (v := ?_) (by simp only [List.getElem?_toArray, List.getElem?_cons_succ, List.getElem?_cons_zero]; rfl) (by kernel_rfl) (by kernel_rfl) (by kernel_rfl) (by exact fun _ _ _ h => h) (Or.inl ⟨by rfl, ?_⟩) (by assumption) ?_
                rotate_left
                · intro w hSw
                  try dsimp only at hSw
                  obtain ⟨⟨⟨z0, z1, z2, z3, z4, z5⟩, z6⟩, z7⟩ := hSw
                  go_simp
                  all_goals with_reducible rfl
                try simp only [Act.put, List.setIfInBounds_toArray, List.set_cons_zero, List.set_cons_succ]
                refine wpAnyH_ready (rs := [30]) (by kernel_rfl) (by simp) ?_
                refine AllReadyH.cons (by simp only [List.getElem?_toArray, List.getElem?_cons_succ, List.getElem?_cons_zero]; rfl) (fun K hK => ?_) AllReadyH.nil
                go_simp
                (with_reducible refine (HAW.out _ HM4).mono ?_)
                rintro ez w5 ⟨rfl, hm5⟩
                have HM5 := HM4.then0 hm5
                obtain ⟨v0, v1, v2, v3, v4, v5⟩ := hS4
                have hS5 := (⟨hm5.cell0 v0, hm5.cell0 v1, hm5.cell0 v2, hm5.cell0 v3, hm5.cell0 v4, hm5.cell0 v5⟩ : (fun w' : World => w'.cell? ad0 = some (.string x0) ∧ w'.cell? ⟨ad0.block, ad0.off + 1, none⟩ = some (.string x1) ∧ w'.cell? ⟨ad0.block, ad0.off + 2, none⟩ = some (.string x2) ∧ w'.cell? ad1 = some (.string y0) ∧ w'.cell? ⟨ad1.block, ad1.off + 1, none⟩ = some (.string y1) ∧ w'.cell? ⟨ad1.block, ad1.off + 2, none⟩ = some (.string y2)) w5)
                have cx5 : (convert 33 9 (.slice A3 k1.length c3')).run Tryd.prog w5 = .ok (.string (strOf k1)) w5 := conv_str ((hr3.mod0 hm4).mod0 hm5)
                have cy5 : (convert 33 9 (.slice A4 k2.length c4')).run Tryd.prog w5 = .ok (.string (strOf k2)) w5 := conv_str (hr4.mod0 hm5)
                refine hK.out _ _ (⟨⟨hS5, cx5⟩, cy5⟩) (fun hHeld => ?_)
                clear hK K
                try simp only [Act.put, List.setIfInBounds_toArray, List.set_cons_zero, List.set_cons_succ]
                refine wpAnyH_take (i := 31) (v := ?_) (by simp only [List.getElem?_toArray, List.getElem?_cons_succ, List.getElem?_cons_zero]; rfl) (by kernel_rfl) (by kernel_rfl) (by kernel_rfl) (by exact fun _ _ _ h => h) (Or.inl ⟨by rfl, ?_⟩) (by assumption) ?_
                rotate_left
                · intro w hSw
                  try dsimp only at hSw
                  obtain ⟨⟨⟨z0, z1, z2, z3, z4, z5⟩, z6⟩, z7⟩ := hSw
                  go_simp
                  all_goals with_reducible rfl
                try simp only [Act.put, List.setIfInBounds_toArray, List.set_cons_zero, List.set_cons_succ]
                refine wpAnyH_take (i := 32) (v := ?_) (by simp only [List.getElem?_toArray, List.getElem?_cons_succ, List.getElem?_cons_zero]; rfl) (by kernel_rfl) (by kernel_rfl) (by kernel_rfl) (by exact fun _ _ _ h => h) (Or.inl ⟨by rfl, ?_⟩) (by assumption) ?_
                rotate_left
                · intro w hSw
                  try dsimp only at hSw
                  obtain ⟨⟨⟨z0, z1, z2, z3, z4, z5⟩, z6⟩, z7⟩ := hSw
                  go_simp
                  all_goals with_reducible rfl
                try simp only [Act.put, List.setIfInBounds_toArray, List.set_cons_zero, List.set_cons_succ]
                refine wpAnyH_done (by kernel_rfl) ?_ _
                go_wp2_with fail
                go_ret
                exact ⟨rfl, HM5⟩
              case pos =>
                have gl2 : ¬ (j : Int) < l3.length := fun h => hlen ⟨gl, h⟩
                go_wp2_with fail
                refine wp_region_held_drew (S := fun w' => w'.cell? ad0 = some (.string x0) ∧ w'.cell? ⟨ad0.block, ad0.off + 1, none⟩ = some (.string x1) ∧ w'.cell? ⟨ad0.block, ad0.off + 2, none⟩ = some (.string x2) ∧ w'.cell? ad1 = some (.string y0) ∧ w'.cell? ⟨ad1.block, ad1.off + 1, none⟩ = some (.string y1) ∧ w'.cell? ⟨ad1.block, ad1.off + 2, none⟩ = some (.string y2)) (by kernel_rfl) ⟨q0, q1, q2, r0, r1, r2⟩ (fun hHeld => ?_)
                refine wpAnyH_take (i := 0) (v := ?_) (by simp only [List.getElem?_toArray, List.getElem?_cons_zero]; rfl) (by kernel_rfl) (by kernel_rfl) (by kernel_rfl) (by exact fun _ _ _ h => h) (Or.inl ⟨by rfl, ?_⟩) (by assumption) ?_
                rotate_left
                · intro w hSw
                  try dsimp only at hSw
                  obtain ⟨z0, z1, z2, z3, z4, z5⟩ := hSw
                  go_simp
                  all_goals with_reducible rfl
                try simp only [Act.put, List.setIfInBounds_toArray, List.set_cons_zero, List.set_cons_succ]
                refine wpAnyH_take (i := 1) (v := ?_) (by simp only [List.getElem?_toArray, List.getElem?_cons_succ, List.getElem?_cons_zero]; rfl) (by kernel_rfl) (by kernel_rfl) (by kernel_rfl) (by exact fun _ _ _ h => h) (Or.inl ⟨by rfl, ?_⟩) (by assumption) ?_
                rotate_left
                · intro w hSw
                  try dsimp only at hSw
                  obtain ⟨z0, z1, z2, z3, z4, z5⟩ := hSw
                  go_simp
                  all_goals with_reducible rfl
                try simp only [Act.put, List.setIfInBounds_toArray, List.set_cons_zero, List.set_cons_succ]
                refine wpAnyH_take (i := 2) (v := ?_) (by simp only [List.getElem?_toArray, List.getElem?_cons_succ, List.getElem?_cons_zero]; rfl) (by kernel_rfl) (by kernel_rfl) (by kernel_rfl) (by exact fun _ _ _ h => h) (Or.inl ⟨by rfl, ?_⟩) (by assumption) ?_
                rotate_left
                · intro w hSw
                  try dsimp only at hSw
                  obtain ⟨z0, z1, z2, z3, z4, z5⟩ := hSw
                  go_simp
                  all_goals with_reducible rfl
                try simp only [Act.put, List.setIfInBounds_toArray, List.set_cons_zero, List.set_cons_succ]
                refine wpAnyH_take (i := 3) (v := ?_) (by simp only [List.getElem?_toArray, List.getElem?_cons_succ, List.getElem?_cons_zero]; rfl) (by kernel_rfl) (by kernel_rfl) (by kernel_rfl) (by exact fun _ _ _ h => h) (Or.inl ⟨by rfl, ?_⟩) (by assumption) ?_
                rotate_left
                · intro w hSw
                  try dsimp only at hSw
                  obtain ⟨z0, z1, z2, z3, z4, z5⟩ := hSw
                  go_simp
                  all_goals with_reducible rfl
                try simp only [Act.put, List.setIfInBounds_toArray, List.set_cons_zero, List.set_cons_succ]
                refine wpAnyH_take (i := 4) (v := ?_) (by simp only [List.getElem?_toArray, List.getElem?_cons_succ, List.getElem?_cons_zero]; rfl) (by kernel_rfl) (by kernel_rfl) (by kernel_rfl) (by exact fun _ _ _ h => h) (Or.inl ⟨by rfl, ?_⟩) (by assumption) ?_
                rotate_left
                · intro w hSw
                  try dsimp only at hSw
                  obtain ⟨z0, z1, z2, z3, z4, z5⟩ := hSw
                  go_simp
                  all_goals with_reducible rfl
                try simp only [Act.put, List.setIfInBounds_toArray, List.set_cons_zero, List.set_cons_succ]
                refine wpAnyH_take (i := 5) (v := ?_) (by simp only [List.getElem?_toArray, List.getElem?_cons_succ, List.getElem?_cons_zero]; rfl) (by kernel_rfl) (by kernel_rfl) (by kernel_rfl) (by exact fun _ _ _ h => h) (Or.inl ⟨by rfl, ?_⟩) (by assumption) ?_
                rotate_left
                · intro w hSw
                  try dsimp only at hSw
                  obtain ⟨z0, z1, z2, z3, z4, z5⟩ := hSw
                  go_simp
                  all_goals with_reducible rfl
                try simp only [Act.put, List.setIfInBounds_toArray, List.set_cons_zero, List.set_cons_succ]
                refine wpAnyH_take (i := 6) (v := ?_) (by simp only [List.getElem?_toArray, List.getElem?_cons_succ, List.getElem?_cons_zero]; rfl) (by kernel_rfl) (by kernel_rfl) (by kernel_rfl) (by exact fun _ _ _ h => h) (Or.inl ⟨by rfl, ?_⟩) (by assumption) ?_
                rotate_left
                · intro w hSw
                  try dsimp only at hSw
                  obtain ⟨z0, z1, z2, z3, z4, z5⟩ := hSw
                  go_simp
                  all_goals with_reducible rfl
                try simp only [Act.put, List.setIfInBounds_toArray, List.set_cons_zero, List.set_cons_succ]
                refine wpAnyH_take (i := 7) (v := ?_) (by simp only [List.getElem?_toArray, List.getElem?_cons_succ, List.getElem?_cons_zero]; rfl) (by kernel_rfl) (by kernel_rfl) (by kernel_rfl) (by exact fun _ _ _ h => h) (Or.inl ⟨by rfl, ?_⟩) (by assumption) ?_
                rotate_left
                · intro w hSw
                  try dsimp only at hSw
                  obtain ⟨z0, z1, z2, z3, z4, z5⟩ := hSw
                  go_simp
                  all_goals with_reducible rfl
                try simp only [Act.put, List.setIfInBounds_toArray, List.set_cons_zero, List.set_cons_succ]
                refine wpAnyH_take (i := 8) (v := ?_) (by simp only [List.getElem?_toArray, List.getElem?_cons_succ, List.getElem?_cons_zero]; rfl) (by kernel_rfl) (by kernel_rfl) (by kernel_rfl) (by exact fun _ _ _ h => h) (Or.inl ⟨by rfl, ?_⟩) (by assumption) ?_
                rotate_left
                · intro w hSw
                  try dsimp only at hSw
                  obtain ⟨z0, z1, z2, z3, z4, z5⟩ := hSw
                  go_simp
                  all_goals with_reducible rfl
                try simp only [Act.put, List.setIfInBounds_toArray, List.set_cons_zero, List.set_cons_succ]
                refine wpAnyH_take (i := 9) (v := ?_) (by simp only [List.getElem?_toArray, List.getElem?_cons_succ, List.getElem?_cons_zero]; rfl) (by kernel_rfl) (by kernel_rfl) (by kernel_rfl) (by exact fun _ _ _ h => h) (Or.inl ⟨by rfl, ?_⟩) (by assumption) ?_
                rotate_left
                · intro w hSw
                  try dsimp only at hSw
                  obtain ⟨z0, z1, z2, z3, z4, z5⟩ := hSw
                  go_simp
                  all_goals with_reducible rfl
                try simp only [Act.put, List.setIfInBounds_toArray, List.set_cons_zero, List.set_cons_succ]
                refine wpAnyH_take (i := 10) (v := ?_) (by simp only [List.getElem?_toArray, List.getElem?_cons_succ, List.getElem?_cons_zero]; rfl) (by kernel_rfl) (by kernel_rfl) (by kernel_rfl) (by exact fun _ _ _ h => h) (Or.inl ⟨by rfl, ?_⟩) (by assumption) ?_
                rotate_left
                · intro w hSw
                  try dsimp only at hSw
                  obtain ⟨z0, z1, z2, z3, z4, z5⟩ := hSw
                  go_simp
                  all_goals with_reducible rfl
                try simp only [Act.put, List.setIfInBounds_toArray, List.set_cons_zero, List.set_cons_succ]
                refine wpAnyH_take (i := 13) (v := ?_) (by simp only [List.getElem?_toArray, List.getElem?_cons_succ, List.getElem?_cons_zero]; rfl) (by kernel_rfl) (by kernel_rfl) (by kernel_rfl) (by exact fun _ _ _ h => h) (Or.inl ⟨by rfl, ?_⟩) (by assumption) ?_
                rotate_left
                · intro w hSw
                  try dsimp only at hSw
                  obtain ⟨z0, z1, z2, z3, z4, z5⟩ := hSw
                  go_simp
                  all_goals with_reducible rfl
                try simp only [Act.put, List.setIfInBounds_toArray, List.set_cons_zero, List.set_cons_succ]
                refine wpAnyH_take (i := 14) (v := ?_) (by simp only [List.getElem?_toArray, List.getElem?_cons_succ, List.getElem?_cons_zero]; rfl) (by kernel_rfl) (by kernel_rfl) (by kernel_rfl) (by exact fun _ _ _ h => h) (Or.inl ⟨by rfl, ?_⟩) (by assumption) ?_
                rotate_left
                · intro w hSw
                  try dsimp only at hSw
                  obtain ⟨z0, z1, z2, z3, z4, z5⟩ := hSw
                  go_simp
                  all_goals with_reducible rfl
                try simp only [Act.put, List.setIfInBounds_toArray, List.set_cons_zero, List.set_cons_succ]
                refine wpAnyH_take (i := 15) (v := ?_) (by simp only [List.getElem?_toArray, List.getElem?_cons_succ, List.getElem?_cons_zero]; rfl) (by kernel_rfl) (by kernel_rfl) (by kernel_rfl) (by exact fun _ _ _ h => h) (Or.inl ⟨by rfl, ?_⟩) (by assumption) ?_
                rotate_left
                · intro w hSw
                  try dsimp only at hSw
                  obtain ⟨z0, z1, z2, z3, z4, z5⟩ := hSw
                  go_simp
                  all_goals with_reducible rfl
                try simp only [Act.put, List.setIfInBounds_toArray, List.set_cons_zero, List.set_cons_succ]
                refine wpAnyH_take (i := 16) (v := ?_) (by simp only [List.getElem?_toArray, List.getElem?_cons_succ, List.getElem?_cons_zero]; rfl) (by kernel_rfl) (by kernel_rfl) (by kernel_rfl) (by exact fun _ _ _ h => h) (Or.inl ⟨by rfl, ?_⟩) (by assumption) ?_
                rotate_left
                · intro w hSw
                  try dsimp only at hSw
                  obtain ⟨z0, z1, z2, z3, z4, z5⟩ := hSw
                  go_simp
                  all_goals with_reducible rfl
                try simp only [Act.put, List.setIfInBounds_toArray, List.set_cons_zero, List.set_cons_succ]
                refine wpAnyH_take (i := 17) (v := ?_) (by simp only [List.getElem?_toArray, List.getElem?_cons_succ, List.getElem?_cons_zero]; rfl) (by kernel_rfl) (by kernel_rfl) (by kernel_rfl) (by exact fun _ _ _ h => h) (Or.inl ⟨by rfl, ?_⟩) (by assumption) ?_
                rotate_left
                · intro w hSw
                  try dsimp only at hSw
                  obtain ⟨z0, z1, z2, z3, z4, z5⟩ := hSw
                  go_simp
                  all_goals with_reducible rfl
                try simp only [Act.put, List.setIfInBounds_toArray, List.set_cons_zero, List.set_cons_succ]
                refine wpAnyH_take (i := 18) (v := ?_) (by simp only [List.getElem?_toArray, List.getElem?_cons_succ, List.getElem?_cons_zero]; rfl) (by kernel_rfl) (by kernel_rfl) (by kernel_rfl) (by exact fun _ _ _ h => h) (Or.inl ⟨by rfl, ?_⟩) (by assumption) ?_
                rotate_left
                · intro w hSw
                  try dsimp only at hSw
                  obtain ⟨z0, z1, z2, z3, z4, z5⟩ := hSw
                  go_simp
                  all_goals with_reducible rfl
                try simp only [Act.put, List.setIfInBounds_toArray, List.set_cons_zero, List.set_cons_succ]
                refine wpAnyH_take (i := 19) (v := ?_) (by simp only [List.getElem?_toArray, List.getElem?_cons_succ, List.getElem?_cons_zero]; rfl) (by kernel_rfl) (by kernel_rfl) (by kernel_rfl) (by exact fun _ _ _ h => h) (Or.inl ⟨by rfl, ?_⟩) (by assumption) ?_
                rotate_left
                · intro w hSw
                  try dsimp only at hSw
                  obtain ⟨z0, z1, z2, z3, z4, z5⟩ := hSw
                  go_simp
                  all_goals with_reducible rfl
                try simp only [Act.put, List.setIfInBounds_toArray, List.set_cons_zero, List.set_cons_succ]
                refine wpAnyH_take (i := 20) (v := ?_) (by simp only [List.getElem?_toArray, List.getElem?_cons_succ, List.getElem?_cons_zero]; rfl) (by kernel_rfl) (by kernel_rfl) (by kernel_rfl) (by exact fun _ _ _ h => h) (Or.inl ⟨by rfl, ?_⟩) (by assumption) ?_
                rotate_left
                · intro w hSw
                  try dsimp only at hSw
                  obtain ⟨z0, z1, z2, z3, z4, z5⟩ := hSw
                  go_simp
                  all_goals with_reducible rfl
                try simp only [Act.put, List.setIfInBounds_toArray, List.set_cons_zero, List.set_cons_succ]
                refine wpAnyH_take (i := 21) (v := ?_) (by simp only [List.getElem?_toArray, List.getElem?_cons_succ, List.getElem?_cons_zero]; rfl) (by kernel_rfl) (by kernel_rfl) (by kernel_rfl) (by exact fun _ _ _ h => h) (Or.inl ⟨by rfl, ?_⟩) (by assumption) ?_
                rotate_left
                · intro w hSw
                  try dsimp only at hSw
                  obtain ⟨z0, z1, z2, z3, z4, z5⟩ := hSw
                  go_simp
                  all_goals with_reducible rfl
                try simp only [Act.put, List.setIfInBounds_toArray, List.set_cons_zero, List.set_cons_succ]
                refine wpAnyH_take (i := 22) (v := ?_) (by simp only [List.getElem?_toArray, List.getElem?_cons_succ, List.getElem?_cons_zero]; rfl) (by kernel_rfl) (by kernel_rfl) (by kernel_rfl) (by exact fun _ _ _ h => h) (Or.inl ⟨by rfl, ?_⟩) (by assumption) ?_
                rotate_left
                · intro w hSw
                  try dsimp only at hSw
                  obtain ⟨z0, z1, z2, z3, z4, z5⟩ := hSw
                  go_simp
                  all_goals with_reducible rfl
                try simp only [Act.put, List.setIfInBounds_toArray, List.set_cons_zero, List.set_cons_succ]
                refine wpAnyH_take (i := 23) (v := ?_) (by simp only [List.getElem?_toArray, List.getElem?_cons_succ, List.getElem?_cons_zero]; rfl) (by kernel_rfl) (by kernel_rfl) (by kernel_rfl) (by exact fun _ _ _ h => h) (Or.inl ⟨by rfl, ?_⟩) (by assumption) ?_
                rotate_left
                · intro w hSw
                  try dsimp only at hSw
                  obtain ⟨z0, z1, z2, z3, z4, z5⟩ := hSw
                  go_simp
                  all_goals with_reducible rfl
                try simp only [Act.put, List.setIfInBounds_toArray, List.set_cons_zero, List.set_cons_succ]
                refine wpAnyH_take (i := 27) (v := ?_) (by simp only [List.getElem?_toArray, List.getElem?_cons_succ, List.getElem?_cons_zero]; rfl) (by kernel_rfl) (by kernel_rfl) (by kernel_rfl) (by exact fun _ _ _ h => h) (Or.inl ⟨by rfl, ?_⟩) (by assumption) ?_
                rotate_left
                · intro w hSw
                  try dsimp only at hSw
                  obtain ⟨z0, z1, z2, z3, z4, z5⟩ := hSw
                  go_simp
                  all_goals with_reducible rfl
                try simp only [Act.put, List.setIfInBounds_toArray, List.set_cons_zero, List.set_cons_succ]
                refine wpAnyH_ready (rs := [11]) (by kernel_rfl) (by simp) ?_
                refine AllReadyH.cons (by simp only [List.getElem?_toArray, List.getElem?_cons_succ, List.getElem?_cons_zero]; rfl) (fun K hK => ?_) AllReadyH.nil
                go_simp
                (with_reducible refine (HK1.out _ HM0).mono ?_)
                rintro ez w3 ⟨v3, rfl, ho3, hm3, _⟩
                have HM3 := HM0.then0 hm3
                obtain ⟨A3, c3', rfl, hr3⟩ := ho3.nilD0
                have cx3 : (convert 33 9 (.slice A3 k1.length c3')).run Tryd.prog w3 = .ok (.string (strOf k1)) w3 := conv_str hr3
                have hS3 := (⟨hm3.cell0 q0, hm3.cell0 q1, hm3.cell0 q2, hm3.cell0 r0, hm3.cell0 r1, hm3.cell0 r2⟩ : (fun w' : World => w'.cell? ad0 = some (.string x0) ∧ w'.cell? ⟨ad0.block, ad0.off + 1, none⟩ = some (.string x1) ∧ w'.cell? ⟨ad0.block, ad0.off + 2, none⟩ = some (.string x2) ∧ w'.cell? ad1 = some (.string y0) ∧ w'.cell? ⟨ad1.block, ad1.off + 1, none⟩ = some (.string y1) ∧ w'.cell? ⟨ad1.block, ad1.off + 2, none⟩ = some (.string y2)) w3)
                refine hK.out _ _ (hS3) (fun hHeld => ?_)
                clear hK K
                try simp only [Act.put, List.setIfInBounds_toArray, List.set_cons_zero, List.set_cons_succ]
                refine wpAnyH_impK (S2 := fun w' => (w'.cell? ad0 = some (.string x0) ∧ w'.cell? ⟨ad0.block, ad0.off + 1, none⟩ = some (.string x1) ∧ w'.cell? ⟨ad0.block, ad0.off + 2, none⟩ = some (.string x2) ∧ w'.cell? ad1 = some (.string y0) ∧ w'.cell? ⟨ad1.block, ad1.off + 1, none⟩ = some (.string y1) ∧ w'.cell? ⟨ad1.block, ad1.off + 2, none⟩ = some (.string y2)) ∧ (convert 33 9 (.slice A3 k1.length c3')).run Tryd.prog w' = .ok (.string (strOf k1)) w') (fun w' hw' => hw'.1) _ _ _ _ ?_
                have hHeld2 : (fun w' : World => (w'.cell? ad0 = some (.string x0) ∧ w'.cell? ⟨ad0.block, ad0.off + 1, none⟩ = some (.string x1) ∧ w'.cell? ⟨ad0.block, ad0.off + 2, none⟩ = some (.string x2) ∧ w'.cell? ad1 = some (.string y0) ∧ w'.cell? ⟨ad1.block, ad1.off + 1, none⟩ = some (.string y1) ∧ w'.cell? ⟨ad1.block, ad1.off + 2, none⟩ = some (.string y2)) ∧ (convert 33 9 (.slice A3 k1.length c3')).run Tryd.prog w' = .ok (.string (strOf k1)) w') w3 := ⟨hS3, cx3⟩
                refine wpAnyH_take (i := 12) (v := ?_) (by simp only [List.getElem?_toArray, List.getElem?_cons_succ, List.getElem?_cons_zero]; rfl) (by kernel_rfl) (by kernel_rfl) (by kernel_rfl) (by exact fun _ _ _ h => h) (Or.inl ⟨by rfl, ?_⟩) (by assumption) ?_
                rotate_left
                · intro w hSw
                  try dsimp only at hSw
                  obtain ⟨⟨z0, z1, z2, z3, z4, z5⟩, z6⟩ := hSw
                  go_simp
                  all_goals with_reducible rfl
                try simp only [Act.put, List.setIfInBounds_toArray, List.set_cons_zero, List.set_cons_succ]
                refine wpAnyH_ready (rs := [24]) (by kernel_rfl) (by simp) ?_
                refine AllReadyH.cons (by simp only [List.getElem?_toArray, List.getElem?_cons_succ, List.getElem?_cons_zero]; rfl) (fun K hK => ?_) AllReadyH.nil
                go_simp
                (with_reducible refine (HKK2.out _ HM3).mono ?_)
                rintro ez w4 ⟨v4, rfl, ho4, hm4, _⟩
                have HM4 := HM3.then0 hm4
                obtain ⟨A4, c4', rfl, hr4⟩ := ho4.nilD0
                have cx4 : (convert 33 9 (.slice A3 k1.length c3')).run Tryd.prog w4 = .ok (.string (strOf k1)) w4 := conv_str (hr3.mod0 hm4)
                have cy4 : (convert 33 9 (.slice A4 k2.length c4')).run Tryd.prog w4 = .ok (.string (strOf k2)) w4 := conv_str hr4
                obtain ⟨u0, u1, u2, u3, u4, u5⟩ := hS3
                have hS4 := (⟨hm4.cell0 u0, hm4.cell0 u1, hm4.cell0 u2, hm4.cell0 u3, hm4.cell0 u4, hm4.cell0 u5⟩ : (fun w' : World => w'.cell? ad0 = some (.string x0) ∧ w'.cell? ⟨ad0.block, ad0.off + 1, none⟩ = some (.string x1) ∧ w'.cell? ⟨ad0.block, ad0.off + 2, none⟩ = some (.string x2) ∧ w'.cell? ad1 = some (.string y0) ∧ w'.cell? ⟨ad1.block, ad1.off + 1, none⟩ = some (.string y1) ∧ w'.cell? ⟨ad1.block, ad1.off + 2, none⟩ = some (.string y2)) w4)
                refine hK.out _ _ (⟨hS4, cx4⟩) (fun hHeld => ?_)
                clear hK K
                try simp only [Act.put, List.setIfInBounds_toArray, List.set_cons_zero, List.set_cons_succ]
                refine wpAnyH_impK (S2 := fun w' => ((w'.cell? ad0 = some (.string x0) ∧ w'.cell? ⟨ad0.block, ad0.off + 1, none⟩ = some (.string x1) ∧ w'.cell? ⟨ad0.block, ad0.off + 2, none⟩ = some (.string x2) ∧ w'.cell? ad1 = some (.string y0) ∧ w'.cell? ⟨ad1.block, ad1.off + 1, none⟩ = some (.string y1) ∧ w'.cell? ⟨ad1.block, ad1.off + 2, none⟩ = some (.string y2)) ∧ (convert 33 9 (.slice A3 k1.length c3')).run Tryd.prog w' = .ok (.string (strOf k1)) w') ∧ (convert 33 9 (.slice A4 k2.length c4')).run Tryd.prog w' = .ok (.string (strOf k2)) w') (fun w' hw' => hw'.1) _ _ _ _ ?_
                have hHeld3 : (fun w' : World => ((w'.cell? ad0 = some (.string x0) ∧ w'.cell? ⟨ad0.block, ad0.off + 1, none⟩ = some (.string x1) ∧ w'.cell? ⟨ad0.block, ad0.off + 2, none⟩ = some (.string x2) ∧ w'.cell? ad1 = some (.string y0) ∧ w'.cell? ⟨ad1.block, ad1.off + 1, none⟩ = some (.string y1) ∧ w'.cell? ⟨ad1.block, ad1.off + 2, none⟩ = some (.string y2)) ∧ (convert 33 9 (.slice A3 k1.length c3')).run Tryd.prog w' = .ok (.string (strOf k1)) w') ∧ (convert 33 9 (.slice A4 k2.length c4')).run Tryd.prog w' = .ok (.string (strOf k2)) w') w4 := ⟨⟨hS4, cx4⟩, cy4⟩
                have hin := HINJ.out
                refine wpAnyH_take (i := 25) (v := ?_) (by simp only [List.getElem?_toArray, List.getElem?_cons_succ, List.getElem?_cons_zero]; rfl) (by kernel_rfl) (by kernel_rfl) (by kernel_rfl) (by exact fun _ _ _ h => h) (Or.inl ⟨by rfl, ?_⟩) (by assumption) ?_
                rotate_left
                · intro w hSw
                  try dsimp only at hSw
                  obtain ⟨⟨⟨z0, z1, z2, z3, z4, z5⟩, z6⟩, z7⟩ := hSw
                  go_simp
                  all_goals with_reducible rfl
                try simp only [Act.put, List.setIfInBounds_toArray, List.set_cons_zero, List.set_cons_succ]
                refine wpAnyH_take (i := 26) (v := ?_) (by simp only [List.getElem?_toArray, List.getElem?_cons_succ, List.getElem?_cons_zero]; rfl) (by kernel_rfl) (by kernel_rfl) (by kernel_rfl) (by exact fun _ _ _ h => h) (Or.inl ⟨by rfl, ?_⟩) (by assumption) ?_
                rotate_left
                · intro w hSw
                  try dsimp only at hSw
                  obtain ⟨⟨⟨z0, z1, z2, z3, z4, z5⟩, z6⟩, z7⟩ := hSw
                  go_simp
                  all_goals with_reducible rfl
                try simp only [Act.put, List.setIfInBounds_toArray, List.set_cons_zero, List.set_cons_succ]
                refine wpAnyH_take (i := 28) (v := ?_) (by simp only [List.getElem?_toArray, List.getElem?_cons_succ, List.getElem?_cons_zero]; rfl) (by kernel_rfl) (by kernel_rfl) (by kernel_rfl) (by exact fun _ _ _ h => h) (Or.inl ⟨by rfl, ?_⟩) (by assumption) ?_
                rotate_left
                · intro w hSw
                  try dsimp only at hSw
                  obtain ⟨⟨⟨z0, z1, z2, z3, z4, z5⟩, z6⟩, z7⟩ := hSw
                  go_simp
                  all_goals with_reducible rfl
                try simp only [Act.put, List.setIfInBounds_toArray, List.set_cons_zero, List.set_cons_succ]
                refine wpAnyH_take (i := 29) (v := ?_) (by simp only [List.getElem?_toArray, List.getElem?_cons_succ, List.getElem?_cons_zero]; rfl) (by kernel_rfl) (by kernel_rfl) (by kernel_rfl) (by exact fun _ _ _ h => h) (Or.inl ⟨by rfl, ?_⟩) (by assumption) ?_
                rotate_left
                · intro w hSw
                  try dsimp only at hSw
                  obtain ⟨⟨⟨z0, z1, z2, z3, z4, z5⟩, z6⟩, z7⟩ := hSw
                  go_simp
                  all_goals with_reducible rfl
                try simp only [Act.put, List.setIfInBounds_toArray, List.set_cons_zero, List.set_cons_succ]
                refine wpAnyH_ready (rs := [30]) (by kernel_rfl) (by simp) ?_
                refine AllReadyH.cons (by simp only [List.getElem?_toArray, List.getElem?_cons_succ, List.getElem?_cons_zero]; rfl) (fun K hK => ?_) AllReadyH.nil
                go_simp
                (with_reducible refine (HAW.out _ HM4).mono ?_)
                rintro ez w5 ⟨rfl, hm5⟩
                have HM5 := HM4.then0 hm5
                obtain ⟨v0, v1, v2, v3, v4, v5⟩ := hS4
                have hS5 := (⟨hm5.cell0 v0, hm5.cell0 v1, hm5.cell0 v2, hm5.cell0 v3, hm5.cell0 v4, hm5.cell0 v5⟩ : (fun w' : World => w'.cell? ad0 = some (.string x0) ∧ w'.cell? ⟨ad0.block, ad0.off + 1, none⟩ = some (.string x1) ∧ w'.cell? ⟨ad0.block, ad0.off + 2, none⟩ = some (.string x2) ∧ w'.cell? ad1 = some (.string y0) ∧ w'.cell? ⟨ad1.block, ad1.off + 1, none⟩ = some (.string y1) ∧ w'.cell? ⟨ad1.block, ad1.off + 2, none⟩ = some (.string y2)) w5)
                have cx5 : (convert 33 9 (.slice A3 k1.length c3')).run Tryd.prog w5 = .ok (.string (strOf k1)) w5 := conv_str ((hr3.mod0 hm4).mod0 hm5)
                have cy5 : (convert 33 9 (.slice A4 k2.length c4')).run Tryd.prog w5 = .ok (.string (strOf k2)) w5 := conv_str (hr4.mod0 hm5)
                refine hK.out _ _ (⟨⟨hS5, cx5⟩, cy5⟩) (fun hHeld => ?_)
                clear hK K
                try simp only [Act.put, List.setIfInBounds_toArray, List.set_cons_zero, List.set_cons_succ]
                refine wpAnyH_take (i := 31) (v := ?_) (by simp only [List.getElem?_toArray, List.getElem?_cons_succ, List.getElem?_cons_zero]; rfl) (by kernel_rfl) (by kernel_rfl) (by kernel_rfl) (by exact fun _ _ _ h => h) (Or.inl ⟨by rfl, ?_⟩) (by assumption) ?_
                rotate_left
                · intro w hSw
                  try dsimp only at hSw
                  obtain ⟨⟨⟨z0, z1, z2, z3, z4, z5⟩, z6⟩, z7⟩ := hSw
                  go_simp
                  all_goals with_reducible rfl
                try simp only [Act.put, List.setIfInBounds_toArray, List.set_cons_zero, List.set_cons_succ]
                refine wpAnyH_take (i := 32) (v := ?_) (by simp only [List.getElem?_toArray, List.getElem?_cons_succ, List.getElem?_cons_zero]; rfl) (by kernel_rfl) (by kernel_rfl) (by kernel_rfl) (by exact fun _ _ _ h => h) (Or.inl ⟨by rfl, ?_⟩) (by assumption) ?_
                rotate_left
                · intro w hSw
                  try dsimp only at hSw
                  obtain ⟨⟨⟨z0, z1, z2, z3, z4, z5⟩, z6⟩, z7⟩ := hSw
                  go_simp
                  all_goals with_reducible rfl
                try simp only [Act.put, List.setIfInBounds_toArray, List.set_cons_zero, List.set_cons_succ]
                refine wpAnyH_done (by kernel_rfl) ?_ _
                go_wp2_with fail
                go_ret
                exact ⟨rfl, HM5⟩
end Go.Proofs.YtdmdiokfpbmnaaaDoor

