/- key.Pack; law 23's great, awake; KeyApart: keys are unlike where what they hang on is: the walk of the law. -/
import Derived.Test.YtdmdiokfpbmnaaaDoorKyW
import Derived.Test.YtdmdiokfpbmnaaaDoorBatA
namespace Go.Proofs.YtdmdiokfpbmnaaaDoor
open Go.RowKit
set_option linter.unusedVariables false

theorem kempty_calls (A : Option Addr) (c : Nat) (w : World) : Calls Tryd.prog 36 #[.string ⟨#[]⟩, .slice A 0 c] w fun e w' => e = .returned (.tuple #[.slice none 0 0, .slice none 0 0, .bool false, .bool false]) ∧ Mod NoneB w w' := by
  have h1 := kconv_bytes ⟨#[]⟩ w
  have h2 := kbytes_rd w ⟨#[]⟩ (by decide)
  have h3 := grownCap_ge w (ByteArray.size ⟨#[]⟩) 0 5
  have hmv := kbytes_mod w 5 ⟨#[]⟩
  have hde := decode_calls [] (some ⟨w.heap.size, 0, none⟩) (grownCap w (ByteArray.size ⟨#[]⟩) 0 5) _ h2 (by decide) (Nat.zero_le _)
  have hdn : decL [] = none := rfl
  rw [hdn] at hde
  have HDE := Lib.hid hde
  generalize Lib.bytesWorld w 5 ⟨#[]⟩ = wv at h1 h2 HDE hmv
  generalize grownCap w (ByteArray.size ⟨#[]⟩) 0 5 = cap at h1 h3 HDE
  clear hde h2 h3
  go_enter Tryd.func36, Tryd.ntmps36
  go_wp2_with fail
  refine HDE.out.mono ?_
  rintro e w2 ⟨v2, rfl, ho2, hm2, hn2⟩
  have hw2 := hmv.then0 hm2
  obtain ⟨A2, c2, rfl, _⟩ := ho2.nilD0
  have e0 : errT none = 2 := rfl
  rw [e0]
  have hw2k : ∀ k, Mod NoneB w (w2.drewN k) := fun k => hw2.drewN k
  have HW2K := Lib.hid hw2k
  clear ho2 hn2 e0 hw2k HDE
  go_wp2_with fail
  go_quiet (fail)
  go_wp2_with fail
  (try simp only [Exit.inBlock, Exit.then])
  refine bodyPost_ret (results_tmp4 rfl _ _ _) rfl ?_
  exact ⟨rfl, HW2K.out _⟩

set_option maxHeartbeats 8000000 in
set_option maxRecDepth 100000 in
theorem pack_calls (kb : List UInt8) (ds : List Dg) (A D : Option Addr) (c dc : Nat) (w : World) (ok : PkOk kb ds) (hk : Rd w 1 A kb.length (encB kb)) (hd : Rd w 4 D ds.length (encDs ds)) (ht : TabW w) :
    Calls Tryd.prog 37 #[.slice A kb.length c, .slice D ds.length dc, .slice none 0 0, .bool false] w fun e w' => e = .returned (.string (strOf (packB kb ds))) ∧ Mod NoneB w w' := by
  have hus := Tryd.underlying40
  have hcx : ∀ w', Mod NoneB w w' → (convert 33 9 (.slice A kb.length c)).run Tryd.prog w' = .ok (.string (strOf kb)) w' := fun w' hm => conv_str (hk.mod0 hm)
  have HCX := Lib.hid hcx
  have hen : ∀ w', Mod NoneB w w' → Calls Tryd.prog 13 #[.slice D ds.length dc] w' fun e w'' => ∃ v, e = .returned v ∧ Own w'' 5 1 v (encL (diagT ds)).length (encB (encL (diagT ds))) ∧ Mod NoneB w' w'' ∧ ∀ g, v.ownBlock = some g → w'.heap.size ≤ g := fun w' hm => dgencode_calls ds D dc w' (hd.mod0 hm) ok.d (ht.mod0 hm)
  have HEN := Lib.hid hen
  have hsh : ∀ w', Calls Tryd.prog 38 #[.slice none 0 0, .bool false] w' (ShwE [] false w') := fun w' => shown_calls [] none 0 false w' (Rd.nil _ _ _)
  have HSH := Lib.hid hsh
  have henc : ∀ w' A c, Rd w' 1 A 4 (encTs [strOf kb, strOf (encL (diagT ds)), zeroB, noB]) → Calls Tryd.prog 30 #[.slice A 4 c] w' fun e w'' => ∃ v, e = .returned v ∧ Own w'' 5 1 v (packB kb ds).length (encB (packB kb ds)) ∧ Mod NoneB w' w'' ∧ (∀ g, v.ownBlock = some g → w'.heap.size ≤ g) := fun w' A c hr =>
    encode_calls [strOf kb, strOf (encL (diagT ds)), zeroB, noB] A c w' hr (by simp) (fun s hs => by
      have h1 := ok.len.1
      have h2 := ok.k
      simp only [List.mem_cons, List.not_mem_nil, or_false] at hs
      rcases hs with rfl | rfl | rfl | rfl
      · rw [strOf_size]; omega
      · rw [strOf_size]; omega
      · decide
      · decide) (by have := ok.len.2; unfold packB at this; omega)
  have HENC := Lib.hid henc
  have HM0 : Mod NoneB w w.drew := (Mod.refl NoneB w).drew
  have cx0 := hcx _ HM0
  have h16 : (2 + 2) * 16 ≤ 140737488355328 := by decide
  clear hcx hen hsh henc
  go_enter Tryd.func37, Tryd.ntmps37
  go_wp2_with fail
  go_region_law (first
    | (go_simp; go_at_call 13; (with_reducible refine (HEN.out _ HM0).mono ?_); rintro ez w2 ⟨v2, rfl, ho2, hm2, _⟩; have HM2 := HM0.then0 hm2; have cx2 := HCX.out w2 HM2; obtain ⟨A2, c2, rfl, hr2⟩ := ho2.nilD0; have cy2 : (convert 33 9 (.slice A2 (encL (diagT ds)).length c2)).run Tryd.prog w2 = .ok (.string (strOf (encL (diagT ds)))) w2 := conv_str hr2)
    | (go_simp; go_at_call 38; (with_reducible refine (HSH.out _).mono ?_); rintro ez w3 ⟨g3, rfl, hr3, hm3, hg3⟩
       have HM3 : Mod NoneB w w3 := by first | exact HM2.then0 hm3 | exact (HM2.alloc _).then0 hm3
       have cx3 := HCX.out w3 HM3
       have cy3 : (convert 33 9 (.slice A2 (encL (diagT ds)).length c2)).run Tryd.prog w3 = .ok (.string (strOf (encL (diagT ds)))) w3 := by first | exact conv_str (hr2.mod0 hm3) | exact conv_str ((hr2.mod0 ((Mod.refl NoneB w2).alloc _)).mod0 hm3))
    | (first
        | (have hox0 : Own (w2.alloc (.cells #[.string (strOf kb), .string (strOf (encL (diagT ds)))] 9)) 9 1 (.slice (some ⟨w2.heap.size, 0, none⟩) 2 2) 2 (encTs [strOf kb, strOf (encL (diagT ds))]) := Own.of_blk (cap := 2) (heap_alloc_new w2 _) (by omega) (by omega) rfl rfl
           have hox : Own w3 9 1 (.slice (some ⟨w2.heap.size, 0, none⟩) 2 2) 2 (encTs [strOf kb, strOf (encL (diagT ds))]) := hox0.mod0 hm3
           have hnx : 0 < 2 → ∃ a, (some ⟨g3, 0, none⟩ : Option Addr) = some a ∧ ∀ (j : Nat) u, (encTs [zeroB, noB])[j]? = some u → (w3).cell? (a.add j) = some u := hr3.2.2
           have HMX : Mod NoneB w (w3) := HM3
           refine step_app rfl (.tmp 14) (.tmp 17) 40 rfl 9 _ 1 16 hus tiS rfl (by decide) (by decide) _ 2 (encTs [strOf kb, strOf (encL (diagT ds))]) (by simp [Act.eval]) hox (some ⟨g3, 0, none⟩) 2 2 (encTs [zeroB, noB]) (by simp [Act.eval]) rfl hnx (encTs_one _) h16 ?_; intro v5 w5 ho5 hm5 hno5
           have HM5 : Mod NoneB w w5 := HMX.trans_new hm5 (fun k hk => .inr (by
             have h1 := HM2.size
             have h2 := HM3.size
             have h3 : k = w2.heap.size := by simp [OnlyBlk, Value.ownBlock] at hk; omega
             omega)))
        | (have hox : Own (w3.alloc (.cells #[.string (strOf kb), .string (strOf (encL (diagT ds)))] 9)) 9 1 (.slice (some ⟨w3.heap.size, 0, none⟩) 2 2) 2 (encTs [strOf kb, strOf (encL (diagT ds))]) := Own.of_blk (cap := 2) (heap_alloc_new w3 _) (by omega) (by omega) rfl rfl
           have hnx : 0 < 2 → ∃ a, (some ⟨g3, 0, none⟩ : Option Addr) = some a ∧ ∀ (j : Nat) u, (encTs [zeroB, noB])[j]? = some u → (w3.alloc (.cells #[.string (strOf kb), .string (strOf (encL (diagT ds)))] 9)).cell? (a.add j) = some u := (hr3.mod0 ((Mod.refl NoneB w3).alloc (.cells #[.string (strOf kb), .string (strOf (encL (diagT ds)))] 9))).2.2
           have HMX : Mod NoneB w (w3.alloc (.cells #[.string (strOf kb), .string (strOf (encL (diagT ds)))] 9)) := HM3.alloc _
           refine step_app rfl (.tmp 14) (.tmp 17) 40 rfl 9 _ 1 16 hus tiS rfl (by decide) (by decide) _ 2 (encTs [strOf kb, strOf (encL (diagT ds))]) (by simp [Act.eval]) hox (some ⟨g3, 0, none⟩) 2 2 (encTs [zeroB, noB]) (by simp [Act.eval]) rfl hnx (encTs_one _) h16 ?_; intro v5 w5 ho5 hm5 hno5
           have HM5 : Mod NoneB w w5 := HMX.trans_new hm5 (fun k hk => .inr (by
             have h1 := HM2.size
             have h2 := HM3.size
             have h3 : k = w3.heap.size := by simp [OnlyBlk, Value.ownBlock] at hk; omega
             omega)))
       obtain ⟨A5, c5, rfl, hr5⟩ := ho5.nilD0
       replace hr5 : Rd w5 1 A5 4 (encTs [strOf kb, strOf (encL (diagT ds)), zeroB, noB]) := hr5)
    | (go_simp; go_at_call 30; (with_reducible refine (HENC.out _ A5 c5 hr5).mono ?_); rintro ez w6 ⟨v6, rfl, ho6, hm6, _⟩; have HM6 := HM5.then0 hm6; obtain ⟨A6, c6, rfl, hr6⟩ := ho6.nilD0; have cz : (convert 33 9 (.slice A6 (packB kb ds).length c6)).run Tryd.prog w6 = .ok (.string (strOf (packB kb ds))) w6 := conv_str hr6))
  all_goals
    go_wp2_with fail
    go_ret
    exact ⟨rfl, HM6⟩

def GreatF (l : List Part) (w : World) (e : Ending) (w' : World) : Prop := ∃ b, e = .returned (.bool b) ∧ Mod NoneB w w' ∧ (b = false → ShortF (l.map (·.b)))
set_option maxHeartbeats 2000000 in
set_option maxRecDepth 100000 in
theorem great23_calls (l : List Part) (A : Option Addr) (c : Nat) (w : World) (hr : Rd w 1 A l.length (l.flatMap encPart)) :
    Calls Tryd.prog 21 #[.slice A l.length c] w (GreatF l w) := by
  have hn := hr.2.1
  go_enter Tryd.func21, Tryd.ntmps21
  go_wp2_with fail
  go_loopw [3, 4] (fun n i wr => ∃ j m : Nat, i = .int .i64 j ∧ n = .int .i64 m ∧ j ≤ l.length ∧ l.length ≤ m ∧ m ≤ 9223372036854775807 ∧ (m ≤ 3000 → ∀ p ∈ l.take j, p.b.length ≤ 3000) ∧ Mod NoneB w wr) (fun _ i _ => l.length - (intOf i).toNat)
  case atStart => exact ⟨0, l.length, rfl, rfl, by omega, by omega, by omega, fun _ p hp => by simp at hp, Mod.refl _ _⟩
  case round =>
    obtain ⟨j, m, rfl, rfl, hj, hlm, hm9, hs, hm⟩ := hrel
    have HS := Lib.hid hs
    clear hs
    by_cases hlt : j < l.length
    · by_cases hle : m ≤ 3000
      · obtain ⟨ad, rfl, h0, _⟩ := Rd.elem (f := encPart) (fun _ => rfl) hr (by decide) j hlt
        replace h0 := hm.cell0 (h0 _ rfl)
        rw [Nat.mul_one] at h0
        obtain ⟨p, hp⟩ : ∃ p, p = l[j] := ⟨_, rfl⟩
        have htk : ∀ (P : Part → Prop), (∀ q ∈ l.take j, P q) → P p → ∀ q ∈ l.take (j + 1), P q := by
          intro P h1 h2 q hq
          rw [List.take_succ_eq_append_getElem hlt] at hq
          rcases List.mem_append.1 hq with h | h
          · exact h1 q h
          · rw [List.mem_singleton, ← hp] at h
            rw [h]; exact h2
        have HTK := Lib.hid htk
        rw [← hp] at h0
        clear hp htk
        have e1 : (0 : Int) ≤ j := by omega
        have e2 : (j : Int) < l.length := by omega
        have e3 : (m : Int) ≤ 3000 := by omega
        obtain ⟨x, hx⟩ : ∃ x, x = min p.b.length 3001 := ⟨_, rfl⟩
        have hx3 : x ≤ 3001 := by omega
        have hx4 : x ≤ 3000 → p.b.length ≤ 3000 := by omega
        have e4 : min (p.b.length : Int) 3001 = (x : Int) := by omega
        have e6 : wrap64 ((m : Int) + x) = ((m + x : Nat) : Int) := by rw [show (m : Int) + x = ((m + x : Nat) : Int) by omega]; exact IntWalk.wrap64_in _ (by omega)
        have HX4 := Lib.hid hx4
        clear hx hx4
        go_wp2_with fail
        go_roundw
        case rel =>
          refine ⟨j + 1, m + x, by go_num, by go_num, by omega, by omega, by omega, fun h => ?_, hm⟩
          exact HTK.out (fun q => q.b.length ≤ 3000) (HS.out hle) (HX4.out (by omega))
        case measure => simp [intOf]; omega
      · have e2 : (j : Int) < l.length := by omega
        have e3 : ¬ (m : Int) ≤ 3000 := by omega
        go_wp2_with fail
        go_ret
        exact ⟨true, rfl, hm, fun h => by cases h⟩
    · have e2 : ¬ (j : Int) < l.length := by omega
      go_wp2_with fail
      go_ret
      refine ⟨decide ((3000 : Int) < m), rfl, hm, fun h => ?_⟩
      have h1 := of_decide_eq_false h
      have hle : m ≤ 3000 := by omega
      have h2 := HS.out hle
      rw [List.take_of_length_le (by omega)] at h2
      refine ⟨by rw [List.length_map]; omega, fun x hx => ?_⟩
      obtain ⟨p, hp, rfl⟩ := List.mem_map.1 hx
      exact h2 p hp

def dgM : Dg := ⟨⟨#[109]⟩, 0, 0, ⟨#[]⟩⟩
theorem pkM : PkOk [107] [dgM] := ⟨by decide, ⟨by decide, fun d hd => by
  obtain rfl := List.mem_singleton.1 hd
  exact ⟨⟨⟨by decide, by decide⟩, ⟨by decide, by decide⟩⟩, by decide, by decide⟩⟩, fun d hd => by
  obtain rfl := List.mem_singleton.1 hd
  exact ⟨by decide, by decide⟩⟩
set_option maxHeartbeats 2000000 in
set_option maxRecDepth 100000 in
theorem awake23_calls (w : World) (ht : TabW w) (he : ErrW w) : Calls Tryd.prog 22 #[] w fun e w' => e = .returned (.bool true) ∧ Mod NoneB w w' := by
  go_enter Tryd.func22, Tryd.ntmps22
  go_wp2_with fail
  refine (kempty_calls none 0 w).mono ?_
  rintro e w1 ⟨rfl, hm1⟩
  obtain ⟨w2, hcv2, ⟨f2, hb2⟩, hmf2⟩ := conv_lit (n := 1) (c := 1) (box1 w1 (.cells #[.int .u8 107] 5))
  have hm2 : Mod NoneB w1 w2 := ((Mod.refl NoneB w1).alloc _).trans hmf2 (fun k hk he => by omega)
  have hk2 : Rd w2 1 (some ⟨w1.heap.size, 0, none⟩) 1 (encB [107]) := rd_blk hb2 rfl (by omega)
  have hmw2 := hm1.then0 hm2
  have hmd : Mod NoneB w2 (w2.alloc (.cells #[.string ⟨#[109]⟩, .int .i64 0, .int .i64 0, .string ⟨#[]⟩] 27)) := (Mod.refl NoneB w2).alloc _
  have hd2 : Rd (w2.alloc (.cells #[.string ⟨#[109]⟩, .int .i64 0, .int .i64 0, .string ⟨#[]⟩] 27)) 4 (some ⟨w2.heap.size, 0, none⟩) 1 (encDs [dgM]) := rdBlk (sz := 4) (n := 1) (heap_alloc_new w2 _) rfl (by omega)
  have hpk := pack_calls [107] [dgM] _ _ 1 1 _ pkM (hk2.mod0 hmd) hd2 (ht.mod0 (hmw2.then0 hmd))
  have HPK := Lib.hid hpk
  have hmw3 := hmw2.then0 hmd
  clear hpk hd2 hk2
  go_wp2_with fail
  refine HPK.out.mono ?_
  rintro e w4 ⟨rfl, hm4⟩
  have hmw4 := hmw3.then0 hm4
  obtain ⟨w5, hcv5, ⟨f5, hb5⟩, hmf5⟩ := conv_lit (n := 1) (c := 1) (box1 w4 (.cells #[.int .u8 107] 5))
  have hm5 : Mod NoneB w4 w5 := ((Mod.refl NoneB w4).alloc _).trans hmf5 (fun k hk he => by omega)
  have hk5 : Rd w5 1 (some ⟨w4.heap.size, 0, none⟩) 1 (encB [107]) := rd_blk hb5 rfl (by omega)
  have hmw5 := hmw4.then0 hm5
  have HKO := Lib.hid (kopen_calls [107] [107] [dgM] _ 1 w5 pkM hk5 (ht.mod0 hmw5) (he.mod0 hmw5))
  obtain ⟨pk, hpk⟩ : ∃ pk, pk = strOf (packB [107] [dgM]) := ⟨_, rfl⟩
  rw [← hpk] at HKO ⊢
  clear hpk HPK hcv2 hb2 hmf2 hm2 hmd hb5 hmf5 hm5 hk5 hmw2 hmw3 hmw4 hm4
  go_wp2_with fail
  refine HKO.out.mono ?_
  rintro e w6 ⟨v6, rfl, ho6, hm6, _⟩
  rw [if_pos rfl] at ho6
  rw [decide_eq_true rfl]
  obtain ⟨A6, c6, hv6, _⟩ := ho6.nilD0
  replace hv6 : v6 = .slice A6 1 c6 := hv6
  subst hv6
  have hmw6 := hmw5.then0 hm6
  clear ho6 HKO
  go_wp2_with fail
  go_ret
  exact ⟨rfl, hmw6⟩
end Go.Proofs.YtdmdiokfpbmnaaaDoor

