/- DiskApart: what was handed in can be spoilt, and what was told, and nothing on the disk is; two disks do not touch one another: the walk of the law. -/
import Derived.Test.YtnoleekdldmagaaDkRen
import Derived.StillTailTactics
namespace Go.Proofs.Ytnoleekdldmagaa
open Go.RowKit
set_option linter.unusedVariables false

theorem DTo.beside {w w' : World} {S S' T : Nat → Prop} {p q : Nat} {d' o : Dk} (h : DTo w S p d' w' S') (ho : IsD w q o T) (ha : ∀ k, T k → ¬ S k) : IsD w' q o T ∧ ∀ k, T k → ¬ S' k :=
  ⟨ho.mod h.mod ha, fun k hk hs => (h.new k hs).elim (ha k hk) (fun h2 => absurd (ho.lt hk) (Nat.not_lt.2 h2))⟩
theorem oneFile (cap : Int) (c : Nat) (x : List UInt8) (s : Nat) : (freeD cap [] [⟨rA, x, s⟩] c).fs = [⟨rA, x, s⟩] := rfl

set_option maxHeartbeats 4000000 in
set_option maxRecDepth 100000 in
theorem diskApart_walk (l0 : List UInt8) (a0 : Option Addr) (c0 : Nat) (w : World) (rd0 : Rd w 1 a0 l0.length (encB l0)) :
    Calls Try.prog 7 #[.slice a0 l0.length c0] w fun e w' => e = .returned (.bool true) ∧ Mod NoneB w w' := by
  by_cases hg0 : l0.length = 0
  · have b0 : ((l0.length : Int) == 0) = true := by simp [hg0]
    clear hg0
    go_enter Try.func7, Try.ntmps7
    go_wp2_with ((with_reducible refine (awake1_calls _).mono ?_); rintro e wz ⟨rfl, hz⟩)
    go_ret
    exact ⟨rfl, hz⟩
  by_cases hg1 : 500 < l0.length
  · go_enter Try.func7, Try.ntmps7
    have b0 : ((l0.length : Int) == 0) = false := beq_eq_false_iff_ne.2 (by omega)
    clear hg0
    go_wp2_with ((with_reducible refine (awake1_calls _).mono ?_); rintro e wz ⟨rfl, hz⟩)
    go_ret
    exact ⟨rfl, hz⟩
  · have hpos : 0 < l0.length := by omega
    obtain ⟨x, r, rfl⟩ : ∃ x r, l0 = x :: r := by
      cases l0 with
      | nil => simp at hpos
      | cons x r => exact ⟨x, r, rfl⟩
    obtain ⟨n, hn⟩ : ∃ n, n = (x :: r).length := ⟨_, rfl⟩
    obtain ⟨l, hl⟩ : ∃ l, l = x :: r := ⟨_, rfl⟩
    have hx0 : (encB l)[0]? = some (.int .u8 x.toNat) := by rw [hl]; rfl
    have hb0 := rd0.block_lt (by decide)
    rw [← hl] at rd0 hb0 hn hg1 hg0 hpos ⊢
    rw [← hn] at rd0 hb0 hg1 hg0 hpos ⊢
    have HN := Lib.hid hn
    have HB0 := Lib.hid hb0
    have HX0 := Lib.hid hx0
    have hxb := x.toNat_lt
    have b0 : ((n : Int) == 0) = false := beq_eq_false_iff_ne.2 (by omega)
    clear hl hn hb0 hx0 hg0
    go_enter Try.func7, Try.ntmps7
    go_wp2_with fail
    refine (new_calls w ⟨5000, [], 0, false, []⟩ none none 0 0 (Rd.nil _ _ _) (Rd.nil _ _ _) (Nat.zero_le _) (Nat.zero_le _)).mono ?_
    rintro e w1 ⟨p, S, rfl, hd1, hm1, hS1⟩
    go_wp2_with fail
    refine (new_calls w1 ⟨5000, [], 0, false, []⟩ none none 0 0 (Rd.nil _ _ _) (Rd.nil _ _ _) (Nat.zero_le _) (Nat.zero_le _)).mono ?_
    rintro e w2 ⟨q, T, rfl, ho2, hm2, hT2⟩
    replace hd1 : IsD w1 p (freeD 5000 [] [] 0) S := hd1
    replace ho2 : IsD w2 q (freeD 5000 [] [] 0) T := ho2
    have hap : ∀ k, T k → ¬ S k := fun k hk hs => by have := hd1.lt hs; have := hT2 k hk; omega
    have hd2 := hd1.mod0 hm2
    have hm12 := hm1.then0 hm2
    have hT1 : ∀ k, T k → w.heap.size ≤ k := fun k hk => Nat.le_trans hm1.size (hT2 k hk)
    clear hd1 hm1 hm2 hT2
    go_wp2_with fail
    refine (create_calls w2 p _ S rA hd2 (by decide) (by decide)).mono ?_
    rintro e w3 ⟨rfl, S3, hto⟩
    rw [create_nil0 _ _ _ _ (by decide)] at hto ⊢
    obtain ⟨ho3, hap3⟩ := hto.beside ho2 hap
    obtain ⟨hd3, hm3, hS3⟩ := hto.go hm12 hS1
    clear hto ho2 hap hd2 hm12 hS1
    have hown0 : Own (w3.alloc (.cells #[] 5)) 5 1 (.slice (some ⟨w3.heap.size, 0, none⟩) 0 0) 0 [] := Own.of_blk (cap := 0) (heap_alloc_new w3 _) (by omega) (by omega) (by simp) (by simp)
    have hnews : 0 < n → ∃ a, a0 = some a ∧ ∀ (j : Nat) u, (encB l)[j]? = some u → (w3.alloc (.cells #[] 5)).cell? (a.add j) = some u := by
      intro hp
      obtain ⟨a, h1, h2⟩ := rd0.2.2 hp
      exact ⟨a, h1, fun j u hu => (hm3.alloc _).cell0 (h2 j u hu)⟩
    have hu := Try.underlying35
    have hnl : (encB l).length = n * 1 := by rw [encB_length, HN.out]; omega
    have HNL := Lib.hid hnl
    clear hnl
    go_wp2_with (at_builtin; refine wpList_append rfl (.tmp 32) (.tmp 33) 35 rfl 5 _ 1 1 hu tiB rfl (by decide) (by decide) _ 0 [] rfl hown0 a0 n c0 (encB l) rfl HNL.out hnews (encB_one l) ?c1 ?_)
    case c1 => omega
    intro v' w4 hoh hmh hnoh
    have hm4 : Mod NoneB w3 w4 := ((Mod.refl NoneB w3).alloc _).trans_new hmh (fun k hk => .inr (by simp [OnlyBlk, Value.ownBlock] at hk; omega))
    obtain ⟨gh, ch, rfl⟩ := hoh.addrOf (by omega)
    have hgh : w3.heap.size ≤ gh := by
      rcases hnoh with h | ⟨b, h, hb⟩
      · simp [Value.ownBlock] at h; omega
      · simp [Value.ownBlock] at h; simp at hb; omega
    clear hnews hown0 hmh hnoh
    have hd4 := hd3.mod0 hm4
    have ho4 := ho3.mod0 hm4
    obtain ⟨Ah, chh, heh, hrh⟩ := hoh.nilD
    injection heh with heh1 _ heh3
    subst heh1 heh3
    have hln : l.length = n := HN.out.symm
    go_wp2_with fail
    have hrh' : Rd w4 1 (some ⟨gh, 0, none⟩) l.length (encB l) := by rw [hln]; exact hrh
    have HAP : Calls Try.prog 35 #[.pointer (some ⟨p, 0, none⟩), .string rA, .slice (some ⟨gh, 0, none⟩) n ch] w4 fun e w' => e = .returned (.int .i64 0) ∧ DStep w4 S3 p (freeD 5000 [] [⟨rA, l, 0⟩] 2) w' := by
      have h := append_calls w4 p _ S3 rA l (some ⟨gh, 0, none⟩) ch hd4 hrh' (fun _ ad h hs => by injection h with h; subst h; exact hd3.notS hgh hs) (by decide) (by decide) (by simp [freeD, usedF]; omega)
      rw [append_one _ _ _ _ _ _ _ (by simp; omega), hln, List.nil_append] at h
      exact h
    have HLN := Lib.hid hln
    have hS4 : ∀ k, S3 k → w.heap.size ≤ k := hS3
    clear hln hrh hrh'
    refine HAP.mono ?_
    rintro e w5 ⟨rfl, S5, hto⟩
    obtain ⟨ho5, hap5⟩ := hto.beside ho4 hap3
    have hghS : ¬ S3 gh := fun hs => hd3.notS hgh hs
    have hoh5 := hoh.mod hto.mod (fun g hg => by simp [Value.ownBlock] at hg; subst hg; exact hghS)
    have hghS5 : ¬ S5 gh := fun hs => (hto.new gh hs).elim hghS (fun h2 => by have := hoh.lt (g := gh) (by simp [Value.ownBlock]); omega)
    obtain ⟨hd5, hm5, hS5⟩ := hto.go (hm3.then0 hm4) hS3
    have hghw : w.heap.size ≤ gh := Nat.le_trans hm3.size hgh
    have hTg : ¬ T gh := fun hs => by have := ho3.lt hs; omega
    have y0 := hoh5.cellAt 0 _ HX0.out
    have f0 := hoh5.frozenAt 0
    clear hto HAP ho4 hap3 hd4 hd3 hm3 hm4 hS3 hoh hoh5 ho3 hghS hgh
    have e1 : (0 : Int) < (n : Int) := by omega
    go_wp2_with fail
    obtain ⟨u1, hu1⟩ : ∃ u : Value, u = .int .u8 (((x.toNat : Int) + 1) % 256) := ⟨_, rfl⟩
    rw [← hu1]
    clear hu1 y0 f0 e1
    have hms : Mod (fun k => k = gh) w5 (w5.setCell ⟨gh, 0, none⟩ u1) := Mod.setCell (S := fun k => k = gh) (Mod.refl _ _) (p := ⟨gh, 0, none⟩) (fun _ => rfl) _
    have hd6 : Dw w (w5.setCell ⟨gh, 0, none⟩ u1) p (freeD 5000 [] [⟨rA, l, 0⟩] 2) := ⟨S5, hd5.mod hms (fun k hk he => by subst he; exact hghS5 hk), hm5.trans_new hms (fun k hk => .inr (by subst hk; exact hghw)), hS5⟩
    have ho6 : IsD (w5.setCell ⟨gh, 0, none⟩ u1) q (freeD 5000 [] [] 0) T := ho5.mod hms (fun k hk he => by subst he; exact hTg hk)
    generalize w5.setCell ⟨gh, 0, none⟩ u1 = w6 at hms hd6 ho6 ⊢
    clear hms hd5 ho5 hap5 hS5 hm5
    have hft : Fits (freeD 5000 [] [⟨rA, l, 0⟩] 2) := fits_one _ _ _ _ _ _ (by omega) (by have := HLN.out; omega)
    have hrdl : readD (freeD 5000 [] [⟨rA, l, 0⟩] 2) rA = (l, 0) := read_one _ _ _ _ _ _
    have HRD := Lib.hid hrdl
    clear hrdl
    refine (hd6.read rA hft).mono ?_
    rintro e w7 ⟨v, rfl, hov, hd7, hm7, hnv⟩
    rw [HRD.out] at hov ⊢
    replace hov : Own w7 5 1 v n (encB l) := by
      have h : Own w7 5 1 v l.length (encB l) := hov
      rwa [HLN.out] at h
    obtain ⟨gc, cc, rfl⟩ := hov.addrOf (by omega)
    have ho7 := ho6.mod0 hm7
    have hgc : w6.heap.size ≤ gc := hnv gc (by simp [Value.ownBlock])
    obtain ⟨_, _, hve, hrc⟩ := hov.nilD
    injection hve with hve1 _ hve3
    subst hve1 hve3
    have hx1 : (convert 35 9 (.slice (some ⟨gc, 0, none⟩) n cc)).run Try.prog w7 = .ok (.string (strOf l)) w7 := conv_strN HLN.out hrc
    have hx2 : (convert 35 9 (.slice a0 n c0)).run Try.prog w7 = .ok (.string (strOf l)) w7 := conv_strN HLN.out (rd0.mod0 hd7.base)
    have y0 := hov.cellAt 0 _ HX0.out
    have f0 := hov.frozenAt 0
    have e1 : (0 : Int) < (n : Int) := by omega
    have hgcS : w.heap.size ≤ gc := Nat.le_trans hd6.base.size hgc
    have hTgc : ¬ T gc := fun hs => by have := ho6.lt hs; omega
    have hdS : ∀ u, Dw w (w7.setCell ⟨gc, 0, none⟩ u) p (freeD 5000 [] [⟨rA, l, 0⟩] 2) := by
      intro u
      obtain ⟨S7, k1, k2, k3⟩ := hd6
      have hms : Mod (fun k => k = gc) w7 (w7.setCell ⟨gc, 0, none⟩ u) := Mod.setCell (S := fun k => k = gc) (Mod.refl _ _) (p := ⟨gc, 0, none⟩) (fun _ => rfl) _
      exact ⟨S7, (k1.mod0 hm7).mod hms (fun k hk he => by subst he; exact k1.notS hgc hk), (k2.then0 hm7).trans_new hms (fun k hk => .inr (by subst hk; exact hgcS)), k3⟩
    have hoS : ∀ u, IsD (w7.setCell ⟨gc, 0, none⟩ u) q (freeD 5000 [] [] 0) T := by
      intro u
      have hms : Mod (fun k => k = gc) w7 (w7.setCell ⟨gc, 0, none⟩ u) := Mod.setCell (S := fun k => k = gc) (Mod.refl _ _) (p := ⟨gc, 0, none⟩) (fun _ => rfl) _
      exact ho7.mod hms (fun k hk he => by subst he; exact hTgc hk)
    have HDS := Lib.hid hdS
    have HOS := Lib.hid hoS
    clear hdS hoS hrc hov hnv hd6 ho6 ho7 hd7
    go_wp2_with fail
    obtain ⟨u2, hu2⟩ : ∃ u : Value, u = .int .u8 (((x.toNat : Int) + 1) % 256) := ⟨_, rfl⟩
    rw [← hu2]
    have hd8 := HDS.out u2
    have ho8 := HOS.out u2
    clear hu2 y0 f0 e1 hx1 hx2
    generalize w7.setCell ⟨gc, 0, none⟩ u2 = w8 at hd8 ho8 ⊢
    refine (hd8.files hft).mono ?_
    rintro e w9 ⟨fv, vs, rfl, hfa, hd9, hm9⟩
    obtain ⟨gf, cf, hfv⟩ := hfa.own.addrOf (Nat.succ_pos _)
    replace hfv : fv = .slice (some ⟨gf, 0, none⟩) 1 cf := hfv
    subst hfv
    obtain ⟨u0, rfl⟩ : ∃ u0, vs = [u0] := by
      have := hfa.len
      match vs, this with
      | [u], _ => exact ⟨u, rfl⟩
    have hob : Own w9 5 1 u0 n (encB l) := by
      have h : Own w9 5 1 u0 l.length (encB l) := hfa.byt 0 (Nat.succ_pos _) (Nat.succ_pos _)
      rwa [HLN.out] at h
    obtain ⟨gb, cb, rfl⟩ := hob.addrOf (by omega)
    have y1 : w9.cell? ⟨gf, 1, none⟩ = some (.slice (some ⟨gb, 0, none⟩) n cb) := Own.cellAt (n := 1) hfa.own 1 _ rfl
    have hgb : w8.heap.size ≤ gb := hfa.newB _ (List.mem_singleton.2 rfl) gb (by simp [Value.ownBlock])
    have ho9 := ho8.mod0 hm9
    obtain ⟨_, _, hve, hrb⟩ := hob.nilD
    injection hve with hve1 _ hve3
    subst hve1 hve3
    have hx1 : ∀ k, (convert 35 9 (.slice (some ⟨gb, 0, none⟩) n cb)).run Try.prog (w9.drewN k) = .ok (.string (strOf l)) (w9.drewN k) := fun k => conv_strN HLN.out (hrb.mod0 ((Mod.refl NoneB w9).drewN k))
    have hx2 : ∀ k, (convert 35 9 (.slice a0 n c0)).run Try.prog (w9.drewN k) = .ok (.string (strOf l)) (w9.drewN k) := fun k => conv_strN HLN.out ((rd0.mod0 hd9.base).mod0 ((Mod.refl NoneB w9).drewN k))
    have hne : gb ≠ gf := by
      obtain ⟨cz, hcz⟩ := hob.tag (g := gb) (by simp [Value.ownBlock])
      obtain ⟨cy, hcy⟩ := hfa.own.tag (g := gf) (by simp [Value.ownBlock])
      exact tag_ne hcz hcy (by decide)
    have hgbS : w.heap.size ≤ gb := Nat.le_trans hd8.base.size hgb
    have hTgb : ¬ T gb := fun hs => by have := ho8.lt hs; omega
    have hSgb : ∀ w', Mod NoneB w9 w' → ∀ u, Dw w (w'.setCell ⟨gb, 0, none⟩ u) p (freeD 5000 [] [⟨rA, l, 0⟩] 2) := by
      intro w' hm' u
      obtain ⟨S9, k1, k2, k3⟩ := hd8
      have hms : Mod (fun k => k = gb) w' (w'.setCell ⟨gb, 0, none⟩ u) := Mod.setCell (S := fun k => k = gb) (Mod.refl _ _) (p := ⟨gb, 0, none⟩) (fun _ => rfl) _
      exact ⟨S9, ((k1.mod0 hm9).mod0 hm').mod hms (fun k hk he => by subst he; exact k1.notS hgb hk), ((k2.then0 hm9).then0 hm').trans_new hms (fun k hk => .inr (by subst hk; exact hgbS)), k3⟩
    have hTgs : ∀ w', Mod NoneB w9 w' → ∀ u, IsD (w'.setCell ⟨gb, 0, none⟩ u) q (freeD 5000 [] [] 0) T := by
      intro w' hm' u
      have hms : Mod (fun k => k = gb) w' (w'.setCell ⟨gb, 0, none⟩ u) := Mod.setCell (S := fun k => k = gb) (Mod.refl _ _) (p := ⟨gb, 0, none⟩) (fun _ => rfl) _
      exact (ho9.mod0 hm').mod hms (fun k hk he => by subst he; exact hTgb hk)
    have y2 : w9.cell? ⟨gb, 0, none⟩ = some (.int .u8 x.toNat) := hob.cellAt 0 _ HX0.out
    have f2 : w9.frozen? ⟨gb, 0, none⟩ = false := hob.frozenAt 0
    have HSG := Lib.hid hSgb
    have HTG := Lib.hid hTgs
    clear hob hfa hrb hSgb hTgs hd8 ho8 hd9 ho9
    go_wp2_with fail
    go_quiet (fail)
    have hmq : Mod NoneB w9 (w9.drewN nq) := (Mod.refl NoneB w9).drewN nq
    have y1q := hmq.cell0 y1
    have y2q := hmq.cell0 y2
    have f2q : (w9.drewN nq).frozen? ⟨gb, 0, none⟩ = false := f2
    clear y1 y2 f2 hx1 hx2
    generalize w9.drewN nq = w10 at hmq y1q y2q f2q ⊢
    have e1 : (0 : Int) < (n : Int) := by omega
    go_wp2_with fail
    go_region_law (fail)
    all_goals
      obtain ⟨u3, hu3⟩ : ∃ u : Value, u = .int .u8 (IntKind.u8.wrap ((x.toNat : Int) + 1)) := ⟨_, rfl⟩
      rw [← hu3]
      have hdr : Mod NoneB (w10.setCell ⟨gb, 0, none⟩ u3) (w10.setCell ⟨gb, 0, none⟩ u3).drew := (Mod.refl _ _).drew
      have hd11 := (HSG.out w10 hmq u3).mod0 hdr
      have ho11 := (HTG.out w10 hmq u3).mod0 hdr
      clear hu3 y1q y2q f2q hdr e1
      generalize (w10.setCell ⟨gb, 0, none⟩ u3).drew = w11 at hd11 ho11 ⊢
      go_wp2_with fail
      refine (hd11.read rA hft).mono ?_
      rintro e w12 ⟨v, rfl, hov, hd12, hm12, _⟩
      rw [HRD.out] at hov ⊢
      replace hov : Own w12 5 1 v n (encB l) := by
        have h : Own w12 5 1 v l.length (encB l) := hov
        rwa [HLN.out] at h
      obtain ⟨V, c, rfl, hrv⟩ := hov.nilD
      have ho12 := ho11.mod0 hm12
      have hx1 : (convert 35 9 (.slice V n c)).run Try.prog w12 = .ok (.string (strOf l)) w12 := conv_strN HLN.out hrv
      have hx2 : (convert 35 9 (.slice a0 n c0)).run Try.prog w12 = .ok (.string (strOf l)) w12 := conv_strN HLN.out (rd0.mod0 hd12.base)
      clear hrv hov hd11 ho11
      go_wp2_with (first
        | ((with_reducible refine (num_calls _ _).mono ?_); rintro e wz ⟨rfl, rfl⟩)
        | ((with_reducible refine (files_calls _ q _ T ho12 (Nat.zero_le _) (Nat.zero_le _)).mono ?_); rintro e w13 ⟨fv, vs, rfl, hfa, hm13⟩; obtain ⟨Af, cf, hfv, _⟩ := hfa.own.nilD; (replace hfv : fv = .slice Af 0 cf := hfv); subst hfv)
        | ((with_reducible refine (awake1_calls _).mono ?_); rintro ez wz ⟨rfl, hmz⟩))
      go_ret
      exact ⟨rfl, (hd12.base.then0 hm13).then0 hmz⟩
end Go.Proofs.Ytnoleekdldmagaa
