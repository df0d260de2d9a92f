/- Law 24's own example; CacheNil: a cache that there is not keeps nothing; one of no disk is lost: the walk of the law. -/
import Derived.Test.YtkklofnabmdmfaaGreatDoorCaRQq
import Derived.Test.YtkklofnabmdmfaaGreatDoorStNQq
namespace Go.Proofs.YtkklofnabmdmfaaGreatDoor
open Go.RowKit
set_option linter.unusedVariables false

theorem pk0 : PkOk [107] [] := ⟨by decide, ⟨by decide, fun d hd => by cases hd⟩, fun d hd => by cases hd⟩
set_option maxHeartbeats 4000000 in
set_option maxRecDepth 100000 in
theorem awake24_calls (w : World) (ht : TabW w) (he : ErrW w) : Calls Tryz.prog 13 #[] w fun e w' => e = .returned (.bool true) ∧ Mod NoneB w w' := by
  have X1 := Lib.hid ex1.1
  go_enter Tryz.func13, Tryz.ntmps13
  go_wp2_with fail
  refine (Dw.new0 w w (Mod.refl _ _) 1000).mono ?_
  rintro e w1 ⟨p, rfl, hdw⟩
  obtain ⟨S1, h1⟩ := Lw.dw hdw
  have sp1 : Sp w w1 p dA S1 [] none 100 100 := ⟨h1, Shut.new _ _ _ _ _⟩
  have hop : Calls Tryz.prog 17 #[.pointer (some ⟨p, 0, none⟩), .int .i64 100] w1 fun e w' => ∃ P k, e = .returned (.tuple #[.pointer P, .int .i64 k]) ∧ (k = 0 ∧ Mod NoneB w w') := by
    refine (sp1.open ht (by omega) (by omega) (Nat.zero_le _) (by decide) (fun l h => by cases h) 100).mono ?_
    rintro e w2 (⟨q, g, s, x, S2, X, rfl, ho⟩ | ⟨h0, _⟩)
    · exact ⟨_, _, rfl, rfl, ho.so.at_.lw.base⟩
    · exact absurd X1.out h0
  have HNW := Lib.hid (cnew_calls hop)
  clear hdw h1 sp1 hop X1
  go_wp2_with fail
  refine HNW.out.mono ?_
  rintro e w2 ⟨P, k, wo, c, mb, ⟨rfl, hmo⟩, rfl, hnc⟩
  have hca : CaM w2 c mb P false 0 (fun _ => none) (.slice none 0 0) [] := hnc.ca
  have hmw2 := hmo.then0 hnc.mod
  have hcn : w.heap.size ≤ c := Nat.le_trans hmo.size hnc.newc
  have hmn : w.heap.size ≤ mb := Nat.le_trans hmo.size hnc.newm
  have HCA := Lib.hid hca
  have HLO := Lib.hid (clost_calls c w2 _ _ _ _ hca.blk)
  clear hnc hca HNW hmo
  obtain ⟨w3, hcv3, ⟨f3, hb3⟩, hmf3⟩ := conv_lit (n := 1) (c := 1) (box1 w2 (.cells #[.int .u8 107] 5))
  have hm3 : Mod NoneB w2 w3 := ((Mod.refl NoneB w2).alloc _).trans hmf3 (fun k hk he => by omega)
  have hk3 : Rd w3 1 (some ⟨w2.heap.size, 0, none⟩) 1 (encB [107]) := rd_blk hb3 rfl (by omega)
  have HPK := Lib.hid (rpack_calls [107] [] _ none 1 0 w3 pk0 hk3 (Rd.nil _ _ _))
  clear hb3 hmf3 hk3
  go_wp2_with ((with_reducible refine HLO.out.mono ?_); rintro ez wz ⟨rfl, hwz⟩; have hwz2 := hwz.symm; clear hwz; subst hwz2)
  refine HPK.out.mono ?_
  rintro e w4 ⟨rfl, hm4⟩
  have hlen := pk0.len.2
  obtain ⟨pk, hpk⟩ : ∃ pk, pk = strOf (packB [107] []) := ⟨_, rfl⟩
  have hpl : pk.size ≤ 1073741824 := by rw [hpk, strOf_size]; omega
  rw [← hpk]
  have HPKE := Lib.hid hpk
  have HPT := Lib.hid (cput_calls ((HCA.out.mod0 hm3).mod0 hm4) (by omega) (by decide) ⟨#[109]⟩ pk (by decide) hpl)
  clear hlen hpk hpl HPK hcv3
  go_wp2_with fail
  refine HPT.out.mono ?_
  rintro e w5 ⟨rfl, v5, hca5, hm5, _⟩
  have hm5' : Mod NoneB w w5 := ((hmw2.then0 hm3).then0 hm4).trans_new hm5 (fun k hk => by
    rcases hk with rfl | rfl | hk
    · exact .inr hcn
    · exact .inr hmn
    · cases hk)
  have hf5 : updM (fun _ => none) ⟨#[109]⟩ pk ⟨#[109]⟩ = some (strOf (packB [107] [])) := by unfold updM; rw [if_pos rfl, HPKE.out]
  have HCA5 := Lib.hid hca5
  have HF5 := Lib.hid hf5
  obtain ⟨w6, hcv6, ⟨f6, hb6⟩, hmf6⟩ := conv_lit (n := 1) (c := 1) (box1 w5 (.cells #[.int .u8 113] 5))
  have hm6 : Mod NoneB w5 w6 := ((Mod.refl NoneB w5).alloc _).trans hmf6 (fun k hk he => by omega)
  have hk6 : Rd w6 1 (some ⟨w5.heap.size, 0, none⟩) 1 (encB [113]) := rd_blk hb6 rfl (by omega)
  have hmw6 := hm5'.then0 hm6
  have HG6 := Lib.hid (cget_known (hca5.mod0 hm6) ⟨#[109]⟩ (by decide) [107] [113] [] pk0 hf5 _ 1 hk6 (ht.mod0 hmw6) (he.mod0 hmw6))
  clear hca5 hf5 HPT HCA hm3 hm4 hm5 hb6 hmf6 hk6 hmw2
  go_wp2_with fail
  refine HG6.out.mono ?_
  rintro e w7 ⟨v7, rfl, ho7, hm7, _⟩
  have hd7 : decide (([107] : List UInt8) = [113]) = false := by decide
  rw [hd7]
  have hmw7 := hmw6.then0 hm7
  obtain ⟨w8, hcv8, ⟨f8, hb8⟩, hmf8⟩ := conv_lit (n := 1) (c := 1) (box1 w7 (.cells #[.int .u8 107] 5))
  have hm8 : Mod NoneB w7 w8 := ((Mod.refl NoneB w7).alloc _).trans hmf8 (fun k hk he => by omega)
  have hk8 : Rd w8 1 (some ⟨w7.heap.size, 0, none⟩) 1 (encB [107]) := rd_blk hb8 rfl (by omega)
  have hmw8 := hmw7.then0 hm8
  have HG8 := Lib.hid (cget_known (((HCA5.out.mod0 hm6).mod0 hm7).mod0 hm8) ⟨#[109]⟩ (by decide) [107] [107] [] pk0 HF5.out _ 1 hk8 (ht.mod0 hmw8) (he.mod0 hmw8))
  clear ho7 HG6 hcv6 hb8 hmf8 hk8 hd7 HCA5 HF5
  go_wp2_with fail
  refine HG8.out.mono ?_
  rintro e w9 ⟨v9, rfl, ho9, hm9, _⟩
  rw [decide_eq_true rfl]
  have hmw9 := hmw8.then0 hm9
  clear ho9 HG8 hcv8
  go_wp2_with fail
  go_ret
  exact ⟨rfl, hmw9⟩

set_option maxHeartbeats 4000000 in
set_option maxRecDepth 100000 in
theorem cacheNil_walk (s0 : ByteArray) (w : World) (htab : TabW w) (herr : ErrW w) : Calls Tryz.prog 3 #[.string s0] w fun e w' => e = .returned (.bool true) ∧ Mod NoneB w w' := by
  have hop : Calls Tryz.prog 17 #[.pointer none, .int .i64 5] w fun e w' => ∃ P k, e = .returned (.tuple #[.pointer P, .int .i64 k]) ∧ (k = 3 ∧ w' = w) :=
    (sopen_nil 5 w).mono fun e w' ⟨he, hw⟩ => ⟨_, _, he, rfl, hw⟩
  have HNW := Lib.hid (cnew_calls hop)
  clear hop
  go_enter Tryz.func3, Tryz.ntmps3
  go_wp2_with fail
  refine (cput_nil s0 s0 w).mono ?_
  rintro e wz ⟨rfl, hwz⟩
  have hwz2 := hwz.symm; clear hwz; subst hwz2
  go_wp2_with fail
  refine (cflush_nil w).mono ?_
  rintro e wy ⟨rfl, hwz⟩
  have hwz2 := hwz.symm; clear hwz; subst hwz2
  go_wp2_with fail
  refine (cget_nil s0 _ w).mono ?_
  rintro e wx ⟨rfl, hwz⟩
  have hwz2 := hwz.symm; clear hwz; subst hwz2
  go_wp2_with fail
  refine HNW.out.mono ?_
  rintro e w2 ⟨P, k, wo, c, mb, ⟨rfl, rfl⟩, rfl, hnc⟩
  have hm2 := hnc.mod
  have hbl := hnc.blk
  have hk3 : ((3 : Int) != 0) = true := by decide
  rw [hk3] at hbl
  have HLO := Lib.hid (clost_calls c w2 _ _ _ _ hbl)
  have HAW := Lib.hid (awake24_calls w2 (htab.mod0 hm2) (herr.mod0 hm2))
  clear hnc hbl HNW
  go_wp2_with (first
    | ((with_reducible refine (clost_nil _).mono ?_); rintro ez wv ⟨rfl, hwz⟩; have hwz2 := hwz.symm; clear hwz; subst hwz2)
    | ((with_reducible refine HLO.out.mono ?_); rintro ez wv ⟨rfl, hwz⟩; have hwz2 := hwz.symm; clear hwz; subst hwz2)
    | ((with_reducible refine HAW.out.mono ?_); rintro ez w3 ⟨rfl, hm3⟩))
  go_ret
  exact ⟨rfl, hm2.then0 hm3⟩
end Go.Proofs.YtkklofnabmdmfaaGreatDoor
