/- cache.Get of what was put, or is in the store, or is nowhere. -/
import Derived.Test.YtkklofnabmdmfaaGreatDoorCaPQq
import Derived.Test.YtkklofnabmdmfaaGreatDoorDaYQq
namespace Go.Proofs.YtkklofnabmdmfaaGreatDoor
open Go.RowKit
set_option linter.unusedVariables false

set_option maxHeartbeats 2000000 in
set_option maxRecDepth 100000 in
theorem cget_known {c mb n : Nat} {P : Option Addr} {b : Bool} {f : ByteArray → Option ByteArray} {v : Value} {ws : List ByteArray} {w : World} (h : CaM w c mb P b n f v ws) (name : ByteArray) (h1 : name.size ≤ 1073741824)
    (kb q : List UInt8) (ds : List Dg) (ok : PkOk kb ds) (hf : f name = some (strOf (packB kb ds))) (A : Option Addr) (cq : Nat) (hq : Rd w 1 A q.length (encB q)) (ht : TabW w) (he : ErrW w) :
    Calls Tryz.prog 10 #[.pointer (some ⟨c, 0, none⟩), .string name, .slice A q.length cq] w (KopE kb q ds w) := by
  have c2 := blk_cell h.blk 2
  have hlk := h.map.look name (by unfold maxLen; omega)
  rw [hf] at hlk
  have HKO := Lib.hid (kopen_calls kb q ds A cq w ok hq ht he)
  obtain ⟨pk, hpk⟩ : ∃ pk, pk = strOf (packB kb ds) := ⟨_, rfl⟩
  rw [← hpk] at hlk HKO
  have hlk2 : (Instr.lookup 57 (.map (some mb)) (.string name) true).run Tryz.prog w = .ok (.tuple #[.string pk, .bool true]) w := hlk
  clear hpk hlk hf h
  go_enter Tryz.func10, Tryz.ntmps10
  go_wp2_with fail
  refine HKO.out.mono ?_
  rintro e w1 ⟨v1, rfl, ho1, hm1, hn1⟩
  have HO1 := Lib.hid ho1
  obtain ⟨rs, hrs⟩ : ∃ rs, rs = (if kb = q then ds else []) := ⟨_, rfl⟩
  rw [← hrs] at ho1
  have HRS := Lib.hid hrs
  obtain ⟨bq, hbq⟩ : ∃ bq, bq = decide (kb = q) := ⟨_, rfl⟩
  rw [← hbq]
  have HBQ := Lib.hid hbq
  obtain ⟨A1, c1, rfl, _⟩ := ho1.nilD0
  have HO2 := Lib.hid ho1
  clear ho1 HKO hrs hbq HO1
  go_wp2_with fail
  (try simp only [Exit.inBlock, Exit.then])
  refine bodyPost_ret (results_tmp4 rfl _ _ _) rfl ?_
  refine ⟨_, by rw [← HBQ.out]; rfl, ?_, hm1, hn1⟩
  rw [← HRS.out]
  exact HO2.out
end Go.Proofs.YtkklofnabmdmfaaGreatDoor

/- The document's Pack. -/
namespace Go.Proofs.YtkklofnabmdmfaaGreatDoor
open Go.RowKit
set_option linter.unusedVariables false

theorem bit_calls (w : World) : Calls Tryz.prog 50 #[.bool false] w fun e w' => e = .returned (.string zeroB) ∧ w' = w := by
  go_enter Tryz.func50, Tryz.ntmps50
  go_wp2_with fail
  go_ret
  exact ⟨rfl, rfl⟩
set_option maxHeartbeats 8000000 in
set_option maxRecDepth 100000 in
theorem rpack_calls (kb : List UInt8) (ds : List Dg) (A D : Option Addr) (c dc : Nat) (w : World) (ok : PkOk kb ds) (hk : Rd w 1 A kb.length (encB kb)) (hd : Rd w 4 D ds.length (encDs ds)) :
    Calls Tryz.prog 28 #[.slice A kb.length c, .slice D ds.length dc, .slice none 0 0, .bool false] w fun e w' => e = .returned (.string (strOf (packB kb ds))) ∧ Mod NoneB w w' := by
  have hcx : ∀ w', Mod NoneB w w' → (convert 25 9 (.slice A kb.length c)).run Tryz.prog w' = .ok (.string (strOf kb)) w' := fun w' hm => conv_str (hk.mod0 hm)
  have HCX := Lib.hid hcx
  have hen : ∀ w', Mod NoneB w w' → Calls Tryz.prog 49 #[.slice D ds.length dc] w' fun e w'' => ∃ v, e = .returned v ∧ Own w'' 5 1 v (encL (diagT ds)).length (encB (encL (diagT ds))) ∧ Mod NoneB w' w'' ∧ ∀ g, v.ownBlock = some g → w'.heap.size ≤ g :=
    fun w' hm => rencodeD_calls ds D dc w' (hd.mod0 hm) (by have := ok.d.1; omega) (fun d hd => (ok.d.2 d hd).1) (fun s hs => by have := ok.d.texts.1 s hs; omega) ok.d.texts.2
  have HEN := Lib.hid hen
  have henc : ∀ w' A c, Rd w' 1 A 4 (encTs [strOf kb, strOf (encL (diagT ds)), zeroB, noB]) → Calls Tryz.prog 48 #[.slice A 4 c] w' fun e w'' => ∃ v, e = .returned v ∧ Own w'' 5 1 v (packB kb ds).length (encB (packB kb ds)) ∧ Mod NoneB w' w'' ∧ (∀ g, v.ownBlock = some g → w'.heap.size ≤ g) := fun w' A c hr =>
    rencode_calls [strOf kb, strOf (encL (diagT ds)), zeroB, noB] A c w' hr (by simp) (fun s hs => by
      have h1 := ok.len.1
      have h2 := ok.k
      simp only [List.mem_cons, List.not_mem_nil, or_false] at hs
      rcases hs with rfl | rfl | rfl | rfl
      · rw [strOf_size]; omega
      · rw [strOf_size]; omega
      · decide
      · decide) (by have := ok.len.2; unfold packB at this; omega)
  have HENC := Lib.hid henc
  have HM0 : Mod NoneB w w.drew := (Mod.refl NoneB w).drew
  have cx0 := hcx _ HM0
  clear hcx hen henc
  go_enter Tryz.func28, Tryz.ntmps28
  go_wp2_with fail
  go_region_law (first
    | (go_simp; go_at_call 49; (with_reducible refine (HEN.out _ HM0).mono ?_); rintro ez w2 ⟨v2, rfl, ho2, hm2, _⟩; have HM2 := HM0.then0 hm2; have cx2 := HCX.out w2 HM2; obtain ⟨A2, c2, rfl, hr2⟩ := ho2.nilD0
       have cy2 : (convert 25 9 (.slice A2 (encL (diagT ds)).length c2)).run Tryz.prog w2 = .ok (.string (strOf (encL (diagT ds)))) w2 := conv_str hr2
       have hal2 : Mod NoneB w2 (w2.alloc (.cells #[.string (strOf kb), .string (strOf (encL (diagT ds))), .string zeroB, .string ⟨#[]⟩] 9)) := (Mod.refl _ _).alloc _
       have hr4 : Rd (w2.alloc (.cells #[.string (strOf kb), .string (strOf (encL (diagT ds))), .string zeroB, .string ⟨#[]⟩] 9)) 1 (some ⟨w2.heap.size, 0, none⟩) 4 (encTs [strOf kb, strOf (encL (diagT ds)), zeroB, noB]) := rdBlk (sz := 1) (n := 4) (heap_alloc_new w2 _) rfl (by omega))
    | (go_simp; go_at_call 50; (with_reducible refine (bit_calls _).mono ?_); rintro ez wz ⟨rfl, hwz⟩; have hwz2 := hwz.symm; clear hwz; subst hwz2)
    | (go_simp; go_at_call 48; (with_reducible refine (HENC.out _ _ _ hr4).mono ?_); rintro ez w6 ⟨v6, rfl, ho6, hm6, _⟩; have HM6 := (HM2.then0 hal2).then0 hm6; obtain ⟨A6, c6, rfl, hr6⟩ := ho6.nilD0; have cz : (convert 25 9 (.slice A6 (packB kb ds).length c6)).run Tryz.prog w6 = .ok (.string (strOf (packB kb ds))) w6 := conv_str hr6))
  all_goals
    go_wp2_with fail
    go_ret
    exact ⟨rfl, HM6⟩
end Go.Proofs.YtkklofnabmdmfaaGreatDoor
