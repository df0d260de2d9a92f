/- Snapshots on both disks: Load and Save of either in one line. -/
import Derived.Test.YtnlmfmceogbomaaGreatDoorRefTQq
import Derived.Test.YtnlmfmceogbomaaGreatDoorSnapBQq
import Derived.Test.YtnlmfmceogbomaaGreatDoorBulkAQq
import Derived.Test.YtnlmfmceogbomaaGreatDoorSameQq
namespace Go.Proofs.YtnlmfmceogbomaaGreatDoor
open Go.RowKit
set_option linter.unusedVariables false

theorem hasF_none {fs : List Fl} {n : ByteArray} (h : ∀ f ∈ fs, f.n ≠ n) : hasF fs n = false := by
  unfold hasF
  rw [List.any_eq_false]
  intro f hf
  simpa using h f hf
set_option maxHeartbeats 2000000 in
set_option maxRecDepth 100000 in
theorem rsize_calls (N : Nat) (w : World) (p : Nat) (d : Dk) (row FA KA : Value) (zs : List (Fl × Value)) (h : RdAt N w p d row FA KA zs) (n : ByteArray) (hl : d.fs.length ≤ 1099511627776) :
    Calls Tryz.prog 101 #[.pointer (some ⟨p, 0, none⟩), .string n] w fun e w' => ∃ z : Int, e = .returned (.int .i64 z) ∧ (decide (0 ≤ z) = hasF d.fs n) ∧ w' = w := by
  have y5 : w.cell? ⟨p, 5, none⟩ = some row := h.cellAt 5
  obtain ⟨A, c, rfl, hr⟩ := h.fil.own.nilD0
  have hzl : zs.length = d.fs.length := h.len.symm
  have hgt : ∀ i, ∀ h1 : i < d.fs.length, ∀ h2 : i < zs.length, zs[i].1 = d.fs[i] := fun i h1 h2 => (h.get h1 h2).symm
  have hen : ∀ i, ∀ h2 : i < zs.length, ∃ B bc, zs[i].2 = .slice B zs[i].1.b.length bc := fun i h2 => by
    obtain ⟨B, bc, h3, _⟩ := (h.fil.ent zs[i] (List.getElem_mem _)).1.nilD0
    exact ⟨B, bc, h3⟩
  have HZL := Lib.hid hzl
  have HGT := Lib.hid hgt
  have HEN := Lib.hid hen
  rw [hzl] at hr y5
  clear h hzl hgt hen
  go_enter Tryz.func101, Tryz.ntmps101
  go_wp2_with fail
  go_loopw [5] (fun i wr => wr = w ∧ ∃ j : Nat, i = .int .i64 j ∧ j ≤ d.fs.length ∧ ∀ f ∈ d.fs.take j, f.n ≠ n) (fun i _ => d.fs.length - (intOf i).toNat)
  case atStart => exact ⟨rfl, 0, rfl, by omega, fun f hf => by simp at hf⟩
  case round =>
    obtain ⟨rfl, j, rfl, hj, hno⟩ := hrel
    have HNO := Lib.hid hno
    clear hno
    by_cases hlt : j < d.fs.length
    · have hz1 : j < zs.length := by rw [HZL.out]; exact hlt
      obtain ⟨ad, rfl, h0, hk⟩ := Rd.elem (f := encFl) (fun _ => rfl) hr (by decide) j hz1
      have c0 := h0 _ rfl
      have c1 := hk 1 _ (by decide) (by decide) rfl
      obtain ⟨VB, vbc, hvb⟩ := HEN.out j hz1
      have hn1 := HGT.out j hlt hz1
      rw [hvb] at c1
      rw [hn1] at c0 c1
      have hps : d.fs[j].n = n → hasF d.fs n = true := fun e => hasF_pos hlt e
      obtain ⟨f, hf⟩ : ∃ f, f = d.fs[j] := ⟨_, rfl⟩
      have htk : d.fs.take (j + 1) = d.fs.take j ++ [f] := by rw [hf]; exact List.take_succ_eq_append_getElem hlt
      rw [← hf] at c0 c1 hps
      have HTK := Lib.hid htk
      clear h0 hk hn1 hf htk hz1 hvb
      by_cases he : f.n = n
      · have b1 : (f.n.toList == n.toList) = true := by rw [beq_toList]; exact decide_eq_true he
        have hp := hps he
        have HP := Lib.hid hp
        clear he hp hps
        go_wp2_with fail
        go_ret
        exact ⟨_, rfl, by rw [HP.out]; simp, rfl⟩
      · have b1 : (f.n.toList == n.toList) = false := by rw [beq_toList]; exact decide_eq_false he
        have HE := Lib.hid he
        clear he hps
        go_wp2_with fail
        go_roundw
        case rel =>
          refine ⟨trivial, j + 1, by go_num, by omega, fun x hx => ?_⟩
          rw [HTK.out] at hx
          rcases List.mem_append.1 hx with hx | hx
          · exact HNO.out x hx
          · rw [List.mem_singleton] at hx; rw [hx]; exact HE.out
        case measure => simp [intOf]; omega
    · have hp : hasF d.fs n = false := by
        have hno := HNO.out
        rw [List.take_of_length_le (by omega)] at hno
        exact hasF_none hno
      have HP := Lib.hid hp
      clear hp
      go_wp2_with fail
      go_ret
      exact ⟨_, rfl, by rw [HP.out]; rfl, rfl⟩

section
variable {G : Nat → Prop} {w0 w : World} {p q : Nat} {d r : Dk}
theorem Two.rsize (h : Two G w0 w p q d r) (n : ByteArray) (hf : FitsR r) :
    Calls Tryz.prog 101 #[.pointer (some ⟨q, 0, none⟩), .string n] w fun e w' => ∃ z : Int, e = .returned (.int .i64 z) ∧ (decide (0 ≤ z) = hasF r.fs n) ∧ w' = w := by
  obtain ⟨R, h1, ⟨row, FA, KA, zs, h2, hS⟩, hG, h3⟩ := h
  exact rsize_calls _ w q r row FA KA zs h2 n (Nat.le_trans hf.l (by decide))
theorem Two.rappendG (h : Two G w0 w p q d r) (n : ByteArray) (b : List UInt8) (B : Option Addr) (bc : Nat) (hb : Rd w 1 B b.length (encB b)) (hB : 0 < b.length → ∀ ad, B = some ad → ad.block < w0.heap.size ∨ G ad.block) (hf : FitsR r) (hu : usedF r.fs + b.length ≤ 70368744177664) (hcap : r.p.cap ≤ 9223372036854775807) :
    Calls Tryz.prog 103 #[.pointer (some ⟨q, 0, none⟩), .string n, .slice B b.length bc] w fun e w' => e = .returned (.int .i64 ((appendD r n b).2 : Nat)) ∧ TwoTo G w0 w w' p q d (appendD r n b).1 := by
  obtain ⟨R, h1, h2, hG, h3⟩ := h
  refine (rappend_calls _ w q r R n b B bc h2 (hf.room h3) hb (fun hp ad hA hR => ?_) hu hcap).mono ?_
  · rcases hB hp ad hA with hq | hq
    · have := h2.new hR; omega
    · exact hG _ hR hq
  rintro e w1 ⟨rfl, hs⟩
  exact ⟨rfl, Two.ofR h1 (fun k hk => h2.new hk) hG h3 hs⟩
/-- Pairs that are told, and an error. -/
def PrsE (x : List Pr × Nat) (G : Nat → Prop) (w0 w : World) (p q : Nat) (d r : Dk) (e : Ending) (w' : World) : Prop :=
  ∃ A c, e = .returned (.tuple #[.slice A x.1.length c, .int .i64 (x.2 : Nat)]) ∧ Rd w' 2 A x.1.length (encPs x.1) ∧ Two G w0 w' p q d r ∧ Mod NoneB w w' ∧ ∀ k, (Value.slice A x.1.length c).ownBlock = some k → w.heap.size ≤ k ∧ k < w'.heap.size
end

set_option maxHeartbeats 4000000 in
set_option maxRecDepth 100000 in
theorem Two.rload {G : Nat → Prop} {w0 w : World} {p q : Nat} {d r : Dk} (h : Two G w0 w p q d r) (hf : FitsR r) (hu : usedF r.fs ≤ 1099511627776) :
    Calls Tryz.prog 55 #[.pointer (some ⟨q, 0, none⟩)] w (PrsE (loadR r) G w0 w p q d r) := by
  have hle := readD_le r sSnap
  have herr := readD_err r sSnap
  have hR : ∃ R, R = readD r sSnap := ⟨_, rfl⟩
  go_enter Tryz.func55, Tryz.ntmps55
  go_wp2_with fail
  refine (h.rread sSnap hf).mono ?_
  rintro e w1 ⟨v, rfl, hov, hD, hm⟩
  obtain ⟨R, hR⟩ := hR
  have hl : loadR r = if R.2 = 3 then ([], 0) else if R.2 = 0 then ((fromT R.1).getD [], errP (fromT R.1)) else ([], R.2) := by rw [hR]; rfl
  rw [← hR] at hov hle herr ⊢
  have HL := Lib.hid hl
  obtain ⟨b, e⟩ := R
  simp only at hov hle herr HL
  clear hl hR
  obtain ⟨A, c, rfl, hbc, _, hrb⟩ := hov.out
  clear hov
  rcases herr with rfl | rfl | rfl
  · go_wp2_with fail
    refine (rfromTable_calls b A c w1 hrb (by omega) hbc).mono ?_
    rintro ez w2 ⟨v2, rfl, ho2, hm2, hn2⟩
    have hl2 : loadR r = ((fromT b).getD [], errP (fromT b)) := by rw [HL.out]; simp
    have HL2 := Lib.hid hl2
    have HO2 := Lib.hid ho2
    have HN2 := Lib.hid hn2
    obtain ⟨A2, c2, rfl, _⟩ := ho2.nilD0
    obtain ⟨x, hq⟩ : ∃ q, q = (fromT b).getD [] := ⟨_, rfl⟩
    obtain ⟨ee, hee⟩ : ∃ q, q = errP (fromT b) := ⟨_, rfl⟩
    rw [← hq] at HO2 HN2 HL2 ⊢
    rw [← hee] at HL2 ⊢
    clear hl2 ho2 hn2 hq hee HL
    go_wp2_with fail
    go_ret2
    rw [HL2.out]
    obtain ⟨A3, c3, e3, hr3⟩ := HO2.out.nilD0
    have e4 : A2 = A3 := by injection e3
    exact ⟨A2, c2, rfl, by rw [e4]; exact hr3, hD.mod0 hm2, hm.then0 hm2, fun k hk => ⟨Nat.le_trans hm.size (HN2.out k hk), HO2.out.lt hk⟩⟩
  · go_wp2_with fail
    go_ret2
    have hl2 : loadR r = ([], 0) := by rw [HL.out]; simp
    rw [hl2]
    exact ⟨none, 0, rfl, Rd.nil _ _ _, hD, hm, fun k h => by simp [Value.ownBlock] at h⟩
  · go_wp2_with fail
    go_ret2
    have hl2 : loadR r = ([], 7) := by rw [HL.out]; simp
    rw [hl2]
    exact ⟨none, 0, rfl, Rd.nil _ _ _, hD, hm, fun k h => by simp [Value.ownBlock] at h⟩
end Go.Proofs.YtnlmfmceogbomaaGreatDoor

/- The reference's Save beside the disk. -/
namespace Go.Proofs.YtnlmfmceogbomaaGreatDoor
open Go.RowKit
set_option linter.unusedVariables false

/-- A reference's disk that may be saved to, and what is saved. -/
structure RoomT (d : Dk) (b : List UInt8) (j : Nat) : Prop where
  c : d.c ≤ 1099511627776 + j
  l : d.fs.length ≤ 900000 + j
  u : usedF d.fs ≤ 549755813888 + b.length * j
  b : b.length ≤ 1048584
  cap : d.p.cap ≤ 9223372036854775807
theorem stepS_cap (b : List UInt8) (j : Nat) (d : Dk) : (stepS b j d).1.p = d.p := by
  unfold stepS
  split
  · unfold clearD
    split
    · exact with_cap _ _ fun e i he => he
    · rfl
  · refine gate_cap fun c dn => ?_
    unfold createF
    split
    · rfl
    · split <;> rfl
  · refine with_cap _ _ fun e i he => ?_
    unfold appendF; split <;> exact he
  · exact with_cap _ _ fun e i he => he
  · refine with_cap _ _ fun e i he => ?_
    unfold renameF
    split
    · exact he
    · split <;> exact he
theorem RoomT.fits {d : Dk} {b : List UInt8} {j : Nat} (h : RoomT d b j) (hj : j ≤ 5) : FitsR d ∧ usedF d.fs + b.length ≤ 70368744177664 := by
  have h1 : b.length * j ≤ 1048584 * 5 := Nat.mul_le_mul h.b hj
  have h2 := h.c
  have h3 := h.l
  have h4 := h.u
  have h5 := h.b
  exact ⟨⟨by omega, by omega, by omega⟩, by omega⟩
theorem RoomT.step {d : Dk} {b : List UInt8} {j : Nat} (h : RoomT d b j) : RoomT (stepS b j d).1 b (j + 1) := by
  have g := stepS_grow b j d
  have g1 := g.c
  have g2 := g.l
  have g3 := g.u
  have h2 := h.c
  have h3 := h.l
  have h4 := h.u
  exact ⟨by omega, by omega, by rw [Nat.mul_add]; omega, h.b, by rw [stepS_cap]; exact h.cap⟩

set_option maxHeartbeats 8000000 in
set_option maxRecDepth 100000 in
theorem Two.rsave {G : Nat → Prop} {w0 w : World} {p q : Nat} {d r : Dk} (h : Two G w0 w p q d r) (l : List Pr) (A : Option Addr) (c : Nat) (hr : Rd w 2 A l.length (encPs l)) (hs : SmallP l) (hroom : RoomT r (tableR l).1 0) :
    Calls Tryz.prog 57 #[.pointer (some ⟨q, 0, none⟩), .slice A l.length c] w fun e w' => e = .returned (.int .i64 ((saveR r l).2 : Nat)) ∧ TwoTo G w0 w w' p q d (saveR r l).1 := by
  go_enter Tryz.func57, Tryz.ntmps57
  go_wp2_with fail
  refine (rtable_calls l A c w hr hs).mono ?_
  rintro e w1 ⟨v, rfl, hov, hm, hnv⟩
  obtain ⟨R, hR⟩ : ∃ R, R = tableR l := ⟨_, rfl⟩
  rw [← hR] at hov hroom ⊢
  have hsr : saveR r l = if R.2 = 0 then saveD r R.1 else (r, R.2) := by rw [hR]; rfl
  have HSR := Lib.hid hsr
  obtain ⟨b, er⟩ := R
  simp only at hov hroom HSR
  clear hsr hR
  obtain ⟨B, bc, rfl, hrb⟩ := hov.nilD0
  have hlt := fun k hk => hov.lt (g := k) hk
  by_cases he : er = 0
  · subst he
    have hsv : saveR r l = restS b 5 0 r := by rw [HSR.out]; simp [saveD]
    have HSV := Lib.hid hsv
    have hk1 : Two (fun k => G k ∨ (Value.slice B b.length bc).ownBlock = some k) w0 w1 p q d r := by
      have h0 := h
      refine h.keep hm (fun k hk => ⟨hk.imp id (fun h => hnv k h), hk.elim (fun h1 => ?_) (fun h => hlt k h)⟩)
      obtain ⟨R, h2, _⟩ := h0
      exact Nat.lt_of_lt_of_le (h2.lt0 k (.inr (.inl h1))) hm.size
    obtain ⟨G', hG'⟩ : ∃ G', G' = (fun k => G k ∨ (Value.slice B b.length bc).ownBlock = some k) := ⟨_, rfl⟩
    have hBG : 0 < b.length → ∀ ad, B = some ad → ad.block < w0.heap.size ∨ G' ad.block := fun _ ad e => .inr (by rw [hG', e]; exact .inr rfl)
    have hend : ∀ w2 d' r', TwoTo G' w0 w1 w2 p q d' r' → TwoTo G w0 w w2 p q d' r' := fun w2 d' r' h2 =>
      ⟨h2.two.drop (fun k hk => by rw [hG']; exact .inl hk), (hm.mono (fun _ _ h => h.elim)).trans h2.mod (fun k _ hk => ⟨hk.1, fun hg => hk.2 (by rw [hG']; exact .inl hg)⟩)⟩
    have hrd : ∀ w2, Mod (Free G' w0) w1 w2 → Rd w2 1 B b.length (encB b) := fun w2 hm2 => hrb.modP hm2 (fun hp ad e hh => hh.2 (by rw [hG', e]; exact .inr rfl))
    rw [← hG'] at hk1
    have r0 := hroom
    have r1 := r0.step
    have r2 := r1.step
    have r3 := r2.step
    have r4 := r3.step
    have f0 := r0.fits (by omega)
    have HR1 := Lib.hid (r1.fits (by omega))
    have HR2 := Lib.hid (r2.fits (by omega))
    have HR3 := Lib.hid (r3.fits (by omega))
    have HR4 := Lib.hid (r4.fits (by omega))
    have HC2 := Lib.hid r2.cap
    have HEND := Lib.hid hend
    have HRD := Lib.hid hrd
    have HBG := Lib.hid hBG
    have HK1 := Lib.hid hk1
    have hmm : Mod (Free G' w0) w1 w1 := Mod.refl _ _
    have hsz : Calls Tryz.prog 101 #[.pointer (some ⟨q, 0, none⟩), .string ⟨#[116, 109, 112]⟩] w1 fun e w' => ∃ z : Int, e = .returned (.int .i64 z) ∧ (decide (0 ≤ z) = hasF r.fs sTmp) ∧ w' = w1 := hk1.rsize sTmp f0.1
    have HSZ := Lib.hid hsz
    clear hsz
    clear hsv HSR hov hrb hlt hnv hG' hend hrd hBG r0 r1 r2 r3 r4 hroom h hr hm
    go_upto_if 17 with ((with_reducible refine HSZ.out.mono ?_); rintro ez w1 ⟨z, rfl, hz, hwz⟩; subst hwz)
    go_cut [6] (fun s wx => s = .int .i64 ((stepS b 0 r).2 : Nat) ∧ TwoTo G' w0 w1 wx p q d (stepS b 0 r).1)
    case first =>
      cases hh : hasF r.fs sTmp with
      | true =>
        rw [hh] at hz
        have hz0 : 0 ≤ z := of_decide_eq_true hz
        have e0 : stepS b 0 r = removeD r sTmp := if_pos hh
        have HE0 := Lib.hid e0
        clear hz hh e0
        go_wp2_with fail
        refine (HK1.out.rremove sTmp f0.1).mono ?_
        rintro ez w2 ⟨rfl, h2⟩
        go_wp2_with fail
        go_meet
        case rel => rw [HE0.out]; exact ⟨rfl, h2⟩
      | false =>
        rw [hh] at hz
        have hz0 : ¬ 0 ≤ z := of_decide_eq_false hz
        have e0 : stepS b 0 r = (r, 0) := if_neg (by rw [hh]; simp)
        have HE0 := Lib.hid e0
        clear hz hh e0
        go_wp2_with fail
        go_meet
        case rel => rw [HE0.out]; exact ⟨rfl, HK1.out, hmm⟩
    case rest =>
      obtain ⟨rfl, h0⟩ := hcut
      by_cases e0 : (stepS b 0 r).2 = 0
      · have q0 := restS_ok (k := 4) e0
        rw [e0]
        have HQ0 := Lib.hid q0
        clear e0 q0
        obtain ⟨D1, hD1⟩ : ∃ D, D = (stepS b 0 r).1 := ⟨_, rfl⟩
        rw [← hD1] at h0 HQ0 HR1 HR2 HR3 HR4 HC2
        clear hD1
        go_wp2_with fail
        refine (h0.two.rcreate sTmp HR1.out.1).mono ?_
        rintro ez w2 ⟨rfl, h1⟩
        have h1 := h0.go h1
        by_cases e1 : (stepS b 1 D1).2 = 0
        · have q1 := restS_ok (k := 3) e1
          replace e1 : (createD D1 sTmp).2 = 0 := e1
          rw [e1]
          have HQ1 := Lib.hid q1
          clear e1 q1 h0
          obtain ⟨D2, hD2⟩ : ∃ D, D = (createD D1 sTmp).1 := ⟨_, rfl⟩
          have hD2' : (stepS b 1 D1).1 = D2 := hD2.symm
          rw [← hD2] at h1
          rw [hD2'] at HQ1 HR2 HR3 HR4 HC2
          clear hD2 hD2'
          go_wp2_with fail
          refine (h1.two.rappendG sTmp b B bc (HRD.out _ h1.mod) HBG.out HR2.out.1 HR2.out.2 HC2.out).mono ?_
          rintro ez w3 ⟨rfl, h2⟩
          have h2 := h1.go h2
          by_cases e2 : (stepS b 2 D2).2 = 0
          · have q2 := restS_ok (k := 2) e2
            replace e2 : (appendD D2 sTmp b).2 = 0 := e2
            rw [e2]
            have HQ2 := Lib.hid q2
            clear e2 q2 h1
            obtain ⟨D3, hD3⟩ : ∃ D, D = (appendD D2 sTmp b).1 := ⟨_, rfl⟩
            have hD3' : (stepS b 2 D2).1 = D3 := hD3.symm
            rw [← hD3] at h2
            rw [hD3'] at HQ2 HR3 HR4
            clear hD3 hD3'
            go_wp2_with fail
            refine (h2.two.rsync sTmp HR3.out.1).mono ?_
            rintro ez w4 ⟨rfl, h3⟩
            have h3 := h2.go h3
            by_cases e3 : (stepS b 3 D3).2 = 0
            · have q3 := restS_ok (k := 1) e3
              replace e3 : (syncD D3 sTmp).2 = 0 := e3
              rw [e3]
              have HQ3 := Lib.hid q3
              clear e3 q3 h2
              obtain ⟨D4, hD4⟩ : ∃ D, D = (syncD D3 sTmp).1 := ⟨_, rfl⟩
              have hD4' : (stepS b 3 D3).1 = D4 := hD4.symm
              rw [← hD4] at h3
              rw [hD4'] at HQ3 HR4
              clear hD4 hD4'
              go_wp2_with fail
              refine (h3.two.rrename sTmp sSnap HR4.out.1).mono ?_
              rintro ez w5 ⟨rfl, h4⟩
              have h4 := h3.go h4
              have hl : restS b 1 4 D4 = renameD D4 sTmp sSnap := by
                by_cases e4 : (stepS b 4 D4).2 = 0
                · rw [restS_ok e4]
                  exact Prod.ext rfl e4.symm
                · rw [restS_no e4]; rfl
              have HL := Lib.hid hl
              have H4 := Lib.hid h4
              clear hl h4 h3
              go_wp2_with fail
              go_ret
              rw [HSV.out, HQ0.out, HQ1.out, HQ2.out, HQ3.out, HL.out]
              exact ⟨rfl, HEND.out _ _ _ H4.out⟩
            · have q3 := restS_no (k := 1) e3
              have b3 : ((((syncD D3 sTmp).2 : Nat) : Int) == 0) = false := by have e3' : (syncD D3 sTmp).2 ≠ 0 := e3; simp; omega
              have HQ3 := Lib.hid q3
              have H3 := Lib.hid h3
              clear e3 q3 h3 h2
              go_wp2_with fail
              go_ret
              rw [HSV.out, HQ0.out, HQ1.out, HQ2.out, HQ3.out]
              exact ⟨rfl, HEND.out _ _ _ H3.out⟩
          · have q2 := restS_no (k := 2) e2
            have b2 : ((((appendD D2 sTmp b).2 : Nat) : Int) == 0) = false := by have e2' : (appendD D2 sTmp b).2 ≠ 0 := e2; simp; omega
            have HQ2 := Lib.hid q2
            have H2 := Lib.hid h2
            clear e2 q2 h2 h1
            go_wp2_with fail
            go_ret
            rw [HSV.out, HQ0.out, HQ1.out, HQ2.out]
            exact ⟨rfl, HEND.out _ _ _ H2.out⟩
        · have q1 := restS_no (k := 3) e1
          have b1 : ((((createD D1 sTmp).2 : Nat) : Int) == 0) = false := by have e1' : (createD D1 sTmp).2 ≠ 0 := e1; simp; omega
          have HQ1 := Lib.hid q1
          have H1 := Lib.hid h1
          clear e1 q1 h1 h0
          go_wp2_with fail
          go_ret
          rw [HSV.out, HQ0.out, HQ1.out]
          exact ⟨rfl, HEND.out _ _ _ H1.out⟩
      · have q0 := restS_no (k := 4) e0
        have b0 : ((((stepS b 0 r).2 : Nat) : Int) == 0) = false := by simp; omega
        have HQ0 := Lib.hid q0
        have H0 := Lib.hid h0
        clear e0 q0 h0
        go_wp2_with fail
        go_ret
        rw [HSV.out, HQ0.out]
        exact ⟨rfl, HEND.out _ _ _ H0.out⟩
  · have b0 : (((er : Nat) : Int) == 0) = false := by simp; omega
    have hsv : saveR r l = (r, er) := by rw [HSR.out, if_neg he]
    have HSV := Lib.hid hsv
    clear hsv HSR he hov hrb hlt hnv hroom
    go_wp2_with fail
    go_ret
    rw [HSV.out]
    exact ⟨rfl, h.mod0 hm, hm.mono (fun _ _ h => h.elim)⟩
end Go.Proofs.YtnlmfmceogbomaaGreatDoor
