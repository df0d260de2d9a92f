/- Snapshots on both disks: Load and Save of either in one line. -/
import Derived.Test.YtfbnkbdolimojaaTwo
import Derived.Test.YtfbnkbdolimojaaDoA
import Derived.Test.YtfbnkbdolimojaaSnapA
import Derived.Test.YtfbnkbdolimojaaRefT
namespace Go.Proofs.Ytfbnkbdolimojaa
open Go.RowKit
set_option linter.unusedVariables false

theorem hasF_none {fs : List Fl} {n : ByteArray} (h : ∀ f ∈ fs, f.n ≠ n) : hasF fs n = false := by
  unfold hasF
  rw [List.any_eq_false]
  intro f hf
  simpa using h f hf
set_option maxHeartbeats 2000000 in
set_option maxRecDepth 100000 in
theorem rsize_calls (N : Nat) (w : World) (p : Nat) (d : Dk) (row FA KA : Value) (zs : List (Fl × Value)) (h : RdAt N w p d row FA KA zs) (n : ByteArray) (hl : d.fs.length ≤ 1099511627776) :
    Calls Try.prog 88 #[.pointer (some ⟨p, 0, none⟩), .string n] w fun e w' => ∃ z : Int, e = .returned (.int .i64 z) ∧ (decide (0 ≤ z) = hasF d.fs n) ∧ w' = w := by
  have y5 : w.cell? ⟨p, 5, none⟩ = some row := h.cellAt 5
  obtain ⟨A, c, rfl, hr⟩ := h.fil.own.nilD0
  have hzl : zs.length = d.fs.length := h.len.symm
  have hgt : ∀ i, ∀ h1 : i < d.fs.length, ∀ h2 : i < zs.length, zs[i].1 = d.fs[i] := fun i h1 h2 => (h.get h1 h2).symm
  have hen : ∀ i, ∀ h2 : i < zs.length, ∃ B bc, zs[i].2 = .slice B zs[i].1.b.length bc := fun i h2 => by
    obtain ⟨B, bc, h3, _⟩ := (h.fil.ent zs[i] (List.getElem_mem _)).1.nilD0
    exact ⟨B, bc, h3⟩
  have HZL := Lib.hid hzl
  have HGT := Lib.hid hgt
  have HEN := Lib.hid hen
  rw [hzl] at hr y5
  clear h hzl hgt hen
  go_enter Try.func88, Try.ntmps88
  go_wp2_with fail
  go_loopw [5] (fun i wr => wr = w ∧ ∃ j : Nat, i = .int .i64 j ∧ j ≤ d.fs.length ∧ ∀ f ∈ d.fs.take j, f.n ≠ n) (fun i _ => d.fs.length - (intOf i).toNat)
  case atStart => exact ⟨rfl, 0, rfl, by omega, fun f hf => by simp at hf⟩
  case round =>
    obtain ⟨rfl, j, rfl, hj, hno⟩ := hrel
    have HNO := Lib.hid hno
    clear hno
    by_cases hlt : j < d.fs.length
    · have hz1 : j < zs.length := by rw [HZL.out]; exact hlt
      obtain ⟨ad, rfl, h0, hk⟩ := Rd.elem (f := encFl) (fun _ => rfl) hr (by decide) j hz1
      have c0 := h0 _ rfl
      have c1 := hk 1 _ (by decide) (by decide) rfl
      obtain ⟨VB, vbc, hvb⟩ := HEN.out j hz1
      have hn1 := HGT.out j hlt hz1
      rw [hvb] at c1
      rw [hn1] at c0 c1
      have hps : d.fs[j].n = n → hasF d.fs n = true := fun e => hasF_pos hlt e
      obtain ⟨f, hf⟩ : ∃ f, f = d.fs[j] := ⟨_, rfl⟩
      have htk : d.fs.take (j + 1) = d.fs.take j ++ [f] := by rw [hf]; exact List.take_succ_eq_append_getElem hlt
      rw [← hf] at c0 c1 hps
      have HTK := Lib.hid htk
      clear h0 hk hn1 hf htk hz1 hvb
      by_cases he : f.n = n
      · have b1 : (f.n.toList == n.toList) = true := by rw [beq_toList]; exact decide_eq_true he
        have hp := hps he
        have HP := Lib.hid hp
        clear he hp hps
        go_wp2_with fail
        go_ret
        exact ⟨_, rfl, by rw [HP.out]; simp, rfl⟩
      · have b1 : (f.n.toList == n.toList) = false := by rw [beq_toList]; exact decide_eq_false he
        have HE := Lib.hid he
        clear he hps
        go_wp2_with fail
        go_roundw
        case rel =>
          refine ⟨trivial, j + 1, by go_num, by omega, fun x hx => ?_⟩
          rw [HTK.out] at hx
          rcases List.mem_append.1 hx with hx | hx
          · exact HNO.out x hx
          · rw [List.mem_singleton] at hx; rw [hx]; exact HE.out
        case measure => simp [intOf]; omega
    · have hp : hasF d.fs n = false := by
        have hno := HNO.out
        rw [List.take_of_length_le (by omega)] at hno
        exact hasF_none hno
      have HP := Lib.hid hp
      clear hp
      go_wp2_with fail
      go_ret
      exact ⟨_, rfl, by rw [HP.out]; rfl, rfl⟩

section
variable {G : Nat → Prop} {w0 w : World} {p q : Nat} {d r : Dk}
theorem Two.rsize (h : Two G w0 w p q d r) (n : ByteArray) (hf : FitsR r) :
    Calls Try.prog 88 #[.pointer (some ⟨q, 0, none⟩), .string n] w fun e w' => ∃ z : Int, e = .returned (.int .i64 z) ∧ (decide (0 ≤ z) = hasF r.fs n) ∧ w' = w := by
  obtain ⟨R, h1, ⟨row, FA, KA, zs, h2, hS⟩, hG, h3⟩ := h
  exact rsize_calls _ w q r row FA KA zs h2 n (Nat.le_trans hf.l (by decide))
theorem Two.rappendG (h : Two G w0 w p q d r) (n : ByteArray) (b : List UInt8) (B : Option Addr) (bc : Nat) (hb : Rd w 1 B b.length (encB b)) (hB : 0 < b.length → ∀ ad, B = some ad → ad.block < w0.heap.size ∨ G ad.block) (hf : FitsR r) (hu : usedF r.fs + b.length ≤ 70368744177664) (hcap : r.p.cap ≤ 9223372036854775807) :
    Calls Try.prog 55 #[.pointer (some ⟨q, 0, none⟩), .string n, .slice B b.length bc] w fun e w' => e = .returned (.int .i64 ((appendD r n b).2 : Nat)) ∧ TwoTo G w0 w w' p q d (appendD r n b).1 := by
  obtain ⟨R, h1, h2, hG, h3⟩ := h
  refine (rappend_calls _ w q r R n b B bc h2 (hf.room h3) hb (fun hp ad hA hR => ?_) hu hcap).mono ?_
  · rcases hB hp ad hA with hq | hq
    · have := h2.new hR; omega
    · exact hG _ hR hq
  rintro e w1 ⟨rfl, hs⟩
  exact ⟨rfl, Two.ofR h1 (fun k hk => h2.new hk) hG h3 hs⟩
theorem Two.save (h : Two G w0 w p q d r) (l : List Pr) (A : Option Addr) (c : Nat) (hr : Rd w 2 A l.length (encPs l)) (hs : SmallP l) (hroom : RoomS d (tableR l).1 0) :
    Calls Try.prog 43 #[.pointer (some ⟨p, 0, none⟩), .slice A l.length c] w fun e w' => e = .returned (.int .i64 ((saveR d l).2 : Nat)) ∧ TwoTo G w0 w w' p q (saveR d l).1 r := by
  obtain ⟨R, h1, h2, hG, h3⟩ := h
  refine (save_calls h1 l A c hr hs hroom).mono ?_
  rintro e w1 ⟨rfl, hs⟩
  exact ⟨rfl, Two.ofD h2 hG h3 hs⟩
/-- Pairs that are told, and an error. -/
def PrsE (x : List Pr × Nat) (G : Nat → Prop) (w0 w : World) (p q : Nat) (d r : Dk) (e : Ending) (w' : World) : Prop :=
  ∃ A c, e = .returned (.tuple #[.slice A x.1.length c, .int .i64 (x.2 : Nat)]) ∧ Rd w' 2 A x.1.length (encPs x.1) ∧ Two G w0 w' p q d r ∧ Mod NoneB w w' ∧ ∀ k, (Value.slice A x.1.length c).ownBlock = some k → w.heap.size ≤ k ∧ k < w'.heap.size
theorem Two.load (h : Two G w0 w p q d r) (hf : FitsR d) (hu : usedF d.fs ≤ 1099511627776) :
    Calls Try.prog 45 #[.pointer (some ⟨p, 0, none⟩)] w (PrsE (loadR d) G w0 w p q d r) := by
  have h0 := h
  obtain ⟨R, h1, h2, hG, h3⟩ := h
  refine (load_calls h1 hf.d hu).mono ?_
  rintro e w1 ⟨v, rfl, ho, hx, hm, hn⟩
  obtain ⟨A, c, rfl, hr⟩ := ho.nilD0
  exact ⟨A, c, rfl, hr, h0.mod0 hm, hm, fun k hk => ⟨hn k hk, ho.lt hk⟩⟩
end

set_option maxHeartbeats 4000000 in
set_option maxRecDepth 100000 in
theorem Two.rload {G : Nat → Prop} {w0 w : World} {p q : Nat} {d r : Dk} (h : Two G w0 w p q d r) (hf : FitsR r) (hu : usedF r.fs ≤ 1099511627776) :
    Calls Try.prog 48 #[.pointer (some ⟨q, 0, none⟩)] w (PrsE (loadR r) G w0 w p q d r) := by
  have hle := readD_le r sSnap
  have herr := readD_err r sSnap
  have hR : ∃ R, R = readD r sSnap := ⟨_, rfl⟩
  go_enter Try.func48, Try.ntmps48
  go_wp2_with fail
  refine (h.rread sSnap hf).mono ?_
  rintro e w1 ⟨v, rfl, hov, hD, hm⟩
  obtain ⟨R, hR⟩ := hR
  have hl : loadR r = if R.2 = 3 then ([], 0) else if R.2 = 0 then ((fromT R.1).getD [], errP (fromT R.1)) else ([], R.2) := by rw [hR]; rfl
  rw [← hR] at hov hle herr ⊢
  have HL := Lib.hid hl
  obtain ⟨b, e⟩ := R
  simp only at hov hle herr HL
  clear hl hR
  obtain ⟨A, c, rfl, hbc, _, hrb⟩ := hov.out
  clear hov
  rcases herr with rfl | rfl | rfl
  · go_wp2_with fail
    refine (rfromTable_calls b A c w1 hrb (by omega) hbc).mono ?_
    rintro ez w2 ⟨v2, rfl, ho2, hm2, hn2⟩
    have hl2 : loadR r = ((fromT b).getD [], errP (fromT b)) := by rw [HL.out]; simp
    have HL2 := Lib.hid hl2
    have HO2 := Lib.hid ho2
    have HN2 := Lib.hid hn2
    obtain ⟨A2, c2, rfl, _⟩ := ho2.nilD0
    obtain ⟨x, hq⟩ : ∃ q, q = (fromT b).getD [] := ⟨_, rfl⟩
    obtain ⟨ee, hee⟩ : ∃ q, q = errP (fromT b) := ⟨_, rfl⟩
    rw [← hq] at HO2 HN2 HL2 ⊢
    rw [← hee] at HL2 ⊢
    clear hl2 ho2 hn2 hq hee HL
    go_wp2_with fail
    go_ret2
    rw [HL2.out]
    obtain ⟨A3, c3, e3, hr3⟩ := HO2.out.nilD0
    have e4 : A2 = A3 := by injection e3
    exact ⟨A2, c2, rfl, by rw [e4]; exact hr3, hD.mod0 hm2, hm.then0 hm2, fun k hk => ⟨Nat.le_trans hm.size (HN2.out k hk), HO2.out.lt hk⟩⟩
  · go_wp2_with fail
    go_ret2
    have hl2 : loadR r = ([], 0) := by rw [HL.out]; simp
    rw [hl2]
    exact ⟨none, 0, rfl, Rd.nil _ _ _, hD, hm, fun k h => by simp [Value.ownBlock] at h⟩
  · go_wp2_with fail
    go_ret2
    have hl2 : loadR r = ([], 7) := by rw [HL.out]; simp
    rw [hl2]
    exact ⟨none, 0, rfl, Rd.nil _ _ _, hD, hm, fun k h => by simp [Value.ownBlock] at h⟩
end Go.Proofs.Ytfbnkbdolimojaa
