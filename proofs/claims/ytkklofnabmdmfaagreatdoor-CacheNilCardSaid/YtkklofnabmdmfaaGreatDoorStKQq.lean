/- The store in the world: how it lies, and what Get, All, Sick, Check and Commit do. -/
import Derived.StillTailTactics
import Derived.Deep.RegionHeld3
import Derived.Deep.CutBlock
import Derived.Deep.DeepCutAuto
import Derived.Test.YtkklofnabmdmfaaGreatDoorStPlQq
import Derived.Test.YtkklofnabmdmfaaGreatDoorIxRQq
namespace Go.Proofs.YtkklofnabmdmfaaGreatDoor
open Go.RowKit
set_option linter.unusedVariables false

def sblk (p q g : Nat) (m : Int) : Obj := .cells #[.pointer (some ⟨p, 0, none⟩), .pointer (some ⟨q, 0, none⟩), .pointer (some ⟨g, 0, none⟩), .int .i64 m] 85
/-- The map's side of a store: its own block, and its index. -/
structure StM (w0 w : World) (p q g s : Nat) (most : Int) (x : Ix) (r : List Pr) (X : Nat → Prop) : Prop where
  blk : w.heap[s]? = some (sblk p q g most)
  idx : IsX w g x X
  twin : Twin x r
  s0 : w0.heap.size ≤ s
  X0 : ∀ k, X k → w0.heap.size ≤ k
  sX : ¬ X s
section
variable {w0 w w1 : World} {p q g s : Nat} {most : Int} {x : Ix} {r : List Pr} {S X T : Nat → Prop}
end

def LdE (w : World) (r : List Pr × Nat) (e : Ending) (w' : World) : Prop := ∃ v, e = .returned (.tuple #[v, .int .i64 r.2]) ∧ Own w' 88 2 v r.1.length (encPs r.1) ∧ Mod NoneB w w' ∧ (∀ g, v.ownBlock = some g → w.heap.size ≤ g)
theorem load_step (w : World) (p : Nat) (d : Dk) (S : Nat → Prop) (hd : IsD w p d S) (hf : Fits d) (hu : usedF d.fs ≤ 1099511627776) : Calls Tryz.prog 30 #[.pointer (some ⟨p, 0, none⟩)] w (LdE w (loadR d)) := by
  have hx : Dx (fun k => k < w.heap.size ∧ ¬ S k) w w p d := ⟨S, hd, Mod.refl _ _, fun k hk hh => hh.2 hk, fun k hk => hk.1⟩
  refine (load_calls hx hf hu).mono ?_
  rintro e w' ⟨v, he, h1, _, h2, h3⟩
  exact ⟨v, he, h1, h2, h3⟩

/-- A store that is open, on its disk; all newer than w0. -/
structure StAt (w0 w : World) (p q g s : Nat) (most : Int) (t : St) (x : Ix) (S X : Nat → Prop) : Prop where
  lw : Lw w0 w p t.d S
  wal : w.heap[q]? = some (wblk p t.n t.sk)
  mp : StM w0 w p q g s most x t.r X
  q0 : w0.heap.size ≤ q
  qS : ¬ S q
  qX : ¬ X q
  sS : ¬ S s
  qs : q ≠ s
  SX : ∀ k, S k → ¬ X k
section
variable {w0 w w1 : World} {p q g s : Nat} {most : Int} {x : Ix} {t : St} {S X : Nat → Prop}
end
end Go.Proofs.YtkklofnabmdmfaaGreatDoor

/- The store: Check, Commit. -/
namespace Go.Proofs.YtkklofnabmdmfaaGreatDoor
open Go.RowKit
set_option linter.unusedVariables false

end Go.Proofs.YtkklofnabmdmfaaGreatDoor

/- The store: Commit. -/
namespace Go.Proofs.YtkklofnabmdmfaaGreatDoor
open Go.RowKit
set_option linter.unusedVariables false

section
variable {w0 w w1 : World} {p q g s : Nat} {most : Int} {x x' : Ix} {t : St} {r' : List Pr} {S X X' S1 X1 : Nat → Prop}
end
theorem len_apply {r : List Pr} (h : Rises r) (l : List Op3) : (applyT r l).length ≤ r.length + l.length := by
  rw [applyT_rises h]
  clear h
  induction l generalizing r with
  | nil => simp
  | cons o l ih =>
    have h1 := ih (r := stepT r o)
    have h2 := stepT_length_le r o
    rw [List.foldl_cons, List.length_cons]
    omega

end Go.Proofs.YtkklofnabmdmfaaGreatDoor

/- The store: Open. -/
namespace Go.Proofs.YtkklofnabmdmfaaGreatDoor
open Go.RowKit
set_option linter.unusedVariables false

theorem putT_end (k v : ByteArray) : ∀ (m : List Pr), (∀ p ∈ m, cmpS p.k k < 0) → putT m k v = m ++ [⟨k, v⟩]
  | [], _ => rfl
  | p :: m, h => by rw [putT_cons, if_pos (h p (List.mem_cons_self ..)), putT_end k v m (fun q hq => h q (List.mem_cons_of_mem _ hq))]; rfl
theorem put_take {r : List Pr} (h : Rises r) (j : Nat) (hj : j < r.length) : putT (r.take j) r[j].k r[j].v = r.take (j + 1) := by
  rw [List.take_succ_eq_append_getElem hj]
  refine putT_end _ _ _ fun p hp => ?_
  obtain ⟨i, hi, rfl⟩ := List.getElem_of_mem hp
  rw [List.length_take] at hi
  rw [List.getElem_take]
  exact List.pairwise_iff_getElem.1 h i j (by omega) hj (by omega)
/-- Behind Open. -/
def SoE (w0 w : World) (p : Nat) (most : Int) (d : Dk) (S : Nat → Prop) (e : Ending) (w' : World) : Prop :=
  ∃ S', Lw w0 w' p (openK d) S' ∧ Mod S w w' ∧ (∀ j, S' j → S j ∨ w.heap.size ≤ j) ∧
    ((openE d = 0 ∧ ∃ q g s x X, e = .returned (.tuple #[.pointer (some ⟨s, 0, none⟩), .int .i64 0]) ∧ StAt w0 w' p q g s (max most 0) (openS d) x S' X ∧ w.heap.size ≤ q ∧ w.heap.size ≤ s ∧ ∀ j, X j → w.heap.size ≤ j) ∨
     (openE d ≠ 0 ∧ e = .returned (.tuple #[.pointer none, .int .i64 (openE d)])))

set_option maxHeartbeats 8000000 in
set_option maxRecDepth 100000 in
theorem sopen_calls {w0 w : World} {p : Nat} {d : Dk} {S : Nat → Prop} (h : Lw w0 w p d S) (ht : TabW w0) (hf : FitL d) (most : Int)
    (hok : openE d = 0 → SmallP (openS d).r ∧ Rises (loadR d).1 ∧ (loadR d).1.length + (logL d).flatten.length ≤ 1000000000) :
    Calls Tryz.prog 17 #[.pointer (some ⟨p, 0, none⟩), .int .i64 most] w (SoE w0 w p most d S) := by
  have hfc := hf.c
  have hfl := hf.l
  have hfu := hf.u
  have hld := load_step w p d S h.isD ⟨by omega, by omega, by omega⟩ (by omega)
  have hT : ¬ S 3 := fun hk => by have := h.own _ hk; have := ht.lt; omega
  have hop : ∀ w1, Mod NoneB w w1 → Calls Tryz.prog 31 #[.pointer (some ⟨p, 0, none⟩)] w1 (OpenE w1 S p d) := fun w1 hm =>
    wopen_calls w1 p d S (h.isD.mod0 hm) ((ht.mod0 h.base).mod0 hm) hT (by omega) (by omega) (by omega) (by have := logB_le d; omega)
  have heE : openE d = if (loadR d).2 ≠ 0 then (loadR d).2 else (openD d).2 := rfl
  have heK : openK d = if (loadR d).2 ≠ 0 then d else (openD d).1 := rfl
  have heR : (openS d).r = (logL d).foldl applyT (loadR d).1 := rfl
  obtain ⟨ld, hldE⟩ : ∃ ld, ld = loadR d := ⟨_, rfl⟩
  rw [← hldE] at hld heE heK heR hok
  have HLD := Lib.hid hld
  have HOP := Lib.hid hop
  have HEE := Lib.hid heE
  have HEK := Lib.hid heK
  have HER := Lib.hid heR
  have HOK := Lib.hid hok
  have H := Lib.hid h
  clear hld hop heE heK heR hok h ht hf hfc hfl hfu hldE
  obtain ⟨base, le⟩ := ld
  simp only at HEE HEK HER HOK
  go_enter Tryz.func17, Tryz.ntmps17
  go_wp2_with fail
  refine HLD.out.mono ?_
  rintro e w1 ⟨v, rfl, hov, hm1, hn1⟩
  simp only at hov
  by_cases hle : le = 0
  case neg =>
    have e1 : openE d = le := by rw [HEE.out, if_pos hle]
    have e2 : openK d = d := by rw [HEK.out, if_pos hle]
    have hfin : SoE w0 w p most d S (.returned (.tuple #[.pointer none, .int .i64 le])) w1 := ⟨S, by rw [e2]; exact H.out.mod0 hm1, hm1.mono (fun _ _ h => h.elim), fun j hj => .inl hj, .inr ⟨by rw [e1]; exact hle, by rw [e1]⟩⟩
    have HFIN := Lib.hid hfin
    have q0 : (((le : Nat) : Int) != 0) = true := bne_iff_ne.mpr (by omega)
    have q0' : (((le : Nat) : Int) == 0) = false := beq_eq_false_iff_ne.mpr (by omega)
    clear hfin e1 e2 hov hm1 hn1
    go_wp2_with fail
    go_ret2
    exact HFIN.out
  subst hle
  have e1 : openE d = (openD d).2 := by rw [HEE.out, if_neg (by simp)]
  have e2 : openK d = (openD d).1 := by rw [HEK.out, if_neg (by simp)]
  have HE1 := Lib.hid e1
  have HE2 := Lib.hid e2
  clear HEE HEK e1 e2
  have hop := HOP.out w1 hm1
  have HOP1 := Lib.hid hop
  clear hop HOP
  go_wp2_with fail
  refine HOP1.out.mono ?_
  rintro e w2 ⟨S', hd2, hm2, hn2, ⟨ho, q, vl, vs, rfl, hq0, hqS, hqb, hbat, hvS, huS⟩ | ⟨ho, rfl⟩⟩
  case inr =>
    have hlw : Lw w0 w2 p (openD d).1 S' := (H.out.mod0 hm1).to hd2 hm2 (fun k hk => .inl hk) hn2
    have hfin : SoE w0 w p most d S (.returned (.tuple #[.pointer none, .int .i64 (openD d).2])) w2 := ⟨S', by rw [HE2.out]; exact hlw, (hm1.mono (fun _ _ h => h.elim)).trans hm2 (fun _ _ h => h), fun j hj => (hn2 j hj).imp id (Nat.le_trans hm1.size), .inr ⟨by rw [HE1.out]; exact ho, by rw [HE1.out]⟩⟩
    obtain ⟨oe, hoe⟩ : ∃ oe, oe = (openD d).2 := ⟨_, rfl⟩
    rw [← hoe] at hfin ho ⊢
    have HFIN := Lib.hid hfin
    have q0 : (((oe : Nat) : Int) != 0) = true := bne_iff_ne.mpr (by omega)
    have q0' : (((oe : Nat) : Int) == 0) = false := beq_eq_false_iff_ne.mpr (by omega)
    clear hfin hlw hov hm1 hm2 hn1 hn2 hd2 hoe
    go_wp2_with fail
    go_ret2
    exact HFIN.out
  obtain ⟨hsm, hbr, hsz⟩ := HOK.out (by rw [HE1.out]; exact ho)
  rw [HER.out] at hsm
  have hris : Rises ((logL d).foldl applyT base) := by rw [fold_applyT _ hbr]; exact rises_applyT _ _
  have HBR := Lib.hid hbr
  have HO := Lib.hid ho
  -- what was loaded stays beside the log
  have hov2 : Own w2 88 2 v base.length (encPs base) := hov.mod hm2 (fun g' hg hS => by
    have h1 := hn1 g' hg
    exact H.out.isD.notS h1 hS)
  have hvlt : ∀ g', v.ownBlock = some g' → g' < w2.heap.size := fun g' hg => hov2.lt hg
  have hvN : ∀ g', v.ownBlock = some g' → w.heap.size ≤ g' := hn1
  have hlw : Lw w0 w2 p (openD d).1 S' := (H.out.mod0 hm1).to hd2 hm2 (fun k hk => .inl hk) hn2
  have hm02 : Mod S w w2 := (hm1.mono (fun _ _ h => h.elim)).trans hm2 (fun _ _ h => h)
  have hn02 : ∀ j, S' j → S j ∨ w.heap.size ≤ j := fun j hj => (hn2 j hj).imp id (Nat.le_trans hm1.size)
  have hqN : w.heap.size ≤ q := Nat.le_trans hm1.size hq0
  obtain ⟨Al, cl, rfl, hlc, _, hrl⟩ := hbat.own.out
  have hlenv := hbat.len
  have HLW := Lib.hid hlw
  have HM02 := Lib.hid hm02
  have HN02 := Lib.hid hn02
  have HQB := Lib.hid hqb
  have HBAT := Lib.hid hbat
  have HOV2 := Lib.hid hov2
  have HVLT := Lib.hid hvlt
  have HVN := Lib.hid hvN
  have HRL := Lib.hid hrl
  have HSM := Lib.hid hsm
  have HRIS := Lib.hid hris
  have HSZ := Lib.hid hsz
  have HQS := Lib.hid hqS
  clear hlw hm02 hn02 hqb hbat hov2 hov hvlt hvN hrl hsm hris hsz hqS hm1 hm2 hn1 hn2 hd2 hvS huS ho HOK hbr
  go_wp2_with fail
  refine (xnew_calls 64 w2).mono ?_
  rintro e w3 ⟨g, X0, kb, rfl, hkb0, hkb1, hX0, hm3, hN3⟩
  have ht0 : Twin (newX kb) [] := ⟨IxOk.new hkb0, rises_nil, fun key => by rw [getX_new hkb0]; rfl, by simp [newX]; omega⟩
  have hbx := box1 w3 (sblk p q g (max most 0))
  have hal : Mod NoneB w3 (w3.alloc (sblk p q g (max most 0))) := (Mod.refl NoneB w3).alloc _
  obtain ⟨s, hs⟩ : ∃ r, r = w3.heap.size := ⟨_, rfl⟩
  obtain ⟨w4, hw4⟩ : ∃ x, x = w3.alloc (sblk p q g (max most 0)) := ⟨_, rfl⟩
  have HEQ : Hid (s = w3.heap.size ∧ w4 = w3.alloc (.cells #[.pointer (some ⟨p, 0, none⟩), .pointer (some ⟨q, 0, none⟩), .pointer (some ⟨g, 0, none⟩), .int .i64 (max most 0)] 85)) := Lib.hid ⟨hs, hw4⟩
  rw [← hs, ← hw4] at hbx
  rw [← hw4] at hal
  have hm24 : Mod NoneB w2 w4 := hm3.then0 hal
  have hX4 := hX0.mod0 hal
  have hXlt : ∀ j, X0 j → j < s := fun j hj => by rw [hs]; exact hX0.lt hj
  have hs3 : w3.heap.size ≤ s := by omega
  have hsX : ¬ X0 s := fun hh => by have := hXlt s hh; omega
  have hx2 : w4.cell? ⟨s, 2, none⟩ = some (.pointer (some ⟨g, 0, none⟩)) := by rw [blk_cell hbx]; rfl
  have HT0 := Lib.hid ht0
  have HM24 := Lib.hid hm24
  have HX4 := Lib.hid hX4
  have HXLT := Lib.hid hXlt
  have HN3 := Lib.hid hN3
  have HM3 := Lib.hid hm3
  have HBX := Lib.hid hbx
  have hs2 : w2.heap.size ≤ s := Nat.le_trans hm3.size hs3
  have hnl : (logL d).length ≤ 9223372036854775807 := HRL.out.2.1
  clear ht0 hm24 hX4 hXlt hN3 hm3 hbx hX0 hal hs hw4 hkb0 hkb1
  go_wp2_with fail
  rw [← HEQ.out.2, ← HEQ.out.1]
  clear HEQ
  go_wp2_with fail
  go_loopw [6, 12, 41] (fun lv bv i wr => ∃ (j : Nat) (m : List Pr), i = .int .i64 j ∧ j ≤ (logL d).length ∧ m = ((logL d).take j).foldl applyT base ∧ Rises m ∧ m.length ≤ base.length + ((logL d).take j).flatten.length ∧ OwnP w.heap.size wr lv m ∧ Mod NoneB w4 wr ∧ (∀ g', lv.ownBlock = some g' → ¬ X0 g')) (fun _ _ i _ => (logL d).length - (intOf i).toNat)
  case atStart =>
    refine ⟨0, base, rfl, by omega, by simp, HBR.out, by simp, ⟨HOV2.out.mod0 HM24.out, HVN.out⟩, Mod.refl _ _, fun g' hg hx => ?_⟩
    have h1 := HN3.out g' hx
    have h2 := HVLT.out g' hg
    omega
  case round =>
    obtain ⟨j, m, rfl, hj, hmE, hrm0, hml, hown, hm, hnX⟩ := hrel
    obtain ⟨A, c, rfl, hlc2, _, hrd⟩ := hown.own.out
    by_cases hlt : j < (logL d).length
    · obtain ⟨ad, rfl, h0⟩ := HRL.out.one j (by rw [hlenv]; exact hlt)
      obtain ⟨B, cB, eB, _, _, hrB⟩ := (HBAT.out.ent j hlt (by rw [hlenv]; exact hlt)).out
      rw [eB] at h0
      have g0 := hm.cell0 (HM24.out.cell0 h0)
      have hrB2 := (hrB.mod0 HM24.out).mod0 hm
      have hfl : ((logL d).take j).flatten.length + (logL d)[j].length ≤ (logL d).flatten.length := by
        have e : ((logL d).take (j + 1)).flatten.length = ((logL d).take j).flatten.length + (logL d)[j].length := by rw [List.take_succ_eq_append_getElem hlt, List.flatten_append, List.length_append]; simp
        rw [← e]
        conv => rhs; rw [← List.take_append_drop (j + 1) (logL d), List.flatten_append, List.length_append]
        omega
      have htk : ((logL d).take (j + 1)).foldl applyT base = applyT m (logL d)[j] := by rw [List.take_succ_eq_append_getElem hlt, List.foldl_append, ← hmE]; rfl
      have htl : ((logL d).take (j + 1)).flatten.length = ((logL d).take j).flatten.length + (logL d)[j].length := by rw [List.take_succ_eq_append_getElem hlt, List.flatten_append, List.length_append]; simp
      obtain ⟨o, ho⟩ : ∃ o, o = (logL d)[j] := ⟨_, rfl⟩
      rw [← ho] at g0 hrB2 hfl htk htl
      have hap := apply_calls m o A B c cB wr hrd hrB2 (by have := HSZ.out; omega)
      have hlen' : (applyT m o).length ≤ base.length + ((logL d).take (j + 1)).flatten.length := by have h1 := len_apply hrm0 o; omega
      have HLEN := Lib.hid hlen'
      have HAP := Lib.hid hap
      have HTK := Lib.hid htk
      have HTL := Lib.hid htl
      have HML := Lib.hid hml
      have hwN : w4.heap.size ≤ wr.heap.size := hm.size
      have HNXR := Lib.hid hnX
      clear hap htk htl hml hmE hrm0 h0 eB hrB hrB2 ho hown hrd hlen' hnX hfl
      go_wp2_with fail
      refine HAP.out.mono ?_
      rintro ez wz ⟨v', rfl, hov', hmz⟩
      have hm' := hm.then0 hmz
      have hbS : w.heap.size ≤ wr.heap.size := by have h1 := HM02.out.size; have h2 := HM24.out.size; omega
      have hov2 : OwnP w.heap.size wz v' (applyT m o) := ⟨hov'.own, fun g' hg => Nat.le_trans hbS (hov'.new g' hg)⟩
      have hnx2 : ∀ g', v'.ownBlock = some g' → ¬ X0 g' := fun g' hg hx => by
        have h1 := HXLT.out g' hx
        have h2 := hov'.new g' hg
        have h3 := blk_lt HBX.out
        omega
      have H2 := Lib.hid hov2
      have H3 := Lib.hid hnx2
      have H4 := Lib.hid hm'
      clear hov' hov2 hnx2 hm' hm hmz HAP HNXR
      go_wp2_with fail
      go_roundw
      case rel => exact ⟨j + 1, applyT m o, by go_num, by omega, HTK.out.symm, rises_applyT _ _, HLEN.out, H2.out, H4.out, H3.out⟩
      case measure => simp only [intOf]; go_num
    · have hjl : j = (logL d).length := by omega
      subst hjl
      rw [List.take_length] at hmE
      have hsm := HSM.out
      have hris := HRIS.out
      rw [← hmE] at hsm hris
      have her := HER.out
      rw [← hmE] at her
      have hnX2 : ∀ ad, 0 < m.length → A = some ad → ¬ X0 ad.block := fun ad hp had => by
        subst had
        exact hnX ad.block rfl
      have hml1 := hsm.1
      have hx2r := hm.cell0 hx2
      have HSM2 := Lib.hid hsm
      have HRIS2 := Lib.hid hris
      have HER2 := Lib.hid her
      have HRD := Lib.hid hrd
      have HM := Lib.hid hm
      have HNX2 := Lib.hid hnX2
      have hnm := hrd.2.1
      clear hmE hrm0 hml hown hnX hsm hris her hrd hm hnX2 HSM HRIS HER HBAT HRL HOV2 HVLT HVN HSZ
      obtain ⟨wy, hwy⟩ : ∃ y, y = wr := ⟨_, rfl⟩
      subst hwy
      go_wp2_with fail
      go_loopw [14, 51] (fun pv i wr => ∃ (j : Nat) (x' : Ix) (X' : Nat → Prop), i = .int .i64 j ∧ j ≤ m.length ∧ IsX wr g x' X' ∧ Twin x' (m.take j) ∧ Mod X0 wy wr ∧ (∀ kk, X' kk → X0 kk ∨ wy.heap.size ≤ kk)) (fun _ i _ => m.length - (intOf i).toNat)
      case atStart => exact ⟨0, newX kb, X0, rfl, by omega, HX4.out.mod0 HM.out, by rw [List.take_zero]; exact HT0.out, Mod.refl _ _, fun kk hk => .inl hk⟩
      case round =>
        obtain ⟨j, x', X', rfl, hj, hix, htw, hmx, hnx⟩ := hrel
        have hrm := htw.room (by rw [List.length_take]; omega)
        by_cases hlt : j < m.length
        · obtain ⟨ad, rfl, h0, hkc⟩ := Rd.elem (f := encP) (fun _ => rfl) (HRD.out.modP hmx (fun hp ad had => HNX2.out ad hp had)) (by decide) j hlt
          have g0 := h0 _ rfl
          have g1 := hkc 1 _ (by decide) (by decide) rfl
          have hks := HSM2.out.2 m[j] (List.getElem_mem _)
          have htk := put_take HRIS2.out j hlt
          obtain ⟨o, ho⟩ : ∃ o, o = m[j] := ⟨_, rfl⟩
          rw [← ho] at g0 g1 hks htk
          obtain ⟨pk, pv⟩ := o
          simp only at g0 g1 hks htk
          clear h0 hkc ho
          obtain ⟨wB, hwB⟩ : ∃ wB, wB = wr.alloc (.cells #[.string pk, .string pv] 88) := ⟨_, rfl⟩
          have hal : Mod NoneB wr wB := by rw [hwB]; exact (Mod.refl NoneB wr).alloc _
          have hbk : wB.heap[wr.heap.size]? = some (.cells #[.string pk, .string pv] 88 (0, 0)) := by rw [hwB]; exact heap_alloc_new wr _
          have HWB := Lib.hid hwB
          clear hwB
          have d0 : wB.cell? ⟨wr.heap.size, 0, none⟩ = some (.string pk) := blk_cell hbk 0
          have d1 : wB.cell? ⟨wr.heap.size, 1, none⟩ = some (.string pv) := blk_cell hbk 1
          have s2 : wB.cell? ⟨s, 2, none⟩ = some (.pointer (some ⟨g, 0, none⟩)) := hal.cell0 (hmx.cell hx2r hsX)
          have hXB := hix.mod0 hal.drew
          have hmB : Mod X0 wy wB.drew := hmx.trans (hal.drew.mono (fun _ _ h => h.elim)) (fun _ _ h => h)
          have hround : ∀ (x2 : Ix) (w' : World), Twin x2 (putT (m.take j) pk pv) → XStep wB.drew X' g x2 w' → ∃ X2, IsX w' g x2 X2 ∧ Twin x2 (m.take (j + 1)) ∧ Mod X0 wy w' ∧ ∀ kk, X2 kk → X0 kk ∨ wy.heap.size ≤ kk := by
            rintro x2 w' ht2 ⟨X2, k1, k2, k3⟩
            refine ⟨X2, k1, by rw [← htk]; exact ht2, hmB.trans k2 (fun kk hk hx => (hnx kk hx).elim id (fun hh => absurd hk (Nat.not_lt.2 hh))), fun kk hx => (k3 kk hx).elim (hnx kk) (fun hh => .inr (Nat.le_trans hmB.size hh))⟩
          have HRO := Lib.hid hround
          have hput := xput_calls wB.drew g x' X' pk pv hXB hrm (by omega)
          have HPUT := Lib.hid hput
          have htp := htw.put pk pv
          have HTP := Lib.hid htp
          obtain ⟨gg, hgg⟩ : ∃ gg, gg = wr.heap.size := ⟨_, rfl⟩
          have HGG := Lib.hid hgg
          rw [← hgg] at d0 d1
          clear hround hput htp hix htw hmx hnx hrm hXB hmB hal hbk hks htk hgg
          go_wp2_with fail
          rw [← HWB.out, ← HGG.out]
          go_wp2_with fail
          refine wp_region_still_tail 8 (by kernel_rfl) (by kernel_rfl) ?_
          simp only [List.take_succ_cons, List.take_zero, List.drop_succ_cons, List.drop_zero]
          repeat still_step
          refine wpStill_nil ?_
          change wpList _ _ _ _ _ wB.drew
          go_wp2_with fail
          refine HPUT.out.mono ?_
          rintro ez wz ⟨rfl, hst⟩
          obtain ⟨X2, e1, e2, e3, e4⟩ := HRO.out _ _ HTP.out hst
          clear hst HPUT HRO HTP
          go_wp2_with fail
          go_roundw
          case rel => exact ⟨j + 1, _, X2, by go_num, by omega, e1, e2, e3, e4⟩
          case measure => simp only [intOf]; go_num
        · have hjl : j = m.length := by omega
          subst hjl
          rw [List.take_length] at htw
          have hm4 : Mod NoneB w2 wy := HM24.out.then0 HM.out
          have hNX : ∀ kk, X' kk → w2.heap.size ≤ kk := fun kk hk => (hnx kk hk).elim (HN3.out kk) (Nat.le_trans hm4.size)
          have hsr : s < wy.heap.size := Nat.lt_of_lt_of_le (blk_lt HBX.out) HM.out.size
          have hqlt : q < w2.heap.size := blk_lt HQB.out
          have hm2x : Mod X0 w2 wr := (hm4.mono (fun _ _ h => h.elim)).trans hmx (fun _ _ h => h)
          have hX2not : ∀ kk, X0 kk → ¬ S' kk ∧ w0.heap.size ≤ kk := fun kk hk => ⟨HLW.out.isD.notS (HN3.out kk hk), Nat.le_trans HLW.out.base.size (HN3.out kk hk)⟩
          have hN2 : w0.heap.size ≤ w2.heap.size := HLW.out.base.size
          have hN00 : w0.heap.size ≤ w.heap.size := H.out.base.size
          have hfin : SoE w0 w p most d S (.returned (.tuple #[.pointer (some ⟨s, 0, none⟩), .int .i64 0])) wr := by
            refine ⟨S', by rw [HE2.out]; exact HLW.out.modX hm2x hX2not, HM02.out.trans hm2x (fun kk hk hx => absurd hk (Nat.not_lt.2 (Nat.le_trans HM02.out.size (HN3.out kk hx)))), HN02.out, .inl ⟨by rw [HE1.out]; exact HO.out, q, g, s, x', X', rfl, ⟨HLW.out.modX hm2x hX2not, hm2x.blk HQB.out (fun hx => by have := HN3.out q hx; omega), ⟨hmx.blk (HM.out.blk HBX.out (fun h => h)) hsX, hix, ?_, by omega, fun kk hk => Nat.le_trans hN2 (hNX kk hk), fun hx => ?_⟩, by omega, HQS.out, fun hx => ?_, fun hx => ?_, by omega, fun kk hk hx => ?_⟩, hqN, Nat.le_trans HM02.out.size hs2, fun kk hk => Nat.le_trans HM02.out.size (hNX kk hk)⟩⟩
            · show Twin x' (openS d).r
              rw [HER2.out]
              exact htw
            · exact (hnx s hx).elim hsX (fun hh => by omega)
            · have := hNX q hx; omega
            · have := HLW.out.isD.lt hx; omega
            · have h1 := hNX kk hx
              have h2 := HLW.out.isD.lt hk
              omega
          have HFIN := Lib.hid hfin
          clear hfin hix htw hmx hnx hm4 hNX hm2x hX2not
          go_wp2_with fail
          go_ret2
          exact HFIN.out
end Go.Proofs.YtkklofnabmdmfaaGreatDoor

/- The store in a law's own world: what an opening, a commit, a check make of it, with what stays told. -/
namespace Go.Proofs.YtkklofnabmdmfaaGreatDoor
open Go.RowKit
set_option linter.unusedVariables false

theorem wS_small1 {r : List Pr} (h : wS r ≤ 1000000) : SmallP r := ⟨by have := wS_len r; omega, fun p hp => by have := wS_mem hp; omega⟩
/-- A disk that no store holds; what may be told of it. -/
structure Sp (w0 w : World) (p : Nat) (d : Dk) (S : Nat → Prop) (r : List Pr) (more : Option (List Op3)) (B T : Nat) : Prop where
  lw : Lw w0 w p d S
  on : Shut d r more B T
/-- A store that is open. -/
structure So (w0 w : World) (p q g s : Nat) (most : Int) (t : St) (x : Ix) (S X : Nat → Prop) (more : Option (List Op3)) (B T : Nat) : Prop where
  at_ : StAt w0 w p q g s most t x S X
  inv : Inv t more B T
theorem Shut.fit {d : Dk} {r : List Pr} {more : Option (List Op3)} {B T : Nat} (h : Shut d r more B T) (hB : B ≤ 4000000) (hT : T ≤ 1048584) (hc : d.c ≤ 900000) : FitL d := by
  obtain ⟨h1, h2⟩ := h.used
  exact ⟨by omega, by omega, by omega⟩
/-- Behind an opening. -/
structure OpD (w0 w w' : World) (p : Nat) (most : Int) (d : Dk) (S : Nat → Prop) (r : List Pr) (more : Option (List Op3)) (B T q g s : Nat) (x : Ix) (S' X : Nat → Prop) : Prop where
  so : So w0 w' p q g s (max most 0) (openS d) x S' X none B T
  ok : openE d = 0
  mod : Mod S w w'
  dn : openK d = (openS d).d
  newS : ∀ j, S' j → S j ∨ w.heap.size ≤ j
  newq : w.heap.size ≤ q
  news : w.heap.size ≤ s
  newX : ∀ j, X j → w.heap.size ≤ j
  map : (openS d).r = r ∨ ∃ l, more = some l ∧ rightO l ∧ SmallO l ∧ (openS d).r = applyT r l
def OpE (w0 w : World) (p : Nat) (most : Int) (d : Dk) (S : Nat → Prop) (r : List Pr) (more : Option (List Op3)) (B T : Nat) (e : Ending) (w' : World) : Prop :=
  (∃ q g s x S' X, e = .returned (.tuple #[.pointer (some ⟨s, 0, none⟩), .int .i64 0]) ∧ OpD w0 w w' p most d S r more B T q g s x S' X) ∨
  (openE d ≠ 0 ∧ e = .returned (.tuple #[.pointer none, .int .i64 (openE d)]) ∧ ∃ S', Sp w0 w' p (openK d) S' r more B T ∧ Mod S w w' ∧ ∀ j, S' j → S j ∨ w.heap.size ≤ j)
theorem Sp.open {w0 w : World} {p : Nat} {d : Dk} {S : Nat → Prop} {r : List Pr} {more : Option (List Op3)} {B T : Nat} (h : Sp w0 w p d S r more B T) (ht : TabW w0) (hB : B ≤ 4000000) (hT : T ≤ 1048584) (hc : d.c ≤ 900000) (hw : wS r ≤ 1000000) (hm : ∀ l, more = some l → wS (applyT r l) ≤ 1000000) (most : Int) :
    Calls Tryz.prog 17 #[.pointer (some ⟨p, 0, none⟩), .int .i64 most] w (OpE w0 w p most d S r more B T) := by
  obtain ⟨h1, h2, h3, h4, h5⟩ := h.on.opens
  have hsm : openE d = 0 → SmallP (openS d).r := fun h0 => by
    obtain ⟨_, _, _, e | ⟨l, e0, _, _, e⟩⟩ := h5 h0
    · rw [e]; exact wS_small1 hw
    · rw [e]; exact wS_small1 (hm l e0)
  refine (sopen_calls h.lw ht (h.on.fit hB hT hc) most (fun h0 => ⟨hsm h0, h.on.loads.2, by have := (h5 h0).2.2.1; omega⟩)).mono ?_
  rintro e w' ⟨S', g1, g2, g3, ⟨e0, q, g, s, x, X, rfl, g4, g5, g6, g7⟩ | ⟨e0, rfl⟩⟩
  · obtain ⟨k1, k2, _, k3⟩ := h5 e0
    exact .inl ⟨q, g, s, x, S', X, rfl, ⟨⟨g4, k2⟩, e0, g2, k1, g3, g5, g6, g7, k3⟩⟩
  · exact .inr ⟨e0, rfl, S', ⟨g1, h1⟩, g2, g3⟩
section
variable {w0 w w1 : World} {p q g s : Nat} {most : Int} {t : St} {x : Ix} {S X : Nat → Prop} {more : Option (List Op3)} {B T : Nat}
end
end Go.Proofs.YtkklofnabmdmfaaGreatDoor
