/- table.Encode, table.Decode. -/
import Derived.StillTailTactics
import Derived.Test.YtkklofnabmdmfaaGreatDoorConvRQq
import Derived.Test.YtkklofnabmdmfaaGreatDoorCodecQq
import Derived.Test.YtkklofnabmdmfaaGreatDoorPairsQq
import Derived.Test.YtkklofnabmdmfaaGreatDoorTabAQq
namespace Go.Proofs.YtkklofnabmdmfaaGreatDoor
open Go.RowKit
set_option linter.unusedVariables false

end Go.Proofs.YtkklofnabmdmfaaGreatDoor

/- table.Decode. -/
namespace Go.Proofs.YtkklofnabmdmfaaGreatDoor
open Go.RowKit
set_option linter.unusedVariables false

/-- Pairs that are told, or that there are none. -/
def errP (r : Option (List Pr)) : Nat := if r.isSome then 0 else 2
def PairsE (r : Option (List Pr)) (w : World) (e : Ending) (w' : World) : Prop :=
  ∃ v, e = .returned (.tuple #[v, .int .i64 (errP r : Nat)]) ∧ Own w' 88 2 v (r.getD []).length (encPs (r.getD [])) ∧ Mod NoneB w w' ∧ (∀ g, v.ownBlock = some g → w.heap.size ≤ g)
theorem PairsE.none {w w' : World} (hm : Mod NoneB w w') : PairsE none w (.returned (.tuple #[.slice none 0 0, .int .i64 2])) w' :=
  ⟨_, rfl, Own.nil _ _ _, hm, fun g h => by simp [Value.ownBlock] at h⟩
theorem fromT_not1 {b : List UInt8} (h : (scanB b).length ≠ 1) : fromT b = none := by
  unfold fromT
  match hs : scanB b with
  | [] => rfl
  | [p] => rw [hs] at h; exact absurd rfl h
  | _ :: _ :: _ => rfl
theorem fromT_notLen {b p : List UInt8} (h : scanB b = [p]) (hl : 8 + p.length ≠ b.length) : fromT b = none := by
  unfold fromT
  rw [h]
  exact if_neg hl

set_option maxHeartbeats 4000000 in
set_option maxRecDepth 100000 in
theorem tdecode_calls (b : List UInt8) (B : Option Addr) (bc : Nat) (w : World) (hr : Rd w 1 B b.length (encB b)) (hlb : b.length ≤ 1099511627776) (hbc : b.length ≤ bc) :
    Calls Tryz.prog 53 #[.slice B b.length bc] w (PairsE (fromT b) w) := by
  go_enter Tryz.func53, Tryz.ntmps53
  go_wp2_with fail
  refine (scan_calls b B bc w hr hlb hbc).mono ?_
  rintro e w1 ⟨v, vs, rfl, hla, hm1⟩
  obtain ⟨A1, c1, rfl, _⟩ := hla.own.nilD0
  by_cases h1 : (scanB b).length = 1
  · obtain ⟨p, hp⟩ : ∃ p, scanB b = [p] := by
      match hs : scanB b, h1 with
      | [p], _ => exact ⟨p, rfl⟩
    obtain ⟨u, rfl⟩ : ∃ u, vs = [u] := by
      have := hla.len
      rw [h1] at this
      match vs, this with
      | [u], _ => exact ⟨u, rfl⟩
    have hg : goodOf (scanB b) = 8 + p.length := by rw [hp]; rfl
    rw [hg, h1]
    rw [h1] at hla
    have hou : Own w1 5 1 u p.length (encB p) := by
      have h := hla.byt 0 (by rw [h1]; omega) (by simp)
      simp only [hp] at h
      exact h
    have hcell : ∃ ad, A1 = some ad ∧ w1.cell? (ad.add 0) = some u := by
      obtain ⟨A, c, he, _, _, hrd⟩ := hla.own.out
      injection he with he1 _ _
      subst he1
      rw [h1] at hrd
      obtain ⟨ad, e, hc⟩ := hrd.2.2 (by omega)
      exact ⟨ad, e, hc 0 _ rfl⟩
    obtain ⟨gl, cl, hgl⟩ := hla.own.addrOf (by rw [h1]; omega)
    rw [h1] at hgl
    injection hgl with hgl1 _ hgl3
    subst hgl1 hgl3
    obtain ⟨ad, e, hc0⟩ := hcell
    injection e with e
    subst e
    have hc0' : w1.cell? ⟨gl, 0, none⟩ = some u := by rw [← add_zero]; exact hc0
    obtain ⟨Ap, cp, hu, hnp, _, hrp⟩ := hou.out
    subst hu
    clear hla hc0 hou hg
    by_cases hl : 8 + p.length = b.length
    · have hfr := fromT_one hp hl
      have HFR := Lib.hid hfr
      have b1 : (((8 + p.length : Nat) : Int) == (b.length : Int)) = true := by simp; omega
      have b2 : (((8 + p.length : Nat) : Int) != (b.length : Int)) = false := by simp; omega
      have b3 : (8 + (p.length : Int) == (b.length : Int)) = true := by simp; omega
      have b4 : (8 + (p.length : Int) != (b.length : Int)) = false := by simp; omega
      have hlp : p.length ≤ 1099511627776 := by omega
      clear hp hl h1 hfr
      go_wp2_with fail
      refine (decode_calls p Ap cp w1 hrp (by omega) hnp).mono ?_
      rintro e w2 ⟨v2, rfl, ho2, hm2, hn2⟩
      have hm2w := hm1.then0 hm2
      clear b1 b2 b3 b4 hc0' hrp
      cases hd : decL p with
      | none =>
        rw [hd] at ho2
        have hno : fromT b = none := by rw [HFR.out, hd]; rfl
        have HNO := Lib.hid hno
        obtain ⟨A2, c2, rfl, _⟩ := ho2.nilD0
        have e2 : errT none = 2 := rfl
        rw [e2]
        clear hd hno ho2 hn2 e2
        go_wp2_with fail
        go_ret2
        rw [HNO.out]
        exact PairsE.none hm2w
      | some t =>
        rw [hd] at ho2
        have hfx : fromT b = fromTx t := by rw [HFR.out, hd]; rfl
        have e2 : errT (some t) = 0 := rfl
        rw [e2]
        have htl : t.length ≤ 1099511627776 := by
          have : ∃ n, decGo n (p.drop 4) = some t := by
            unfold decL at hd
            cases hg4 : get4 p with
            | none => rw [hg4] at hd; cases hd
            | some n => rw [hg4] at hd; exact ⟨n, hd⟩
          obtain ⟨n, hn⟩ := this
          have h := decGo_len _ _ _ hn
          rw [List.length_drop] at h
          omega
        have HFX := Lib.hid hfx
        obtain ⟨A2, c2, hv2, hrt⟩ := ho2.nilD0
        replace hv2 : v2 = .slice A2 t.length c2 := hv2
        replace hrt : Rd w2 1 A2 t.length (encTs t) := hrt
        subst hv2
        clear hd e2 hfx ho2 hn2 HFR
        by_cases hev : t.length % 2 = 0
        · have b1 : (((t.length : Int) % 2) == 0) = true := by simp; omega
          have b2 : (((t.length : Int) % 2) != 0) = false := by simp; omega
          go_wp2_with fail
          clear b1 b2
          go_loopw [8, 9] (fun v x wr => ∃ i : Nat, x = .int .i64 i ∧ i % 2 = 0 ∧ i ≤ t.length ∧ Own wr 88 2 v (i / 2) (encPs ((pairUp t).take (i / 2))) ∧ Mod NoneB w2 wr ∧ (∀ g, v.ownBlock = some g → w2.heap.size ≤ g)) (fun _ x _ => t.length - (intOf x).toNat)
          case atStart => exact ⟨0, rfl, rfl, by omega, by simpa [encPs] using Own.nil w2 88 2, Mod.refl _ _, fun g h => by simp [Value.ownBlock] at h⟩
          case round =>
            obtain ⟨i, rfl, hi2, hi, hov, hmi, hnv⟩ := hrel
            have HNV := Lib.hid hnv
            clear hnv
            by_cases hlt : i < t.length
            · obtain ⟨j, hj⟩ : ∃ j, i = 2 * j := ⟨i / 2, by omega⟩
              have hj1 : i / 2 = j := by omega
              have hj2 : (i + 2) / 2 = j + 1 := by omega
              obtain ⟨hpj, hpe⟩ := pairUp_get t j (by omega)
              have htk : (pairUp t).take (j + 1) = (pairUp t).take j ++ [(pairUp t)[j]] := List.take_succ_eq_append_getElem hpj
              rw [hpe] at htk
              obtain ⟨ad, hA2, h0, hx0⟩ := Rd.elem (f := encT) (fun _ => rfl) hrt (by decide) i hlt
              obtain ⟨ad', hA2', h1, hx1⟩ := Rd.elem (f := encT) (fun _ => rfl) hrt (by decide) (i + 1) (by omega)
              subst hA2
              injection hA2' with hA2'
              subst hA2'
              have k0 := hmi.cell0 (h0 _ rfl)
              have k1 := hmi.cell0 (h1 _ rfl)
              rw [Nat.mul_one] at k0 k1
              rw [add_succ] at k1
              have ek : t[2 * j]'(by omega) = t[i] := by congr 1; omega
              have ek1 : t[2 * j + 1]'(by omega) = t[i + 1]'(by omega) := by congr 1; omega
              rw [ek, ek1] at htk
              obtain ⟨sk, hsk⟩ : ∃ s, s = t[i] := ⟨_, rfl⟩
              obtain ⟨sv, hsv⟩ : ∃ s, s = t[i + 1]'(by omega) := ⟨_, rfl⟩
              rw [← hsk] at k0 htk
              rw [← hsv] at k1 htk
              rw [hj1] at hov
              obtain ⟨ms, hms⟩ : ∃ ms, ms = (pairUp t).take j := ⟨_, rfl⟩
              rw [← hms] at hov htk
              have hjl : j ≤ 1099511627776 := by omega
              have HTK := Lib.hid htk
              have HJ2 := Lib.hid hj2
              have e1 : IntKind.i64.wrap ((i : Int) + 1) = i + 1 := IntWalk.i64_in _ (by omega)
              have t1 : ((i : Int) + 1).toNat = i + 1 := by omega
              have g0 : (0 : Int) ≤ i := by omega
              have g1 : (0 : Int) ≤ i + 1 := by omega
              have l0 : (i : Int) < t.length := by omega
              have l1 : (i : Int) + 1 < t.length := by omega
              have h32 : (j + 1) * 32 ≤ 140737488355328 ∨ True := .inr trivial
              have hup := Tryz.underlying44
              obtain ⟨A8, c8, rfl, _, _, _⟩ := hov.out
              clear h0 h1 hx0 hx1 hpe hpj hj1 hj2 hsk hsv hms htk ek ek1 hj h32
              have hal : Mod NoneB wr (wr.drew.alloc (.cells #[.string sk, .string sv] 88)) := ((Mod.refl NoneB wr).drew).alloc _
              have hox := hov.mod0 hal
              have hnx : 0 < 1 → ∃ a, (some ⟨wr.heap.size, 0, none⟩ : Option Addr) = some a ∧ ∀ (j : Nat) u, (encPs [⟨sk, sv⟩])[j]? = some u → (wr.drew.alloc (.cells #[.string sk, .string sv] 88)).cell? (a.add j) = some u := (rdBlk (sz := 2) (n := 1) (heap_alloc_new wr.drew (.cells #[.string sk, .string sv] 88)) rfl (by omega)).2.2
              have hj32 : (j + 1) * 32 ≤ 140737488355328 := by omega
              clear hov
              go_wp2_with fail
              go_region_law (refine step_app rfl (.tmp 45) (.tmp 56) 44 rfl 88 _ 2 32 hup tiP rfl (by decide) (by decide) _ j (encPs ms) (by simp [Act.eval]) hox (some ⟨wr.heap.size, 0, none⟩) 1 1 (encPs [⟨sk, sv⟩]) (by simp [Act.eval]) rfl hnx (encPs_one _) hj32 ?_; intro v5 w5 ho5 hm5 hno5)
              all_goals
               clear e1 t1 g0 g1 l0 l1
               have hm5w : Mod NoneB w2 w5 := (hmi.then0 hal).trans_new hm5 (fun k hk => .inr (HNV.out k hk))
               have hn5 : ∀ g, v5.ownBlock = some g → w2.heap.size ≤ g := by
                 intro g hg
                 rcases hno5 with hq | ⟨b, hq, hb⟩
                 · exact HNV.out g (by rw [← hq]; exact hg)
                 · rw [hq] at hg
                   injection hg with hg
                   have h1 := (hmi.then0 hal).size
                   subst hg
                   exact Nat.le_trans h1 hb
               have ho6 : Own w5 88 2 v5 ((i + 2) / 2) (encPs ((pairUp t).take ((i + 2) / 2))) := by
                 rw [HJ2.out, HTK.out]
                 have e : encPs (ms ++ [⟨sk, sv⟩]) = encPs ms ++ encPs [⟨sk, sv⟩] := by unfold encPs; rw [List.flatMap_append]
                 rw [e]
                 exact ho5
               obtain ⟨A5, c5, rfl, _, _, _⟩ := ho5.out
               have HO6 := Lib.hid ho6
               have HN5 := Lib.hid hn5
               clear ho6 hn5 ho5 hox hnx hno5
               go_wp2_with fail
               go_roundw
               case rel => exact ⟨i + 2, by go_num, by omega, by omega, HO6.out, hm5w, HN5.out⟩
               case measure => simp [intOf]; omega
            · have hie : i = t.length := by omega
              have hl2 : (pairUp t).length = i / 2 := by rw [pairUp_length, hie]
              have hall : (pairUp t).take (i / 2) = pairUp t := List.take_of_length_le (by omega)
              rw [hall, ← hl2] at hov
              have HOV := Lib.hid hov
              obtain ⟨A5, c5, rfl, hrq⟩ := hov.nilD0
              have hmw := hm2w.then0 hmi
              obtain ⟨q, hq⟩ : ∃ q, q = pairUp t := ⟨_, rfl⟩
              rw [← hq] at hrq HOV HNV ⊢
              have HQ := Lib.hid hq
              clear hov hall hl2 hq
              go_wp2_with fail
              refine (right_calls q A5 c5 wr hrq).mono ?_
              rintro e w6 ⟨rfl, hm6⟩
              have hmw6 := hmw.then0 hm6
              by_cases hri : Rises q
              · have hfin : fromT b = some q := by rw [HFX.out, HQ.out]; exact fromTx_ok hev (by rw [← HQ.out]; exact hri)
                have HFIN := Lib.hid hfin
                rw [decide_eq_true hri]
                clear hfin hri
                go_wp2_with fail
                go_ret2
                rw [HFIN.out]
                exact ⟨_, rfl, HOV.out.mod0 hm6, hmw6, fun g hg => Nat.le_trans hm2w.size (HNV.out g hg)⟩
              · have hfin : fromT b = none := by rw [HFX.out]; exact fromTx_no (fun h => hri (by rw [HQ.out]; exact h.2))
                have HFIN := Lib.hid hfin
                rw [decide_eq_false hri]
                clear hfin hri
                go_wp2_with fail
                go_ret2
                rw [HFIN.out]
                exact PairsE.none hmw6
        · have hno : fromT b = none := by rw [HFX.out]; exact fromTx_no (fun h => hev h.1)
          have HNO := Lib.hid hno
          have b1 : (((t.length : Int) % 2) == 0) = false := by simp; omega
          have b2 : (((t.length : Int) % 2) != 0) = true := by simp; omega
          clear hno
          go_wp2_with fail
          go_ret2
          rw [HNO.out]
          exact PairsE.none hm2w
    · have hno := fromT_notLen hp hl
      have HNO := Lib.hid hno
      have b1 : (((8 + p.length : Nat) : Int) == (b.length : Int)) = false := by simp; omega
      have b2 : (((8 + p.length : Nat) : Int) != (b.length : Int)) = true := by simp; omega
      have b3 : (8 + (p.length : Int) == (b.length : Int)) = false := by simp; omega
      have b4 : (8 + (p.length : Int) != (b.length : Int)) = true := by simp; omega
      clear hno hp hl h1
      go_wp2_with fail
      go_ret2
      rw [HNO.out]
      exact PairsE.none hm1
  · have hno := fromT_not1 h1
    obtain ⟨m, hm⟩ : ∃ m, m = (scanB b).length := ⟨_, rfl⟩
    obtain ⟨g, hg⟩ : ∃ g, g = goodOf (scanB b) := ⟨_, rfl⟩
    rw [← hm, ← hg]
    rw [← hm] at h1
    have HNO := Lib.hid hno
    have b1 : ((m : Int) == 1) = false := by simp; omega
    have b2 : ((m : Int) != 1) = true := by simp; omega
    have b3 : (m == 1) = false := by simp; omega
    clear hno hm hg h1 hla
    go_wp2_with fail
    go_ret2
    rw [HNO.out]
    exact PairsE.none hm1
end Go.Proofs.YtkklofnabmdmfaaGreatDoor

/- How many bytes pairs take. No walk stands here. -/
namespace Go.Proofs.YtkklofnabmdmfaaGreatDoor
set_option linter.unusedVariables false

/-- How many bytes pairs take, at most. -/
def wS (l : List Pr) : Nat := (l.map fun p => 8 + p.k.size + p.v.size).sum
theorem wS_mem {l : List Pr} {p : Pr} (h : p ∈ l) : 8 + p.k.size + p.v.size ≤ wS l := by
  induction l with
  | nil => cases h
  | cons q l ih =>
    have e : wS (q :: l) = (8 + q.k.size + q.v.size) + wS l := rfl
    rw [e]
    rcases List.mem_cons.1 h with rfl | h
    · omega
    · have := ih h; omega
theorem wS_len (l : List Pr) : l.length * 8 ≤ wS l := by
  induction l with
  | nil => simp
  | cons q l ih =>
    have e : wS (q :: l) = (8 + q.k.size + q.v.size) + wS l := rfl
    rw [e, List.length_cons, Nat.add_mul]
    omega

end Go.Proofs.YtkklofnabmdmfaaGreatDoor
