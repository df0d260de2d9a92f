/- frame.Scan: the records that bytes begin with. -/
import Derived.Test.YtnoleekdldmagaaDec
import Derived.Test.YtnoleekdldmagaaFrame
import Derived.WalkMore
namespace Go.Proofs.Ytnoleekdldmagaa
open Go.RowKit
set_option linter.unusedVariables false

theorem tiBs : TI Try.prog 35 (.slice none 0 0) 1 24 := by unfold TI; kernel_rfl
/-- Texts of bytes as they are told: a row of slices, each in a block of its own; all in blocks from N on. -/
structure ListAt (w : World) (v : Value) (N : Nat) (ps : List (List UInt8)) (vs : List Value) : Prop where
  own : Own w 35 1 v ps.length vs
  len : vs.length = ps.length
  byt : ∀ i (h : i < ps.length) (h' : i < vs.length), Own w 5 1 vs[i] ps[i].length (encB ps[i])
  one : ∀ u ∈ vs, u.oneCell' = true
  new : ∀ g, v.ownBlock = some g → N ≤ g
  newB : ∀ u ∈ vs, ∀ g, u.ownBlock = some g → N ≤ g
theorem ListAt.mod0 {w w1 : World} {v : Value} {N : Nat} {ps : List (List UInt8)} {vs : List Value} (h : ListAt w v N ps vs) (hm : Mod NoneB w w1) : ListAt w1 v N ps vs :=
  ⟨h.own.mod0 hm, h.len, fun i h1 h2 => (h.byt i h1 h2).mod0 hm, h.one, h.new, h.newB⟩
theorem ListAt.nil (w : World) (N : Nat) : ListAt w (.slice none 0 0) N [] [] := ⟨Own.nil _ _ _, rfl, (fun i h => by cases h), (fun u h => by cases h), (fun g h => by cases h), (fun u h => by cases h)⟩
/-- One more behind. -/
theorem ListAt.snoc {w w1 : World} {v v1 u : Value} {N : Nat} {ps : List (List UInt8)} {vs : List Value} {p : List UInt8} (h : ListAt w v N ps vs) (hm : Mod (OnlyBlk v) w w1) (hno : NewOr w v v1) (hN : N ≤ w.heap.size)
    (ho : Own w1 35 1 v1 (ps.length + 1) (vs ++ [u])) (hu : Own w 5 1 u p.length (encB p)) (h1 : u.oneCell' = true) (hn : ∀ g, u.ownBlock = some g → N ≤ g) : ListAt w1 v1 N (ps ++ [p]) (vs ++ [u]) where
  own := by rw [List.length_append]; exact ho
  len := by simp [h.len]
  byt := by
    have ht : ∀ (x : Value) (n : Nat) (cs : List Value), Own w 5 1 x n cs → Own w1 5 1 x n cs := by
      intro x n cs hx
      refine hx.mod hm (fun g hg hk => ?_)
      obtain ⟨c1, hc1⟩ := hx.tag0 hg
      obtain ⟨c2, hc2⟩ := h.own.tag0 hk
      exact tag_ne0 hc1 hc2 (by decide) rfl
    intro i h2 h3
    have hl := h.len
    by_cases hi : i < ps.length
    · rw [List.getElem_append_left (by omega), List.getElem_append_left (by omega)]
      exact ht _ _ _ (h.byt i hi (by omega))
    · obtain rfl : i = ps.length := by simp at h2; omega
      have e1 : (vs ++ [u])[ps.length] = u := by simp [← hl]
      have e2 : (ps ++ [p])[ps.length] = p := by simp
      rw [e1, e2]
      exact ht _ _ _ hu
  one := fun x hx => by
    rcases List.mem_append.1 hx with hx | hx
    · exact h.one x hx
    · rw [List.mem_singleton] at hx; subst hx; exact h1
  new := fun g hg => by
    rcases hno with hq | ⟨b, hq, hb⟩
    · exact h.new g (by rw [← hq]; exact hg)
    · rw [hq] at hg
      injection hg with hg
      omega
  newB := fun x hx g hg => by
    rcases List.mem_append.1 hx with hx | hx
    · exact h.newB x hx g hg
    · rw [List.mem_singleton] at hx; subst hx; exact hn g hg

/-- Records that are told, and how many bytes they have. -/
def ScanE (b : List UInt8) (w : World) (e : Ending) (w' : World) : Prop :=
  ∃ v vs, e = .returned (.tuple #[v, .int .i64 (goodOf (scanB b) : Nat)]) ∧ ListAt w' v w.heap.size (scanB b) vs ∧ Mod NoneB w w'

theorem cgetI_calls (b : List UInt8) (i : Nat) (z : Int) (hz : z = i) (A : Option Addr) (n c : Nat) (w : World) (hn : n = b.length) (hr : Rd w 1 A n (encB b)) (hi : i ≤ 4611686018427387904) :
    Calls Try.prog 132 #[.slice A n c, .int .i64 z] w fun e w' => e = .returned (.tuple #[.int .i64 (getV4 b i : Nat), .bool (getB4 b i)]) ∧ Mod NoneB w w' := by
  subst hz hn; exact cget_calls b i A c w hr hi
theorem sumN_calls (b : List UInt8) (A : Option Addr) (n c : Nat) (w : World) (hn : b.length = n) (hr : Rd w 1 A n (encB b)) :
    Calls Try.prog 131 #[.slice A n c] w fun e w' => e = .returned (.int .i64 (crcB b : Nat)) ∧ w' = w := by
  subst hn; exact sum_calls b A c w hr
theorem cloneBN_calls (l : List UInt8) (A : Option Addr) (n c : Nat) (w : World) (hn : l.length = n) (hr : Rd w 1 A n (encB l)) (hsz : n * 1 ≤ 140737488355328) :
    Calls Try.prog 82 #[.slice A n c] w fun e w' => ∃ v', e = .returned v' ∧ Own w' 5 1 v' n (encB l) ∧ Mod NoneB w w' ∧ (∀ g, v'.ownBlock = some g → w.heap.size ≤ g) := by
  subst hn; exact cloneB_calls l A c w hr hsz

theorem scan1_at {b : List UInt8} {at_ n s : Nat} (h1 : get4 (b.drop at_) = some n) (h2 : get4 (b.drop (at_ + 4)) = some s) :
    scan1 (b.drop at_) = if n ≤ 1048576 ∧ n + 8 ≤ b.length - at_ ∧ crcB ((b.drop (at_ + 8)).take n) = s then some ((b.drop (at_ + 8)).take n) else none := by
  unfold scan1
  rw [h1, List.drop_drop, h2, List.drop_drop, List.length_drop]
theorem scan1_no1 {b : List UInt8} {at_ : Nat} (h1 : get4 (b.drop at_) = none) : scan1 (b.drop at_) = none := by
  unfold scan1; rw [h1]
theorem scan1_no2 {b : List UInt8} {at_ : Nat} (h2 : get4 (b.drop (at_ + 4)) = none) : scan1 (b.drop at_) = none := by
  unfold scan1
  rw [List.drop_drop, h2]
  cases get4 (b.drop at_) <;> rfl
theorem goodOf_append (a b : List (List UInt8)) : goodOf (a ++ b) = goodOf a + goodOf b := by unfold goodOf; rw [List.map_append, List.sum_append]

set_option maxHeartbeats 4000000 in
set_option maxRecDepth 100000 in
theorem scan_calls (b : List UInt8) (B : Option Addr) (bc : Nat) (w : World) (hr : Rd w 1 B b.length (encB b)) (hlb : b.length ≤ 1099511627776) (hbc : b.length ≤ bc) :
    Calls Try.prog 98 #[.slice B b.length bc] w (ScanE b w) := by
  go_enter Try.func98, Try.ntmps98
  go_wp2_with fail
  go_step3
  go_wp2_with fail
  go_step3
  go_wp2_with fail
  go_loopw [2, 3, 4, 5, 6, 7, 8] (fun v t a4 a5 a6 a7 a8 wr => ∃ (at_ : Nat) (ps : List (List UInt8)) (vs : List Value), t = .int .i64 at_ ∧ at_ ≤ b.length ∧ ListAt wr v w.heap.size ps vs ∧ scanB b = ps ++ scanB (b.drop at_) ∧ goodOf ps = at_ ∧ ps.length ≤ at_ ∧ Mod NoneB w wr) (fun _ t _ _ _ _ _ _ => b.length + 1 - (intOf t).toNat)
  case atStart => exact ⟨0, [], [], rfl, by omega, ListAt.nil _ _, by simp, rfl, by simp, Mod.refl _ _⟩
  case round =>
    obtain ⟨at_, ps, vs, rfl, hat, hla, hsc, hgo, hpl, hmj⟩ := hrel
    have HLA := Lib.hid hla
    have HSC := Lib.hid hsc
    have HGO := Lib.hid hgo
    have hov := hla.own
    obtain ⟨A8, c8, rfl, _, _, _⟩ := hov.out
    have hend : ∀ w', Mod NoneB wr w' → scan1 (b.drop at_) = none → ScanE b w (.returned (.tuple #[.slice A8 ps.length c8, .int .i64 at_])) w' := by
      intro w' hm' hno
      have e : scanB b = ps := by rw [HSC.out, scanB_none hno, List.append_nil]
      unfold ScanE
      rw [e, HGO.out]
      exact ⟨_, vs, rfl, HLA.out.mod0 hm', hmj.then0 hm'⟩
    have HEND := Lib.hid hend
    have HOV := Lib.hid hov
    clear hla hsc hgo hov hend
    go_wp2_with fail
    refine (cget_calls b at_ B bc wr (hr.mod0 hmj) (by omega)).mono ?_
    rintro e w1 ⟨rfl, hm1⟩
    go_wp2_with fail
    refine (cgetI_calls b (at_ + 4) ((at_ : Int) + 4) (by omega) B _ bc w1 rfl ((hr.mod0 hmj).mod0 hm1) (by omega)).mono ?_
    rintro e w2 ⟨rfl, hm2⟩
    have hm12 := hm1.then0 hm2
    clear hm1 hm2
    cases hg : get4 (b.drop at_) with
    | none =>
      obtain ⟨hv, ho⟩ := getV4_none hg
      have hno := scan1_no1 hg
      have hfin := HEND.out w2 hm12 hno
      have HF := Lib.hid hfin
      rw [hv, ho]
      obtain ⟨V2, hV2⟩ : ∃ V, V = getV4 b (at_ + 4) := ⟨_, rfl⟩
      obtain ⟨O2, hO2⟩ : ∃ V, V = getB4 b (at_ + 4) := ⟨_, rfl⟩
      rw [← hV2, ← hO2]
      clear hg hv ho hno hfin HEND hV2 hO2
      go_wp2_with fail
      all_goals
        try rw [Exit.noGoto_ret]
        go_ret2
        exact HF.out
    | some n =>
      obtain ⟨hv, ho⟩ := getV4_some hg
      obtain ⟨h04, hn32⟩ := get4_drop_lt hg
      rw [hv, ho]
      clear hv ho
      cases hg2 : get4 (b.drop (at_ + 4)) with
      | none =>
        obtain ⟨hv, ho⟩ := getV4_none hg2
        have hno := scan1_no2 hg2
        have hfin := HEND.out w2 hm12 hno
        have HF := Lib.hid hfin
        rw [hv, ho]
        clear hg hg2 hv ho hno hfin HEND
        go_wp2_with fail
        try rw [Exit.noGoto_ret]
        go_ret2
        exact HF.out
      | some s =>
        obtain ⟨hv, ho⟩ := getV4_some hg2
        obtain ⟨h08, hs32⟩ := get4_drop_lt hg2
        rw [hv, ho]
        have hs1 := scan1_at hg hg2
        clear hv ho hg hg2
        by_cases hbig : 1048576 < n
        · have hfin := HEND.out w2 hm12 (by rw [hs1, if_neg (by omega)])
          have HF := Lib.hid hfin
          clear hfin HEND hs1
          go_wp2_with fail
          try rw [Exit.noGoto_ret]
          go_ret2
          exact HF.out
        · by_cases hlong : b.length - at_ < n + 8
          · have hfin := HEND.out w2 hm12 (by rw [hs1, if_neg (by omega)])
            have b1 : decide ((b.length : Int) - (at_ : Int) - 8 < (n : Int)) = true := by simp; omega
            have HF := Lib.hid hfin
            clear hfin HEND hs1
            go_wp2_with fail
            try rw [Exit.noGoto_ret]
            go_ret2
            exact HF.out
          · have b1 : decide ((b.length : Int) - (at_ : Int) - 8 < (n : Int)) = false := by simp; omega
            obtain ⟨ad, rfl, _⟩ := hr.2.2 (by omega)
            obtain ⟨A', hsl1, hsl2, hrs⟩ := sub_at ((hr.mod0 hmj).mod0 hm12) hbc (at_ + 8) n (by omega) ((at_ : Int) + 8) ((at_ : Int) + 8 + n) (by omega) (by omega)
            obtain ⟨p, hp⟩ : ∃ p, p = (b.drop (at_ + 8)).take n := ⟨_, rfl⟩
            rw [← hp] at hs1 hrs
            have hpn : p.length = n := by rw [hp, List.length_take, List.length_drop]; omega
            have HPN := Lib.hid hpn
            have hcl := crcB_lt p
            have hsum := sumN_calls p A' n (bc - (at_ + 8)) w2 hpn hrs
            obtain ⟨cs, hcs⟩ : ∃ cs, cs = crcB p := ⟨_, rfl⟩
            rw [← hcs] at hcl hsum hs1
            have HSUM := Lib.hid hsum
            clear hp hcs hsum hpn
            by_cases hcrc : cs = s
            · have hsc1 : scan1 (b.drop at_) = some p := by rw [hs1, if_pos ⟨by omega, by omega, hcrc⟩]
              have hsb : scanB b = (ps ++ [p]) ++ scanB (b.drop (at_ + (8 + n))) := by
                rw [HSC.out, scanB_some hsc1, List.drop_drop, HPN.out]; simp
              have hgo2 : goodOf (ps ++ [p]) = at_ + (8 + n) := by
                rw [goodOf_append, HGO.out]
                show at_ + ((8 + p.length) + 0) = _
                rw [HPN.out]; rfl
              have HSB := Lib.hid hsb
              have HGO2 := Lib.hid hgo2
              subst hcrc
              clear hs1 hsc1 hsb hgo2 HEND
              have hcln := cloneBN_calls p A' n (bc - (at_ + 8)) w2 HPN.out hrs (by omega)
              have HCLN := Lib.hid hcln
              clear hcln
              go_wp2_with fail
              refine HSUM.out.mono ?_
              rintro e w3 ⟨rfl, rfl⟩
              go_wp2_with fail
              refine HCLN.out.mono ?_
              rintro e w4 ⟨vp, rfl, hop, hm4, hnp⟩
              obtain ⟨Ap, cp, rfl, _, _, _⟩ := hop.out
              have hm24 := hm12.then0 hm4
              have hlx := HLA.out.mod0 (hm24)
              have hov4 := (HOV.out.mod0 hm24).mod0 ((Mod.refl NoneB w4).alloc (.cells #[.slice Ap n cp] 35))
              have hnx : 0 < 1 → ∃ a, (some ⟨w4.heap.size, 0, none⟩ : Option Addr) = some a ∧ ∀ (j : Nat) u, [Value.slice Ap n cp][j]? = some u → (w4.alloc (.cells #[.slice Ap n cp] 35)).cell? (a.add j) = some u := (rdBlk (sz := 1) (n := 1) (heap_alloc_new w4 (.cells #[.slice Ap n cp] 35)) rfl (by omega)).2.2
              have hmx : Mod NoneB w4 (w4.alloc (.cells #[.slice Ap n cp] 35)) := (Mod.refl NoneB w4).alloc _
              have h24 : (ps.length + 1) * 24 ≤ 140737488355328 := by omega
              have hub := Try.underlying135
              have hone : ∀ u ∈ [Value.slice Ap n cp], u.oneCell' = true := fun u hu => by rw [List.mem_singleton] at hu; subst hu; rfl
              have HLX := Lib.hid hlx
              have HOP := Lib.hid hop
              have HNP := Lib.hid hnp
              clear hlx hop hnp hsl1 hsl2 hrs
              go_wp2_with (at_builtin; refine wpList_append rfl (.tmp 53) (.tmp 56) 135 rfl 35 _ 1 24 hub tiBs rfl (by decide) (by decide) _ ps.length vs rfl hov4 (some ⟨w4.heap.size, 0, none⟩) 1 1 [.slice Ap n cp] rfl rfl hnx hone h24 ?_)
              intro v5 w5 ho5 hm5 hno5
              have hla5 : ListAt w5 v5 w.heap.size (ps ++ [p]) (vs ++ [.slice Ap n cp]) := by
                refine ListAt.snoc (HLX.out.mod0 hmx) hm5 hno5 (Nat.le_trans (hmj.then0 hm24).size hmx.size) ho5 (by rw [HPN.out]; exact HOP.out.mod0 hmx) rfl (fun g hg => Nat.le_trans (hmj.then0 hm12).size (HNP.out g hg))
              have hm5w : Mod NoneB w w5 := ((hmj.then0 hm24).then0 hmx).trans_new hm5 (fun k hk => .inr (HLA.out.new k hk))
              obtain ⟨A5, c5, rfl, _, _, _⟩ := ho5.out
              have HLA5 := Lib.hid hla5
              clear hla5 ho5 hov4 hnx hone hno5
              go_wp2_with fail
              go_roundw
              case rel => exact ⟨at_ + (8 + n), ps ++ [p], _, by go_num, by omega, HLA5.out, HSB.out, HGO2.out, by simp; omega, hm5w⟩
              case measure => simp [intOf]; omega
            · have hfin := HEND.out w2 hm12 (by rw [hs1, if_neg (fun h => hcrc h.2.2)])
              have b2 : ((cs : Int) == (s : Int)) = false := by simp; omega
              have b3 : ((cs : Int) != (s : Int)) = true := by simp; omega
              have b4 : (cs == s) = false := by simp; omega
              have HF := Lib.hid hfin
              clear hfin HEND hs1 hcrc
              go_wp2_with fail
              refine HSUM.out.mono ?_
              rintro e w3 ⟨rfl, rfl⟩
              go_wp2_with fail
              try rw [Exit.noGoto_ret]
              go_ret2
              exact HF.out
end Go.Proofs.Ytnoleekdldmagaa
