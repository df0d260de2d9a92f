/- diag.digits, diag.Encode, diag.Decode, the reference's Diags, great. -/
import Derived.Lib.ItoaLen
import Derived.Deep.RegionHeld3
import Derived.Test.YtkklofnabmdmfaaGreatDoorTabEQq
import Derived.Test.YtkklofnabmdmfaaGreatDoorDsPQq
namespace Go.Proofs.YtkklofnabmdmfaaGreatDoor
open Go.RowKit
set_option linter.unusedVariables false

theorem tiD : TI Tryz.prog 49 (.agg #[.string ⟨#[]⟩, .int .i64 0, .int .i64 0, .string ⟨#[]⟩]) 4 48 := by unfold TI; kernel_rfl
theorem Rd.dg {w : World} {A : Option Addr} {n : Nat} {l : List Dg} (h : Rd w 4 A n (encDs l)) (i : Nat) (hi : i < l.length) :
    ∃ ad, A = some ad ∧ w.cell? (ad.add (i * 4)) = some (.string l[i].m) ∧ w.cell? { block := (ad.add (i * 4)).block, off := (ad.add (i * 4)).off + 1 } = some (.int .i64 l[i].a) ∧ w.cell? { block := (ad.add (i * 4)).block, off := (ad.add (i * 4)).off + 2 } = some (.int .i64 l[i].c) ∧ w.cell? { block := (ad.add (i * 4)).block, off := (ad.add (i * 4)).off + 3 } = some (.string l[i].n) := by
  obtain ⟨ad, hA, h0, hk⟩ := Rd.elem (f := encD) (fun _ => rfl) h (by decide) i hi
  exact ⟨ad, hA, h0 _ rfl, hk 1 _ (by decide) (by decide) rfl, hk 2 _ (by decide) (by decide) rfl, hk 3 _ (by decide) (by decide) rfl⟩
theorem itoa_lib {z : Int} (h : 0 ≤ z) : Lib.itoa z = Lib.decDigits z.toNat := by unfold Lib.itoa; rw [if_neg (by omega)]
theorem digs_size {z : Int} (h : Int64 z) : (digs z).size ≤ 21 := by
  obtain ⟨h1, h2⟩ := h
  have e := Lib.itoa_length_le (max z 0) (by omega) (by omega)
  rw [itoa_lib (by omega)] at e
  unfold digs digitsB
  rw [strOf_size]
  exact e
theorem digits_calls (z : Int) (hz : Int64 z) (w : World) (ht : TabW w) :
    Calls Tryz.prog 81 #[.int .i64 z] w fun e w' => e = .returned (.string (digs z)) ∧ Mod NoneB w w' := by
  have hi : ∀ W, Mod NoneB w W → Calls Tryz.prog 94 #[.int .i64 (max z 0)] W fun e w' => e = .returned (.string (digs z)) ∧ Mod NoneB W w' := by
    intro W hm
    obtain ⟨h1, h2⟩ := hz
    refine (strconv_Itoa (max z 0) (by omega) (by omega) W (ht.mod0 hm)).mono ?_
    rintro e w1 ⟨rfl, k, os, rfl⟩
    refine ⟨?_, grow_mod W os k⟩
    rw [itoa_lib (by omega)]
    rfl
  have HI := Lib.hid hi
  clear hi
  go_enter Tryz.func81, Tryz.ntmps81
  go_wp2_with ((with_reducible refine (HI.out _ (Mod.refl _ _)).mono ?_); rintro ez w1 ⟨rfl, hm1⟩)
  go_ret
  exact ⟨rfl, hm1⟩
/-- Diagnostics of few and short texts. -/
def SmallD (l : List Dg) : Prop := l.length ≤ 1000 ∧ ∀ d ∈ l, OkD d ∧ d.m.size ≤ 4096 ∧ d.n.size ≤ 4096
theorem SmallD.texts {l : List Dg} (h : SmallD l) : (∀ s ∈ diagT l, s.size ≤ 4096) ∧ (encL (diagT l)).length ≤ 70368744177664 := by
  have h1 : ∀ s ∈ diagT l, s.size ≤ 4096 := by
    intro s hs
    unfold diagT at hs
    obtain ⟨d, hd, hs⟩ := List.mem_flatMap.1 hs
    obtain ⟨⟨k1, k2⟩, k3, k4⟩ := h.2 d hd
    simp only [List.mem_cons, List.not_mem_nil, or_false] at hs
    have d1 := digs_size k1
    have d2 := digs_size k2
    rcases hs with rfl | rfl | rfl | rfl <;> omega
  refine ⟨h1, ?_⟩
  have h2 : ∀ t : List ByteArray, (∀ s ∈ t, s.size ≤ 4096) → (t.map fun s => 4 + s.size).sum ≤ t.length * 4100 := by
    intro t
    induction t with
    | nil => intro _; simp
    | cons s t ih =>
      intro hs
      have k1 := hs s (List.mem_cons_self ..)
      have k2 := ih (fun q hq => hs q (List.mem_cons_of_mem _ hq))
      rw [List.map_cons, List.sum_cons, List.length_cons, Nat.add_mul]
      omega
  have h3 := h2 _ h1
  have h4 := h.1
  rw [encL_length]
  rw [diagT_length] at h3
  omega

/-! diag.Decode -/
theorem decGo_size : ∀ (n : Nat) (r : List UInt8) (l : List ByteArray), decGo n r = some l → ∀ s ∈ l, s.size ≤ r.length
  | 0, r, l, h, s, hs => by
    rw [decGo_end] at h
    split at h
    · cases h; cases hs
    · cases h
  | n + 1, r, l, h, s, hs => by
    cases h4 : get4 r with
    | none => rw [decGo_no h4] at h; cases h
    | some k =>
      by_cases hk : k + 4 ≤ r.length
      · rw [decGo_step h4 hk] at h
        cases hq : decGo n (r.drop (4 + k)) with
        | none => rw [hq] at h; cases h
        | some l2 =>
          rw [hq] at h
          cases h
          rcases List.mem_cons.1 hs with rfl | hs
          · rw [strOf_size, List.length_take, List.length_drop]; omega
          · have := decGo_size n _ l2 hq s hs
            rw [List.length_drop] at this
            omega
      · rw [decGo_long h4 (by omega)] at h; cases h
theorem decL_size {b : List UInt8} {t : List ByteArray} (h : decL b = some t) : (∀ s ∈ t, s.size ≤ b.length) ∧ t.length ≤ b.length := by
  have : ∃ n, decGo n (b.drop 4) = some t := by
    unfold decL at h
    cases hg4 : get4 b with
    | none => rw [hg4] at h; cases h
    | some n => rw [hg4] at h; exact ⟨n, h⟩
  obtain ⟨n, hn⟩ := this
  have h1 := decGo_size _ _ _ hn
  have h2 := decGo_len _ _ _ hn
  rw [List.length_drop] at h2
  refine ⟨fun s hs => ?_, by omega⟩
  have := h1 s hs
  rw [List.length_drop] at this
  omega
theorem drop4 {α : Type} (t : List α) (i : Nat) (h : i + 3 < t.length) : t.drop i = t[i] :: t[i + 1] :: t[i + 2] :: t[i + 3] :: t.drop (i + 4) := by
  rw [List.drop_eq_getElem_cons (show i < t.length by omega), List.drop_eq_getElem_cons (show i + 1 < t.length by omega), List.drop_eq_getElem_cons (show i + 1 + 1 < t.length by omega), List.drop_eq_getElem_cons (show i + 1 + 1 + 1 < t.length by omega)]
theorem quad_ok {t r : List ByteArray} {i : Nat} {ls : List Dg} {m a c n : ByteArray} (h : quadUp t = (quadUp (t.drop i)).map (ls ++ ·)) (hd : t.drop i = m :: a :: c :: n :: r)
    (h1 : digs (atoiV a.data.toList) = a) (h2 : digs (atoiV c.data.toList) = c) : quadUp t = (quadUp r).map ((ls ++ [⟨m, atoiV a.data.toList, atoiV c.data.toList, n⟩]) ++ ·) := by
  rw [h, hd]
  conv => lhs; unfold quadUp
  rw [if_pos ⟨h1, h2⟩, Option.map_map]
  congr 1
  funext x
  simp
theorem quad_bad {t r : List ByteArray} {i : Nat} {ls : List Dg} {m a c n : ByteArray} (h : quadUp t = (quadUp (t.drop i)).map (ls ++ ·)) (hd : t.drop i = m :: a :: c :: n :: r)
    (h1 : ¬ (digs (atoiV a.data.toList) = a ∧ digs (atoiV c.data.toList) = c)) : quadUp t = none := by
  rw [h, hd]
  unfold quadUp
  rw [if_neg h1]
  rfl
theorem add_plus (ad : Addr) (i k : Nat) (h : 0 < k) : ad.add (i + k) = ⟨ad.block, ad.off + (i + k), none⟩ := by
  unfold Addr.add
  split <;> simp_all
def errG (r : Option (List Dg)) : Nat := if r.isSome then 0 else 2
def DiagsE (r : Option (List Dg)) (w : World) (e : Ending) (w' : World) : Prop :=
  ∃ v, e = .returned (.tuple #[v, .int .i64 (errG r : Nat)]) ∧ Own w' 49 4 v (r.getD []).length (encDs (r.getD [])) ∧ Mod NoneB w w' ∧ (∀ g, v.ownBlock = some g → w.heap.size ≤ g)
theorem DiagsE.none {w w' : World} (hm : Mod NoneB w w') : DiagsE none w (.returned (.tuple #[.slice none 0 0, .int .i64 2])) w' :=
  ⟨_, rfl, Own.nil _ _ _, hm, fun g h => by simp [Value.ownBlock] at h⟩

set_option maxHeartbeats 4000000 in
set_option maxRecDepth 100000 in
theorem dgdecode_calls (b : List UInt8) (B : Option Addr) (bc : Nat) (w : World) (hr : Rd w 1 B b.length (encB b)) (hlb : b.length ≤ 1073741824) (hbc : b.length ≤ bc) (ht : TabW w) (he : ErrW w) :
    Calls Tryz.prog 46 #[.slice B b.length bc] w (DiagsE (decDg b) w) := by
  have HD : Hid (∀ z W, Int64 z → Mod NoneB w W → Calls Tryz.prog 81 #[.int .i64 z] W fun e w' => e = .returned (.string (digs z)) ∧ Mod NoneB W w') := Lib.hid fun z W hz hm => digits_calls z hz W (ht.mod0 hm)
  have HAT : Hid (∀ s W, s.size ≤ 1073741824 → Mod NoneB w W → Calls Tryz.prog 80 #[.string s] W fun e w' => ∃ v2, e = .returned (.tuple #[.int .i64 (atoiV s.data.toList), v2]) ∧ Mod NoneB W w') := Lib.hid fun s W hs hm => atoi_calls s (by omega) W (he.mod0 hm)
  clear ht he
  go_enter Tryz.func46, Tryz.ntmps46
  go_wp2_with fail
  refine (decode_calls b B bc w hr (by omega) hbc).mono ?_
  rintro e w2 ⟨v2, rfl, ho2, hm2, hn2⟩
  cases hd : decL b with
  | none =>
    rw [hd] at ho2
    have hno : decDg b = none := by unfold decDg; rw [hd]; rfl
    have HNO := Lib.hid hno
    obtain ⟨A2, c2, rfl, _⟩ := ho2.nilD0
    have e2 : errT none = 2 := rfl
    rw [e2]
    clear hd hno ho2 hn2 e2
    go_wp2_with fail
    go_ret2
    rw [HNO.out]
    exact DiagsE.none hm2
  | some t =>
    rw [hd] at ho2
    have hfx : decDg b = quadUp t := by unfold decDg; rw [hd]; rfl
    have e2 : errT (some t) = 0 := rfl
    rw [e2]
    obtain ⟨htz, htl⟩ := decL_size hd
    have HTZ : Hid (∀ s ∈ t, s.size ≤ 1073741824) := Lib.hid (fun s hs => by have := htz s hs; omega)
    have htl2 : t.length ≤ 1073741824 := by omega
    have HFX := Lib.hid hfx
    obtain ⟨A2, c2, hv2, hrt⟩ := ho2.nilD0
    replace hv2 : v2 = .slice A2 t.length c2 := hv2
    replace hrt : Rd w2 1 A2 t.length (encTs t) := hrt
    subst hv2
    clear hd e2 hfx ho2 hn2 htz
    by_cases hev : t.length % 4 = 0
    · have b1 : (((t.length : Int) % 4) == 0) = true := by simp; omega
      have b2 : (((t.length : Int) % 4) != 0) = false := by simp; omega
      go_wp2_with fail
      clear b1 b2
      go_loopw [6, 7, 8, 9, 10, 11] (fun v x _ _ _ _ wr => ∃ (i : Nat) (ls : List Dg), x = .int .i64 i ∧ i = 4 * ls.length ∧ i ≤ t.length ∧ quadUp t = (quadUp (t.drop i)).map (ls ++ ·) ∧ Own wr 49 4 v ls.length (encDs ls) ∧ Mod NoneB w2 wr ∧ (∀ g, v.ownBlock = some g → w2.heap.size ≤ g)) (fun _ x _ _ _ _ _ => t.length - (intOf x).toNat)
      case atStart => exact ⟨0, [], rfl, rfl, by omega, by simp, Own.nil w2 49 4, Mod.refl _ _, fun g h => by simp [Value.ownBlock] at h⟩
      case round =>
        obtain ⟨i, ls, rfl, hi4, hi, hq, hov, hmi, hnv⟩ := hrel
        have HNV := Lib.hid hnv
        clear hnv
        by_cases hlt : i < t.length
        · have hi3 : i + 3 < t.length := by omega
          have hdr := drop4 t i hi3
          obtain ⟨ad, hA, q0, _⟩ := Rd.elem (f := encT) (fun _ => rfl) hrt (by decide) i hlt
          subst hA
          have k0 := q0 _ rfl
          rw [Nat.mul_one] at k0
          have kk : ∀ k (h : i + k < t.length), 0 < k → w2.cell? ⟨ad.block, ad.off + (i + k), none⟩ = some (.string t[i + k]) := fun k h hk => by
            obtain ⟨ad', hA', q1, _⟩ := Rd.elem (f := encT) (fun _ => rfl) hrt (by decide) (i + k) h
            injection hA' with hA'
            subst hA'
            have k1 := q1 _ rfl
            rw [Nat.mul_one, add_plus _ _ _ hk] at k1
            exact k1
          have k1 := kk 1 (by omega) (by decide)
          have k2 := kk 2 (by omega) (by decide)
          have k3 := kk 3 hi3 (by decide)
          have z1 := HTZ.out t[i + 1] (List.getElem_mem _)
          have z2 := HTZ.out t[i + 2] (List.getElem_mem _)
          obtain ⟨sm, hsm⟩ : ∃ s, s = t[i] := ⟨_, rfl⟩
          obtain ⟨sa, hsa⟩ : ∃ s, s = t[i + 1] := ⟨_, rfl⟩
          obtain ⟨sc, hsc⟩ : ∃ s, s = t[i + 2] := ⟨_, rfl⟩
          obtain ⟨sn, hsn⟩ : ∃ s, s = t[i + 3] := ⟨_, rfl⟩
          rw [← hsm, ← hsa, ← hsc, ← hsn] at hdr
          rw [← hsm] at k0
          rw [← hsa] at k1 z1
          rw [← hsc] at k2 z2
          rw [← hsn] at k3
          obtain ⟨va, hva⟩ : ∃ v, v = atoiV sa.data.toList := ⟨_, rfl⟩
          obtain ⟨vc, hvc⟩ : ∃ v, v = atoiV sc.data.toList := ⟨_, rfl⟩
          have hat1 := fun W => HAT.out sa W z1
          have hat2 := fun W => HAT.out sc W z2
          rw [← hva] at hat1
          rw [← hvc] at hat2
          have HA1 := Lib.hid hat1
          have HA2 := Lib.hid hat2
          have ia : Int64 va := by rw [hva]; exact atoiV_range _
          have ic : Int64 vc := by rw [hvc]; exact atoiV_range _
          have HIA := Lib.hid ia
          have HIC := Lib.hid ic
          have HDR := Lib.hid hdr
          have HQ := Lib.hid hq
          have HVA := Lib.hid hva
          have HVC := Lib.hid hvc
          replace k0 := hmi.cell0 k0
          replace k1 := hmi.cell0 k1
          replace k2 := hmi.cell0 k2
          replace k3 := hmi.cell0 k3
          have e1 : IntKind.i64.wrap ((i : Int) + 1) = i + 1 := IntWalk.i64_in _ (by omega)
          have e2 : IntKind.i64.wrap ((i : Int) + 2) = i + 2 := IntWalk.i64_in _ (by omega)
          have e3 : IntKind.i64.wrap ((i : Int) + 3) = i + 3 := IntWalk.i64_in _ (by omega)
          have e4 : IntKind.i64.wrap ((i : Int) + 4) = i + 4 := IntWalk.i64_in _ (by omega)
          have t1 : ((i : Int) + 1).toNat = i + 1 := by omega
          have t2 : ((i : Int) + 2).toNat = i + 2 := by omega
          have t3 : ((i : Int) + 3).toNat = i + 3 := by omega
          have g0 : (0 : Int) ≤ i := by omega
          have g1 : (0 : Int) ≤ i + 1 := by omega
          have g2 : (0 : Int) ≤ i + 2 := by omega
          have g3 : (0 : Int) ≤ i + 3 := by omega
          have l0 : (i : Int) < t.length := by omega
          have l1 : (i : Int) + 1 < t.length := by omega
          have l2 : (i : Int) + 2 < t.length := by omega
          have l3 : (i : Int) + 3 < t.length := by omega
          have hwi := hm2.then0 hmi
          obtain ⟨A8, c8, rfl, _, _, _⟩ := hov.out
          have HOV := Lib.hid hov
          have HI0 := Lib.hid hi4
          clear kk q0 hsm hsa hsc hsn hva hvc hat1 hat2 ia ic hdr hq z1 z2 hov hi4
          go_wp2_with fail
          refine (HA1.out wr hwi).mono ?_
          rintro e w3 ⟨x3, rfl, hm3⟩
          replace k0 := hm3.cell0 k0
          replace k1 := hm3.cell0 k1
          replace k2 := hm3.cell0 k2
          replace k3 := hm3.cell0 k3
          have hw3 := hwi.then0 hm3
          go_wp2_with fail
          refine (HA2.out w3 hw3).mono ?_
          rintro e w4 ⟨x4, rfl, hm4⟩
          replace k0 := hm4.cell0 k0
          replace k1 := hm4.cell0 k1
          replace k2 := hm4.cell0 k2
          replace k3 := hm4.cell0 k3
          have hw4 := hw3.then0 hm4
          have hm24 := (hmi.then0 hm3).then0 hm4
          have HO4 := Lib.hid ((HOV.out.mod0 hm3).mod0 hm4)
          clear hm3 hm4 hw3 hwi
          by_cases c1 : digs va = sa
          case neg =>
            have b1 : ((digs va).toList == sa.toList) = false := by rw [beq_toList]; exact decide_eq_false c1
            have hno : decDg b = none := by rw [HFX.out]; exact quad_bad HQ.out HDR.out (fun h => by rw [← HVA.out] at h; exact c1 h.1)
            have HNO := Lib.hid hno
            clear hno
            go_wp2_with fail
            refine wp_region_held_drew (S := fun w' => w'.cell? ⟨ad.block, ad.off + (i + 1), none⟩ = some (.string sa)) (by kernel_rfl) k1 (fun hHeld => ?_)
            refine wpAnyH_take (i := 0) (v := ?_) (by simp only [List.getElem?_toArray, List.getElem?_cons_zero]; rfl) (by kernel_rfl) (by kernel_rfl) (by kernel_rfl) (by exact fun _ _ _ h => h) (Or.inl ⟨by rfl, ?_⟩) (by assumption) ?_
            rotate_left
            · intro w hSw
              try dsimp only at hSw
              go_simp
              all_goals with_reducible rfl
            try simp only [Act.put, List.setIfInBounds_toArray, List.set_cons_zero, List.set_cons_succ]
            refine wpAnyH_take (i := 2) (v := ?_) (by simp only [List.getElem?_toArray, List.getElem?_cons_succ, List.getElem?_cons_zero]; rfl) (by kernel_rfl) (by kernel_rfl) (by kernel_rfl) (by exact fun _ _ _ h => h) (Or.inl ⟨by rfl, ?_⟩) (by assumption) ?_
            rotate_left
            · intro w hSw
              try dsimp only at hSw
              go_simp
              all_goals with_reducible rfl
            try simp only [Act.put, List.setIfInBounds_toArray, List.set_cons_zero, List.set_cons_succ]
            refine wpAnyH_take (i := 3) (v := ?_) (by simp only [List.getElem?_toArray, List.getElem?_cons_succ, List.getElem?_cons_zero]; rfl) (by kernel_rfl) (by kernel_rfl) (by kernel_rfl) (by exact fun _ _ _ h => h) (Or.inl ⟨by rfl, ?_⟩) (by assumption) ?_
            rotate_left
            · intro w hSw
              try dsimp only at hSw
              go_simp
              all_goals with_reducible rfl
            try simp only [Act.put, List.setIfInBounds_toArray, List.set_cons_zero, List.set_cons_succ]
            refine wpAnyH_take (i := 4) (v := ?_) (by simp only [List.getElem?_toArray, List.getElem?_cons_succ, List.getElem?_cons_zero]; rfl) (by kernel_rfl) (by kernel_rfl) (by kernel_rfl) (by exact fun _ _ _ h => h) (Or.inl ⟨by rfl, ?_⟩) (by assumption) ?_
            rotate_left
            · intro w hSw
              try dsimp only at hSw
              go_simp
              all_goals with_reducible rfl
            try simp only [Act.put, List.setIfInBounds_toArray, List.set_cons_zero, List.set_cons_succ]
            refine wpAnyH_take (i := 5) (v := ?_) (by simp only [List.getElem?_toArray, List.getElem?_cons_succ, List.getElem?_cons_zero]; rfl) (by kernel_rfl) (by kernel_rfl) (by kernel_rfl) (by exact fun _ _ _ h => h) (Or.inl ⟨by rfl, ?_⟩) (by assumption) ?_
            rotate_left
            · intro w hSw
              try dsimp only at hSw
              go_simp
              all_goals with_reducible rfl
            try simp only [Act.put, List.setIfInBounds_toArray, List.set_cons_zero, List.set_cons_succ]
            refine wpAnyH_take (i := 6) (v := ?_) (by simp only [List.getElem?_toArray, List.getElem?_cons_succ, List.getElem?_cons_zero]; rfl) (by kernel_rfl) (by kernel_rfl) (by kernel_rfl) (by exact fun _ _ _ h => h) (Or.inl ⟨by rfl, ?_⟩) (by assumption) ?_
            rotate_left
            · intro w hSw
              try dsimp only at hSw
              go_simp
              all_goals with_reducible rfl
            try simp only [Act.put, List.setIfInBounds_toArray, List.set_cons_zero, List.set_cons_succ]
            refine wpAnyH_ready (rs := [1]) (by kernel_rfl) (by simp) ?_
            refine AllReadyH.cons (by simp only [List.getElem?_toArray, List.getElem?_cons_succ, List.getElem?_cons_zero]; rfl) (fun K hK => ?_) AllReadyH.nil
            go_simp
            refine (HD.out va _ HIA.out hw4.drew).mono ?_
            rintro ez w5 ⟨rfl, hm5⟩
            have y1 := hm5.cell0 (w := w4.drew) k1
            try simp only
            refine hK.out _ _ (y1) (fun hHeld => ?_)
            clear hK K
            try simp only [Act.put, List.setIfInBounds_toArray, List.set_cons_zero, List.set_cons_succ]
            refine wpAnyH_take (i := 7) (v := ?_) (by simp only [List.getElem?_toArray, List.getElem?_cons_succ, List.getElem?_cons_zero]; rfl) (by kernel_rfl) (by kernel_rfl) (by kernel_rfl) (by exact fun _ _ _ h => h) (Or.inl ⟨by rfl, ?_⟩) (by assumption) ?_
            rotate_left
            · intro w hSw
              try dsimp only at hSw
              go_simp
              all_goals with_reducible rfl
            try simp only [Act.put, List.setIfInBounds_toArray, List.set_cons_zero, List.set_cons_succ]
            refine wpAnyH_take (i := 8) (v := ?_) (by simp only [List.getElem?_toArray, List.getElem?_cons_succ, List.getElem?_cons_zero]; rfl) (by kernel_rfl) (by kernel_rfl) (by kernel_rfl) (by exact fun _ _ _ h => h) (Or.inl ⟨by rfl, ?_⟩) (by assumption) ?_
            rotate_left
            · intro w hSw
              try dsimp only at hSw
              go_simp
              all_goals with_reducible rfl
            try simp only [Act.put, List.setIfInBounds_toArray, List.set_cons_zero, List.set_cons_succ]
            refine wpAnyH_take (i := 9) (v := undef) (by simp only [List.getElem?_toArray, List.getElem?_cons_succ, List.getElem?_cons_zero]; rfl) (by kernel_rfl) (by kernel_rfl) (by kernel_rfl) (by exact fun _ _ _ h => h) (Or.inr ⟨by rfl, rfl⟩) (by assumption) ?_
            try simp only [Act.put, List.setIfInBounds_toArray, List.set_cons_zero, List.set_cons_succ]
            refine wpAnyH_take (i := 10) (v := undef) (by simp only [List.getElem?_toArray, List.getElem?_cons_succ, List.getElem?_cons_zero]; rfl) (by kernel_rfl) (by kernel_rfl) (by kernel_rfl) (by exact fun _ _ _ h => h) (Or.inr ⟨by rfl, rfl⟩) (by assumption) ?_
            try simp only [Act.put, List.setIfInBounds_toArray, List.set_cons_zero, List.set_cons_succ]
            refine wpAnyH_take (i := 11) (v := undef) (by simp only [List.getElem?_toArray, List.getElem?_cons_succ, List.getElem?_cons_zero]; rfl) (by kernel_rfl) (by kernel_rfl) (by kernel_rfl) (by exact fun _ _ _ h => h) (Or.inr ⟨by rfl, rfl⟩) (by assumption) ?_
            try simp only [Act.put, List.setIfInBounds_toArray, List.set_cons_zero, List.set_cons_succ]
            refine wpAnyH_take (i := 12) (v := undef) (by simp only [List.getElem?_toArray, List.getElem?_cons_succ, List.getElem?_cons_zero]; rfl) (by kernel_rfl) (by kernel_rfl) (by kernel_rfl) (by exact fun _ _ _ h => h) (Or.inr ⟨by rfl, rfl⟩) (by assumption) ?_
            try simp only [Act.put, List.setIfInBounds_toArray, List.set_cons_zero, List.set_cons_succ]
            refine wpAnyH_take (i := 13) (v := undef) (by simp only [List.getElem?_toArray, List.getElem?_cons_succ, List.getElem?_cons_zero]; rfl) (by kernel_rfl) (by kernel_rfl) (by kernel_rfl) (by exact fun _ _ _ h => h) (Or.inr ⟨by rfl, rfl⟩) (by assumption) ?_
            try simp only [Act.put, List.setIfInBounds_toArray, List.set_cons_zero, List.set_cons_succ]
            refine wpAnyH_take (i := 14) (v := undef) (by simp only [List.getElem?_toArray, List.getElem?_cons_succ, List.getElem?_cons_zero]; rfl) (by kernel_rfl) (by kernel_rfl) (by kernel_rfl) (by exact fun _ _ _ h => h) (Or.inr ⟨by rfl, rfl⟩) (by assumption) ?_
            try simp only [Act.put, List.setIfInBounds_toArray, List.set_cons_zero, List.set_cons_succ]
            refine wpAnyH_take (i := 15) (v := undef) (by simp only [List.getElem?_toArray, List.getElem?_cons_succ, List.getElem?_cons_zero]; rfl) (by kernel_rfl) (by kernel_rfl) (by kernel_rfl) (by exact fun _ _ _ h => h) (Or.inr ⟨by rfl, rfl⟩) (by assumption) ?_
            try simp only [Act.put, List.setIfInBounds_toArray, List.set_cons_zero, List.set_cons_succ]
            refine wpAnyH_take (i := 16) (v := undef) (by simp only [List.getElem?_toArray, List.getElem?_cons_succ, List.getElem?_cons_zero]; rfl) (by kernel_rfl) (by kernel_rfl) (by kernel_rfl) (by exact fun _ _ _ h => h) (Or.inr ⟨by rfl, rfl⟩) (by assumption) ?_
            try simp only [Act.put, List.setIfInBounds_toArray, List.set_cons_zero, List.set_cons_succ]
            refine wpAnyH_take (i := 17) (v := ?_) (by simp only [List.getElem?_toArray, List.getElem?_cons_succ, List.getElem?_cons_zero]; rfl) (by kernel_rfl) (by kernel_rfl) (by kernel_rfl) (by exact fun _ _ _ h => h) (Or.inl ⟨by rfl, ?_⟩) (by assumption) ?_
            rotate_left
            · intro w hSw
              try dsimp only at hSw
              go_simp
              all_goals with_reducible rfl
            try simp only [Act.put, List.setIfInBounds_toArray, List.set_cons_zero, List.set_cons_succ]
            refine wpAnyH_done (by kernel_rfl) ?_ _
            go_wp2_with fail
            go_ret2
            rw [HNO.out]
            exact DiagsE.none (hw4.drew.then0 hm5)
          have b1 : ((digs va).toList == sa.toList) = true := by rw [beq_toList]; exact decide_eq_true c1
          by_cases c2 : digs vc = sc
          case neg =>
            have b2 : ((digs vc).toList == sc.toList) = false := by rw [beq_toList]; exact decide_eq_false c2
            have hno : decDg b = none := by rw [HFX.out]; exact quad_bad HQ.out HDR.out (fun h => by rw [← HVC.out] at h; exact c2 h.2)
            have HNO := Lib.hid hno
            clear hno
            go_wp2_with fail
            go_region_held3 (fun w' => w'.cell? ⟨ad.block, ad.off + (i + 1), none⟩ = some (.string sa) ∧ w'.cell? ⟨ad.block, ad.off + (i + 2), none⟩ = some (.string sc)) (first | go_keep | exact ⟨y1, y2⟩ | exact ⟨z1, z2⟩)
              (first
                | (go_at_call 81; (with_reducible refine (HD.out va _ HIA.out hw4.drew).mono ?_); rintro ez w5 ⟨rfl, hm5⟩; have y1 := hm5.cell0 (w := w4.drew) k1; have y2 := hm5.cell0 (w := w4.drew) k2)
                | (go_at_call 81; (with_reducible refine (HD.out vc _ HIC.out (hw4.drew.then0 hm5)).mono ?_); rintro ez w6 ⟨rfl, hm6⟩; have z1 := hm6.cell0 y1; have z2 := hm6.cell0 y2))
            all_goals
              go_wp2_with fail
              go_ret2
              rw [HNO.out]
              exact DiagsE.none ((hw4.drew.then0 hm5).then0 hm6)
          have b2 : ((digs vc).toList == sc.toList) = true := by rw [beq_toList]; exact decide_eq_true c2
          go_wp2_with fail
          go_region_held3 (fun w' => w'.cell? ⟨ad.block, ad.off + (i + 1), none⟩ = some (.string sa) ∧ w'.cell? ⟨ad.block, ad.off + (i + 2), none⟩ = some (.string sc)) (first | go_keep | exact ⟨y1, y2⟩ | exact ⟨z1, z2⟩)
            (first
              | (go_at_call 81; (with_reducible refine (HD.out va _ HIA.out hw4.drew).mono ?_); rintro ez w5 ⟨rfl, hm5⟩; have y1 := hm5.cell0 (w := w4.drew) k1; have y2 := hm5.cell0 (w := w4.drew) k2)
              | (go_at_call 81; (with_reducible refine (HD.out vc _ HIC.out (hw4.drew.then0 hm5)).mono ?_); rintro ez w6 ⟨rfl, hm6⟩; have z1 := hm6.cell0 y1; have z2 := hm6.cell0 y2))
          all_goals
            have hw6 : Mod NoneB w2 w6 := (hm24.drew.then0 hm5).then0 hm6
            have k06 := (hm5.cell0 (w := w4.drew) k0)
            have k36 := (hm5.cell0 (w := w4.drew) k3)
            replace k0 := hm6.cell0 k06
            replace k3 := hm6.cell0 k36
            have hov := ((HO4.out.mod0 ((Mod.refl NoneB w4).drew)).mod0 hm5).mod0 hm6
            have hst := quad_ok HQ.out HDR.out (by rw [← HVA.out]; exact c1) (by rw [← HVC.out]; exact c2)
            rw [← HVA.out, ← HVC.out] at hst
            have HST := Lib.hid hst
            have hi4 := HI0.out
            have HI4 := Lib.hid hi4
            have hup := Tryz.underlying24
            have h48 : (ls.length + 1) * 48 ≤ 140737488355328 := by omega
            have hal : Mod NoneB w6 (w6.drew.alloc (.cells #[.string sm, .int .i64 va, .int .i64 vc, .string sn] 49)) := ((Mod.refl NoneB w6).drew).alloc _
            have hox := hov.mod0 hal
            have hnx : 0 < 1 → ∃ a, (some ⟨w6.heap.size, 0, none⟩ : Option Addr) = some a ∧ ∀ (j : Nat) u, (encDs [⟨sm, va, vc, sn⟩])[j]? = some u → (w6.drew.alloc (.cells #[.string sm, .int .i64 va, .int .i64 vc, .string sn] 49)).cell? (a.add j) = some u := (rdBlk (sz := 4) (n := 1) (heap_alloc_new w6.drew (.cells #[.string sm, .int .i64 va, .int .i64 vc, .string sn] 49)) rfl (by omega)).2.2
            clear hov hst c1 c2 b1 b2 hm5 hm6 k06 k36 y1 y2 z1 z2 hi4
            go_wp2_with fail
            go_region_law (refine step_app rfl (.tmp 67) (.tmp 80) 24 rfl 49 _ 4 48 hup tiD rfl (by decide) (by decide) _ ls.length (encDs ls) (by simp [Act.eval]) hox (some ⟨w6.heap.size, 0, none⟩) 1 1 (encDs [⟨sm, va, vc, sn⟩]) (by simp [Act.eval]) rfl hnx (by intro u hu; rw [encDs, List.flatMap_cons, List.flatMap_nil, List.append_nil] at hu; exact encD_one _ u hu) h48 ?_; intro v5 w5 ho5 hm5 hno5)
            all_goals
              have hm5w : Mod NoneB w2 w5 := (hw6.then0 hal).trans_new hm5 (fun k hk => .inr (HNV.out k hk))
              have hn5 : ∀ g, v5.ownBlock = some g → w2.heap.size ≤ g := by
                intro g hg
                rcases hno5 with hq | ⟨b, hq, hb⟩
                · exact HNV.out g (by rw [← hq]; exact hg)
                · rw [hq] at hg
                  injection hg with hg
                  have h1 := (hw6.then0 hal).size
                  subst hg
                  exact Nat.le_trans h1 hb
              have ho6 : Own w5 49 4 v5 (ls ++ [(⟨sm, va, vc, sn⟩ : Dg)]).length (encDs (ls ++ [⟨sm, va, vc, sn⟩])) := by
                rw [encDs_append, List.length_append]
                exact ho5
              obtain ⟨A5, c5, rfl, _, _, _⟩ := ho5.out
              have HO6 := Lib.hid ho6
              have HN5 := Lib.hid hn5
              clear ho6 hn5 ho5 hox hnx hno5
              go_wp2_with fail
              go_roundw
              case rel => exact ⟨i + 4, ls ++ [⟨sm, va, vc, sn⟩], by go_num, by have := HI4.out; rw [List.length_append]; show i + 4 = 4 * (ls.length + 1); omega, by omega, HST.out, HO6.out, hm5w, HN5.out⟩
              case measure => simp [intOf]; omega
        · have hie : i = t.length := by omega
          have hfin : decDg b = some ls := by rw [HFX.out, hq, hie, List.drop_length]; simp [quadUp]
          have HFIN := Lib.hid hfin
          have HOV := Lib.hid hov
          obtain ⟨A5, c5, rfl, hrq⟩ := hov.nilD0
          have hmw := hm2.then0 hmi
          clear hov hq hfin hrq
          go_wp2_with fail
          go_ret2
          rw [HFIN.out]
          exact ⟨_, rfl, HOV.out, hmw, fun g hg => Nat.le_trans hm2.size (HNV.out g hg)⟩
    · have hno : decDg b = none := by rw [HFX.out]; exact quadUp_short t hev
      have HNO := Lib.hid hno
      have b1 : (((t.length : Int) % 4) == 0) = false := by simp; omega
      have b2 : (((t.length : Int) % 4) != 0) = true := by simp; omega
      clear hno
      go_wp2_with fail
      go_ret2
      rw [HNO.out]
      exact DiagsE.none hm2
end Go.Proofs.YtkklofnabmdmfaaGreatDoor
