/- key.shown, key.Key, key.Pack, key.Open of what was packed. -/
import Derived.Test.YtdmdiokfpbmnaaaDoorDgW
import Derived.Test.YtdmdiokfpbmnaaaDoorKyP
import Derived.Lib.ConvBytes
import Derived.Laws.MakeOwn
namespace Go.Proofs.YtdmdiokfpbmnaaaDoor
open Go.RowKit
set_option linter.unusedVariables false

theorem kbytes_mod (w : World) (e : TypeId) (s : ByteArray) : Mod NoneB w (Lib.bytesWorld w e s) :=
  (((Mod.refl NoneB w).drew).alloc _).trans_new (freeze_mod _ w.heap.size _) (fun k hk => .inr (by rw [hk]; exact Nat.le_refl _))
theorem kbytes_rd (w : World) (s : ByteArray) (hs : s.size ≤ 9223372036854775807) : Rd (Lib.bytesWorld w 5 s) 1 (some ⟨w.heap.size, 0, none⟩) s.data.toList.length (encB s.data.toList) := by
  refine ⟨by rw [encB_length]; omega, by rw [size_data]; exact hs, fun _ => ⟨_, rfl, fun j u hu => ?_⟩⟩
  have hj : j < s.data.toList.length := by
    have := (List.getElem?_eq_some_iff.1 hu).1
    rw [encB_length] at this
    exact this
  rw [add_off]
  have e : (encB s.data.toList)[j]? = some (.int .u8 s.data.toList[j].toNat) := by unfold encB; rw [List.getElem?_map, List.getElem?_eq_getElem hj]; rfl
  rw [e] at hu
  injection hu with hu
  subst hu
  rw [show 0 + j = j from Nat.zero_add j, Lib.bytesWorld_cell _ _ _ _ (by rw [← size_data]; exact hj)]
  rw [List.getD_eq_getElem?_getD, List.getElem?_eq_getElem hj]
  rfl
theorem kconv_bytes (s : ByteArray) (w : World) : (convert 9 33 (.string s)).run Tryd.prog w = .ok (.slice (some ⟨w.heap.size, 0, none⟩) s.size (grownCap w s.size 0 5)) (Lib.bytesWorld w 5 s) :=
  Lib.run_convert_string_bytes w _ _ _ s Tryd.underlying9 Tryd.underlying33 Tryd.underlying5

def ShwE (p : List UInt8) (h : Bool) (w : World) (e : Ending) (w' : World) : Prop :=
  ∃ g, e = .returned (.slice (some ⟨g, 0, none⟩) 2 2) ∧ Rd w' 1 (some ⟨g, 0, none⟩) 2 (encTs (shwT p h)) ∧ Mod NoneB w w' ∧ w.heap.size ≤ g
theorem shown_calls (p : List UInt8) (A : Option Addr) (c : Nat) (h : Bool) (w : World) (hr : Rd w 1 A p.length (encB p)) :
    Calls Tryd.prog 38 #[.slice A p.length c, .bool h] w (ShwE p h w) := by
  have hcv : (convert 33 9 (.slice A p.length c)).run Tryd.prog w = .ok (.string (strOf p)) w := conv_str hr
  cases h with
  | true =>
    go_enter Tryd.func38, Tryd.ntmps38
    go_wp2_with fail
    go_ret
    exact ⟨w.heap.size, rfl, rdBlk (sz := 1) (n := 2) (heap_alloc_new w (.cells #[.string oneB, .string (strOf p)] 9)) rfl (by omega), (Mod.refl _ _).alloc _, Nat.le_refl _⟩
  | false =>
    go_enter Tryd.func38, Tryd.ntmps38
    go_wp2_with fail
    go_ret
    exact ⟨w.heap.size, rfl, rdBlk (sz := 1) (n := 2) (heap_alloc_new w (.cells #[.string zeroB, .string noB] 9)) rfl (by omega), (Mod.refl _ _).alloc _, Nat.le_refl _⟩

def encH (l : List Bool) : List Value := l.map .bool
theorem Rd.bool {w : World} {A : Option Addr} {n : Nat} {l : List Bool} (h : Rd w 1 A n (encH l)) (i : Nat) (hi : i < l.length) : ∃ ad, A = some ad ∧ w.cell? (ad.add i) = some (.bool l[i]) := by
  have hl : l.length = n := by have := h.1; simp [encH] at this; omega
  obtain ⟨ad, e, hc⟩ := h.2.2 (by omega)
  exact ⟨ad, e, hc i _ (by simp [encH, hi])⟩

set_option maxHeartbeats 4000000 in
set_option maxRecDepth 100000 in
theorem key_calls (a b cc : ByteArray) (F : List Part) (H : List Bool) (A B : Option Addr) (c c' : Nat) (w : World) (hr : Rd w 1 A F.length (F.flatMap encPart)) (hp : ∀ p ∈ F, Rd w 1 p.A p.b.length (encB p.b)) (hh : Rd w 1 B H.length (encH H))
    (ha : a.size ≤ 3000) (hb : b.size ≤ 3000) (hc : cc.size ≤ 3000) (hs : ShortF (F.map (·.b))) :
    Calls Tryd.prog 23 #[.string a, .string b, .string cc, .slice A F.length c, .slice B H.length c'] w fun e w' => ∃ v, e = .returned v ∧ Own w' 5 1 v (encL (keyT a b cc (F.map (·.b)) H)).length (encB (encL (keyT a b cc (F.map (·.b)) H))) ∧ Mod NoneB w w' ∧ ∀ g, v.ownBlock = some g → w.heap.size ≤ g := by
  have hus := Tryd.underlying40
  have hfl : F.length ≤ 3000 := by have := hs.1; rwa [List.length_map] at this
  have hhn := hh.2.1
  obtain ⟨G, hG⟩ : ∃ G, G = F.map (·.b) := ⟨_, rfl⟩
  have hGl : G.length = F.length := by rw [hG, List.length_map]
  have hGa : ∀ j (h : j < F.length), faceAt G j = F[j].b := by
    intro j h
    unfold faceAt
    rw [hG, List.getD_eq_getElem?_getD, List.getElem?_map, List.getElem?_eq_getElem h]
    rfl
  rw [← hG] at hs ⊢
  have HS := Lib.hid hs
  have HGL := Lib.hid hGl
  have HGA := Lib.hid hGa
  have HP := Lib.hid hp
  have HA := Lib.hid ha
  have HB := Lib.hid hb
  have HC := Lib.hid hc
  clear hG hs hGl hGa hp ha hb hc
  go_enter Tryd.func23, Tryd.ntmps23
  go_wp2_with fail
  have ho1 : Own (w.alloc (.cells #[.string a, .string b, .string cc] 9)) 9 1 (.slice (some ⟨w.heap.size, 0, none⟩) 3 3) 3 (encTs [a, b, cc]) := Own.of_blk (cap := 3) (heap_alloc_new w _) (by omega) (by omega) rfl rfl
  have hm1 : Mod NoneB w (w.alloc (.cells #[.string a, .string b, .string cc] 9)) := (Mod.refl _ _).alloc _
  have HO1 := Lib.hid ho1
  clear ho1
  go_loopw [11, 12, 13, 20] (fun v _ _ t wr => ∃ j : Nat, t = .int .i64 j ∧ j ≤ F.length ∧ Own wr 9 1 v (3 + 2 * j) (encTs ([a, b, cc] ++ keyUp G H j)) ∧ Mod NoneB w wr ∧ (∀ g, v.ownBlock = some g → w.heap.size ≤ g)) (fun _ _ _ t _ => F.length - (intOf t).toNat)
  case atStart => exact ⟨0, rfl, by omega, HO1.out, hm1, fun g h => by simp [Value.ownBlock] at h; omega⟩
  case round =>
    obtain ⟨j, rfl, hj, hov, hm, hnv⟩ := hrel
    have HNV := Lib.hid hnv
    clear hnv hm1 HO1
    by_cases hlt : j < F.length
    · obtain ⟨ad, rfl, h0, _⟩ := Rd.elem (f := encPart) (fun _ => rfl) hr (by decide) j hlt
      replace h0 := hm.cell0 (h0 _ rfl)
      rw [Nat.mul_one] at h0
      have hrp := (HP.out F[j] (List.getElem_mem _)).mod0 hm
      have hsh := keyUp_succ G H j
      rw [HGA.out j hlt] at hsh
      obtain ⟨p, hpp⟩ : ∃ p, p = F[j] := ⟨_, rfl⟩
      rw [← hpp] at h0 hrp hsh
      obtain ⟨ts, hts⟩ : ∃ ts, ts = [a, b, cc] ++ keyUp G H j := ⟨_, rfl⟩
      rw [← hts] at hov
      have htk : [a, b, cc] ++ keyUp G H (j + 1) = ts ++ shwT p.b (hasAt H j) := by rw [hsh, hts, List.append_assoc]
      have HTK := Lib.hid htk
      obtain ⟨n, hn⟩ : ∃ n, n = 3 + 2 * j := ⟨_, rfl⟩
      rw [← hn] at hov
      have HN := Lib.hid hn
      have h16 : (n + 2) * 16 ≤ 140737488355328 := by omega
      have hsw := shown_calls p.b p.A p.c (hasAt H j) wr hrp
      obtain ⟨hb, hhb⟩ : ∃ hb, hb = hasAt H j := ⟨_, rfl⟩
      rw [← hhb] at hsw HTK
      have HSW := Lib.hid hsw
      have HOV := Lib.hid hov
      have HHB := Lib.hid hhb
      clear hpp hts htk hsh hn hhb hsw hrp hov
      have g3 : (j : Int) < F.length := by omega
      have hh0 : (hasAt H j = true → j < H.length) := fun h => by
        unfold hasAt at h
        by_cases hl : j < H.length
        · exact hl
        · rw [List.getD_eq_getElem?_getD, List.getElem?_eq_none (by omega)] at h
          cases h
      by_cases hlh : j < H.length
      · obtain ⟨bd, rfl, k0⟩ := hh.bool j hlh
        replace k0 := hm.cell0 k0
        have e0 : H[j] = hb := by rw [HHB.out]; unfold hasAt; rw [List.getD_eq_getElem?_getD, List.getElem?_eq_getElem hlh]; rfl
        rw [e0] at k0
        have g1 : (0 : Int) ≤ j := by omega
        have g2 : (j : Int) < H.length := by omega
        clear e0 hh0
        go_wp2_with fail
        refine HSW.out.mono ?_
        rintro e w3 ⟨gg, rfl, hr3, hm3, hg3⟩
        have ho3 := HOV.out.mod0 hm3
        have hmw3 := hm.then0 hm3
        have HR3 := Lib.hid hr3
        clear hr3 k0 h0 g1 g2
        go_wp2_with (at_builtin; refine wpList_append rfl (.tmp 25) (.tmp 37) 40 rfl 9 _ 1 16 hus tiS rfl (by decide) (by decide) _ n (encTs ts) rfl ho3 (some ⟨gg, 0, none⟩) 2 2 (encTs (shwT p.b hb)) rfl (by rw [encTs_length, shwT_length]) HR3.out.2.2 (encTs_one _) h16 ?_)
        intro v5 w5 ho5 hm5 hno5
        have hm5w : Mod NoneB w w5 := hmw3.trans_new hm5 (fun k hk => .inr (HNV.out k hk))
        have hn5 : ∀ g, v5.ownBlock = some g → w.heap.size ≤ g := by
          intro g hg
          rcases hno5 with hq | ⟨b, hq, hb⟩
          · exact HNV.out g (by rw [← hq]; exact hg)
          · rw [hq] at hg
            injection hg with hg
            have h1 := hmw3.size
            omega
        have ho6 : Own w5 9 1 v5 (3 + 2 * (j + 1)) (encTs ([a, b, cc] ++ keyUp G H (j + 1))) := by
          rw [HTK.out, encTs_append, show 3 + 2 * (j + 1) = n + 2 by rw [HN.out]; omega]
          exact ho5
        obtain ⟨A5, c5, rfl, _, _, _⟩ := ho5.out
        have HO6 := Lib.hid ho6
        have HN5 := Lib.hid hn5
        clear ho6 hn5 ho5 hno5 ho3 hm5 hm3 hmw3
        go_wp2_with fail
        go_roundw
        case rel => exact ⟨j + 1, by go_num, by omega, HO6.out, hm5w, HN5.out⟩
        case measure => simp [intOf]; omega
      · have g2 : ¬ (j : Int) < H.length := by omega
        have hbf : hb = false := by
          cases hb with
          | false => rfl
          | true => exact absurd (hh0 HHB.out.symm) hlh
        subst hbf
        clear hh0
        go_wp2_with fail
        refine HSW.out.mono ?_
        rintro e w3 ⟨gg, rfl, hr3, hm3, hg3⟩
        have ho3 := HOV.out.mod0 hm3
        have hmw3 := hm.then0 hm3
        have HR3 := Lib.hid hr3
        clear hr3 h0 g2
        go_wp2_with (at_builtin; refine wpList_append rfl (.tmp 25) (.tmp 37) 40 rfl 9 _ 1 16 hus tiS rfl (by decide) (by decide) _ n (encTs ts) rfl ho3 (some ⟨gg, 0, none⟩) 2 2 (encTs (shwT p.b false)) rfl (by rw [encTs_length, shwT_length]) HR3.out.2.2 (encTs_one _) h16 ?_)
        intro v5 w5 ho5 hm5 hno5
        have hm5w : Mod NoneB w w5 := hmw3.trans_new hm5 (fun k hk => .inr (HNV.out k hk))
        have hn5 : ∀ g, v5.ownBlock = some g → w.heap.size ≤ g := by
          intro g hg
          rcases hno5 with hq | ⟨b, hq, hb⟩
          · exact HNV.out g (by rw [← hq]; exact hg)
          · rw [hq] at hg
            injection hg with hg
            have h1 := hmw3.size
            omega
        have ho6 : Own w5 9 1 v5 (3 + 2 * (j + 1)) (encTs ([a, b, cc] ++ keyUp G H (j + 1))) := by
          rw [HTK.out, encTs_append, show 3 + 2 * (j + 1) = n + 2 by rw [HN.out]; omega]
          exact ho5
        obtain ⟨A5, c5, rfl, _, _, _⟩ := ho5.out
        have HO6 := Lib.hid ho6
        have HN5 := Lib.hid hn5
        clear ho6 hn5 ho5 hno5 ho3 hm5 hm3 hmw3
        go_wp2_with fail
        go_roundw
        case rel => exact ⟨j + 1, by go_num, by omega, HO6.out, hm5w, HN5.out⟩
        case measure => simp [intOf]; omega
    · have hje : j = F.length := by omega
      subst hje
      have hkt : [a, b, cc] ++ keyUp G H F.length = keyT a b cc G H := by unfold keyT; rw [HGL.out]
      rw [hkt] at hov
      have hkl : 3 + 2 * F.length = (keyT a b cc G H).length := by rw [keyT_length, HGL.out]
      rw [hkl] at hov
      obtain ⟨A5, c5, rfl, hrt⟩ := hov.nilD0
      have hsz := keyT_short HA.out HB.out HC.out HS.out H
      have HE := Lib.hid (encode_calls (keyT a b cc G H) A5 c5 wr hrt (by rw [← hkl]; omega) (fun s hs => by have := hsz s hs; omega) (keyT_enc HA.out HB.out HC.out HS.out H))
      obtain ⟨n, hn⟩ : ∃ n, n = (keyT a b cc G H).length := ⟨_, rfl⟩
      clear hov hrt hkt hsz
      rw [← hn] at HE hkl ⊢
      clear hn hkl
      go_wp2_with fail
      refine HE.out.mono ?_
      rintro e w6 ⟨v6, rfl, ho6, hm6, hn6⟩
      have hmw := hm.then0 hm6
      have HO6 := Lib.hid ho6
      have HN6 : Hid (∀ g, v6.ownBlock = some g → w.heap.size ≤ g) := Lib.hid fun g hg => Nat.le_trans hm.size (hn6 g hg)
      clear ho6 hn6 HE
      go_wp2_with fail
      go_ret
      exact ⟨_, rfl, HO6.out, hmw, HN6.out⟩
/-- A text's bytes, in a new block. -/
theorem kconv (b : List UInt8) (w : World) (hb : b.length ≤ 1099511627776) : ∃ wv cap, (convert 9 33 (.string (strOf b))).run Tryd.prog w = .ok (.slice (some ⟨w.heap.size, 0, none⟩) b.length cap) wv ∧ Rd wv 1 (some ⟨w.heap.size, 0, none⟩) b.length (encB b) ∧ Mod NoneB w wv ∧ b.length ≤ cap := by
  have h1 := kconv_bytes (strOf b) w
  have h2 := kbytes_rd w (strOf b) (by rw [strOf_size]; omega)
  have h3 := grownCap_ge w (strOf b).size 0 5
  rw [data_strOf] at h2
  rw [strOf_size] at h1 h3
  exact ⟨_, _, h1, h2, kbytes_mod w _ _, h3⟩
/-- What was packed, without a Face. -/
def packB (kb : List UInt8) (ds : List Dg) : List UInt8 := encL [strOf kb, strOf (encL (diagT ds)), zeroB, noB]
structure PkOk (kb : List UInt8) (ds : List Dg) : Prop where
  k : kb.length ≤ 1000000
  d : SmallD ds
  p : ∀ d ∈ ds, 0 ≤ d.a ∧ 0 ≤ d.c
theorem PkOk.len {kb : List UInt8} {ds : List Dg} (h : PkOk kb ds) : (encL (diagT ds)).length ≤ 16400004 ∧ (packB kb ds).length ≤ 17400100 := by
  have h1 := encL_short (t := diagT ds) 4000 4096 (by rw [diagT_length]; have := h.d.1; omega) h.d.texts.1
  have hk := h.k
  refine ⟨by omega, ?_⟩
  unfold packB
  rw [encL_length]
  simp only [List.map_cons, List.map_nil, List.sum_cons, List.sum_nil, strOf_size]
  have e1 : zeroB.size = 1 := rfl
  have e2 : noB.size = 0 := rfl
  omega
theorem PkOk.dec {kb : List UInt8} {ds : List Dg} (h : PkOk kb ds) : decDg (encL (diagT ds)) = some ds := by
  unfold decDg
  rw [decL_encL _ (by rw [diagT_length]; have := h.d.1; omega) (fun s hs => by have := h.d.texts.1 s hs; omega)]
  exact quadUp_diagT ds (fun d hd => ⟨(h.d.2 d hd).1, h.p d hd⟩)
theorem PkOk.decp {kb : List UInt8} {ds : List Dg} (h : PkOk kb ds) : decL (packB kb ds) = some [strOf kb, strOf (encL (diagT ds)), zeroB, noB] := by
  have h1 := h.len.1
  have h2 := h.k
  refine decL_encL _ (by simp) (fun s hs => ?_)
  simp only [List.mem_cons, List.not_mem_nil, or_false] at hs
  rcases hs with rfl | rfl | rfl | rfl
  · rw [strOf_size]; omega
  · rw [strOf_size]; omega
  · decide
  · decide
/-- What Open tells of what was packed. -/
def KopE (kb q : List UInt8) (ds : List Dg) (w : World) (e : Ending) (w' : World) : Prop :=
  ∃ v, e = .returned (.tuple #[v, .slice none 0 0, .bool false, .bool (decide (kb = q))]) ∧ Own w' 27 4 v (if kb = q then ds else []).length (encDs (if kb = q then ds else [])) ∧ Mod NoneB w w' ∧ (∀ g, v.ownBlock = some g → w.heap.size ≤ g)
theorem results_tmp4 {fn : Func} {t u v x : Tmp} (h : fn.results = #[.tmp t, .tmp u, .tmp v, .tmp x]) (tmps : Array Value) (P : Program) (w : World) :
    (results fn tmps).run P w = .ok (.tuple #[tmps.getD t undef, tmps.getD u undef, tmps.getD v undef, tmps.getD x undef]) w := by
  simp [results, h]

set_option maxHeartbeats 4000000 in
set_option maxRecDepth 100000 in
theorem kopen_calls (kb q : List UInt8) (ds : List Dg) (A : Option Addr) (c : Nat) (w : World) (ok : PkOk kb ds) (hq : Rd w 1 A q.length (encB q)) (ht : TabW w) (he : ErrW w) :
    Calls Tryd.prog 36 #[.string (strOf (packB kb ds)), .slice A q.length c] w (KopE kb q ds w) := by
  have hl := ok.len
  obtain ⟨wv, cap, hcv, hrv, hmv, hcap⟩ := kconv (packB kb ds) w (by omega)
  have hde := decode_calls (packB kb ds) (some ⟨w.heap.size, 0, none⟩) cap wv hrv (by omega) hcap
  rw [ok.decp] at hde
  have HDE := Lib.hid hde
  have HOK := Lib.hid ok
  have HL := Lib.hid hl
  obtain ⟨B, hB⟩ : ∃ B, B = (packB kb ds).length := ⟨_, rfl⟩
  rw [← hB] at hcv HDE
  clear hde hrv hcap hl ok hB
  go_enter Tryd.func36, Tryd.ntmps36
  go_wp2_with fail
  refine HDE.out.mono ?_
  rintro e w2 ⟨v2, rfl, ho2, hm2, hn2⟩
  have hw2 := hmv.then0 hm2
  replace ho2 : Own w2 9 1 v2 4 (encTs [strOf kb, strOf (encL (diagT ds)), zeroB, noB]) := ho2
  obtain ⟨g, cg, hvg⟩ := ho2.addrOf (by decide)
  subst hvg
  have k0 : w2.cell? ⟨g, 0, none⟩ = some (.string (strOf kb)) := Own.cellAt (n := 4) ho2 0 _ rfl
  have k1 : w2.cell? ⟨g, 1, none⟩ = some (.string (strOf (encL (diagT ds)))) := Own.cellAt (n := 4) ho2 1 _ rfl
  have k2 : w2.cell? ⟨g, 2, none⟩ = some (.string zeroB) := Own.cellAt (n := 4) ho2 2 _ rfl
  have k3 : w2.cell? ⟨g, 3, none⟩ = some (.string noB) := Own.cellAt (n := 4) ho2 3 _ rfl
  have hcq : ∀ k, (convert 33 9 (.slice A q.length c)).run Tryd.prog (w2.drewN k) = .ok (.string (strOf q)) (w2.drewN k) := fun k => conv_str ((hq.mod0 hw2).mod0 ((Mod.refl NoneB w2).drewN k))
  have e0 : errT (some [strOf kb, strOf (encL (diagT ds)), zeroB, noB]) = 0 := rfl
  rw [e0]
  have hw2k : ∀ k, Mod NoneB w (w2.drewN k) := fun k => hw2.drewN k
  by_cases heq : kb = q
  · subst heq
    have HW2K := Lib.hid hw2k
    have hd2k : ∀ k, Mod NoneB w2 (w2.drewN k) := fun k => (Mod.refl NoneB w2).drewN k
    have HD2K := Lib.hid hd2k
    clear ho2 hn2 e0 hw2k hd2k
    go_wp2_with fail
    go_quiet (fail)
    have hm3 := HW2K.out nq
    have hd3 := HD2K.out nq
    replace k1 := hd3.cell0 k1
    replace k2 := hd3.cell0 k2
    replace k3 := hd3.cell0 k3
    generalize w2.drewN nq = w3 at hm3 hd3 k1 k2 k3 ⊢
    obtain ⟨wy, cy, hcy, hry, hmy, hcapy⟩ := kconv (encL (diagT ds)) w3 (by have := HL.out.1; omega)
    have hmw := hm3.then0 hmy
    have hdd := dgdecode_calls (encL (diagT ds)) (some ⟨w3.heap.size, 0, none⟩) cy wy hry (by have := HL.out.1; omega) hcapy (ht.mod0 hmw) (he.mod0 hmw)
    rw [HOK.out.dec] at hdd
    have HDD := Lib.hid hdd
    replace k2 := hmy.cell0 k2
    replace k3 := hmy.cell0 k3
    have bz : zeroB.toList = [48] := (ba_toList zeroB).trans rfl
    have bn : noB.toList.isEmpty = true := by rw [ba_toList]; rfl
    clear hcq hdd hry hcapy k0 hm3 hd3 HW2K HD2K hmv hcv
    go_wp2_with fail
    refine HDD.out.mono ?_
    rintro e w4 ⟨v4, rfl, ho4, hm4, hn4⟩
    have e4 : errG (some ds) = 0 := rfl
    rw [e4]
    have hmw4 := hmw.then0 hm4
    replace ho4 : Own w4 27 4 v4 ds.length (encDs ds) := ho4
    have HO4 := Lib.hid ho4
    have HN4 : Hid (∀ g, v4.ownBlock = some g → w.heap.size ≤ g) := Lib.hid fun g hg => Nat.le_trans hmw.size (hn4 g hg)
    obtain ⟨A4, c4, rfl, _⟩ := ho4.nilD0
    replace k2 := hm4.cell0 k2
    replace k3 := hm4.cell0 k3
    clear ho4 hn4 HDD e4 hmy hmw
    go_wp2_with fail
    (try simp only [Exit.inBlock, Exit.then])
    refine bodyPost_ret (results_tmp4 rfl _ _ _) rfl ?_
    refine ⟨_, by rw [decide_eq_true rfl]; rfl, ?_, hmw4, HN4.out⟩
    rw [if_pos rfl]
    exact HO4.out
  · have HEQ := Lib.hid heq
    have hnb : ((strOf kb).toList == (strOf q).toList) = false := by
      rw [beq_toList]
      exact decide_eq_false fun e => heq (strOf_inj e)
    have HW2K := Lib.hid hw2k
    clear ho2 hn2 e0 heq hw2k
    go_wp2_with fail
    go_quiet (fail)
    go_wp2_with fail
    (try simp only [Exit.inBlock, Exit.then])
    refine bodyPost_ret (results_tmp4 rfl _ _ _) rfl ?_
    refine ⟨_, by rw [decide_eq_false HEQ.out]; rfl, ?_, HW2K.out _, fun g hg => by simp [Value.ownBlock] at hg⟩
    rw [if_neg HEQ.out]
    exact Own.nil _ _ _
end Go.Proofs.YtdmdiokfpbmnaaaDoor

