/- key.shown, key.Key, key.Pack, key.Open of what was packed. -/
import Derived.Lib.ConvBytes
import Derived.Laws.MakeOwn
import Derived.Test.YtkklofnabmdmfaaGreatDoorDgWQq
import Derived.Test.YtkklofnabmdmfaaGreatDoorKyPQq
namespace Go.Proofs.YtkklofnabmdmfaaGreatDoor
open Go.RowKit
set_option linter.unusedVariables false

theorem kbytes_mod (w : World) (e : TypeId) (s : ByteArray) : Mod NoneB w (Lib.bytesWorld w e s) :=
  (((Mod.refl NoneB w).drew).alloc _).trans_new (freeze_mod _ w.heap.size _) (fun k hk => .inr (by rw [hk]; exact Nat.le_refl _))
theorem kbytes_rd (w : World) (s : ByteArray) (hs : s.size ≤ 9223372036854775807) : Rd (Lib.bytesWorld w 5 s) 1 (some ⟨w.heap.size, 0, none⟩) s.data.toList.length (encB s.data.toList) := by
  refine ⟨by rw [encB_length]; omega, by rw [size_data]; exact hs, fun _ => ⟨_, rfl, fun j u hu => ?_⟩⟩
  have hj : j < s.data.toList.length := by
    have := (List.getElem?_eq_some_iff.1 hu).1
    rw [encB_length] at this
    exact this
  rw [add_off]
  have e : (encB s.data.toList)[j]? = some (.int .u8 s.data.toList[j].toNat) := by unfold encB; rw [List.getElem?_map, List.getElem?_eq_getElem hj]; rfl
  rw [e] at hu
  injection hu with hu
  subst hu
  rw [show 0 + j = j from Nat.zero_add j, Lib.bytesWorld_cell _ _ _ _ (by rw [← size_data]; exact hj)]
  rw [List.getD_eq_getElem?_getD, List.getElem?_eq_getElem hj]
  rfl
theorem kconv_bytes (s : ByteArray) (w : World) : (convert 9 25 (.string s)).run Tryz.prog w = .ok (.slice (some ⟨w.heap.size, 0, none⟩) s.size (grownCap w s.size 0 5)) (Lib.bytesWorld w 5 s) :=
  Lib.run_convert_string_bytes w _ _ _ s Tryz.underlying9 Tryz.underlying25 Tryz.underlying5

/-- A text's bytes, in a new block. -/
theorem kconv (b : List UInt8) (w : World) (hb : b.length ≤ 1099511627776) : ∃ wv cap, (convert 9 25 (.string (strOf b))).run Tryz.prog w = .ok (.slice (some ⟨w.heap.size, 0, none⟩) b.length cap) wv ∧ Rd wv 1 (some ⟨w.heap.size, 0, none⟩) b.length (encB b) ∧ Mod NoneB w wv ∧ b.length ≤ cap := by
  have h1 := kconv_bytes (strOf b) w
  have h2 := kbytes_rd w (strOf b) (by rw [strOf_size]; omega)
  have h3 := grownCap_ge w (strOf b).size 0 5
  rw [data_strOf] at h2
  rw [strOf_size] at h1 h3
  exact ⟨_, _, h1, h2, kbytes_mod w _ _, h3⟩
/-- What was packed, without a Face. -/
def packB (kb : List UInt8) (ds : List Dg) : List UInt8 := encL [strOf kb, strOf (encL (diagT ds)), zeroB, noB]
structure PkOk (kb : List UInt8) (ds : List Dg) : Prop where
  k : kb.length ≤ 1000000
  d : SmallD ds
  p : ∀ d ∈ ds, 0 ≤ d.a ∧ 0 ≤ d.c
theorem PkOk.len {kb : List UInt8} {ds : List Dg} (h : PkOk kb ds) : (encL (diagT ds)).length ≤ 16400004 ∧ (packB kb ds).length ≤ 17400100 := by
  have h1 := encL_short (t := diagT ds) 4000 4096 (by rw [diagT_length]; have := h.d.1; omega) h.d.texts.1
  have hk := h.k
  refine ⟨by omega, ?_⟩
  unfold packB
  rw [encL_length]
  simp only [List.map_cons, List.map_nil, List.sum_cons, List.sum_nil, strOf_size]
  have e1 : zeroB.size = 1 := rfl
  have e2 : noB.size = 0 := rfl
  omega
theorem PkOk.dec {kb : List UInt8} {ds : List Dg} (h : PkOk kb ds) : decDg (encL (diagT ds)) = some ds := by
  unfold decDg
  rw [decL_encL _ (by rw [diagT_length]; have := h.d.1; omega) (fun s hs => by have := h.d.texts.1 s hs; omega)]
  exact quadUp_diagT ds (fun d hd => ⟨(h.d.2 d hd).1, h.p d hd⟩)
theorem PkOk.decp {kb : List UInt8} {ds : List Dg} (h : PkOk kb ds) : decL (packB kb ds) = some [strOf kb, strOf (encL (diagT ds)), zeroB, noB] := by
  have h1 := h.len.1
  have h2 := h.k
  refine decL_encL _ (by simp) (fun s hs => ?_)
  simp only [List.mem_cons, List.not_mem_nil, or_false] at hs
  rcases hs with rfl | rfl | rfl | rfl
  · rw [strOf_size]; omega
  · rw [strOf_size]; omega
  · decide
  · decide
/-- What Open tells of what was packed. -/
def KopE (kb q : List UInt8) (ds : List Dg) (w : World) (e : Ending) (w' : World) : Prop :=
  ∃ v, e = .returned (.tuple #[v, .slice none 0 0, .bool false, .bool (decide (kb = q))]) ∧ Own w' 49 4 v (if kb = q then ds else []).length (encDs (if kb = q then ds else [])) ∧ Mod NoneB w w' ∧ (∀ g, v.ownBlock = some g → w.heap.size ≤ g)
theorem results_tmp4 {fn : Func} {t u v x : Tmp} (h : fn.results = #[.tmp t, .tmp u, .tmp v, .tmp x]) (tmps : Array Value) (P : Program) (w : World) :
    (results fn tmps).run P w = .ok (.tuple #[tmps.getD t undef, tmps.getD u undef, tmps.getD v undef, tmps.getD x undef]) w := by
  simp [results, h]

set_option maxHeartbeats 4000000 in
set_option maxRecDepth 100000 in
theorem kopen_calls (kb q : List UInt8) (ds : List Dg) (A : Option Addr) (c : Nat) (w : World) (ok : PkOk kb ds) (hq : Rd w 1 A q.length (encB q)) (ht : TabW w) (he : ErrW w) :
    Calls Tryz.prog 27 #[.string (strOf (packB kb ds)), .slice A q.length c] w (KopE kb q ds w) := by
  have hl := ok.len
  obtain ⟨wv, cap, hcv, hrv, hmv, hcap⟩ := kconv (packB kb ds) w (by omega)
  have hde := decode_calls (packB kb ds) (some ⟨w.heap.size, 0, none⟩) cap wv hrv (by omega) hcap
  rw [ok.decp] at hde
  have HDE := Lib.hid hde
  have HOK := Lib.hid ok
  have HL := Lib.hid hl
  obtain ⟨B, hB⟩ : ∃ B, B = (packB kb ds).length := ⟨_, rfl⟩
  rw [← hB] at hcv HDE
  clear hde hrv hcap hl ok hB
  go_enter Tryz.func27, Tryz.ntmps27
  go_wp2_with fail
  refine HDE.out.mono ?_
  rintro e w2 ⟨v2, rfl, ho2, hm2, hn2⟩
  have hw2 := hmv.then0 hm2
  replace ho2 : Own w2 9 1 v2 4 (encTs [strOf kb, strOf (encL (diagT ds)), zeroB, noB]) := ho2
  obtain ⟨g, cg, hvg⟩ := ho2.addrOf (by decide)
  subst hvg
  have k0 : w2.cell? ⟨g, 0, none⟩ = some (.string (strOf kb)) := Own.cellAt (n := 4) ho2 0 _ rfl
  have k1 : w2.cell? ⟨g, 1, none⟩ = some (.string (strOf (encL (diagT ds)))) := Own.cellAt (n := 4) ho2 1 _ rfl
  have k2 : w2.cell? ⟨g, 2, none⟩ = some (.string zeroB) := Own.cellAt (n := 4) ho2 2 _ rfl
  have k3 : w2.cell? ⟨g, 3, none⟩ = some (.string noB) := Own.cellAt (n := 4) ho2 3 _ rfl
  have hcq : ∀ k, (convert 25 9 (.slice A q.length c)).run Tryz.prog (w2.drewN k) = .ok (.string (strOf q)) (w2.drewN k) := fun k => conv_str ((hq.mod0 hw2).mod0 ((Mod.refl NoneB w2).drewN k))
  have e0 : errT (some [strOf kb, strOf (encL (diagT ds)), zeroB, noB]) = 0 := rfl
  rw [e0]
  have hw2k : ∀ k, Mod NoneB w (w2.drewN k) := fun k => hw2.drewN k
  by_cases heq : kb = q
  · subst heq
    have HW2K := Lib.hid hw2k
    have hd2k : ∀ k, Mod NoneB w2 (w2.drewN k) := fun k => (Mod.refl NoneB w2).drewN k
    have HD2K := Lib.hid hd2k
    clear ho2 hn2 e0 hw2k hd2k
    go_wp2_with fail
    go_quiet (fail)
    have hm3 := HW2K.out nq
    have hd3 := HD2K.out nq
    replace k1 := hd3.cell0 k1
    replace k2 := hd3.cell0 k2
    replace k3 := hd3.cell0 k3
    generalize w2.drewN nq = w3 at hm3 hd3 k1 k2 k3 ⊢
    obtain ⟨wy, cy, hcy, hry, hmy, hcapy⟩ := kconv (encL (diagT ds)) w3 (by have := HL.out.1; omega)
    have hmw := hm3.then0 hmy
    have hdd := dgdecode_calls (encL (diagT ds)) (some ⟨w3.heap.size, 0, none⟩) cy wy hry (by have := HL.out.1; omega) hcapy (ht.mod0 hmw) (he.mod0 hmw)
    rw [HOK.out.dec] at hdd
    have HDD := Lib.hid hdd
    replace k2 := hmy.cell0 k2
    replace k3 := hmy.cell0 k3
    have bz : zeroB.toList = [48] := (ba_toList zeroB).trans rfl
    have bn : noB.toList.isEmpty = true := by rw [ba_toList]; rfl
    clear hcq hdd hry hcapy k0 hm3 hd3 HW2K HD2K hmv hcv
    go_wp2_with fail
    refine HDD.out.mono ?_
    rintro e w4 ⟨v4, rfl, ho4, hm4, hn4⟩
    have e4 : errG (some ds) = 0 := rfl
    rw [e4]
    have hmw4 := hmw.then0 hm4
    replace ho4 : Own w4 49 4 v4 ds.length (encDs ds) := ho4
    have HO4 := Lib.hid ho4
    have HN4 : Hid (∀ g, v4.ownBlock = some g → w.heap.size ≤ g) := Lib.hid fun g hg => Nat.le_trans hmw.size (hn4 g hg)
    obtain ⟨A4, c4, rfl, _⟩ := ho4.nilD0
    replace k2 := hm4.cell0 k2
    replace k3 := hm4.cell0 k3
    clear ho4 hn4 HDD e4 hmy hmw
    go_wp2_with fail
    (try simp only [Exit.inBlock, Exit.then])
    refine bodyPost_ret (results_tmp4 rfl _ _ _) rfl ?_
    refine ⟨_, by rw [decide_eq_true rfl]; rfl, ?_, hmw4, HN4.out⟩
    rw [if_pos rfl]
    exact HO4.out
  · have HEQ := Lib.hid heq
    have hnb : ((strOf kb).toList == (strOf q).toList) = false := by
      rw [beq_toList]
      exact decide_eq_false fun e => heq (strOf_inj e)
    have HW2K := Lib.hid hw2k
    clear ho2 hn2 e0 heq hw2k
    go_wp2_with fail
    go_quiet (fail)
    go_wp2_with fail
    (try simp only [Exit.inBlock, Exit.then])
    refine bodyPost_ret (results_tmp4 rfl _ _ _) rfl ?_
    refine ⟨_, by rw [decide_eq_false HEQ.out]; rfl, ?_, HW2K.out _, fun g hg => by simp [Value.ownBlock] at hg⟩
    rw [if_neg HEQ.out]
    exact Own.nil _ _ _
end Go.Proofs.YtkklofnabmdmfaaGreatDoor
