/- The document's DecodeDiags. -/
import Derived.Test.YtdmdiokfpbmnaaaDoorDaY
import Derived.Test.YtdmdiokfpbmnaaaDoorKyP
namespace Go.Proofs.YtdmdiokfpbmnaaaDoor
open Go.RowKit
set_option linter.unusedVariables false

theorem quadB_step {t r : List ByteArray} {i : Nat} {ls : List Dg} {m a c n : ByteArray} (h : quadB t = ls ++ quadB (t.drop i)) (hd : t.drop i = m :: a :: c :: n :: r) :
    quadB t = (ls ++ [⟨m, bigV a.data.toList, bigV c.data.toList, n⟩]) ++ quadB r := by
  rw [h, hd, List.append_assoc]
  rfl
theorem diagT_sizeK {l : List Dg} {k : Nat} (hk : 21 ≤ k) (h : ∀ d ∈ l, OkD d ∧ d.m.size ≤ k ∧ d.n.size ≤ k) : ∀ s ∈ diagT l, s.size ≤ k := by
  intro s hs
  unfold diagT at hs
  obtain ⟨d, hd, hs⟩ := List.mem_flatMap.1 hs
  obtain ⟨⟨k1, k2⟩, k3, k4⟩ := h d hd
  simp only [List.mem_cons, List.not_mem_nil, or_false] at hs
  have d1 := digs_size k1
  have d2 := digs_size k2
  rcases hs with rfl | rfl | rfl | rfl <;> omega
set_option maxHeartbeats 8000000 in
set_option maxRecDepth 100000 in
theorem rdecodeD_calls (b : List UInt8) (B : Option Addr) (bc : Nat) (w : World) (hr : Rd w 1 B b.length (encB b)) (hlb : b.length ≤ 100000) (hbc : b.length ≤ bc) :
    Calls Tryd.prog 18 #[.slice B b.length bc] w (DiagsE (rdecDg b) w) := by
  have HBG : Hid (∀ s W, s.size ≤ 1073741824 → Calls Tryd.prog 34 #[.string s] W fun e w' => e = .returned (.int .i64 (bigV s.data.toList : Nat)) ∧ Mod NoneB W w') := Lib.hid fun s W hs => big_calls s hs W
  have HRD := Lib.hid hr
  go_enter Tryd.func18, Tryd.ntmps18
  go_wp2_with fail
  refine (rdecode_calls b B bc w hr (by omega) hbc).mono ?_
  rintro e w2 ⟨v2, rfl, ho2, hm2, hn2⟩
  clear hr
  cases hd : decL b with
  | none =>
    rw [hd] at ho2
    have hno : rdecDg b = none := by unfold rdecDg; rw [hd]; rfl
    have HNO := Lib.hid hno
    obtain ⟨A2, c2, rfl, _⟩ := ho2.nilD0
    have e2 : errT none = 2 := rfl
    rw [e2]
    clear hd hno ho2 hn2 e2
    go_wp2_with fail
    go_ret2
    rw [HNO.out]
    exact DiagsE.none hm2
  | some t =>
    rw [hd] at ho2
    have hfx : rdecDg b = if t.length % 4 = 0 ∧ encL (diagT (quadB t)) = b then some (quadB t) else none := by unfold rdecDg; rw [hd]; rfl
    have e2 : errT (some t) = 0 := rfl
    rw [e2]
    obtain ⟨htz, htl⟩ := decL_size hd
    have HTZ : Hid (∀ s ∈ t, s.size ≤ 100000) := Lib.hid (fun s hs => by have := htz s hs; omega)
    have htl2 : t.length ≤ 100000 := by omega
    have HFX := Lib.hid hfx
    obtain ⟨A2, c2, hv2, hrt⟩ := ho2.nilD0
    replace hv2 : v2 = .slice A2 t.length c2 := hv2
    replace hrt : Rd w2 1 A2 t.length (encTs t) := hrt
    subst hv2
    clear hd e2 hfx ho2 hn2 htz
    by_cases hev : t.length % 4 = 0
    · have b1 : (((t.length : Int) % 4) == 0) = true := by simp; omega
      have b2 : (((t.length : Int) % 4) != 0) = false := by simp; omega
      go_wp2_with fail
      clear b1 b2
      go_loopw [6, 7, 8] (fun v x _ wr => ∃ (i : Nat) (ls : List Dg), x = .int .i64 i ∧ i = 4 * ls.length ∧ i ≤ t.length ∧ quadB t = ls ++ quadB (t.drop i) ∧ Own wr 27 4 v ls.length (encDs ls) ∧ Mod NoneB w2 wr ∧ (∀ g, v.ownBlock = some g → w2.heap.size ≤ g)) (fun _ x _ _ => t.length - (intOf x).toNat)
      case atStart => exact ⟨0, [], rfl, rfl, by omega, by simp, Own.nil w2 27 4, Mod.refl _ _, fun g h => by simp [Value.ownBlock] at h⟩
      case round =>
        obtain ⟨i, ls, rfl, hi4, hi, hq, hov, hmi, hnv⟩ := hrel
        have HNV := Lib.hid hnv
        clear hnv
        by_cases hlt : i < t.length
        · have hi3 : i + 3 < t.length := by omega
          have hdr := drop4 t i hi3
          obtain ⟨ad, hA, q0, _⟩ := Rd.elem (f := encT) (fun _ => rfl) hrt (by decide) i hlt
          subst hA
          have k0 := q0 _ rfl
          rw [Nat.mul_one] at k0
          have kk : ∀ k (h : i + k < t.length), 0 < k → w2.cell? ⟨ad.block, ad.off + (i + k), none⟩ = some (.string t[i + k]) := fun k h hk => by
            obtain ⟨ad', hA', q1, _⟩ := Rd.elem (f := encT) (fun _ => rfl) hrt (by decide) (i + k) h
            injection hA' with hA'
            subst hA'
            have k1 := q1 _ rfl
            rw [Nat.mul_one, add_plus _ _ _ hk] at k1
            exact k1
          have k1 := kk 1 (by omega) (by decide)
          have k2 := kk 2 (by omega) (by decide)
          have k3 := kk 3 hi3 (by decide)
          have z1 := HTZ.out t[i + 1] (List.getElem_mem _)
          have z2 := HTZ.out t[i + 2] (List.getElem_mem _)
          obtain ⟨sm, hsm⟩ : ∃ s, s = t[i] := ⟨_, rfl⟩
          obtain ⟨sa, hsa⟩ : ∃ s, s = t[i + 1] := ⟨_, rfl⟩
          obtain ⟨sc, hsc⟩ : ∃ s, s = t[i + 2] := ⟨_, rfl⟩
          obtain ⟨sn, hsn⟩ : ∃ s, s = t[i + 3] := ⟨_, rfl⟩
          rw [← hsm, ← hsa, ← hsc, ← hsn] at hdr
          rw [← hsm] at k0
          rw [← hsa] at k1 z1
          rw [← hsc] at k2 z2
          rw [← hsn] at k3
          have hst := quadB_step hq hdr
          obtain ⟨va, hva⟩ : ∃ v, v = bigV sa.data.toList := ⟨_, rfl⟩
          obtain ⟨vc, hvc⟩ : ∃ v, v = bigV sc.data.toList := ⟨_, rfl⟩
          have hat1 := fun W => HBG.out sa W (by omega)
          have hat2 := fun W => HBG.out sc W (by omega)
          rw [← hva] at hat1 hst
          rw [← hvc] at hat2 hst
          have HA1 := Lib.hid hat1
          have HA2 := Lib.hid hat2
          have HST := Lib.hid hst
          have hmd : Mod NoneB w2 wr.drew := hmi.drew
          have c0 := hmi.cell0 k0
          have c1 := hmi.cell0 k1
          have c2 := hmi.cell0 k2
          have c3 := hmi.cell0 k3
          have d0 := hmd.cell0 k0
          have d1 := hmd.cell0 k1
          have d2 := hmd.cell0 k2
          have d3 := hmd.cell0 k3
          have hmd0 : Mod NoneB wr wr.drew := (Mod.refl _ _).drew
          have e1 : IntKind.i64.wrap ((i : Int) + 1) = i + 1 := IntWalk.i64_in _ (by omega)
          have e2 : IntKind.i64.wrap ((i : Int) + 2) = i + 2 := IntWalk.i64_in _ (by omega)
          have e3 : IntKind.i64.wrap ((i : Int) + 3) = i + 3 := IntWalk.i64_in _ (by omega)
          have e4 : IntKind.i64.wrap ((i : Int) + 4) = i + 4 := IntWalk.i64_in _ (by omega)
          have t1 : ((i : Int) + 1).toNat = i + 1 := by omega
          have t2 : ((i : Int) + 2).toNat = i + 2 := by omega
          have t3 : ((i : Int) + 3).toNat = i + 3 := by omega
          have g0 : (0 : Int) ≤ i := by omega
          have g1 : (0 : Int) ≤ i + 1 := by omega
          have g2 : (0 : Int) ≤ i + 2 := by omega
          have g3 : (0 : Int) ≤ i + 3 := by omega
          have l0 : (i : Int) < t.length := by omega
          have l1 : (i : Int) + 1 < t.length := by omega
          have l2 : (i : Int) + 2 < t.length := by omega
          have l3 : (i : Int) + 3 < t.length := by omega
          have HI0 := Lib.hid hi4
          have HOV := Lib.hid hov
          clear kk q0 hsm hsa hsc hsn hva hvc hat1 hat2 hdr hq z1 z2 hov hi4 hst k0 k1 k2 k3
          go_wp2_with fail
          go_region_held3 (fun w' => w'.cell? (ad.add i) = some (.string sm) ∧ w'.cell? ⟨ad.block, ad.off + (i + 1), none⟩ = some (.string sa) ∧ w'.cell? ⟨ad.block, ad.off + (i + 2), none⟩ = some (.string sc) ∧ w'.cell? ⟨ad.block, ad.off + (i + 3), none⟩ = some (.string sn)) (first | exact ⟨d0, d1, d2, d3⟩ | (refine ⟨Mod.cell0 (w := wr) ?_ c0, Mod.cell0 (w := wr) ?_ c1, Mod.cell0 (w := wr) ?_ c2, Mod.cell0 (w := wr) ?_ c3⟩ <;> (repeat' (first | exact HM4 | exact HM3 | exact Mod.refl _ _ | exact hmd0 | with_reducible apply Mod.alloc | with_reducible apply Mod.drew | (with_reducible refine Mod.setCell ?_ (fun h => absurd h (by dsimp only; omega)) _)))))
            (first
              | (go_at_call 34; (with_reducible refine (HA1.out _).mono ?_); rintro ez w3 ⟨rfl, hm3⟩
                 have HM3 : Mod NoneB wr w3 := by first | exact ((Mod.refl NoneB wr).drew).then0 hm3 | exact (((Mod.refl NoneB wr).alloc _).drew).then0 hm3
                 have y0 := HM3.cell0 c0; have y1 := HM3.cell0 c1; have y2 := HM3.cell0 c2; have y3 := HM3.cell0 c3
                 have hsz3 := HM3.size)
              | (go_at_call 34; (with_reducible refine (HA2.out _).mono ?_); rintro ez w4 ⟨rfl, hm4⟩
                 have HM4 : Mod NoneB wr w4 := by first | exact HM3.then0 hm4 | exact (HM3.alloc _).then0 hm4
                 have z0 := HM4.cell0 c0; have z1 := HM4.cell0 c1; have z2 := HM4.cell0 c2; have z3 := HM4.cell0 c3
                 have hsz4 := HM4.size
                 (try (have hbA : w4.heap[wr.heap.size]? = some (.cells #[.string ⟨#[]⟩, .int .i64 0, .int .i64 0, .string ⟨#[]⟩] 27) := hm4.blk (hm3.blk (show (wr.alloc (.cells #[.string ⟨#[]⟩, .int .i64 0, .int .i64 0, .string ⟨#[]⟩] 27)).drew.heap[wr.heap.size]? = some (.cells #[.string ⟨#[]⟩, .int .i64 0, .int .i64 0, .string ⟨#[]⟩] 27) from heap_alloc_new wr _) (fun h => h)) (fun h => h); have a0 := blk_cell hbA 0; have a1 := blk_cell hbA 1; have a2 := blk_cell hbA 2; have a3 := blk_cell hbA 3; have fa0 := blk_frozen hbA 0; have fa1 := blk_frozen hbA 1; have fa2 := blk_frozen hbA 2; have fa3 := blk_frozen hbA 3))
                 (try (have hbB : w4.heap[w3.heap.size]? = some (.cells #[.string ⟨#[]⟩, .int .i64 0, .int .i64 0, .string ⟨#[]⟩] 27) := hm4.blk (show (w3.alloc (.cells #[.string ⟨#[]⟩, .int .i64 0, .int .i64 0, .string ⟨#[]⟩] 27)).heap[w3.heap.size]? = some (.cells #[.string ⟨#[]⟩, .int .i64 0, .int .i64 0, .string ⟨#[]⟩] 27) from heap_alloc_new w3 _) (fun h => h); have b0 := blk_cell hbB 0; have b1 := blk_cell hbB 1; have b2 := blk_cell hbB 2; have b3 := blk_cell hbB 3; have fb0 := blk_frozen hbB 0; have fb1 := blk_frozen hbB 1; have fb2 := blk_frozen hbB 2; have fb3 := blk_frozen hbB 3))))
          · have hb5 := heap_alloc_new w4 (.cells #[.string sm, .int .i64 (va : Nat), .int .i64 (vc : Nat), .string sn] 27)
            have HM5 : Mod NoneB wr (w4.alloc (.cells #[.string sm, .int .i64 (va : Nat), .int .i64 (vc : Nat), .string sn] 27)) := HM4.alloc _
            generalize w4.alloc (.cells #[.string sm, .int .i64 (va : Nat), .int .i64 (vc : Nat), .string sn] 27) = W5 at hb5 HM5 ⊢
            generalize w4.heap.size = P at hb5 ⊢
            have b0 : W5.cell? ⟨P, 0, none⟩ = some (.string sm) := (blk_cell hb5 0).trans rfl
            have b1 : W5.cell? ⟨P, 1, none⟩ = some (.int .i64 (va : Nat)) := (blk_cell hb5 1).trans rfl
            have b2 : W5.cell? ⟨P, 2, none⟩ = some (.int .i64 (vc : Nat)) := (blk_cell hb5 2).trans rfl
            have b3 : W5.cell? ⟨P, 3, none⟩ = some (.string sn) := (blk_cell hb5 3).trans rfl
            have hal : Mod NoneB W5 (W5.alloc (.cells #[.string sm, .int .i64 (va : Nat), .int .i64 (vc : Nat), .string sn] 27)) := (Mod.refl NoneB W5).alloc _
            have hox := (HOV.out.mod0 HM5).mod0 hal
            have hus := Tryd.underlying22
            have hnx : 0 < 1 → ∃ a, (some ⟨W5.heap.size, 0, none⟩ : Option Addr) = some a ∧ ∀ (j : Nat) u, (encDs [(⟨sm, (va : Int), (vc : Int), sn⟩ : Dg)])[j]? = some u → (W5.alloc (.cells #[.string sm, .int .i64 (va : Nat), .int .i64 (vc : Nat), .string sn] 27)).cell? (a.add j) = some u := (rdBlk (sz := 4) (n := 1) (heap_alloc_new W5 (.cells #[.string sm, .int .i64 (va : Nat), .int .i64 (vc : Nat), .string sn] 27)) rfl (by omega)).2.2
            have hls : ls.length ≤ 100000 := by have := HI0.out; omega
            have h48 : (ls.length + 1) * 48 ≤ 140737488355328 := by omega
            have hmi5 := (hmi.then0 HM5).then0 hal
            clear hb5 HM5 HM3 HM4 hm3 hm4 y0 y1 y2 y3 z0 z1 z2 z3 c0 c1 c2 c3 d0 d1 d2 d3 hmd hmd0
            go_wp2_with (at_builtin; refine wpList_append rfl (.tmp 50) (.tmp 52) 22 rfl 27 _ 4 48 hus tiD rfl (by decide) (by decide) _ ls.length (encDs ls) rfl hox (some ⟨W5.heap.size, 0, none⟩) 1 1 (encDs [(⟨sm, (va : Int), (vc : Int), sn⟩ : Dg)]) rfl rfl hnx (encDs_one _) h48 ?_)
            intro v6 w6 ho6 hm6 hno6
            have hm6w : Mod NoneB w2 w6 := hmi5.trans_new hm6 (fun k hk => .inr (HNV.out k hk))
            have hn6 : ∀ g, v6.ownBlock = some g → w2.heap.size ≤ g := by
              intro g hg
              rcases hno6 with hq | ⟨b, hq, hb⟩
              · exact HNV.out g (by rw [← hq]; exact hg)
              · rw [hq] at hg
                injection hg with hg
                have h1 := hmi5.size
                omega
            have ho7 : Own w6 27 4 v6 (ls ++ [(⟨sm, (va : Int), (vc : Int), sn⟩ : Dg)]).length (encDs (ls ++ [(⟨sm, (va : Int), (vc : Int), sn⟩ : Dg)])) := by
              rw [encDs_append, List.length_append]
              exact ho6
            have HO7 := Lib.hid ho7
            have HN6 := Lib.hid hn6
            obtain ⟨A6, c6, rfl, _, _, _⟩ := ho6.out
            clear ho6 ho7 hn6 hno6 hm6 hox hnx hal hmi5 b0 b1 b2 b3
            go_wp2_with fail
            go_roundw
            case rel => exact ⟨i + 4, ls ++ [(⟨sm, (va : Int), (vc : Int), sn⟩ : Dg)], by go_num, by rw [List.length_append]; have := HI0.out; simp; omega, by omega, HST.out, HO7.out, hm6w, HN6.out⟩
            case measure => simp [intOf]; omega
          · have hb5 := setCell_blk0 (j := 3) (u := .string sn) (setCell_blk0 (j := 2) (u := .int .i64 (vc : Nat)) (setCell_blk0 (j := 1) (u := .int .i64 (va : Nat)) (setCell_blk0 (j := 0) (u := .string sm) hbB)))
            have HM5 : Mod NoneB wr ((((w4.setCell ⟨w3.heap.size, 0, none⟩ (.string sm)).setCell ⟨w3.heap.size, 1, none⟩ (.int .i64 (va : Nat))).setCell ⟨w3.heap.size, 2, none⟩ (.int .i64 (vc : Nat))).setCell ⟨w3.heap.size, 3, none⟩ (.string sn)) := (((HM4.setCell (p := ⟨w3.heap.size, 0, none⟩) (fun h => absurd h (by dsimp only; omega)) _).setCell (p := ⟨w3.heap.size, 1, none⟩) (fun h => absurd h (by dsimp only; omega)) _).setCell (p := ⟨w3.heap.size, 2, none⟩) (fun h => absurd h (by dsimp only; omega)) _).setCell (p := ⟨w3.heap.size, 3, none⟩) (fun h => absurd h (by dsimp only; omega)) _
            generalize (((w4.setCell ⟨w3.heap.size, 0, none⟩ (.string sm)).setCell ⟨w3.heap.size, 1, none⟩ (.int .i64 (va : Nat))).setCell ⟨w3.heap.size, 2, none⟩ (.int .i64 (vc : Nat))).setCell ⟨w3.heap.size, 3, none⟩ (.string sn) = W5 at hb5 HM5 ⊢
            generalize w3.heap.size = P at hb5 ⊢
            clear hbB b0 fb0 b1 fb1 b2 fb2 b3 fb3
            have b0 : W5.cell? ⟨P, 0, none⟩ = some (.string sm) := (blk_cell hb5 0).trans rfl
            have b1 : W5.cell? ⟨P, 1, none⟩ = some (.int .i64 (va : Nat)) := (blk_cell hb5 1).trans rfl
            have b2 : W5.cell? ⟨P, 2, none⟩ = some (.int .i64 (vc : Nat)) := (blk_cell hb5 2).trans rfl
            have b3 : W5.cell? ⟨P, 3, none⟩ = some (.string sn) := (blk_cell hb5 3).trans rfl
            have hal : Mod NoneB W5 (W5.alloc (.cells #[.string sm, .int .i64 (va : Nat), .int .i64 (vc : Nat), .string sn] 27)) := (Mod.refl NoneB W5).alloc _
            have hox := (HOV.out.mod0 HM5).mod0 hal
            have hus := Tryd.underlying22
            have hnx : 0 < 1 → ∃ a, (some ⟨W5.heap.size, 0, none⟩ : Option Addr) = some a ∧ ∀ (j : Nat) u, (encDs [(⟨sm, (va : Int), (vc : Int), sn⟩ : Dg)])[j]? = some u → (W5.alloc (.cells #[.string sm, .int .i64 (va : Nat), .int .i64 (vc : Nat), .string sn] 27)).cell? (a.add j) = some u := (rdBlk (sz := 4) (n := 1) (heap_alloc_new W5 (.cells #[.string sm, .int .i64 (va : Nat), .int .i64 (vc : Nat), .string sn] 27)) rfl (by omega)).2.2
            have hls : ls.length ≤ 100000 := by have := HI0.out; omega
            have h48 : (ls.length + 1) * 48 ≤ 140737488355328 := by omega
            have hmi5 := (hmi.then0 HM5).then0 hal
            clear hb5 HM5 HM3 HM4 hm3 hm4 y0 y1 y2 y3 z0 z1 z2 z3 c0 c1 c2 c3 d0 d1 d2 d3 hmd hmd0
            go_wp2_with (at_builtin; refine wpList_append rfl (.tmp 50) (.tmp 52) 22 rfl 27 _ 4 48 hus tiD rfl (by decide) (by decide) _ ls.length (encDs ls) rfl hox (some ⟨W5.heap.size, 0, none⟩) 1 1 (encDs [(⟨sm, (va : Int), (vc : Int), sn⟩ : Dg)]) rfl rfl hnx (encDs_one _) h48 ?_)
            intro v6 w6 ho6 hm6 hno6
            have hm6w : Mod NoneB w2 w6 := hmi5.trans_new hm6 (fun k hk => .inr (HNV.out k hk))
            have hn6 : ∀ g, v6.ownBlock = some g → w2.heap.size ≤ g := by
              intro g hg
              rcases hno6 with hq | ⟨b, hq, hb⟩
              · exact HNV.out g (by rw [← hq]; exact hg)
              · rw [hq] at hg
                injection hg with hg
                have h1 := hmi5.size
                omega
            have ho7 : Own w6 27 4 v6 (ls ++ [(⟨sm, (va : Int), (vc : Int), sn⟩ : Dg)]).length (encDs (ls ++ [(⟨sm, (va : Int), (vc : Int), sn⟩ : Dg)])) := by
              rw [encDs_append, List.length_append]
              exact ho6
            have HO7 := Lib.hid ho7
            have HN6 := Lib.hid hn6
            obtain ⟨A6, c6, rfl, _, _, _⟩ := ho6.out
            clear ho6 ho7 hn6 hno6 hm6 hox hnx hal hmi5 b0 b1 b2 b3
            go_wp2_with fail
            go_roundw
            case rel => exact ⟨i + 4, ls ++ [(⟨sm, (va : Int), (vc : Int), sn⟩ : Dg)], by go_num, by rw [List.length_append]; have := HI0.out; simp; omega, by omega, HST.out, HO7.out, hm6w, HN6.out⟩
            case measure => simp [intOf]; omega
          · have hb5 := setCell_blk0 (j := 3) (u := .string sn) (setCell_blk0 (j := 2) (u := .int .i64 (vc : Nat)) (setCell_blk0 (j := 1) (u := .int .i64 (va : Nat)) (setCell_blk0 (j := 0) (u := .string sm) hbA)))
            have HM5 : Mod NoneB wr ((((w4.setCell ⟨wr.heap.size, 0, none⟩ (.string sm)).setCell ⟨wr.heap.size, 1, none⟩ (.int .i64 (va : Nat))).setCell ⟨wr.heap.size, 2, none⟩ (.int .i64 (vc : Nat))).setCell ⟨wr.heap.size, 3, none⟩ (.string sn)) := (((HM4.setCell (p := ⟨wr.heap.size, 0, none⟩) (fun h => absurd h (by dsimp only; omega)) _).setCell (p := ⟨wr.heap.size, 1, none⟩) (fun h => absurd h (by dsimp only; omega)) _).setCell (p := ⟨wr.heap.size, 2, none⟩) (fun h => absurd h (by dsimp only; omega)) _).setCell (p := ⟨wr.heap.size, 3, none⟩) (fun h => absurd h (by dsimp only; omega)) _
            generalize (((w4.setCell ⟨wr.heap.size, 0, none⟩ (.string sm)).setCell ⟨wr.heap.size, 1, none⟩ (.int .i64 (va : Nat))).setCell ⟨wr.heap.size, 2, none⟩ (.int .i64 (vc : Nat))).setCell ⟨wr.heap.size, 3, none⟩ (.string sn) = W5 at hb5 HM5 ⊢
            generalize wr.heap.size = P at hb5 ⊢
            clear hbA a0 fa0 a1 fa1 a2 fa2 a3 fa3
            have b0 : W5.cell? ⟨P, 0, none⟩ = some (.string sm) := (blk_cell hb5 0).trans rfl
            have b1 : W5.cell? ⟨P, 1, none⟩ = some (.int .i64 (va : Nat)) := (blk_cell hb5 1).trans rfl
            have b2 : W5.cell? ⟨P, 2, none⟩ = some (.int .i64 (vc : Nat)) := (blk_cell hb5 2).trans rfl
            have b3 : W5.cell? ⟨P, 3, none⟩ = some (.string sn) := (blk_cell hb5 3).trans rfl
            have hal : Mod NoneB W5 (W5.alloc (.cells #[.string sm, .int .i64 (va : Nat), .int .i64 (vc : Nat), .string sn] 27)) := (Mod.refl NoneB W5).alloc _
            have hox := (HOV.out.mod0 HM5).mod0 hal
            have hus := Tryd.underlying22
            have hnx : 0 < 1 → ∃ a, (some ⟨W5.heap.size, 0, none⟩ : Option Addr) = some a ∧ ∀ (j : Nat) u, (encDs [(⟨sm, (va : Int), (vc : Int), sn⟩ : Dg)])[j]? = some u → (W5.alloc (.cells #[.string sm, .int .i64 (va : Nat), .int .i64 (vc : Nat), .string sn] 27)).cell? (a.add j) = some u := (rdBlk (sz := 4) (n := 1) (heap_alloc_new W5 (.cells #[.string sm, .int .i64 (va : Nat), .int .i64 (vc : Nat), .string sn] 27)) rfl (by omega)).2.2
            have hls : ls.length ≤ 100000 := by have := HI0.out; omega
            have h48 : (ls.length + 1) * 48 ≤ 140737488355328 := by omega
            have hmi5 := (hmi.then0 HM5).then0 hal
            clear hb5 HM5 HM3 HM4 hm3 hm4 y0 y1 y2 y3 z0 z1 z2 z3 c0 c1 c2 c3 d0 d1 d2 d3 hmd hmd0
            go_wp2_with (at_builtin; refine wpList_append rfl (.tmp 50) (.tmp 52) 22 rfl 27 _ 4 48 hus tiD rfl (by decide) (by decide) _ ls.length (encDs ls) rfl hox (some ⟨W5.heap.size, 0, none⟩) 1 1 (encDs [(⟨sm, (va : Int), (vc : Int), sn⟩ : Dg)]) rfl rfl hnx (encDs_one _) h48 ?_)
            intro v6 w6 ho6 hm6 hno6
            have hm6w : Mod NoneB w2 w6 := hmi5.trans_new hm6 (fun k hk => .inr (HNV.out k hk))
            have hn6 : ∀ g, v6.ownBlock = some g → w2.heap.size ≤ g := by
              intro g hg
              rcases hno6 with hq | ⟨b, hq, hb⟩
              · exact HNV.out g (by rw [← hq]; exact hg)
              · rw [hq] at hg
                injection hg with hg
                have h1 := hmi5.size
                omega
            have ho7 : Own w6 27 4 v6 (ls ++ [(⟨sm, (va : Int), (vc : Int), sn⟩ : Dg)]).length (encDs (ls ++ [(⟨sm, (va : Int), (vc : Int), sn⟩ : Dg)])) := by
              rw [encDs_append, List.length_append]
              exact ho6
            have HO7 := Lib.hid ho7
            have HN6 := Lib.hid hn6
            obtain ⟨A6, c6, rfl, _, _, _⟩ := ho6.out
            clear ho6 ho7 hn6 hno6 hm6 hox hnx hal hmi5 b0 b1 b2 b3
            go_wp2_with fail
            go_roundw
            case rel => exact ⟨i + 4, ls ++ [(⟨sm, (va : Int), (vc : Int), sn⟩ : Dg)], by go_num, by rw [List.length_append]; have := HI0.out; simp; omega, by omega, HST.out, HO7.out, hm6w, HN6.out⟩
            case measure => simp [intOf]; omega
        · have hnil : t.drop i = [] := List.drop_eq_nil_of_le (by omega)
          have hls : quadB t = ls := by rw [hq, hnil]; show ls ++ [] = ls; simp
          have hqs := quadB_size t 100000 HTZ.out
          have hok := quadB_ok t
          rw [hls] at hqs hok
          have hts := diagT_sizeK (l := ls) (k := 100000) (by decide) (fun d hd => ⟨(hok d hd).1, hqs.1 d hd⟩)
          have hes := encL_short (t := diagT ls) 100000 100000 (by rw [diagT_length]; omega) hts
          obtain ⟨A6, c6, rfl, _, _, hR6⟩ := hov.out
          have hwr := hm2.then0 hmi
          have HM0 : Mod NoneB w wr.drew := hwr.drew
          have hen := rencodeD_calls ls A6 c6 wr.drew (hR6.mod0 ((Mod.refl NoneB wr).drew)) (by omega) (fun d hd => (hok d hd).1) (fun s hs => by have := hts s hs; omega) (by omega)
          have HEN := Lib.hid hen
          have hfx := HFX.out
          rw [hls] at hfx
          obtain ⟨E, hE⟩ : ∃ E, E = encL (diagT ls) := ⟨_, rfl⟩
          rw [← hE] at HEN hfx
          have hbq : ((strOf E).toList == (strOf b).toList) = decide (E = b) := by
            rw [beq_toList, decide_eq_decide]
            exact ⟨strOf_inj, fun h => by rw [h]⟩
          obtain ⟨eb, heb⟩ : ∃ eb, eb = decide (E = b) := ⟨_, rfl⟩
          rw [← heb] at hbq
          have HEB := Lib.hid heb
          have HFX2 := Lib.hid hfx
          have cx0 : (convert 33 9 (.slice B b.length bc)).run Tryd.prog wr.drew = .ok (.string (strOf b)) wr.drew := conv_str (HRD.out.mod0 HM0)
          have HOV := Lib.hid hov
          have HEV := Lib.hid hev
          have l9 : ¬ (i : Int) < t.length := by omega
          clear hnil hls hqs hok hts hes hen hfx hE heb hq hR6 hov hi4 hev HFX
          go_wp2_with fail
          go_region_law (first
            | (go_simp; go_at_call 20; (with_reducible refine HEN.out.mono ?_); rintro ez w5 ⟨v5, rfl, ho5, hm5, _⟩
               obtain ⟨A5, c5, rfl, hr5⟩ := ho5.nilD0
               have HM5 := HM0.then0 hm5
               have cx5 : (convert 33 9 (.slice B b.length bc)).run Tryd.prog w5 = .ok (.string (strOf b)) w5 := conv_str (HRD.out.mod0 HM5)
               have cy5 : (convert 33 9 (.slice A5 E.length c5)).run Tryd.prog w5 = .ok (.string (strOf E)) w5 := conv_str hr5))
          all_goals
            cases eb with
            | true =>
              go_wp2_with fail
              go_ret2
              rw [HFX2.out, if_pos ⟨HEV.out, of_decide_eq_true HEB.out.symm⟩]
              exact ⟨_, rfl, (HOV.out.mod0 ((Mod.refl NoneB wr).drew)).mod0 hm5, HM5, fun g hg => Nat.le_trans hm2.size (HNV.out g hg)⟩
            | false =>
              go_wp2_with fail
              go_ret2
              rw [HFX2.out, if_neg (fun h => of_decide_eq_false HEB.out.symm h.2)]
              exact DiagsE.none HM5
    · have b1 : (((t.length : Int) % 4) == 0) = false := by rw [beq_eq_false_iff_ne]; omega
      have b2 : (((t.length : Int) % 4) != 0) = true := by rw [bne_iff_ne]; omega
      have hno : rdecDg b = none := by rw [HFX.out, if_neg (fun h => hev h.1)]
      have HNO := Lib.hid hno
      clear hno hev
      go_wp2_with fail
      go_ret2
      rw [HNO.out]
      exact DiagsE.none hm2
end Go.Proofs.YtdmdiokfpbmnaaaDoor

