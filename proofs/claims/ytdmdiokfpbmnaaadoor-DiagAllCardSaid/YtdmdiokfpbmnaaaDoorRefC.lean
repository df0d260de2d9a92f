/- The document's codec: numbers, sums, texts, records. -/
import Derived.Test.YtdmdiokfpbmnaaaDoorCodec
import Derived.Test.YtdmdiokfpbmnaaaDoorConvR
import Derived.Laws.BitsAllLaws
namespace Go.Proofs.YtdmdiokfpbmnaaaDoor
open Go.RowKit
set_option linter.unusedVariables false

set_option maxHeartbeats 2000000 in
set_option maxRecDepth 100000 in
theorem ru32_calls (n : Nat) (w : World) (hn : n < 4294967296) :
    Calls Tryd.prog 50 #[.int .i64 n] w fun e w' => e = .returned (.slice (some ⟨w.heap.size, 0, none⟩) 4 4) ∧ w'.heap[w.heap.size]? = some (.cells (encB (u32 n)).toArray 5 (0, 0)) ∧ Mod NoneB w w' := by
  have hc : (encB (u32 n)).toArray = #[.int .u8 ((n : Int) / 16777216), .int .u8 ((n : Int) / 65536 % 256), .int .u8 ((n : Int) / 256 % 256), .int .u8 ((n : Int) % 256)] := by
    simp [encB, u32]
    omega
  have HC := Lib.hid hc
  clear hc
  go_enter Tryd.func50, Tryd.ntmps50
  go_wp2_with fail
  go_ret
  refine ⟨rfl, ?_, (Mod.refl NoneB w).alloc _⟩
  rw [HC.out]
  exact heap_alloc_new w _

set_option maxHeartbeats 2000000 in
set_option maxRecDepth 100000 in
theorem rget_calls (b : List UInt8) (i : Nat) (A : Option Addr) (c : Nat) (w : World) (hr : Rd w 1 A b.length (encB b)) (hi : i ≤ 4611686018427387904) :
    Calls Tryd.prog 49 #[.slice A b.length c, .int .i64 i] w fun e w' => e = .returned (.tuple #[.int .i64 (getV4 b i : Nat), .bool (getB4 b i)]) ∧ Mod NoneB w w' := by
  have hn := hr.2.1
  by_cases hlt : i + 4 ≤ b.length
  · have hg := get4_at b i hlt
    have hv : getV4 b i = b[i].toNat * 16777216 + b[i + 1].toNat * 65536 + b[i + 2].toNat * 256 + b[i + 3].toNat := by unfold getV4; rw [hg]; rfl
    have hb : getB4 b i = true := by unfold getB4; rw [hg]; rfl
    obtain ⟨ad, rfl, h0⟩ := hr.bytes i (by omega)
    obtain ⟨ad', e, h1⟩ := hr.bytes (i + 1) (by omega)
    cases e
    obtain ⟨ad', e, h2⟩ := hr.bytes (i + 2) (by omega)
    cases e
    obtain ⟨ad', e, h3⟩ := hr.bytes (i + 3) (by omega)
    cases e
    obtain ⟨x0, hx0⟩ : ∃ x, x = b[i].toNat := ⟨_, rfl⟩
    obtain ⟨x1, hx1⟩ : ∃ x, x = b[i + 1].toNat := ⟨_, rfl⟩
    obtain ⟨x2, hx2⟩ : ∃ x, x = b[i + 2].toNat := ⟨_, rfl⟩
    obtain ⟨x3, hx3⟩ : ∃ x, x = b[i + 3].toNat := ⟨_, rfl⟩
    have l0 : x0 < 256 := by rw [hx0]; exact UInt8.toNat_lt _
    have l1 : x1 < 256 := by rw [hx1]; exact UInt8.toNat_lt _
    have l2 : x2 < 256 := by rw [hx2]; exact UInt8.toNat_lt _
    have l3 : x3 < 256 := by rw [hx3]; exact UInt8.toNat_lt _
    rw [← hx0] at h0 hv
    rw [← hx1] at h1 hv
    rw [← hx2] at h2 hv
    rw [← hx3] at h3 hv
    have HV := Lib.hid hv
    have HB := Lib.hid hb
    clear hg hv hb hx0 hx1 hx2 hx3
    go_enter Tryd.func49, Tryd.ntmps49
    go_wp2_with fail
    have a1 : w.cell? ⟨ad.block, ad.off + (i + 1), none⟩ = some (.int .u8 x1) := by rw [← add_succ]; exact h1
    have a2 : w.cell? ⟨ad.block, ad.off + (i + 2), none⟩ = some (.int .u8 x2) := by rw [← add_succ]; exact h2
    have a3 : w.cell? ⟨ad.block, ad.off + (i + 3), none⟩ = some (.int .u8 x3) := by rw [← add_succ]; exact h3
    have w0 : IntKind.i64.wrap (x0 : Int) = x0 := IntWalk.i64_in _ (by omega)
    have w1 : IntKind.i64.wrap (x1 : Int) = x1 := IntWalk.i64_in _ (by omega)
    have w2 : IntKind.i64.wrap (x2 : Int) = x2 := IntWalk.i64_in _ (by omega)
    have w3 : IntKind.i64.wrap (x3 : Int) = x3 := IntWalk.i64_in _ (by omega)
    have s0 : IntKind.i64.wrap ((x0 : Int) * 16777216) = x0 * 16777216 := IntWalk.i64_in _ (by omega)
    have s1 : IntKind.i64.wrap ((x1 : Int) * 65536) = x1 * 65536 := IntWalk.i64_in _ (by omega)
    have s2 : IntKind.i64.wrap ((x2 : Int) * 256) = x2 * 256 := IntWalk.i64_in _ (by omega)
    have o1 : bits .or .i64 ((x0 : Int) * 16777216) ((x1 : Int) * 65536) = x0 * 16777216 + x1 * 65536 := i64_or 24 _ _ (by omega) (by omega) (by omega) (by omega) (by omega) (by omega)
    have o2 : bits .or .i64 ((x0 : Int) * 16777216 + x1 * 65536) ((x2 : Int) * 256) = x0 * 16777216 + x1 * 65536 + x2 * 256 := i64_or 16 _ _ (by omega) (by omega) (by omega) (by omega) (by omega) (by omega)
    have o3 : bits .or .i64 ((x0 : Int) * 16777216 + x1 * 65536 + x2 * 256) (x3 : Int) = x0 * 16777216 + x1 * 65536 + x2 * 256 + x3 := i64_or 8 _ _ (by omega) (by omega) (by omega) (by omega) (by omega) (by omega)
    have e1 : IntKind.i64.wrap ((i : Int) + 1) = i + 1 := IntWalk.i64_in _ (by omega)
    have e2 : IntKind.i64.wrap ((i : Int) + 2) = i + 2 := IntWalk.i64_in _ (by omega)
    have e3 : IntKind.i64.wrap ((i : Int) + 3) = i + 3 := IntWalk.i64_in _ (by omega)
    have t1 : ((i : Int) + 1).toNat = i + 1 := by omega
    have t2 : ((i : Int) + 2).toNat = i + 2 := by omega
    have t3 : ((i : Int) + 3).toNat = i + 3 := by omega
    have g0 : (0 : Int) ≤ i := by omega
    have g1 : (0 : Int) ≤ i + 1 := by omega
    have g2 : (0 : Int) ≤ i + 2 := by omega
    have g3 : (0 : Int) ≤ i + 3 := by omega
    have k0 : (i : Int) < b.length := by omega
    have k1 : (i : Int) + 1 < b.length := by omega
    have k2 : (i : Int) + 2 < b.length := by omega
    have k3 : (i : Int) + 3 < b.length := by omega
    go_quiet (fail)
    clear e1 e2 e3 t1 t2 t3 g0 g1 g2 g3 k0 k1 k2 k3
    have hmq : Mod NoneB w (w.drewN nq) := (Mod.refl NoneB w).drewN nq
    clear w0 w1 w2 w3 s0 s1 s2 o1 o2 o3
    go_wp2_with fail
    go_ret2
    exact ⟨by rw [HV.out, HB.out]; simp, hmq⟩
  · have hg : get4 (b.drop i) = none := get4_short (by rw [List.length_drop]; omega)
    have hv : getV4 b i = 0 := by unfold getV4; rw [hg]; rfl
    have hb : getB4 b i = false := by unfold getB4; rw [hg]; rfl
    have HV := Lib.hid hv
    have HB := Lib.hid hb
    clear hg hv hb
    have h5 : (b.length : Int) - 4 < i := by omega
    clear hlt
    go_enter Tryd.func49, Tryd.ntmps49
    go_wp2_with fail
    go_ret2
    exact ⟨by rw [HV.out, HB.out]; rfl, Mod.refl _ _⟩
end Go.Proofs.YtdmdiokfpbmnaaaDoor

/- Check sums, the document's: aquiferref1.Sum. -/
namespace Go.Proofs.YtdmdiokfpbmnaaaDoor
open Go.RowKit
set_option linter.unusedVariables false

end Go.Proofs.YtdmdiokfpbmnaaaDoor

/- Texts as bytes, the document's: aquiferref1.Encode. -/
namespace Go.Proofs.YtdmdiokfpbmnaaaDoor
open Go.RowKit
set_option linter.unusedVariables false

set_option maxHeartbeats 4000000 in
set_option maxRecDepth 100000 in
theorem rencode_calls (l : List ByteArray) (A : Option Addr) (c : Nat) (w : World) (hr : Rd w 1 A l.length (encTs l)) (hl : l.length < 4294967296) (hs : ∀ s ∈ l, s.size < 4294967296) (hsz : (encL l).length ≤ 70368744177664) :
    Calls Tryd.prog 35 #[.slice A l.length c] w fun e w' => ∃ v, e = .returned v ∧ Own w' 5 1 v (encL l).length (encB (encL l)) ∧ Mod NoneB w w' ∧ (∀ g, v.ownBlock = some g → w.heap.size ≤ g) := by
  have hu := Tryd.underlying33
  have hus := Tryd.underlying9
  have HSS := Lib.hid hs
  clear hs
  go_enter Tryd.func35, Tryd.ntmps35
  go_wp2_with fail
  refine (ru32_calls l.length w hl).mono ?_
  rintro e w1 ⟨rfl, hh1, hm1⟩
  have ho1 : Own w1 5 1 (.slice (some ⟨w.heap.size, 0, none⟩) 4 4) 4 (encB (u32 l.length)) := Own.of_blk (cap := 4) hh1 (by omega) (by omega) rfl rfl
  have HO1 := Lib.hid ho1
  clear hh1 ho1
  go_wp2_with fail
  go_loopw [3, 4] (fun v t wr => ∃ j : Nat, t = .int .i64 j ∧ j ≤ l.length ∧ Own wr 5 1 v (encUp l j).length (encB (encUp l j)) ∧ Mod NoneB w wr ∧ (∀ g, v.ownBlock = some g → w.heap.size ≤ g)) (fun _ t _ => l.length - (intOf t).toNat)
  case atStart => exact ⟨0, rfl, by omega, by have e : encUp l 0 = u32 l.length := (by simp [encUp]); rw [e]; exact HO1.out, hm1, fun g h => by simp [Value.ownBlock] at h; omega⟩
  case round =>
    obtain ⟨j, rfl, hj, hoj, hmj, hnj⟩ := hrel
    clear hm1 HO1
    have HNJ := Lib.hid hnj
    clear hnj
    by_cases hlt : j < l.length
    · obtain ⟨ad, rfl, h0, _⟩ := Rd.elem (f := encT) (fun _ => rfl) hr (by decide) j hlt
      have h00 := h0 _ rfl
      rw [Nat.mul_one] at h00
      replace h0 := hmj.cell0 h00
      have hsl := HSS.out l[j] (List.getElem_mem _)
      have htk := encUp_succ l j hlt
      have hle := encUp_le l (j + 1)
      rw [htk, List.length_append, List.length_append, u32_length, size_data] at hle
      obtain ⟨s, hss⟩ : ∃ s, s = l[j] := ⟨_, rfl⟩
      rw [← hss] at h0 h00 hsl htk hle
      obtain ⟨b, hb⟩ : ∃ b, b = encUp l j := ⟨_, rfl⟩
      rw [← hb] at hoj htk hle
      obtain ⟨n, hn⟩ : ∃ n, n = b.length := ⟨_, rfl⟩
      rw [← hn] at hoj hle
      have HN := Lib.hid hn
      have HTK := Lib.hid htk
      clear hss hb hn htk
      have hb1 : (n + 4) * 1 ≤ 140737488355328 := by omega
      have hb2 : (n + 4 + s.size) * 1 ≤ 140737488355328 := by omega
      go_wp2_with fail
      refine (ru32_calls s.size wr hsl).mono ?_
      rintro e w2 ⟨rfl, hh2, hm2⟩
      have ho2 := hoj.mod0 hm2
      have hnx := (rdBlk (sz := 1) (n := 4) hh2 rfl (by omega)).2.2
      have hm2w := hmj.then0 hm2
      clear hh2
      go_wp2_with (at_builtin; refine wpList_append rfl (.tmp 14) (.tmp 20) 33 rfl 5 _ 1 1 hu tiB rfl (by decide) (by decide) _ n (encB b) rfl ho2 (some ⟨wr.heap.size, 0, none⟩) 4 4 (encB (u32 s.size)) rfl rfl hnx (encB_one _) hb1 ?_)
      intro v3 w3 ho3 hm3 hno3
      obtain ⟨A3, c3, rfl, _, _, _⟩ := ho3.out
      have hv3 : ∀ g, (Value.slice A3 (n + 4) c3).ownBlock = some g → w.heap.size ≤ g := by
        intro g hg
        rcases hno3 with hq | ⟨b, hq, hb⟩
        · exact HNJ.out g (by rw [← hq]; exact hg)
        · rw [hq] at hg
          injection hg with hg
          have h1 := hm2w.size
          omega
      have hm3w : Mod NoneB w w3 := hm2w.trans_new hm3 (fun k hk => .inr (HNJ.out k hk))
      have h03 : w3.cell? (ad.add j) = some (.string s) := hm3w.cell0 h00
      clear h0 h00
      go_wp2_with (at_builtin; refine wpList_append_str rfl (.tmp 22) (.tmp 26) 33 9 rfl 5 _ 1 hu hus tiB rfl (by decide) _ (n + 4) (encB b ++ encB (u32 s.size)) rfl ho3 s rfl hb2 ?_)
      intro v5 w5 ho5 hm5 hno5
      have hm6 : Mod NoneB w w5 := hm3w.trans_new hm5 (fun k hk => .inr (hv3 k hk))
      have hn6 : ∀ g, v5.ownBlock = some g → w.heap.size ≤ g := by
        intro g hg
        rcases hno5 with hq | ⟨b, hq, hb⟩
        · exact hv3 g (by rw [← hq]; exact hg)
        · rw [hq] at hg
          injection hg with hg
          have h1 := hm3w.size
          omega
      have ho6 : Own w5 5 1 v5 (encUp l (j + 1)).length (encB (encUp l (j + 1))) := by
        rw [HTK.out, List.length_append, List.length_append, u32_length, size_data, ← HN.out, encB_append, encB_append, ← byteCells_encB, List.append_assoc]
        exact ho5
      obtain ⟨A5, c5, rfl, _, _, _⟩ := ho5.out
      have HO6 := Lib.hid ho6
      have HN6 := Lib.hid hn6
      clear ho6 hn6 ho5 hno5 ho3 hno3 ho2 hoj hv3 hnx
      go_wp2_with fail
      go_roundw
      case rel => exact ⟨j + 1, by go_num, by omega, HO6.out, hm6, HN6.out⟩
      case measure => simp [intOf]; omega
    · have hje : j = l.length := by omega
      subst hje
      rw [encUp_all] at hoj
      have HOJ := Lib.hid hoj
      obtain ⟨A5, c5, rfl, _, _, _⟩ := hoj.out
      clear hoj
      go_wp2_with fail
      go_ret
      exact ⟨_, rfl, HOJ.out, hmj, HNJ.out⟩
end Go.Proofs.YtdmdiokfpbmnaaaDoor

/- A record, the document's: aquiferref1.Frame. -/
namespace Go.Proofs.YtdmdiokfpbmnaaaDoor
open Go.RowKit
set_option linter.unusedVariables false

end Go.Proofs.YtdmdiokfpbmnaaaDoor

/- The texts that bytes are, the document's: aquiferref1.Decode. -/
namespace Go.Proofs.YtdmdiokfpbmnaaaDoor
open Go.RowKit
set_option linter.unusedVariables false

theorem rgetI_calls (b : List UInt8) (i : Nat) (z : Int) (hz : z = i) (A : Option Addr) (n c : Nat) (w : World) (hn : n = b.length) (hr : Rd w 1 A n (encB b)) (hi : i ≤ 4611686018427387904) :
    Calls Tryd.prog 49 #[.slice A n c, .int .i64 z] w fun e w' => e = .returned (.tuple #[.int .i64 (getV4 b i : Nat), .bool (getB4 b i)]) ∧ Mod NoneB w w' := by
  subst hz hn; exact rget_calls b i A c w hr hi

set_option maxHeartbeats 4000000 in
set_option maxRecDepth 100000 in
theorem rdecode_calls (b : List UInt8) (B : Option Addr) (bc : Nat) (w : World) (hr : Rd w 1 B b.length (encB b)) (hlb : b.length ≤ 140737488355328) (hbc : b.length ≤ bc) :
    Calls Tryd.prog 33 #[.slice B b.length bc] w (TextsE (decL b) w) := by
  go_enter Tryd.func33, Tryd.ntmps33
  go_wp2_with fail
  refine (rgetI_calls b 0 0 rfl B _ bc w rfl hr (by omega)).mono ?_
  rintro e w2 ⟨rfl, hm2w⟩
  cases hg : get4 (b.drop 0) with
  | none =>
    obtain ⟨hv, ho⟩ := getV4_none hg
    have hd : decL b = none := by unfold decL; rw [List.drop_zero] at hg; rw [hg]
    rw [hv, ho]
    have HD := Lib.hid hd
    clear hg hv ho hd
    go_wp2_with fail
    go_ret2
    rw [HD.out]
    exact TextsE.none hm2w
  | some n =>
    obtain ⟨hv, ho⟩ := getV4_some hg
    obtain ⟨h04, hn32⟩ := get4_drop_lt hg
    have hd : decL b = decGo n (b.drop 4) := by unfold decL; rw [List.drop_zero] at hg; rw [hg]
    rw [hv, ho]
    have HD := Lib.hid hd
    clear hg hv ho hd
    go_wp2_with fail
    go_loopw [6, 7, 8, 9, 10, 23] (fun a6 v t a9 a10 a23 wr => ∃ (j at_ : Nat) (ts : List ByteArray), t = .int .i64 j ∧ a6 = .int .i64 at_ ∧ j ≤ n ∧ at_ ≤ b.length ∧ 4 * j ≤ at_ ∧ ts.length = j ∧ Own wr 9 1 v ts.length (encTs ts) ∧
      decL b = (decGo (n - j) (b.drop at_)).map (ts ++ ·) ∧ Mod NoneB w wr ∧ (∀ g, v.ownBlock = some g → w.heap.size ≤ g)) (fun _ _ t _ _ _ _ => n - (intOf t).toNat)
    case atStart => exact ⟨0, 4, [], rfl, rfl, by omega, by omega, by omega, rfl, Own.nil _ _ _, by rw [HD.out]; simp, hm2w, fun g h => by simp [Value.ownBlock] at h⟩
    case round =>
      obtain ⟨j, at_, ts, rfl, rfl, hj, hat, hja, htl, hov, hdj, hmj, hnv⟩ := hrel
      clear hm2w HD
      have HDJ := Lib.hid hdj
      have HOV := Lib.hid hov
      have HNV := Lib.hid hnv
      have HTL := Lib.hid htl
      clear hdj hnv htl
      by_cases hlt : j < n
      · obtain ⟨m, hm⟩ : ∃ m, n - j = m + 1 := ⟨n - j - 1, by omega⟩
        have hm' : n - (j + 1) = m := by omega
        have HM := Lib.hid hm
        have HM' := Lib.hid hm'
        clear hm hm'
        go_wp2_with fail
        refine (rget_calls b at_ B bc wr (hr.mod0 hmj) (by omega)).mono ?_
        rintro e w3 ⟨rfl, hm3⟩
        have hm3w : Mod NoneB w w3 := hmj.then0 hm3
        cases hg : get4 (b.drop at_) with
        | none =>
          obtain ⟨hv, ho⟩ := getV4_none hg
          have hd : decL b = none := by rw [HDJ.out, HM.out, decGo_no hg]; rfl
          rw [hv, ho]
          have HD := Lib.hid hd
          clear hg hv ho hd
          go_wp2_with fail
          go_ret2
          rw [HD.out]
          exact TextsE.none hm3w
        | some k =>
          obtain ⟨hv, ho⟩ := getV4_some hg
          obtain ⟨h04, hk32⟩ := get4_drop_lt hg
          rw [hv, ho]
          clear hv ho
          by_cases hlong : b.length < at_ + 4 + k
          · have hd : decL b = none := by rw [HDJ.out, HM.out, decGo_long hg (by rw [List.length_drop]; omega)]; rfl
            have hb1 : decide ((b.length : Int) - (at_ : Int) - 4 < (k : Int)) = true := by simp; omega
            have HD := Lib.hid hd
            clear hg hd
            go_wp2_with fail
            go_ret2
            rw [HD.out]
            exact TextsE.none hm3w
          · have hd := decGo_step (m := m) hg (by rw [List.length_drop]; omega)
            rw [List.drop_drop, List.drop_drop] at hd
            have hd2 : decL b = (decGo m (b.drop (at_ + 4 + k))).map (ts ++ [strOf ((b.drop (at_ + 4)).take k)] ++ ·) := by
              rw [HDJ.out, HM.out, hd, Option.map_map]
              congr 1
              · funext x; simp
              · rw [Nat.add_assoc]
            have hb1 : decide ((b.length : Int) - (at_ : Int) - 4 < (k : Int)) = false := by simp; omega
            have HD := Lib.hid hd2
            obtain ⟨ad, rfl, _⟩ := hr.2.2 (by omega)
            obtain ⟨A', hs1, hs2, hrs⟩ := sub_at ((hr.mod0 hmj).mod0 hm3) hbc (at_ + 4) k (by omega) ((at_ : Int) + 4) ((at_ : Int) + 4 + k) (by omega) (by omega)
            obtain ⟨str, hstr⟩ : ∃ str, str = strOf ((b.drop (at_ + 4)).take k) := ⟨_, rfl⟩
            have hcv : (convert 33 9 (.slice A' k (bc - (at_ + 4)))).run Tryd.prog w3 = .ok (.string str) w3 := by
              rw [hstr]
              exact conv_strN (by rw [List.length_take, List.length_drop]; omega) hrs
            have HSTR := Lib.hid hstr
            clear hg hd hd2 hrs hstr
            have hov3 := hov.mod0 hm3
            have htsl : ts.length ≤ 140737488355328 := by have := HTL.out; omega
            obtain ⟨nt, hnt⟩ : ∃ nt, nt = ts.length := ⟨_, rfl⟩
            rw [← hnt] at hov3
            have HNT := Lib.hid hnt
            have hntl : nt ≤ 4294967296 := by have := HTL.out; omega
            have h16 : (nt + 1) * 16 ≤ 140737488355328 := by omega
            have hus := Tryd.underlying40
            have hox := hov3.mod0 ((Mod.refl NoneB w3).alloc (.cells #[.string str] 9))
            have hnx : 0 < 1 → ∃ a, (some ⟨w3.heap.size, 0, none⟩ : Option Addr) = some a ∧ ∀ (j : Nat) u, (encTs [str])[j]? = some u → (w3.alloc (.cells #[.string str] 9)).cell? (a.add j) = some u := (rdBlk (sz := 1) (n := 1) (heap_alloc_new w3 (.cells #[.string str] 9)) rfl (by omega)).2.2
            have hmx : Mod NoneB w3 (w3.alloc (.cells #[.string str] 9)) := (Mod.refl NoneB w3).alloc _
            clear hov hnt hov3
            go_wp2_with (at_builtin; refine wpList_append rfl (.tmp 40) (.tmp 50) 40 rfl 9 _ 1 16 hus tiS rfl (by decide) (by decide) _ nt (encTs ts) rfl hox (some ⟨w3.heap.size, 0, none⟩) 1 1 (encTs [str]) rfl rfl hnx (encTs_one _) h16 ?_)
            intro v5 w5 ho5 hm5 hno5
            have hm5w : Mod NoneB w w5 := (hm3w.then0 hmx).trans_new hm5 (fun k hk => .inr (HNV.out k hk))
            have hn5 : ∀ g, v5.ownBlock = some g → w.heap.size ≤ g := by
              intro g hg
              rcases hno5 with hq | ⟨b, hq, hb⟩
              · exact HNV.out g (by rw [← hq]; exact hg)
              · rw [hq] at hg
                injection hg with hg
                have h1 := (hm3w.then0 hmx).size
                omega
            have ho6 : Own w5 9 1 v5 (ts ++ [str]).length (encTs (ts ++ [str])) := by
              rw [List.length_append, encTs_append, ← HNT.out]
              exact ho5
            obtain ⟨A5, c5, rfl, _, _, _⟩ := ho5.out
            have HO6 := Lib.hid ho6
            have HN5 := Lib.hid hn5
            clear ho6 hn5 ho5 hox hnx hno5 hcv hs1 hs2
            go_wp2_with fail
            go_roundw
            case rel => exact ⟨j + 1, at_ + 4 + k, ts ++ [str], by go_num, by go_num, by omega, by omega, by omega, by simp [HTL.out], HO6.out, by rw [HM'.out, HD.out, HSTR.out], hm5w, HN5.out⟩
            case measure => simp [intOf]; omega
      · have hje : j = n := by omega
        subst hje
        have hd : decL b = if b.drop at_ = [] then some ts else none := by
          rw [HDJ.out, Nat.sub_self, decGo_end]
          split
          · simp
          · rfl
        have HD := Lib.hid hd
        clear hd
        obtain ⟨A8, c8, rfl, _, _, _⟩ := hov.out
        clear hov
        by_cases hall : at_ = b.length
        · have hd2 : decL b = some ts := by rw [HD.out, if_pos (by rw [hall]; exact List.drop_length)]
          have HD2 := Lib.hid hd2
          have b1 : ((at_ : Int) == (b.length : Int)) = true := by simp; omega
          have b2 : ((at_ : Int) != (b.length : Int)) = false := by simp; omega
          have b3 : (at_ == b.length) = true := by simp; omega
          clear hd2 hall
          go_wp2_with fail
          go_ret2
          rw [HD2.out]
          exact ⟨_, rfl, HOV.out, hmj, HNV.out⟩
        · have hd2 : decL b = none := by
            rw [HD.out, if_neg (fun h => ?_)]
            have := congrArg List.length h
            rw [List.length_drop, List.length_nil] at this
            omega
          have HD2 := Lib.hid hd2
          have b1 : ((at_ : Int) == (b.length : Int)) = false := by simp; omega
          have b2 : ((at_ : Int) != (b.length : Int)) = true := by simp; omega
          have b3 : (at_ == b.length) = false := by simp; omega
          clear hd2 hall
          go_wp2_with fail
          go_ret2
          rw [HD2.out]
          exact TextsE.none hmj
end Go.Proofs.YtdmdiokfpbmnaaaDoor

/- The records that bytes begin with, the document's: aquiferref1.Scan. -/
namespace Go.Proofs.YtdmdiokfpbmnaaaDoor
open Go.RowKit
set_option linter.unusedVariables false


end Go.Proofs.YtdmdiokfpbmnaaaDoor

