/- append of a text's bytes to a row of bytes that is owned. No program stands here. -/
import Derived.Deep.AppendSrc
import Derived.Laws.BitsAllLaws
import Derived.WalkMore
import Derived.Test.YtkklofnabmdmfaaGreatDoorRowQq
import Derived.Test.YtkklofnabmdmfaaGreatDoorNumsQq
import Derived.Test.YtkklofnabmdmfaaGreatDoorConvRQq
import Derived.Test.YtkklofnabmdmfaaGreatDoorFlatQq
namespace Go.Proofs.YtkklofnabmdmfaaGreatDoor
open Go.RowKit
set_option linter.unusedVariables false

section
variable {P : Program}
theorem run_append_str {w : World} (t tx ty e : TypeId) (z : Value) (bytes : Nat) (ht : P.underlying t = some (.slice e)) (hk : P.underlying tx = some .string) (hti : TI P e z 1 bytes) (hzs : z.cells.size = 1)
    (v : Value) (n : Nat) (xs : List Value) (hown : Own w e 1 v n xs) (s : ByteArray) (hbytes : (n + s.size) * bytes ≤ 140737488355328) (hb0 : 0 < bytes) :
    ∃ v' w', (Builtin.append_ #[t, tx] ty #[v, .string s]).run P w = .ok v' w' ∧ Own w' e 1 v' (n + s.size) (xs ++ byteCells s) ∧ Mod (OnlyBlk v) w w' ∧ NewOr w v v' := by
  have hsmall : n + s.size ≤ 140737488355328 := Nat.le_trans (Nat.le_mul_of_pos_right _ hb0) hbytes
  have hb1 : ∀ m : Nat, m * bytes ≤ 140737488355328 → m ≤ 140737488355328 := fun m h => Nat.le_trans (Nat.le_mul_of_pos_right _ hb0) h
  obtain ⟨i, hi, hz, h1, rfl⟩ := hti.parts
  have hsrc : Src P i.size tx (.string s) s.size (byteCells s) w := by rw [h1]; exact Src.ofString w hk s
  have hnl : (byteCells s).length = s.size := byteCells_length s
  have hlx : xs.length = n := by have := hown.len; omega
  have hlen : (xs ++ byteCells s).length = (n + s.size) * 1 := by rw [List.length_append, hlx, hnl]; omega
  have grown : ∀ old : Nat,
      Own (w.drew.alloc (.cells ((xs ++ byteCells s).toArray ++ Builtin.zeroCells z.cells (grownCap w (n + s.size) old e - (n + s.size))) e)) e 1
        (.slice (some ⟨w.heap.size, 0, none⟩) (n + s.size) (grownCap w (n + s.size) old e)) (n + s.size) (xs ++ byteCells s) := by
    intro old
    have hge := grownCap_ge w (n + s.size) old e
    have hcm : grownCap w (n + s.size) old e ≤ maxLen := grownCap_le_maxLen w (n + s.size) old e (by simp only [maxLen]; omega)
    refine Own.of_blk (heap_alloc_new w.drew _) hge (by simpa [maxLen] using hcm) ?_ ?_
    · simp only [Array.size_append, List.size_toArray, size_zeroCells, hzs, hlen]
      omega
    · simp only [Array.toList_append]
      rw [← hlen]
      exact List.take_left
  have hmod : ∀ o : Obj, Mod (OnlyBlk v) w (w.drew.alloc o) := fun o => ((Mod.refl _ w).drew).alloc o
  rcases hown with ⟨_, ⟨rfl, rfl⟩ | ⟨g, cap, cur, rfl, _, hh, hnc, hcm, hcs, htk⟩⟩
  · obtain rfl : xs = [] := List.eq_nil_of_length_eq_zero hlx
    rcases Nat.eq_zero_or_pos s.size with h0 | h0
    · refine ⟨.slice none 0 0, w, ?_, ?_, Mod.refl _ _, .inl rfl⟩
      · have hq : byteCells s = [] := List.eq_nil_of_length_eq_zero (by omega)
        have hl0 := hsrc.len w
        have hc0 := hsrc.cells
        rw [h0] at hl0 hc0
        rw [hq] at hc0
        simp [Builtin.append_, run_underlying ht, run_underlying hk, sizeOf, typeInfo, hi, hl0, hc0]
      · have hq : byteCells s = [] := List.eq_nil_of_length_eq_zero (by omega)
        rw [h0, hq]
        exact Own.nil _ _ _
    · have hr := run_append_grow_src (P := P) w t tx ty e i z ht hi hz none 0 0 [] (run_firstCells_none _ _ _ _ _) (.string s) s.size _ hsrc (by omega) (by omega) (by
        have := nextslicecap_zero h0
        simp only [Nat.zero_add] at hbytes ⊢
        rw [this]
        omega)
      exact ⟨_, _, hr, grown 0, hmod _, .inr ⟨_, rfl, Nat.le_refl _⟩⟩
  · by_cases hroom : n + s.size ≤ cap
    · have hfit : n * i.size + (byteCells s).length ≤ cur.size := by rw [h1, hnl, hcs]; omega
      have hst := run_storeCells_at P g (n * i.size) e (byteCells s) 0 cur w hh (by simpa using hfit) hsrc.one
      simp only [Nat.add_zero] at hst
      have hr : (Builtin.append_ #[t, tx] ty #[.slice (some ⟨g, 0, none⟩) n cap, .string s]).run P w = .ok (.slice (some ⟨g, 0, none⟩) (n + s.size) cap) (w.setRow g (cur.toList.take (n * i.size) ++ byteCells s ++ cur.toList.drop (n * i.size + (byteCells s).length)).toArray) := by
        simp [Builtin.append_, run_underlying ht, run_underlying hk, sizeOf, typeInfo, hi, hsrc.len, hroom, hsrc.cells, add_zero, hst]
      refine ⟨_, _, hr, Own.of_blk (setRow_heap w g cur _ e _ hh) hroom (by simpa [maxLen] using hcm) ?_ ?_, (setRow_mod _ _ _).mono (fun k _ hk => by subst hk; rfl), .inl rfl⟩
      · simp only [List.size_toArray, List.length_append, List.length_take, List.length_drop, Array.length_toList]
        omega
      · have e1 : n * i.size = n * 1 := by rw [h1]
        rw [e1, htk, ← hlen]
        exact List.take_left
    · have holds : ∀ j u, xs[j]? = some u → w.drew.cell? ((⟨g, 0, none⟩ : Addr).add j) = some u := by
        intro j u hu
        rw [add_zero]
        show w.cell? _ = _
        rw [blk_cell hh]
        rw [← htk, List.getElem?_take] at hu
        split at hu
        · simpa using hu
        · cases hu
      have hold := run_firstCells_some (P := P) w.drew i.size n ⟨g, 0, none⟩ n cap xs (by rw [h1, hlx]; omega) holds
      have hr := run_append_grow_src (P := P) w t tx ty e i z ht hi hz (some ⟨g, 0, none⟩) n cap xs hold (.string s) s.size _ hsrc (by omega) (by omega) (growslice_fits (by omega) hbytes)
      exact ⟨_, _, hr, grown cap, hmod _, .inr ⟨_, rfl, Nat.le_refl _⟩⟩

/-- append(v, s...) of a text. -/
theorem wpList_append_str {w : World} {ops : Array Oper} {rest : List Oper} {o : Oper} {a : Act} {Q : Exit → Act → World → Prop} (hgd : o.guard = none) (s x : Operand) (t tx : TypeId)
    (ho : o.op = .call { callee := .builtin .append, args := #[s, x], argTypes := #[t, tx] })
    (e : TypeId) (z : Value) (bytes : Nat) (ht : P.underlying t = some (.slice e)) (hk : P.underlying tx = some .string) (hti : TI P e z 1 bytes) (hzs : z.cells.size = 1) (hb0 : 0 < bytes)
    (v : Value) (n : Nat) (xs : List Value) (hs : a.eval s = v) (hown : Own w e 1 v n xs)
    (str : ByteArray) (hx : a.eval x = .string str) (hbytes : (n + str.size) * bytes ≤ 140737488355328)
    (h : ∀ v' w', Own w' e 1 v' (n + str.size) (xs ++ byteCells str) → Mod (OnlyBlk v) w w' → NewOr w v v' → wpList P ops Q rest (a.put o.dst v') w') :
    wpList P ops Q (o :: rest) a w := by
  refine wpList_plain hgd fun K hK => ?_
  obtain ⟨v', w', hr, h2, h3, h4⟩ := run_append_str (P := P) t tx o.type e z bytes ht hk hti hzs v n xs hown str hbytes hb0
  unfold Oper.wp execOp
  simp only [ho, resolve, invoke, builtin, Sem.run_bind, Sem.run_pure, Result.andThen_ok, List.map_toArray, List.map_cons, List.map_nil, hs, hx, hr]
  exact hK _ _ (h v' w' h2 h3 h4)
/-- append to a row that is owned, as one step of a region that draws its order. -/
theorem step_app {w : World} {ops : Array Oper} {o : Oper} {a : Act} {K : Act → World → Prop} {Q : Exit → Act → World → Prop} {E : Prop} (hg : o.guard = none) (s x : Operand) (t : TypeId)
    (ho : o.op = .call { callee := .builtin .append, args := #[s, x], argTypes := #[t, t] })
    (e : TypeId) (z : Value) (size bytes : Nat) (ht : P.underlying t = some (.slice e)) (hti : TI P e z size bytes) (hzs : z.cells.size = size) (hsz : 0 < size) (hb0 : 0 < bytes)
    (v : Value) (n : Nat) (xs : List Value) (hs : a.eval s = v) (hown : Own w e size v n xs)
    (A : Option Addr) (m c : Nat) (news : List Value) (hx : a.eval x = .slice A m c) (hl : news.length = m * size) (hnews : 0 < m → ∃ a, A = some a ∧ ∀ j u, news[j]? = some u → w.cell? (a.add j) = some u) (h1 : ∀ u ∈ news, u.oneCell' = true)
    (hbytes : (n + m) * bytes ≤ 140737488355328)
    (h : ∀ v' w', Own w' e size v' (n + m) (xs ++ news) → Mod (OnlyBlk v) w w' → NewOr w v v' → K (a.put o.dst v') w') :
    if Region.wanted o (yielded ops a.tmps) = true then Oper.wp P o a w K Q else E := by
  have hw : Region.wanted o (yielded ops a.tmps) = true := by simp [Region.wanted, hg]
  rw [if_pos hw]
  obtain ⟨v', w', hr, h2, h3, h4⟩ := run_append_gen (P := P) t o.type e z size bytes ht hti hzs hsz v n xs hown A m c news hl hnews h1 hbytes hb0
  unfold Oper.wp execOp
  simp only [ho, resolve, invoke, builtin, Sem.run_bind, Sem.run_pure, Result.andThen_ok, List.map_toArray, List.map_cons, List.map_nil, hs, hx, hr]
  exact h v' w' h2 h3 h4
end
end Go.Proofs.YtkklofnabmdmfaaGreatDoor

/- Numbers as four bytes: code.U32, code.Get. -/
namespace Go.Proofs.YtkklofnabmdmfaaGreatDoor
open Go.RowKit
set_option linter.unusedVariables false

theorem add_succ (ad : Addr) (i : Nat) : ad.add (i + 1) = ⟨ad.block, ad.off + (i + 1), none⟩ := by unfold Addr.add; split <;> simp_all
theorem i64_or (i : Nat) (x y : Int) (hx0 : 0 ≤ x) (hx : x % 2 ^ i = 0) (hx1 : x < 2 ^ 63) (hy0 : 0 ≤ y) (hy : y < 2 ^ i) (hy1 : y < 2 ^ 63) : bits .or .i64 x y = x + y :=
  bits_join .i64 63 (by decide) (fun n h0 h1 => IntWalk.i64_in _ (by omega)) i x y hx0 hx hx1 hy0 hy hy1
def getV4 (b : List UInt8) (i : Nat) : Nat := (get4 (b.drop i)).getD 0
def getB4 (b : List UInt8) (i : Nat) : Bool := (get4 (b.drop i)).isSome
set_option maxHeartbeats 2000000 in
set_option maxRecDepth 100000 in
theorem cget_calls (b : List UInt8) (i : Nat) (A : Option Addr) (c : Nat) (w : World) (hr : Rd w 1 A b.length (encB b)) (hi : i ≤ 4611686018427387904) :
    Calls Tryz.prog 79 #[.slice A b.length c, .int .i64 i] w fun e w' => e = .returned (.tuple #[.int .i64 (getV4 b i : Nat), .bool (getB4 b i)]) ∧ Mod NoneB w w' := by
  have hn := hr.2.1
  by_cases hlt : i + 4 ≤ b.length
  · have hg := get4_at b i hlt
    have hv : getV4 b i = b[i].toNat * 16777216 + b[i + 1].toNat * 65536 + b[i + 2].toNat * 256 + b[i + 3].toNat := by unfold getV4; rw [hg]; rfl
    have hb : getB4 b i = true := by unfold getB4; rw [hg]; rfl
    obtain ⟨ad, rfl, h0⟩ := hr.bytes i (by omega)
    obtain ⟨ad', e, h1⟩ := hr.bytes (i + 1) (by omega)
    cases e
    obtain ⟨ad', e, h2⟩ := hr.bytes (i + 2) (by omega)
    cases e
    obtain ⟨ad', e, h3⟩ := hr.bytes (i + 3) (by omega)
    cases e
    obtain ⟨x0, hx0⟩ : ∃ x, x = b[i].toNat := ⟨_, rfl⟩
    obtain ⟨x1, hx1⟩ : ∃ x, x = b[i + 1].toNat := ⟨_, rfl⟩
    obtain ⟨x2, hx2⟩ : ∃ x, x = b[i + 2].toNat := ⟨_, rfl⟩
    obtain ⟨x3, hx3⟩ : ∃ x, x = b[i + 3].toNat := ⟨_, rfl⟩
    have l0 : x0 < 256 := by rw [hx0]; exact UInt8.toNat_lt _
    have l1 : x1 < 256 := by rw [hx1]; exact UInt8.toNat_lt _
    have l2 : x2 < 256 := by rw [hx2]; exact UInt8.toNat_lt _
    have l3 : x3 < 256 := by rw [hx3]; exact UInt8.toNat_lt _
    rw [← hx0] at h0 hv
    rw [← hx1] at h1 hv
    rw [← hx2] at h2 hv
    rw [← hx3] at h3 hv
    have HV := Lib.hid hv
    have HB := Lib.hid hb
    clear hg hv hb hx0 hx1 hx2 hx3
    go_enter Tryz.func79, Tryz.ntmps79
    go_wp2_with fail
    have a1 : w.cell? ⟨ad.block, ad.off + (i + 1), none⟩ = some (.int .u8 x1) := by rw [← add_succ]; exact h1
    have a2 : w.cell? ⟨ad.block, ad.off + (i + 2), none⟩ = some (.int .u8 x2) := by rw [← add_succ]; exact h2
    have a3 : w.cell? ⟨ad.block, ad.off + (i + 3), none⟩ = some (.int .u8 x3) := by rw [← add_succ]; exact h3
    have w0 : IntKind.i64.wrap (x0 : Int) = x0 := IntWalk.i64_in _ (by omega)
    have w1 : IntKind.i64.wrap (x1 : Int) = x1 := IntWalk.i64_in _ (by omega)
    have w2 : IntKind.i64.wrap (x2 : Int) = x2 := IntWalk.i64_in _ (by omega)
    have w3 : IntKind.i64.wrap (x3 : Int) = x3 := IntWalk.i64_in _ (by omega)
    have s0 : IntKind.i64.wrap ((x0 : Int) * 16777216) = x0 * 16777216 := IntWalk.i64_in _ (by omega)
    have s1 : IntKind.i64.wrap ((x1 : Int) * 65536) = x1 * 65536 := IntWalk.i64_in _ (by omega)
    have s2 : IntKind.i64.wrap ((x2 : Int) * 256) = x2 * 256 := IntWalk.i64_in _ (by omega)
    have o1 : bits .or .i64 ((x0 : Int) * 16777216) ((x1 : Int) * 65536) = x0 * 16777216 + x1 * 65536 := i64_or 24 _ _ (by omega) (by omega) (by omega) (by omega) (by omega) (by omega)
    have o2 : bits .or .i64 ((x0 : Int) * 16777216 + x1 * 65536) ((x2 : Int) * 256) = x0 * 16777216 + x1 * 65536 + x2 * 256 := i64_or 16 _ _ (by omega) (by omega) (by omega) (by omega) (by omega) (by omega)
    have o3 : bits .or .i64 ((x0 : Int) * 16777216 + x1 * 65536 + x2 * 256) (x3 : Int) = x0 * 16777216 + x1 * 65536 + x2 * 256 + x3 := i64_or 8 _ _ (by omega) (by omega) (by omega) (by omega) (by omega) (by omega)
    have e1 : IntKind.i64.wrap ((i : Int) + 1) = i + 1 := IntWalk.i64_in _ (by omega)
    have e2 : IntKind.i64.wrap ((i : Int) + 2) = i + 2 := IntWalk.i64_in _ (by omega)
    have e3 : IntKind.i64.wrap ((i : Int) + 3) = i + 3 := IntWalk.i64_in _ (by omega)
    have t1 : ((i : Int) + 1).toNat = i + 1 := by omega
    have t2 : ((i : Int) + 2).toNat = i + 2 := by omega
    have t3 : ((i : Int) + 3).toNat = i + 3 := by omega
    have g0 : (0 : Int) ≤ i := by omega
    have g1 : (0 : Int) ≤ i + 1 := by omega
    have g2 : (0 : Int) ≤ i + 2 := by omega
    have g3 : (0 : Int) ≤ i + 3 := by omega
    have k0 : (i : Int) < b.length := by omega
    have k1 : (i : Int) + 1 < b.length := by omega
    have k2 : (i : Int) + 2 < b.length := by omega
    have k3 : (i : Int) + 3 < b.length := by omega
    go_quiet (fail)
    clear e1 e2 e3 t1 t2 t3 g0 g1 g2 g3 k0 k1 k2 k3
    have hmq : Mod NoneB w (w.drewN nq) := (Mod.refl NoneB w).drewN nq
    clear w0 w1 w2 w3 s0 s1 s2 o1 o2 o3
    go_wp2_with fail
    go_ret2
    exact ⟨by rw [HV.out, HB.out]; simp, hmq⟩
  · have hg : get4 (b.drop i) = none := get4_short (by rw [List.length_drop]; omega)
    have hv : getV4 b i = 0 := by unfold getV4; rw [hg]; rfl
    have hb : getB4 b i = false := by unfold getB4; rw [hg]; rfl
    have HV := Lib.hid hv
    have HB := Lib.hid hb
    clear hg hv hb
    by_cases h4 : b.length < 4
    · clear hlt
      go_enter Tryz.func79, Tryz.ntmps79
      go_wp2_with fail
      go_ret2
      exact ⟨by rw [HV.out, HB.out]; rfl, Mod.refl _ _⟩
    · have h5 : (b.length : Int) - 4 < i := by omega
      clear hlt
      go_enter Tryz.func79, Tryz.ntmps79
      go_wp2_with fail
      go_ret2
      exact ⟨by rw [HV.out, HB.out]; rfl, Mod.refl _ _⟩
end Go.Proofs.YtkklofnabmdmfaaGreatDoor

/- Check sums: sum.Sum. -/
namespace Go.Proofs.YtkklofnabmdmfaaGreatDoor
open Go.RowKit
set_option linter.unusedVariables false

set_option maxHeartbeats 2000000 in
set_option maxRecDepth 100000 in
theorem more_calls (b : List UInt8) (A : Option Addr) (c : Nat) (w : World) (hr : Rd w 1 A b.length (encB b)) :
    Calls Tryz.prog 125 #[.int .i64 0, .slice A b.length c] w fun e w' => e = .returned (.int .i64 (crcB b : Nat)) ∧ w' = w := by
  have hn := hr.2.1
  go_enter Tryz.func125, Tryz.ntmps125
  go_wp2_with fail
  go_loopw [5, 7, 8, 14, 22] (fun cv x lo t k wr => ∃ j : Nat, t = .int .i64 j ∧ cv = .int .u32 (crcFrom 4294967295 (b.take j) : Nat) ∧ j ≤ b.length ∧ wr = w) (fun _ _ _ t _ _ => b.length - (intOf t).toNat)
  case atStart => exact ⟨0, rfl, rfl, by omega, rfl⟩
  case round =>
    obtain ⟨j, rfl, rfl, hj, rfl⟩ := hrel
    have hlt0 := crcFrom_lt (b.take j) (c := 4294967295) (by decide)
    by_cases hlt : j < b.length
    · obtain ⟨ad, rfl, h0⟩ := hr.bytes j hlt
      have htk : crcFrom 4294967295 (b.take (j + 1)) = crcByte (crcFrom 4294967295 (b.take j)) b[j] := by rw [List.take_succ_eq_append_getElem hlt, crcFrom_snoc]
      obtain ⟨c0, hc0⟩ : ∃ c0, c0 = crcFrom 4294967295 (b.take j) := ⟨_, rfl⟩
      obtain ⟨x, hx⟩ : ∃ x, x = b[j] := ⟨_, rfl⟩
      rw [← hc0] at hlt0 htk ⊢
      rw [← hx] at h0 htk
      have hxl := x.toNat_lt
      have HTK := Lib.hid htk
      clear hc0 hx htk
      have e1 : bits .xor .u32 (c0 : Int) (x.toNat : Int) = ((c0 ^^^ x.toNat : Nat) : Int) := u32_xor_nat _ _ hlt0 (by omega)
      have hlx : c0 ^^^ x.toNat < 4294967296 := Nat.xor_lt_two_pow (n := 32) hlt0 (by omega)
      have hcb : crcByte c0 x = crcBits 8 (c0 ^^^ x.toNat) := rfl
      have HCB := Lib.hid hcb
      go_wp2_with fail
      clear e1 hcb hlt0
      obtain ⟨c1, hc1⟩ : ∃ c1, c1 = c0 ^^^ x.toNat := ⟨_, rfl⟩
      rw [← hc1] at hlx HCB ⊢
      clear hc1
      go_loopw [5, 8, 22] (fun cv lo k wx => ∃ m : Nat, k = .int .i64 m ∧ cv = .int .u32 (crcBits m c1 : Nat) ∧ m ≤ 8 ∧ wx = wr) (fun _ _ k _ => 8 - (intOf k).toNat)
      case atStart => exact ⟨0, rfl, rfl, by omega, rfl⟩
      case round =>
        obtain ⟨m, rfl, rfl, hm, rfl⟩ := hrel
        have hl1 := crcBits_lt m hlx
        have hst : crcBits (m + 1) c1 = crcBit (crcBits m c1) := rfl
        obtain ⟨d, hd⟩ : ∃ d, d = crcBits m c1 := ⟨_, rfl⟩
        rw [← hd] at hl1 hst ⊢
        have HST := Lib.hid hst
        have HD := Lib.hid hd
        clear hd hst
        by_cases hlm : m < 8
        · by_cases hodd : d % 2 = 1
          · have hb : crcBit d = (d / 2) ^^^ 3988292384 := if_pos hodd
            have e2 : bits .xor .u32 ((d : Int) / 2) 3988292384 = (((d / 2) ^^^ 3988292384 : Nat) : Int) := u32_xor_nat (d / 2) 3988292384 (by omega) (by decide)
            have e3 : (bits .and .u32 (d : Int) 1 == 1) = true := by
              have h := u32_and_nat d 1 hl1 (by decide)
              rw [nat_mask1] at h
              simp only [Int.natCast_one] at h
              rw [h]; simp; omega
            have HB := Lib.hid hb
            clear hb hodd
            go_wp2_with fail
            go_roundw
            case rel => exact ⟨m + 1, by go_num, by rw [HST.out, HB.out], by omega, by trivial⟩
            case measure => simp [intOf]; omega
          · have hb : crcBit d = d / 2 := if_neg hodd
            have e3 : (bits .and .u32 (d : Int) 1 == 1) = false := by
              have h := u32_and_nat d 1 hl1 (by decide)
              rw [nat_mask1] at h
              simp only [Int.natCast_one] at h
              rw [h]; simp; omega
            have HB := Lib.hid hb
            clear hb hodd
            go_wp2_with fail
            go_roundw
            case rel => exact ⟨m + 1, by go_num, by rw [HST.out, HB.out]; rfl, by omega, by trivial⟩
            case measure => simp [intOf]; omega
        · obtain rfl : m = 8 := by omega
          go_wp2_with fail
          go_roundw
          case rel => exact ⟨j + 1, by go_num, by rw [HTK.out, HCB.out, HD.out], by omega, by trivial⟩
          case measure => simp [intOf]; omega
    · have hje : j = b.length := by omega
      subst hje
      rw [List.take_length] at hlt0 ⊢
      have e1 : bits .xor .u32 ((crcFrom 4294967295 b : Nat) : Int) 4294967295 = (crcB b : Nat) := u32_xor_nat _ _ hlt0 (by decide)
      have hl := crcB_lt b
      go_wp2_with fail
      go_ret
      exact ⟨rfl, rfl⟩
set_option maxHeartbeats 2000000 in
set_option maxRecDepth 100000 in
theorem sum_calls (b : List UInt8) (A : Option Addr) (c : Nat) (w : World) (hr : Rd w 1 A b.length (encB b)) :
    Calls Tryz.prog 93 #[.slice A b.length c] w fun e w' => e = .returned (.int .i64 (crcB b : Nat)) ∧ w' = w := by
  go_enter Tryz.func93, Tryz.ntmps93
  go_wp2_with (with_reducible refine (more_calls b A c _ hr).mono ?_; rintro e wz ⟨rfl, rfl⟩)
  go_ret
  exact ⟨rfl, rfl⟩
end Go.Proofs.YtkklofnabmdmfaaGreatDoor

/- slices.Grow of nothing, slices.Concat of bytes. -/
namespace Go.Proofs.YtkklofnabmdmfaaGreatDoor
open Go.RowKit
set_option linter.unusedVariables false

/-- Bytes as a slice. -/
structure Part where
  A : Option Addr
  b : List UInt8
  c : Nat
def encPart (p : Part) : List Value := [.slice p.A p.b.length p.c]

end Go.Proofs.YtkklofnabmdmfaaGreatDoor

/- code.Encode: texts as bytes. -/
namespace Go.Proofs.YtkklofnabmdmfaaGreatDoor
open Go.RowKit
set_option linter.unusedVariables false

def encT (s : ByteArray) : List Value := [.string s]
def encTs (l : List ByteArray) : List Value := l.flatMap encT
theorem tiS : TI Tryz.prog 9 (.string ⟨#[]⟩) 1 16 := by unfold TI; kernel_rfl
theorem encTs_length (l : List ByteArray) : (encTs l).length = l.length := by
  unfold encTs
  induction l with
  | nil => rfl
  | cons x l ih => rw [List.flatMap_cons, List.length_append, ih, List.length_cons]; show 1 + l.length = l.length + 1; omega
theorem encTs_one (l : List ByteArray) : ∀ u ∈ encTs l, u.oneCell' = true := by
  intro u hu
  obtain ⟨s, _, h⟩ := List.mem_flatMap.1 hu
  unfold encT at h
  rw [List.mem_singleton] at h
  subst h
  rfl
theorem encTs_append (a b : List ByteArray) : encTs (a ++ b) = encTs a ++ encTs b := by unfold encTs; rw [List.flatMap_append]
theorem byteCells_encB (s : ByteArray) : byteCells s = encB s.data.toList := rfl
/-- The bytes behind so many texts. -/
def encUp (l : List ByteArray) (j : Nat) : List UInt8 := u32 l.length ++ (l.take j).flatMap encS
theorem encUp_all (l : List ByteArray) : encUp l l.length = encL l := by unfold encUp encL; rw [List.take_length]
theorem encUp_succ (l : List ByteArray) (j : Nat) (h : j < l.length) : encUp l (j + 1) = encUp l j ++ u32 l[j].size ++ l[j].data.toList := by
  unfold encUp
  rw [List.take_succ_eq_append_getElem h, List.flatMap_append]
  simp [encS, List.append_assoc]
theorem encUp_le (l : List ByteArray) (j : Nat) : (encUp l j).length ≤ (encL l).length := by
  unfold encUp encL
  conv => rhs; rw [← List.take_append_drop j l, List.flatMap_append]
  simp only [List.length_append, u32_length]
  omega

end Go.Proofs.YtkklofnabmdmfaaGreatDoor

/- frame.Frame: a record. -/
namespace Go.Proofs.YtkklofnabmdmfaaGreatDoor
open Go.RowKit
set_option linter.unusedVariables false

end Go.Proofs.YtkklofnabmdmfaaGreatDoor

/- code.Decode: the texts that bytes are. -/
namespace Go.Proofs.YtkklofnabmdmfaaGreatDoor
open Go.RowKit
set_option linter.unusedVariables false

/-- Texts that are told, or that there are none. -/
def errT (r : Option (List ByteArray)) : Nat := if r.isSome then 0 else 2
def TextsE (r : Option (List ByteArray)) (w : World) (e : Ending) (w' : World) : Prop :=
  ∃ v, e = .returned (.tuple #[v, .int .i64 (errT r : Nat)]) ∧ Own w' 9 1 v (r.getD []).length (encTs (r.getD [])) ∧ Mod NoneB w w' ∧ (∀ g, v.ownBlock = some g → w.heap.size ≤ g)
theorem TextsE.none {w w' : World} (hm : Mod NoneB w w') : TextsE none w (.returned (.tuple #[.slice none 0 0, .int .i64 2])) w' :=
  ⟨_, rfl, Own.nil _ _ _, hm, fun g h => by simp [Value.ownBlock] at h⟩
theorem getV4_some {b : List UInt8} {i n : Nat} (h : get4 (b.drop i) = some n) : getV4 b i = n ∧ getB4 b i = true := by unfold getV4 getB4; rw [h]; exact ⟨rfl, rfl⟩
theorem getV4_none {b : List UInt8} {i : Nat} (h : get4 (b.drop i) = none) : getV4 b i = 0 ∧ getB4 b i = false := by unfold getV4 getB4; rw [h]; exact ⟨rfl, rfl⟩
theorem get4_drop_lt {b : List UInt8} {i n : Nat} (h : get4 (b.drop i) = some n) : i + 4 ≤ b.length ∧ n < 4294967296 := by
  obtain ⟨h1, h2⟩ := get4_lt h
  rw [List.length_drop] at h1
  exact ⟨by omega, h2⟩

theorem decGo_step {m k : Nat} {r : List UInt8} (h : get4 r = some k) (hk : k + 4 ≤ r.length) : decGo (m + 1) r = (decGo m (r.drop (4 + k))).map (strOf ((r.drop 4).take k) :: ·) := by
  conv => lhs; unfold decGo
  rw [h]
  simp only [if_pos hk]
theorem decGo_long {m k : Nat} {r : List UInt8} (h : get4 r = some k) (hk : r.length < k + 4) : decGo (m + 1) r = none := by
  conv => lhs; unfold decGo
  rw [h]
  simp only [if_neg (by omega : ¬ k + 4 ≤ r.length)]
theorem decGo_no {m : Nat} {r : List UInt8} (h : get4 r = none) : decGo (m + 1) r = none := by
  conv => lhs; unfold decGo
  rw [h]
theorem decGo_end (r : List UInt8) : decGo 0 r = if r = [] then some [] else none := rfl

/-- Bytes in the midst of bytes. -/
theorem Rd.sub {w : World} {ad : Addr} {n : Nat} {l : List UInt8} (h : Rd w 1 (some ad) n (encB l)) (i k : Nat) (hk : i + k ≤ n) : Rd w 1 (some (ad.add i)) k (encB ((l.drop i).take k)) := by
  have hl : l.length = n := by have := h.1; rw [encB_length] at this; omega
  refine ⟨by rw [encB_length, List.length_take, List.length_drop]; omega, Nat.le_trans (by omega) h.2.1, fun hp => ⟨_, rfl, fun j u hu => ?_⟩⟩
  obtain ⟨ad', e, hc⟩ := h.2.2 (by omega)
  injection e with e
  subst e
  have e2 : (ad.add i).add j = ad.add (i + j) := by unfold Addr.add; split <;> split <;> simp_all <;> omega
  rw [e2]
  refine hc _ u ?_
  unfold encB at *
  rw [List.getElem?_map] at hu ⊢
  rw [List.getElem?_take] at hu
  split at hu
  · rw [List.getElem?_drop] at hu; exact hu
  · cases hu

set_option maxRecDepth 100000 in
/-- b[i : i+k], as the walk takes it. -/
theorem sub_at {w : World} {ad : Addr} {n c : Nat} {l : List UInt8} (h : Rd w 1 (some ad) n (encB l)) (hnc : n ≤ c) (i k : Nat) (hk : i + k ≤ n) (lo hi : Int) (hlo : lo = i) (hhi : hi = (i : Int) + k) :
    ∃ A', (∀ W, (Instr.slice 25 (.slice (some ad) n c) (some (.int .i64 lo)) (some (.int .i64 hi)) none).run Tryz.prog W = .ok (.slice A' k (c - i)) W) ∧
      (∀ W, (Instr.sliceAt 25 (.slice (some ad) n c) (some (.int .i64 lo)) (some (.int .i64 hi)) none).run Tryz.prog W = .ok (.slice A' k (c - i)) W) ∧ Rd w 1 A' k (encB ((l.drop i).take k)) := by
  subst hlo hhi
  have ht : Tryz.prog.underlying 25 = some (.slice (Tryz.prog.elem 25)) := by kernel_rfl
  have he : Tryz.prog.elem 25 = 5 := by kernel_rfl
  obtain ⟨ti, hti, _, hs, _⟩ := (tiB).parts
  have hrun : ∀ W, (Instr.slice 25 (.slice (some ad) n c) (some (.int .i64 (i : Int))) (some (.int .i64 ((i : Int) + k))) none).run Tryz.prog W = .ok (.slice (if c = i then some ad else some (ad.add i)) k (c - i)) W := by
    intro W
    rw [run_slice_lh W 25 (some ad) n c ht .i64 .i64 _ _ (by omega) (by omega) (by omega), he]
    simp [sizeOf, typeInfo, hti, hs, sliced, show ((i : Int) + k).toNat = i + k from by omega]
  refine ⟨_, hrun, fun W => by rw [run_sliceAt_slice W _ _ _ _ _ ht]; exact hrun W, ?_⟩
  by_cases hci : c = i
  · have h0 : k = 0 := by omega
    subst h0
    rw [List.take_zero]
    exact Rd.nil _ _ _
  · rw [if_neg hci]
    exact h.sub i k hk

set_option maxHeartbeats 2000000 in
set_option maxRecDepth 100000 in
theorem dnext_calls (b : List UInt8) (B : Option Addr) (bc i q1 q4 : Nat) (w : World) (hr : Rd w 1 B b.length (encB b)) (hi : i ≤ 2305843009213693952) (x1 : w.heap[q1]? = some (.cells #[.slice B b.length bc] 25 (0, 0))) (x4 : w.heap[q4]? = some (.cells #[.int .i64 i] 3 (0, 0))) :
    Calls Tryz.prog 78 #[.pointer (some ⟨q1, 0, none⟩), .pointer (some ⟨q4, 0, none⟩)] w fun e w' => e = .returned (.tuple #[.int .i64 (getV4 b i : Nat), .bool (getB4 b i)]) ∧ w'.heap[q4]? = some (.cells #[.int .i64 ((i + 4 : Nat) : Int)] 3 (0, 0)) ∧ Mod (fun k => k = q4) w w' := by
  have y1 : w.cell? ⟨q1, 0, none⟩ = some (.slice B b.length bc) := by rw [blk_cell x1]; rfl
  have y4 : w.cell? ⟨q4, 0, none⟩ = some (.int .i64 i) := by rw [blk_cell x4]; rfl
  go_enter Tryz.func78, Tryz.ntmps78
  go_wp2_with fail
  refine (cget_calls b i B bc w hr (by omega)).mono ?_
  rintro e w1 ⟨rfl, hm1⟩
  have x41 := hm1.blk x4 (fun h => h)
  have y41 : w1.cell? ⟨q4, 0, none⟩ = some (.int .i64 i) := hm1.cell0 y4
  have f41 : w1.frozen? ⟨q4, 0, none⟩ = false := blk_frozen x41 0
  have hs := setCell_blk0 (j := 0) (u := .int .i64 ((i + 4 : Nat) : Int)) x41
  have hm2 : Mod (fun k => k = q4) w (w1.setCell ⟨q4, 0, none⟩ (.int .i64 ((i + 4 : Nat) : Int))) := Mod.setCell (S := fun k => k = q4) (hm1.mono (fun _ _ h => h.elim)) (p := ⟨q4, 0, none⟩) (fun _ => rfl) _
  have e4 : ((i + 4 : Nat) : Int) = (i : Int) + 4 := by omega
  rw [e4] at hs hm2
  have HE4 := Lib.hid e4
  clear e4 y1 y4 x4 x1 x41
  obtain ⟨V, hV⟩ : ∃ V, V = getV4 b i := ⟨_, rfl⟩
  obtain ⟨O, hO⟩ : ∃ O, O = getB4 b i := ⟨_, rfl⟩
  rw [← hV, ← hO]
  have HVV := Lib.hid hV
  have HOO := Lib.hid hO
  clear hV hO
  go_wp2_with fail
  go_ret2
  refine ⟨?_, by rw [HE4.out]; exact hs, hm2⟩
  first
    | rfl
    | (rw [← HVV.out, ← HOO.out]; rfl)

set_option maxHeartbeats 4000000 in
set_option maxRecDepth 100000 in
theorem decode_calls (b : List UInt8) (B : Option Addr) (bc : Nat) (w : World) (hr : Rd w 1 B b.length (encB b)) (hlb : b.length ≤ 140737488355328) (hbc : b.length ≤ bc) :
    Calls Tryz.prog 45 #[.slice B b.length bc] w (TextsE (decL b) w) := by
  go_enter Tryz.func45, Tryz.ntmps45
  go_wp2_with fail
  have hal : Mod NoneB w ((w.alloc (.cells #[.slice B b.length bc] 25)).alloc (.cells #[.int .i64 0] 3)) := ((Mod.refl NoneB w).alloc _).alloc _
  have x1 : ((w.alloc (.cells #[.slice B b.length bc] 25)).alloc (.cells #[.int .i64 0] 3)).heap[w.heap.size]? = some (.cells #[.slice B b.length bc] 25 (0, 0)) := ((Mod.refl NoneB _).alloc _).blk (heap_alloc_new w _) (fun h => h)
  have x4 : ((w.alloc (.cells #[.slice B b.length bc] 25)).alloc (.cells #[.int .i64 0] 3)).heap[w.heap.size + 1]? = some (.cells #[.int .i64 0] 3 (0, 0)) := heap_alloc2_new w _ _
  generalize (w.alloc (.cells #[.slice B b.length bc] 25)).alloc (.cells #[.int .i64 0] 3) = w1 at hal x1 x4 ⊢
  obtain ⟨q1, hq1⟩ : ∃ q, q = w.heap.size := ⟨_, rfl⟩
  obtain ⟨q4, hq4⟩ : ∃ q, q = w.heap.size + 1 := ⟨_, rfl⟩
  rw [← hq4, ← hq1]
  rw [← hq1] at x1
  rw [← hq4] at x4
  have n1 : w.heap.size ≤ q1 := by omega
  have n4 : w.heap.size ≤ q4 := by omega
  have n14 : q1 ≠ q4 := by omega
  clear hq1 hq4
  have hr1 := hr.mod0 hal
  refine (dnext_calls b B bc 0 q1 q4 w1 hr1 (by omega) x1 x4).mono ?_
  rintro e w2 ⟨rfl, x42, hm2⟩
  have hm2w : Mod NoneB w w2 := hal.trans_new hm2 (fun k hk => .inr (by subst hk; exact n4))
  have x12 := hm2.blk x1 n14
  have y12 : w2.cell? ⟨q1, 0, none⟩ = some (.slice B b.length bc) := by rw [blk_cell x12]; rfl
  have hl4 : IntKind.i64.wrap ((b.length : Int) / 4) = (b.length : Int) / 4 := IntWalk.i64_in _ (by omega)
  clear x1 x4 hal hm2 hr1
  cases hg : get4 (b.drop 0) with
  | none =>
    obtain ⟨hv, ho⟩ := getV4_none hg
    have hd : decL b = none := by unfold decL; rw [List.drop_zero] at hg; rw [hg]
    rw [hv, ho]
    have HD := Lib.hid hd
    clear hg hv ho hd
    go_wp2_with fail
    go_ret2
    rw [HD.out]
    exact TextsE.none hm2w
  | some n =>
    obtain ⟨hv, ho⟩ := getV4_some hg
    obtain ⟨h04, hn32⟩ := get4_drop_lt hg
    have hd : decL b = decGo n (b.drop 4) := by unfold decL; rw [List.drop_zero] at hg; rw [hg]
    rw [hv, ho]
    have HD := Lib.hid hd
    clear hg hv ho hd
    by_cases hbig : b.length / 4 < n
    · have hno : decL b = none := by
        rw [HD.out]
        cases hq : decGo n (b.drop 4) with
        | none => rfl
        | some l =>
          have := (decGo_len _ _ _ hq).2
          rw [List.length_drop] at this
          omega
      have HNO := Lib.hid hno
      have hb1 : decide ((b.length : Int) / 4 < (n : Int)) = true := by simp; omega
      clear hno
      go_wp2_with fail
      go_ret2
      rw [HNO.out]
      exact TextsE.none hm2w
    · have hb1 : decide ((b.length : Int) / 4 < (n : Int)) = false := by simp; omega
      go_wp2_with fail
      clear hb1 hl4
      go_loopw [8, 9, 10, 27, 29] (fun v a9 a10 t a29 wr => ∃ (j at_ : Nat) (ts : List ByteArray), t = .int .i64 j ∧ j ≤ n ∧ at_ ≤ b.length ∧ ts.length = j ∧ Own wr 9 1 v ts.length (encTs ts) ∧ wr.heap[q1]? = some (.cells #[.slice B b.length bc] 25 (0, 0)) ∧ wr.heap[q4]? = some (.cells #[.int .i64 at_] 3 (0, 0)) ∧
        decL b = (decGo (n - j) (b.drop at_)).map (ts ++ ·) ∧ Mod NoneB w wr ∧ (∀ g, v.ownBlock = some g → w.heap.size ≤ g)) (fun _ _ _ t _ _ => n - (intOf t).toNat)
      case atStart => exact ⟨0, 4, [], rfl, by omega, by omega, rfl, Own.nil _ _ _, x12, x42, by rw [HD.out]; simp, hm2w, fun g h => by simp [Value.ownBlock] at h⟩
      case round =>
        obtain ⟨j, at_, ts, rfl, hj, hat, htl, hov, x1, x4, hdj, hmj, hnv⟩ := hrel
        clear x12 x42 hm2w HD y12
        have HDJ := Lib.hid hdj
        have HOV := Lib.hid hov
        have HNV := Lib.hid hnv
        have HTL := Lib.hid htl
        clear hdj hnv htl
        by_cases hlt : j < n
        · obtain ⟨m, hm⟩ : ∃ m, n - j = m + 1 := ⟨n - j - 1, by omega⟩
          have hm' : n - (j + 1) = m := by omega
          have HM := Lib.hid hm
          have HM' := Lib.hid hm'
          clear hm hm'
          go_wp2_with fail
          refine (dnext_calls b B bc at_ q1 q4 wr (hr.mod0 hmj) (by omega) x1 x4).mono ?_
          rintro e w3 ⟨rfl, x43, hm3⟩
          have hm3w : Mod NoneB w w3 := hmj.trans_new hm3 (fun k hk => .inr (by subst hk; exact n4))
          have x13 := hm3.blk x1 n14
          have y13 : w3.cell? ⟨q1, 0, none⟩ = some (.slice B b.length bc) := by rw [blk_cell x13]; rfl
          have y43 : w3.cell? ⟨q4, 0, none⟩ = some (.int .i64 ((at_ + 4 : Nat) : Int)) := by rw [blk_cell x43]; rfl
          cases hg : get4 (b.drop at_) with
          | none =>
            obtain ⟨hv, ho⟩ := getV4_none hg
            have hd : decL b = none := by rw [HDJ.out, HM.out, decGo_no hg]; rfl
            rw [hv, ho]
            have HD := Lib.hid hd
            clear hg hv ho hd
            go_wp2_with fail
            go_ret2
            rw [HD.out]
            exact TextsE.none hm3w
          | some k =>
            obtain ⟨hv, ho⟩ := getV4_some hg
            obtain ⟨h04, hk32⟩ := get4_drop_lt hg
            rw [hv, ho]
            clear hv ho
            have e43 : ((at_ + 4 : Nat) : Int) = (at_ : Int) + 4 := by omega
            rw [e43] at y43
            clear e43
            by_cases hlong : b.length < at_ + 4 + k
            · have hd : decL b = none := by rw [HDJ.out, HM.out, decGo_long hg (by rw [List.length_drop]; omega)]; rfl
              have hb1 : decide ((b.length : Int) - ((at_ : Int) + 4) < (k : Int)) = true := by simp; omega
              have HD := Lib.hid hd
              clear hg hd
              go_wp2_with fail
              go_ret2
              rw [HD.out]
              exact TextsE.none hm3w
            · have hd := decGo_step (m := m) hg (by rw [List.length_drop]; omega)
              rw [List.drop_drop, List.drop_drop] at hd
              have hd2 : decL b = (decGo m (b.drop (at_ + 4 + k))).map (ts ++ [strOf ((b.drop (at_ + 4)).take k)] ++ ·) := by
                rw [HDJ.out, HM.out, hd, Option.map_map]
                congr 1
                · funext x; simp
                · rw [Nat.add_assoc]
              have hb1 : decide ((b.length : Int) - ((at_ : Int) + 4) < (k : Int)) = false := by simp; omega
              have HD := Lib.hid hd2
              obtain ⟨ad, rfl, _⟩ := hr.2.2 (by omega)
              obtain ⟨A', hs1, hs2, hrs⟩ := sub_at ((hr.mod0 hmj).modP hm3 (fun hp ad he hq => by have := (hr.mod0 hmj).block_lt (by decide) hp ad he; have h2 := hr.block_lt (by decide) hp ad he; omega)) hbc (at_ + 4) k (by omega) ((at_ : Int) + 4) ((at_ : Int) + 4 + k) (by omega) (by omega)
              obtain ⟨str, hstr⟩ : ∃ str, str = strOf ((b.drop (at_ + 4)).take k) := ⟨_, rfl⟩
              have hcv : (convert 25 9 (.slice A' k (bc - (at_ + 4)))).run Tryz.prog w3 = .ok (.string str) w3 := by
                rw [hstr]
                exact conv_strN (by rw [List.length_take, List.length_drop]; omega) hrs
              have HSTR := Lib.hid hstr
              clear hg hd hd2 hrs hstr
              have hov3 := hov.mod hm3 (fun g hg he => by
                subst he
                obtain ⟨c', hc'⟩ := hov.tag0 hg
                exact tag_ne0 x4 hc' (by decide) rfl)
              have htsl : ts.length ≤ 4294967296 := by have := HTL.out; omega
              obtain ⟨nt, hnt⟩ : ∃ nt, nt = ts.length := ⟨_, rfl⟩
              rw [← hnt] at htsl hov3
              have HNT := Lib.hid hnt
              have h16 : (nt + 1) * 16 ≤ 140737488355328 := by omega
              have hus := Tryz.underlying58
              have hox := hov3.mod0 ((Mod.refl NoneB w3).alloc (.cells #[.string str] 9))
              have hnx : 0 < 1 → ∃ a, (some ⟨w3.heap.size, 0, none⟩ : Option Addr) = some a ∧ ∀ (j : Nat) u, (encTs [str])[j]? = some u → (w3.alloc (.cells #[.string str] 9)).cell? (a.add j) = some u := (rdBlk (sz := 1) (n := 1) (heap_alloc_new w3 (.cells #[.string str] 9)) rfl (by omega)).2.2
              have hmx : Mod NoneB w3 (w3.alloc (.cells #[.string str] 9)) := (Mod.refl NoneB w3).alloc _
              clear hov hnt hov3
              go_wp2_with (at_builtin; refine wpList_append rfl (.tmp 44) (.tmp 52) 58 rfl 9 _ 1 16 hus tiS rfl (by decide) (by decide) _ nt (encTs ts) rfl hox (some ⟨w3.heap.size, 0, none⟩) 1 1 (encTs [str]) rfl rfl hnx (encTs_one _) h16 ?_)
              intro v5 w5 ho5 hm5 hno5
              have x15 : w5.heap[q1]? = some (.cells #[.slice (some ad) b.length bc] 25 (0, 0)) := hm5.blk (hmx.blk x13 (fun h => h)) (fun h => by
                obtain ⟨c', hc'⟩ := hox.tag0 h
                exact tag_ne0 (hmx.blk x13 (fun h => h)) hc' (by decide) rfl)
              have x45 : w5.heap[q4]? = some (.cells #[.int .i64 ((at_ + 4 : Nat) : Int)] 3 (0, 0)) := hm5.blk (hmx.blk x43 (fun h => h)) (fun h => by
                obtain ⟨c', hc'⟩ := hox.tag0 h
                exact tag_ne0 (hmx.blk x43 (fun h => h)) hc' (by decide) rfl)
              have y45 : w5.cell? ⟨q4, 0, none⟩ = some (.int .i64 ((at_ : Int) + 4)) := by rw [blk_cell x45]; simp
              have f45 : w5.frozen? ⟨q4, 0, none⟩ = false := blk_frozen x45 0
              have hm5w : Mod NoneB w w5 := (hm3w.then0 hmx).trans_new hm5 (fun k hk => .inr (HNV.out k hk))
              have hn5 : ∀ g, v5.ownBlock = some g → w.heap.size ≤ g := by
                intro g hg
                rcases hno5 with hq | ⟨b, hq, hb⟩
                · exact HNV.out g (by rw [← hq]; exact hg)
                · rw [hq] at hg
                  injection hg with hg
                  have h1 := (hm3w.then0 hmx).size
                  omega
              have hs6 := setCell_blk0 (j := 0) (u := .int .i64 ((at_ : Int) + 4 + k)) x45
              have hms : Mod (fun k => k = q4) w5 (w5.setCell ⟨q4, 0, none⟩ (.int .i64 ((at_ : Int) + 4 + k))) := Mod.setCell (S := fun k => k = q4) (Mod.refl _ _) (p := ⟨q4, 0, none⟩) (fun _ => rfl) _
              have x16 := hms.blk x15 n14
              have hm6w := hm5w.trans_new hms (fun k hk => .inr (by subst hk; exact n4))
              have ho6 : Own (w5.setCell ⟨q4, 0, none⟩ (.int .i64 ((at_ : Int) + 4 + k))) 9 1 v5 (ts ++ [str]).length (encTs (ts ++ [str])) := by
                have h := ho5.mod hms (fun g hg he => by
                  subst he
                  obtain ⟨c', hc'⟩ := ho5.tag0 hg
                  exact tag_ne0 x45 hc' (by decide) rfl)
                rw [List.length_append, encTs_append, ← HNT.out]
                exact h
              obtain ⟨A5, c5, rfl, _, _, _⟩ := ho5.out
              have HO6 := Lib.hid ho6
              have HN5 := Lib.hid hn5
              have HS6 := Lib.hid hs6
              have HX16 := Lib.hid x16
              clear ho6 hn5 hs6 x16 ho5 hox hnx hno5 hcv hs1 hs2 x1 x4 x13 x43 x15 y13 y43
              go_wp2_with fail
              go_roundw
              case rel => exact ⟨j + 1, at_ + 4 + k, ts ++ [str], by go_num, by omega, by omega, by simp [HTL.out], HO6.out, HX16.out, by have h := HS6.out; simpa using h, by rw [HM'.out, HD.out, HSTR.out], hm6w, HN5.out⟩
              case measure => simp [intOf]; omega
        · have hje : j = n := by omega
          subst hje
          have y1 : wr.cell? ⟨q1, 0, none⟩ = some (.slice B b.length bc) := by rw [blk_cell x1]; rfl
          have y4 : wr.cell? ⟨q4, 0, none⟩ = some (.int .i64 (at_ : Int)) := by rw [blk_cell x4]; rfl
          have hd : decL b = if b.drop at_ = [] then some ts else none := by
            rw [HDJ.out, Nat.sub_self, decGo_end]
            split
            · simp
            · rfl
          have HD := Lib.hid hd
          clear hd
          obtain ⟨A8, c8, rfl, _, _, _⟩ := hov.out
          clear hov
          by_cases hall : at_ = b.length
          · have hd2 : decL b = some ts := by rw [HD.out, if_pos (by rw [hall]; exact List.drop_length)]
            have HD2 := Lib.hid hd2
            have b1 : ((at_ : Int) == (b.length : Int)) = true := by simp; omega
            have b2 : ((at_ : Int) != (b.length : Int)) = false := by simp; omega
            have b3 : (at_ == b.length) = true := by simp; omega
            clear hd2 hall x1 x4
            go_wp2_with fail
            go_ret2
            rw [HD2.out]
            exact ⟨_, rfl, HOV.out, hmj, HNV.out⟩
          · have hd2 : decL b = none := by
              rw [HD.out, if_neg (fun h => ?_)]
              have := congrArg List.length h
              rw [List.length_drop, List.length_nil] at this
              omega
            have HD2 := Lib.hid hd2
            have b1 : ((at_ : Int) == (b.length : Int)) = false := by simp; omega
            have b2 : ((at_ : Int) != (b.length : Int)) = true := by simp; omega
            have b3 : (at_ == b.length) = false := by simp; omega
            clear hd2 hall x1 x4
            go_wp2_with fail
            go_ret2
            rw [HD2.out]
            exact TextsE.none hmj
end Go.Proofs.YtkklofnabmdmfaaGreatDoor

/- frame.Scan: the records that bytes begin with. -/
namespace Go.Proofs.YtkklofnabmdmfaaGreatDoor
open Go.RowKit
set_option linter.unusedVariables false

theorem tiBs : TI Tryz.prog 25 (.slice none 0 0) 1 24 := by unfold TI; kernel_rfl
/-- Texts of bytes as they are told: a row of slices, each in a block of its own; all in blocks from N on. -/
structure ListAt (w : World) (v : Value) (N : Nat) (ps : List (List UInt8)) (vs : List Value) : Prop where
  own : Own w 25 1 v ps.length vs
  len : vs.length = ps.length
  byt : ∀ i (h : i < ps.length) (h' : i < vs.length), Own w 5 1 vs[i] ps[i].length (encB ps[i])
  one : ∀ u ∈ vs, u.oneCell' = true
  new : ∀ g, v.ownBlock = some g → N ≤ g
  newB : ∀ u ∈ vs, ∀ g, u.ownBlock = some g → N ≤ g
theorem ListAt.mod0 {w w1 : World} {v : Value} {N : Nat} {ps : List (List UInt8)} {vs : List Value} (h : ListAt w v N ps vs) (hm : Mod NoneB w w1) : ListAt w1 v N ps vs :=
  ⟨h.own.mod0 hm, h.len, fun i h1 h2 => (h.byt i h1 h2).mod0 hm, h.one, h.new, h.newB⟩
theorem ListAt.nil (w : World) (N : Nat) : ListAt w (.slice none 0 0) N [] [] := ⟨Own.nil _ _ _, rfl, (fun i h => by cases h), (fun u h => by cases h), (fun g h => by cases h), (fun u h => by cases h)⟩
/-- One more behind. -/
theorem ListAt.snoc {w w1 : World} {v v1 u : Value} {N : Nat} {ps : List (List UInt8)} {vs : List Value} {p : List UInt8} (h : ListAt w v N ps vs) (hm : Mod (OnlyBlk v) w w1) (hno : NewOr w v v1) (hN : N ≤ w.heap.size)
    (ho : Own w1 25 1 v1 (ps.length + 1) (vs ++ [u])) (hu : Own w 5 1 u p.length (encB p)) (h1 : u.oneCell' = true) (hn : ∀ g, u.ownBlock = some g → N ≤ g) : ListAt w1 v1 N (ps ++ [p]) (vs ++ [u]) where
  own := by rw [List.length_append]; exact ho
  len := by simp [h.len]
  byt := by
    have ht : ∀ (x : Value) (n : Nat) (cs : List Value), Own w 5 1 x n cs → Own w1 5 1 x n cs := by
      intro x n cs hx
      refine hx.mod hm (fun g hg hk => ?_)
      obtain ⟨c1, hc1⟩ := hx.tag0 hg
      obtain ⟨c2, hc2⟩ := h.own.tag0 hk
      exact tag_ne0 hc1 hc2 (by decide) rfl
    intro i h2 h3
    have hl := h.len
    by_cases hi : i < ps.length
    · rw [List.getElem_append_left (by omega), List.getElem_append_left (by omega)]
      exact ht _ _ _ (h.byt i hi (by omega))
    · obtain rfl : i = ps.length := by simp at h2; omega
      have e1 : (vs ++ [u])[ps.length] = u := by simp [← hl]
      have e2 : (ps ++ [p])[ps.length] = p := by simp
      rw [e1, e2]
      exact ht _ _ _ hu
  one := fun x hx => by
    rcases List.mem_append.1 hx with hx | hx
    · exact h.one x hx
    · rw [List.mem_singleton] at hx; subst hx; exact h1
  new := fun g hg => by
    rcases hno with hq | ⟨b, hq, hb⟩
    · exact h.new g (by rw [← hq]; exact hg)
    · rw [hq] at hg
      injection hg with hg
      omega
  newB := fun x hx g hg => by
    rcases List.mem_append.1 hx with hx | hx
    · exact h.newB x hx g hg
    · rw [List.mem_singleton] at hx; subst hx; exact hn g hg

/-- Records that are told, and how many bytes they have. -/
def ScanE (b : List UInt8) (w : World) (e : Ending) (w' : World) : Prop :=
  ∃ v vs, e = .returned (.tuple #[v, .int .i64 (goodOf (scanB b) : Nat)]) ∧ ListAt w' v w.heap.size (scanB b) vs ∧ Mod NoneB w w'

theorem cgetI_calls (b : List UInt8) (i : Nat) (z : Int) (hz : z = i) (A : Option Addr) (n c : Nat) (w : World) (hn : n = b.length) (hr : Rd w 1 A n (encB b)) (hi : i ≤ 4611686018427387904) :
    Calls Tryz.prog 79 #[.slice A n c, .int .i64 z] w fun e w' => e = .returned (.tuple #[.int .i64 (getV4 b i : Nat), .bool (getB4 b i)]) ∧ Mod NoneB w w' := by
  subst hz hn; exact cget_calls b i A c w hr hi
theorem sumN_calls (b : List UInt8) (A : Option Addr) (n c : Nat) (w : World) (hn : b.length = n) (hr : Rd w 1 A n (encB b)) :
    Calls Tryz.prog 93 #[.slice A n c] w fun e w' => e = .returned (.int .i64 (crcB b : Nat)) ∧ w' = w := by
  subst hn; exact sum_calls b A c w hr
theorem cloneBN_calls (l : List UInt8) (A : Option Addr) (n c : Nat) (w : World) (hn : l.length = n) (hr : Rd w 1 A n (encB l)) (hsz : n * 1 ≤ 140737488355328) :
    Calls Tryz.prog 89 #[.slice A n c] w fun e w' => ∃ v', e = .returned v' ∧ Own w' 5 1 v' n (encB l) ∧ Mod NoneB w w' ∧ (∀ g, v'.ownBlock = some g → w.heap.size ≤ g) := by
  subst hn; exact cloneB_calls l A c w hr hsz

theorem scan1_at {b : List UInt8} {at_ n s : Nat} (h1 : get4 (b.drop at_) = some n) (h2 : get4 (b.drop (at_ + 4)) = some s) :
    scan1 (b.drop at_) = if n ≤ 1048576 ∧ n + 8 ≤ b.length - at_ ∧ crcB ((b.drop (at_ + 8)).take n) = s then some ((b.drop (at_ + 8)).take n) else none := by
  unfold scan1
  rw [h1, List.drop_drop, h2, List.drop_drop, List.length_drop]
theorem scan1_no1 {b : List UInt8} {at_ : Nat} (h1 : get4 (b.drop at_) = none) : scan1 (b.drop at_) = none := by
  unfold scan1; rw [h1]
theorem scan1_no2 {b : List UInt8} {at_ : Nat} (h2 : get4 (b.drop (at_ + 4)) = none) : scan1 (b.drop at_) = none := by
  unfold scan1
  rw [List.drop_drop, h2]
  cases get4 (b.drop at_) <;> rfl
theorem goodOf_append (a b : List (List UInt8)) : goodOf (a ++ b) = goodOf a + goodOf b := by unfold goodOf; rw [List.map_append, List.sum_append]

set_option maxHeartbeats 4000000 in
set_option maxRecDepth 100000 in
theorem scan_calls (b : List UInt8) (B : Option Addr) (bc : Nat) (w : World) (hr : Rd w 1 B b.length (encB b)) (hlb : b.length ≤ 1099511627776) (hbc : b.length ≤ bc) :
    Calls Tryz.prog 55 #[.slice B b.length bc] w (ScanE b w) := by
  go_enter Tryz.func55, Tryz.ntmps55
  go_wp2_with fail
  go_step3
  go_wp2_with fail
  go_step3
  go_wp2_with fail
  go_loopw [2, 3, 4, 5, 6, 7, 8] (fun v t a4 a5 a6 a7 a8 wr => ∃ (at_ : Nat) (ps : List (List UInt8)) (vs : List Value), t = .int .i64 at_ ∧ at_ ≤ b.length ∧ ListAt wr v w.heap.size ps vs ∧ scanB b = ps ++ scanB (b.drop at_) ∧ goodOf ps = at_ ∧ ps.length ≤ at_ ∧ Mod NoneB w wr) (fun _ t _ _ _ _ _ _ => b.length + 1 - (intOf t).toNat)
  case atStart => exact ⟨0, [], [], rfl, by omega, ListAt.nil _ _, by simp, rfl, by simp, Mod.refl _ _⟩
  case round =>
    obtain ⟨at_, ps, vs, rfl, hat, hla, hsc, hgo, hpl, hmj⟩ := hrel
    have HLA := Lib.hid hla
    have HSC := Lib.hid hsc
    have HGO := Lib.hid hgo
    have hov := hla.own
    obtain ⟨A8, c8, rfl, _, _, _⟩ := hov.out
    have hend : ∀ w', Mod NoneB wr w' → scan1 (b.drop at_) = none → ScanE b w (.returned (.tuple #[.slice A8 ps.length c8, .int .i64 at_])) w' := by
      intro w' hm' hno
      have e : scanB b = ps := by rw [HSC.out, scanB_none hno, List.append_nil]
      unfold ScanE
      rw [e, HGO.out]
      exact ⟨_, vs, rfl, HLA.out.mod0 hm', hmj.then0 hm'⟩
    have HEND := Lib.hid hend
    have HOV := Lib.hid hov
    clear hla hsc hgo hov hend
    go_wp2_with fail
    refine (cget_calls b at_ B bc wr (hr.mod0 hmj) (by omega)).mono ?_
    rintro e w1 ⟨rfl, hm1⟩
    go_wp2_with fail
    refine (cgetI_calls b (at_ + 4) ((at_ : Int) + 4) (by omega) B _ bc w1 rfl ((hr.mod0 hmj).mod0 hm1) (by omega)).mono ?_
    rintro e w2 ⟨rfl, hm2⟩
    have hm12 := hm1.then0 hm2
    clear hm1 hm2
    cases hg : get4 (b.drop at_) with
    | none =>
      obtain ⟨hv, ho⟩ := getV4_none hg
      have hno := scan1_no1 hg
      have hfin := HEND.out w2 hm12 hno
      have HF := Lib.hid hfin
      rw [hv, ho]
      obtain ⟨V2, hV2⟩ : ∃ V, V = getV4 b (at_ + 4) := ⟨_, rfl⟩
      obtain ⟨O2, hO2⟩ : ∃ V, V = getB4 b (at_ + 4) := ⟨_, rfl⟩
      rw [← hV2, ← hO2]
      clear hg hv ho hno hfin HEND hV2 hO2
      go_wp2_with fail
      all_goals
        try rw [Exit.noGoto_ret]
        go_ret2
        exact HF.out
    | some n =>
      obtain ⟨hv, ho⟩ := getV4_some hg
      obtain ⟨h04, hn32⟩ := get4_drop_lt hg
      rw [hv, ho]
      clear hv ho
      cases hg2 : get4 (b.drop (at_ + 4)) with
      | none =>
        obtain ⟨hv, ho⟩ := getV4_none hg2
        have hno := scan1_no2 hg2
        have hfin := HEND.out w2 hm12 hno
        have HF := Lib.hid hfin
        rw [hv, ho]
        clear hg hg2 hv ho hno hfin HEND
        go_wp2_with fail
        try rw [Exit.noGoto_ret]
        go_ret2
        exact HF.out
      | some s =>
        obtain ⟨hv, ho⟩ := getV4_some hg2
        obtain ⟨h08, hs32⟩ := get4_drop_lt hg2
        rw [hv, ho]
        have hs1 := scan1_at hg hg2
        clear hv ho hg hg2
        by_cases hbig : 1048576 < n
        · have hfin := HEND.out w2 hm12 (by rw [hs1, if_neg (by omega)])
          have HF := Lib.hid hfin
          clear hfin HEND hs1
          go_wp2_with fail
          try rw [Exit.noGoto_ret]
          go_ret2
          exact HF.out
        · by_cases hlong : b.length - at_ < n + 8
          · have hfin := HEND.out w2 hm12 (by rw [hs1, if_neg (by omega)])
            have b1 : decide ((b.length : Int) - (at_ : Int) - 8 < (n : Int)) = true := by simp; omega
            have HF := Lib.hid hfin
            clear hfin HEND hs1
            go_wp2_with fail
            try rw [Exit.noGoto_ret]
            go_ret2
            exact HF.out
          · have b1 : decide ((b.length : Int) - (at_ : Int) - 8 < (n : Int)) = false := by simp; omega
            obtain ⟨ad, rfl, _⟩ := hr.2.2 (by omega)
            obtain ⟨A', hsl1, hsl2, hrs⟩ := sub_at ((hr.mod0 hmj).mod0 hm12) hbc (at_ + 8) n (by omega) ((at_ : Int) + 8) ((at_ : Int) + 8 + n) (by omega) (by omega)
            obtain ⟨p, hp⟩ : ∃ p, p = (b.drop (at_ + 8)).take n := ⟨_, rfl⟩
            rw [← hp] at hs1 hrs
            have hpn : p.length = n := by rw [hp, List.length_take, List.length_drop]; omega
            have HPN := Lib.hid hpn
            have hcl := crcB_lt p
            have hsum := sumN_calls p A' n (bc - (at_ + 8)) w2 hpn hrs
            obtain ⟨cs, hcs⟩ : ∃ cs, cs = crcB p := ⟨_, rfl⟩
            rw [← hcs] at hcl hsum hs1
            have HSUM := Lib.hid hsum
            clear hp hcs hsum hpn
            by_cases hcrc : cs = s
            · have hsc1 : scan1 (b.drop at_) = some p := by rw [hs1, if_pos ⟨by omega, by omega, hcrc⟩]
              have hsb : scanB b = (ps ++ [p]) ++ scanB (b.drop (at_ + (8 + n))) := by
                rw [HSC.out, scanB_some hsc1, List.drop_drop, HPN.out]; simp
              have hgo2 : goodOf (ps ++ [p]) = at_ + (8 + n) := by
                rw [goodOf_append, HGO.out]
                show at_ + ((8 + p.length) + 0) = _
                rw [HPN.out]; rfl
              have HSB := Lib.hid hsb
              have HGO2 := Lib.hid hgo2
              subst hcrc
              clear hs1 hsc1 hsb hgo2 HEND
              have hcln := cloneBN_calls p A' n (bc - (at_ + 8)) w2 HPN.out hrs (by omega)
              have HCLN := Lib.hid hcln
              clear hcln
              go_wp2_with fail
              refine HSUM.out.mono ?_
              rintro e w3 ⟨rfl, rfl⟩
              go_wp2_with fail
              refine HCLN.out.mono ?_
              rintro e w4 ⟨vp, rfl, hop, hm4, hnp⟩
              obtain ⟨Ap, cp, rfl, _, _, _⟩ := hop.out
              have hm24 := hm12.then0 hm4
              have hlx := HLA.out.mod0 (hm24)
              have hov4 := (HOV.out.mod0 hm24).mod0 ((Mod.refl NoneB w4).alloc (.cells #[.slice Ap n cp] 25))
              have hnx : 0 < 1 → ∃ a, (some ⟨w4.heap.size, 0, none⟩ : Option Addr) = some a ∧ ∀ (j : Nat) u, [Value.slice Ap n cp][j]? = some u → (w4.alloc (.cells #[.slice Ap n cp] 25)).cell? (a.add j) = some u := (rdBlk (sz := 1) (n := 1) (heap_alloc_new w4 (.cells #[.slice Ap n cp] 25)) rfl (by omega)).2.2
              have hmx : Mod NoneB w4 (w4.alloc (.cells #[.slice Ap n cp] 25)) := (Mod.refl NoneB w4).alloc _
              have h24 : (ps.length + 1) * 24 ≤ 140737488355328 := by omega
              have hub := Tryz.underlying115
              have hone : ∀ u ∈ [Value.slice Ap n cp], u.oneCell' = true := fun u hu => by rw [List.mem_singleton] at hu; subst hu; rfl
              have HLX := Lib.hid hlx
              have HOP := Lib.hid hop
              have HNP := Lib.hid hnp
              clear hlx hop hnp hsl1 hsl2 hrs
              go_wp2_with (at_builtin; refine wpList_append rfl (.tmp 53) (.tmp 56) 115 rfl 25 _ 1 24 hub tiBs rfl (by decide) (by decide) _ ps.length vs rfl hov4 (some ⟨w4.heap.size, 0, none⟩) 1 1 [.slice Ap n cp] rfl rfl hnx hone h24 ?_)
              intro v5 w5 ho5 hm5 hno5
              have hla5 : ListAt w5 v5 w.heap.size (ps ++ [p]) (vs ++ [.slice Ap n cp]) := by
                refine ListAt.snoc (HLX.out.mod0 hmx) hm5 hno5 (Nat.le_trans (hmj.then0 hm24).size hmx.size) ho5 (by rw [HPN.out]; exact HOP.out.mod0 hmx) rfl (fun g hg => Nat.le_trans (hmj.then0 hm12).size (HNP.out g hg))
              have hm5w : Mod NoneB w w5 := ((hmj.then0 hm24).then0 hmx).trans_new hm5 (fun k hk => .inr (HLA.out.new k hk))
              obtain ⟨A5, c5, rfl, _, _, _⟩ := ho5.out
              have HLA5 := Lib.hid hla5
              clear hla5 ho5 hov4 hnx hone hno5
              go_wp2_with fail
              go_roundw
              case rel => exact ⟨at_ + (8 + n), ps ++ [p], _, by go_num, by omega, HLA5.out, HSB.out, HGO2.out, by simp; omega, hm5w⟩
              case measure => simp [intOf]; omega
            · have hfin := HEND.out w2 hm12 (by rw [hs1, if_neg (fun h => hcrc h.2.2)])
              have b2 : ((cs : Int) == (s : Int)) = false := by simp; omega
              have b3 : ((cs : Int) != (s : Int)) = true := by simp; omega
              have b4 : (cs == s) = false := by simp; omega
              have HF := Lib.hid hfin
              clear hfin HEND hs1 hcrc
              go_wp2_with fail
              refine HSUM.out.mono ?_
              rintro e w3 ⟨rfl, rfl⟩
              go_wp2_with fail
              try rw [Exit.noGoto_ret]
              go_ret2
              exact HF.out
end Go.Proofs.YtkklofnabmdmfaaGreatDoor
