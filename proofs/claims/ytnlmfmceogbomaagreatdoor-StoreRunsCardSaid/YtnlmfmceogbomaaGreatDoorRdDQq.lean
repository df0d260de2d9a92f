/- The reference's disk: Cut, Restart. -/
import Derived.Deep.RegionHeld3
import Derived.Test.YtnlmfmceogbomaaGreatDoorCodecQq
import Derived.Test.YtnlmfmceogbomaaGreatDoorRdCQq
namespace Go.Proofs.YtnlmfmceogbomaaGreatDoor
open Go.RowKit
set_option linter.unusedVariables false

theorem cut_lazy {G : Prop} (T : Prop) (f : T → G) (h : T) : G := f h
/-- An append whose outcome is known ahead: all orders of a drawn region come to one end. -/
theorem step_given {P : Program} {w : World} {ops : Array Oper} {o : Oper} {a : Act} {K : Act → World → Prop} {Q : Exit → Act → World → Prop} {E : Prop} (hg : o.guard = none) (s x : Operand) (t : TypeId)
    (ho : o.op = .call { callee := .builtin .append, args := #[s, x], argTypes := #[t, t] })
    (v u v' : Value) (w' : World) (hs : a.eval s = v) (hx : a.eval x = u)
    (hr : (Builtin.append_ #[t, t] o.type #[v, u]).run P w = .ok v' w') (h : K (a.put o.dst v') w') :
    if Region.wanted o (yielded ops a.tmps) = true then Oper.wp P o a w K Q else E := by
  have hw : Region.wanted o (yielded ops a.tmps) = true := by simp [Region.wanted, hg]
  rw [if_pos hw]
  unfold Oper.wp execOp
  simp only [ho, resolve, invoke, builtin, Sem.run_bind, Sem.run_pure, Result.andThen_ok, List.map_toArray, List.map_cons, List.map_nil, hs, hx, hr]
  exact h
set_option maxRecDepth 100000 in
/-- b[:k], as the walk takes it. -/
theorem top_at {w : World} {A : Option Addr} {n c : Nat} {l : List UInt8} (h : Rd w 1 A n (encB l)) (hnc : n ≤ c) (k : Nat) (hk : k ≤ n) :
    ∃ A' c', (∀ W, (Instr.slice 24 (.slice A n c) none (some (.int .i64 k)) none).run Tryz.prog W = .ok (.slice A' k c') W) ∧
      (∀ W, (Instr.sliceAt 24 (.slice A n c) none (some (.int .i64 k)) none).run Tryz.prog W = .ok (.slice A' k c') W) ∧ (0 < k → A' = A) ∧ Rd w 1 A' k (encB (l.take k)) := by
  have ht : Tryz.prog.underlying 24 = some (.slice (Tryz.prog.elem 24)) := by kernel_rfl
  have he : Tryz.prog.elem 24 = 5 := by kernel_rfl
  obtain ⟨ti, hti, _, hs, _⟩ := (tiB).parts
  have hrun : ∀ W, (Instr.slice 24 (.slice A n c) none (some (.int .i64 (k : Int))) none).run Tryz.prog W = .ok (.slice (if c = 0 then A else A.map (·.add 0)) k c) W := by
    intro W
    rw [run_slice_h W 24 A n c ht .i64 _ (by omega) (by omega), he]
    simp [sizeOf, typeInfo, hti, hs, sliced]
  have hA : (if c = 0 then A else A.map (·.add 0)) = A := by
    split
    · rfl
    · cases A with
      | none => rfl
      | some ad => rfl
  rw [hA] at hrun
  refine ⟨_, _, hrun, fun W => by rw [run_sliceAt_slice W _ _ _ _ _ ht]; exact hrun W, fun _ => rfl, ?_⟩
  cases A with
  | none =>
    have hk0 : n = 0 := by
      cases n with
      | zero => rfl
      | succ m => obtain ⟨a, h1, _⟩ := h.2.2 (by omega); cases h1
    have : k = 0 := by omega
    subst this
    rw [List.take_zero]
    exact Rd.nil _ _ _
  | some ad =>
    have h2 := h.sub 0 k (by omega)
    rw [List.drop_zero] at h2
    exact h2
/-- A world in which the file i has other bytes and is synced as far. -/
theorem RdAt.two {N : Nat} {w w5 W : World} {p : Nat} {d : Dk} {row FA KA : Value} {zs : List (Fl × Value)} (h : RdAt N w p d row FA KA zs) {g c i : Nat} (hrow : row = .slice (some ⟨g, 0, none⟩) zs.length c) (hi : i < zs.length) {b : List UInt8} {s : Nat} {v : Value}
    (hm5 : Mod NoneB w w5) (hob : Own w5 5 1 v b.length (encB b)) (hnew : ∀ q, v.ownBlock = some q → w.heap.size ≤ q) (hN : N ≤ w.heap.size) (h1 : v.oneCell' = true) (hs : s ≤ b.length)
    (hmd : Mod (fun k => k = g) w5 W) (ho : Own W 110 3 (.slice (some ⟨g, 0, none⟩) zs.length c) zs.length (((encFs zs).set (i * 3 + 1) v).set (i * 3 + 2) (.int .i64 s))) :
    RdAt N W p { d with fs := d.fs.set i ⟨zs[i].1.n, b, s⟩ } row FA KA (zs.set i (⟨zs[i].1.n, b, s⟩, v)) ∧ Mod (fun k => k = g) w W := by
  have dd := encFs_get zs i hi
  have hse : ((encFs zs).set (i * 3 + 1) v).set (i * 3 + 2) (.int .i64 s) = encFs (zs.set i (⟨zs[i].1.n, b, s⟩, v)) := by
    rw [← encFs_set3 zs i (⟨zs[i].1.n, b, s⟩, v)]
    have q0 : (encFs zs).set (i * 3) (.string zs[i].1.n) = encFs zs := by
      obtain ⟨hl0, e0⟩ := List.getElem?_eq_some_iff.1 dd.1
      rw [← e0]; exact List.set_getElem_self _
    rw [q0]
  rw [hse] at ho
  have hgr : row.ownBlock = some g := by rw [hrow]; rfl
  have h5 := h.mod hm5 (fun _ _ h => h) (fun _ h => h.elim)
  have hlt := h.fil.own.lt hgr
  exact ⟨h5.setZ hrow hi (⟨zs[i].1.n, b, s⟩, v) ho hmd ⟨hob.mod hmd (fun q hq e => by have := hnew q hq; omega), h1, fun q hq => Nat.le_trans hN (hnew q hq)⟩ rfl hs, (hm5.mono (fun _ _ h => h.elim)).trans hmd (fun _ _ h => h)⟩

set_option maxHeartbeats 4000000 in
set_option maxRecDepth 100000 in
theorem rcut_calls (N : Nat) (w : World) (p : Nat) (d : Dk) (S : Nat → Prop) (n : ByteArray) (k : Int) (h : IsR N w p d S) (hr : RoomR N w d) (hus : usedF d.fs ≤ 70368744177664) :
    Calls Tryz.prog 98 #[.pointer (some ⟨p, 0, none⟩), .string n, .int .i64 k] w fun e w' => e = .returned (.int .i64 ((cutD d n k).2 : Nat)) ∧ RStep N w S p (cutD d n k).1 w' := by
  obtain ⟨row, FA, KA, zs, h, hS⟩ := h
  have hg := rgate_calls N w p d row FA KA zs h hr.c
  have hfs := (gateR_fs d).1
  have hno := fun hk => gateD_no (d := d) (op := fun d => hitAns d n (cutF k)) hk
  have hyes := fun hk => gateD_yes (d := d) (op := fun d => hitAns d n (cutF k)) hk
  obtain ⟨G, hG⟩ : ∃ G, G = gateR d := ⟨_, rfl⟩
  rw [← hG] at hg hfs hno hyes
  obtain ⟨d1, ok, ge⟩ := G
  simp only at hg hfs hno hyes
  have H := Lib.hid h
  have HS := Lib.hid hS
  have HG := Lib.hid hg
  have HNO := Lib.hid hno
  have HYES := Lib.hid hyes
  have hrl := hr.l
  have hrn := hr.n
  clear h hS hg hno hyes hG hr
  go_enter Tryz.func98, Tryz.ntmps98
  go_wp2_with fail
  refine HG.out.mono ?_
  rintro e w1 ⟨rfl, h1, hm1⟩
  cases ok with
  | false =>
    go_wp2_with fail
    go_ret
    unfold cutD withD
    rw [HNO.out trivial]
    exact ⟨rfl, H.out.step0 HS.out hm1 h1⟩
  | true =>
    have hy := HYES.out rfl
    cases hh : hitF d1.fs n with
    | false =>
      rw [hitAns_false _ hh] at hy
      have HY := Lib.hid hy
      have hp := plF_miss hh
      clear hy hh
      go_wp2_with fail
      refine (rat_calls N w1 p d1 row FA KA zs h1 n (by rw [hfs]; omega)).mono ?_
      rintro e wz ⟨rfl, hwz⟩
      subst hwz
      rw [hp]
      clear hp
      go_wp2_with fail
      refine (rtold2_calls N wz p d1 row FA KA zs h1 3 _ rfl).mono ?_
      rintro e wy ⟨rfl, hwy⟩
      subst hwy
      go_wp2_with fail
      go_ret
      unfold cutD withD
      rw [HY.out]
      exact ⟨rfl, H.out.step0 HS.out hm1 h1⟩
    | true =>
      have hlt := hitF_lt hh
      rw [hitAns_true _ hh] at hy
      have hp := plF_hit hh
      obtain ⟨i, hi⟩ : ∃ i, i = lbF d1.fs n := ⟨_, rfl⟩
      rw [← hi] at hp hy hlt
      have hiz : i < zs.length := by rw [← h1.len]; exact hlt
      have hfa : fileAt d1 i = zs[i].1 := by rw [fileAt_get hlt, h1.get hlt hiz]
      have e1 : ¬ ((i : Int) < 0) := by omega
      have hcu : cutF k d1 i = if k < 0 ∨ (zs[i].1.b.length : Int) < k then (d1, 1) else ({ d1 with fs := d1.fs.set i ⟨zs[i].1.n, zs[i].1.b.take k.toNat, min zs[i].1.s k.toNat⟩ }, 0) := by unfold cutF; rw [hfa]
      have HY := Lib.hid hy
      have HCU := Lib.hid hcu
      have hent := h1.fil.ent zs[i] (List.getElem_mem _)
      have hsyn : zs[i].1.s ≤ zs[i].1.b.length := h1.sync _ (by rw [h1.fs]; exact List.mem_map_of_mem (List.getElem_mem _))
      have hbl : zs[i].1.b.length ≤ usedF d1.fs := by rw [← h1.get hlt hiz]; exact usedF_get _ _ _
      rw [hfs] at hbl
      obtain ⟨g, c, hrow⟩ := h1.fil.own.addrOf (by omega)
      have hown := h1.fil.own
      rw [hrow] at hown
      obtain ⟨Av, cv, hyv, hrc, _, hrb⟩ := hent.1.out
      have dd := encFs_get zs i hiz
      have y5 : w1.cell? ⟨p, 5, none⟩ = some (.slice (some ⟨g, 0, none⟩) zs.length c) := by rw [← hrow]; exact h1.cellAt 5
      have c1 := hown.cellAt (i * 3 + 1) _ dd.2.1
      have g0 : (0 : Int) ≤ (i : Int) := by omega
      have g1 : (i : Int) < (zs.length : Int) := by omega
      rw [hyv] at c1
      obtain ⟨ob, hob⟩ : ∃ ob, ob = zs[i].1.b := ⟨_, rfl⟩
      rw [← hob] at c1 hrb hsyn hbl HCU hrc
      have HOB := Lib.hid hob
      have HENT := Lib.hid hent
      have HYV := Lib.hid hyv
      have H1 := Lib.hid h1
      clear hy hcu hh hi hob hent hyv hfa
      by_cases hneg : k < 0
      · have hq : cutF k d1 i = (d1, 1) := by rw [HCU.out, if_pos (.inl hneg)]
        have HQ := Lib.hid hq
        clear hq
        go_wp2_with fail
        refine (rat_calls N w1 p d1 row FA KA zs H1.out n (by rw [hfs]; omega)).mono ?_
        rintro e wz ⟨rfl, hwz⟩
        subst hwz
        rw [hp]
        clear hp
        go_wp2_with fail
        refine (rtold2_calls N wz p d1 row FA KA zs H1.out 1 _ rfl).mono ?_
        rintro e wy ⟨rfl, hwy⟩
        subst hwy
        go_wp2_with fail
        go_ret
        unfold cutD withD
        rw [HY.out, HQ.out]
        exact ⟨rfl, H.out.step0 HS.out hm1 H1.out⟩
      by_cases hbig : (ob.length : Int) < k
      · have hq : cutF k d1 i = (d1, 1) := by rw [HCU.out, if_pos (.inr hbig)]
        have HQ := Lib.hid hq
        clear hq
        go_wp2_with fail
        refine (rat_calls N w1 p d1 row FA KA zs H1.out n (by rw [hfs]; omega)).mono ?_
        rintro e wz ⟨rfl, hwz⟩
        subst hwz
        rw [hp]
        clear hp
        go_wp2_with fail
        refine (rtold2_calls N wz p d1 row FA KA zs H1.out 1 _ rfl).mono ?_
        rintro e wy ⟨rfl, hwy⟩
        subst hwy
        go_wp2_with fail
        go_ret
        unfold cutD withD
        rw [HY.out, HQ.out]
        exact ⟨rfl, H.out.step0 HS.out hm1 H1.out⟩
      obtain ⟨m, rfl⟩ : ∃ m : Nat, k = m := ⟨k.toNat, by omega⟩
      have hq : cutF m d1 i = ({ d1 with fs := d1.fs.set i ⟨zs[i].1.n, ob.take m, min zs[i].1.s m⟩ }, 0) := by rw [HCU.out, if_neg (by omega)]; rfl
      have HQ := Lib.hid hq
      have hml : m ≤ ob.length := by omega
      clear hq HCU
      go_wp2_with fail
      refine (rat_calls N w1 p d1 row FA KA zs H1.out n (by rw [hfs]; omega)).mono ?_
      rintro e wz ⟨rfl, hwz⟩
      subst hwz
      rw [hp]
      clear hp
      have hal : Mod NoneB wz (wz.alloc (.cells #[] 5)).drew := ((Mod.refl NoneB wz).alloc _).drew
      have y5a : (wz.alloc (.cells #[] 5)).cell? ⟨p, 5, none⟩ = some (.slice (some ⟨g, 0, none⟩) zs.length c) := hal.cell0 y5
      have c1a : (wz.alloc (.cells #[] 5)).cell? ⟨g, i * 3 + 1, none⟩ = some (.slice Av ob.length cv) := hal.cell0 c1
      have hown0 : Own (wz.alloc (.cells #[] 5)).drew 5 1 (.slice (some ⟨wz.heap.size, 0, none⟩) 0 0) 0 [] := Own.of_blk (cap := 0) (heap_alloc_new wz _) (by omega) (by omega) (by simp) (by simp)
      have hu := Tryz.underlying24
      obtain ⟨A', c', hs1, hs2, _, hrt⟩ := top_at (hrb.mod0 hal) hrc m hml
      have hlt2 : (ob.take m).length = m := by rw [List.length_take]; omega
      have hlen : (encB (ob.take m)).length = m * 1 := by rw [encB_length, hlt2, Nat.mul_one]
      have hnews := hrt.2.2
      have h1c := encB_one (ob.take m)
      have hsz : (0 + m) * 1 ≤ 140737488355328 := by omega
      have hx : ∀ w5, Mod (OnlyBlk (.slice (some ⟨wz.heap.size, 0, none⟩) 0 0)) (wz.alloc (.cells #[] 5)).drew w5 → Mod NoneB wz w5 ∧ w5.cell? ⟨p, 5, none⟩ = some (.slice (some ⟨g, 0, none⟩) zs.length c) ∧ w5.frozen? ⟨g, i * 3 + 1, none⟩ = false ∧ w5.cell? ⟨g, i * 3 + 1, none⟩ = some (.slice Av ob.length cv) := fun w5 hm5 => by
        have h15 : Mod NoneB wz w5 := hal.trans_new hm5 (fun k hk => .inr (by have e := Option.some.inj (show some wz.heap.size = some k from hk); omega))
        exact ⟨h15, h15.cell0 y5, (hown.mod0 h15).frozenAt (i * 3 + 1), h15.cell0 c1⟩
      have HX := Lib.hid hx
      have HALS := Lib.hid hal.size
      have HOWN := Lib.hid hown
      have HDD := Lib.hid dd
      clear hx hrt hrb hown dd
      obtain ⟨nb, hnb⟩ : ∃ nb, nb = encB (ob.take m) := ⟨_, rfl⟩
      rw [← hnb] at hlen hnews h1c
      have HNB := Lib.hid hnb
      have HLT := Lib.hid hlt2
      clear hnb hlt2 hsyn hbl
      obtain ⟨v5, w5, happ, ho5, hm5, hno5⟩ := run_append_gen (P := Tryz.prog) 24 24 5 _ 1 1 hu tiB rfl (by decide) _ 0 [] hown0 A' m c' nb hlen hnews h1c hsz (by decide)
      rw [Nat.zero_add, List.nil_append] at ho5
      obtain ⟨V5, c5, rfl, _, _, _⟩ := ho5.out
      obtain ⟨hm15, y55, f15, c15⟩ := HX.out _ hm5
      have HM5 := Lib.hid hm5
      have HNO5 := Lib.hid hno5
      have HO5A := Lib.hid ho5
      have HM15A := Lib.hid hm15
      clear hown0 hnews hlen h1c hsz hu hal hm5 hno5 ho5 hm15
      go_wp2_with fail
      apply cut_lazy
      · intro hend
        go_region_law (refine step_given rfl (.tmp 47) (.tmp 57) 24 rfl _ _ _ _ (by first | rfl | simp [Act.eval, Act.put]) (by first | rfl | simp [Act.eval, Act.put]) happ ?_)
        all_goals exact hend
      · clear happ hs1 hs2 y5 y5a c1 c1a
        have hm15 := HM15A.out
        have ho5 := HO5A.out
        have hno5 := HNO5.out
        have hn5 : ∀ q, (Value.slice V5 m c5).ownBlock = some q → wz.heap.size ≤ q := by
          intro q hg
          rcases hno5 with hq | ⟨b, hq, hb⟩
          · rw [hg] at hq
            have e := Option.some.inj (show some q = some wz.heap.size from hq)
            omega
          · rw [hg] at hq; injection hq with hq; have hb2 := Nat.le_trans HALS.out hb
            omega
        have ho5' : Own w5 5 1 (.slice V5 m c5) (ob.take m).length (encB (ob.take m)) := by
          rw [HLT.out, ← HNB.out]
          exact ho5
        obtain ⟨w6, hw6⟩ : ∃ w6, w6 = w5.setCell ⟨g, i * 3 + 1, none⟩ (.slice V5 m c5) := ⟨_, rfl⟩
        have hs1' := (HOWN.out.mod0 hm15).set (i * 3 + 1) (.slice V5 m c5)
        have hm1g : Mod (fun k => k = g) w5 (w5.setCell ⟨g, i * 3 + 1, none⟩ (.slice V5 m c5)) := (Mod.refl (fun k => k = g) w5).setCell (p := ⟨g, i * 3 + 1, none⟩) (fun _ => rfl) _
        rw [← hw6] at hs1' hm1g ⊢
        have hgp : g ≠ p := H1.out.rowNe (by rw [hrow]; rfl)
        have y56 := hm1g.cell y55 (fun e => hgp e.symm)
        have dd := HDD.out
        have c26 : w6.cell? ⟨g, i * 3 + 2, none⟩ = some (.int .i64 zs[i].1.s) := hs1'.cellAt (i * 3 + 2) _ (by rw [List.getElem?_set_ne (by omega)]; exact dd.2.2)
        have f26 := hs1'.frozenAt (i * 3 + 2)
        have HS1 := Lib.hid hs1'
        have HO5 := Lib.hid ho5'
        have HN5 := Lib.hid hn5
        have HM1 := Lib.hid hm1g
        have HM15 := Lib.hid hm15
        obtain ⟨sy, hsy⟩ : ∃ sy, sy = zs[i].1.s := ⟨_, rfl⟩
        rw [← hsy] at c26 HQ
        clear hn5 ho5' hs1' hm1g y55 f15 c15 hm15 ho5 hno5 dd hw6 hsy
        go_wp2_with fail
        apply cut_lazy
        · intro hend
          go_region_law (fail)
          all_goals exact hend
        · rw [show min (sy : Int) (m : Int) = ((min sy m : Nat) : Int) by omega]
          have hs2 := HS1.out.set (i * 3 + 2) (.int .i64 ((min sy m : Nat) : Int))
          have hdr : Mod NoneB (w6.setCell ⟨g, i * 3 + 2, none⟩ (.int .i64 ((min sy m : Nat) : Int))) (w6.setCell ⟨g, i * 3 + 2, none⟩ (.int .i64 ((min sy m : Nat) : Int))).drew := (Mod.refl _ _).drew
          have hm56 := ((HM1.out).setCell (p := ⟨g, i * 3 + 2, none⟩) (fun _ => rfl) (.int .i64 ((min sy m : Nat) : Int))).then0 hdr
          have hs2d := hs2.mod0 hdr
          have hpz : w.heap.size ≤ wz.heap.size := hm1.size
          obtain ⟨h7, hm17⟩ := H1.out.two hrow hiz HM15.out HO5.out HN5.out (Nat.le_trans hrn hpz) rfl (by rw [HLT.out]; omega) hm56 hs2d
          have hgr : row.ownBlock = some g := by rw [hrow]; rfl
          have hst : RStep N w S p { d1 with fs := d1.fs.set i ⟨zs[i].1.n, ob.take m, min sy m⟩ } (w6.setCell ⟨g, i * 3 + 2, none⟩ (.int .i64 ((min sy m : Nat) : Int))).drew := by
            refine H.out.stepB HS.out ((hm1.mono (fun _ _ h => .inl h)).trans hm17 (fun _ _ h => .inr (by rw [h]; exact hgr))) h7 (.inl rfl) (fun z hz g' hg' => ?_)
            rcases List.mem_or_eq_of_mem_set hz with hz | rfl
            · exact .inl ⟨z, hz, hg'⟩
            · exact .inr (Nat.le_trans hpz (HN5.out g' hg'))
          have HST := Lib.hid hst
          have H7 := Lib.hid h7
          clear hst h7 hs2 hs2d hdr hm17 hm56 y56 c26 f26
          generalize (w6.setCell ⟨g, i * 3 + 2, none⟩ (.int .i64 ((min sy m : Nat) : Int))).drew = w8 at HST H7 ⊢
          go_wp2_with fail
          refine (rtold2_calls N w8 p _ row FA KA _ H7.out 0 _ rfl).mono ?_
          rintro e wy ⟨rfl, hwy⟩
          subst hwy
          go_wp2_with fail
          go_ret
          unfold cutD withD
          rw [HY.out, HQ.out]
          exact ⟨rfl, HST.out⟩
end Go.Proofs.YtnlmfmceogbomaaGreatDoor

/- The reference's disk: Restart. -/
namespace Go.Proofs.YtnlmfmceogbomaaGreatDoor
open Go.RowKit
set_option linter.unusedVariables false
set_option linter.unusedSimpArgs false

theorem restF_m (keep : List Int) (j : Nat) (f : Fl) (hs : f.s ≤ f.b.length) : ∃ n : Nat, (n : Int) = max 0 (min (keep[j]?.getD 0) ((f.b.length : Int) - f.s)) ∧ f.s + n ≤ f.b.length ∧ restF keep j f = ⟨f.n, f.b.take (f.s + n), f.s + n⟩ := by
  obtain ⟨k, hk⟩ : ∃ k, k = keep[j]?.getD 0 := ⟨_, rfl⟩
  refine ⟨(max 0 (min k ((f.b.length : Int) - f.s))).toNat, by rw [← hk]; omega, by omega, ?_⟩
  unfold restF
  rw [← hk]
  by_cases h : max 0 k < (f.b.length : Int) - f.s
  · have e : (max 0 (min k ((f.b.length : Int) - f.s))).toNat = (max 0 k).toNat := by omega
    simp only [if_pos h]
    rw [e]
    have e2 : (f.b.take (f.s + (max 0 k).toNat)).length = f.s + (max 0 k).toNat := by rw [List.length_take]; omega
    rw [e2]
  · have e : f.s + (max 0 (min k ((f.b.length : Int) - f.s))).toNat = f.b.length := by omega
    simp only [if_neg h]
    rw [e, List.take_length]
theorem RdAt.replan {N : Nat} {w w' : World} {p : Nat} {d : Dk} {row FA KA FB KB : Value} {zs : List (Fl × Value)} (h : RdAt N w p d row FA KA zs) {pl : Pl} (hm : Mod (fun k => k = p) w w') (hb : w'.heap[p]? = some (.cells (dkCells ⟨pl, d.fs, 0, false⟩ row FB KB) 104 (0, 0))) (hF : OldI N w FB pl.fail) (hK : OldI N w KB pl.keep) : RdAt N w' p ⟨pl, d.fs, 0, false⟩ row FB KB zs :=
  ⟨hb, h.fil.mod hm (fun g hg => h.rowNe hg) (fun u hu g hg => h.bytNe hu hg), h.fs, hF.mod hm (fun k hk => by rw [hk]; exact h.pos), hK.mod hm (fun k hk => by rw [hk]; exact h.pos), h.rises, h.sync, h.pos⟩

set_option maxHeartbeats 8000000 in
set_option maxRecDepth 100000 in
theorem rrestart_calls (N : Nat) (w : World) (p : Nat) (d : Dk) (S : Nat → Prop) (pl : Pl) (F K : Option Addr) (fc kc : Nat) (h : IsR N w p d S) (hrn : N ≤ w.heap.size) (hF : Rd w 1 F pl.fail.length (encI pl.fail)) (hK : Rd w 1 K pl.keep.length (encI pl.keep)) (hoF : 0 < pl.fail.length → ∀ ad, F = some ad → ad.block < N) (hoK : 0 < pl.keep.length → ∀ ad, K = some ad → ad.block < N)
    (hl : d.fs.length ≤ 1000000) (hu : usedF d.fs ≤ 70368744177664) :
    Calls Tryz.prog 30 #[.pointer (some ⟨p, 0, none⟩), .agg #[.int .i64 pl.cap, .slice F pl.fail.length fc, .int .i64 pl.crash, .bool pl.done, .slice K pl.keep.length kc]] w fun e w' => e = .returned (.tuple #[]) ∧ RStep N w S p (restartD d pl) w' := by
  obtain ⟨row, FA, KA, zs, h, hS⟩ := h
  obtain ⟨A, c, hrow, _⟩ := h.fil.own.nilD0
  subst hrow
  have hlen : d.fs.length = zs.length := h.len
  have h5 : (w.alloc (.cells #[.int .i64 pl.cap, .slice F pl.fail.length fc, .int .i64 pl.crash, .bool pl.done, .slice K pl.keep.length kc] 29)).cell? ⟨p, 5, none⟩ = some (.slice A zs.length c) := ((Mod.refl NoneB w).alloc _).cell0 (h.cellAt 5)
  have hBF : ∀ k, FootR p (.slice A zs.length c) zs k → k < w.heap.size := fun k hk => h.lt hk
  have H := Lib.hid h
  have HS := Lib.hid hS
  have HLEN := Lib.hid hlen
  have HBF := Lib.hid hBF
  have hzl : zs.length ≤ 1000000 := by omega
  clear h hS hlen hBF
  go_enter Tryz.func30, Tryz.ntmps30
  go_wp2_with fail
  obtain ⟨o1, ho1⟩ : ∃ o, o = Obj.cells #[.int .i64 pl.cap, .slice F pl.fail.length fc, .int .i64 pl.crash, .bool pl.done, .slice K pl.keep.length kc] 29 := ⟨_, rfl⟩
  obtain ⟨B, hB⟩ : ∃ B, B = w.heap.size := ⟨_, rfl⟩
  rw [← ho1, ← hB]
  have z1 := box1 w o1
  rw [← hB] at z1
  have hm1 : Mod NoneB w (w.alloc o1) := (Mod.refl NoneB _).alloc _
  generalize w.alloc o1 = w1 at hm1 z1 ⊢
  rw [ho1] at z1
  have HB := Lib.hid hB
  clear ho1 hB h5
  have hd1 := H.out.mod hm1 (fun _ _ h => h) (fun _ h => h.elim)
  have HD1 := Lib.hid hd1
  clear hd1
  go_loopw [4, 5] (fun t n wr => ∃ (j : Nat) (zs' : List (Fl × Value)), t = .int .i64 j ∧ j ≤ zs.length ∧ zs'.length = zs.length ∧ RdAt N wr p { d with fs := restTo d.p.keep d.fs j } (.slice A zs.length c) FA KA zs' ∧ Mod (fun k => (Value.slice A zs.length c).ownBlock = some k) w1 wr ∧ ∀ z ∈ zs', ∀ g, z.2.ownBlock = some g → (∃ y ∈ zs, y.2.ownBlock = some g) ∨ w.heap.size ≤ g) (fun t _ _ => zs.length - (intOf t).toNat)
  case atStart => exact ⟨0, zs, rfl, by omega, rfl, by rw [restTo_zero]; exact HD1.out, Mod.refl _ _, fun z hz g hg => .inl ⟨z, hz, hg⟩⟩
  case round =>
    obtain ⟨j, zs', rfl, hj, hle', hdj, hmj, hgz⟩ := hrel
    have HDJ := Lib.hid hdj
    have HLE := Lib.hid hle'
    have HGZ := Lib.hid hgz
    have HMJ := Lib.hid hmj
    by_cases hlt : j < zs.length
    · have hltF : j < d.fs.length := by rw [HLEN.out]; exact hlt
      have hj' : j < zs'.length := by omega
      have hfe : zs'[j].1 = d.fs[j] := by
        have hl2 : j < (restTo d.p.keep d.fs j).length := by rw [restTo_length _ _ _ (by omega)]; exact hltF
        have h1 := hdj.get (i := j) hl2 hj'
        have h2 := restTo_get d.p.keep d.fs j hltF
        rw [List.getD_eq_getElem?_getD, List.getElem?_eq_getElem hl2] at h2
        exact h1.symm.trans h2
      obtain ⟨g, c0, hrow'⟩ := hdj.fil.own.addrOf (by omega)
      injection hrow' with hA hq1 hc1
      have hown := hdj.fil.own
      rw [hA, hle'] at hown
      have hent := hdj.fil.ent zs'[j] (List.getElem_mem _)
      obtain ⟨Av, cv, hyv, hrc, _, hrb⟩ := hent.1.out
      have dd := encFs_get zs' j hj'
      have y5 : wr.cell? ⟨p, 5, none⟩ = some (.slice (some ⟨g, 0, none⟩) zs.length c) := by rw [← hA]; exact hdj.cellAt 5
      have c1 := hown.cellAt (j * 3 + 1) _ dd.2.1
      have c2 := hown.cellAt (j * 3 + 2) _ dd.2.2
      have hsy : d.fs[j].s ≤ d.fs[j].b.length := H.out.sync _ (List.getElem_mem _)
      have hbl : d.fs[j].b.length ≤ usedF d.fs := usedF_get _ _ _
      have hset := restTo_set d.p.keep d.fs j hltF
      obtain ⟨f0, hf0⟩ : ∃ f0, f0 = d.fs[j] := ⟨_, rfl⟩
      rw [hyv] at c1
      rw [hfe] at c1 c2 hrc hrb hyv
      rw [← hf0] at hfe hsy hbl hset c1 c2 hrc hrb hyv
      obtain ⟨n, hn, hm, hrest⟩ := restF_m d.p.keep j f0 hsy
      rw [hrest] at hset
      obtain ⟨KK, kkc, hKK, hrk, _⟩ := hdj.keep
      have y4 : wr.cell? ⟨p, 4, none⟩ = some (.slice KK d.p.keep.length kkc) := by rw [hdj.cellAt 4, ← hKK]; rfl
      have g0 : (0 : Int) ≤ (j : Int) := by omega
      have g1 : (j : Int) < (zs.length : Int) := by omega
      have HA := Lib.hid hA
      have HYV := Lib.hid hyv
      have HFE := Lib.hid hfe
      have HSET := Lib.hid hset
      have HN := Lib.hid hn
      have HOWN := Lib.hid hown
      have HDD := Lib.hid dd
      have HRB := Lib.hid hrb
      have HENT := Lib.hid hent
      clear hdj hmj hle' hgz hA hyv hfe hset hn hown dd hrb hent hKK hf0 hrest hq1 hc1
      go_upto_if 22 with (fail)
      go_cut [5] (fun s wx => s = .int .i64 n ∧ Mod NoneB wr wx)
      case first =>
        by_cases hkj : j < d.p.keep.length
        · obtain ⟨ak, rfl, hkc⟩ := hrk.ints j hkj
          have hz : (n : Int) = max 0 (min d.p.keep[j] ((f0.b.length : Int) - f0.s)) := by rw [HN.out, List.getElem?_eq_getElem hkj]; rfl
          obtain ⟨z, hzz⟩ : ∃ z, z = d.p.keep[j] := ⟨_, rfl⟩
          have hkc' : wr.cell? (ak.add j) = some (.int .i64 z) := by rw [hzz]; exact hkc
          rw [← hzz] at hz
          have HZ := Lib.hid hz
          have e1 : IntKind.i64.wrap ((f0.b.length : Int) - (f0.s : Int)) = (f0.b.length : Int) - f0.s := IntWalk.i64_in _ (by omega)
          have g2 : (j : Int) < (d.p.keep.length : Int) := by omega
          clear hz hzz hkc hrk
          go_wp2_with fail
          apply cut_lazy
          · intro hend
            go_region_held3 (fun w' => w'.cell? ⟨p, 4, none⟩ = some (.slice (some ak) d.p.keep.length kkc) ∧ w'.cell? (ak.add j) = some (.int .i64 z) ∧ w'.cell? ⟨p, 5, none⟩ = some (.slice (some ⟨g, 0, none⟩) zs.length c) ∧ w'.cell? ⟨g, j * 3 + 1, none⟩ = some (.slice Av f0.b.length cv) ∧ w'.cell? ⟨g, j * 3 + 2, none⟩ = some (.int .i64 f0.s)) (go_keep) (fail)
            all_goals exact hend
          · go_wp2_with fail
            go_meet
            case rel => exact ⟨by rw [HZ.out], (Mod.refl NoneB wr).drew⟩
        · have hz : n = 0 := by
            have := HN.out
            rw [List.getElem?_eq_none (by omega)] at this
            simp only [Option.getD_none] at this
            omega
          have HZ := Lib.hid hz
          clear hz
          go_wp2_with fail
          go_meet
          case rel => exact ⟨by rw [HZ.out]; rfl, Mod.refl _ _⟩
      case rest =>
        obtain ⟨rfl, hmx⟩ := hcut
        have y5 := hmx.cell0 y5
        have c1 := hmx.cell0 c1
        have c2 := hmx.cell0 c2
        have hrb := HRB.out.mod0 hmx
        obtain ⟨m, hmd⟩ : ∃ m, m = f0.s + n := ⟨_, rfl⟩
        have e2 : IntKind.i64.wrap ((f0.s : Int) + (n : Int)) = ((m : Nat) : Int) := (IntWalk.i64_in _ (by omega)).trans (by omega)
        rw [← hmd] at hm HSET
        clear y4 hrk hmd
        have hal : Mod NoneB wc (wc.alloc (.cells #[] 5)).drew := ((Mod.refl NoneB wc).alloc _).drew
        have y5a : (wc.alloc (.cells #[] 5)).cell? ⟨p, 5, none⟩ = some (.slice (some ⟨g, 0, none⟩) zs.length c) := hal.cell0 y5
        have c1a : (wc.alloc (.cells #[] 5)).cell? ⟨g, j * 3 + 1, none⟩ = some (.slice Av f0.b.length cv) := hal.cell0 c1
        have c2a : (wc.alloc (.cells #[] 5)).cell? ⟨g, j * 3 + 2, none⟩ = some (.int .i64 f0.s) := hal.cell0 c2
        have hown0 : Own (wc.alloc (.cells #[] 5)).drew 5 1 (.slice (some ⟨wc.heap.size, 0, none⟩) 0 0) 0 [] := Own.of_blk (cap := 0) (heap_alloc_new wc _) (by omega) (by omega) (by simp) (by simp)
        have hu1 := Tryz.underlying24
        obtain ⟨A', c', hs1, hs2, _, hrt⟩ := top_at (hrb.mod0 hal) hrc m hm
        have hlt2 : (f0.b.take m).length = m := by rw [List.length_take]; omega
        have hlen : (encB (f0.b.take m)).length = m * 1 := by rw [encB_length, hlt2, Nat.mul_one]
        have hnews := hrt.2.2
        have h1c := encB_one (f0.b.take m)
        have hsz : (0 + m) * 1 ≤ 140737488355328 := by omega
        have hx : ∀ w5, Mod (OnlyBlk (.slice (some ⟨wc.heap.size, 0, none⟩) 0 0)) (wc.alloc (.cells #[] 5)).drew w5 → Mod NoneB wc w5 ∧ w5.cell? ⟨p, 5, none⟩ = some (.slice (some ⟨g, 0, none⟩) zs.length c) ∧ w5.frozen? ⟨g, j * 3 + 1, none⟩ = false ∧ w5.cell? ⟨g, j * 3 + 1, none⟩ = some (.slice Av f0.b.length cv) ∧ w5.cell? ⟨g, j * 3 + 2, none⟩ = some (.int .i64 f0.s) := fun w5 hm5 => by
          have h15 : Mod NoneB wc w5 := hal.trans_new hm5 (fun k hk => .inr (by have e := Option.some.inj (show some wc.heap.size = some k from hk); omega))
          exact ⟨h15, h15.cell0 y5, (HOWN.out.mod0 (hmx.then0 h15)).frozenAt (j * 3 + 1), h15.cell0 c1, h15.cell0 c2⟩
        obtain ⟨nb, hnb⟩ : ∃ nb, nb = encB (f0.b.take m) := ⟨_, rfl⟩
        rw [← hnb] at hlen hnews h1c
        have HNB := Lib.hid hnb
        have HLT := Lib.hid hlt2
        obtain ⟨v5, w5, happ, ho5, hm5, hno5⟩ := run_append_gen (P := Tryz.prog) 24 24 5 _ 1 1 hu1 tiB rfl (by decide) _ 0 [] hown0 A' m c' nb hlen hnews h1c hsz (by decide)
        rw [Nat.zero_add, List.nil_append] at ho5
        obtain ⟨V5, c5, rfl, _, _, _⟩ := ho5.out
        obtain ⟨hm15, y55, f15, c15, c25⟩ := hx _ hm5
        have hn5 : ∀ q, (Value.slice V5 m c5).ownBlock = some q → wc.heap.size ≤ q := by
          intro q hg
          rcases hno5 with hq | ⟨b, hq, hb⟩
          · rw [hg] at hq
            have e := Option.some.inj (show some q = some wc.heap.size from hq)
            omega
          · rw [hg] at hq; injection hq with hq; have hb2 := Nat.le_trans hal.size hb
            omega
        have ho5' : Own w5 5 1 (.slice V5 m c5) (f0.b.take m).length (encB (f0.b.take m)) := by
          rw [hlt2, ← hnb]
          exact ho5
        have HN5 := Lib.hid hn5
        have HO5 := Lib.hid ho5'
        have HM15 := Lib.hid (hmx.then0 hm15)
        have hgr : (Value.slice A zs.length c).ownBlock = some g := by rw [HA.out]; rfl
        have hgp : g ≠ p := HDJ.out.rowNe hgr
        have hpg : p ≠ g := fun e => hgp e.symm
        have HGR := Lib.hid hgr
        have hka := ((Mod.refl (fun k => k = g) w5).setCell (p := ⟨g, j * 3 + 1, none⟩) (fun _ => rfl) (.slice V5 m c5)).cell y55 (fun e => hpg e)
        have hkb := ((HOWN.out.mod0 HM15.out).set (j * 3 + 1) (.slice V5 m c5)).cellAt (j * 3 + 2) (.int .i64 f0.s) (by rw [List.getElem?_set_ne (by omega), HDD.out.2.2, HFE.out])
        have HKA := Lib.hid hka
        have HKB := Lib.hid hkb
        clear hgr hka hkb
        have HWX := Lib.hid hmx.size
        clear hown0 hnews hlen h1c hsz hu1 hal hm5 hno5 ho5 hm15 hx hnb hlt2 hn5 ho5' hmx hrt hrb
        go_wp2_with fail
        apply cut_lazy
        · intro hend
          refine wp_region_held_drew (S := fun w' => w'.cell? ⟨p, 5, none⟩ = some (.slice (some ⟨g, 0, none⟩) zs.length c) ∧ w'.cell? ⟨g, j * 3 + 2, none⟩ = some (.int .i64 f0.s)) (by kernel_rfl) (by go_keep) (fun hHeld => ?_)
          refine Go.wpAnyH_take (i := 0) (oi := _) (v := ?_) rfl (by kernel_rfl) (by kernel_rfl) (by kernel_rfl) (fun _ _ _ h => h) (Or.inl ⟨by rfl, ?_⟩) (by assumption) ?_
          rotate_left
          · (intro w hSw; (try dsimp only at hSw); go_simp; (try with_reducible rfl))
          try simp only [Act.put, List.setIfInBounds_toArray, List.set_cons_zero, List.set_cons_succ]
          refine Go.wpAnyH_take (i := 1) (oi := _) (v := ?_) rfl (by kernel_rfl) (by kernel_rfl) (by kernel_rfl) (fun _ _ _ h => h) (Or.inl ⟨by rfl, ?_⟩) (by assumption) ?_
          rotate_left
          · (intro w hSw; (try dsimp only at hSw); go_simp; (try with_reducible rfl))
          try simp only [Act.put, List.setIfInBounds_toArray, List.set_cons_zero, List.set_cons_succ]
          refine Go.wpAnyH_take (i := 2) (oi := _) (v := ?_) rfl (by kernel_rfl) (by kernel_rfl) (by kernel_rfl) (fun _ _ _ h => h) (Or.inl ⟨by rfl, ?_⟩) (by assumption) ?_
          rotate_left
          · (intro w hSw; (try dsimp only at hSw); go_simp; (try with_reducible rfl))
          try simp only [Act.put, List.setIfInBounds_toArray, List.set_cons_zero, List.set_cons_succ]
          refine Go.wpAnyH_take (i := 3) (oi := _) (v := ?_) rfl (by kernel_rfl) (by kernel_rfl) (by kernel_rfl) (fun _ _ _ h => h) (Or.inl ⟨by rfl, ?_⟩) (by assumption) ?_
          rotate_left
          · (intro w hSw; (try dsimp only at hSw); go_simp; (try with_reducible rfl))
          try simp only [Act.put, List.setIfInBounds_toArray, List.set_cons_zero, List.set_cons_succ]
          refine Go.wpAnyH_take (i := 4) (oi := _) (v := ?_) rfl (by kernel_rfl) (by kernel_rfl) (by kernel_rfl) (fun _ _ _ h => h) (Or.inl ⟨by rfl, ?_⟩) (by assumption) ?_
          rotate_left
          · (intro w hSw; (try dsimp only at hSw); go_simp; (try with_reducible rfl))
          try simp only [Act.put, List.setIfInBounds_toArray, List.set_cons_zero, List.set_cons_succ]
          refine Go.wpAnyH_take (i := 6) (oi := _) (v := ?_) rfl (by kernel_rfl) (by kernel_rfl) (by kernel_rfl) (fun _ _ _ h => h) (Or.inl ⟨by rfl, ?_⟩) (by assumption) ?_
          rotate_left
          · (intro w hSw; (try dsimp only at hSw); go_simp; (try with_reducible rfl))
          try simp only [Act.put, List.setIfInBounds_toArray, List.set_cons_zero, List.set_cons_succ]
          refine Go.wpAnyH_take (i := 7) (oi := _) (v := ?_) rfl (by kernel_rfl) (by kernel_rfl) (by kernel_rfl) (fun _ _ _ h => h) (Or.inl ⟨by rfl, ?_⟩) (by assumption) ?_
          rotate_left
          · (intro w hSw; (try dsimp only at hSw); go_simp; (try with_reducible rfl))
          try simp only [Act.put, List.setIfInBounds_toArray, List.set_cons_zero, List.set_cons_succ]
          refine Go.wpAnyH_take (i := 8) (oi := _) (v := ?_) rfl (by kernel_rfl) (by kernel_rfl) (by kernel_rfl) (fun _ _ _ h => h) (Or.inl ⟨by rfl, ?_⟩) (by assumption) ?_
          rotate_left
          · (intro w hSw; (try dsimp only at hSw); go_simp; (try with_reducible rfl))
          try simp only [Act.put, List.setIfInBounds_toArray, List.set_cons_zero, List.set_cons_succ]
          refine Go.wpAnyH_take (i := 9) (oi := _) (v := ?_) rfl (by kernel_rfl) (by kernel_rfl) (by kernel_rfl) (fun _ _ _ h => h) (Or.inl ⟨by rfl, ?_⟩) (by assumption) ?_
          rotate_left
          · (intro w hSw; (try dsimp only at hSw); go_simp; (try with_reducible rfl))
          try simp only [Act.put, List.setIfInBounds_toArray, List.set_cons_zero, List.set_cons_succ]
          refine Go.wpAnyH_take (i := 10) (oi := _) (v := ?_) rfl (by kernel_rfl) (by kernel_rfl) (by kernel_rfl) (fun _ _ _ h => h) (Or.inl ⟨by rfl, ?_⟩) (by assumption) ?_
          rotate_left
          · (intro w hSw; (try dsimp only at hSw); go_simp; (try with_reducible rfl))
          try simp only [Act.put, List.setIfInBounds_toArray, List.set_cons_zero, List.set_cons_succ]
          refine Go.wpAnyH_take (i := 11) (oi := _) (v := ?_) rfl (by kernel_rfl) (by kernel_rfl) (by kernel_rfl) (fun _ _ _ h => h) (Or.inl ⟨by rfl, ?_⟩) (by assumption) ?_
          rotate_left
          · (intro w hSw; (try dsimp only at hSw); go_simp; (try with_reducible rfl))
          try simp only [Act.put, List.setIfInBounds_toArray, List.set_cons_zero, List.set_cons_succ]
          refine Go.wpAnyH_take (i := 12) (oi := _) (v := ?_) rfl (by kernel_rfl) (by kernel_rfl) (by kernel_rfl) (fun _ _ _ h => h) (Or.inl ⟨by rfl, ?_⟩) (by assumption) ?_
          rotate_left
          · (intro w hSw; (try dsimp only at hSw); go_simp; (try with_reducible rfl))
          try simp only [Act.put, List.setIfInBounds_toArray, List.set_cons_zero, List.set_cons_succ]
          refine Go.wpAnyH_take (i := 14) (oi := _) (v := ?_) rfl (by kernel_rfl) (by kernel_rfl) (by kernel_rfl) (fun _ _ _ h => h) (Or.inl ⟨by rfl, ?_⟩) (by assumption) ?_
          rotate_left
          · (intro w hSw; (try dsimp only at hSw); go_simp; (try with_reducible rfl))
          try simp only [Act.put, List.setIfInBounds_toArray, List.set_cons_zero, List.set_cons_succ]
          refine Go.wpAnyH_take (i := 15) (oi := _) (v := ?_) rfl (by kernel_rfl) (by kernel_rfl) (by kernel_rfl) (fun _ _ _ h => h) (Or.inl ⟨by rfl, ?_⟩) (by assumption) ?_
          rotate_left
          · (intro w hSw; (try dsimp only at hSw); go_simp; (try with_reducible rfl))
          try simp only [Act.put, List.setIfInBounds_toArray, List.set_cons_zero, List.set_cons_succ]
          refine Go.wpAnyH_take (i := 16) (oi := _) (v := ?_) rfl (by kernel_rfl) (by kernel_rfl) (by kernel_rfl) (fun _ _ _ h => h) (Or.inl ⟨by rfl, ?_⟩) (by assumption) ?_
          rotate_left
          · (intro w hSw; (try dsimp only at hSw); go_simp; (try with_reducible rfl))
          try simp only [Act.put, List.setIfInBounds_toArray, List.set_cons_zero, List.set_cons_succ]
          refine Go.wpAnyH_take (i := 17) (oi := _) (v := ?_) rfl (by kernel_rfl) (by kernel_rfl) (by kernel_rfl) (fun _ _ _ h => h) (Or.inl ⟨by rfl, ?_⟩) (by assumption) ?_
          rotate_left
          · (intro w hSw; (try dsimp only at hSw); go_simp; (try with_reducible rfl))
          try simp only [Act.put, List.setIfInBounds_toArray, List.set_cons_zero, List.set_cons_succ]
          refine Go.wpAnyH_take (i := 18) (oi := _) (v := ?_) rfl (by kernel_rfl) (by kernel_rfl) (by kernel_rfl) (fun _ _ _ h => h) (Or.inl ⟨by rfl, ?_⟩) (by assumption) ?_
          rotate_left
          · (intro w hSw; (try dsimp only at hSw); go_simp; (try with_reducible rfl))
          try simp only [Act.put, List.setIfInBounds_toArray, List.set_cons_zero, List.set_cons_succ]
          refine Go.wpAnyH_take (i := 19) (oi := _) (v := ?_) rfl (by kernel_rfl) (by kernel_rfl) (by kernel_rfl) (fun _ _ _ h => h) (Or.inl ⟨by rfl, ?_⟩) (by assumption) ?_
          rotate_left
          · (intro w hSw; (try dsimp only at hSw); go_simp; (try with_reducible rfl))
          try simp only [Act.put, List.setIfInBounds_toArray, List.set_cons_zero, List.set_cons_succ]
          refine Go.wpAnyH_take (i := 20) (oi := _) (v := ?_) rfl (by kernel_rfl) (by kernel_rfl) (by kernel_rfl) (fun _ _ _ h => h) (Or.inl ⟨by rfl, ?_⟩) (by assumption) ?_
          rotate_left
          · (intro w hSw; (try dsimp only at hSw); go_simp; (try with_reducible rfl))
          try simp only [Act.put, List.setIfInBounds_toArray, List.set_cons_zero, List.set_cons_succ]
          refine Go.wpAnyH_take (i := 21) (oi := _) (v := ?_) rfl (by kernel_rfl) (by kernel_rfl) (by kernel_rfl) (fun _ _ _ h => h) (Or.inl ⟨by rfl, ?_⟩) (by assumption) ?_
          rotate_left
          · (intro w hSw; (try dsimp only at hSw); go_simp; (try with_reducible rfl))
          try simp only [Act.put, List.setIfInBounds_toArray, List.set_cons_zero, List.set_cons_succ]
          refine Go.wpAnyH_take (i := 22) (oi := _) (v := ?_) rfl (by kernel_rfl) (by kernel_rfl) (by kernel_rfl) (fun _ _ _ h => h) (Or.inl ⟨by rfl, ?_⟩) (by assumption) ?_
          rotate_left
          · (intro w hSw; (try dsimp only at hSw); go_simp; (try with_reducible rfl))
          try simp only [Act.put, List.setIfInBounds_toArray, List.set_cons_zero, List.set_cons_succ]
          refine Go.wpAnyH_take (i := 23) (oi := _) (v := ?_) rfl (by kernel_rfl) (by kernel_rfl) (by kernel_rfl) (fun _ _ _ h => h) (Or.inl ⟨by rfl, ?_⟩) (by assumption) ?_
          rotate_left
          · (intro w hSw; (try dsimp only at hSw); go_simp; (try with_reducible rfl))
          try simp only [Act.put, List.setIfInBounds_toArray, List.set_cons_zero, List.set_cons_succ]
          refine wpAnyH_ready (rs := [5, 13]) (by kernel_rfl) (by simp) ?_
          refine AllReadyH.cons rfl (fun K hK => ?_) (AllReadyH.cons rfl (fun K hK => ?_) AllReadyH.nil)
          · go_simp
            refine hK.out _ _ (by first | exact hHeld | exact ⟨HKA.out, HKB.out⟩ | exact ⟨by go_keep, by go_keep⟩) (fun hHeld => ?_)
            clear hK K
            try simp only [Act.put, List.setIfInBounds_toArray, List.set_cons_zero, List.set_cons_succ]
            refine wpAnyH_ready (rs := [13]) (by kernel_rfl) (by simp) ?_
            refine AllReadyH.cons rfl (fun K hK => ?_) AllReadyH.nil
            go_simp
            refine hK.out _ _ (by first | exact hHeld | exact ⟨HKA.out, HKB.out⟩ | exact ⟨by go_keep, by go_keep⟩) (fun hHeld => ?_)
            clear hK K
            try simp only [Act.put, List.setIfInBounds_toArray, List.set_cons_zero, List.set_cons_succ]
            refine Go.wpAnyH_take (i := 24) (oi := _) (v := ?_) rfl (by kernel_rfl) (by kernel_rfl) (by kernel_rfl) (fun _ _ _ h => h) (Or.inl ⟨by rfl, ?_⟩) (by assumption) ?_
            rotate_left
            · (intro w hSw; (try dsimp only at hSw); go_simp; (try with_reducible rfl))
            try simp only [Act.put, List.setIfInBounds_toArray, List.set_cons_zero, List.set_cons_succ]
            refine wpAnyH_ready (rs := [25]) (by kernel_rfl) (by simp) ?_
            refine AllReadyH.cons rfl (fun K hK => ?_) AllReadyH.nil
            refine step_given rfl (.tmp 56) (.tmp 75) 24 rfl _ _ _ _ (by first | rfl | simp [Act.eval, Act.put]) (by first | rfl | simp [Act.eval, Act.put]) happ ?_
            refine hK.out _ _ ⟨y55, c25⟩ (fun hHeld => ?_)
            clear hK K
            try simp only [Act.put, List.setIfInBounds_toArray, List.set_cons_zero, List.set_cons_succ]
            refine Go.wpAnyH_take (i := 26) (oi := _) (v := ?_) rfl (by kernel_rfl) (by kernel_rfl) (by kernel_rfl) (fun _ _ _ h => h) (Or.inl ⟨by rfl, ?_⟩) (by assumption) ?_
            rotate_left
            · (intro w hSw; (try dsimp only at hSw); go_simp; (try with_reducible rfl))
            try simp only [Act.put, List.setIfInBounds_toArray, List.set_cons_zero, List.set_cons_succ]
            refine Go.wpAnyH_take (i := 27) (oi := _) (v := ?_) rfl (by kernel_rfl) (by kernel_rfl) (by kernel_rfl) (fun _ _ _ h => h) (Or.inl ⟨by rfl, ?_⟩) (by assumption) ?_
            rotate_left
            · (intro w hSw; (try dsimp only at hSw); go_simp; (try with_reducible rfl))
            try simp only [Act.put, List.setIfInBounds_toArray, List.set_cons_zero, List.set_cons_succ]
            refine wpAnyH_ready (rs := [28]) (by kernel_rfl) (by simp) ?_
            refine AllReadyH.cons rfl (fun K hK => ?_) AllReadyH.nil
            go_simp
            refine hK.out _ _ (by first | exact hHeld | exact ⟨HKA.out, HKB.out⟩ | exact ⟨by go_keep, by go_keep⟩) (fun hHeld => ?_)
            clear hK K
            try simp only [Act.put, List.setIfInBounds_toArray, List.set_cons_zero, List.set_cons_succ]
            refine wpAnyH_done (by kernel_rfl) ?_ _
            exact hend
          · go_simp
            refine hK.out _ _ (by first | exact hHeld | exact ⟨HKA.out, HKB.out⟩ | exact ⟨by go_keep, by go_keep⟩) (fun hHeld => ?_)
            clear hK K
            try simp only [Act.put, List.setIfInBounds_toArray, List.set_cons_zero, List.set_cons_succ]
            refine Go.wpAnyH_take (i := 24) (oi := _) (v := ?_) rfl (by kernel_rfl) (by kernel_rfl) (by kernel_rfl) (fun _ _ _ h => h) (Or.inl ⟨by rfl, ?_⟩) (by assumption) ?_
            rotate_left
            · (intro w hSw; (try dsimp only at hSw); go_simp; (try with_reducible rfl))
            try simp only [Act.put, List.setIfInBounds_toArray, List.set_cons_zero, List.set_cons_succ]
            refine wpAnyH_ready (rs := [5]) (by kernel_rfl) (by simp) ?_
            refine AllReadyH.cons rfl (fun K hK => ?_) AllReadyH.nil
            go_simp
            refine hK.out _ _ (by first | exact hHeld | exact ⟨HKA.out, HKB.out⟩ | exact ⟨by go_keep, by go_keep⟩) (fun hHeld => ?_)
            clear hK K
            try simp only [Act.put, List.setIfInBounds_toArray, List.set_cons_zero, List.set_cons_succ]
            refine wpAnyH_ready (rs := [25]) (by kernel_rfl) (by simp) ?_
            refine AllReadyH.cons rfl (fun K hK => ?_) AllReadyH.nil
            refine step_given rfl (.tmp 56) (.tmp 75) 24 rfl _ _ _ _ (by first | rfl | simp [Act.eval, Act.put]) (by first | rfl | simp [Act.eval, Act.put]) happ ?_
            refine hK.out _ _ ⟨y55, c25⟩ (fun hHeld => ?_)
            clear hK K
            try simp only [Act.put, List.setIfInBounds_toArray, List.set_cons_zero, List.set_cons_succ]
            refine Go.wpAnyH_take (i := 26) (oi := _) (v := ?_) rfl (by kernel_rfl) (by kernel_rfl) (by kernel_rfl) (fun _ _ _ h => h) (Or.inl ⟨by rfl, ?_⟩) (by assumption) ?_
            rotate_left
            · (intro w hSw; (try dsimp only at hSw); go_simp; (try with_reducible rfl))
            try simp only [Act.put, List.setIfInBounds_toArray, List.set_cons_zero, List.set_cons_succ]
            refine Go.wpAnyH_take (i := 27) (oi := _) (v := ?_) rfl (by kernel_rfl) (by kernel_rfl) (by kernel_rfl) (fun _ _ _ h => h) (Or.inl ⟨by rfl, ?_⟩) (by assumption) ?_
            rotate_left
            · (intro w hSw; (try dsimp only at hSw); go_simp; (try with_reducible rfl))
            try simp only [Act.put, List.setIfInBounds_toArray, List.set_cons_zero, List.set_cons_succ]
            refine wpAnyH_ready (rs := [28]) (by kernel_rfl) (by simp) ?_
            refine AllReadyH.cons rfl (fun K hK => ?_) AllReadyH.nil
            go_simp
            refine hK.out _ _ (by first | exact hHeld | exact ⟨HKA.out, HKB.out⟩ | exact ⟨by go_keep, by go_keep⟩) (fun hHeld => ?_)
            clear hK K
            try simp only [Act.put, List.setIfInBounds_toArray, List.set_cons_zero, List.set_cons_succ]
            refine wpAnyH_done (by kernel_rfl) ?_ _
            exact hend
        · clear happ hs1 hs2 y5 y5a c1 c1a c2 c2a e2
          obtain ⟨w6, hw6⟩ : ∃ w6, w6 = w5.setCell ⟨g, j * 3 + 1, none⟩ (.slice V5 m c5) := ⟨_, rfl⟩
          have hs1' := (HOWN.out.mod0 HM15.out).set (j * 3 + 1) (.slice V5 m c5)
          have hm1g : Mod (fun k => k = g) w5 (w5.setCell ⟨g, j * 3 + 1, none⟩ (.slice V5 m c5)) := (Mod.refl (fun k => k = g) w5).setCell (p := ⟨g, j * 3 + 1, none⟩) (fun _ => rfl) _
          rw [← hw6] at hs1' hm1g ⊢
          have y56 := hm1g.cell y55 (fun e => hgp e.symm)
          have dd := HDD.out
          have hil : j * 3 + 1 < (encFs zs').length := (List.getElem?_eq_some_iff.1 dd.2.1).1
          have c16 : w6.cell? ⟨g, j * 3 + 1, none⟩ = some (.slice V5 m c5) := hs1'.cellAt (j * 3 + 1) _ (by rw [List.getElem?_set_self hil])
          have c26 : w6.cell? ⟨g, j * 3 + 2, none⟩ = some (.int .i64 f0.s) := hs1'.cellAt (j * 3 + 2) _ (by rw [List.getElem?_set_ne (by omega), dd.2.2, HFE.out])
          have f26 := hs1'.frozenAt (j * 3 + 2)
          have hs2 := hs1'.set (j * 3 + 2) (.int .i64 (m : Nat))
          have hk5 := (((Mod.refl (fun k => k = g) w6).setCell (p := ⟨g, j * 3 + 2, none⟩) (fun _ => rfl) (.int .i64 (m : Nat))).cell y56 (fun e => hpg e))
          have hk1 := hs2.cellAt (j * 3 + 1) (.slice V5 m c5) (by rw [List.getElem?_set_ne (by omega), List.getElem?_set_self hil])
          have HK5 := Lib.hid hk5
          have HK1 := Lib.hid hk1
          clear hk5 hk1
          have HS1 := Lib.hid hs2
          have HM1 := Lib.hid hm1g
          clear hs1' hm1g y55 f15 c15 c25 dd hw6 hil hs2
          go_wp2_with fail
          have k56 : (w6.setCell ⟨g, j * 3 + 2, none⟩ (.int .i64 (m : Nat))).drew.cell? ⟨p, 5, none⟩ = some (.slice (some ⟨g, 0, none⟩) zs.length c) := HK5.out
          have k16 : (w6.setCell ⟨g, j * 3 + 2, none⟩ (.int .i64 (m : Nat))).drew.cell? ⟨g, j * 3 + 1, none⟩ = some (.slice V5 m c5) := HK1.out
          apply cut_lazy
          · intro hend
            go_region_held3 (fun w' => w'.cell? ⟨p, 5, none⟩ = some (.slice (some ⟨g, 0, none⟩) zs.length c) ∧ w'.cell? ⟨g, j * 3 + 1, none⟩ = some (.slice V5 m c5)) (first | go_keep | exact ⟨k56, k16⟩ | exact ⟨HK5.out, HK1.out⟩) (fail)
            all_goals exact hend
          · clear k56 k16
            have hdr : Mod NoneB (w6.setCell ⟨g, j * 3 + 2, none⟩ (.int .i64 (m : Nat))) (w6.setCell ⟨g, j * 3 + 2, none⟩ (.int .i64 (m : Nat))).drew := (Mod.refl _ _).drew
            have hm56 := ((HM1.out).setCell (p := ⟨g, j * 3 + 2, none⟩) (fun _ => rfl) (.int .i64 (m : Nat))).then0 hdr
            have hs2d := HS1.out.mod0 hdr
            have hNw : N ≤ wr.heap.size := Nat.le_trans hrn (Nat.le_trans hm1.size HMJ.out.size)
            have hwr : w.heap.size ≤ wr.heap.size := Nat.le_trans hm1.size HMJ.out.size
            have h5r : ∀ q, (Value.slice V5 m c5).ownBlock = some q → wr.heap.size ≤ q := fun q hq => Nat.le_trans HWX.out (HN5.out q hq)
            obtain ⟨h7, hm17⟩ := HDJ.out.two (by rw [HA.out, HLE.out]) hj' HM15.out HO5.out h5r hNw rfl (by rw [HLT.out]; exact Nat.le_refl _) hm56 (by rw [HLE.out]; exact hs2d)
            have hq : restTo d.p.keep d.fs j = (restTo d.p.keep d.fs j) := rfl
            rw [show ({ ({ d with fs := restTo d.p.keep d.fs j } : Dk) with fs := ({ d with fs := restTo d.p.keep d.fs j } : Dk).fs.set j ⟨zs'[j].1.n, f0.b.take m, m⟩ } : Dk) = { d with fs := restTo d.p.keep d.fs (j + 1) } from by rw [← HSET.out, HFE.out]] at h7
            have hrel : RdAt N (w6.setCell ⟨g, j * 3 + 2, none⟩ (.int .i64 (m : Nat))).drew p { d with fs := restTo d.p.keep d.fs (j + 1) } (.slice A zs.length c) FA KA (zs'.set j (⟨zs'[j].1.n, f0.b.take m, m⟩, .slice V5 m c5)) := h7
            have hrelm : Mod (fun k => (Value.slice A zs.length c).ownBlock = some k) w1 (w6.setCell ⟨g, j * 3 + 2, none⟩ (.int .i64 (m : Nat))).drew := HMJ.out.trans hm17 (fun _ _ h => by rw [h]; exact HGR.out)
            have HR := Lib.hid hrel
            have HRM := Lib.hid hrelm
            have HWR := Lib.hid hwr
            have H5R := Lib.hid h5r
            clear hdr hm56 hs2d h7 hm17 hrel hrelm hwr h5r hq hNw c16 c26 f26 y56
            generalize (w6.setCell ⟨g, j * 3 + 2, none⟩ (.int .i64 (m : Nat))).drew = w8 at HR HRM ⊢
            go_wp2_with fail
            go_roundw
            case rel =>
              refine ⟨j + 1, _, by go_num, by omega, by rw [List.length_set]; exact HLE.out, HR.out, HRM.out, fun z hz g' hg' => ?_⟩
              rcases List.mem_or_eq_of_mem_set hz with hz | rfl
              · exact HGZ.out z hz g' hg'
              · exact .inr (Nat.le_trans HWR.out (H5R.out g' hg'))
            case measure => simp [intOf]; omega
    · have hje : j = zs.length := by omega
      subst hje
      have hfs : restTo d.p.keep d.fs zs.length = d.fs.mapIdx (restF d.p.keep) := by rw [← HLEN.out, restTo_end]
      rw [hfs] at hdj
      have hBg : ¬ (Value.slice A zs.length c).ownBlock = some B := fun e => by have := HBF.out B (.inr (.inl e)); rw [HB.out] at this; omega
      have hzr := hmj.blk z1 hBg
      have x0 : wr.cell? ⟨B, 0, none⟩ = some (.int .i64 pl.cap) := by rw [blk_cell hzr]; rfl
      have x1 : wr.cell? ⟨B, 1, none⟩ = some (.slice F pl.fail.length fc) := by rw [blk_cell hzr]; rfl
      have x2 : wr.cell? ⟨B, 2, none⟩ = some (.int .i64 pl.crash) := by rw [blk_cell hzr]; rfl
      have x3 : wr.cell? ⟨B, 3, none⟩ = some (.bool pl.done) := by rw [blk_cell hzr]; rfl
      have x4 : wr.cell? ⟨B, 4, none⟩ = some (.slice K pl.keep.length kc) := by rw [blk_cell hzr]; rfl
      have hnewN : ∀ k, (Value.slice A zs.length c).ownBlock = some k → N ≤ k := fun k hk => H.out.fil.new k hk
      have hFr : OldI N wr (.slice F pl.fail.length fc) pl.fail := OldI.mod ⟨F, fc, rfl, hF, hoF⟩ (hm1.mono (fun _ _ h => h.elim) |>.trans hmj (fun _ _ h => h)) hnewN
      have hKr : OldI N wr (.slice K pl.keep.length kc) pl.keep := OldI.mod ⟨K, kc, rfl, hK, hoK⟩ (hm1.mono (fun _ _ h => h.elim) |>.trans hmj (fun _ _ h => h)) hnewN
      have t0 : wr.cell? ⟨p, 0, none⟩ = some (.int .i64 d.p.cap) := hdj.cellAt 0
      have t1 : wr.cell? ⟨p, 1, none⟩ = some FA := hdj.cellAt 1
      have t2 : wr.cell? ⟨p, 2, none⟩ = some (.int .i64 d.p.crash) := hdj.cellAt 2
      have t3 : wr.cell? ⟨p, 3, none⟩ = some (.bool d.p.done) := hdj.cellAt 3
      have t4 : wr.cell? ⟨p, 4, none⟩ = some KA := hdj.cellAt 4
      have t5 : wr.cell? ⟨p, 5, none⟩ = some (.slice A zs.length c) := hdj.cellAt 5
      have t6 : wr.cell? ⟨p, 6, none⟩ = some (.int .i64 d.c) := hdj.cellAt 6
      have t7 : wr.cell? ⟨p, 7, none⟩ = some (.bool d.dn) := hdj.cellAt 7
      have r0 : wr.frozen? ⟨p, 0, none⟩ = false := blk_frozen hdj.blk 0
      have r1 : wr.frozen? ⟨p, 1, none⟩ = false := blk_frozen hdj.blk 1
      have r2 : wr.frozen? ⟨p, 2, none⟩ = false := blk_frozen hdj.blk 2
      have r3 : wr.frozen? ⟨p, 3, none⟩ = false := blk_frozen hdj.blk 3
      have r4 : wr.frozen? ⟨p, 4, none⟩ = false := blk_frozen hdj.blk 4
      have r6 : wr.frozen? ⟨p, 6, none⟩ = false := blk_frozen hdj.blk 6
      have r7 : wr.frozen? ⟨p, 7, none⟩ = false := blk_frozen hdj.blk 7
      have hb6 : (((((((wr.setCell ⟨p, 0, none⟩ (.int .i64 pl.cap)).setCell ⟨p, 1, none⟩ (.slice F pl.fail.length fc)).setCell ⟨p, 2, none⟩ (.int .i64 pl.crash)).setCell ⟨p, 3, none⟩ (.bool pl.done)).setCell ⟨p, 4, none⟩ (.slice K pl.keep.length kc)).setCell ⟨p, 6, none⟩ (.int .i64 0)).setCell ⟨p, 7, none⟩ (.bool false)).heap[p]? = some (.cells (dkCells ⟨pl, d.fs.mapIdx (restF d.p.keep), 0, false⟩ (.slice A zs.length c) (.slice F pl.fail.length fc) (.slice K pl.keep.length kc)) 104 (0, 0)) :=
        (setCell_blk (setCell_blk (setCell_blk (setCell_blk (setCell_blk (setCell_blk (setCell_blk hdj.blk))))))).trans rfl
      have hm6 : Mod (fun k => k = p) wr (((((((wr.setCell ⟨p, 0, none⟩ (.int .i64 pl.cap)).setCell ⟨p, 1, none⟩ (.slice F pl.fail.length fc)).setCell ⟨p, 2, none⟩ (.int .i64 pl.crash)).setCell ⟨p, 3, none⟩ (.bool pl.done)).setCell ⟨p, 4, none⟩ (.slice K pl.keep.length kc)).setCell ⟨p, 6, none⟩ (.int .i64 0)).setCell ⟨p, 7, none⟩ (.bool false)) :=
        ((((((Mod.setCell (S := fun k => k = p) (Mod.refl _ _) (p := ⟨p, 0, none⟩) (fun _ => rfl) _).setCell (p := ⟨p, 1, none⟩) (fun _ => rfl) _).setCell (p := ⟨p, 2, none⟩) (fun _ => rfl) _).setCell (p := ⟨p, 3, none⟩) (fun _ => rfl) _).setCell (p := ⟨p, 4, none⟩) (fun _ => rfl) _).setCell (p := ⟨p, 6, none⟩) (fun _ => rfl) _).setCell (p := ⟨p, 7, none⟩) (fun _ => rfl) _
      have h6 := hdj.replan (pl := pl) hm6 hb6 hFr hKr
      have hst : RStep N w S p (restartD d pl) (((((((wr.setCell ⟨p, 0, none⟩ (.int .i64 pl.cap)).setCell ⟨p, 1, none⟩ (.slice F pl.fail.length fc)).setCell ⟨p, 2, none⟩ (.int .i64 pl.crash)).setCell ⟨p, 3, none⟩ (.bool pl.done)).setCell ⟨p, 4, none⟩ (.slice K pl.keep.length kc)).setCell ⟨p, 6, none⟩ (.int .i64 0)).setCell ⟨p, 7, none⟩ (.bool false)) := by
        refine ⟨_, ⟨_, _, _, _, h6, fun _ => Iff.rfl⟩, ((hm1.mono (fun _ _ h => h.elim)).trans hmj (fun k _ h => (HS.out k).2 (.inr (.inl h)))).trans hm6 (fun k _ hk => (HS.out k).2 (.inl hk)), ?_⟩
        rintro k (rfl | hk | ⟨z, hz, hk⟩)
        · exact .inl ((HS.out _).2 (.inl rfl))
        · exact .inl ((HS.out _).2 (.inr (.inl hk)))
        · rcases hgz z hz k hk with ⟨y, hy, hyk⟩ | h
          · exact .inl ((HS.out _).2 (.inr (.inr ⟨y, hy, hyk⟩)))
          · exact .inr h
      have HST := Lib.hid hst
      clear hb6 hm6 h6 hst hFr hKr hzr hF hK hgz hfs hdj HDJ
      go_wp2_with fail
      go_end0
      exact ⟨rfl, HST.out⟩
end Go.Proofs.YtnlmfmceogbomaaGreatDoor
