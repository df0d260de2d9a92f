/- The reference's disk: put. -/
import Derived.Test.YtfbnkbdolimojaaRdA
import Derived.Test.YtfbnkbdolimojaaRefPutA
namespace Go.Proofs.Ytfbnkbdolimojaa
open Go.RowKit
set_option linter.unusedVariables false

theorem encFs_set3 : ∀ (l : List (Fl × Value)) (i : Nat) (z : Fl × Value), (((encFs l).set (i * 3) (.string z.1.n)).set (i * 3 + 1) z.2).set (i * 3 + 2) (.int .i64 z.1.s) = encFs (l.set i z)
  | [], i, z => by simp [encFs]
  | q :: l, 0, z => by simp [encFs, encFl]
  | q :: l, i + 1, z => by
    have h := encFs_set3 l i z
    have e : (i + 1) * 3 = i * 3 + 1 + 1 + 1 := by omega
    simp only [encFs, List.flatMap_cons, encFl, e, List.cons_append, List.nil_append, List.set_cons_succ] at h ⊢
    rw [h]
theorem encFs_getO {l : List (Fl × Value)} {i : Nat} {z : Fl × Value} (h : l[i]? = some z) : (encFs l)[i * 3]? = some (.string z.1.n) ∧ (encFs l)[i * 3 + 1]? = some z.2 ∧ (encFs l)[i * 3 + 2]? = some (.int .i64 z.1.s) := by
  obtain ⟨hi, rfl⟩ := List.getElem?_eq_some_iff.1 h
  exact encFs_get l i hi
theorem encFs_snoc (l : List (Fl × Value)) (z : Fl × Value) : encFs (l ++ [z]) = encFs l ++ encFs [z] := by unfold encFs; rw [List.flatMap_append]
def insZ (zs : List (Fl × Value)) (k : Nat) (z : Fl × Value) : List (Fl × Value) := zs.take k ++ z :: zs.drop k
theorem mem_insZ {zs : List (Fl × Value)} {k : Nat} {z q : Fl × Value} (h : q ∈ insZ zs k z) : q = z ∨ q ∈ zs := by
  unfold insZ at h
  rcases List.mem_append.1 h with h | h
  · exact .inr (List.mem_of_mem_take h)
  · rcases List.mem_cons.1 h with h | h
    · exact .inl h
    · exact .inr (List.mem_of_mem_drop h)
theorem putF_miss {fs : List Fl} {f : Fl} (h : hitF fs f.n = false) : putF fs f = fs.take (lbF fs f.n) ++ f :: fs.drop (lbF fs f.n) := by
  unfold putF
  rw [h]
  rfl
theorem rises_putF {fs : List Fl} (h : Rises (asPs fs)) (f : Fl) : Rises (asPs (putF fs f)) := by
  have h1 := rises_putT h f.n (asP f).v
  have e : asPs (putF fs f) = putT (asPs fs) f.n (asP f).v := by
    unfold putF putT asPs
    rw [List.map_append, List.map_cons, List.map_take, List.map_drop]
    rfl
  rw [e]
  exact h1

set_option maxHeartbeats 8000000 in
set_option maxRecDepth 100000 in
theorem rdput_calls (N : Nat) (w : World) (p : Nat) (d : Dk) (row FA KA : Value) (zs : List (Fl × Value)) (h : RdAt N w p d row FA KA zs) (f : Fl) (u : Value) (hN : N ≤ w.heap.size)
    (hu : Own w 5 1 u f.b.length (encB f.b) ∧ u.oneCell' = true ∧ ∀ g, u.ownBlock = some g → N ≤ g) (hs : f.s ≤ f.b.length) (hm : hitF d.fs f.n = false) (hl : d.fs.length ≤ 1000000) :
    Calls Try.prog 102 #[.pointer (some ⟨p, 0, none⟩), .agg #[.string f.n, u, .int .i64 f.s]] w fun e w' => e = .returned (.tuple #[]) ∧
      ∃ row', RdAt N w' p { d with fs := putF d.fs f } row' FA KA (insZ zs (lbF d.fs f.n) (f, u)) ∧ Mod (fun k => k = p ∨ row.ownBlock = some k) w w' ∧ NewOr w row row' := by
  have hln := h.len
  have hpf := putF_miss hm
  have hlb := lbF_le d.fs f.n
  obtain ⟨A, c, hrow, hrd⟩ := h.fil.own.nilD0
  have hown := h.fil.own
  rw [hrow] at hown
  have HROW := Lib.hid hrow
  have hub := Try.underlying36
  have hgt : ∀ i, ∀ h1 : i < d.fs.length, ∀ h2 : i < zs.length, zs[i].1 = d.fs[i] := fun i h1 h2 => (h.get h1 h2).symm
  have HGT := Lib.hid hgt
  have hless : ∀ j, ∀ h : j < d.fs.length, j < lbF d.fs f.n → cmpS d.fs[j].n f.n < 0 := fun j h1 h2 => by
    have h3 := lb_less f.n (asPs d.fs) j (by simpa [asPs] using h1) h2
    simp only [asPs, List.getElem_map] at h3
    exact h3
  have HLESS := Lib.hid hless
  have hstop : ∀ h : lbF d.fs f.n < d.fs.length, ¬ cmpS d.fs[lbF d.fs f.n].n f.n < 0 := fun h1 => by
    have h3 := lb_stop f.n (asPs d.fs) (by simpa [asPs, lbF] using h1)
    simp only [asPs, List.getElem_map] at h3
    exact h3
  have HSTOP := Lib.hid hstop
  have H := Lib.hid h
  have HPF := Lib.hid hpf
  obtain ⟨Au, cu, rfl, _⟩ := hu.1.nilD0
  have HU := Lib.hid hu
  have y5 : ∀ wr, Mod NoneB w wr → wr.cell? ⟨p, 5, none⟩ = some (.slice A zs.length c) := fun wr hm => by rw [← hrow]; exact (h.mod hm (fun _ _ h => h) (fun _ h => h.elim)).cellAt 5
  have Y5 := Lib.hid y5
  have hplt : p < w.heap.size := blk_lt h.blk
  obtain ⟨m, hmd⟩ : ∃ m, m = lbF d.fs f.n := ⟨_, rfl⟩
  rw [← hmd] at HLESS HSTOP HPF hlb ⊢
  have HM := Lib.hid hmd
  clear hgt hless hstop h hpf hu hm y5 hmd hrow
  go_enter Try.func102, Try.ntmps102
  go_wp2_with fail
  have hmA : Mod NoneB w (w.alloc (.cells #[.string f.n, .slice Au f.b.length cu, .int .i64 f.s] 139)) := (Mod.refl NoneB w).alloc _
  have hbx := heap_alloc_new w (.cells #[.string f.n, .slice Au f.b.length cu, .int .i64 f.s] 139)
  have hx0 : (w.alloc (.cells #[.string f.n, .slice Au f.b.length cu, .int .i64 f.s] 139)).cell? ⟨w.heap.size, 0, none⟩ = some (.string f.n) := blk_cell hbx 0
  have hsz : w.heap.size < (w.alloc (.cells #[.string f.n, .slice Au f.b.length cu, .int .i64 f.s] 139)).heap.size := by simp
  have HBX := Lib.hid hbx
  go_loopw [4] (fun i wr => ∃ j : Nat, i = .int .i64 j ∧ j ≤ m ∧ Mod NoneB w wr ∧ wr.heap[w.heap.size]? = some (.cells #[.string f.n, .slice Au f.b.length cu, .int .i64 f.s] 139 (0, 0)) ∧ w.heap.size < wr.heap.size) (fun i _ => m - (intOf i).toNat)
  case atStart => exact ⟨0, rfl, by omega, hmA, HBX.out, hsz⟩
  case round =>
    clear hmA hbx hx0 hsz HBX
    obtain ⟨j, rfl, hj, hm, hbx, hlt⟩ := hrel
    have y5 := Y5.out wr hm
    have x0 : wr.cell? ⟨w.heap.size, 0, none⟩ = some (.string f.n) := blk_cell hbx 0
    by_cases hjm : j < m
    · have hjn : j < d.fs.length := by omega
      have hz1 : j < zs.length := by omega
      obtain ⟨ad, rfl, h0, _⟩ := Rd.elem (f := encFl) (fun _ => rfl) (hrd.mod0 hm) (by decide) j hz1
      have c0 := h0 _ rfl
      rw [HGT.out j hjn hz1] at c0
      have hls := HLESS.out j hjn hjm
      obtain ⟨q, hq⟩ : ∃ q, q = d.fs[j].n := ⟨_, rfl⟩
      rw [← hq] at c0 hls
      have b1 : Op.bytesLess q.toList f.n.toList = true := by rw [less_cmpS]; exact decide_eq_true hls
      have e1 : IntKind.i64.wrap ((j : Int) + 1) = j + 1 := IntWalk.i64_in _ (by omega)
      have e6 : (j : Int) < zs.length := by omega
      have e7 : (0 : Int) ≤ j := by omega
      clear hq hls h0
      go_wp2_with fail
      go_quiet (fail)
      go_wp2_with fail
      go_roundw
      case rel => exact ⟨j + 1, by go_num, by omega, hm.drewN _, ((Mod.refl NoneB wr).drewN _).blk hbx (fun h => h), by simpa using hlt⟩
      case measure => simp [intOf]; omega
    · have hje : j = m := by omega
      subst hje
      have e7 : (0 : Int) ≤ j := by omega
      have hown' := hown.mod0 hm
      have hln2 : (zs.length + 1) * 48 ≤ 140737488355328 := by omega
      have hnw : ∀ n, 0 < 1 → ∃ a, (some ⟨wr.heap.size, 0, none⟩ : Option Addr) = some a ∧ ∀ (j : Nat) u, (encFs [(⟨⟨#[]⟩, [], 0⟩, .slice none 0 0)])[j]? = some u → ((wr.drewN n).alloc (.cells #[.string ⟨#[]⟩, .slice none 0 0, .int .i64 0] 139)).cell? (a.add j) = some u := by
        intro n
        have h := (rdBlk (sz := 3) (n := 1) (heap_alloc_new (wr.drewN n) (.cells #[.string ⟨#[]⟩, .slice none 0 0, .int .i64 0] 139)) rfl (by omega)).2.2
        have e : (wr.drewN n).heap.size = wr.heap.size := by simp
        rw [e] at h
        exact h
      have h1f : ∀ u ∈ encFs [((⟨⟨#[]⟩, [], 0⟩ : Fl), Value.slice none 0 0)], u.oneCell' = true := fun u hu => encFl_one ⟨⟨#[]⟩, [], 0⟩ none 0 0 u (by simpa [encFs] using hu)
      have hgp : p ≠ wr.heap.size := by have := hm.size; omega
      by_cases hjn : j < d.fs.length
      case' pos =>
        have hz1 : j < zs.length := by omega
        obtain ⟨ad, rfl, h0, _⟩ := Rd.elem (f := encFl) (fun _ => rfl) (hrd.mod0 hm) (by decide) j hz1
        have c0 := h0 _ rfl
        rw [HGT.out j hjn hz1] at c0
        have hns := HSTOP.out hjn
        obtain ⟨q, hq⟩ : ∃ q, q = d.fs[j].n := ⟨_, rfl⟩
        rw [← hq] at c0 hns
        have b1 : Op.bytesLess q.toList f.n.toList = false := by rw [less_cmpS]; exact decide_eq_false (by omega)
        have e6 : (j : Int) < zs.length := by omega
        clear hq hns h0
      case' neg =>
        have e6 : ¬ (j : Int) < zs.length := by omega
        have e6n : decide (j < zs.length) = false := by simp; omega
      all_goals
        go_wp2_with fail
        go_quiet (fail)
        have y5q := Y5.out _ (hm.drewN nq)
        go_wp2_with (at_builtin; refine wpList_append rfl (.tmp 32) (.tmp 34) 36 rfl 139 _ 3 48 hub tiFile rfl (by decide) (by decide) _ zs.length (encFs zs) rfl (hown'.mod0 (((Mod.refl NoneB wr).drewN _).alloc _)) (some ⟨wr.heap.size, 0, none⟩) 1 1 (encFs [(⟨⟨#[]⟩, [], 0⟩, .slice none 0 0)]) rfl rfl (hnw _) h1f hln2 ?_)
        intro v4 w4 ho4 hm4 hno4
        have hrp : ∀ g, row.ownBlock = some g → g ≠ p := fun g hg => H.out.rowNe hg
        have hpA := ((hm.drewN nq).alloc (.cells #[.string ⟨#[]⟩, .slice none 0 0, .int .i64 0] 139)).blk H.out.blk (fun h => h)
        have hp4 := hm4.blk hpA (fun hk => hrp p (by rw [HROW.out]; exact hk) rfl)
        have y54 : w4.cell? ⟨p, 5, none⟩ = some row := blk_cell hp4 5
        have fr54 : w4.frozen? ⟨p, 5, none⟩ = false := blk_frozen hp4 5
        have hbx4 := hm4.blk ((((Mod.refl NoneB wr).drewN nq).alloc (.cells #[.string ⟨#[]⟩, .slice none 0 0, .int .i64 0] 139)).blk hbx (fun h => h)) (fun h => absurd (hown.lt h) (Nat.lt_irrefl _))
        have hmA4 := (((hm.mono (fun _ _ h => h.elim)).drewN nq).alloc (.cells #[.string ⟨#[]⟩, .slice none 0 0, .int .i64 0] 139)).trans hm4 (fun _ _ h => h)
        obtain ⟨g, c4, he4⟩ := ho4.addrOf (by omega)
        subst he4
        obtain ⟨hgx, hgS, hnv⟩ := hno4.two (w := w) (fun _ h => hown.lt h) (by simp; omega)
        have hgp2 : g ≠ p := by
          obtain ⟨cur, hc⟩ := ho4.tag rfl
          exact tag_ne hc hp4 (by decide)
        obtain ⟨w5, hw5⟩ : ∃ w5, w5 = w4.setCell ⟨p, 5, none⟩ (.slice (some ⟨g, 0, none⟩) (zs.length + 1) c4) := ⟨_, rfl⟩
        have hms : Mod (fun k => k = p) w4 w5 := by rw [hw5]; exact Mod.setCell (S := fun k => k = p) (Mod.refl _ _) (p := ⟨p, 5, none⟩) (fun _ => rfl) _
        have hp5 : w5.heap[p]? = some (.cells (dkCells d (.slice (some ⟨g, 0, none⟩) (zs.length + 1) c4) FA KA) 38 (0, 0)) := by rw [hw5]; exact (setCell_blk hp4).trans rfl
        have hbx5 := hms.blk hbx4 (fun e => by omega)
        have ho5 : Own w5 139 3 (.slice (some ⟨g, 0, none⟩) (zs.length + 1) c4) (zs.length + 1) (encFs (zs.take zs.length ++ ((⟨⟨#[]⟩, [], 0⟩ : Fl), Value.slice none 0 0) :: zs.drop zs.length)) := by
          have e : zs.take zs.length ++ ((⟨⟨#[]⟩, [], 0⟩ : Fl), Value.slice none 0 0) :: zs.drop zs.length = zs ++ [((⟨⟨#[]⟩, [], 0⟩ : Fl), Value.slice none 0 0)] := by simp
          rw [e, encFs_snoc]
          exact ho4.mod hms (fun k hk e => hgp2 ((Option.some.inj (show some g = some k from hk)).trans e))
        have HW5 := Lib.hid hw5
        have hmw5 : Mod (fun k => k = p ∨ row.ownBlock = some k) w w5 := (hmA4.mono (fun _ _ h => .inr (by rw [HROW.out]; exact h))).trans hms (fun _ _ h => .inl h)
        have HMW5 := Lib.hid hmw5
        rw [← HROW.out] at hnv
        have hgS2 : row.ownBlock = some g ∨ w.heap.size ≤ g := hgS.imp (fun h => by rw [HROW.out]; exact h) id
        have HNV := Lib.hid hnv
        have HGS := Lib.hid hgS2
        have HP5 := Lib.hid hp5
        have HBX5 := Lib.hid hbx5
        have hfin : ∀ w6, Own w6 139 3 (.slice (some ⟨g, 0, none⟩) (zs.length + 1) c4) (zs.length + 1) (encFs (zs.take j ++ (f, Value.slice Au f.b.length cu) :: zs.drop j)) → Mod (fun q => q = g) w5 w6 →
            ∃ row', RdAt N w6 p { d with fs := putF d.fs f } row' FA KA (insZ zs j (f, .slice Au f.b.length cu)) ∧ Mod (fun k => k = p ∨ row.ownBlock = some k) w w6 ∧ NewOr w row row' := by
          intro w6 ho6 hm6
          have hmt : Mod (fun k => k = p ∨ row.ownBlock = some k) w w6 := HMW5.out.trans_new hm6 (fun q hq => by subst hq; exact HGS.out.imp .inr id)
          have hrn : ∀ g', row.ownBlock = some g' → N ≤ g' := H.out.fil.new
          have hT : ∀ q, (q = p ∨ row.ownBlock = some q) → N ≤ q := fun q hq => hq.elim (fun e => by rw [e]; exact H.out.pos) (hrn q)
          have hil : (insZ zs j (f, Value.slice Au f.b.length cu)).length = zs.length + 1 := by unfold insZ; simp; omega
          refine ⟨_, ⟨hm6.blk HP5.out (fun e => hgp2 e.symm), ⟨by rw [hil]; exact ho6, fun g' hg' => ?_, fun q hq => ?_⟩, ?_, H.out.fail.mod hmt hT, H.out.keep.mod hmt hT, ?_, fun q hq => ?_, H.out.pos⟩, hmt, HNV.out⟩
          · have e := Option.some.inj (show some g = some g' from hg')
            rw [← e]
            rcases HGS.out with h1 | h1
            · exact hrn g h1
            · exact Nat.le_trans hN h1
          · rcases mem_insZ hq with rfl | hq
            · refine ⟨HU.out.1.mod hmt (fun g' hg' hT' => ?_), HU.out.2⟩
              obtain ⟨cur, hc⟩ := HU.out.1.tag hg'
              rcases hT' with rfl | hT'
              · exact tag_ne hc H.out.blk (by decide) rfl
              · obtain ⟨cur2, hc2⟩ := H.out.fil.own.tag hT'
                exact tag_ne hc hc2 (by decide) rfl
            · have he := H.out.fil.ent q hq
              exact ⟨he.1.mod hmt (fun g' hg' hT' => hT'.elim (H.out.bytNe hq hg') (fun h => H.out.bytRow hq hg' h)), he.2⟩
          · show putF d.fs f = _
            rw [HPF.out, H.out.fs]
            unfold insZ
            rw [List.map_append, List.map_cons, List.map_take, List.map_drop]
          · exact rises_putF H.out.rises f
          · rcases mem_putF hq with rfl | hq
            · exact hs
            · exact H.out.sync q hq
        have HFIN := Lib.hid hfin
        have y55 : w5.cell? ⟨p, 5, none⟩ = some (.slice (some ⟨g, 0, none⟩) (zs.length + 1) c4) := blk_cell hp5 5
        have en : IntKind.i64.wrap (zs.length : Int) = zs.length := IntWalk.i64_in _ (by omega)
        clear hfin hrp hpA hp4 hbx4 hmA4 hnv hgS hgS2 hms hp5 hbx5 hmw5 ho4 hm4 hno4 hnw hown' hw5 y5q hbx h1f
        go_wp2_with fail
        rw [← HW5.out]
        go_loopw [5] (fun i wq => ∃ (k : Nat) (z : Fl × Value), i = .int .i64 k ∧ j ≤ k ∧ k ≤ zs.length ∧ Own wq 139 3 (.slice (some ⟨g, 0, none⟩) (zs.length + 1) c4) (zs.length + 1) (encFs (zs.take k ++ z :: zs.drop k)) ∧ Mod (fun q => q = g) w5 wq) (fun i _ => (intOf i).toNat)
        case atStart => exact ⟨zs.length, _, by go_num, by omega, Nat.le_refl _, ho5, Mod.refl _ _⟩
        case round =>
          clear ho5 y54 fr54 y5 y55
          obtain ⟨k, z, rfl, hjk, hkl, hov, hmq⟩ := hrel
          have hpq := hmq.blk HP5.out (fun e => hgp2 e.symm)
          have yq5 : wr.cell? ⟨p, 5, none⟩ = some (.slice (some ⟨g, 0, none⟩) (zs.length + 1) c4) := blk_cell hpq 5
          by_cases hlt2 : j < k
          · first
            | (exfalso; omega)
            | (skip
               obtain ⟨m, rfl⟩ : ∃ m, k = m + 1 := ⟨k - 1, by omega⟩
               have hml : m < zs.length := by omega
               obtain ⟨Av, cv, hyv, _⟩ := (H.out.fil.ent zs[m] (List.getElem_mem _)).1.nilD0
               have hst := shift_step z zs m hml
               have cc := encFs_getO (shift_get z zs m hml)
               obtain ⟨y, hy⟩ : ∃ y, y = zs[m] := ⟨_, rfl⟩
               rw [← hy] at cc hyv hst
               obtain ⟨yf, yv⟩ := y
               simp only at hyv cc
               subst hyv
               have dd := encFs_getO (shift_at z zs (m + 1) hkl)
               have c0 := hov.cellAt (m * 3) _ cc.1
               have c1 := hov.cellAt (m * 3 + 1) _ cc.2.1
               have c2 := hov.cellAt (m * 3 + 2) _ cc.2.2
               have d0 := hov.cellAt ((m + 1) * 3) _ dd.1
               have d1 := hov.cellAt ((m + 1) * 3 + 1) _ dd.2.1
               have d2 := hov.cellAt ((m + 1) * 3 + 2) _ dd.2.2
               have f0 := hov.frozenAt ((m + 1) * 3)
               have f1 := hov.frozenAt ((m + 1) * 3 + 1)
               have f2 := hov.frozenAt ((m + 1) * 3 + 2)
               have hovd := hov.mod0 ((Mod.refl NoneB wr).drew)
               have hs := ((hovd.set ((m + 1) * 3) (.string yf.n)).set ((m + 1) * 3 + 1) (.slice Av yf.b.length cv)).set ((m + 1) * 3 + 2) (.int .i64 yf.s)
               have hs := (encFs_set3 _ _ (yf, .slice Av yf.b.length cv)) ▸ hs
               rw [hst] at hs
               have HS := Lib.hid hs
               have n1 : IntKind.i64.wrap (m : Int) = m := IntWalk.i64_in _ (by omega)
               have n2 : ((m : Int) + 1).toNat = m + 1 := by omega
               have n3 : (0 : Int) ≤ (m : Int) + 1 := by omega
               have n4 : (m : Int) + 1 < (zs.length : Int) + 1 := by omega
               have n5 : (m : Int) < (zs.length : Int) + 1 := by omega
               have n6 : (j : Int) < (m : Int) + 1 := by omega
               have n7 : (0 : Int) ≤ (m : Int) := by omega
               clear hs cc dd hovd hst hy
               go_wp2_with fail
               go_region_law (fail)
               all_goals
                 clear c0 c1 c2 d0 d1 d2 f0 f1 f2 n1 n3 n4 n5 n7
                 go_wp2_with fail
                 go_roundw
                 case rel => exact ⟨m, (yf, .slice Av yf.b.length cv), by go_num, by omega, by omega, HS.out, ((hmq.drew.setCell (p := ⟨g, (m + 1) * 3, none⟩) (fun _ => rfl) _).setCell (p := ⟨g, (m + 1) * 3 + 1, none⟩) (fun _ => rfl) _).setCell (p := ⟨g, (m + 1) * 3 + 2, none⟩) (fun _ => rfl) _⟩
                 case measure => simp [intOf])
          · have hkj : k = j := by omega
            subst hkj
            have hbq := hmq.blk HBX5.out (fun e => hgx e.symm)
            have x0 : wr.cell? ⟨w.heap.size, 0, none⟩ = some (.string f.n) := blk_cell hbq 0
            have x1 : wr.cell? ⟨w.heap.size, 1, none⟩ = some (.slice Au f.b.length cu) := blk_cell hbq 1
            have x2 : wr.cell? ⟨w.heap.size, 2, none⟩ = some (.int .i64 f.s) := blk_cell hbq 2
            have dd := encFs_getO (shift_at z zs k hkl)
            have d0 := hov.cellAt (k * 3) _ dd.1
            have d1 := hov.cellAt (k * 3 + 1) _ dd.2.1
            have d2 := hov.cellAt (k * 3 + 2) _ dd.2.2
            have f0 := hov.frozenAt (k * 3)
            have f1 := hov.frozenAt (k * 3 + 1)
            have f2 := hov.frozenAt (k * 3 + 2)
            have hovd := hov.mod0 ((Mod.refl NoneB wr).drew)
            have hs := ((hovd.set (k * 3) (.string f.n)).set (k * 3 + 1) (.slice Au f.b.length cu)).set (k * 3 + 2) (.int .i64 f.s)
            have hs := (encFs_set3 _ _ (f, .slice Au f.b.length cu)) ▸ hs
            rw [shift_set z _ zs k hkl] at hs
            have hfin := HFIN.out _ hs (((hmq.drew.setCell (p := ⟨g, k * 3, none⟩) (fun _ => rfl) _).setCell (p := ⟨g, k * 3 + 1, none⟩) (fun _ => rfl) _).setCell (p := ⟨g, k * 3 + 2, none⟩) (fun _ => rfl) _)
            have HF := Lib.hid hfin
            have n5 : (k : Int) < (zs.length : Int) + 1 := by omega
            clear hs dd hovd hfin hbq hpq hov
            go_wp2_with fail
            go_region_law (fail)
            all_goals
              clear x0 x1 x2 d0 d1 d2 f0 f1 f2
              go_wp2_with fail
              go_end0
              exact ⟨rfl, HF.out⟩
end Go.Proofs.Ytfbnkbdolimojaa

/- The reference's disk: drop; Create, Remove, Read. -/
namespace Go.Proofs.Ytfbnkbdolimojaa
open Go.RowKit
set_option linter.unusedVariables false

theorem erase_take {α : Type} (l : List α) (k j : Nat) (h : j < l.length) : (l.take (j + 1)).eraseIdx k = if j = k then (l.take j).eraseIdx k else (l.take j).eraseIdx k ++ [l[j]] := by
  have hl : (l.take j).length = j := by rw [List.length_take]; omega
  rw [List.take_succ_eq_append_getElem h]
  by_cases hk : k < j
  · rw [if_neg (by omega), List.eraseIdx_append_of_lt_length (by omega)]
  · rw [List.eraseIdx_append_of_length_le (by omega), hl, List.eraseIdx_of_length_le (by omega : (l.take j).length ≤ k)]
    by_cases hjk : j = k
    · rw [if_pos hjk]; subst hjk; simp
    · rw [if_neg hjk, List.eraseIdx_of_length_le (by simp; omega)]
theorem map_erase {α β : Type} (f : α → β) (l : List α) (k : Nat) : (l.map f).eraseIdx k = (l.eraseIdx k).map f := by
  rw [List.eraseIdx_eq_take_drop_succ, List.eraseIdx_eq_take_drop_succ, List.map_append, List.map_take, List.map_drop]
theorem rises_erase {fs : List Fl} (h : Rises (asPs fs)) (k : Nat) : Rises (asPs (fs.eraseIdx k)) := by
  unfold Rises asPs at *
  exact h.sublist (List.Sublist.map _ (List.eraseIdx_sublist _ _))

set_option maxHeartbeats 4000000 in
set_option maxRecDepth 100000 in
theorem rddrop_calls (N : Nat) (w : World) (p : Nat) (d : Dk) (row FA KA : Value) (zs : List (Fl × Value)) (h : RdAt N w p d row FA KA zs) (k : Nat) (hN : N ≤ w.heap.size) (hl : d.fs.length ≤ 1000000) :
    Calls Try.prog 106 #[.pointer (some ⟨p, 0, none⟩), .int .i64 k] w fun e w' => e = .returned (.tuple #[]) ∧
      ∃ row', RdAt N w' p { d with fs := d.fs.eraseIdx k } row' FA KA (zs.eraseIdx k) ∧ Mod (fun k => k = p) w w' ∧ (∀ g, row'.ownBlock = some g → w.heap.size ≤ g) := by
  have hln := h.len
  obtain ⟨A, c, hrow, hrd⟩ := h.fil.own.nilD0
  have hub := Try.underlying36
  have y5 : ∀ wr, Mod NoneB w wr → wr.cell? ⟨p, 5, none⟩ = some (.slice A zs.length c) := fun wr hm => by rw [← hrow]; exact (h.mod hm (fun _ _ h => h) (fun _ h => h.elim)).cellAt 5
  have hpw : ∀ wr, Mod NoneB w wr → wr.heap[p]? = some (.cells (dkCells d row FA KA) 38 (0, 0)) := fun wr hm => hm.blk h.blk (fun h => h)
  have hsl : ∀ z ∈ zs, ∃ A c, z.2 = .slice A z.1.b.length c := fun z hz => by
    obtain ⟨A, c, h1, _⟩ := (h.fil.ent z hz).1.nilD0
    exact ⟨A, c, h1⟩
  have Y5 := Lib.hid y5
  have H := Lib.hid h
  have HSL := Lib.hid hsl
  have HPW := Lib.hid hpw
  obtain ⟨n, hn⟩ : ∃ n, n = zs.length := ⟨_, rfl⟩
  rw [← hn] at Y5 hrd hln
  have HN := Lib.hid hn
  clear h y5 hrow hsl hpw hn
  go_enter Try.func106, Try.ntmps106
  go_wp2_with fail
  go_loopw [4, 5] (fun v i wr => ∃ j : Nat, i = .int .i64 j ∧ j ≤ n ∧ Own wr 139 3 v ((zs.take j).eraseIdx k).length (encFs ((zs.take j).eraseIdx k)) ∧ (∀ g, v.ownBlock = some g → w.heap.size ≤ g) ∧ Mod NoneB w wr) (fun _ i _ => n - (intOf i).toNat)
  case atStart => exact ⟨0, rfl, by omega, by simp only [List.take_zero, List.eraseIdx_nil]; exact Own.nil _ _ _, (fun g h => (by cases h)), Mod.refl _ _⟩
  case round =>
    obtain ⟨j, rfl, hj, ho, hnv, hm⟩ := hrel
    have y5 := Y5.out wr hm
    by_cases hlt : j < n
    · have hjz : j < zs.length := by rw [← HN.out]; exact hlt
      have het := erase_take zs k j hjz
      have hel : ((zs.take j).eraseIdx k).length ≤ n := by
        have := List.length_eraseIdx_le (zs.take j) k
        rw [List.length_take] at this
        omega
      obtain ⟨t, ht⟩ : ∃ t, t = (zs.take j).eraseIdx k := ⟨_, rfl⟩
      rw [← ht] at ho het hel
      have g0 : (0 : Int) ≤ (j : Int) := by omega
      have g1 : (j : Int) < (n : Int) := by omega
      have e8 : IntKind.i64.wrap ((j : Int) + 1) = j + 1 := IntWalk.i64_in _ (by omega)
      by_cases hjk : j = k
      · rw [if_pos hjk] at het
        rw [← het] at ho
        have HO := Lib.hid ho
        have b1 : ((j : Int) != (k : Int)) = false := by simp [bne]; omega
        clear ht het ho
        go_wp2_with fail
        go_roundw
        case rel => exact ⟨j + 1, by go_num, by omega, HO.out, hnv, hm⟩
        case measure => simp [intOf]; omega
      · rw [if_neg hjk] at het
        obtain ⟨Av, cv, hyv⟩ := HSL.out zs[j] (List.getElem_mem _)
        obtain ⟨ad, rfl, h0, hk⟩ := Rd.elem (f := encFl) (fun _ => rfl) (hrd.mod0 hm) (by decide) j hjz
        have c0 := h0 _ rfl
        have c1 := hk 1 _ (by decide) (by decide) rfl
        have c2 := hk 2 _ (by decide) (by decide) rfl
        obtain ⟨y, hy⟩ : ∃ y, y = zs[j] := ⟨_, rfl⟩
        rw [← hy] at c0 c1 c2 het hyv
        obtain ⟨yf, yv⟩ := y
        simp only at hyv c0 c1 c2
        subst hyv
        have HET := Lib.hid het
        have b1 : ((j : Int) != (k : Int)) = true := by simp [bne]; omega
        have hal : Mod NoneB wr (wr.alloc (.cells #[.string yf.n, .slice Av yf.b.length cv, .int .i64 yf.s] 139)) := (Mod.refl NoneB wr).alloc _
        have hox := ho.mod0 hal
        have hnx : 0 < 1 → ∃ a, (some ⟨wr.heap.size, 0, none⟩ : Option Addr) = some a ∧ ∀ (j : Nat) u, (encFs [(yf, Value.slice Av yf.b.length cv)])[j]? = some u → (wr.alloc (.cells #[.string yf.n, .slice Av yf.b.length cv, .int .i64 yf.s] 139)).cell? (a.add j) = some u := (rdBlk (sz := 3) (n := 1) (heap_alloc_new wr (.cells #[.string yf.n, .slice Av yf.b.length cv, .int .i64 yf.s] 139)) rfl (by omega)).2.2
        have h1f : ∀ u ∈ encFs [(yf, Value.slice Av yf.b.length cv)], u.oneCell' = true := fun u hu => encFl_one yf Av _ cv u (by simpa [encFs] using hu)
        have hsz : (t.length + 1) * 48 ≤ 140737488355328 := by omega
        have HNV := Lib.hid hnv
        clear h0 hk hy het ho ht hnv hjk
        go_wp2_with (at_builtin; refine wpList_append rfl (.tmp 18) (.tmp 26) 36 rfl 139 _ 3 48 hub tiFile rfl (by decide) (by decide) _ t.length (encFs t) rfl hox (some ⟨wr.heap.size, 0, none⟩) 1 1 (encFs [(yf, Value.slice Av yf.b.length cv)]) rfl rfl hnx h1f hsz ?_)
        intro v5 w5 ho5 hm5 hno5
        have hmw := (hm.then0 hal).trans_new hm5 (fun k hk => .inr (HNV.out k hk))
        have hn5 : ∀ g, v5.ownBlock = some g → w.heap.size ≤ g := by
          intro g hg
          rcases hno5 with hq | ⟨b, hq, hb⟩
          · exact HNV.out g (by rw [← hq]; exact hg)
          · rw [hq] at hg
            injection hg with hg
            subst hg
            exact Nat.le_trans (Nat.le_trans hm.size hal.size) hb
        have ho6 : Own w5 139 3 v5 ((zs.take (j + 1)).eraseIdx k).length (encFs ((zs.take (j + 1)).eraseIdx k)) := by
          rw [HET.out, encFs_snoc, List.length_append]
          exact ho5
        obtain ⟨V5, cv5, rfl, _, _, _⟩ := ho5.out
        have HO6 := Lib.hid ho6
        have HN5 := Lib.hid hn5
        clear ho6 hn5 ho5 hox hnx hno5 h1f c0 c1 c2
        go_wp2_with fail
        go_roundw
        case rel => exact ⟨j + 1, by go_num, by omega, HO6.out, HN5.out, hmw⟩
        case measure => simp [intOf]; omega
    · have hje : (zs.take j).eraseIdx k = zs.eraseIdx k := by rw [List.take_of_length_le (by rw [← HN.out]; omega)]
      rw [hje] at ho
      have hpb := HPW.out wr hm
      have fr5 : wr.frozen? ⟨p, 5, none⟩ = false := blk_frozen hpb 5
      have hplt : p < w.heap.size := blk_lt H.out.blk
      obtain ⟨V5, cv5, rfl, _⟩ := ho.nilD0
      have hms : Mod (fun k => k = p) wr (wr.setCell ⟨p, 5, none⟩ (.slice V5 (zs.eraseIdx k).length cv5)) := Mod.setCell (S := fun k => k = p) (Mod.refl _ _) (p := ⟨p, 5, none⟩) (fun _ => rfl) _
      have hmt : Mod (fun k => k = p) w (wr.setCell ⟨p, 5, none⟩ (.slice V5 (zs.eraseIdx k).length cv5)) := (hm.mono (fun _ _ h => h.elim)).trans hms (fun _ _ h => h)
      have hpN : ∀ q, q = p → N ≤ q := fun q hq => by rw [hq]; exact H.out.pos
      have hfin : RdAt N (wr.setCell ⟨p, 5, none⟩ (.slice V5 (zs.eraseIdx k).length cv5)) p { d with fs := d.fs.eraseIdx k } (.slice V5 (zs.eraseIdx k).length cv5) FA KA (zs.eraseIdx k) :=
        ⟨(setCell_blk hpb).trans rfl, ⟨ho.mod hms (fun g hg e => by have := hnv g hg; omega), (fun g hg => Nat.le_trans hN (hnv g hg)), fun z hz => by
          have hz' := (List.eraseIdx_sublist zs k).subset hz
          have he := H.out.fil.ent z hz'
          exact ⟨he.1.mod hmt (fun g hg => H.out.bytNe hz' hg), he.2⟩⟩, by show d.fs.eraseIdx k = _; rw [H.out.fs, map_erase], H.out.fail.mod hmt hpN, H.out.keep.mod hmt hpN, rises_erase H.out.rises k,
          fun f hf => H.out.sync f ((List.eraseIdx_sublist d.fs k).subset hf), H.out.pos⟩
      have HF := Lib.hid hfin
      have HNV := Lib.hid hnv
      clear hje hfin ho hms hnv hpb hpN
      go_wp2_with fail
      go_end0
      exact ⟨rfl, _, HF.out, hmt, HNV.out⟩

/-- A call whose answer is what is told, if no crash stands. -/
def toldD (d : Dk) (e : Nat) : Nat := if d.dn then 7 else e
theorem gateD_no {d : Dk} {op : Dk → Ans} (h : (gateR d).2.1 = false) : gateD d op = ((gateR d).1, (gateR d).2.2) := by rw [gateD_R, h]; rfl
theorem gateD_yes {d : Dk} {op : Dk → Ans} (h : (gateR d).2.1 = true) : gateD d op = ((op (gateR d).1).1, toldD (gateR d).1 (op (gateR d).1).2) := by rw [gateD_R, h]; rfl
theorem rtold2_calls (N : Nat) (w : World) (p : Nat) (d : Dk) (row FA KA : Value) (zs : List (Fl × Value)) (h : RdAt N w p d row FA KA zs) (n : Nat) (z : Int) (hz : z = n) :
    Calls Try.prog 100 #[.pointer (some ⟨p, 0, none⟩), .int .i64 z] w fun e w' => e = .returned (.int .i64 (toldD d n : Nat)) ∧ w' = w := by
  subst hz
  refine (rtold_calls N w p d row FA KA zs h n).mono ?_
  rintro e w' ⟨rfl, hw⟩
  refine ⟨?_, hw⟩
  unfold toldD
  split <;> rfl
theorem gateR_c (d : Dk) : (gateR d).1.c ≤ d.c + 1 := by
  unfold gateR
  split
  · simp
  · split
    · simp
    · split <;> simp
/-- From a row to a step. -/
theorem RdAt.step {N : Nat} {w w' : World} {p : Nat} {d d' : Dk} {row FA KA row' : Value} {zs zs' : List (Fl × Value)} {S : Nat → Prop} (h : RdAt N w p d row FA KA zs) (hS : ∀ k, S k ↔ FootR p row zs k)
    (hm : Mod (fun k => k = p ∨ row.ownBlock = some k) w w') (h' : RdAt N w' p d' row' FA KA zs') (hn : NewOr w row row') (hz : ∀ z ∈ zs', z ∈ zs ∨ ∀ g, z.2.ownBlock = some g → w.heap.size ≤ g) : RStep N w S p d' w' := by
  refine ⟨FootR p row' zs', ⟨row', FA, KA, zs', h', fun _ => Iff.rfl⟩, hm.mono (fun k _ hk => (hS k).2 (hk.elim .inl (fun h => .inr (.inl h)))), fun k hk => ?_⟩
  rcases hk with rfl | hk | ⟨z, hz1, hk⟩
  · exact .inl ((hS _).2 (.inl rfl))
  · rcases hn with hq | ⟨b, hq, hb⟩
    · exact .inl ((hS _).2 (.inr (.inl (by rw [← hq]; exact hk))))
    · rw [hk] at hq; injection hq with hq; exact .inr (by omega)
  · rcases hz z hz1 with h1 | h1
    · exact .inl ((hS _).2 (.inr (.inr ⟨z, h1, hk⟩)))
    · exact .inr (h1 k hk)
end Go.Proofs.Ytfbnkbdolimojaa

/- The reference's disk: Create, Remove, Read. -/
namespace Go.Proofs.Ytfbnkbdolimojaa
open Go.RowKit
set_option linter.unusedVariables false

theorem plF_hit {fs : List Fl} {n : ByteArray} (h : hitF fs n = true) : plF fs n = lbF fs n := by unfold plF; rw [if_pos h]
theorem plF_miss {fs : List Fl} {n : ByteArray} (h : hitF fs n = false) : plF fs n = -1 := by unfold plF; rw [if_neg (by simp [h])]
theorem RdAt.step0 {N : Nat} {w w' : World} {p : Nat} {d d' : Dk} {row FA KA : Value} {zs : List (Fl × Value)} {S : Nat → Prop} (h : RdAt N w p d row FA KA zs) (hS : ∀ k, S k ↔ FootR p row zs k)
    (hm : Mod (fun k => k = p) w w') (h' : RdAt N w' p d' row FA KA zs) : RStep N w S p d' w' :=
  h.step hS (hm.mono (fun _ _ h => .inl h)) h' (.inl rfl) (fun z hz => .inl hz)
/-- The same where the row lies in a new block, or has none. -/
theorem stepNew {N : Nat} {w w' : World} {p : Nat} {d d' : Dk} {row FA KA row' : Value} {zs zs' : List (Fl × Value)} {S : Nat → Prop} (h : RdAt N w p d row FA KA zs) (hS : ∀ k, S k ↔ FootR p row zs k)
    (hm : Mod (fun k => k = p) w w') (h' : RdAt N w' p d' row' FA KA zs') (hn : ∀ g, row'.ownBlock = some g → w.heap.size ≤ g) (hz : ∀ z ∈ zs', z ∈ zs ∨ ∀ g, z.2.ownBlock = some g → w.heap.size ≤ g) : RStep N w S p d' w' := by
  refine ⟨FootR p row' zs', ⟨row', FA, KA, zs', h', fun _ => Iff.rfl⟩, hm.mono (fun k _ hk => (hS k).2 (.inl hk)), fun k hk => ?_⟩
  rcases hk with rfl | hk | ⟨z, hz1, hk⟩
  · exact .inl ((hS _).2 (.inl rfl))
  · exact .inr (hn k hk)
  · rcases hz z hz1 with h1 | h1
    · exact .inl ((hS _).2 (.inr (.inr ⟨z, h1, hk⟩)))
    · exact .inr (h1 k hk)
structure RoomR (N : Nat) (w : World) (d : Dk) : Prop where
  c : d.c < 4611686018427387904
  l : d.fs.length ≤ 1000000
  n : N ≤ w.heap.size

set_option maxHeartbeats 2000000 in
set_option maxRecDepth 100000 in
theorem rcreate_calls (N : Nat) (w : World) (p : Nat) (d : Dk) (S : Nat → Prop) (n : ByteArray) (h : IsR N w p d S) (hr : RoomR N w d) :
    Calls Try.prog 54 #[.pointer (some ⟨p, 0, none⟩), .string n] w fun e w' => e = .returned (.int .i64 ((createD d n).2 : Nat)) ∧ RStep N w S p (createD d n).1 w' := by
  obtain ⟨row, FA, KA, zs, h, hS⟩ := h
  have hg := rgate_calls N w p d row FA KA zs h hr.c
  have hfs := (gateR_fs d).1
  have hno := fun hk => gateD_no (d := d) (op := createF n) hk
  have hyes := fun hk => gateD_yes (d := d) (op := createF n) hk
  obtain ⟨G, hG⟩ : ∃ G, G = gateR d := ⟨_, rfl⟩
  rw [← hG] at hg hfs hno hyes
  obtain ⟨d1, ok, ge⟩ := G
  simp only at hg hfs hno hyes
  have H := Lib.hid h
  have HS := Lib.hid hS
  have HG := Lib.hid hg
  have HNO := Lib.hid hno
  have HYES := Lib.hid hyes
  have hrl := hr.l
  have hrn := hr.n
  clear h hS hg hno hyes hG hr
  go_enter Try.func54, Try.ntmps54
  go_wp2_with fail
  refine HG.out.mono ?_
  rintro e w1 ⟨rfl, h1, hm1⟩
  cases ok with
  | false =>
    go_wp2_with fail
    go_ret
    show _ ∧ RStep N w S p (gateD d (createF n)).1 _
    unfold createD
    rw [HNO.out trivial]
    exact ⟨rfl, H.out.step0 HS.out hm1 h1⟩
  | true =>
    have hy := HYES.out rfl
    by_cases hn : n = ⟨#[]⟩
    · have hc : createF n d1 = (d1, 1) := by unfold createF; rw [if_pos hn]
      rw [hc] at hy
      have HY := Lib.hid hy
      subst hn
      clear hc hy
      go_wp2_with fail
      refine (rtold2_calls N w1 p d1 row FA KA zs h1 1 _ rfl).mono ?_
      rintro e wz ⟨rfl, hwz⟩
      subst hwz
      go_wp2_with fail
      go_ret
      unfold createD
      rw [HY.out]
      exact ⟨rfl, H.out.step0 HS.out hm1 h1⟩
    · have b1 : (n.toList == []) = false := by
        have h2 := beq_toList n ⟨#[]⟩
        rw [decide_eq_false hn] at h2
        rw [← h2]
        simp [ba_toList]
      cases hh : hitF d1.fs n with
      | true =>
        have hc : createF n d1 = (d1, 4) := by unfold createF; rw [if_neg hn, if_pos hh]
        rw [hc] at hy
        have HY := Lib.hid hy
        have hp := plF_hit hh
        have e1 : (0 : Int) ≤ (lbF d1.fs n : Int) := by omega
        clear hc hy hn hh
        go_wp2_with fail
        refine (rat_calls N w1 p d1 row FA KA zs h1 n (by rw [hfs]; omega)).mono ?_
        rintro e wz ⟨rfl, hwz⟩
        subst hwz
        rw [hp]
        clear hp
        go_wp2_with fail
        refine (rtold2_calls N wz p d1 row FA KA zs h1 4 _ rfl).mono ?_
        rintro e wy ⟨rfl, hwy⟩
        subst hwy
        go_wp2_with fail
        go_ret
        unfold createD
        rw [HY.out]
        exact ⟨rfl, H.out.step0 HS.out hm1 h1⟩
      | false =>
        have hc : createF n d1 = ({ d1 with fs := putF d1.fs ⟨n, [], 0⟩ }, 0) := by unfold createF; rw [if_neg hn, if_neg (by simp [hh])]
        rw [hc] at hy
        have HY := Lib.hid hy
        have hp := plF_miss hh
        have HH := Lib.hid hh
        clear hc hy hn hh
        go_wp2_with fail
        refine (rat_calls N w1 p d1 row FA KA zs h1 n (by rw [hfs]; omega)).mono ?_
        rintro e wz ⟨rfl, hwz⟩
        subst hwz
        rw [hp]
        clear hp
        go_wp2_with fail
        refine (rdput_calls N wz p d1 row FA KA zs h1 ⟨n, [], 0⟩ (.slice none 0 0) (Nat.le_trans hrn hm1.size) ⟨Own.nil _ _ _, rfl, fun g h => by cases h⟩ (Nat.le_refl _) HH.out (by rw [hfs]; exact hrl)).mono ?_
        rintro e w2 ⟨rfl, row', h2, hm2, hn2⟩
        go_wp2_with fail
        refine (rtold2_calls N w2 p _ row' FA KA _ h2 0 _ rfl).mono ?_
        rintro e wy ⟨rfl, hwy⟩
        subst hwy
        go_wp2_with fail
        go_ret
        unfold createD
        rw [HY.out]
        refine ⟨rfl, H.out.step HS.out ((hm1.mono (fun _ _ h => .inl h)).trans hm2 (fun _ _ h => h)) h2 (hn2.back hm1.size) (fun z hz => ?_)⟩
        rcases mem_insZ hz with rfl | hz
        · exact .inr (fun g h => by cases h)
        · exact .inl hz

set_option maxHeartbeats 2000000 in
set_option maxRecDepth 100000 in
theorem rremove_calls (N : Nat) (w : World) (p : Nat) (d : Dk) (S : Nat → Prop) (n : ByteArray) (h : IsR N w p d S) (hr : RoomR N w d) :
    Calls Try.prog 62 #[.pointer (some ⟨p, 0, none⟩), .string n] w fun e w' => e = .returned (.int .i64 ((removeD d n).2 : Nat)) ∧ RStep N w S p (removeD d n).1 w' := by
  obtain ⟨row, FA, KA, zs, h, hS⟩ := h
  have hg := rgate_calls N w p d row FA KA zs h hr.c
  have hfs := (gateR_fs d).1
  have hno := fun hk => gateD_no (d := d) (op := fun d => hitAns d n removeF) hk
  have hyes := fun hk => gateD_yes (d := d) (op := fun d => hitAns d n removeF) hk
  obtain ⟨G, hG⟩ : ∃ G, G = gateR d := ⟨_, rfl⟩
  rw [← hG] at hg hfs hno hyes
  obtain ⟨d1, ok, ge⟩ := G
  simp only at hg hfs hno hyes
  have H := Lib.hid h
  have HS := Lib.hid hS
  have HG := Lib.hid hg
  have HNO := Lib.hid hno
  have HYES := Lib.hid hyes
  have hrl := hr.l
  have hrn := hr.n
  clear h hS hg hno hyes hG hr
  go_enter Try.func62, Try.ntmps62
  go_wp2_with fail
  refine HG.out.mono ?_
  rintro e w1 ⟨rfl, h1, hm1⟩
  cases ok with
  | false =>
    go_wp2_with fail
    go_ret
    unfold removeD withD
    rw [HNO.out trivial]
    exact ⟨rfl, H.out.step0 HS.out hm1 h1⟩
  | true =>
    have hy := HYES.out rfl
    cases hh : hitF d1.fs n with
    | false =>
      rw [hitAns_false _ hh] at hy
      have HY := Lib.hid hy
      have hp := plF_miss hh
      clear hy hh
      go_wp2_with fail
      refine (rat_calls N w1 p d1 row FA KA zs h1 n (by rw [hfs]; omega)).mono ?_
      rintro e wz ⟨rfl, hwz⟩
      subst hwz
      rw [hp]
      clear hp
      go_wp2_with fail
      refine (rtold2_calls N wz p d1 row FA KA zs h1 3 _ rfl).mono ?_
      rintro e wy ⟨rfl, hwy⟩
      subst hwy
      go_wp2_with fail
      go_ret
      unfold removeD withD
      rw [HY.out]
      exact ⟨rfl, H.out.step0 HS.out hm1 h1⟩
    | true =>
      rw [hitAns_true _ hh] at hy
      have HY := Lib.hid hy
      have hp := plF_hit hh
      obtain ⟨i, hi⟩ : ∃ i, i = lbF d1.fs n := ⟨_, rfl⟩
      rw [← hi] at hp
      rw [← hi] at HY
      have e1 : ¬ ((i : Int) < 0) := by omega
      clear hy hh hi
      go_wp2_with fail
      refine (rat_calls N w1 p d1 row FA KA zs h1 n (by rw [hfs]; omega)).mono ?_
      rintro e wz ⟨rfl, hwz⟩
      subst hwz
      rw [hp]
      clear hp
      go_wp2_with fail
      refine (rddrop_calls N wz p d1 row FA KA zs h1 i (Nat.le_trans hrn hm1.size) (by rw [hfs]; exact hrl)).mono ?_
      rintro e w2 ⟨rfl, row', h2, hm2, hn2⟩
      go_wp2_with fail
      refine (rtold2_calls N w2 p _ row' FA KA _ h2 0 _ rfl).mono ?_
      rintro e wy ⟨rfl, hwy⟩
      subst hwy
      go_wp2_with fail
      go_ret
      unfold removeD withD
      rw [HY.out]
      refine ⟨rfl, ?_⟩
      exact stepNew H.out HS.out (hm1.trans hm2 (fun _ _ h => h)) h2 (fun g hg => Nat.le_trans hm1.size (hn2 g hg)) (fun z hz => .inl ((List.eraseIdx_sublist _ _).subset hz))
end Go.Proofs.Ytfbnkbdolimojaa
