/- A disk's Append. -/
import Derived.Test.YtnoleekdldmagaaDkOps1
import Derived.Deep.RegionLaw
import Derived.BigRegion
namespace Go.Proofs.Ytnoleekdldmagaa
open Go.RowKit
set_option linter.unusedVariables false

theorem DkAt.fileAt {w : World} {p : Nat} {d : Dk} {row FA KA : Value} {es : List Ent} (h : DkAt w p d row es FA KA) {i : Nat} (hi : i < es.length) : fileAt d i = es[i].f := by
  rw [fileAt_get (by rw [h.len]; exact hi)]
  simp only [h.fs, List.getElem_map]

theorem EntOk.fileBlk {w w5 : World} {e : Ent} (h : EntOk w e) (hm : Mod (OnlyBlk e.v) w w5) : w5.heap[e.g]? = some (.cells #[.string e.f.n, e.v, .int .i64 e.f.s] 120 (0, 0)) := by
  refine hm.blk h.blk (fun hk => ?_)
  obtain ⟨c', hc'⟩ := h.own.tag hk
  exact tag_ne h.blk hc' (by decide) rfl
/-- A file gets other bytes, in its row or in a new one. -/
theorem EntOk.bytes {w w5 : World} {e : Ent} (h : EntOk w e) (hm : Mod (OnlyBlk e.v) w w5) {v5 : Value} {b' : List UInt8} (ho : Own w5 5 1 v5 b'.length (encB b')) :
    EntOk (w5.setCell ⟨e.g, 1, none⟩ v5) ⟨e.g, v5, { e.f with b := b' }⟩ ∧ Mod (EntB e) w (w5.setCell ⟨e.g, 1, none⟩ v5) := by
  have hb := h.fileBlk hm
  refine ⟨⟨(setCell_blk hb).trans rfl, ?_⟩, ?_⟩
  · refine ho.mod (Mod.setCell (S := fun k => k = e.g) (Mod.refl _ _) (p := ⟨e.g, 1, none⟩) (fun _ => rfl) _) (fun g hg hge => ?_)
    obtain ⟨c', hc'⟩ := ho.tag hg
    exact tag_ne hb hc' (by decide) hge.symm
  · exact (hm.mono (fun _ _ hk => .inr hk)).setCell (p := ⟨e.g, 1, none⟩) (fun _ => .inl rfl) _
theorem NewOr.back {w w1 : World} {v v' : Value} (h : NewOr w1 v v') (hm : w.heap.size ≤ w1.heap.size) : NewOr w v v' := by
  rcases h with h | ⟨b, h, hb⟩
  · exact .inl h
  · exact .inr ⟨b, h, Nat.le_trans hm hb⟩

/-- append to a row that is owned, as one step of a region that draws its order. -/
theorem step_append {P : Program} {w : World} {ops : Array Oper} {o : Oper} {a : Act} {K : Act → World → Prop} {Q : Exit → Act → World → Prop} {E : Prop} (hg : o.guard = none) (s x : Operand) (t : TypeId)
    (ho : o.op = .call { callee := .builtin .append, args := #[s, x], argTypes := #[t, t] })
    (e : TypeId) (z : Value) (size bytes : Nat) (ht : P.underlying t = some (.slice e)) (hti : TI P e z size bytes) (hzs : z.cells.size = size) (hsz : 0 < size) (hb0 : 0 < bytes)
    (v : Value) (n : Nat) (xs : List Value) (hs : a.eval s = v) (hown : Own w e size v n xs)
    (A : Option Addr) (m c : Nat) (news : List Value) (hx : a.eval x = .slice A m c) (hl : news.length = m * size) (hnews : 0 < m → ∃ a, A = some a ∧ ∀ j u, news[j]? = some u → w.cell? (a.add j) = some u) (h1 : ∀ u ∈ news, u.oneCell' = true)
    (hbytes : (n + m) * bytes ≤ 140737488355328)
    (h : ∀ v' w', Own w' e size v' (n + m) (xs ++ news) → Mod (OnlyBlk v) w w' → NewOr w v v' → K (a.put o.dst v') w') :
    if Region.wanted o (yielded ops a.tmps) = true then Oper.wp P o a w K Q else E := by
  have hw : Region.wanted o (yielded ops a.tmps) = true := by simp [Region.wanted, hg]
  rw [if_pos hw]
  obtain ⟨v', w', hr, h2, h3, h4⟩ := run_append_gen (P := P) t o.type e z size bytes ht hti hzs hsz v n xs hown A m c news hl hnews h1 hbytes hb0
  unfold Oper.wp execOp
  simp only [ho, resolve, invoke, builtin, Sem.run_bind, Sem.run_pure, Result.andThen_ok, List.map_toArray, List.map_cons, List.map_nil, hs, hx, hr]
  exact h v' w' h2 h3 h4

set_option maxHeartbeats 2000000 in
set_option maxRecDepth 100000 in
theorem appendC_calls (w : World) (p : Nat) (d : Dk) (row FA KA : Value) (es : List Ent) (S : Nat → Prop) (b : List UInt8) (B : Option Addr) (bc i q0 q1 : Nat)
    (hd : DkAt w p d row es FA KA) (hS : ∀ k, S k ↔ Foot p row es FA KA k) (hi : i < es.length) (x0 : w.cell? ⟨q0, 0, none⟩ = some (.pointer (some ⟨p, 0, none⟩))) (x1 : w.cell? ⟨q1, 0, none⟩ = some (.slice B b.length bc))
    (hb : Rd w 1 B b.length (encB b)) (hsz : usedF d.fs + b.length ≤ 70368744177664) :
    Calls Try.prog 80 #[.int .i64 i, .pointer (some ⟨es[i].g, 0, none⟩), .pointer (some ⟨q0, 0, none⟩), .pointer (some ⟨q1, 0, none⟩)] w fun e w' =>
      e = .returned (.int .i64 (appendF b d i).2) ∧ DStep w S p (appendF b d i).1 w' := by
  have hcap : w.cell? ⟨p, 0, none⟩ = some (.int .i64 d.p.cap) := hd.cellAt 0
  have hus : ∀ n, Calls Try.prog 81 #[.pointer (some ⟨p, 0, none⟩)] (w.drewN n) fun e w' => e = .returned (.int .i64 (usedF d.fs)) ∧ w' = w.drewN n :=
    fun n => used_calls _ p d row FA KA es (hd.mod (w1 := w.drewN n) ((Mod.refl NoneB w).drewN n) (fun _ _ h => h)) (by omega)
  have hok := hd.ent es[i] (List.getElem_mem _)
  have hfl : (fileAt d i).b.length ≤ usedF d.fs := by rw [fileAt_get (by rw [hd.len]; exact hi)]; exact usedF_get _ _ _
  have hfe := hd.fileAt hi
  obtain ⟨e, he⟩ : ∃ e, e = es[i] := ⟨_, rfl⟩
  rw [← he] at hok hfe ⊢
  rw [hfe] at hfl
  obtain ⟨u, hu⟩ : ∃ u, u = usedF d.fs := ⟨_, rfl⟩
  rw [← hu] at hus hsz hfl
  have HE := Lib.hid he
  have HU := Lib.hid hu
  have HFE := Lib.hid hfe
  have HD := Lib.hid hd
  have HS := Lib.hid hS
  have e1 : IntKind.i64.wrap ((u : Int) + (b.length : Int)) = u + b.length := IntWalk.i64_in _ (by omega)
  clear he hu hfe hd hS
  by_cases hfull : d.p.cap < (u : Int) + b.length
  · have ha : appendF b d i = (d, 5) := by
      unfold appendF
      rw [if_pos (by rw [← HU.out]; exact hfull)]
    have HA := Lib.hid ha
    have b1 : decide (d.p.cap < (u : Int) + b.length) = true := by simpa using hfull
    clear ha
    go_enter Try.func80, Try.ntmps80
    go_wp2_with fail
    go_quiet ((go_at_call 81; exact Calls.quiet_of_same (hus _)))
    clear e1
    go_wp2_with fail
    go_ret
    refine ⟨by rw [HA.out]; rfl, S, ?_⟩
    rw [HA.out]
    exact ⟨⟨row, es, FA, KA, HD.out.mod ((Mod.refl NoneB w).drewN nq) (fun _ _ h => h), HS.out⟩, (Mod.refl S w).drewN nq, fun k hk => .inl hk⟩
  · have ha : appendF b d i = ({ d with fs := d.fs.set i { fileAt d i with b := (fileAt d i).b ++ b } }, 0) := by
      unfold appendF
      rw [if_neg (by rw [← HU.out]; exact hfull)]
    have HA := Lib.hid ha
    have b1 : decide (d.p.cap < (u : Int) + b.length) = false := by simpa using hfull
    clear ha
    go_enter Try.func80, Try.ntmps80
    go_wp2_with fail
    go_quiet ((go_at_call 81; exact Calls.quiet_of_same (hus _)))
    clear e1 hus
    have hokq : EntOk (w.drewN nq) e := hok.mod ((Mod.refl NoneB w).drewN nq) (fun _ _ h => h)
    have hbq : Rd (w.drewN nq) 1 B b.length (encB b) := hb.mod0 ((Mod.refl NoneB w).drewN nq)
    have hmq : Mod NoneB w (w.drewN nq) := (Mod.refl NoneB w).drewN nq
    have x1q : (w.drewN nq).cell? ⟨q1, 0, none⟩ = some (.slice B b.length bc) := hmq.cell0 x1
    generalize w.drewN nq = w1 at hokq hbq hmq x1q ⊢
    clear x0 x1 hcap hok hb
    obtain ⟨V, vc, hv, _, _, hrv⟩ := hokq.own.out
    have y1 : w1.cell? ⟨e.g, 1, none⟩ = some (.slice V e.f.b.length vc) := by rw [blk_cell hokq.blk, hv]; rfl
    have hown := hokq.own
    rw [hv] at hown
    have HV := Lib.hid hv
    have HOK := Lib.hid hokq
    clear hv hokq
    go_wp2_with fail
    have hu5 := Try.underlying35
    have hg1 : ∀ w5 : World, Mod (OnlyBlk (.slice V e.f.b.length vc)) w1.drew w5 → w5.heap[e.g]? = some (.cells #[.string e.f.n, e.v, .int .i64 e.f.s] 120 (0, 0)) := by
      intro w5 hm
      refine hm.blk (w := w1.drew) HOK.out.blk (fun h => ?_)
      obtain ⟨c', hc'⟩ := HOK.out.own.tag (by rw [HV.out]; exact h)
      exact tag_ne HOK.out.blk hc' (by decide) rfl
    have HG1 := Lib.hid hg1
    clear hg1
    go_region_law (refine step_append rfl (.tmp 22) (.tmp 23) 35 rfl 5 _ 1 1 hu5 tiB rfl (by decide) (by decide) _ e.f.b.length (encB e.f.b) (by simp [Act.eval]) hown B b.length bc (encB b) (by simp [Act.eval]) (encB_length1 b) hbq.2.2 (encB_one b) (by omega) ?_; intro v5 w5 ho5 hm5 hno5; obtain ⟨V5, c5, rfl, _, _, _⟩ := ho5.out; have y5 : w5.cell? ⟨e.g, 1, none⟩ = some e.v := (blk_cell (HG1.out w5 hm5) 1); have fr5 : w5.frozen? ⟨e.g, 1, none⟩ = false := blk_frozen (HG1.out w5 hm5) 1)
    all_goals
      have hl5 : (e.f.b ++ b).length = e.f.b.length + b.length := List.length_append
      rw [← encB_append, ← hl5] at ho5
      have hmd : Mod (OnlyBlk e.v) w1 w5 := by rw [HV.out]; exact ((Mod.refl _ w1).drew).trans hm5 (fun _ _ h => h)
      obtain ⟨hok6, hm6⟩ := HOK.out.bytes hmd ho5
      rw [hl5] at hok6 hm6
      have HK6 := Lib.hid hok6
      have hnb : NewOr w e.v (.slice V5 (e.f.b.length + b.length) c5) := by rw [HV.out]; exact hno5.back hmq.size
      have HNB := Lib.hid hnb
      clear hok6 hmd hl5 hnb ho5
      go_wp2_with fail
      go_ret
      refine ⟨by rw [HA.out]; rfl, ?_⟩
      rw [HA.out, HFE.out]
      refine HD.out.toEnt HS.out hi (e' := ⟨e.g, _, { e.f with b := e.f.b ++ b }⟩) (by rw [HE.out]) HK6.out ((hmq.mono (fun _ _ h => h.elim)).trans hm6 (fun _ _ h => by rw [HE.out] at h; exact h)) (by rw [← HE.out]; exact HNB.out) (by rw [← HE.out]) ?_ rfl
      have hsy := HD.out.sync (fileAt d i) (by rw [fileAt_get (by rw [HD.out.len]; exact hi)]; exact List.getElem_mem _)
      rw [HFE.out] at hsy
      simp only [List.length_append]
      omega
end Go.Proofs.Ytnoleekdldmagaa
