/- An index: New, Put, Get, Del, Len. -/
import Derived.Test.YtfbnkbdolimojaaIxA
import Derived.Test.YtfbnkbdolimojaaTable
import Derived.Test.YtfbnkbdolimojaaDkOps
import Derived.Laws.MakeOwn
namespace Go.Proofs.Ytfbnkbdolimojaa
open Go.RowKit
set_option linter.unusedVariables false

theorem IxAt.upd {w w' : World} {p g : Nat} {x : Ix} {vs : List Value} {S : Nat → Prop} (h : IxAt w p g x vs) (hS : ∀ k, S k ↔ FootX p g vs k) {i : Nat} (hi : i < vs.length) (v' : Value) (l' : List Pr) (n' : Nat)
    (hm : Mod (fun k => k = p ∨ k = g ∨ vs[i].ownBlock = some k) w w')
    (hb : w'.heap[p]? = some (.cells #[.slice (some ⟨g, 0, none⟩) x.bs.length x.bs.length, .int .i64 n'] 122 (0, 0)))
    (hr : w'.heap[g]? = some (.cells (vs.set i v').toArray 127 (0, 0)))
    (ho : Own w' 102 2 v' l'.length (encPs l')) (hn : NewOr w vs[i] v') : XStep w S p ⟨x.bs.set i l', n'⟩ w' := by
  have hib : i < x.bs.length := by rw [← h.len]; exact hi
  have hap : ∀ j, ∀ hj : j < vs.length, j ≠ i → ∀ k, vs[j].ownBlock = some k → v'.ownBlock ≠ some k := by
    intro j hj hji k hk hv
    rcases hn with hq | ⟨b, hq, hbs⟩
    · rw [hv] at hq
      exact h.ap j i hj hi hji k hk hq.symm
    · rw [hv] at hq
      injection hq with hq
      have := (h.own j hj).lt hk
      omega
  refine ⟨FootX p g (vs.set i v'), ⟨g, vs.set i v', ⟨?_, hr, ?_, ?_, ?_⟩, fun k => Iff.rfl⟩, ?_, ?_⟩
  · simp only [List.length_set]; exact hb
  · simp only [List.length_set]; exact h.len
  · intro j hj
    rw [List.length_set] at hj
    rw [List.getElem_set]
    by_cases hij : i = j
    · subst hij
      rw [if_pos rfl]
      have e : (x.bs.set i l').getD i [] = l' := by rw [List.getD_eq_getElem?_getD, List.getElem?_set_self hib]; rfl
      simp only [e]
      exact ho
    · rw [if_neg hij]
      have e : (x.bs.set i l').getD j [] = x.bs.getD j [] := by rw [List.getD_eq_getElem?_getD, List.getD_eq_getElem?_getD, List.getElem?_set_ne hij]
      simp only [e]
      refine (h.own j hj).mod hm (fun k hk hq => ?_)
      rcases hq with hq | hq | hq
      · exact h.ne_p hj hk hq
      · exact h.ne_g hj hk hq
      · exact h.ap j i hj hi (fun e => hij e.symm) k hk hq
  · intro a b ha hb hab k hk
    rw [List.length_set] at ha hb
    rw [List.getElem_set] at hk ⊢
    by_cases hia : i = a
    · rw [if_pos hia] at hk
      rw [if_neg (fun e => hab (hia.symm.trans e))]
      intro hk2
      exact hap b hb (fun e => hab (hia.symm.trans e.symm)) k hk2 hk
    · rw [if_neg hia] at hk
      by_cases hib2 : i = b
      · rw [if_pos hib2]
        exact hap a ha (fun e => hia e.symm) k hk
      · rw [if_neg hib2]
        exact h.ap a b ha hb hab k hk
  · refine hm.mono (fun k _ hk => (hS k).2 ?_)
    rcases hk with rfl | rfl | hk
    · exact .inl rfl
    · exact .inr (.inl rfl)
    · exact .inr (.inr ⟨_, List.getElem_mem _, hk⟩)
  · intro k hk
    rcases hk with rfl | rfl | ⟨v, hv, hk⟩
    · exact .inl ((hS _).2 (.inl rfl))
    · exact .inl ((hS _).2 (.inr (.inl rfl)))
    · rcases List.mem_or_eq_of_mem_set hv with hv | rfl
      · exact .inl ((hS _).2 (.inr (.inr ⟨v, hv, hk⟩)))
      · rcases hn with hq | ⟨b, hq, hbs⟩
        · exact .inl ((hS _).2 (.inr (.inr ⟨_, List.getElem_mem _, by rw [← hq]; exact hk⟩)))
        · rw [hk] at hq
          injection hq with hq
          exact .inr (by omega)
theorem XStep.back {w w1 w' : World} {S : Nat → Prop} {p : Nat} {x' : Ix} (hm : Mod NoneB w w1) (h : XStep w1 S p x' w') : XStep w S p x' w' := by
  obtain ⟨S', h1, h2, h3⟩ := h
  exact ⟨S', h1, (hm.mono (fun _ _ h => h.elim)).trans h2 (fun _ _ h => h), fun k hk => (h3 k hk).imp id (fun h => Nat.le_trans hm.size h)⟩
structure RoomX (x : Ix) : Prop where
  pos : 0 < x.bs.length
  len : x.bs.length ≤ 1024
  n : x.n ≤ 1000000
  l : ∀ l ∈ x.bs, l.length ≤ 1000000
theorem RoomX.at {x : Ix} (h : RoomX x) (key : ByteArray) : (atB x.bs key).length ≤ 1000000 := by rw [atB_get h.pos]; exact h.l _ (List.getElem_mem _)
theorem plc_hit {l : List Pr} {key : ByteArray} {j : Nat} (h : fnd key l = some j) : plc l key = j := by unfold plc; rw [h]
theorem plc_miss {l : List Pr} {key : ByteArray} (h : fnd key l = none) : plc l key = -1 := by unfold plc; rw [h]
theorem plc_cases (l : List Pr) (key : ByteArray) : (∃ j, ∃ h : j < l.length, plc l key = j ∧ l[j].k = key ∧ fnd key l = some j ∧ getT l key = some l[j].v) ∨ (plc l key = -1 ∧ fnd key l = none ∧ getT l key = none) := by
  cases h : fnd key l with
  | none => exact .inr ⟨plc_miss h, rfl, (fnd_miss h).1⟩
  | some j =>
    obtain ⟨h1, h2, h3⟩ := fnd_get h
    exact .inl ⟨j, h1, plc_hit h, h2, rfl, h3⟩

set_option maxHeartbeats 1000000 in
set_option maxRecDepth 100000 in
theorem xput_nil (k v : ByteArray) (w : World) : Calls Try.prog 37 #[.pointer none, .string k, .string v] w fun e w' => e = .returned (.tuple #[]) ∧ w' = w := by
  go_enter Try.func37, Try.ntmps37
  go_wp2_with fail
  refine bodyPost_ret (results_none rfl _ _ _) rfl ?_
  exact ⟨rfl, rfl⟩
set_option maxHeartbeats 1000000 in
set_option maxRecDepth 100000 in
theorem xget_nil (k : ByteArray) (w : World) : Calls Try.prog 38 #[.pointer none, .string k] w fun e w' => e = .returned (.tuple #[.string ⟨#[]⟩, .bool false]) ∧ w' = w := by
  go_enter Try.func38, Try.ntmps38
  go_wp2_with fail
  go_ret2
  exact ⟨rfl, rfl⟩
set_option maxHeartbeats 1000000 in
set_option maxRecDepth 100000 in
theorem xdel_nil (k : ByteArray) (w : World) : Calls Try.prog 39 #[.pointer none, .string k] w fun e w' => e = .returned (.bool false) ∧ w' = w := by
  go_enter Try.func39, Try.ntmps39
  go_wp2_with fail
  go_ret
  exact ⟨rfl, rfl⟩
set_option maxHeartbeats 1000000 in
set_option maxRecDepth 100000 in
theorem xall_nil (w : World) : Calls Try.prog 41 #[.pointer none] w fun e w' => e = .returned (.slice none 0 0) ∧ w' = w := by
  go_enter Try.func41, Try.ntmps41
  go_wp2_with fail
  go_ret
  exact ⟨rfl, rfl⟩
set_option maxHeartbeats 1000000 in
set_option maxRecDepth 100000 in
theorem xlen_nil (w : World) : Calls Try.prog 40 #[.pointer none] w fun e w' => e = .returned (.int .i64 0) ∧ w' = w := by
  go_enter Try.func40, Try.ntmps40
  go_wp2_with fail
  go_ret
  exact ⟨rfl, rfl⟩
set_option maxHeartbeats 1000000 in
set_option maxRecDepth 100000 in
theorem xlen_calls (w : World) (p : Nat) (x : Ix) (S : Nat → Prop) (h : IsX w p x S) : Calls Try.prog 40 #[.pointer (some ⟨p, 0, none⟩)] w fun e w' => e = .returned (.int .i64 x.n) ∧ w' = w := by
  obtain ⟨g, vs, h1, _⟩ := h
  have y1 : w.cell? ⟨p, 1, none⟩ = some (.int .i64 x.n) := blk_cell h1.blk 1
  clear h1
  go_enter Try.func40, Try.ntmps40
  go_wp2_with fail
  go_ret
  exact ⟨rfl, rfl⟩
set_option maxHeartbeats 1000000 in
set_option maxRecDepth 100000 in
theorem xget_calls (w : World) (p : Nat) (x : Ix) (S : Nat → Prop) (key : ByteArray) (h : IsX w p x S) (hr : RoomX x) (hks : key.size ≤ 1000000) :
    Calls Try.prog 38 #[.pointer (some ⟨p, 0, none⟩), .string key] w fun e w' => e = .returned (.tuple #[.string ((getX x key).getD ⟨#[]⟩), .bool (getX x key).isSome]) ∧ Mod NoneB w w' := by
  obtain ⟨g, vs, h1, _⟩ := h
  have hi : bkt x.bs key < vs.length := by rw [h1.len]; exact bkt_lt hr.pos key
  have hcs := plc_cases (atB x.bs key) key
  have hgx : getX x key = getT (atB x.bs key) key := rfl
  have hcell : ∀ w1, Mod NoneB w w1 → ∃ A c, w1.cell? ⟨g, bkt x.bs key, none⟩ = some (.slice A (atB x.bs key).length c) ∧ Rd w1 2 A (atB x.bs key).length (encPs (atB x.bs key)) := by
    intro w1 hm
    have h2 := h1.mod0 hm
    obtain ⟨A, c, hv, hr⟩ := (h2.own _ hi).nilD0
    refine ⟨A, c, ?_, hr⟩
    rw [blk_cell h2.row]
    simp only [List.getElem?_toArray, List.getElem?_eq_getElem hi, hv]
    rfl
  have hat := at_calls w p g x vs key h1 hr.pos hr.len hks
  have hla := hr.at key
  obtain ⟨l, hl⟩ : ∃ l, l = atB x.bs key := ⟨_, rfl⟩
  obtain ⟨b, hb⟩ : ∃ b, b = bkt x.bs key := ⟨_, rfl⟩
  rw [← hl] at hcs hgx hat hla
  rw [← hb] at hat
  simp only [← hl, ← hb] at hcell
  have HGX := Lib.hid hgx
  have HAT := Lib.hid hat
  have HC := Lib.hid hcell
  clear h1 hi hgx hat hcell hl hb hr hks
  go_enter Try.func38, Try.ntmps38
  go_wp2_with fail
  refine HAT.out.mono ?_
  rintro e w1 ⟨rfl, hm1⟩
  rcases hcs with ⟨j, hj, hp, _, _, hg⟩ | ⟨hp, _, hg⟩
  · rw [hp]
    obtain ⟨A, c, hc, hrd⟩ := HC.out w1 hm1
    obtain ⟨ad, rfl, c0, c1⟩ := hrd.pair j hj
    have e1 : (j : Int) < (l.length : Int) := by omega
    have e2 : ¬ ((j : Int) < 0) := by omega
    have HG := Lib.hid hg
    obtain ⟨q, hq⟩ : ∃ q, q = l[j] := ⟨_, rfl⟩
    rw [← hq] at c0 c1 HG
    clear hp hg hq hrd
    go_wp2_with fail
    go_ret2
    rw [HGX.out, HG.out]
    exact ⟨rfl, hm1⟩
  · rw [hp]
    have HG := Lib.hid hg
    clear hp hg
    go_wp2_with fail
    go_ret2
    rw [HGX.out, HG.out]
    exact ⟨rfl, hm1⟩

theorem set_own {vs : List Value} {i : Nat} (h : i < vs.length) : vs.set i vs[i] = vs := List.set_getElem_self h
theorem encPs_put {l : List Pr} {j : Nat} (hj : j < l.length) {key : ByteArray} (hk : l[j].k = key) (v : ByteArray) : (encPs l).set (j * 2 + 1) (.string v) = encPs (l.set j ⟨key, v⟩) := by
  rw [encPs_set l j hj v, hk, List.set_eq_take_append_cons_drop, if_pos hj]

set_option maxHeartbeats 2000000 in
set_option maxRecDepth 100000 in
theorem xput_calls (w : World) (p : Nat) (x : Ix) (S : Nat → Prop) (key val : ByteArray) (h : IsX w p x S) (hr : RoomX x) (hks : key.size ≤ 1000000) :
    Calls Try.prog 37 #[.pointer (some ⟨p, 0, none⟩), .string key, .string val] w fun e w' => e = .returned (.tuple #[]) ∧ XStep w S p (putX x key val) w' := by
  obtain ⟨g, vs, h1, hS⟩ := h
  have hi : bkt x.bs key < vs.length := by rw [h1.len]; exact bkt_lt hr.pos key
  have hcs := plc_cases (atB x.bs key) key
  have hat := at_calls w p g x vs key h1 hr.pos hr.len hks
  have hla := hr.at key
  have hn := hr.n
  have hgd : x.bs.getD (bkt x.bs key) [] = atB x.bs key := rfl
  have hpx : putX x key val = ⟨x.bs.set (bkt x.bs key) (putL (atB x.bs key) key val), if getT (atB x.bs key) key = none then x.n + 1 else x.n⟩ := rfl
  obtain ⟨l, hl⟩ : ∃ l, l = atB x.bs key := ⟨_, rfl⟩
  obtain ⟨b, hb⟩ : ∃ b, b = bkt x.bs key := ⟨_, rfl⟩
  rw [← hl] at hcs hat hla hgd hpx
  rw [← hb] at hat hgd hi hpx
  have HAT := Lib.hid hat
  have H1 := Lib.hid h1
  have HS := Lib.hid hS
  have HI := Lib.hid hi
  have HGD := Lib.hid hgd
  have HPX := Lib.hid hpx
  clear h1 hi hat hl hb hr hks hS hgd hpx
  go_enter Try.func37, Try.ntmps37
  go_wp2_with fail
  refine HAT.out.mono ?_
  rintro e w1 ⟨rfl, hm1⟩
  have h2 := H1.out.mod0 hm1
  have ho := h2.own b HI.out
  rw [HGD.out] at ho
  have hcg : w1.cell? ⟨g, b, none⟩ = some (vs[b]'HI.out) := by
    rw [blk_cell h2.row]
    simp only [List.getElem?_toArray, List.getElem?_eq_getElem HI.out]
  have hfg : w1.frozen? ⟨g, b, none⟩ = false := blk_frozen h2.row b
  have hcn : w1.cell? ⟨p, 1, none⟩ = some (.int .i64 x.n) := blk_cell h2.blk 1
  have hfp : w1.frozen? ⟨p, 1, none⟩ = false := blk_frozen h2.blk 1
  rcases hcs with ⟨j, hj, hp, hk, hf, hg⟩ | ⟨hp, hf, hg⟩
  · rw [hp]
    obtain ⟨gv, c, hv⟩ := ho.addrOf (by omega)
    rw [hv] at ho hcg
    have hc1 := ho.cellAt (j * 2 + 1) (.string l[j].v) (encPs_get l _ hj).2
    have hf1 := ho.frozenAt (j * 2 + 1)
    have e1 : (j : Int) < (l.length : Int) := by omega
    have hstep : XStep w S p (putX x key val) (w1.setCell ⟨gv, j * 2 + 1, none⟩ (.string val)) := by
      have hms : Mod (fun k => k = gv) w1 (w1.setCell ⟨gv, j * 2 + 1, none⟩ (.string val)) := Mod.setCell (S := fun k => k = gv) (Mod.refl _ _) (p := ⟨gv, j * 2 + 1, none⟩) (fun _ => rfl) _
      have hob : (vs[b]'HI.out).ownBlock = some gv := (congrArg Value.ownBlock hv).trans rfl
      have ho2 := ho.set (j * 2 + 1) (.string val)
      rw [encPs_put hj hk] at ho2
      rw [HPX.out, putL_some hf, if_neg (by rw [hg]; simp)]
      refine (h2.upd HS.out HI.out (vs[b]'HI.out) (l.set j ⟨key, val⟩) x.n (hms.mono (fun k _ hk => .inr (.inr (by rw [hk]; exact hob)))) (hms.blk h2.blk (fun e => h2.ne_p HI.out hob e.symm)) ?_ ?_ (.inl rfl)).back hm1
      · rw [set_own]
        exact hms.blk h2.row (fun e => h2.ne_g HI.out hob e.symm)
      · rw [hv, List.length_set]
        exact ho2
    have HST := Lib.hid hstep
    clear hstep hp hk hf hg ho h2 hm1 hcn hfp hfg
    go_wp2_with fail
    refine bodyPost_ret (results_none rfl _ _ _) rfl ?_
    exact ⟨rfl, HST.out⟩
  · rw [hp]
    obtain ⟨A, c, hv, hrl⟩ := ho.nilD0
    have hup := Try.underlying42
    have hal : Mod NoneB w1 (w1.alloc (.cells #[.string key, .string val] 102)) := (Mod.refl NoneB w1).alloc _
    have h3 := h2.mod0 hal
    have hox := ho.mod0 hal
    rw [hv] at hox hcg
    have hnx : 0 < 1 → ∃ a, (some ⟨w1.heap.size, 0, none⟩ : Option Addr) = some a ∧ ∀ (j : Nat) u, (encPs [⟨key, val⟩])[j]? = some u → (w1.alloc (.cells #[.string key, .string val] 102)).cell? (a.add j) = some u := (rdBlk (sz := 2) (n := 1) (heap_alloc_new w1 (.cells #[.string key, .string val] 102)) rfl (by omega)).2.2
    have hl32 : (l.length + 1) * 32 ≤ 140737488355328 := by omega
    have HV := Lib.hid hv
    have HF := Lib.hid hf
    have HG := Lib.hid hg
    have H3 := Lib.hid h3
    clear hp hf hg ho h2 hrl hv h3 hcn hfp hfg
    go_wp2_with (at_builtin; refine wpList_append rfl (.tmp 30) (.tmp 34) 42 rfl 102 _ 2 32 hup tiP rfl (by decide) (by decide) _ l.length (encPs l) rfl hox (some ⟨w1.heap.size, 0, none⟩) 1 1 (encPs [⟨key, val⟩]) rfl rfl hnx (encPs_one _) hl32 ?_)
    intro v5 w5 ho5 hm5 hno5
    have hob : ∀ k, OnlyBlk (.slice A l.length c) k → (vs[b]'HI.out).ownBlock = some k := fun k hk => by rw [HV.out]; exact hk
    have hb5 : w5.heap[p]? = some (.cells #[.slice (some ⟨g, 0, none⟩) x.bs.length x.bs.length, .int .i64 x.n] 122 (0, 0)) := hm5.blk H3.out.blk (fun hk => H3.out.ne_p HI.out (hob _ hk) rfl)
    have hr5 : w5.heap[g]? = some (.cells vs.toArray 127 (0, 0)) := hm5.blk H3.out.row (fun hk => H3.out.ne_g HI.out (hob _ hk) rfl)
    have hf5 : w5.frozen? ⟨g, b, none⟩ = false := blk_frozen hr5 b
    have hc5 : w5.cell? ⟨g, b, none⟩ = some (vs[b]'HI.out) := by
      rw [blk_cell hr5]
      simp only [List.getElem?_toArray, List.getElem?_eq_getElem HI.out]
    have hms : Mod (fun k => k = g) w5 (w5.setCell ⟨g, b, none⟩ v5) := Mod.setCell (S := fun k => k = g) (Mod.refl _ _) (p := ⟨g, b, none⟩) (fun _ => rfl) _
    have hr6 : (w5.setCell ⟨g, b, none⟩ v5).heap[g]? = some (.cells (vs.set b v5).toArray 127 (0, 0)) := (setCell_blk hr5).trans (by simp)
    have hb6 := hms.blk hb5 (fun e => H3.out.ne_pg e.symm)
    have ho6 : Own (w5.setCell ⟨g, b, none⟩ v5) 102 2 v5 (l.length + 1) (encPs l ++ encPs [⟨key, val⟩]) := ho5.mod hms (fun k hk e => by
      subst e
      obtain ⟨c', hc'⟩ := ho5.tag hk
      exact tag_ne hr5 hc' (by decide) rfl)
    have hn6 : (w5.setCell ⟨g, b, none⟩ v5).cell? ⟨p, 1, none⟩ = some (.int .i64 x.n) := blk_cell hb6 1
    have hfp6 : (w5.setCell ⟨g, b, none⟩ v5).frozen? ⟨p, 1, none⟩ = false := blk_frozen hb6 1
    have en : IntKind.i64.wrap ((x.n : Int) + 1) = x.n + 1 := IntWalk.i64_in _ (by omega)
    have hmw6 : Mod (fun k => k = p ∨ k = g ∨ (vs[b]'HI.out).ownBlock = some k) w1 (w5.setCell ⟨g, b, none⟩ v5) :=
      ((hal.mono (fun _ _ h => h.elim)).trans hm5 (fun k _ hk => .inr (.inr (hob k hk)))).trans hms (fun k _ hk => .inr (.inl hk))
    have hno1 : NewOr w1 (vs[b]'HI.out) v5 := by rw [HV.out]; exact hno5.back hal.size
    have hstep : XStep w S p (putX x key val) ((w5.setCell ⟨g, b, none⟩ v5).setCell ⟨p, 1, none⟩ (.int .i64 ((x.n : Int) + 1))) := by
      have hmp : Mod (fun k => k = p) (w5.setCell ⟨g, b, none⟩ v5) ((w5.setCell ⟨g, b, none⟩ v5).setCell ⟨p, 1, none⟩ (.int .i64 ((x.n : Int) + 1))) := Mod.setCell (S := fun k => k = p) (Mod.refl _ _) (p := ⟨p, 1, none⟩) (fun _ => rfl) _
      rw [HPX.out, putL_none HF.out, if_pos HG.out]
      refine ((H1.out.mod0 hm1).upd HS.out HI.out v5 (l ++ [⟨key, val⟩]) (x.n + 1) (hmw6.trans hmp (fun k _ hk => .inl hk)) ((setCell_blk hb6).trans rfl) (hmp.blk hr6 (fun e => H3.out.ne_pg e)) ?_ hno1).back hm1
      have e : encPs (l ++ [⟨key, val⟩]) = encPs l ++ encPs [⟨key, val⟩] := by unfold encPs; rw [List.flatMap_append]
      rw [e, List.length_append]
      refine ho6.mod hmp (fun k hk e => ?_)
      subst e
      obtain ⟨c', hc'⟩ := ho6.tag hk
      exact tag_ne hb6 hc' (by decide) rfl
    obtain ⟨V5, cv5, rfl, _, _, _⟩ := ho5.out
    have HST := Lib.hid hstep
    clear hstep ho5 ho6 hox hnx hno5 hno1 hmw6 hms hb5 hr5 hr6 hb6 hcg
    go_wp2_with fail
    go_end0
    exact ⟨rfl, HST.out⟩

set_option maxHeartbeats 2000000 in
set_option maxRecDepth 100000 in
theorem xdel_calls (w : World) (p : Nat) (x : Ix) (S : Nat → Prop) (key : ByteArray) (h : IsX w p x S) (hr : RoomX x) (hks : key.size ≤ 1000000) (hone : getT (atB x.bs key) key ≠ none → 1 ≤ x.n) :
    Calls Try.prog 39 #[.pointer (some ⟨p, 0, none⟩), .string key] w fun e w' => e = .returned (.bool (getX x key).isSome) ∧ XStep w S p (delX x key) w' := by
  have hX := h
  obtain ⟨g, vs, h1, hS⟩ := h
  have hi : bkt x.bs key < vs.length := by rw [h1.len]; exact bkt_lt hr.pos key
  have hcs := plc_cases (atB x.bs key) key
  have hat := at_calls w p g x vs key h1 hr.pos hr.len hks
  have hla := hr.at key
  have hn := hr.n
  have hgd : x.bs.getD (bkt x.bs key) [] = atB x.bs key := rfl
  have hgx : getX x key = getT (atB x.bs key) key := rfl
  have hpx : delX x key = if getT (atB x.bs key) key = none then x else ⟨x.bs.set (bkt x.bs key) (delL (atB x.bs key) key), x.n - 1⟩ := rfl
  obtain ⟨l, hl⟩ : ∃ l, l = atB x.bs key := ⟨_, rfl⟩
  obtain ⟨b, hb⟩ : ∃ b, b = bkt x.bs key := ⟨_, rfl⟩
  rw [← hl] at hcs hat hla hgd hpx hgx hone
  rw [← hb] at hat hgd hi hpx
  have HAT := Lib.hid hat
  have H1 := Lib.hid h1
  have HS := Lib.hid hS
  have HI := Lib.hid hi
  have HGD := Lib.hid hgd
  have HPX := Lib.hid hpx
  have HGX := Lib.hid hgx
  have HX := Lib.hid hX
  clear h1 hi hat hl hb hr hks hS hgd hpx hgx hX
  go_enter Try.func39, Try.ntmps39
  go_wp2_with fail
  refine HAT.out.mono ?_
  rintro e w1 ⟨rfl, hm1⟩
  rcases hcs with ⟨j, hj, hp, hk, hf, hg⟩ | ⟨hp, hf, hg⟩
  · rw [hp]
    have hn1 : 1 ≤ x.n := hone (by rw [hg]; simp)
    have h2 := H1.out.mod0 hm1
    have ho := h2.own b HI.out
    rw [HGD.out] at ho
    obtain ⟨A, c, hv, hrl⟩ := ho.nilD0
    have hcg : w1.cell? ⟨g, b, none⟩ = some (.slice A l.length c) := by
      rw [blk_cell h2.row]
      simp only [List.getElem?_toArray, List.getElem?_eq_getElem HI.out, hv]
    rw [hv] at ho
    have e1 : (j : Int) < (l.length : Int) := by omega
    have e2 : ¬ ((j : Int) < 0) := by omega
    have e3 : IntKind.i64.wrap ((j : Int) + 1) = j + 1 := IntWalk.i64_in _ (by omega)
    have HV := Lib.hid hv
    have HF := Lib.hid hf
    have HG := Lib.hid hg
    have H2 := Lib.hid h2
    clear hp hf hg h2 hrl hv hk hone
    go_wp2_with fail
    refine (deleteP_calls l j (.slice A l.length c) w1 ho hj).mono ?_
    rintro e w5 ⟨v5, rfl, ho5, hm5, hno5⟩
    have hob : ∀ k, OnlyBlk (.slice A l.length c) k → (vs[b]'HI.out).ownBlock = some k := fun k hk => by rw [HV.out]; exact hk
    have hb5 : w5.heap[p]? = some (.cells #[.slice (some ⟨g, 0, none⟩) x.bs.length x.bs.length, .int .i64 x.n] 122 (0, 0)) := hm5.blk H2.out.blk (fun hk => H2.out.ne_p HI.out (hob _ hk) rfl)
    have hr5 : w5.heap[g]? = some (.cells vs.toArray 127 (0, 0)) := hm5.blk H2.out.row (fun hk => H2.out.ne_g HI.out (hob _ hk) rfl)
    have hf5 : w5.frozen? ⟨g, b, none⟩ = false := blk_frozen hr5 b
    have hc5 : w5.cell? ⟨g, b, none⟩ = some (vs[b]'HI.out) := by
      rw [blk_cell hr5]
      simp only [List.getElem?_toArray, List.getElem?_eq_getElem HI.out]
    have hms : Mod (fun k => k = g) w5 (w5.setCell ⟨g, b, none⟩ v5) := Mod.setCell (S := fun k => k = g) (Mod.refl _ _) (p := ⟨g, b, none⟩) (fun _ => rfl) _
    have hr6 : (w5.setCell ⟨g, b, none⟩ v5).heap[g]? = some (.cells (vs.set b v5).toArray 127 (0, 0)) := (setCell_blk hr5).trans (by simp)
    have hb6 := hms.blk hb5 (fun e => H2.out.ne_pg e.symm)
    have ho6 : Own (w5.setCell ⟨g, b, none⟩ v5) 102 2 v5 (l.length - 1) (encPs (l.take j ++ l.drop (j + 1))) := ho5.mod hms (fun k hk e => by
      subst e
      obtain ⟨c', hc'⟩ := ho5.tag hk
      exact tag_ne hr5 hc' (by decide) rfl)
    have hn6 : (w5.setCell ⟨g, b, none⟩ v5).cell? ⟨p, 1, none⟩ = some (.int .i64 x.n) := blk_cell hb6 1
    have hfp6 : (w5.setCell ⟨g, b, none⟩ v5).frozen? ⟨p, 1, none⟩ = false := blk_frozen hb6 1
    have en : IntKind.i64.wrap ((x.n : Int) - 1) = x.n - 1 := IntWalk.i64_in _ (by omega)
    have en2 : (x.n : Int) - 1 = ((x.n - 1 : Nat) : Int) := by omega
    have hmw6 : Mod (fun k => k = p ∨ k = g ∨ (vs[b]'HI.out).ownBlock = some k) w1 (w5.setCell ⟨g, b, none⟩ v5) :=
      (hm5.mono (fun k _ hk => .inr (.inr (hob k hk)))).trans hms (fun k _ hk => .inr (.inl hk))
    have hno1 : NewOr w1 (vs[b]'HI.out) v5 := by rw [HV.out]; exact hno5
    have hstep : XStep w S p (delX x key) ((w5.setCell ⟨g, b, none⟩ v5).setCell ⟨p, 1, none⟩ (.int .i64 ((x.n : Int) - 1))) := by
      have hmp : Mod (fun k => k = p) (w5.setCell ⟨g, b, none⟩ v5) ((w5.setCell ⟨g, b, none⟩ v5).setCell ⟨p, 1, none⟩ (.int .i64 ((x.n : Int) - 1))) := Mod.setCell (S := fun k => k = p) (Mod.refl _ _) (p := ⟨p, 1, none⟩) (fun _ => rfl) _
      rw [HPX.out, delL_some HF.out, if_neg (by rw [HG.out]; simp)]
      refine ((H1.out.mod0 hm1).upd HS.out HI.out v5 (l.take j ++ l.drop (j + 1)) (x.n - 1) (hmw6.trans hmp (fun k _ hk => .inl hk)) ?_ (hmp.blk hr6 (fun e => H2.out.ne_pg e)) ?_ hno1).back hm1
      · rw [← en2]
        exact (setCell_blk hb6).trans rfl
      · have e : (l.take j ++ l.drop (j + 1)).length = l.length - 1 := by simp; omega
        rw [e]
        refine ho6.mod hmp (fun k hk e => ?_)
        subst e
        obtain ⟨c', hc'⟩ := ho6.tag hk
        exact tag_ne hb6 hc' (by decide) rfl
    obtain ⟨V5, cv5, rfl, _, _, _⟩ := ho5.out
    have HST := Lib.hid hstep
    clear hstep ho5 ho6 hno5 hno1 hmw6 hms hb5 hr5 hr6 hb6 hcg ho en2
    go_wp2_with fail
    go_ret
    rw [HGX.out, HG.out]
    exact ⟨rfl, HST.out⟩
  · rw [hp]
    have HG := Lib.hid hg
    clear hp hf hg hone
    go_wp2_with fail
    go_ret
    refine ⟨by rw [HGX.out, HG.out]; rfl, ?_⟩
    rw [HPX.out, if_pos HG.out]
    exact ⟨S, HX.out.mod0 hm1, hm1.mono (fun _ _ h => h.elim), fun k hk => .inl hk⟩

set_option maxHeartbeats 2000000 in
set_option maxRecDepth 100000 in
theorem xnew_calls (z : Int) (w : World) :
    Calls Try.prog 36 #[.int .i64 z] w fun e w' => ∃ p S k, e = .returned (.pointer (some ⟨p, 0, none⟩)) ∧ 0 < k ∧ k ≤ 1024 ∧ IsX w' p (newX k) S ∧ Mod NoneB w w' ∧ ∀ j, S j → w.heap.size ≤ j := by
  obtain ⟨k, hk⟩ : ∃ k : Nat, (k : Int) = max 1 (min z 1024) := ⟨(max 1 (min z 1024)).toNat, by omega⟩
  have hk1 : 0 < k := by omega
  have hk2 : k ≤ 1024 := by omega
  have hti : TI Try.prog 127 (.agg #[.slice none 0 0]) 1 24 := by unfold TI; kernel_rfl
  obtain ⟨i, hi, hz, hsz, hby⟩ := hti.parts
  have hmk := run_make (P := Try.prog) w 120 127 i (.agg #[.slice none 0 0]) Try.underlying120 hi hz .i64 .i64 (max 1 (min z 1024)) (max 1 (min z 1024)) (by omega) (Int.le_refl _) (by rw [hby]; omega) (by omega)
  have hkn : (max 1 (min z 1024)).toNat = k := by omega
  rw [hkn, hsz, Nat.mul_one] at hmk
  obtain ⟨C, hC⟩ : ∃ C, C = madeCells (Value.agg #[.slice none 0 0]).cells k := ⟨_, rfl⟩
  rw [← hC] at hmk
  have hCl : C = (List.replicate k (Value.slice none 0 0)).toArray := by
    rw [hC]
    apply Array.ext
    · simp [madeCells]
    · intro j h1 h2
      simp [madeCells, Value.cells]
      rw [Nat.mod_one]
      rfl
  have HCL := Lib.hid hCl
  clear hti hi hz hsz hby hkn hC hCl hk
  go_enter Try.func36, Try.ntmps36
  go_wp2_with fail
  go_ret
  obtain ⟨hg, hp⟩ := box2 w (.cells C 127) (.cells #[.slice (some ⟨w.heap.size, 0, none⟩) k k, .int .i64 0] 122)
  have hm : Mod NoneB w ((w.alloc (.cells C 127)).alloc (.cells #[.slice (some ⟨w.heap.size, 0, none⟩) k k, .int .i64 0] 122)) := ((Mod.refl NoneB w).alloc _).alloc _
  have e1 : (newX k).bs.length = k := by simp [newX]
  have hno : ∀ j, ∀ h : j < (List.replicate k (Value.slice none 0 0)).length, (List.replicate k (Value.slice none 0 0))[j] = .slice none 0 0 := fun j h => by simp
  refine ⟨w.heap.size + 1, FootX (w.heap.size + 1) w.heap.size (List.replicate k (.slice none 0 0)), k, by simp, hk1, hk2, ⟨w.heap.size, List.replicate k (.slice none 0 0), ⟨?_, ?_, by rw [e1]; simp, ?_, ?_⟩, fun _ => Iff.rfl⟩, hm, ?_⟩
  · rw [e1]; exact hp
  · rw [← HCL.out]; exact hg
  · intro j hj
    have e2 : (newX k).bs.getD j [] = [] := by
      rw [List.getD_eq_getElem?_getD]
      simp only [newX, List.getElem?_replicate]
      split <;> rfl
    rw [hno j hj, e2]
    exact Own.nil _ _ _
  · intro a b ha hb _ x hx
    rw [hno a ha] at hx
    cases hx
  · intro j hj
    rcases hj with rfl | rfl | ⟨v, hv, hj⟩
    · omega
    · exact Nat.le_refl _
    · rw [List.eq_of_mem_replicate hv] at hj
      cases hj
end Go.Proofs.Ytfbnkbdolimojaa
