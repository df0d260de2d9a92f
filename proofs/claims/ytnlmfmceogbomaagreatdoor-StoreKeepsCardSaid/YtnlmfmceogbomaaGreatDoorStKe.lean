/- StoreKeeps: wherever it crashes, whatever fails and stays, the map is that of all commits that told OK, and perhaps of the one behind them, whole: the walk of the law. -/
import Derived.Test.YtnlmfmceogbomaaGreatDoorStL
import Derived.Test.YtnlmfmceogbomaaGreatDoorBatA
import Derived.Deep.DeepCutAuto
namespace Go.Proofs.YtnlmfmceogbomaaGreatDoor
open Go.RowKit
set_option linter.unusedVariables false

/-- The store, and two rows of pairs that are held beside it. -/
structure K2 (w0 w : World) (p q g s : Nat) (most : Int) (t : St) (x : Ix) (S X : Nat → Prop) (v : Value) (m : List Pr) (v2 : Value) (m2 : List Pr) : Prop where
  k1 : Kw w0 w p q g s most t x S X v m
  k2 : Kw w0 w p q g s most t x S X v2 m2
def K2E (w0 w : World) (p q g s : Nat) (most : Int) (v : Value) (m : List Pr) (v2 : Value) (m2 : List Pr) (k : St × Nat) (e : Ending) (w' : World) : Prop := e = .returned (.int .i64 k.2) ∧ ∃ x' S' X', K2 w0 w' p q g s most k.1 x' S' X' v m v2 m2
/-- Behind a restart. -/
def Kr2 (w0 : World) (p : Nat) (d' : Dk) (v : Value) (m : List Pr) (v2 : Value) (m2 : List Pr) (e : Ending) (w' : World) : Prop :=
  e = .returned (.tuple #[]) ∧ ∃ S', Lw w0 w' p d' S' ∧ (Own w' 88 2 v m.length (encPs m) ∧ ∀ h, v.ownBlock = some h → ¬ S' h) ∧ (Own w' 88 2 v2 m2.length (encPs m2) ∧ ∀ h, v2.ownBlock = some h → ¬ S' h)
section
variable {w0 w w1 w' : World} {p q g s : Nat} {most : Int} {t : St} {x x' : Ix} {S X S' X' : Nat → Prop} {v v2 v' : Value} {m m2 m' : List Pr}
theorem Kw.to {k : St} (K : Kw w0 w p q g s most t x S X v m) (h1 : StAt w0 w' p q g s most k x' S' X') (h2 : Mod (fun j => S j ∨ X j ∨ j = q) w w') (h3 : ∀ j, S' j → S j ∨ w.heap.size ≤ j) (h4 : ∀ j, X' j → X j ∨ w.heap.size ≤ j) : Kw w0 w' p q g s most k x' S' X' v m := by
  refine ⟨h1, K.own.mod h2 K.far, fun h hv hh => ?_⟩
  have hlt := K.own.lt hv
  have hf := K.far h hv
  rcases hh with hh | hh | hh
  · exact (h3 h hh).elim (fun hh => hf (.inl hh)) (fun hh => absurd hlt (Nat.not_lt.2 hh))
  · exact (h4 h hh).elim (fun hh => hf (.inr (.inl hh))) (fun hh => absurd hlt (Nat.not_lt.2 hh))
  · exact hf (.inr (.inr hh))
theorem K2.mod0 (K : K2 w0 w p q g s most t x S X v m v2 m2) (hm : Mod NoneB w w1) : K2 w0 w1 p q g s most t x S X v m v2 m2 := ⟨K.k1.mod0 hm, K.k2.mod0 hm⟩
theorem K2.turn1 (K : K2 w0 w p q g s most t x S X v m v2 m2) (hm : Mod NoneB w w1) (ho : OwnP w.heap.size w1 v' m') : K2 w0 w1 p q g s most t x S X v' m' v2 m2 := ⟨K.k1.turn hm ho, K.k2.mod0 hm⟩
theorem K2.turn2 (K : K2 w0 w p q g s most t x S X v m v2 m2) (hm : Mod NoneB w w1) (ho : OwnP w.heap.size w1 v' m') : K2 w0 w1 p q g s most t x S X v m v' m' := ⟨K.k1.mod0 hm, K.k2.turn hm ho⟩
theorem K2.commit {more : Option (List Op3)} {B T : Nat} (K : K2 w0 w p q g s most t x S X v m v2 m2) (hi : Inv t more B T) (ht : TabW w0) (hB : B ≤ 4000000) (hT : T ≤ 1048584) (hc : t.d.c ≤ 900000) (o : OsV) (ho : OsOk w0 o) (hl : wtO o.l ≤ 5000) (hw : wS t.r + wO o.l ≤ 1000000) :
    Calls Tryz.prog 16 #[.pointer (some ⟨s, 0, none⟩), .slice o.A o.l.length o.c] w (K2E w0 w p q g s most v m v2 m2 (commitS most t o.l)) := by
  obtain ⟨h1, h2⟩ := K.k1.at_.old ho
  exact ((⟨K.k1.at_, hi⟩ : So w0 w p q g s most t x S X more B T).commit ht hB hT hc o.l o.A o.c h1 h2 hl hw).mono fun e w' ⟨he, x', S', X', g1, g2, g3, g4⟩ => ⟨he, x', S', X', K.k1.to g1 g2 g3 g4, K.k2.to g1 g2 g3 g4⟩
theorem K2.restart0 (K : K2 w0 w p q g s most t x S X v m v2 m2) (hf : FitL t.d) (cap : Int) :
    Calls Tryz.prog 21 #[.pointer (some ⟨p, 0, none⟩), .agg #[.int .i64 cap, .slice none 0 0, .int .i64 0, .bool false, .slice none 0 0]] w (Kr2 w0 p (restartD t.d ⟨cap, [], 0, false, []⟩) v m v2 m2) := by
  refine (K.k1.at_.lw.restart0 hf cap).mono ?_
  rintro e w' ⟨he, S', h1, h2, h3⟩
  have key : ∀ {v : Value} {m : List Pr}, Kw w0 w p q g s most t x S X v m → Own w' 88 2 v m.length (encPs m) ∧ ∀ h, v.ownBlock = some h → ¬ S' h := fun K => ⟨K.own.mod h2 (fun h hv hs => K.far h hv (.inl hs)), fun h hv hs => (h3 h hs).elim (fun hs => K.far h hv (.inl hs)) (fun hn => by have := K.own.lt hv; omega)⟩
  exact ⟨he, S', h1, key K.k1, key K.k2⟩
end
/-- Opened first on a disk that fails and crashes later. -/
theorem keeps_open (pl : Pl) (h1 : 3 ≤ pl.crash) (h2 : ∀ k ∈ pl.fail, 3 ≤ k) : openE ⟨pl, [], 0, false⟩ = 0 := by
  obtain ⟨cap, fail, crash, done, keep⟩ := pl
  simp only at h1 h2
  have hl : loadR ⟨⟨cap, fail, crash, done, keep⟩, [], 0, false⟩ = ([], 0) := rfl
  obtain ⟨hop, _, _⟩ := cr_open (cap := cap) (crash := crash) (done := done) (keep := keep) (fail := fail) (by omega) (by omega) (fun h => by have := h2 _ h; omega) (fun h => by have := h2 _ h; omega)
  unfold openE
  rw [hl, if_neg (by simp)]
  have : openD ⟨⟨cap, fail, crash, done, keep⟩, [], 0, false⟩ = _ := hop
  rw [this]
/-- What is sure of the store, and what may be there besides. -/
structure Kq (t : St) (more : Option (List Op3)) (j : Nat) (un : Bool) (m2 : List Pr) : Prop where
  inv : Inv t more (26100 * j) 1048584
  c : t.d.c ≤ 20 + 9 * j
  w : wS t.r ≤ 5420 * j
  st : (un = false ∧ more = none) ∨ (un = true ∧ ∃ l, more = some l ∧ m2 = applyT t.r l ∧ wO l ≤ 5420)
structure KqC (t : St) (more : Option (List Op3)) (j : Nat) (un : Bool) (m2 : List Pr) (l : List Op3) (k : St × Nat) : Prop where
  ok : k.2 = 0 → k.1.r = applyT t.r l ∧ Kq k.1 none (j + 1) false m2
  no : k.2 ≠ 0 → k.1.r = t.r
  same : ¬ rightO l ∨ k.2 = 8 → Kq k.1 more (j + 1) un m2
  bad : k.2 ≠ 0 → k.2 ≠ 8 → rightO l → Kq k.1 (some l) (j + 1) true (applyT t.r l)
  wrong : ¬ rightO l → k.2 ≠ 0
theorem Kq.commit {t : St} {more : Option (List Op3)} {j : Nat} {un : Bool} {m2 : List Pr} (h : Kq t more j un m2) (hj : j ≤ 60) (most : Int) {l : List Op3} (hl : Fine l) : KqC t more j un m2 l (commitS most t l) := by
  have hw := wS_apply h.inv.rises l
  have hwl := hl.wO
  have hwj := h.w
  have hb := (bytesO_le hl.wt).2
  have hc := h.inv.commit most l (small_wt hl.wt) (wS_small1 (by omega)) (table_T _)
  have hcc := hc.c
  have hc0 := h.c
  refine ⟨fun h0 => ?_, hc.no, fun hs => ?_, fun h0 h8 hr => ?_, hc.wrongE⟩
  · obtain ⟨h1, h2, h3⟩ := hc.ok h0
    have := hb h1
    exact ⟨h2, h3.mono (by omega), by omega, by rw [h2]; omega, .inl ⟨rfl, rfl⟩⟩
  · have h0 : (commitS most t l).2 ≠ 0 := by
      rcases hs with hs | hs
      · exact hc.wrongE hs
      · omega
    have hr := hc.no h0
    exact ⟨(hc.wrong hs).mono (by omega), by omega, by rw [hr]; omega, by rw [hr]; exact h.st⟩
  · have hr2 := hc.no h0
    have := hb hr
    exact ⟨(hc.bad h0 h8 hr).mono (by omega), by omega, by rw [hr2]; omega, .inr ⟨rfl, l, rfl, by rw [hr2], hwl⟩⟩

set_option maxHeartbeats 32000000 in
set_option maxRecDepth 100000 in
theorem storeKeeps_walk (l0 : List OsV) (a0 : Option Addr) (c0 : Nat) (z1 z2 : Int) (b3 : Bool) (l4 l5 : List UInt8) (a4 a5 : Option Addr) (c4 c5 : Nat) (w : World) (rd0 : Rd w 1 a0 l0.length (l0.flatMap encOv)) (ok0 : ∀ x ∈ l0, OsOk w x)
    (wz1 : (Lit.int .u16 z1).wf = true) (wz2 : (Lit.int .u8 z2).wf = true) (rd4 : Rd w 1 a4 l4.length (encB l4)) (rd5 : Rd w 1 a5 l5.length (encB l5)) (htab : TabW w) :
    Calls Tryz.prog 3 #[.slice a0 l0.length c0, .int .u16 z1, .int .u8 z2, .bool b3, .slice a4 l4.length c4, .slice a5 l5.length c5] w fun e w' => e = .returned (.bool true) ∧ Mod NoneB w w' := by
  have hz1 : 0 ≤ z1 ∧ z1 ≤ 65535 := by simp [Lit.wf] at wz1; exact wz1
  have hz2 : 0 ≤ z2 ∧ z2 ≤ 255 := by simp [Lit.wf] at wz2; exact wz2
  obtain ⟨hz10, hz11⟩ := hz1
  obtain ⟨hz20, hz21⟩ := hz2
  clear wz1 wz2
  have hhe := heavy7_calls l0 [] a0 none c0 0 w rd0 ok0 (Rd.nil _ _ _) (fun x hx => by cases hx)
  have HHE := Lib.hid hhe
  have OK0 := Lib.hid ok0
  clear hhe ok0
  go_enter Tryz.func3, Tryz.ntmps3
  go_wp2_with fail
  refine HHE.out.mono ?_
  rintro e w1 ⟨b, rfl, hm1, hb1⟩
  clear HHE
  cases b with
  | true =>
    clear hb1
    go_wp2_with ((with_reducible refine (awake10_calls _ (htab.mod0 hm1)).mono ?_); rintro e wz ⟨rfl, hmz⟩)
    go_ret
    exact ⟨rfl, hm1.then0 hmz⟩
  | false =>
    by_cases hlk : 20 < l4.length
    · have hg : (20 : Int) < (l4.length : Int) := by omega
      clear hb1
      go_wp2_with ((with_reducible refine (awake10_calls _ (htab.mod0 hm1)).mono ?_); rintro e wz ⟨rfl, hmz⟩)
      go_ret
      exact ⟨rfl, hm1.then0 hmz⟩
    have hg : ¬ (20 : Int) < (l4.length : Int) := by omega
    by_cases hlf : 20 < l5.length
    · have hg2 : (20 : Int) < (l5.length : Int) := by omega
      clear hb1
      go_wp2_with ((with_reducible refine (awake10_calls _ (htab.mod0 hm1)).mono ?_); rintro e wz ⟨rfl, hmz⟩)
      go_ret
      exact ⟨rfl, hm1.then0 hmz⟩
    have hg2 : ¬ (20 : Int) < (l5.length : Int) := by omega
    obtain ⟨⟨hl40, hli⟩, _⟩ := hb1 rfl
    have HLI := Lib.hid hli
    clear hb1 hli
    have hcw : IntKind.i64.wrap z2 = z2 := IntWalk.i64_in _ (by omega)
    have hcw2 : IntKind.i64.wrap (3 + z2) = 3 + z2 := IntWalk.i64_in _ (by omega)
    go_wp2_with fail
    obtain ⟨cr, hcr⟩ : ∃ cr, cr = 3 + z2 := ⟨_, rfl⟩
    have hcr3 : 3 ≤ cr := by omega
    obtain ⟨ks, hks⟩ : ∃ ks : List Int, ks = l4.map fun z => (z.toNat : Int) := ⟨_, rfl⟩
    obtain ⟨fs, hfs⟩ : ∃ fs : List Int, fs = l5.map fun z => 3 + (z.toNat : Int) := ⟨_, rfl⟩
    have hkn : ks.length = l4.length := by rw [hks]; simp
    have hfn : fs.length = l5.length := by rw [hfs]; simp
    have hkg : ∀ j, ∀ h : j < l4.length, ks.take (j + 1) = ks.take j ++ [(l4[j].toNat : Int)] := by
      intro j h
      rw [List.take_succ_eq_append_getElem (by omega)]
      simp [hks]
    have hfg : ∀ j, ∀ h : j < l5.length, fs.take (j + 1) = fs.take j ++ [3 + (l5[j].toNat : Int)] := by
      intro j h
      rw [List.take_succ_eq_append_getElem (by omega)]
      simp [hfs]
    have hf3 : ∀ x ∈ fs, 3 ≤ x := by
      intro x hx
      rw [hfs] at hx
      obtain ⟨z, _, rfl⟩ := List.mem_map.1 hx
      omega
    have HKN := Lib.hid hkn
    have HFN := Lib.hid hfn
    have HKG := Lib.hid hkg
    have HFG := Lib.hid hfg
    have HF3 := Lib.hid hf3
    rw [← hcr]
    obtain ⟨B, hB⟩ : ∃ B, B = w1.heap.size := ⟨_, rfl⟩
    have hbx := box1 w1 (.cells #[.int .i64 100000, .slice none 0 0, .int .i64 cr, .bool b3, .slice none 0 0] 29)
    have hmb : Mod NoneB w1 (w1.alloc (.cells #[.int .i64 100000, .slice none 0 0, .int .i64 cr, .bool b3, .slice none 0 0] 29)) := (Mod.refl NoneB w1).alloc _
    have hsb : B < (w1.alloc (.cells #[.int .i64 100000, .slice none 0 0, .int .i64 cr, .bool b3, .slice none 0 0] 29)).heap.size := by rw [hB]; simp
    rw [← hB] at hbx ⊢
    generalize (w1.alloc (.cells #[.int .i64 100000, .slice none 0 0, .int .i64 cr, .bool b3, .slice none 0 0] 29)) = wb at hbx hmb hsb ⊢
    have rd41 := rd4.mod0 hm1
    have rd51 := rd5.mod0 hm1
    have rd4b := rd41.mod0 hmb
    have rd5b := rd51.mod0 hmb
    have hk4 : ∀ wr, Mod (fun k => k = B) wb wr → Rd wr 1 a4 l4.length (encB l4) := fun wr hm => rd4b.modP hm (fun hp ad hA he => by
      have := rd41.block_lt (by decide) hp ad hA
      omega)
    have hk5 : ∀ wr, Mod (fun k => k = B) wb wr → Rd wr 1 a5 l5.length (encB l5) := fun wr hm => rd5b.modP hm (fun hp ad hA he => by
      have := rd51.block_lt (by decide) hp ad hA
      omega)
    have hkw : ∀ wr, Mod (fun k => k = B) wb wr → Mod NoneB w wr := fun wr hm => hm1.then0 (hmb.trans_new hm (fun k hk => .inr (by omega)))
    have HK4 := Lib.hid hk4
    have HK5 := Lib.hid hk5
    have HKW := Lib.hid hkw
    have HSB := Lib.hid hsb
    clear hks hfs hkn hfn hkg hfg hf3 hcr hB rd4b rd5b rd41 rd51 hk4 hk5 hkw hmb hm1 hsb rd4 rd5
    go_loopw [14] (fun t wr => ∃ (j : Nat) (kv : Value), t = .int .i64 j ∧ j ≤ l4.length ∧ wr.heap[B]? = some (.cells #[.int .i64 100000, .slice none 0 0, .int .i64 cr, .bool b3, kv] 29 (0, 0)) ∧ Own wr 3 1 kv (ks.take j).length (encI (ks.take j)) ∧ Mod (fun k => k = B) wb wr ∧ (∀ g, kv.ownBlock = some g → wb.heap.size ≤ g)) (fun t _ => l4.length - (intOf t).toNat)
    case atStart => exact ⟨0, _, rfl, by omega, hbx, Own.nil _ _ _, Mod.refl _ _, fun g h => by simp [Value.ownBlock] at h⟩
    case round =>
      obtain ⟨j, kv, rfl, hj, hbk, hov, hmj, hnv⟩ := hrel
      clear hbx
      by_cases hlt : j < l4.length
      · obtain ⟨ad, hal0, h0⟩ := (HK4.out wr hmj).bytes j hlt
        subst hal0
        have hft := HKG.out j hlt
        have hxl := l4[j].toNat_lt
        obtain ⟨f, hf⟩ : ∃ f, f = l4[j].toNat := ⟨_, rfl⟩
        rw [← hf] at h0 hft hxl
        obtain ⟨nt, hnt⟩ : ∃ nt, nt = (ks.take j).length := ⟨_, rfl⟩
        rw [← hnt] at hov
        have hntl : nt ≤ 20 := by rw [hnt, List.length_take]; omega
        have HNT := Lib.hid hnt
        have HFT := Lib.hid hft
        have HNV := Lib.hid hnv
        have hal : Mod NoneB wr (wr.drew.alloc (.cells #[.int .i64 ((f : Int))] 3)) := ((Mod.refl NoneB wr).drew).alloc _
        have hox := hov.mod0 hal
        have hnx : 0 < 1 → ∃ a, (some ⟨wr.heap.size, 0, none⟩ : Option Addr) = some a ∧ ∀ (j : Nat) u, (encI [(f : Int)])[j]? = some u → (wr.drew.alloc (.cells #[.int .i64 ((f : Int))] 3)).cell? (a.add j) = some u := (rdBlk (sz := 1) (n := 1) (heap_alloc_new wr.drew (.cells #[.int .i64 ((f : Int))] 3)) rfl (by omega)).2.2
        have hu := Tryz.underlying27
        have h8 : (nt + 1) * 8 ≤ 140737488355328 := by omega
        have y4 : wr.cell? ⟨B, 4, none⟩ = some kv := blk_cell hbk 4
        have y4a : (wr.alloc (.cells #[.int .i64 ((f : Int))] 3)).cell? ⟨B, 4, none⟩ = some kv := blk_cell (((Mod.refl NoneB wr).alloc (.cells #[.int .i64 ((f : Int))] 3)).blk hbk (fun h => h)) 4
        have hg1 : ∀ w5 : World, Mod (OnlyBlk kv) (wr.drew.alloc (.cells #[.int .i64 ((f : Int))] 3)) w5 → w5.heap[B]? = some (.cells #[.int .i64 100000, .slice none 0 0, .int .i64 cr, .bool b3, kv] 29 (0, 0)) := by
          intro w5 hm
          refine hm.blk (hal.blk hbk (fun h => h)) (fun h => ?_)
          have := HNV.out _ h
          have := HSB.out
          omega
        have HG1 := Lib.hid hg1
        have g0 : (0 : Int) ≤ (j : Int) := by omega
        have g1 : (j : Int) < (l4.length : Int) := by omega
        have g2 : IntKind.i64.wrap (f : Int) = f := IntWalk.i64_in _ (by omega)
        have g3 : IntKind.i64.wrap (3 + (f : Int)) = 3 + f := IntWalk.i64_in _ (by omega)
        clear hnt hft hnv hov hf hg1 hbk
        obtain ⟨A5, c5', rfl, _, _, _⟩ := hox.out
        go_wp2_with fail
        go_region_law (refine step_app rfl (.tmp 53) (.tmp 59) 27 rfl 3 _ 1 8 hu tiI rfl (by decide) (by decide) _ nt (encI (ks.take j)) (by simp [Act.eval]) hox (some ⟨wr.heap.size, 0, none⟩) 1 1 (encI [(f : Int)]) (by simp [Act.eval]) rfl hnx (encI_one _) h8 ?_; intro v5 w5 ho5 hm5 hno5; obtain ⟨V5, cv5, rfl, _, _, _⟩ := ho5.out; have y5 : w5.cell? ⟨B, 4, none⟩ = some (.slice A5 nt c5') := (blk_cell (HG1.out w5 hm5) 4); have fr5 : w5.frozen? ⟨B, 4, none⟩ = false := blk_frozen (HG1.out w5 hm5) 4)
        all_goals
          have hb5 := setCell_blk (p := B) (j := 4) (u := .slice V5 (nt + 1) cv5) (HG1.out w5 hm5)
          have hms : Mod (fun k => k = B) w5 (w5.setCell ⟨B, 4, none⟩ (.slice V5 (nt + 1) cv5)) := Mod.setCell (S := fun k => k = B) (Mod.refl _ _) (p := ⟨B, 4, none⟩) (fun _ => rfl) _
          have hn5 : ∀ g, (Value.slice V5 (nt + 1) cv5).ownBlock = some g → wb.heap.size ≤ g := by
            intro g hg
            rcases hno5 with hq | ⟨b, hq, hb⟩
            · exact HNV.out g (by rw [← hq]; exact hg)
            · rw [hq] at hg
              injection hg with hg
              have h1 := hmj.size
              have h2 := hal.size
              subst hg
              exact Nat.le_trans (Nat.le_trans h1 h2) hb
          have hv5 : Own (w5.setCell ⟨B, 4, none⟩ (.slice V5 (nt + 1) cv5)) 3 1 (.slice V5 (nt + 1) cv5) (ks.take (j + 1)).length (encI (ks.take (j + 1))) := by
            have h2 := ho5.mod hms (fun g hg he => by
              have := hn5 g hg
              have := HSB.out
              omega)
            rw [HFT.out, List.length_append]
            have e : encI (ks.take j ++ [(f : Int)]) = encI (ks.take j) ++ encI [(f : Int)] := by simp [encI]
            rw [e]
            have e2 : (ks.take j).length + [(f : Int)].length = nt + 1 := by rw [← HNT.out]; rfl
            rw [e2]
            exact h2
          have hmw : Mod (fun k => k = B) wb (w5.setCell ⟨B, 4, none⟩ (.slice V5 (nt + 1) cv5)) := by
            have h1 : Mod (fun k => k = B) wb w5 := (hmj.then0 hal).trans_new hm5 (fun k hk => .inr (HNV.out k hk))
            exact h1.trans hms (fun _ _ h => h)
          have HB5 := Lib.hid hb5
          have HV5 := Lib.hid hv5
          have HN5 := Lib.hid hn5
          have HMW := Lib.hid hmw
          clear hb5 hv5 hn5 hmw hms ho5 hox hnx hno5 h0 y4 y4a y5
          go_wp2_with fail
          go_roundw
          case rel => exact ⟨j + 1, _, by go_num, by omega, HB5.out.trans rfl, HV5.out, HMW.out, HN5.out⟩
          case measure => simp [intOf]; omega
      · have q1 : ¬ ((j : Int) < (l4.length : Int)) := by omega
        have hje : ks.take j = ks := List.take_of_length_le (by rw [HKN.out]; omega)
        rw [hje] at hov
        have hkl : ks.length ≤ 20 := by rw [HKN.out]; omega
        obtain ⟨K, kc, rfl, _⟩ := hov.nilD0
        obtain ⟨wm, hwm⟩ : ∃ y, y = wr := ⟨_, rfl⟩
        subst hwm
        have hsb2 : B < wm.heap.size := blk_lt hbk
        have hbx2 := hbk
        clear hbk
        have hk52 : ∀ wr, Mod (fun k => k = B) wm wr → Rd wr 1 a5 l5.length (encB l5) := fun wr hm => HK5.out wr (hmj.trans hm (fun _ _ h => h))
        have HSB2 := Lib.hid hsb2
        have HK52 := Lib.hid hk52
        have HKO := Lib.hid hov
        have HMJ := Lib.hid hmj
        have HNK := Lib.hid hnv
        clear hov hmj hnv hsb2 hk52 hje HK4 HK5 HKG
        go_wp2_with fail
        go_loopw [15] (fun t wr => ∃ (j : Nat) (kv : Value), t = .int .i64 j ∧ j ≤ l5.length ∧ wr.heap[B]? = some (.cells #[.int .i64 100000, kv, .int .i64 cr, .bool b3, .slice K ks.length kc] 29 (0, 0)) ∧ Own wr 3 1 kv (fs.take j).length (encI (fs.take j)) ∧ Mod (fun k => k = B) wm wr ∧ (∀ g, kv.ownBlock = some g → wm.heap.size ≤ g)) (fun t _ => l5.length - (intOf t).toNat)
        case atStart => exact ⟨0, _, rfl, by omega, hbx2, Own.nil _ _ _, Mod.refl _ _, fun g h => by simp [Value.ownBlock] at h⟩
        case round =>
          obtain ⟨j, kv, rfl, hj, hbk, hov, hmj, hnv⟩ := hrel
          clear hbx2
          by_cases hlt : j < l5.length
          · obtain ⟨ad, hal0, h0⟩ := (HK52.out wr hmj).bytes j hlt
            subst hal0
            have hft := HFG.out j hlt
            have hxl := l5[j].toNat_lt
            obtain ⟨f, hf⟩ : ∃ f, f = l5[j].toNat := ⟨_, rfl⟩
            rw [← hf] at h0 hft hxl
            obtain ⟨nt, hnt⟩ : ∃ nt, nt = (fs.take j).length := ⟨_, rfl⟩
            rw [← hnt] at hov
            have hntl : nt ≤ 20 := by rw [hnt, List.length_take]; omega
            have HNT := Lib.hid hnt
            have HFT := Lib.hid hft
            have HNV := Lib.hid hnv
            have hal : Mod NoneB wr (wr.drew.alloc (.cells #[.int .i64 (3 + (f : Int))] 3)) := ((Mod.refl NoneB wr).drew).alloc _
            have hox := hov.mod0 hal
            have hnx : 0 < 1 → ∃ a, (some ⟨wr.heap.size, 0, none⟩ : Option Addr) = some a ∧ ∀ (j : Nat) u, (encI [3 + (f : Int)])[j]? = some u → (wr.drew.alloc (.cells #[.int .i64 (3 + (f : Int))] 3)).cell? (a.add j) = some u := (rdBlk (sz := 1) (n := 1) (heap_alloc_new wr.drew (.cells #[.int .i64 (3 + (f : Int))] 3)) rfl (by omega)).2.2
            have hu := Tryz.underlying27
            have h8 : (nt + 1) * 8 ≤ 140737488355328 := by omega
            have y4 : wr.cell? ⟨B, 1, none⟩ = some kv := blk_cell hbk 1
            have y4a : (wr.alloc (.cells #[.int .i64 (3 + (f : Int))] 3)).cell? ⟨B, 1, none⟩ = some kv := blk_cell (((Mod.refl NoneB wr).alloc (.cells #[.int .i64 (3 + (f : Int))] 3)).blk hbk (fun h => h)) 1
            have hg1 : ∀ w5 : World, Mod (OnlyBlk kv) (wr.drew.alloc (.cells #[.int .i64 (3 + (f : Int))] 3)) w5 → w5.heap[B]? = some (.cells #[.int .i64 100000, kv, .int .i64 cr, .bool b3, .slice K ks.length kc] 29 (0, 0)) := by
              intro w5 hm
              refine hm.blk (hal.blk hbk (fun h => h)) (fun h => ?_)
              have := HNV.out _ h
              have := HSB2.out
              omega
            have HG1 := Lib.hid hg1
            have g0 : (0 : Int) ≤ (j : Int) := by omega
            have g1 : (j : Int) < (l5.length : Int) := by omega
            have g2 : IntKind.i64.wrap (f : Int) = f := IntWalk.i64_in _ (by omega)
            have g3 : IntKind.i64.wrap (3 + (f : Int)) = 3 + f := IntWalk.i64_in _ (by omega)
            clear hnt hft hnv hov hf hg1 hbk
            obtain ⟨A5, c5', rfl, _, _, _⟩ := hox.out
            go_wp2_with fail
            go_region_law (refine step_app rfl (.tmp 69) (.tmp 76) 27 rfl 3 _ 1 8 hu tiI rfl (by decide) (by decide) _ nt (encI (fs.take j)) (by simp [Act.eval]) hox (some ⟨wr.heap.size, 0, none⟩) 1 1 (encI [3 + (f : Int)]) (by simp [Act.eval]) rfl hnx (encI_one _) h8 ?_; intro v5 w5 ho5 hm5 hno5; obtain ⟨V5, cv5, rfl, _, _, _⟩ := ho5.out; have y5 : w5.cell? ⟨B, 1, none⟩ = some (.slice A5 nt c5') := (blk_cell (HG1.out w5 hm5) 1); have fr5 : w5.frozen? ⟨B, 1, none⟩ = false := blk_frozen (HG1.out w5 hm5) 1)
            all_goals
              have hb5 := setCell_blk (p := B) (j := 1) (u := .slice V5 (nt + 1) cv5) (HG1.out w5 hm5)
              have hms : Mod (fun k => k = B) w5 (w5.setCell ⟨B, 1, none⟩ (.slice V5 (nt + 1) cv5)) := Mod.setCell (S := fun k => k = B) (Mod.refl _ _) (p := ⟨B, 1, none⟩) (fun _ => rfl) _
              have hn5 : ∀ g, (Value.slice V5 (nt + 1) cv5).ownBlock = some g → wm.heap.size ≤ g := by
                intro g hg
                rcases hno5 with hq | ⟨b, hq, hb⟩
                · exact HNV.out g (by rw [← hq]; exact hg)
                · rw [hq] at hg
                  injection hg with hg
                  have h1 := hmj.size
                  have h2 := hal.size
                  subst hg
                  exact Nat.le_trans (Nat.le_trans h1 h2) hb
              have hv5 : Own (w5.setCell ⟨B, 1, none⟩ (.slice V5 (nt + 1) cv5)) 3 1 (.slice V5 (nt + 1) cv5) (fs.take (j + 1)).length (encI (fs.take (j + 1))) := by
                have h2 := ho5.mod hms (fun g hg he => by
                  have := hn5 g hg
                  have := HSB2.out
                  omega)
                rw [HFT.out, List.length_append]
                have e : encI (fs.take j ++ [3 + (f : Int)]) = encI (fs.take j) ++ encI [3 + (f : Int)] := by simp [encI]
                rw [e]
                have e2 : (fs.take j).length + [3 + (f : Int)].length = nt + 1 := by rw [← HNT.out]; rfl
                rw [e2]
                exact h2
              have hmw : Mod (fun k => k = B) wm (w5.setCell ⟨B, 1, none⟩ (.slice V5 (nt + 1) cv5)) := by
                have h1 : Mod (fun k => k = B) wm w5 := (hmj.then0 hal).trans_new hm5 (fun k hk => .inr (HNV.out k hk))
                exact h1.trans hms (fun _ _ h => h)
              have HB5 := Lib.hid hb5
              have HV5 := Lib.hid hv5
              have HN5 := Lib.hid hn5
              have HMW := Lib.hid hmw
              clear hb5 hv5 hn5 hmw hms ho5 hox hnx hno5 h0 y4 y4a y5
              go_wp2_with fail
              go_roundw
              case rel => exact ⟨j + 1, _, by go_num, by omega, HB5.out.trans rfl, HV5.out, HMW.out, HN5.out⟩
              case measure => simp [intOf]; omega
          · have q2 : ¬ ((j : Int) < (l5.length : Int)) := by omega
            have hje : fs.take j = fs := List.take_of_length_le (by rw [HFN.out]; omega)
            rw [hje] at hov
            have hfl : fs.length ≤ 20 := by rw [HFN.out]; omega
            obtain ⟨F, fc, rfl, hF⟩ := hov.nilD0
            have hKr : Rd wr 1 K ks.length (encI ks) := own_rd (HKO.out.mod hmj (fun g hg he => by
              have := HNK.out g hg
              have := HSB.out
              omega))
            have y0 : wr.cell? ⟨B, 0, none⟩ = some (.int .i64 100000) := blk_cell hbk 0
            have y1 : wr.cell? ⟨B, 1, none⟩ = some (.slice F fs.length fc) := blk_cell hbk 1
            have y2 : wr.cell? ⟨B, 2, none⟩ = some (.int .i64 cr) := blk_cell hbk 2
            have y3 : wr.cell? ⟨B, 3, none⟩ = some (.bool b3) := blk_cell hbk 3
            have y4 : wr.cell? ⟨B, 4, none⟩ = some (.slice K ks.length kc) := blk_cell hbk 4
            have hnw := Dw.new w wr (HKW.out wr (HMJ.out.trans hmj (fun _ _ h => h))) ⟨100000, fs, cr, b3, ks⟩ F K fc kc hF hKr (by show fs.length ≤ 1099511627776; omega) (by show ks.length ≤ 1099511627776; omega)
            have HNW := Lib.hid hnw
            have hoe := keeps_open ⟨100000, fs, cr, b3, ks⟩ hcr3 HF3.out
            have HOE := Lib.hid hoe
            clear hje hov hbk hmj hnv hnw hF hKr hoe HK52 HKW HFG HKO HMJ HNK
            go_wp2_with fail
            refine HNW.out.mono ?_
            rintro e w2 ⟨p, rfl, hdw⟩
            clear HNW y0 y1 y2 y3 y4
            obtain ⟨S1, h1⟩ := Lw.dw hdw
            have sp1 : Sp w w2 p ⟨⟨100000, fs, cr, b3, ks⟩, [], 0, false⟩ S1 [] none 0 1048584 := ⟨h1, Shut.new _ _ _ _ _⟩
            clear h1 hdw
            go_wp2_with fail
            refine (sp1.open htab (by omega) (Nat.le_refl _) (Nat.zero_le _) (Nat.zero_le _) (fun l h => by cases h) _).mono ?_
            obtain ⟨u1, u2, u3, u4, u5⟩ := sp1.on.opens
            obtain ⟨k1, k2, _, k3⟩ := u5 HOE.out
            rintro e w3 (⟨q, g, s, x0, S0, X0, rfl, ho⟩ | ⟨h0, _⟩)
            case inr => exact absurd HOE.out h0
            have hst : ∃ (mo : Int) (t : St) (x : Ix) (S X : Nat → Prop), K2 w w3 p q g s mo t x S X (.slice none 0 0) [] (.slice none 0 0) [] ∧ Kq t none 0 false [] ∧ t.r = [] := by
              have hr0 : (openS ⟨⟨100000, fs, cr, b3, ks⟩, [], 0, false⟩).r = [] := by
                rcases k3 with k | ⟨l, h, _⟩
                · exact k
                · cases h
              refine ⟨_, _, _, _, _, ⟨Kw.nil ho.so.at_, Kw.nil ho.so.at_⟩, ⟨k2, ?_, by rw [hr0]; exact Nat.zero_le _, .inl ⟨rfl, rfl⟩⟩, hr0⟩
              rw [k1] at u3
              exact Nat.le_trans u3 (by show 0 + 3 ≤ _; omega)
            clear ho k1 k2 k3 u1 u2 u3 u4 u5 sp1 HOE HF3 HKN HFN
            obtain ⟨mo, t0, x1, S2, X2, hK, hQ, hR⟩ := hst
            have HK := Lib.hid hK
            have HQ := Lib.hid hQ
            have HR := Lib.hid hR
            clear hK hQ hR
            go_wp2_with ((with_reducible refine (num_calls _ _).mono ?_); rintro ez wz ⟨rfl, hwz⟩; have hwz2 := hwz.symm; clear hwz; subst hwz2)
            go_loopw [19, 20, 21, 22] (fun v v2 uv i wr => ∃ (j : Nat) (t : St) (x : Ix) (S X : Nat → Prop) (A A2 : Option Addr) (c c2 : Nat) (un : Bool) (more : Option (List Op3)) (m2 : List Pr), v = .slice A t.r.length c ∧ v2 = .slice A2 m2.length c2 ∧ uv = .bool un ∧ i = .int .i64 j ∧ j ≤ l0.length ∧ K2 w wr p q g s mo t x S X (.slice A t.r.length c) t.r (.slice A2 m2.length c2) m2 ∧ Kq t more j un m2) (fun _ _ _ i _ => l0.length - (intOf i).toNat)
            case atStart => exact ⟨0, t0, x1, S2, X2, none, none, 0, 0, false, none, [], by rw [HR.out]; rfl, rfl, rfl, rfl, by omega, by rw [HR.out]; exact HK.out, HQ.out⟩
            case round =>
              clear HK HQ HR
              obtain ⟨j, t, x, S, X, A, A2, c, c2, un, more, m2, rfl, rfl, rfl, rfl, hj, hK, hQ⟩ := hrel
              by_cases hlt : j < l0.length
              · obtain ⟨ad, hal, h0, _⟩ := Rd.elem (f := encOv) (fun _ => rfl) rd0 (by decide) j hlt
                subst hal
                have y0 := h0 _ rfl
                rw [Nat.mul_one] at y0
                have hxo := OK0.out l0[j] (List.getElem_mem _)
                have hxl := HLI.out l0[j] (List.getElem_mem _)
                obtain ⟨o, ho⟩ : ∃ o, o = l0[j] := ⟨_, rfl⟩
                rw [← ho] at y0 hxo hxl
                have hfi : Fine o.l := ⟨hxl.1, hxl.2⟩
                have hwo := hfi.wO
                have hwt := hQ.w
                have hct := hQ.c
                have hcm := hK.commit hQ.inv htab (by omega) (Nat.le_refl _) (by omega) o hxo hfi.wt (by omega)
                have hqc := hQ.commit (by omega) mo hfi
                obtain ⟨k, hk⟩ : ∃ k, k = commitS mo t o.l := ⟨_, rfl⟩
                rw [← hk] at hcm hqc
                obtain ⟨tk, e5⟩ := k
                have y1 := hK.k1.base.cell0 y0
                have hlr := wS_len t.r
                have hlo := len_wt o.l
                have hlo2 := hfi.wt
                have HCM := Lib.hid hcm
                have HQC := Lib.hid hqc
                have HXO := Lib.hid hxo
                have HY := Lib.hid y0
                clear hcm hqc hk hxo hxl hfi h0 y0 ho hK hwo hct
                go_wp2_with fail
                refine HCM.out.mono ?_
                rintro ez w4 ⟨rfl, x', S', X', K'⟩
                simp only at K'
                have hb4 := K'.k1.base
                have hro := HXO.out.mod0 hb4
                have hrd := own_rd K'.k1.own
                have y2 := hb4.cell0 HY.out
                have HKK := Lib.hid K'
                clear K'
                obtain ⟨hok, hno, hsame, hbad, hwr⟩ := HQC.out
                simp only at hok hno hsame hbad hwr
                clear HCM HQC hQ
                have hapn : (t.r.length + o.l.length + 1) * 32 ≤ 140737488355328 := by omega
                by_cases h0 : e5 = 0
                · obtain ⟨hkr, hq1⟩ := hok h0
                  have q0 : (((e5 : Nat) : Int) == 0) = true := by rw [h0]; rfl
                  have q0' : (((e5 : Nat) : Int) != 0) = false := by rw [h0]; rfl
                  have hap := rapply_calls t.r o.l A o.A c o.c w4 hrd hro hapn
                  rw [← hkr] at hap
                  have HAP := Lib.hid hap
                  have HQ1 := Lib.hid hq1
                  clear hap hkr hok hno hsame hbad hwr hq1 hrd hro h0
                  go_wp2_with fail
                  refine (num_calls _ _).mono ?_
                  rintro ez wz ⟨rfl, hwz⟩
                  have hwz2 := hwz.symm
                  clear hwz
                  subst hwz2
                  go_wp2_with fail
                  refine HAP.out.mono ?_
                  rintro ez w5 ⟨v', rfl, hov, hm5⟩
                  have K5 := HKK.out.turn1 hm5 hov
                  obtain ⟨A5, c5', rfl, _, _, _⟩ := hov.own.out
                  have hall := sall_calls K5.k1.at_.mp (by have := wS_len tk.r; have := HQ1.out.w; omega)
                  have hown := own_rd K5.k1.own
                  have HK5 := Lib.hid K5
                  have HALL := Lib.hid hall
                  have HOWN := Lib.hid hown
                  clear K5 hov hm5 HKK HAP hall hown
                  go_wp2_with (first
                    | ((with_reducible refine HALL.out.mono ?_); rintro ez w6 ⟨A6, c6, rfl, hr6, hm6, _⟩)
                    | ((with_reducible refine (all_pairs A6 A5 c6 c5' hr6 (HOWN.out.mod0 hm6) rfl).mono ?_); rintro ez w7 ⟨rfl, hm7⟩))
                  go_roundw
                  case rel => exact ⟨j + 1, tk, x', S', X', A5, A2, c5', c2, false, none, m2, rfl, rfl, rfl, by go_num, by omega, HK5.out.mod0 (hm6.then0 hm7), HQ1.out⟩
                  case measure => simp only [intOf]; go_num
                · have hkr := hno h0
                  have q0 : (((e5 : Nat) : Int) != 0) = true := bne_iff_ne.mpr (by omega)
                  have q0' : (((e5 : Nat) : Int) == 0) = false := beq_eq_false_iff_ne.mpr (by omega)
                  have hrt := rrightops_calls o.l o.A o.c w4 hro
                  have hall4 := sall_calls HKK.out.k1.at_.mp (by rw [hkr]; omega)
                  rw [hkr] at hall4
                  by_cases h8 : e5 = 8
                  · have hq1 := hsame (.inr h8)
                    have q8 : (((e5 : Nat) : Int) != 8) = false := by rw [h8]; rfl
                    have q8' : (((e5 : Nat) : Int) == 8) = true := by rw [h8]; rfl
                    have HQ1 := Lib.hid hq1
                    have HKR := Lib.hid hkr
                    have HALL := Lib.hid hall4
                    have HOWN := Lib.hid hrd
                    clear hkr hok hno hsame hbad hwr hq1 hrd hro h0 h8 hrt hall4
                    go_wp2_with fail
                    refine (num_calls _ _).mono ?_
                    rintro ez wz ⟨rfl, hwz⟩
                    have hwz2 := hwz.symm
                    clear hwz
                    subst hwz2
                    go_wp2_with fail
                    refine (num_calls _ _).mono ?_
                    rintro ez wz ⟨rfl, hwz⟩
                    have hwz2 := hwz.symm
                    clear hwz
                    subst hwz2
                    go_wp2_with (first
                      | ((with_reducible refine HALL.out.mono ?_); rintro ez w6 ⟨A6, c6, rfl, hr6, hm6, _⟩)
                      | ((with_reducible refine (all_pairs A6 A c6 c hr6 (HOWN.out.mod0 hm6) rfl).mono ?_); rintro ez w7 ⟨rfl, hm7⟩))
                    go_roundw
                    case rel => exact ⟨j + 1, tk, x', S', X', A, A2, c, c2, un, more, m2, by rw [HKR.out], rfl, rfl, by go_num, by omega, by rw [HKR.out]; exact HKK.out.mod0 (hm6.then0 hm7), HQ1.out⟩
                    case measure => simp only [intOf]; go_num
                  · have q8 : (((e5 : Nat) : Int) != 8) = true := bne_iff_ne.mpr (by omega)
                    have q8' : (((e5 : Nat) : Int) == 8) = false := beq_eq_false_iff_ne.mpr (by omega)
                    by_cases hr : rightO o.l
                    · have hq1 := hbad h0 h8 hr
                      rw [decide_eq_true hr] at hrt
                      have hap : ∀ W, Mod NoneB w4 W → Calls Tryz.prog 17 #[.slice A t.r.length c, .slice o.A o.l.length o.c] W fun e w' => ∃ v, e = .returned v ∧ OwnP W.heap.size w' v (applyT t.r o.l) ∧ Mod NoneB W w' := fun W hW => rapply_calls t.r o.l A o.A c o.c W (hrd.mod0 hW) (hro.mod0 hW) hapn
                      have HRT := Lib.hid hrt
                      have HAP := Lib.hid hap
                      have HQ1 := Lib.hid hq1
                      have HKR := Lib.hid hkr
                      have HOWN := Lib.hid hrd
                      clear hkr hok hno hsame hbad hwr hq1 hrd hro h0 h8 hrt hr hap hall4
                      go_wp2_with fail
                      refine (num_calls _ _).mono ?_
                      rintro ez wz ⟨rfl, hwz⟩
                      have hwz2 := hwz.symm
                      clear hwz
                      subst hwz2
                      go_wp2_with fail
                      refine (num_calls _ _).mono ?_
                      rintro ez wz ⟨rfl, hwz⟩
                      have hwz2 := hwz.symm
                      clear hwz
                      subst hwz2
                      go_wp2_with fail
                      refine HRT.out.mono ?_
                      rintro ez w5 ⟨rfl, hm5⟩
                      have y3 := hm5.cell0 y2
                      go_wp2_with fail
                      refine (HAP.out w5 hm5).mono ?_
                      rintro ez w6 ⟨v', rfl, hov, hm6⟩
                      have K6 := (HKK.out.mod0 hm5).turn2 hm6 hov
                      obtain ⟨A5, c5', rfl, _, _, _⟩ := hov.own.out
                      have hall := sall_calls K6.k1.at_.mp (by rw [HKR.out]; omega)
                      rw [HKR.out] at hall
                      have hown := HOWN.out.mod0 (hm5.then0 hm6)
                      have HK6 := Lib.hid K6
                      have HALL := Lib.hid hall
                      have HOWN6 := Lib.hid hown
                      clear K6 hov hm5 hm6 HKK HAP hall hown HRT y3
                      go_wp2_with (first
                        | ((with_reducible refine HALL.out.mono ?_); rintro ez w7 ⟨A7, c7, rfl, hr7, hm7, _⟩)
                        | ((with_reducible refine (all_pairs A7 A c7 c hr7 (HOWN6.out.mod0 hm7) rfl).mono ?_); rintro ez w8 ⟨rfl, hm8⟩))
                      go_roundw
                      case rel => exact ⟨j + 1, tk, x', S', X', A, A5, c, c5', true, some o.l, applyT t.r o.l, by rw [HKR.out], rfl, rfl, by go_num, by omega, by rw [HKR.out]; exact HK6.out.mod0 (hm7.then0 hm8), HQ1.out⟩
                      case measure => simp only [intOf]; go_num
                    · have hq1 := hsame (.inl hr)
                      rw [decide_eq_false hr] at hrt
                      have HRT := Lib.hid hrt
                      have HQ1 := Lib.hid hq1
                      have HKR := Lib.hid hkr
                      have HOWN := Lib.hid hrd
                      clear hkr hok hno hsame hbad hwr hq1 hrd hro h0 h8 hrt hr hall4
                      go_wp2_with fail
                      refine (num_calls _ _).mono ?_
                      rintro ez wz ⟨rfl, hwz⟩
                      have hwz2 := hwz.symm
                      clear hwz
                      subst hwz2
                      go_wp2_with fail
                      refine (num_calls _ _).mono ?_
                      rintro ez wz ⟨rfl, hwz⟩
                      have hwz2 := hwz.symm
                      clear hwz
                      subst hwz2
                      go_wp2_with fail
                      refine HRT.out.mono ?_
                      rintro ez w5 ⟨rfl, hm5⟩
                      have K6 := HKK.out.mod0 hm5
                      have hall := sall_calls K6.k1.at_.mp (by rw [HKR.out]; omega)
                      rw [HKR.out] at hall
                      have hown := HOWN.out.mod0 hm5
                      have HK6 := Lib.hid K6
                      have HALL := Lib.hid hall
                      have HOWN6 := Lib.hid hown
                      clear K6 hm5 HKK hall hown HRT
                      go_wp2_with (first
                        | ((with_reducible refine HALL.out.mono ?_); rintro ez w7 ⟨A7, c7, rfl, hr7, hm7, _⟩)
                        | ((with_reducible refine (all_pairs A7 A c7 c hr7 (HOWN6.out.mod0 hm7) rfl).mono ?_); rintro ez w8 ⟨rfl, hm8⟩))
                      go_roundw
                      case rel => exact ⟨j + 1, tk, x', S', X', A, A2, c, c2, un, more, m2, by rw [HKR.out], rfl, rfl, by go_num, by omega, by rw [HKR.out]; exact HK6.out.mod0 (hm7.then0 hm8), HQ1.out⟩
                      case measure => simp only [intOf]; go_num
              · have hct := hQ.c
                have hwt := hQ.w
                have hlr := wS_len t.r
                have hre := hK.restart0 (hQ.inv.shut.fit (by omega) (Nat.le_refl _) (by omega)) 100000
                have hsh := hQ.inv.shut.restart ⟨100000, [], 0, false, []⟩
                have hq4 := Quiet.restart t.d 100000 []
                have hc4 : (restartD t.d ⟨100000, [], 0, false, []⟩).c = 0 := rfl
                obtain ⟨d4, hd4⟩ : ∃ d4, d4 = restartD t.d ⟨100000, [], 0, false, []⟩ := ⟨_, rfl⟩
                rw [← hd4] at hre hsh hq4 hc4
                have hris := hQ.inv.rises
                have hmw : ∀ l, more = some l → wS (applyT t.r l) ≤ 1000000 := fun l hl => by
                  have h1 := wS_apply hris l
                  rcases hQ.st with ⟨_, h⟩ | ⟨_, l', h, _, h2⟩
                  · rw [h] at hl; cases hl
                  · rw [h] at hl
                    injection hl with hl
                    subst hl
                    omega
                have hstt := hQ.st
                have HRE := Lib.hid hre
                have HSH := Lib.hid hsh
                have HQ4 := Lib.hid hq4
                have HMW := Lib.hid hmw
                have HST := Lib.hid hstt
                clear hre hsh hq4 hd4 hK hmw hstt hQ
                have q3 : ¬ ((j : Int) < (l0.length : Int)) := by omega
                go_wp2_with fail
                refine HRE.out.mono ?_
                rintro ez w4 ⟨rfl, S4, h4, ⟨hown4, hfar4⟩, ⟨hown4', hfar4'⟩⟩
                have sp4 : Sp w w4 p d4 S4 t.r more (26100 * j) 1048584 := ⟨h4, HSH.out⟩
                have HOW4 := Lib.hid hown4
                have HFAR4 := Lib.hid hfar4
                have HOW4' := Lib.hid hown4'
                have HFAR4' := Lib.hid hfar4'
                clear HRE hown4 hfar4 hown4' hfar4' h4
                go_wp2_with fail
                refine (sp4.open htab (by omega) (Nat.le_refl _) (by omega) (by omega) HMW.out 100).mono ?_
                rintro ez w5 (⟨q2, g2, s2, x5, S5, X5, rfl, ho⟩ | ⟨h0, _⟩)
                case inr => exact absurd (sp4.on.opens.2.2.2.1 HQ4.out).1 h0
                have hqo := (sp4.on.opens.2.2.2.1 HQ4.out).2
                have hco := sp4.on.opens.2.2.1
                rw [ho.dn] at hqo hco
                obtain ⟨t5, ht5⟩ : ∃ t5, t5 = openS d4 := ⟨_, rfl⟩
                have hso := ho.so
                have hmap := ho.map
                rw [← ht5] at hso hmap hqo hco
                have hw5 : wS t5.r ≤ 1000000 := by
                  rcases hmap with h | ⟨l, h, _, _, h2⟩
                  · rw [h]; omega
                  · rw [h2]; exact HMW.out l h
                have hown5 := HOW4.out.mod ho.mod HFAR4.out
                have hown5' := HOW4'.out.mod ho.mod HFAR4'.out
                have hfar5 : ∀ h, (Value.slice A t.r.length c).ownBlock = some h → ¬ S5 h := fun h hv hs => (ho.newS h hs).elim (HFAR4.out h hv) (fun hn => by have := HOW4.out.lt hv; omega)
                have hfar5' : ∀ h, (Value.slice A2 m2.length c2).ownBlock = some h → ¬ S5 h := fun h hv hs => (ho.newS h hs).elim (HFAR4'.out h hv) (fun hn => by have := HOW4'.out.lt hv; omega)
                have sp5 := hso.sp
                have HSO := Lib.hid hso
                have HMAP := Lib.hid hmap
                have HOW5 := Lib.hid hown5
                have HOW5' := Lib.hid hown5'
                have HFAR5 := Lib.hid hfar5
                have HFAR5' := Lib.hid hfar5'
                have HQO := Lib.hid hqo
                clear hso hmap hown5 hown5' hfar5 hfar5' hqo ho ht5 HOW4 HFAR4 HOW4' HFAR4' HQ4 HSH HMW
                go_wp2_with fail
                refine (sp5.open htab (by omega) (Nat.le_refl _) (by omega) hw5 (fun l h => by cases h) 100).mono ?_
                rintro ez w6 (⟨q3, g3, s3, x6, S6, X6, rfl, ho6⟩ | ⟨h0, _⟩)
                case inr => exact absurd (sp5.on.opens.2.2.2.1 HQO.out).1 h0
                have hr6 : (openS t5.d).r = t5.r := by
                  rcases ho6.map with k | ⟨l, h, _⟩
                  · exact k
                  · cases h
                have hl5 : t5.r.length ≤ 1000000 := by have := wS_len t5.r; omega
                have hmp5 := HSO.out.at_.mp.mod ho6.mod HSO.out.at_.sS (fun k hk hs => HSO.out.at_.SX k hs hk)
                have hallT : ∀ W, Mod NoneB w6 W → Calls Tryz.prog 20 #[.pointer (some ⟨s2, 0, none⟩)] W (AllE W t5.r) := fun W hm => sall_calls (hmp5.mod0 hm) hl5
                have hallU : ∀ W, Mod NoneB w6 W → Calls Tryz.prog 20 #[.pointer (some ⟨s3, 0, none⟩)] W (AllE W t5.r) := fun W hm => by
                  have h := sall_calls (ho6.so.at_.mp.mod0 hm) (by rw [hr6]; exact hl5)
                  rw [hr6] at h
                  exact h
                have hown6 := own_rd (HOW5.out.mod ho6.mod HFAR5.out)
                have hown6' := own_rd (HOW5'.out.mod ho6.mod HFAR5'.out)
                have hb6 := ho6.so.at_.lw.base
                have HT := Lib.hid hallT
                have HU := Lib.hid hallU
                have HO6 := Lib.hid hown6
                have HO6' := Lib.hid hown6'
                have HB6 := Lib.hid hb6
                clear hallT hallU hown6 hown6' hb6 hmp5 ho6 hr6 sp5 sp4 HOW5 HOW5' HFAR5 HFAR5' HSO HQO
                go_wp2_with (first
                  | ((with_reducible refine (num_calls _ _).mono ?_); rintro ez wz ⟨rfl, hwz⟩; have hwz2 := hwz.symm; clear hwz; subst hwz2)
                  | ((with_reducible refine (HT.out w6 (Mod.refl _ _)).mono ?_); rintro ez w7 ⟨A7, c7, rfl, hr7, hm7, _⟩)
                  | ((with_reducible refine (HU.out w7 hm7).mono ?_); rintro ez w8 ⟨A8, c8, rfl, hr8, hm8, _⟩)
                  | ((with_reducible refine (all_pairs A7 A8 c7 c8 (hr7.mod0 hm8) hr8 rfl).mono ?_); rintro ez w9 ⟨rfl, hm9⟩)
                  | ((with_reducible refine (HT.out w9 ((hm7.then0 hm8).then0 hm9)).mono ?_); rintro ez wa ⟨Aa, ca, rfl, hra, hma, _⟩))
                have hm6a := ((hm7.then0 hm8).then0 hm9).then0 hma
                have hpr := pairs_calls t5.r t.r Aa A ca c wa hra (HO6.out.mod0 hm6a)
                have HRA := Lib.hid hra
                have HM6A := Lib.hid hm6a
                clear hr7 hr8 hm7 hm8 hm9 hma hra hm6a
                by_cases heq : t5.r = t.r
                · rw [decide_eq_true heq] at hpr
                  have HPR := Lib.hid hpr
                  clear hpr heq HST HMAP
                  refine HPR.out.mono ?_
                  rintro ez wp ⟨rfl, hmp⟩
                  go_wp2_with ((with_reducible refine (awake10_calls _ (htab.mod0 ((HB6.out.then0 HM6A.out).then0 hmp))).mono ?_); rintro ez wk ⟨rfl, hmk⟩)
                  go_ret
                  exact ⟨rfl, ((HB6.out.then0 HM6A.out).then0 hmp).then0 hmk⟩
                · rw [decide_eq_false heq] at hpr
                  obtain ⟨hun, hm2⟩ : un = true ∧ t5.r = m2 := by
                    rcases HMAP.out with h | ⟨l, h, _, _, h2⟩
                    · exact absurd h heq
                    · rcases HST.out with ⟨_, h3⟩ | ⟨h3, l', h4, h5, _⟩
                      · rw [h3] at h; cases h
                      · rw [h4] at h
                        injection h with h
                        subst h
                        exact ⟨h3, by rw [h2, h5]⟩
                  subst hun
                  have HPR := Lib.hid hpr
                  have HM2 := Lib.hid hm2
                  clear hpr heq HST HMAP hm2
                  refine HPR.out.mono ?_
                  rintro ez wp ⟨rfl, hmp⟩
                  go_wp2_with fail
                  refine (HT.out wp (HM6A.out.then0 hmp)).mono ?_
                  rintro ez wq ⟨Aq, cq, rfl, hrq, hmq, _⟩
                  have hpr2 := all_pairs Aq A2 cq c2 hrq (HO6'.out.mod0 ((HM6A.out.then0 hmp).then0 hmq)) HM2.out
                  have HPR2 := Lib.hid hpr2
                  clear hpr2 hrq
                  go_wp2_with fail
                  refine HPR2.out.mono ?_
                  rintro ez wr2 ⟨rfl, hmr⟩
                  go_wp2_with ((with_reducible refine (awake10_calls _ (htab.mod0 ((((HB6.out.then0 HM6A.out).then0 hmp).then0 hmq).then0 hmr))).mono ?_); rintro ez wk ⟨rfl, hmk⟩)
                  go_ret
                  exact ⟨rfl, ((((HB6.out.then0 HM6A.out).then0 hmp).then0 hmq).then0 hmr).then0 hmk⟩
end Go.Proofs.YtnlmfmceogbomaaGreatDoor

