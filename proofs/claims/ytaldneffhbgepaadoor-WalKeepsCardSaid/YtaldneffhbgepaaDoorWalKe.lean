/- WalKeeps: behind a crash, wherever it is, all batches whose commit told OK are told, and at most the one behind them: the walk of the law. -/
import Derived.Test.YtaldneffhbgepaaDoorWalK
import Derived.Test.YtaldneffhbgepaaDoorBatG
import Derived.Deep.DeepCutAuto
namespace Go.Proofs.YtaldneffhbgepaaDoor
open Go.RowKit
set_option linter.unusedVariables false

theorem encOv_map (l : List OsV) : l.flatMap encOv = l.map fun x => Value.slice x.A x.l.length x.c := by
  induction l with
  | nil => rfl
  | cons x l ih => rw [List.flatMap_cons, ih]; rfl
theorem batsRd_all {w : World} {A : Option Addr} {l : List OsV} (hr : Rd w 1 A l.length (l.flatMap encOv)) (ho : ∀ x ∈ l, OsOk w x) : BatsRd w A l.length (l.map (·.l)) (l.flatMap encOv) := by
  refine ⟨hr, by rw [encOv_map]; simp, fun i h1 h2 => ?_⟩
  have hi : i < l.length := by simpa using h1
  have h := ho l[i] (List.getElem_mem _)
  refine ⟨l[i].A, l[i].c, ?_, ?_⟩
  · simp only [encOv_map, List.getElem_map]
  · simp only [List.getElem_map]; exact h
theorem own_far {w w1 : World} {T sz n : Nat} {v : Value} {cs : List Value} {S S' : Nat → Prop} (h : Own w T sz v n cs) (hf : ∀ g, v.ownBlock = some g → ¬ S g) (hm : Mod S w w1) (hn : ∀ k, S' k → S k ∨ w.heap.size ≤ k) : Own w1 T sz v n cs ∧ ∀ g, v.ownBlock = some g → ¬ S' g :=
  ⟨h.mod hm hf, fun g hg hs => (hn g hs).elim (hf g hg) (fun hl => by have := h.lt hg; omega)⟩
def hdO (x : OsV) : Value := .slice x.A x.l.length x.c
def lsO (l : List OsV) : List (List Op3) := l.map (·.l)
/-- Behind some commits: SL is what is held as sure, SM what the log has. -/
structure KIn (w0 w : World) (p q j k : Nat) (v17 v18 : Value) (b : Bool) (d : Dk) (S : Nat → Prop) (sk : Bool) (SL : List OsV) (SM : List (List Op3)) : Prop where
  lw : Lw w0 w p d S
  nS : ¬ S q
  hq : w.heap[q]? = some (wblk p (catO SM).length sk)
  q0 : w0.heap.size ≤ q
  own : Own w 22 1 v17 SL.length (SL.flatMap encOv)
  far : ∀ g, v17.ownBlock = some g → ¬ S g
  new : ∀ g, v17.ownBlock = some g → w0.heap.size ≤ g ∧ g ≠ q
  right : ∀ x ∈ SL, OsOk w0 x
  rightM : ∀ l ∈ SM, rightO l ∧ wtO l ≤ 5000
  len : SL.length ≤ j
  lenM : SM.length ≤ j
  c : d.c ≤ 2 + 3 * j
  kp : d.p.keep = [(k : Int)]
  st : (sk = false ∧ KGood SM d) ∨ (sk = true ∧ b = true ∧ ∃ x, OsOk w0 x ∧ rightO x.l ∧ wtO x.l ≤ 5000 ∧ v18 = hdO x ∧ KSick SM x.l d)
/-- What a commit told and made. -/
inductive KTold (w0 w1 : World) (p q j k : Nat) (v17 v18 : Value) (b : Bool) (SL : List OsV) (SM : List (List Op3)) (x : OsV) (e : Ending) : Prop
  | ok (d S) (he : e = .returned (.int .i64 0)) (hr : rightO x.l) (K : KIn w0 w1 p q (j + 1) k v17 v18 b d S false SL (SM ++ [x.l]))
  | bad (ev : Nat) (d S sk) (he : e = .returned (.int .i64 ev)) (h0 : ev ≠ 0) (h8 : ev ≠ 8) (hr : rightO x.l) (K : KIn w0 w1 p q (j + 1) k v17 (hdO x) true d S sk SL SM)
  | wrong (d S) (he : e = .returned (.int .i64 1)) (hr : ¬ rightO x.l) (K : KIn w0 w1 p q (j + 1) k v17 v18 b d S false SL SM)
  | sick (d S) (he : e = .returned (.int .i64 8)) (K : KIn w0 w1 p q (j + 1) k v17 v18 b d S true SL SM)
section
variable {w0 w w1 : World} {p q j k : Nat} {v17 v18 : Value} {b : Bool} {d : Dk} {S : Nat → Prop} {sk : Bool} {SL : List OsV} {SM : List (List Op3)}
theorem KIn.mod0 (K : KIn w0 w p q j k v17 v18 b d S sk SL SM) (hm : Mod NoneB w w1) : KIn w0 w1 p q j k v17 v18 b d S sk SL SM :=
  ⟨K.lw.mod0 hm, K.nS, hm.blk K.hq (fun h => h), K.q0, K.own.mod0 hm, K.far, K.new, K.right, K.rightM, K.len, K.lenM, K.c, K.kp, K.st⟩
theorem KIn.size (K : KIn w0 w p q j k v17 v18 b d S sk SL SM) (hj : j ≤ 40) : (catO SM).length ≤ 1044000 := by
  have h := catO_le5 SM K.rightM
  have h2 := Nat.mul_le_mul_left 26100 (Nat.le_trans K.lenM hj)
  omega
theorem KIn.fit (K : KIn w0 w p q j k v17 v18 b d S sk SL SM) (hj : j ≤ 40) : FitL d := by
  have h3 := K.size hj
  have hc := K.c
  rcases K.st with ⟨_, h, _⟩ | ⟨_, _, x, _, hr, hw, _, r, s, h, _, _, h5⟩
  · exact fitL_at h (by omega) (by omega)
  · refine fitL_at h (by omega) ?_
    rw [List.length_append]
    have := bytesO_len hr hw
    rcases h5 with rfl | rfl
    · simp; omega
    · omega
theorem KIn.told {x : OsV} {e : Ending} (K : KIn w0 w p q j k v17 v18 b d S sk SL SM) (hx : OsOk w0 x) (hw : wtO x.l ≤ 5000) (h : WalOk w0 w p q S (commitW d (catO SM).length sk x.l) e w1) : KTold w0 w1 p q j k v17 v18 b SL SM x e := by
  obtain ⟨he, S', h1, h2, h3, h4, h5⟩ := h
  have hmS : ∀ g, v17.ownBlock = some g → ¬ (S g ∨ g = q) := fun g hg h => h.elim (K.far g hg) (K.new g hg).2
  obtain ⟨ho, hf⟩ := own_far (S' := S') K.own hmS h4 (fun k hk => (h5 k hk).elim (fun h => .inl (.inl h)) .inr)
  obtain ⟨hp, hc⟩ := commit_small d (catO SM).length x.l
  have hkc := K.c
  have hl1 := K.len
  have hl2 := K.lenM
  rcases K.st with ⟨rfl, hg⟩ | ⟨rfl, hb, y, hy⟩
  · have hcw : commitW d (catO SM).length false x.l = commitD d (catO SM).length x.l := rfl
    rw [hcw] at he h1 h3
    by_cases hr : rightO x.l
    · rcases keeps_commit SM x.l d hg hr with ⟨k1, k2, k3, k4⟩ | ⟨k1, k2, k3, k4⟩
      · rw [k1] at he
        rw [k2, k3] at h3
        refine .ok (commitD d (catO SM).length x.l).d S' he hr ⟨h1, h2, h3, K.q0, ho, hf, K.new, K.right, ?_, by omega, by rw [List.length_append]; show SM.length + 1 ≤ _; omega, by omega, hp ▸ K.kp, .inl ⟨rfl, k4⟩⟩
        intro l hl
        rcases List.mem_append.1 hl with h | h
        · exact K.rightM l h
        · rw [List.mem_singleton] at h; subst h; exact ⟨hr, hw⟩
      · rw [k3] at h3
        refine .bad _ (commitD d (catO SM).length x.l).d S' (commitD d (catO SM).length x.l).sk he k1 k2 hr ⟨h1, h2, h3, K.q0, ho, hf, K.new, K.right, K.rightM, by omega, by omega, by omega, hp ▸ K.kp, ?_⟩
        rcases k4 with ⟨k4, k5⟩ | ⟨k4, k5⟩
        · exact .inl ⟨k4, k5⟩
        · exact .inr ⟨k4, rfl, x, hx, hr, hw, rfl, k5⟩
    · rw [commit_wrong _ _ _ hr] at he h1 h3
      exact .wrong d S' he hr ⟨h1, h2, h3, K.q0, ho, hf, K.new, K.right, K.rightM, by omega, by omega, by omega, K.kp, .inl ⟨rfl, hg⟩⟩
  · have hcw : commitW d (catO SM).length true x.l = ⟨d, (catO SM).length, true, 8⟩ := rfl
    rw [hcw] at he h1 h3
    exact .sick d S' he ⟨h1, h2, h3, K.q0, ho, hf, K.new, K.right, K.rightM, by omega, by omega, by omega, K.kp, .inr ⟨rfl, hb, y, hy⟩⟩
theorem KIn.snoc {x : OsV} {v' : Value} {b' : Bool} {blk : Obj} (K : KIn w0 w p q j k v17 v18 b d S false SL (lsO SL ++ [x.l])) (hx : OsOk w0 x) (hl : SL.length + 1 ≤ j) (hm : Mod (OnlyBlk v17) (w.alloc blk) w1) (hno : NewOr (w.alloc blk) v17 v') (ho : Own w1 22 1 v' (SL.length + 1) (SL.flatMap encOv ++ [hdO x])) :
    KIn w0 w1 p q j k v' v18 b' d S false (SL ++ [x]) (lsO (SL ++ [x])) := by
  have hal : Mod NoneB w (w.alloc blk) := (Mod.refl NoneB w).alloc _
  have h1 : Mod (fun g => v17.ownBlock = some g) w w1 := (hal.mono (fun _ _ h => h.elim)).trans hm (fun _ _ h => h)
  have e : lsO (SL ++ [x]) = lsO SL ++ [x.l] := by simp [lsO]
  have hs : w.heap.size ≤ (w.alloc blk).heap.size := hal.size
  have hq := blk_lt K.hq
  have hsz : ∀ g, S g → g < w.heap.size := fun g hg => K.lw.isD.lt hg
  refine ⟨K.lw.modX h1 (fun g hg => ⟨K.far g hg, (K.new g hg).1⟩), K.nS, ?_, K.q0, ?_, ?_, ?_, ?_, by rw [e]; exact K.rightM, by rw [List.length_append]; exact hl, by rw [e]; exact K.lenM, K.c, K.kp, .inl ⟨rfl, ?_⟩⟩
  · rw [e]; exact h1.blk K.hq (fun h => (K.new q h).2 rfl)
  · rw [List.length_append, List.flatMap_append]
    exact ho
  · intro g hg
    rcases hno with h | ⟨g', h, hb⟩
    · exact K.far g (by rw [← h]; exact hg)
    · rw [h] at hg; injection hg with hg; subst hg
      intro hS
      have := hsz _ hS
      omega
  · intro g hg
    rcases hno with h | ⟨g', h, hb⟩
    · exact K.new g (by rw [← h]; exact hg)
    · rw [h] at hg; injection hg with hg; subst hg
      have := K.lw.base.size
      exact ⟨by omega, by omega⟩
  · intro y hy
    rcases List.mem_append.1 hy with h | h
    · exact K.right y h
    · rw [List.mem_singleton] at h; subst h; exact hx
  · rcases K.st with ⟨_, h⟩ | ⟨h, _⟩
    · rw [e]; exact h
    · cases h
/-- At the end. -/
theorem KIn.last (K : KIn w0 w p q j k v17 v18 b d S sk SL (lsO SL)) (hj : j ≤ 40) :
    ∃ (T : List UInt8) (R : List (List Op3)) (c9 : Nat), restartD d ⟨100000, [], 0, false, []⟩ = freeD 100000 [] [⟨sLog, T, T.length⟩] 0 ∧ T.length ≤ 1100000 ∧ c9 ≤ 2 ∧ (catO R).length ≤ 1100000 ∧
      logL (freeD 100000 [] [⟨sLog, T, T.length⟩] 0) = R ∧ openD (freeD 100000 [] [⟨sLog, T, T.length⟩] 0) = (freeD 100000 [] [⟨sLog, catO R, (catO R).length⟩] c9, 0) ∧
      openD (freeD 100000 [] [⟨sLog, catO R, (catO R).length⟩] c9) = (freeD 100000 [] [⟨sLog, catO R, (catO R).length⟩] (c9 + 1), 0) ∧ logL (freeD 100000 [] [⟨sLog, catO R, (catO R).length⟩] c9) = R ∧
      (R = lsO SL ∨ (R ≠ lsO SL ∧ ∃ x, OsOk w0 x ∧ b = true ∧ v18 = hdO x ∧ R = lsO (SL ++ [x]))) := by
  have hn : (lsO SL).length ≤ 40 := Nat.le_trans K.lenM hj
  rcases K.st with ⟨_, h⟩ | ⟨_, hb, x, hx, hr, hw, hv, hk⟩
  · obtain ⟨T, R, c9, h1, h2, h3, h4, h5, h6, h7, h8, _, h10⟩ := keeps_end (lsO SL) [opA] d k (KSick.of h.1) K.kp K.rightM ⟨opA_right, opA_wt⟩ hn
    exact ⟨T, R, c9, h1, h2, h3, h4, h5, h6, h7, h8, .inl (h10 h)⟩
  · obtain ⟨T, R, c9, h1, h2, h3, h4, h5, h6, h7, h8, h9, _⟩ := keeps_end (lsO SL) x.l d k hk K.kp K.rightM ⟨hr, hw⟩ hn
    refine ⟨T, R, c9, h1, h2, h3, h4, h5, h6, h7, h8, ?_⟩
    rcases h9 with h | h
    · exact .inl h
    · refine .inr ⟨?_, x, hx, hb, hv, by rw [h]; simp [lsO]⟩
      rw [h]
      intro he
      have := congrArg List.length he
      simp at this
end

set_option maxHeartbeats 12000000 in
set_option maxRecDepth 100000 in
theorem walKeeps_walk (l0 : List OsV) (z1 : Int) (b2 : Bool) (z3 : Int) (l4 : List UInt8) (a0 a4 : Option Addr) (c0 c4 : Nat) (w : World) (rd0 : Rd w 1 a0 l0.length (l0.flatMap encOv)) (ok0 : ∀ x ∈ l0, OsOk w x)
    (wz1 : (Lit.int .u8 z1).wf = true) (wz3 : (Lit.int .u16 z3).wf = true) (rd4 : Rd w 1 a4 l4.length (encB l4)) (htab : TabW w) :
    Calls Tryd.prog 9 #[.slice a0 l0.length c0, .int .u8 z1, .bool b2, .int .u16 z3, .slice a4 l4.length c4] w fun e w' => e = .returned (.bool true) ∧ Mod NoneB w w' := by
  have hz1 : 0 ≤ z1 ∧ z1 ≤ 255 := by simp [Lit.wf] at wz1; exact wz1
  have hz3 : 0 ≤ z3 ∧ z3 ≤ 65535 := by simp [Lit.wf] at wz3; exact wz3
  obtain ⟨hz10, hz11⟩ := hz1
  obtain ⟨hz30, hz31⟩ := hz3
  clear wz1 wz3
  have huos := Tryd.underlying32
  have hhe := heavy7_calls l0 [] a0 none c0 0 w rd0 ok0 (Rd.nil _ _ _) (fun x hx => by cases hx)
  have HHE := Lib.hid hhe
  have OK0 := Lib.hid ok0
  clear hhe ok0
  go_enter Tryd.func9, Tryd.ntmps9
  go_wp2_with fail
  refine HHE.out.mono ?_
  rintro e w1 ⟨b, rfl, hm1, hb1⟩
  clear HHE
  cases b with
  | true =>
    clear hb1
    go_wp2_with ((with_reducible refine (awake7_calls _ (htab.mod0 hm1)).mono ?_); rintro e wz ⟨rfl, hmz⟩)
    go_ret
    exact ⟨rfl, hm1.then0 hmz⟩
  | false =>
    by_cases hlk : 20 < l4.length
    · have hg : (20 : Int) < (l4.length : Int) := by omega
      clear hb1
      go_wp2_with ((with_reducible refine (awake7_calls _ (htab.mod0 hm1)).mono ?_); rintro e wz ⟨rfl, hmz⟩)
      go_ret
      exact ⟨rfl, hm1.then0 hmz⟩
    have hg : ¬ (20 : Int) < (l4.length : Int) := by omega
    obtain ⟨⟨hl40, hli⟩, _⟩ := hb1 rfl
    have HLI := Lib.hid hli
    have rd41 := rd4.mod0 hm1
    clear hb1 hli rd4
    go_wp2_with fail
    obtain ⟨cr, hcr⟩ : ∃ cr, cr = 3 + z1 % 80 := ⟨_, rfl⟩
    have hcr3 : 3 ≤ cr := by omega
    obtain ⟨k, hk⟩ : ∃ k : Nat, z3 % 3000 = k := ⟨(z3 % 3000).toNat, by omega⟩
    obtain ⟨ks, hks⟩ : ∃ ks : List Int, ks = l4.map fun z => 3 + (z.toNat : Int) := ⟨_, rfl⟩
    have hkn : ks.length = l4.length := by rw [hks]; simp
    have hkg : ∀ j, ∀ h : j < l4.length, ks.take (j + 1) = ks.take j ++ [3 + (l4[j].toNat : Int)] := by
      intro j h
      rw [List.take_succ_eq_append_getElem (by omega)]
      simp [hks]
    have hk3 : ∀ x ∈ ks, 3 ≤ x := by
      intro x hx
      rw [hks] at hx
      obtain ⟨z, _, rfl⟩ := List.mem_map.1 hx
      omega
    have HKN := Lib.hid hkn
    have HKG := Lib.hid hkg
    have HK3 := Lib.hid hk3
    rw [← hcr, hk]
    obtain ⟨B, hB⟩ : ∃ B, B = w1.heap.size := ⟨_, rfl⟩
    have hbx := box2 w1 (.cells #[.int .i64 k] 3) (.cells #[.int .i64 100000, .slice none 0 0, .int .i64 cr, .bool b2, .slice (some ⟨B, 0, none⟩) 1 1] 51)
    have hmb : Mod NoneB w1 ((w1.alloc (.cells #[.int .i64 k] 3)).alloc (.cells #[.int .i64 100000, .slice none 0 0, .int .i64 cr, .bool b2, .slice (some ⟨B, 0, none⟩) 1 1] 51)) := ((Mod.refl NoneB w1).alloc _).alloc _
    have hsb : ((w1.alloc (.cells #[.int .i64 k] 3)).alloc (.cells #[.int .i64 100000, .slice none 0 0, .int .i64 cr, .bool b2, .slice (some ⟨B, 0, none⟩) 1 1] 51)).heap.size = B + 2 := by rw [hB]; simp
    rw [← hB] at hbx ⊢
    obtain ⟨hb0, hb1⟩ := hbx
    generalize ((w1.alloc (.cells #[.int .i64 k] 3)).alloc (.cells #[.int .i64 100000, .slice none 0 0, .int .i64 cr, .bool b2, .slice (some ⟨B, 0, none⟩) 1 1] 51)) = wb at hb0 hb1 hmb hsb ⊢
    have rd4b := rd41.mod0 hmb
    have hk4 : ∀ wr, Mod (fun k => k = B + 1) wb wr → Rd wr 1 a4 l4.length (encB l4) := fun wr hm => rd4b.modP hm (fun hp ad hA he => by
      have := rd41.block_lt (by decide) hp ad hA
      omega)
    have hkf : ∀ wr, Mod (fun k => k = B + 1) wb wr → Rd wr 1 (some ⟨B, 0, none⟩) 1 (encI [(k : Int)]) := fun wr hm => rdBlk (sz := 1) (n := 1) (hm.blk hb0 (fun h => by omega)) rfl (by omega)
    have hkw : ∀ wr, Mod (fun k => k = B + 1) wb wr → Mod NoneB w wr := fun wr hm => hm1.then0 (hmb.trans_new hm (fun k hk => .inr (by omega)))
    have HK4 := Lib.hid hk4
    have HKF := Lib.hid hkf
    have HKW := Lib.hid hkw
    have HB := Lib.hid hB
    have HSB := Lib.hid hsb
    clear hks hkn hkg hk3 hcr hk hB rd4b rd41 hk4 hkf hkw hmb hb0 hm1 hsb
    go_loopw [12] (fun t wr => ∃ (j : Nat) (kv : Value), t = .int .i64 j ∧ j ≤ l4.length ∧ wr.heap[B + 1]? = some (.cells #[.int .i64 100000, kv, .int .i64 cr, .bool b2, .slice (some ⟨B, 0, none⟩) 1 1] 51 (0, 0)) ∧ Own wr 3 1 kv (ks.take j).length (encI (ks.take j)) ∧ Mod (fun k => k = B + 1) wb wr ∧ (∀ g, kv.ownBlock = some g → wb.heap.size ≤ g)) (fun t _ => l4.length - (intOf t).toNat)
    case atStart => exact ⟨0, _, rfl, by omega, hb1, Own.nil _ _ _, Mod.refl _ _, fun g h => by simp [Value.ownBlock] at h⟩
    case round =>
      obtain ⟨j, kv, rfl, hj, hbk, hov, hmj, hnv⟩ := hrel
      clear hb1
      by_cases hlt : j < l4.length
      · obtain ⟨ad, rfl, h0⟩ := (HK4.out wr hmj).bytes j hlt
        have hft := HKG.out j hlt
        have hxl := l4[j].toNat_lt
        obtain ⟨f, hf⟩ : ∃ f, f = l4[j].toNat := ⟨_, rfl⟩
        rw [← hf] at h0 hft hxl
        obtain ⟨nt, hnt⟩ : ∃ nt, nt = (ks.take j).length := ⟨_, rfl⟩
        rw [← hnt] at hov
        have hntl : nt ≤ 20 := by rw [hnt, List.length_take]; omega
        have HNT := Lib.hid hnt
        have HFT := Lib.hid hft
        have HNV := Lib.hid hnv
        have hal : Mod NoneB wr (wr.drew.alloc (.cells #[.int .i64 (3 + (f : Int))] 3)) := ((Mod.refl NoneB wr).drew).alloc _
        have hox := hov.mod0 hal
        have hnx : 0 < 1 → ∃ a, (some ⟨wr.heap.size, 0, none⟩ : Option Addr) = some a ∧ ∀ (j : Nat) u, (encI [3 + (f : Int)])[j]? = some u → (wr.drew.alloc (.cells #[.int .i64 (3 + (f : Int))] 3)).cell? (a.add j) = some u := (rdBlk (sz := 1) (n := 1) (heap_alloc_new wr.drew (.cells #[.int .i64 (3 + (f : Int))] 3)) rfl (by omega)).2.2
        have hu := Tryd.underlying39
        have h8 : (nt + 1) * 8 ≤ 140737488355328 := by omega
        have y4 : wr.cell? ⟨B + 1, 1, none⟩ = some kv := blk_cell hbk 1
        have y4a : (wr.alloc (.cells #[.int .i64 (3 + (f : Int))] 3)).cell? ⟨B + 1, 1, none⟩ = some kv := blk_cell (((Mod.refl NoneB wr).alloc (.cells #[.int .i64 (3 + (f : Int))] 3)).blk hbk (fun h => h)) 1
        have hg1 : ∀ w5 : World, Mod (OnlyBlk kv) (wr.drew.alloc (.cells #[.int .i64 (3 + (f : Int))] 3)) w5 → w5.heap[B + 1]? = some (.cells #[.int .i64 100000, kv, .int .i64 cr, .bool b2, .slice (some ⟨B, 0, none⟩) 1 1] 51 (0, 0)) := by
          intro w5 hm
          refine hm.blk (hal.blk hbk (fun h => h)) (fun h => ?_)
          have := HNV.out _ h
          have := HSB.out
          omega
        have HG1 := Lib.hid hg1
        have g0 : (0 : Int) ≤ (j : Int) := by omega
        have g1 : (j : Int) < (l4.length : Int) := by omega
        have g2 : IntKind.i64.wrap (f : Int) = f := IntWalk.i64_in _ (by omega)
        have g3 : IntKind.i64.wrap (3 + (f : Int)) = 3 + f := IntWalk.i64_in _ (by omega)
        clear hnt hft hnv hov hf hg1 hbk
        obtain ⟨A5, c5, rfl, _, _, _⟩ := hox.out
        go_wp2_with fail
        go_region_law (refine step_app rfl (.tmp 54) (.tmp 61) 39 rfl 3 _ 1 8 hu tiI rfl (by decide) (by decide) _ nt (encI (ks.take j)) (by simp [Act.eval]) hox (some ⟨wr.heap.size, 0, none⟩) 1 1 (encI [3 + (f : Int)]) (by simp [Act.eval]) rfl hnx (encI_one _) h8 ?_; intro v5 w5 ho5 hm5 hno5; obtain ⟨V5, cv5, rfl, _, _, _⟩ := ho5.out; have y5 : w5.cell? ⟨B + 1, 1, none⟩ = some (.slice A5 nt c5) := (blk_cell (HG1.out w5 hm5) 1); have fr5 : w5.frozen? ⟨B + 1, 1, none⟩ = false := blk_frozen (HG1.out w5 hm5) 1)
        all_goals
          have hb5 := setCell_blk (p := B + 1) (j := 1) (u := .slice V5 (nt + 1) cv5) (HG1.out w5 hm5)
          have hms : Mod (fun k => k = B + 1) w5 (w5.setCell ⟨B + 1, 1, none⟩ (.slice V5 (nt + 1) cv5)) := Mod.setCell (S := fun k => k = B + 1) (Mod.refl _ _) (p := ⟨B + 1, 1, none⟩) (fun _ => rfl) _
          have hn5 : ∀ g, (Value.slice V5 (nt + 1) cv5).ownBlock = some g → wb.heap.size ≤ g := by
            intro g hg
            rcases hno5 with hq | ⟨b, hq, hb⟩
            · exact HNV.out g (by rw [← hq]; exact hg)
            · rw [hq] at hg
              injection hg with hg
              have h1 := hmj.size
              have h2 := hal.size
              subst hg
              exact Nat.le_trans (Nat.le_trans h1 h2) hb
          have hv5 : Own (w5.setCell ⟨B + 1, 1, none⟩ (.slice V5 (nt + 1) cv5)) 3 1 (.slice V5 (nt + 1) cv5) (ks.take (j + 1)).length (encI (ks.take (j + 1))) := by
            have h2 := ho5.mod hms (fun g hg he => by
              have := hn5 g hg
              have := HSB.out
              omega)
            rw [HFT.out, List.length_append]
            have e : encI (ks.take j ++ [3 + (f : Int)]) = encI (ks.take j) ++ encI [3 + (f : Int)] := by simp [encI]
            rw [e]
            have e2 : (ks.take j).length + [3 + (f : Int)].length = nt + 1 := by rw [← HNT.out]; rfl
            rw [e2]
            exact h2
          have hmw : Mod (fun k => k = B + 1) wb (w5.setCell ⟨B + 1, 1, none⟩ (.slice V5 (nt + 1) cv5)) := by
            have h1 : Mod (fun k => k = B + 1) wb w5 := (hmj.then0 hal).trans_new hm5 (fun k hk => .inr (HNV.out k hk))
            exact h1.trans hms (fun _ _ h => h)
          have HB5 := Lib.hid hb5
          have HV5 := Lib.hid hv5
          have HN5 := Lib.hid hn5
          have HMW := Lib.hid hmw
          clear hb5 hv5 hn5 hmw hms ho5 hox hnx hno5 h0 y4 y4a y5
          go_wp2_with fail
          go_roundw
          case rel => exact ⟨j + 1, _, by go_num, by omega, HB5.out.trans rfl, HV5.out, HMW.out, HN5.out⟩
          case measure => simp [intOf]; omega
      · have hje : ks.take j = ks := List.take_of_length_le (by rw [HKN.out]; omega)
        rw [hje] at hov
        have hkl : ks.length ≤ 20 := by rw [HKN.out]; omega
        obtain ⟨K, kc, rfl, hK⟩ := hov.nilD0
        have y0 : wr.cell? ⟨B + 1, 0, none⟩ = some (.int .i64 100000) := blk_cell hbk 0
        have y1 : wr.cell? ⟨B + 1, 1, none⟩ = some (.slice K ks.length kc) := blk_cell hbk 1
        have y2 : wr.cell? ⟨B + 1, 2, none⟩ = some (.int .i64 cr) := blk_cell hbk 2
        have y3 : wr.cell? ⟨B + 1, 3, none⟩ = some (.bool b2) := blk_cell hbk 3
        have y4 : wr.cell? ⟨B + 1, 4, none⟩ = some (.slice (some ⟨B, 0, none⟩) 1 1) := blk_cell hbk 4
        have hnw := Dw.new w wr (HKW.out wr hmj) ⟨100000, ks, cr, b2, [(k : Int)]⟩ K (some ⟨B, 0, none⟩) kc 1 hK (HKF.out wr hmj) (by show ks.length ≤ 1099511627776; omega) (by show 1 ≤ 1099511627776; omega)
        have HNW := Lib.hid hnw
        have g1 : ¬ ((j : Int) < (l4.length : Int)) := by omega
        obtain ⟨hop, hon, hol⟩ := cr_open (cap := 100000) (crash := cr) (done := b2) (keep := [(k : Int)]) (fail := ks) (by omega) (by omega) (fun h => by have := HK3.out _ h; omega) (fun h => by have := HK3.out _ h; omega)
        have HOP := Lib.hid hop
        have HON := Lib.hid hon
        clear hje hov hbk hmj hnv hnw hK hop hon hol HK4 HKF HKW HK3 HKG HKN
        go_wp2_with fail
        refine HNW.out.mono ?_
        rintro e w5 ⟨p, rfl, hdw⟩
        clear HNW y0 y1 y2 y3 y4
        obtain ⟨S5, h5'⟩ := Lw.dw hdw
        have h5 : Lw w w5 p (crD 100000 cr b2 [(k : Int)] ks [] 0) S5 := h5'
        clear h5' hdw
        go_wp2_with fail
        refine (h5.open htab ⟨by show 0 ≤ _; omega, by show 0 ≤ _; omega, by show 0 ≤ _; omega⟩ (by rw [HOP.out])).mono ?_
        rintro e w6 ⟨S6, q, vl, vs, rfl, h6, _, _, hqN, hqS6, hq6, hba⟩
        rw [HOP.out] at h6
        rw [HON.out] at hq6
        obtain ⟨A6, c6, rfl, _⟩ := hba.rd
        have hq0 : w.heap.size ≤ q := Nat.le_trans h5.base.size hqN
        have K0 : KIn w w6 p q 0 k (.slice none 0 0) (.slice none 0 0) false (crD 100000 cr b2 [(k : Int)] ks [⟨sLog, [], 0⟩] 2) S6 false [] (lsO []) :=
          ⟨h6, hqS6, hq6, hq0, Own.nil _ _ _, (fun g h => by simp [Value.ownBlock] at h), (fun g h => by simp [Value.ownBlock] at h), (fun x hx => by cases hx), (fun x hx => by cases hx), Nat.le_refl _, Nat.le_refl _, (by show 2 ≤ 2 + 3 * 0; omega), rfl, .inl ⟨rfl, rfl, rfl⟩⟩
        have HK0 := Lib.hid K0
        clear hba hqN h5 HOP HON h6 hq6 hqS6 K0 g1 hkl
        go_wp2_with ((with_reducible refine (num_calls _ _).mono ?_); rintro ez wz ⟨rfl, rfl⟩)
        go_loopw [17, 18, 19, 20, 21] (fun v17 v18 v19 t v21 wr => ∃ (j : Nat) (b : Bool) (d : Dk) (S : Nat → Prop) (sk : Bool) (SL : List OsV), t = .int .i64 j ∧ v19 = .bool b ∧ j ≤ l0.length ∧ KIn w wr p q j k v17 v18 b d S sk SL (lsO SL)) (fun v17 v18 v19 t v21 _ => l0.length - (intOf t).toNat)
        case atStart => exact ⟨0, false, _, S6, false, [], rfl, rfl, by omega, HK0.out⟩
        case round =>
          obtain ⟨j2, b, d, S, sk, SL, rfl, rfl, hj2, K⟩ := hrel
          clear HK0
          by_cases hlt : j2 < l0.length
          · obtain ⟨ad, rfl, h0, _⟩ := Rd.elem (f := encOv) (fun _ => rfl) (rd0.mod0 K.lw.base) (by decide) j2 hlt
            have y0 := h0 _ rfl
            rw [Nat.mul_one] at y0
            have hxo := OK0.out l0[j2] (List.getElem_mem _)
            have hxw := (HLI.out l0[j2] (List.getElem_mem _)).1
            obtain ⟨x, hx⟩ : ∃ x, x = l0[j2] := ⟨_, rfl⟩
            rw [← hx] at y0 hxo hxw
            have hsx := smallO_of hxw
            have hcm := K.lw.commit htab (K.fit (by omega)) K.hq K.nS K.q0 (by have := K.size (by omega); omega) x.l x.A x.c (hxo.mod0 K.lw.base) hsx
            have HCM := Lib.hid hcm
            have q2 : (0 : Int) ≤ (j2 : Int) := by omega
            have q3 : (j2 : Int) < (l0.length : Int) := by omega
            obtain ⟨A5, c5, rfl, _, _, _⟩ := K.own.out
            have hgt : ∀ wx, Mod NoneB w wx → wx.cell? (ad.add j2) = some (.slice x.A x.l.length x.c) := by
              intro wx hm
              obtain ⟨ad', e', h0', _⟩ := Rd.elem (f := encOv) (fun _ => rfl) (rd0.mod0 hm) (by decide) j2 hlt
              injection e' with e'
              subst e'
              have y := h0' _ rfl
              rw [Nat.mul_one, ← hx] at y
              exact y
            have HGT := Lib.hid hgt
            clear hx h0 hsx hcm hgt
            go_wp2_with fail
            refine HCM.out.mono ?_
            intro e w7 hwo
            have hT := K.told hxo hxw hwo
            clear HCM K hwo
            have hln : SL.length ≤ 40 := by
              cases hT with
              | ok _ _ _ _ K => have := K.len; omega
              | bad _ _ _ _ _ _ _ _ K => have := K.len; omega
              | wrong _ _ _ _ K => have := K.len; omega
              | sick _ _ _ K => have := K.len; omega
            cases hT with
            | ok d7 S7 he hr K7 =>
              subst he
              have y7 := HGT.out _ K7.lw.base
              have hSL : SL.length + 1 ≤ j2 + 1 := by have := K7.lenM; simpa [lsO] using this
              have hbx7 := box1 w7 (.cells #[.slice x.A x.l.length x.c] 22)
              have hal : Mod NoneB w7 (w7.alloc (.cells #[.slice x.A x.l.length x.c] 22)) := (Mod.refl NoneB w7).alloc _
              have ho7 := K7.own.mod0 hal
              have hnx : 0 < 1 → ∃ a, (some ⟨w7.heap.size, 0, none⟩ : Option Addr) = some a ∧ ∀ (i : Nat) u, ([hdO x])[i]? = some u → (w7.alloc (.cells #[.slice x.A x.l.length x.c] 22)).cell? (a.add i) = some u := (rd_blk (sz := 1) (n := 1) hbx7 rfl (by decide)).2.2
              have h24 : (SL.length + 1) * 24 ≤ 140737488355328 := by omega
              have HK7 := Lib.hid K7
              clear K7 hbx7 y0
              go_wp2_with first
                | ((with_reducible refine (num_calls _ _).mono ?_); rintro ez wz ⟨rfl, hwz⟩; have hwz2 := hwz.symm; clear hwz; subst hwz2)
                | (at_builtin; refine wpList_append rfl (.tmp 94) (.tmp 99) 32 rfl 22 _ 1 24 huos tiOps rfl (by decide) (by decide) _ SL.length (SL.flatMap encOv) rfl ho7 (some ⟨w7.heap.size, 0, none⟩) 1 1 [hdO x] rfl rfl hnx (fun u hu => by rw [List.mem_singleton] at hu; subst hu; rfl) h24 ?_)
              intro v8 w8 ho8 hm8 hno8
              have K8 := HK7.out.snoc (b' := false) hxo hSL hm8 hno8 ho8
              have HK8 := Lib.hid K8
              clear K8 HK7 ho8 hm8 hno8 ho7 hnx hal hr
              go_wp2_with fail
              go_roundw
              case rel => exact ⟨j2 + 1, false, _, _, _, _, by go_num, rfl, by omega, HK8.out⟩
              case measure => simp [intOf]; omega
            | bad ev d7 S7 sk7 he hn0 hn8 hr K7 =>
              subst he
              have y7 := HGT.out _ K7.lw.base
              have q4 : (((ev : Nat) : Int) == 0) = false := beq_eq_false_iff_ne.mpr (by omega)
              have q5 : (((ev : Nat) : Int) != 8) = true := bne_iff_ne.mpr (by omega)
              have hro := rrightops_calls x.l x.A x.c w7 (hxo.mod0 K7.lw.base)
              rw [decide_eq_true hr] at hro
              have HRO := Lib.hid hro
              have HK7 := Lib.hid K7
              clear K7 hro y0 hn0 hn8 hr
              go_wp2_with ((with_reducible refine (num_calls _ _).mono ?_); rintro ez wz ⟨rfl, rfl⟩)
              refine HRO.out.mono ?_
              rintro e w8 ⟨rfl, hm8⟩
              have y8 := hm8.cell0 y7
              have HK8 := Lib.hid (HK7.out.mod0 hm8)
              clear HK7 HRO y7
              go_wp2_with fail
              go_roundw
              case rel => exact ⟨j2 + 1, true, _, _, _, _, by go_num, rfl, by omega, HK8.out⟩
              case measure => simp [intOf]; omega
            | wrong d7 S7 he hr K7 =>
              subst he
              have y7 := HGT.out _ K7.lw.base
              have hro := rrightops_calls x.l x.A x.c w7 (hxo.mod0 K7.lw.base)
              rw [decide_eq_false hr] at hro
              have HRO := Lib.hid hro
              have HK7 := Lib.hid K7
              clear K7 hro y0 hr
              go_wp2_with ((with_reducible refine (num_calls _ _).mono ?_); rintro ez wz ⟨rfl, rfl⟩)
              refine HRO.out.mono ?_
              rintro e w8 ⟨rfl, hm8⟩
              have HK8 := Lib.hid (HK7.out.mod0 hm8)
              clear HK7 HRO y7
              go_wp2_with fail
              go_roundw
              case rel => exact ⟨j2 + 1, b, _, _, _, _, by go_num, rfl, by omega, HK8.out⟩
              case measure => simp [intOf]; omega
            | sick d7 S7 he K7 =>
              subst he
              have HK7 := Lib.hid K7
              clear K7 y0
              go_wp2_with ((with_reducible refine (num_calls _ _).mono ?_); rintro ez wz ⟨rfl, rfl⟩)
              go_roundw
              case rel => exact ⟨j2 + 1, b, _, _, _, _, by go_num, rfl, by omega, HK7.out⟩
              case measure => simp [intOf]; omega
          · have q3 : ¬ ((j2 : Int) < (l0.length : Int)) := by omega
            obtain ⟨T, R, c9, e1, hTl, hc9, hRl, e2, e3, e4, e5, e6⟩ := K.last (by omega)
            have hrs := K.lw.restart0 (K.fit (by omega)) 100000
            rw [e1] at hrs
            obtain ⟨A5, c5, rfl, _, _, _⟩ := K.own.out
            have hft1 : FitL (freeD 100000 [] [⟨sLog, T, T.length⟩] 0) := fitL_at (x := T) (s := T.length) rfl (by show 0 ≤ _; omega) (by omega)
            have hft2 : FitL (freeD 100000 [] [⟨sLog, catO R, (catO R).length⟩] c9) := fitL_at (x := catO R) (s := (catO R).length) rfl (by show c9 ≤ _; omega) (by omega)
            have hrt := K.right
            have hln : SL.length ≤ 40 := by have := K.len; omega
            have hown := K.own
            have hfar := K.far
            have HRS := Lib.hid hrs
            have E2 := Lib.hid e2
            have E3 := Lib.hid e3
            have E4 := Lib.hid e4
            have E5 := Lib.hid e5
            have E6 := Lib.hid e6
            have HF1 := Lib.hid hft1
            have HF2 := Lib.hid hft2
            have HRT := Lib.hid hrt
            clear hrs e1 e2 e3 e4 e5 e6 hft1 hft2 hrt K hTl hRl
            go_wp2_with fail
            refine HRS.out.mono ?_
            rintro e w7 ⟨rfl, S7, h7, hm7, hn7⟩
            obtain ⟨hown7, hfar7⟩ := own_far hown hfar hm7 hn7
            clear hown hfar hm7 hn7 HRS
            go_wp2_with fail
            refine (h7.open2 htab HF1.out (by rw [E3.out])).mono ?_
            rintro e w8 ⟨S8, q8, vl8, vs8, rfl, h8, hm8, hn8, _, _, _, hba8, hof8, hofv8⟩
            rw [E3.out] at h8
            rw [E2.out] at hba8
            obtain ⟨hown8, hfar8⟩ := own_far hown7 hfar7 hm8 hn8
            obtain ⟨A8, c8, rfl, _⟩ := hba8.rd
            clear hown7 hfar7 hm8 hn8 h7
            go_wp2_with fail
            refine (h8.open2 htab HF2.out (by rw [E4.out])).mono ?_
            rintro e w9 ⟨S9, q9, vl9, vs9, rfl, h9, hm9, hn9, _, _, _, hba9, _, _⟩
            rw [E5.out] at hba9
            obtain ⟨hown9, _⟩ := own_far hown8 hfar8 hm9 hn9
            have hba89 := hba8.mod hm9 hof8 hofv8
            obtain ⟨A8', c8', e8, hb8⟩ := hba89.rd
            obtain ⟨A9, c9', rfl, hb9⟩ := hba9.rd
            have hbs := h9.base
            obtain ⟨A5', c5', e5', hrd5⟩ := hown9.nilD0
            injection e5' with e5' _ e5c
            subst e5'
            subst e5c
            injection e8 with e8 _ e8c
            subst e8
            subst e8c
            have hsr := batsRd_all hrd5 (fun x hx => (HRT.out x hx).mod0 hbs)
            have hbc1 : Calls Tryd.prog 22 #[.slice A8 R.length c8, .slice A9 R.length c9'] w9 fun e w' => e = .returned (.bool true) ∧ Mod NoneB w9 w' := by
              have h := batches_calls R R A8 A9 c8 c9' vs8 vs9 w9 hb8 hb9
              rw [decide_eq_true rfl] at h
              exact h
            have hlso : (lsO SL).length = SL.length := by simp [lsO]
            have hbc2 : ∀ w', Mod NoneB w9 w' → Calls Tryd.prog 22 #[.slice A8 R.length c8, .slice A5 SL.length c5] w' fun e w2 => e = .returned (.bool (decide (R = lsO SL))) ∧ Mod NoneB w' w2 := by
              intro w' hm
              have h := batches_calls R (lsO SL) A8 A5 c8 c5 vs8 _ w' (hb8.mod0 hm) (by rw [hlso]; exact hsr.mod0 hm)
              rw [hlso] at h
              exact h
            obtain ⟨bR, hbR⟩ : ∃ bR, bR = decide (R = lsO SL) := ⟨_, rfl⟩
            rw [← hbR] at hbc2
            have HBR := Lib.hid hbR
            have HBC1 := Lib.hid hbc1
            have HBC2 := Lib.hid hbc2
            have HB8 := Lib.hid hb8
            have HOW := Lib.hid hown9
            clear hbc1 hbc2 hb8 hb9 hsr hown9 hrd5 hba8 hba89 hba9 hof8 hofv8 h8 h9 hfar8 hown8 hm9 hn9 E2 E3 E4 E5 hlso hbR
            go_wp2_with ((with_reducible refine (num_calls _ _).mono ?_); rintro ez wz ⟨rfl, hwz⟩; have hwz2 := hwz.symm; clear hwz; subst hwz2)
            refine HBC1.out.mono ?_
            rintro e w10 ⟨rfl, hm10⟩
            go_wp2_with fail
            refine (HBC2.out _ hm10).mono ?_
            rintro e w11 ⟨rfl, hm11⟩
            have hm911 := hm10.then0 hm11
            have hb11 := hbs.then0 hm911
            cases bR with
            | true =>
              go_wp2_with ((with_reducible refine (awake7_calls _ (htab.mod0 hb11)).mono ?_); rintro e wz ⟨rfl, hmz⟩)
              go_ret
              exact ⟨rfl, hb11.then0 hmz⟩
            | false =>
              have hne : R ≠ lsO SL := of_decide_eq_false HBR.out.symm
              rcases E6.out with h | ⟨_, x, hx, rfl, hv, hR⟩
              · exact absurd h hne
              replace hv : _ = Value.slice x.A x.l.length x.c := hv
              subst hv
              have HR := Lib.hid hR
              have hox := HOW.out.mod0 hm911
              have hal : Mod NoneB w11 (w11.alloc (.cells #[] 22)) := (Mod.refl NoneB w11).alloc _
              have hown0 : Own (w11.alloc (.cells #[] 22)) 22 1 (.slice (some ⟨w11.heap.size, 0, none⟩) 0 0) 0 [] := Own.of_blk (cap := 0) (heap_alloc_new w11 _) (by omega) (by omega) (by simp) (by simp)
              obtain ⟨A5'', c5'', e5'', _, _, hrd11⟩ := (hox.mod0 hal).out
              injection e5'' with e5'' _ e5c
              subst e5''
              subst e5c
              have hno0 : 0 < SL.length → ∃ a, A5 = some a ∧ ∀ (i : Nat) u, (SL.flatMap encOv)[i]? = some u → (w11.alloc (.cells #[] 22)).cell? (a.add i) = some u := hrd11.2.2
              have hone : ∀ u ∈ SL.flatMap encOv, u.oneCell' = true := by
                intro u hu
                rw [encOv_map] at hu
                obtain ⟨y, _, rfl⟩ := List.mem_map.1 hu
                rfl
              have hlen5 : (SL.flatMap encOv).length = SL.length * 1 := by rw [encOv_map]; simp
              have hb8' := (HB8.out.mod0 hm911)
              have HB8' := Lib.hid hb8'
              have h24 : (0 + SL.length) * 24 ≤ 140737488355328 := by omega
              clear hne hR hb8' hox hrd11 HBC1 HBC2 HBR hm10 hm11 E6
              go_wp2_with (at_builtin; refine wpList_append rfl (.tmp 148) (.tmp 149) 32 rfl 22 _ 1 24 huos tiOps rfl (by decide) (by decide) _ 0 [] rfl hown0 A5 SL.length c5 (SL.flatMap encOv) rfl hlen5 hno0 hone h24 ?_)
              intro v12 w12 ho12 hm12 hno12
              have hm1112 : Mod NoneB w11 w12 := hal.trans_new hm12 (fun k hk => .inr (by
                have e := Option.some.inj (show some w11.heap.size = some k from hk)
                omega))
              obtain ⟨A12, c12, rfl, _, _, hr12⟩ := ho12.out
              have hbx12 := box1 w12 (.cells #[.slice x.A x.l.length x.c] 22)
              have hal2 : Mod NoneB w12 (w12.alloc (.cells #[.slice x.A x.l.length x.c] 22)) := (Mod.refl NoneB w12).alloc _
              have ho12b := ho12.mod0 hal2
              have hnx : 0 < 1 → ∃ a, (some ⟨w12.heap.size, 0, none⟩ : Option Addr) = some a ∧ ∀ (i : Nat) u, ([hdO x])[i]? = some u → (w12.alloc (.cells #[.slice x.A x.l.length x.c] 22)).cell? (a.add i) = some u := (rd_blk (sz := 1) (n := 1) hbx12 rfl (by decide)).2.2
              have h25 : (SL.length + 1) * 24 ≤ 140737488355328 := by omega
              have hnew12 : ∀ g, (Value.slice A12 SL.length c12).ownBlock = some g → w11.heap.size ≤ g := by
                intro g hg
                rcases hno12 with h | ⟨g', h, hb⟩
                · rw [h] at hg
                  have e := Option.some.inj (show some w11.heap.size = some g from hg)
                  omega
                · rw [h] at hg; injection hg with hg; subst hg
                  have := hal.size
                  omega
              clear ho12 hr12 hal hown0 hno0 hlen5 hone hm12 hno12 hbx12 h24
              go_wp2_with (at_builtin; refine wpList_append rfl (.tmp 151) (.tmp 153) 32 rfl 22 _ 1 24 huos tiOps rfl (by decide) (by decide) _ SL.length (SL.flatMap encOv) rfl ho12b (some ⟨w12.heap.size, 0, none⟩) 1 1 [hdO x] rfl rfl hnx (fun u hu => by rw [List.mem_singleton] at hu; subst hu; rfl) h25 ?_)
              intro v13 w13 ho13 hm13 hno13
              have hm1113 : Mod NoneB w11 w13 := (hm1112.then0 hal2).trans_new hm13 (fun g hg => .inr (hnew12 g hg))
              have hb13 := hb11.then0 hm1113
              obtain ⟨A13, c13, rfl, _, _, hr13⟩ := ho13.out
              have hfe : SL.flatMap encOv ++ [hdO x] = (SL ++ [x]).flatMap encOv := by rw [List.flatMap_append]; rfl
              have hle : SL.length + 1 = (SL ++ [x]).length := by simp
              rw [hfe, hle] at hr13
              have hws := batsRd_all hr13 (fun y hy => (by
                rcases List.mem_append.1 hy with h | h
                · exact (HRT.out y h).mod0 hb13
                · rw [List.mem_singleton] at h; subst h; exact hx.mod0 hb13))
              have hbc3 : Calls Tryd.prog 22 #[.slice A8 R.length c8, .slice A13 (SL.length + 1) c13] w13 fun e w' => e = .returned (.bool true) ∧ Mod NoneB w13 w' := by
                have hRl : R.length = (SL ++ [x]).length := by rw [HR.out]; simp [lsO]
                have h := batches_calls R (lsO (SL ++ [x])) A8 A13 c8 c13 vs8 _ w13 (HB8'.out.mod0 hm1113) (by rw [show (lsO (SL ++ [x])).length = (SL ++ [x]).length from by simp [lsO]]; exact hws)
                rw [decide_eq_true HR.out, show (lsO (SL ++ [x])).length = SL.length + 1 from by simp [lsO]] at h
                exact h
              have HBC3 := Lib.hid hbc3
              clear hbc3 hws hr13 hfe hle ho13 hm13 hno13 hnew12 hal2 ho12b hnx hm1112 hm1113 hm911
              go_wp2_with fail
              refine HBC3.out.mono ?_
              rintro e w14 ⟨rfl, hm14⟩
              have hb14 := hb13.then0 hm14
              go_wp2_with ((with_reducible refine (awake7_calls _ (htab.mod0 hb14)).mono ?_); rintro e wz ⟨rfl, hmz⟩)
              go_ret
              exact ⟨rfl, hb14.then0 hmz⟩
end Go.Proofs.YtaldneffhbgepaaDoor

