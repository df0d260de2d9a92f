/- The store and the reference's store, side by side, each on its own disk. -/
import Derived.Test.YtnlmfmceogbomaaGreatDoorStUQq
namespace Go.Proofs.YtnlmfmceogbomaaGreatDoor
open Go.RowKit
set_option linter.unusedVariables false

/-- A disk behind j steps; a store behind j steps. -/
structure Zs (d : Dk) (j : Nat) : Prop where
  ex : ∃ r more, Shut d r more (26100 * j) 1048584 ∧ wS r ≤ 5420 * j ∧ ∀ l, more = some l → wO l ≤ 5420
  c : d.c ≤ 20 + 9 * j
  cap : d.p.cap ≤ 9223372036854775807
structure Zq (t : St) (j : Nat) : Prop where
  ex : ∃ more, Inv t more (26100 * j) 1048584 ∧ ∀ l, more = some l → wO l ≤ 5420
  w : wS t.r ≤ 5420 * j
  c : t.d.c ≤ 20 + 9 * j
  cap : t.d.p.cap ≤ 9223372036854775807
theorem Zs.new (pl : Pl) (h : pl.cap ≤ 9223372036854775807) : Zs ⟨pl, [], 0, false⟩ 0 := ⟨⟨[], none, Shut.new _ _ _ _ _, Nat.zero_le _, fun l h => by cases h⟩, Nat.zero_le _, h⟩
theorem Zs.next {d : Dk} {j : Nat} (h : Zs d j) : Zs d (j + 1) := by
  obtain ⟨r, more, h1, h2, h3⟩ := h.ex
  exact ⟨⟨r, more, h1.mono (by omega), by omega, h3⟩, by have := h.c; omega, h.cap⟩
theorem Zq.next {t : St} {j : Nat} (h : Zq t j) : Zq t (j + 1) := by
  obtain ⟨more, h1, h3⟩ := h.ex
  exact ⟨⟨more, h1.mono (by omega), h3⟩, by have := h.w; omega, by have := h.c; omega, h.cap⟩
theorem Zq.zs {t : St} {j : Nat} (h : Zq t j) : Zs t.d j := by
  obtain ⟨more, h1, h3⟩ := h.ex
  exact ⟨⟨t.r, more, h1.shut, h.w, h3⟩, h.c, h.cap⟩
theorem Zs.restart {d : Dk} {j : Nat} (h : Zs d j) (p : Pl) (hp : p.cap ≤ 9223372036854775807) : Zs (restartD d p) j := by
  obtain ⟨r, more, h1, h2, h3⟩ := h.ex
  exact ⟨⟨r, more, h1.restart p, h2, h3⟩, Nat.zero_le _, hp⟩
theorem Zs.fit {d : Dk} {j : Nat} (h : Zs d j) (hj : j ≤ 130) : FitL d ∧ FitT d := by
  obtain ⟨r, more, h1, h2, h3⟩ := h.ex
  obtain ⟨u1, u2⟩ := h1.used
  have hc := h.c
  exact ⟨⟨by omega, by omega, by omega⟩, ⟨by omega, by omega, by omega, h.cap⟩⟩
theorem Zq.fit {t : St} {j : Nat} (h : Zq t j) (hj : j ≤ 130) : FitS t ∧ FitF t := by
  obtain ⟨more, h1, h3⟩ := h.ex
  have hn := h1.n
  have hw := h.w
  have hf := h.zs.fit hj
  exact ⟨⟨hf.1, by omega, wS_small1 (by omega)⟩, ⟨hf.2, by omega, wS_small1 (by omega)⟩⟩
theorem Zs.open {d : Dk} {j : Nat} (h : Zs d j) (hj : j ≤ 130) : Zs (openK d) (j + 1) ∧ (openE d = 0 → openK d = (openS d).d ∧ Zq (openS d) (j + 1) ∧ SmallP (openS d).r ∧ Rises (loadR d).1 ∧ (loadR d).1.length + (logL d).flatten.length ≤ 1000000000) := by
  obtain ⟨r, more, h1, h2, h3⟩ := h.ex
  obtain ⟨o1, o2, o3, _, o5⟩ := h1.opens
  have hc := h.c
  have hcap := h.cap
  refine ⟨⟨⟨r, more, o1.mono (by omega), by omega, h3⟩, by omega, by rw [o2]; exact hcap⟩, fun h0 => ?_⟩
  obtain ⟨k1, k2, k3, k4⟩ := o5 h0
  have hw : wS (openS d).r ≤ 5420 * (j + 1) := by
    rcases k4 with e | ⟨l, e, _, _, e2⟩
    · rw [e]; omega
    · rw [e2]
      have := wS_apply h1.rises l
      have := h3 l e
      omega
  exact ⟨k1, ⟨⟨none, k2.mono (by omega), fun l h => by cases h⟩, hw, by rw [← k1]; omega, by rw [← k1, o2]; exact hcap⟩, wS_small1 (by omega), h1.loads.2, by omega⟩
theorem Zq.commit {t : St} {j : Nat} (h : Zq t j) (hj : j ≤ 130) (most : Int) {l : List Op3} (hl : Fine l) : Zq (commitS most t l).1 (j + 1) := by
  obtain ⟨more, h1, h3⟩ := h.ex
  have hw := wS_apply h1.rises l
  have hwl := hl.wO
  have hwj := h.w
  have hb := (bytesO_le hl.wt).2
  have hc := h1.commit most l (small_wt hl.wt) (wS_small1 (by omega)) (table_T _)
  have hcc := hc.c
  have hc0 := h.c
  have hinv : ∃ more, Inv (commitS most t l).1 more (26100 * (j + 1)) 1048584 ∧ ∀ l, more = some l → wO l ≤ 5420 := by
    by_cases hr : rightO l
    · have hb := hb hr
      by_cases h0 : (commitS most t l).2 = 0
      · exact ⟨none, (hc.ok h0).2.2.mono (by omega), fun l h => by cases h⟩
      · by_cases h8 : (commitS most t l).2 = 8
        · exact ⟨more, (hc.wrong (.inr h8)).mono (by omega), h3⟩
        · exact ⟨some l, (hc.bad h0 h8 hr).mono (by omega), fun l' h => by injection h with h; subst h; exact hwl⟩
    · exact ⟨more, (hc.wrong (.inl hr)).mono (by omega), h3⟩
  refine ⟨hinv, ?_, by omega, by rw [hc.p]; exact h.cap⟩
  by_cases h0 : (commitS most t l).2 = 0
  · rw [(hc.ok h0).2.1]; omega
  · rw [hc.no h0]; omega
theorem Zq.check {t : St} {j : Nat} (h : Zq t j) (hj : j ≤ 130) : Zq (checkS t).1 (j + 1) := by
  obtain ⟨more, h1, h3⟩ := h.ex
  have hw := h.w
  have hc := h1.check (wS_small1 (by omega)) (table_T _)
  have hcc := hc.c
  have hc0 := h.c
  exact ⟨⟨more, hc.inv.mono (by omega), h3⟩, by rw [hc.r]; omega, by omega, by rw [hc.p]; exact h.cap⟩

/-- Both stores, open: the store's state t, the reference's tr. -/
structure Zz (w0 w : World) (p q k g s vw vs : Nat) (mo : Int) (t tr : St) (x : Ix) (S X : Nat → Prop) (A : Option Addr) (c : Nat) (R : Nat → Prop) : Prop where
  at_ : StAt w0 w p k g s mo t x S X
  rf : Rf w0 w p q vw vs mo t.d tr A c S R
  apart : ∀ i, (X i ∨ i = k ∨ i = s) → ¬ R i ∧ i ≠ vw ∧ i ≠ vs ∧ ∀ ad, A = some ad → ad.block ≠ i
section
variable {w0 w w1 w' : World} {p q k g s vw vs : Nat} {mo : Int} {t tr : St} {x : Ix} {S X : Nat → Prop} {A : Option Addr} {c : Nat} {R : Nat → Prop} {e : Ending}
theorem Zz.mod0 (h : Zz w0 w p q k g s vw vs mo t tr x S X A c R) (hm : Mod NoneB w w1) : Zz w0 w1 p q k g s vw vs mo t tr x S X A c R := ⟨h.at_.mod0 hm, h.rf.mod0 hm, h.apart⟩
/-- Behind a call of the store. -/
theorem Zz.store {k2 : St × Nat} (h : Zz w0 w p q k g s vw vs mo t tr x S X A c R) (hs : StE w0 w p k g s mo S X k2 e w') : e = .returned (.int .i64 k2.2) ∧ ∃ x' S' X', Zz w0 w' p q k g s vw vs mo k2.1 tr x' S' X' A c R := by
  obtain ⟨he, x', S', X', h1, h2, h3, h4⟩ := hs
  have F := h.rf
  have lX : ∀ i, (X i ∨ i = k ∨ i = s) → ¬ R i ∧ i ≠ vw ∧ i ≠ vs ∧ ∀ ad, A = some ad → ad.block ≠ i := h.apart
  have T0 : ∀ i, (S i ∨ X i ∨ i = k) → ¬ R i ∧ i ≠ vw ∧ i ≠ vs ∧ (∀ ad, A = some ad → ad.block ≠ i) ∧ w0.heap.size ≤ i := fun i hi => by
    rcases hi with hi | hi | hi
    · exact ⟨F.SR i hi, fun e => F.wS (e ▸ hi), fun e => F.sS (e ▸ hi), fun ad had e => (F.far ad had).2.1 (e ▸ hi), F.S0 i hi⟩
    · obtain ⟨a1, a2, a3, a4⟩ := lX i (.inl hi)
      exact ⟨a1, a2, a3, a4, h.at_.mp.X0 i hi⟩
    · obtain ⟨a1, a2, a3, a4⟩ := lX i (.inr (.inl hi))
      exact ⟨a1, a2, a3, a4, by rw [hi]; exact h.at_.q0⟩
  have hnw : ∀ i, (R i ∨ i = vw ∨ i = vs ∨ ∃ ad, A = some ad ∧ ad.block = i) → i < w.heap.size ∧ ¬ S i ∧ ¬ X i := fun i hi => by
    have h0 : ∀ j, j = i → ¬ (S j ∨ X j) := fun j hj hh => by
      subst hj
      obtain ⟨b1, b2, b3, b4, _⟩ := T0 j (hh.imp id .inl)
      rcases hi with hi | hi | hi | ⟨ad, had, hi⟩
      · exact b1 hi
      · exact b2 hi
      · exact b3 hi
      · exact b4 ad had hi
    refine ⟨?_, fun hh => h0 i rfl (.inl hh), fun hh => h0 i rfl (.inr hh)⟩
    rcases hi with hi | hi | hi | ⟨ad, had, hi⟩
    · exact F.isR.lt hi
    · rw [hi]; exact blk_lt F.wal
    · rw [hi]; exact blk_lt F.st
    · rw [← hi]; exact (F.far ad had).1.2
  have hS' : ∀ i, (R i ∨ i = vw ∨ i = vs ∨ ∃ ad, A = some ad ∧ ad.block = i) → ¬ S' i := fun i hi hh => by
    obtain ⟨b1, b2, _⟩ := hnw i hi
    exact (h3 i hh).elim b2 (fun hn => by omega)
  have hX' : ∀ i, (R i ∨ i = vw ∨ i = vs ∨ ∃ ad, A = some ad ∧ ad.block = i) → ¬ X' i := fun i hi hh => by
    obtain ⟨b1, _, b2⟩ := hnw i hi
    exact (h4 i hh).elim b2 (fun hn => by omega)
  refine ⟨he, x', S', X', h1, ⟨h1.lw.base, h1.lw.isD, h1.lw.own, F.isR.mod h2 (fun i hi hh => (T0 i hh).1 hi) (fun i hi => (T0 i hi).2.2.2.2), fun i hi hh => hS' i (.inl hh) hi, h2.blk F.wal (fun hh => (T0 _ hh).2.1 rfl), h2.blk F.st (fun hh => (T0 _ hh).2.2.1 rfl), F.own.mod h2 (fun ad had hh => (T0 _ hh).2.2.2.1 ad had rfl), F.w0w, F.w0s, hS' _ (.inr (.inl rfl)), F.wR, hS' _ (.inr (.inr (.inl rfl))), F.sR, F.ws, fun ad had => ?_⟩, fun i hi => ?_⟩
  · obtain ⟨⟨f0, f1⟩, f2, f3, f4, f5⟩ := F.far ad had
    exact ⟨⟨f0, Nat.lt_of_lt_of_le f1 h2.size⟩, hS' _ (.inr (.inr (.inr ⟨ad, had, rfl⟩))), f3, f4, f5⟩
  · rcases hi with hi | hi | hi
    · exact ⟨fun hh => hX' i (.inl hh) hi, fun e => hX' i (.inr (.inl e)) hi, fun e => hX' i (.inr (.inr (.inl e))) hi, fun ad had e => hX' i (.inr (.inr (.inr ⟨ad, had, e⟩))) hi⟩
    · exact lX i (.inr (.inl hi))
    · exact lX i (.inr (.inr hi))
/-- Behind a call of the reference's store. -/
theorem Zz.ref {k2 : St × Nat} (h : Zz w0 w p q k g s vw vs mo t tr x S X A c R) (hs : RfE w0 w p q vw vs mo t.d A c S R k2 e w') : e = .returned (.int .i64 k2.2) ∧ ∃ A' c' S' R', Zz w0 w' p q k g s vw vs mo t k2.1 x S' X A' c' R' := by
  obtain ⟨he, A', c', S', R', h1, h2, h3, h4, h5⟩ := hs
  have F := h.at_
  have lk := blk_lt F.wal
  have ls := blk_lt F.mp.blk
  have T0 : ∀ i, (X i ∨ i = k ∨ i = s) → ¬ (S i ∨ R i ∨ i = vw ∨ i = vs) ∧ i < w.heap.size := fun i hi => by
    obtain ⟨a1, a2, a3, a4⟩ := h.apart i hi
    refine ⟨fun hh => ?_, ?_⟩
    · rcases hh with hh | hh | hh | hh
      · rcases hi with hi | hi | hi
        · exact F.SX i hh hi
        · exact F.qS (hi ▸ hh)
        · exact F.sS (hi ▸ hh)
      · exact a1 hh
      · exact a2 hh
      · exact a3 hh
    · rcases hi with hi | hi | hi
      · exact F.mp.idx.lt hi
      · omega
      · omega
  have hS' : ∀ i, (X i ∨ i = k ∨ i = s) → ¬ S' i ∧ ¬ R' i := fun i hi => by
    obtain ⟨b1, b2⟩ := T0 i hi
    refine ⟨fun hh => ?_, fun hh => ?_⟩
    · rcases h3 i hh with (hh | hh) | hh
      · exact b1 (.inl hh)
      · exact b1 (.inr (.inl hh))
      · omega
    · rcases h4 i hh with (hh | hh) | hh
      · exact b1 (.inl hh)
      · exact b1 (.inr (.inl hh))
      · omega
  refine ⟨he, A', c', S', R', ⟨⟨h1.isD, h1.base, h1.S0⟩, h2.blk F.wal (fun hh => (T0 _ (.inr (.inl rfl))).1 hh), F.mp.mod h2 (fun hh => (T0 _ (.inr (.inr rfl))).1 hh) (fun i hi hh => (T0 _ (.inl hi)).1 hh), F.q0, (hS' _ (.inr (.inl rfl))).1, F.qX, (hS' _ (.inr (.inr rfl))).1, F.qs, fun i hi hx => (hS' i (.inl hx)).1 hi⟩, h1, fun i hi => ?_⟩
  obtain ⟨a1, a2, a3, a4⟩ := h.apart i hi
  refine ⟨(hS' i hi).2, a2, a3, fun ad had e => ?_⟩
  rcases h5 with ⟨e1, _⟩ | h5
  · exact a4 ad (e1 ▸ had) e
  · have := h5 ad had
    have := (T0 i hi).2
    omega
end
/-- The disks alone, or both stores. -/
def StZ (w0 w : World) (p q : Nat) (d : Dk) (j : Nat) (sv tv : Value) : Prop :=
  (sv = .pointer none ∧ tv = .pointer none ∧ Zs d j ∧ ∃ S R, Bd w0 w p q d d S R) ∨
  (∃ k g s vw vs mo t x S X A c R, sv = .pointer (some ⟨s, 0, none⟩) ∧ tv = .pointer (some ⟨vs, 0, none⟩) ∧ t.d = d ∧ Zq t j ∧ Zz w0 w p q k g s vw vs mo t t x S X A c R)
theorem StZ.zs {w0 w : World} {p q : Nat} {d : Dk} {j : Nat} {sv tv : Value} (h : StZ w0 w p q d j sv tv) : Zs d j ∧ ∃ S R, Bd w0 w p q d d S R := by
  rcases h with ⟨_, _, h1, h2⟩ | ⟨k, g, s, vw, vs, mo, t, x, S, X, A, c, R, _, _, rfl, h1, h2⟩
  · exact ⟨h1, h2⟩
  · exact ⟨h1.zs, S, R, h2.rf.bd⟩
theorem StZ.next {w0 w : World} {p q : Nat} {d : Dk} {j : Nat} {sv tv : Value} (h : StZ w0 w p q d j sv tv) : StZ w0 w p q d (j + 1) sv tv := by
  rcases h with ⟨h0, h00, h1, h2⟩ | ⟨k, g, s, vw, vs, mo, t, x, S, X, A, c, R, e1, e2, e3, h1, h2⟩
  · exact .inl ⟨h0, h00, h1.next, h2⟩
  · exact .inr ⟨k, g, s, vw, vs, mo, t, x, S, X, A, c, R, e1, e2, e3, h1.next, h2⟩
/-- Both opened. -/
theorem opened_store {w0 w wa : World} {p q : Nat} {most : Int} {d : Dk} {S R : Nat → Prop} {e : Ending} (h : Bd w0 w p q d d S R) (ha : SoE w0 w p most d S e wa) :
    ∃ (ox : Option Addr), e = .returned (.tuple #[.pointer ox, .int .i64 (openE d)]) ∧ ∃ S', Bd w0 wa p q (openK d) d S' R ∧ ((openE d ≠ 0 ∧ ox = none) ∨ (openE d = 0 ∧ ∃ k g s x X, ox = some ⟨s, 0, none⟩ ∧ StAt w0 wa p k g s (max most 0) (openS d) x S' X ∧ ∀ i, (X i ∨ i = k ∨ i = s) → ¬ R i)) := by
  obtain ⟨S', h1, h2, h3, h4⟩ := ha
  have hbd : Bd w0 wa p q (openK d) d S' R := ⟨h1.base, h1.isD, h1.own, h.isR.mod h2 (fun i hi hs => h.SR i hs hi) h.S0, fun i hi hr => (h3 i hi).elim (fun hs => h.SR i hs hr) (fun hn => by have := h.isR.lt hr; omega)⟩
  rcases h4 with ⟨e0, k, g, s, x, X, rfl, h5, h6, h7, h8⟩ | ⟨e0, rfl⟩
  · refine ⟨_, by rw [e0]; rfl, S', hbd, .inr ⟨e0, k, g, s, x, X, rfl, h5, fun i hi hr => ?_⟩⟩
    have hlt := h.isR.lt hr
    rcases hi with hi | hi | hi
    · have := h8 i hi; omega
    · omega
    · omega
  · exact ⟨none, rfl, S', hbd, .inl ⟨e0, rfl⟩⟩
theorem opened_both {w0 wa wb : World} {p q : Nat} {most : Int} {d : Dk} {S' R : Nat → Prop} {ox : Option Addr} {e : Ending} {j : Nat} (hz : Zs d j) (hj : j ≤ 130) (h : Bd w0 wa p q (openK d) d S' R)
    (ha : (openE d ≠ 0 ∧ ox = none) ∨ (openE d = 0 ∧ ∃ k g s x X, ox = some ⟨s, 0, none⟩ ∧ StAt w0 wa p k g s (max most 0) (openS d) x S' X ∧ ∀ i, (X i ∨ i = k ∨ i = s) → ¬ R i)) (hb : RoE w0 wa p q most (openK d) d S' R e wb) :
    ∃ ov, e = .returned (.tuple #[.pointer ov, .int .i64 (openE d)]) ∧ ox.isNone = ov.isNone ∧ StZ w0 wb p q (openK d) (j + 1) (.pointer ox) (.pointer ov) ∧ Mod NoneB w0 wb := by
  obtain ⟨z1, z2⟩ := hz.open hj
  obtain ⟨R', h1, h2, h3, h4⟩ := hb
  rcases h4 with ⟨e0, vw, vs, A, c, rfl, h5, h6, h7, h8⟩ | ⟨e0, rfl⟩
  · rcases ha with ⟨hn, _⟩ | ⟨_, k, g, s, x, X, rfl, ha, hR⟩
    · exact absurd e0 hn
    obtain ⟨y1, y2, _⟩ := z2 e0
    refine ⟨some ⟨vs, 0, none⟩, by rw [e0]; rfl, rfl, .inr ⟨k, g, s, vw, vs, _, openS d, x, S', X, A, c, R', rfl, rfl, y1.symm, y2, ⟨⟨ha.lw.modX h2 (fun i hi => ⟨fun hs => h.SR i hs hi, h.isR.new hi⟩), h2.blk ha.wal (hR _ (.inr (.inl rfl))), ha.mp.mod h2 (hR _ (.inr (.inr rfl))) (fun i hi => hR i (.inl hi)), ha.q0, ha.qS, ha.qX, ha.sS, ha.qs, ha.SX⟩, by rw [← y1]; exact h5, fun i hi => ?_⟩⟩, h1.base⟩
    have hlt : i < wa.heap.size := by
      rcases hi with hi | hi | hi
      · exact ha.mp.idx.lt hi
      · rw [hi]; exact blk_lt ha.wal
      · rw [hi]; exact blk_lt ha.mp.blk
    refine ⟨fun hr => (h3 i hr).elim (hR i hi) (fun hn => by omega), by omega, by omega, fun ad had e => ?_⟩
    have := h8 ad had
    omega
  · rcases ha with ⟨_, rfl⟩ | ⟨hn, _⟩
    · exact ⟨none, rfl, rfl, .inl ⟨rfl, rfl, z1, S', R', h1⟩, h1.base⟩
    · exact absurd hn e0
/-- Both disks, just made; restarted. -/
theorem Bd.fresh {w0 w1 w2 w4 : World} {p q : Nat} {d r : Dk} {S R : Nat → Prop} (h0 : Mod NoneB w0 w1) (hd : IsD w2 p d S) (hm : Mod NoneB w1 w2) (hS : ∀ k, S k → w1.heap.size ≤ k) (hr : IsR w0.heap.size w4 q r R) (hm4 : Mod NoneB w2 w4) (hR : ∀ k, R k → w2.heap.size ≤ k) : Bd w0 w4 p q d r S R :=
  ⟨(h0.then0 hm).then0 hm4, hd.mod0 hm4, fun k hk => Nat.le_trans h0.size (hS k hk), hr, fun k hk hk2 => by have h1 := hd.lt hk; have h2 := hR k hk2; omega⟩
theorem Bd.tw {w0 w : World} {p q : Nat} {d r : Dk} {S R : Nat → Prop} (h : Bd w0 w p q d r S R) : Tw w0 w p q d r S R := ⟨h.isD, h.isR, h.base, h.S0, h.SR⟩
theorem Tw.bd {w0 w : World} {p q : Nat} {d r : Dk} {S R : Nat → Prop} (h : Tw w0 w p q d r S R) : Bd w0 w p q d r S R := ⟨h.base, h.isD, h.own, h.isR, h.apart⟩
end Go.Proofs.YtnlmfmceogbomaaGreatDoor
