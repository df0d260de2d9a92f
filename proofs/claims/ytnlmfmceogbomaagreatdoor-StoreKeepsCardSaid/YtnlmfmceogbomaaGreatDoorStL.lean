/- The store in a law: the map that is held beside it; a disk that nothing befalls. -/
import Derived.Test.YtnlmfmceogbomaaGreatDoorStN
namespace Go.Proofs.YtnlmfmceogbomaaGreatDoor
open Go.RowKit
set_option linter.unusedVariables false

/-- Ops of a row within the laws' bound. -/
structure Fine (l : List Op3) : Prop where
  wt : wtO l ≤ 5000
  len : l.length ≤ 60
theorem Fine.wO {l : List Op3} (h : Fine l) : wO l ≤ 5420 := by have h1 := wO_wt l h.wt; have h2 := h.wt; have h3 := h.len; omega
/-- A store on a disk that nothing befalls, behind j steps. -/
structure Qk (cap : Int) (t : St) (j : Nat) : Prop where
  inv : Inv t none (26100 * j) 1048584
  quiet : Quiet t.d
  sk : t.sk = false
  c : t.d.c ≤ 20 + 9 * j
  w : wS t.r ≤ 5420 * j
  cap : t.d.p.cap = cap
theorem Inv.calm {t : St} {more more' : Option (List Op3)} {B T : Nat} (h : Inv t more B T) (hs : t.sk = false) : Inv t more' B T := by
  obtain ⟨ls, rest, s, m, f, h1, h2, h3, h4, h5, h6⟩ := h.ex
  exact ⟨⟨ls, rest, s, m, f, h1, h2, h3, h4, .inl (h6 hs).1, h6⟩, h.n⟩
theorem table_T (r : List Pr) : (tableR r).1.length ≤ 1048584 := table_len r
structure QkC (cap most : Int) (t : St) (j : Nat) (l : List Op3) (k : St × Nat) : Prop where
  qk : Qk cap k.1 (j + 1)
  ok : k.2 = 0 → rightO l ∧ k.1.r = applyT t.r l
  no : k.2 ≠ 0 → k.1.r = t.r
  e : rightO l → k.2 = if cap < ((usedF t.d.fs + (bytesO l).length : Nat) : Int) then 5 else 0
  wrong : ¬ rightO l → k.2 ≠ 0
theorem Qk.commit {cap : Int} {t : St} {j : Nat} (h : Qk cap t j) (hj : j ≤ 120) (most : Int) {l : List Op3} (hl : Fine l) : QkC cap most t j l (commitS most t l) := by
  have hw := wS_apply h.inv.rises l
  have hwl := hl.wO
  have hwj := h.w
  have hb := (bytesO_le hl.wt).2
  have hc := h.inv.commit most l (small_wt hl.wt) (wS_small1 (by omega)) (table_T _)
  obtain ⟨q1, q2, q3⟩ := hc.quiet h.quiet h.sk
  have hcc := hc.c
  have hc0 := h.c
  refine ⟨?_, fun h0 => ⟨(hc.ok h0).1, (hc.ok h0).2.1⟩, hc.no, fun hr => by rw [q3 hr, h.cap], hc.wrongE⟩
  have hinv : Inv (commitS most t l).1 none (26100 * (j + 1)) 1048584 := by
    by_cases hr : rightO l
    · have hb := hb hr
      by_cases h0 : (commitS most t l).2 = 0
      · exact (hc.ok h0).2.2.mono (by omega)
      · by_cases h8 : (commitS most t l).2 = 8
        · exact (hc.wrong (.inr h8)).mono (by omega)
        · exact ((hc.bad h0 h8 hr).calm q2).mono (by omega)
    · exact (hc.wrong (.inl hr)).mono (by omega)
  refine ⟨hinv, q1, q2, by omega, ?_, by rw [hc.p]; exact h.cap⟩
  by_cases h0 : (commitS most t l).2 = 0
  · rw [(hc.ok h0).2.1]; omega
  · rw [hc.no h0]; omega
structure QkK (cap : Int) (t : St) (j : Nat) (k : St × Nat) : Prop where
  qk : Qk cap k.1 (j + 1)
  r : k.1.r = t.r
  room : ((26100 * j + 2097168 : Nat) : Int) ≤ cap → k.2 = 0 ∧ ∃ f : F3, k.1.d.fs = f.fs ∧ f.a = some ([], 0) ∧ f.b = some ((tableR t.r).1, (tableR t.r).1.length) ∧ f.c = none ∧ k.1.n = 0
theorem Qk.check {cap : Int} {t : St} {j : Nat} (h : Qk cap t j) (hj : j ≤ 120) : QkK cap t j (checkS t) := by
  have hwj := h.w
  obtain ⟨g1, g2, g3⟩ := table_ok h.inv.rises (r := t.r) (by omega)
  have hc := h.inv.check g1 (table_T _)
  obtain ⟨q1, q2, q3⟩ := hc.quiet h.quiet h.sk
  have hcc := hc.c
  have hc0 := h.c
  have hn := h.inv.n
  have hT := table_T t.r
  exact ⟨⟨hc.inv.mono (by omega), q1, q2, by omega, by rw [hc.r]; omega, by rw [hc.p]; exact h.cap⟩, hc.r, fun hcap => q3 (by rw [h.cap]; omega) g2⟩
theorem Qk.open {cap : Int} {d : Dk} (hq : Quiet d) (hc : d.p.cap = cap) (hcc : d.c = 0) (hs : Shut d [] none 0 1048584) : openE d = 0 ∧ Qk cap (openS d) 0 ∧ (openS d).r = [] := by
  obtain ⟨h1, h2, h3, h4, h5⟩ := hs.opens
  obtain ⟨q1, q2⟩ := h4 hq
  obtain ⟨k1, k2, _, k3⟩ := h5 q1
  have hr : (openS d).r = [] := by
    rcases k3 with k | ⟨l, h, _⟩
    · exact k
    · cases h
  refine ⟨q1, ⟨k2, k1 ▸ q2, rfl, ?_, by rw [hr]; exact Nat.zero_le _, ?_⟩, hr⟩
  · rw [k1] at h3; omega
  · rw [k1] at h2; rw [h2]; exact hc
/-- The store, and pairs that are held beside it. -/
structure Kw (w0 w : World) (p q g s : Nat) (most : Int) (t : St) (x : Ix) (S X : Nat → Prop) (v : Value) (m : List Pr) : Prop where
  at_ : StAt w0 w p q g s most t x S X
  own : Own w 88 2 v m.length (encPs m)
  far : ∀ h, v.ownBlock = some h → ¬ (S h ∨ X h ∨ h = q)
def KcE (w0 w : World) (p q g s : Nat) (most : Int) (v : Value) (m : List Pr) (k : St × Nat) (e : Ending) (w' : World) : Prop := e = .returned (.int .i64 k.2) ∧ ∃ x' S' X', Kw w0 w' p q g s most k.1 x' S' X' v m
section
variable {w0 w w1 : World} {p q g s : Nat} {most : Int} {t : St} {x : Ix} {S X : Nat → Prop} {v : Value} {m : List Pr}
theorem Kw.mod0 (K : Kw w0 w p q g s most t x S X v m) (hm : Mod NoneB w w1) : Kw w0 w1 p q g s most t x S X v m := ⟨K.at_.mod0 hm, K.own.mod0 hm, K.far⟩
theorem Kw.base (K : Kw w0 w p q g s most t x S X v m) : Mod NoneB w0 w := K.at_.lw.base
theorem Kw.ste {k : St × Nat} {e : Ending} {w' : World} (K : Kw w0 w p q g s most t x S X v m) (h : StE w0 w p q g s most S X k e w') : KcE w0 w p q g s most v m k e w' := by
  obtain ⟨he, x', S', X', h1, h2, h3, h4⟩ := h
  refine ⟨he, x', S', X', h1, K.own.mod h2 K.far, fun h hv hh => ?_⟩
  have hlt := K.own.lt hv
  have hf := K.far h hv
  rcases hh with hh | hh | hh
  · exact (h3 h hh).elim (fun hh => hf (.inl hh)) (fun hh => absurd hlt (Nat.not_lt.2 hh))
  · exact (h4 h hh).elim (fun hh => hf (.inr (.inl hh))) (fun hh => absurd hlt (Nat.not_lt.2 hh))
  · exact hf (.inr (.inr hh))
/-- Other pairs, in a block of their own that is new. -/
theorem Kw.turn {v' : Value} {m' : List Pr} (K : Kw w0 w p q g s most t x S X v m) (hm : Mod NoneB w w1) (ho : OwnP w.heap.size w1 v' m') : Kw w0 w1 p q g s most t x S X v' m' := by
  refine ⟨K.at_.mod0 hm, ho.own, fun h hv hh => ?_⟩
  have hn := ho.new h hv
  rcases hh with hh | hh | hh
  · exact absurd (K.at_.lw.isD.lt hh) (Nat.not_lt.2 hn)
  · exact absurd (K.at_.mp.idx.lt hh) (Nat.not_lt.2 hn)
  · have := blk_lt K.at_.wal; omega
theorem Kw.nil (h : StAt w0 w p q g s most t x S X) : Kw w0 w p q g s most t x S X (.slice none 0 0) [] := ⟨h, Own.nil _ _ _, fun h hv => by cases hv⟩
theorem StAt.old {A : Option Addr} {n : Nat} {cs : List Value} (h : StAt w0 w p q g s most t x S X) (hr : Rd w0 3 A n cs) : Rd w 3 A n cs ∧ (0 < n → ∀ ad, A = some ad → ¬ S ad.block ∧ ¬ X ad.block ∧ ad.block ≠ q) :=
  ⟨hr.mod0 h.lw.base, fun hn ad had => by
    have hb := hr.block_lt (by decide) hn ad had
    exact ⟨fun hh => by have := h.lw.own _ hh; omega, fun hh => by have := h.mp.X0 _ hh; omega, fun hh => by have := h.q0; omega⟩⟩
theorem Kw.commit {more : Option (List Op3)} {B T : Nat} (K : Kw w0 w p q g s most t x S X v m) (hi : Inv t more B T) (ht : TabW w0) (hB : B ≤ 4000000) (hT : T ≤ 1048584) (hc : t.d.c ≤ 900000) (o : OsV) (ho : OsOk w0 o) (hl : wtO o.l ≤ 5000) (hw : wS t.r + wO o.l ≤ 1000000) :
    Calls Tryz.prog 16 #[.pointer (some ⟨s, 0, none⟩), .slice o.A o.l.length o.c] w (KcE w0 w p q g s most v m (commitS most t o.l)) := by
  obtain ⟨h1, h2⟩ := K.at_.old ho
  exact ((⟨K.at_, hi⟩ : So w0 w p q g s most t x S X more B T).commit ht hB hT hc o.l o.A o.c h1 h2 hl hw).mono fun e w' h => K.ste h
theorem Kw.check {more : Option (List Op3)} {B T : Nat} (K : Kw w0 w p q g s most t x S X v m) (hi : Inv t more B T) (hB : B ≤ 4000000) (hT : T ≤ 1048584) (hc : t.d.c ≤ 900000) (hw : wS t.r ≤ 1000000) :
    Calls Tryz.prog 24 #[.pointer (some ⟨s, 0, none⟩)] w (KcE w0 w p q g s most v m (checkS t)) :=
  ((⟨K.at_, hi⟩ : So w0 w p q g s most t x S X more B T).check hB hT hc hw).mono fun e w' h => K.ste h
/-- All, held against the pairs. -/
theorem all_pairs {r m : List Pr} {W : World} (A B : Option Addr) (c c' : Nat) (h1 : Rd W 2 A r.length (encPs r)) (h2 : Rd W 2 B m.length (encPs m)) (he : r = m) :
    Calls Tryz.prog 19 #[.slice A r.length c, .slice B m.length c'] W fun e w' => e = .returned (.bool true) ∧ Mod NoneB W w' := by
  have h := pairs_calls r m A B c c' W h1 h2
  rw [decide_eq_true he] at h
  exact h
end
/-- Behind a restart by a plan that names nothing, the pairs and the store's own map as they were. -/
def KrE (w0 : World) (p q g s : Nat) (most : Int) (d' : Dk) (x : Ix) (r : List Pr) (X : Nat → Prop) (v : Value) (m : List Pr) (e : Ending) (w' : World) : Prop :=
  e = .returned (.tuple #[]) ∧ ∃ S', Lw w0 w' p d' S' ∧ StM w0 w' p q g s most x r X ∧ (∀ k, S' k → ¬ X k) ∧ ¬ S' s ∧ Own w' 88 2 v m.length (encPs m) ∧ ∀ h, v.ownBlock = some h → ¬ S' h
theorem Kw.restart0 {w0 w : World} {p q g s : Nat} {most : Int} {t : St} {x : Ix} {S X : Nat → Prop} {v : Value} {m : List Pr} (K : Kw w0 w p q g s most t x S X v m) (hf : FitL t.d) (cap : Int) :
    Calls Tryz.prog 21 #[.pointer (some ⟨p, 0, none⟩), .agg #[.int .i64 cap, .slice none 0 0, .int .i64 0, .bool false, .slice none 0 0]] w (KrE w0 p q g s most (restartD t.d ⟨cap, [], 0, false, []⟩) x t.r X v m) := by
  refine (K.at_.lw.restart0 hf cap).mono ?_
  rintro e w' ⟨he, S', h1, h2, h3⟩
  refine ⟨he, S', h1, K.at_.mp.mod h2 K.at_.sS (fun k hk hs => K.at_.SX k hs hk), fun k hk hx => ?_, fun hk => ?_, K.own.mod h2 (fun h hv hs => K.far h hv (.inl hs)), fun h hv hs => ?_⟩
  · exact (h3 k hk).elim (fun hs => K.at_.SX k hs hx) (fun hn => by have := K.at_.mp.idx.lt hx; omega)
  · exact (h3 s hk).elim K.at_.sS (fun hn => by have := blk_lt K.at_.mp.blk; omega)
  · exact (h3 h hs).elim (fun hs => K.far h hv (.inl hs)) (fun hn => by have := K.own.lt hv; omega)
theorem own_rd {w : World} {T sz n c : Nat} {A : Option Addr} {cs : List Value} (h : Own w T sz (.slice A n c) n cs) : Rd w sz A n cs := by
  obtain ⟨A', c', e, _, _, hr⟩ := h.out
  injection e with e1 e2 e3
  subst e1
  exact hr
/-- A disk that was just made. -/
theorem sp_new {w0 w : World} {p : Nat} {cap : Int} (h : Dw w0 w p (freeD cap [] [] 0)) : ∃ S d, Sp w0 w p d S [] none 0 1048584 ∧ Quiet d ∧ d.p.cap = cap ∧ d.c = 0 := by
  obtain ⟨S, h1⟩ := Lw.dw h
  exact ⟨S, _, ⟨h1, Shut.new _ _ _ _ _⟩, ⟨rfl, rfl, rfl⟩, rfl, rfl⟩
end Go.Proofs.YtnlmfmceogbomaaGreatDoor

