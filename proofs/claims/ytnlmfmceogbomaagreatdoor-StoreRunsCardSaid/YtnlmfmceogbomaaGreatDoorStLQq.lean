/- StoreNil: a store that there is not has nothing: the walk of the law; the statements' own example. -/
import Derived.Test.YtnlmfmceogbomaaGreatDoorStKQq
namespace Go.Proofs.YtnlmfmceogbomaaGreatDoor
open Go.RowKit
set_option linter.unusedVariables false

theorem opA_len : (bytesO [opA]).length ≤ 100 := by
  have h1 := recO_length opA
  have h2 := recE_length (n := 1) (by decide)
  have h3 : opA.k.size = 1 := rfl
  have h4 : opA.v.size = 1 := rfl
  have e : goodOf (recsO [opA]) = 8 + (recO opA).length + (8 + (recE 1).length) := by simp [goodOf, recsO]
  rw [bytesO_good, e]
  omega
theorem opA_map : applyT [] [opA] = [⟨⟨#[97]⟩, ⟨#[49]⟩⟩] := by rw [applyT_rises rises_nil]; rfl
def dA : Dk := freeD 1000 [] [] 0
theorem dA_quiet : Quiet dA := ⟨rfl, rfl, rfl⟩
theorem Quiet.restart (d : Dk) (cap : Int) (keep : List Int) : Quiet (restartD d ⟨cap, [], 0, false, keep⟩) := ⟨rfl, rfl, rfl⟩
/-- The example's store, behind its first opening; behind its commit. -/
structure Ex1 (t : St) : Prop where
  r : t.r = []
  sk : t.sk = false
  quiet : Quiet t.d
  c : t.d.c ≤ 3
  cap : t.d.p.cap = 1000
  inv : Inv t none 100 100
theorem ex1 : openE dA = 0 ∧ Ex1 (openS dA) := by
  obtain ⟨h1, h2, h3, h4, h5⟩ := (Shut.new ⟨1000, [], 0, false, []⟩ 0 false 100 100).opens
  obtain ⟨q1, q2⟩ := h4 dA_quiet
  obtain ⟨k1, k2, _, k3⟩ := h5 q1
  refine ⟨q1, ?_, rfl, ?_, ?_, ?_, k2⟩
  · rcases k3 with k | ⟨l, h, _⟩
    · exact k
    · cases h
  · exact k1 ▸ q2
  · have : (openK dA).c ≤ 0 + 3 := h3
    rw [show openK dA = (openS dA).d from k1] at this
    omega
  · have : (openK dA).p = _ := h2
    rw [show openK dA = (openS dA).d from k1] at this
    rw [this]
theorem ex2 (most : Int) {t : St} (h : Ex1 t) : (commitS most t [opA]).2 = 0 ∧ (commitS most t [opA]).1.r = [⟨⟨#[97]⟩, ⟨#[49]⟩⟩] ∧ Inv (commitS most t [opA]).1 none 200 100 ∧ (commitS most t [opA]).1.d.c ≤ 12 := by
  have hw : wS (applyT t.r [opA]) ≤ 10 := by rw [h.r, opA_map]; decide
  have hrs : Rises (applyT t.r [opA]) := rises_applyT _ _
  obtain ⟨g1, g2, g3⟩ := table_ok hrs (by omega)
  have hc := h.inv.commit most [opA] (small_wt opA_wt) g1 (by omega)
  have hl := opA_len
  have he := (hc.quiet h.quiet h.sk).2.2 opA_right
  have hu := h.inv.shut.used.1
  rw [if_neg (by rw [h.cap]; omega)] at he
  obtain ⟨k1, k2, k3⟩ := hc.ok he
  refine ⟨he, by rw [k2, h.r, opA_map], k3.mono (by omega), by have := hc.c; have := h.c; omega⟩

set_option maxHeartbeats 4000000 in
set_option maxRecDepth 100000 in
/-- The statements' own example. -/
theorem awake10_calls (w : World) (ht : TabW w) : Calls Tryz.prog 12 #[] w fun e w' => e = .returned (.bool true) ∧ Mod NoneB w w' := by
  obtain ⟨x1, x2⟩ := ex1
  obtain ⟨y1, y2, y3, y4⟩ := ex2 (max 100 0) x2
  have hwS : wS [⟨⟨#[97]⟩, ⟨#[49]⟩⟩] ≤ 10 := by decide
  obtain ⟨t1, ht1⟩ : ∃ t, t = openS dA := ⟨_, rfl⟩
  rw [← ht1] at x2 y1 y2 y3 y4
  obtain ⟨k, hk⟩ : ∃ k, k = commitS (max 100 0) t1 [opA] := ⟨_, rfl⟩
  rw [← hk] at y1 y2 y3 y4
  have HK := Lib.hid hk
  have HT1 := Lib.hid ht1
  have X1 := Lib.hid x1
  have X2 := Lib.hid x2
  have Y2 := Lib.hid y2
  have Y3 := Lib.hid y3
  have Y4 := Lib.hid y4
  have HWS := Lib.hid hwS
  clear x1 x2 y2 y3 y4 ht1 hk hwS
  obtain ⟨t2, e2⟩ := k
  simp only at y1 Y2 Y3 Y4
  subst y1
  go_enter Tryz.func12, Tryz.ntmps12
  go_wp2_with fail
  refine (Dw.new0 w w (Mod.refl _ _) 1000).mono ?_
  rintro e w1 ⟨p, rfl, hdw⟩
  obtain ⟨S1, h1⟩ := Lw.dw hdw
  have sp1 : Sp w w1 p dA S1 [] none 100 100 := ⟨h1, Shut.new _ _ _ _ _⟩
  clear hdw h1
  go_wp2_with fail
  refine (sp1.open ht (by omega) (by omega) (Nat.zero_le _) (by decide) (fun l h => by cases h) 100).mono ?_
  rintro e w2 (⟨q, g, s, x, S2, X, rfl, ho⟩ | ⟨h0, _⟩)
  case inr => exact absurd X1.out h0
  have so2 := ho.so
  rw [← HT1.out] at so2
  clear ho sp1
  go_wp2_with ((with_reducible refine (num_calls _ _).mono ?_); rintro ez wz ⟨rfl, rfl⟩)
  have hal : Mod NoneB wz (wz.alloc (.cells #[.bool false, .string ⟨#[97]⟩, .string ⟨#[49]⟩] 49)) := (Mod.refl NoneB wz).alloc _
  have hbx := box1 wz (.cells #[.bool false, .string ⟨#[97]⟩, .string ⟨#[49]⟩] 49)
  have hro : Rd (wz.alloc (.cells #[.bool false, .string ⟨#[97]⟩, .string ⟨#[49]⟩] 49)) 3 (some ⟨wz.heap.size, 0, none⟩) 1 (encOs [opA]) := rd_blk (sz := 3) (n := 1) hbx rfl (by decide)
  have hoff : 0 < [opA].length → ∀ ad, some (⟨wz.heap.size, 0, none⟩ : Addr) = some ad → ¬ S2 ad.block ∧ ¬ X ad.block ∧ ad.block ≠ q := fun _ ad had => by
    injection had with had
    subst had
    exact ⟨fun hh => absurd (so2.at_.lw.isD.lt hh) (Nat.lt_irrefl _), fun hh => absurd (so2.at_.mp.idx.lt hh) (Nat.lt_irrefl _), fun hh => absurd (blk_lt so2.at_.wal) (by rw [← hh]; exact Nat.lt_irrefl _)⟩
  refine ((so2.mod0 hal).commit ht (by omega) (by omega) (by have := X2.out.c; omega) [opA] _ 1 hro hoff opA_wt (by rw [X2.out.r]; decide)).mono ?_
  rw [← HK.out]
  rintro e w3 ⟨rfl, x3, S3, X3, hat, _, _, _⟩
  have sp3 : Sp w w3 p t2.d S3 t2.r none 200 100 := ⟨hat.lw, Y3.out.shut⟩
  clear hat hro hoff hbx hal so2
  go_wp2_with fail
  refine (sp3.lw.restart0 (sp3.on.fit (by omega) (by omega) (by have := Y4.out; omega)) 1000).mono ?_
  rintro e w4 ⟨rfl, S4, h4, _, _⟩
  have sp4 : Sp w w4 p (restartD t2.d ⟨1000, [], 0, false, []⟩) S4 t2.r none 200 100 := ⟨h4, sp3.on.restart _⟩
  have hq4 := Quiet.restart t2.d 1000 []
  have hc4 : (restartD t2.d ⟨1000, [], 0, false, []⟩).c = 0 := rfl
  obtain ⟨d4, hd4⟩ : ∃ d4, d4 = restartD t2.d ⟨1000, [], 0, false, []⟩ := ⟨_, rfl⟩
  rw [← hd4] at sp4 hq4 hc4
  clear h4 sp3 hd4
  go_wp2_with fail
  refine (sp4.open ht (by omega) (by omega) (by omega) (by rw [Y2.out]; have := HWS.out; omega) (fun l h => by cases h) 100).mono ?_
  rintro e w5 (⟨q2, g2, s2, x5, S5, X5, rfl, ho⟩ | ⟨h0, _⟩)
  case inr => exact absurd (sp4.on.opens.2.2.2.1 hq4).1 h0
  have hr5 : (openS d4).r = [⟨⟨#[97]⟩, ⟨#[49]⟩⟩] := by
    rcases ho.map with k | ⟨l, h, _⟩
    · rw [k, Y2.out]
    · cases h
  have hget := sget_calls ho.so.at_.mp ⟨#[97]⟩ (by rw [hr5]; decide) (by decide)
  rw [hr5] at hget
  have hgt : getT [⟨⟨#[97]⟩, ⟨#[49]⟩⟩] ⟨#[97]⟩ = some ⟨#[49]⟩ := by rw [getT_cons, if_pos rfl]
  rw [hgt] at hget
  have hb5 := ho.so.at_.lw.base
  have HGET := Lib.hid hget
  clear hget hgt hr5 ho sp4 hq4 hc4
  go_wp2_with (first
    | ((with_reducible refine (num_calls _ _).mono ?_); rintro ez wz ⟨rfl, hwz⟩; subst hwz)
    | ((with_reducible refine HGET.out.mono ?_); rintro ez w6 ⟨rfl, hm6⟩))
  go_ret
  exact ⟨rfl, hb5.then0 hm6⟩
end Go.Proofs.YtnlmfmceogbomaaGreatDoor

/- The store in a law: the map that is held beside it; a disk that nothing befalls. -/
namespace Go.Proofs.YtnlmfmceogbomaaGreatDoor
open Go.RowKit
set_option linter.unusedVariables false

/-- Ops of a row within the laws' bound. -/
structure Fine (l : List Op3) : Prop where
  wt : wtO l ≤ 5000
  len : l.length ≤ 60
theorem Fine.wO {l : List Op3} (h : Fine l) : wO l ≤ 5420 := by have h1 := wO_wt l h.wt; have h2 := h.wt; have h3 := h.len; omega
theorem table_T (r : List Pr) : (tableR r).1.length ≤ 1048584 := table_len r
section
variable {w0 w w1 : World} {p q g s : Nat} {most : Int} {t : St} {x : Ix} {S X : Nat → Prop} {v : Value} {m : List Pr}
theorem StAt.old {A : Option Addr} {n : Nat} {cs : List Value} (h : StAt w0 w p q g s most t x S X) (hr : Rd w0 3 A n cs) : Rd w 3 A n cs ∧ (0 < n → ∀ ad, A = some ad → ¬ S ad.block ∧ ¬ X ad.block ∧ ad.block ≠ q) :=
  ⟨hr.mod0 h.lw.base, fun hn ad had => by
    have hb := hr.block_lt (by decide) hn ad had
    exact ⟨fun hh => by have := h.lw.own _ hh; omega, fun hh => by have := h.mp.X0 _ hh; omega, fun hh => by have := h.q0; omega⟩⟩
/-- All, held against the pairs. -/
theorem all_pairs {r m : List Pr} {W : World} (A B : Option Addr) (c c' : Nat) (h1 : Rd W 2 A r.length (encPs r)) (h2 : Rd W 2 B m.length (encPs m)) (he : r = m) :
    Calls Tryz.prog 19 #[.slice A r.length c, .slice B m.length c'] W fun e w' => e = .returned (.bool true) ∧ Mod NoneB W w' := by
  have h := pairs_calls r m A B c c' W h1 h2
  rw [decide_eq_true he] at h
  exact h
end
theorem own_rd {w : World} {T sz n c : Nat} {A : Option Addr} {cs : List Value} (h : Own w T sz (.slice A n c) n cs) : Rd w sz A n cs := by
  obtain ⟨A', c', e, _, _, hr⟩ := h.out
  injection e with e1 e2 e3
  subst e1
  exact hr
end Go.Proofs.YtnlmfmceogbomaaGreatDoor
