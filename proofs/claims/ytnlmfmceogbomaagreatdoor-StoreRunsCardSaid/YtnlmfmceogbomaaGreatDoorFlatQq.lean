/- The library's contracts at this translation: the numbers, and one application each. -/
import Derived.Shelf.Small.Strs
import Derived.Test.YtnlmfmceogbomaaGreatDoorProg
import Derived.Test.YtnlmfmceogbomaaGreatDoorOrdMapQq
import Derived.Test.YtnlmfmceogbomaaGreatDoorRowQq
import Derived.Test.YtnlmfmceogbomaaGreatDoorAfterQq
namespace Go.Proofs.YtnlmfmceogbomaaGreatDoor
open Go.Shelf Go.RowKit
def lays106_ren : Go.Shelf.Ren := ⟨fun | 106 => 82 | 213 => 124 | 265 => 161 | n => n, fun | 9 => 9 | 3 => 3 | n => n, fun | n => n⟩
theorem lays106 : Go.Proofs.Lays.n106 Tryz.prog lays106_ren := {
  mixed := by kernel_rfl
  f106 := Tryz.func82.trans (congrArg some (by kernel_rfl))
  f213 := Tryz.func124.trans (congrArg some (by kernel_rfl))
  f265 := Tryz.func161.trans (congrArg some (by kernel_rfl))
  t3 := Tryz.underlying3
  a3 := Tryz.isAgg3
  z3 := Tryz.sizeOf3
  v3 := Tryz.zeroValue3
  t9 := Tryz.underlying9
  a9 := Tryz.isAgg9
  z9 := Tryz.sizeOf9
  v9 := Tryz.zeroValue9 }
/-- strings.Compare tells the order of two texts, and leaves the world as it was. -/
theorem strings_Compare (a b : ByteArray) (w : World) :
    Calls Tryz.prog 82 #[.string a, .string b] w fun e w' => e = .returned (.int .i64 (cmpS a b)) ∧ w = w' :=
  (Any.strings_Compare lays106 a b w).mono fun _ _ h => ⟨h.1, h.2.symm⟩
end Go.Proofs.YtnlmfmceogbomaaGreatDoor

/- The search for a key among pairs (table.find): what it answers at a list whose keys rise. -/
namespace Go.Proofs.YtnlmfmceogbomaaGreatDoor
open Go.RowKit

def encP (p : Pr) : List Value := [.string p.k, .string p.v]
def encPs (l : List Pr) : List Value := l.flatMap encP
theorem encPs_length (l : List Pr) : (encPs l).length = l.length * 2 := by
  unfold encPs
  induction l with
  | nil => rfl
  | cons x l ih => rw [List.flatMap_cons, List.length_append, ih, List.length_cons]; simp [encP]; omega
theorem encPs_one (l : List Pr) : ∀ u ∈ encPs l, u.oneCell' = true := by
  intro u hu
  unfold encPs at hu
  obtain ⟨p, _, hu⟩ := List.mem_flatMap.1 hu
  simp [encP] at hu
  rcases hu with rfl | rfl <;> rfl
theorem encPs_split (l : List Pr) (i : Nat) : encPs l = encPs (l.take i) ++ encPs (l.drop i) := by unfold encPs; rw [← List.flatMap_append, List.take_append_drop]
theorem encPs_get (l : List Pr) (i : Nat) (h : i < l.length) : (encPs l)[i * 2]? = some (.string l[i].k) ∧ (encPs l)[i * 2 + 1]? = some (.string l[i].v) := by
  unfold encPs
  induction l generalizing i with
  | nil => simp at h
  | cons x l ih =>
    rw [List.flatMap_cons]
    cases i with
    | zero => simp [encP]
    | succ i =>
      have := ih i (by simpa using h)
      have e1 : (i + 1) * 2 = (encP x).length + i * 2 := by simp [encP]; omega
      rw [e1, Nat.add_assoc, List.getElem?_append_right (by omega), List.getElem?_append_right (by omega)]
      simpa using this
theorem addr_field (ad : Addr) (m j : Nat) (hj : 0 < j) : ad.add (m + j) = ⟨(ad.add m).block, (ad.add m).off + j, none⟩ := by
  unfold Addr.add
  by_cases hm : m = 0
  · subst hm
    simp [Nat.ne_of_gt hj]
  · simp [hm, Nat.add_assoc]
/-- Element i of a row of pairs. -/
theorem Rd.pair {w : World} {A : Option Addr} {n : Nat} {l : List Pr} (h : Rd w 2 A n (encPs l)) (i : Nat) (hi : i < l.length) :
    ∃ ad, A = some ad ∧ w.cell? (ad.add (i * 2)) = some (.string l[i].k) ∧ w.cell? ⟨(ad.add (i * 2)).block, (ad.add (i * 2)).off + 1, none⟩ = some (.string l[i].v) := by
  have hl : l.length = n := by have := h.1; rw [encPs_length] at this; omega
  obtain ⟨ad, e, hc⟩ := h.2.2 (by omega)
  have hg := encPs_get l i hi
  exact ⟨ad, e, hc _ _ hg.1, by rw [← addr_field _ _ 1 (by omega)]; exact hc _ _ hg.2⟩

set_option maxHeartbeats 400000 in
theorem findS1_calls (p : Pr) (key : ByteArray) (w : World) :
    Calls Tryz.prog 116 #[.agg #[.string p.k, .string p.v], .string key] w fun e w' => e = .returned (.int .i64 (cmpS p.k key)) ∧ Mod NoneB w w' := by
  go_enter Tryz.func116, Tryz.ntmps116
  go_wp2_with ((with_reducible refine (strings_Compare _ _ _).mono ?_); rintro e w' ⟨rfl, rfl⟩)
  go_ret
  exact ⟨rfl, (Mod.refl _ _).alloc _⟩

set_option maxHeartbeats 1000000 in
theorem bsearchP_calls (l : List Pr) (key : ByteArray) (A : Option Addr) (c : Nat) (w : World) (hp : Parts l key) (hr : Rd w 2 A l.length (encPs l)) (hlen : l.length ≤ 4611686018427387904) :
    Calls Tryz.prog 115 #[.slice A l.length c, .string key, .func (.func 116) #[] #[]] w fun e w' =>
      e = .returned (.tuple #[.int .i64 (lb l key), .bool (hitB l key)]) ∧ Mod NoneB w w' := by
  have hlb := lb_le l key
  go_enter Tryz.func115, Tryz.ntmps115
  go_wp2_with fail
  go_loopw [9, 10] (fun i j wr => ∃ a b : Nat, i = .int .i64 a ∧ j = .int .i64 b ∧ a ≤ lb l key ∧ lb l key ≤ b ∧ b ≤ l.length ∧ Mod NoneB w wr)
    (fun i j _ => (intOf j - intOf i).toNat)
  case atStart => exact ⟨0, l.length, rfl, rfl, by omega, hlb, by omega, Mod.refl _ _⟩
  case round =>
    obtain ⟨a, b, rfl, rfl, ha, hb, hbl, hm⟩ := hrel
    by_cases hlt : a < b
    · have hml : (a + b) / 2 < l.length := by omega
      obtain ⟨ad, rfl, h0, h1⟩ := hr.pair ((a + b) / 2) hml
      replace h0 := hm.cell0 h0
      replace h1 := hm.cell0 h1
      obtain ⟨q, hq⟩ : ∃ q, q = l[(a + b) / 2] := ⟨_, rfl⟩
      rw [← hq] at h0 h1
      have HQ := Lib.hid hq
      clear hq
      by_cases hc : cmpS q.k key < 0
      · have hc' : decide (cmpS q.k key < 0) = true := by simpa using hc
        have hlt2 : (a + b) / 2 < lb l key := (hp _ hml).1 (by rw [← HQ.out]; exact hc)
        go_wp2_with ((with_reducible refine (findS1_calls q key _).mono ?_); rintro e w1 ⟨rfl, hm1⟩)
        go_roundw
        case rel => exact ⟨(a + b) / 2 + 1, b, by go_num, rfl, by omega, hb, hbl, hm.then0 hm1⟩
        case measure => simp [intOf]; omega
      · have hc' : decide (cmpS q.k key < 0) = false := by simpa using hc
        have hlt2 : lb l key ≤ (a + b) / 2 := Nat.le_of_not_lt fun h => hc (by have := (hp _ hml).2 h; rwa [← HQ.out] at this)
        go_wp2_with ((with_reducible refine (findS1_calls q key _).mono ?_); rintro e w1 ⟨rfl, hm1⟩)
        go_roundw
        case rel => exact ⟨a, (a + b) / 2, rfl, by go_num, ha, by omega, by omega, hm.then0 hm1⟩
        case measure => simp [intOf]; omega
    · obtain rfl : a = lb l key := by omega
      by_cases hin : lb l key < l.length
      · obtain ⟨ad, rfl, h0, h1⟩ := hr.pair (lb l key) hin
        replace h0 := hm.cell0 h0
        replace h1 := hm.cell0 h1
        have hh : hitB l key = decide (cmpS l[lb l key].k key = 0) := by unfold hitB; rw [dif_pos hin]
        obtain ⟨q, hq⟩ : ∃ q, q = l[lb l key] := ⟨_, rfl⟩
        rw [← hq] at h0 h1 hh
        have HH := Lib.hid hh
        clear hq hh
        go_wp2_with ((with_reducible refine (findS1_calls q key _).mono ?_); rintro e w1 ⟨rfl, hm1⟩)
        go_ret2
        exact ⟨by rw [HH.out]; rfl, hm.then0 hm1⟩
      · have hh : hitB l key = false := by unfold hitB; rw [dif_neg hin]
        have HH := Lib.hid hh
        clear hh
        go_wp2_with fail
        go_ret2
        exact ⟨by rw [HH.out]; rfl, hm⟩

/-- table.find: a key's place among pairs, and whether it is there. -/
theorem find_calls (l : List Pr) (key : ByteArray) (A : Option Addr) (c : Nat) (w : World) (hp : Parts l key) (hr : Rd w 2 A l.length (encPs l)) (hlen : l.length ≤ 4611686018427387904) :
    Calls Tryz.prog 74 #[.slice A l.length c, .string key] w fun e w' =>
      e = .returned (.tuple #[.int .i64 (lb l key), .bool (hitB l key)]) ∧ Mod NoneB w w' := by
  go_enter Tryz.func74, Tryz.ntmps74
  go_wp2_with ((with_reducible refine (bsearchP_calls l key A c _ hp hr hlen).mono ?_); rintro e w1 ⟨rfl, hm1⟩)
  go_ret2
  exact ⟨rfl, hm1⟩
end Go.Proofs.YtnlmfmceogbomaaGreatDoor

/- Elements of several cells in a row. No program stands here. -/
namespace Go.Proofs.YtnlmfmceogbomaaGreatDoor
set_option linter.unusedVariables false

theorem flatMap_at {α : Type} (f : α → List Value) (sz : Nat) (hf : ∀ x, (f x).length = sz) (l : List α) (i : Nat) (h : i < l.length) (k : Nat) (hk : k < sz) : (l.flatMap f)[i * sz + k]? = (f l[i])[k]? := by
  induction l generalizing i with
  | nil => simp at h
  | cons x l ih =>
    rw [List.flatMap_cons]
    cases i with
    | zero => rw [Nat.zero_mul, Nat.zero_add, List.getElem?_append_left (by rw [hf]; exact hk)]; rfl
    | succ i =>
      rw [List.getElem?_append_right (by rw [hf, Nat.add_mul]; omega), hf, show (i + 1) * sz + k - sz = i * sz + k from by rw [Nat.add_mul]; omega, ih i (by simpa using h)]
      rfl
/-- Element i of a row of elements: where it begins, and each of its cells. -/
theorem Rd.elem {α : Type} {w : World} {A : Option Addr} {n sz : Nat} {l : List α} {f : α → List Value} (hf : ∀ x, (f x).length = sz) (h : Rd w sz A n (l.flatMap f)) (hz : 0 < sz) (i : Nat) (hi : i < l.length) :
    ∃ ad, A = some ad ∧ (∀ u, (f l[i])[0]? = some u → w.cell? (ad.add (i * sz)) = some u) ∧ ∀ k u, 0 < k → k < sz → (f l[i])[k]? = some u → w.cell? ⟨(ad.add (i * sz)).block, (ad.add (i * sz)).off + k, none⟩ = some u := by
  have hl : l.length * sz = n * sz := by
    have h1 := h.1
    have h2 : (l.flatMap f).length = l.length * sz := by
      clear h hi h1
      induction l with
      | nil => simp
      | cons x l ih => rw [List.flatMap_cons, List.length_append, ih, hf, List.length_cons, Nat.add_mul]; omega
    omega
  have hl' : l.length = n := Nat.eq_of_mul_eq_mul_right hz hl
  obtain ⟨ad, e, hc⟩ := h.2.2 (by omega)
  refine ⟨ad, e, fun u hu => ?_, fun k u h0 hk hu => ?_⟩
  · have := hc (i * sz + 0) u (by rw [flatMap_at f sz hf l i hi 0 hz]; exact hu)
    simpa using this
  · rw [← addr_field ad (i * sz) k h0]
    exact hc _ u (by rw [flatMap_at f sz hf l i hi k hk]; exact hu)
theorem rdBlk {w : World} {g sz n : Nat} {cs : Array Value} {t : TypeId} {f : Nat × Nat} (h : w.heap[g]? = some (.cells cs t f)) (hl : cs.size = n * sz) (hn : n ≤ 9223372036854775807) : Rd w sz (some ⟨g, 0, none⟩) n cs.toList :=
  ⟨by simpa using hl, hn, fun _ => ⟨_, rfl, fun j u hu => by rw [add_zero, blk_cell h]; simpa using hu⟩⟩
theorem Own.nilD0 {w : World} {T size n : Nat} {v : Value} {cs : List Value} (h : Own w T size v n cs) : ∃ A c, v = .slice A n c ∧ Rd w size A n cs := by
  obtain ⟨A, c, h1, _, _, h2⟩ := h.out
  exact ⟨A, c, h1, h2⟩
theorem Own.tag0 {w : World} {T size n g : Nat} {v : Value} {cs : List Value} (h : Own w T size v n cs) (hg : v.ownBlock = some g) : ∃ cur, w.heap[g]? = some (.cells cur T (0, 0)) := by
  obtain ⟨_, ⟨rfl, _⟩ | ⟨g', cap, cur, rfl, _, hh, _⟩⟩ := h
  · simp [Value.ownBlock] at hg
  · simp [Value.ownBlock] at hg
    subst hg
    exact ⟨cur, hh⟩
theorem tag_ne0 {w : World} {a b T1 T2 : Nat} {c1 c2 : Array Value} {f1 f2 : Nat × Nat} (h1 : w.heap[a]? = some (.cells c1 T1 f1)) (h2 : w.heap[b]? = some (.cells c2 T2 f2)) (hT : T1 ≠ T2) : a ≠ b := by
  rintro rfl
  rw [h1] at h2
  injection h2 with h2
  injection h2 with _ h2 _
  exact hT h2
theorem setCell_blk0 {w : World} {p j : Nat} {u : Value} {cs : Array Value} {T : Nat} (h : w.heap[p]? = some (.cells cs T (0, 0))) : (w.setCell ⟨p, j, none⟩ u).heap[p]? = some (.cells (cs.setIfInBounds j u) T (0, 0)) := by
  simp only [World.setCell]
  rw [Array.getElem?_modify]
  simp [h]
end Go.Proofs.YtnlmfmceogbomaaGreatDoor
