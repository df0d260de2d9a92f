/- The laws' Great: it lets by no more than some thousand letters. -/
import Derived.Test.YtfbnkbdolimojaaTabR
namespace Go.Proofs.Ytfbnkbdolimojaa
open Go.RowKit

def encO (o : Op3) : List Value := [.bool o.del, .string o.k, .string o.v]
def encOs (l : List Op3) : List Value := l.flatMap encO
theorem encOs_length (l : List Op3) : (encOs l).length = l.length * 3 := by
  unfold encOs
  induction l with
  | nil => rfl
  | cons x l ih => rw [List.flatMap_cons, List.length_append, ih, List.length_cons]; simp [encO]; omega
theorem encOs_get (l : List Op3) (i : Nat) (h : i < l.length) : (encOs l)[i * 3]? = some (.bool l[i].del) ∧ (encOs l)[i * 3 + 1]? = some (.string l[i].k) ∧ (encOs l)[i * 3 + 2]? = some (.string l[i].v) := by
  unfold encOs
  induction l generalizing i with
  | nil => simp at h
  | cons x l ih =>
    rw [List.flatMap_cons]
    cases i with
    | zero => simp [encO]
    | succ i =>
      have := ih i (by simpa using h)
      have e1 : (i + 1) * 3 = (encO x).length + i * 3 := by simp [encO]; omega
      rw [e1, Nat.add_assoc, Nat.add_assoc, List.getElem?_append_right (by omega), List.getElem?_append_right (by omega), List.getElem?_append_right (by omega)]
      simpa using this
/-- Element i of a row of ops. -/
theorem Rd.op {w : World} {A : Option Addr} {n : Nat} {l : List Op3} (h : Rd w 3 A n (encOs l)) (i : Nat) (hi : i < l.length) :
    ∃ ad, A = some ad ∧ w.cell? (ad.add (i * 3)) = some (.bool l[i].del) ∧ w.cell? ⟨(ad.add (i * 3)).block, (ad.add (i * 3)).off + 1, none⟩ = some (.string l[i].k) ∧ w.cell? ⟨(ad.add (i * 3)).block, (ad.add (i * 3)).off + 2, none⟩ = some (.string l[i].v) := by
  have hl : l.length = n := by have := h.1; rw [encOs_length] at this; omega
  obtain ⟨ad, e, hc⟩ := h.2.2 (by omega)
  have hg := encOs_get l i hi
  exact ⟨ad, e, hc _ _ hg.1, by rw [← addr_field _ _ 1 (by omega)]; exact hc _ _ hg.2.1, by rw [← addr_field _ _ 2 (by omega)]; exact hc _ _ hg.2.2⟩

/-- What 'aquifer/aquiferlaw6.Great' counts. -/
def wtPE (p : Pr) : Nat := 1 + min p.k.size 3001 + min p.v.size 3001
def wtP (l : List Pr) : Nat := (l.map wtPE).sum
theorem wtP_le {l : List Pr} (h : wtP l ≤ 3000) : l.length ≤ 3000 ∧ ∀ p ∈ l, 1 + p.k.size + p.v.size ≤ 3000 := by
  induction l with
  | nil => exact ⟨by simp, fun p hp => by cases hp⟩
  | cons q l ih =>
    simp only [wtP, List.map_cons, List.sum_cons] at h ih
    have h1 : wtPE q ≥ 1 := by unfold wtPE; omega
    obtain ⟨h2, h3⟩ := ih (by omega)
    have hlen : l.length ≤ (l.map wtPE).sum := by
      clear h ih h2 h3
      induction l with
      | nil => simp
      | cons r l ih => simp only [List.map_cons, List.sum_cons, List.length_cons]; have : wtPE r ≥ 1 := by unfold wtPE; omega
                       omega
    refine ⟨by simp only [List.length_cons]; omega, fun p hp => ?_⟩
    rcases List.mem_cons.1 hp with rfl | hp
    · unfold wtPE at h
      omega
    · exact h3 p hp
theorem wtP_take (l : List Pr) (i : Nat) (h : i < l.length) : wtP (l.take (i + 1)) = wtP (l.take i) + wtPE l[i] := by
  unfold wtP
  rw [List.take_succ_eq_append_getElem h]
  simp only [List.map_append, List.sum_append, List.map_cons, List.map_nil, List.sum_cons, List.sum_nil, Nat.add_zero]

set_option maxHeartbeats 2000000 in
set_option maxRecDepth 100000 in
theorem greatP_calls (l : List Pr) (A : Option Addr) (c : Nat) (w : World) (hr : Rd w 2 A l.length (encPs l)) :
    Calls Try.prog 19 #[.slice A l.length c] w fun e w' => ∃ b, e = .returned (.bool b) ∧ Mod NoneB w w' ∧ (b = false → wtP l ≤ 3000) := by
  have hn := hr.2.1
  go_enter Try.func19, Try.ntmps19
  go_wp2_with fail
  go_loopw [3, 4] (fun n i wr => ∃ j : Nat, i = .int .i64 j ∧ n = .int .i64 (wtP (l.take j) : Nat) ∧ j ≤ l.length ∧ wtP (l.take j) ≤ 3000 + 2 * 3001 + 1 ∧ Mod NoneB w wr) (fun _ i _ => l.length - (intOf i).toNat)
  case atStart => exact ⟨0, rfl, by simp [wtP], by omega, by simp [wtP], Mod.refl _ _⟩
  case round =>
    obtain ⟨j, rfl, rfl, hj, hb, hm⟩ := hrel
    by_cases hlt : j < l.length
    · by_cases hle : wtP (l.take j) ≤ 3000
      · obtain ⟨ad, rfl, h1, h2⟩ := hr.pair j hlt
        replace h1 := hm.cell0 h1
        replace h2 := hm.cell0 h2
        have ht := wtP_take l j hlt
        obtain ⟨p, hp⟩ : ∃ p, p = l[j] := ⟨_, rfl⟩
        rw [← hp] at h1 h2 ht
        obtain ⟨W, hW⟩ : ∃ W, W = wtP (l.take j) := ⟨_, rfl⟩
        rw [← hW] at hb hle ht
        have HW := Lib.hid hW
        have HT := Lib.hid ht
        clear hp hW ht
        rw [← HW.out]
        go_wp2_with fail
        have e1 : IntKind.i64.wrap ((W : Int) + 1) = W + 1 := IntWalk.i64_in _ (by omega)
        have e2 : (0 : Int) ≤ j := by omega
        have e3 : (j : Int) < l.length := by omega
        have e4 : IntKind.i64.wrap ((W : Int) + 1 + min (p.k.size : Int) 3001) = W + 1 + min (p.k.size : Int) 3001 := IntWalk.i64_in _ (by omega)
        have e5 : IntKind.i64.wrap ((W : Int) + 1 + min (p.k.size : Int) 3001 + min (p.v.size : Int) 3001) = W + 1 + min (p.k.size : Int) 3001 + min (p.v.size : Int) 3001 := IntWalk.i64_in _ (by omega)
        go_quiet (fail)
        clear e1 e2 e3 e4 e5
        go_wp2_with fail
        go_roundw
        case rel =>
          refine ⟨j + 1, by go_num, ?_, by omega, ?_, hm.drewN _⟩
          · rw [HT.out]; unfold wtPE; congr 1; omega
          · rw [HT.out]; unfold wtPE; omega
        case measure => simp [intOf]; omega
      · obtain ⟨W, hW⟩ : ∃ W, W = wtP (l.take j) := ⟨_, rfl⟩
        rw [← hW] at hb hle
        rw [← hW]
        clear hW
        have hgt : 3000 < W := by omega
        go_wp2_with fail
        go_ret
        refine ⟨true, ?_, hm, fun h => by cases h⟩
        simp
    · obtain rfl : j = l.length := by omega
      have ht : l.take l.length = l := List.take_length
      rw [ht] at hb ⊢
      clear ht
      obtain ⟨W, hW⟩ : ∃ W, W = wtP l := ⟨_, rfl⟩
      rw [← hW] at hb
      rw [← hW]
      have HW := Lib.hid hW
      clear hW
      go_wp2_with fail
      go_ret
      refine ⟨decide ((3000 : Int) < W), rfl, hm, fun h => ?_⟩
      rw [← HW.out]
      have := of_decide_eq_false h
      omega

/-- What 'aquifer/aquiferlaw5.Great' counts. -/
def wtOE (p : Op3) : Nat := 1 + min p.k.size 5001 + min p.v.size 5001
def wtO (l : List Op3) : Nat := (l.map wtOE).sum
theorem wtO_le {l : List Op3} (h : wtO l ≤ 5000) : l.length ≤ 5000 ∧ ∀ p ∈ l, 1 + p.k.size + p.v.size ≤ 5000 := by
  induction l with
  | nil => exact ⟨by simp, fun p hp => by cases hp⟩
  | cons q l ih =>
    simp only [wtO, List.map_cons, List.sum_cons] at h ih
    have h1 : wtOE q ≥ 1 := by unfold wtOE; omega
    obtain ⟨h2, h3⟩ := ih (by omega)
    have hlen : l.length ≤ (l.map wtOE).sum := by
      clear h ih h2 h3
      induction l with
      | nil => simp
      | cons r l ih => simp only [List.map_cons, List.sum_cons, List.length_cons]; have : wtOE r ≥ 1 := by unfold wtOE; omega
                       omega
    refine ⟨by simp only [List.length_cons]; omega, fun p hp => ?_⟩
    rcases List.mem_cons.1 hp with rfl | hp
    · unfold wtOE at h
      omega
    · exact h3 p hp
theorem wtO_take (l : List Op3) (i : Nat) (h : i < l.length) : wtO (l.take (i + 1)) = wtO (l.take i) + wtOE l[i] := by
  unfold wtO
  rw [List.take_succ_eq_append_getElem h]
  simp only [List.map_append, List.sum_append, List.map_cons, List.map_nil, List.sum_cons, List.sum_nil, Nat.add_zero]

set_option maxHeartbeats 2000000 in
set_option maxRecDepth 100000 in
theorem greatO_calls (l : List Op3) (A : Option Addr) (c : Nat) (w : World) (hr : Rd w 3 A l.length (encOs l)) :
    Calls Try.prog 20 #[.slice A l.length c] w fun e w' => ∃ b, e = .returned (.bool b) ∧ Mod NoneB w w' ∧ (b = false → wtO l ≤ 5000) := by
  have hn := hr.2.1
  go_enter Try.func20, Try.ntmps20
  go_wp2_with fail
  go_loopw [3, 4] (fun n i wr => ∃ j : Nat, i = .int .i64 j ∧ n = .int .i64 (wtO (l.take j) : Nat) ∧ j ≤ l.length ∧ wtO (l.take j) ≤ 5000 + 2 * 5001 + 1 ∧ Mod NoneB w wr) (fun _ i _ => l.length - (intOf i).toNat)
  case atStart => exact ⟨0, rfl, by simp [wtO], by omega, by simp [wtO], Mod.refl _ _⟩
  case round =>
    obtain ⟨j, rfl, rfl, hj, hb, hm⟩ := hrel
    by_cases hlt : j < l.length
    · by_cases hle : wtO (l.take j) ≤ 5000
      · obtain ⟨ad, rfl, _, h1, h2⟩ := hr.op j hlt
        replace h1 := hm.cell0 h1
        replace h2 := hm.cell0 h2
        have ht := wtO_take l j hlt
        obtain ⟨p, hp⟩ : ∃ p, p = l[j] := ⟨_, rfl⟩
        rw [← hp] at h1 h2 ht
        obtain ⟨W, hW⟩ : ∃ W, W = wtO (l.take j) := ⟨_, rfl⟩
        rw [← hW] at hb hle ht
        have HW := Lib.hid hW
        have HT := Lib.hid ht
        clear hp hW ht
        rw [← HW.out]
        go_wp2_with fail
        have e1 : IntKind.i64.wrap ((W : Int) + 1) = W + 1 := IntWalk.i64_in _ (by omega)
        have e2 : (0 : Int) ≤ j := by omega
        have e3 : (j : Int) < l.length := by omega
        have e4 : IntKind.i64.wrap ((W : Int) + 1 + min (p.k.size : Int) 5001) = W + 1 + min (p.k.size : Int) 5001 := IntWalk.i64_in _ (by omega)
        have e5 : IntKind.i64.wrap ((W : Int) + 1 + min (p.k.size : Int) 5001 + min (p.v.size : Int) 5001) = W + 1 + min (p.k.size : Int) 5001 + min (p.v.size : Int) 5001 := IntWalk.i64_in _ (by omega)
        go_quiet (fail)
        clear e1 e2 e3 e4 e5
        go_wp2_with fail
        go_roundw
        case rel =>
          refine ⟨j + 1, by go_num, ?_, by omega, ?_, hm.drewN _⟩
          · rw [HT.out]; unfold wtOE; congr 1; omega
          · rw [HT.out]; unfold wtOE; omega
        case measure => simp [intOf]; omega
      · obtain ⟨W, hW⟩ : ∃ W, W = wtO (l.take j) := ⟨_, rfl⟩
        rw [← hW] at hb hle
        rw [← hW]
        clear hW
        have hgt : 5000 < W := by omega
        go_wp2_with fail
        go_ret
        refine ⟨true, ?_, hm, fun h => by cases h⟩
        simp
    · obtain rfl : j = l.length := by omega
      have ht : l.take l.length = l := List.take_length
      rw [ht] at hb ⊢
      clear ht
      obtain ⟨W, hW⟩ : ∃ W, W = wtO l := ⟨_, rfl⟩
      rw [← hW] at hb
      rw [← hW]
      have HW := Lib.hid hW
      clear hW
      go_wp2_with fail
      go_ret
      refine ⟨decide ((5000 : Int) < W), rfl, hm, fun h => ?_⟩
      rw [← HW.out]
      have := of_decide_eq_false h
      omega
end Go.Proofs.Ytfbnkbdolimojaa
