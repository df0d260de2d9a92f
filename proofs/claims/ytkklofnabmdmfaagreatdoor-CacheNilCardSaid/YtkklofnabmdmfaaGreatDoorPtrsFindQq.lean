/- The search for a name among files behind pointers (disk's find): what it answers where the names rise. -/
import Derived.Test.YtkklofnabmdmfaaGreatDoorFindQq
namespace Go.Proofs.YtkklofnabmdmfaaGreatDoor
open Go.RowKit
set_option linter.unusedVariables false

def encG (g : Nat) : List Value := [.pointer (some ⟨g, 0, none⟩)]
def encGs (l : List Nat) : List Value := l.flatMap encG
theorem encGs_length (l : List Nat) : (encGs l).length = l.length := by
  unfold encGs
  induction l with
  | nil => rfl
  | cons x l ih => rw [List.flatMap_cons, List.length_append, ih, List.length_cons]; simp [encG]; omega
theorem encGs_one (l : List Nat) : ∀ u ∈ encGs l, u.oneCell' = true := by
  intro u hu
  unfold encGs at hu
  obtain ⟨p, _, hu⟩ := List.mem_flatMap.1 hu
  simp [encG] at hu
  subst hu; rfl
theorem encGs_split (l : List Nat) (i : Nat) : encGs l = encGs (l.take i) ++ encGs (l.drop i) := by unfold encGs; rw [← List.flatMap_append, List.take_append_drop]
theorem encGs_get (l : List Nat) (i : Nat) (h : i < l.length) : (encGs l)[i]? = some (.pointer (some ⟨l[i], 0, none⟩)) := by
  unfold encGs
  induction l generalizing i with
  | nil => simp at h
  | cons x l ih =>
    rw [List.flatMap_cons]
    cases i with
    | zero => simp [encG]
    | succ i =>
      have := ih i (by simpa using h)
      simpa [encG] using this
/-- Element i of a row of pointers. -/
theorem Rd.ptr {w : World} {A : Option Addr} {n : Nat} {l : List Nat} (h : Rd w 1 A n (encGs l)) (i : Nat) (hi : i < l.length) :
    ∃ ad, A = some ad ∧ w.cell? (ad.add i) = some (.pointer (some ⟨l[i], 0, none⟩)) := by
  have hl : l.length = n := by have := h.1; rw [encGs_length] at this; omega
  obtain ⟨ad, e, hc⟩ := h.2.2 (by omega)
  exact ⟨ad, e, hc _ _ (encGs_get l i hi)⟩

/-- A file: its name, its bytes, how many are synced. -/
structure Fl where
  n : ByteArray
  b : List UInt8
  s : Nat
deriving DecidableEq
instance : Inhabited Fl := ⟨⟨⟨#[]⟩, [], 0⟩⟩

/-- Files as pairs: only the names count. -/
def asP (f : Fl) : Pr := ⟨f.n, ⟨#[]⟩⟩
def asPs (l : List Fl) : List Pr := l.map asP

/-- The names behind pointers. -/
def NamesAt (w : World) (gs : List Nat) (fs : List Fl) : Prop := gs.length = fs.length ∧ ∀ i, ∀ h : i < gs.length, ∀ h' : i < fs.length, w.cell? ⟨gs[i], 0, none⟩ = some (.string fs[i].n)

set_option maxHeartbeats 400000 in
theorem findS2_calls (g : Nat) (n key : ByteArray) (w : World) (h : w.cell? ⟨g, 0, none⟩ = some (.string n)) :
    Calls Tryz.prog 122 #[.pointer (some ⟨g, 0, none⟩), .string key] w fun e w' => e = .returned (.int .i64 (cmpS n key)) ∧ Mod NoneB w w' := by
  go_enter Tryz.func122, Tryz.ntmps122
  go_wp2_with ((with_reducible refine (strings_Compare _ _ _).mono ?_); rintro e w' ⟨rfl, rfl⟩)
  go_ret
  exact ⟨rfl, Mod.refl _ _⟩

set_option maxHeartbeats 1000000 in
theorem bsearchG_calls (fs : List Fl) (gs : List Nat) (key : ByteArray) (A : Option Addr) (c : Nat) (w : World) (hp : Parts (asPs fs) key) (hr : Rd w 1 A gs.length (encGs gs)) (hn : NamesAt w gs fs) (hlen : gs.length ≤ 4611686018427387904) :
    Calls Tryz.prog 121 #[.slice A gs.length c, .string key, .func (.func 122) #[] #[]] w fun e w' =>
      e = .returned (.tuple #[.int .i64 (lb (asPs fs) key), .bool (hitB (asPs fs) key)]) ∧ Mod NoneB w w' := by
  have hlb := lb_le (asPs fs) key
  have hl : (asPs fs).length = fs.length := by simp [asPs]
  have hgl : fs.length = gs.length := hn.1.symm
  have hget : ∀ i, ∀ h : i < (asPs fs).length, ∀ h' : i < fs.length, (asPs fs)[i].k = fs[i].n := fun i h h' => by simp [asPs, asP]
  rw [hl, hgl] at hlb
  have HL := Lib.hid hl
  have HGL := Lib.hid hgl
  have HGET := Lib.hid hget
  clear hl hgl hget
  go_enter Tryz.func121, Tryz.ntmps121
  go_wp2_with fail
  go_loopw [9, 10] (fun i j wr => ∃ a b : Nat, i = .int .i64 a ∧ j = .int .i64 b ∧ a ≤ lb (asPs fs) key ∧ lb (asPs fs) key ≤ b ∧ b ≤ gs.length ∧ Mod NoneB w wr)
    (fun i j _ => (intOf j - intOf i).toNat)
  case atStart => exact ⟨0, gs.length, rfl, rfl, by omega, hlb, by omega, Mod.refl _ _⟩
  case round =>
    obtain ⟨a, b, rfl, rfl, ha, hb, hbl, hm⟩ := hrel
    by_cases hlt : a < b
    · have hml : (a + b) / 2 < gs.length := by omega
      obtain ⟨ad, rfl, h0⟩ := hr.ptr ((a + b) / 2) hml
      have h1 := hn.2 ((a + b) / 2) hml (by rw [HGL.out]; exact hml)
      replace h0 := hm.cell0 h0
      replace h1 := hm.cell0 h1
      have hq : (asPs fs)[(a + b) / 2]'(by rw [HL.out, HGL.out]; exact hml) = ⟨(fs[(a + b) / 2]'(by rw [HGL.out]; exact hml)).n, ⟨#[]⟩⟩ := by simp [asPs, asP]
      have hP := hp ((a + b) / 2) (by rw [HL.out, HGL.out]; exact hml)
      rw [hq] at hP
      obtain ⟨q, hqq⟩ : ∃ q, q = (fs[(a + b) / 2]'(by rw [HGL.out]; exact hml)).n := ⟨_, rfl⟩
      obtain ⟨g, hg⟩ : ∃ g, g = gs[(a + b) / 2] := ⟨_, rfl⟩
      rw [← hqq] at h1 hP
      rw [← hg] at h0 h1
      have HPP := Lib.hid hP
      clear hqq hg hq hP
      by_cases hc : cmpS q key < 0
      · have hc' : decide (cmpS q key < 0) = true := by simpa using hc
        have hlt2 : (a + b) / 2 < lb (asPs fs) key := HPP.out.1 hc
        go_wp2_with ((with_reducible refine (findS2_calls g q key _ h1).mono ?_); rintro e w1 ⟨rfl, hm1⟩)
        go_roundw
        case rel => exact ⟨(a + b) / 2 + 1, b, by go_num, rfl, by omega, hb, hbl, hm.then0 hm1⟩
        case measure => simp [intOf]; omega
      · have hc' : decide (cmpS q key < 0) = false := by simpa using hc
        have hlt2 : lb (asPs fs) key ≤ (a + b) / 2 := Nat.le_of_not_lt fun h => hc (HPP.out.2 h)
        go_wp2_with ((with_reducible refine (findS2_calls g q key _ h1).mono ?_); rintro e w1 ⟨rfl, hm1⟩)
        go_roundw
        case rel => exact ⟨a, (a + b) / 2, rfl, by go_num, ha, by omega, by omega, hm.then0 hm1⟩
        case measure => simp [intOf]; omega
    · obtain rfl : a = lb (asPs fs) key := by omega
      by_cases hin : lb (asPs fs) key < gs.length
      · obtain ⟨ad, rfl, h0⟩ := hr.ptr (lb (asPs fs) key) hin
        have h1 := hn.2 (lb (asPs fs) key) hin (by rw [HGL.out]; exact hin)
        replace h0 := hm.cell0 h0
        replace h1 := hm.cell0 h1
        have hin2 : lb (asPs fs) key < (asPs fs).length := by rw [HL.out, HGL.out]; exact hin
        have hh : hitB (asPs fs) key = decide (cmpS (asPs fs)[lb (asPs fs) key].k key = 0) := by unfold hitB; rw [dif_pos hin2]
        rw [HGET.out _ hin2 (by rw [HGL.out]; exact hin)] at hh
        obtain ⟨q, hqq⟩ : ∃ q, q = (fs[lb (asPs fs) key]'(by rw [HGL.out]; exact hin)).n := ⟨_, rfl⟩
        obtain ⟨g, hg⟩ : ∃ g, g = gs[lb (asPs fs) key] := ⟨_, rfl⟩
        rw [← hqq] at h1 hh
        rw [← hg] at h0 h1
        have HH := Lib.hid hh
        clear hqq hh hg hin2
        go_wp2_with ((with_reducible refine (findS2_calls g q key _ h1).mono ?_); rintro e w1 ⟨rfl, hm1⟩)
        go_ret2
        exact ⟨by rw [HH.out]; rfl, hm.then0 hm1⟩
      · have hin2 : ¬ lb (asPs fs) key < (asPs fs).length := by rw [HL.out, HGL.out]; exact hin
        have hh : hitB (asPs fs) key = false := by unfold hitB; rw [dif_neg hin2]
        have HH := Lib.hid hh
        clear hh hin2
        go_wp2_with fail
        go_ret2
        exact ⟨by rw [HH.out]; rfl, hm⟩
end Go.Proofs.YtkklofnabmdmfaaGreatDoor
