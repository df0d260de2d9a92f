/- Maps as bytes, in plain words. No program stands here. -/
import Derived.Test.YtfbnkbdolimojaaRecs
namespace Go.Proofs.Ytfbnkbdolimojaa
set_option linter.unusedVariables false

/-- The texts of a map. -/
def tabT (l : List Pr) : List ByteArray := l.flatMap fun p => [p.k, p.v]
def pairUp : List ByteArray → List Pr
  | a :: b :: r => ⟨a, b⟩ :: pairUp r
  | _ => []
theorem pairUp_tabT (l : List Pr) : pairUp (tabT l) = l := by
  induction l with
  | nil => rfl
  | cons p l ih => show (⟨p.k, p.v⟩ : Pr) :: pairUp (tabT l) = _; rw [ih]
theorem tabT_length (l : List Pr) : (tabT l).length = 2 * l.length := by
  induction l with
  | nil => rfl
  | cons p l ih => show (tabT l).length + 1 + 1 = _; rw [ih, List.length_cons]; omega
theorem tabT_append (a b : List Pr) : tabT (a ++ b) = tabT a ++ tabT b := by unfold tabT; rw [List.flatMap_append]
theorem mem_tabT {l : List Pr} {s : ByteArray} (h : s ∈ tabT l) : ∃ p ∈ l, s = p.k ∨ s = p.v := by
  obtain ⟨p, hp, hs⟩ := List.mem_flatMap.1 h
  simp at hs
  exact ⟨p, hp, hs⟩
theorem pairUp_get : ∀ (t : List ByteArray) (j : Nat) (h : 2 * j + 1 < t.length), ∃ h2 : j < (pairUp t).length, (pairUp t)[j] = ⟨t[2 * j], t[2 * j + 1]⟩
  | [], j, h => by simp at h
  | [_], j, h => by simp at h
  | a :: b :: r, 0, h => ⟨by simp [pairUp], rfl⟩
  | a :: b :: r, j + 1, h => by
    obtain ⟨h2, h3⟩ := pairUp_get r j (by simp at h; omega)
    refine ⟨by simp only [pairUp, List.length_cons]; omega, ?_⟩
    simp only [pairUp, List.getElem_cons_succ, h3]
    congr 1
theorem pairUp_length : ∀ (t : List ByteArray), (pairUp t).length = t.length / 2
  | [] => rfl
  | [_] => by simp [pairUp]
  | a :: b :: r => by simp only [pairUp, List.length_cons, pairUp_length r]; omega

def frameRr (p : List UInt8) : List UInt8 × Nat := if p.length ≤ 1048576 then (frameB p, 0) else ([], 9)
/-- A map as bytes. -/
def tableR (l : List Pr) : List UInt8 × Nat := if Rises l then frameRr (encL (tabT l)) else ([], 1)
/-- The map that texts are, that bytes are. -/
def fromTx (t : List ByteArray) : Option (List Pr) := if t.length % 2 = 0 ∧ Rises (pairUp t) then some (pairUp t) else none
def fromT (b : List UInt8) : Option (List Pr) := match scanB b with
  | [p] => if 8 + p.length = b.length then (decL p).bind fromTx else none
  | _ => none
/-- Pairs whose texts are short. -/
def SmallP (l : List Pr) : Prop := l.length ≤ 1000000 ∧ ∀ p ∈ l, p.k.size + p.v.size ≤ 1000000
theorem SmallP.texts {l : List Pr} (h : SmallP l) : (tabT l).length < 4294967296 ∧ ∀ s ∈ tabT l, s.size < 4294967296 := by
  refine ⟨by rw [tabT_length]; have := h.1; omega, fun s hs => ?_⟩
  obtain ⟨p, hp, h2⟩ := mem_tabT hs
  have := h.2 p hp
  rcases h2 with rfl | rfl <;> omega
theorem tabT_bytes (l : List Pr) : (encL (tabT l)).length = 4 + (l.map fun p => 8 + p.k.size + p.v.size).sum := by
  rw [encL_length]
  congr 1
  induction l with
  | nil => rfl
  | cons p l ih =>
    have e : (tabT (p :: l)).map (fun s => 4 + s.size) = (4 + p.k.size) :: (4 + p.v.size) :: (tabT l).map (fun s => 4 + s.size) := rfl
    rw [e, List.map_cons, List.sum_cons, List.sum_cons, List.sum_cons, ih]
    omega
theorem scanB_nil : scanB [] = [] := scanB_none rfl
theorem scanB_frame (p : List UInt8) (h : p.length ≤ 1048576) : scanB (frameB p) = [p] := by
  have h1 := scanB_some (scan1_frame p [] h)
  rw [List.append_nil, ← frameB_length, List.drop_length, scanB_nil] at h1
  exact h1
theorem fromT_one {b p : List UInt8} (h : scanB b = [p]) (hl : 8 + p.length = b.length) : fromT b = (decL p).bind fromTx := by
  unfold fromT
  rw [h]
  exact if_pos hl
theorem fromTx_ok {t : List ByteArray} (h1 : t.length % 2 = 0) (h2 : Rises (pairUp t)) : fromTx t = some (pairUp t) := if_pos ⟨h1, h2⟩
theorem fromTx_no {t : List ByteArray} (h : ¬ (t.length % 2 = 0 ∧ Rises (pairUp t))) : fromTx t = none := if_neg h
theorem fromT_frame {l : List Pr} (hr : Rises l) (hs : SmallP l) (hf : (encL (tabT l)).length ≤ 1048576) : fromT (frameB (encL (tabT l))) = some l := by
  rw [fromT_one (scanB_frame _ hf) (frameB_length _).symm, decL_encL _ hs.texts.1 hs.texts.2, Option.bind_some,
    fromTx_ok (by rw [tabT_length]; omega) (by rw [pairUp_tabT]; exact hr), pairUp_tabT]
theorem tableR_inj {a b : List Pr} (hs : SmallP a) (hs2 : SmallP b) (h : frameB (encL (tabT a)) = frameB (encL (tabT b))) : a = b := by
  have h1 : encL (tabT a) = encL (tabT b) := by
    have h8 := congrArg (List.drop 8) h
    have e : ∀ p : List UInt8, (frameB p).drop 8 = p := by
      intro p
      unfold frameB
      rw [← List.append_assoc]
      exact List.drop_left' rfl
    rwa [e, e] at h8
  have h2 := encL_inj hs.texts.1 hs.texts.2 hs2.texts.1 hs2.texts.2 h1
  rw [← pairUp_tabT a, h2, pairUp_tabT]
end Go.Proofs.Ytfbnkbdolimojaa
