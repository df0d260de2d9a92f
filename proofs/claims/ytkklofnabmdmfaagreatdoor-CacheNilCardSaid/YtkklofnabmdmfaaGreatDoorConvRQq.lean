/- Conversions of bytes: a literal of bytes, bytes to a text. -/
import Derived.Laws.BytesString
import Derived.Test.YtkklofnabmdmfaaGreatDoorNumsQq
namespace Go.Proofs.YtkklofnabmdmfaaGreatDoor
open Go.RowKit
set_option linter.unusedVariables false

theorem freeze_blk {w : World} {g n : Nat} {cs : Array Value} {T : TypeId} (h : w.heap[g]? = some (.cells cs T (0, 0))) : ∃ f, (w.freeze ⟨g, n, none⟩ 1).heap[g]? = some (.cells cs T f) := by
  refine ⟨(n, n + 1), ?_⟩
  simp only [World.freeze]
  rw [if_neg (by omega)]
  simp only [Array.getElem?_modify]
  simp [h]
theorem freeze_mod (w : World) (g n : Nat) : Mod (fun k => k = g) w (w.freeze ⟨g, n, none⟩ 1) := by
  refine ⟨by simp [World.freeze], by simp [World.freeze], by simp [World.freeze], by simp [World.freeze], fun k _ hn => ?_⟩
  simp only [World.freeze]
  rw [if_neg (by omega)]
  simp only [Array.getElem?_modify]
  rw [if_neg (by omega)]
set_option maxRecDepth 100000 in
theorem conv_lit {w : World} {g n c : Nat} {cs : Array Value} {T : TypeId} (h : w.heap[g]? = some (.cells cs T (0, 0))) :
    ∃ w', (convert 25 25 (.slice (some ⟨g, 0, none⟩) n c)).run Tryz.prog w = .ok (.slice (some ⟨g, 0, none⟩) n c) w' ∧ (∃ f, w'.heap[g]? = some (.cells cs T f)) ∧ Mod (fun k => k = g) w w' := by
  refine ⟨w.freeze ⟨g, cs.size, none⟩ 1, ?_, freeze_blk h, freeze_mod _ _ _⟩
  have hsh : w.shape? g = some (T, cs.size) := by simp [World.shape?, h]
  simp [convert, run_underlying Tryz.underlying25, run_underlying Tryz.underlying5, markStringish, hsh, go_sem]

def strOf (b : List UInt8) : ByteArray := ⟨b.toArray⟩
theorem fold_push (b : List UInt8) (r : ByteArray) : (b.map fun z => (z.toNat : Int)).foldl (fun r n => r.push (UInt8.ofNat n.toNat)) r = ⟨r.data ++ b.toArray⟩ := by
  induction b generalizing r with
  | nil => simp
  | cons x b ih =>
    rw [List.map_cons, List.foldl_cons, ih]
    simp [ByteArray.push]
theorem encB_map (b : List UInt8) : encB b = (b.map fun z => (z.toNat : Int)).map (Value.int .u8) := by simp [encB]
set_option maxRecDepth 100000 in
theorem conv_str {w : World} {A : Option Addr} {c : Nat} {b : List UInt8} (h : Rd w 1 A b.length (encB b)) : (convert 25 9 (.slice A b.length c)).run Tryz.prog w = .ok (.string (strOf b)) w := by
  rw [run_convert_bytes_string w 25 9 5 A b.length c Tryz.underlying25 Tryz.underlying5 Tryz.underlying9]
  rcases Nat.eq_zero_or_pos b.length with h0 | h0
  · obtain rfl : b = [] := List.eq_nil_of_length_eq_zero h0
    cases A with
    | none => simp [Conv.bytesToString, strOf]; rfl
    | some a => exact run_bytesToString w a 0 c [] (by simpa using run_loadCells_list (P := Tryz.prog) (w := w) a [] (fun j v hv => by cases hv))
  · obtain ⟨a, rfl, hc⟩ := h.2.2 h0
    have hl := run_loadCells_list (P := Tryz.prog) (w := w) a (encB b) hc
    rw [encB_length, encB_map] at hl
    rw [run_bytesToString w a b.length c _ hl, fold_push]
    have e : (ByteArray.empty).data = #[] := rfl
    rw [e]
    simp [strOf]
theorem conv_strN {w : World} {A : Option Addr} {n c : Nat} {b : List UInt8} (hn : b.length = n) (h : Rd w 1 A n (encB b)) : (convert 25 9 (.slice A n c)).run Tryz.prog w = .ok (.string (strOf b)) w := by
  subst hn; exact conv_str h
theorem strOf_size (b : List UInt8) : (strOf b).size = b.length := by simp [strOf, ByteArray.size]
theorem strOf_append (a b : List UInt8) : strOf (a ++ b) = strOf a ++ strOf b := by
  apply ByteArray.ext
  rw [ByteArray.data_append]
  simp [strOf]
end Go.Proofs.YtkklofnabmdmfaaGreatDoor

/- Lists of texts as bytes, records, in plain words. No program stands here. -/
namespace Go.Proofs.YtkklofnabmdmfaaGreatDoor

def u32 (n : Nat) : List UInt8 := [UInt8.ofNat (n / 16777216), UInt8.ofNat (n / 65536), UInt8.ofNat (n / 256), UInt8.ofNat n]
theorem u32_length (n : Nat) : (u32 n).length = 4 := rfl
def get4 : List UInt8 → Option Nat
  | b0 :: b1 :: b2 :: b3 :: _ => some (b0.toNat * 16777216 + b1.toNat * 65536 + b2.toNat * 256 + b3.toNat)
  | _ => none
theorem get4_u32 (n : Nat) (h : n < 4294967296) (r : List UInt8) : get4 (u32 n ++ r) = some n := by
  simp only [u32, get4, List.cons_append, UInt8.toNat_ofNat', Option.some.injEq]
  omega
theorem get4_short {b : List UInt8} (h : b.length < 4) : get4 b = none := by
  match b, h with
  | [], _ => rfl
  | [_], _ => rfl
  | [_, _], _ => rfl
  | [_, _, _], _ => rfl
  | _ :: _ :: _ :: _ :: _, h => simp at h; omega
theorem get4_long {b : List UInt8} (h : 4 ≤ b.length) : ∃ n, get4 b = some n ∧ n < 4294967296 := by
  match b, h with
  | [], h => simp at h
  | [_], h => simp at h
  | [_, _], h => simp at h
  | [_, _, _], h => simp at h
  | b0 :: b1 :: b2 :: b3 :: _, _ =>
    refine ⟨_, rfl, ?_⟩
    have h0 := b0.toNat_lt
    have h1 := b1.toNat_lt
    have h2 := b2.toNat_lt
    have h3 := b3.toNat_lt
    omega
theorem get4_lt {b : List UInt8} {n : Nat} (h : get4 b = some n) : 4 ≤ b.length ∧ n < 4294967296 := by
  by_cases hl : 4 ≤ b.length
  · obtain ⟨m, hm, hlt⟩ := get4_long hl
    rw [hm] at h
    injection h with h
    subst h
    exact ⟨hl, hlt⟩
  · rw [get4_short (by omega)] at h
    cases h
theorem get4_take {b : List UInt8} {k : Nat} (h : 4 ≤ k) : get4 (b.take k) = get4 b := by
  match b, k, h with
  | [], _, _ => simp
  | [_], k + 1, _ => simp
  | [_, _], k + 2, _ => simp
  | [_, _, _], k + 3, _ => simp
  | b0 :: b1 :: b2 :: b3 :: r, k + 4, _ => simp [get4]
theorem get4_at (b : List UInt8) (i : Nat) (h : i + 4 ≤ b.length) : get4 (b.drop i) = some (b[i].toNat * 16777216 + b[i + 1].toNat * 65536 + b[i + 2].toNat * 256 + b[i + 3].toNat) := by
  rw [List.drop_eq_getElem_cons (by omega), List.drop_eq_getElem_cons (by omega), List.drop_eq_getElem_cons (by omega), List.drop_eq_getElem_cons (by omega)]
  rfl

/-- A text as bytes, a list of texts as bytes. -/
def encS (s : ByteArray) : List UInt8 := u32 s.size ++ s.data.toList
def encL (l : List ByteArray) : List UInt8 := u32 l.length ++ l.flatMap encS
def decGo : Nat → List UInt8 → Option (List ByteArray)
  | 0, r => if r = [] then some [] else none
  | n + 1, r => match get4 r with
    | none => none
    | some k => if k + 4 ≤ r.length then (decGo n (r.drop (4 + k))).map (strOf ((r.drop 4).take k) :: ·) else none
def decL (b : List UInt8) : Option (List ByteArray) := match get4 b with
  | none => none
  | some n => decGo n (b.drop 4)
theorem strOf_data (s : ByteArray) : strOf s.data.toList = s := by
  cases s; simp [strOf]
theorem data_strOf (b : List UInt8) : (strOf b).data.toList = b := by simp [strOf]
theorem strOf_inj {a b : List UInt8} (h : strOf a = strOf b) : a = b := by rw [← data_strOf a, h, data_strOf]
theorem size_data (s : ByteArray) : s.data.toList.length = s.size := Array.length_toList
theorem encS_length (s : ByteArray) : (encS s).length = 4 + s.size := by unfold encS; rw [List.length_append, u32_length, size_data]
theorem decGo_enc (l : List ByteArray) (h : ∀ s ∈ l, s.size < 4294967296) : decGo l.length (l.flatMap encS) = some l := by
  induction l with
  | nil => rfl
  | cons s l ih =>
    rw [List.flatMap_cons, List.length_cons]
    unfold decGo
    have e : encS s ++ l.flatMap encS = u32 s.size ++ (s.data.toList ++ l.flatMap encS) := by rw [encS, List.append_assoc]
    rw [e, get4_u32 _ (h s (List.mem_cons_self ..))]
    simp only
    have hl : s.data.toList.length = s.size := size_data s
    rw [if_pos (by rw [List.length_append, List.length_append, u32_length, hl]; omega)]
    have e1 : (u32 s.size ++ (s.data.toList ++ l.flatMap encS)).drop (4 + s.size) = l.flatMap encS := by
      rw [← List.append_assoc]
      exact List.drop_left' (by rw [List.length_append, u32_length, hl])
    have e2 : ((u32 s.size ++ (s.data.toList ++ l.flatMap encS)).drop 4).take s.size = s.data.toList := by
      rw [List.drop_left' (u32_length _), List.take_left' hl]
    rw [e1, e2, ih (fun x hx => h x (List.mem_cons_of_mem _ hx)), strOf_data]
    rfl
theorem decL_encL (l : List ByteArray) (hl : l.length < 4294967296) (h : ∀ s ∈ l, s.size < 4294967296) : decL (encL l) = some l := by
  unfold decL encL
  rw [get4_u32 _ hl]
  simp only
  rw [List.drop_left' (u32_length _)]
  exact decGo_enc l h
theorem decGo_len : ∀ (n : Nat) (r : List UInt8) (l : List ByteArray), decGo n r = some l → l.length = n ∧ 4 * n ≤ r.length := by
  intro n
  induction n with
  | zero =>
    intro r l h
    unfold decGo at h
    split at h
    · injection h with h; subst h; exact ⟨rfl, Nat.zero_le _⟩
    · cases h
  | succ n ih =>
    intro r l h
    unfold decGo at h
    cases hg : get4 r with
    | none => simp [hg] at h
    | some k =>
      simp only [hg] at h
      split at h
      · cases hd : decGo n (r.drop (4 + k)) with
        | none => simp [hd] at h
        | some l' =>
          simp only [hd, Option.map_some, Option.some.injEq] at h
          subst h
          obtain ⟨h1, h2⟩ := ih _ _ hd
          rw [List.length_drop] at h2
          exact ⟨by simp [h1], by omega⟩
      · cases h
theorem encL_length (l : List ByteArray) : (encL l).length = 4 + (l.map fun s => 4 + s.size).sum := by
  unfold encL
  rw [List.length_append, u32_length, List.length_flatMap]
  congr 2
  exact List.map_congr_left fun s _ => encS_length s
end Go.Proofs.YtkklofnabmdmfaaGreatDoor

/- Sums, records one behind the other, in plain words. No program stands here. -/
namespace Go.Proofs.YtkklofnabmdmfaaGreatDoor

def crcBit (c : Nat) : Nat := if c % 2 = 1 then (c / 2) ^^^ 3988292384 else c / 2
def crcBits : Nat → Nat → Nat
  | 0, c => c
  | n + 1, c => crcBit (crcBits n c)
def crcByte (c : Nat) (x : UInt8) : Nat := crcBits 8 (c ^^^ x.toNat)
def crcFrom (c : Nat) (b : List UInt8) : Nat := b.foldl crcByte c
def crcB (b : List UInt8) : Nat := crcFrom 4294967295 b ^^^ 4294967295
theorem crcBit_lt {c : Nat} (h : c < 4294967296) : crcBit c < 4294967296 := by
  unfold crcBit
  have h2 : c / 2 < 2 ^ 32 := by omega
  split
  · exact Nat.xor_lt_two_pow h2 (by decide)
  · exact h2
theorem crcBits_lt (n : Nat) {c : Nat} (h : c < 4294967296) : crcBits n c < 4294967296 := by
  induction n with
  | zero => exact h
  | succ n ih => exact crcBit_lt ih
theorem crcByte_lt {c : Nat} (h : c < 4294967296) (x : UInt8) : crcByte c x < 4294967296 :=
  crcBits_lt _ (Nat.xor_lt_two_pow (n := 32) h (by have := x.toNat_lt; omega))
theorem crcFrom_lt (b : List UInt8) : ∀ {c : Nat}, c < 4294967296 → crcFrom c b < 4294967296 := by
  induction b with
  | nil => intro c h; exact h
  | cons x b ih => intro c h; exact ih (crcByte_lt h x)
theorem crcB_lt (b : List UInt8) : crcB b < 4294967296 := Nat.xor_lt_two_pow (n := 32) (crcFrom_lt b (by decide)) (by decide)
theorem crcFrom_snoc (c : Nat) (b : List UInt8) (x : UInt8) : crcFrom c (b ++ [x]) = crcByte (crcFrom c b) x := by unfold crcFrom; rw [List.foldl_append]; rfl

/-- A record. -/
def frameB (p : List UInt8) : List UInt8 := u32 p.length ++ (u32 (crcB p) ++ p)
theorem frameB_length (p : List UInt8) : (frameB p).length = 8 + p.length := by unfold frameB; rw [List.length_append, List.length_append, u32_length, u32_length]; omega
/-- What the first record of bytes holds, where they begin with one. -/
def scan1 (b : List UInt8) : Option (List UInt8) := match get4 b with
  | none => none
  | some n => match get4 (b.drop 4) with
    | none => none
    | some s => if n ≤ 1048576 ∧ n + 8 ≤ b.length ∧ crcB ((b.drop 8).take n) = s then some ((b.drop 8).take n) else none
theorem scan1_len {b p : List UInt8} (h : scan1 b = some p) : 8 + p.length ≤ b.length ∧ p.length ≤ 1048576 ∧ get4 b = some p.length ∧ p = (b.drop 8).take p.length := by
  unfold scan1 at h
  cases h1 : get4 b with
  | none => simp [h1] at h
  | some n =>
    cases h2 : get4 (b.drop 4) with
    | none => simp [h1, h2] at h
    | some s =>
      simp only [h1, h2] at h
      split at h
      · rename_i hc
        injection h with h
        have hl : p.length = n := by rw [← h, List.length_take, List.length_drop]; omega
        subst hl
        exact ⟨by omega, hc.1, rfl, h.symm⟩
      · cases h
def scanF : Nat → List UInt8 → List (List UInt8)
  | 0, _ => []
  | k + 1, b => match scan1 b with
    | none => []
    | some p => p :: scanF k (b.drop (8 + p.length))
/-- The records that bytes begin with. -/
def scanB (b : List UInt8) : List (List UInt8) := scanF b.length b
/-- How many bytes records have. -/
def goodOf (ps : List (List UInt8)) : Nat := (ps.map fun p => 8 + p.length).sum
theorem scanF_enough : ∀ (k j : Nat) (b : List UInt8), b.length ≤ k → b.length ≤ j → scanF k b = scanF j b := by
  intro k
  induction k with
  | zero =>
    intro j b hk hj
    obtain rfl : b = [] := List.eq_nil_of_length_eq_zero (by omega)
    cases j with
    | zero => rfl
    | succ j => rfl
  | succ k ih =>
    intro j b hk hj
    cases j with
    | zero =>
      obtain rfl : b = [] := List.eq_nil_of_length_eq_zero (by omega)
      rfl
    | succ j =>
      unfold scanF
      cases h : scan1 b with
      | none => rfl
      | some p =>
        obtain ⟨h1, _⟩ := scan1_len h
        simp only
        rw [ih j _ (by rw [List.length_drop]; omega) (by rw [List.length_drop]; omega)]
theorem scanB_none {b : List UInt8} (h : scan1 b = none) : scanB b = [] := by
  unfold scanB
  cases hb : b.length with
  | zero => rfl
  | succ k => unfold scanF; rw [h]
theorem scanB_some {b p : List UInt8} (h : scan1 b = some p) : scanB b = p :: scanB (b.drop (8 + p.length)) := by
  obtain ⟨h1, _⟩ := scan1_len h
  unfold scanB
  cases hb : b.length with
  | zero => omega
  | succ k =>
    conv => lhs; unfold scanF
    rw [h]
    simp only
    rw [scanF_enough k _ _ (by rw [List.length_drop]; omega) (Nat.le_refl _)]
theorem scanB_good (b : List UInt8) : goodOf (scanB b) ≤ b.length := by
  have : ∀ (k : Nat) (b : List UInt8), b.length ≤ k → goodOf (scanB b) ≤ b.length := by
    intro k
    induction k with
    | zero =>
      intro b hb
      obtain rfl : b = [] := List.eq_nil_of_length_eq_zero (by omega)
      exact Nat.le_refl _
    | succ k ih =>
      intro b hb
      cases h : scan1 b with
      | none => rw [scanB_none h]; exact Nat.zero_le _
      | some p =>
        obtain ⟨h1, _⟩ := scan1_len h
        rw [scanB_some h]
        have := ih (b.drop (8 + p.length)) (by rw [List.length_drop]; omega)
        rw [List.length_drop] at this
        show (8 + p.length) + goodOf _ ≤ _
        omega
  exact this _ b (Nat.le_refl _)
theorem scan1_frame (p r : List UInt8) (h : p.length ≤ 1048576) : scan1 (frameB p ++ r) = some p := by
  have e : frameB p ++ r = u32 p.length ++ (u32 (crcB p) ++ (p ++ r)) := by unfold frameB; simp only [List.append_assoc]
  have e8 : (frameB p ++ r).drop 8 = p ++ r := by
    rw [e, ← List.append_assoc]
    exact List.drop_left' rfl
  unfold scan1
  rw [e8]
  rw [e, get4_u32 _ (by omega), List.drop_left' (u32_length _), get4_u32 _ (crcB_lt p)]
  simp only
  rw [List.take_left' rfl, if_pos ⟨h, by simp [u32_length]; omega, rfl⟩]
theorem scan1_cut (p : List UInt8) (k : Nat) (h : p.length ≤ 1048576) (hk : k < (frameB p).length) : scan1 ((frameB p).take k) = none := by
  rw [frameB_length] at hk
  unfold scan1
  by_cases h4 : 4 ≤ k
  · rw [get4_take h4]
    have e : get4 (frameB p) = some p.length := by unfold frameB; exact get4_u32 _ (by omega) _
    rw [e]
    simp only
    cases get4 (((frameB p).take k).drop 4) with
    | none => rfl
    | some s =>
      simp only
      rw [if_neg]
      rintro ⟨_, h2, _⟩
      rw [List.length_take, frameB_length] at h2
      omega
  · rw [get4_short (by rw [List.length_take]; omega)]
def framesB (ps : List (List UInt8)) : List UInt8 := ps.flatMap frameB
theorem framesB_length (ps : List (List UInt8)) : (framesB ps).length = goodOf ps := by
  unfold framesB goodOf
  rw [List.length_flatMap]
  congr 1
  exact List.map_congr_left fun p _ => frameB_length p
theorem framesB_append (a b : List (List UInt8)) : framesB (a ++ b) = framesB a ++ framesB b := by unfold framesB; rw [List.flatMap_append]
theorem framesB_cons (p : List UInt8) (a : List (List UInt8)) : framesB (p :: a) = frameB p ++ framesB a := rfl
/-- Records cut anywhere: those whose end is there. -/
def endsIn : List (List UInt8) → Nat → Nat
  | [], _ => 0
  | p :: ps, k => if 8 + p.length ≤ k then endsIn ps (k - (8 + p.length)) + 1 else 0
theorem scanB_cut (ps : List (List UInt8)) (h : ∀ p ∈ ps, p.length ≤ 1048576) : ∀ k, k ≤ (framesB ps).length → scanB ((framesB ps).take k) = ps.take (endsIn ps k) := by
  induction ps with
  | nil => intro k _; simp [framesB, endsIn]; rfl
  | cons p ps ih =>
    intro k hk
    have hp := h p (List.mem_cons_self ..)
    unfold endsIn
    rw [framesB_cons] at hk ⊢
    rw [List.length_append] at hk
    have hl := frameB_length p
    split
    · rename_i h1
      rw [List.take_append, List.take_of_length_le (by omega), hl]
      rw [scanB_some (scan1_frame p _ hp), ← hl, List.drop_left, hl, ih (fun q hq => h q (List.mem_cons_of_mem _ hq)) _ (by omega)]
      rfl
    · rename_i h1
      rw [List.take_append_of_le_length (by omega), scanB_none (scan1_cut p k hp (by omega))]
      rfl
end Go.Proofs.YtkklofnabmdmfaaGreatDoor

/- Maps as bytes, in plain words. No program stands here. -/
namespace Go.Proofs.YtkklofnabmdmfaaGreatDoor
set_option linter.unusedVariables false

def pairUp : List ByteArray → List Pr
  | a :: b :: r => ⟨a, b⟩ :: pairUp r
  | _ => []
theorem pairUp_get : ∀ (t : List ByteArray) (j : Nat) (h : 2 * j + 1 < t.length), ∃ h2 : j < (pairUp t).length, (pairUp t)[j] = ⟨t[2 * j], t[2 * j + 1]⟩
  | [], j, h => by simp at h
  | [_], j, h => by simp at h
  | a :: b :: r, 0, h => ⟨by simp [pairUp], rfl⟩
  | a :: b :: r, j + 1, h => by
    obtain ⟨h2, h3⟩ := pairUp_get r j (by simp at h; omega)
    refine ⟨by simp only [pairUp, List.length_cons]; omega, ?_⟩
    simp only [pairUp, List.getElem_cons_succ, h3]
    congr 1
theorem pairUp_length : ∀ (t : List ByteArray), (pairUp t).length = t.length / 2
  | [] => rfl
  | [_] => by simp [pairUp]
  | a :: b :: r => by simp only [pairUp, List.length_cons, pairUp_length r]; omega

/-- The map that texts are, that bytes are. -/
def fromTx (t : List ByteArray) : Option (List Pr) := if t.length % 2 = 0 ∧ Rises (pairUp t) then some (pairUp t) else none
def fromT (b : List UInt8) : Option (List Pr) := match scanB b with
  | [p] => if 8 + p.length = b.length then (decL p).bind fromTx else none
  | _ => none
/-- Pairs whose texts are short. -/
def SmallP (l : List Pr) : Prop := l.length ≤ 1000000 ∧ ∀ p ∈ l, p.k.size + p.v.size ≤ 1000000
theorem fromT_one {b p : List UInt8} (h : scanB b = [p]) (hl : 8 + p.length = b.length) : fromT b = (decL p).bind fromTx := by
  unfold fromT
  rw [h]
  exact if_pos hl
theorem fromTx_ok {t : List ByteArray} (h1 : t.length % 2 = 0) (h2 : Rises (pairUp t)) : fromTx t = some (pairUp t) := if_pos ⟨h1, h2⟩
theorem fromTx_no {t : List ByteArray} (h : ¬ (t.length % 2 = 0 ∧ Rises (pairUp t))) : fromTx t = none := if_neg h
end Go.Proofs.YtkklofnabmdmfaaGreatDoor
