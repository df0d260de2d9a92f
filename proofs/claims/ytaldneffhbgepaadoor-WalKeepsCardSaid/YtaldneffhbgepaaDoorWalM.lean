/- The log in plain words: what each call makes of it, and of its disk. No program stands here. -/
import Derived.Test.YtaldneffhbgepaaDoorSnapP
import Derived.Test.YtaldneffhbgepaaDoorBatD
namespace Go.Proofs.YtaldneffhbgepaaDoor
set_option linter.unusedVariables false

def sLog : ByteArray := ⟨#[108, 111, 103]⟩
/-- Go on if it was OK. -/
def tryD (a : Ans) (f : Dk → Ans) : Ans := if a.2 = 0 then f a.1 else a
theorem tryD_ok {a : Ans} {f : Dk → Ans} (h : a.2 = 0) : tryD a f = f a.1 := if_pos h
theorem tryD_bad {a : Ans} {f : Dk → Ans} (h : a.2 ≠ 0) : tryD a f = a := if_neg h
def writeD (d : Dk) (b : List UInt8) : Ans := tryD (appendD d sLog b) fun d => syncD d sLog
/-- Behind a call: the disk, how many bytes are committed, is it sick, what was told. -/
structure Cm where
  d : Dk
  n : Nat
  sk : Bool
  e : Nat
def commitD (d : Dk) (n : Nat) (l : List Op3) : Cm :=
  if (opsR l).2 = 0 then
    if (writeD d (opsR l).1).2 = 0 then ⟨(writeD d (opsR l).1).1, n + (opsR l).1.length, false, 0⟩
    else if (writeD d (opsR l).1).2 = 7 then ⟨(writeD d (opsR l).1).1, n, true, 7⟩
    else ⟨(cutD (writeD d (opsR l).1).1 sLog n).1, n, decide ((cutD (writeD d (opsR l).1).1 sLog n).2 ≠ 0), (writeD d (opsR l).1).2⟩
  else ⟨d, n, false, (opsR l).2⟩
def commitW (d : Dk) (n : Nat) (sk : Bool) (l : List Op3) : Cm := if sk then ⟨d, n, true, 8⟩ else commitD d n l
def resetD (d : Dk) (n : Nat) : Cm := if (cutD d sLog 0).2 = 0 then ⟨(cutD d sLog 0).1, 0, false, 0⟩ else ⟨(cutD d sLog 0).1, n, decide ((cutD d sLog 0).2 = 7), (cutD d sLog 0).2⟩
def resetW (d : Dk) (n : Nat) (sk : Bool) : Cm := if sk then ⟨d, n, true, 8⟩ else resetD d n
/-- The log's bytes when it is opened; how many of them are of whole batches; the batches. -/
def logB (d : Dk) : List UInt8 := (readD d sLog).1
def logN (d : Dk) : Nat := goodOf ((scanB (logB d)).take (replayB (scanB (logB d))).2)
def logL (d : Dk) : List (List Op3) := (replayB (scanB (logB d))).1
def open1D (d : Dk) : Ans := if (readD d sLog).2 = 3 then createD d sLog else (d, (readD d sLog).2)
def open2D (n : Nat) (b : List UInt8) (d1 : Dk) : Ans := if n < b.length then cutD d1 sLog n else (d1, 0)
def openD (d : Dk) : Ans := tryD (tryD (open1D d) (open2D (logN d) (logB d))) fun d => syncD d sLog
theorem replayGo_used (ps : List (List UInt8)) : ∀ (now : List Op3) (i used : Nat), used ≤ i → (replayGo now i used ps).2 ≤ i + ps.length := by
  induction ps with
  | nil => intro now i used h; show used ≤ _; simp; omega
  | cons p ps ih =>
    intro now i used h
    cases hk : kindB now.length p with
    | op o => rw [replayGo_op _ _ _ _ _ hk, List.length_cons]; have := ih (now ++ [o]) (i + 1) used (by omega); omega
    | fin => rw [replayGo_fin _ _ _ _ _ hk, List.length_cons]; have := ih [] (i + 1) (i + 1) (Nat.le_refl _); simp only; omega
    | bad => rw [replayGo_bad _ _ _ _ _ hk]; simp only; omega
theorem replayB_used (ps : List (List UInt8)) : (replayB ps).2 ≤ ps.length := by have := replayGo_used ps [] 0 0 (Nat.le_refl _); unfold replayB; omega
theorem goodOf_take_le (ps : List (List UInt8)) (k : Nat) : goodOf (ps.take k) ≤ goodOf ps := by
  conv => rhs; rw [← List.take_append_drop k ps]
  rw [goodOf_append]
  omega
theorem logN_le (d : Dk) : logN d ≤ (logB d).length := Nat.le_trans (goodOf_take_le _ _) (scanB_good _)
theorem Grow.ok {k : Nat} {d d' : Dk} (h : Grow k d d') : d'.c ≤ d.c + 1 ∧ d'.fs.length ≤ d.fs.length + 1 ∧ usedF d'.fs ≤ usedF d.fs + k := ⟨h.c, h.l, h.u⟩
theorem gate_plan {d : Dk} {op : Dk → Ans} (h : ∀ c dn, (op { d with c := c, dn := dn }).1.p = d.p) : (gateD d op).1.p = d.p := by
  obtain ⟨p, fs, c, dn⟩ := d
  unfold gateD
  simp only at h ⊢
  split
  · rfl
  · split
    · split
      · exact h (c + 1) true
      · rfl
    · split
      · rfl
      · exact h (c + 1) dn
end Go.Proofs.YtaldneffhbgepaaDoor

