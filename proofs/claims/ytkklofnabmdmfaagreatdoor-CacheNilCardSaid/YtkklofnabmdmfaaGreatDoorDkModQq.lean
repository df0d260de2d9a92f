/- The disk in plain words: what each call makes of it, and answers. No program stands here. -/
import Derived.Test.YtkklofnabmdmfaaGreatDoorPtrsFindQq
namespace Go.Proofs.YtkklofnabmdmfaaGreatDoor

structure Pl where
  cap : Int
  fail : List Int
  crash : Int
  done : Bool
  keep : List Int
deriving DecidableEq
structure Dk where
  p : Pl
  fs : List Fl
  c : Nat
  dn : Bool
deriving DecidableEq
instance : Inhabited Pl := ⟨⟨0, [], 0, false, []⟩⟩
instance : Inhabited Dk := ⟨⟨default, [], 0, false⟩⟩

/-- A call's answer. -/
abbrev Ans := Dk × Nat
def gateD (d : Dk) (op : Dk → Ans) : Ans :=
  if d.dn then (d, 7)
  else if ((d.c + 1 : Nat) : Int) = d.p.crash then
    (if d.p.done then (op { d with c := d.c + 1, dn := true }).1 else { d with c := d.c + 1, dn := true }, 7)
  else if ((d.c + 1 : Nat) : Int) ∈ d.p.fail then ({ d with c := d.c + 1 }, 6)
  else op { d with c := d.c + 1 }

def lbF (fs : List Fl) (n : ByteArray) : Nat := lb (asPs fs) n
def hitF (fs : List Fl) (n : ByteArray) : Bool := hitB (asPs fs) n
theorem lbF_le (fs : List Fl) (n : ByteArray) : lbF fs n ≤ fs.length := by have := lb_le (asPs fs) n; unfold lbF; simpa [asPs] using this
theorem hitF_lt {fs : List Fl} {n : ByteArray} (h : hitF fs n = true) : lbF fs n < fs.length := by
  unfold hitF hitB at h
  split at h
  · rename_i h1; unfold lbF; simpa [asPs] using h1
  · cases h

def hitAns (d : Dk) (n : ByteArray) (f : Dk → Nat → Ans) : Ans := if hitF d.fs n then f d (lbF d.fs n) else (d, 3)
theorem hitAns_true {d : Dk} {n : ByteArray} (f : Dk → Nat → Ans) (h : hitF d.fs n = true) : hitAns d n f = f d (lbF d.fs n) := by unfold hitAns; rw [h]; rfl
theorem hitAns_false {d : Dk} {n : ByteArray} (f : Dk → Nat → Ans) (h : hitF d.fs n = false) : hitAns d n f = (d, 3) := by unfold hitAns; rw [h]; rfl
def withD (d : Dk) (n : ByteArray) (f : Dk → Nat → Ans) : Ans := gateD d fun d => hitAns d n f
def putF (fs : List Fl) (f : Fl) : List Fl := fs.take (lbF fs f.n) ++ f :: fs.drop (if hitF fs f.n then lbF fs f.n + 1 else lbF fs f.n)
def createF (n : ByteArray) (d : Dk) : Ans := if n = ⟨#[]⟩ then (d, 1) else if hitF d.fs n then (d, 4) else ({ d with fs := putF d.fs ⟨n, [], 0⟩ }, 0)
def createD (d : Dk) (n : ByteArray) : Ans := gateD d (createF n)
def usedF (fs : List Fl) : Nat := (fs.map fun f => f.b.length).sum
def fileAt (d : Dk) (i : Nat) : Fl := d.fs.getD i default
theorem fileAt_get {d : Dk} {i : Nat} (h : i < d.fs.length) : fileAt d i = d.fs[i] := by unfold fileAt; simp [h]
def syncF (d : Dk) (i : Nat) : Ans := ({ d with fs := d.fs.set i { fileAt d i with s := (fileAt d i).b.length } }, 0)
def syncD (d : Dk) (n : ByteArray) : Ans := withD d n syncF
def cutF (k : Int) (d : Dk) (i : Nat) : Ans :=
  if k < 0 ∨ ((fileAt d i).b.length : Int) < k then (d, 1)
  else ({ d with fs := d.fs.set i { fileAt d i with b := (fileAt d i).b.take k.toNat, s := min (fileAt d i).s k.toNat } }, 0)
def cutD (d : Dk) (n : ByteArray) (k : Int) : Ans := withD d n (cutF k)
theorem usedF_take_succ (fs : List Fl) (j : Nat) (h : j < fs.length) : usedF (fs.take (j + 1)) = usedF (fs.take j) + fs[j].b.length := by
  unfold usedF; rw [List.take_succ_eq_append_getElem h, List.map_append, List.sum_append]; simp only [List.map_cons, List.map_nil, List.sum_cons, List.sum_nil, Nat.add_zero]
theorem usedF_take_le (fs : List Fl) (j : Nat) : usedF (fs.take j) ≤ usedF fs := by
  conv => rhs; rw [← List.take_append_drop j fs]
  unfold usedF; rw [List.map_append, List.sum_append]; omega
theorem usedF_get (fs : List Fl) (j : Nat) (h : j < fs.length) : fs[j].b.length ≤ usedF fs := by
  have h1 := usedF_take_succ fs j h
  have h2 := usedF_take_le fs (j + 1)
  omega
def readD (d : Dk) (n : ByteArray) : List UInt8 × Nat :=
  if d.dn then ([], 7) else if hitF d.fs n then ((fileAt d (lbF d.fs n)).b, 0) else ([], 3)

theorem putF_length_le (fs : List Fl) (f : Fl) : (putF fs f).length ≤ fs.length + 1 := by
  have := lbF_le fs f.n
  unfold putF
  simp only [List.length_append, List.length_take, List.length_cons, List.length_drop]
  split <;> omega
end Go.Proofs.YtkklofnabmdmfaaGreatDoor
