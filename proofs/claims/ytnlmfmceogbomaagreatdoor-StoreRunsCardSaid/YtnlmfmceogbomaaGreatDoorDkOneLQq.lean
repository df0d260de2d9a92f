/- The search for a name among files behind pointers (disk's find): what it answers where the names rise. -/
import Derived.Test.YtnlmfmceogbomaaGreatDoorFlatQq
namespace Go.Proofs.YtnlmfmceogbomaaGreatDoor
open Go.RowKit
set_option linter.unusedVariables false

def encG (g : Nat) : List Value := [.pointer (some ⟨g, 0, none⟩)]
def encGs (l : List Nat) : List Value := l.flatMap encG
theorem encGs_length (l : List Nat) : (encGs l).length = l.length := by
  unfold encGs
  induction l with
  | nil => rfl
  | cons x l ih => rw [List.flatMap_cons, List.length_append, ih, List.length_cons]; simp [encG]; omega
theorem encGs_one (l : List Nat) : ∀ u ∈ encGs l, u.oneCell' = true := by
  intro u hu
  unfold encGs at hu
  obtain ⟨p, _, hu⟩ := List.mem_flatMap.1 hu
  simp [encG] at hu
  subst hu; rfl
theorem encGs_split (l : List Nat) (i : Nat) : encGs l = encGs (l.take i) ++ encGs (l.drop i) := by unfold encGs; rw [← List.flatMap_append, List.take_append_drop]
theorem encGs_get (l : List Nat) (i : Nat) (h : i < l.length) : (encGs l)[i]? = some (.pointer (some ⟨l[i], 0, none⟩)) := by
  unfold encGs
  induction l generalizing i with
  | nil => simp at h
  | cons x l ih =>
    rw [List.flatMap_cons]
    cases i with
    | zero => simp [encG]
    | succ i =>
      have := ih i (by simpa using h)
      simpa [encG] using this
/-- Element i of a row of pointers. -/
theorem Rd.ptr {w : World} {A : Option Addr} {n : Nat} {l : List Nat} (h : Rd w 1 A n (encGs l)) (i : Nat) (hi : i < l.length) :
    ∃ ad, A = some ad ∧ w.cell? (ad.add i) = some (.pointer (some ⟨l[i], 0, none⟩)) := by
  have hl : l.length = n := by have := h.1; rw [encGs_length] at this; omega
  obtain ⟨ad, e, hc⟩ := h.2.2 (by omega)
  exact ⟨ad, e, hc _ _ (encGs_get l i hi)⟩

/-- A file: its name, its bytes, how many are synced. -/
structure Fl where
  n : ByteArray
  b : List UInt8
  s : Nat
deriving DecidableEq
instance : Inhabited Fl := ⟨⟨⟨#[]⟩, [], 0⟩⟩

/-- Files as pairs: only the names count. -/
def asP (f : Fl) : Pr := ⟨f.n, ⟨#[]⟩⟩
def asPs (l : List Fl) : List Pr := l.map asP

/-- The names behind pointers. -/
def NamesAt (w : World) (gs : List Nat) (fs : List Fl) : Prop := gs.length = fs.length ∧ ∀ i, ∀ h : i < gs.length, ∀ h' : i < fs.length, w.cell? ⟨gs[i], 0, none⟩ = some (.string fs[i].n)

set_option maxHeartbeats 400000 in
theorem findS2_calls (g : Nat) (n key : ByteArray) (w : World) (h : w.cell? ⟨g, 0, none⟩ = some (.string n)) :
    Calls Tryz.prog 90 #[.pointer (some ⟨g, 0, none⟩), .string key] w fun e w' => e = .returned (.int .i64 (cmpS n key)) ∧ Mod NoneB w w' := by
  go_enter Tryz.func90, Tryz.ntmps90
  go_wp2_with ((with_reducible refine (strings_Compare _ _ _).mono ?_); rintro e w' ⟨rfl, rfl⟩)
  go_ret
  exact ⟨rfl, Mod.refl _ _⟩

set_option maxHeartbeats 1000000 in
theorem bsearchG_calls (fs : List Fl) (gs : List Nat) (key : ByteArray) (A : Option Addr) (c : Nat) (w : World) (hp : Parts (asPs fs) key) (hr : Rd w 1 A gs.length (encGs gs)) (hn : NamesAt w gs fs) (hlen : gs.length ≤ 4611686018427387904) :
    Calls Tryz.prog 89 #[.slice A gs.length c, .string key, .func (.func 90) #[] #[]] w fun e w' =>
      e = .returned (.tuple #[.int .i64 (lb (asPs fs) key), .bool (hitB (asPs fs) key)]) ∧ Mod NoneB w w' := by
  have hlb := lb_le (asPs fs) key
  have hl : (asPs fs).length = fs.length := by simp [asPs]
  have hgl : fs.length = gs.length := hn.1.symm
  have hget : ∀ i, ∀ h : i < (asPs fs).length, ∀ h' : i < fs.length, (asPs fs)[i].k = fs[i].n := fun i h h' => by simp [asPs, asP]
  rw [hl, hgl] at hlb
  have HL := Lib.hid hl
  have HGL := Lib.hid hgl
  have HGET := Lib.hid hget
  clear hl hgl hget
  go_enter Tryz.func89, Tryz.ntmps89
  go_wp2_with fail
  go_loopw [9, 10] (fun i j wr => ∃ a b : Nat, i = .int .i64 a ∧ j = .int .i64 b ∧ a ≤ lb (asPs fs) key ∧ lb (asPs fs) key ≤ b ∧ b ≤ gs.length ∧ Mod NoneB w wr)
    (fun i j _ => (intOf j - intOf i).toNat)
  case atStart => exact ⟨0, gs.length, rfl, rfl, by omega, hlb, by omega, Mod.refl _ _⟩
  case round =>
    obtain ⟨a, b, rfl, rfl, ha, hb, hbl, hm⟩ := hrel
    by_cases hlt : a < b
    · have hml : (a + b) / 2 < gs.length := by omega
      obtain ⟨ad, rfl, h0⟩ := hr.ptr ((a + b) / 2) hml
      have h1 := hn.2 ((a + b) / 2) hml (by rw [HGL.out]; exact hml)
      replace h0 := hm.cell0 h0
      replace h1 := hm.cell0 h1
      have hq : (asPs fs)[(a + b) / 2]'(by rw [HL.out, HGL.out]; exact hml) = ⟨(fs[(a + b) / 2]'(by rw [HGL.out]; exact hml)).n, ⟨#[]⟩⟩ := by simp [asPs, asP]
      have hP := hp ((a + b) / 2) (by rw [HL.out, HGL.out]; exact hml)
      rw [hq] at hP
      obtain ⟨q, hqq⟩ : ∃ q, q = (fs[(a + b) / 2]'(by rw [HGL.out]; exact hml)).n := ⟨_, rfl⟩
      obtain ⟨g, hg⟩ : ∃ g, g = gs[(a + b) / 2] := ⟨_, rfl⟩
      rw [← hqq] at h1 hP
      rw [← hg] at h0 h1
      have HPP := Lib.hid hP
      clear hqq hg hq hP
      by_cases hc : cmpS q key < 0
      · have hc' : decide (cmpS q key < 0) = true := by simpa using hc
        have hlt2 : (a + b) / 2 < lb (asPs fs) key := HPP.out.1 hc
        go_wp2_with ((with_reducible refine (findS2_calls g q key _ h1).mono ?_); rintro e w1 ⟨rfl, hm1⟩)
        go_roundw
        case rel => exact ⟨(a + b) / 2 + 1, b, by go_num, rfl, by omega, hb, hbl, hm.then0 hm1⟩
        case measure => simp [intOf]; omega
      · have hc' : decide (cmpS q key < 0) = false := by simpa using hc
        have hlt2 : lb (asPs fs) key ≤ (a + b) / 2 := Nat.le_of_not_lt fun h => hc (HPP.out.2 h)
        go_wp2_with ((with_reducible refine (findS2_calls g q key _ h1).mono ?_); rintro e w1 ⟨rfl, hm1⟩)
        go_roundw
        case rel => exact ⟨a, (a + b) / 2, rfl, by go_num, ha, by omega, by omega, hm.then0 hm1⟩
        case measure => simp [intOf]; omega
    · obtain rfl : a = lb (asPs fs) key := by omega
      by_cases hin : lb (asPs fs) key < gs.length
      · obtain ⟨ad, rfl, h0⟩ := hr.ptr (lb (asPs fs) key) hin
        have h1 := hn.2 (lb (asPs fs) key) hin (by rw [HGL.out]; exact hin)
        replace h0 := hm.cell0 h0
        replace h1 := hm.cell0 h1
        have hin2 : lb (asPs fs) key < (asPs fs).length := by rw [HL.out, HGL.out]; exact hin
        have hh : hitB (asPs fs) key = decide (cmpS (asPs fs)[lb (asPs fs) key].k key = 0) := by unfold hitB; rw [dif_pos hin2]
        rw [HGET.out _ hin2 (by rw [HGL.out]; exact hin)] at hh
        obtain ⟨q, hqq⟩ : ∃ q, q = (fs[lb (asPs fs) key]'(by rw [HGL.out]; exact hin)).n := ⟨_, rfl⟩
        obtain ⟨g, hg⟩ : ∃ g, g = gs[lb (asPs fs) key] := ⟨_, rfl⟩
        rw [← hqq] at h1 hh
        rw [← hg] at h0 h1
        have HH := Lib.hid hh
        clear hqq hh hg hin2
        go_wp2_with ((with_reducible refine (findS2_calls g q key _ h1).mono ?_); rintro e w1 ⟨rfl, hm1⟩)
        go_ret2
        exact ⟨by rw [HH.out]; rfl, hm.then0 hm1⟩
      · have hin2 : ¬ lb (asPs fs) key < (asPs fs).length := by rw [HL.out, HGL.out]; exact hin
        have hh : hitB (asPs fs) key = false := by unfold hitB; rw [dif_neg hin2]
        have HH := Lib.hid hh
        clear hh hin2
        go_wp2_with fail
        go_ret2
        exact ⟨by rw [HH.out]; rfl, hm⟩
end Go.Proofs.YtnlmfmceogbomaaGreatDoor

/- The disk in plain words: what each call makes of it, and answers. No program stands here. -/
namespace Go.Proofs.YtnlmfmceogbomaaGreatDoor

structure Pl where
  cap : Int
  fail : List Int
  crash : Int
  done : Bool
  keep : List Int
deriving DecidableEq
structure Dk where
  p : Pl
  fs : List Fl
  c : Nat
  dn : Bool
deriving DecidableEq
instance : Inhabited Pl := ⟨⟨0, [], 0, false, []⟩⟩
instance : Inhabited Dk := ⟨⟨default, [], 0, false⟩⟩

/-- A call's answer. -/
abbrev Ans := Dk × Nat
def gateD (d : Dk) (op : Dk → Ans) : Ans :=
  if d.dn then (d, 7)
  else if ((d.c + 1 : Nat) : Int) = d.p.crash then
    (if d.p.done then (op { d with c := d.c + 1, dn := true }).1 else { d with c := d.c + 1, dn := true }, 7)
  else if ((d.c + 1 : Nat) : Int) ∈ d.p.fail then ({ d with c := d.c + 1 }, 6)
  else op { d with c := d.c + 1 }

def lbF (fs : List Fl) (n : ByteArray) : Nat := lb (asPs fs) n
def hitF (fs : List Fl) (n : ByteArray) : Bool := hitB (asPs fs) n
theorem lbF_le (fs : List Fl) (n : ByteArray) : lbF fs n ≤ fs.length := by have := lb_le (asPs fs) n; unfold lbF; simpa [asPs] using this
theorem hitF_lt {fs : List Fl} {n : ByteArray} (h : hitF fs n = true) : lbF fs n < fs.length := by
  unfold hitF hitB at h
  split at h
  · rename_i h1; unfold lbF; simpa [asPs] using h1
  · cases h

def hitAns (d : Dk) (n : ByteArray) (f : Dk → Nat → Ans) : Ans := if hitF d.fs n then f d (lbF d.fs n) else (d, 3)
theorem hitAns_true {d : Dk} {n : ByteArray} (f : Dk → Nat → Ans) (h : hitF d.fs n = true) : hitAns d n f = f d (lbF d.fs n) := by unfold hitAns; rw [h]; rfl
theorem hitAns_false {d : Dk} {n : ByteArray} (f : Dk → Nat → Ans) (h : hitF d.fs n = false) : hitAns d n f = (d, 3) := by unfold hitAns; rw [h]; rfl
def withD (d : Dk) (n : ByteArray) (f : Dk → Nat → Ans) : Ans := gateD d fun d => hitAns d n f
def putF (fs : List Fl) (f : Fl) : List Fl := fs.take (lbF fs f.n) ++ f :: fs.drop (if hitF fs f.n then lbF fs f.n + 1 else lbF fs f.n)
def createF (n : ByteArray) (d : Dk) : Ans := if n = ⟨#[]⟩ then (d, 1) else if hitF d.fs n then (d, 4) else ({ d with fs := putF d.fs ⟨n, [], 0⟩ }, 0)
def createD (d : Dk) (n : ByteArray) : Ans := gateD d (createF n)
def usedF (fs : List Fl) : Nat := (fs.map fun f => f.b.length).sum
def fileAt (d : Dk) (i : Nat) : Fl := d.fs.getD i default
theorem fileAt_get {d : Dk} {i : Nat} (h : i < d.fs.length) : fileAt d i = d.fs[i] := by unfold fileAt; simp [h]
def appendF (b : List UInt8) (d : Dk) (i : Nat) : Ans :=
  if d.p.cap < ((usedF d.fs + b.length : Nat) : Int) then (d, 5) else ({ d with fs := d.fs.set i { fileAt d i with b := (fileAt d i).b ++ b } }, 0)
def appendD (d : Dk) (n : ByteArray) (b : List UInt8) : Ans := withD d n (appendF b)
def syncF (d : Dk) (i : Nat) : Ans := ({ d with fs := d.fs.set i { fileAt d i with s := (fileAt d i).b.length } }, 0)
def syncD (d : Dk) (n : ByteArray) : Ans := withD d n syncF
def cutF (k : Int) (d : Dk) (i : Nat) : Ans :=
  if k < 0 ∨ ((fileAt d i).b.length : Int) < k then (d, 1)
  else ({ d with fs := d.fs.set i { fileAt d i with b := (fileAt d i).b.take k.toNat, s := min (fileAt d i).s k.toNat } }, 0)
def cutD (d : Dk) (n : ByteArray) (k : Int) : Ans := withD d n (cutF k)
def renameF (n to : ByteArray) (d : Dk) (i : Nat) : Ans :=
  if to = ⟨#[]⟩ then (d, 1) else if to = n then (d, 0) else ({ d with fs := putF (d.fs.eraseIdx i) { fileAt d i with n := to } }, 0)
def renameD (d : Dk) (n to : ByteArray) : Ans := withD d n (renameF n to)
def removeF (d : Dk) (i : Nat) : Ans := ({ d with fs := d.fs.eraseIdx i }, 0)
def removeD (d : Dk) (n : ByteArray) : Ans := withD d n removeF
theorem usedF_take_succ (fs : List Fl) (j : Nat) (h : j < fs.length) : usedF (fs.take (j + 1)) = usedF (fs.take j) + fs[j].b.length := by
  unfold usedF; rw [List.take_succ_eq_append_getElem h, List.map_append, List.sum_append]; simp only [List.map_cons, List.map_nil, List.sum_cons, List.sum_nil, Nat.add_zero]
theorem usedF_take_le (fs : List Fl) (j : Nat) : usedF (fs.take j) ≤ usedF fs := by
  conv => rhs; rw [← List.take_append_drop j fs]
  unfold usedF; rw [List.map_append, List.sum_append]; omega
theorem usedF_get (fs : List Fl) (j : Nat) (h : j < fs.length) : fs[j].b.length ≤ usedF fs := by
  have h1 := usedF_take_succ fs j h
  have h2 := usedF_take_le fs (j + 1)
  omega
def readD (d : Dk) (n : ByteArray) : List UInt8 × Nat :=
  if d.dn then ([], 7) else if hitF d.fs n then ((fileAt d (lbF d.fs n)).b, 0) else ([], 3)
def restF (keep : List Int) (i : Nat) (f : Fl) : Fl :=
  let stay := max 0 (keep[i]?.getD 0)
  let b := if stay < (f.b.length : Int) - f.s then f.b.take (f.s + stay.toNat) else f.b
  { f with b := b, s := b.length }
def restartD (d : Dk) (p : Pl) : Dk := ⟨p, d.fs.mapIdx (restF d.p.keep), 0, false⟩

theorem putF_length_le (fs : List Fl) (f : Fl) : (putF fs f).length ≤ fs.length + 1 := by
  have := lbF_le fs f.n
  unfold putF
  simp only [List.length_append, List.length_take, List.length_cons, List.length_drop]
  split <;> omega
end Go.Proofs.YtnlmfmceogbomaaGreatDoor

/- The disk in plain words: where nothing fails and nothing crashes; a disk of one file. No program stands here. -/
namespace Go.Proofs.YtnlmfmceogbomaaGreatDoor

/-- A disk whose plan names nothing. -/
def freeD (cap : Int) (keep : List Int) (fs : List Fl) (c : Nat) : Dk := ⟨⟨cap, [], 0, false, keep⟩, fs, c, false⟩
theorem lbF_cons (f : Fl) (fs : List Fl) (n : ByteArray) : lbF (f :: fs) n = if cmpS f.n n < 0 then lbF fs n + 1 else 0 := lb_cons _ _ _
theorem hitF_cons (f : Fl) (fs : List Fl) (n : ByteArray) : hitF (f :: fs) n = if cmpS f.n n < 0 then hitF fs n else decide (f.n = n) := hitB_cons _ _ _
theorem lbF_one (n : ByteArray) (b : List UInt8) (s : Nat) (l : List Fl) : lbF (⟨n, b, s⟩ :: l) n = 0 := by rw [lbF_cons, if_neg (lt_irrefl _)]
theorem hitF_one (n : ByteArray) (b : List UInt8) (s : Nat) (l : List Fl) : hitF (⟨n, b, s⟩ :: l) n = true := by rw [hitF_cons, if_neg (lt_irrefl _)]; simp

end Go.Proofs.YtnlmfmceogbomaaGreatDoor

/- What acts make of a disk's files: names rise, none is empty. No program stands here. -/
namespace Go.Proofs.YtnlmfmceogbomaaGreatDoor

theorem lb_at {l : List Pr} (h : Rises l) {i : Nat} (hi : i < l.length) : lb l l[i].k = i := by
  have hp := parts_of_rises h l[i].k
  have h1 := hp i hi
  have h2 : ¬ i < lb l l[i].k := fun hc => lt_irrefl _ (h1.2 hc)
  by_cases h3 : lb l l[i].k = i
  · exact h3
  · exfalso
    have hlt : lb l l[i].k < i := by omega
    have h4 := (hp (lb l l[i].k) (by omega)).1 (List.pairwise_iff_getElem.1 h _ _ (by omega) hi hlt)
    omega
theorem hitB_at {l : List Pr} (h : Rises l) {i : Nat} (hi : i < l.length) : hitB l l[i].k = true := by
  unfold hitB
  have h1 := lb_at h hi
  rw [dif_pos (by rw [h1]; exact hi)]
  simp only [h1]
  rw [cmpS_self]
  rfl
theorem hitF_at {fs : List Fl} (h : Rises (asPs fs)) {i : Nat} (hi : i < fs.length) : hitF fs fs[i].n = true ∧ lbF fs fs[i].n = i := by
  have hi' : i < (asPs fs).length := by simpa [asPs] using hi
  have e : (asPs fs)[i].k = fs[i].n := by simp [asPs, asP]
  have h1 := hitB_at h hi'
  have h2 := lb_at h hi'
  rw [e] at h1 h2
  exact ⟨h1, h2⟩
end Go.Proofs.YtnlmfmceogbomaaGreatDoor
