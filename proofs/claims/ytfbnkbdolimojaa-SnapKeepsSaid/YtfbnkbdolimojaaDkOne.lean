/- The disk in plain words: where nothing fails and nothing crashes; a disk of one file. No program stands here. -/
import Derived.Test.YtfbnkbdolimojaaDkMod
namespace Go.Proofs.Ytfbnkbdolimojaa

/-- A disk whose plan names nothing. -/
def freeD (cap : Int) (keep : List Int) (fs : List Fl) (c : Nat) : Dk := ⟨⟨cap, [], 0, false, keep⟩, fs, c, false⟩
theorem gateD_free (cap : Int) (keep : List Int) (fs : List Fl) (c : Nat) (op : Dk → Ans) : gateD (freeD cap keep fs c) op = op (freeD cap keep fs (c + 1)) := by
  unfold gateD freeD
  simp only [Bool.false_eq_true, if_false]
  rw [if_neg (by omega)]
  simp
theorem lbF_nil (n : ByteArray) : lbF [] n = 0 := rfl
theorem hitF_nil (n : ByteArray) : hitF [] n = false := rfl
theorem lbF_cons (f : Fl) (fs : List Fl) (n : ByteArray) : lbF (f :: fs) n = if cmpS f.n n < 0 then lbF fs n + 1 else 0 := lb_cons _ _ _
theorem hitF_cons (f : Fl) (fs : List Fl) (n : ByteArray) : hitF (f :: fs) n = if cmpS f.n n < 0 then hitF fs n else decide (f.n = n) := hitB_cons _ _ _
theorem lbF_one (n : ByteArray) (b : List UInt8) (s : Nat) (l : List Fl) : lbF (⟨n, b, s⟩ :: l) n = 0 := by rw [lbF_cons, if_neg (lt_irrefl _)]
theorem hitF_one (n : ByteArray) (b : List UInt8) (s : Nat) (l : List Fl) : hitF (⟨n, b, s⟩ :: l) n = true := by rw [hitF_cons, if_neg (lt_irrefl _)]; simp

theorem create_nil0 (cap : Int) (keep : List Int) (c : Nat) (n : ByteArray) (hn : n ≠ ⟨#[]⟩) : createD (freeD cap keep [] c) n = (freeD cap keep [⟨n, [], 0⟩] (c + 1), 0) := by
  unfold createD
  rw [gateD_free]
  unfold createF
  rw [if_neg hn]
  rfl
theorem append_one (cap : Int) (keep : List Int) (c : Nat) (n : ByteArray) (x b : List UInt8) (s : Nat) (h : ((x.length + b.length : Nat) : Int) ≤ cap) :
    appendD (freeD cap keep [⟨n, x, s⟩] c) n b = (freeD cap keep [⟨n, x ++ b, s⟩] (c + 1), 0) := by
  unfold appendD withD
  rw [gateD_free, hitAns_true _ (hitF_one _ _ _ _)]
  show appendF b _ (lbF [⟨n, x, s⟩] n) = _
  rw [lbF_one]
  unfold appendF
  rw [if_neg (by simp [freeD, usedF]; omega)]
  rfl
theorem append_full (cap : Int) (keep : List Int) (c : Nat) (n : ByteArray) (x b : List UInt8) (s : Nat) (h : cap < ((x.length + b.length : Nat) : Int)) :
    appendD (freeD cap keep [⟨n, x, s⟩] c) n b = (freeD cap keep [⟨n, x, s⟩] (c + 1), 5) := by
  unfold appendD withD
  rw [gateD_free, hitAns_true _ (hitF_one _ _ _ _)]
  show appendF b _ (lbF [⟨n, x, s⟩] n) = _
  rw [lbF_one]
  unfold appendF
  rw [if_pos (by simp [freeD, usedF]; omega)]
theorem sync_one (cap : Int) (keep : List Int) (c : Nat) (n : ByteArray) (x : List UInt8) (s : Nat) : syncD (freeD cap keep [⟨n, x, s⟩] c) n = (freeD cap keep [⟨n, x, x.length⟩] (c + 1), 0) := by
  unfold syncD withD
  rw [gateD_free, hitAns_true _ (hitF_one _ _ _ _)]
  show syncF _ (lbF [⟨n, x, s⟩] n) = _
  rw [lbF_one]
  rfl
theorem cut_one (cap : Int) (keep : List Int) (c : Nat) (n : ByteArray) (x : List UInt8) (s k : Nat) (h : k ≤ x.length) : cutD (freeD cap keep [⟨n, x, s⟩] c) n k = (freeD cap keep [⟨n, x.take k, min s k⟩] (c + 1), 0) := by
  unfold cutD withD
  rw [gateD_free, hitAns_true _ (hitF_one _ _ _ _)]
  show cutF k _ (lbF [⟨n, x, s⟩] n) = _
  rw [lbF_one]
  unfold cutF
  rw [if_neg (by simp [freeD, fileAt]; omega)]
  rfl
theorem cut_bad (cap : Int) (keep : List Int) (c : Nat) (n : ByteArray) (x : List UInt8) (s : Nat) (k : Int) (h : k < 0 ∨ (x.length : Int) < k) : cutD (freeD cap keep [⟨n, x, s⟩] c) n k = (freeD cap keep [⟨n, x, s⟩] (c + 1), 1) := by
  unfold cutD withD
  rw [gateD_free, hitAns_true _ (hitF_one _ _ _ _)]
  show cutF k _ (lbF [⟨n, x, s⟩] n) = _
  rw [lbF_one]
  unfold cutF
  rw [if_pos (by simpa [freeD, fileAt] using h)]
theorem read_one (cap : Int) (keep : List Int) (c : Nat) (n : ByteArray) (x : List UInt8) (s : Nat) : readD (freeD cap keep [⟨n, x, s⟩] c) n = (x, 0) := by
  unfold readD
  rw [if_neg (by simp [freeD]), if_pos (show hitF (freeD cap keep [⟨n, x, s⟩] c).fs n = true from hitF_one n x s [])]
  show ((fileAt _ (lbF [⟨n, x, s⟩] n)).b, 0) = _
  rw [lbF_one]
  rfl
theorem restart_free (cap cap' : Int) (keep keep' : List Int) (fs : List Fl) (c : Nat) : restartD (freeD cap keep fs c) ⟨cap', [], 0, false, keep'⟩ = freeD cap' keep' (fs.mapIdx (restF keep)) 0 := rfl
theorem restF_len (keep : List Int) (i : Nat) (f : Fl) (_ : f.s ≤ f.b.length) : restF keep i f = ⟨f.n, f.b.take (f.s + (max 0 (keep[i]?.getD 0)).toNat), (f.b.take (f.s + (max 0 (keep[i]?.getD 0)).toNat)).length⟩ := by
  have h0 : (0 : Int) ≤ max 0 (keep[i]?.getD 0) := by omega
  by_cases h2 : max 0 (keep[i]?.getD 0) < (f.b.length : Int) - f.s
  · unfold restF
    simp only [if_pos h2]
  · have h3 : f.b.take (f.s + (max 0 (keep[i]?.getD 0)).toNat) = f.b := List.take_of_length_le (by omega)
    rw [h3]
    unfold restF
    simp only [if_neg h2]
end Go.Proofs.Ytfbnkbdolimojaa
