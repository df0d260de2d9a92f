/- The disk in plain words: where nothing fails and nothing crashes; a disk of one file. No program stands here. -/
import Derived.Test.YtedjfbbfpnkbeaaGreatDoorDkMod
namespace Go.Proofs.YtedjfbbfpnkbeaaGreatDoor

/-- A disk whose plan names nothing. -/
def freeD (cap : Int) (keep : List Int) (fs : List Fl) (c : Nat) : Dk := ⟨⟨cap, [], 0, false, keep⟩, fs, c, false⟩
theorem gateD_free (cap : Int) (keep : List Int) (fs : List Fl) (c : Nat) (op : Dk → Ans) : gateD (freeD cap keep fs c) op = op (freeD cap keep fs (c + 1)) := by
  unfold gateD freeD
  simp only [Bool.false_eq_true, if_false]
  rw [if_neg (by omega)]
  simp
theorem lbF_nil (n : ByteArray) : lbF [] n = 0 := rfl
theorem hitF_nil (n : ByteArray) : hitF [] n = false := rfl
theorem lbF_cons (f : Fl) (fs : List Fl) (n : ByteArray) : lbF (f :: fs) n = if cmpS f.n n < 0 then lbF fs n + 1 else 0 := lb_cons _ _ _
theorem hitF_cons (f : Fl) (fs : List Fl) (n : ByteArray) : hitF (f :: fs) n = if cmpS f.n n < 0 then hitF fs n else decide (f.n = n) := hitB_cons _ _ _
theorem lbF_one (n : ByteArray) (b : List UInt8) (s : Nat) (l : List Fl) : lbF (⟨n, b, s⟩ :: l) n = 0 := by rw [lbF_cons, if_neg (lt_irrefl _)]
theorem hitF_one (n : ByteArray) (b : List UInt8) (s : Nat) (l : List Fl) : hitF (⟨n, b, s⟩ :: l) n = true := by rw [hitF_cons, if_neg (lt_irrefl _)]; simp

theorem create_nil0 (cap : Int) (keep : List Int) (c : Nat) (n : ByteArray) (hn : n ≠ ⟨#[]⟩) : createD (freeD cap keep [] c) n = (freeD cap keep [⟨n, [], 0⟩] (c + 1), 0) := by
  unfold createD
  rw [gateD_free]
  unfold createF
  rw [if_neg hn]
  rfl
theorem append_one (cap : Int) (keep : List Int) (c : Nat) (n : ByteArray) (x b : List UInt8) (s : Nat) (h : ((x.length + b.length : Nat) : Int) ≤ cap) :
    appendD (freeD cap keep [⟨n, x, s⟩] c) n b = (freeD cap keep [⟨n, x ++ b, s⟩] (c + 1), 0) := by
  unfold appendD withD
  rw [gateD_free, hitAns_true _ (hitF_one _ _ _ _)]
  show appendF b _ (lbF [⟨n, x, s⟩] n) = _
  rw [lbF_one]
  unfold appendF
  rw [if_neg (by simp [freeD, usedF]; omega)]
  rfl
theorem append_full (cap : Int) (keep : List Int) (c : Nat) (n : ByteArray) (x b : List UInt8) (s : Nat) (h : cap < ((x.length + b.length : Nat) : Int)) :
    appendD (freeD cap keep [⟨n, x, s⟩] c) n b = (freeD cap keep [⟨n, x, s⟩] (c + 1), 5) := by
  unfold appendD withD
  rw [gateD_free, hitAns_true _ (hitF_one _ _ _ _)]
  show appendF b _ (lbF [⟨n, x, s⟩] n) = _
  rw [lbF_one]
  unfold appendF
  rw [if_pos (by simp [freeD, usedF]; omega)]
theorem sync_one (cap : Int) (keep : List Int) (c : Nat) (n : ByteArray) (x : List UInt8) (s : Nat) : syncD (freeD cap keep [⟨n, x, s⟩] c) n = (freeD cap keep [⟨n, x, x.length⟩] (c + 1), 0) := by
  unfold syncD withD
  rw [gateD_free, hitAns_true _ (hitF_one _ _ _ _)]
  show syncF _ (lbF [⟨n, x, s⟩] n) = _
  rw [lbF_one]
  rfl
theorem cut_one (cap : Int) (keep : List Int) (c : Nat) (n : ByteArray) (x : List UInt8) (s k : Nat) (h : k ≤ x.length) : cutD (freeD cap keep [⟨n, x, s⟩] c) n k = (freeD cap keep [⟨n, x.take k, min s k⟩] (c + 1), 0) := by
  unfold cutD withD
  rw [gateD_free, hitAns_true _ (hitF_one _ _ _ _)]
  show cutF k _ (lbF [⟨n, x, s⟩] n) = _
  rw [lbF_one]
  unfold cutF
  rw [if_neg (by simp [freeD, fileAt]; omega)]
  rfl
theorem cut_bad (cap : Int) (keep : List Int) (c : Nat) (n : ByteArray) (x : List UInt8) (s : Nat) (k : Int) (h : k < 0 ∨ (x.length : Int) < k) : cutD (freeD cap keep [⟨n, x, s⟩] c) n k = (freeD cap keep [⟨n, x, s⟩] (c + 1), 1) := by
  unfold cutD withD
  rw [gateD_free, hitAns_true _ (hitF_one _ _ _ _)]
  show cutF k _ (lbF [⟨n, x, s⟩] n) = _
  rw [lbF_one]
  unfold cutF
  rw [if_pos (by simpa [freeD, fileAt] using h)]
theorem read_one (cap : Int) (keep : List Int) (c : Nat) (n : ByteArray) (x : List UInt8) (s : Nat) : readD (freeD cap keep [⟨n, x, s⟩] c) n = (x, 0) := by
  unfold readD
  rw [if_neg (by simp [freeD]), if_pos (show hitF (freeD cap keep [⟨n, x, s⟩] c).fs n = true from hitF_one n x s [])]
  show ((fileAt _ (lbF [⟨n, x, s⟩] n)).b, 0) = _
  rw [lbF_one]
  rfl
theorem restart_free (cap cap' : Int) (keep keep' : List Int) (fs : List Fl) (c : Nat) : restartD (freeD cap keep fs c) ⟨cap', [], 0, false, keep'⟩ = freeD cap' keep' (fs.mapIdx (restF keep)) 0 := rfl
theorem restF_len (keep : List Int) (i : Nat) (f : Fl) (_ : f.s ≤ f.b.length) : restF keep i f = ⟨f.n, f.b.take (f.s + (max 0 (keep[i]?.getD 0)).toNat), (f.b.take (f.s + (max 0 (keep[i]?.getD 0)).toNat)).length⟩ := by
  have h0 : (0 : Int) ≤ max 0 (keep[i]?.getD 0) := by omega
  by_cases h2 : max 0 (keep[i]?.getD 0) < (f.b.length : Int) - f.s
  · unfold restF
    simp only [if_pos h2]
  · have h3 : f.b.take (f.s + (max 0 (keep[i]?.getD 0)).toNat) = f.b := List.take_of_length_le (by omega)
    rw [h3]
    unfold restF
    simp only [if_neg h2]
end Go.Proofs.YtedjfbbfpnkbeaaGreatDoor

/- What acts make of a disk's files: names rise, none is empty. No program stands here. -/
namespace Go.Proofs.YtedjfbbfpnkbeaaGreatDoor

/-- Files as DiskLists makes them: so many at most, none has bytes, none has no name. -/
structure BareF (fs : List Fl) (j : Nat) : Prop where
  len : fs.length ≤ j
  none : ∀ f ∈ fs, f.b = [] ∧ f.n ≠ ⟨#[]⟩
theorem BareF.used {fs : List Fl} {j : Nat} (h : BareF fs j) : usedF fs = 0 := by
  have h2 := h.none
  clear h
  unfold usedF
  induction fs with
  | nil => rfl
  | cons f fs ih =>
    rw [List.map_cons, List.sum_cons, (h2 f (List.mem_cons_self ..)).1, ih (fun g hg => h2 g (List.mem_cons_of_mem _ hg))]
    rfl
theorem BareF.mono {fs : List Fl} {j k : Nat} (h : BareF fs j) (hk : j ≤ k) : BareF fs k := ⟨Nat.le_trans h.len hk, h.none⟩
theorem mem_putF0 {fs : List Fl} {f g : Fl} (h : g ∈ putF fs f) : g = f ∨ g ∈ fs := by
  unfold putF at h
  rcases List.mem_append.1 h with h | h
  · exact .inr (List.mem_of_mem_take h)
  · rcases List.mem_cons.1 h with h | h
    · exact .inl h
    · exact .inr (List.mem_of_mem_drop h)
theorem BareF.put {fs : List Fl} {j : Nat} (h : BareF fs j) {f : Fl} (hb : f.b = []) (hn : f.n ≠ ⟨#[]⟩) : BareF (putF fs f) (j + 1) :=
  ⟨Nat.le_trans (putF_length_le fs f) (by have := h.len; omega), fun g hg => (mem_putF0 hg).elim (fun e => by subst e; exact ⟨hb, hn⟩) (h.none g)⟩
theorem BareF.erase {fs : List Fl} {j : Nat} (h : BareF fs j) (i : Nat) : BareF (fs.eraseIdx i) j :=
  ⟨Nat.le_trans (List.length_eraseIdx_le _ _) h.len, fun g hg => h.none g (List.mem_of_mem_eraseIdx hg)⟩

/-- A disk of DiskLists behind j acts. -/
def LsD (j : Nat) (d : Dk) : Prop := ∃ fs c, d = freeD 100000 [] fs c ∧ c ≤ j ∧ BareF fs j
theorem LsD.zero : LsD 0 (freeD 100000 [] [] 0) := ⟨[], 0, rfl, Nat.le_refl _, ⟨Nat.le_refl _, fun f hf => by cases hf⟩⟩
theorem LsD.mono {j k : Nat} {d : Dk} (h : LsD j d) (hk : j ≤ k) : LsD k d := by
  obtain ⟨fs, c, h1, h2, h3⟩ := h
  exact ⟨fs, c, h1, Nat.le_trans h2 hk, h3.mono hk⟩
theorem LsD.create {j : Nat} {d : Dk} (h : LsD j d) (n : ByteArray) : LsD (j + 1) (createD d n).1 := by
  obtain ⟨fs, c, rfl, h2, h3⟩ := h
  unfold createD
  rw [gateD_free]
  unfold createF
  split
  · exact ⟨fs, c + 1, rfl, by omega, h3.mono (by omega)⟩
  · split
    · exact ⟨fs, c + 1, rfl, by omega, h3.mono (by omega)⟩
    · rename_i hn _
      exact ⟨putF fs ⟨n, [], 0⟩, c + 1, rfl, by omega, h3.put rfl hn⟩
theorem LsD.remove {j : Nat} {d : Dk} (h : LsD j d) (n : ByteArray) : LsD (j + 1) (removeD d n).1 := by
  obtain ⟨fs, c, rfl, h2, h3⟩ := h
  unfold removeD withD
  rw [gateD_free]
  unfold hitAns
  split
  · exact ⟨fs.eraseIdx _, c + 1, rfl, by omega, (h3.erase _).mono (by omega)⟩
  · exact ⟨fs, c + 1, rfl, by omega, h3.mono (by omega)⟩
theorem LsD.rename {j : Nat} {d : Dk} (h : LsD j d) (n to : ByteArray) : LsD (j + 1) (renameD d n to).1 := by
  obtain ⟨fs, c, rfl, h2, h3⟩ := h
  unfold renameD withD
  rw [gateD_free]
  unfold hitAns
  split
  · rename_i hh
    unfold renameF
    split
    · exact ⟨fs, c + 1, rfl, by omega, h3.mono (by omega)⟩
    · rename_i hto
      split
      · exact ⟨fs, c + 1, rfl, by omega, h3.mono (by omega)⟩
      · have hlt : lbF fs n < fs.length := hitF_lt hh
        have hm : fileAt (freeD 100000 [] fs (c + 1)) (lbF fs n) ∈ fs := by
          rw [fileAt_get (d := freeD 100000 [] fs (c + 1)) hlt]
          exact List.getElem_mem _
        exact ⟨_, c + 1, rfl, by omega, (h3.erase _).put (h3.none _ hm).1 hto⟩
  · exact ⟨fs, c + 1, rfl, by omega, h3.mono (by omega)⟩

theorem lb_at {l : List Pr} (h : Rises l) {i : Nat} (hi : i < l.length) : lb l l[i].k = i := by
  have hp := parts_of_rises h l[i].k
  have h1 := hp i hi
  have h2 : ¬ i < lb l l[i].k := fun hc => lt_irrefl _ (h1.2 hc)
  by_cases h3 : lb l l[i].k = i
  · exact h3
  · exfalso
    have hlt : lb l l[i].k < i := by omega
    have h4 := (hp (lb l l[i].k) (by omega)).1 (List.pairwise_iff_getElem.1 h _ _ (by omega) hi hlt)
    omega
theorem hitB_at {l : List Pr} (h : Rises l) {i : Nat} (hi : i < l.length) : hitB l l[i].k = true := by
  unfold hitB
  have h1 := lb_at h hi
  rw [dif_pos (by rw [h1]; exact hi)]
  simp only [h1]
  rw [cmpS_self]
  rfl
theorem hitF_at {fs : List Fl} (h : Rises (asPs fs)) {i : Nat} (hi : i < fs.length) : hitF fs fs[i].n = true ∧ lbF fs fs[i].n = i := by
  have hi' : i < (asPs fs).length := by simpa [asPs] using hi
  have e : (asPs fs)[i].k = fs[i].n := by simp [asPs, asP]
  have h1 := hitB_at h hi'
  have h2 := lb_at h hi'
  rw [e] at h1 h2
  exact ⟨h1, h2⟩
end Go.Proofs.YtedjfbbfpnkbeaaGreatDoor

