/- What acts make of a disk's files: names rise, none is empty. No program stands here. -/
import Derived.Test.YtfbnkbdolimojaaDkOne
namespace Go.Proofs.Ytfbnkbdolimojaa

/-- Files as DiskLists makes them: so many at most, none has bytes, none has no name. -/
structure BareF (fs : List Fl) (j : Nat) : Prop where
  len : fs.length ≤ j
  none : ∀ f ∈ fs, f.b = [] ∧ f.n ≠ ⟨#[]⟩
theorem BareF.used {fs : List Fl} {j : Nat} (h : BareF fs j) : usedF fs = 0 := by
  have h2 := h.none
  clear h
  unfold usedF
  induction fs with
  | nil => rfl
  | cons f fs ih =>
    rw [List.map_cons, List.sum_cons, (h2 f (List.mem_cons_self ..)).1, ih (fun g hg => h2 g (List.mem_cons_of_mem _ hg))]
    rfl
theorem BareF.mono {fs : List Fl} {j k : Nat} (h : BareF fs j) (hk : j ≤ k) : BareF fs k := ⟨Nat.le_trans h.len hk, h.none⟩
theorem mem_putF0 {fs : List Fl} {f g : Fl} (h : g ∈ putF fs f) : g = f ∨ g ∈ fs := by
  unfold putF at h
  rcases List.mem_append.1 h with h | h
  · exact .inr (List.mem_of_mem_take h)
  · rcases List.mem_cons.1 h with h | h
    · exact .inl h
    · exact .inr (List.mem_of_mem_drop h)
theorem BareF.put {fs : List Fl} {j : Nat} (h : BareF fs j) {f : Fl} (hb : f.b = []) (hn : f.n ≠ ⟨#[]⟩) : BareF (putF fs f) (j + 1) :=
  ⟨Nat.le_trans (putF_length_le fs f) (by have := h.len; omega), fun g hg => (mem_putF0 hg).elim (fun e => by subst e; exact ⟨hb, hn⟩) (h.none g)⟩
theorem BareF.erase {fs : List Fl} {j : Nat} (h : BareF fs j) (i : Nat) : BareF (fs.eraseIdx i) j :=
  ⟨Nat.le_trans (List.length_eraseIdx_le _ _) h.len, fun g hg => h.none g (List.mem_of_mem_eraseIdx hg)⟩

/-- A disk of DiskLists behind j acts. -/
def LsD (j : Nat) (d : Dk) : Prop := ∃ fs c, d = freeD 100000 [] fs c ∧ c ≤ j ∧ BareF fs j
theorem LsD.zero : LsD 0 (freeD 100000 [] [] 0) := ⟨[], 0, rfl, Nat.le_refl _, ⟨Nat.le_refl _, fun f hf => by cases hf⟩⟩
theorem LsD.mono {j k : Nat} {d : Dk} (h : LsD j d) (hk : j ≤ k) : LsD k d := by
  obtain ⟨fs, c, h1, h2, h3⟩ := h
  exact ⟨fs, c, h1, Nat.le_trans h2 hk, h3.mono hk⟩
theorem LsD.create {j : Nat} {d : Dk} (h : LsD j d) (n : ByteArray) : LsD (j + 1) (createD d n).1 := by
  obtain ⟨fs, c, rfl, h2, h3⟩ := h
  unfold createD
  rw [gateD_free]
  unfold createF
  split
  · exact ⟨fs, c + 1, rfl, by omega, h3.mono (by omega)⟩
  · split
    · exact ⟨fs, c + 1, rfl, by omega, h3.mono (by omega)⟩
    · rename_i hn _
      exact ⟨putF fs ⟨n, [], 0⟩, c + 1, rfl, by omega, h3.put rfl hn⟩
theorem LsD.remove {j : Nat} {d : Dk} (h : LsD j d) (n : ByteArray) : LsD (j + 1) (removeD d n).1 := by
  obtain ⟨fs, c, rfl, h2, h3⟩ := h
  unfold removeD withD
  rw [gateD_free]
  unfold hitAns
  split
  · exact ⟨fs.eraseIdx _, c + 1, rfl, by omega, (h3.erase _).mono (by omega)⟩
  · exact ⟨fs, c + 1, rfl, by omega, h3.mono (by omega)⟩
theorem LsD.rename {j : Nat} {d : Dk} (h : LsD j d) (n to : ByteArray) : LsD (j + 1) (renameD d n to).1 := by
  obtain ⟨fs, c, rfl, h2, h3⟩ := h
  unfold renameD withD
  rw [gateD_free]
  unfold hitAns
  split
  · rename_i hh
    unfold renameF
    split
    · exact ⟨fs, c + 1, rfl, by omega, h3.mono (by omega)⟩
    · rename_i hto
      split
      · exact ⟨fs, c + 1, rfl, by omega, h3.mono (by omega)⟩
      · have hlt : lbF fs n < fs.length := hitF_lt hh
        have hm : fileAt (freeD 100000 [] fs (c + 1)) (lbF fs n) ∈ fs := by
          rw [fileAt_get (d := freeD 100000 [] fs (c + 1)) hlt]
          exact List.getElem_mem _
        exact ⟨_, c + 1, rfl, by omega, (h3.erase _).put (h3.none _ hm).1 hto⟩
  · exact ⟨fs, c + 1, rfl, by omega, h3.mono (by omega)⟩

theorem lb_at {l : List Pr} (h : Rises l) {i : Nat} (hi : i < l.length) : lb l l[i].k = i := by
  have hp := parts_of_rises h l[i].k
  have h1 := hp i hi
  have h2 : ¬ i < lb l l[i].k := fun hc => lt_irrefl _ (h1.2 hc)
  by_cases h3 : lb l l[i].k = i
  · exact h3
  · exfalso
    have hlt : lb l l[i].k < i := by omega
    have h4 := (hp (lb l l[i].k) (by omega)).1 (List.pairwise_iff_getElem.1 h _ _ (by omega) hi hlt)
    omega
theorem hitB_at {l : List Pr} (h : Rises l) {i : Nat} (hi : i < l.length) : hitB l l[i].k = true := by
  unfold hitB
  have h1 := lb_at h hi
  rw [dif_pos (by rw [h1]; exact hi)]
  simp only [h1]
  rw [cmpS_self]
  rfl
theorem hitF_at {fs : List Fl} (h : Rises (asPs fs)) {i : Nat} (hi : i < fs.length) : hitF fs fs[i].n = true ∧ lbF fs fs[i].n = i := by
  have hi' : i < (asPs fs).length := by simpa [asPs] using hi
  have e : (asPs fs)[i].k = fs[i].n := by simp [asPs, asP]
  have h1 := hitB_at h hi'
  have h2 := lb_at h hi'
  rw [e] at h1 h2
  exact ⟨h1, h2⟩
end Go.Proofs.Ytfbnkbdolimojaa
