/- The table of pairs that were made right: plain facts. -/
import Derived.Test.YtfbnkbdolimojaaSnapM
import Derived.Test.YtfbnkbdolimojaaRefApp0
namespace Go.Proofs.Ytfbnkbdolimojaa
set_option linter.unusedVariables false

theorem wS_normT (l : List Pr) : wS (normT l) ≤ wS l := by
  have h := wS_foldput l []
  have e : wS [] = 0 := rfl
  unfold normT
  omega
theorem Dx.base {w0 w : World} {p : Nat} {d : Dk} (h : Dx (OldB w0) w0 w p d) : Mod NoneB w0 w := h.old.base
theorem bytesP {w : World} {r : List UInt8 × Nat} {e : Ending} {w' : World} (h : BytesE r w e w') : ∃ A c, e = .returned (.tuple #[.slice A r.1.length c, .int .i64 r.2]) ∧ r.1.length ≤ c ∧ Rd w' 1 A r.1.length (encB r.1) ∧ Mod NoneB w w' := by
  obtain ⟨v, rfl, ho, hm, _⟩ := h
  obtain ⟨A, c, rfl, hc, _, hr⟩ := ho.out
  exact ⟨A, c, rfl, hc, hr, hm⟩
/-- Pairs that are right, and their bytes. -/
structure Tabs (p : List Pr) (x : List UInt8) : Prop where
  ok : tableR p = (x, 0)
  back : fromT x = some p
  lo : 12 ≤ x.length
  hi : x.length ≤ 24012
  small : SmallP p
theorem tabs_norm (l : List Pr) (h : wS l ≤ 24000) : ∃ x, Tabs (normT l) x := by
  have hn := wS_normT l
  have hs := wS_small (l := normT l) (by omega)
  have hr := rises_normT l
  have hf : (frameB (encL (tabT (normT l)))).length = 8 + (encL (tabT (normT l))).length := frameB_length _
  have hb := tabT_bytes (normT l)
  have h1 := hs.1
  have h2 := hs.2
  have h3 := tableR_ok hr (show wS (normT l) ≤ 24000 by omega)
  have h4 := fromT_frame hr hs.1 (by omega)
  exact ⟨_, h3, h4, by omega, by omega, h1⟩
theorem Tabs.save {p : List Pr} {x : List UInt8} (h : Tabs p x) (d : Dk) : saveR d p = saveD d x := by
  unfold saveR
  rw [h.ok]
  exact if_pos rfl
theorem Tabs.load {p : List Pr} {x : List UInt8} (h : Tabs p x) : ((fromT x).getD [], errP (fromT x)) = (p, 0) := by rw [h.back]; rfl
theorem Tabs.room {p : List Pr} {x : List UInt8} (h : Tabs p x) {d : Dk} (hc : d.c ≤ 1000) (hl : d.fs.length ≤ 1000) (hu : usedF d.fs ≤ 1000000) : RoomS d (tableR p).1 0 := by
  rw [h.ok]
  have := h.hi
  exact ⟨by omega, by omega, by simp only [Nat.mul_zero]; omega, by simp only; omega⟩

/-- Of a disk that is a little too small for two. -/
theorem falls_ok {p q : List Pr} {x y : List UInt8} (hp : Tabs p x) (hq : Tabs q y) :
    ∃ D1 D2 D3 D4 : Dk, saveR (freeD (((x.length + y.length : Nat) : Int) - 1) [] [] 0) p = (D1, 0) ∧ saveR D1 q = (D2, 5) ∧ loadR D2 = (p, 0) ∧ restartD D2 ⟨((x.length + y.length : Nat) : Int), [], 0, false, []⟩ = D3 ∧
      saveR D3 q = (D4, 0) ∧ loadR D4 = (q, 0) ∧ (∀ D, D = D1 ∨ D = D2 ∨ D = D3 ∨ D = D4 → D.c ≤ 100 ∧ D.fs.length ≤ 100 ∧ usedF D.fs ≤ 100000) := by
  have l1 := hp.lo
  have l2 := hq.lo
  have u1 := hp.hi
  have u2 := hq.hi
  have s1 := save_on0 (d := freeD (((x.length + y.length : Nat) : Int) - 1) [] [] 0) (y := x) rfl (Calm.free _ _ _ _ _) (by show (x.length : Int) ≤ _ - 1; omega)
  have s2 := save_full (d := freeD (((x.length + y.length : Nat) : Int) - 1) [] (F1 x x.length) 4) (x := x) (y := y) (s := x.length) rfl (Calm.free _ _ _ _ _) (by show _ - 1 < ((x.length + y.length : Nat) : Int); omega)
  have r3 : restartD (freeD (((x.length + y.length : Nat) : Int) - 1) [] (F2 x x.length [] 0) 6) ⟨((x.length + y.length : Nat) : Int), [], 0, false, []⟩ = freeD ((x.length + y.length : Nat) : Int) [] (F2 x x.length [] 0) 0 := by
    rw [restart_free]
    unfold F2
    rw [List.mapIdx_cons, restF_whole]
    rfl
  have s4 := save_on2 (d := freeD ((x.length + y.length : Nat) : Int) [] (F2 x x.length [] 0) 0) (x := x) (y := y) (s := x.length) (t := []) (u := 0) rfl (Calm.free _ _ _ _ _) (Int.le_refl _)
  refine ⟨freeD (((x.length + y.length : Nat) : Int) - 1) [] (F1 x x.length) 4, freeD (((x.length + y.length : Nat) : Int) - 1) [] (F2 x x.length [] 0) 6, freeD ((x.length + y.length : Nat) : Int) [] (F2 x x.length [] 0) 0, freeD ((x.length + y.length : Nat) : Int) [] (F1 y y.length) 5, ?_, ?_, ?_, r3, ?_, ?_, ?_⟩
  · rw [hp.save, s1]; rfl
  · rw [hq.save, s2]; rfl
  · rw [← hp.load]; exact load_first (r := [⟨sTmp, [], 0⟩]) rfl rfl
  · rw [hq.save, s4]; rfl
  · rw [← hq.load]; exact load_first (r := []) rfl rfl
  · intro D hD
    rcases hD with rfl | rfl | rfl | rfl <;> refine ⟨by simp [freeD], by simp [freeD, F1, F2], by simp [freeD, F1, F2, usedF]; omega⟩

/-- Of a disk that fails or crashes in the second save. -/
theorem keeps_ok {p q : List Pr} {x y : List UInt8} (hp : Tabs p x) (hq : Tabs q y) (pl : Pl) (hcap : pl.cap = 100000) (hcr : 5 ≤ pl.crash) (hfl : ∀ k ∈ pl.fail, 5 ≤ k) :
    ∃ (D1 D2 D3 : Dk) (f : Nat), saveR ⟨pl, [], 0, false⟩ p = (D1, 0) ∧ saveR D1 q = (D2, f) ∧ restartD D2 ⟨100000, [], 0, false, []⟩ = D3 ∧
      (loadR D3 = (q, 0) ∨ f ≠ 0 ∧ loadR D3 = (p, 0)) ∧ (∀ D, D = D1 ∨ D = D2 ∨ D = D3 → D.c ≤ 100 ∧ D.fs.length ≤ 100 ∧ usedF D.fs ≤ 1000000) := by
  have l1 := hp.lo
  have l2 := hq.lo
  have u1 := hp.hi
  have u2 := hq.hi
  have s1 := save_on0 (d := ⟨pl, [], 0, false⟩) (y := x) rfl ⟨rfl, fun j h1 h2 => by
    simp only at h1 h2
    refine ⟨?_, fun h => ?_⟩
    · show (j : Int) ≠ pl.crash
      omega
    · have := hfl _ h
      omega⟩ (by show (x.length : Int) ≤ pl.cap; omega)
  obtain ⟨D1, h1⟩ : ∃ D1 : Dk, D1 = ⟨pl, F1 x x.length, 4, false⟩ := ⟨_, rfl⟩
  have h1f : D1.fs = F1 x x.length := by rw [h1]
  have s2 := save_two (d := D1) (x := x) (y := y) h1f (by rw [h1]; show ((x.length + y.length : Nat) : Int) ≤ pl.cap; omega)
  have g2 := saveD_grow D1 y
  obtain ⟨D2, h2⟩ : ∃ D2 : Ans, D2 = saveD D1 y := ⟨_, rfl⟩
  rw [← h2] at s2 g2
  have lo := s2.loads ⟨100000, [], 0, false, []⟩
  rw [hp.load, hq.load] at lo
  have e1 : D1.c = 4 := by rw [h1]
  have e2 : D1.fs.length = 1 := by rw [h1f]; rfl
  have e3 : usedF D1.fs = x.length := by rw [h1f]; simp [F1, usedF]
  have g3 : (restartD D2.1 ⟨100000, [], 0, false, []⟩).fs.length = D2.1.fs.length := by simp [restartD]
  have g4 : usedF (restartD D2.1 ⟨100000, [], 0, false, []⟩).fs ≤ usedF D2.1.fs := by
    have key : ∀ (fs : List Fl) (keep : List Int) (k : Nat), usedF (fs.mapIdx fun i => restF keep (i + k)) ≤ usedF fs := by
      intro fs keep
      induction fs with
      | nil => intro k; exact Nat.le_refl _
      | cons f fs ih =>
        intro k
        rw [List.mapIdx_cons, usedF_cons, usedF_cons]
        have h := ih (k + 1)
        have e : (fun i => restF keep (i + 1 + k)) = fun i => restF keep (i + (k + 1)) := by funext i; congr 1; omega
        have e' : (restF keep (0 + k) f).b.length ≤ f.b.length := by
          unfold restF
          simp only
          split
          · rw [List.length_take]; omega
          · exact Nat.le_refl _
        rw [e]
        omega
    exact key _ _ 0
  refine ⟨D1, D2.1, _, D2.2, by rw [hp.save, s1, h1], by rw [hq.save, ← h2], rfl, ?_, ?_⟩
  · by_cases h0 : D2.2 = 0
    · exact .inl (lo.2 h0)
    · exact lo.1.imp id fun h => ⟨h0, h⟩
  · intro D hD
    have e4 : (restartD D2.1 ⟨100000, [], 0, false, []⟩).c = 0 := rfl
    rcases hD with rfl | rfl | rfl
    · exact ⟨by omega, by omega, by omega⟩
    · exact ⟨by omega, by omega, by omega⟩
    · exact ⟨by omega, by omega, by omega⟩
end Go.Proofs.Ytfbnkbdolimojaa
