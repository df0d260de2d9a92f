/- The store's three files, plainly: what each call of the disk makes of them, whatever fails and crashes. No program stands here. -/
import Derived.Test.YtkklofnabmdmfaaGreatDoorWlBQq
import Derived.Test.YtkklofnabmdmfaaGreatDoorSnapBQq
namespace Go.Proofs.YtkklofnabmdmfaaGreatDoor
set_option linter.unusedVariables false

theorem hit_mid {n : ByteArray} {x : List UInt8} {s : Nat} {post : List Fl} : ∀ {pre : List Fl}, (∀ f ∈ pre, cmpS f.n n < 0) → hitF (pre ++ ⟨n, x, s⟩ :: post) n = true ∧ lbF (pre ++ ⟨n, x, s⟩ :: post) n = pre.length
  | [], _ => ⟨hitF_one _ _ _ _, lbF_one _ _ _ _⟩
  | f :: pre, h => by
    obtain ⟨h1, h2⟩ := hit_mid (pre := pre) (fun g hg => h g (List.mem_cons_of_mem _ hg))
    have hf := h f (List.mem_cons_self ..)
    rw [List.cons_append, hitF_cons, lbF_cons, if_pos hf, if_pos hf, h1, h2]
    exact ⟨rfl, rfl⟩
theorem miss_mid {n : ByteArray} {post : List Fl} : ∀ {pre : List Fl}, (∀ f ∈ pre, cmpS f.n n < 0) → (∀ f ∈ post, cmpS n f.n < 0) → hitF (pre ++ post) n = false ∧ lbF (pre ++ post) n = pre.length
  | [], _, h2 => by
    cases post with
    | nil => exact ⟨rfl, rfl⟩
    | cons f post =>
      have hf := h2 f (List.mem_cons_self ..)
      have hn : f.n ≠ n := fun e => by rw [e] at hf; exact lt_irrefl _ hf
      rw [List.nil_append, hitF_cons, lbF_cons, if_neg (lt_asymm hf), if_neg (lt_asymm hf)]
      exact ⟨by simp [hn], rfl⟩
  | f :: pre, h, h2 => by
    obtain ⟨h3, h4⟩ := miss_mid (pre := pre) (fun g hg => h g (List.mem_cons_of_mem _ hg)) h2
    have hf := h f (List.mem_cons_self ..)
    rw [List.cons_append, hitF_cons, lbF_cons, if_pos hf, if_pos hf, h3, h4]
    exact ⟨rfl, rfl⟩
section
variable {d : Dk} {n : ByteArray} {x y : List UInt8} {s : Nat} {pre post : List Fl}
theorem hitAns_mid (F : Dk → Nat → Ans) (h : d.fs = pre ++ ⟨n, x, s⟩ :: post) (hp : ∀ f ∈ pre, cmpS f.n n < 0) : hitAns d n F = F d pre.length := by
  obtain ⟨h1, h2⟩ := hit_mid (x := x) (s := s) (post := post) hp
  rw [← h] at h1 h2
  rw [hitAns_true _ h1, h2]
theorem fileAt_mid (h : d.fs = pre ++ ⟨n, x, s⟩ :: post) : fileAt d pre.length = ⟨n, x, s⟩ := by unfold fileAt; rw [h]; simp
theorem syncF_mid (h : d.fs = pre ++ ⟨n, x, s⟩ :: post) : syncF d pre.length = ({ d with fs := pre ++ ⟨n, x, x.length⟩ :: post }, 0) := by
  unfold syncF
  rw [fileAt_mid h, h]
  simp
theorem cutF_mid {k : Nat} (h : d.fs = pre ++ ⟨n, x, s⟩ :: post) (hk : k ≤ x.length) : cutF (k : Nat) d pre.length = ({ d with fs := pre ++ ⟨n, x.take k, min s k⟩ :: post }, 0) := by
  unfold cutF
  rw [fileAt_mid h, if_neg (by simp only; omega), h]
  simp
theorem createF_mid (h : d.fs = pre ++ post) (hn : n ≠ ⟨#[]⟩) (hp : ∀ f ∈ pre, cmpS f.n n < 0) (hq : ∀ f ∈ post, cmpS n f.n < 0) : createF n d = ({ d with fs := pre ++ ⟨n, [], 0⟩ :: post }, 0) := by
  obtain ⟨h1, h2⟩ := miss_mid hp hq
  rw [← h] at h1 h2
  unfold createF putF
  rw [if_neg hn, h1, if_neg (by simp)]
  simp only [h2]
  rw [h]
  simp
end

/-- The store's three files: each there, or not. -/
structure F3 where
  a : Option (List UInt8 × Nat)
  b : Option (List UInt8 × Nat)
  c : Option (List UInt8 × Nat)
def ofl (n : ByteArray) : Option (List UInt8 × Nat) → List Fl
  | none => []
  | some x => [⟨n, x.1, x.2⟩]
def F3.fs (f : F3) : List Fl := ofl sLog f.a ++ (ofl sSnap f.b ++ ofl sTmp f.c)
def lenO : Option (List UInt8 × Nat) → Nat
  | none => 0
  | some x => x.1.length
theorem usedF_ofl (n : ByteArray) (o : Option (List UInt8 × Nat)) : usedF (ofl n o) = lenO o := by cases o <;> simp [ofl, lenO, usedF]
theorem F3.used (f : F3) : usedF f.fs = lenO f.a + (lenO f.b + lenO f.c) := by unfold F3.fs; rw [usedF_append, usedF_append, usedF_ofl, usedF_ofl, usedF_ofl]
theorem ofl_len (n : ByteArray) (o : Option (List UInt8 × Nat)) : (ofl n o).length ≤ 1 := by cases o <;> simp [ofl]
theorem F3.len (f : F3) : f.fs.length ≤ 3 := by
  have h1 := ofl_len sLog f.a
  have h2 := ofl_len sSnap f.b
  have h3 := ofl_len sTmp f.c
  unfold F3.fs
  simp only [List.length_append]
  omega
theorem ltLS : cmpS sLog sSnap < 0 := by decide +kernel
theorem ltLT : cmpS sLog sTmp < 0 := by decide +kernel
theorem mem_ofl {n : ByteArray} {o : Option (List UInt8 × Nat)} {f : Fl} (h : f ∈ ofl n o) : f.n = n := by
  cases o with
  | none => cases h
  | some x => rw [List.mem_singleton.1 h]
theorem preA : ∀ f ∈ ([] : List Fl), cmpS f.n sLog < 0 := fun f h => by cases h
theorem preB (o : Option (List UInt8 × Nat)) : ∀ f ∈ ofl sLog o, cmpS f.n sSnap < 0 := fun f h => by rw [mem_ofl h]; exact ltLS
theorem postA (o u : Option (List UInt8 × Nat)) : ∀ f ∈ ofl sSnap o ++ ofl sTmp u, cmpS sLog f.n < 0 := fun f h => by
  rcases List.mem_append.1 h with h | h
  · rw [mem_ofl h]; exact ltLS
  · rw [mem_ofl h]; exact ltLT
theorem postB (u : Option (List UInt8 × Nat)) : ∀ f ∈ ofl sTmp u, cmpS sSnap f.n < 0 := fun f h => by rw [mem_ofl h]; exact ltST
theorem fs_a {f : F3} {x : List UInt8 × Nat} (h : f.a = some x) : f.fs = [] ++ ⟨sLog, x.1, x.2⟩ :: (ofl sSnap f.b ++ ofl sTmp f.c) := by unfold F3.fs; rw [h]; rfl
theorem fs_b {f : F3} {x : List UInt8 × Nat} (h : f.b = some x) : f.fs = ofl sLog f.a ++ ⟨sSnap, x.1, x.2⟩ :: ofl sTmp f.c := by unfold F3.fs; rw [h]; rfl

/-- What a call through the gate makes of a disk, where by itself it would answer e5 (0: the files are g then). -/
structure GateR (d : Dk) (g : List Fl) (e5 : Nat) (a : Ans) : Prop where
  p : a.1.p = d.p
  c : a.1.c ≤ d.c + 1
  fs : a.1.fs = d.fs ∨ a.1.fs = g
  ok : a.2 = 0 → a.1.fs = g ∧ a.1.dn = false
  no : a.2 ≠ 0 → a.2 ≠ 7 → a.1.fs = d.fs ∧ a.1.dn = false
  crash : a.2 = 7 → a.1.dn = true
  err : a.2 = 0 ∨ a.2 = 5 ∨ a.2 = 6 ∨ a.2 = 7
  quiet : d.p.crash = 0 → d.p.fail = [] → d.dn = false → a.2 = e5 ∧ a.1.dn = false
theorem gate_r {d : Dk} {op : Dk → Ans} {g : List Fl} {e5 : Nat} (he : e5 = 0 ∨ e5 = 5) (h : ∀ c dn, op { d with c := c, dn := dn } = ({ d with c := c, dn := dn, fs := if e5 = 0 then g else d.fs }, e5)) : GateR d g e5 (gateD d op) := by
  have hfs : ∀ (P : List Fl → Prop), P g → P d.fs → P (if e5 = 0 then g else d.fs) := fun P h1 h2 => by split <;> assumption
  cases hdn : d.dn with
  | true =>
    have e : gateD d op = (d, 7) := by unfold gateD; rw [hdn]; rfl
    rw [e]
    exact ⟨rfl, by simp, .inl rfl, fun h => by simp at h, fun _ h => absurd rfl h, fun _ => hdn, .inr (.inr (.inr rfl)), fun _ _ h => by rw [hdn] at h; cases h⟩
  | false =>
    rcases gate_three d op hdn with e | e | e | e
    · rw [e]
      have e2 : ({ d with c := d.c + 1 } : Dk) = { d with c := d.c + 1, dn := d.dn } := rfl
      rw [e2, h, hdn]
      refine ⟨rfl, by simp, hfs (fun l => l = d.fs ∨ l = g) (.inr rfl) (.inl rfl), fun h0 => ?_, fun h0 _ => ?_, fun h7 => ?_, ?_, fun _ _ _ => ⟨rfl, rfl⟩⟩
      · simp only at h0; rw [if_pos h0]; exact ⟨rfl, rfl⟩
      · simp only at h0; rw [if_neg h0]; exact ⟨rfl, rfl⟩
      · simp only at h7; omega
      · simp only; omega
    · have hq : d.p.crash = 0 → d.p.fail = [] → False := fun h1 h2 => by
        have := gate_ok d op hdn (by rw [h1]; omega) (by rw [h2]; simp)
        rw [this] at e
        have e2 : ({ d with c := d.c + 1 } : Dk) = { d with c := d.c + 1, dn := d.dn } := rfl
        rw [e2, h] at e
        have := congrArg Prod.snd e
        simp only at this
        omega
      rw [e]
      exact ⟨rfl, by simp, .inl rfl, fun h => by simp at h, fun _ _ => ⟨rfl, hdn⟩, fun h => by simp at h, .inr (.inr (.inl rfl)), fun h1 h2 _ => (hq h1 h2).elim⟩
    · have hq : d.p.crash = 0 → d.p.fail = [] → False := fun h1 h2 => by
        have := gate_ok d op hdn (by rw [h1]; omega) (by rw [h2]; simp)
        rw [this] at e
        have e2 : ({ d with c := d.c + 1 } : Dk) = { d with c := d.c + 1, dn := d.dn } := rfl
        rw [e2, h] at e
        have := congrArg Prod.snd e
        simp only at this
        omega
      rw [e, h]
      exact ⟨rfl, by simp, hfs (fun l => l = d.fs ∨ l = g) (.inr rfl) (.inl rfl), fun h => by simp at h, fun _ h => absurd rfl h, fun _ => rfl, .inr (.inr (.inr rfl)), fun h1 h2 _ => (hq h1 h2).elim⟩
    · have hq : d.p.crash = 0 → d.p.fail = [] → False := fun h1 h2 => by
        have := gate_ok d op hdn (by rw [h1]; omega) (by rw [h2]; simp)
        rw [this] at e
        have e2 : ({ d with c := d.c + 1 } : Dk) = { d with c := d.c + 1, dn := d.dn } := rfl
        rw [e2, h] at e
        have := congrArg Prod.snd e
        simp only at this
        omega
      rw [e]
      exact ⟨rfl, by simp, .inl rfl, fun h => by simp at h, fun _ h => absurd rfl h, fun _ => rfl, .inr (.inr (.inr rfl)), fun h1 h2 _ => (hq h1 h2).elim⟩

section
variable {d : Dk} {f : F3} {x y : List UInt8} {s : Nat}
theorem r_sync (hd : d.fs = f.fs) (ha : f.a = some (x, s)) : GateR d { f with a := some (x, x.length) : F3 }.fs 0 (syncD d sLog) := by
  have hm := fs_a ha
  refine gate_r (op := fun d => hitAns d sLog syncF) (.inl rfl) fun c dn => ?_
  rw [hitAns_mid _ (show ({ d with c := c, dn := dn } : Dk).fs = _ from hd.trans hm) preA, syncF_mid (show ({ d with c := c, dn := dn } : Dk).fs = _ from hd.trans hm)]
  rfl
theorem r_cut (hd : d.fs = f.fs) (ha : f.a = some (x, s)) (k : Nat) (hk : k ≤ x.length) : GateR d { f with a := some (x.take k, min s k) : F3 }.fs 0 (cutD d sLog (k : Nat)) := by
  have hm := fs_a ha
  refine gate_r (op := fun d => hitAns d sLog (cutF (k : Nat))) (.inl rfl) fun c dn => ?_
  rw [hitAns_mid _ (show ({ d with c := c, dn := dn } : Dk).fs = _ from hd.trans hm) preA, cutF_mid (show ({ d with c := c, dn := dn } : Dk).fs = _ from hd.trans hm) hk]
  rfl
theorem r_create (hd : d.fs = f.fs) (ha : f.a = none) : GateR d { f with a := some ([], 0) : F3 }.fs 0 (createD d sLog) := by
  have hm : f.fs = [] ++ (ofl sSnap f.b ++ ofl sTmp f.c) := by unfold F3.fs; rw [ha]; rfl
  refine gate_r (op := createF sLog) (.inl rfl) fun c dn => ?_
  rw [createF_mid (show ({ d with c := c, dn := dn } : Dk).fs = _ from hd.trans hm) (by decide) preA (postA _ _)]
  rfl
theorem read_log (hd : d.fs = f.fs) (hn : d.dn = false) : readD d sLog = match f.a with | none => ([], 3) | some x => (x.1, 0) := by
  unfold readD
  rw [hn, if_neg (by decide)]
  cases ha : f.a with
  | none =>
    have hm : d.fs = [] ++ (ofl sSnap f.b ++ ofl sTmp f.c) := by rw [hd]; unfold F3.fs; rw [ha]; rfl
    have h1 := (miss_mid (pre := []) preA (postA f.b f.c)).1
    rw [← hm] at h1
    rw [h1]
    rfl
  | some x =>
    have hm := hd.trans (fs_a ha)
    obtain ⟨h1, h2⟩ := hit_mid (x := x.1) (s := x.2) (post := ofl sSnap f.b ++ ofl sTmp f.c) preA
    rw [← hm] at h1 h2
    rw [h1, h2, if_pos rfl, fileAt_mid hm]
theorem read_snap (hd : d.fs = f.fs) (hn : d.dn = false) : readD d sSnap = match f.b with | none => ([], 3) | some x => (x.1, 0) := by
  unfold readD
  rw [hn, if_neg (by decide)]
  cases hb : f.b with
  | none =>
    have hm : d.fs = ofl sLog f.a ++ ofl sTmp f.c := by rw [hd]; unfold F3.fs; rw [hb]; rfl
    have h1 := (miss_mid (preB f.a) (postB f.c)).1
    rw [← hm] at h1
    rw [h1]
    rfl
  | some x =>
    have hm := hd.trans (fs_b hb)
    obtain ⟨h1, h2⟩ := hit_mid (x := x.1) (s := x.2) (post := ofl sTmp f.c) (preB f.a)
    rw [← hm] at h1 h2
    rw [h1, h2, if_pos rfl, fileAt_mid hm]
end
end Go.Proofs.YtkklofnabmdmfaaGreatDoor

/- A commit, a save, a reset, an opening on the store's three files, whatever fails and crashes: plain facts. No program stands here. -/
namespace Go.Proofs.YtkklofnabmdmfaaGreatDoor
set_option linter.unusedVariables false

/-- A disk whose plan names nothing, and that is up. -/
structure Quiet (d : Dk) : Prop where
  crash : d.p.crash = 0
  fail : d.p.fail = []
  dn : d.dn = false
theorem GateR.next {d : Dk} {g : List Fl} {e5 : Nat} {a : Ans} (h : GateR d g e5 a) (hq : Quiet d) : a.2 = e5 ∧ Quiet a.1 := by
  obtain ⟨h1, h2⟩ := h.quiet hq.crash hq.fail hq.dn
  exact ⟨h1, by rw [h.p]; exact hq.crash, by rw [h.p]; exact hq.fail, h2⟩

/-- What stands in the log behind the batches that were told: nothing, or the beginning of one more. -/
def RestIs (rest : List UInt8) (more : Option (List Op3)) : Prop := rest = [] ∨ ∃ l j, more = some l ∧ rightO l ∧ SmallO l ∧ rest = (bytesO l).take j
def LogIs (a : Option (List UInt8 × Nat)) (ls : List (List Op3)) (rest : List UInt8) : Prop := (a = none ∧ ls = [] ∧ rest = []) ∨ ∃ s, a = some (catO ls ++ rest, s) ∧ (catO ls).length ≤ s ∧ s ≤ (catO ls ++ rest).length
def RightL (ls : List (List Op3)) : Prop := ∀ l ∈ ls, rightO l ∧ SmallO l
theorem log_cutB (d : Dk) (ls : List (List Op3)) (k : Nat) (hb : logB d = (catO ls).take k) (hl : RightL ls) (hk : k ≤ (catO ls).length) :
    logL d = ls.take (endsO ls k) ∧ logN d = (catO (ls.take (endsO ls k))).length := by
  have hp : ∀ p ∈ ls.flatMap recsO, p.length ≤ 1048576 := fun p hp => by
    obtain ⟨l, hl', hp⟩ := List.mem_flatMap.1 hp
    exact recsO_small (hl l hl').2 (hl l hl').1.1 p hp
  refine ⟨?_, ?_⟩
  · unfold logL; rw [hb]; exact cut_told ls hl k hk
  · unfold logN
    rw [hb]
    have hsc : scanB ((catO ls).take k) = (ls.flatMap recsO).take (endsIn (ls.flatMap recsO) k) := by
      rw [catO_frames] at hk ⊢
      exact scanB_cut _ hp k hk
    rw [hsc]
    obtain ⟨u, h1, h2⟩ := replay_cut_used ls hl k 0
    unfold replayB
    rw [h1, Nat.zero_add]
    exact h2
theorem right_nil : rightO [] ∧ SmallO [] := ⟨⟨by simp, fun o h => by cases h⟩, fun o h => by cases h⟩
theorem RightL.snoc {ls : List (List Op3)} (h : RightL ls) {l : List Op3} (hl : rightO l ∧ SmallO l) : RightL (ls ++ [l]) := fun x hx => by
  rcases List.mem_append.1 hx with hx | hx
  · exact h x hx
  · rw [List.mem_singleton.1 hx]; exact hl
theorem log_rest (d : Dk) (ls : List (List Op3)) (rest : List UInt8) (more : Option (List Op3)) (hb : logB d = catO ls ++ rest) (hl : RightL ls) (hr : RestIs rest more) :
    (logL d = ls ∧ logN d = (catO ls).length) ∨ ∃ l, more = some l ∧ rightO l ∧ SmallO l ∧ rest = bytesO l ∧ logL d = ls ++ [l] ∧ logN d = (catO (ls ++ [l])).length := by
  have key : ∀ (l : List Op3) (j : Nat), rightO l ∧ SmallO l → rest = (bytesO l).take j → (logL d = ls ∧ logN d = (catO ls).length) ∨ (rest = bytesO l ∧ logL d = ls ++ [l] ∧ logN d = (catO (ls ++ [l])).length) := by
    intro l j hrl hj
    have hcl : catO (ls ++ [l]) = catO ls ++ bytesO l := by rw [catO_append, catO_one']
    obtain ⟨m, hm⟩ : ∃ m, m = min j (bytesO l).length := ⟨_, rfl⟩
    have hjm : rest = (bytesO l).take m := by
      rw [hj, hm]
      by_cases h : j ≤ (bytesO l).length
      · rw [Nat.min_eq_left h]
      · rw [Nat.min_eq_right (by omega), List.take_of_length_le (by omega), List.take_of_length_le (Nat.le_refl _)]
    have hbk : logB d = (catO (ls ++ [l])).take ((catO ls).length + m) := by rw [hb, hcl, hjm, List.take_length_add_append]
    obtain ⟨h1, h2⟩ := log_cutB d (ls ++ [l]) _ hbk (hl.snoc hrl) (by rw [hcl, List.length_append]; omega)
    rw [endsO_snoc ls l _ (by omega)] at h1 h2
    by_cases hw : (bytesO l).length ≤ m
    · rw [if_pos (by omega)] at h1 h2
      have e : (ls ++ [l]).take (ls.length + 1) = ls ++ [l] := List.take_of_length_le (by simp)
      rw [e] at h1 h2
      exact .inr ⟨by rw [hjm, List.take_of_length_le hw], h1, h2⟩
    · rw [if_neg (by omega)] at h1 h2
      rw [List.take_left] at h1 h2
      exact .inl ⟨h1, h2⟩
  rcases hr with rfl | ⟨l, j, hm, h1, h2, h3⟩
  · rcases key [] 0 right_nil (by simp) with h | ⟨h, _⟩
    · exact .inl h
    · have := bytesO_pos []
      rw [← h] at this
      simp at this
  · rcases key l j ⟨h1, h2⟩ h3 with h | ⟨h4, h5, h6⟩
    · exact .inl h
    · exact .inr ⟨l, hm, h1, h2, h4, h5, h6⟩
/-- What opening the log makes of the disk. -/
structure OpnR (d : Dk) (f : F3) (ls : List (List Op3)) (rest : List UInt8) (more : Option (List Op3)) (o : Ans) : Prop where
  out : ∃ f' : F3, o.1.fs = f'.fs ∧ f'.b = f.b ∧ f'.c = f.c ∧ (∃ rest2, LogIs f'.a ls rest2 ∧ (rest2 = rest ∨ rest2 = [])) ∧
    (o.2 = 0 → f'.a = some (catO (logL d), (catO (logL d)).length) ∧ logN d = (catO (logL d)).length ∧ (logL d = ls ∨ ∃ l, more = some l ∧ rightO l ∧ SmallO l ∧ rest = bytesO l ∧ logL d = ls ++ [l]))
  p : o.1.p = d.p
  c : o.1.c ≤ d.c + 3
  quiet : Quiet d → Quiet o.1 ∧ o.2 = 0
theorem opn_sync {d : Dk} {f : F3} {X : List UInt8} {s : Nat} (hd : d.fs = f.fs) (ha : f.a = some (X, s)) :
    ∃ f' : F3, (syncD d sLog).1.fs = f'.fs ∧ f'.b = f.b ∧ f'.c = f.c ∧ (f'.a = some (X, s) ∨ f'.a = some (X, X.length)) ∧ ((syncD d sLog).2 = 0 → f'.a = some (X, X.length)) := by
  have g := r_sync hd ha
  by_cases h0 : (syncD d sLog).2 = 0
  · exact ⟨_, (g.ok h0).1, rfl, rfl, .inr rfl, fun _ => rfl⟩
  · rcases g.fs with k | k
    · exact ⟨f, k.trans hd, rfl, rfl, .inl ha, fun h => absurd h h0⟩
    · exact ⟨_, k, rfl, rfl, .inr rfl, fun _ => rfl⟩
theorem opn_r {d : Dk} {f : F3} {ls : List (List Op3)} {rest : List UInt8} {more : Option (List Op3)} (hd : d.fs = f.fs) (hl : LogIs f.a ls rest) (hls : RightL ls) (hr : RestIs rest more) : OpnR d f ls rest more (openD d) := by
  cases hdn : d.dn with
  | true =>
    have h1 : open1D d = (d, 7) := by unfold open1D readD; rw [hdn]; rfl
    have h2 : openD d = (d, 7) := by unfold openD; rw [h1, tryD_bad (a := (d, 7)) (by simp), tryD_bad (a := (d, 7)) (by simp)]
    rw [h2]
    exact ⟨⟨f, hd, rfl, rfl, ⟨rest, hl, .inl rfl⟩, fun h => by simp at h⟩, rfl, by simp, fun hq => by have := hq.dn; rw [hdn] at this; cases this⟩
  | false =>
    have hrd := read_log hd hdn
    rcases hl with ⟨h1, rfl, rfl⟩ | ⟨s, h1, h2, h3⟩
    · rw [h1] at hrd
      simp only at hrd
      have hb : logB d = [] := by unfold logB; rw [hrd]
      obtain ⟨hL, hN⟩ : logL d = [] ∧ logN d = (catO []).length := by
        rcases log_rest d [] [] none hb hls (.inl rfl) with h | ⟨l, h, _⟩
        · exact h
        · cases h
      have hN0 : logN d = 0 := hN
      have g := r_create hd h1
      have e1 : open1D d = createD d sLog := by unfold open1D; rw [hrd]; rfl
      unfold openD
      rw [e1, hN0, hb]
      by_cases h0 : (createD d sLog).2 = 0
      · have e2 : open2D 0 [] (createD d sLog).1 = ((createD d sLog).1, 0) := by unfold open2D; rw [if_neg (by simp)]
        rw [tryD_ok h0, e2, tryD_ok rfl]
        have hf := (g.ok h0).1
        obtain ⟨f', k1, k2, k3, k4, k5⟩ := opn_sync (f := ⟨some ([], 0), f.b, f.c⟩) hf rfl
        have g2 := r_sync (f := ⟨some ([], 0), f.b, f.c⟩) hf rfl
        have k4' : f'.a = some ([], 0) := by rcases k4 with k | k <;> exact k
        refine ⟨⟨f', k1, k2, k3, ⟨[], .inr ⟨0, k4', Nat.le_refl _, Nat.le_refl _⟩, .inl rfl⟩, fun _ => ⟨by rw [hL]; exact k4', by rw [hL]; exact hN, .inl hL⟩⟩, g2.p.trans g.p, by have := g.c; have := g2.c; show (syncD (createD d sLog).1 sLog).1.c ≤ _; omega, fun hq => ?_⟩
        have q := g2.next (g.next hq).2
        exact ⟨q.2, q.1⟩
      · rw [tryD_bad h0, tryD_bad h0]
        refine ⟨?_, g.p, by have := g.c; omega, fun hq => absurd (g.next hq).1 h0⟩
        rcases g.fs with k | k
        · exact ⟨f, k.trans hd, rfl, rfl, ⟨[], .inl ⟨h1, rfl, rfl⟩, .inl rfl⟩, fun h => absurd h h0⟩
        · exact ⟨_, k, rfl, rfl, ⟨[], .inr ⟨0, rfl, Nat.le_refl _, Nat.le_refl _⟩, .inl rfl⟩, fun h => absurd h h0⟩
    · rw [h1] at hrd
      simp only at hrd
      have hb : logB d = catO ls ++ rest := by unfold logB; rw [hrd]
      have e1 : open1D d = (d, 0) := by unfold open1D; rw [hrd, if_neg (by simp)]
      unfold openD
      rw [e1, tryD_ok (a := (d, 0)) rfl, hb]
      simp only
      rcases log_rest d ls rest more hb hls hr with ⟨hL, hN⟩ | ⟨l, hm, hl1, hl2, hrl, hL, hN⟩
      · rw [hN]
        by_cases hlt : (catO ls).length < (catO ls ++ rest).length
        · have e2 : open2D (catO ls).length (catO ls ++ rest) d = cutD d sLog ((catO ls).length : Nat) := by unfold open2D; rw [if_pos hlt]
          rw [e2]
          have g := r_cut hd h1 (catO ls).length (by omega)
          rw [List.take_left, Nat.min_eq_right h2] at g
          by_cases h0 : (cutD d sLog ((catO ls).length : Nat)).2 = 0
          · rw [tryD_ok h0]
            have hf := (g.ok h0).1
            obtain ⟨f', k1, k2, k3, k4, k5⟩ := opn_sync (f := ⟨some (catO ls, (catO ls).length), f.b, f.c⟩) hf rfl
            have g2 := r_sync (f := ⟨some (catO ls, (catO ls).length), f.b, f.c⟩) hf rfl
            have k4' : f'.a = some (catO ls, (catO ls).length) := by rcases k4 with k | k <;> exact k
            refine ⟨⟨f', k1, k2, k3, ⟨[], .inr ⟨_, by rw [List.append_nil]; exact k4', Nat.le_refl _, by simp⟩, .inr rfl⟩, fun _ => ⟨by rw [hL]; exact k4', by rw [hL]; exact hN, .inl hL⟩⟩, g2.p.trans g.p, by have := g.c; have := g2.c; omega, fun hq => ?_⟩
            have q := g2.next (g.next hq).2
            exact ⟨q.2, q.1⟩
          · rw [tryD_bad h0]
            refine ⟨?_, g.p, by have := g.c; omega, fun hq => absurd (g.next hq).1 h0⟩
            rcases g.fs with k | k
            · exact ⟨f, k.trans hd, rfl, rfl, ⟨rest, .inr ⟨s, h1, h2, h3⟩, .inl rfl⟩, fun h => absurd h h0⟩
            · exact ⟨_, k, rfl, rfl, ⟨[], .inr ⟨_, by rw [List.append_nil], Nat.le_refl _, by simp⟩, .inr rfl⟩, fun h => absurd h h0⟩
        · have e2 : open2D (catO ls).length (catO ls ++ rest) d = (d, 0) := by unfold open2D; rw [if_neg hlt]
          have hr0 : rest = [] := by
            rw [List.length_append] at hlt
            exact List.length_eq_zero_iff.1 (by omega)
          subst hr0
          rw [e2, tryD_ok (a := (d, 0)) rfl]
          rw [List.append_nil] at h1 h3
          obtain ⟨f', k1, k2, k3, k4, k5⟩ := opn_sync hd h1
          have g2 := r_sync hd h1
          have hs : s = (catO ls).length := by omega
          have k4' : f'.a = some (catO ls, (catO ls).length) := by rw [hs] at k4; rcases k4 with k | k <;> exact k
          refine ⟨⟨f', k1, k2, k3, ⟨[], .inr ⟨_, by rw [List.append_nil]; exact k4', Nat.le_refl _, by simp⟩, .inl rfl⟩, fun _ => ⟨by rw [hL]; exact k4', by rw [hL]; exact hN, .inl hL⟩⟩, g2.p, by have := g2.c; show (syncD d sLog).1.c ≤ _; omega, fun hq => ?_⟩
          have q := g2.next hq
          exact ⟨q.2, q.1⟩
      · rw [hN]
        have hcl : catO (ls ++ [l]) = catO ls ++ rest := by rw [catO_append, catO_one', hrl]
        have e2 : open2D (catO (ls ++ [l])).length (catO ls ++ rest) d = (d, 0) := by unfold open2D; rw [if_neg (by rw [hcl]; omega)]
        rw [e2, tryD_ok (a := (d, 0)) rfl]
        obtain ⟨f', k1, k2, k3, k4, k5⟩ := opn_sync hd h1
        have g2 := r_sync hd h1
        refine ⟨⟨f', k1, k2, k3, ⟨rest, .inr ?_, .inl rfl⟩, fun h0 => ⟨by rw [hL, hcl]; exact k5 h0, by rw [hL]; exact hN, .inr ⟨l, hm, hl1, hl2, hrl, hL⟩⟩⟩, g2.p, by have := g2.c; show (syncD d sLog).1.c ≤ _; omega, fun hq => ?_⟩
        · rcases k4 with k | k
          · exact ⟨s, k, h2, h3⟩
          · exact ⟨_, k, by simp, Nat.le_refl _⟩
        · have q := g2.next hq
          exact ⟨q.2, q.1⟩
end Go.Proofs.YtkklofnabmdmfaaGreatDoor

/- The store, plainly: its states, and what stays of them behind failures, crashes and openings. No program stands here. -/
namespace Go.Proofs.YtkklofnabmdmfaaGreatDoor
set_option linter.unusedVariables false

/-- A store that is open: its disk, its log's size and whether that is sick, its map. -/
structure St where
  d : Dk
  n : Nat
  sk : Bool
  r : List Pr
/-- What an opening tells, and what it makes of the disk; the store that it gives. -/
def openE (d : Dk) : Nat := if (loadR d).2 ≠ 0 then (loadR d).2 else (openD d).2
def openK (d : Dk) : Dk := if (loadR d).2 ≠ 0 then d else (openD d).1
def openS (d : Dk) : St := ⟨(openD d).1, logN d, false, (logL d).foldl applyT (loadR d).1⟩

theorem applyT_nil {m : List Pr} (h : Rises m) : applyT m [] = m := by rw [applyT_rises h]; rfl
theorem fold_applyT (ls : List (List Op3)) : ∀ {m : List Pr}, Rises m → ls.foldl applyT m = applyT m ls.flatten := by
  induction ls with
  | nil => intro m h; exact (applyT_nil h).symm
  | cons l ls ih =>
    intro m h
    rw [List.foldl_cons, ih (rises_applyT m l), List.flatten_cons, applyT_append]

/-- What a snapshot says. -/
def Snp : Option (List UInt8 × Nat) → List Pr → Prop
  | none, m => m = []
  | some x, m => x.2 = x.1.length ∧ x.1.length ≤ 1048584 ∧ fromT x.1 = some m ∧ Rises m ∧ SmallP m
theorem Snp.rises {b : Option (List UInt8 × Nat)} {m : List Pr} (h : Snp b m) : Rises m := by
  cases b with
  | none => rw [show m = [] from h]; exact rises_nil
  | some x => exact h.2.2.2.1
theorem Snp.small {b : Option (List UInt8 × Nat)} {m : List Pr} (h : Snp b m) : SmallP m := by
  cases b with
  | none => rw [show m = [] from h]; exact ⟨by simp, fun p h => by cases h⟩
  | some x => exact h.2.2.2.2
theorem Snp.load {d : Dk} {f : F3} {m : List Pr} (hd : d.fs = f.fs) (h : Snp f.b m) (hn : d.dn = false) : loadR d = (m, 0) := by
  have hr := read_snap hd hn
  unfold loadR
  cases hb : f.b with
  | none =>
    rw [hb] at hr h
    rw [hr, show m = [] from h]
    rfl
  | some x =>
    rw [hb] at hr h
    rw [hr]
    simp only
    rw [if_neg (by simp), h.2.2.1]
    rfl
theorem load_down {d : Dk} (hn : d.dn = true) : loadR d = ([], 7) := by
  have : readD d sSnap = ([], 7) := by unfold readD; rw [hn]; rfl
  unfold loadR
  rw [this]
  rfl
/-- What stands on the disk of a store whose map is r; at most the batch more besides, whole or in part. -/
structure On (d : Dk) (r : List Pr) (ls : List (List Op3)) (rest : List UInt8) (m : List Pr) (f : F3) (B T : Nat) : Prop where
  fs : d.fs = f.fs
  snp : Snp f.b m
  map : r = applyT m ls.flatten
  ok : RightL ls
  tmp : lenO f.c ≤ T
  snl : lenO f.b ≤ T
  len : (catO ls ++ rest).length ≤ B
def Shut (d : Dk) (r : List Pr) (more : Option (List Op3)) (B T : Nat) : Prop := ∃ ls rest m f, On d r ls rest m f B T ∧ LogIs f.a ls rest ∧ RestIs rest more
structure Inv (t : St) (more : Option (List Op3)) (B T : Nat) : Prop where
  ex : ∃ ls rest s m f, On t.d t.r ls rest m f B T ∧ f.a = some (catO ls ++ rest, s) ∧ (catO ls).length ≤ s ∧ s ≤ (catO ls ++ rest).length ∧ RestIs rest more ∧ (t.sk = false → rest = [] ∧ t.n = (catO ls).length)
  n : t.n ≤ B
theorem right0 : RightL [] := fun l h => by cases h
theorem Shut.new (p : Pl) (c : Nat) (dn : Bool) (B T : Nat) : Shut ⟨p, [], c, dn⟩ [] none B T :=
  ⟨[], [], [], ⟨none, none, none⟩, ⟨rfl, rfl, (applyT_nil rises_nil).symm, right0, Nat.zero_le _, Nat.zero_le _, Nat.zero_le _⟩, .inl ⟨rfl, rfl, rfl⟩, .inl rfl⟩
theorem On.used {d : Dk} {r : List Pr} {ls : List (List Op3)} {rest m : _} {f : F3} {B T : Nat} (h : On d r ls rest m f B T) (ha : LogIs f.a ls rest) : usedF d.fs ≤ B + 2 * T := by
  rw [h.fs, F3.used]
  have h1 := h.snl
  have h2 := h.tmp
  have h3 : lenO f.a ≤ B := by
    rcases ha with ⟨e, _, _⟩ | ⟨s, e, _⟩
    · rw [e]; exact Nat.zero_le _
    · rw [e]; exact h.len
  omega
theorem Shut.used {d : Dk} {r : List Pr} {more : Option (List Op3)} {B T : Nat} (h : Shut d r more B T) : usedF d.fs ≤ B + 2 * T ∧ d.fs.length ≤ 3 := by
  obtain ⟨ls, rest, m, f, h1, h2, _⟩ := h
  exact ⟨h1.used h2, by rw [h1.fs]; exact f.len⟩
/-- Nothing more stands in the log than what is whole. -/
theorem Shut.loads {d : Dk} {r : List Pr} {more : Option (List Op3)} {B T : Nat} (h : Shut d r more B T) : ((loadR d).2 = 0 ↔ d.dn = false) ∧ Rises (loadR d).1 := by
  obtain ⟨ls, rest, m, f, h1, _⟩ := h
  cases hdn : d.dn with
  | true => rw [load_down hdn]; exact ⟨by simp, rises_nil⟩
  | false => rw [h1.snp.load h1.fs hdn]; exact ⟨by simp, h1.snp.rises⟩
theorem flat_le (ls : List (List Op3)) : ls.flatten.length ≤ (catO ls).length := by
  induction ls with
  | nil => simp
  | cons l ls ih =>
    have h1 := goodOf_len (recsO l)
    have h2 := bytesO_good l
    have h3 : (recsO l).length = l.length + 1 := by simp [recsO]
    rw [List.flatten_cons, catO_cons, List.length_append, List.length_append]
    omega
/-- What an opening makes of it. -/
theorem Shut.opens {d : Dk} {r : List Pr} {more : Option (List Op3)} {B T : Nat} (h : Shut d r more B T) :
    Shut (openK d) r more B T ∧ (openK d).p = d.p ∧ (openK d).c ≤ d.c + 3 ∧ (Quiet d → openE d = 0 ∧ Quiet (openK d)) ∧
      (openE d = 0 → openK d = (openS d).d ∧ Inv (openS d) none B T ∧ (loadR d).1.length + (logL d).flatten.length ≤ 1000000 + B ∧ ((openS d).r = r ∨ ∃ l, more = some l ∧ rightO l ∧ SmallO l ∧ (openS d).r = applyT r l)) := by
  have hsh := h
  obtain ⟨ls, rest, m, f, h1, h2, h3⟩ := h
  cases hdn : d.dn with
  | true =>
    have hl := load_down hdn
    have he : openE d = 7 := by unfold openE; rw [hl]; rfl
    have hk : openK d = d := by unfold openK; rw [hl]; rfl
    rw [he, hk]
    exact ⟨hsh, rfl, by omega, fun hq => absurd hq.dn (by rw [hdn]; simp), fun h => by simp at h⟩
  | false =>
    have hl := h1.snp.load h1.fs hdn
    have he : openE d = (openD d).2 := by unfold openE; rw [hl]; rfl
    have hk : openK d = (openD d).1 := by unfold openK; rw [hl]; rfl
    have ho := opn_r h1.fs h2 h1.ok h3
    obtain ⟨f', k1, k2, k3, ⟨rest2, k4, k5⟩, k6⟩ := ho.out
    rw [he, hk]
    have hr2 : RestIs rest2 more := by
      rcases k5 with rfl | rfl
      · exact h3
      · exact .inl rfl
    have hlen2 : (catO ls ++ rest2).length ≤ B := by
      have := h1.len
      rcases k5 with rfl | rfl
      · exact this
      · rw [List.length_append] at this
        simp only [List.append_nil]
        omega
    refine ⟨⟨ls, rest2, m, f', ⟨k1, by rw [k2]; exact h1.snp, h1.map, h1.ok, by rw [k3]; exact h1.tmp, by rw [k2]; exact h1.snl, hlen2⟩, k4, hr2⟩, ho.p, ho.c, fun hq => ⟨(ho.quiet hq).2, (ho.quiet hq).1⟩, fun h0 => ?_⟩
    obtain ⟨g1, g2, g3⟩ := k6 h0
    have hmr := h1.snp.rises
    have hr : (openS d).r = applyT m (logL d).flatten := by
      show (logL d).foldl applyT (loadR d).1 = _
      rw [hl]
      exact fold_applyT _ hmr
    have hn : (openS d).n = (catO (logL d)).length := g2
    have hB : (catO (logL d)).length ≤ B := by
      rcases g3 with e | ⟨l, _, _, _, e1, e2⟩
      · rw [e]
        have := h1.len
        rw [List.length_append] at this
        omega
      · rw [e2, catO_append, catO_one', ← e1]
        exact h1.len
    have hfl := flat_le (logL d)
    have hms := h1.snp.small.1
    refine ⟨rfl, ⟨⟨logL d, [], _, m, f', ⟨k1, by rw [k2]; exact h1.snp, hr, ?_, by rw [k3]; exact h1.tmp, by rw [k2]; exact h1.snl, by rw [List.append_nil]; exact hB⟩, by rw [List.append_nil]; exact g1, Nat.le_refl _, by simp, .inl rfl, fun _ => ⟨rfl, hn⟩⟩, by rw [hn]; exact hB⟩, by rw [hl]; show m.length + _ ≤ _; omega, ?_⟩
    · rcases g3 with e | ⟨l, _, e1, e2, _, e3⟩
      · rw [e]; exact h1.ok
      · rw [e3]; exact h1.ok.snoc ⟨e1, e2⟩
    · rcases g3 with e | ⟨l, e0, e1, e2, _, e3⟩
      · exact .inl (by rw [hr, e, h1.map])
      · refine .inr ⟨l, e0, e1, e2, ?_⟩
        rw [hr, e3, h1.map, List.flatten_append, applyT_append]
        simp
end Go.Proofs.YtkklofnabmdmfaaGreatDoor
