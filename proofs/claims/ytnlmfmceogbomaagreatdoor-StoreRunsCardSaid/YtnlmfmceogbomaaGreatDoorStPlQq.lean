/- The store's three files, plainly: what each call of the disk makes of them, whatever fails and crashes. No program stands here. -/
import Derived.Test.YtnlmfmceogbomaaGreatDoorWlBQq
import Derived.Test.YtnlmfmceogbomaaGreatDoorSnapBQq
namespace Go.Proofs.YtnlmfmceogbomaaGreatDoor
set_option linter.unusedVariables false

theorem hit_mid {n : ByteArray} {x : List UInt8} {s : Nat} {post : List Fl} : ∀ {pre : List Fl}, (∀ f ∈ pre, cmpS f.n n < 0) → hitF (pre ++ ⟨n, x, s⟩ :: post) n = true ∧ lbF (pre ++ ⟨n, x, s⟩ :: post) n = pre.length
  | [], _ => ⟨hitF_one _ _ _ _, lbF_one _ _ _ _⟩
  | f :: pre, h => by
    obtain ⟨h1, h2⟩ := hit_mid (pre := pre) (fun g hg => h g (List.mem_cons_of_mem _ hg))
    have hf := h f (List.mem_cons_self ..)
    rw [List.cons_append, hitF_cons, lbF_cons, if_pos hf, if_pos hf, h1, h2]
    exact ⟨rfl, rfl⟩
theorem miss_mid {n : ByteArray} {post : List Fl} : ∀ {pre : List Fl}, (∀ f ∈ pre, cmpS f.n n < 0) → (∀ f ∈ post, cmpS n f.n < 0) → hitF (pre ++ post) n = false ∧ lbF (pre ++ post) n = pre.length
  | [], _, h2 => by
    cases post with
    | nil => exact ⟨rfl, rfl⟩
    | cons f post =>
      have hf := h2 f (List.mem_cons_self ..)
      have hn : f.n ≠ n := fun e => by rw [e] at hf; exact lt_irrefl _ hf
      rw [List.nil_append, hitF_cons, lbF_cons, if_neg (lt_asymm hf), if_neg (lt_asymm hf)]
      exact ⟨by simp [hn], rfl⟩
  | f :: pre, h, h2 => by
    obtain ⟨h3, h4⟩ := miss_mid (pre := pre) (fun g hg => h g (List.mem_cons_of_mem _ hg)) h2
    have hf := h f (List.mem_cons_self ..)
    rw [List.cons_append, hitF_cons, lbF_cons, if_pos hf, if_pos hf, h3, h4]
    exact ⟨rfl, rfl⟩
section
variable {d : Dk} {n : ByteArray} {x y : List UInt8} {s : Nat} {pre post : List Fl}
theorem hitAns_mid (F : Dk → Nat → Ans) (h : d.fs = pre ++ ⟨n, x, s⟩ :: post) (hp : ∀ f ∈ pre, cmpS f.n n < 0) : hitAns d n F = F d pre.length := by
  obtain ⟨h1, h2⟩ := hit_mid (x := x) (s := s) (post := post) hp
  rw [← h] at h1 h2
  rw [hitAns_true _ h1, h2]
theorem fileAt_mid (h : d.fs = pre ++ ⟨n, x, s⟩ :: post) : fileAt d pre.length = ⟨n, x, s⟩ := by unfold fileAt; rw [h]; simp
theorem appendF_mid (h : d.fs = pre ++ ⟨n, x, s⟩ :: post) : appendF y d pre.length = if d.p.cap < ((usedF d.fs + y.length : Nat) : Int) then (d, 5) else ({ d with fs := pre ++ ⟨n, x ++ y, s⟩ :: post }, 0) := by
  unfold appendF
  rw [fileAt_mid h]
  split
  · rfl
  · rw [h]; simp
theorem syncF_mid (h : d.fs = pre ++ ⟨n, x, s⟩ :: post) : syncF d pre.length = ({ d with fs := pre ++ ⟨n, x, x.length⟩ :: post }, 0) := by
  unfold syncF
  rw [fileAt_mid h, h]
  simp
theorem cutF_mid {k : Nat} (h : d.fs = pre ++ ⟨n, x, s⟩ :: post) (hk : k ≤ x.length) : cutF (k : Nat) d pre.length = ({ d with fs := pre ++ ⟨n, x.take k, min s k⟩ :: post }, 0) := by
  unfold cutF
  rw [fileAt_mid h, if_neg (by simp only; omega), h]
  simp
theorem removeF_mid (h : d.fs = pre ++ ⟨n, x, s⟩ :: post) : removeF d pre.length = ({ d with fs := pre ++ post }, 0) := by
  unfold removeF
  rw [h, List.eraseIdx_append_of_length_le (Nat.le_refl _)]
  simp
theorem createF_mid (h : d.fs = pre ++ post) (hn : n ≠ ⟨#[]⟩) (hp : ∀ f ∈ pre, cmpS f.n n < 0) (hq : ∀ f ∈ post, cmpS n f.n < 0) : createF n d = ({ d with fs := pre ++ ⟨n, [], 0⟩ :: post }, 0) := by
  obtain ⟨h1, h2⟩ := miss_mid hp hq
  rw [← h] at h1 h2
  unfold createF putF
  rw [if_neg hn, h1, if_neg (by simp)]
  simp only [h2]
  rw [h]
  simp
end

/-- The store's three files: each there, or not. -/
structure F3 where
  a : Option (List UInt8 × Nat)
  b : Option (List UInt8 × Nat)
  c : Option (List UInt8 × Nat)
def ofl (n : ByteArray) : Option (List UInt8 × Nat) → List Fl
  | none => []
  | some x => [⟨n, x.1, x.2⟩]
def F3.fs (f : F3) : List Fl := ofl sLog f.a ++ (ofl sSnap f.b ++ ofl sTmp f.c)
def lenO : Option (List UInt8 × Nat) → Nat
  | none => 0
  | some x => x.1.length
theorem usedF_ofl (n : ByteArray) (o : Option (List UInt8 × Nat)) : usedF (ofl n o) = lenO o := by cases o <;> simp [ofl, lenO, usedF]
theorem F3.used (f : F3) : usedF f.fs = lenO f.a + (lenO f.b + lenO f.c) := by unfold F3.fs; rw [usedF_append, usedF_append, usedF_ofl, usedF_ofl, usedF_ofl]
theorem ofl_len (n : ByteArray) (o : Option (List UInt8 × Nat)) : (ofl n o).length ≤ 1 := by cases o <;> simp [ofl]
theorem F3.len (f : F3) : f.fs.length ≤ 3 := by
  have h1 := ofl_len sLog f.a
  have h2 := ofl_len sSnap f.b
  have h3 := ofl_len sTmp f.c
  unfold F3.fs
  simp only [List.length_append]
  omega
theorem ltLS : cmpS sLog sSnap < 0 := by decide +kernel
theorem ltLT : cmpS sLog sTmp < 0 := by decide +kernel
theorem mem_ofl {n : ByteArray} {o : Option (List UInt8 × Nat)} {f : Fl} (h : f ∈ ofl n o) : f.n = n := by
  cases o with
  | none => cases h
  | some x => rw [List.mem_singleton.1 h]
theorem preA : ∀ f ∈ ([] : List Fl), cmpS f.n sLog < 0 := fun f h => by cases h
theorem preB (o : Option (List UInt8 × Nat)) : ∀ f ∈ ofl sLog o, cmpS f.n sSnap < 0 := fun f h => by rw [mem_ofl h]; exact ltLS
theorem preC (o u : Option (List UInt8 × Nat)) : ∀ f ∈ ofl sLog o ++ ofl sSnap u, cmpS f.n sTmp < 0 := fun f h => by
  rcases List.mem_append.1 h with h | h
  · rw [mem_ofl h]; exact ltLT
  · rw [mem_ofl h]; exact ltST
theorem postA (o u : Option (List UInt8 × Nat)) : ∀ f ∈ ofl sSnap o ++ ofl sTmp u, cmpS sLog f.n < 0 := fun f h => by
  rcases List.mem_append.1 h with h | h
  · rw [mem_ofl h]; exact ltLS
  · rw [mem_ofl h]; exact ltLT
theorem postB (u : Option (List UInt8 × Nat)) : ∀ f ∈ ofl sTmp u, cmpS sSnap f.n < 0 := fun f h => by rw [mem_ofl h]; exact ltST
theorem fs_a {f : F3} {x : List UInt8 × Nat} (h : f.a = some x) : f.fs = [] ++ ⟨sLog, x.1, x.2⟩ :: (ofl sSnap f.b ++ ofl sTmp f.c) := by unfold F3.fs; rw [h]; rfl
theorem fs_b {f : F3} {x : List UInt8 × Nat} (h : f.b = some x) : f.fs = ofl sLog f.a ++ ⟨sSnap, x.1, x.2⟩ :: ofl sTmp f.c := by unfold F3.fs; rw [h]; rfl
theorem fs_c {f : F3} {x : List UInt8 × Nat} (h : f.c = some x) : f.fs = (ofl sLog f.a ++ ofl sSnap f.b) ++ ⟨sTmp, x.1, x.2⟩ :: [] := by unfold F3.fs; rw [h]; simp [ofl]
theorem fs_c0 {f : F3} (h : f.c = none) : f.fs = (ofl sLog f.a ++ ofl sSnap f.b) ++ [] := by unfold F3.fs; rw [h]; simp [ofl]

/-- What a call through the gate makes of a disk, where by itself it would answer e5 (0: the files are g then). -/
structure GateR (d : Dk) (g : List Fl) (e5 : Nat) (a : Ans) : Prop where
  p : a.1.p = d.p
  c : a.1.c ≤ d.c + 1
  fs : a.1.fs = d.fs ∨ a.1.fs = g
  ok : a.2 = 0 → a.1.fs = g ∧ a.1.dn = false
  no : a.2 ≠ 0 → a.2 ≠ 7 → a.1.fs = d.fs ∧ a.1.dn = false
  crash : a.2 = 7 → a.1.dn = true
  err : a.2 = 0 ∨ a.2 = 5 ∨ a.2 = 6 ∨ a.2 = 7
  quiet : d.p.crash = 0 → d.p.fail = [] → d.dn = false → a.2 = e5 ∧ a.1.dn = false
theorem gate_r {d : Dk} {op : Dk → Ans} {g : List Fl} {e5 : Nat} (he : e5 = 0 ∨ e5 = 5) (h : ∀ c dn, op { d with c := c, dn := dn } = ({ d with c := c, dn := dn, fs := if e5 = 0 then g else d.fs }, e5)) : GateR d g e5 (gateD d op) := by
  have hfs : ∀ (P : List Fl → Prop), P g → P d.fs → P (if e5 = 0 then g else d.fs) := fun P h1 h2 => by split <;> assumption
  cases hdn : d.dn with
  | true =>
    have e : gateD d op = (d, 7) := by unfold gateD; rw [hdn]; rfl
    rw [e]
    exact ⟨rfl, by simp, .inl rfl, fun h => by simp at h, fun _ h => absurd rfl h, fun _ => hdn, .inr (.inr (.inr rfl)), fun _ _ h => by rw [hdn] at h; cases h⟩
  | false =>
    rcases gate_three d op hdn with e | e | e | e
    · rw [e]
      have e2 : ({ d with c := d.c + 1 } : Dk) = { d with c := d.c + 1, dn := d.dn } := rfl
      rw [e2, h, hdn]
      refine ⟨rfl, by simp, hfs (fun l => l = d.fs ∨ l = g) (.inr rfl) (.inl rfl), fun h0 => ?_, fun h0 _ => ?_, fun h7 => ?_, ?_, fun _ _ _ => ⟨rfl, rfl⟩⟩
      · simp only at h0; rw [if_pos h0]; exact ⟨rfl, rfl⟩
      · simp only at h0; rw [if_neg h0]; exact ⟨rfl, rfl⟩
      · simp only at h7; omega
      · simp only; omega
    · have hq : d.p.crash = 0 → d.p.fail = [] → False := fun h1 h2 => by
        have := gate_ok d op hdn (by rw [h1]; omega) (by rw [h2]; simp)
        rw [this] at e
        have e2 : ({ d with c := d.c + 1 } : Dk) = { d with c := d.c + 1, dn := d.dn } := rfl
        rw [e2, h] at e
        have := congrArg Prod.snd e
        simp only at this
        omega
      rw [e]
      exact ⟨rfl, by simp, .inl rfl, fun h => by simp at h, fun _ _ => ⟨rfl, hdn⟩, fun h => by simp at h, .inr (.inr (.inl rfl)), fun h1 h2 _ => (hq h1 h2).elim⟩
    · have hq : d.p.crash = 0 → d.p.fail = [] → False := fun h1 h2 => by
        have := gate_ok d op hdn (by rw [h1]; omega) (by rw [h2]; simp)
        rw [this] at e
        have e2 : ({ d with c := d.c + 1 } : Dk) = { d with c := d.c + 1, dn := d.dn } := rfl
        rw [e2, h] at e
        have := congrArg Prod.snd e
        simp only at this
        omega
      rw [e, h]
      exact ⟨rfl, by simp, hfs (fun l => l = d.fs ∨ l = g) (.inr rfl) (.inl rfl), fun h => by simp at h, fun _ h => absurd rfl h, fun _ => rfl, .inr (.inr (.inr rfl)), fun h1 h2 _ => (hq h1 h2).elim⟩
    · have hq : d.p.crash = 0 → d.p.fail = [] → False := fun h1 h2 => by
        have := gate_ok d op hdn (by rw [h1]; omega) (by rw [h2]; simp)
        rw [this] at e
        have e2 : ({ d with c := d.c + 1 } : Dk) = { d with c := d.c + 1, dn := d.dn } := rfl
        rw [e2, h] at e
        have := congrArg Prod.snd e
        simp only at this
        omega
      rw [e]
      exact ⟨rfl, by simp, .inl rfl, fun h => by simp at h, fun _ h => absurd rfl h, fun _ => rfl, .inr (.inr (.inr rfl)), fun h1 h2 _ => (hq h1 h2).elim⟩

theorem putF_mid {pre : List Fl} {n : ByteArray} {x : List UInt8} {s : Nat} (hp : ∀ f ∈ pre, cmpS f.n n < 0) (o : Option (List UInt8 × Nat)) : putF (pre ++ ofl n o) ⟨n, x, s⟩ = pre ++ [⟨n, x, s⟩] := by
  cases o with
  | none =>
    obtain ⟨h1, h2⟩ := miss_mid (post := []) hp (fun f h => by cases h)
    have e : pre ++ ofl n none = pre ++ [] := rfl
    rw [e]
    show (pre ++ []).take (lbF (pre ++ []) n) ++ (⟨n, x, s⟩ : Fl) :: (pre ++ []).drop (if hitF (pre ++ []) n then lbF (pre ++ []) n + 1 else lbF (pre ++ []) n) = _
    rw [h1, h2]
    simp
  | some z =>
    obtain ⟨h1, h2⟩ := hit_mid (x := z.1) (s := z.2) (post := []) hp
    have e : pre ++ ofl n (some z) = pre ++ [⟨n, z.1, z.2⟩] := rfl
    rw [e]
    obtain ⟨Z, hZ⟩ : ∃ Z : List Fl, Z = pre ++ [⟨n, z.1, z.2⟩] := ⟨_, rfl⟩
    rw [← hZ] at h1 h2 ⊢
    show Z.take (lbF Z n) ++ (⟨n, x, s⟩ : Fl) :: Z.drop (if hitF Z n then lbF Z n + 1 else lbF Z n) = _
    rw [h1, h2, hZ]
    simp
section
variable {d : Dk} {f : F3} {x y : List UInt8} {s : Nat}
theorem r_append (hd : d.fs = f.fs) (ha : f.a = some (x, s)) (y : List UInt8) : GateR d { f with a := some (x ++ y, s) : F3 }.fs (if d.p.cap < ((usedF d.fs + y.length : Nat) : Int) then 5 else 0) (appendD d sLog y) := by
  have hm := fs_a ha
  refine gate_r (op := fun d => hitAns d sLog (appendF y)) (by split <;> simp) fun c dn => ?_
  rw [hitAns_mid _ (show ({ d with c := c, dn := dn } : Dk).fs = _ from hd.trans hm) preA, appendF_mid (show ({ d with c := c, dn := dn } : Dk).fs = _ from hd.trans hm)]
  show (if d.p.cap < ((usedF d.fs + y.length : Nat) : Int) then _ else _) = _
  split
  · rfl
  · rfl
theorem r_sync (hd : d.fs = f.fs) (ha : f.a = some (x, s)) : GateR d { f with a := some (x, x.length) : F3 }.fs 0 (syncD d sLog) := by
  have hm := fs_a ha
  refine gate_r (op := fun d => hitAns d sLog syncF) (.inl rfl) fun c dn => ?_
  rw [hitAns_mid _ (show ({ d with c := c, dn := dn } : Dk).fs = _ from hd.trans hm) preA, syncF_mid (show ({ d with c := c, dn := dn } : Dk).fs = _ from hd.trans hm)]
  rfl
theorem r_cut (hd : d.fs = f.fs) (ha : f.a = some (x, s)) (k : Nat) (hk : k ≤ x.length) : GateR d { f with a := some (x.take k, min s k) : F3 }.fs 0 (cutD d sLog (k : Nat)) := by
  have hm := fs_a ha
  refine gate_r (op := fun d => hitAns d sLog (cutF (k : Nat))) (.inl rfl) fun c dn => ?_
  rw [hitAns_mid _ (show ({ d with c := c, dn := dn } : Dk).fs = _ from hd.trans hm) preA, cutF_mid (show ({ d with c := c, dn := dn } : Dk).fs = _ from hd.trans hm) hk]
  rfl
theorem r_create (hd : d.fs = f.fs) (ha : f.a = none) : GateR d { f with a := some ([], 0) : F3 }.fs 0 (createD d sLog) := by
  have hm : f.fs = [] ++ (ofl sSnap f.b ++ ofl sTmp f.c) := by unfold F3.fs; rw [ha]; rfl
  refine gate_r (op := createF sLog) (.inl rfl) fun c dn => ?_
  rw [createF_mid (show ({ d with c := c, dn := dn } : Dk).fs = _ from hd.trans hm) (by decide) preA (postA _ _)]
  rfl
theorem r_remove (hd : d.fs = f.fs) (hc : f.c = some (x, s)) : GateR d { f with c := none : F3 }.fs 0 (removeD d sTmp) := by
  have hm := fs_c hc
  refine gate_r (op := fun d => hitAns d sTmp removeF) (.inl rfl) fun c dn => ?_
  rw [hitAns_mid _ (show ({ d with c := c, dn := dn } : Dk).fs = _ from hd.trans hm) (preC _ _), removeF_mid (show ({ d with c := c, dn := dn } : Dk).fs = _ from hd.trans hm)]
  rw [← fs_c0 (f := { f with c := none }) rfl]
  rfl
theorem r_tcreate (hd : d.fs = f.fs) (hc : f.c = none) : GateR d { f with c := some ([], 0) : F3 }.fs 0 (createD d sTmp) := by
  have hm := fs_c0 hc
  refine gate_r (op := createF sTmp) (.inl rfl) fun c dn => ?_
  rw [createF_mid (show ({ d with c := c, dn := dn } : Dk).fs = _ from hd.trans hm) (by decide) (preC _ _) (fun f h => by cases h), ← fs_c (f := { f with c := some ([], 0) }) rfl]
  rfl
theorem r_tappend (hd : d.fs = f.fs) (hc : f.c = some (x, s)) (y : List UInt8) : GateR d { f with c := some (x ++ y, s) : F3 }.fs (if d.p.cap < ((usedF d.fs + y.length : Nat) : Int) then 5 else 0) (appendD d sTmp y) := by
  have hm := fs_c hc
  refine gate_r (op := fun d => hitAns d sTmp (appendF y)) (by split <;> simp) fun c dn => ?_
  rw [hitAns_mid _ (show ({ d with c := c, dn := dn } : Dk).fs = _ from hd.trans hm) (preC _ _), appendF_mid (show ({ d with c := c, dn := dn } : Dk).fs = _ from hd.trans hm), ← fs_c (f := { f with c := some (x ++ y, s) }) rfl]
  show (if d.p.cap < ((usedF d.fs + y.length : Nat) : Int) then _ else _) = _
  split
  · rfl
  · rfl
theorem r_tsync (hd : d.fs = f.fs) (hc : f.c = some (x, s)) : GateR d { f with c := some (x, x.length) : F3 }.fs 0 (syncD d sTmp) := by
  have hm := fs_c hc
  refine gate_r (op := fun d => hitAns d sTmp syncF) (.inl rfl) fun c dn => ?_
  rw [hitAns_mid _ (show ({ d with c := c, dn := dn } : Dk).fs = _ from hd.trans hm) (preC _ _), syncF_mid (show ({ d with c := c, dn := dn } : Dk).fs = _ from hd.trans hm), ← fs_c (f := { f with c := some (x, x.length) }) rfl]
  rfl
theorem r_rename (hd : d.fs = f.fs) (hc : f.c = some (x, s)) : GateR d { f with b := some (x, s), c := none : F3 }.fs 0 (renameD d sTmp sSnap) := by
  have hm := fs_c hc
  refine gate_r (op := fun d => hitAns d sTmp (renameF sTmp sSnap)) (.inl rfl) fun c dn => ?_
  rw [hitAns_mid _ (show ({ d with c := c, dn := dn } : Dk).fs = _ from hd.trans hm) (preC _ _)]
  unfold renameF
  rw [if_neg (by decide), if_neg (by decide), fileAt_mid (show ({ d with c := c, dn := dn } : Dk).fs = _ from hd.trans hm)]
  have he : ({ d with c := c, dn := dn } : Dk).fs.eraseIdx (ofl sLog f.a ++ ofl sSnap f.b).length = ofl sLog f.a ++ ofl sSnap f.b := by
    rw [show ({ d with c := c, dn := dn } : Dk).fs = _ from hd.trans hm, List.eraseIdx_append_of_length_le (Nat.le_refl _)]
    simp
  rw [he]
  have hp : putF (ofl sLog f.a ++ ofl sSnap f.b) ⟨sSnap, x, s⟩ = { f with b := some (x, s), c := none : F3 }.fs := by
    rw [fs_b (f := { f with b := some (x, s), c := none }) rfl]
    exact putF_mid (preB f.a) f.b
  simp only [hp]
  rfl
theorem read_log (hd : d.fs = f.fs) (hn : d.dn = false) : readD d sLog = match f.a with | none => ([], 3) | some x => (x.1, 0) := by
  unfold readD
  rw [hn, if_neg (by decide)]
  cases ha : f.a with
  | none =>
    have hm : d.fs = [] ++ (ofl sSnap f.b ++ ofl sTmp f.c) := by rw [hd]; unfold F3.fs; rw [ha]; rfl
    have h1 := (miss_mid (pre := []) preA (postA f.b f.c)).1
    rw [← hm] at h1
    rw [h1]
    rfl
  | some x =>
    have hm := hd.trans (fs_a ha)
    obtain ⟨h1, h2⟩ := hit_mid (x := x.1) (s := x.2) (post := ofl sSnap f.b ++ ofl sTmp f.c) preA
    rw [← hm] at h1 h2
    rw [h1, h2, if_pos rfl, fileAt_mid hm]
theorem read_snap (hd : d.fs = f.fs) (hn : d.dn = false) : readD d sSnap = match f.b with | none => ([], 3) | some x => (x.1, 0) := by
  unfold readD
  rw [hn, if_neg (by decide)]
  cases hb : f.b with
  | none =>
    have hm : d.fs = ofl sLog f.a ++ ofl sTmp f.c := by rw [hd]; unfold F3.fs; rw [hb]; rfl
    have h1 := (miss_mid (preB f.a) (postB f.c)).1
    rw [← hm] at h1
    rw [h1]
    rfl
  | some x =>
    have hm := hd.trans (fs_b hb)
    obtain ⟨h1, h2⟩ := hit_mid (x := x.1) (s := x.2) (post := ofl sTmp f.c) (preB f.a)
    rw [← hm] at h1 h2
    rw [h1, h2, if_pos rfl, fileAt_mid hm]
theorem has_tmp (hd : d.fs = f.fs) : hasF d.fs sTmp = f.c.isSome := by
  rw [hd]
  unfold hasF F3.fs
  rw [List.any_append, List.any_append]
  have e1 : ∀ o, (ofl sLog o).any (fun f => decide (f.n = sTmp)) = false := fun o => by cases o <;> simp [ofl, sLog, sTmp]
  have e2 : ∀ o, (ofl sSnap o).any (fun f => decide (f.n = sTmp)) = false := fun o => by cases o <;> simp [ofl, sSnap, sTmp]
  have e3 : ∀ o, (ofl sTmp o).any (fun f => decide (f.n = sTmp)) = o.isSome := fun o => by cases o <;> simp [ofl]
  rw [e1, e2, e3]
  simp
end
end Go.Proofs.YtnlmfmceogbomaaGreatDoor

/- A commit, a save, a reset, an opening on the store's three files, whatever fails and crashes: plain facts. No program stands here. -/
namespace Go.Proofs.YtnlmfmceogbomaaGreatDoor
set_option linter.unusedVariables false

/-- A disk whose plan names nothing, and that is up. -/
structure Quiet (d : Dk) : Prop where
  crash : d.p.crash = 0
  fail : d.p.fail = []
  dn : d.dn = false
theorem GateR.next {d : Dk} {g : List Fl} {e5 : Nat} {a : Ans} (h : GateR d g e5 a) (hq : Quiet d) : a.2 = e5 ∧ Quiet a.1 := by
  obtain ⟨h1, h2⟩ := h.quiet hq.crash hq.fail hq.dn
  exact ⟨h1, by rw [h.p]; exact hq.crash, by rw [h.p]; exact hq.fail, h2⟩
/-- What a write makes of a log that holds X, all of it synced. -/
structure WriR (d : Dk) (f : F3) (X y : List UInt8) (w : Ans) : Prop where
  out : ∃ rest s, w.1.fs = (⟨some (X ++ rest, s), f.b, f.c⟩ : F3).fs ∧ X.length ≤ s ∧ s ≤ (X ++ rest).length ∧ (rest = [] ∨ rest = y) ∧ (w.2 = 0 → rest = y ∧ s = (X ++ y).length) ∧ (w.2 ≠ 0 → w.2 ≠ 7 → s = X.length)
  p : w.1.p = d.p
  c : w.1.c ≤ d.c + 2
  err : w.2 = 0 ∨ w.2 = 5 ∨ w.2 = 6 ∨ w.2 = 7
  quiet : Quiet d → Quiet w.1 ∧ w.2 = if d.p.cap < ((usedF d.fs + y.length : Nat) : Int) then 5 else 0
theorem wri_r {d : Dk} {f : F3} {X : List UInt8} (hd : d.fs = f.fs) (ha : f.a = some (X, X.length)) (y : List UInt8) : WriR d f X y (writeD d y) := by
  have g1 := r_append hd ha y
  have hf : f.fs = (⟨some (X ++ [], X.length), f.b, f.c⟩ : F3).fs := by rw [List.append_nil, ← ha]
  unfold writeD
  by_cases h0 : (appendD d sLog y).2 = 0
  · rw [tryD_ok h0]
    obtain ⟨e1, e2⟩ := g1.ok h0
    have g2 := r_sync (f := ⟨some (X ++ y, X.length), f.b, f.c⟩) e1 rfl
    obtain ⟨w, hw⟩ : ∃ w, w = syncD (appendD d sLog y).1 sLog := ⟨_, rfl⟩
    rw [← hw] at g2 ⊢
    refine ⟨?_, g2.p.trans g1.p, by have := g1.c; have := g2.c; omega, g2.err, fun hq => ?_⟩
    · rcases g2.fs with k | k
      · exact ⟨y, X.length, by rw [k, e1], Nat.le_refl _, by simp, .inr rfl, fun h => by
          have := (g2.ok h).1
          rw [k, e1] at this
          unfold F3.fs at this
          simp only [ofl, List.cons_append, List.nil_append, List.cons.injEq, Fl.mk.injEq, true_and] at this
          exact ⟨rfl, this.1⟩, fun h1 h2 => rfl⟩
      · by_cases hz : w.2 = 0
        · exact ⟨y, (X ++ y).length, k, by simp, Nat.le_refl _, .inr rfl, fun _ => ⟨rfl, rfl⟩, fun h => absurd hz h⟩
        · by_cases h7 : w.2 = 7
          · exact ⟨y, (X ++ y).length, k, by simp, Nat.le_refl _, .inr rfl, fun h => absurd h hz, fun _ h => absurd h7 h⟩
          · have h3 := (g2.no hz h7).1
            exact ⟨y, X.length, by rw [h3, e1], Nat.le_refl _, by simp, .inr rfl, fun h => absurd h hz, fun _ _ => rfl⟩
    · obtain ⟨q1, q2⟩ := g1.next hq
      obtain ⟨q3, q4⟩ := g2.next q2
      refine ⟨q4, ?_⟩
      rw [h0] at q1
      rw [← q1]
      exact q3
  · rw [tryD_bad h0]
    refine ⟨?_, g1.p, by have := g1.c; omega, g1.err, fun hq => ?_⟩
    · rcases g1.fs with k | k
      · exact ⟨[], X.length, by rw [k, hd, hf], Nat.le_refl _, by simp, .inl rfl, fun h => absurd h h0, fun _ _ => rfl⟩
      · by_cases h7 : (appendD d sLog y).2 = 7
        · exact ⟨y, X.length, k, Nat.le_refl _, by simp, .inr rfl, fun h => absurd h h0, fun _ h => absurd h7 h⟩
        · exact ⟨[], X.length, by rw [(g1.no h0 h7).1, hd, hf], Nat.le_refl _, by simp, .inl rfl, fun h => absurd h h0, fun _ _ => rfl⟩
    · obtain ⟨q1, q2⟩ := g1.next hq
      exact ⟨q2, q1⟩
/-- A commit of right ops. -/
structure ComR (d : Dk) (f : F3) (X y : List UInt8) (r : Cm) : Prop where
  out : ∃ f' : F3, r.d.fs = f'.fs ∧ f'.b = f.b ∧ f'.c = f.c ∧
    ((r.e = 0 ∧ r.sk = false ∧ r.n = (X ++ y).length ∧ f'.a = some (X ++ y, (X ++ y).length)) ∨
     (r.e ≠ 0 ∧ r.e ≠ 8 ∧ r.n = X.length ∧ ∃ rest s, f'.a = some (X ++ rest, s) ∧ X.length ≤ s ∧ s ≤ (X ++ rest).length ∧ (rest = [] ∨ rest = y) ∧ (r.sk = false → rest = [] ∧ s = X.length)))
  p : r.d.p = d.p
  c : r.d.c ≤ d.c + 3
  quiet : Quiet d → Quiet r.d ∧ r.sk = false ∧ r.e = if d.p.cap < ((usedF d.fs + y.length : Nat) : Int) then 5 else 0
theorem com_r {d : Dk} {f : F3} {X : List UInt8} (hd : d.fs = f.fs) (ha : f.a = some (X, X.length)) (l : List Op3) (hr : rightO l) : ComR d f X (bytesO l) (commitD d X.length l) := by
  have ho : opsR l = (bytesO l, 0) := if_pos hr
  obtain ⟨y, hy⟩ : ∃ y, y = bytesO l := ⟨_, rfl⟩
  have hw := wri_r hd ha y
  obtain ⟨w, hww⟩ : ∃ w, w = writeD d y := ⟨_, rfl⟩
  rw [← hww] at hw
  have hcm : commitD d X.length l = if w.2 = 0 then ⟨w.1, X.length + y.length, false, 0⟩ else if w.2 = 7 then ⟨w.1, X.length, true, 7⟩ else ⟨(cutD w.1 sLog (X.length : Nat)).1, X.length, decide ((cutD w.1 sLog (X.length : Nat)).2 ≠ 0), w.2⟩ := by
    unfold commitD
    rw [ho, if_pos rfl, ← hy, ← hww]
  rw [← hy]
  obtain ⟨rest, s, h1, h2, h3, h4, h5, h6⟩ := hw.out
  have herr := hw.err
  by_cases h0 : w.2 = 0
  · rw [hcm, if_pos h0]
    obtain ⟨rfl, rfl⟩ := h5 h0
    refine ⟨⟨_, h1, rfl, rfl, .inl ⟨rfl, rfl, by simp, rfl⟩⟩, hw.p, by have := hw.c; show w.1.c ≤ _; omega, fun hq => ?_⟩
    obtain ⟨q1, q2⟩ := hw.quiet hq
    exact ⟨q1, rfl, h0.symm.trans q2⟩
  · rw [hcm, if_neg h0]
    by_cases h7 : w.2 = 7
    · rw [if_pos h7]
      refine ⟨⟨_, h1, rfl, rfl, .inr ⟨by show (7 : Nat) ≠ 0; decide, by show (7 : Nat) ≠ 8; decide, rfl, rest, s, rfl, h2, h3, h4, fun h => by cases h⟩⟩, hw.p, by have := hw.c; show w.1.c ≤ _; omega, fun hq => ?_⟩
      obtain ⟨q1, q2⟩ := hw.quiet hq
      rw [h7] at q2
      split at q2 <;> omega
    · rw [if_neg h7]
      have hs := h6 h0 h7
      have g := r_cut (f := ⟨some (X ++ rest, s), f.b, f.c⟩) h1 rfl X.length (by simp)
      rw [List.take_left, Nat.min_eq_right h2] at g
      obtain ⟨a, haa⟩ : ∃ a, a = cutD w.1 sLog (X.length : Nat) := ⟨_, rfl⟩
      rw [← haa] at g ⊢
      refine ⟨?_, g.p.trans hw.p, by have := hw.c; have := g.c; show a.1.c ≤ _; omega, fun hq => ?_⟩
      · by_cases hz : a.2 = 0
        · exact ⟨_, (g.ok hz).1, rfl, rfl, .inr ⟨h0, by show w.2 ≠ 8; omega, rfl, [], X.length, by rw [List.append_nil], Nat.le_refl _, by simp, .inl rfl, fun _ => ⟨rfl, rfl⟩⟩⟩
        · have hdz : (decide (a.2 ≠ 0)) = true := decide_eq_true hz
          rcases g.fs with k | k
          · exact ⟨_, k.trans h1, rfl, rfl, .inr ⟨h0, by show w.2 ≠ 8; omega, rfl, rest, s, rfl, h2, h3, h4, fun h => by rw [show (decide (a.2 ≠ 0)) = false from h] at hdz; cases hdz⟩⟩
          · exact ⟨_, k, rfl, rfl, .inr ⟨h0, by show w.2 ≠ 8; omega, rfl, [], X.length, by rw [List.append_nil], Nat.le_refl _, by simp, .inl rfl, fun _ => ⟨rfl, rfl⟩⟩⟩
      · obtain ⟨q1, q2⟩ := hw.quiet hq
        obtain ⟨q3, q4⟩ := g.next q1
        exact ⟨q4, by show decide (a.2 ≠ 0) = false; rw [q3]; rfl, q2⟩
/-- A step of a save. -/
structure StepR (d : Dk) (g : List Fl) (e5 : Nat) (a : Ans) : Prop where
  p : a.1.p = d.p
  c : a.1.c ≤ d.c + 1
  fs : a.1.fs = d.fs ∨ a.1.fs = g
  ok : a.2 = 0 → a.1.fs = g
  err : a.2 = 0 ∨ a.2 = 5 ∨ a.2 = 6 ∨ a.2 = 7
  quiet : Quiet d → a.2 = e5 ∧ Quiet a.1
theorem GateR.step {d : Dk} {g : List Fl} {e5 : Nat} {a : Ans} (h : GateR d g e5 a) : StepR d g e5 a := ⟨h.p, h.c, h.fs, fun h0 => (h.ok h0).1, h.err, h.next⟩
structure SavR (d : Dk) (f : F3) (y : List UInt8) (r : Ans) : Prop where
  out : ∃ f' : F3, r.1.fs = f'.fs ∧ f'.a = f.a ∧ (f'.b = f.b ∨ f'.b = some (y, y.length)) ∧ (lenO f'.c ≤ lenO f.c ∨ lenO f'.c ≤ y.length) ∧ (r.2 = 0 → f'.b = some (y, y.length) ∧ f'.c = none)
  p : r.1.p = d.p
  c : r.1.c ≤ d.c + 5
  err : r.2 = 0 ∨ r.2 = 5 ∨ r.2 = 6 ∨ r.2 = 7
  quiet : Quiet d → Quiet r.1 ∧ (((lenO f.a + lenO f.b + y.length : Nat) : Int) ≤ d.p.cap → r.2 = 0)
theorem sav_r {d : Dk} {f : F3} (hd : d.fs = f.fs) (y : List UInt8) : SavR d f y (saveD d y) := by
  have s0 : StepR d (⟨f.a, f.b, none⟩ : F3).fs 0 (stepS y 0 d) := by
    show StepR d _ 0 (clearD d)
    unfold clearD
    rw [has_tmp hd]
    cases hc : f.c with
    | none =>
      have he : d.fs = (⟨f.a, f.b, none⟩ : F3).fs := by rw [hd, ← hc]
      exact ⟨rfl, by simp, .inl rfl, fun _ => he, .inl rfl, fun hq => ⟨rfl, hq⟩⟩
    | some x =>
      have g := r_remove (x := x.1) (s := x.2) hd hc
      exact g.step
  unfold saveD
  obtain ⟨a0, h0⟩ : ∃ a, a = stepS y 0 d := ⟨_, rfl⟩
  rw [← h0] at s0
  by_cases z0 : a0.2 = 0
  case neg =>
    rw [restS_no (by rw [← h0]; exact z0), ← h0]
    refine ⟨?_, s0.p, by have := s0.c; omega, s0.err, fun hq => ⟨(s0.quiet hq).2, fun _ => (s0.quiet hq).1⟩⟩
    rcases s0.fs with k | k
    · exact ⟨f, k.trans hd, rfl, .inl rfl, .inl (Nat.le_refl _), fun h => absurd h z0⟩
    · exact ⟨_, k, rfl, .inl rfl, .inl (Nat.zero_le _), fun h => absurd h z0⟩
  rw [restS_ok (by rw [← h0]; exact z0), ← h0]
  have e0 := s0.ok z0
  have s1 := (r_tcreate (d := a0.1) (f := ⟨f.a, f.b, none⟩) e0 rfl).step
  obtain ⟨a1, h1⟩ : ∃ a, a = stepS y 1 a0.1 := ⟨_, rfl⟩
  rw [show createD a0.1 sTmp = a1 from h1.symm] at s1
  by_cases z1 : a1.2 = 0
  case neg =>
    rw [restS_no (by rw [← h1]; exact z1), ← h1]
    refine ⟨?_, s1.p.trans s0.p, by have := s0.c; have := s1.c; omega, s1.err, fun hq => ⟨(s1.quiet (s0.quiet hq).2).2, fun _ => (s1.quiet (s0.quiet hq).2).1⟩⟩
    rcases s1.fs with k | k
    · exact ⟨_, k.trans e0, rfl, .inl rfl, .inl (Nat.zero_le _), fun h => absurd h z1⟩
    · exact ⟨_, k, rfl, .inl rfl, .inl (Nat.zero_le _), fun h => absurd h z1⟩
  rw [restS_ok (by rw [← h1]; exact z1), ← h1]
  have e1 := s1.ok z1
  have s2 := (r_tappend (d := a1.1) (f := ⟨f.a, f.b, some ([], 0)⟩) e1 rfl y).step
  rw [List.nil_append] at s2
  obtain ⟨a2, h2⟩ : ∃ a, a = stepS y 2 a1.1 := ⟨_, rfl⟩
  rw [show appendD a1.1 sTmp y = a2 from h2.symm] at s2
  by_cases z2 : a2.2 = 0
  case neg =>
    rw [restS_no (by rw [← h2]; exact z2), ← h2]
    refine ⟨?_, s2.p.trans (s1.p.trans s0.p), by have := s0.c; have := s1.c; have := s2.c; omega, s2.err, fun hq => ?_⟩
    · rcases s2.fs with k | k
      · exact ⟨_, k.trans e1, rfl, .inl rfl, .inl (Nat.zero_le _), fun h => absurd h z2⟩
      · exact ⟨_, k, rfl, .inl rfl, .inr (Nat.le_refl _), fun h => absurd h z2⟩
    · have q := s2.quiet (s1.quiet (s0.quiet hq).2).2
      refine ⟨q.2, fun hcap => ?_⟩
      rw [q.1, e1, F3.used, if_neg]
      rw [s1.p, s0.p]
      show ¬ (d.p.cap < ((lenO f.a + (lenO f.b + 0) + y.length : Nat) : Int))
      omega
  rw [restS_ok (by rw [← h2]; exact z2), ← h2]
  have e2 := s2.ok z2
  have s3 := (r_tsync (d := a2.1) (f := ⟨f.a, f.b, some (y, 0)⟩) e2 rfl).step
  obtain ⟨a3, h3⟩ : ∃ a, a = stepS y 3 a2.1 := ⟨_, rfl⟩
  rw [show syncD a2.1 sTmp = a3 from h3.symm] at s3
  by_cases z3 : a3.2 = 0
  case neg =>
    rw [restS_no (by rw [← h3]; exact z3), ← h3]
    refine ⟨?_, s3.p.trans (s2.p.trans (s1.p.trans s0.p)), by have := s0.c; have := s1.c; have := s2.c; have := s3.c; omega, s3.err, fun hq => ⟨(s3.quiet (s2.quiet (s1.quiet (s0.quiet hq).2).2).2).2, fun _ => (s3.quiet (s2.quiet (s1.quiet (s0.quiet hq).2).2).2).1⟩⟩
    rcases s3.fs with k | k
    · exact ⟨_, k.trans e2, rfl, .inl rfl, .inr (Nat.le_refl _), fun h => absurd h z3⟩
    · exact ⟨_, k, rfl, .inl rfl, .inr (Nat.le_refl _), fun h => absurd h z3⟩
  rw [restS_ok (by rw [← h3]; exact z3), ← h3]
  have e3 := s3.ok z3
  have s4 := (r_rename (d := a3.1) (f := ⟨f.a, f.b, some (y, y.length)⟩) e3 rfl).step
  obtain ⟨a4, h4⟩ : ∃ a, a = stepS y 4 a3.1 := ⟨_, rfl⟩
  rw [show renameD a3.1 sTmp sSnap = a4 from h4.symm] at s4
  have hl : restS y 1 (3 + 1) a3.1 = a4 := by
    by_cases z4 : a4.2 = 0
    · rw [restS_ok (show (stepS y (3 + 1) a3.1).2 = 0 by rw [← show a4 = stepS y (3 + 1) a3.1 from h4]; exact z4), rest_last, ← show a4 = stepS y (3 + 1) a3.1 from h4, ← z4]
    · rw [restS_no (show (stepS y (3 + 1) a3.1).2 ≠ 0 by rw [← show a4 = stepS y (3 + 1) a3.1 from h4]; exact z4), ← show a4 = stepS y (3 + 1) a3.1 from h4]
  rw [hl]
  refine ⟨?_, s4.p.trans (s3.p.trans (s2.p.trans (s1.p.trans s0.p))), by have := s0.c; have := s1.c; have := s2.c; have := s3.c; have := s4.c; omega, s4.err, fun hq => ⟨(s4.quiet (s3.quiet (s2.quiet (s1.quiet (s0.quiet hq).2).2).2).2).2, fun _ => (s4.quiet (s3.quiet (s2.quiet (s1.quiet (s0.quiet hq).2).2).2).2).1⟩⟩
  by_cases z4 : a4.2 = 0
  · exact ⟨_, s4.ok z4, rfl, .inr rfl, .inl (Nat.zero_le _), fun _ => ⟨rfl, rfl⟩⟩
  · rcases s4.fs with k | k
    · exact ⟨_, k.trans e3, rfl, .inl rfl, .inr (Nat.le_refl _), fun h => absurd h z4⟩
    · exact ⟨_, k, rfl, .inr rfl, .inl (Nat.zero_le _), fun h => absurd h z4⟩
structure ResR (d : Dk) (f : F3) (n : Nat) (r : Cm) : Prop where
  out : ∃ f' : F3, r.d.fs = f'.fs ∧ f'.b = f.b ∧ f'.c = f.c ∧ ((r.e = 0 ∧ r.n = 0 ∧ r.sk = false ∧ f'.a = some ([], 0)) ∨ (r.e ≠ 0 ∧ r.n = n ∧ (f'.a = f.a ∨ f'.a = some ([], 0)) ∧ (r.sk = false → f'.a = f.a)))
  p : r.d.p = d.p
  c : r.d.c ≤ d.c + 1
  quiet : Quiet d → Quiet r.d ∧ r.e = 0
theorem res_r {d : Dk} {f : F3} {X : List UInt8} {s n : Nat} (hd : d.fs = f.fs) (ha : f.a = some (X, s)) : ResR d f n (resetD d n) := by
  have g := r_cut hd ha 0 (Nat.zero_le _)
  rw [List.take_zero, Nat.min_eq_right (Nat.zero_le _)] at g
  unfold resetD
  obtain ⟨a, haa⟩ : ∃ a, a = cutD d sLog 0 := ⟨_, rfl⟩
  rw [show cutD d sLog ((0 : Nat) : Int) = a from haa.symm] at g
  rw [← haa]
  by_cases h0 : a.2 = 0
  · rw [if_pos h0]
    exact ⟨⟨_, (g.ok h0).1, rfl, rfl, .inl ⟨rfl, rfl, rfl, rfl⟩⟩, g.p, g.c, fun hq => ⟨(g.next hq).2, rfl⟩⟩
  · rw [if_neg h0]
    refine ⟨?_, g.p, g.c, fun hq => absurd (g.next hq).1 h0⟩
    rcases g.fs with k | k
    · exact ⟨f, k.trans hd, rfl, rfl, .inr ⟨h0, rfl, .inl rfl, fun _ => rfl⟩⟩
    · by_cases h7 : a.2 = 7
      · refine ⟨_, k, rfl, rfl, .inr ⟨h0, rfl, .inr rfl, fun h => ?_⟩⟩
        have h' : decide (a.2 = 7) = false := h
        exact absurd h7 (of_decide_eq_false h')
      · exact ⟨f, (g.no h0 h7).1.trans hd, rfl, rfl, .inr ⟨h0, rfl, .inl rfl, fun _ => rfl⟩⟩

/-- What stands in the log behind the batches that were told: nothing, or the beginning of one more. -/
def RestIs (rest : List UInt8) (more : Option (List Op3)) : Prop := rest = [] ∨ ∃ l j, more = some l ∧ rightO l ∧ SmallO l ∧ rest = (bytesO l).take j
def LogIs (a : Option (List UInt8 × Nat)) (ls : List (List Op3)) (rest : List UInt8) : Prop := (a = none ∧ ls = [] ∧ rest = []) ∨ ∃ s, a = some (catO ls ++ rest, s) ∧ (catO ls).length ≤ s ∧ s ≤ (catO ls ++ rest).length
def RightL (ls : List (List Op3)) : Prop := ∀ l ∈ ls, rightO l ∧ SmallO l
theorem log_cutB (d : Dk) (ls : List (List Op3)) (k : Nat) (hb : logB d = (catO ls).take k) (hl : RightL ls) (hk : k ≤ (catO ls).length) :
    logL d = ls.take (endsO ls k) ∧ logN d = (catO (ls.take (endsO ls k))).length := by
  have hp : ∀ p ∈ ls.flatMap recsO, p.length ≤ 1048576 := fun p hp => by
    obtain ⟨l, hl', hp⟩ := List.mem_flatMap.1 hp
    exact recsO_small (hl l hl').2 (hl l hl').1.1 p hp
  refine ⟨?_, ?_⟩
  · unfold logL; rw [hb]; exact cut_told ls hl k hk
  · unfold logN
    rw [hb]
    have hsc : scanB ((catO ls).take k) = (ls.flatMap recsO).take (endsIn (ls.flatMap recsO) k) := by
      rw [catO_frames] at hk ⊢
      exact scanB_cut _ hp k hk
    rw [hsc]
    obtain ⟨u, h1, h2⟩ := replay_cut_used ls hl k 0
    unfold replayB
    rw [h1, Nat.zero_add]
    exact h2
theorem right_nil : rightO [] ∧ SmallO [] := ⟨⟨by simp, fun o h => by cases h⟩, fun o h => by cases h⟩
theorem RightL.snoc {ls : List (List Op3)} (h : RightL ls) {l : List Op3} (hl : rightO l ∧ SmallO l) : RightL (ls ++ [l]) := fun x hx => by
  rcases List.mem_append.1 hx with hx | hx
  · exact h x hx
  · rw [List.mem_singleton.1 hx]; exact hl
theorem log_rest (d : Dk) (ls : List (List Op3)) (rest : List UInt8) (more : Option (List Op3)) (hb : logB d = catO ls ++ rest) (hl : RightL ls) (hr : RestIs rest more) :
    (logL d = ls ∧ logN d = (catO ls).length) ∨ ∃ l, more = some l ∧ rightO l ∧ SmallO l ∧ rest = bytesO l ∧ logL d = ls ++ [l] ∧ logN d = (catO (ls ++ [l])).length := by
  have key : ∀ (l : List Op3) (j : Nat), rightO l ∧ SmallO l → rest = (bytesO l).take j → (logL d = ls ∧ logN d = (catO ls).length) ∨ (rest = bytesO l ∧ logL d = ls ++ [l] ∧ logN d = (catO (ls ++ [l])).length) := by
    intro l j hrl hj
    have hcl : catO (ls ++ [l]) = catO ls ++ bytesO l := by rw [catO_append, catO_one']
    obtain ⟨m, hm⟩ : ∃ m, m = min j (bytesO l).length := ⟨_, rfl⟩
    have hjm : rest = (bytesO l).take m := by
      rw [hj, hm]
      by_cases h : j ≤ (bytesO l).length
      · rw [Nat.min_eq_left h]
      · rw [Nat.min_eq_right (by omega), List.take_of_length_le (by omega), List.take_of_length_le (Nat.le_refl _)]
    have hbk : logB d = (catO (ls ++ [l])).take ((catO ls).length + m) := by rw [hb, hcl, hjm, List.take_length_add_append]
    obtain ⟨h1, h2⟩ := log_cutB d (ls ++ [l]) _ hbk (hl.snoc hrl) (by rw [hcl, List.length_append]; omega)
    rw [endsO_snoc ls l _ (by omega)] at h1 h2
    by_cases hw : (bytesO l).length ≤ m
    · rw [if_pos (by omega)] at h1 h2
      have e : (ls ++ [l]).take (ls.length + 1) = ls ++ [l] := List.take_of_length_le (by simp)
      rw [e] at h1 h2
      exact .inr ⟨by rw [hjm, List.take_of_length_le hw], h1, h2⟩
    · rw [if_neg (by omega)] at h1 h2
      rw [List.take_left] at h1 h2
      exact .inl ⟨h1, h2⟩
  rcases hr with rfl | ⟨l, j, hm, h1, h2, h3⟩
  · rcases key [] 0 right_nil (by simp) with h | ⟨h, _⟩
    · exact .inl h
    · have := bytesO_pos []
      rw [← h] at this
      simp at this
  · rcases key l j ⟨h1, h2⟩ h3 with h | ⟨h4, h5, h6⟩
    · exact .inl h
    · exact .inr ⟨l, hm, h1, h2, h4, h5, h6⟩
/-- What opening the log makes of the disk. -/
structure OpnR (d : Dk) (f : F3) (ls : List (List Op3)) (rest : List UInt8) (more : Option (List Op3)) (o : Ans) : Prop where
  out : ∃ f' : F3, o.1.fs = f'.fs ∧ f'.b = f.b ∧ f'.c = f.c ∧ (∃ rest2, LogIs f'.a ls rest2 ∧ (rest2 = rest ∨ rest2 = [])) ∧
    (o.2 = 0 → f'.a = some (catO (logL d), (catO (logL d)).length) ∧ logN d = (catO (logL d)).length ∧ (logL d = ls ∨ ∃ l, more = some l ∧ rightO l ∧ SmallO l ∧ rest = bytesO l ∧ logL d = ls ++ [l]))
  p : o.1.p = d.p
  c : o.1.c ≤ d.c + 3
  quiet : Quiet d → Quiet o.1 ∧ o.2 = 0
theorem opn_sync {d : Dk} {f : F3} {X : List UInt8} {s : Nat} (hd : d.fs = f.fs) (ha : f.a = some (X, s)) :
    ∃ f' : F3, (syncD d sLog).1.fs = f'.fs ∧ f'.b = f.b ∧ f'.c = f.c ∧ (f'.a = some (X, s) ∨ f'.a = some (X, X.length)) ∧ ((syncD d sLog).2 = 0 → f'.a = some (X, X.length)) := by
  have g := r_sync hd ha
  by_cases h0 : (syncD d sLog).2 = 0
  · exact ⟨_, (g.ok h0).1, rfl, rfl, .inr rfl, fun _ => rfl⟩
  · rcases g.fs with k | k
    · exact ⟨f, k.trans hd, rfl, rfl, .inl ha, fun h => absurd h h0⟩
    · exact ⟨_, k, rfl, rfl, .inr rfl, fun _ => rfl⟩
theorem opn_r {d : Dk} {f : F3} {ls : List (List Op3)} {rest : List UInt8} {more : Option (List Op3)} (hd : d.fs = f.fs) (hl : LogIs f.a ls rest) (hls : RightL ls) (hr : RestIs rest more) : OpnR d f ls rest more (openD d) := by
  cases hdn : d.dn with
  | true =>
    have h1 : open1D d = (d, 7) := by unfold open1D readD; rw [hdn]; rfl
    have h2 : openD d = (d, 7) := by unfold openD; rw [h1, tryD_bad (a := (d, 7)) (by simp), tryD_bad (a := (d, 7)) (by simp)]
    rw [h2]
    exact ⟨⟨f, hd, rfl, rfl, ⟨rest, hl, .inl rfl⟩, fun h => by simp at h⟩, rfl, by simp, fun hq => by have := hq.dn; rw [hdn] at this; cases this⟩
  | false =>
    have hrd := read_log hd hdn
    rcases hl with ⟨h1, rfl, rfl⟩ | ⟨s, h1, h2, h3⟩
    · rw [h1] at hrd
      simp only at hrd
      have hb : logB d = [] := by unfold logB; rw [hrd]
      obtain ⟨hL, hN⟩ : logL d = [] ∧ logN d = (catO []).length := by
        rcases log_rest d [] [] none hb hls (.inl rfl) with h | ⟨l, h, _⟩
        · exact h
        · cases h
      have hN0 : logN d = 0 := hN
      have g := r_create hd h1
      have e1 : open1D d = createD d sLog := by unfold open1D; rw [hrd]; rfl
      unfold openD
      rw [e1, hN0, hb]
      by_cases h0 : (createD d sLog).2 = 0
      · have e2 : open2D 0 [] (createD d sLog).1 = ((createD d sLog).1, 0) := by unfold open2D; rw [if_neg (by simp)]
        rw [tryD_ok h0, e2, tryD_ok rfl]
        have hf := (g.ok h0).1
        obtain ⟨f', k1, k2, k3, k4, k5⟩ := opn_sync (f := ⟨some ([], 0), f.b, f.c⟩) hf rfl
        have g2 := r_sync (f := ⟨some ([], 0), f.b, f.c⟩) hf rfl
        have k4' : f'.a = some ([], 0) := by rcases k4 with k | k <;> exact k
        refine ⟨⟨f', k1, k2, k3, ⟨[], .inr ⟨0, k4', Nat.le_refl _, Nat.le_refl _⟩, .inl rfl⟩, fun _ => ⟨by rw [hL]; exact k4', by rw [hL]; exact hN, .inl hL⟩⟩, g2.p.trans g.p, by have := g.c; have := g2.c; show (syncD (createD d sLog).1 sLog).1.c ≤ _; omega, fun hq => ?_⟩
        have q := g2.next (g.next hq).2
        exact ⟨q.2, q.1⟩
      · rw [tryD_bad h0, tryD_bad h0]
        refine ⟨?_, g.p, by have := g.c; omega, fun hq => absurd (g.next hq).1 h0⟩
        rcases g.fs with k | k
        · exact ⟨f, k.trans hd, rfl, rfl, ⟨[], .inl ⟨h1, rfl, rfl⟩, .inl rfl⟩, fun h => absurd h h0⟩
        · exact ⟨_, k, rfl, rfl, ⟨[], .inr ⟨0, rfl, Nat.le_refl _, Nat.le_refl _⟩, .inl rfl⟩, fun h => absurd h h0⟩
    · rw [h1] at hrd
      simp only at hrd
      have hb : logB d = catO ls ++ rest := by unfold logB; rw [hrd]
      have e1 : open1D d = (d, 0) := by unfold open1D; rw [hrd, if_neg (by simp)]
      unfold openD
      rw [e1, tryD_ok (a := (d, 0)) rfl, hb]
      simp only
      rcases log_rest d ls rest more hb hls hr with ⟨hL, hN⟩ | ⟨l, hm, hl1, hl2, hrl, hL, hN⟩
      · rw [hN]
        by_cases hlt : (catO ls).length < (catO ls ++ rest).length
        · have e2 : open2D (catO ls).length (catO ls ++ rest) d = cutD d sLog ((catO ls).length : Nat) := by unfold open2D; rw [if_pos hlt]
          rw [e2]
          have g := r_cut hd h1 (catO ls).length (by omega)
          rw [List.take_left, Nat.min_eq_right h2] at g
          by_cases h0 : (cutD d sLog ((catO ls).length : Nat)).2 = 0
          · rw [tryD_ok h0]
            have hf := (g.ok h0).1
            obtain ⟨f', k1, k2, k3, k4, k5⟩ := opn_sync (f := ⟨some (catO ls, (catO ls).length), f.b, f.c⟩) hf rfl
            have g2 := r_sync (f := ⟨some (catO ls, (catO ls).length), f.b, f.c⟩) hf rfl
            have k4' : f'.a = some (catO ls, (catO ls).length) := by rcases k4 with k | k <;> exact k
            refine ⟨⟨f', k1, k2, k3, ⟨[], .inr ⟨_, by rw [List.append_nil]; exact k4', Nat.le_refl _, by simp⟩, .inr rfl⟩, fun _ => ⟨by rw [hL]; exact k4', by rw [hL]; exact hN, .inl hL⟩⟩, g2.p.trans g.p, by have := g.c; have := g2.c; omega, fun hq => ?_⟩
            have q := g2.next (g.next hq).2
            exact ⟨q.2, q.1⟩
          · rw [tryD_bad h0]
            refine ⟨?_, g.p, by have := g.c; omega, fun hq => absurd (g.next hq).1 h0⟩
            rcases g.fs with k | k
            · exact ⟨f, k.trans hd, rfl, rfl, ⟨rest, .inr ⟨s, h1, h2, h3⟩, .inl rfl⟩, fun h => absurd h h0⟩
            · exact ⟨_, k, rfl, rfl, ⟨[], .inr ⟨_, by rw [List.append_nil], Nat.le_refl _, by simp⟩, .inr rfl⟩, fun h => absurd h h0⟩
        · have e2 : open2D (catO ls).length (catO ls ++ rest) d = (d, 0) := by unfold open2D; rw [if_neg hlt]
          have hr0 : rest = [] := by
            rw [List.length_append] at hlt
            exact List.length_eq_zero_iff.1 (by omega)
          subst hr0
          rw [e2, tryD_ok (a := (d, 0)) rfl]
          rw [List.append_nil] at h1 h3
          obtain ⟨f', k1, k2, k3, k4, k5⟩ := opn_sync hd h1
          have g2 := r_sync hd h1
          have hs : s = (catO ls).length := by omega
          have k4' : f'.a = some (catO ls, (catO ls).length) := by rw [hs] at k4; rcases k4 with k | k <;> exact k
          refine ⟨⟨f', k1, k2, k3, ⟨[], .inr ⟨_, by rw [List.append_nil]; exact k4', Nat.le_refl _, by simp⟩, .inl rfl⟩, fun _ => ⟨by rw [hL]; exact k4', by rw [hL]; exact hN, .inl hL⟩⟩, g2.p, by have := g2.c; show (syncD d sLog).1.c ≤ _; omega, fun hq => ?_⟩
          have q := g2.next hq
          exact ⟨q.2, q.1⟩
      · rw [hN]
        have hcl : catO (ls ++ [l]) = catO ls ++ rest := by rw [catO_append, catO_one', hrl]
        have e2 : open2D (catO (ls ++ [l])).length (catO ls ++ rest) d = (d, 0) := by unfold open2D; rw [if_neg (by rw [hcl]; omega)]
        rw [e2, tryD_ok (a := (d, 0)) rfl]
        obtain ⟨f', k1, k2, k3, k4, k5⟩ := opn_sync hd h1
        have g2 := r_sync hd h1
        refine ⟨⟨f', k1, k2, k3, ⟨rest, .inr ?_, .inl rfl⟩, fun h0 => ⟨by rw [hL, hcl]; exact k5 h0, by rw [hL]; exact hN, .inr ⟨l, hm, hl1, hl2, hrl, hL⟩⟩⟩, g2.p, by have := g2.c; show (syncD d sLog).1.c ≤ _; omega, fun hq => ?_⟩
        · rcases k4 with k | k
          · exact ⟨s, k, h2, h3⟩
          · exact ⟨_, k, by simp, Nat.le_refl _⟩
        · have q := g2.next hq
          exact ⟨q.2, q.1⟩
end Go.Proofs.YtnlmfmceogbomaaGreatDoor

/- The store, plainly: its states, and what stays of them behind failures, crashes and openings. No program stands here. -/
namespace Go.Proofs.YtnlmfmceogbomaaGreatDoor
set_option linter.unusedVariables false

/-- A store that is open: its disk, its log's size and whether that is sick, its map. -/
structure St where
  d : Dk
  n : Nat
  sk : Bool
  r : List Pr
def checkS (t : St) : St × Nat :=
  if t.sk then (t, 8)
  else if (saveR t.d t.r).2 = 0 then (⟨(resetD (saveR t.d t.r).1 t.n).d, (resetD (saveR t.d t.r).1 t.n).n, (resetD (saveR t.d t.r).1 t.n).sk, t.r⟩, (resetD (saveR t.d t.r).1 t.n).e)
  else (⟨(saveR t.d t.r).1, t.n, false, t.r⟩, (saveR t.d t.r).2)
/-- Behind the log's commit that told OK: the map, and a check of it where the log is more than most. -/
def afterS (most : Int) (t : St) : St := if most < (t.n : Int) then (checkS t).1 else t
def commitS (most : Int) (t : St) (l : List Op3) : St × Nat :=
  if (commitW t.d t.n t.sk l).e = 0 then (afterS most ⟨(commitW t.d t.n t.sk l).d, (commitW t.d t.n t.sk l).n, (commitW t.d t.n t.sk l).sk, applyT t.r l⟩, 0)
  else (⟨(commitW t.d t.n t.sk l).d, (commitW t.d t.n t.sk l).n, (commitW t.d t.n t.sk l).sk, t.r⟩, (commitW t.d t.n t.sk l).e)
/-- What an opening tells, and what it makes of the disk; the store that it gives. -/
def openE (d : Dk) : Nat := if (loadR d).2 ≠ 0 then (loadR d).2 else (openD d).2
def openK (d : Dk) : Dk := if (loadR d).2 ≠ 0 then d else (openD d).1
def openS (d : Dk) : St := ⟨(openD d).1, logN d, false, (logL d).foldl applyT (loadR d).1⟩

theorem applyT_nil {m : List Pr} (h : Rises m) : applyT m [] = m := by rw [applyT_rises h]; rfl
theorem fold_applyT (ls : List (List Op3)) : ∀ {m : List Pr}, Rises m → ls.foldl applyT m = applyT m ls.flatten := by
  induction ls with
  | nil => intro m h; exact (applyT_nil h).symm
  | cons l ls ih =>
    intro m h
    rw [List.foldl_cons, ih (rises_applyT m l), List.flatten_cons, applyT_append]
theorem applyT_back (m : List Pr) (a : List Op3) : applyT (applyT m a) a = applyT m a := applyT_again m a

/-- What a snapshot says. -/
def Snp : Option (List UInt8 × Nat) → List Pr → Prop
  | none, m => m = []
  | some x, m => x.2 = x.1.length ∧ x.1.length ≤ 1048584 ∧ fromT x.1 = some m ∧ Rises m ∧ SmallP m
theorem Snp.rises {b : Option (List UInt8 × Nat)} {m : List Pr} (h : Snp b m) : Rises m := by
  cases b with
  | none => rw [show m = [] from h]; exact rises_nil
  | some x => exact h.2.2.2.1
theorem Snp.small {b : Option (List UInt8 × Nat)} {m : List Pr} (h : Snp b m) : SmallP m := by
  cases b with
  | none => rw [show m = [] from h]; exact ⟨by simp, fun p h => by cases h⟩
  | some x => exact h.2.2.2.2
theorem Snp.load {d : Dk} {f : F3} {m : List Pr} (hd : d.fs = f.fs) (h : Snp f.b m) (hn : d.dn = false) : loadR d = (m, 0) := by
  have hr := read_snap hd hn
  unfold loadR
  cases hb : f.b with
  | none =>
    rw [hb] at hr h
    rw [hr, show m = [] from h]
    rfl
  | some x =>
    rw [hb] at hr h
    rw [hr]
    simp only
    rw [if_neg (by simp), h.2.2.1]
    rfl
theorem load_down {d : Dk} (hn : d.dn = true) : loadR d = ([], 7) := by
  have : readD d sSnap = ([], 7) := by unfold readD; rw [hn]; rfl
  unfold loadR
  rw [this]
  rfl
/-- What stands on the disk of a store whose map is r; at most the batch more besides, whole or in part. -/
structure On (d : Dk) (r : List Pr) (ls : List (List Op3)) (rest : List UInt8) (m : List Pr) (f : F3) (B T : Nat) : Prop where
  fs : d.fs = f.fs
  snp : Snp f.b m
  map : r = applyT m ls.flatten
  ok : RightL ls
  tmp : lenO f.c ≤ T
  snl : lenO f.b ≤ T
  len : (catO ls ++ rest).length ≤ B
def Shut (d : Dk) (r : List Pr) (more : Option (List Op3)) (B T : Nat) : Prop := ∃ ls rest m f, On d r ls rest m f B T ∧ LogIs f.a ls rest ∧ RestIs rest more
structure Inv (t : St) (more : Option (List Op3)) (B T : Nat) : Prop where
  ex : ∃ ls rest s m f, On t.d t.r ls rest m f B T ∧ f.a = some (catO ls ++ rest, s) ∧ (catO ls).length ≤ s ∧ s ≤ (catO ls ++ rest).length ∧ RestIs rest more ∧ (t.sk = false → rest = [] ∧ t.n = (catO ls).length)
  n : t.n ≤ B
theorem Shut.rises {d : Dk} {r : List Pr} {more : Option (List Op3)} {B T : Nat} (h : Shut d r more B T) : Rises r := by
  obtain ⟨ls, rest, m, f, h, _⟩ := h
  rw [h.map]
  exact rises_applyT _ _
theorem Inv.rises {t : St} {more : Option (List Op3)} {B T : Nat} (h : Inv t more B T) : Rises t.r := by
  obtain ⟨ls, rest, s, m, f, h, _⟩ := h.ex
  rw [h.map]
  exact rises_applyT _ _
theorem right0 : RightL [] := fun l h => by cases h
theorem Shut.new (p : Pl) (c : Nat) (dn : Bool) (B T : Nat) : Shut ⟨p, [], c, dn⟩ [] none B T :=
  ⟨[], [], [], ⟨none, none, none⟩, ⟨rfl, rfl, (applyT_nil rises_nil).symm, right0, Nat.zero_le _, Nat.zero_le _, Nat.zero_le _⟩, .inl ⟨rfl, rfl, rfl⟩, .inl rfl⟩
theorem Inv.shut {t : St} {more : Option (List Op3)} {B T : Nat} (h : Inv t more B T) : Shut t.d t.r more B T := by
  obtain ⟨ls, rest, s, m, f, h1, h2, h3, h4, h5, _⟩ := h.ex
  exact ⟨ls, rest, m, f, h1, .inr ⟨s, h2, h3, h4⟩, h5⟩
theorem On.used {d : Dk} {r : List Pr} {ls : List (List Op3)} {rest m : _} {f : F3} {B T : Nat} (h : On d r ls rest m f B T) (ha : LogIs f.a ls rest) : usedF d.fs ≤ B + 2 * T := by
  rw [h.fs, F3.used]
  have h1 := h.snl
  have h2 := h.tmp
  have h3 : lenO f.a ≤ B := by
    rcases ha with ⟨e, _, _⟩ | ⟨s, e, _⟩
    · rw [e]; exact Nat.zero_le _
    · rw [e]; exact h.len
  omega
theorem Shut.used {d : Dk} {r : List Pr} {more : Option (List Op3)} {B T : Nat} (h : Shut d r more B T) : usedF d.fs ≤ B + 2 * T ∧ d.fs.length ≤ 3 := by
  obtain ⟨ls, rest, m, f, h1, h2, _⟩ := h
  exact ⟨h1.used h2, by rw [h1.fs]; exact f.len⟩
/-- Behind a restart. -/
def restO (stay : Int) (x : List UInt8 × Nat) : List UInt8 × Nat := if max 0 stay < (x.1.length : Int) - x.2 then (x.1.take (x.2 + (max 0 stay).toNat), (x.1.take (x.2 + (max 0 stay).toNat)).length) else (x.1, x.1.length)
theorem restF_ofl (keep : List Int) (i : Nat) (n : ByteArray) (x : List UInt8 × Nat) : restF keep i ⟨n, x.1, x.2⟩ = ⟨n, (restO (keep[i]?.getD 0) x).1, (restO (keep[i]?.getD 0) x).2⟩ := by
  unfold restF restO
  simp only
  split <;> rfl
theorem mapIdx_ofl (keep : List Int) (i : Nat) (n : ByteArray) (o : Option (List UInt8 × Nat)) : (ofl n o).mapIdx (fun j => restF keep (j + i)) = ofl n (o.map (restO (keep[i]?.getD 0))) := by
  cases o with
  | none => rfl
  | some x =>
    show [restF keep (0 + i) ⟨n, x.1, x.2⟩] = _
    rw [Nat.zero_add, restF_ofl]
    rfl
theorem restart_f3 (d : Dk) (f : F3) (hd : d.fs = f.fs) (p : Pl) : ∃ i j k : Int, (restartD d p).fs = (⟨f.a.map (restO i), f.b.map (restO j), f.c.map (restO k)⟩ : F3).fs := by
  refine ⟨d.p.keep[0]?.getD 0, d.p.keep[(ofl sLog f.a).length]?.getD 0, d.p.keep[(ofl sSnap f.b).length + (ofl sLog f.a).length]?.getD 0, ?_⟩
  have e : (restartD d p).fs = f.fs.mapIdx (fun j => restF d.p.keep (j + 0)) := by rw [← hd]; rfl
  rw [e]
  unfold F3.fs
  rw [List.mapIdx_append, List.mapIdx_append]
  have e1 := mapIdx_ofl d.p.keep 0 sLog f.a
  have e2 := mapIdx_ofl d.p.keep (ofl sLog f.a).length sSnap f.b
  have e3 := mapIdx_ofl d.p.keep ((ofl sSnap f.b).length + (ofl sLog f.a).length) sTmp f.c
  simp only [Nat.add_zero, Nat.add_assoc] at e1 e2 e3 ⊢
  rw [e1, e2, e3]
theorem restO_whole (k : Int) (x : List UInt8) : restO k (x, x.length) = (x, x.length) := by
  unfold restO
  simp only
  rw [if_neg (by omega)]
theorem restO_cut (k : Int) (x : List UInt8) (s : Nat) (hs : s ≤ x.length) : ∃ j, s ≤ j ∧ restO k (x, s) = (x.take j, (x.take j).length) := by
  unfold restO
  simp only
  split
  · exact ⟨_, by omega, rfl⟩
  · exact ⟨x.length, hs, by rw [List.take_length]⟩
theorem Shut.restart {d : Dk} {r : List Pr} {more : Option (List Op3)} {B T : Nat} (h : Shut d r more B T) (p : Pl) : Shut (restartD d p) r more B T := by
  obtain ⟨ls, rest, m, f, h1, h2, h3⟩ := h
  obtain ⟨i, j, k, hf⟩ := restart_f3 d f h1.fs p
  have hb : Snp (f.b.map (restO j)) m := by
    have hs := h1.snp
    cases hb : f.b with
    | none => rw [hb] at hs; exact hs
    | some x =>
      rw [hb] at hs
      obtain ⟨x, s⟩ := x
      obtain ⟨rfl, hs2⟩ : s = x.length ∧ _ := hs
      show Snp (some (restO j (x, x.length))) m
      rw [restO_whole]
      exact ⟨rfl, hs2⟩
  have hsl : lenO (f.b.map (restO j)) ≤ T := by
    have ht := h1.snl
    cases hb : f.b with
    | none => exact Nat.zero_le _
    | some x =>
      rw [hb] at ht
      show (restO j x).1.length ≤ _
      have ht' : x.1.length ≤ T := ht
      unfold restO
      split
      · simp only [List.length_take]; omega
      · exact ht'
  have hc : lenO (f.c.map (restO k)) ≤ T := by
    have ht := h1.tmp
    cases hc : f.c with
    | none => exact Nat.zero_le _
    | some x =>
      rw [hc] at ht
      show (restO k x).1.length ≤ _
      have ht' : x.1.length ≤ T := ht
      unfold restO
      split
      · simp only [List.length_take]; omega
      · exact ht'
  rcases h2 with ⟨ha, rfl, rfl⟩ | ⟨s, ha, hlo, hhi⟩
  · exact ⟨[], [], m, _, ⟨hf, hb, h1.map, h1.ok, hc, hsl, h1.len⟩, .inl ⟨by show f.a.map _ = none; rw [ha]; rfl, rfl, rfl⟩, .inl rfl⟩
  · obtain ⟨q, hq, hqe⟩ := restO_cut i (catO ls ++ rest) s hhi
    have hqe2 : (catO ls ++ rest).take q = catO ls ++ rest.take (q - (catO ls).length) := by
      rw [List.take_append, List.take_of_length_le (by omega)]
    refine ⟨ls, rest.take (q - (catO ls).length), m, _, ⟨hf, hb, h1.map, h1.ok, hc, hsl, ?_⟩, .inr ⟨_, ?_, ?_, Nat.le_refl _⟩, ?_⟩
    · have := h1.len
      rw [List.length_append] at this ⊢
      rw [List.length_take]
      omega
    · show f.a.map _ = _
      rw [ha, Option.map_some, hqe, hqe2]
    · simp
    · rcases h3 with rfl | ⟨l, j, g1, g2, g3, rfl⟩
      · exact .inl (by simp)
      · exact .inr ⟨l, min (q - (catO ls).length) j, g1, g2, g3, by rw [List.take_take]⟩
/-- Nothing more stands in the log than what is whole. -/
theorem Shut.loads {d : Dk} {r : List Pr} {more : Option (List Op3)} {B T : Nat} (h : Shut d r more B T) : ((loadR d).2 = 0 ↔ d.dn = false) ∧ Rises (loadR d).1 := by
  obtain ⟨ls, rest, m, f, h1, _⟩ := h
  cases hdn : d.dn with
  | true => rw [load_down hdn]; exact ⟨by simp, rises_nil⟩
  | false => rw [h1.snp.load h1.fs hdn]; exact ⟨by simp, h1.snp.rises⟩
theorem flat_le (ls : List (List Op3)) : ls.flatten.length ≤ (catO ls).length := by
  induction ls with
  | nil => simp
  | cons l ls ih =>
    have h1 := goodOf_len (recsO l)
    have h2 := bytesO_good l
    have h3 : (recsO l).length = l.length + 1 := by simp [recsO]
    rw [List.flatten_cons, catO_cons, List.length_append, List.length_append]
    omega
/-- What an opening makes of it. -/
theorem Shut.opens {d : Dk} {r : List Pr} {more : Option (List Op3)} {B T : Nat} (h : Shut d r more B T) :
    Shut (openK d) r more B T ∧ (openK d).p = d.p ∧ (openK d).c ≤ d.c + 3 ∧ (Quiet d → openE d = 0 ∧ Quiet (openK d)) ∧
      (openE d = 0 → openK d = (openS d).d ∧ Inv (openS d) none B T ∧ (loadR d).1.length + (logL d).flatten.length ≤ 1000000 + B ∧ ((openS d).r = r ∨ ∃ l, more = some l ∧ rightO l ∧ SmallO l ∧ (openS d).r = applyT r l)) := by
  have hsh := h
  obtain ⟨ls, rest, m, f, h1, h2, h3⟩ := h
  cases hdn : d.dn with
  | true =>
    have hl := load_down hdn
    have he : openE d = 7 := by unfold openE; rw [hl]; rfl
    have hk : openK d = d := by unfold openK; rw [hl]; rfl
    rw [he, hk]
    exact ⟨hsh, rfl, by omega, fun hq => absurd hq.dn (by rw [hdn]; simp), fun h => by simp at h⟩
  | false =>
    have hl := h1.snp.load h1.fs hdn
    have he : openE d = (openD d).2 := by unfold openE; rw [hl]; rfl
    have hk : openK d = (openD d).1 := by unfold openK; rw [hl]; rfl
    have ho := opn_r h1.fs h2 h1.ok h3
    obtain ⟨f', k1, k2, k3, ⟨rest2, k4, k5⟩, k6⟩ := ho.out
    rw [he, hk]
    have hr2 : RestIs rest2 more := by
      rcases k5 with rfl | rfl
      · exact h3
      · exact .inl rfl
    have hlen2 : (catO ls ++ rest2).length ≤ B := by
      have := h1.len
      rcases k5 with rfl | rfl
      · exact this
      · rw [List.length_append] at this
        simp only [List.append_nil]
        omega
    refine ⟨⟨ls, rest2, m, f', ⟨k1, by rw [k2]; exact h1.snp, h1.map, h1.ok, by rw [k3]; exact h1.tmp, by rw [k2]; exact h1.snl, hlen2⟩, k4, hr2⟩, ho.p, ho.c, fun hq => ⟨(ho.quiet hq).2, (ho.quiet hq).1⟩, fun h0 => ?_⟩
    obtain ⟨g1, g2, g3⟩ := k6 h0
    have hmr := h1.snp.rises
    have hr : (openS d).r = applyT m (logL d).flatten := by
      show (logL d).foldl applyT (loadR d).1 = _
      rw [hl]
      exact fold_applyT _ hmr
    have hn : (openS d).n = (catO (logL d)).length := g2
    have hB : (catO (logL d)).length ≤ B := by
      rcases g3 with e | ⟨l, _, _, _, e1, e2⟩
      · rw [e]
        have := h1.len
        rw [List.length_append] at this
        omega
      · rw [e2, catO_append, catO_one', ← e1]
        exact h1.len
    have hfl := flat_le (logL d)
    have hms := h1.snp.small.1
    refine ⟨rfl, ⟨⟨logL d, [], _, m, f', ⟨k1, by rw [k2]; exact h1.snp, hr, ?_, by rw [k3]; exact h1.tmp, by rw [k2]; exact h1.snl, by rw [List.append_nil]; exact hB⟩, by rw [List.append_nil]; exact g1, Nat.le_refl _, by simp, .inl rfl, fun _ => ⟨rfl, hn⟩⟩, by rw [hn]; exact hB⟩, by rw [hl]; show m.length + _ ≤ _; omega, ?_⟩
    · rcases g3 with e | ⟨l, _, e1, e2, _, e3⟩
      · rw [e]; exact h1.ok
      · rw [e3]; exact h1.ok.snoc ⟨e1, e2⟩
    · rcases g3 with e | ⟨l, e0, e1, e2, _, e3⟩
      · exact .inl (by rw [hr, e, h1.map])
      · refine .inr ⟨l, e0, e1, e2, ?_⟩
        rw [hr, e3, h1.map, List.flatten_append, applyT_append]
        simp
/-- The map as bytes: what a save writes. -/
theorem table_back {r : List Pr} (hr : Rises r) (hs : SmallP r) (h0 : (tableR r).2 = 0) : fromT (tableR r).1 = some r ∧ (tableR r).1.length ≤ 1048584 := by
  have h1 : tableR r = frameRr (encL (tabT r)) := if_pos hr
  rw [h1] at h0 ⊢
  unfold frameRr at h0 ⊢
  split at h0
  · rename_i hle
    rw [if_pos hle]
    exact ⟨fromT_frame hr hs hle, by rw [frameB_length]; omega⟩
  · simp at h0
theorem table_len (r : List Pr) : (tableR r).1.length ≤ 1048584 := by
  unfold tableR
  split
  · unfold frameRr
    split
    · rw [frameB_length]; omega
    · exact Nat.zero_le _
  · exact Nat.zero_le _
theorem table_ok {r : List Pr} (hr : Rises r) (h : wS r ≤ 1000000) : SmallP r ∧ (tableR r).2 = 0 ∧ (tableR r).1.length ≤ 12 + wS r := by
  have hb := tabT_bytes r
  have hs : SmallP r := ⟨by have := wS_len r; omega, fun p hp => by have := wS_mem hp; omega⟩
  have h1 : tableR r = frameRr (encL (tabT r)) := if_pos hr
  have hle : (encL (tabT r)).length ≤ 4 + wS r := by unfold wS; omega
  have h2 : frameRr (encL (tabT r)) = (frameB (encL (tabT r)), 0) := if_pos (by omega)
  rw [h1, h2]
  exact ⟨hs, rfl, by rw [frameB_length]; omega⟩
/-- A check. -/
structure ChkR (t : St) (more : Option (List Op3)) (B T : Nat) (k : St × Nat) : Prop where
  inv : Inv k.1 more B T
  r : k.1.r = t.r
  p : k.1.d.p = t.d.p
  c : k.1.d.c ≤ t.d.c + 6
  quiet : Quiet t.d → t.sk = false → Quiet k.1.d ∧ k.1.sk = false ∧ ((((t.n + T + (tableR t.r).1.length : Nat) : Int) ≤ t.d.p.cap) → (tableR t.r).2 = 0 → k.2 = 0 ∧ ∃ f : F3, k.1.d.fs = f.fs ∧ f.a = some ([], 0) ∧ f.b = some ((tableR t.r).1, (tableR t.r).1.length) ∧ f.c = none ∧ k.1.n = 0)
theorem Inv.check {t : St} {more : Option (List Op3)} {B T : Nat} (h : Inv t more B T) (hs : SmallP t.r) (hT : (tableR t.r).1.length ≤ T) : ChkR t more B T (checkS t) := by
  have hrs := h.rises
  cases hsk : t.sk with
  | true =>
    have e : checkS t = (t, 8) := by unfold checkS; rw [hsk]; rfl
    rw [e]
    exact ⟨h, rfl, rfl, by simp, fun _ h => by rw [hsk] at h; cases h⟩
  | false =>
    obtain ⟨ls, rest, s, m, f, h1, h2, h3, h4, h5, h6⟩ := h.ex
    obtain ⟨rfl, h7⟩ := h6 hsk
    rw [List.append_nil] at h2 h4
    have hB := h.n
    obtain ⟨y, hy⟩ : ∃ y, y = (tableR t.r).1 := ⟨_, rfl⟩
    by_cases h0 : (tableR t.r).2 = 0
    case neg =>
      have e : checkS t = (⟨t.d, t.n, false, t.r⟩, (tableR t.r).2) := by
        unfold checkS saveR
        rw [hsk, if_neg h0, if_neg (by simp), if_neg h0]
      rw [e]
      refine ⟨⟨⟨ls, [], s, m, f, h1, by rw [List.append_nil]; exact h2, h3, by rw [List.append_nil]; exact h4, h5, fun _ => ⟨rfl, h7⟩⟩, hB⟩, rfl, rfl, by simp, fun hq _ => ⟨hq, rfl, fun _ h => absurd h h0⟩⟩
    have hsv : saveR t.d t.r = saveD t.d y := by unfold saveR; rw [if_pos h0, ← hy]
    have hv := sav_r h1.fs y
    obtain ⟨a, ha⟩ : ∃ a, a = saveD t.d y := ⟨_, rfl⟩
    rw [← ha] at hsv hv
    have hce : checkS t = if a.2 = 0 then (⟨(resetD a.1 t.n).d, (resetD a.1 t.n).n, (resetD a.1 t.n).sk, t.r⟩, (resetD a.1 t.n).e) else (⟨a.1, t.n, false, t.r⟩, a.2) := by
      unfold checkS
      rw [hsk, hsv]
      rfl
    obtain ⟨tb1, tb2⟩ := table_back hrs hs h0
    rw [← hy] at tb1 tb2
    obtain ⟨f', k1, k2, k3, k4, k5⟩ := hv.out
    have hyT : y.length ≤ T := by rw [hy]; exact hT
    have hc' : lenO f'.c ≤ T := by have := h1.tmp; rcases k4 with k | k <;> omega
    have hb' : lenO f'.b ≤ T := by
      rcases k3 with k | k
      · rw [k]; exact h1.snl
      · rw [k]; exact hyT
    -- the new snapshot, or the old one: the map is one
    have hsn : ∃ m', Snp f'.b m' ∧ t.r = applyT m' ls.flatten ∧ (f'.b = some (y, y.length) → m' = t.r) := by
      by_cases hb : f'.b = some (y, y.length)
      · refine ⟨t.r, by rw [hb]; exact ⟨rfl, tb2, tb1, hrs, hs⟩, ?_, fun _ => rfl⟩
        have := h1.map
        rw [this]
        exact (applyT_back _ _).symm
      · rcases k3 with k | k
        · exact ⟨m, by rw [k]; exact h1.snp, h1.map, fun h => absurd h hb⟩
        · exact absurd k hb
    obtain ⟨m', n1, n2, n3⟩ := hsn
    have hq2 : Quiet t.d → (((t.n + T + y.length : Nat) : Int) ≤ t.d.p.cap) → a.2 = 0 := fun hq hcap => by
      refine (hv.quiet hq).2 ?_
      have e1 : lenO f.a = t.n := by rw [h2, h7]; rfl
      have e2 := h1.snl
      omega
    by_cases ha0 : a.2 = 0
    case neg =>
      rw [hce, if_neg ha0]
      refine ⟨⟨⟨ls, [], s, m', f', ⟨k1, n1, n2, h1.ok, hc', hb', h1.len⟩, by rw [k2, List.append_nil]; exact h2, h3, by rw [List.append_nil]; exact h4, .inl rfl, fun _ => ⟨rfl, h7⟩⟩, hB⟩, rfl, hv.p, by have := hv.c; show a.1.c ≤ _; omega, fun hq _ => ⟨(hv.quiet hq).1, rfl, fun hcap _ => absurd (hq2 hq (by rw [hy]; exact hcap)) ha0⟩⟩
    rw [hce, if_pos ha0]
    have hr := res_r (n := t.n) k1 (k2.trans h2)
    obtain ⟨z, hz⟩ : ∃ z, z = resetD a.1 t.n := ⟨_, rfl⟩
    rw [← hz] at hr ⊢
    obtain ⟨g, g1, g2, g3, g4⟩ := hr.out
    obtain ⟨q1, q2⟩ := k5 ha0
    have hmt := n3 q1
    have hc0 : (catO ([] : List (List Op3))).length = 0 := rfl
    have onN : On z.d t.r [] [] t.r g B T := ⟨g1, by rw [g2, q1]; exact ⟨rfl, tb2, tb1, hrs, hs⟩, (applyT_nil hrs).symm, right0, by rw [g3]; exact hc', by rw [g2]; exact hb', Nat.zero_le _⟩
    have onO : On z.d t.r ls [] m' g B T := ⟨g1, by rw [g2]; exact n1, n2, h1.ok, by rw [g3]; exact hc', by rw [g2]; exact hb', h1.len⟩
    have hinv : Inv ⟨z.d, z.n, z.sk, t.r⟩ more B T := by
      rcases g4 with ⟨w1, w2, w3, w4⟩ | ⟨w1, w2, w3, w4⟩
      · exact ⟨⟨[], [], 0, t.r, g, onN, w4, Nat.le_refl _, Nat.le_refl _, .inl rfl, fun _ => ⟨rfl, w2⟩⟩, by show z.n ≤ B; rw [w2]; exact Nat.zero_le _⟩
      · refine ⟨?_, by show z.n ≤ B; rw [w2]; exact hB⟩
        rcases w3 with w3 | w3
        · exact ⟨ls, [], s, m', g, onO, by rw [w3, k2, List.append_nil]; exact h2, h3, by rw [List.append_nil]; exact h4, .inl rfl, fun _ => ⟨rfl, by show z.n = _; rw [w2]; exact h7⟩⟩
        · by_cases hzk : z.sk = false
          · exact ⟨ls, [], s, m', g, onO, by rw [w4 hzk, k2, List.append_nil]; exact h2, h3, by rw [List.append_nil]; exact h4, .inl rfl, fun _ => ⟨rfl, by show z.n = _; rw [w2]; exact h7⟩⟩
          · exact ⟨[], [], 0, t.r, g, onN, w3, Nat.le_refl _, Nat.le_refl _, .inl rfl, fun h => absurd h hzk⟩
    refine ⟨hinv, rfl, hr.p.trans hv.p, by have := hv.c; have := hr.c; show z.d.c ≤ _; omega, fun hq _ => ?_⟩
    obtain ⟨qa, _⟩ := hv.quiet hq
    obtain ⟨qz, qe⟩ := hr.quiet qa
    rcases g4 with ⟨w1, w2, w3, w4⟩ | ⟨w1, _⟩
    · exact ⟨qz, w3, fun _ _ => ⟨qe, g, g1, w4, by rw [g2, q1, hy], by rw [g3, q2], w2⟩⟩
    · exact absurd qe w1
/-- A commit. -/
structure CmtR (most : Int) (t : St) (l : List Op3) (more : Option (List Op3)) (B T : Nat) (k : St × Nat) : Prop where
  ok : k.2 = 0 → rightO l ∧ k.1.r = applyT t.r l ∧ Inv k.1 none (B + (bytesO l).length) T
  no : k.2 ≠ 0 → k.1.r = t.r
  wrong : ¬ rightO l ∨ k.2 = 8 → Inv k.1 more B T
  bad : k.2 ≠ 0 → k.2 ≠ 8 → rightO l → Inv k.1 (some l) (B + (bytesO l).length) T
  wrongE : ¬ rightO l → k.2 ≠ 0
  p : k.1.d.p = t.d.p
  c : k.1.d.c ≤ t.d.c + 9
  quiet : Quiet t.d → t.sk = false → Quiet k.1.d ∧ k.1.sk = false ∧ (rightO l → k.2 = if t.d.p.cap < ((usedF t.d.fs + (bytesO l).length : Nat) : Int) then 5 else 0)
theorem On.mono {d : Dk} {r : List Pr} {ls : List (List Op3)} {rest : List UInt8} {m : List Pr} {f : F3} {B C T : Nat} (h : On d r ls rest m f B T) (hc : B ≤ C) : On d r ls rest m f C T := ⟨h.fs, h.snp, h.map, h.ok, h.tmp, h.snl, Nat.le_trans h.len hc⟩
theorem Inv.mono {t : St} {more : Option (List Op3)} {B C T : Nat} (h : Inv t more B T) (hc : B ≤ C) : Inv t more C T := by
  obtain ⟨ls, rest, s, m, f, h1, h2⟩ := h.ex
  exact ⟨⟨ls, rest, s, m, f, h1.mono hc, h2⟩, Nat.le_trans h.n hc⟩
theorem Shut.mono {d : Dk} {r : List Pr} {more : Option (List Op3)} {B C T : Nat} (h : Shut d r more B T) (hc : B ≤ C) : Shut d r more C T := by
  obtain ⟨ls, rest, m, f, h1, h2⟩ := h
  exact ⟨ls, rest, m, f, h1.mono hc, h2⟩
theorem commit_wrongW (d : Dk) (n : Nat) (l : List Op3) (h : ¬ rightO l) : commitW d n false l = ⟨d, n, false, 1⟩ := commit_wrong d n l h
theorem Inv.commit {t : St} {more : Option (List Op3)} {B T : Nat} (h : Inv t more B T) (most : Int) (l : List Op3) (hl : SmallO l) (hs : SmallP (applyT t.r l)) (hT : (tableR (applyT t.r l)).1.length ≤ T) : CmtR most t l more B T (commitS most t l) := by
  cases hsk : t.sk with
  | true =>
    have e : commitS most t l = (⟨t.d, t.n, true, t.r⟩, 8) := by
      unfold commitS commitW
      rw [hsk]
      rfl
    have ht : (⟨t.d, t.n, true, t.r⟩ : St) = t := by rw [← hsk]
    rw [e, ht]
    exact ⟨fun h => by simp at h, fun _ => rfl, fun _ => h, fun _ h => absurd rfl h, fun _ => by simp, rfl, by simp, fun _ h => by rw [hsk] at h; cases h⟩
  | false =>
    by_cases hr : rightO l
    case neg =>
      have e : commitS most t l = (⟨t.d, t.n, false, t.r⟩, 1) := by
        unfold commitS
        rw [hsk, commit_wrongW _ _ _ hr]
        rfl
      have ht : (⟨t.d, t.n, false, t.r⟩ : St) = t := by rw [← hsk]
      rw [e, ht]
      exact ⟨fun h => by simp at h, fun _ => rfl, fun _ => h, fun _ _ h => absurd h hr, fun _ => by simp, rfl, by simp, fun hq _ => ⟨hq, hsk, fun h => absurd h hr⟩⟩
    obtain ⟨ls, rest, s, m, f, h1, h2, h3, h4, h5, h6⟩ := h.ex
    obtain ⟨rfl, h7⟩ := h6 hsk
    rw [List.append_nil] at h2 h4
    have hss : s = (catO ls).length := by omega
    rw [hss] at h2
    have hB := h.n
    have hcm := com_r h1.fs h2 l hr
    obtain ⟨z, hz⟩ : ∃ z, z = commitD t.d t.n l := ⟨_, rfl⟩
    rw [← h7, ← hz] at hcm
    have hcw : commitW t.d t.n t.sk l = z := by rw [hsk, hz]; rfl
    have hce : commitS most t l = if z.e = 0 then (afterS most ⟨z.d, z.n, z.sk, applyT t.r l⟩, 0) else (⟨z.d, z.n, z.sk, t.r⟩, z.e) := by unfold commitS; rw [hcw]
    have hlsn : (catO ls).length ≤ B := by rw [← h7]; exact hB
    obtain ⟨g, g1, g2, g3, ⟨w1, w2, w3, w4⟩ | ⟨w1, w2, w3, rest, s', w4, w5, w6, w7, w8⟩⟩ := hcm.out
    · have hcl : catO (ls ++ [l]) = catO ls ++ bytesO l := by rw [catO_append, catO_one']
      have hlen : (catO (ls ++ [l])).length ≤ B + (bytesO l).length := by rw [hcl, List.length_append]; omega
      have hin : Inv ⟨z.d, z.n, z.sk, applyT t.r l⟩ none (B + (bytesO l).length) T := by
        refine ⟨⟨ls ++ [l], [], (catO (ls ++ [l])).length, m, g, ⟨g1, by rw [g2]; exact h1.snp, ?_, h1.ok.snoc ⟨hr, hl⟩, by rw [g3]; exact h1.tmp, by rw [g2]; exact h1.snl, by rw [List.append_nil]; exact hlen⟩, by rw [List.append_nil, hcl]; exact w4, Nat.le_refl _, by simp, .inl rfl, fun _ => ⟨rfl, by show z.n = _; rw [w3, hcl]⟩⟩, by show z.n ≤ _; rw [w3, ← hcl]; exact hlen⟩
        show applyT t.r l = _
        rw [h1.map, List.flatten_append, applyT_append]
        simp
      rw [hce, if_pos w1]
      have haf : Inv (afterS most ⟨z.d, z.n, z.sk, applyT t.r l⟩) none (B + (bytesO l).length) T ∧ (afterS most ⟨z.d, z.n, z.sk, applyT t.r l⟩).r = applyT t.r l ∧ (afterS most ⟨z.d, z.n, z.sk, applyT t.r l⟩).d.p = z.d.p ∧ (afterS most ⟨z.d, z.n, z.sk, applyT t.r l⟩).d.c ≤ z.d.c + 6 ∧
          (Quiet z.d → Quiet (afterS most ⟨z.d, z.n, z.sk, applyT t.r l⟩).d ∧ (afterS most ⟨z.d, z.n, z.sk, applyT t.r l⟩).sk = false) := by
        unfold afterS
        split
        · have hk := hin.check hs hT
          exact ⟨hk.inv, hk.r, hk.p, hk.c, fun hq => ⟨(hk.quiet hq w2).1, (hk.quiet hq w2).2.1⟩⟩
        · exact ⟨hin, rfl, rfl, by simp, fun hq => ⟨hq, w2⟩⟩
      obtain ⟨a1, a2, a3, a4, a5⟩ := haf
      refine ⟨fun _ => ⟨hr, a2, a1⟩, fun h => absurd rfl h, fun h => ?_, fun h => absurd rfl h, fun h => absurd hr h, a3.trans hcm.p, by have := hcm.c; show (afterS most ⟨z.d, z.n, z.sk, applyT t.r l⟩).d.c ≤ _; omega, fun hq _ => ?_⟩
      · rcases h with h | h
        · exact absurd hr h
        · simp at h
      · obtain ⟨q1, q2, q3⟩ := hcm.quiet hq
        obtain ⟨q4, q5⟩ := a5 q1
        exact ⟨q4, q5, fun _ => by rw [w1] at q3; exact q3⟩
    · rw [hce, if_neg w1]
      have hin : Inv ⟨z.d, z.n, z.sk, t.r⟩ (some l) (B + (bytesO l).length) T := by
        refine ⟨⟨ls, rest, s', m, g, ⟨g1, by rw [g2]; exact h1.snp, h1.map, h1.ok, by rw [g3]; exact h1.tmp, by rw [g2]; exact h1.snl, ?_⟩, w4, w5, w6, ?_, fun hh => ⟨(w8 hh).1, by show z.n = _; rw [w3]⟩⟩, by show z.n ≤ _; rw [w3]; omega⟩
        · rw [List.length_append]
          rcases w7 with rfl | rfl
          · simp; omega
          · omega
        · rcases w7 with rfl | rfl
          · exact .inl rfl
          · exact .inr ⟨l, (bytesO l).length, rfl, hr, hl, by rw [List.take_length]⟩
      refine ⟨fun h => absurd h w1, fun _ => rfl, fun h => ?_, fun _ _ _ => hin, fun h => absurd hr h, hcm.p, by have := hcm.c; show z.d.c ≤ _; omega, fun hq _ => ?_⟩
      · rcases h with h | h
        · exact absurd hr h
        · exact absurd h w2
      · obtain ⟨q1, q2, q3⟩ := hcm.quiet hq
        exact ⟨q1, q2, fun _ => q3⟩
/-- How much the map takes. -/
def wO (l : List Op3) : Nat := (l.map fun o => 8 + o.k.size + o.v.size).sum
theorem wS_del (l : List Pr) (k : ByteArray) : wS (delT l k) ≤ wS l := by
  unfold delT
  split
  · rw [wS_append]
    have h1 := wS_drop l (lb l k)
    have h2 := wS_drop_le l (lb l k) (lb l k + 1) (by omega)
    omega
  · exact Nat.le_refl _
theorem wS_step (l : List Pr) (o : Op3) : wS (stepT l o) ≤ wS l + (8 + o.k.size + o.v.size) := by
  unfold stepT
  split
  · exact Nat.le_trans (wS_del _ _) (by omega)
  · exact wS_put _ _ _
theorem wS_fold (ops : List Op3) : ∀ l : List Pr, wS (ops.foldl stepT l) ≤ wS l + wO ops := by
  induction ops with
  | nil => intro l; simp [wO]
  | cons o ops ih =>
    intro l
    have h1 := ih (stepT l o)
    have h2 := wS_step l o
    have e : wO (o :: ops) = (8 + o.k.size + o.v.size) + wO ops := rfl
    rw [List.foldl_cons, e]
    omega
theorem wS_apply {r : List Pr} (h : Rises r) (ops : List Op3) : wS (applyT r ops) ≤ wS r + wO ops := by rw [applyT_rises h]; exact wS_fold _ _
theorem wO_wt (l : List Op3) : wtO l ≤ 5000 → wO l ≤ 7 * l.length + wtO l := by
  induction l with
  | nil => intro _; simp [wO]
  | cons o l ih =>
    intro h
    have e : wtO (o :: l) = wtOE o + wtO l := rfl
    have e2 : wO (o :: l) = (8 + o.k.size + o.v.size) + wO l := rfl
    rw [e] at h ⊢
    have := ih (by omega)
    rw [e2, List.length_cons]
    unfold wtOE at h ⊢
    omega
end Go.Proofs.YtnlmfmceogbomaaGreatDoor
