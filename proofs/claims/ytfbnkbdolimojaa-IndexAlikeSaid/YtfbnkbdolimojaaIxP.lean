/- Maps in buckets: plain facts. No program stands here. -/
import Derived.Test.YtfbnkbdolimojaaRefPutP
import Derived.Test.YtfbnkbdolimojaaRecs
import Derived.Test.YtfbnkbdolimojaaBytes
namespace Go.Proofs.Ytfbnkbdolimojaa
set_option linter.unusedVariables false

/-- The place of the first pair of a key. -/
def fnd (key : ByteArray) : List Pr → Option Nat
  | [] => none
  | p :: l => if p.k = key then some 0 else (fnd key l).map (· + 1)
/-- As a number; below 0: there is none. -/
def plc (l : List Pr) (key : ByteArray) : Int := match fnd key l with
  | some j => (j : Int)
  | none => -1
theorem fnd_none {key : ByteArray} : ∀ {l : List Pr}, (∀ p ∈ l, p.k ≠ key) → fnd key l = none
  | [], _ => rfl
  | p :: l, h => by
    unfold fnd
    rw [if_neg (h p (by simp)), fnd_none (fun q hq => h q (by simp [hq]))]
    rfl
theorem fnd_some {key : ByteArray} : ∀ {l : List Pr} {j : Nat} (hj : j < l.length), l[j].k = key → (∀ p ∈ l.take j, p.k ≠ key) → fnd key l = some j
  | p :: l, 0, _, he, _ => if_pos he
  | p :: l, j + 1, hj, he, hn => by
    unfold fnd
    rw [if_neg (hn p (by simp)), fnd_some (by simpa using hj) (by simpa using he) (fun q hq => hn q (by simp [hq]))]
    rfl
theorem fnd_get {key : ByteArray} : ∀ {l : List Pr} {j : Nat}, fnd key l = some j → ∃ h : j < l.length, l[j].k = key ∧ getT l key = some l[j].v
  | p :: l, j, h => by
    unfold fnd at h
    by_cases he : p.k = key
    · rw [if_pos he] at h
      injection h with h
      subst h
      exact ⟨by simp, he, by rw [getT_cons, if_pos he]; rfl⟩
    · rw [if_neg he] at h
      cases hf : fnd key l with
      | none => rw [hf] at h; cases h
      | some i =>
        rw [hf] at h
        injection h with h
        subst h
        obtain ⟨h1, h2, h3⟩ := fnd_get hf
        exact ⟨by simpa using h1, h2, by rw [getT_cons, if_neg he, h3]; rfl⟩
theorem fnd_miss {key : ByteArray} : ∀ {l : List Pr}, fnd key l = none → getT l key = none ∧ ∀ p ∈ l, p.k ≠ key
  | [], _ => ⟨rfl, fun p hp => by cases hp⟩
  | p :: l, h => by
    unfold fnd at h
    by_cases he : p.k = key
    · rw [if_pos he] at h; cases h
    · rw [if_neg he] at h
      cases hf : fnd key l with
      | some i => rw [hf] at h; cases h
      | none =>
        obtain ⟨h1, h2⟩ := fnd_miss hf
        refine ⟨by rw [getT_cons, if_neg he, h1], fun q hq => ?_⟩
        rcases List.mem_cons.1 hq with rfl | hq
        · exact he
        · exact h2 q hq
/-- A value for a key. -/
def putL (l : List Pr) (key v : ByteArray) : List Pr := match fnd key l with
  | some j => l.set j ⟨key, v⟩
  | none => l ++ [⟨key, v⟩]
/-- A key goes. -/
def delL (l : List Pr) (key : ByteArray) : List Pr := match fnd key l with
  | some j => l.take j ++ l.drop (j + 1)
  | none => l
theorem putL_some {l : List Pr} {key v : ByteArray} {j : Nat} (h : fnd key l = some j) : putL l key v = l.set j ⟨key, v⟩ := by unfold putL; rw [h]
theorem putL_none {l : List Pr} {key v : ByteArray} (h : fnd key l = none) : putL l key v = l ++ [⟨key, v⟩] := by unfold putL; rw [h]
theorem delL_some {l : List Pr} {key : ByteArray} {j : Nat} (h : fnd key l = some j) : delL l key = l.take j ++ l.drop (j + 1) := by unfold delL; rw [h]
theorem delL_none {l : List Pr} {key : ByteArray} (h : fnd key l = none) : delL l key = l := by unfold delL; rw [h]
/-- Each key once. -/
def Once (l : List Pr) : Prop := l.Pairwise fun a b => a.k ≠ b.k
theorem once_cons (p : Pr) (l : List Pr) : Once (p :: l) ↔ (∀ q ∈ l, p.k ≠ q.k) ∧ Once l := List.pairwise_cons
theorem putL_cons (p : Pr) (l : List Pr) (key v : ByteArray) : putL (p :: l) key v = if p.k = key then ⟨key, v⟩ :: l else p :: putL l key v := by
  by_cases he : p.k = key
  · rw [if_pos he, putL_some (j := 0) (by unfold fnd; rw [if_pos he])]
    rfl
  · rw [if_neg he]
    cases hf : fnd key l with
    | none =>
      rw [putL_none hf, putL_none (by unfold fnd; rw [if_neg he, hf]; rfl)]
      rfl
    | some i =>
      rw [putL_some hf, putL_some (j := i + 1) (by unfold fnd; rw [if_neg he, hf]; rfl)]
      rfl
theorem delL_cons (p : Pr) (l : List Pr) (key : ByteArray) : delL (p :: l) key = if p.k = key then l else p :: delL l key := by
  by_cases he : p.k = key
  · rw [if_pos he, delL_some (j := 0) (by unfold fnd; rw [if_pos he])]
    rfl
  · rw [if_neg he]
    cases hf : fnd key l with
    | none => rw [delL_none hf, delL_none (by unfold fnd; rw [if_neg he, hf]; rfl)]
    | some i =>
      rw [delL_some hf, delL_some (j := i + 1) (by unfold fnd; rw [if_neg he, hf]; rfl)]
      rfl
theorem mem_putL {key v : ByteArray} {q : Pr} : ∀ {l : List Pr}, q ∈ putL l key v → q = ⟨key, v⟩ ∨ q ∈ l
  | [], h => by
    rw [putL_none (l := []) rfl] at h
    exact .inl (by simpa using h)
  | p :: l, h => by
    rw [putL_cons] at h
    split at h
    · rcases List.mem_cons.1 h with h | h
      · exact .inl h
      · exact .inr (List.mem_cons_of_mem _ h)
    · rcases List.mem_cons.1 h with h | h
      · exact .inr (by rw [h]; simp)
      · exact (mem_putL h).imp id (List.mem_cons_of_mem _)
theorem mem_delL {key : ByteArray} {q : Pr} : ∀ {l : List Pr}, q ∈ delL l key → q ∈ l
  | [], h => h
  | p :: l, h => by
    rw [delL_cons] at h
    split at h
    · exact List.mem_cons_of_mem _ h
    · rcases List.mem_cons.1 h with h | h
      · rw [h]; simp
      · exact List.mem_cons_of_mem _ (mem_delL h)
theorem once_putL {key v : ByteArray} : ∀ {l : List Pr}, Once l → Once (putL l key v)
  | [], _ => by rw [putL_none (l := []) rfl]; exact List.pairwise_singleton _ _
  | p :: l, h => by
    obtain ⟨h1, h2⟩ := (once_cons p l).1 h
    rw [putL_cons]
    split
    · rename_i he
      exact (once_cons _ _).2 ⟨fun q hq => by rw [← he]; exact h1 q hq, h2⟩
    · rename_i he
      refine (once_cons _ _).2 ⟨fun q hq => ?_, once_putL h2⟩
      rcases mem_putL hq with rfl | hq
      · exact he
      · exact h1 q hq
theorem once_delL {key : ByteArray} : ∀ {l : List Pr}, Once l → Once (delL l key)
  | [], h => h
  | p :: l, h => by
    obtain ⟨h1, h2⟩ := (once_cons p l).1 h
    rw [delL_cons]
    split
    · exact h2
    · exact (once_cons _ _).2 ⟨fun q hq => h1 q (mem_delL hq), once_delL h2⟩
theorem getT_putL {key v key' : ByteArray} : ∀ {l : List Pr}, getT (putL l key v) key' = if key = key' then some v else getT l key'
  | [] => by rw [putL_none (l := []) rfl]; exact getT_cons _ _ _
  | p :: l => by
    rw [putL_cons]
    by_cases he : p.k = key
    · rw [if_pos he, getT_cons, getT_cons]
      by_cases e : key = key'
      · rw [if_pos e, if_pos e]
      · rw [if_neg e, if_neg e, if_neg (by rw [he]; exact e)]
    · rw [if_neg he, getT_cons, getT_cons, getT_putL]
      by_cases e : p.k = key'
      · rw [if_pos e, if_pos e, if_neg (by rintro rfl; exact he e)]
      · rw [if_neg e, if_neg e]
theorem getT_delL {key key' : ByteArray} : ∀ {l : List Pr}, Once l → getT (delL l key) key' = if key = key' then none else getT l key'
  | [], _ => by show getT [] key' = _; rw [getT_nil]; split <;> rfl
  | p :: l, h => by
    obtain ⟨h1, h2⟩ := (once_cons p l).1 h
    rw [delL_cons]
    by_cases he : p.k = key
    · rw [if_pos he, getT_cons]
      by_cases e : key = key'
      · rw [if_pos e]
        exact getT_none fun q hq hk => h1 q hq (by rw [he, hk, e])
      · rw [if_neg e, if_neg (by rw [he]; exact e)]
    · rw [if_neg he, getT_cons, getT_cons, getT_delL h2]
      by_cases e : p.k = key'
      · rw [if_pos e, if_pos e, if_neg (by rintro rfl; exact he e)]
      · rw [if_neg e, if_neg e]
theorem putL_length (l : List Pr) (key v : ByteArray) : (putL l key v).length = if getT l key = none then l.length + 1 else l.length := by
  cases hf : fnd key l with
  | none => rw [putL_none hf, if_pos (fnd_miss hf).1]; simp
  | some j =>
    obtain ⟨h1, h2, h3⟩ := fnd_get hf
    rw [putL_some hf, if_neg (by rw [h3]; simp)]
    simp
theorem delL_length (l : List Pr) (key : ByteArray) : (delL l key).length = if getT l key = none then l.length else l.length - 1 := by
  cases hf : fnd key l with
  | none => rw [delL_none hf, if_pos (fnd_miss hf).1]
  | some j =>
    obtain ⟨h1, h2, h3⟩ := fnd_get hf
    rw [delL_some hf, if_neg (by rw [h3]; simp)]
    simp
    omega

/-- The bucket of a key. -/
def bkt (bs : List (List Pr)) (key : ByteArray) : Nat := crcB key.data.toList % bs.length
theorem bkt_lt {bs : List (List Pr)} (h : 0 < bs.length) (key : ByteArray) : bkt bs key < bs.length := Nat.mod_lt _ h
def atB (bs : List (List Pr)) (key : ByteArray) : List Pr := bs.getD (bkt bs key) []
theorem atB_get {bs : List (List Pr)} (h : 0 < bs.length) (key : ByteArray) : atB bs key = bs[bkt bs key]'(bkt_lt h key) := by
  unfold atB
  rw [List.getD_eq_getElem?_getD, List.getElem?_eq_getElem (bkt_lt h key)]
  rfl
/-- An index: its buckets, and how many keys it says that there are. -/
structure Ix where
  bs : List (List Pr)
  n : Nat
def putX (x : Ix) (key v : ByteArray) : Ix := ⟨x.bs.set (bkt x.bs key) (putL (atB x.bs key) key v), if getT (atB x.bs key) key = none then x.n + 1 else x.n⟩
def delX (x : Ix) (key : ByteArray) : Ix := if getT (atB x.bs key) key = none then x else ⟨x.bs.set (bkt x.bs key) (delL (atB x.bs key) key), x.n - 1⟩
def getX (x : Ix) (key : ByteArray) : Option ByteArray := getT (atB x.bs key) key
/-- An index that is right: each pair in its bucket, once. -/
structure IxOk (x : Ix) : Prop where
  pos : 0 < x.bs.length
  once : ∀ l ∈ x.bs, Once l
  home : ∀ i, ∀ h : i < x.bs.length, ∀ p ∈ x.bs[i], bkt x.bs p.k = i
  n : x.n = x.bs.flatten.length
theorem flatten_set_length (bs : List (List Pr)) (i : Nat) (h : i < bs.length) (l : List Pr) : (bs.set i l).flatten.length + bs[i].length = bs.flatten.length + l.length := by
  have h1 : bs.flatten.length = (bs.take i).flatten.length + (bs.drop i).flatten.length := by
    rw [← List.length_append, ← List.flatten_append, List.take_append_drop]
  rw [List.drop_eq_getElem_cons h, List.flatten_cons, List.length_append] at h1
  rw [List.set_eq_take_append_cons_drop, if_pos h, List.flatten_append, List.flatten_cons, List.length_append, List.length_append]
  omega
theorem bkt_set (bs : List (List Pr)) (i : Nat) (l : List Pr) (key : ByteArray) : bkt (bs.set i l) key = bkt bs key := by unfold bkt; rw [List.length_set]
theorem atB_set {bs : List (List Pr)} (h : 0 < bs.length) (i : Nat) (hi : i < bs.length) (l : List Pr) (key : ByteArray) : atB (bs.set i l) key = if i = bkt bs key then l else atB bs key := by
  rw [atB_get (by rw [List.length_set]; exact h), atB_get h]
  simp only [bkt_set, List.getElem_set]
theorem IxOk.set {x : Ix} (h : IxOk x) (key : ByteArray) (l : List Pr) (m : Nat) (ho : Once l) (hl : ∀ p ∈ l, p.k = key ∨ p ∈ atB x.bs key) (hm : m + (atB x.bs key).length = x.n + l.length) : IxOk ⟨x.bs.set (bkt x.bs key) l, m⟩ := by
  have hb := bkt_lt h.pos key
  refine ⟨by rw [List.length_set]; exact h.pos, fun a ha => ?_, fun i hi p hp => ?_, ?_⟩
  · rcases List.mem_or_eq_of_mem_set ha with ha | rfl
    · exact h.once a ha
    · exact ho
  · simp only [List.length_set] at hi
    simp only [List.getElem_set] at hp
    rw [bkt_set]
    split at hp
    · rename_i he
      subst he
      rcases hl p hp with h1 | h1
      · rw [h1]
      · rw [atB_get h.pos] at h1
        exact h.home _ hb p h1
    · exact h.home i hi p hp
  · have h1 := flatten_set_length x.bs (bkt x.bs key) hb l
    have h2 := h.n
    rw [atB_get h.pos] at hm
    simp only
    omega
theorem IxOk.once_at {x : Ix} (h : IxOk x) (key : ByteArray) : Once (atB x.bs key) := by rw [atB_get h.pos]; exact h.once _ (List.getElem_mem _)
theorem IxOk.put {x : Ix} (h : IxOk x) (key v : ByteArray) : IxOk (putX x key v) := by
  refine h.set key _ _ (once_putL (h.once_at key)) (fun p hp => (mem_putL hp).imp (fun e => by rw [e]) id) ?_
  have := putL_length (atB x.bs key) key v
  split at this <;> split <;> first | omega | contradiction
theorem IxOk.del {x : Ix} (h : IxOk x) (key : ByteArray) : IxOk (delX x key) := by
  unfold delX
  split
  · exact h
  · rename_i hn
    refine h.set key _ _ (once_delL (h.once_at key)) (fun p hp => .inr (mem_delL hp)) ?_
    have h1 := delL_length (atB x.bs key) key
    rw [if_neg hn] at h1
    have h2 : 0 < (atB x.bs key).length := by
      cases hl : atB x.bs key with
      | nil => rw [hl] at hn; exact absurd rfl hn
      | cons p l => simp
    have h3 := flatten_set_length x.bs (bkt x.bs key) (bkt_lt h.pos key) []
    have h4 := h.n
    rw [atB_get h.pos] at h2 h1 ⊢
    rw [List.length_nil] at h3
    omega
theorem getX_put {x : Ix} (h : IxOk x) (key v key' : ByteArray) : getX (putX x key v) key' = if key = key' then some v else getX x key' := by
  unfold getX putX
  simp only
  rw [atB_set h.pos _ (bkt_lt h.pos key)]
  by_cases e : bkt x.bs key = bkt x.bs key'
  · rw [if_pos e, getT_putL]
    have : atB x.bs key = atB x.bs key' := by unfold atB; rw [e]
    rw [this]
  · rw [if_neg e, if_neg (fun hk => e (by rw [hk]))]
theorem getX_del {x : Ix} (h : IxOk x) (key key' : ByteArray) : getX (delX x key) key' = if key = key' then none else getX x key' := by
  unfold delX
  by_cases hn : getT (atB x.bs key) key = none
  · rw [if_pos hn]
    by_cases e : key = key'
    · rw [if_pos e, ← e]; exact hn
    · rw [if_neg e]
  · rw [if_neg hn]
    unfold getX
    simp only
    rw [atB_set h.pos _ (bkt_lt h.pos key)]
    by_cases e : bkt x.bs key = bkt x.bs key'
    · rw [if_pos e, getT_delL (h.once_at key)]
      have : atB x.bs key = atB x.bs key' := by unfold atB; rw [e]
      rw [this]
    · rw [if_neg e, if_neg (fun hk => e (by rw [hk]))]
def newX (k : Nat) : Ix := ⟨List.replicate k [], 0⟩
theorem IxOk.new {k : Nat} (h : 0 < k) : IxOk (newX k) := by
  refine ⟨by simpa [newX] using h, fun l hl => ?_, fun i hi p hp => ?_, ?_⟩
  · rw [List.eq_of_mem_replicate hl]; exact List.Pairwise.nil
  · simp [newX] at hp
  · simp [newX]
theorem getX_new {k : Nat} (h : 0 < k) (key : ByteArray) : getX (newX k) key = none := by
  unfold getX
  rw [atB_get (by simpa [newX] using h)]
  simp [newX, getT_nil]
end Go.Proofs.Ytfbnkbdolimojaa
