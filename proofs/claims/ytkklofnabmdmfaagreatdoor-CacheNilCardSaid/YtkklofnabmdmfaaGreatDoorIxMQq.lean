/- Maps in buckets: plain facts. No program stands here. -/
import Derived.Lib.ConvBytes
import Derived.Deep.DrawnRows
import Derived.Laws.MakeOwn
import Derived.Test.YtkklofnabmdmfaaGreatDoorConvRQq
import Derived.Test.YtkklofnabmdmfaaGreatDoorCodecQq
import Derived.Test.YtkklofnabmdmfaaGreatDoorTabAQq
import Derived.Test.YtkklofnabmdmfaaGreatDoorDkOpsAQq
import Derived.Test.YtkklofnabmdmfaaGreatDoorTabEQq
import Derived.Test.YtkklofnabmdmfaaGreatDoorDkFsQq
namespace Go.Proofs.YtkklofnabmdmfaaGreatDoor
set_option linter.unusedVariables false

/-- The place of the first pair of a key. -/
def fnd (key : ByteArray) : List Pr → Option Nat
  | [] => none
  | p :: l => if p.k = key then some 0 else (fnd key l).map (· + 1)
/-- As a number; below 0: there is none. -/
def plc (l : List Pr) (key : ByteArray) : Int := match fnd key l with
  | some j => (j : Int)
  | none => -1
theorem fnd_none {key : ByteArray} : ∀ {l : List Pr}, (∀ p ∈ l, p.k ≠ key) → fnd key l = none
  | [], _ => rfl
  | p :: l, h => by
    unfold fnd
    rw [if_neg (h p (by simp)), fnd_none (fun q hq => h q (by simp [hq]))]
    rfl
theorem fnd_some {key : ByteArray} : ∀ {l : List Pr} {j : Nat} (hj : j < l.length), l[j].k = key → (∀ p ∈ l.take j, p.k ≠ key) → fnd key l = some j
  | p :: l, 0, _, he, _ => if_pos he
  | p :: l, j + 1, hj, he, hn => by
    unfold fnd
    rw [if_neg (hn p (by simp)), fnd_some (by simpa using hj) (by simpa using he) (fun q hq => hn q (by simp [hq]))]
    rfl
theorem fnd_get {key : ByteArray} : ∀ {l : List Pr} {j : Nat}, fnd key l = some j → ∃ h : j < l.length, l[j].k = key ∧ getT l key = some l[j].v
  | p :: l, j, h => by
    unfold fnd at h
    by_cases he : p.k = key
    · rw [if_pos he] at h
      injection h with h
      subst h
      exact ⟨by simp, he, by rw [getT_cons, if_pos he]; rfl⟩
    · rw [if_neg he] at h
      cases hf : fnd key l with
      | none => rw [hf] at h; cases h
      | some i =>
        rw [hf] at h
        injection h with h
        subst h
        obtain ⟨h1, h2, h3⟩ := fnd_get hf
        exact ⟨by simpa using h1, h2, by rw [getT_cons, if_neg he, h3]; rfl⟩
theorem fnd_miss {key : ByteArray} : ∀ {l : List Pr}, fnd key l = none → getT l key = none ∧ ∀ p ∈ l, p.k ≠ key
  | [], _ => ⟨rfl, fun p hp => by cases hp⟩
  | p :: l, h => by
    unfold fnd at h
    by_cases he : p.k = key
    · rw [if_pos he] at h; cases h
    · rw [if_neg he] at h
      cases hf : fnd key l with
      | some i => rw [hf] at h; cases h
      | none =>
        obtain ⟨h1, h2⟩ := fnd_miss hf
        refine ⟨by rw [getT_cons, if_neg he, h1], fun q hq => ?_⟩
        rcases List.mem_cons.1 hq with rfl | hq
        · exact he
        · exact h2 q hq
/-- A value for a key. -/
def putL (l : List Pr) (key v : ByteArray) : List Pr := match fnd key l with
  | some j => l.set j ⟨key, v⟩
  | none => l ++ [⟨key, v⟩]
theorem putL_some {l : List Pr} {key v : ByteArray} {j : Nat} (h : fnd key l = some j) : putL l key v = l.set j ⟨key, v⟩ := by unfold putL; rw [h]
theorem putL_none {l : List Pr} {key v : ByteArray} (h : fnd key l = none) : putL l key v = l ++ [⟨key, v⟩] := by unfold putL; rw [h]
/-- Each key once. -/
def Once (l : List Pr) : Prop := l.Pairwise fun a b => a.k ≠ b.k
theorem once_cons (p : Pr) (l : List Pr) : Once (p :: l) ↔ (∀ q ∈ l, p.k ≠ q.k) ∧ Once l := List.pairwise_cons
theorem putL_cons (p : Pr) (l : List Pr) (key v : ByteArray) : putL (p :: l) key v = if p.k = key then ⟨key, v⟩ :: l else p :: putL l key v := by
  by_cases he : p.k = key
  · rw [if_pos he, putL_some (j := 0) (by unfold fnd; rw [if_pos he])]
    rfl
  · rw [if_neg he]
    cases hf : fnd key l with
    | none =>
      rw [putL_none hf, putL_none (by unfold fnd; rw [if_neg he, hf]; rfl)]
      rfl
    | some i =>
      rw [putL_some hf, putL_some (j := i + 1) (by unfold fnd; rw [if_neg he, hf]; rfl)]
      rfl
theorem mem_putL {key v : ByteArray} {q : Pr} : ∀ {l : List Pr}, q ∈ putL l key v → q = ⟨key, v⟩ ∨ q ∈ l
  | [], h => by
    rw [putL_none (l := []) rfl] at h
    exact .inl (by simpa using h)
  | p :: l, h => by
    rw [putL_cons] at h
    split at h
    · rcases List.mem_cons.1 h with h | h
      · exact .inl h
      · exact .inr (List.mem_cons_of_mem _ h)
    · rcases List.mem_cons.1 h with h | h
      · exact .inr (by rw [h]; simp)
      · exact (mem_putL h).imp id (List.mem_cons_of_mem _)
theorem once_putL {key v : ByteArray} : ∀ {l : List Pr}, Once l → Once (putL l key v)
  | [], _ => by rw [putL_none (l := []) rfl]; exact List.pairwise_singleton _ _
  | p :: l, h => by
    obtain ⟨h1, h2⟩ := (once_cons p l).1 h
    rw [putL_cons]
    split
    · rename_i he
      exact (once_cons _ _).2 ⟨fun q hq => by rw [← he]; exact h1 q hq, h2⟩
    · rename_i he
      refine (once_cons _ _).2 ⟨fun q hq => ?_, once_putL h2⟩
      rcases mem_putL hq with rfl | hq
      · exact he
      · exact h1 q hq
theorem getT_putL {key v key' : ByteArray} : ∀ {l : List Pr}, getT (putL l key v) key' = if key = key' then some v else getT l key'
  | [] => by rw [putL_none (l := []) rfl]; exact getT_cons _ _ _
  | p :: l => by
    rw [putL_cons]
    by_cases he : p.k = key
    · rw [if_pos he, getT_cons, getT_cons]
      by_cases e : key = key'
      · rw [if_pos e, if_pos e]
      · rw [if_neg e, if_neg e, if_neg (by rw [he]; exact e)]
    · rw [if_neg he, getT_cons, getT_cons, getT_putL]
      by_cases e : p.k = key'
      · rw [if_pos e, if_pos e, if_neg (by rintro rfl; exact he e)]
      · rw [if_neg e, if_neg e]
theorem putL_length (l : List Pr) (key v : ByteArray) : (putL l key v).length = if getT l key = none then l.length + 1 else l.length := by
  cases hf : fnd key l with
  | none => rw [putL_none hf, if_pos (fnd_miss hf).1]; simp
  | some j =>
    obtain ⟨h1, h2, h3⟩ := fnd_get hf
    rw [putL_some hf, if_neg (by rw [h3]; simp)]
    simp

/-- The bucket of a key. -/
def bkt (bs : List (List Pr)) (key : ByteArray) : Nat := crcB key.data.toList % bs.length
theorem bkt_lt {bs : List (List Pr)} (h : 0 < bs.length) (key : ByteArray) : bkt bs key < bs.length := Nat.mod_lt _ h
def atB (bs : List (List Pr)) (key : ByteArray) : List Pr := bs.getD (bkt bs key) []
theorem atB_get {bs : List (List Pr)} (h : 0 < bs.length) (key : ByteArray) : atB bs key = bs[bkt bs key]'(bkt_lt h key) := by
  unfold atB
  rw [List.getD_eq_getElem?_getD, List.getElem?_eq_getElem (bkt_lt h key)]
  rfl
/-- An index: its buckets, and how many keys it says that there are. -/
structure Ix where
  bs : List (List Pr)
  n : Nat
def putX (x : Ix) (key v : ByteArray) : Ix := ⟨x.bs.set (bkt x.bs key) (putL (atB x.bs key) key v), if getT (atB x.bs key) key = none then x.n + 1 else x.n⟩
def getX (x : Ix) (key : ByteArray) : Option ByteArray := getT (atB x.bs key) key
/-- An index that is right: each pair in its bucket, once. -/
structure IxOk (x : Ix) : Prop where
  pos : 0 < x.bs.length
  once : ∀ l ∈ x.bs, Once l
  home : ∀ i, ∀ h : i < x.bs.length, ∀ p ∈ x.bs[i], bkt x.bs p.k = i
  n : x.n = x.bs.flatten.length
theorem flatten_set_length (bs : List (List Pr)) (i : Nat) (h : i < bs.length) (l : List Pr) : (bs.set i l).flatten.length + bs[i].length = bs.flatten.length + l.length := by
  have h1 : bs.flatten.length = (bs.take i).flatten.length + (bs.drop i).flatten.length := by
    rw [← List.length_append, ← List.flatten_append, List.take_append_drop]
  rw [List.drop_eq_getElem_cons h, List.flatten_cons, List.length_append] at h1
  rw [List.set_eq_take_append_cons_drop, if_pos h, List.flatten_append, List.flatten_cons, List.length_append, List.length_append]
  omega
theorem bkt_set (bs : List (List Pr)) (i : Nat) (l : List Pr) (key : ByteArray) : bkt (bs.set i l) key = bkt bs key := by unfold bkt; rw [List.length_set]
theorem atB_set {bs : List (List Pr)} (h : 0 < bs.length) (i : Nat) (hi : i < bs.length) (l : List Pr) (key : ByteArray) : atB (bs.set i l) key = if i = bkt bs key then l else atB bs key := by
  rw [atB_get (by rw [List.length_set]; exact h), atB_get h]
  simp only [bkt_set, List.getElem_set]
theorem IxOk.set {x : Ix} (h : IxOk x) (key : ByteArray) (l : List Pr) (m : Nat) (ho : Once l) (hl : ∀ p ∈ l, p.k = key ∨ p ∈ atB x.bs key) (hm : m + (atB x.bs key).length = x.n + l.length) : IxOk ⟨x.bs.set (bkt x.bs key) l, m⟩ := by
  have hb := bkt_lt h.pos key
  refine ⟨by rw [List.length_set]; exact h.pos, fun a ha => ?_, fun i hi p hp => ?_, ?_⟩
  · rcases List.mem_or_eq_of_mem_set ha with ha | rfl
    · exact h.once a ha
    · exact ho
  · simp only [List.length_set] at hi
    simp only [List.getElem_set] at hp
    rw [bkt_set]
    split at hp
    · rename_i he
      subst he
      rcases hl p hp with h1 | h1
      · rw [h1]
      · rw [atB_get h.pos] at h1
        exact h.home _ hb p h1
    · exact h.home i hi p hp
  · have h1 := flatten_set_length x.bs (bkt x.bs key) hb l
    have h2 := h.n
    rw [atB_get h.pos] at hm
    simp only
    omega
theorem IxOk.once_at {x : Ix} (h : IxOk x) (key : ByteArray) : Once (atB x.bs key) := by rw [atB_get h.pos]; exact h.once _ (List.getElem_mem _)
theorem IxOk.put {x : Ix} (h : IxOk x) (key v : ByteArray) : IxOk (putX x key v) := by
  refine h.set key _ _ (once_putL (h.once_at key)) (fun p hp => (mem_putL hp).imp (fun e => by rw [e]) id) ?_
  have := putL_length (atB x.bs key) key v
  split at this <;> split <;> first | omega | contradiction
theorem getX_put {x : Ix} (h : IxOk x) (key v key' : ByteArray) : getX (putX x key v) key' = if key = key' then some v else getX x key' := by
  unfold getX putX
  simp only
  rw [atB_set h.pos _ (bkt_lt h.pos key)]
  by_cases e : bkt x.bs key = bkt x.bs key'
  · rw [if_pos e, getT_putL]
    have : atB x.bs key = atB x.bs key' := by unfold atB; rw [e]
    rw [this]
  · rw [if_neg e, if_neg (fun hk => e (by rw [hk]))]
def newX (k : Nat) : Ix := ⟨List.replicate k [], 0⟩
theorem IxOk.new {k : Nat} (h : 0 < k) : IxOk (newX k) := by
  refine ⟨by simpa [newX] using h, fun l hl => ?_, fun i hi p hp => ?_, ?_⟩
  · rw [List.eq_of_mem_replicate hl]; exact List.Pairwise.nil
  · simp [newX] at hp
  · simp [newX]
theorem getX_new {k : Nat} (h : 0 < k) (key : ByteArray) : getX (newX k) key = none := by
  unfold getX
  rw [atB_get (by simpa [newX] using h)]
  simp [newX, getT_nil]
end Go.Proofs.YtkklofnabmdmfaaGreatDoor

/- An index: how it lies; a key's bucket and its place there. -/
namespace Go.Proofs.YtkklofnabmdmfaaGreatDoor
open Go.RowKit
set_option linter.unusedVariables false

structure IxAt (w : World) (p g : Nat) (x : Ix) (vs : List Value) : Prop where
  blk : w.heap[p]? = some (.cells #[.slice (some ⟨g, 0, none⟩) x.bs.length x.bs.length, .int .i64 x.n] 125 (0, 0))
  row : w.heap[g]? = some (.cells vs.toArray 134 (0, 0))
  len : vs.length = x.bs.length
  own : ∀ i, ∀ h : i < vs.length, Own w 88 2 vs[i] (x.bs.getD i []).length (encPs (x.bs.getD i []))
  ap : ∀ i j, ∀ hi : i < vs.length, ∀ hj : j < vs.length, i ≠ j → ∀ k, vs[i].ownBlock = some k → vs[j].ownBlock ≠ some k
def FootX (p g : Nat) (vs : List Value) (k : Nat) : Prop := k = p ∨ k = g ∨ ∃ v ∈ vs, v.ownBlock = some k
def IsX (w : World) (p : Nat) (x : Ix) (S : Nat → Prop) : Prop := ∃ g vs, IxAt w p g x vs ∧ ∀ k, S k ↔ FootX p g vs k
theorem IxAt.lt {w : World} {p g : Nat} {x : Ix} {vs : List Value} (h : IxAt w p g x vs) {k : Nat} (hk : FootX p g vs k) : k < w.heap.size := by
  rcases hk with rfl | rfl | ⟨v, hv, hk⟩
  · exact blk_lt h.blk
  · exact blk_lt h.row
  · obtain ⟨i, hi, rfl⟩ := List.getElem_of_mem hv
    exact (h.own i hi).lt hk
theorem IxAt.mod {w w1 : World} {T : Nat → Prop} {p g : Nat} {x : Ix} {vs : List Value} (h : IxAt w p g x vs) (hm : Mod T w w1) (hs : ∀ k, FootX p g vs k → ¬ T k) : IxAt w1 p g x vs where
  blk := hm.blk h.blk (hs p (.inl rfl))
  row := hm.blk h.row (hs g (.inr (.inl rfl)))
  len := h.len
  own := fun i hi => (h.own i hi).mod hm (fun k hk => hs k (.inr (.inr ⟨_, List.getElem_mem _, hk⟩)))
  ap := h.ap
theorem IxAt.mod0 {w w1 : World} {p g : Nat} {x : Ix} {vs : List Value} (h : IxAt w p g x vs) (hm : Mod NoneB w w1) : IxAt w1 p g x vs := h.mod hm (fun _ _ h => h)
theorem IxAt.ne_pg {w : World} {p g : Nat} {x : Ix} {vs : List Value} (h : IxAt w p g x vs) : g ≠ p := tag_ne h.row h.blk (by decide)
theorem IxAt.ne_p {w : World} {p g : Nat} {x : Ix} {vs : List Value} (h : IxAt w p g x vs) {i : Nat} (hi : i < vs.length) {k : Nat} (hk : vs[i].ownBlock = some k) : k ≠ p := by
  obtain ⟨cur, hc⟩ := (h.own i hi).tag hk
  exact tag_ne hc h.blk (by decide)
theorem IxAt.ne_g {w : World} {p g : Nat} {x : Ix} {vs : List Value} (h : IxAt w p g x vs) {i : Nat} (hi : i < vs.length) {k : Nat} (hk : vs[i].ownBlock = some k) : k ≠ g := by
  obtain ⟨cur, hc⟩ := (h.own i hi).tag hk
  exact tag_ne hc h.row (by decide)
theorem IsX.lt {w : World} {p : Nat} {x : Ix} {S : Nat → Prop} (h : IsX w p x S) {k : Nat} (hk : S k) : k < w.heap.size := by
  obtain ⟨g, vs, h1, h2⟩ := h
  exact h1.lt ((h2 k).1 hk)
theorem IsX.mod {w w1 : World} {p : Nat} {x : Ix} {S T : Nat → Prop} (h : IsX w p x S) (hm : Mod T w w1) (ht : ∀ k, S k → ¬ T k) : IsX w1 p x S := by
  obtain ⟨g, vs, h1, h2⟩ := h
  exact ⟨g, vs, h1.mod hm (fun k hk => ht k ((h2 k).2 hk)), h2⟩
theorem IsX.mod0 {w w1 : World} {p : Nat} {x : Ix} {S : Nat → Prop} (h : IsX w p x S) (hm : Mod NoneB w w1) : IsX w1 p x S := h.mod hm (fun _ _ h => h)
/-- From an index in the blocks S to one in S': nothing else has turned; what is new of its blocks is new. -/
def XStep (w : World) (S : Nat → Prop) (p : Nat) (x' : Ix) (w' : World) : Prop := ∃ S', IsX w' p x' S' ∧ Mod S w w' ∧ ∀ k, S' k → S k ∨ w.heap.size ≤ k

theorem bytesWorld_mod (w : World) (e : TypeId) (s : ByteArray) : Mod NoneB w (Lib.bytesWorld w e s) :=
  (((Mod.refl NoneB w).drew).alloc _).trans_new (freeze_mod _ w.heap.size _) (fun k hk => .inr (by rw [hk]; exact Nat.le_refl _))
theorem bytesWorld_rd (w : World) (s : ByteArray) : Rd (Lib.bytesWorld w 5 s) 1 (some ⟨w.heap.size, 0, none⟩) s.data.toList.length (encB s.data.toList) ∨ 9223372036854775807 < s.size := by
  by_cases hs : s.size ≤ 9223372036854775807
  · refine .inl ⟨by rw [encB_length]; omega, by rw [size_data]; exact hs, fun _ => ⟨_, rfl, fun j u hu => ?_⟩⟩
    have hj : j < s.data.toList.length := by
      have := (List.getElem?_eq_some_iff.1 hu).1
      rw [encB_length] at this
      exact this
    rw [add_off]
    have e : (encB s.data.toList)[j]? = some (.int .u8 s.data.toList[j].toNat) := by unfold encB; rw [List.getElem?_map, List.getElem?_eq_getElem hj]; rfl
    rw [e] at hu
    injection hu with hu
    subst hu
    rw [show 0 + j = j from Nat.zero_add j, Lib.bytesWorld_cell _ _ _ _ (by rw [← size_data]; exact hj)]
    rw [List.getD_eq_getElem?_getD, List.getElem?_eq_getElem hj]
    rfl
  · exact .inr (by omega)
theorem conv_bytes (s : ByteArray) (w : World) : (convert 9 25 (.string s)).run Tryz.prog w = .ok (.slice (some ⟨w.heap.size, 0, none⟩) s.size (grownCap w s.size 0 5)) (Lib.bytesWorld w 5 s) :=
  Lib.run_convert_string_bytes w _ _ _ s Tryz.underlying9 Tryz.underlying25 Tryz.underlying5

set_option maxHeartbeats 1000000 in
set_option maxRecDepth 100000 in
theorem isKey_calls (n u key : ByteArray) (kb : Nat) (w : World) (hk : w.heap[kb]? = some (.cells #[.string key] 9 (0, 0))) :
    Calls Tryz.prog 102 #[.agg #[.string n, .string u], .pointer (some ⟨kb, 0, none⟩)] w fun e w' => e = .returned (.bool (decide (n = key))) ∧ Mod NoneB w w' := by
  have hd : decide (n = key) = (n.toList == key.toList) := (beq_toList n key).symm
  have HD := Lib.hid hd
  have hal : Mod NoneB w (w.alloc (.cells #[.string n, .string u] 88)) := (Mod.refl NoneB w).alloc _
  have y0 : (w.alloc (.cells #[.string n, .string u] 88)).cell? ⟨kb, 0, none⟩ = some (.string key) := blk_cell (hal.blk hk (fun h => h)) 0
  clear hd
  go_enter Tryz.func102, Tryz.ntmps102
  go_wp2_with fail
  go_ret
  exact ⟨by rw [HD.out]; rfl, hal⟩

set_option maxHeartbeats 2000000 in
set_option maxRecDepth 100000 in
theorem indexP_calls (l : List Pr) (key : ByteArray) (kb : Nat) (A : Option Addr) (c : Nat) (w : World) (hr : Rd w 2 A l.length (encPs l)) (hk : w.heap[kb]? = some (.cells #[.string key] 9 (0, 0))) :
    Calls Tryz.prog 130 #[.slice A l.length c, .func (.func 102) #[] #[.pointer (some ⟨kb, 0, none⟩)]] w fun e w' => e = .returned (.int .i64 (plc l key)) ∧ Mod NoneB w w' := by
  have hn := hr.2.1
  go_enter Tryz.func130, Tryz.ntmps130
  go_wp2_with fail
  go_loopw [5, 8] (fun x t wr => ∃ j : Nat, t = .int .i64 j ∧ j ≤ l.length ∧ (∀ p ∈ l.take j, p.k ≠ key) ∧ Mod NoneB w wr) (fun _ t _ => l.length - (intOf t).toNat)
  case atStart => exact ⟨0, rfl, by omega, fun p hp => by simp at hp, Mod.refl _ _⟩
  case round =>
    obtain ⟨j, rfl, hj, hno, hm⟩ := hrel
    have HNO := Lib.hid hno
    clear hno
    by_cases hlt : j < l.length
    · obtain ⟨ad, rfl, c0, c1⟩ := hr.pair j hlt
      replace c0 := hm.cell0 c0
      replace c1 := hm.cell0 c1
      have hkw := hm.blk hk (fun h => h)
      have hpos : decide (l[j].k = key) = true → plc l key = j := fun h => by
        unfold plc
        rw [fnd_some hlt (of_decide_eq_true h) HNO.out]
      have htk : decide (l[j].k = key) = false → ∀ p ∈ l.take (j + 1), p.k ≠ key := fun h p hp => by
        rw [List.take_succ_eq_append_getElem hlt] at hp
        rcases List.mem_append.1 hp with hp | hp
        · exact HNO.out p hp
        · rw [List.mem_singleton] at hp
          rw [hp]
          exact of_decide_eq_false h
      obtain ⟨y, hy⟩ : ∃ y, y = l[j] := ⟨_, rfl⟩
      rw [← hy] at c0 c1 hpos htk
      obtain ⟨bt, hbt⟩ : ∃ bt, bt = decide (y.k = key) := ⟨_, rfl⟩
      rw [← hbt] at hpos htk
      have HPOS := Lib.hid hpos
      have HTK := Lib.hid htk
      have HBT := Lib.hid hbt
      have HK := Lib.hid hkw
      clear hy hpos htk hbt hkw
      go_wp2_with fail
      refine (isKey_calls y.k y.v key kb wr HK.out).mono ?_
      rintro e w2 ⟨rfl, hm2⟩
      rw [← HBT.out]
      cases bt with
      | true =>
        have hp := HPOS.out rfl
        have HP := Lib.hid hp
        clear hp
        go_wp2_with fail
        go_ret
        exact ⟨by rw [HP.out]; rfl, hm.then0 hm2⟩
      | false =>
        go_wp2_with fail
        go_roundw
        case rel => exact ⟨j + 1, by go_num, by omega, HTK.out trivial, hm.then0 hm2⟩
        case measure => simp [intOf]; omega
    · have hall : l.take j = l := List.take_of_length_le (by omega)
      have hno := HNO.out
      rw [hall] at hno
      have hp : plc l key = -1 := by unfold plc; rw [fnd_none hno]
      have HP := Lib.hid hp
      clear hall hno hp
      go_wp2_with fail
      go_ret
      exact ⟨by rw [HP.out]; rfl, hm⟩

set_option maxHeartbeats 1000000 in
set_option maxRecDepth 100000 in
theorem bfind_calls (l : List Pr) (key : ByteArray) (kb g i : Nat) (A : Option Addr) (c : Nat) (w : World) (hc : w.cell? ⟨g, i, none⟩ = some (.slice A l.length c)) (hr : Rd w 2 A l.length (encPs l)) (hk : w.heap[kb]? = some (.cells #[.string key] 9 (0, 0))) :
    Calls Tryz.prog 101 #[.pointer (some ⟨g, i, none⟩), .func (.func 102) #[] #[.pointer (some ⟨kb, 0, none⟩)]] w fun e w' => e = .returned (.int .i64 (plc l key)) ∧ Mod NoneB w w' := by
  go_enter Tryz.func101, Tryz.ntmps101
  go_wp2_with fail
  refine (indexP_calls l key kb A c w hr hk).mono ?_
  rintro e w2 ⟨rfl, hm2⟩
  go_wp2_with fail
  go_ret
  exact ⟨rfl, hm2⟩
end Go.Proofs.YtkklofnabmdmfaaGreatDoor

/- A key's bucket and its place there: index.at. -/
namespace Go.Proofs.YtkklofnabmdmfaaGreatDoor
open Go.RowKit
set_option linter.unusedVariables false

set_option maxHeartbeats 2000000 in
set_option maxRecDepth 100000 in
theorem at_calls (w : World) (p g : Nat) (x : Ix) (vs : List Value) (key : ByteArray) (h : IxAt w p g x vs) (hpos : 0 < x.bs.length) (hlen : x.bs.length ≤ 1024) (hks : key.size ≤ 1000000) :
    Calls Tryz.prog 64 #[.pointer (some ⟨p, 0, none⟩), .string key] w fun e w' => e = .returned (.tuple #[.pointer (some ⟨g, bkt x.bs key, none⟩), .int .i64 (plc (atB x.bs key) key)]) ∧ Mod NoneB w w' := by
  have hsum : ∀ w' : World, Calls Tryz.prog 93 #[.slice (some ⟨w'.heap.size, 0, none⟩) key.size (grownCap w' key.size 0 5)] (Lib.bytesWorld w' 5 key) fun e w'' => e = .returned (.int .i64 (crcB key.data.toList : Nat)) ∧ w'' = Lib.bytesWorld w' 5 key := by
    intro w'
    have hr := (bytesWorld_rd w' key).resolve_right (by omega)
    have h1 := sum_calls key.data.toList (some ⟨w'.heap.size, 0, none⟩) (grownCap w' key.size 0 5) _ hr
    rw [size_data] at h1
    exact h1
  have hcv := fun w' => conv_bytes key w'
  have hbl := bkt_lt hpos key
  have hal : Mod NoneB w (w.alloc (.cells #[.string key] 9)) := (Mod.refl NoneB w).alloc _
  have hnew := heap_alloc_new w (.cells #[.string key] 9)
  have h1 := h.mod0 hal
  have hmb : Mod NoneB w (Lib.bytesWorld (w.alloc (.cells #[.string key] 9)).drew 5 key) := (hal.drew).then0 (bytesWorld_mod _ _ _)
  have hmb1 : Mod NoneB (w.alloc (.cells #[.string key] 9)) (Lib.bytesWorld (w.alloc (.cells #[.string key] 9)).drew 5 key) := ((Mod.refl NoneB _).drew).then0 (bytesWorld_mod _ _ _)
  have y0 : (w.alloc (.cells #[.string key] 9)).cell? ⟨p, 0, none⟩ = some (.slice (some ⟨g, 0, none⟩) x.bs.length x.bs.length) := blk_cell h1.blk 0
  have y1 : (Lib.bytesWorld (w.alloc (.cells #[.string key] 9)).drew 5 key).cell? ⟨p, 0, none⟩ = some (.slice (some ⟨g, 0, none⟩) x.bs.length x.bs.length) := blk_cell (h1.mod0 hmb1).blk 0
  have k0 : (w.alloc (.cells #[.string key] 9)).cell? ⟨w.heap.size, 0, none⟩ = some (.string key) := blk_cell hnew 0
  have hrem : (((crcB key.data.toList : Nat) : Int)).tmod (x.bs.length : Int) = (bkt x.bs key : Nat) := by unfold bkt; rw [Int.tmod_eq_emod_of_nonneg (by omega)]; omega
  have hfind : Calls Tryz.prog 101 #[.pointer (some ⟨g, bkt x.bs key, none⟩), .func (.func 102) #[] #[.pointer (some ⟨w.heap.size, 0, none⟩)]] (Lib.bytesWorld (w.alloc (.cells #[.string key] 9)).drew 5 key) fun e w' => e = .returned (.int .i64 (plc (atB x.bs key) key)) ∧ Mod NoneB w w' := by
    have h2 := h1.mod0 hmb1
    have hi : bkt x.bs key < vs.length := by rw [h.len]; exact hbl
    obtain ⟨A, c, hv, hr⟩ := (h2.own _ hi).nilD0
    refine (bfind_calls (atB x.bs key) key w.heap.size g (bkt x.bs key) A c _ ?_ hr (hmb1.blk hnew (fun h => h))).mono ?_
    · rw [blk_cell h2.row]
      simp only [List.getElem?_toArray, List.getElem?_eq_getElem hi, hv]
      rfl
    · rintro e w' ⟨rfl, hm⟩
      exact ⟨rfl, hmb.then0 hm⟩
  obtain ⟨pl, hpl⟩ : ∃ pl, pl = plc (atB x.bs key) key := ⟨_, rfl⟩
  rw [← hpl] at hfind ⊢
  obtain ⟨b, hb⟩ : ∃ b, b = bkt x.bs key := ⟨_, rfl⟩
  obtain ⟨sm, hsm⟩ : ∃ sm, sm = crcB key.data.toList := ⟨_, rfl⟩
  obtain ⟨n, hn⟩ : ∃ n, n = x.bs.length := ⟨_, rfl⟩
  rw [← hsm] at hsum hrem
  rw [← hb] at hrem hbl hfind ⊢
  rw [← hn] at hrem hbl y0 y1 hpos hlen
  have hbn : (b : Int) < (n : Int) := by omega
  have hb0 : (0 : Int) ≤ (b : Int) := by omega
  have hn0 : ¬ ((n : Int) = 0) := by omega
  have hn1 : ¬ (n = 0) := by omega
  have hsum1 := hsum (w.alloc (.cells #[.string key] 9)).drew
  rw [show (w.alloc (.cells #[.string key] 9)).drew.heap.size = w.heap.size + 1 from by simp] at hsum1
  have HSUM := Lib.hid hsum1
  have HB := Lib.hid hb
  have HN := Lib.hid hn
  have H1 := Lib.hid h1
  have HNEW := Lib.hid hnew
  have H := Lib.hid h
  have HF := Lib.hid hfind
  clear hsum hsum1 hb hsm hn h1 hnew h hal hmb hmb1 hfind hpl
  go_enter Tryz.func64, Tryz.ntmps64
  go_wp2_with fail
  go_region_law (go_simp; go_at_call 93; (with_reducible refine HSUM.out.mono ?_); rintro ez wz ⟨rfl, rfl⟩)
  all_goals
    clear y0 y1 k0 hcv hrem HSUM
    go_wp2_with ((with_reducible refine HF.out.mono ?_); rintro ez wz ⟨rfl, hmz⟩)
    go_ret2
    exact ⟨rfl, hmz⟩
end Go.Proofs.YtkklofnabmdmfaaGreatDoor

/- An index: New, Put, Get, Del, Len. -/
namespace Go.Proofs.YtkklofnabmdmfaaGreatDoor
open Go.RowKit
set_option linter.unusedVariables false

theorem IxAt.upd {w w' : World} {p g : Nat} {x : Ix} {vs : List Value} {S : Nat → Prop} (h : IxAt w p g x vs) (hS : ∀ k, S k ↔ FootX p g vs k) {i : Nat} (hi : i < vs.length) (v' : Value) (l' : List Pr) (n' : Nat)
    (hm : Mod (fun k => k = p ∨ k = g ∨ vs[i].ownBlock = some k) w w')
    (hb : w'.heap[p]? = some (.cells #[.slice (some ⟨g, 0, none⟩) x.bs.length x.bs.length, .int .i64 n'] 125 (0, 0)))
    (hr : w'.heap[g]? = some (.cells (vs.set i v').toArray 134 (0, 0)))
    (ho : Own w' 88 2 v' l'.length (encPs l')) (hn : NewOr w vs[i] v') : XStep w S p ⟨x.bs.set i l', n'⟩ w' := by
  have hib : i < x.bs.length := by rw [← h.len]; exact hi
  have hap : ∀ j, ∀ hj : j < vs.length, j ≠ i → ∀ k, vs[j].ownBlock = some k → v'.ownBlock ≠ some k := by
    intro j hj hji k hk hv
    rcases hn with hq | ⟨b, hq, hbs⟩
    · rw [hv] at hq
      exact h.ap j i hj hi hji k hk hq.symm
    · rw [hv] at hq
      injection hq with hq
      have := (h.own j hj).lt hk
      omega
  refine ⟨FootX p g (vs.set i v'), ⟨g, vs.set i v', ⟨?_, hr, ?_, ?_, ?_⟩, fun k => Iff.rfl⟩, ?_, ?_⟩
  · simp only [List.length_set]; exact hb
  · simp only [List.length_set]; exact h.len
  · intro j hj
    rw [List.length_set] at hj
    rw [List.getElem_set]
    by_cases hij : i = j
    · subst hij
      rw [if_pos rfl]
      have e : (x.bs.set i l').getD i [] = l' := by rw [List.getD_eq_getElem?_getD, List.getElem?_set_self hib]; rfl
      simp only [e]
      exact ho
    · rw [if_neg hij]
      have e : (x.bs.set i l').getD j [] = x.bs.getD j [] := by rw [List.getD_eq_getElem?_getD, List.getD_eq_getElem?_getD, List.getElem?_set_ne hij]
      simp only [e]
      refine (h.own j hj).mod hm (fun k hk hq => ?_)
      rcases hq with hq | hq | hq
      · exact h.ne_p hj hk hq
      · exact h.ne_g hj hk hq
      · exact h.ap j i hj hi (fun e => hij e.symm) k hk hq
  · intro a b ha hb hab k hk
    rw [List.length_set] at ha hb
    rw [List.getElem_set] at hk ⊢
    by_cases hia : i = a
    · rw [if_pos hia] at hk
      rw [if_neg (fun e => hab (hia.symm.trans e))]
      intro hk2
      exact hap b hb (fun e => hab (hia.symm.trans e.symm)) k hk2 hk
    · rw [if_neg hia] at hk
      by_cases hib2 : i = b
      · rw [if_pos hib2]
        exact hap a ha (fun e => hia e.symm) k hk
      · rw [if_neg hib2]
        exact h.ap a b ha hb hab k hk
  · refine hm.mono (fun k _ hk => (hS k).2 ?_)
    rcases hk with rfl | rfl | hk
    · exact .inl rfl
    · exact .inr (.inl rfl)
    · exact .inr (.inr ⟨_, List.getElem_mem _, hk⟩)
  · intro k hk
    rcases hk with rfl | rfl | ⟨v, hv, hk⟩
    · exact .inl ((hS _).2 (.inl rfl))
    · exact .inl ((hS _).2 (.inr (.inl rfl)))
    · rcases List.mem_or_eq_of_mem_set hv with hv | rfl
      · exact .inl ((hS _).2 (.inr (.inr ⟨v, hv, hk⟩)))
      · rcases hn with hq | ⟨b, hq, hbs⟩
        · exact .inl ((hS _).2 (.inr (.inr ⟨_, List.getElem_mem _, by rw [← hq]; exact hk⟩)))
        · rw [hk] at hq
          injection hq with hq
          exact .inr (by omega)
theorem XStep.back {w w1 w' : World} {S : Nat → Prop} {p : Nat} {x' : Ix} (hm : Mod NoneB w w1) (h : XStep w1 S p x' w') : XStep w S p x' w' := by
  obtain ⟨S', h1, h2, h3⟩ := h
  exact ⟨S', h1, (hm.mono (fun _ _ h => h.elim)).trans h2 (fun _ _ h => h), fun k hk => (h3 k hk).imp id (fun h => Nat.le_trans hm.size h)⟩
structure RoomX (x : Ix) : Prop where
  pos : 0 < x.bs.length
  len : x.bs.length ≤ 1024
  n : x.n ≤ 1000000
  l : ∀ l ∈ x.bs, l.length ≤ 1000000
theorem RoomX.at {x : Ix} (h : RoomX x) (key : ByteArray) : (atB x.bs key).length ≤ 1000000 := by rw [atB_get h.pos]; exact h.l _ (List.getElem_mem _)
theorem plc_hit {l : List Pr} {key : ByteArray} {j : Nat} (h : fnd key l = some j) : plc l key = j := by unfold plc; rw [h]
theorem plc_miss {l : List Pr} {key : ByteArray} (h : fnd key l = none) : plc l key = -1 := by unfold plc; rw [h]
theorem plc_cases (l : List Pr) (key : ByteArray) : (∃ j, ∃ h : j < l.length, plc l key = j ∧ l[j].k = key ∧ fnd key l = some j ∧ getT l key = some l[j].v) ∨ (plc l key = -1 ∧ fnd key l = none ∧ getT l key = none) := by
  cases h : fnd key l with
  | none => exact .inr ⟨plc_miss h, rfl, (fnd_miss h).1⟩
  | some j =>
    obtain ⟨h1, h2, h3⟩ := fnd_get h
    exact .inl ⟨j, h1, plc_hit h, h2, rfl, h3⟩

theorem set_own {vs : List Value} {i : Nat} (h : i < vs.length) : vs.set i vs[i] = vs := List.set_getElem_self h
theorem encPs_put {l : List Pr} {j : Nat} (hj : j < l.length) {key : ByteArray} (hk : l[j].k = key) (v : ByteArray) : (encPs l).set (j * 2 + 1) (.string v) = encPs (l.set j ⟨key, v⟩) := by
  rw [encPs_set l j hj v, hk, List.set_eq_take_append_cons_drop, if_pos hj]

set_option maxHeartbeats 2000000 in
set_option maxRecDepth 100000 in
theorem xput_calls (w : World) (p : Nat) (x : Ix) (S : Nat → Prop) (key val : ByteArray) (h : IsX w p x S) (hr : RoomX x) (hks : key.size ≤ 1000000) :
    Calls Tryz.prog 34 #[.pointer (some ⟨p, 0, none⟩), .string key, .string val] w fun e w' => e = .returned (.tuple #[]) ∧ XStep w S p (putX x key val) w' := by
  obtain ⟨g, vs, h1, hS⟩ := h
  have hi : bkt x.bs key < vs.length := by rw [h1.len]; exact bkt_lt hr.pos key
  have hcs := plc_cases (atB x.bs key) key
  have hat := at_calls w p g x vs key h1 hr.pos hr.len hks
  have hla := hr.at key
  have hn := hr.n
  have hgd : x.bs.getD (bkt x.bs key) [] = atB x.bs key := rfl
  have hpx : putX x key val = ⟨x.bs.set (bkt x.bs key) (putL (atB x.bs key) key val), if getT (atB x.bs key) key = none then x.n + 1 else x.n⟩ := rfl
  obtain ⟨l, hl⟩ : ∃ l, l = atB x.bs key := ⟨_, rfl⟩
  obtain ⟨b, hb⟩ : ∃ b, b = bkt x.bs key := ⟨_, rfl⟩
  rw [← hl] at hcs hat hla hgd hpx
  rw [← hb] at hat hgd hi hpx
  have HAT := Lib.hid hat
  have H1 := Lib.hid h1
  have HS := Lib.hid hS
  have HI := Lib.hid hi
  have HGD := Lib.hid hgd
  have HPX := Lib.hid hpx
  clear h1 hi hat hl hb hr hks hS hgd hpx
  go_enter Tryz.func34, Tryz.ntmps34
  go_wp2_with fail
  refine HAT.out.mono ?_
  rintro e w1 ⟨rfl, hm1⟩
  have h2 := H1.out.mod0 hm1
  have ho := h2.own b HI.out
  rw [HGD.out] at ho
  have hcg : w1.cell? ⟨g, b, none⟩ = some (vs[b]'HI.out) := by
    rw [blk_cell h2.row]
    simp only [List.getElem?_toArray, List.getElem?_eq_getElem HI.out]
  have hfg : w1.frozen? ⟨g, b, none⟩ = false := blk_frozen h2.row b
  have hcn : w1.cell? ⟨p, 1, none⟩ = some (.int .i64 x.n) := blk_cell h2.blk 1
  have hfp : w1.frozen? ⟨p, 1, none⟩ = false := blk_frozen h2.blk 1
  rcases hcs with ⟨j, hj, hp, hk, hf, hg⟩ | ⟨hp, hf, hg⟩
  · rw [hp]
    obtain ⟨gv, c, hv⟩ := ho.addrOf (by omega)
    rw [hv] at ho hcg
    have hc1 := ho.cellAt (j * 2 + 1) (.string l[j].v) (encPs_get l _ hj).2
    have hf1 := ho.frozenAt (j * 2 + 1)
    have e1 : (j : Int) < (l.length : Int) := by omega
    have hstep : XStep w S p (putX x key val) (w1.setCell ⟨gv, j * 2 + 1, none⟩ (.string val)) := by
      have hms : Mod (fun k => k = gv) w1 (w1.setCell ⟨gv, j * 2 + 1, none⟩ (.string val)) := Mod.setCell (S := fun k => k = gv) (Mod.refl _ _) (p := ⟨gv, j * 2 + 1, none⟩) (fun _ => rfl) _
      have hob : (vs[b]'HI.out).ownBlock = some gv := (congrArg Value.ownBlock hv).trans rfl
      have ho2 := ho.set (j * 2 + 1) (.string val)
      rw [encPs_put hj hk] at ho2
      rw [HPX.out, putL_some hf, if_neg (by rw [hg]; simp)]
      refine (h2.upd HS.out HI.out (vs[b]'HI.out) (l.set j ⟨key, val⟩) x.n (hms.mono (fun k _ hk => .inr (.inr (by rw [hk]; exact hob)))) (hms.blk h2.blk (fun e => h2.ne_p HI.out hob e.symm)) ?_ ?_ (.inl rfl)).back hm1
      · rw [set_own]
        exact hms.blk h2.row (fun e => h2.ne_g HI.out hob e.symm)
      · rw [hv, List.length_set]
        exact ho2
    have HST := Lib.hid hstep
    clear hstep hp hk hf hg ho h2 hm1 hcn hfp hfg
    go_wp2_with fail
    refine bodyPost_ret (results_none rfl _ _ _) rfl ?_
    exact ⟨rfl, HST.out⟩
  · rw [hp]
    obtain ⟨A, c, hv, hrl⟩ := ho.nilD0
    have hup := Tryz.underlying44
    have hal : Mod NoneB w1 (w1.alloc (.cells #[.string key, .string val] 88)) := (Mod.refl NoneB w1).alloc _
    have h3 := h2.mod0 hal
    have hox := ho.mod0 hal
    rw [hv] at hox hcg
    have hnx : 0 < 1 → ∃ a, (some ⟨w1.heap.size, 0, none⟩ : Option Addr) = some a ∧ ∀ (j : Nat) u, (encPs [⟨key, val⟩])[j]? = some u → (w1.alloc (.cells #[.string key, .string val] 88)).cell? (a.add j) = some u := (rdBlk (sz := 2) (n := 1) (heap_alloc_new w1 (.cells #[.string key, .string val] 88)) rfl (by omega)).2.2
    have hl32 : (l.length + 1) * 32 ≤ 140737488355328 := by omega
    have HV := Lib.hid hv
    have HF := Lib.hid hf
    have HG := Lib.hid hg
    have H3 := Lib.hid h3
    clear hp hf hg ho h2 hrl hv h3 hcn hfp hfg
    go_wp2_with (at_builtin; refine wpList_append rfl (.tmp 30) (.tmp 34) 44 rfl 88 _ 2 32 hup tiP rfl (by decide) (by decide) _ l.length (encPs l) rfl hox (some ⟨w1.heap.size, 0, none⟩) 1 1 (encPs [⟨key, val⟩]) rfl rfl hnx (encPs_one _) hl32 ?_)
    intro v5 w5 ho5 hm5 hno5
    have hob : ∀ k, OnlyBlk (.slice A l.length c) k → (vs[b]'HI.out).ownBlock = some k := fun k hk => by rw [HV.out]; exact hk
    have hb5 : w5.heap[p]? = some (.cells #[.slice (some ⟨g, 0, none⟩) x.bs.length x.bs.length, .int .i64 x.n] 125 (0, 0)) := hm5.blk H3.out.blk (fun hk => H3.out.ne_p HI.out (hob _ hk) rfl)
    have hr5 : w5.heap[g]? = some (.cells vs.toArray 134 (0, 0)) := hm5.blk H3.out.row (fun hk => H3.out.ne_g HI.out (hob _ hk) rfl)
    have hf5 : w5.frozen? ⟨g, b, none⟩ = false := blk_frozen hr5 b
    have hc5 : w5.cell? ⟨g, b, none⟩ = some (vs[b]'HI.out) := by
      rw [blk_cell hr5]
      simp only [List.getElem?_toArray, List.getElem?_eq_getElem HI.out]
    have hms : Mod (fun k => k = g) w5 (w5.setCell ⟨g, b, none⟩ v5) := Mod.setCell (S := fun k => k = g) (Mod.refl _ _) (p := ⟨g, b, none⟩) (fun _ => rfl) _
    have hr6 : (w5.setCell ⟨g, b, none⟩ v5).heap[g]? = some (.cells (vs.set b v5).toArray 134 (0, 0)) := (setCell_blk hr5).trans (by simp)
    have hb6 := hms.blk hb5 (fun e => H3.out.ne_pg e.symm)
    have ho6 : Own (w5.setCell ⟨g, b, none⟩ v5) 88 2 v5 (l.length + 1) (encPs l ++ encPs [⟨key, val⟩]) := ho5.mod hms (fun k hk e => by
      subst e
      obtain ⟨c', hc'⟩ := ho5.tag hk
      exact tag_ne hr5 hc' (by decide) rfl)
    have hn6 : (w5.setCell ⟨g, b, none⟩ v5).cell? ⟨p, 1, none⟩ = some (.int .i64 x.n) := blk_cell hb6 1
    have hfp6 : (w5.setCell ⟨g, b, none⟩ v5).frozen? ⟨p, 1, none⟩ = false := blk_frozen hb6 1
    have en : IntKind.i64.wrap ((x.n : Int) + 1) = x.n + 1 := IntWalk.i64_in _ (by omega)
    have hmw6 : Mod (fun k => k = p ∨ k = g ∨ (vs[b]'HI.out).ownBlock = some k) w1 (w5.setCell ⟨g, b, none⟩ v5) :=
      ((hal.mono (fun _ _ h => h.elim)).trans hm5 (fun k _ hk => .inr (.inr (hob k hk)))).trans hms (fun k _ hk => .inr (.inl hk))
    have hno1 : NewOr w1 (vs[b]'HI.out) v5 := by rw [HV.out]; exact hno5.back hal.size
    have hstep : XStep w S p (putX x key val) ((w5.setCell ⟨g, b, none⟩ v5).setCell ⟨p, 1, none⟩ (.int .i64 ((x.n : Int) + 1))) := by
      have hmp : Mod (fun k => k = p) (w5.setCell ⟨g, b, none⟩ v5) ((w5.setCell ⟨g, b, none⟩ v5).setCell ⟨p, 1, none⟩ (.int .i64 ((x.n : Int) + 1))) := Mod.setCell (S := fun k => k = p) (Mod.refl _ _) (p := ⟨p, 1, none⟩) (fun _ => rfl) _
      rw [HPX.out, putL_none HF.out, if_pos HG.out]
      refine ((H1.out.mod0 hm1).upd HS.out HI.out v5 (l ++ [⟨key, val⟩]) (x.n + 1) (hmw6.trans hmp (fun k _ hk => .inl hk)) ((setCell_blk hb6).trans rfl) (hmp.blk hr6 (fun e => H3.out.ne_pg e)) ?_ hno1).back hm1
      have e : encPs (l ++ [⟨key, val⟩]) = encPs l ++ encPs [⟨key, val⟩] := by unfold encPs; rw [List.flatMap_append]
      rw [e, List.length_append]
      refine ho6.mod hmp (fun k hk e => ?_)
      subst e
      obtain ⟨c', hc'⟩ := ho6.tag hk
      exact tag_ne hb6 hc' (by decide) rfl
    obtain ⟨V5, cv5, rfl, _, _, _⟩ := ho5.out
    have HST := Lib.hid hstep
    clear hstep ho5 ho6 hox hnx hno5 hno1 hmw6 hms hb5 hr5 hr6 hb6 hcg
    go_wp2_with fail
    go_end0
    exact ⟨rfl, HST.out⟩

set_option maxHeartbeats 2000000 in
set_option maxRecDepth 100000 in
theorem xnew_calls (z : Int) (w : World) :
    Calls Tryz.prog 32 #[.int .i64 z] w fun e w' => ∃ p S k, e = .returned (.pointer (some ⟨p, 0, none⟩)) ∧ 0 < k ∧ k ≤ 1024 ∧ IsX w' p (newX k) S ∧ Mod NoneB w w' ∧ ∀ j, S j → w.heap.size ≤ j := by
  obtain ⟨k, hk⟩ : ∃ k : Nat, (k : Int) = max 1 (min z 1024) := ⟨(max 1 (min z 1024)).toNat, by omega⟩
  have hk1 : 0 < k := by omega
  have hk2 : k ≤ 1024 := by omega
  have hti : TI Tryz.prog 134 (.agg #[.slice none 0 0]) 1 24 := by unfold TI; kernel_rfl
  obtain ⟨i, hi, hz, hsz, hby⟩ := hti.parts
  have hmk := run_make (P := Tryz.prog) w 123 134 i (.agg #[.slice none 0 0]) Tryz.underlying123 hi hz .i64 .i64 (max 1 (min z 1024)) (max 1 (min z 1024)) (by omega) (Int.le_refl _) (by rw [hby]; omega) (by omega)
  have hkn : (max 1 (min z 1024)).toNat = k := by omega
  rw [hkn, hsz, Nat.mul_one] at hmk
  obtain ⟨C, hC⟩ : ∃ C, C = madeCells (Value.agg #[.slice none 0 0]).cells k := ⟨_, rfl⟩
  rw [← hC] at hmk
  have hCl : C = (List.replicate k (Value.slice none 0 0)).toArray := by
    rw [hC]
    apply Array.ext
    · simp [madeCells]
    · intro j h1 h2
      simp [madeCells, Value.cells]
      rw [Nat.mod_one]
      rfl
  have HCL := Lib.hid hCl
  clear hti hi hz hsz hby hkn hC hCl hk
  go_enter Tryz.func32, Tryz.ntmps32
  go_wp2_with fail
  go_ret
  obtain ⟨hg, hp⟩ := box2 w (.cells C 134) (.cells #[.slice (some ⟨w.heap.size, 0, none⟩) k k, .int .i64 0] 125)
  have hm : Mod NoneB w ((w.alloc (.cells C 134)).alloc (.cells #[.slice (some ⟨w.heap.size, 0, none⟩) k k, .int .i64 0] 125)) := ((Mod.refl NoneB w).alloc _).alloc _
  have e1 : (newX k).bs.length = k := by simp [newX]
  have hno : ∀ j, ∀ h : j < (List.replicate k (Value.slice none 0 0)).length, (List.replicate k (Value.slice none 0 0))[j] = .slice none 0 0 := fun j h => by simp
  refine ⟨w.heap.size + 1, FootX (w.heap.size + 1) w.heap.size (List.replicate k (.slice none 0 0)), k, by simp, hk1, hk2, ⟨w.heap.size, List.replicate k (.slice none 0 0), ⟨?_, ?_, by rw [e1]; simp, ?_, ?_⟩, fun _ => Iff.rfl⟩, hm, ?_⟩
  · rw [e1]; exact hp
  · rw [← HCL.out]; exact hg
  · intro j hj
    have e2 : (newX k).bs.getD j [] = [] := by
      rw [List.getD_eq_getElem?_getD]
      simp only [newX, List.getElem?_replicate]
      split <;> rfl
    rw [hno j hj, e2]
    exact Own.nil _ _ _
  · intro a b ha hb _ x hx
    rw [hno a ha] at hx
    cases hx
  · intro j hj
    rcases hj with rfl | rfl | ⟨v, hv, hj⟩
    · omega
    · exact Nat.le_refl _
    · rw [List.eq_of_mem_replicate hv] at hj
      cases hj
end Go.Proofs.YtkklofnabmdmfaaGreatDoor
