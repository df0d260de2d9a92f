/- An index: how it lies; a key's bucket and its place there. -/
import Derived.Test.YtfbnkbdolimojaaIxP
import Derived.Test.YtfbnkbdolimojaaCodec
import Derived.Test.YtfbnkbdolimojaaDkAt
import Derived.Test.YtfbnkbdolimojaaConv
import Derived.Lib.ConvBytes
namespace Go.Proofs.Ytfbnkbdolimojaa
open Go.RowKit
set_option linter.unusedVariables false

structure IxAt (w : World) (p g : Nat) (x : Ix) (vs : List Value) : Prop where
  blk : w.heap[p]? = some (.cells #[.slice (some ⟨g, 0, none⟩) x.bs.length x.bs.length, .int .i64 x.n] 122 (0, 0))
  row : w.heap[g]? = some (.cells vs.toArray 127 (0, 0))
  len : vs.length = x.bs.length
  own : ∀ i, ∀ h : i < vs.length, Own w 102 2 vs[i] (x.bs.getD i []).length (encPs (x.bs.getD i []))
  ap : ∀ i j, ∀ hi : i < vs.length, ∀ hj : j < vs.length, i ≠ j → ∀ k, vs[i].ownBlock = some k → vs[j].ownBlock ≠ some k
def FootX (p g : Nat) (vs : List Value) (k : Nat) : Prop := k = p ∨ k = g ∨ ∃ v ∈ vs, v.ownBlock = some k
def IsX (w : World) (p : Nat) (x : Ix) (S : Nat → Prop) : Prop := ∃ g vs, IxAt w p g x vs ∧ ∀ k, S k ↔ FootX p g vs k
theorem IxAt.lt {w : World} {p g : Nat} {x : Ix} {vs : List Value} (h : IxAt w p g x vs) {k : Nat} (hk : FootX p g vs k) : k < w.heap.size := by
  rcases hk with rfl | rfl | ⟨v, hv, hk⟩
  · exact blk_lt h.blk
  · exact blk_lt h.row
  · obtain ⟨i, hi, rfl⟩ := List.getElem_of_mem hv
    exact (h.own i hi).lt hk
theorem IxAt.mod {w w1 : World} {T : Nat → Prop} {p g : Nat} {x : Ix} {vs : List Value} (h : IxAt w p g x vs) (hm : Mod T w w1) (hs : ∀ k, FootX p g vs k → ¬ T k) : IxAt w1 p g x vs where
  blk := hm.blk h.blk (hs p (.inl rfl))
  row := hm.blk h.row (hs g (.inr (.inl rfl)))
  len := h.len
  own := fun i hi => (h.own i hi).mod hm (fun k hk => hs k (.inr (.inr ⟨_, List.getElem_mem _, hk⟩)))
  ap := h.ap
theorem IxAt.mod0 {w w1 : World} {p g : Nat} {x : Ix} {vs : List Value} (h : IxAt w p g x vs) (hm : Mod NoneB w w1) : IxAt w1 p g x vs := h.mod hm (fun _ _ h => h)
theorem IxAt.ne_pg {w : World} {p g : Nat} {x : Ix} {vs : List Value} (h : IxAt w p g x vs) : g ≠ p := tag_ne h.row h.blk (by decide)
theorem IxAt.ne_p {w : World} {p g : Nat} {x : Ix} {vs : List Value} (h : IxAt w p g x vs) {i : Nat} (hi : i < vs.length) {k : Nat} (hk : vs[i].ownBlock = some k) : k ≠ p := by
  obtain ⟨cur, hc⟩ := (h.own i hi).tag hk
  exact tag_ne hc h.blk (by decide)
theorem IxAt.ne_g {w : World} {p g : Nat} {x : Ix} {vs : List Value} (h : IxAt w p g x vs) {i : Nat} (hi : i < vs.length) {k : Nat} (hk : vs[i].ownBlock = some k) : k ≠ g := by
  obtain ⟨cur, hc⟩ := (h.own i hi).tag hk
  exact tag_ne hc h.row (by decide)
theorem IsX.lt {w : World} {p : Nat} {x : Ix} {S : Nat → Prop} (h : IsX w p x S) {k : Nat} (hk : S k) : k < w.heap.size := by
  obtain ⟨g, vs, h1, h2⟩ := h
  exact h1.lt ((h2 k).1 hk)
theorem IsX.mod {w w1 : World} {p : Nat} {x : Ix} {S T : Nat → Prop} (h : IsX w p x S) (hm : Mod T w w1) (ht : ∀ k, S k → ¬ T k) : IsX w1 p x S := by
  obtain ⟨g, vs, h1, h2⟩ := h
  exact ⟨g, vs, h1.mod hm (fun k hk => ht k ((h2 k).2 hk)), h2⟩
theorem IsX.mod0 {w w1 : World} {p : Nat} {x : Ix} {S : Nat → Prop} (h : IsX w p x S) (hm : Mod NoneB w w1) : IsX w1 p x S := h.mod hm (fun _ _ h => h)
/-- From an index in the blocks S to one in S': nothing else has turned; what is new of its blocks is new. -/
def XStep (w : World) (S : Nat → Prop) (p : Nat) (x' : Ix) (w' : World) : Prop := ∃ S', IsX w' p x' S' ∧ Mod S w w' ∧ ∀ k, S' k → S k ∨ w.heap.size ≤ k

theorem bytesWorld_mod (w : World) (e : TypeId) (s : ByteArray) : Mod NoneB w (Lib.bytesWorld w e s) :=
  (((Mod.refl NoneB w).drew).alloc _).trans_new (freeze_mod _ w.heap.size _) (fun k hk => .inr (by rw [hk]; exact Nat.le_refl _))
theorem bytesWorld_rd (w : World) (s : ByteArray) : Rd (Lib.bytesWorld w 5 s) 1 (some ⟨w.heap.size, 0, none⟩) s.data.toList.length (encB s.data.toList) ∨ 9223372036854775807 < s.size := by
  by_cases hs : s.size ≤ 9223372036854775807
  · refine .inl ⟨by rw [encB_length]; omega, by rw [size_data]; exact hs, fun _ => ⟨_, rfl, fun j u hu => ?_⟩⟩
    have hj : j < s.data.toList.length := by
      have := (List.getElem?_eq_some_iff.1 hu).1
      rw [encB_length] at this
      exact this
    rw [add_off]
    have e : (encB s.data.toList)[j]? = some (.int .u8 s.data.toList[j].toNat) := by unfold encB; rw [List.getElem?_map, List.getElem?_eq_getElem hj]; rfl
    rw [e] at hu
    injection hu with hu
    subst hu
    rw [show 0 + j = j from Nat.zero_add j, Lib.bytesWorld_cell _ _ _ _ (by rw [← size_data]; exact hj)]
    rw [List.getD_eq_getElem?_getD, List.getElem?_eq_getElem hj]
    rfl
  · exact .inr (by omega)
theorem conv_bytes (s : ByteArray) (w : World) : (convert 9 33 (.string s)).run Try.prog w = .ok (.slice (some ⟨w.heap.size, 0, none⟩) s.size (grownCap w s.size 0 5)) (Lib.bytesWorld w 5 s) :=
  Lib.run_convert_string_bytes w _ _ _ s Try.underlying9 Try.underlying33 Try.underlying5

set_option maxHeartbeats 1000000 in
set_option maxRecDepth 100000 in
theorem isKey_calls (n u key : ByteArray) (kb : Nat) (w : World) (hk : w.heap[kb]? = some (.cells #[.string key] 9 (0, 0))) :
    Calls Try.prog 120 #[.agg #[.string n, .string u], .pointer (some ⟨kb, 0, none⟩)] w fun e w' => e = .returned (.bool (decide (n = key))) ∧ Mod NoneB w w' := by
  have hd : decide (n = key) = (n.toList == key.toList) := (beq_toList n key).symm
  have HD := Lib.hid hd
  have hal : Mod NoneB w (w.alloc (.cells #[.string n, .string u] 102)) := (Mod.refl NoneB w).alloc _
  have y0 : (w.alloc (.cells #[.string n, .string u] 102)).cell? ⟨kb, 0, none⟩ = some (.string key) := blk_cell (hal.blk hk (fun h => h)) 0
  clear hd
  go_enter Try.func120, Try.ntmps120
  go_wp2_with fail
  go_ret
  exact ⟨by rw [HD.out]; rfl, hal⟩

set_option maxHeartbeats 2000000 in
set_option maxRecDepth 100000 in
theorem indexP_calls (l : List Pr) (key : ByteArray) (kb : Nat) (A : Option Addr) (c : Nat) (w : World) (hr : Rd w 2 A l.length (encPs l)) (hk : w.heap[kb]? = some (.cells #[.string key] 9 (0, 0))) :
    Calls Try.prog 136 #[.slice A l.length c, .func (.func 120) #[] #[.pointer (some ⟨kb, 0, none⟩)]] w fun e w' => e = .returned (.int .i64 (plc l key)) ∧ Mod NoneB w w' := by
  have hn := hr.2.1
  go_enter Try.func136, Try.ntmps136
  go_wp2_with fail
  go_loopw [5, 8] (fun x t wr => ∃ j : Nat, t = .int .i64 j ∧ j ≤ l.length ∧ (∀ p ∈ l.take j, p.k ≠ key) ∧ Mod NoneB w wr) (fun _ t _ => l.length - (intOf t).toNat)
  case atStart => exact ⟨0, rfl, by omega, fun p hp => by simp at hp, Mod.refl _ _⟩
  case round =>
    obtain ⟨j, rfl, hj, hno, hm⟩ := hrel
    have HNO := Lib.hid hno
    clear hno
    by_cases hlt : j < l.length
    · obtain ⟨ad, rfl, c0, c1⟩ := hr.pair j hlt
      replace c0 := hm.cell0 c0
      replace c1 := hm.cell0 c1
      have hkw := hm.blk hk (fun h => h)
      have hpos : decide (l[j].k = key) = true → plc l key = j := fun h => by
        unfold plc
        rw [fnd_some hlt (of_decide_eq_true h) HNO.out]
      have htk : decide (l[j].k = key) = false → ∀ p ∈ l.take (j + 1), p.k ≠ key := fun h p hp => by
        rw [List.take_succ_eq_append_getElem hlt] at hp
        rcases List.mem_append.1 hp with hp | hp
        · exact HNO.out p hp
        · rw [List.mem_singleton] at hp
          rw [hp]
          exact of_decide_eq_false h
      obtain ⟨y, hy⟩ : ∃ y, y = l[j] := ⟨_, rfl⟩
      rw [← hy] at c0 c1 hpos htk
      obtain ⟨bt, hbt⟩ : ∃ bt, bt = decide (y.k = key) := ⟨_, rfl⟩
      rw [← hbt] at hpos htk
      have HPOS := Lib.hid hpos
      have HTK := Lib.hid htk
      have HBT := Lib.hid hbt
      have HK := Lib.hid hkw
      clear hy hpos htk hbt hkw
      go_wp2_with fail
      refine (isKey_calls y.k y.v key kb wr HK.out).mono ?_
      rintro e w2 ⟨rfl, hm2⟩
      rw [← HBT.out]
      cases bt with
      | true =>
        have hp := HPOS.out rfl
        have HP := Lib.hid hp
        clear hp
        go_wp2_with fail
        go_ret
        exact ⟨by rw [HP.out]; rfl, hm.then0 hm2⟩
      | false =>
        go_wp2_with fail
        go_roundw
        case rel => exact ⟨j + 1, by go_num, by omega, HTK.out trivial, hm.then0 hm2⟩
        case measure => simp [intOf]; omega
    · have hall : l.take j = l := List.take_of_length_le (by omega)
      have hno := HNO.out
      rw [hall] at hno
      have hp : plc l key = -1 := by unfold plc; rw [fnd_none hno]
      have HP := Lib.hid hp
      clear hall hno hp
      go_wp2_with fail
      go_ret
      exact ⟨by rw [HP.out]; rfl, hm⟩

set_option maxHeartbeats 1000000 in
set_option maxRecDepth 100000 in
theorem bfind_calls (l : List Pr) (key : ByteArray) (kb g i : Nat) (A : Option Addr) (c : Nat) (w : World) (hc : w.cell? ⟨g, i, none⟩ = some (.slice A l.length c)) (hr : Rd w 2 A l.length (encPs l)) (hk : w.heap[kb]? = some (.cells #[.string key] 9 (0, 0))) :
    Calls Try.prog 119 #[.pointer (some ⟨g, i, none⟩), .func (.func 120) #[] #[.pointer (some ⟨kb, 0, none⟩)]] w fun e w' => e = .returned (.int .i64 (plc l key)) ∧ Mod NoneB w w' := by
  go_enter Try.func119, Try.ntmps119
  go_wp2_with fail
  refine (indexP_calls l key kb A c w hr hk).mono ?_
  rintro e w2 ⟨rfl, hm2⟩
  go_wp2_with fail
  go_ret
  exact ⟨rfl, hm2⟩
end Go.Proofs.Ytfbnkbdolimojaa
