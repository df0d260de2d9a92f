/- cache.Put, and Get of what was put. -/
import Derived.Test.YtkklofnabmdmfaaGreatDoorCaWQq
namespace Go.Proofs.YtkklofnabmdmfaaGreatDoor
open Go.RowKit
set_option linter.unusedVariables false

/-- A cache in memory: its block c, the map's block mb, what waits. -/
structure CaM (w : World) (c mb : Nat) (P : Option Addr) (b : Bool) (n : Nat) (f : ByteArray → Option ByteArray) (v : Value) (ws : List ByteArray) : Prop where
  blk : w.heap[c]? = some (.cells #[.pointer P, .bool b, .map (some mb), v] 60 (0, 0))
  map : KnM w mb n f
  own : Own w 9 1 v ws.length (encTs ws)
  rises : Rises (asK ws)
  ne : c ≠ mb
  far : ∀ g, v.ownBlock = some g → g ≠ c ∧ g ≠ mb
theorem CaM.mod0 {w w1 : World} {c mb n : Nat} {P : Option Addr} {b : Bool} {f : ByteArray → Option ByteArray} {v : Value} {ws : List ByteArray} (h : CaM w c mb P b n f v ws) (hm : Mod NoneB w w1) : CaM w1 c mb P b n f v ws :=
  ⟨hm.blk h.blk (fun h => h), h.map.mod0 hm, h.own.mod0 hm, h.rises, h.ne, h.far⟩
theorem NewC.ca {w w' : World} {c mb : Nat} {P : Option Addr} {k : Int} (h : NewC w w' c mb P k) : CaM w' c mb P (k != 0) 0 (fun _ => none) (.slice none 0 0) [] :=
  ⟨h.blk, h.map, Own.nil _ _ _, List.Pairwise.nil, h.ne, fun g hg => by simp [Value.ownBlock] at hg⟩
/-- What waits, behind a Put. -/
def wIns (ws : List ByteArray) (s : ByteArray) : List ByteArray := if hitB (asK ws) s then ws else ws.take (lb (asK ws) s) ++ s :: ws.drop (lb (asK ws) s)
theorem wIns_rises {ws : List ByteArray} (h : Rises (asK ws)) (s : ByteArray) : Rises (asK (wIns ws s)) := by
  unfold wIns
  cases hh : hitB (asK ws) s with
  | true => rw [if_pos rfl]; exact h
  | false =>
    rw [if_neg (by decide)]
    have e : asK (ws.take (lb (asK ws) s) ++ s :: ws.drop (lb (asK ws) s)) = putT (asK ws) s ⟨#[]⟩ := by
      rw [putT, hh]
      unfold asK
      rw [List.map_append, List.map_cons, List.map_take, List.map_drop]
      rfl
    rw [e]
    exact rises_putT h s _
def CpP (c mb : Nat) (P : Option Addr) (b : Bool) (n : Nat) (f : ByteArray → Option ByteArray) (v : Value) (ws : List ByteArray) (name value : ByteArray) (w : World) (e : Ending) (w' : World) : Prop :=
  e = .returned (.tuple #[]) ∧ ∃ v', CaM w' c mb P b (n + 1) (updM f name value) v' (wIns ws name) ∧ Mod (fun k => k = c ∨ k = mb ∨ v.ownBlock = some k) w w' ∧ ∀ g, v'.ownBlock = some g → v.ownBlock = some g ∨ w.heap.size ≤ g
set_option maxHeartbeats 4000000 in
set_option maxRecDepth 100000 in
theorem cput_calls {c mb n : Nat} {P : Option Addr} {b : Bool} {f : ByteArray → Option ByteArray} {v : Value} {ws : List ByteArray} {w : World} (h : CaM w c mb P b n f v ws) (hn : n ≤ 1000000) (hws : ws.length ≤ 1000000) (name value : ByteArray) (h1 : name.size ≤ 1073741824) (h2 : value.size ≤ 1073741824) :
    Calls Tryz.prog 8 #[.pointer (some ⟨c, 0, none⟩), .string name, .string value] w (CpP c mb P b n f v ws name value w) := by
  obtain ⟨w1, hst, hk1, hm1⟩ := h.map.store (by unfold maxLen; omega) name value (by unfold maxLen; omega) (by unfold maxLen; omega)
  have c2 := blk_cell h.blk 2
  have hb1 := hm1.blk h.blk (fun e => h.ne e)
  have c3 := blk_cell hb1 3
  have ho1 := h.own.mod hm1 (fun g hg e => (h.far g hg).2 e)
  have hris := h.rises
  have hlt := blk_lt h.blk
  have hne := h.ne
  have hmc := h.map.lt
  have hins := wIns_rises hris name
  have HINS := Lib.hid hins
  have HFAR := Lib.hid h.far
  have OWN := Lib.hid ho1
  have HK1 := Lib.hid hk1
  have HB1 := Lib.hid hb1
  obtain ⟨Av, cv, rfl, _, _, hrv⟩ := ho1.out
  have HBS := Lib.hid (bsearchT_calls ws name Av cv w1 (parts_of_rises hris name) hrv (by omega))
  have hm1' : Mod (fun k => k = c ∨ k = mb ∨ (Value.slice Av ws.length cv).ownBlock = some k) w w1 := hm1.mono fun k _ hk => .inr (.inl hk)
  have hlb := lb_le (asK ws) name
  rw [asK_length] at hlb
  clear h hk1 hb1 ho1 hins hrv hris
  go_enter Tryz.func8, Tryz.ntmps8
  go_wp2_with fail
  refine HBS.out.mono ?_
  rintro e w2 ⟨rfl, hm2⟩
  have hb2 := hm2.blk HB1.out (fun h => h)
  have d3 := blk_cell hb2 3
  cases hh : hitB (asK ws) name with
  | true =>
    have hwi : wIns ws name = ws := by unfold wIns; rw [hh, if_pos rfl]
    have HWI := Lib.hid hwi
    clear hh hwi HBS
    go_wp2_with fail
    go_end0
    refine ⟨rfl, _, ?_, hm1'.then0 hm2, fun g hg => .inl hg⟩
    rw [HWI.out]
    have hi := HINS.out
    rw [HWI.out] at hi
    exact ⟨hb2, HK1.out.mod0 hm2, OWN.out.mod0 hm2, hi, hne, HFAR.out⟩
  | false =>
    have hwi : wIns ws name = ws.take (lb (asK ws) name) ++ name :: ws.drop (lb (asK ws) name) := by unfold wIns; rw [hh, if_neg (by decide)]
    have HWI := Lib.hid hwi
    have hal : Mod NoneB w2 (w2.alloc (.cells #[.string name] 9)) := (Mod.refl _ _).alloc _
    have hlt2 : w.heap.size ≤ w2.heap.size := by have := hm1.size; have := hm2.size; omega
    have HIN := Lib.hid (insertT_calls ws name (lb (asK ws) name) (.slice Av ws.length cv) w2.heap.size (w2.alloc (.cells #[.string name] 9)) ((OWN.out.mod0 hm2).mod0 hal) hlb (heap_alloc_new w2 _) (fun g hg e => by
      have := (OWN.out.mod0 hm2).lt hg
      omega) (by omega))
    clear hh hwi HBS
    go_wp2_with fail
    refine HIN.out.mono ?_
    rintro e w3 ⟨v3, rfl, ho3, hm3, hno3⟩
    have hcv : ¬ OnlyBlk (.slice Av ws.length cv) c := fun hk => (HFAR.out c hk).1 rfl
    have hb3 := hm3.blk (hal.blk hb2 (fun h => h)) hcv
    have e3 := blk_cell hb3 3
    have f3 := blk_frozen hb3 3
    have hv3 : ∀ g, v3.ownBlock = some g → (Value.slice Av ws.length cv).ownBlock = some g ∨ w2.heap.size ≤ g := by
      intro g hg
      rcases hno3 with hq | ⟨b, hq, hb⟩
      · exact .inl (by rw [← hq]; exact hg)
      · rw [hq] at hg
        injection hg with hg
        have := hal.size
        exact .inr (by omega)
    have hb5 := setCell_blk0 (j := 3) (u := v3) hb3
    have HO3 := Lib.hid ho3
    have HV3 := Lib.hid hv3
    have HB5 := Lib.hid hb5
    obtain ⟨A3, c3', rfl, _⟩ := ho3.out
    clear ho3 hv3 hb5 hno3 HIN
    go_wp2_with fail
    go_end0
    have hsc : Mod (fun k => k = c) w3 (w3.setCell ⟨c, 3, none⟩ (.slice A3 (ws.length + 1) c3')) := Mod.setCell (S := fun k => k = c) (Mod.refl _ _) (p := ⟨c, 3, none⟩) (fun _ => rfl) _
    have hfar3 : ∀ g, (Value.slice A3 (ws.length + 1) c3').ownBlock = some g → g ≠ c ∧ g ≠ mb := by
      intro g hg
      rcases HV3.out g hg with h | h
      · exact HFAR.out g h
      · exact ⟨by omega, by omega⟩
    have hlen : (wIns ws name).length = ws.length + 1 := by rw [HWI.out]; simp; omega
    have hmv : ¬ OnlyBlk (.slice Av ws.length cv) mb := fun hk => (HFAR.out mb hk).2 rfl
    refine ⟨rfl, _, ⟨HB5.out, ((((HK1.out.mod0 hm2).mod0 hal).mod hm3 hmv).mod hsc (fun e => hne e.symm)), ?_, HINS.out, hne, hfar3⟩, ?_, ?_⟩
    · rw [hlen, HWI.out]
      exact HO3.out.mod hsc (fun g hg e => (hfar3 g hg).1 e)
    · exact (((hm1'.then0 hm2).then0 hal).trans hm3 (fun k _ hk => .inr (.inr hk))).trans hsc (fun k _ hk => .inl hk)
    · intro g hg
      rcases HV3.out g hg with h | h
      · exact .inl h
      · exact .inr (by omega)
end Go.Proofs.YtkklofnabmdmfaaGreatDoor
