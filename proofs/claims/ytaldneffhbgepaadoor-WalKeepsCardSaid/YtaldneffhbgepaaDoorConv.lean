/- Conversions of bytes: a literal of bytes, bytes to a text. -/
import Derived.Test.YtaldneffhbgepaaDoorNums
import Derived.Laws.BytesString
namespace Go.Proofs.YtaldneffhbgepaaDoor
open Go.RowKit
set_option linter.unusedVariables false

theorem freeze_blk {w : World} {g n : Nat} {cs : Array Value} {T : TypeId} (h : w.heap[g]? = some (.cells cs T (0, 0))) : ∃ f, (w.freeze ⟨g, n, none⟩ 1).heap[g]? = some (.cells cs T f) := by
  refine ⟨(n, n + 1), ?_⟩
  simp only [World.freeze]
  rw [if_neg (by omega)]
  simp only [Array.getElem?_modify]
  simp [h]
theorem freeze_mod (w : World) (g n : Nat) : Mod (fun k => k = g) w (w.freeze ⟨g, n, none⟩ 1) := by
  refine ⟨by simp [World.freeze], by simp [World.freeze], by simp [World.freeze], by simp [World.freeze], fun k _ hn => ?_⟩
  simp only [World.freeze]
  rw [if_neg (by omega)]
  simp only [Array.getElem?_modify]
  rw [if_neg (by omega)]
set_option maxRecDepth 100000 in
theorem conv_lit {w : World} {g n c : Nat} {cs : Array Value} {T : TypeId} (h : w.heap[g]? = some (.cells cs T (0, 0))) :
    ∃ w', (convert 26 26 (.slice (some ⟨g, 0, none⟩) n c)).run Tryd.prog w = .ok (.slice (some ⟨g, 0, none⟩) n c) w' ∧ (∃ f, w'.heap[g]? = some (.cells cs T f)) ∧ Mod (fun k => k = g) w w' := by
  refine ⟨w.freeze ⟨g, cs.size, none⟩ 1, ?_, freeze_blk h, freeze_mod _ _ _⟩
  have hsh : w.shape? g = some (T, cs.size) := by simp [World.shape?, h]
  simp [convert, run_underlying Tryd.underlying26, run_underlying Tryd.underlying5, markStringish, hsh, go_sem]

def strOf (b : List UInt8) : ByteArray := ⟨b.toArray⟩
theorem fold_push (b : List UInt8) (r : ByteArray) : (b.map fun z => (z.toNat : Int)).foldl (fun r n => r.push (UInt8.ofNat n.toNat)) r = ⟨r.data ++ b.toArray⟩ := by
  induction b generalizing r with
  | nil => simp
  | cons x b ih =>
    rw [List.map_cons, List.foldl_cons, ih]
    simp [ByteArray.push]
theorem encB_map (b : List UInt8) : encB b = (b.map fun z => (z.toNat : Int)).map (Value.int .u8) := by simp [encB]
set_option maxRecDepth 100000 in
theorem conv_str {w : World} {A : Option Addr} {c : Nat} {b : List UInt8} (h : Rd w 1 A b.length (encB b)) : (convert 26 9 (.slice A b.length c)).run Tryd.prog w = .ok (.string (strOf b)) w := by
  rw [run_convert_bytes_string w 26 9 5 A b.length c Tryd.underlying26 Tryd.underlying5 Tryd.underlying9]
  rcases Nat.eq_zero_or_pos b.length with h0 | h0
  · obtain rfl : b = [] := List.eq_nil_of_length_eq_zero h0
    cases A with
    | none => simp [Conv.bytesToString, strOf]; rfl
    | some a => exact run_bytesToString w a 0 c [] (by simpa using run_loadCells_list (P := Tryd.prog) (w := w) a [] (fun j v hv => by cases hv))
  · obtain ⟨a, rfl, hc⟩ := h.2.2 h0
    have hl := run_loadCells_list (P := Tryd.prog) (w := w) a (encB b) hc
    rw [encB_length, encB_map] at hl
    rw [run_bytesToString w a b.length c _ hl, fold_push]
    have e : (ByteArray.empty).data = #[] := rfl
    rw [e]
    simp [strOf]
theorem Rd.takeB {w : World} {A : Option Addr} {n m : Nat} {l : List UInt8} (h : Rd w 1 A n (encB l)) (hm : m ≤ n) : Rd w 1 A m (encB (l.take m)) := by
  have hl : l.length = n := by have := h.1; rw [encB_length] at this; omega
  refine ⟨by rw [encB_length, List.length_take]; omega, Nat.le_trans hm h.2.1, fun hp => ?_⟩
  obtain ⟨ad, e, hc⟩ := h.2.2 (by omega)
  refine ⟨ad, e, fun j u hu => hc j u ?_⟩
  unfold encB at *
  rw [List.map_take, List.getElem?_take] at hu
  split at hu
  · exact hu
  · cases hu
theorem conv_strN {w : World} {A : Option Addr} {n c : Nat} {b : List UInt8} (hn : b.length = n) (h : Rd w 1 A n (encB b)) : (convert 26 9 (.slice A n c)).run Tryd.prog w = .ok (.string (strOf b)) w := by
  subst hn; exact conv_str h
theorem strOf_size (b : List UInt8) : (strOf b).size = b.length := by simp [strOf, ByteArray.size]
theorem strOf_append (a b : List UInt8) : strOf (a ++ b) = strOf a ++ strOf b := by
  apply ByteArray.ext
  rw [ByteArray.data_append]
  simp [strOf]
end Go.Proofs.YtaldneffhbgepaaDoor

