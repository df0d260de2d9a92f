/- A key's bucket and its place there: index.at. -/
import Derived.Test.YtfbnkbdolimojaaIxF
import Derived.Deep.DrawnRows
namespace Go.Proofs.Ytfbnkbdolimojaa
open Go.RowKit
set_option linter.unusedVariables false

set_option maxHeartbeats 2000000 in
set_option maxRecDepth 100000 in
theorem at_calls (w : World) (p g : Nat) (x : Ix) (vs : List Value) (key : ByteArray) (h : IxAt w p g x vs) (hpos : 0 < x.bs.length) (hlen : x.bs.length ≤ 1024) (hks : key.size ≤ 1000000) :
    Calls Try.prog 79 #[.pointer (some ⟨p, 0, none⟩), .string key] w fun e w' => e = .returned (.tuple #[.pointer (some ⟨g, bkt x.bs key, none⟩), .int .i64 (plc (atB x.bs key) key)]) ∧ Mod NoneB w w' := by
  have hsum : ∀ w' : World, Calls Try.prog 112 #[.slice (some ⟨w'.heap.size, 0, none⟩) key.size (grownCap w' key.size 0 5)] (Lib.bytesWorld w' 5 key) fun e w'' => e = .returned (.int .i64 (crcB key.data.toList : Nat)) ∧ w'' = Lib.bytesWorld w' 5 key := by
    intro w'
    have hr := (bytesWorld_rd w' key).resolve_right (by omega)
    have h1 := sum_calls key.data.toList (some ⟨w'.heap.size, 0, none⟩) (grownCap w' key.size 0 5) _ hr
    rw [size_data] at h1
    exact h1
  have hcv := fun w' => conv_bytes key w'
  have hbl := bkt_lt hpos key
  have hal : Mod NoneB w (w.alloc (.cells #[.string key] 9)) := (Mod.refl NoneB w).alloc _
  have hnew := heap_alloc_new w (.cells #[.string key] 9)
  have h1 := h.mod0 hal
  have hmb : Mod NoneB w (Lib.bytesWorld (w.alloc (.cells #[.string key] 9)).drew 5 key) := (hal.drew).then0 (bytesWorld_mod _ _ _)
  have hmb1 : Mod NoneB (w.alloc (.cells #[.string key] 9)) (Lib.bytesWorld (w.alloc (.cells #[.string key] 9)).drew 5 key) := ((Mod.refl NoneB _).drew).then0 (bytesWorld_mod _ _ _)
  have y0 : (w.alloc (.cells #[.string key] 9)).cell? ⟨p, 0, none⟩ = some (.slice (some ⟨g, 0, none⟩) x.bs.length x.bs.length) := blk_cell h1.blk 0
  have y1 : (Lib.bytesWorld (w.alloc (.cells #[.string key] 9)).drew 5 key).cell? ⟨p, 0, none⟩ = some (.slice (some ⟨g, 0, none⟩) x.bs.length x.bs.length) := blk_cell (h1.mod0 hmb1).blk 0
  have k0 : (w.alloc (.cells #[.string key] 9)).cell? ⟨w.heap.size, 0, none⟩ = some (.string key) := blk_cell hnew 0
  have hrem : (((crcB key.data.toList : Nat) : Int)).tmod (x.bs.length : Int) = (bkt x.bs key : Nat) := by unfold bkt; rw [Int.tmod_eq_emod_of_nonneg (by omega)]; omega
  have hfind : Calls Try.prog 119 #[.pointer (some ⟨g, bkt x.bs key, none⟩), .func (.func 120) #[] #[.pointer (some ⟨w.heap.size, 0, none⟩)]] (Lib.bytesWorld (w.alloc (.cells #[.string key] 9)).drew 5 key) fun e w' => e = .returned (.int .i64 (plc (atB x.bs key) key)) ∧ Mod NoneB w w' := by
    have h2 := h1.mod0 hmb1
    have hi : bkt x.bs key < vs.length := by rw [h.len]; exact hbl
    obtain ⟨A, c, hv, hr⟩ := (h2.own _ hi).nilD0
    refine (bfind_calls (atB x.bs key) key w.heap.size g (bkt x.bs key) A c _ ?_ hr (hmb1.blk hnew (fun h => h))).mono ?_
    · rw [blk_cell h2.row]
      simp only [List.getElem?_toArray, List.getElem?_eq_getElem hi, hv]
      rfl
    · rintro e w' ⟨rfl, hm⟩
      exact ⟨rfl, hmb.then0 hm⟩
  obtain ⟨pl, hpl⟩ : ∃ pl, pl = plc (atB x.bs key) key := ⟨_, rfl⟩
  rw [← hpl] at hfind ⊢
  obtain ⟨b, hb⟩ : ∃ b, b = bkt x.bs key := ⟨_, rfl⟩
  obtain ⟨sm, hsm⟩ : ∃ sm, sm = crcB key.data.toList := ⟨_, rfl⟩
  obtain ⟨n, hn⟩ : ∃ n, n = x.bs.length := ⟨_, rfl⟩
  rw [← hsm] at hsum hrem
  rw [← hb] at hrem hbl hfind ⊢
  rw [← hn] at hrem hbl y0 y1 hpos hlen
  have hbn : (b : Int) < (n : Int) := by omega
  have hb0 : (0 : Int) ≤ (b : Int) := by omega
  have hn0 : ¬ ((n : Int) = 0) := by omega
  have hn1 : ¬ (n = 0) := by omega
  have hsum1 := hsum (w.alloc (.cells #[.string key] 9)).drew
  rw [show (w.alloc (.cells #[.string key] 9)).drew.heap.size = w.heap.size + 1 from by simp] at hsum1
  have HSUM := Lib.hid hsum1
  have HB := Lib.hid hb
  have HN := Lib.hid hn
  have H1 := Lib.hid h1
  have HNEW := Lib.hid hnew
  have H := Lib.hid h
  have HF := Lib.hid hfind
  clear hsum hsum1 hb hsm hn h1 hnew h hal hmb hmb1 hfind hpl
  go_enter Try.func79, Try.ntmps79
  go_wp2_with fail
  go_region_law (go_simp; go_at_call 112; (with_reducible refine HSUM.out.mono ?_); rintro ez wz ⟨rfl, rfl⟩)
  all_goals
    clear y0 y1 k0 hcv hrem HSUM
    go_wp2_with ((with_reducible refine HF.out.mono ?_); rintro ez wz ⟨rfl, hmz⟩)
    go_ret2
    exact ⟨rfl, hmz⟩
end Go.Proofs.Ytfbnkbdolimojaa
