/- Layer 9's document's example; IndexNil: an index that there is not has nothing: the walk of the law. -/
import Derived.Test.YtfbnkbdolimojaaIxO
namespace Go.Proofs.Ytfbnkbdolimojaa
open Go.RowKit
set_option linter.unusedVariables false

/-- An index in blocks of one's own: they are all newer than w0, and of what was there nothing has turned. -/
def Xw (w0 w : World) (p : Nat) (x : Ix) : Prop := ∃ S, IsX w p x S ∧ Mod NoneB w0 w ∧ ∀ k, S k → w0.heap.size ≤ k
theorem Xw.step {w0 w w' : World} {p : Nat} {x' : Ix} {S : Nat → Prop} (hm : Mod NoneB w0 w) (hn : ∀ k, S k → w0.heap.size ≤ k) (h : XStep w S p x' w') : Xw w0 w' p x' := by
  obtain ⟨S', h1, h2, h3⟩ := h
  exact ⟨S', h1, hm.trans_new h2 (fun k hk => .inr (hn k hk)), fun k hk => (h3 k hk).elim (hn k) (fun h => Nat.le_trans hm.size h)⟩
theorem Xw.put {w0 w : World} {p : Nat} {x : Ix} (h : Xw w0 w p x) (key val : ByteArray) (hr : RoomX x) (hk : key.size ≤ 1000000) :
    Calls Try.prog 37 #[.pointer (some ⟨p, 0, none⟩), .string key, .string val] w fun e w' => e = .returned (.tuple #[]) ∧ Xw w0 w' p (putX x key val) := by
  obtain ⟨S, h1, h2, h3⟩ := h
  refine (xput_calls w p x S key val h1 hr hk).mono ?_
  rintro e w' ⟨rfl, hs⟩
  exact ⟨rfl, Xw.step h2 h3 hs⟩
theorem Xw.get {w0 w : World} {p : Nat} {x : Ix} (h : Xw w0 w p x) (key : ByteArray) (hr : RoomX x) (hk : key.size ≤ 1000000) :
    Calls Try.prog 38 #[.pointer (some ⟨p, 0, none⟩), .string key] w fun e w' => e = .returned (.tuple #[.string ((getX x key).getD ⟨#[]⟩), .bool (getX x key).isSome]) ∧ Xw w0 w' p x := by
  obtain ⟨S, h1, h2, h3⟩ := h
  refine (xget_calls w p x S key h1 hr hk).mono ?_
  rintro e w' ⟨rfl, hs⟩
  exact ⟨rfl, S, h1.mod0 hs, h2.then0 hs, h3⟩
theorem Xw.len {w0 w : World} {p : Nat} {x : Ix} (h : Xw w0 w p x) : Calls Try.prog 40 #[.pointer (some ⟨p, 0, none⟩)] w fun e w' => e = .returned (.int .i64 x.n) ∧ w' = w := by
  obtain ⟨S, h1, _⟩ := h
  exact xlen_calls w p x S h1
theorem Xw.base {w0 w : World} {p : Nat} {x : Ix} (h : Xw w0 w p x) : Mod NoneB w0 w := by obtain ⟨_, _, h, _⟩ := h; exact h

theorem atB_len {x : Ix} (h : IxOk x) (l : List Pr) (hl : l ∈ x.bs) : l.length ≤ x.n := by
  rw [h.n]
  obtain ⟨i, hi, rfl⟩ := List.getElem_of_mem hl
  have := flatten_set_length x.bs i hi []
  rw [List.length_nil] at this
  omega
theorem IxOk.room {x : Ix} (h : IxOk x) (hl : x.bs.length ≤ 1024) (hn : x.n ≤ 1000000) : RoomX x := ⟨h.pos, hl, hn, fun l hm => Nat.le_trans (atB_len h l hm) hn⟩
theorem putX_len (x : Ix) (key v : ByteArray) : (putX x key v).bs.length = x.bs.length := by simp [putX]
theorem putX_n (x : Ix) (key v : ByteArray) : (putX x key v).n = if getX x key = none then x.n + 1 else x.n := rfl
def sA9 : ByteArray := ⟨#[97]⟩
def s19 : ByteArray := ⟨#[49]⟩
def s29 : ByteArray := ⟨#[50]⟩

set_option maxHeartbeats 2000000 in
set_option maxRecDepth 100000 in
theorem awake9_calls (w : World) : Calls Try.prog 35 #[] w fun e w' => e = .returned (.bool true) ∧ Mod NoneB w w' := by
  go_enter Try.func35, Try.ntmps35
  go_wp2_with fail
  refine (xnew_calls 4 w).mono ?_
  rintro e w1 ⟨p, S, k, rfl, hk0, hk1, hX, hm1, hS⟩
  have hok := IxOk.new hk0
  have hl0 : (newX k).bs.length ≤ 1024 := by simp [newX]; omega
  have hn0 : (newX k).n = 0 := rfl
  have hx0 : Xw w w1 p (newX k) := ⟨S, hX, hm1, hS⟩
  have hok1 := hok.put sA9 s19
  have hok2 := hok1.put sA9 s29
  have hn1 : (putX (newX k) sA9 s19).n = 1 := by rw [putX_n, if_pos (getX_new hk0 _)]; rfl
  have hl1 : (putX (newX k) sA9 s19).bs.length ≤ 1024 := by rw [putX_len]; exact hl0
  have hg1 : getX (putX (newX k) sA9 s19) sA9 = some s19 := by rw [getX_put hok, if_pos rfl]
  have hn2 : (putX (putX (newX k) sA9 s19) sA9 s29).n = 1 := by rw [putX_n, if_neg (by rw [hg1]; simp)]; exact hn1
  have hl2 : (putX (putX (newX k) sA9 s19) sA9 s29).bs.length ≤ 1024 := by rw [putX_len]; exact hl1
  have hg2 : getX (putX (putX (newX k) sA9 s19) sA9 s29) sA9 = some s29 := by rw [getX_put hok1, if_pos rfl]
  have r0 := hok.room hl0 (by omega)
  have r1 := hok1.room hl1 (by omega)
  have r2 := hok2.room hl2 (by omega)
  obtain ⟨x0, h0⟩ : ∃ x0, x0 = newX k := ⟨_, rfl⟩
  rw [← h0] at hx0 r0 r1 r2 hn2 hg2
  obtain ⟨x1, h1⟩ : ∃ x1, x1 = putX x0 sA9 s19 := ⟨_, rfl⟩
  rw [← h1] at r1 r2 hn2 hg2
  obtain ⟨x2, h2⟩ : ∃ x2, x2 = putX x1 sA9 s29 := ⟨_, rfl⟩
  rw [← h2] at r2 hn2 hg2
  have N2 := Lib.hid hn2
  have G2 := Lib.hid hg2
  have H1 := Lib.hid h1
  have H2 := Lib.hid h2
  clear hok hl0 hn0 hok1 hok2 hn1 hl1 hg1 hn2 hl2 hg2 h0 h1 h2 hX hS hm1 hk0 hk1
  have ht : s29.toList = [50] := by rw [ba_toList]; rfl
  go_wp2_with fail
  refine (hx0.put sA9 s19 r0 (by decide)).mono ?_
  rintro e w2 ⟨rfl, hx1⟩
  rw [← H1.out] at hx1
  go_wp2_with fail
  refine (hx1.put sA9 s29 r1 (by decide)).mono ?_
  rintro e w3 ⟨rfl, hx2⟩
  rw [← H2.out] at hx2
  go_wp2_with fail
  refine (hx2.get sA9 r2 (by decide)).mono ?_
  rintro e w4 ⟨rfl, hx3⟩
  rw [G2.out]
  go_wp2_with fail
  refine hx3.len.mono ?_
  rintro e wz ⟨rfl, hwz⟩
  subst hwz
  rw [N2.out]
  have hb := hx3.base
  clear hx0 hx1 hx2 hx3 r0 r1 r2 H1 H2 G2 N2
  go_wp2_with fail
  go_ret
  exact ⟨rfl, hb⟩

set_option maxHeartbeats 2000000 in
set_option maxRecDepth 100000 in
theorem indexNil_walk (s0 : ByteArray) (w : World) : Calls Try.prog 7 #[.string s0] w fun e w' => e = .returned (.bool true) ∧ Mod NoneB w w' := by
  go_enter Try.func7, Try.ntmps7
  go_wp2_with (first
    | ((with_reducible refine (xput_nil _ _ _).mono ?_); rintro ez wz ⟨rfl, rfl⟩)
    | ((with_reducible refine (xget_nil _ _).mono ?_); rintro ez wz ⟨rfl, rfl⟩)
    | ((with_reducible refine (xdel_nil _ _).mono ?_); rintro ez wz ⟨rfl, rfl⟩)
    | ((with_reducible refine (xall_nil _).mono ?_); rintro ez wz ⟨rfl, rfl⟩)
    | ((with_reducible refine (xlen_nil _).mono ?_); rintro ez wz ⟨rfl, rfl⟩)
    | ((with_reducible refine (awake9_calls _).mono ?_); rintro ez wq ⟨rfl, hmq⟩))
  go_ret
  exact ⟨rfl, hmq⟩
end Go.Proofs.Ytfbnkbdolimojaa
