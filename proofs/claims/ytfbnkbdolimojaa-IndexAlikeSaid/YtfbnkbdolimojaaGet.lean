/- table.Get: the value of the first pair of a key. -/
import Derived.Test.YtfbnkbdolimojaaApply
namespace Go.Proofs.Ytfbnkbdolimojaa
open Go.RowKit
set_option linter.unusedVariables false

theorem getT_drop {l : List Pr} {key : ByteArray} (h : Rises l) : ∀ j, j ≤ lb l key → getT (l.drop j) key = getT l key := by
  intro j
  induction j with
  | zero => intro _; rfl
  | succ j ih =>
    intro hj
    have hl := lb_le l key
    have hjl : j < l.length := by omega
    rw [← ih (by omega), List.drop_eq_getElem_cons hjl, getT_cons, if_neg]
    intro e
    have := (parts_of_rises h key j hjl).2 (by omega)
    rw [e] at this
    exact lt_irrefl _ this
def getV (l : List Pr) (key : ByteArray) : ByteArray := (getT l key).getD ⟨#[]⟩
def getB (l : List Pr) (key : ByteArray) : Bool := (getT l key).isSome

set_option maxHeartbeats 1000000 in
set_option maxRecDepth 100000 in
theorem get_calls (l : List Pr) (key : ByteArray) (A : Option Addr) (c : Nat) (w : World) (hr : Rd w 2 A l.length (encPs l)) (hsz : l.length ≤ 4611686018427387904) :
    Calls Try.prog 22 #[.slice A l.length c, .string key] w fun e w' => e = .returned (.tuple #[.string (getV l key), .bool (getB l key)]) ∧ Mod NoneB w w' := by
  have hlb := lb_le l key
  go_enter Try.func22, Try.ntmps22
  go_upto_if 8 with ((with_reducible refine (right_calls l A c _ hr).mono ?_); rintro e w1 ⟨rfl, hm1⟩)
  go_cut [6] (fun i wx => ∃ j : Nat, i = .int .i64 j ∧ j ≤ l.length ∧ getT (l.drop j) key = getT l key ∧ Mod NoneB w wx)
  case first =>
    by_cases hR : Rises l
    · have hd : decide (Rises l) = true := decide_eq_true hR
      have HD := Lib.hid hR
      rw [hd]
      clear hd hR
      go_wp2_with fail
      refine (find_calls l key A c _ (parts_of_rises HD.out key) (hr.mod0 hm1) hsz).mono ?_
      rintro e w2 ⟨rfl, hm2⟩
      go_wp2_with fail
      go_meet
      case rel => exact ⟨lb l key, rfl, hlb, getT_drop HD.out _ (Nat.le_refl _), hm1.then0 hm2⟩
    · have hd : decide (Rises l) = false := decide_eq_false hR
      rw [hd]
      clear hd hR
      go_wp2_with fail
      go_meet
      case rel => exact ⟨0, rfl, by omega, rfl, hm1⟩
  case rest =>
    obtain ⟨j0, rfl, hj0, hg0, hm0⟩ := hcut
    have HG0 := Lib.hid hg0
    clear hg0
    go_wp2_with fail
    go_loopw [6] (fun i wr => ∃ j : Nat, i = .int .i64 j ∧ j ≤ l.length ∧ getT (l.drop j) key = getT l key ∧ Mod NoneB w wr) (fun i _ => l.length - (intOf i).toNat)
    case atStart => exact ⟨j0, rfl, hj0, HG0.out, hm0⟩
    case round =>
      clear hm0
      obtain ⟨j, rfl, hj, hg, hm⟩ := hrel
      have HG := Lib.hid hg
      clear hg
      by_cases hlt : j < l.length
      · obtain ⟨ad, rfl, h0, h1⟩ := hr.pair j hlt
        replace h0 := hm.cell0 h0
        replace h1 := hm.cell0 h1
        have hdr : getT (l.drop j) key = if l[j].k = key then some l[j].v else getT (l.drop (j + 1)) key := by rw [List.drop_eq_getElem_cons hlt, getT_cons]
        obtain ⟨p, hp⟩ : ∃ p, p = l[j] := ⟨_, rfl⟩
        rw [← hp] at h0 h1 hdr
        clear hp
        by_cases he : p.k = key
        · have b1 : (p.k.toList == key.toList) = true := by rw [beq_toList]; exact decide_eq_true he
          rw [if_pos he, HG.out] at hdr
          have HDR := Lib.hid hdr
          clear hdr he
          go_wp2_with fail
          go_ret2
          exact ⟨by unfold getV getB; rw [HDR.out]; rfl, hm⟩
        · have b1 : (p.k.toList == key.toList) = false := by rw [beq_toList]; exact decide_eq_false he
          rw [if_neg he, HG.out] at hdr
          have HDR := Lib.hid hdr
          clear hdr he
          go_wp2_with fail
          go_roundw
          case rel => exact ⟨j + 1, by go_num, by omega, HDR.out.symm, hm⟩
          case measure => simp [intOf]; omega
      · have hd : getT l key = none := by
          have h := HG.out
          rw [List.drop_eq_nil_of_le (by omega)] at h
          rw [← h]
          rfl
        have HD := Lib.hid hd
        clear hd
        go_wp2_with fail
        go_ret2
        exact ⟨by unfold getV getB; rw [HD.out]; rfl, hm⟩
end Go.Proofs.Ytfbnkbdolimojaa
