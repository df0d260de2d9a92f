/- Acts on an index as an argument; law 9's heavy: what it lets by. -/
import Derived.Test.YtfbnkbdolimojaaOpen
import Derived.Test.YtfbnkbdolimojaaFlat
namespace Go.Proofs.Ytfbnkbdolimojaa
open Go.RowKit Go.Deep Go.ChangeShapes Go.WideShapes
set_option linter.unusedVariables false

structure Act9 where
  d : Int
  k : ByteArray
  v : ByteArray
def encA9 (a : Act9) : List Value := [.int .i64 a.d, .string a.k, .string a.v]
instance : Inhabited Act9 := ⟨⟨0, ⟨#[]⟩, ⟨#[]⟩⟩⟩
section
variable {H : Type} {enc : TypeId × Value → H} {w : World} {spare : Nat → Bool} {held : Bool}
set_option maxRecDepth 100000 in
theorem elA9 (n : Nat) (cs : List Value) (y : DataW H × List MemPlace) (h : DataW.trod enc Try.prog w 0 spare held n 66 cs = some y) (hl : cs.length = 3) : ∃ o : Act9, cs = encA9 o := by
  obtain ⟨y0, y1, y2, m, _, _, h0, h1, h2⟩ := trod_struct3 Try.underlying66 h
  match cs, hl with
  | [v0, v1, v2], _ =>
    obtain ⟨b, e0, _⟩ := DataW.trod_int (t := 3) Try.underlying3 h0
    obtain ⟨s1, e1, _⟩ := DataW.trod_string (t := 9) Try.underlying9 h1
    obtain ⟨s2, e2, _⟩ := DataW.trod_string (t := 9) Try.underlying9 h2
    have e0' : [v0] = [.int .i64 b] := e0
    have e1' : [v1] = [.string s1] := e1
    have e2' : [v2] = [.string s2] := e2
    simp only [List.cons.injEq, and_true] at e0' e1' e2'
    exact ⟨⟨b, s1, s2⟩, by rw [e0', e1', e2']; rfl⟩
theorem rd_acts9 {A : Option Addr} {n c fuel : Nat} {x : DataW H × List MemPlace} (h : DataW.trod enc Try.prog w 0 spare held fuel 61 [.slice A n c] = some x) :
    ∃ l : List Act9, l.length = n ∧ n ≤ c ∧ c ≤ maxLen ∧ Rd w 3 A n (l.flatMap encA9) :=
  rd_open encA9 3 (fun _ => rfl) Try.underlying61 (by kernel_rfl) elA9 h
end

def LightI (a : Act9) : Prop := a.k.size ≤ 200 ∧ a.v.size ≤ 200
instance (a : Act9) : Decidable (LightI a) := by unfold LightI; exact inferInstance
def HeavyI (l : List Act9) (w : World) (e : Ending) (w' : World) : Prop := ∃ b, e = .returned (.bool b) ∧ Mod NoneB w w' ∧ (b = false → l.length ≤ 300 ∧ ∀ a ∈ l, LightI a)
set_option maxHeartbeats 2000000 in
set_option maxRecDepth 100000 in
theorem heavy9_calls (l : List Act9) (A : Option Addr) (c : Nat) (w : World) (hr : Rd w 3 A l.length (l.flatMap encA9)) :
    Calls Try.prog 34 #[.slice A l.length c] w (HeavyI l w) := by
  have hn := hr.2.1
  go_enter Try.func34, Try.ntmps34
  go_wp2_with fail
  go_loopw [3] (fun i wr => ∃ j : Nat, i = .int .i64 j ∧ j ≤ l.length ∧ j ≤ 400 ∧ (∀ a ∈ l.take j, LightI a) ∧ Mod NoneB w wr) (fun i _ => l.length - (intOf i).toNat)
  case atStart => exact ⟨0, rfl, by omega, by omega, fun a ha => by simp at ha, Mod.refl _ _⟩
  case round =>
    obtain ⟨j, rfl, hj, hj2, hla, hm⟩ := hrel
    have HLA := Lib.hid hla
    clear hla
    by_cases hlt : j < l.length ∧ j < 400
    · obtain ⟨hlt, hlt2⟩ := hlt
      obtain ⟨ad, rfl, h0, hk⟩ := Rd.elem (f := encA9) (fun _ => rfl) hr (by decide) j hlt
      have h1 := hm.cell0 (hk 1 _ (by decide) (by decide) rfl)
      have h2 := hm.cell0 (hk 2 _ (by decide) (by decide) rfl)
      have htk : l.take (j + 1) = l.take j ++ [l[j]] := List.take_succ_eq_append_getElem hlt
      obtain ⟨a, ha⟩ : ∃ a, a = l[j] := ⟨_, rfl⟩
      rw [← ha] at h1 h2 htk
      have HTK := Lib.hid htk
      clear h0 hk ha htk
      by_cases hli : LightI a
      · have hq := hli
        unfold LightI at hq
        obtain ⟨q1, q2⟩ := hq
        have HLI := Lib.hid hli
        clear hli
        go_wp2_with fail
        go_roundw
        case rel =>
          refine ⟨j + 1, by go_num, by omega, by omega, fun x hx => ?_, hm⟩
          rw [HTK.out] at hx
          rcases List.mem_append.1 hx with hx | hx
          · exact HLA.out x hx
          · rw [List.mem_singleton] at hx; subst hx; exact HLI.out
        case measure => simp [intOf]; omega
      · have hq : 200 < a.k.size ∨ 200 < a.v.size := by unfold LightI at hli; omega
        clear hli
        by_cases q1 : 200 < a.k.size
        · clear hq
          go_wp2_with fail
          go_ret
          exact ⟨true, rfl, hm, fun h => by cases h⟩
        · have q2 : 200 < a.v.size := by omega
          clear hq
          go_wp2_with fail
          go_ret
          exact ⟨true, rfl, hm, fun h => by cases h⟩
    · by_cases h3 : 300 < l.length
      · have b1 : decide ((300 : Int) < (l.length : Int)) = true := by simp; omega
        by_cases hle : j < l.length
        · have h4 : ¬ j < 400 := by omega
          clear hlt
          go_wp2_with fail
          go_ret
          exact ⟨true, by first | rfl | simp [b1], hm, fun h => by cases h⟩
        · clear hlt
          go_wp2_with fail
          go_ret
          exact ⟨true, by first | rfl | simp [b1], hm, fun h => by cases h⟩
      · have b1 : decide ((300 : Int) < (l.length : Int)) = false := by simp; omega
        have hle : ¬ j < l.length := by omega
        have hall : l.take j = l := List.take_of_length_le (by omega)
        have hla := HLA.out
        rw [hall] at hla
        have HL := Lib.hid hla
        clear hlt hall hla HLA
        go_wp2_with fail
        go_ret
        exact ⟨false, by first | rfl | simp [b1], hm, fun _ => ⟨by omega, HL.out⟩⟩
end Go.Proofs.Ytfbnkbdolimojaa
