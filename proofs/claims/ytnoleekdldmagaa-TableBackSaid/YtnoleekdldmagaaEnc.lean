/- code.Encode: texts as bytes. -/
import Derived.Test.YtnoleekdldmagaaCode
import Derived.Test.YtnoleekdldmagaaAppStr
import Derived.Test.YtnoleekdldmagaaFlat
namespace Go.Proofs.Ytnoleekdldmagaa
open Go.RowKit
set_option linter.unusedVariables false

def encT (s : ByteArray) : List Value := [.string s]
def encTs (l : List ByteArray) : List Value := l.flatMap encT
theorem tiS : TI Try.prog 9 (.string ⟨#[]⟩) 1 16 := by unfold TI; kernel_rfl
theorem encTs_length (l : List ByteArray) : (encTs l).length = l.length := by
  unfold encTs
  induction l with
  | nil => rfl
  | cons x l ih => rw [List.flatMap_cons, List.length_append, ih, List.length_cons]; show 1 + l.length = l.length + 1; omega
theorem encTs_one (l : List ByteArray) : ∀ u ∈ encTs l, u.oneCell' = true := by
  intro u hu
  obtain ⟨s, _, h⟩ := List.mem_flatMap.1 hu
  unfold encT at h
  rw [List.mem_singleton] at h
  subst h
  rfl
theorem encTs_append (a b : List ByteArray) : encTs (a ++ b) = encTs a ++ encTs b := by unfold encTs; rw [List.flatMap_append]
theorem byteCells_encB (s : ByteArray) : byteCells s = encB s.data.toList := rfl
/-- The bytes behind so many texts. -/
def encUp (l : List ByteArray) (j : Nat) : List UInt8 := u32 l.length ++ (l.take j).flatMap encS
theorem encUp_all (l : List ByteArray) : encUp l l.length = encL l := by unfold encUp encL; rw [List.take_length]
theorem encUp_succ (l : List ByteArray) (j : Nat) (h : j < l.length) : encUp l (j + 1) = encUp l j ++ u32 l[j].size ++ l[j].data.toList := by
  unfold encUp
  rw [List.take_succ_eq_append_getElem h, List.flatMap_append]
  simp [encS, List.append_assoc]
theorem encUp_le (l : List ByteArray) (j : Nat) : (encUp l j).length ≤ (encL l).length := by
  unfold encUp encL
  conv => rhs; rw [← List.take_append_drop j l, List.flatMap_append]
  simp only [List.length_append, u32_length]
  omega

set_option maxHeartbeats 4000000 in
set_option maxRecDepth 100000 in
theorem encode_calls (l : List ByteArray) (A : Option Addr) (c : Nat) (w : World) (hr : Rd w 1 A l.length (encTs l)) (hl : l.length < 4294967296) (hs : ∀ s ∈ l, s.size < 4294967296) (hsz : (encL l).length ≤ 70368744177664) :
    Calls Try.prog 97 #[.slice A l.length c] w fun e w' => ∃ v, e = .returned v ∧ Own w' 5 1 v (encL l).length (encB (encL l)) ∧ Mod NoneB w w' ∧ (∀ g, v.ownBlock = some g → w.heap.size ≤ g) := by
  have hu := Try.underlying35
  have hus := Try.underlying9
  have HSS := Lib.hid hs
  clear hs
  go_enter Try.func97, Try.ntmps97
  go_wp2_with fail
  refine (u32_calls l.length w hl).mono ?_
  rintro e w1 ⟨rfl, hh1, hm1⟩
  have ho1 : Own w1 5 1 (.slice (some ⟨w.heap.size, 0, none⟩) 4 4) 4 (encB (u32 l.length)) := Own.of_blk (cap := 4) hh1 (by omega) (by omega) rfl rfl
  have HO1 := Lib.hid ho1
  clear hh1 ho1
  go_wp2_with fail
  go_loopw [3, 5, 11] (fun v x t wr => ∃ j : Nat, t = .int .i64 j ∧ j ≤ l.length ∧ Own wr 5 1 v (encUp l j).length (encB (encUp l j)) ∧ Mod NoneB w wr ∧ (∀ g, v.ownBlock = some g → w.heap.size ≤ g)) (fun _ _ t _ => l.length - (intOf t).toNat)
  case atStart => exact ⟨0, rfl, by omega, by have e : encUp l 0 = u32 l.length := (by simp [encUp]); rw [e]; exact HO1.out, hm1, fun g h => by simp [Value.ownBlock] at h; omega⟩
  case round =>
    obtain ⟨j, rfl, hj, hoj, hmj, hnj⟩ := hrel
    clear hm1 HO1
    have HNJ := Lib.hid hnj
    clear hnj
    by_cases hlt : j < l.length
    · obtain ⟨ad, rfl, h0, _⟩ := Rd.elem (f := encT) (fun _ => rfl) hr (by decide) j hlt
      replace h0 := hmj.cell0 (h0 _ rfl)
      rw [Nat.mul_one] at h0
      have hsl := HSS.out l[j] (List.getElem_mem _)
      have htk := encUp_succ l j hlt
      have hle := encUp_le l (j + 1)
      rw [htk, List.length_append, List.length_append, u32_length, size_data] at hle
      obtain ⟨s, hss⟩ : ∃ s, s = l[j] := ⟨_, rfl⟩
      rw [← hss] at h0 hsl htk hle
      obtain ⟨b, hb⟩ : ∃ b, b = encUp l j := ⟨_, rfl⟩
      rw [← hb] at hoj htk hle
      obtain ⟨n, hn⟩ : ∃ n, n = b.length := ⟨_, rfl⟩
      rw [← hn] at hoj hle
      have HN := Lib.hid hn
      have HTK := Lib.hid htk
      clear hss hb hn htk
      have hb1 : (n + 4) * 1 ≤ 140737488355328 := by omega
      have hb2 : (n + 4 + s.size) * 1 ≤ 140737488355328 := by omega
      go_wp2_with fail
      refine (u32_calls s.size wr hsl).mono ?_
      rintro e w2 ⟨rfl, hh2, hm2⟩
      have ho2 := hoj.mod0 hm2
      have hnx := (rdBlk (sz := 1) (n := 4) hh2 rfl (by omega)).2.2
      have hm2w := hmj.then0 hm2
      clear hh2
      go_wp2_with (at_builtin; refine wpList_append rfl (.tmp 15) (.tmp 18) 35 rfl 5 _ 1 1 hu tiB rfl (by decide) (by decide) _ n (encB b) rfl ho2 (some ⟨wr.heap.size, 0, none⟩) 4 4 (encB (u32 s.size)) rfl rfl hnx (encB_one _) hb1 ?_)
      intro v3 w3 ho3 hm3 hno3
      obtain ⟨A3, c3, rfl, _, _, _⟩ := ho3.out
      go_wp2_with (at_builtin; refine wpList_append_str rfl (.tmp 19) (.tmp 20) 35 9 rfl 5 _ 1 hu hus tiB rfl (by decide) _ (n + 4) (encB b ++ encB (u32 s.size)) rfl ho3 s rfl hb2 ?_)
      intro v5 w5 ho5 hm5 hno5
      have hv3 : ∀ g, (Value.slice A3 (n + 4) c3).ownBlock = some g → w.heap.size ≤ g := by
        intro g hg
        rcases hno3 with hq | ⟨b, hq, hb⟩
        · exact HNJ.out g (by rw [← hq]; exact hg)
        · rw [hq] at hg
          injection hg with hg
          have h1 := hm2w.size
          omega
      have hm3w : Mod NoneB w w3 := hm2w.trans_new hm3 (fun k hk => .inr (HNJ.out k hk))
      have hm6 : Mod NoneB w w5 := hm3w.trans_new hm5 (fun k hk => .inr (hv3 k hk))
      have hn6 : ∀ g, v5.ownBlock = some g → w.heap.size ≤ g := by
        intro g hg
        rcases hno5 with hq | ⟨b, hq, hb⟩
        · exact hv3 g (by rw [← hq]; exact hg)
        · rw [hq] at hg
          injection hg with hg
          have h1 := hm3w.size
          omega
      have ho6 : Own w5 5 1 v5 (encUp l (j + 1)).length (encB (encUp l (j + 1))) := by
        rw [HTK.out, List.length_append, List.length_append, u32_length, size_data, ← HN.out, encB_append, encB_append, ← byteCells_encB, List.append_assoc]
        exact ho5
      obtain ⟨A5, c5, rfl, _, _, _⟩ := ho5.out
      have HO6 := Lib.hid ho6
      have HN6 := Lib.hid hn6
      clear ho6 hn6 ho5 hno5 ho3 hno3 ho2 hoj hv3 hnx
      go_wp2_with fail
      go_roundw
      case rel => exact ⟨j + 1, by go_num, by omega, HO6.out, hm6, HN6.out⟩
      case measure => simp [intOf]; omega
    · have hje : j = l.length := by omega
      subst hje
      rw [encUp_all] at hoj
      have HOJ := Lib.hid hoj
      obtain ⟨A5, c5, rfl, _, _, _⟩ := hoj.out
      clear hoj
      go_wp2_with fail
      go_ret
      exact ⟨_, rfl, HOJ.out, hmj, HNJ.out⟩
end Go.Proofs.Ytnoleekdldmagaa
