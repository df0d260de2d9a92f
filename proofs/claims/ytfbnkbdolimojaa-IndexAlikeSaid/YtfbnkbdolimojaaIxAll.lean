/- An index: all pairs, by rising keys. -/
import Derived.Test.YtfbnkbdolimojaaIxSort
import Derived.Test.YtfbnkbdolimojaaIxNil
import Derived.Test.YtfbnkbdolimojaaApply
namespace Go.Proofs.Ytfbnkbdolimojaa
open Go.RowKit
set_option linter.unusedVariables false

theorem mem_getT {key v : ByteArray} : ∀ {l : List Pr}, Once l → (getT l key = some v ↔ (⟨key, v⟩ : Pr) ∈ l)
  | [], _ => by simp [getT_nil]
  | p :: l, h => by
    obtain ⟨h1, h2⟩ := (once_cons p l).1 h
    rw [getT_cons, List.mem_cons]
    by_cases he : p.k = key
    · rw [if_pos he]
      constructor
      · intro hv
        injection hv with hv
        exact .inl (by rw [← he, ← hv])
      · rintro (hv | hv)
        · rw [← hv]
        · exact absurd he (h1 _ hv)
    · rw [if_neg he, mem_getT h2]
      constructor
      · exact .inr
      · rintro (hv | hv)
        · exact absurd (by rw [← hv]) he
        · exact hv
theorem once_flatten {x : Ix} (h : IxOk x) : Once x.bs.flatten := by
  unfold Once
  rw [List.pairwise_flatten]
  refine ⟨h.once, ?_⟩
  rw [List.pairwise_iff_getElem]
  intro i j hi hj hij a ha b hb hab
  have h1 := h.home i hi a ha
  have h2 := h.home j hj b hb
  rw [hab] at h1
  omega
theorem mem_flatten {x : Ix} (h : IxOk x) (p : Pr) : p ∈ x.bs.flatten ↔ p ∈ atB x.bs p.k := by
  rw [List.mem_flatten]
  constructor
  · rintro ⟨l, hl, hp⟩
    obtain ⟨i, hi, rfl⟩ := List.getElem_of_mem hl
    have h1 := h.home i hi p hp
    rw [atB_get h.pos]
    simp only [h1]
    exact hp
  · intro hp
    rw [atB_get h.pos] at hp
    exact ⟨_, List.getElem_mem _, hp⟩
/-- What an index holds, sorted, is the map that it is. -/
theorem sorted_map {x : Ix} (h : IxOk x) {m : List Pr} (hp : m.Perm x.bs.flatten) (hs : m.Pairwise fun a b => ¬ cmpS b.k a.k < 0) : Rises m ∧ (∀ key, getT m key = getX x key) ∧ m.length = x.n := by
  have ho : Once m := (hp.pairwise_iff (fun h => Ne.symm h)).2 (once_flatten h)
  refine ⟨?_, fun key => ?_, by rw [h.n]; exact hp.length_eq⟩
  · unfold Rises
    refine (hs.and ho).imp fun {a b} hab => ?_
    rcases lt_tri a.k b.k with h1 | h1 | h1
    · exact h1
    · exact absurd h1 hab.2
    · exact absurd h1 hab.1
  · have key1 : ∀ v, getT m key = some v ↔ getX x key = some v := by
      intro v
      unfold getX
      rw [mem_getT ho, hp.mem_iff, mem_flatten h, mem_getT (h.once_at key)]
    cases h1 : getT m key with
    | some v => exact ((key1 v).1 h1).symm
    | none =>
      cases h2 : getX x key with
      | none => rfl
      | some v => rw [(key1 v).2 h2] at h1; cases h1

theorem take_flatten (bs : List (List Pr)) (j : Nat) (h : j < bs.length) : (bs.take (j + 1)).flatten = (bs.take j).flatten ++ bs[j] := by
  rw [List.take_succ_eq_append_getElem h, List.flatten_append]
  simp
theorem flatten_take_le (bs : List (List Pr)) (j : Nat) : (bs.take j).flatten.length ≤ bs.flatten.length := by
  have h : bs.flatten.length = (bs.take j).flatten.length + (bs.drop j).flatten.length := by
    rw [← List.length_append, ← List.flatten_append, List.take_append_drop]
  omega

set_option maxHeartbeats 2000000 in
set_option maxRecDepth 100000 in
theorem xall_calls (w : World) (p : Nat) (x : Ix) (S : Nat → Prop) (h : IsX w p x S) (hx : IxOk x) (hr : RoomX x) :
    Calls Try.prog 41 #[.pointer (some ⟨p, 0, none⟩)] w fun e w' => ∃ A c m, e = .returned (.slice A m.length c) ∧ m.Perm x.bs.flatten ∧ m.Pairwise (fun a b => ¬ cmpS b.k a.k < 0) ∧ Rd w' 2 A m.length (encPs m) ∧ Mod NoneB w w' ∧ ∀ ad, A = some ad → w.heap.size ≤ ad.block := by
  obtain ⟨g, vs, h1, _⟩ := h
  have hfl : x.bs.flatten.length ≤ 1000000 := by rw [← hx.n]; exact hr.n
  have hlen := hr.len
  have HX1 := Lib.hid h1
  have HFL := Lib.hid hfl
  have y0 : ∀ wr, Mod NoneB w wr → wr.cell? ⟨p, 0, none⟩ = some (.slice (some ⟨g, 0, none⟩) x.bs.length x.bs.length) := fun wr hm => blk_cell (h1.mod0 hm).blk 0
  have y00 : w.cell? ⟨p, 0, none⟩ = some (.slice (some ⟨g, 0, none⟩) x.bs.length x.bs.length) := blk_cell h1.blk 0
  have HY := Lib.hid y0
  obtain ⟨k, hk⟩ : ∃ k, k = x.bs.length := ⟨_, rfl⟩
  rw [← hk] at HY y00 hlen
  have HK := Lib.hid hk
  clear h1 hfl y0 hk hr hx
  go_enter Try.func41, Try.ntmps41
  go_wp2_with fail
  go_loopw [3, 4, 12] (fun v _ t wr => ∃ j : Nat, t = .int .i64 j ∧ j ≤ k ∧ OwnP w.heap.size wr v (x.bs.take j).flatten ∧ Mod NoneB w wr) (fun _ _ t _ => k - (intOf t).toNat)
  case atStart => exact ⟨0, rfl, Nat.zero_le _, OwnP.nil _ _, Mod.refl _ _⟩
  case round =>
    clear y00
    obtain ⟨j, rfl, hj, ho, hm⟩ := hrel
    by_cases hlt : j < k
    · have hjb : j < x.bs.length := by rw [← HK.out]; exact hlt
      have h2 := HX1.out.mod0 hm
      have hi : j < vs.length := by rw [h2.len]; exact hjb
      have hoj := h2.own j hi
      have hgd : x.bs.getD j [] = x.bs[j] := by rw [List.getD_eq_getElem?_getD, List.getElem?_eq_getElem hjb]; rfl
      rw [hgd] at hoj
      have htk := take_flatten x.bs j hjb
      have hle := flatten_take_le x.bs (j + 1)
      rw [htk, List.length_append] at hle
      have hfl := HFL.out
      obtain ⟨A, c, hv, hrj⟩ := hoj.nilD0
      have hcg : wr.cell? ⟨g, j, none⟩ = some (.slice A (x.bs[j]).length c) := by
        rw [blk_cell h2.row]
        simp only [List.getElem?_toArray, List.getElem?_eq_getElem hi, hv]
      have hcp := HY.out wr hm
      obtain ⟨b, hb⟩ : ∃ b, b = x.bs[j] := ⟨_, rfl⟩
      obtain ⟨f, hf⟩ : ∃ f, f = (x.bs.take j).flatten := ⟨_, rfl⟩
      rw [← hb] at hrj hcg htk hle
      rw [← hf] at htk hle ho
      have HTK := Lib.hid htk
      have hsz : (f.length + b.length) * 32 ≤ 140737488355328 := by omega
      have hup := Try.underlying42
      have e1 : (j : Int) < (k : Int) := by omega
      have e0 : (0 : Int) ≤ (j : Int) := by omega
      clear hgd htk hle hfl hv hoj hb hf h2
      obtain ⟨A5, c5, rfl, _⟩ := ho.own.nilD0
      go_wp2_with (at_builtin; refine wpList_append rfl (.tmp 15) (.tmp 23) 42 rfl 102 _ 2 32 hup tiP rfl (by decide) (by decide) _ f.length (encPs f) rfl ho.own A b.length c (encPs b) rfl (encPs_length b) hrj.2.2 (encPs_one _) hsz ?_)
      intro v5 w5 ho5 hm5 hno5
      have hmw := hm.trans_new hm5 (fun k hk => .inr (ho.new k hk))
      have hn5 : ∀ g, v5.ownBlock = some g → w.heap.size ≤ g := by
        intro g hg
        rcases hno5 with hq | ⟨b, hq, hb⟩
        · exact ho.new g (by rw [← hq]; exact hg)
        · rw [hq] at hg
          injection hg with hg
          have h1 := hm.size
          omega
      have ho6 : OwnP w.heap.size w5 v5 (x.bs.take (j + 1)).flatten := by
        rw [HTK.out]
        refine ⟨?_, hn5⟩
        have e : encPs (f ++ b) = encPs f ++ encPs b := by unfold encPs; rw [List.flatMap_append]
        rw [e, List.length_append]
        exact ho5
      obtain ⟨V5, cv5, rfl, _, _, _⟩ := ho5.out
      have HO6 := Lib.hid ho6
      clear ho6 hn5 ho5 ho hno5 hrj hcg hcp
      go_wp2_with fail
      go_roundw
      case rel => exact ⟨j + 1, by go_num, by omega, HO6.out, hmw⟩
      case measure => simp [intOf]; omega
    · have hje : (x.bs.take j).flatten = x.bs.flatten := by rw [List.take_of_length_le (by rw [← HK.out]; omega)]
      rw [hje] at ho
      have hfl := HFL.out
      obtain ⟨f, hf⟩ : ∃ f, f = x.bs.flatten := ⟨_, rfl⟩
      rw [← hf] at ho hfl
      have HF := Lib.hid hf
      have HO := Lib.hid ho
      clear hje hf ho
      rcases Nat.eq_zero_or_pos f.length with h0 | h0
      · obtain rfl : f = [] := List.eq_nil_of_length_eq_zero h0
        obtain ⟨A5, c5, rfl, hr5⟩ := HO.out.own.nilD0
        have hn5 := HO.out.new
        have hal : ∀ ad, A5 = some ad → w.heap.size ≤ ad.block := fun ad hA => hn5 ad.block (by rw [hA]; rfl)
        have HAL := Lib.hid hal
        clear hn5 hal HO
        go_wp2_with ((with_reducible refine (sortP_none _ _ _).mono ?_); rintro ez wz ⟨rfl, rfl⟩)
        go_ret
        exact ⟨A5, c5, [], rfl, by rw [← HF.out], List.Pairwise.nil, hr5, hm, HAL.out⟩
      · have ho := HO.out.own
        have hn5 := HO.out.new
        obtain ⟨g5, c5, rfl⟩ := ho.addrOf h0
        have hg5 : g5 < wr.heap.size := ho.lt rfl
        have hg6 : w.heap.size ≤ g5 := hn5 g5 rfl
        have hso := sortP_calls f g5 c5 wr ho (by omega) hg5
        have HSO := Lib.hid hso
        clear hso hn5 HO
        go_wp2_with fail
        refine HSO.out.mono ?_
        rintro e w5 ⟨rfl, m, hp, hs, hrm, hm5⟩
        have hml : m.length = f.length := hp.length_eq
        have hmw := hm.trans_new hm5 (fun k hk => .inr (by omega))
        clear HSO ho hm5
        go_wp2_with fail
        go_ret
        refine ⟨some ⟨g5, 0, none⟩, c5, m, by rw [hml]; rfl, by rw [← HF.out]; exact hp, hs, by rw [hml]; exact hrm, hmw, fun ad hA => ?_⟩
        injection hA with hA
        rw [← hA]
        exact hg6
end Go.Proofs.Ytfbnkbdolimojaa
