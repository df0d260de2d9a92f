/- table.Encode, table.Decode. -/
import Derived.Test.YtfbnkbdolimojaaTabB
import Derived.Test.YtfbnkbdolimojaaCodec
import Derived.Test.YtfbnkbdolimojaaTabR
namespace Go.Proofs.Ytfbnkbdolimojaa
open Go.RowKit
set_option linter.unusedVariables false

theorem frameRr_eq (p : List UInt8) : frameRr p = frameR p := rfl
set_option maxHeartbeats 4000000 in
set_option maxRecDepth 100000 in
theorem tencode_calls (l : List Pr) (A : Option Addr) (c : Nat) (w : World) (hr : Rd w 2 A l.length (encPs l)) (hs : SmallP l) :
    Calls Try.prog 24 #[.slice A l.length c] w (BytesE (tableR l) w) := by
  by_cases hri : Rises l
  · have ht : tableR l = frameR (encL (tabT l)) := if_pos hri
    have hl1 := hs.1
    have htx := hs.texts
    have htb : (encL (tabT l)).length ≤ 70368744177664 := by
      rw [tabT_bytes]
      have : ∀ m : List Pr, (∀ p ∈ m, p.k.size + p.v.size ≤ 1000000) → (m.map fun p => 8 + p.k.size + p.v.size).sum ≤ m.length * 1000008 := by
        intro m
        induction m with
        | nil => intro _; simp
        | cons p m ih =>
          intro h
          have h1 := h p (List.mem_cons_self ..)
          have h2 := ih (fun q hq => h q (List.mem_cons_of_mem _ hq))
          rw [List.map_cons, List.sum_cons, List.length_cons, Nat.add_mul]
          omega
      have h3 := this l hs.2
      have h4 : l.length * 1000008 ≤ 1000000 * 1000008 := Nat.mul_le_mul_right _ hl1
      omega
    have HT := Lib.hid ht
    have HTX := Lib.hid htx
    have hd : decide (Rises l) = true := decide_eq_true hri
    have HDD := Lib.hid hd
    clear ht htx hs hri hd
    go_enter Try.func24, Try.ntmps24
    go_wp2_with fail
    refine (right_calls l A c w hr).mono ?_
    rintro e w1 ⟨rfl, hm1⟩
    rw [HDD.out]
    go_wp2_with fail
    go_loopw [4, 6, 12] (fun v x t wr => ∃ j : Nat, t = .int .i64 j ∧ j ≤ l.length ∧ Own wr 9 1 v (tabT (l.take j)).length (encTs (tabT (l.take j))) ∧ Mod NoneB w wr ∧ (∀ g, v.ownBlock = some g → w.heap.size ≤ g)) (fun _ _ t _ => l.length - (intOf t).toNat)
    case atStart => exact ⟨0, rfl, by omega, Own.nil _ _ _, hm1, fun g h => by simp [Value.ownBlock] at h⟩
    case round =>
      obtain ⟨j, rfl, hj, hov, hmj, hnv⟩ := hrel
      clear hm1
      have HNV := Lib.hid hnv
      clear hnv
      by_cases hlt : j < l.length
      · obtain ⟨ad, rfl, h0, h1⟩ := hr.pair j hlt
        replace h0 := hmj.cell0 h0
        replace h1 := hmj.cell0 h1
        have htk : tabT (l.take (j + 1)) = tabT (l.take j) ++ [l[j].k, l[j].v] := by rw [List.take_succ_eq_append_getElem hlt, tabT_append]; rfl
        have hlk : (tabT (l.take j)).length ≤ 2000000 := by rw [tabT_length, List.length_take]; omega
        obtain ⟨p, hp⟩ : ∃ p, p = l[j] := ⟨_, rfl⟩
        rw [← hp] at h0 h1 htk
        obtain ⟨ts, hts⟩ : ∃ ts, ts = tabT (l.take j) := ⟨_, rfl⟩
        rw [← hts] at hov htk hlk
        obtain ⟨n, hn⟩ : ∃ n, n = ts.length := ⟨_, rfl⟩
        rw [← hn] at hov hlk
        have HN := Lib.hid hn
        have HTK := Lib.hid htk
        have hus := Try.underlying105
        have h16 : (n + 2) * 16 ≤ 140737488355328 := by omega
        have hal1 : Mod NoneB wr (wr.alloc (.cells #[.string p.k, .string p.v] 102)) := (Mod.refl NoneB wr).alloc _
        have hal : Mod NoneB wr ((wr.alloc (.cells #[.string p.k, .string p.v] 102)).alloc (.cells #[.string p.k, .string p.v] 9)) := hal1.alloc _
        have hox := hov.mod0 hal
        have hnx : 0 < 2 → ∃ a, (some ⟨wr.heap.size + 1, 0, none⟩ : Option Addr) = some a ∧ ∀ (j : Nat) u, (encTs [p.k, p.v])[j]? = some u → ((wr.alloc (.cells #[.string p.k, .string p.v] 102)).alloc (.cells #[.string p.k, .string p.v] 9)).cell? (a.add j) = some u := (rdBlk (sz := 1) (n := 2) (heap_alloc2_new wr (.cells #[.string p.k, .string p.v] 102) (.cells #[.string p.k, .string p.v] 9)) rfl (by omega)).2.2
        clear hp hts hn htk hov
        go_wp2_with (at_builtin; refine wpList_append rfl (.tmp 16) (.tmp 21) 105 rfl 9 _ 1 16 hus tiS rfl (by decide) (by decide) _ n (encTs ts) rfl hox (some ⟨wr.heap.size + 1, 0, none⟩) 2 2 (encTs [p.k, p.v]) rfl rfl hnx (encTs_one _) h16 ?_)
        intro v5 w5 ho5 hm5 hno5
        have hm5w : Mod NoneB w w5 := (hmj.then0 hal).trans_new hm5 (fun k hk => .inr (HNV.out k hk))
        have hn5 : ∀ g, v5.ownBlock = some g → w.heap.size ≤ g := by
          intro g hg
          rcases hno5 with hq | ⟨b, hq, hb⟩
          · exact HNV.out g (by rw [← hq]; exact hg)
          · rw [hq] at hg
            injection hg with hg
            have h1 := (hmj.then0 hal).size
            omega
        have ho6 : Own w5 9 1 v5 (tabT (l.take (j + 1))).length (encTs (tabT (l.take (j + 1)))) := by
          rw [HTK.out, List.length_append, encTs_append, ← HN.out]
          exact ho5
        obtain ⟨A5, c5, rfl, _, _, _⟩ := ho5.out
        have HO6 := Lib.hid ho6
        have HN5 := Lib.hid hn5
        clear ho6 hn5 ho5 hox hnx hno5
        go_wp2_with fail
        go_roundw
        case rel => exact ⟨j + 1, by go_num, by omega, HO6.out, hm5w, HN5.out⟩
        case measure => simp [intOf]; omega
      · have hje : l.take j = l := List.take_of_length_le (by omega)
        rw [hje] at hov
        obtain ⟨A5, c5, rfl, hrt⟩ := hov.nilD0
        clear hov hje
        go_wp2_with fail
        refine (encode_calls (tabT l) A5 c5 wr hrt HTX.out.1 HTX.out.2 htb).mono ?_
        rintro e w6 ⟨v6, rfl, ho6, hm6, hn6⟩
        obtain ⟨A6, c6, rfl, hr6⟩ := ho6.nilD0
        have hmw := hmj.then0 hm6
        clear ho6 hn6 hrt
        go_wp2_with fail
        refine (frame_calls (encL (tabT l)) A6 c6 w6 hr6).mono ?_
        rintro e w7 ⟨v7, rfl, ho7, hm7, hn7⟩
        have hmw7 := hmw.then0 hm7
        have hn7w : ∀ g, v7.ownBlock = some g → w.heap.size ≤ g := fun g hg => Nat.le_trans hmw.size (hn7 g hg)
        have HO7 := Lib.hid ho7
        have HN7 := Lib.hid hn7w
        obtain ⟨A7, c7, rfl, _⟩ := ho7.nilD0
        obtain ⟨R, hR⟩ : ∃ R, R = frameR (encL (tabT l)) := ⟨_, rfl⟩
        rw [← hR] at HO7 HN7 HT ⊢
        clear ho7 hn7 hn7w hr6 hR
        go_wp2_with fail
        go_ret2
        rw [HT.out]
        exact ⟨_, rfl, HO7.out, hmw7, HN7.out⟩
  · have ht : tableR l = ([], 1) := if_neg hri
    have HT := Lib.hid ht
    have hd : decide (Rises l) = false := decide_eq_false hri
    have HDD := Lib.hid hd
    clear ht hs hri hd
    go_enter Try.func24, Try.ntmps24
    go_wp2_with fail
    refine (right_calls l A c w hr).mono ?_
    rintro e w1 ⟨rfl, hm1⟩
    rw [HDD.out]
    go_wp2_with fail
    go_ret2
    rw [HT.out]
    exact ⟨_, rfl, Own.nil _ _ _, hm1, fun g h => by simp [Value.ownBlock] at h⟩
end Go.Proofs.Ytfbnkbdolimojaa
