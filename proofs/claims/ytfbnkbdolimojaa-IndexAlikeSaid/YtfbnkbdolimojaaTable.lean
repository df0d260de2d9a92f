/- table.Apply, table.Get and what they call. -/
import Derived.Test.YtfbnkbdolimojaaPairs
namespace Go.Proofs.Ytfbnkbdolimojaa
open Go.RowKit

set_option maxHeartbeats 1000000 in
set_option maxRecDepth 100000 in
theorem cloneP_calls (l : List Pr) (A : Option Addr) (c : Nat) (w : World) (hr : Rd w 2 A l.length (encPs l)) (hsz : l.length * 32 ≤ 140737488355328) :
    Calls Try.prog 75 #[.slice A l.length c] w fun e w' =>
      ∃ v', e = .returned v' ∧ Own w' 102 2 v' l.length (encPs l) ∧ Mod NoneB w w' ∧ (∀ g, v'.ownBlock = some g → w.heap.size ≤ g) := by
  have hu := Try.underlying42
  have hq : ∀ (a : Option Addr) n c (w : World), (binOp .eql 42 (.slice a n c) (.slice none 0 0)).run Try.prog w = .ok (.bool a.isNone) w := fun a n c w => Lib.run_eql_slice_nil w _ _ a n c 0 0 hu
  cases A with
  | none =>
    have h0 : l = [] := by
      by_cases hp : 0 < l.length
      · obtain ⟨ad, h, _⟩ := hr.2.2 hp
        cases h
      · exact List.eq_nil_of_length_eq_zero (by omega)
    subst h0
    go_enter Try.func75, Try.ntmps75
    go_wp2_with fail
    go_ret
    exact ⟨_, rfl, Own.nil _ _ _, Mod.refl _ _, fun g h => by cases h⟩
  | some ad =>
    go_enter Try.func75, Try.ntmps75
    have hown : Own (w.alloc (.cells #[] 102)) 102 2 (.slice (some ⟨w.heap.size, 0, none⟩) 0 0) 0 [] := Own.of_blk (cap := 0) (heap_alloc_new w _) (by omega) (by omega) (by simp) (by simp)
    have hn : 0 < l.length → ∃ a, (some ad : Option Addr) = some a ∧ ∀ (j : Nat) u, (encPs l)[j]? = some u → (w.alloc (.cells #[] 102)).cell? (a.add j) = some u := by
      intro hp
      obtain ⟨a, h1, h2⟩ := hr.2.2 hp
      exact ⟨a, h1, fun j u hu => ((Mod.refl NoneB w).alloc _).cell0 (h2 j u hu)⟩
    go_wp2_with (at_builtin; refine wpList_append rfl (.tmp 5) (.tmp 6) 42 rfl 102 _ 2 32 hu tiP rfl (by decide) (by decide) _ 0 [] rfl hown (some ad) l.length c (encPs l) rfl (encPs_length l) hn (encPs_one l) ?c1 ?_)
    case c1 => omega
    intro v' w1 ho hm hno
    go_wp2_with fail
    go_ret
    refine ⟨_, rfl, ho, ((Mod.refl NoneB w).alloc _).trans_new hm (fun k hk => .inr ?_), fun g hg => ?_⟩
    · simp [OnlyBlk, Value.ownBlock] at hk; omega
    · rcases hno with h | ⟨b, h, hb⟩
      · have h1 : v'.ownBlock = some g := hg
        rw [h] at h1
        simp [Value.ownBlock] at h1
        omega
      · have h1 : v'.ownBlock = some g := hg
        rw [h] at h1
        simp at h1 hb
        omega

theorem encPs_set (l : List Pr) (i : Nat) (h : i < l.length) (v : ByteArray) : (encPs l).set (i * 2 + 1) (.string v) = encPs (l.take i ++ ⟨l[i].k, v⟩ :: l.drop (i + 1)) := by
  induction l generalizing i with
  | nil => simp at h
  | cons p l ih =>
    cases i with
    | zero => simp [encPs, encP]
    | succ i =>
      have := ih i (by simpa using h)
      rw [show (i + 1) * 2 + 1 = (i * 2 + 1) + 2 from by omega]
      simp only [encPs, List.flatMap_cons, encP, List.cons_append, List.nil_append, List.set_cons_succ, List.take_succ_cons, List.drop_succ_cons, List.getElem_cons_succ] at this ⊢
      rw [this]
theorem putT_length_le (l : List Pr) (key v : ByteArray) : (putT l key v).length ≤ l.length + 1 := by
  unfold putT
  have := lb_le l key
  split <;> simp <;> omega

set_option maxHeartbeats 1000000 in
set_option maxRecDepth 100000 in
theorem put_calls (l : List Pr) (key val : ByteArray) (v : Value) (w : World) (hr : Rises l) (hown : Own w 102 2 v l.length (encPs l)) (hsz : (l.length + 1) * 32 ≤ 140737488355328) :
    Calls Try.prog 76 #[v, .string key, .string val] w fun e w' =>
      ∃ v', e = .returned v' ∧ Own w' 102 2 v' (putT l key val).length (encPs (putT l key val)) ∧ Mod (OnlyBlk v) w w' ∧ NewOr w v v' := by
  have hu := Try.underlying42
  obtain ⟨A, c, rfl, hnc, hcm, hrd⟩ := hown.out
  have hlb := lb_le l key
  cases hh : hitB l key with
  | true =>
    have hlt : lb l key < l.length := by
      unfold hitB at hh
      by_cases h : lb l key < l.length
      · exact h
      · rw [dif_neg h] at hh; cases hh
    have hk : l[lb l key].k = key := by
      unfold hitB at hh
      rw [dif_pos hlt] at hh
      exact cmpS_zero (of_decide_eq_true hh)
    have hput : putT l key val = l.take (lb l key) ++ ⟨l[lb l key].k, val⟩ :: l.drop (lb l key + 1) := by unfold putT; rw [hh, hk]; rfl
    have hlen : (putT l key val).length = l.length := by rw [hput]; simp; omega
    obtain ⟨g, c', he⟩ := hown.addrOf (by omega)
    obtain ⟨rfl, rfl⟩ : A = some ⟨g, 0, none⟩ ∧ c = c' := by injection he with h1 h2 h3; exact ⟨h1, h3⟩
    clear he
    have hset := encPs_set l (lb l key) hlt val
    rw [← hput] at hset
    have HS := Lib.hid hset
    have HL := Lib.hid hlen
    have HH := Lib.hid hh
    clear hput hk hset hlen hh
    go_enter Try.func76, Try.ntmps76
    go_wp2_with fail
    refine (find_calls l key _ _ _ (parts_of_rises hr key) hrd (by omega)).mono ?_
    rintro e w1 ⟨rfl, hm1⟩
    rw [HH.out]
    have ho1 := hown.mod0 hm1
    have hc1 := ho1.cellAt (lb l key * 2 + 1) (.string l[lb l key].v) (encPs_get l _ hlt).2
    have hf1 := ho1.frozenAt (lb l key * 2 + 1)
    go_wp2_with fail
    go_ret
    have ho2 := ho1.set (lb l key * 2 + 1) (.string val)
    rw [HS.out] at ho2
    refine ⟨_, rfl, ?_, (hm1.mono (S' := OnlyBlk (.slice (some ⟨g, 0, none⟩) l.length c)) (fun _ _ h => h.elim)).setCell (p := ⟨g, lb l key * 2 + 1, none⟩) (fun _ => rfl) _, .inl rfl⟩
    rw [HL.out]
    exact ho2
  | false =>
    have hput : putT l key val = l.take (lb l key) ++ ⟨key, val⟩ :: l.drop (lb l key) := by unfold putT; rw [hh]; rfl
    have hlen : (putT l key val).length = l.length + 1 := by rw [hput]; simp; omega
    have HP := Lib.hid hput
    have HL := Lib.hid hlen
    have HH := Lib.hid hh
    clear hput hlen hh
    go_enter Try.func76, Try.ntmps76
    go_wp2_with fail
    refine (find_calls l key _ _ _ (parts_of_rises hr key) hrd (by omega)).mono ?_
    rintro e w1 ⟨rfl, hm1⟩
    rw [HH.out]
    have ho1 := (hown.mod0 hm1)
    have ho2 : Own (w1.alloc (.cells #[.string key, .string val] 102)) 102 2 (.slice A l.length c) l.length (encPs l) := ho1.mod0 ((Mod.refl _ _).alloc _)
    go_wp2_with ((with_reducible refine (insertP_calls l ⟨key, val⟩ (lb l key) _ w1.heap.size _ ho2 hlb (heap_alloc_new w1 _) ?_ hsz).mono ?_))
    · intro g hg
      have := ho1.lt hg
      omega
    · rintro e w2 ⟨v', rfl, ho3, hm3, hno3⟩
      go_wp2_with fail
      go_ret
      refine ⟨_, rfl, ?_, (((hm1.mono (S' := OnlyBlk (.slice A l.length c)) (fun _ _ h => h.elim)).alloc _).trans hm3 (fun _ _ h => h)), ?_⟩
      · rw [HL.out, HP.out]
        exact ho3
      · rcases hno3 with h | ⟨b, h, hb⟩
        · exact .inl h
        · exact .inr ⟨b, h, by have := hm1.size; simp at hb; omega⟩
end Go.Proofs.Ytfbnkbdolimojaa
