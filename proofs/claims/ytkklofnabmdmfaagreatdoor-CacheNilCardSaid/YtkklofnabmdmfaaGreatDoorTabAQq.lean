/- table.Apply, table.Get and what they call. -/
import Derived.Laws.StructEq
import Derived.Deep.DeepCutAuto
import Derived.Test.YtkklofnabmdmfaaGreatDoorPairsQq
import Derived.Test.YtkklofnabmdmfaaGreatDoorDkFsQq
namespace Go.Proofs.YtkklofnabmdmfaaGreatDoor
open Go.RowKit

set_option maxHeartbeats 1000000 in
set_option maxRecDepth 100000 in
theorem cloneP_calls (l : List Pr) (A : Option Addr) (c : Nat) (w : World) (hr : Rd w 2 A l.length (encPs l)) (hsz : l.length * 32 ≤ 140737488355328) :
    Calls Tryz.prog 60 #[.slice A l.length c] w fun e w' =>
      ∃ v', e = .returned v' ∧ Own w' 88 2 v' l.length (encPs l) ∧ Mod NoneB w w' ∧ (∀ g, v'.ownBlock = some g → w.heap.size ≤ g) := by
  have hu := Tryz.underlying44
  have hq : ∀ (a : Option Addr) n c (w : World), (binOp .eql 44 (.slice a n c) (.slice none 0 0)).run Tryz.prog w = .ok (.bool a.isNone) w := fun a n c w => Lib.run_eql_slice_nil w _ _ a n c 0 0 hu
  cases A with
  | none =>
    have h0 : l = [] := by
      by_cases hp : 0 < l.length
      · obtain ⟨ad, h, _⟩ := hr.2.2 hp
        cases h
      · exact List.eq_nil_of_length_eq_zero (by omega)
    subst h0
    go_enter Tryz.func60, Tryz.ntmps60
    go_wp2_with fail
    go_ret
    exact ⟨_, rfl, Own.nil _ _ _, Mod.refl _ _, fun g h => by cases h⟩
  | some ad =>
    go_enter Tryz.func60, Tryz.ntmps60
    have hown : Own (w.alloc (.cells #[] 88)) 88 2 (.slice (some ⟨w.heap.size, 0, none⟩) 0 0) 0 [] := Own.of_blk (cap := 0) (heap_alloc_new w _) (by omega) (by omega) (by simp) (by simp)
    have hn : 0 < l.length → ∃ a, (some ad : Option Addr) = some a ∧ ∀ (j : Nat) u, (encPs l)[j]? = some u → (w.alloc (.cells #[] 88)).cell? (a.add j) = some u := by
      intro hp
      obtain ⟨a, h1, h2⟩ := hr.2.2 hp
      exact ⟨a, h1, fun j u hu => ((Mod.refl NoneB w).alloc _).cell0 (h2 j u hu)⟩
    go_wp2_with (at_builtin; refine wpList_append rfl (.tmp 5) (.tmp 6) 44 rfl 88 _ 2 32 hu tiP rfl (by decide) (by decide) _ 0 [] rfl hown (some ad) l.length c (encPs l) rfl (encPs_length l) hn (encPs_one l) ?c1 ?_)
    case c1 => omega
    intro v' w1 ho hm hno
    go_wp2_with fail
    go_ret
    refine ⟨_, rfl, ho, ((Mod.refl NoneB w).alloc _).trans_new hm (fun k hk => .inr ?_), fun g hg => ?_⟩
    · simp [OnlyBlk, Value.ownBlock] at hk; omega
    · rcases hno with h | ⟨b, h, hb⟩
      · have h1 : v'.ownBlock = some g := hg
        rw [h] at h1
        simp [Value.ownBlock] at h1
        omega
      · have h1 : v'.ownBlock = some g := hg
        rw [h] at h1
        simp at h1 hb
        omega

theorem encPs_set (l : List Pr) (i : Nat) (h : i < l.length) (v : ByteArray) : (encPs l).set (i * 2 + 1) (.string v) = encPs (l.take i ++ ⟨l[i].k, v⟩ :: l.drop (i + 1)) := by
  induction l generalizing i with
  | nil => simp at h
  | cons p l ih =>
    cases i with
    | zero => simp [encPs, encP]
    | succ i =>
      have := ih i (by simpa using h)
      rw [show (i + 1) * 2 + 1 = (i * 2 + 1) + 2 from by omega]
      simp only [encPs, List.flatMap_cons, encP, List.cons_append, List.nil_append, List.set_cons_succ, List.take_succ_cons, List.drop_succ_cons, List.getElem_cons_succ] at this ⊢
      rw [this]
theorem putT_length_le (l : List Pr) (key v : ByteArray) : (putT l key v).length ≤ l.length + 1 := by
  unfold putT
  have := lb_le l key
  split <;> simp <;> omega

set_option maxHeartbeats 1000000 in
set_option maxRecDepth 100000 in
theorem put_calls (l : List Pr) (key val : ByteArray) (v : Value) (w : World) (hr : Rises l) (hown : Own w 88 2 v l.length (encPs l)) (hsz : (l.length + 1) * 32 ≤ 140737488355328) :
    Calls Tryz.prog 61 #[v, .string key, .string val] w fun e w' =>
      ∃ v', e = .returned v' ∧ Own w' 88 2 v' (putT l key val).length (encPs (putT l key val)) ∧ Mod (OnlyBlk v) w w' ∧ NewOr w v v' := by
  have hu := Tryz.underlying44
  obtain ⟨A, c, rfl, hnc, hcm, hrd⟩ := hown.out
  have hlb := lb_le l key
  cases hh : hitB l key with
  | true =>
    have hlt : lb l key < l.length := by
      unfold hitB at hh
      by_cases h : lb l key < l.length
      · exact h
      · rw [dif_neg h] at hh; cases hh
    have hk : l[lb l key].k = key := by
      unfold hitB at hh
      rw [dif_pos hlt] at hh
      exact cmpS_zero (of_decide_eq_true hh)
    have hput : putT l key val = l.take (lb l key) ++ ⟨l[lb l key].k, val⟩ :: l.drop (lb l key + 1) := by unfold putT; rw [hh, hk]; rfl
    have hlen : (putT l key val).length = l.length := by rw [hput]; simp; omega
    obtain ⟨g, c', he⟩ := hown.addrOf (by omega)
    obtain ⟨rfl, rfl⟩ : A = some ⟨g, 0, none⟩ ∧ c = c' := by injection he with h1 h2 h3; exact ⟨h1, h3⟩
    clear he
    have hset := encPs_set l (lb l key) hlt val
    rw [← hput] at hset
    have HS := Lib.hid hset
    have HL := Lib.hid hlen
    have HH := Lib.hid hh
    clear hput hk hset hlen hh
    go_enter Tryz.func61, Tryz.ntmps61
    go_wp2_with fail
    refine (find_calls l key _ _ _ (parts_of_rises hr key) hrd (by omega)).mono ?_
    rintro e w1 ⟨rfl, hm1⟩
    rw [HH.out]
    have ho1 := hown.mod0 hm1
    have hc1 := ho1.cellAt (lb l key * 2 + 1) (.string l[lb l key].v) (encPs_get l _ hlt).2
    have hf1 := ho1.frozenAt (lb l key * 2 + 1)
    go_wp2_with fail
    go_ret
    have ho2 := ho1.set (lb l key * 2 + 1) (.string val)
    rw [HS.out] at ho2
    refine ⟨_, rfl, ?_, (hm1.mono (S' := OnlyBlk (.slice (some ⟨g, 0, none⟩) l.length c)) (fun _ _ h => h.elim)).setCell (p := ⟨g, lb l key * 2 + 1, none⟩) (fun _ => rfl) _, .inl rfl⟩
    rw [HL.out]
    exact ho2
  | false =>
    have hput : putT l key val = l.take (lb l key) ++ ⟨key, val⟩ :: l.drop (lb l key) := by unfold putT; rw [hh]; rfl
    have hlen : (putT l key val).length = l.length + 1 := by rw [hput]; simp; omega
    have HP := Lib.hid hput
    have HL := Lib.hid hlen
    have HH := Lib.hid hh
    clear hput hlen hh
    go_enter Tryz.func61, Tryz.ntmps61
    go_wp2_with fail
    refine (find_calls l key _ _ _ (parts_of_rises hr key) hrd (by omega)).mono ?_
    rintro e w1 ⟨rfl, hm1⟩
    rw [HH.out]
    have ho1 := (hown.mod0 hm1)
    have ho2 : Own (w1.alloc (.cells #[.string key, .string val] 88)) 88 2 (.slice A l.length c) l.length (encPs l) := ho1.mod0 ((Mod.refl _ _).alloc _)
    go_wp2_with ((with_reducible refine (insertP_calls l ⟨key, val⟩ (lb l key) _ w1.heap.size _ ho2 hlb (heap_alloc_new w1 _) ?_ hsz).mono ?_))
    · intro g hg
      have := ho1.lt hg
      omega
    · rintro e w2 ⟨v', rfl, ho3, hm3, hno3⟩
      go_wp2_with fail
      go_ret
      refine ⟨_, rfl, ?_, (((hm1.mono (S' := OnlyBlk (.slice A l.length c)) (fun _ _ h => h.elim)).alloc _).trans hm3 (fun _ _ h => h)), ?_⟩
      · rw [HL.out, HP.out]
        exact ho3
      · rcases hno3 with h | ⟨b, h, hb⟩
        · exact .inl h
        · exact .inr ⟨b, h, by have := hm1.size; simp at hb; omega⟩
end Go.Proofs.YtkklofnabmdmfaaGreatDoor

/- table.Right, the laws' Great, aquiferref1.Pairs. -/
namespace Go.Proofs.YtkklofnabmdmfaaGreatDoor
open Go.RowKit

theorem rises_take_succ {l : List Pr} {i : Nat} (h : i + 1 < l.length) (hr : Rises (l.take (i + 1))) (hk : cmpS l[i].k l[i + 1].k < 0) : Rises (l.take (i + 2)) := by
  rw [show l.take (i + 2) = l.take (i + 1) ++ [l[i + 1]] from by rw [List.take_succ_eq_append_getElem h]]
  refine List.pairwise_append.2 ⟨hr, List.pairwise_singleton _ _, fun a ha b hb => ?_⟩
  rw [List.mem_singleton] at hb
  subst hb
  rw [List.take_succ_eq_append_getElem (by omega)] at ha hr
  rcases List.mem_append.1 ha with ha' | ha'
  · exact cmpS_trans ((List.pairwise_append.1 hr).2.2 a ha' _ (List.mem_singleton.2 rfl)) hk
  · rw [List.mem_singleton] at ha'
    subst ha'
    exact hk
theorem rises_pair {l : List Pr} (h : Rises l) {i : Nat} (hi : i + 1 < l.length) : cmpS l[i].k l[i + 1].k < 0 :=
  List.pairwise_iff_getElem.1 h i (i + 1) (by omega) hi (by omega)

set_option maxHeartbeats 1000000 in
set_option maxRecDepth 100000 in
theorem right_calls (l : List Pr) (A : Option Addr) (c : Nat) (w : World) (hr : Rd w 2 A l.length (encPs l)) :
    Calls Tryz.prog 59 #[.slice A l.length c] w fun e w' => e = .returned (.bool (decide (Rises l))) ∧ Mod NoneB w w' := by
  have hn := hr.2.1
  go_enter Tryz.func59, Tryz.ntmps59
  go_wp2_with fail
  go_loopw [3] (fun i wr => ∃ j : Nat, i = .int .i64 ((j + 1 : Nat) : Int) ∧ (j + 1 ≤ l.length ∨ j = 0) ∧ Rises (l.take (j + 1)) ∧ Mod NoneB w wr) (fun i _ => l.length - (intOf i).toNat)
  case atStart =>
    refine ⟨0, rfl, .inr rfl, ?_, Mod.refl _ _⟩
    cases l with
    | nil => exact rises_nil
    | cons p l => exact List.pairwise_singleton _ _
  case round =>
    obtain ⟨j, rfl, hj, hrj, hm⟩ := hrel
    have HR := Lib.hid hrj
    clear hrj
    by_cases hlt : j + 1 < l.length
    · obtain ⟨ad, rfl, h0, _⟩ := hr.pair j (by omega)
      obtain ⟨ad', e, h1, _⟩ := hr.pair (j + 1) hlt
      cases e
      replace h0 := hm.cell0 h0
      replace h1 := hm.cell0 h1
      obtain ⟨p, hp⟩ : ∃ p, p = l[j] := ⟨_, rfl⟩
      obtain ⟨q, hq⟩ : ∃ q, q = l[j + 1] := ⟨_, rfl⟩
      rw [← hp] at h0
      rw [← hq] at h1
      have HP := Lib.hid hp
      have HQ := Lib.hid hq
      clear hp hq hj
      by_cases hk : cmpS p.k q.k < 0
      · have b1 : Op.bytesLess q.k.toList p.k.toList = false := by rw [less_cmpS]; exact decide_eq_false (lt_asymm hk)
        have b2 : (q.k.toList == p.k.toList) = false := by rw [beq_toList]; exact decide_eq_false (fun e => by rw [e] at hk; exact lt_irrefl _ hk)
        have HK := Lib.hid (show cmpS l[j].k l[j + 1].k < 0 by rw [← HP.out, ← HQ.out]; exact hk)
        clear hk
        have e1 : IntKind.i64.wrap ((j : Int) + 1) = j + 1 := IntWalk.i64_in _ (by omega)
        have e2 : IntKind.i64.wrap (j : Int) = j := IntWalk.i64_in _ (by omega)
        have e7 : (0 : Int) ≤ j := by omega
        have e3 : (0 : Int) ≤ j + 1 := by omega
        have e4 : ((j : Int) + 1).toNat = j + 1 := by omega
        have e5 : (j : Int) + 1 < l.length := by omega
        have e6 : (j : Int) < l.length := by omega
        go_wp2_with fail
        go_quiet (fail)
        clear e1 e2 e3 e4 e5 e6 e7
        go_wp2_with fail
        go_roundw
        case rel => exact ⟨j + 1, by go_num, .inl (by omega), rises_take_succ hlt HR.out HK.out, hm.drewN _⟩
        case measure => simp [intOf]; omega
      · have hno : ¬ Rises l := fun h => hk (by rw [HP.out, HQ.out]; exact rises_pair h hlt)
        have HN := Lib.hid hno
        have b3 : (Op.bytesLess q.k.toList p.k.toList || q.k.toList == p.k.toList) = true := by
          rw [less_cmpS, beq_toList, Bool.or_eq_true, decide_eq_true_iff, decide_eq_true_iff]
          rcases lt_tri p.k q.k with h | h | h
          · exact absurd h hk
          · exact .inr h.symm
          · exact .inl h
        clear hk hno
        have e1 : IntKind.i64.wrap ((j : Int) + 1) = j + 1 := IntWalk.i64_in _ (by omega)
        have e2 : IntKind.i64.wrap (j : Int) = j := IntWalk.i64_in _ (by omega)
        have e7 : (0 : Int) ≤ j := by omega
        have e3 : (0 : Int) ≤ j + 1 := by omega
        have e4 : ((j : Int) + 1).toNat = j + 1 := by omega
        have e5 : (j : Int) + 1 < l.length := by omega
        have e6 : (j : Int) < l.length := by omega
        go_wp2_with fail
        go_quiet (fail)
        clear e1 e2 e3 e4 e5 e6 e7
        go_wp2_with fail
        go_ret
        exact ⟨by rw [decide_eq_false HN.out]; rfl, hm.drewN _⟩
    · have hyes : Rises l := by
        have h := HR.out
        rwa [List.take_of_length_le (by omega)] at h
      have HY := Lib.hid hyes
      clear hyes
      go_wp2_with fail
      go_ret
      exact ⟨by rw [decide_eq_true HY.out]; rfl, hm⟩
end Go.Proofs.YtkklofnabmdmfaaGreatDoor

/- The laws' Great: it lets by no more than some thousand letters. -/
namespace Go.Proofs.YtkklofnabmdmfaaGreatDoor
open Go.RowKit

def encO (o : Op3) : List Value := [.bool o.del, .string o.k, .string o.v]
def encOs (l : List Op3) : List Value := l.flatMap encO
theorem encOs_length (l : List Op3) : (encOs l).length = l.length * 3 := by
  unfold encOs
  induction l with
  | nil => rfl
  | cons x l ih => rw [List.flatMap_cons, List.length_append, ih, List.length_cons]; simp [encO]; omega
theorem encOs_get (l : List Op3) (i : Nat) (h : i < l.length) : (encOs l)[i * 3]? = some (.bool l[i].del) ∧ (encOs l)[i * 3 + 1]? = some (.string l[i].k) ∧ (encOs l)[i * 3 + 2]? = some (.string l[i].v) := by
  unfold encOs
  induction l generalizing i with
  | nil => simp at h
  | cons x l ih =>
    rw [List.flatMap_cons]
    cases i with
    | zero => simp [encO]
    | succ i =>
      have := ih i (by simpa using h)
      have e1 : (i + 1) * 3 = (encO x).length + i * 3 := by simp [encO]; omega
      rw [e1, Nat.add_assoc, Nat.add_assoc, List.getElem?_append_right (by omega), List.getElem?_append_right (by omega), List.getElem?_append_right (by omega)]
      simpa using this
/-- Element i of a row of ops. -/
theorem Rd.op {w : World} {A : Option Addr} {n : Nat} {l : List Op3} (h : Rd w 3 A n (encOs l)) (i : Nat) (hi : i < l.length) :
    ∃ ad, A = some ad ∧ w.cell? (ad.add (i * 3)) = some (.bool l[i].del) ∧ w.cell? ⟨(ad.add (i * 3)).block, (ad.add (i * 3)).off + 1, none⟩ = some (.string l[i].k) ∧ w.cell? ⟨(ad.add (i * 3)).block, (ad.add (i * 3)).off + 2, none⟩ = some (.string l[i].v) := by
  have hl : l.length = n := by have := h.1; rw [encOs_length] at this; omega
  obtain ⟨ad, e, hc⟩ := h.2.2 (by omega)
  have hg := encOs_get l i hi
  exact ⟨ad, e, hc _ _ hg.1, by rw [← addr_field _ _ 1 (by omega)]; exact hc _ _ hg.2.1, by rw [← addr_field _ _ 2 (by omega)]; exact hc _ _ hg.2.2⟩

end Go.Proofs.YtkklofnabmdmfaaGreatDoor

/- '==' and '!=' of pairs and of ops; aquiferref1.Pairs tells whether two lists are one. -/
namespace Go.Proofs.YtkklofnabmdmfaaGreatDoor
open Go.RowKit

section
variable {P : Program} {d : Nat} {xs ys : Array Value} {f : Field} {fs : List Field} {a b : Value} {r s : Bool} {w : World}
end

end Go.Proofs.YtkklofnabmdmfaaGreatDoor

/- table.Apply: what ops make of pairs. -/
namespace Go.Proofs.YtkklofnabmdmfaaGreatDoor
open Go.RowKit
set_option linter.unusedVariables false

/-- Pairs that are owned, in blocks from N on. -/
structure OwnP (N : Nat) (w : World) (v : Value) (m : List Pr) : Prop where
  own : Own w 88 2 v m.length (encPs m)
  new : ∀ g, v.ownBlock = some g → N ≤ g
theorem OwnP.nil (N : Nat) (w : World) : OwnP N w (.slice none 0 0) [] := ⟨Own.nil _ _ _, fun g h => by cases h⟩
theorem OwnP.mod0 {N : Nat} {w w1 : World} {v : Value} {m : List Pr} (h : OwnP N w v m) (hm : Mod NoneB w w1) : OwnP N w1 v m := ⟨h.own.mod0 hm, h.new⟩
theorem stepT_length_le (l : List Pr) (o : Op3) : (stepT l o).length ≤ l.length + 1 := by
  unfold stepT
  split
  · unfold delT
    have := lb_le l o.k
    split
    · simp; omega
    · omega
  · exact putT_length_le _ _ _
theorem fold_length_le (ops : List Op3) (l : List Pr) : (ops.foldl stepT l).length ≤ l.length + ops.length := by
  induction ops generalizing l with
  | nil => simp
  | cons o ops ih => have := ih (stepT l o); have := stepT_length_le l o; simp only [List.foldl_cons, List.length_cons]; omega
theorem foldput_length_le (ps : List Pr) (l : List Pr) : (ps.foldl (fun m p => putT m p.k p.v) l).length ≤ l.length + ps.length := by
  induction ps generalizing l with
  | nil => simp
  | cons o ops ih => have := ih (putT l o.k o.v); have := putT_length_le l o.k o.v; simp only [List.foldl_cons, List.length_cons]; omega
theorem foldl_take_succ {α β : Type} (f : β → α → β) (b : β) (l : List α) (j : Nat) (h : j < l.length) : (l.take (j + 1)).foldl f b = f ((l.take j).foldl f b) l[j] := by
  rw [List.take_succ_eq_append_getElem h, List.foldl_append]
  rfl

theorem putO_calls (N : Nat) (l : List Pr) (key val : ByteArray) (v : Value) (w : World) (hr : Rises l) (ho : OwnP N w v l) (hN : N ≤ w.heap.size) (hsz : (l.length + 1) * 32 ≤ 140737488355328) :
    Calls Tryz.prog 61 #[v, .string key, .string val] w fun e w' => ∃ v', e = .returned v' ∧ OwnP N w' v' (putT l key val) ∧ Mod (fun k => N ≤ k) w w' :=
  (put_calls l key val v w hr ho.own hsz).mono fun e w' ⟨v', he, h1, h2, h3⟩ =>
    ⟨v', he, ⟨h1, fun g hg => by
      rcases h3 with h | ⟨b, h, hb⟩
      · exact ho.new g (h ▸ hg)
      · rw [h] at hg; injection hg with hg; omega⟩, h2.mono fun k _ hk => ho.new k hk⟩
theorem delO_calls (N : Nat) (l : List Pr) (i : Nat) (v : Value) (w : World) (ho : OwnP N w v l) (hN : N ≤ w.heap.size) (hi : i < l.length) :
    Calls Tryz.prog 63 #[v, .int .i64 i, .int .i64 (i + 1)] w fun e w' => ∃ v', e = .returned v' ∧ OwnP N w' v' (l.take i ++ l.drop (i + 1)) ∧ Mod (fun k => N ≤ k) w w' :=
  (deleteP_calls l i v w ho.own hi).mono fun e w' ⟨v', he, h1, h2, h3⟩ =>
    ⟨v', he, ⟨by rw [show (l.take i ++ l.drop (i + 1)).length = l.length - 1 from by simp; omega]; exact h1, fun g hg => by
      rcases h3 with h | ⟨b, h, hb⟩
      · exact ho.new g (h ▸ hg)
      · rw [h] at hg; injection hg with hg; omega⟩, h2.mono fun k _ hk => ho.new k hk⟩
theorem cloneO_calls (l : List Pr) (A : Option Addr) (c : Nat) (N : Nat) (w : World) (hr : Rd w 2 A l.length (encPs l)) (hN : N ≤ w.heap.size) (hsz : l.length * 32 ≤ 140737488355328) :
    Calls Tryz.prog 60 #[.slice A l.length c] w fun e w' => ∃ v', e = .returned v' ∧ OwnP N w' v' l ∧ Mod (fun k => N ≤ k) w w' :=
  (cloneP_calls l A c w hr hsz).mono fun e w' ⟨v', he, h1, h2, h3⟩ => ⟨v', he, ⟨h1, fun g hg => Nat.le_trans hN (h3 g hg)⟩, h2.mono fun k _ hk => hk.elim⟩
theorem findO_calls (N : Nat) (l : List Pr) (key : ByteArray) (v : Value) (w : World) (hr : Rises l) (ho : OwnP N w v l) (hsz : l.length ≤ 4611686018427387904) :
    Calls Tryz.prog 62 #[v, .string key] w fun e w' => e = .returned (.tuple #[.int .i64 (lb l key), .bool (hitB l key)]) ∧ Mod NoneB w w' := by
  obtain ⟨A, c, rfl, _, _, h⟩ := ho.own.out
  exact find_calls l key A c w (parts_of_rises hr key) h hsz

set_option maxHeartbeats 800000 in
set_option maxRecDepth 100000 in
theorem apply_calls (l : List Pr) (ops : List Op3) (A B : Option Addr) (c c' : Nat) (w : World) (hr : Rd w 2 A l.length (encPs l)) (hs : Rd w 3 B ops.length (encOs ops)) (hsz : (l.length + ops.length + 1) * 32 ≤ 140737488355328) :
    Calls Tryz.prog 33 #[.slice A l.length c, .slice B ops.length c'] w fun e w' => ∃ v', e = .returned v' ∧ OwnP w.heap.size w' v' (applyT l ops) ∧ Mod NoneB w w' := by
  have hn := hr.2.1
  have hn' := hs.2.1
  obtain ⟨N, hN⟩ : ∃ N, N = w.heap.size := ⟨_, rfl⟩
  rw [← hN]
  have HN := Lib.hid hN
  clear hN
  have toN : ∀ {w1 : World}, Mod (fun k => N ≤ k) w w1 → Mod NoneB w w1 := fun h => h.mono fun k hk h2 => absurd hk (by have := HN.out; omega)
  have hN' : N ≤ w.heap.size := Nat.le_of_eq HN.out
  obtain ⟨st, hst⟩ : ∃ st, st = (if Rises l then l else normT l) := ⟨_, rfl⟩
  have hst1 : Rises st := by rw [hst]; exact rises_start l
  have hst2 : st.length ≤ l.length := by
    rw [hst]
    split
    · exact Nat.le_refl _
    · have := foldput_length_le l []; unfold normT; simpa using this
  have happ : applyT l ops = ops.foldl stepT st := by rw [hst]; rfl
  rw [happ]
  clear happ
  have hbd : ∀ n : Nat, n + 1 ≤ l.length + ops.length + 1 → (n + 1) * 32 ≤ 140737488355328 := fun n h => Nat.le_trans (Nat.mul_le_mul_right 32 h) hsz
  have HB := Lib.hid hbd
  clear hbd
  have HST := Lib.hid hst
  have HR1 := Lib.hid hst1
  clear hst hst1
  go_enter Tryz.func33, Tryz.ntmps33
  go_upto_if 13 with ((with_reducible refine (right_calls l A c _ hr).mono ?_); rintro e w1 ⟨rfl, hm1⟩)
  go_cut [5] (fun v wx => OwnP N wx v st ∧ Mod NoneB w wx)
  case first =>
    by_cases hR : Rises l
    · have hd : decide (Rises l) = true := decide_eq_true hR
      have HE : Hid (st = l) := Lib.hid (by rw [HST.out, if_pos hR])
      rw [hd]
      clear hd hR
      go_wp2_with ((with_reducible refine (cloneO_calls l A c N _ (hr.mod0 hm1) (by have := hm1.size; omega) (by omega)).mono ?_); rintro e w2 ⟨v2, rfl, ho2, hm2⟩)
      go_meet
      case rel => exact ⟨by rw [HE.out]; exact ho2, toN ((hm1.mono (fun _ _ h => h.elim)).trans_new hm2 (fun k hk => .inl hk))⟩
    · have hd : decide (Rises l) = false := decide_eq_false hR
      have HE : Hid (st = normT l) := Lib.hid (by rw [HST.out, if_neg hR])
      rw [hd]
      clear hd hR
      go_wp2_with fail
      go_loopw [5, 18] (fun v i wr => ∃ j : Nat, i = .int .i64 j ∧ j ≤ l.length ∧ OwnP N wr v (normT (l.take j)) ∧ Mod NoneB w wr) (fun _ i _ => l.length - (intOf i).toNat)
      case atStart => exact ⟨0, rfl, by omega, OwnP.nil _ _, hm1⟩
      case round =>
        obtain ⟨j, rfl, hj, ho, hm⟩ := hrel
        by_cases hlt : j < l.length
        · obtain ⟨ad, rfl, h0, h1⟩ := hr.pair j hlt
          replace h0 := hm.cell0 h0
          replace h1 := hm.cell0 h1
          have hsu : normT (l.take (j + 1)) = putT (normT (l.take j)) l[j].k l[j].v := foldl_take_succ _ _ _ _ hlt
          have hln : (normT (l.take j)).length ≤ l.length := by
            have := foldput_length_le (l.take j) []
            unfold normT
            simp at this
            omega
          have hrs := rises_normT (l.take j)
          obtain ⟨p, hp⟩ : ∃ p, p = l[j] := ⟨_, rfl⟩
          rw [← hp] at h0 h1 hsu
          obtain ⟨m, hmm⟩ : ∃ m, m = normT (l.take j) := ⟨_, rfl⟩
          rw [← hmm] at hsu hln hrs ho
          have HS := Lib.hid hsu
          have HRS := Lib.hid hrs
          clear hp hmm hsu hrs
          have hb1 : (m.length + 1) * 32 ≤ 140737488355328 := HB.out _ (Nat.succ_le_succ (Nat.le_trans hln (Nat.le_add_right _ _)))
          have hm1 := hm.alloc (.cells #[.string p.k, .string p.v] 88)
          have hb2 : N ≤ (wr.alloc (.cells #[.string p.k, .string p.v] 88)).heap.size := Nat.le_trans hN' hm1.size
          go_wp2_with fail
          refine (putO_calls N m p.k p.v _ _ HRS.out (ho.mod0 ((Mod.refl NoneB wr).alloc _)) hb2 hb1).mono ?_
          rintro e w2 ⟨v2, rfl, ho2, hm2⟩
          go_wp2_with fail
          go_roundw
          case rel => exact ⟨j + 1, by go_num, by omega, by rw [HS.out]; exact ho2, toN ((hm1.mono (fun _ _ h => h.elim)).trans_new hm2 (fun k hk => .inl hk))⟩
          case measure => simp [intOf]; omega
        · have hjl : j = l.length := by omega
          subst hjl
          rw [List.take_length, ← HE.out] at ho
          go_wp2_with fail
          go_meet
          case rel => exact ⟨ho, hm⟩
  case rest =>
    obtain ⟨ho, hm⟩ := hcut
    go_wp2_with fail
    go_loopw [5, 31] (fun v i wr => ∃ j : Nat, i = .int .i64 j ∧ j ≤ ops.length ∧ OwnP N wr v ((ops.take j).foldl stepT st) ∧ Mod NoneB w wr) (fun _ i _ => ops.length - (intOf i).toNat)
    case atStart => exact ⟨0, rfl, by omega, ho, hm⟩
    case round =>
      clear ho hm
      obtain ⟨j, rfl, hj, ho, hm⟩ := hrel
      by_cases hlt : j < ops.length
      · obtain ⟨bd, rfl, h0, h1, h2⟩ := hs.op j hlt
        replace h0 := hm.cell0 h0
        replace h1 := hm.cell0 h1
        replace h2 := hm.cell0 h2
        have hsu : (ops.take (j + 1)).foldl stepT st = stepT ((ops.take j).foldl stepT st) ops[j] := foldl_take_succ _ _ _ _ hlt
        have hln : ((ops.take j).foldl stepT st).length ≤ l.length + ops.length :=
          Nat.le_trans (fold_length_le (ops.take j) st) (Nat.add_le_add hst2 (by rw [List.length_take]; exact Nat.min_le_right _ _))
        have hrs := rises_fold HR1.out (ops.take j)
        obtain ⟨o, ho'⟩ : ∃ o, o = ops[j] := ⟨_, rfl⟩
        rw [← ho'] at h0 h1 h2 hsu
        obtain ⟨m, hmm⟩ : ∃ m, m = (ops.take j).foldl stepT st := ⟨_, rfl⟩
        rw [← hmm] at hsu hln hrs ho
        have HS := Lib.hid hsu
        have HRS := Lib.hid hrs
        clear ho' hmm hsu hrs
        have hb1 : (m.length + 1) * 32 ≤ 140737488355328 := HB.out _ (Nat.succ_le_succ hln)
        have hb3 : m.length ≤ 4611686018427387904 := by clear hs hr h0 h1 h2; omega
        have hszN : ∀ {w2 : World}, Mod NoneB w w2 → N ≤ w2.heap.size := fun h => Nat.le_trans hN' h.size
        obtain ⟨od, ok, ov⟩ := o
        cases od with
        | false =>
          have HP : Hid (stepT m ⟨false, ok, ov⟩ = putT m ok ov) := Lib.hid rfl
          go_wp2_with fail
          refine (findO_calls N m ok _ _ HRS.out (ho.mod0 ((Mod.refl NoneB wr).alloc _)) hb3).mono ?_
          rintro e w2 ⟨rfl, hm2⟩
          have ho2 := (ho.mod0 ((Mod.refl NoneB wr).alloc (.cells #[.bool false, .string ok, .string ov] 69))).mod0 hm2
          have hm3 : Mod NoneB w w2 := (hm.alloc _).then0 hm2
          have c0 := hm2.cell0 (a := ⟨wr.heap.size, 0, none⟩) (v := .bool false) (by simp [World.cell?_alloc_new])
          have c1 := hm2.cell0 (a := ⟨wr.heap.size, 1, none⟩) (v := .string ok) (by simp [World.cell?_alloc_new])
          have c2 := hm2.cell0 (a := ⟨wr.heap.size, 2, none⟩) (v := .string ov) (by simp [World.cell?_alloc_new])
          go_wp2_with fail
          refine (putO_calls N m ok ov _ _ HRS.out ho2 (hszN hm3) hb1).mono ?_
          rintro e w4 ⟨v4, rfl, ho4, hm4⟩
          go_wp2_with fail
          go_roundw
          case rel => exact ⟨j + 1, by go_num, by omega, by rw [HS.out, HP.out]; exact ho4, toN ((hm3.mono (fun _ _ h => h.elim)).trans_new hm4 (fun k hk => .inl hk))⟩
          case measure => simp [intOf]; omega
        | true =>
          have hlb := lb_le m ok
          cases hh : hitB m ok with
          | true =>
            have hlt2 : lb m ok < m.length := by
              unfold hitB at hh
              by_cases h : lb m ok < m.length
              · exact h
              · rw [dif_neg h] at hh; cases hh
            have HP : Hid (stepT m ⟨true, ok, ov⟩ = m.take (lb m ok) ++ m.drop (lb m ok + 1)) := Lib.hid (by unfold stepT delT; simp [hh])
            have HH := Lib.hid hh
            clear hh
            go_wp2_with fail
            refine (findO_calls N m ok _ _ HRS.out (ho.mod0 ((Mod.refl NoneB wr).alloc _)) hb3).mono ?_
            rintro e w2 ⟨rfl, hm2⟩
            rw [HH.out]
            have ho2 := (ho.mod0 ((Mod.refl NoneB wr).alloc (.cells #[.bool true, .string ok, .string ov] 69))).mod0 hm2
            have hm3 : Mod NoneB w w2 := (hm.alloc _).then0 hm2
            have c0 := hm2.cell0 (a := ⟨wr.heap.size, 0, none⟩) (v := .bool true) (by simp [World.cell?_alloc_new])
            go_wp2_with fail
            refine (delO_calls N m (lb m ok) _ _ ho2 (hszN hm3) hlt2).mono ?_
            rintro e w4 ⟨v4, rfl, ho4, hm4⟩
            go_wp2_with fail
            go_roundw
            case rel => exact ⟨j + 1, by go_num, by omega, by rw [HS.out, HP.out]; exact ho4, toN ((hm3.mono (fun _ _ h => h.elim)).trans_new hm4 (fun k hk => .inl hk))⟩
            case measure => simp [intOf]; omega
          | false =>
            have HP : Hid (stepT m ⟨true, ok, ov⟩ = m) := Lib.hid (by unfold stepT delT; simp [hh])
            have HH := Lib.hid hh
            clear hh
            go_wp2_with fail
            refine (findO_calls N m ok _ _ HRS.out (ho.mod0 ((Mod.refl NoneB wr).alloc _)) hb3).mono ?_
            rintro e w2 ⟨rfl, hm2⟩
            rw [HH.out]
            have ho2 := (ho.mod0 ((Mod.refl NoneB wr).alloc (.cells #[.bool true, .string ok, .string ov] 69))).mod0 hm2
            have hm3 : Mod NoneB w w2 := (hm.alloc _).then0 hm2
            have c0 := hm2.cell0 (a := ⟨wr.heap.size, 0, none⟩) (v := .bool true) (by simp [World.cell?_alloc_new])
            go_wp2_with fail
            go_roundw
            case rel => exact ⟨j + 1, by go_num, by omega, by rw [HS.out, HP.out]; exact ho2, hm3⟩
            case measure => simp [intOf]; omega
      · have hjl : j = ops.length := by omega
        subst hjl
        rw [List.take_length] at ho
        go_wp2_with fail
        go_ret
        exact ⟨_, rfl, ho, hm⟩
end Go.Proofs.YtkklofnabmdmfaaGreatDoor

/- table.Get: the value of the first pair of a key. -/
namespace Go.Proofs.YtkklofnabmdmfaaGreatDoor
open Go.RowKit
set_option linter.unusedVariables false

end Go.Proofs.YtkklofnabmdmfaaGreatDoor

/- The document's example of layer 6: it is as it says. -/
namespace Go.Proofs.YtkklofnabmdmfaaGreatDoor
open Go.RowKit
set_option linter.unusedVariables false

def s1 : ByteArray := ⟨#[49]⟩
end Go.Proofs.YtkklofnabmdmfaaGreatDoor
