/- slices.SortFunc at pairs, by their keys: what a row holds behind it. -/
import Derived.Test.YtnlmfmceogbomaaGreatDoorFlatQq
import Derived.Test.YtnlmfmceogbomaaGreatDoorTabAQq
import Derived.Test.YtnlmfmceogbomaaGreatDoorOpenSQq
import Derived.Test.YtnlmfmceogbomaaGreatDoorRefPutAQq
import Derived.Test.YtnlmfmceogbomaaGreatDoorShelfSortQq
import Derived.Test.YtnlmfmceogbomaaGreatDoorIxMQq
namespace Go.Proofs.YtnlmfmceogbomaaGreatDoor
open Go.Shelf Go.RowKit Go.Lib Go.Sort
set_option linter.unusedVariables false

def cfP (x y : Pr) : Int := cmpS x.k y.k
theorem ltP (x y : Pr) : ltOf cfP x y = decide (cmpS x.k y.k < 0) := rfl
theorem swoP : SWO (ltOf cfP) where
  irrefl x := by rw [ltP]; exact decide_eq_false (lt_irrefl _)
  trans x y z h1 h2 := by
    rw [ltP] at *
    exact decide_eq_true (cmpS_trans (of_decide_eq_true h1) (of_decide_eq_true h2))
  ntrans x y z h1 h2 := by
    rw [ltP] at *
    have h1 := of_decide_eq_false h1
    have h2 := of_decide_eq_false h2
    refine decide_eq_false fun h => ?_
    rcases lt_tri x.k y.k with h3 | h3 | h3
    · exact h1 h3
    · rw [h3] at h; exact h2 h
    · rcases lt_tri y.k z.k with h4 | h4 | h4
      · exact h2 h4
      · rw [← h4] at h; exact lt_asymm h h3
      · exact lt_asymm h (cmpS_trans h4 h3)

set_option maxHeartbeats 1000000 in
set_option maxRecDepth 100000 in
theorem cmpP_calls (x y : Pr) (W : World) : Calls Tryz.prog 81 #[.agg #[.string x.k, .string x.v], .agg #[.string y.k, .string y.v]] W fun e w' => e = .returned (.int .i64 (cfP x y)) ∧ ∃ q os', w' = grow (W.drewN q) os' := by
  have hc : ∀ w, Calls Tryz.prog 82 #[.string x.k, .string y.k] w fun e w' => e = .returned (.int .i64 (cfP x y)) ∧ w = w' := fun w => strings_Compare x.k y.k w
  obtain ⟨c, hcd⟩ : ∃ c, c = cfP x y := ⟨_, rfl⟩
  rw [← hcd] at hc ⊢
  clear hcd
  go_enter Tryz.func81, Tryz.ntmps81
  go_wp2_with ((with_reducible refine (hc _).mono ?_); rintro ez wz ⟨rfl, rfl⟩)
  go_ret
  refine ⟨rfl, 0, #[.cells #[.string x.k, .string x.v] 88, .cells #[.string y.k, .string y.v] 88], ?_⟩
  rw [alloc_eq_grow, alloc_eq_grow, grow_grow]
  rfl
theorem cmpLaysP (blk off size : Nat) (w : World) : CmpLays Tryz.prog 81 #[] encP 2 cfP blk off size w := fun _ _ _ _ x y => cmpP_calls x y _

theorem flat_get (l : List Pr) (j : Nat) (hj : j < l.length * 2) : (encPs l)[j]? = some (flatK encP 2 l.toArray)[j]! := by
  rw [get_flatK encP 2 l.toArray j (by simpa using hj)]
  have hi : j / 2 < l.length := by omega
  have e : l.toArray[j / 2]! = l[j / 2] := by rw [getElem!_pos l.toArray (j / 2) (by simpa using hi)]; simp
  rw [e]
  have hg := encPs_get l (j / 2) hi
  rcases Nat.mod_two_eq_zero_or_one j with h | h
  · rw [h]
    have : j / 2 * 2 = j := by omega
    rw [this] at hg
    rw [hg.1]
    rfl
  · rw [h]
    have : j / 2 * 2 + 1 = j := by omega
    rw [this] at hg
    rw [hg.2]
    rfl
theorem holds_own {w : World} {g c : Nat} {l : List Pr} (h : Own w 88 2 (.slice (some ⟨g, 0, none⟩) l.length c) l.length (encPs l)) : HoldsK encP 2 w g 0 l.toArray := by
  intro j hj
  rw [size_flatK] at hj
  have hj' : j < l.length * 2 := by simpa using hj
  rw [Nat.zero_add]
  exact ⟨h.cellAt j _ (flat_get l j hj'), h.frozenAt j⟩
theorem rd_holds {w : World} {g : Nat} {l : List Pr} (hn : l.length ≤ 9223372036854775807) (h : HoldsK encP 2 w g 0 l.toArray) : Rd w 2 (some ⟨g, 0, none⟩) l.length (encPs l) := by
  refine ⟨encPs_length l, hn, fun _ => ⟨_, rfl, fun j u hu => ?_⟩⟩
  have hj : j < l.length * 2 := by
    have := (List.getElem?_eq_some_iff.1 hu).1
    rw [encPs_length] at this
    exact this
  have h1 := (h j (by rw [size_flatK]; simpa using hj)).1
  rw [flat_get l j hj] at hu
  injection hu with hu
  rw [add_off]
  rw [← hu]
  exact h1

theorem sortWorld_mod (w : World) (g n : Nat) (d : Array Pr) (os : Array Obj) : Mod (fun k => k = g) w (sortWorldK encP 2 w g 0 n d os) := by
  refine ⟨rfl, rfl, rfl, ?_, fun k hk hn => ?_⟩
  · simp [sortWorldK, putRowK, Go.Sort.ahead]
  · unfold sortWorldK
    rw [heap_grow_old _ _ (by simp [putRowK, Go.Sort.ahead]; exact hk)]
    unfold putRowK putRow mapBlock
    simp only [Go.Sort.ahead, Array.getElem?_modify]
    rw [if_neg (fun e => hn e.symm)]

/-- What a row of pairs holds behind the sort: the same pairs, by rising keys. -/
theorem sortP_calls (l : List Pr) (g c : Nat) (w : World) (ho : Own w 88 2 (.slice (some ⟨g, 0, none⟩) l.length c) l.length (encPs l)) (hn : l.length ≤ 1000000000) (hg : g < w.heap.size) :
    Calls Tryz.prog 80 #[.slice (some ⟨g, 0, none⟩) l.length c, .func (.func 81) #[] #[]] w fun e w' =>
      e = .returned (.tuple #[]) ∧ ∃ m : List Pr, m.Perm l ∧ m.Pairwise (fun a b => ¬ cmpS b.k a.k < 0) ∧ Rd w' 2 (some ⟨g, 0, none⟩) l.length (encPs m) ∧ Mod (fun k => k = g) w w' := by
  have eg : ∀ args w, (callFunc 81 args).run Tryz.prog w = .ok (.enter 81 args) w := enters_of Tryz.func81 (by kernel_rfl) rfl
  have hH := holds_own ho
  have hcon := AnyQ.slices_SortFunc sortP 2 Tryz.isAgg88 Tryz.sizeOf88 encP (fun _ => rfl) (fun x v hv => by simp [encP] at hv; rcases hv with rfl | rfl <;> rfl) cfP swoP 81 #[] g 0 c l.toArray w eg (cmpLaysP g 0 _ w) hH hg (by simp; omega)
  change Calls Tryz.prog 80 _ _ _ at hcon
  refine Calls.mono (show Calls Tryz.prog 80 #[.slice (some ⟨g, 0, none⟩) l.length c, .func (.func 81) #[] #[]] w _ from hcon) ?_
  rintro e w' ⟨rfl, d', n, os, hp, hs, rfl⟩
  obtain ⟨p1, _, p3⟩ := hp
  have hds : d'.size = l.length := by rw [p1]; simp
  have e1 : d'.extract 0 l.toArray.size = d' := by rw [← p1]; exact Array.extract_size
  have e2 : l.toArray.extract 0 l.toArray.size = l.toArray := Array.extract_size
  rw [e1, e2] at p3
  refine ⟨rfl, d'.toList, by simpa using p3, ?_, ?_, sortWorld_mod w g n d' os⟩
  · rw [List.pairwise_iff_getElem]
    intro i j hi hj hij
    have hj' : j < d'.size := by simpa using hj
    have h1 := hs i j (Nat.zero_le _) hij (by rw [← p1]; exact hj')
    rw [ltP] at h1
    have h2 := of_decide_eq_false h1
    rw [getElem!_pos d' j hj', getElem!_pos d' i (by omega)] at h2
    simpa using h2
  · have h0 : HoldsK encP 2 (Go.Sort.ahead w n) g 0 l.toArray := holdsK_ahead encP 2 w n g 0 _ hH
    have h1 : HoldsK encP 2 (putRowK encP 2 (Go.Sort.ahead w n) g 0 d') g 0 d' := holdsK_putRowK encP 2 (Go.Sort.ahead w n) g 0 l.toArray d' h0 p1
    have h2 : HoldsK encP 2 (sortWorldK encP 2 w g 0 n d' os) g 0 d' := holdsK_grow encP 2 _ os g 0 d' (by simp [putRowK, Go.Sort.ahead]; exact hg) h1
    have h3 := rd_holds (l := d'.toList) (by simp; omega) (by simpa using h2)
    have e3 : d'.toList.length = l.length := by simpa using hds
    rw [e3] at h3
    exact h3
theorem sortP_none (p : Option Addr) (c : Nat) (w : World) : Calls Tryz.prog 80 #[.slice p 0 c, .func (.func 81) #[] #[]] w fun e w' => e = .returned (.tuple #[]) ∧ w' = w :=
  AnyF.slices_SortFunc_none sortP p c _ w
end Go.Proofs.YtnlmfmceogbomaaGreatDoor

/- Layer 9's document's example; IndexNil: an index that there is not has nothing: the walk of the law. -/
namespace Go.Proofs.YtnlmfmceogbomaaGreatDoor
open Go.RowKit
set_option linter.unusedVariables false

theorem atB_len {x : Ix} (h : IxOk x) (l : List Pr) (hl : l ∈ x.bs) : l.length ≤ x.n := by
  rw [h.n]
  obtain ⟨i, hi, rfl⟩ := List.getElem_of_mem hl
  have := flatten_set_length x.bs i hi []
  rw [List.length_nil] at this
  omega
theorem IxOk.room {x : Ix} (h : IxOk x) (hl : x.bs.length ≤ 1024) (hn : x.n ≤ 1000000) : RoomX x := ⟨h.pos, hl, hn, fun l hm => Nat.le_trans (atB_len h l hm) hn⟩
theorem putX_len (x : Ix) (key v : ByteArray) : (putX x key v).bs.length = x.bs.length := by simp [putX]

end Go.Proofs.YtnlmfmceogbomaaGreatDoor

/- An index: all pairs, by rising keys. -/
namespace Go.Proofs.YtnlmfmceogbomaaGreatDoor
open Go.RowKit
set_option linter.unusedVariables false

theorem mem_getT {key v : ByteArray} : ∀ {l : List Pr}, Once l → (getT l key = some v ↔ (⟨key, v⟩ : Pr) ∈ l)
  | [], _ => by simp [getT_nil]
  | p :: l, h => by
    obtain ⟨h1, h2⟩ := (once_cons p l).1 h
    rw [getT_cons, List.mem_cons]
    by_cases he : p.k = key
    · rw [if_pos he]
      constructor
      · intro hv
        injection hv with hv
        exact .inl (by rw [← he, ← hv])
      · rintro (hv | hv)
        · rw [← hv]
        · exact absurd he (h1 _ hv)
    · rw [if_neg he, mem_getT h2]
      constructor
      · exact .inr
      · rintro (hv | hv)
        · exact absurd (by rw [← hv]) he
        · exact hv
theorem once_flatten {x : Ix} (h : IxOk x) : Once x.bs.flatten := by
  unfold Once
  rw [List.pairwise_flatten]
  refine ⟨h.once, ?_⟩
  rw [List.pairwise_iff_getElem]
  intro i j hi hj hij a ha b hb hab
  have h1 := h.home i hi a ha
  have h2 := h.home j hj b hb
  rw [hab] at h1
  omega
theorem mem_flatten {x : Ix} (h : IxOk x) (p : Pr) : p ∈ x.bs.flatten ↔ p ∈ atB x.bs p.k := by
  rw [List.mem_flatten]
  constructor
  · rintro ⟨l, hl, hp⟩
    obtain ⟨i, hi, rfl⟩ := List.getElem_of_mem hl
    have h1 := h.home i hi p hp
    rw [atB_get h.pos]
    simp only [h1]
    exact hp
  · intro hp
    rw [atB_get h.pos] at hp
    exact ⟨_, List.getElem_mem _, hp⟩
/-- What an index holds, sorted, is the map that it is. -/
theorem sorted_map {x : Ix} (h : IxOk x) {m : List Pr} (hp : m.Perm x.bs.flatten) (hs : m.Pairwise fun a b => ¬ cmpS b.k a.k < 0) : Rises m ∧ (∀ key, getT m key = getX x key) ∧ m.length = x.n := by
  have ho : Once m := (hp.pairwise_iff (fun h => Ne.symm h)).2 (once_flatten h)
  refine ⟨?_, fun key => ?_, by rw [h.n]; exact hp.length_eq⟩
  · unfold Rises
    refine (hs.and ho).imp fun {a b} hab => ?_
    rcases lt_tri a.k b.k with h1 | h1 | h1
    · exact h1
    · exact absurd h1 hab.2
    · exact absurd h1 hab.1
  · have key1 : ∀ v, getT m key = some v ↔ getX x key = some v := by
      intro v
      unfold getX
      rw [mem_getT ho, hp.mem_iff, mem_flatten h, mem_getT (h.once_at key)]
    cases h1 : getT m key with
    | some v => exact ((key1 v).1 h1).symm
    | none =>
      cases h2 : getX x key with
      | none => rfl
      | some v => rw [(key1 v).2 h2] at h1; cases h1

theorem take_flatten (bs : List (List Pr)) (j : Nat) (h : j < bs.length) : (bs.take (j + 1)).flatten = (bs.take j).flatten ++ bs[j] := by
  rw [List.take_succ_eq_append_getElem h, List.flatten_append]
  simp
theorem flatten_take_le (bs : List (List Pr)) (j : Nat) : (bs.take j).flatten.length ≤ bs.flatten.length := by
  have h : bs.flatten.length = (bs.take j).flatten.length + (bs.drop j).flatten.length := by
    rw [← List.length_append, ← List.flatten_append, List.take_append_drop]
  omega

set_option maxHeartbeats 2000000 in
set_option maxRecDepth 100000 in
theorem xall_calls (w : World) (p : Nat) (x : Ix) (S : Nat → Prop) (h : IsX w p x S) (hx : IxOk x) (hr : RoomX x) :
    Calls Tryz.prog 44 #[.pointer (some ⟨p, 0, none⟩)] w fun e w' => ∃ A c m, e = .returned (.slice A m.length c) ∧ m.Perm x.bs.flatten ∧ m.Pairwise (fun a b => ¬ cmpS b.k a.k < 0) ∧ Rd w' 2 A m.length (encPs m) ∧ Mod NoneB w w' ∧ ∀ ad, A = some ad → w.heap.size ≤ ad.block := by
  obtain ⟨g, vs, h1, _⟩ := h
  have hfl : x.bs.flatten.length ≤ 1000000 := by rw [← hx.n]; exact hr.n
  have hlen := hr.len
  have HX1 := Lib.hid h1
  have HFL := Lib.hid hfl
  have y0 : ∀ wr, Mod NoneB w wr → wr.cell? ⟨p, 0, none⟩ = some (.slice (some ⟨g, 0, none⟩) x.bs.length x.bs.length) := fun wr hm => blk_cell (h1.mod0 hm).blk 0
  have y00 : w.cell? ⟨p, 0, none⟩ = some (.slice (some ⟨g, 0, none⟩) x.bs.length x.bs.length) := blk_cell h1.blk 0
  have HY := Lib.hid y0
  obtain ⟨k, hk⟩ : ∃ k, k = x.bs.length := ⟨_, rfl⟩
  rw [← hk] at HY y00 hlen
  have HK := Lib.hid hk
  clear h1 hfl y0 hk hr hx
  go_enter Tryz.func44, Tryz.ntmps44
  go_wp2_with fail
  go_loopw [3, 4, 12] (fun v _ t wr => ∃ j : Nat, t = .int .i64 j ∧ j ≤ k ∧ OwnP w.heap.size wr v (x.bs.take j).flatten ∧ Mod NoneB w wr) (fun _ _ t _ => k - (intOf t).toNat)
  case atStart => exact ⟨0, rfl, Nat.zero_le _, OwnP.nil _ _, Mod.refl _ _⟩
  case round =>
    clear y00
    obtain ⟨j, rfl, hj, ho, hm⟩ := hrel
    by_cases hlt : j < k
    · have hjb : j < x.bs.length := by rw [← HK.out]; exact hlt
      have h2 := HX1.out.mod0 hm
      have hi : j < vs.length := by rw [h2.len]; exact hjb
      have hoj := h2.own j hi
      have hgd : x.bs.getD j [] = x.bs[j] := by rw [List.getD_eq_getElem?_getD, List.getElem?_eq_getElem hjb]; rfl
      rw [hgd] at hoj
      have htk := take_flatten x.bs j hjb
      have hle := flatten_take_le x.bs (j + 1)
      rw [htk, List.length_append] at hle
      have hfl := HFL.out
      obtain ⟨A, c, hv, hrj⟩ := hoj.nilD0
      have hcg : wr.cell? ⟨g, j, none⟩ = some (.slice A (x.bs[j]).length c) := by
        rw [blk_cell h2.row]
        simp only [List.getElem?_toArray, List.getElem?_eq_getElem hi, hv]
      have hcp := HY.out wr hm
      obtain ⟨b, hb⟩ : ∃ b, b = x.bs[j] := ⟨_, rfl⟩
      obtain ⟨f, hf⟩ : ∃ f, f = (x.bs.take j).flatten := ⟨_, rfl⟩
      rw [← hb] at hrj hcg htk hle
      rw [← hf] at htk hle ho
      have HTK := Lib.hid htk
      have hsz : (f.length + b.length) * 32 ≤ 140737488355328 := by omega
      have hup := Tryz.underlying37
      have e1 : (j : Int) < (k : Int) := by omega
      have e0 : (0 : Int) ≤ (j : Int) := by omega
      clear hgd htk hle hfl hv hoj hb hf h2
      obtain ⟨A5, c5, rfl, _⟩ := ho.own.nilD0
      go_wp2_with (at_builtin; refine wpList_append rfl (.tmp 15) (.tmp 23) 37 rfl 88 _ 2 32 hup tiP rfl (by decide) (by decide) _ f.length (encPs f) rfl ho.own A b.length c (encPs b) rfl (encPs_length b) hrj.2.2 (encPs_one _) hsz ?_)
      intro v5 w5 ho5 hm5 hno5
      have hmw := hm.trans_new hm5 (fun k hk => .inr (ho.new k hk))
      have hn5 : ∀ g, v5.ownBlock = some g → w.heap.size ≤ g := by
        intro g hg
        rcases hno5 with hq | ⟨b, hq, hb⟩
        · exact ho.new g (by rw [← hq]; exact hg)
        · rw [hq] at hg
          injection hg with hg
          have h1 := hm.size
          omega
      have ho6 : OwnP w.heap.size w5 v5 (x.bs.take (j + 1)).flatten := by
        rw [HTK.out]
        refine ⟨?_, hn5⟩
        have e : encPs (f ++ b) = encPs f ++ encPs b := by unfold encPs; rw [List.flatMap_append]
        rw [e, List.length_append]
        exact ho5
      obtain ⟨V5, cv5, rfl, _, _, _⟩ := ho5.out
      have HO6 := Lib.hid ho6
      clear ho6 hn5 ho5 ho hno5 hrj hcg hcp
      go_wp2_with fail
      go_roundw
      case rel => exact ⟨j + 1, by go_num, by omega, HO6.out, hmw⟩
      case measure => simp [intOf]; omega
    · have hje : (x.bs.take j).flatten = x.bs.flatten := by rw [List.take_of_length_le (by rw [← HK.out]; omega)]
      rw [hje] at ho
      have hfl := HFL.out
      obtain ⟨f, hf⟩ : ∃ f, f = x.bs.flatten := ⟨_, rfl⟩
      rw [← hf] at ho hfl
      have HF := Lib.hid hf
      have HO := Lib.hid ho
      clear hje hf ho
      rcases Nat.eq_zero_or_pos f.length with h0 | h0
      · obtain rfl : f = [] := List.eq_nil_of_length_eq_zero h0
        obtain ⟨A5, c5, rfl, hr5⟩ := HO.out.own.nilD0
        have hn5 := HO.out.new
        have hal : ∀ ad, A5 = some ad → w.heap.size ≤ ad.block := fun ad hA => hn5 ad.block (by rw [hA]; rfl)
        have HAL := Lib.hid hal
        clear hn5 hal HO
        go_wp2_with ((with_reducible refine (sortP_none _ _ _).mono ?_); rintro ez wz ⟨rfl, rfl⟩)
        go_ret
        exact ⟨A5, c5, [], rfl, by rw [← HF.out], List.Pairwise.nil, hr5, hm, HAL.out⟩
      · have ho := HO.out.own
        have hn5 := HO.out.new
        obtain ⟨g5, c5, rfl⟩ := ho.addrOf h0
        have hg5 : g5 < wr.heap.size := ho.lt rfl
        have hg6 : w.heap.size ≤ g5 := hn5 g5 rfl
        have hso := sortP_calls f g5 c5 wr ho (by omega) hg5
        have HSO := Lib.hid hso
        clear hso hn5 HO
        go_wp2_with fail
        refine HSO.out.mono ?_
        rintro e w5 ⟨rfl, m, hp, hs, hrm, hm5⟩
        have hml : m.length = f.length := hp.length_eq
        have hmw := hm.trans_new hm5 (fun k hk => .inr (by omega))
        clear HSO ho hm5
        go_wp2_with fail
        go_ret
        refine ⟨some ⟨g5, 0, none⟩, c5, m, by rw [hml]; rfl, by rw [← HF.out]; exact hp, hs, by rw [hml]; exact hrm, hmw, fun ad hA => ?_⟩
        injection hA with hA
        rw [← hA]
        exact hg6
end Go.Proofs.YtnlmfmceogbomaaGreatDoor
