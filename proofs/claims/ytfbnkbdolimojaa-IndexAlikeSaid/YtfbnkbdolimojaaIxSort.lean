/- slices.SortFunc at pairs, by their keys: what a row holds behind it. -/
import Derived.Test.YtfbnkbdolimojaaShelfSort
import Derived.Test.YtfbnkbdolimojaaShelf
import Derived.Test.YtfbnkbdolimojaaRefPutP
import Derived.Test.YtfbnkbdolimojaaFind
import Derived.Test.YtfbnkbdolimojaaOpen
namespace Go.Proofs.Ytfbnkbdolimojaa
open Go.Shelf Go.RowKit Go.Lib Go.Sort
set_option linter.unusedVariables false

def cfP (x y : Pr) : Int := cmpS x.k y.k
theorem ltP (x y : Pr) : ltOf cfP x y = decide (cmpS x.k y.k < 0) := rfl
theorem swoP : SWO (ltOf cfP) where
  irrefl x := by rw [ltP]; exact decide_eq_false (lt_irrefl _)
  trans x y z h1 h2 := by
    rw [ltP] at *
    exact decide_eq_true (cmpS_trans (of_decide_eq_true h1) (of_decide_eq_true h2))
  ntrans x y z h1 h2 := by
    rw [ltP] at *
    have h1 := of_decide_eq_false h1
    have h2 := of_decide_eq_false h2
    refine decide_eq_false fun h => ?_
    rcases lt_tri x.k y.k with h3 | h3 | h3
    · exact h1 h3
    · rw [h3] at h; exact h2 h
    · rcases lt_tri y.k z.k with h4 | h4 | h4
      · exact h2 h4
      · rw [← h4] at h; exact lt_asymm h h3
      · exact lt_asymm h (cmpS_trans h4 h3)

set_option maxHeartbeats 1000000 in
set_option maxRecDepth 100000 in
theorem cmpP_calls (x y : Pr) (W : World) : Calls Try.prog 81 #[.agg #[.string x.k, .string x.v], .agg #[.string y.k, .string y.v]] W fun e w' => e = .returned (.int .i64 (cfP x y)) ∧ ∃ q os', w' = grow (W.drewN q) os' := by
  have hc : ∀ w, Calls Try.prog 82 #[.string x.k, .string y.k] w fun e w' => e = .returned (.int .i64 (cfP x y)) ∧ w = w' := fun w => strings_Compare x.k y.k w
  obtain ⟨c, hcd⟩ : ∃ c, c = cfP x y := ⟨_, rfl⟩
  rw [← hcd] at hc ⊢
  clear hcd
  go_enter Try.func81, Try.ntmps81
  go_wp2_with ((with_reducible refine (hc _).mono ?_); rintro ez wz ⟨rfl, rfl⟩)
  go_ret
  refine ⟨rfl, 0, #[.cells #[.string x.k, .string x.v] 102, .cells #[.string y.k, .string y.v] 102], ?_⟩
  rw [alloc_eq_grow, alloc_eq_grow, grow_grow]
  rfl
theorem cmpLaysP (blk off size : Nat) (w : World) : CmpLays Try.prog 81 #[] encP 2 cfP blk off size w := fun _ _ _ _ x y => cmpP_calls x y _

theorem flat_get (l : List Pr) (j : Nat) (hj : j < l.length * 2) : (encPs l)[j]? = some (flatK encP 2 l.toArray)[j]! := by
  rw [get_flatK encP 2 l.toArray j (by simpa using hj)]
  have hi : j / 2 < l.length := by omega
  have e : l.toArray[j / 2]! = l[j / 2] := by rw [getElem!_pos l.toArray (j / 2) (by simpa using hi)]; simp
  rw [e]
  have hg := encPs_get l (j / 2) hi
  rcases Nat.mod_two_eq_zero_or_one j with h | h
  · rw [h]
    have : j / 2 * 2 = j := by omega
    rw [this] at hg
    rw [hg.1]
    rfl
  · rw [h]
    have : j / 2 * 2 + 1 = j := by omega
    rw [this] at hg
    rw [hg.2]
    rfl
theorem holds_own {w : World} {g c : Nat} {l : List Pr} (h : Own w 102 2 (.slice (some ⟨g, 0, none⟩) l.length c) l.length (encPs l)) : HoldsK encP 2 w g 0 l.toArray := by
  intro j hj
  rw [size_flatK] at hj
  have hj' : j < l.length * 2 := by simpa using hj
  rw [Nat.zero_add]
  exact ⟨h.cellAt j _ (flat_get l j hj'), h.frozenAt j⟩
theorem rd_holds {w : World} {g : Nat} {l : List Pr} (hn : l.length ≤ 9223372036854775807) (h : HoldsK encP 2 w g 0 l.toArray) : Rd w 2 (some ⟨g, 0, none⟩) l.length (encPs l) := by
  refine ⟨encPs_length l, hn, fun _ => ⟨_, rfl, fun j u hu => ?_⟩⟩
  have hj : j < l.length * 2 := by
    have := (List.getElem?_eq_some_iff.1 hu).1
    rw [encPs_length] at this
    exact this
  have h1 := (h j (by rw [size_flatK]; simpa using hj)).1
  rw [flat_get l j hj] at hu
  injection hu with hu
  rw [add_off]
  rw [← hu]
  exact h1

theorem sortWorld_mod (w : World) (g n : Nat) (d : Array Pr) (os : Array Obj) : Mod (fun k => k = g) w (sortWorldK encP 2 w g 0 n d os) := by
  refine ⟨rfl, rfl, rfl, ?_, fun k hk hn => ?_⟩
  · simp [sortWorldK, putRowK, Go.Sort.ahead]
  · unfold sortWorldK
    rw [heap_grow_old _ _ (by simp [putRowK, Go.Sort.ahead]; exact hk)]
    unfold putRowK putRow mapBlock
    simp only [Go.Sort.ahead, Array.getElem?_modify]
    rw [if_neg (fun e => hn e.symm)]

/-- What a row of pairs holds behind the sort: the same pairs, by rising keys. -/
theorem sortP_calls (l : List Pr) (g c : Nat) (w : World) (ho : Own w 102 2 (.slice (some ⟨g, 0, none⟩) l.length c) l.length (encPs l)) (hn : l.length ≤ 1000000000) (hg : g < w.heap.size) :
    Calls Try.prog 80 #[.slice (some ⟨g, 0, none⟩) l.length c, .func (.func 81) #[] #[]] w fun e w' =>
      e = .returned (.tuple #[]) ∧ ∃ m : List Pr, m.Perm l ∧ m.Pairwise (fun a b => ¬ cmpS b.k a.k < 0) ∧ Rd w' 2 (some ⟨g, 0, none⟩) l.length (encPs m) ∧ Mod (fun k => k = g) w w' := by
  have eg : ∀ args w, (callFunc 81 args).run Try.prog w = .ok (.enter 81 args) w := enters_of Try.func81 (by kernel_rfl) rfl
  have hH := holds_own ho
  have hcon := AnyQ.slices_SortFunc sortP 2 Try.isAgg102 Try.sizeOf102 encP (fun _ => rfl) (fun x v hv => by simp [encP] at hv; rcases hv with rfl | rfl <;> rfl) cfP swoP 81 #[] g 0 c l.toArray w eg (cmpLaysP g 0 _ w) hH hg (by simp; omega)
  change Calls Try.prog 80 _ _ _ at hcon
  refine Calls.mono (show Calls Try.prog 80 #[.slice (some ⟨g, 0, none⟩) l.length c, .func (.func 81) #[] #[]] w _ from hcon) ?_
  rintro e w' ⟨rfl, d', n, os, hp, hs, rfl⟩
  obtain ⟨p1, _, p3⟩ := hp
  have hds : d'.size = l.length := by rw [p1]; simp
  have e1 : d'.extract 0 l.toArray.size = d' := by rw [← p1]; exact Array.extract_size
  have e2 : l.toArray.extract 0 l.toArray.size = l.toArray := Array.extract_size
  rw [e1, e2] at p3
  refine ⟨rfl, d'.toList, by simpa using p3, ?_, ?_, sortWorld_mod w g n d' os⟩
  · rw [List.pairwise_iff_getElem]
    intro i j hi hj hij
    have hj' : j < d'.size := by simpa using hj
    have h1 := hs i j (Nat.zero_le _) hij (by rw [← p1]; exact hj')
    rw [ltP] at h1
    have h2 := of_decide_eq_false h1
    rw [getElem!_pos d' j hj', getElem!_pos d' i (by omega)] at h2
    simpa using h2
  · have h0 : HoldsK encP 2 (Go.Sort.ahead w n) g 0 l.toArray := holdsK_ahead encP 2 w n g 0 _ hH
    have h1 : HoldsK encP 2 (putRowK encP 2 (Go.Sort.ahead w n) g 0 d') g 0 d' := holdsK_putRowK encP 2 (Go.Sort.ahead w n) g 0 l.toArray d' h0 p1
    have h2 : HoldsK encP 2 (sortWorldK encP 2 w g 0 n d' os) g 0 d' := holdsK_grow encP 2 _ os g 0 d' (by simp [putRowK, Go.Sort.ahead]; exact hg) h1
    have h3 := rd_holds (l := d'.toList) (by simp; omega) (by simpa using h2)
    have e3 : d'.toList.length = l.length := by simpa using hds
    rw [e3] at h3
    exact h3
theorem sortP_none (p : Option Addr) (c : Nat) (w : World) : Calls Try.prog 80 #[.slice p 0 c, .func (.func 81) #[] #[]] w fun e w' => e = .returned (.tuple #[]) ∧ w' = w :=
  AnyF.slices_SortFunc_none sortP p c _ w
end Go.Proofs.Ytfbnkbdolimojaa
