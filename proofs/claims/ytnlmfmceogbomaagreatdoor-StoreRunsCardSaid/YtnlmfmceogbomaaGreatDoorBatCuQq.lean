/- Law 1's awake: the document's example of a disk. -/
import Derived.Deep.Slices
import Derived.Test.YtnlmfmceogbomaaGreatDoorConvRQq
import Derived.Test.YtnlmfmceogbomaaGreatDoorPlainQq
import Derived.Test.YtnlmfmceogbomaaGreatDoorBatAQq
import Derived.Test.YtnlmfmceogbomaaGreatDoorDkNewsQq
import Derived.Test.YtnlmfmceogbomaaGreatDoorOpenSQq
import Derived.Test.YtnlmfmceogbomaaGreatDoorRefCQq
namespace Go.Proofs.YtnlmfmceogbomaaGreatDoor
open Go.RowKit
set_option linter.unusedVariables false

set_option maxHeartbeats 2000000 in
set_option maxRecDepth 100000 in
theorem num_calls (k : Int) (w : World) : Calls Tryz.prog 15 #[.int .i64 k] w fun e w' => e = .returned (.int .i64 k) ∧ w' = w := by
  go_enter Tryz.func15, Tryz.ntmps15
  go_wp2_with fail
  go_ret
  exact ⟨rfl, rfl⟩

end Go.Proofs.YtnlmfmceogbomaaGreatDoor

/- A disk that there is not: every method's answer. -/
namespace Go.Proofs.YtnlmfmceogbomaaGreatDoor
open Go.RowKit
set_option linter.unusedVariables false

end Go.Proofs.YtnlmfmceogbomaaGreatDoor

/- Batches: what is told is read back; records as arguments; the statements' own example. -/
namespace Go.Proofs.YtnlmfmceogbomaaGreatDoor
open Go.RowKit
set_option linter.unusedVariables false

theorem bytesO_length {l : List Op3} (hr : rightO l) (hs : SmallO l) : (bytesO l).length ≤ 1001000000 + 1000000 := by
  have h1 := outO_le hs l.length (Nat.le_refl _)
  have h2 := recE_length (n := l.length) (by have := hr.1; omega)
  have h3 := hr.1
  have h4 : l.length * 1000021 ≤ 1000 * 1000021 := Nat.mul_le_mul_right _ h3
  rw [← outO_all, List.length_append, frameB_length]
  omega
theorem flatMap_part (l : List Part) : l.flatMap encPart = l.map (fun q => Value.slice q.A q.b.length q.c) := by
  induction l with
  | nil => rfl
  | cons q l ih => rw [List.flatMap_cons, ih]; rfl
instance : Inhabited Part := ⟨⟨none, [], 0⟩⟩
/-- Records that were told, as an argument. -/
theorem ListAt.parts {w : World} {v : Value} {N : Nat} {ps : List (List UInt8)} {vs : List Value} (h : ListAt w v N ps vs) (ht : ∀ p ∈ ps, p.length ≤ 140737488355328) :
    ∃ (qs : List Part) (A : Option Addr) (c : Nat), v = .slice A qs.length c ∧ bsOf qs = ps ∧ Rd w 1 A qs.length (qs.flatMap encPart) ∧ qs.length ≤ c ∧ ∀ q ∈ qs, PartOk w q := by
  obtain ⟨A, c, hv, hc, _, hr⟩ := h.own.out
  obtain ⟨g, hg⟩ := Go.Deep.choose_lt (α := Part) (n := ps.length) (p := fun i q => vs[i]? = some (.slice q.A q.b.length q.c) ∧ ps[i]? = some q.b ∧ PartOk w q) (fun i hi => by
    have hi' : i < vs.length := by rw [h.len]; exact hi
    obtain ⟨B, bc, e, h1, _, h2⟩ := (h.byt i hi hi').out
    exact ⟨⟨B, ps[i], bc⟩, by rw [List.getElem?_eq_getElem hi', e], by rw [List.getElem?_eq_getElem hi], h2, h1, ht _ (List.getElem_mem hi)⟩)
  have hl : ((List.range ps.length).map g).length = ps.length := by simp
  refine ⟨(List.range ps.length).map g, A, c, by rw [hl]; exact hv, ?_, ?_, by rw [hl]; exact hc, ?_⟩
  · refine List.ext_getElem? fun i => ?_
    by_cases hi : i < ps.length
    · unfold bsOf
      rw [List.getElem?_map, List.getElem?_map, List.getElem?_range hi, (hg i hi).2.1]
      rfl
    · rw [List.getElem?_eq_none (by unfold bsOf; simp; omega), List.getElem?_eq_none (by omega)]
  · have e : ((List.range ps.length).map g).flatMap encPart = vs := by
      refine List.ext_getElem? fun i => ?_
      rw [show ((List.range ps.length).map g).flatMap encPart = ((List.range ps.length).map g).map (fun q => Value.slice q.A q.b.length q.c) from flatMap_part _]
      by_cases hi : i < ps.length
      · rw [List.getElem?_map, List.getElem?_map, List.getElem?_range hi, (hg i hi).1]
        rfl
      · rw [List.getElem?_eq_none (by simp; omega), List.getElem?_eq_none (by rw [h.len]; omega)]
    rw [e, hl]
    exact hr
  · intro q hq
    obtain ⟨i, hi, rfl⟩ := List.mem_map.1 hq
    exact (hg i (List.mem_range.1 hi)).2.2

end Go.Proofs.YtnlmfmceogbomaaGreatDoor

/- Rows of rows of ops, and of bytes, as they come in. -/
namespace Go.Proofs.YtnlmfmceogbomaaGreatDoor
open Go.RowKit Go.Deep Go.ChangeShapes Go.WideShapes
set_option linter.unusedVariables false

/-- A batch as it came in. -/
structure OsV where
  l : List Op3
  A : Option Addr
  c : Nat
instance : Inhabited OsV := ⟨⟨[], none, 0⟩⟩
def encOv (x : OsV) : List Value := [.slice x.A x.l.length x.c]
def OsOk (w : World) (x : OsV) : Prop := Rd w 3 x.A x.l.length (encOs x.l)
theorem OsOk.mod0 {w w1 : World} {x : OsV} (h : OsOk w x) (hm : Mod NoneB w w1) : OsOk w1 x := Rd.mod0 h hm
section
variable {P : Program} {H : Type} {enc : TypeId × Value → H} {w : World} {spare : Nat → Bool} {held : Bool}
end
section
variable {H : Type} {enc : TypeId × Value → H} {w : World} {spare : Nat → Bool} {held : Bool}
theorem el_ops (n : Nat) (cs : List Value) (y : DataW H × List MemPlace) (h : DataW.trod enc Tryz.prog w 0 spare held n 39 cs = some y) (hl : cs.length = 1) : ∃ x : OsV, cs = encOv x ∧ OsOk w x := by
  rcases open_slice Tryz.underlying39 h with ⟨h1, _⟩ | ⟨a, len, cap, _, _, _, _, h1, _⟩
  · exact ⟨⟨[], none, 0⟩, h1, Rd.nil _ _ _⟩
  · subst h1
    obtain ⟨l, rfl, _, _, hr⟩ := rd_ops h
    exact ⟨⟨l, some a, cap⟩, rfl, hr⟩
theorem rd_opss {A : Option Addr} {n c fuel : Nat} {x : DataW H × List MemPlace} (h : DataW.trod enc Tryz.prog w 0 spare held fuel 22 [.slice A n c] = some x) :
    ∃ l : List OsV, l.length = n ∧ n ≤ c ∧ c ≤ maxLen ∧ Rd w 1 A n (l.flatMap encOv) ∧ ∀ x ∈ l, OsOk w x :=
  rd_openQ encOv 1 (fun _ => rfl) (OsOk w) Tryz.underlying22 (by kernel_rfl) el_ops h
end
end Go.Proofs.YtnlmfmceogbomaaGreatDoor

/- BatchCuts: of batches one behind the other, cut anywhere, those whose end is there are told, whole, and no others: the walk of the law. -/
namespace Go.Proofs.YtnlmfmceogbomaaGreatDoor
open Go.RowKit
set_option linter.unusedVariables false

/-- Batches' bytes, one behind the other. -/
def catO (ls : List (List Op3)) : List UInt8 := ls.flatMap bytesO
theorem catO_cons (l : List Op3) (ls : List (List Op3)) : catO (l :: ls) = bytesO l ++ catO ls := rfl
theorem catO_append (a b : List (List Op3)) : catO (a ++ b) = catO a ++ catO b := List.flatMap_append
theorem catO_frames (ls : List (List Op3)) : catO ls = framesB (ls.flatMap recsO) := by
  induction ls with
  | nil => rfl
  | cons l ls ih => rw [catO_cons, List.flatMap_cons, framesB_append, ih]; rfl
/-- How many of the batches end within k bytes. -/
def endsO : List (List Op3) → Nat → Nat
  | [], _ => 0
  | l :: ls, k => if (bytesO l).length ≤ k then endsO ls (k - (bytesO l).length) + 1 else 0
theorem endsIn_ge (a R : List (List UInt8)) : ∀ k, goodOf a ≤ k → endsIn (a ++ R) k = a.length + endsIn R (k - goodOf a) := by
  induction a with
  | nil => intro k _; simp [goodOf]
  | cons p a ih =>
    intro k h
    have hg : goodOf (p :: a) = 8 + p.length + goodOf a := by simp [goodOf]
    rw [hg] at h ⊢
    have e : endsIn (p :: a ++ R) k = if 8 + p.length ≤ k then endsIn (a ++ R) (k - (8 + p.length)) + 1 else 0 := rfl
    rw [e, if_pos (by omega), ih _ (by omega), List.length_cons, Nat.sub_sub]
    omega
theorem endsIn_lt (a R : List (List UInt8)) : ∀ k, k < goodOf a → endsIn (a ++ R) k < a.length := by
  induction a with
  | nil => intro k h; simp [goodOf] at h
  | cons p a ih =>
    intro k h
    have hg : goodOf (p :: a) = 8 + p.length + goodOf a := by simp [goodOf]
    rw [hg] at h
    rw [List.cons_append, List.length_cons]
    unfold endsIn
    split
    · have := ih (k - (8 + p.length)) (by omega); omega
    · omega
theorem bytesO_good (l : List Op3) : (bytesO l).length = goodOf (recsO l) := framesB_length _
theorem replay_cut (ls : List (List Op3)) (h : ∀ l ∈ ls, rightO l ∧ SmallO l) : ∀ (k i used : Nat), (replayGo [] i used ((ls.flatMap recsO).take (endsIn (ls.flatMap recsO) k))).1 = ls.take (endsO ls k) := by
  induction ls with
  | nil => intro k i used; simp [endsIn, endsO, replayGo]
  | cons l ls ih =>
    intro k i used
    obtain ⟨hr, hs⟩ := h l (List.mem_cons_self ..)
    rw [List.flatMap_cons]
    unfold endsO
    rw [bytesO_good]
    by_cases hk : goodOf (recsO l) ≤ k
    · rw [if_pos hk, endsIn_ge _ _ _ hk, List.take_length_add_append, replayGo_batch l hr hs, List.take_succ_cons, ih (fun x hx => h x (List.mem_cons_of_mem _ hx))]
    · rw [if_neg hk]
      have hlt := endsIn_lt (recsO l) (ls.flatMap recsO) k (by omega)
      have hrl : (recsO l).length = l.length + 1 := by simp [recsO]
      rw [List.take_append_of_le_length (by omega)]
      generalize endsIn (recsO l ++ ls.flatMap recsO) k = m at *
      have e : (recsO l).take m = (l.take m).map recO ++ [] := by
        unfold recsO
        rw [List.take_append_of_le_length (by rw [List.length_map]; omega), List.append_nil, List.map_take]
      rw [e, replayGo_ops (l.take m) (fun o ho => ⟨hr.2 o (List.mem_of_mem_take ho), hs o (List.mem_of_mem_take ho)⟩)]
      simp [replayGo]
theorem cut_told (ls : List (List Op3)) (h : ∀ l ∈ ls, rightO l ∧ SmallO l) (k : Nat) (hk : k ≤ (catO ls).length) : (replayB (scanB ((catO ls).take k))).1 = ls.take (endsO ls k) := by
  have hp : ∀ p ∈ ls.flatMap recsO, p.length ≤ 1048576 := fun p hp => by
    obtain ⟨l, hl, hp⟩ := List.mem_flatMap.1 hp
    exact recsO_small (h l hl).2 (h l hl).1.1 p hp
  rw [catO_frames] at hk ⊢
  rw [scanB_cut _ hp k hk]
  exact replay_cut ls h k 0 0

end Go.Proofs.YtnlmfmceogbomaaGreatDoor
