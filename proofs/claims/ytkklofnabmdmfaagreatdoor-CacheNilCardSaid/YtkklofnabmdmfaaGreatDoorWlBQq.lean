/- The log on a disk of one file, whose plan names nothing: plain facts. No program stands here. -/
import Derived.Test.YtkklofnabmdmfaaGreatDoorWlAQq
import Derived.Test.YtkklofnabmdmfaaGreatDoorOpenBQq
import Derived.Test.YtkklofnabmdmfaaGreatDoorBatCuQq
import Derived.Test.YtkklofnabmdmfaaGreatDoorDkFsQq
namespace Go.Proofs.YtkklofnabmdmfaaGreatDoor
set_option linter.unusedVariables false

end Go.Proofs.YtkklofnabmdmfaaGreatDoor

/- The log where calls fail and crash: plain facts. No program stands here. -/
namespace Go.Proofs.YtkklofnabmdmfaaGreatDoor
set_option linter.unusedVariables false

theorem replay_cut_used (ls : List (List Op3)) (h : ∀ l ∈ ls, rightO l ∧ SmallO l) : ∀ (k i : Nat), ∃ u, (replayGo [] i i ((ls.flatMap recsO).take (endsIn (ls.flatMap recsO) k))).2 = i + u ∧
    goodOf (((ls.flatMap recsO).take (endsIn (ls.flatMap recsO) k)).take u) = (catO (ls.take (endsO ls k))).length := by
  induction ls with
  | nil => intro k i; exact ⟨0, by simp [endsIn, replayGo], by simp [endsIn, endsO, goodOf, catO]⟩
  | cons l ls ih =>
    intro k i
    obtain ⟨hr, hs⟩ := h l (List.mem_cons_self ..)
    have hrl : (recsO l).length = l.length + 1 := by simp [recsO]
    rw [List.flatMap_cons]
    unfold endsO
    rw [bytesO_good]
    by_cases hk : goodOf (recsO l) ≤ k
    · obtain ⟨u, hu1, hu2⟩ := ih (fun x hx => h x (List.mem_cons_of_mem _ hx)) (k - goodOf (recsO l)) (i + l.length + 1)
      rw [if_pos hk, endsIn_ge _ _ _ hk, List.take_length_add_append, replayGo_batch l hr hs]
      refine ⟨l.length + 1 + u, by simp only; rw [hu1]; omega, ?_⟩
      rw [← hrl, List.take_length_add_append, goodOf_append, hu2, List.take_succ_cons, catO_cons, List.length_append, bytesO_good]
    · rw [if_neg hk]
      have hlt := endsIn_lt (recsO l) (ls.flatMap recsO) k (by omega)
      rw [List.take_append_of_le_length (by omega)]
      generalize endsIn (recsO l ++ ls.flatMap recsO) k = m at *
      have e : (recsO l).take m = (l.take m).map recO ++ [] := by
        unfold recsO
        rw [List.take_append_of_le_length (by rw [List.length_map]; omega), List.append_nil, List.map_take]
      refine ⟨0, ?_, by simp [goodOf, catO]⟩
      rw [e, replayGo_ops (l.take m) (fun o ho => ⟨hr.2 o (List.mem_of_mem_take ho), hs o (List.mem_of_mem_take ho)⟩)]
      simp [replayGo]
theorem endsO_snoc (S : List (List Op3)) (l : List Op3) : ∀ m, (catO S).length ≤ m → endsO (S ++ [l]) m = if (catO S).length + (bytesO l).length ≤ m then S.length + 1 else S.length := by
  induction S with
  | nil =>
    intro m _
    have : (catO []).length = 0 := rfl
    rw [List.nil_append, this]
    show (if (bytesO l).length ≤ m then endsO [] (m - (bytesO l).length) + 1 else 0) = _
    simp [endsO]
  | cons x S ih =>
    intro m h
    rw [catO_cons, List.length_append] at h ⊢
    have e : endsO (x :: S ++ [l]) m = if (bytesO x).length ≤ m then endsO (S ++ [l]) (m - (bytesO x).length) + 1 else 0 := rfl
    rw [e, if_pos (by omega), ih _ (by omega), List.length_cons]
    split
    · rw [if_pos (by omega)]
    · rw [if_neg (by omega)]
/-- A gate that nothing is planned for, and one that crashes. -/
theorem gate_ok (d : Dk) (op : Dk → Ans) (hd : d.dn = false) (h1 : ((d.c + 1 : Nat) : Int) ≠ d.p.crash) (h2 : ((d.c + 1 : Nat) : Int) ∉ d.p.fail) : gateD d op = op { d with c := d.c + 1 } := by
  unfold gateD
  rw [hd, if_neg (by decide), if_neg h1, if_neg h2]
theorem gate_three (d : Dk) (op : Dk → Ans) (hd : d.dn = false) : gateD d op = op { d with c := d.c + 1 } ∨ gateD d op = ({ d with c := d.c + 1 }, 6) ∨ gateD d op = ((op { d with c := d.c + 1, dn := true }).1, 7) ∨ gateD d op = ({ d with c := d.c + 1, dn := true }, 7) := by
  unfold gateD
  rw [hd, if_neg (by decide)]
  split
  · split
    · exact .inr (.inr (.inl rfl))
    · exact .inr (.inr (.inr rfl))
  · split
    · exact .inr (.inl rfl)
    · exact .inl rfl
theorem catO_one' (l : List Op3) : catO [l] = bytesO l := by simp [catO]
end Go.Proofs.YtkklofnabmdmfaaGreatDoor

/- The log in a law's own world: each call in one line; the statements' own example. -/
namespace Go.Proofs.YtkklofnabmdmfaaGreatDoor
open Go.RowKit
set_option linter.unusedVariables false

/-- In the world w a disk lies behind p, in just the blocks S, which are newer than w0; all that was in w0 is as it was. -/
structure Lw (w0 w : World) (p : Nat) (d : Dk) (S : Nat → Prop) : Prop where
  isD : IsD w p d S
  base : Mod NoneB w0 w
  own : ∀ k, S k → w0.heap.size ≤ k
structure FitL (d : Dk) : Prop where
  c : d.c ≤ 1000000
  l : d.fs.length ≤ 1000
  u : usedF d.fs ≤ 8000000
theorem logB_le (d : Dk) : (logB d).length ≤ usedF d.fs := by
  unfold logB readD
  split
  · simp
  · split
    · rename_i h
      have hlt := hitF_lt h
      rw [fileAt_get hlt]
      exact usedF_get _ _ hlt
    · simp
section
variable {w0 w w1 : World} {p : Nat} {d : Dk} {S : Nat → Prop}
theorem Lw.mod0 (h : Lw w0 w p d S) (hm : Mod NoneB w w1) : Lw w0 w1 p d S := ⟨h.isD.mod0 hm, h.base.then0 hm, h.own⟩
theorem Lw.to {d' : Dk} {S' T : Nat → Prop} (h : Lw w0 w p d S) (h1 : IsD w1 p d' S') (hm : Mod T w w1) (hT : ∀ k, T k → S k ∨ w0.heap.size ≤ k) (hn : ∀ k, S' k → S k ∨ w.heap.size ≤ k) : Lw w0 w1 p d' S' :=
  ⟨h1, h.base.trans_new hm (fun k hk => .inr ((hT k hk).elim (h.own k) id)), fun k hk => (hn k hk).elim (h.own k) (Nat.le_trans h.base.size)⟩
theorem Lw.dw (h : Dw w0 w p d) : ∃ S, Lw w0 w p d S := by
  obtain ⟨S, h1, h2, h3⟩ := h
  exact ⟨S, h1, h2, h3⟩
end

end Go.Proofs.YtkklofnabmdmfaaGreatDoor

/- The statements' bound: aquiferlaw7.Heavy. -/
namespace Go.Proofs.YtkklofnabmdmfaaGreatDoor
open Go.RowKit
set_option linter.unusedVariables false

end Go.Proofs.YtkklofnabmdmfaaGreatDoor

/- The log in a law's own world: more of it; a commit that crashes, in plain words. -/
namespace Go.Proofs.YtkklofnabmdmfaaGreatDoor
open Go.RowKit
set_option linter.unusedVariables false

section
variable {w0 w w1 : World} {p : Nat} {d : Dk} {S : Nat → Prop}
/-- Blocks that are none of the disk's may turn. -/
theorem Lw.modX {T : Nat → Prop} (h : Lw w0 w p d S) (hm : Mod T w w1) (hT : ∀ k, T k → ¬ S k ∧ w0.heap.size ≤ k) : Lw w0 w1 p d S :=
  ⟨h.isD.mod hm (fun k hk ht => (hT k ht).1 hk), h.base.trans_new hm (fun k hk => .inr (hT k hk).2), h.own⟩
end
theorem bytesO_pos (l : List Op3) : 0 < (bytesO l).length := by
  rw [bytesO_good]
  have h := goodOf_len (recsO l)
  have : (recsO l).length = l.length + 1 := by simp [recsO]
  omega
end Go.Proofs.YtkklofnabmdmfaaGreatDoor

/- What is there behind a crash of the log's disk: plain facts. No program stands here. -/
namespace Go.Proofs.YtkklofnabmdmfaaGreatDoor
open Go.RowKit
set_option linter.unusedVariables false

end Go.Proofs.YtkklofnabmdmfaaGreatDoor
