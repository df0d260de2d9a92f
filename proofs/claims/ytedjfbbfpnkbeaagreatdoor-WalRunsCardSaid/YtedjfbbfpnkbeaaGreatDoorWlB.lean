/- The log on a disk of one file, whose plan names nothing: plain facts. No program stands here. -/
import Derived.Test.YtedjfbbfpnkbeaaGreatDoorWlA
import Derived.Test.YtedjfbbfpnkbeaaGreatDoorBatCu
import Derived.Test.YtedjfbbfpnkbeaaGreatDoorDkFs
import Derived.Test.YtedjfbbfpnkbeaaGreatDoorOpenB
namespace Go.Proofs.YtedjfbbfpnkbeaaGreatDoor
set_option linter.unusedVariables false

theorem sLog_ne : sLog ≠ ⟨#[]⟩ := by decide
theorem bytesO_len {l : List Op3} (hr : rightO l) (hw : wtO l ≤ 5000) : (bytesO l).length ≤ 26100 := by
  rw [bytesO_good]
  have h1 : ∀ m : List Op3, (∀ o ∈ m, 1 + o.k.size + o.v.size ≤ 5000) → goodOf (m.map recO) ≤ 20 * m.length + wtO m := by
    intro m
    induction m with
    | nil => intro _; simp [goodOf]
    | cons o m ih =>
      intro h
      have h2 := ih (fun x hx => h x (List.mem_cons_of_mem _ hx))
      have h3 := h o (List.mem_cons_self ..)
      have h4 := recO_length o
      have e : goodOf ((o :: m).map recO) = 8 + (recO o).length + goodOf (m.map recO) := by simp [goodOf]
      have e2 : wtO (o :: m) = wtOE o + wtO m := by simp [wtO]
      have e3 : wtOE o = 1 + o.k.size + o.v.size := by unfold wtOE; omega
      rw [e, e2, e3, List.length_cons]
      omega
  have h2 := h1 l (wtO_le hw).2
  have h3 := recE_length (n := l.length) (by have := hr.1; omega)
  have h4 := hr.1
  unfold recsO
  rw [goodOf_append]
  have e : goodOf [recE l.length] = 8 + (recE l.length).length := by simp [goodOf]
  rw [e]
  omega
/-- All batches are told, and all of them are whole. -/
theorem replay_cat (ls : List (List Op3)) (h : ∀ l ∈ ls, rightO l ∧ SmallO l) : replayB (ls.flatMap recsO) = (ls, (ls.flatMap recsO).length) := by
  obtain ⟨j, u, he, hn, hq⟩ := replayGo_batches ls h 0 0 []
  rw [List.append_nil] at hq
  unfold replayB
  rw [hq]
  have hl : (ls.flatMap recsO).length = (ls.map fun l => l.length + 1).sum := by
    clear hq he hn h
    induction ls with
    | nil => rfl
    | cons l ls ih =>
      have h3 : (recsO l).length = l.length + 1 := by simp [recsO]
      rw [List.flatMap_cons, List.length_append, List.map_cons, List.sum_cons, ih, h3]
  by_cases hc : ls = []
  · subst hc
    obtain ⟨rfl, rfl⟩ := he rfl
    simp [replayGo]
  · obtain ⟨h1, h2⟩ := hn hc
    simp only [replayGo, List.append_nil, Prod.mk.injEq, true_and]
    omega
theorem scan_cat (ls : List (List Op3)) (h : ∀ l ∈ ls, rightO l ∧ SmallO l) (r : List UInt8) : scanB (catO ls ++ r) = ls.flatMap recsO ++ scanB r := by
  rw [catO_frames]
  exact scanB_frames _ _ (fun p hp => by
    obtain ⟨l, hl, hp⟩ := List.mem_flatMap.1 hp
    exact recsO_small (h l hl).2 (h l hl).1.1 p hp)
theorem scan_cat0 (ls : List (List Op3)) (h : ∀ l ∈ ls, rightO l ∧ SmallO l) : scanB (catO ls) = ls.flatMap recsO := by
  have := scan_cat ls h []
  rwa [List.append_nil, scanB_nil, List.append_nil] at this
/-- What a log says that lies on a disk with these bytes. -/
theorem logB_one (d : Dk) (x : List UInt8) (s : Nat) (h : d.fs = [⟨sLog, x, s⟩]) (hd : d.dn = false) : readD d sLog = (x, 0) := by
  obtain ⟨p, fs, c, dn⟩ := d
  simp only at h hd
  subst h hd
  unfold readD
  rw [if_neg (by simp), if_pos (show hitF [⟨sLog, x, s⟩] sLog = true from hitF_one sLog x s [])]
  show ((fileAt _ (lbF [⟨sLog, x, s⟩] sLog)).b, 0) = _
  rw [lbF_one]
  rfl
theorem log_cat (d : Dk) (ls : List (List Op3)) (s : Nat) (h : d.fs = [⟨sLog, catO ls, s⟩]) (hd : d.dn = false) (hl : ∀ l ∈ ls, rightO l ∧ SmallO l) : logB d = catO ls ∧ logL d = ls ∧ logN d = (catO ls).length := by
  have hb : logB d = catO ls := by unfold logB; rw [logB_one d _ s h hd]
  have hs := scan_cat0 ls hl
  have hr := replay_cat ls hl
  refine ⟨hb, ?_, ?_⟩
  · unfold logL; rw [hb, hs, hr]
  · unfold logN
    rw [hb, hs, hr, List.take_length, ← framesB_length, ← catO_frames]
theorem open_new (cap : Int) (keep : List Int) (c : Nat) : openD (freeD cap keep [] c) = (freeD cap keep [⟨sLog, [], 0⟩] (c + 2), 0) ∧ logB (freeD cap keep [] c) = [] ∧ logN (freeD cap keep [] c) = 0 ∧ logL (freeD cap keep [] c) = [] := by
  have hr : readD (freeD cap keep [] c) sLog = ([], 3) := rfl
  have hb : logB (freeD cap keep [] c) = [] := by unfold logB; rw [hr]
  have hs : scanB [] = [] := scanB_nil
  have hn : logN (freeD cap keep [] c) = 0 := by unfold logN; rw [hb, hs]; rfl
  have hl : logL (freeD cap keep [] c) = [] := by unfold logL; rw [hb, hs]; rfl
  refine ⟨?_, hb, hn, hl⟩
  unfold openD open1D
  rw [hr, if_pos rfl, create_nil0 _ _ _ _ sLog_ne, hn, hb]
  have h2 : open2D 0 [] (freeD cap keep [⟨sLog, [], 0⟩] (c + 1)) = (freeD cap keep [⟨sLog, [], 0⟩] (c + 1), 0) := if_neg (by simp)
  rw [tryD_ok (a := (freeD cap keep [⟨sLog, [], 0⟩] (c + 1), 0)) rfl]
  show tryD (open2D 0 [] (freeD cap keep [⟨sLog, [], 0⟩] (c + 1))) _ = _
  rw [h2, tryD_ok rfl]
  exact sync_one _ _ _ _ _ _
theorem open_cat (cap : Int) (keep : List Int) (ls : List (List Op3)) (s c : Nat) (hl : ∀ l ∈ ls, rightO l ∧ SmallO l) : openD (freeD cap keep [⟨sLog, catO ls, s⟩] c) = (freeD cap keep [⟨sLog, catO ls, (catO ls).length⟩] (c + 1), 0) := by
  obtain ⟨hb, _, hn⟩ := log_cat (freeD cap keep [⟨sLog, catO ls, s⟩] c) ls s rfl rfl hl
  unfold openD open1D
  have h2 : open2D (catO ls).length (catO ls) (freeD cap keep [⟨sLog, catO ls, s⟩] c) = (freeD cap keep [⟨sLog, catO ls, s⟩] c, 0) := if_neg (by omega)
  rw [read_one, if_neg (show ¬ ((0 : Nat) = 3) by decide), hn, hb, tryD_ok (a := (freeD cap keep [⟨sLog, catO ls, s⟩] c, 0)) rfl]
  show tryD (open2D (catO ls).length (catO ls) (freeD cap keep [⟨sLog, catO ls, s⟩] c)) _ = _
  rw [h2, tryD_ok rfl]
  exact sync_one _ _ _ _ _ _
theorem commit_ok (cap : Int) (keep : List Int) (x : List UInt8) (s c n : Nat) (l : List Op3) (hr : rightO l) (hf : (x.length + (bytesO l).length : Nat) ≤ cap) :
    commitD (freeD cap keep [⟨sLog, x, s⟩] c) n l = ⟨freeD cap keep [⟨sLog, x ++ bytesO l, (x ++ bytesO l).length⟩] (c + 2), n + (bytesO l).length, false, 0⟩ := by
  have ho : opsR l = (bytesO l, 0) := if_pos hr
  have hw : writeD (freeD cap keep [⟨sLog, x, s⟩] c) (bytesO l) = (freeD cap keep [⟨sLog, x ++ bytesO l, (x ++ bytesO l).length⟩] (c + 2), 0) := by
    unfold writeD
    rw [append_one _ _ _ _ _ _ _ hf, tryD_ok rfl, sync_one]
  unfold commitD
  rw [ho, if_pos rfl, hw, if_pos rfl]
theorem commit_full (cap : Int) (keep : List Int) (x : List UInt8) (s c : Nat) (l : List Op3) (hr : rightO l) (hf : cap < (x.length + (bytesO l).length : Nat)) :
    commitD (freeD cap keep [⟨sLog, x, s⟩] c) x.length l = ⟨freeD cap keep [⟨sLog, x, min s x.length⟩] (c + 2), x.length, false, 5⟩ := by
  have ho : opsR l = (bytesO l, 0) := if_pos hr
  have hw : writeD (freeD cap keep [⟨sLog, x, s⟩] c) (bytesO l) = (freeD cap keep [⟨sLog, x, s⟩] (c + 1), 5) := by
    unfold writeD
    rw [append_full _ _ _ _ _ _ _ hf, tryD_bad (show ¬ ((5 : Nat) = 0) by decide)]
  unfold commitD
  rw [ho, if_pos rfl, hw, if_neg (show ¬ ((5 : Nat) = 0) by decide), if_neg (show ¬ ((5 : Nat) = 7) by decide), cut_one _ _ _ _ _ _ _ (Nat.le_refl _), List.take_length]
  rfl
theorem reset_ok (cap : Int) (keep : List Int) (x : List UInt8) (s c n : Nat) : resetD (freeD cap keep [⟨sLog, x, s⟩] c) n = ⟨freeD cap keep [⟨sLog, [], 0⟩] (c + 1), 0, false, 0⟩ := by
  have h := cut_one cap keep c sLog x s 0 (Nat.zero_le _)
  rw [List.take_zero, Nat.min_zero] at h
  unfold resetD
  rw [show ((0 : Nat) : Int) = 0 from rfl] at h
  rw [h, if_pos rfl]
end Go.Proofs.YtedjfbbfpnkbeaaGreatDoor

/- The log where calls fail and crash: plain facts. No program stands here. -/
namespace Go.Proofs.YtedjfbbfpnkbeaaGreatDoor
set_option linter.unusedVariables false

theorem replay_cut_used (ls : List (List Op3)) (h : ∀ l ∈ ls, rightO l ∧ SmallO l) : ∀ (k i : Nat), ∃ u, (replayGo [] i i ((ls.flatMap recsO).take (endsIn (ls.flatMap recsO) k))).2 = i + u ∧
    goodOf (((ls.flatMap recsO).take (endsIn (ls.flatMap recsO) k)).take u) = (catO (ls.take (endsO ls k))).length := by
  induction ls with
  | nil => intro k i; exact ⟨0, by simp [endsIn, replayGo], by simp [endsIn, endsO, goodOf, catO]⟩
  | cons l ls ih =>
    intro k i
    obtain ⟨hr, hs⟩ := h l (List.mem_cons_self ..)
    have hrl : (recsO l).length = l.length + 1 := by simp [recsO]
    rw [List.flatMap_cons]
    unfold endsO
    rw [bytesO_good]
    by_cases hk : goodOf (recsO l) ≤ k
    · obtain ⟨u, hu1, hu2⟩ := ih (fun x hx => h x (List.mem_cons_of_mem _ hx)) (k - goodOf (recsO l)) (i + l.length + 1)
      rw [if_pos hk, endsIn_ge _ _ _ hk, List.take_length_add_append, replayGo_batch l hr hs]
      refine ⟨l.length + 1 + u, by simp only; rw [hu1]; omega, ?_⟩
      rw [← hrl, List.take_length_add_append, goodOf_append, hu2, List.take_succ_cons, catO_cons, List.length_append, bytesO_good]
    · rw [if_neg hk]
      have hlt := endsIn_lt (recsO l) (ls.flatMap recsO) k (by omega)
      rw [List.take_append_of_le_length (by omega)]
      generalize endsIn (recsO l ++ ls.flatMap recsO) k = m at *
      have e : (recsO l).take m = (l.take m).map recO ++ [] := by
        unfold recsO
        rw [List.take_append_of_le_length (by rw [List.length_map]; omega), List.append_nil, List.map_take]
      refine ⟨0, ?_, by simp [goodOf, catO]⟩
      rw [e, replayGo_ops (l.take m) (fun o ho => ⟨hr.2 o (List.mem_of_mem_take ho), hs o (List.mem_of_mem_take ho)⟩)]
      simp [replayGo]
theorem endsO_len (ls : List (List Op3)) : ∀ k, (catO (ls.take (endsO ls k))).length ≤ k := by
  induction ls with
  | nil => intro k; simp [endsO, catO]
  | cons l ls ih =>
    intro k
    unfold endsO
    split
    · have := ih (k - (bytesO l).length)
      rw [List.take_succ_cons, catO_cons, List.length_append]
      omega
    · simp [catO]
theorem endsO_snoc (S : List (List Op3)) (l : List Op3) : ∀ m, (catO S).length ≤ m → endsO (S ++ [l]) m = if (catO S).length + (bytesO l).length ≤ m then S.length + 1 else S.length := by
  induction S with
  | nil =>
    intro m _
    have : (catO []).length = 0 := rfl
    rw [List.nil_append, this]
    show (if (bytesO l).length ≤ m then endsO [] (m - (bytesO l).length) + 1 else 0) = _
    simp [endsO]
  | cons x S ih =>
    intro m h
    rw [catO_cons, List.length_append] at h ⊢
    have e : endsO (x :: S ++ [l]) m = if (bytesO x).length ≤ m then endsO (S ++ [l]) (m - (bytesO x).length) + 1 else 0 := rfl
    rw [e, if_pos (by omega), ih _ (by omega), List.length_cons]
    split
    · rw [if_pos (by omega)]
    · rw [if_neg (by omega)]
theorem log_cut (d : Dk) (ls : List (List Op3)) (k s : Nat) (hfs : d.fs = [⟨sLog, (catO ls).take k, s⟩]) (hd : d.dn = false) (hl : ∀ l ∈ ls, rightO l ∧ SmallO l) (hk : k ≤ (catO ls).length) :
    logB d = (catO ls).take k ∧ logL d = ls.take (endsO ls k) ∧ logN d = (catO (ls.take (endsO ls k))).length := by
  have hb : logB d = (catO ls).take k := by unfold logB; rw [logB_one d _ s hfs hd]
  have hp : ∀ p ∈ ls.flatMap recsO, p.length ≤ 1048576 := fun p hp => by
    obtain ⟨l, hl', hp⟩ := List.mem_flatMap.1 hp
    exact recsO_small (hl l hl').2 (hl l hl').1.1 p hp
  refine ⟨hb, ?_, ?_⟩
  · unfold logL; rw [hb]; exact cut_told ls hl k hk
  · unfold logN
    rw [hb]
    have hsc : scanB ((catO ls).take k) = (ls.flatMap recsO).take (endsIn (ls.flatMap recsO) k) := by
      rw [catO_frames] at hk ⊢
      exact scanB_cut _ hp k hk
    rw [hsc]
    obtain ⟨u, h1, h2⟩ := replay_cut_used ls hl k 0
    unfold replayB
    rw [h1, Nat.zero_add]
    exact h2
theorem catO_take (ls : List (List Op3)) (k : Nat) (hk : k ≤ (catO ls).length) : ((catO ls).take k).take (catO (ls.take (endsO ls k))).length = catO (ls.take (endsO ls k)) := by
  have h := endsO_len ls k
  rw [List.take_take, Nat.min_eq_left h]
  conv => lhs; rw [← List.take_append_drop (endsO ls k) ls, catO_append]
  rw [List.take_append_drop, List.take_left]
/-- Opened on a disk whose plan names nothing. -/
theorem open_free (cap : Int) (keep : List Int) (x : List UInt8) (s c : Nat) (n : Nat) (hn : logN (freeD cap keep [⟨sLog, x, s⟩] c) = n) :
    ∃ c', c' ≤ c + 2 ∧ openD (freeD cap keep [⟨sLog, x, s⟩] c) = (freeD cap keep [⟨sLog, x.take n, (x.take n).length⟩] c', 0) := by
  have hb : logB (freeD cap keep [⟨sLog, x, s⟩] c) = x := by unfold logB; rw [read_one]
  have hle := logN_le (freeD cap keep [⟨sLog, x, s⟩] c)
  rw [hb, hn] at hle
  have h1 : open1D (freeD cap keep [⟨sLog, x, s⟩] c) = (freeD cap keep [⟨sLog, x, s⟩] c, 0) := by
    unfold open1D
    rw [read_one, if_neg (show ¬ ((0 : Nat) = 3) by decide)]
  unfold openD
  rw [h1, hn, hb, tryD_ok (a := (freeD cap keep [⟨sLog, x, s⟩] c, 0)) rfl]
  by_cases hlt : n < x.length
  · have h2 : open2D n x (freeD cap keep [⟨sLog, x, s⟩] c) = (freeD cap keep [⟨sLog, x.take n, min s n⟩] (c + 1), 0) := by
      unfold open2D
      rw [if_pos hlt, cut_one _ _ _ _ _ _ _ (by omega)]
    refine ⟨c + 2, by omega, ?_⟩
    show tryD (open2D n x (freeD cap keep [⟨sLog, x, s⟩] c)) _ = _
    rw [h2, tryD_ok rfl]
    exact sync_one _ _ _ _ _ _
  · have h2 : open2D n x (freeD cap keep [⟨sLog, x, s⟩] c) = (freeD cap keep [⟨sLog, x, s⟩] c, 0) := by
      unfold open2D
      rw [if_neg hlt]
    refine ⟨c + 1, by omega, ?_⟩
    show tryD (open2D n x (freeD cap keep [⟨sLog, x, s⟩] c)) _ = _
    rw [h2, tryD_ok rfl, List.take_of_length_le (by omega)]
    exact sync_one _ _ _ _ _ _
/-- A gate that nothing is planned for, and one that crashes. -/
theorem gate_ok (d : Dk) (op : Dk → Ans) (hd : d.dn = false) (h1 : ((d.c + 1 : Nat) : Int) ≠ d.p.crash) (h2 : ((d.c + 1 : Nat) : Int) ∉ d.p.fail) : gateD d op = op { d with c := d.c + 1 } := by
  unfold gateD
  rw [hd, if_neg (by decide), if_neg h1, if_neg h2]
theorem gate_crash (d : Dk) (op : Dk → Ans) (hd : d.dn = false) (h1 : ((d.c + 1 : Nat) : Int) = d.p.crash) : gateD d op = (if d.p.done then (op { d with c := d.c + 1, dn := true }).1 else { d with c := d.c + 1, dn := true }, 7) := by
  unfold gateD
  rw [hd, if_neg (by decide), if_pos h1]
theorem gate_three (d : Dk) (op : Dk → Ans) (hd : d.dn = false) : gateD d op = op { d with c := d.c + 1 } ∨ gateD d op = ({ d with c := d.c + 1 }, 6) ∨ gateD d op = ((op { d with c := d.c + 1, dn := true }).1, 7) ∨ gateD d op = ({ d with c := d.c + 1, dn := true }, 7) := by
  unfold gateD
  rw [hd, if_neg (by decide)]
  split
  · split
    · exact .inr (.inr (.inl rfl))
    · exact .inr (.inr (.inr rfl))
  · split
    · exact .inr (.inl rfl)
    · exact .inl rfl
theorem hit_one (d : Dk) (x : List UInt8) (s : Nat) (f : Dk → Nat → Ans) (h : d.fs = [⟨sLog, x, s⟩]) : hitAns d sLog f = f d 0 := by
  obtain ⟨p, fs, c, dn⟩ := d
  simp only at h
  subst h
  rw [hitAns_true _ (hitF_one _ _ _ _)]
  show f _ (lbF [⟨sLog, x, s⟩] sLog) = _
  rw [lbF_one]
theorem appendF_one (d : Dk) (x : List UInt8) (s : Nat) (b : List UInt8) (h : d.fs = [⟨sLog, x, s⟩]) : appendF b d 0 = (d, 5) ∨ appendF b d 0 = ({ d with fs := [⟨sLog, x ++ b, s⟩] }, 0) := by
  obtain ⟨p, fs, c, dn⟩ := d
  simp only at h
  subst h
  unfold appendF
  split
  · exact .inl rfl
  · exact .inr rfl
theorem appendF_ok (d : Dk) (x : List UInt8) (s : Nat) (b : List UInt8) (h : d.fs = [⟨sLog, x, s⟩]) (hc : ((x.length + b.length : Nat) : Int) ≤ d.p.cap) : appendF b d 0 = ({ d with fs := [⟨sLog, x ++ b, s⟩] }, 0) := by
  obtain ⟨p, fs, c, dn⟩ := d
  simp only at h hc
  subst h
  unfold appendF
  rw [if_neg (by simp [usedF]; omega)]
  rfl
theorem syncF_one (d : Dk) (x : List UInt8) (s : Nat) (h : d.fs = [⟨sLog, x, s⟩]) : syncF d 0 = ({ d with fs := [⟨sLog, x, x.length⟩] }, 0) := by
  obtain ⟨p, fs, c, dn⟩ := d
  simp only at h
  subst h
  rfl
theorem cutF_one (d : Dk) (x : List UInt8) (s n : Nat) (h : d.fs = [⟨sLog, x, s⟩]) (hn : n ≤ x.length) : cutF n d 0 = ({ d with fs := [⟨sLog, x.take n, min s n⟩] }, 0) := by
  obtain ⟨p, fs, c, dn⟩ := d
  simp only at h
  subst h
  unfold cutF
  rw [if_neg (by simp [fileAt]; omega)]
  rfl
theorem catO_one' (l : List Op3) : catO [l] = bytesO l := by simp [catO]
/-- The log's state where nothing went wrong for good; and where it is sick. -/
def KGood (S : List (List Op3)) (d : Dk) : Prop := d.fs = [⟨sLog, catO S, (catO S).length⟩] ∧ d.dn = false
def KSick (S : List (List Op3)) (l : List Op3) (d : Dk) : Prop := ∃ r s, d.fs = [⟨sLog, catO S ++ r, s⟩] ∧ (catO S).length ≤ s ∧ s ≤ (catO S ++ r).length ∧ (r = [] ∨ r = bytesO l)
theorem KSick.of {S : List (List Op3)} {l : List Op3} {d : Dk} (h : d.fs = [⟨sLog, catO S, (catO S).length⟩]) : KSick S l d := ⟨[], _, by rw [List.append_nil]; exact h, Nat.le_refl _, by rw [List.append_nil]; exact Nat.le_refl _, .inl rfl⟩
theorem KSick.of2 {S : List (List Op3)} {l : List Op3} {d : Dk} {s : Nat} (h : d.fs = [⟨sLog, catO S ++ bytesO l, s⟩]) (h1 : (catO S).length ≤ s) (h2 : s ≤ (catO S ++ bytesO l).length) : KSick S l d := ⟨_, s, h, h1, h2, .inr rfl⟩
/-- A cut back to what is committed. -/
theorem keeps_cut (S : List (List Op3)) (l : List Op3) (d : Dk) (r : List UInt8) (s : Nat) (hfs : d.fs = [⟨sLog, catO S ++ r, (catO S).length⟩]) (hd : d.dn = false) (hr : r = [] ∨ r = bytesO l) :
    ((cutD d sLog ((catO S).length : Nat)).2 = 0 ∧ KGood S (cutD d sLog ((catO S).length : Nat)).1) ∨ ((cutD d sLog ((catO S).length : Nat)).2 ≠ 0 ∧ KSick S l (cutD d sLog ((catO S).length : Nat)).1) := by
  have hsk : ∀ d' : Dk, d'.fs = d.fs → KSick S l d' := fun d' h => ⟨r, _, h.trans hfs, Nat.le_refl _, by rw [List.length_append]; omega, hr⟩
  unfold cutD withD
  rcases gate_three d (fun d => hitAns d sLog (cutF ((catO S).length : Nat))) hd with h | h | h | h
  · rw [h, hit_one _ _ _ _ (show ({ d with c := d.c + 1 } : Dk).fs = _ from hfs), cutF_one { d with c := d.c + 1 } (catO S ++ r) (catO S).length (catO S).length hfs (by rw [List.length_append]; omega)]
    exact .inl ⟨rfl, by simp, hd⟩
  · rw [h]
    exact .inr ⟨by show (6 : Nat) ≠ 0; decide, hsk _ rfl⟩
  · rw [h, hit_one _ _ _ _ (show ({ d with c := d.c + 1, dn := true } : Dk).fs = _ from hfs), cutF_one { d with c := d.c + 1, dn := true } (catO S ++ r) (catO S).length (catO S).length hfs (by rw [List.length_append]; omega)]
    exact .inr ⟨by show (7 : Nat) ≠ 0; decide, KSick.of (by simp)⟩
  · rw [h]
    exact .inr ⟨by show (7 : Nat) ≠ 0; decide, hsk _ rfl⟩
/-- What a commit makes of a log that is well. -/
theorem keeps_commit (S : List (List Op3)) (l : List Op3) (d : Dk) (hg : KGood S d) (hr : rightO l) :
    ((commitD d (catO S).length l).e = 0 ∧ (commitD d (catO S).length l).sk = false ∧ (commitD d (catO S).length l).n = (catO (S ++ [l])).length ∧ KGood (S ++ [l]) (commitD d (catO S).length l).d) ∨
    ((commitD d (catO S).length l).e ≠ 0 ∧ (commitD d (catO S).length l).e ≠ 8 ∧ (commitD d (catO S).length l).n = (catO S).length ∧
      (((commitD d (catO S).length l).sk = false ∧ KGood S (commitD d (catO S).length l).d) ∨ ((commitD d (catO S).length l).sk = true ∧ KSick S l (commitD d (catO S).length l).d))) := by
  obtain ⟨hfs, hd⟩ := hg
  have ho : opsR l = (bytesO l, 0) := if_pos hr
  have hcl : catO (S ++ [l]) = catO S ++ bytesO l := by rw [catO_append, catO_one']
  -- behind a write that failed, on a disk that is up
  have hfail : ∀ (w : Ans) (r : List UInt8), writeD d (bytesO l) = w → w.2 = 5 ∨ w.2 = 6 → w.1.fs = [⟨sLog, catO S ++ r, (catO S).length⟩] → w.1.dn = false → (r = [] ∨ r = bytesO l) →
      ((commitD d (catO S).length l).e ≠ 0 ∧ (commitD d (catO S).length l).e ≠ 8 ∧ (commitD d (catO S).length l).n = (catO S).length ∧
        (((commitD d (catO S).length l).sk = false ∧ KGood S (commitD d (catO S).length l).d) ∨ ((commitD d (catO S).length l).sk = true ∧ KSick S l (commitD d (catO S).length l).d))) := by
    intro w r hw he hf hdn hrr
    have hc : commitD d (catO S).length l = ⟨(cutD w.1 sLog ((catO S).length : Nat)).1, (catO S).length, decide ((cutD w.1 sLog ((catO S).length : Nat)).2 ≠ 0), w.2⟩ := by
      unfold commitD
      rw [ho, if_pos rfl, hw, if_neg (by omega), if_neg (by omega)]
    rw [hc]
    refine ⟨by show w.2 ≠ 0; omega, by show w.2 ≠ 8; omega, rfl, ?_⟩
    rcases keeps_cut S l w.1 r 0 hf hdn hrr with ⟨h1, h2⟩ | ⟨h1, h2⟩
    · exact .inl ⟨by simp [h1], h2⟩
    · exact .inr ⟨by simp [h1], h2⟩
  have hdown : ∀ (w : Ans), writeD d (bytesO l) = w → w.2 = 7 → KSick S l w.1 →
      ((commitD d (catO S).length l).e ≠ 0 ∧ (commitD d (catO S).length l).e ≠ 8 ∧ (commitD d (catO S).length l).n = (catO S).length ∧
        (((commitD d (catO S).length l).sk = false ∧ KGood S (commitD d (catO S).length l).d) ∨ ((commitD d (catO S).length l).sk = true ∧ KSick S l (commitD d (catO S).length l).d))) := by
    intro w hw he hk
    have hc : commitD d (catO S).length l = ⟨w.1, (catO S).length, true, 7⟩ := by
      unfold commitD
      rw [ho, if_pos rfl, hw, if_neg (by omega), if_pos he]
    rw [hc]
    exact ⟨by show (7 : Nat) ≠ 0; decide, by show (7 : Nat) ≠ 8; decide, rfl, .inr ⟨rfl, hk⟩⟩
  have hap : appendD d sLog (bytesO l) = gateD d fun d => hitAns d sLog (appendF (bytesO l)) := rfl
  rcases gate_three d (fun d => hitAns d sLog (appendF (bytesO l))) hd with h | h | h | h
  · rw [hit_one _ _ _ _ (show ({ d with c := d.c + 1 } : Dk).fs = _ from hfs)] at h
    rcases appendF_one { d with c := d.c + 1 } _ _ (bytesO l) hfs with h5 | h0
    · have hw : writeD d (bytesO l) = ({ d with c := d.c + 1 }, 5) := by
        unfold writeD
        rw [hap, h, h5, tryD_bad (show ¬ ((5 : Nat) = 0) by decide)]
      exact .inr (hfail _ [] hw (.inl rfl) (by rw [List.append_nil]; exact hfs) hd (.inl rfl))
    · -- the append is made: the sync
      have hfs1 : ({ d with c := d.c + 1, fs := [⟨sLog, catO S ++ bytesO l, (catO S).length⟩] } : Dk).fs = [⟨sLog, catO S ++ bytesO l, (catO S).length⟩] := rfl
      have hw1 : writeD d (bytesO l) = syncD { d with c := d.c + 1, fs := [⟨sLog, catO S ++ bytesO l, (catO S).length⟩] } sLog := by
        unfold writeD
        rw [hap, h, h0, tryD_ok rfl]
      have hsy : syncD { d with c := d.c + 1, fs := [⟨sLog, catO S ++ bytesO l, (catO S).length⟩] } sLog = gateD { d with c := d.c + 1, fs := [⟨sLog, catO S ++ bytesO l, (catO S).length⟩] } fun d => hitAns d sLog syncF := rfl
      rcases gate_three { d with c := d.c + 1, fs := [⟨sLog, catO S ++ bytesO l, (catO S).length⟩] } (fun d => hitAns d sLog syncF) hd with k | k | k | k
      · rw [hit_one _ _ _ _ rfl, syncF_one _ _ _ rfl] at k
        have hw : writeD d (bytesO l) = ({ d with c := d.c + 1 + 1, fs := [⟨sLog, catO S ++ bytesO l, (catO S ++ bytesO l).length⟩] }, 0) := by rw [hw1, hsy, k]
        have hc : commitD d (catO S).length l = ⟨{ d with c := d.c + 1 + 1, fs := [⟨sLog, catO S ++ bytesO l, (catO S ++ bytesO l).length⟩] }, (catO S).length + (bytesO l).length, false, 0⟩ := by
          unfold commitD
          rw [ho, if_pos rfl, hw, if_pos rfl]
        rw [hc]
        exact .inl ⟨rfl, rfl, by rw [hcl, List.length_append], by rw [KGood, hcl]; exact ⟨rfl, hd⟩⟩
      · exact .inr (hfail _ (bytesO l) (hw1.trans (hsy.trans k)) (.inr rfl) rfl hd (.inr rfl))
      · rw [hit_one _ _ _ _ rfl, syncF_one _ _ _ rfl] at k
        exact .inr (hdown _ (hw1.trans (hsy.trans k)) rfl (KSick.of2 rfl (by rw [List.length_append]; omega) (Nat.le_refl _)))
      · exact .inr (hdown _ (hw1.trans (hsy.trans k)) rfl (KSick.of2 (s := (catO S).length) rfl (Nat.le_refl _) (by rw [List.length_append]; omega)))
  · have hw : writeD d (bytesO l) = ({ d with c := d.c + 1 }, 6) := by
      unfold writeD
      rw [hap, h, tryD_bad (show ¬ ((6 : Nat) = 0) by decide)]
    exact .inr (hfail _ [] hw (.inr rfl) (by rw [List.append_nil]; exact hfs) hd (.inl rfl))
  · rw [hit_one _ _ _ _ (show ({ d with c := d.c + 1, dn := true } : Dk).fs = _ from hfs)] at h
    rcases appendF_one { d with c := d.c + 1, dn := true } _ _ (bytesO l) hfs with h5 | h0
    · have hw : writeD d (bytesO l) = ({ d with c := d.c + 1, dn := true }, 7) := by
        unfold writeD
        rw [hap, h, h5, tryD_bad (show ¬ ((7 : Nat) = 0) by decide)]
      exact .inr (hdown _ hw rfl (KSick.of hfs))
    · have hw : writeD d (bytesO l) = ({ d with c := d.c + 1, dn := true, fs := [⟨sLog, catO S ++ bytesO l, (catO S).length⟩] }, 7) := by
        unfold writeD
        rw [hap, h, h0, tryD_bad (show ¬ ((7 : Nat) = 0) by decide)]
      exact .inr (hdown _ hw rfl (KSick.of2 (s := (catO S).length) rfl (Nat.le_refl _) (by rw [List.length_append]; omega)))
  · have hw : writeD d (bytesO l) = ({ d with c := d.c + 1, dn := true }, 7) := by
      unfold writeD
      rw [hap, h, tryD_bad (show ¬ ((7 : Nat) = 0) by decide)]
    exact .inr (hdown _ hw rfl (KSick.of hfs))
end Go.Proofs.YtedjfbbfpnkbeaaGreatDoor

/- The log in a law's own world: each call in one line; the statements' own example. -/
namespace Go.Proofs.YtedjfbbfpnkbeaaGreatDoor
open Go.RowKit
set_option linter.unusedVariables false

/-- In the world w a disk lies behind p, in just the blocks S, which are newer than w0; all that was in w0 is as it was. -/
structure Lw (w0 w : World) (p : Nat) (d : Dk) (S : Nat → Prop) : Prop where
  isD : IsD w p d S
  base : Mod NoneB w0 w
  own : ∀ k, S k → w0.heap.size ≤ k
structure FitL (d : Dk) : Prop where
  c : d.c ≤ 1000000
  l : d.fs.length ≤ 1000
  u : usedF d.fs ≤ 8000000
theorem logB_le (d : Dk) : (logB d).length ≤ usedF d.fs := by
  unfold logB readD
  split
  · simp
  · split
    · rename_i h
      have hlt := hitF_lt h
      rw [fileAt_get hlt]
      exact usedF_get _ _ hlt
    · simp
theorem opsR_le {l : List Op3} (hs : SmallO l) : (opsR l).1.length ≤ 1002000000 := by
  unfold opsR
  split
  · rename_i h; have := bytesO_length h hs; simpa using this
  · simp
section
variable {w0 w w1 : World} {p : Nat} {d : Dk} {S : Nat → Prop}
theorem Lw.mod0 (h : Lw w0 w p d S) (hm : Mod NoneB w w1) : Lw w0 w1 p d S := ⟨h.isD.mod0 hm, h.base.then0 hm, h.own⟩
theorem Lw.to {d' : Dk} {S' T : Nat → Prop} (h : Lw w0 w p d S) (h1 : IsD w1 p d' S') (hm : Mod T w w1) (hT : ∀ k, T k → S k ∨ w0.heap.size ≤ k) (hn : ∀ k, S' k → S k ∨ w.heap.size ≤ k) : Lw w0 w1 p d' S' :=
  ⟨h1, h.base.trans_new hm (fun k hk => .inr ((hT k hk).elim (h.own k) id)), fun k hk => (hn k hk).elim (h.own k) (Nat.le_trans h.base.size)⟩
theorem Lw.dw (h : Dw w0 w p d) : ∃ S, Lw w0 w p d S := by
  obtain ⟨S, h1, h2, h3⟩ := h
  exact ⟨S, h1, h2, h3⟩
/-- A log that was opened. -/
def OpenOk (w0 w : World) (p : Nat) (d : Dk) (S : Nat → Prop) (e : Ending) (w' : World) : Prop :=
  ∃ S' q vl vs, e = .returned (.tuple #[.pointer (some ⟨q, 0, none⟩), vl, .int .i64 0]) ∧ Lw w0 w' p (openD d).1 S' ∧ Mod S w w' ∧ (∀ k, S' k → S k ∨ w.heap.size ≤ k) ∧ w.heap.size ≤ q ∧ ¬ S' q ∧ w'.heap[q]? = some (wblk p (logN d) false) ∧ BatsAt w' vl w.heap.size (logL d) vs
theorem Lw.open (h : Lw w0 w p d S) (ht : TabW w0) (hf : FitL d) (hok : (openD d).2 = 0) : Calls Tryz.prog 8 #[.pointer (some ⟨p, 0, none⟩)] w (OpenOk w0 w p d S) := by
  have htw := ht.mod0 h.base
  have hT : ¬ S 1 := fun hk => by have := h.own _ hk; have := ht.lt; omega
  refine (wopen_calls w p d S h.isD htw hT (by have := hf.c; omega) (by have := hf.l; omega) (by have := hf.u; omega) (by have := logB_le d; have := hf.u; omega)).mono ?_
  rintro e w1 ⟨S', h1, h2, h3, ⟨h4, q, vl, vs, rfl, h5, h6, h7, h8, _, _⟩ | ⟨h4, _⟩⟩
  · exact ⟨S', q, vl, vs, rfl, h.to h1 h2 (fun k hk => .inl hk) h3, h2, h3, h5, h6, h7, h8⟩
  · exact absurd hok h4
/-- Behind a call of the log. -/
def WalOk (w0 w : World) (p q : Nat) (S : Nat → Prop) (r : Cm) (e : Ending) (w' : World) : Prop :=
  e = .returned (.int .i64 r.e) ∧ ∃ S', Lw w0 w' p r.d S' ∧ ¬ S' q ∧ w'.heap[q]? = some (wblk p r.n r.sk) ∧ Mod (fun k => S k ∨ k = q) w w' ∧ (∀ k, S' k → S k ∨ w.heap.size ≤ k)
theorem Lw.commit {q n : Nat} {sk : Bool} (h : Lw w0 w p d S) (ht : TabW w0) (hf : FitL d) (hq : w.heap[q]? = some (wblk p n sk)) (hqS : ¬ S q) (hq0 : w0.heap.size ≤ q) (hn : n ≤ 8000000) (l : List Op3) (A : Option Addr) (c : Nat) (hr : Rd w 3 A l.length (encOs l)) (hs : SmallO l) :
    Calls Tryz.prog 17 #[.pointer (some ⟨q, 0, none⟩), .slice A l.length c] w (WalOk w0 w p q S (commitW d n sk l)) := by
  refine (wcommit_calls w p q d S n sk l A c h.isD hq hqS hr hs (ht.mod0 h.base) (by omega) (by have := hf.c; omega) (by have := hf.l; omega) (by have := hf.u; have := opsR_le hs; omega)).mono ?_
  rintro e w1 ⟨rfl, S', h1, h2, h3, h4⟩
  have hqs := blk_lt hq
  exact ⟨rfl, S', h.to h1 h2 (fun k hk => hk.elim .inl (fun hk => .inr (by rw [hk]; exact hq0))) h3, fun hh => (h3 q hh).elim hqS (fun hh => by omega), h4, h2, h3⟩
theorem Lw.reset {q n : Nat} {sk : Bool} (h : Lw w0 w p d S) (hf : FitL d) (hq : w.heap[q]? = some (wblk p n sk)) (hqS : ¬ S q) (hq0 : w0.heap.size ≤ q) :
    Calls Tryz.prog 14 #[.pointer (some ⟨q, 0, none⟩)] w (WalOk w0 w p q S (resetW d n sk)) := by
  refine (wreset_calls w p q d S n sk h.isD hq hqS (by have := hf.c; omega) (by have := hf.l; omega)).mono ?_
  rintro e w1 ⟨rfl, S', h1, h2, h3, h4⟩
  have hqs := blk_lt hq
  exact ⟨rfl, S', h.to h1 h2 (fun k hk => hk.elim .inl (fun hk => .inr (by rw [hk]; exact hq0))) h3, fun hh => (h3 q hh).elim hqS (fun hh => by omega), h4, h2, h3⟩
end
theorem fitL_one (cap : Int) (keep : List Int) (n : ByteArray) (x : List UInt8) (s c : Nat) (hc : c ≤ 1000) (hx : x.length ≤ 1000000) : FitL (freeD cap keep [⟨n, x, s⟩] c) :=
  ⟨by show c ≤ _; omega, by show 1 ≤ _; omega, by show usedF [⟨n, x, s⟩] ≤ _; simp [usedF]; omega⟩
theorem fitL_nil (cap : Int) (keep : List Int) (c : Nat) (hc : c ≤ 1000) : FitL (freeD cap keep [] c) :=
  ⟨by show c ≤ _; omega, by show 0 ≤ _; omega, by show usedF [] ≤ _; simp [usedF]⟩
theorem catO_one (l : List Op3) : catO [l] = bytesO l := by simp [catO]
def opA : Op3 := ⟨false, ⟨#[97]⟩, ⟨#[49]⟩⟩
theorem opA_right : rightO [opA] := ⟨by simp, fun o ho h => by rw [List.mem_singleton] at ho; subst ho; cases h⟩
theorem opA_wt : wtO [opA] ≤ 5000 := by decide

set_option maxHeartbeats 2000000 in
set_option maxRecDepth 100000 in
theorem awake7_calls (w : World) (ht : TabW w) : Calls Tryz.prog 5 #[] w fun e w' => e = .returned (.bool true) ∧ Mod NoneB w w' := by
  obtain ⟨hop, hob, hon, hol⟩ := open_new 1000 [] 0
  have hs := smallO_of opA_wt
  have hbl := bytesO_len opA_right opA_wt
  have hbl2 : (bytesO [opA]).length ≤ 100 := by
    have h1 := recO_length opA
    have h2 := recE_length (n := 1) (by decide)
    have h3 : opA.k.size = 1 := rfl
    have h4 : opA.v.size = 1 := rfl
    have e : goodOf (recsO [opA]) = 8 + (recO opA).length + (8 + (recE 1).length) := by simp [goodOf, recsO]
    rw [bytesO_good, e]
    omega
  have hcm := commit_ok 1000 [] [] 0 2 0 [opA] opA_right (by simp; omega)
  have hcw : commitW (freeD 1000 [] [⟨sLog, [], 0⟩] 2) 0 false [opA] = commitD (freeD 1000 [] [⟨sLog, [], 0⟩] 2) 0 [opA] := rfl
  rw [hcm, List.nil_append, ← catO_one] at hcw
  have hall : ∀ l ∈ [[opA]], rightO l ∧ SmallO l := fun l hl => by rw [List.mem_singleton] at hl; subst hl; exact ⟨opA_right, hs⟩
  have hop2 := open_cat 1000 [] [[opA]] (catO [[opA]]).length 4 hall
  obtain ⟨hb2, hl2, hn2⟩ := log_cat (freeD 1000 [] [⟨sLog, catO [[opA]], (catO [[opA]]).length⟩] 4) [[opA]] _ rfl rfl hall
  have hcl : (catO [[opA]]).length ≤ 100 := by rw [catO_one]; exact hbl2
  have HOP := Lib.hid hop
  have HON := Lib.hid hon
  have HOL := Lib.hid hol
  have HCW := Lib.hid hcw
  have HOP2 := Lib.hid hop2
  have HL2 := Lib.hid hl2
  obtain ⟨x, hx⟩ : ∃ x, x = catO [[opA]] := ⟨_, rfl⟩
  rw [← hx] at hcl HCW HOP2 HL2
  have HS := Lib.hid hs
  have hrn : Rd w 1 (none : Option Addr) 0 [] := Rd.nil _ _ _
  clear hop hob hon hol hcm hcw hop2 hb2 hl2 hn2 hbl hbl2 hall hs hx
  go_enter Tryz.func5, Tryz.ntmps5
  go_wp2_with fail
  refine (Dw.new0 w w (Mod.refl _ _) 1000).mono ?_
  rintro e w1 ⟨p, rfl, hdw⟩
  obtain ⟨S1, h1⟩ := Lw.dw hdw
  clear hdw
  go_wp2_with fail
  refine (h1.open ht (fitL_nil _ _ _ (by omega)) (by rw [HOP.out])).mono ?_
  rintro e w2 ⟨S2, q, vl, vs, rfl, h2, hm12, hn12, hqN, hqS, hq, hba⟩
  rw [HOP.out] at h2
  rw [HON.out] at hq
  rw [HOL.out] at hba
  obtain ⟨A2, c2, rfl, _⟩ := hba.rd
  have hq0 : w.heap.size ≤ q := Nat.le_trans h1.base.size hqN
  clear hba hm12 hn12 hqN h1
  go_wp2_with ((with_reducible refine (num_calls _ _).mono ?_); rintro ez wz ⟨rfl, rfl⟩)
  have hal : Mod NoneB wz (wz.alloc (.cells #[.bool false, .string ⟨#[97]⟩, .string ⟨#[49]⟩] 55)) := (Mod.refl NoneB wz).alloc _
  have hbx := box1 wz (.cells #[.bool false, .string ⟨#[97]⟩, .string ⟨#[49]⟩] 55)
  have hro : Rd (wz.alloc (.cells #[.bool false, .string ⟨#[97]⟩, .string ⟨#[49]⟩] 55)) 3 (some ⟨wz.heap.size, 0, none⟩) 1 (encOs [opA]) := rd_blk (sz := 3) (n := 1) hbx rfl (by decide)
  refine ((h2.mod0 hal).commit ht (fitL_one _ _ _ _ _ _ (by omega) (by simp)) (hal.blk hq (fun h => h)) hqS hq0 (by omega) [opA] _ 1 hro HS.out).mono ?_
  rintro e w3 ⟨rfl, S3, h3, hqS3, hq3, _, _⟩
  rw [HCW.out] at h3 ⊢
  clear hq3 hq h2 hal hbx hro
  go_wp2_with fail
  refine (h3.open ht (fitL_one _ _ _ _ _ _ (by omega) (by omega)) (by rw [HOP2.out])).mono ?_
  rintro e w4 ⟨S4, q4, vl4, vs4, rfl, h4, _, _, _, _, _, hba4⟩
  rw [HL2.out] at hba4
  obtain ⟨u0, rfl⟩ : ∃ u0, vs4 = [u0] := by
    have h := hba4.len
    match vs4, h with
    | [a], _ => exact ⟨a, rfl⟩
  obtain ⟨g, cg, hvg⟩ := hba4.own.addrOf (by simp)
  have hvg2 : vl4 = .slice (some ⟨g, 0, none⟩) 1 cg := hvg
  subst hvg2
  obtain ⟨B0, b0, e0, _⟩ := (hba4.ent 0 (by simp) (by simp)).nilD0
  have e0' : u0 = .slice B0 1 b0 := e0
  subst e0'
  have y0 : w4.cell? ⟨g, 0, none⟩ = some (.slice B0 1 b0) := Own.cellAt (n := 1) hba4.own 0 _ rfl
  have hb4 := h4.base
  clear hba4 e0 hvg h4 h3
  go_wp2_with ((with_reducible refine (num_calls _ _).mono ?_); rintro ez wz ⟨rfl, rfl⟩)
  go_ret
  exact ⟨rfl, hb4⟩
end Go.Proofs.YtedjfbbfpnkbeaaGreatDoor

/- The statements' bound: aquiferlaw7.Heavy. -/
namespace Go.Proofs.YtedjfbbfpnkbeaaGreatDoor
open Go.RowKit
set_option linter.unusedVariables false

/-- Within the statements' bound. -/
def LightL (l : List OsV) : Prop := l.length ≤ 40 ∧ ∀ x ∈ l, wtO x.l ≤ 5000 ∧ x.l.length ≤ 60
def LightP (ps : List PlV) : Prop := ps.length ≤ 40 ∧ ∀ x ∈ ps, x.p.fail.length ≤ 200 ∧ x.p.keep.length ≤ 50
def HeavyE (l : List OsV) (ps : List PlV) (w : World) (e : Ending) (w' : World) : Prop := ∃ b, e = .returned (.bool b) ∧ Mod NoneB w w' ∧ (b = false → LightL l ∧ LightP ps)
set_option maxHeartbeats 4000000 in
set_option maxRecDepth 100000 in
theorem heavy7_calls (l : List OsV) (ps : List PlV) (A B : Option Addr) (c c' : Nat) (w : World) (hr : Rd w 1 A l.length (l.flatMap encOv)) (ho : ∀ x ∈ l, OsOk w x) (hp : Rd w 5 B ps.length (ps.flatMap encPl)) (hpo : ∀ x ∈ ps, PlOk w x) :
    Calls Tryz.prog 4 #[.slice A l.length c, .slice B ps.length c'] w (HeavyE l ps w) := by
  have HO := Lib.hid ho
  have HPO := Lib.hid hpo
  have hn := hr.2.1
  have hn' := hp.2.1
  clear ho hpo
  by_cases h40 : l.length ≤ 40
  case neg =>
    have q1 : (40 : Int) < (l.length : Int) := by omega
    clear h40
    go_enter Tryz.func4, Tryz.ntmps4
    go_wp2_with fail
    go_ret
    exact ⟨true, rfl, Mod.refl _ _, fun h => by cases h⟩
  have q1 : ¬ ((40 : Int) < (l.length : Int)) := by omega
  by_cases p40 : ps.length ≤ 40
  case neg =>
    have q2 : (40 : Int) < (ps.length : Int) := by omega
    clear p40
    go_enter Tryz.func4, Tryz.ntmps4
    go_wp2_with fail
    go_ret
    exact ⟨true, rfl, Mod.refl _ _, fun h => by cases h⟩
  have q2 : ¬ ((40 : Int) < (ps.length : Int)) := by omega
  go_enter Tryz.func4, Tryz.ntmps4
  go_wp2_with fail
  clear q1 q2
  go_loopw [5] (fun i wr => ∃ j : Nat, i = .int .i64 j ∧ j ≤ l.length ∧ (∀ x ∈ l.take j, wtO x.l ≤ 5000 ∧ x.l.length ≤ 60) ∧ Mod NoneB w wr) (fun i _ => l.length - (intOf i).toNat)
  case atStart => exact ⟨0, rfl, by omega, (fun x hx => by simp at hx), Mod.refl _ _⟩
  case round =>
    obtain ⟨j, rfl, hj, hall, hmr⟩ := hrel
    by_cases hlt : j < l.length
    · obtain ⟨ad, rfl, h0, _⟩ := Rd.elem (f := encOv) (fun _ => rfl) (hr.mod0 hmr) (by decide) j hlt
      have y0 := h0 _ rfl
      rw [Nat.mul_one] at y0
      have hrd := (HO.out l[j] (List.getElem_mem _)).mod0 hmr
      have htk : l.take (j + 1) = l.take j ++ [l[j]] := List.take_succ_eq_append_getElem hlt
      obtain ⟨x, hx⟩ : ∃ x, x = l[j] := ⟨_, rfl⟩
      rw [← hx] at y0 hrd htk
      obtain ⟨m, X, xc⟩ := x
      simp only [OsOk] at hrd htk y0
      have HTK := Lib.hid htk
      have HALL := Lib.hid hall
      have q2 : (0 : Int) ≤ (j : Int) := by omega
      have q3 : (j : Int) < (l.length : Int) := by omega
      clear hx h0 htk hall
      go_wp2_with fail
      refine (greatO_calls m X xc _ hrd).mono ?_
      rintro e w1 ⟨b, rfl, hm1, hb1⟩
      have hm11 := hmr.then0 hm1
      cases b with
      | true =>
        clear hb1
        go_wp2_with fail
        go_ret
        exact ⟨true, rfl, hm11, fun h => by cases h⟩
      | false =>
        have hw := hb1 rfl
        have y1 := hm1.cell0 y0
        have hmn := hrd.2.1
        clear hb1 y0
        by_cases h60 : m.length ≤ 60
        · have q4 : ¬ ((60 : Int) < (m.length : Int)) := by omega
          go_wp2_with fail
          go_roundw
          case rel =>
            refine ⟨j + 1, by go_num, by omega, fun x hx => ?_, hm11⟩
            rw [HTK.out] at hx
            rcases List.mem_append.1 hx with hx | hx
            · exact HALL.out x hx
            · rw [List.mem_singleton] at hx; subst hx; exact ⟨hw, h60⟩
          case measure => simp [intOf]; omega
        · have q4 : (60 : Int) < (m.length : Int) := by omega
          go_wp2_with fail
          go_ret
          exact ⟨true, rfl, hm11, fun h => by cases h⟩
    · obtain rfl : j = l.length := by omega
      rw [List.take_length] at hall
      have HALL := Lib.hid hall
      clear hall
      go_wp2_with fail
      go_loopw [6] (fun i wx => ∃ k : Nat, i = .int .i64 k ∧ k ≤ ps.length ∧ (∀ x ∈ ps.take k, x.p.fail.length ≤ 200 ∧ x.p.keep.length ≤ 50) ∧ wx = wr) (fun i _ => ps.length - (intOf i).toNat)
      case atStart => exact ⟨0, rfl, by omega, (fun x hx => by simp at hx), rfl⟩
      case round =>
        obtain ⟨k, rfl, hk, hpl, rfl⟩ := hrel
        by_cases hlt : k < ps.length
        · obtain ⟨ad, rfl, h0, _⟩ := Rd.elem (f := encPl) (fun _ => rfl) (hp.mod0 hmr) (by decide) k hlt
          obtain ⟨ad', e', _, h1⟩ := Rd.elem (f := encPl) (fun _ => rfl) (hp.mod0 hmr) (by decide) k hlt
          cases e'
          have y1 := h1 1 _ (by decide) (by decide) rfl
          have y4 := h1 4 _ (by decide) (by decide) rfl
          have htk : ps.take (k + 1) = ps.take k ++ [ps[k]] := List.take_succ_eq_append_getElem hlt
          have hpk := HPO.out ps[k] (List.getElem_mem _)
          obtain ⟨x, hx⟩ : ∃ x, x = ps[k] := ⟨_, rfl⟩
          rw [← hx] at y1 y4 htk hpk
          have hf1 := hpk.fail.2.1
          have hf2 := hpk.keep.2.1
          have HTK := Lib.hid htk
          have HPL := Lib.hid hpl
          have q2 : (0 : Int) ≤ (k : Int) := by omega
          have q3 : (k : Int) < (ps.length : Int) := by omega
          clear hx h0 h1 htk hpl
          by_cases f200 : x.p.fail.length ≤ 200
          · have q4 : ¬ ((200 : Int) < (x.p.fail.length : Int)) := by omega
            by_cases k50 : x.p.keep.length ≤ 50
            · have q5 : ¬ ((50 : Int) < (x.p.keep.length : Int)) := by omega
              go_wp2_with fail
              go_roundw
              case rel =>
                refine ⟨k + 1, by go_num, by omega, fun y hy => ?_, by first | rfl | trivial⟩
                rw [HTK.out] at hy
                rcases List.mem_append.1 hy with hy | hy
                · exact HPL.out y hy
                · rw [List.mem_singleton] at hy; subst hy; exact ⟨f200, k50⟩
              case measure => simp [intOf]; omega
            · have q5 : (50 : Int) < (x.p.keep.length : Int) := by omega
              go_wp2_with fail
              go_ret
              exact ⟨true, rfl, hmr, fun h => by cases h⟩
          · have q4 : (200 : Int) < (x.p.fail.length : Int) := by omega
            go_wp2_with fail
            go_ret
            exact ⟨true, rfl, hmr, fun h => by cases h⟩
        · obtain rfl : k = ps.length := by omega
          rw [List.take_length] at hpl
          have HPL := Lib.hid hpl
          clear hpl
          go_wp2_with fail
          go_ret
          exact ⟨false, rfl, hmr, fun _ => ⟨⟨h40, HALL.out⟩, ⟨p40, HPL.out⟩⟩⟩
end Go.Proofs.YtedjfbbfpnkbeaaGreatDoor

/- The log in a law's own world: more of it; a commit that crashes, in plain words. -/
namespace Go.Proofs.YtedjfbbfpnkbeaaGreatDoor
open Go.RowKit
set_option linter.unusedVariables false

section
variable {w0 w w1 : World} {p : Nat} {d : Dk} {S : Nat → Prop}
/-- A log that was opened; what was told lies in none of the disk's blocks. -/
def OpenOk2 (w0 w : World) (p : Nat) (d : Dk) (S : Nat → Prop) (e : Ending) (w' : World) : Prop :=
  ∃ S' q vl vs, e = .returned (.tuple #[.pointer (some ⟨q, 0, none⟩), vl, .int .i64 0]) ∧ Lw w0 w' p (openD d).1 S' ∧ Mod S w w' ∧ (∀ k, S' k → S k ∨ w.heap.size ≤ k) ∧ w.heap.size ≤ q ∧ ¬ S' q ∧ w'.heap[q]? = some (wblk p (logN d) false) ∧ BatsAt w' vl w.heap.size (logL d) vs ∧
    (∀ g, vl.ownBlock = some g → ¬ S' g) ∧ (∀ u ∈ vs, ∀ g, u.ownBlock = some g → ¬ S' g)
theorem Lw.open2 (h : Lw w0 w p d S) (ht : TabW w0) (hf : FitL d) (hok : (openD d).2 = 0) : Calls Tryz.prog 8 #[.pointer (some ⟨p, 0, none⟩)] w (OpenOk2 w0 w p d S) := by
  have htw := ht.mod0 h.base
  have hT : ¬ S 1 := fun hk => by have := h.own _ hk; have := ht.lt; omega
  refine (wopen_calls w p d S h.isD htw hT (by have := hf.c; omega) (by have := hf.l; omega) (by have := hf.u; omega) (by have := logB_le d; have := hf.u; omega)).mono ?_
  rintro e w1 ⟨S', h1, h2, h3, ⟨h4, q, vl, vs, rfl, h5, h6, h7, h8, h9, h10⟩ | ⟨h4, _⟩⟩
  · exact ⟨S', q, vl, vs, rfl, h.to h1 h2 (fun k hk => .inl hk) h3, h2, h3, h5, h6, h7, h8, h9, h10⟩
  · exact absurd hok h4
def RestOk (w0 w : World) (p : Nat) (d' : Dk) (S : Nat → Prop) (e : Ending) (w' : World) : Prop := e = .returned (.tuple #[]) ∧ ∃ S', Lw w0 w' p d' S' ∧ Mod S w w' ∧ (∀ k, S' k → S k ∨ w.heap.size ≤ k)
theorem Lw.restart0 (h : Lw w0 w p d S) (hf : FitL d) (cap : Int) :
    Calls Tryz.prog 12 #[.pointer (some ⟨p, 0, none⟩), .agg #[.int .i64 cap, .slice none 0 0, .int .i64 0, .bool false, .slice none 0 0]] w (RestOk w0 w p (restartD d ⟨cap, [], 0, false, []⟩) S) := by
  refine (restart_calls w p d S ⟨cap, [], 0, false, []⟩ none none 0 0 h.isD (Rd.nil _ _ _) (Rd.nil _ _ _) (fun h => absurd h (Nat.lt_irrefl _)) (fun h => absurd h (Nat.lt_irrefl _)) (Nat.zero_le _) (Nat.zero_le _) (by have := hf.l; omega) (by have := hf.u; omega)).mono ?_
  rintro e w1 ⟨rfl, S', h1, h2, h3⟩
  exact ⟨rfl, S', h.to h1 h2 (fun k hk => .inl hk) h3, h2, h3⟩
/-- Blocks that are none of the disk's may turn. -/
theorem Lw.modX {T : Nat → Prop} (h : Lw w0 w p d S) (hm : Mod T w w1) (hT : ∀ k, T k → ¬ S k ∧ w0.heap.size ≤ k) : Lw w0 w1 p d S :=
  ⟨h.isD.mod hm (fun k hk ht => (hT k ht).1 hk), h.base.trans_new hm (fun k hk => .inr (hT k hk).2), h.own⟩
end
theorem fitL_at {d : Dk} {x : List UInt8} {s : Nat} (hfs : d.fs = [⟨sLog, x, s⟩]) (hc : d.c ≤ 1000) (hx : x.length ≤ 4000000) : FitL d :=
  ⟨by omega, by rw [hfs]; show 1 ≤ _; omega, by rw [hfs]; simp [usedF]; omega⟩
/-- A disk that crashes at a call of its own, and not at the first ones. -/
def crD (cap crash : Int) (done : Bool) (keep fail : List Int) (fs : List Fl) (c : Nat) : Dk := ⟨⟨cap, fail, crash, done, keep⟩, fs, c, false⟩
theorem crD_gate {cap crash : Int} {done : Bool} {keep fail : List Int} {fs : List Fl} {c : Nat} (op : Dk → Ans) (h1 : ((c + 1 : Nat) : Int) ≠ crash) (h2 : ((c + 1 : Nat) : Int) ∉ fail) : gateD (crD cap crash done keep fail fs c) op = op (crD cap crash done keep fail fs (c + 1)) :=
  gate_ok _ op rfl h1 h2
theorem cr_open {cap crash : Int} {done : Bool} {keep fail : List Int} (h1 : crash ≠ 1) (h2 : crash ≠ 2) (h3 : (1 : Int) ∉ fail) (h4 : (2 : Int) ∉ fail) :
    openD (crD cap crash done keep fail [] 0) = (crD cap crash done keep fail [⟨sLog, [], 0⟩] 2, 0) ∧ logN (crD cap crash done keep fail [] 0) = 0 ∧ logL (crD cap crash done keep fail [] 0) = [] := by
  have hr : readD (crD cap crash done keep fail [] 0) sLog = ([], 3) := rfl
  have hb : logB (crD cap crash done keep fail [] 0) = [] := by unfold logB; rw [hr]
  have hs : scanB [] = [] := scanB_nil
  have hn : logN (crD cap crash done keep fail [] 0) = 0 := by unfold logN; rw [hb, hs]; rfl
  have hl : logL (crD cap crash done keep fail [] 0) = [] := by unfold logL; rw [hb, hs]; rfl
  refine ⟨?_, hn, hl⟩
  have hcr : createD (crD cap crash done keep fail [] 0) sLog = (crD cap crash done keep fail [⟨sLog, [], 0⟩] 1, 0) := by
    unfold createD
    rw [crD_gate _ (by simpa using fun h => h1 h.symm) (by simpa using h3)]
    unfold createF
    rw [if_neg sLog_ne]
    rfl
  have h1' : open1D (crD cap crash done keep fail [] 0) = (crD cap crash done keep fail [⟨sLog, [], 0⟩] 1, 0) := by
    unfold open1D
    rw [hr, if_pos rfl, hcr]
  unfold openD
  rw [h1', hn, hb, tryD_ok (a := (crD cap crash done keep fail [⟨sLog, [], 0⟩] 1, 0)) rfl]
  have h2' : open2D 0 [] (crD cap crash done keep fail [⟨sLog, [], 0⟩] 1) = (crD cap crash done keep fail [⟨sLog, [], 0⟩] 1, 0) := if_neg (by simp)
  show tryD (open2D 0 [] (crD cap crash done keep fail [⟨sLog, [], 0⟩] 1)) _ = _
  rw [h2', tryD_ok rfl]
  show syncD (crD cap crash done keep fail [⟨sLog, [], 0⟩] 1) sLog = _
  unfold syncD withD
  rw [crD_gate _ (by intro h; apply h2; omega) (by simpa using h4), hit_one _ [] 0 _ rfl, syncF_one _ [] 0 rfl]
  rfl
theorem bytesO_pos (l : List Op3) : 0 < (bytesO l).length := by
  rw [bytesO_good]
  have h := goodOf_len (recsO l)
  have : (recsO l).length = l.length + 1 := by simp [recsO]
  omega
def thereB (second done big : Bool) : Bool := second && (done || big) || !second && done && big
theorem crash_commit (a b : List Op3) (hra : rightO a) (hrb : rightO b) (second done : Bool) (k : Nat) (hsz : (bytesO a).length + (bytesO b).length ≤ 100000) :
    commitD (crD 100000 (if second then 6 else 5) done [(k : Int)] [] [⟨sLog, [], 0⟩] 2) 0 a = ⟨crD 100000 (if second then 6 else 5) done [(k : Int)] [] [⟨sLog, bytesO a, (bytesO a).length⟩] 4, (bytesO a).length, false, 0⟩ ∧
    ∃ D3 m, commitD (crD 100000 (if second then 6 else 5) done [(k : Int)] [] [⟨sLog, bytesO a, (bytesO a).length⟩] 4) (bytesO a).length b = ⟨D3, (bytesO a).length, true, 7⟩ ∧
      restartD D3 ⟨100000, [], 0, false, []⟩ = freeD 100000 [] [⟨sLog, (catO [a, b]).take m, ((catO [a, b]).take m).length⟩] 0 ∧ (bytesO a).length ≤ m ∧ m ≤ (catO [a, b]).length ∧ thereB second done (decide ((bytesO b).length ≤ k)) = decide ((catO [a, b]).length ≤ m) ∧ FitL D3 := by
  have hoa : opsR a = (bytesO a, 0) := if_pos hra
  have hob : opsR b = (bytesO b, 0) := if_pos hrb
  have hcat : catO [a, b] = bytesO a ++ bytesO b := by simp [catO]
  have hbp := bytesO_pos b
  obtain ⟨x, hx⟩ : ∃ x, x = bytesO a := ⟨_, rfl⟩
  obtain ⟨y, hy⟩ : ∃ y, y = bytesO b := ⟨_, rfl⟩
  rw [hcat]
  rw [← hx, ← hy] at hsz ⊢
  rw [← hx] at hoa
  rw [← hy] at hob hbp
  obtain ⟨cr, hcr⟩ : ∃ cr : Int, cr = if second then 6 else 5 := ⟨_, rfl⟩
  have hcr3 : cr = 5 ∨ cr = 6 := by rw [hcr]; cases second <;> simp
  have happ : ∀ (z : List UInt8) (s c : Nat), ((c + 1 : Nat) : Int) ≠ cr → (x ++ y).length = x.length + y.length → ∀ (u v : List UInt8), u.length + v.length ≤ 100000 →
      appendD (crD 100000 cr done [(k : Int)] [] [⟨sLog, u, s⟩] c) sLog v = (crD 100000 cr done [(k : Int)] [] [⟨sLog, u ++ v, s⟩] (c + 1), 0) := by
    intro z s c h1 _ u v h2
    unfold appendD withD
    rw [crD_gate _ h1 (by simp), hit_one _ u s _ rfl, appendF_ok _ u s v rfl (by show ((u.length + v.length : Nat) : Int) ≤ 100000; omega)]
    rfl
  have hsyn : ∀ (s c : Nat), ((c + 1 : Nat) : Int) ≠ cr → ∀ (u : List UInt8), syncD (crD 100000 cr done [(k : Int)] [] [⟨sLog, u, s⟩] c) sLog = (crD 100000 cr done [(k : Int)] [] [⟨sLog, u, u.length⟩] (c + 1), 0) := by
    intro s c h1 u
    unfold syncD withD
    rw [crD_gate _ h1 (by simp), hit_one _ u s _ rfl, syncF_one _ u s rfl]
    rfl
  rw [← hcr]
  refine ⟨?_, ?_⟩
  · have hw : writeD (crD 100000 cr done [(k : Int)] [] [⟨sLog, [], 0⟩] 2) x = (crD 100000 cr done [(k : Int)] [] [⟨sLog, x, x.length⟩] 4, 0) := by
      unfold writeD
      rw [happ [] 0 2 (by omega) (by simp) [] x (by simp; omega), tryD_ok rfl]
      show syncD (crD 100000 cr done [(k : Int)] [] [⟨sLog, [] ++ x, 0⟩] 3) sLog = _
      rw [hsyn 0 3 (by omega), List.nil_append]
    unfold commitD
    rw [hoa, if_pos rfl, hw, if_pos rfl, Nat.zero_add]
  · have hdn : ∀ (w : Ans), writeD (crD 100000 cr done [(k : Int)] [] [⟨sLog, x, x.length⟩] 4) y = w → w.2 = 7 → commitD (crD 100000 cr done [(k : Int)] [] [⟨sLog, x, x.length⟩] 4) x.length b = ⟨w.1, x.length, true, 7⟩ := by
      intro w hw he
      unfold commitD
      rw [hob, if_pos rfl, hw, if_neg (by omega), if_pos he]
    have hrest : ∀ (D : Dk) (s : Nat), D.p.keep = [(k : Int)] → D.fs = [⟨sLog, x ++ y, s⟩] → s ≤ (x ++ y).length → restartD D ⟨100000, [], 0, false, []⟩ = freeD 100000 [] [⟨sLog, (x ++ y).take (s + k), ((x ++ y).take (s + k)).length⟩] 0 := by
      intro D s h1 h2 h3
      unfold restartD freeD
      rw [h1, h2]
      simp only [List.mapIdx_cons, List.mapIdx_nil]
      rw [restF_len _ _ _ h3]
      simp
    have hfit : ∀ (D : Dk) (z : List UInt8) (s : Nat), D.fs = [⟨sLog, z, s⟩] → D.c ≤ 10 → z.length ≤ 100000 → FitL D := fun D z s h1 h2 h3 => fitL_at h1 (by omega) (by omega)
    have hxy : (x ++ y).length = x.length + y.length := List.length_append
    cases second with
    | false =>
      have hc5 : cr = 5 := by rw [hcr]; rfl
      subst hc5
      have hap : appendD (crD 100000 5 done [(k : Int)] [] [⟨sLog, x, x.length⟩] 4) sLog y = (if done then { crD 100000 5 done [(k : Int)] [] [⟨sLog, x ++ y, x.length⟩] 5 with dn := true } else { crD 100000 5 done [(k : Int)] [] [⟨sLog, x, x.length⟩] 5 with dn := true }, 7) := by
        unfold appendD withD
        rw [gate_crash _ _ rfl rfl]
        rw [hit_one _ x x.length _ rfl, appendF_ok _ x x.length y rfl (by show ((x.length + y.length : Nat) : Int) ≤ 100000; omega)]
        rfl
      have hw : writeD (crD 100000 5 done [(k : Int)] [] [⟨sLog, x, x.length⟩] 4) y = (if done then { crD 100000 5 done [(k : Int)] [] [⟨sLog, x ++ y, x.length⟩] 5 with dn := true } else { crD 100000 5 done [(k : Int)] [] [⟨sLog, x, x.length⟩] 5 with dn := true }, 7) := by
        unfold writeD
        rw [hap, tryD_bad (show ¬ ((7 : Nat) = 0) by decide)]
      have hcm := hdn _ hw rfl
      cases done with
      | true =>
        refine ⟨_, min (x.length + k) (x ++ y).length, hcm, ?_, by omega, by omega, ?_, hfit _ (x ++ y) x.length rfl (by show 5 ≤ 10; omega) (by omega)⟩
        · have h := hrest { crD 100000 5 true [(k : Int)] [] [⟨sLog, x ++ y, x.length⟩] 5 with dn := true } x.length rfl rfl (by omega)
          have e : (x ++ y).take (min (x.length + k) (x ++ y).length) = (x ++ y).take (x.length + k) := by rw [← List.take_take, List.take_length]
          rw [e]
          exact h
        · unfold thereB
          rw [Bool.eq_iff_iff]
          simp
          omega
      | false =>
        refine ⟨_, x.length, hcm, ?_, Nat.le_refl _, by omega, ?_, hfit _ x x.length rfl (by show 5 ≤ 10; omega) (by omega)⟩
        · rw [List.take_left]
          unfold restartD freeD
          simp only [if_false, Bool.false_eq_true, crD, List.mapIdx_cons, List.mapIdx_nil]
          rw [restF_len _ _ _ (Nat.le_refl _)]
          simp
          exact List.take_of_length_le (by omega)
        · unfold thereB
          rw [Bool.eq_iff_iff]
          simp
          omega
    | true =>
      have hc6 : cr = 6 := by rw [hcr]; rfl
      subst hc6
      have hap := happ [] x.length 4 (by omega) hxy x y (by omega)
      have hsy : syncD (crD 100000 6 done [(k : Int)] [] [⟨sLog, x ++ y, x.length⟩] 5) sLog = (if done then { crD 100000 6 done [(k : Int)] [] [⟨sLog, x ++ y, (x ++ y).length⟩] 6 with dn := true } else { crD 100000 6 done [(k : Int)] [] [⟨sLog, x ++ y, x.length⟩] 6 with dn := true }, 7) := by
        unfold syncD withD
        rw [gate_crash _ _ rfl rfl]
        rw [hit_one _ (x ++ y) x.length _ rfl, syncF_one _ (x ++ y) x.length rfl]
        rfl
      have hw : writeD (crD 100000 6 done [(k : Int)] [] [⟨sLog, x, x.length⟩] 4) y = (if done then { crD 100000 6 done [(k : Int)] [] [⟨sLog, x ++ y, (x ++ y).length⟩] 6 with dn := true } else { crD 100000 6 done [(k : Int)] [] [⟨sLog, x ++ y, x.length⟩] 6 with dn := true }, 7) := by
        unfold writeD
        rw [hap, tryD_ok rfl]
        exact hsy
      have hcm := hdn _ hw rfl
      cases done with
      | true =>
        refine ⟨_, (x ++ y).length, hcm, ?_, by omega, Nat.le_refl _, ?_, hfit _ (x ++ y) (x ++ y).length rfl (by show 6 ≤ 10; omega) (by omega)⟩
        · have h := hrest { crD 100000 6 true [(k : Int)] [] [⟨sLog, x ++ y, (x ++ y).length⟩] 6 with dn := true } (x ++ y).length rfl rfl (Nat.le_refl _)
          rw [List.take_of_length_le (by omega)] at h
          rw [List.take_length]
          exact h
        · unfold thereB
          simp
      | false =>
        refine ⟨_, min (x.length + k) (x ++ y).length, hcm, ?_, by omega, by omega, ?_, hfit _ (x ++ y) x.length rfl (by show 6 ≤ 10; omega) (by omega)⟩
        · have h := hrest { crD 100000 6 false [(k : Int)] [] [⟨sLog, x ++ y, x.length⟩] 6 with dn := true } x.length rfl rfl (by omega)
          have e : (x ++ y).take (min (x.length + k) (x ++ y).length) = (x ++ y).take (x.length + k) := by rw [← List.take_take, List.take_length]
          rw [e]
          exact h
        · unfold thereB
          rw [Bool.eq_iff_iff]
          simp
          omega
end Go.Proofs.YtedjfbbfpnkbeaaGreatDoor

/- What is there behind a crash of the log's disk: plain facts. No program stands here. -/
namespace Go.Proofs.YtedjfbbfpnkbeaaGreatDoor
open Go.RowKit
set_option linter.unusedVariables false

theorem hit_plan (d : Dk) (n : ByteArray) (f : Dk → Nat → Ans) (h : ∀ i, (f d i).1.p = d.p) : (hitAns d n f).1.p = d.p := by
  by_cases hh : hitF d.fs n = true
  · rw [hitAns_true _ hh]; exact h _
  · unfold hitAns
    rw [if_neg hh]
theorem append_plan (d : Dk) (n : ByteArray) (b : List UInt8) : (appendD d n b).1.p = d.p := by
  unfold appendD withD
  refine gate_plan fun c dn => hit_plan _ n _ fun i => ?_
  unfold appendF
  split <;> rfl
theorem sync_plan (d : Dk) (n : ByteArray) : (syncD d n).1.p = d.p := by
  unfold syncD withD
  exact gate_plan fun c dn => hit_plan _ n _ fun i => rfl
theorem cut_plan (d : Dk) (n : ByteArray) (k : Int) : (cutD d n k).1.p = d.p := by
  unfold cutD withD
  refine gate_plan fun c dn => hit_plan _ n _ fun i => ?_
  unfold cutF
  split <;> rfl
theorem write_small (d : Dk) (b : List UInt8) : (writeD d b).1.p = d.p ∧ (writeD d b).1.c ≤ d.c + 2 := by
  have h1 := append_plan d sLog b
  have h2 := (append_grow d sLog b).c
  have h3 := sync_plan (appendD d sLog b).1 sLog
  have h4 := (sync_grow (appendD d sLog b).1 sLog).c
  unfold writeD tryD
  split
  · exact ⟨h3.trans h1, by show (syncD (appendD d sLog b).1 sLog).1.c ≤ d.c + 2; omega⟩
  · exact ⟨h1, by omega⟩
theorem commit_small (d : Dk) (n : Nat) (l : List Op3) : (commitD d n l).d.p = d.p ∧ (commitD d n l).d.c ≤ d.c + 3 := by
  obtain ⟨h1, h2⟩ := write_small d (opsR l).1
  have h3 := cut_plan (writeD d (opsR l).1).1 sLog n
  have h4 := (cut_grow (writeD d (opsR l).1).1 sLog n).c
  unfold commitD
  split
  · split
    · exact ⟨h1, by show _ ≤ _; simp only; omega⟩
    · split
      · exact ⟨h1, by show _ ≤ _; simp only; omega⟩
      · exact ⟨h3.trans h1, by show _ ≤ _; simp only; omega⟩
  · exact ⟨rfl, by show _ ≤ _; simp only; omega⟩
theorem commit_wrong (d : Dk) (n : Nat) (l : List Op3) (h : ¬ rightO l) : commitD d n l = ⟨d, n, false, 1⟩ := by
  have ho : opsR l = ([], 1) := if_neg h
  unfold commitD
  rw [ho]
  exact if_neg (by decide)
theorem catO_le5 (ls : List (List Op3)) (h : ∀ l ∈ ls, rightO l ∧ wtO l ≤ 5000) : (catO ls).length ≤ 26100 * ls.length := by
  induction ls with
  | nil => simp [catO]
  | cons l ls ih =>
    have h1 := ih (fun x hx => h x (List.mem_cons_of_mem _ hx))
    obtain ⟨h2, h3⟩ := h l (List.mem_cons_self ..)
    have h4 := bytesO_len h2 h3
    rw [catO_cons, List.length_append, List.length_cons]
    omega
/-- What is told behind a crash: all that was told OK, and at most the one behind it. -/
theorem keeps_end (S : List (List Op3)) (l : List Op3) (d : Dk) (k : Nat) (hk : KSick S l d) (hkp : d.p.keep = [(k : Int)]) (hS : ∀ l ∈ S, rightO l ∧ wtO l ≤ 5000) (hl : rightO l ∧ wtO l ≤ 5000) (hn : S.length ≤ 40) :
    ∃ (T : List UInt8) (R : List (List Op3)) (c9 : Nat), restartD d ⟨100000, [], 0, false, []⟩ = freeD 100000 [] [⟨sLog, T, T.length⟩] 0 ∧ T.length ≤ 1100000 ∧ c9 ≤ 2 ∧ (catO R).length ≤ 1100000 ∧
      logL (freeD 100000 [] [⟨sLog, T, T.length⟩] 0) = R ∧ openD (freeD 100000 [] [⟨sLog, T, T.length⟩] 0) = (freeD 100000 [] [⟨sLog, catO R, (catO R).length⟩] c9, 0) ∧
      openD (freeD 100000 [] [⟨sLog, catO R, (catO R).length⟩] c9) = (freeD 100000 [] [⟨sLog, catO R, (catO R).length⟩] (c9 + 1), 0) ∧ logL (freeD 100000 [] [⟨sLog, catO R, (catO R).length⟩] c9) = R ∧
      (R = S ∨ R = S ++ [l]) ∧ (KGood S d → R = S) := by
  obtain ⟨r, s, hfs, hs1, hs2, hr⟩ := hk
  have hcl : catO (S ++ [l]) = catO S ++ bytesO l := by rw [catO_append, catO_one']
  have hbp := bytesO_pos l
  have hle := catO_le5 S hS
  have hbl := bytesO_len hl.1 hl.2
  have hle2 : 26100 * S.length ≤ 26100 * 40 := Nat.mul_le_mul_left _ hn
  have hall : ∀ x ∈ S ++ [l], rightO x ∧ SmallO x := fun x hx => by
    rcases List.mem_append.1 hx with h | h
    · exact ⟨(hS x h).1, smallO_of (hS x h).2⟩
    · rw [List.mem_singleton] at h; subst h; exact ⟨hl.1, smallO_of hl.2⟩
  have hrest : restartD d ⟨100000, [], 0, false, []⟩ = freeD 100000 [] [⟨sLog, (catO S ++ r).take (s + k), ((catO S ++ r).take (s + k)).length⟩] 0 := by
    unfold restartD freeD
    rw [hkp, hfs]
    simp only [List.mapIdx_cons, List.mapIdx_nil]
    rw [restF_len _ _ _ hs2]
    simp
  obtain ⟨m, hm1, hm2, hT, hg⟩ : ∃ m, (catO S).length ≤ m ∧ m ≤ (catO (S ++ [l])).length ∧ (catO S ++ r).take (s + k) = (catO (S ++ [l])).take m ∧ (r = [] → m = (catO S).length) := by
    rw [hcl]
    rcases hr with rfl | rfl
    · refine ⟨(catO S).length, Nat.le_refl _, by rw [List.length_append]; omega, ?_, fun _ => rfl⟩
      rw [List.append_nil, List.take_left, List.take_of_length_le (by omega)]
    · refine ⟨min (s + k) (catO S ++ bytesO l).length, ?_, by omega, ?_, fun h => by rw [h] at hbp; simp at hbp⟩
      · rw [List.length_append] at hs2 ⊢; omega
      · rw [← List.take_take, List.take_length]
  rw [hT] at hrest
  obtain ⟨h1, h2, h3⟩ := log_cut (freeD 100000 [] [⟨sLog, (catO (S ++ [l])).take m, ((catO (S ++ [l])).take m).length⟩] 0) (S ++ [l]) m _ rfl rfl hall hm2
  obtain ⟨c9, hc9, hof⟩ := open_free 100000 [] ((catO (S ++ [l])).take m) ((catO (S ++ [l])).take m).length 0 _ h3
  rw [catO_take _ _ hm2] at hof
  have hes := endsO_snoc S l m hm1
  have hR : (S ++ [l]).take (endsO (S ++ [l]) m) = S ∨ (S ++ [l]).take (endsO (S ++ [l]) m) = S ++ [l] := by
    rw [hes]
    split
    · right; exact List.take_of_length_le (by simp)
    · left; exact List.take_left
  have hRg : KGood S d → (S ++ [l]).take (endsO (S ++ [l]) m) = S := by
    rintro ⟨hg1, _⟩
    rw [hfs] at hg1
    have e1 : catO S ++ r = catO S := by
      injection hg1 with h _
      injection h
    have e2 : r = [] := by
      have := congrArg List.length e1
      rw [List.length_append] at this
      exact List.length_eq_zero_iff.1 (by omega)
    rw [hes, hg e2, if_neg (by omega)]
    exact List.take_left
  have hmem : ∀ x ∈ (S ++ [l]).take (endsO (S ++ [l]) m), rightO x ∧ SmallO x := fun x hx => hall x (List.mem_of_mem_take hx)
  have hml : ((catO (S ++ [l])).take m).length ≤ 1100000 := by rw [List.length_take, hcl, List.length_append]; omega
  have hRl : (catO ((S ++ [l]).take (endsO (S ++ [l]) m))).length ≤ 1100000 := by
    rcases hR with h | h
    · rw [h]; omega
    · rw [h, hcl, List.length_append]; omega
  have ho2 := open_cat 100000 [] ((S ++ [l]).take (endsO (S ++ [l]) m)) (catO ((S ++ [l]).take (endsO (S ++ [l]) m))).length c9 hmem
  obtain ⟨_, hl2, _⟩ := log_cat (freeD 100000 [] [⟨sLog, catO ((S ++ [l]).take (endsO (S ++ [l]) m)), (catO ((S ++ [l]).take (endsO (S ++ [l]) m))).length⟩] c9) _ _ rfl rfl hmem
  exact ⟨_, _, c9, hrest, hml, by omega, hRl, h2, hof, ho2, hl2, hR, hRg⟩
theorem write_used (d : Dk) (b : List UInt8) : (writeD d b).1.fs.length ≤ d.fs.length + 2 ∧ usedF (writeD d b).1.fs ≤ usedF d.fs + b.length := by
  have h2 := (append_grow d sLog b).ok
  have h4 := (sync_grow (appendD d sLog b).1 sLog).ok
  unfold writeD
  by_cases e : (appendD d sLog b).2 = 0
  · rw [tryD_ok e]; omega
  · rw [tryD_bad e]; omega
theorem commit_used (d : Dk) (n : Nat) (l : List Op3) : (commitD d n l).d.fs.length ≤ d.fs.length + 3 ∧ usedF (commitD d n l).d.fs ≤ usedF d.fs + (opsR l).1.length ∧ (commitD d n l).n ≤ n + (opsR l).1.length := by
  have h1 := write_used d (opsR l).1
  have h2 := (cut_grow (writeD d (opsR l).1).1 sLog n).ok
  unfold commitD
  split
  · split
    · exact ⟨by simp only; omega, by simp only; omega, by simp only; omega⟩
    · split
      · exact ⟨by simp only; omega, by simp only; omega, by simp only; omega⟩
      · exact ⟨by simp only; omega, by simp only; omega, by simp only; omega⟩
  · exact ⟨by simp only; omega, by simp only; omega, by simp only; omega⟩
end Go.Proofs.YtedjfbbfpnkbeaaGreatDoor

