/- The log where calls fail and crash: plain facts. No program stands here. -/
import Derived.Test.YtaldneffhbgepaaDoorWalP
namespace Go.Proofs.YtaldneffhbgepaaDoor
set_option linter.unusedVariables false

theorem replay_cut_used (ls : List (List Op3)) (h : ∀ l ∈ ls, rightO l ∧ SmallO l) : ∀ (k i : Nat), ∃ u, (replayGo [] i i ((ls.flatMap recsO).take (endsIn (ls.flatMap recsO) k))).2 = i + u ∧
    goodOf (((ls.flatMap recsO).take (endsIn (ls.flatMap recsO) k)).take u) = (catO (ls.take (endsO ls k))).length := by
  induction ls with
  | nil => intro k i; exact ⟨0, by simp [endsIn, replayGo], by simp [endsIn, endsO, goodOf, catO]⟩
  | cons l ls ih =>
    intro k i
    obtain ⟨hr, hs⟩ := h l (List.mem_cons_self ..)
    have hrl : (recsO l).length = l.length + 1 := by simp [recsO]
    rw [List.flatMap_cons]
    unfold endsO
    rw [bytesO_good]
    by_cases hk : goodOf (recsO l) ≤ k
    · obtain ⟨u, hu1, hu2⟩ := ih (fun x hx => h x (List.mem_cons_of_mem _ hx)) (k - goodOf (recsO l)) (i + l.length + 1)
      rw [if_pos hk, endsIn_ge _ _ _ hk, List.take_length_add_append, replayGo_batch l hr hs]
      refine ⟨l.length + 1 + u, by simp only; rw [hu1]; omega, ?_⟩
      rw [← hrl, List.take_length_add_append, goodOf_append, hu2, List.take_succ_cons, catO_cons, List.length_append, bytesO_good]
    · rw [if_neg hk]
      have hlt := endsIn_lt (recsO l) (ls.flatMap recsO) k (by omega)
      rw [List.take_append_of_le_length (by omega)]
      generalize endsIn (recsO l ++ ls.flatMap recsO) k = m at *
      have e : (recsO l).take m = (l.take m).map recO ++ [] := by
        unfold recsO
        rw [List.take_append_of_le_length (by rw [List.length_map]; omega), List.append_nil, List.map_take]
      refine ⟨0, ?_, by simp [goodOf, catO]⟩
      rw [e, replayGo_ops (l.take m) (fun o ho => ⟨hr.2 o (List.mem_of_mem_take ho), hs o (List.mem_of_mem_take ho)⟩)]
      simp [replayGo]
theorem endsO_len (ls : List (List Op3)) : ∀ k, (catO (ls.take (endsO ls k))).length ≤ k := by
  induction ls with
  | nil => intro k; simp [endsO, catO]
  | cons l ls ih =>
    intro k
    unfold endsO
    split
    · have := ih (k - (bytesO l).length)
      rw [List.take_succ_cons, catO_cons, List.length_append]
      omega
    · simp [catO]
theorem endsO_snoc (S : List (List Op3)) (l : List Op3) : ∀ m, (catO S).length ≤ m → endsO (S ++ [l]) m = if (catO S).length + (bytesO l).length ≤ m then S.length + 1 else S.length := by
  induction S with
  | nil =>
    intro m _
    have : (catO []).length = 0 := rfl
    rw [List.nil_append, this]
    show (if (bytesO l).length ≤ m then endsO [] (m - (bytesO l).length) + 1 else 0) = _
    simp [endsO]
  | cons x S ih =>
    intro m h
    rw [catO_cons, List.length_append] at h ⊢
    have e : endsO (x :: S ++ [l]) m = if (bytesO x).length ≤ m then endsO (S ++ [l]) (m - (bytesO x).length) + 1 else 0 := rfl
    rw [e, if_pos (by omega), ih _ (by omega), List.length_cons]
    split
    · rw [if_pos (by omega)]
    · rw [if_neg (by omega)]
theorem log_cut (d : Dk) (ls : List (List Op3)) (k s : Nat) (hfs : d.fs = [⟨sLog, (catO ls).take k, s⟩]) (hd : d.dn = false) (hl : ∀ l ∈ ls, rightO l ∧ SmallO l) (hk : k ≤ (catO ls).length) :
    logB d = (catO ls).take k ∧ logL d = ls.take (endsO ls k) ∧ logN d = (catO (ls.take (endsO ls k))).length := by
  have hb : logB d = (catO ls).take k := by unfold logB; rw [logB_one d _ s hfs hd]
  have hp : ∀ p ∈ ls.flatMap recsO, p.length ≤ 1048576 := fun p hp => by
    obtain ⟨l, hl', hp⟩ := List.mem_flatMap.1 hp
    exact recsO_small (hl l hl').2 (hl l hl').1.1 p hp
  refine ⟨hb, ?_, ?_⟩
  · unfold logL; rw [hb]; exact cut_told ls hl k hk
  · unfold logN
    rw [hb]
    have hsc : scanB ((catO ls).take k) = (ls.flatMap recsO).take (endsIn (ls.flatMap recsO) k) := by
      rw [catO_frames] at hk ⊢
      exact scanB_cut _ hp k hk
    rw [hsc]
    obtain ⟨u, h1, h2⟩ := replay_cut_used ls hl k 0
    unfold replayB
    rw [h1, Nat.zero_add]
    exact h2
theorem catO_take (ls : List (List Op3)) (k : Nat) (hk : k ≤ (catO ls).length) : ((catO ls).take k).take (catO (ls.take (endsO ls k))).length = catO (ls.take (endsO ls k)) := by
  have h := endsO_len ls k
  rw [List.take_take, Nat.min_eq_left h]
  conv => lhs; rw [← List.take_append_drop (endsO ls k) ls, catO_append]
  rw [List.take_append_drop, List.take_left]
/-- Opened on a disk whose plan names nothing. -/
theorem open_free (cap : Int) (keep : List Int) (x : List UInt8) (s c : Nat) (n : Nat) (hn : logN (freeD cap keep [⟨sLog, x, s⟩] c) = n) :
    ∃ c', c' ≤ c + 2 ∧ openD (freeD cap keep [⟨sLog, x, s⟩] c) = (freeD cap keep [⟨sLog, x.take n, (x.take n).length⟩] c', 0) := by
  have hb : logB (freeD cap keep [⟨sLog, x, s⟩] c) = x := by unfold logB; rw [read_one]
  have hle := logN_le (freeD cap keep [⟨sLog, x, s⟩] c)
  rw [hb, hn] at hle
  have h1 : open1D (freeD cap keep [⟨sLog, x, s⟩] c) = (freeD cap keep [⟨sLog, x, s⟩] c, 0) := by
    unfold open1D
    rw [read_one, if_neg (show ¬ ((0 : Nat) = 3) by decide)]
  unfold openD
  rw [h1, hn, hb, tryD_ok (a := (freeD cap keep [⟨sLog, x, s⟩] c, 0)) rfl]
  by_cases hlt : n < x.length
  · have h2 : open2D n x (freeD cap keep [⟨sLog, x, s⟩] c) = (freeD cap keep [⟨sLog, x.take n, min s n⟩] (c + 1), 0) := by
      unfold open2D
      rw [if_pos hlt, cut_one _ _ _ _ _ _ _ (by omega)]
    refine ⟨c + 2, by omega, ?_⟩
    show tryD (open2D n x (freeD cap keep [⟨sLog, x, s⟩] c)) _ = _
    rw [h2, tryD_ok rfl]
    exact sync_one _ _ _ _ _ _
  · have h2 : open2D n x (freeD cap keep [⟨sLog, x, s⟩] c) = (freeD cap keep [⟨sLog, x, s⟩] c, 0) := by
      unfold open2D
      rw [if_neg hlt]
    refine ⟨c + 1, by omega, ?_⟩
    show tryD (open2D n x (freeD cap keep [⟨sLog, x, s⟩] c)) _ = _
    rw [h2, tryD_ok rfl, List.take_of_length_le (by omega)]
    exact sync_one _ _ _ _ _ _
/-- A gate that nothing is planned for, and one that crashes. -/
theorem gate_ok (d : Dk) (op : Dk → Ans) (hd : d.dn = false) (h1 : ((d.c + 1 : Nat) : Int) ≠ d.p.crash) (h2 : ((d.c + 1 : Nat) : Int) ∉ d.p.fail) : gateD d op = op { d with c := d.c + 1 } := by
  unfold gateD
  rw [hd, if_neg (by decide), if_neg h1, if_neg h2]
theorem gate_crash (d : Dk) (op : Dk → Ans) (hd : d.dn = false) (h1 : ((d.c + 1 : Nat) : Int) = d.p.crash) : gateD d op = (if d.p.done then (op { d with c := d.c + 1, dn := true }).1 else { d with c := d.c + 1, dn := true }, 7) := by
  unfold gateD
  rw [hd, if_neg (by decide), if_pos h1]
theorem gate_three (d : Dk) (op : Dk → Ans) (hd : d.dn = false) : gateD d op = op { d with c := d.c + 1 } ∨ gateD d op = ({ d with c := d.c + 1 }, 6) ∨ gateD d op = ((op { d with c := d.c + 1, dn := true }).1, 7) ∨ gateD d op = ({ d with c := d.c + 1, dn := true }, 7) := by
  unfold gateD
  rw [hd, if_neg (by decide)]
  split
  · split
    · exact .inr (.inr (.inl rfl))
    · exact .inr (.inr (.inr rfl))
  · split
    · exact .inr (.inl rfl)
    · exact .inl rfl
theorem hit_one (d : Dk) (x : List UInt8) (s : Nat) (f : Dk → Nat → Ans) (h : d.fs = [⟨sLog, x, s⟩]) : hitAns d sLog f = f d 0 := by
  obtain ⟨p, fs, c, dn⟩ := d
  simp only at h
  subst h
  rw [hitAns_true _ (hitF_one _ _ _ _)]
  show f _ (lbF [⟨sLog, x, s⟩] sLog) = _
  rw [lbF_one]
theorem appendF_one (d : Dk) (x : List UInt8) (s : Nat) (b : List UInt8) (h : d.fs = [⟨sLog, x, s⟩]) : appendF b d 0 = (d, 5) ∨ appendF b d 0 = ({ d with fs := [⟨sLog, x ++ b, s⟩] }, 0) := by
  obtain ⟨p, fs, c, dn⟩ := d
  simp only at h
  subst h
  unfold appendF
  split
  · exact .inl rfl
  · exact .inr rfl
theorem appendF_ok (d : Dk) (x : List UInt8) (s : Nat) (b : List UInt8) (h : d.fs = [⟨sLog, x, s⟩]) (hc : ((x.length + b.length : Nat) : Int) ≤ d.p.cap) : appendF b d 0 = ({ d with fs := [⟨sLog, x ++ b, s⟩] }, 0) := by
  obtain ⟨p, fs, c, dn⟩ := d
  simp only at h hc
  subst h
  unfold appendF
  rw [if_neg (by simp [usedF]; omega)]
  rfl
theorem syncF_one (d : Dk) (x : List UInt8) (s : Nat) (h : d.fs = [⟨sLog, x, s⟩]) : syncF d 0 = ({ d with fs := [⟨sLog, x, x.length⟩] }, 0) := by
  obtain ⟨p, fs, c, dn⟩ := d
  simp only at h
  subst h
  rfl
theorem cutF_one (d : Dk) (x : List UInt8) (s n : Nat) (h : d.fs = [⟨sLog, x, s⟩]) (hn : n ≤ x.length) : cutF n d 0 = ({ d with fs := [⟨sLog, x.take n, min s n⟩] }, 0) := by
  obtain ⟨p, fs, c, dn⟩ := d
  simp only at h
  subst h
  unfold cutF
  rw [if_neg (by simp [fileAt]; omega)]
  rfl
theorem catO_one' (l : List Op3) : catO [l] = bytesO l := by simp [catO]
/-- The log's state where nothing went wrong for good; and where it is sick. -/
def KGood (S : List (List Op3)) (d : Dk) : Prop := d.fs = [⟨sLog, catO S, (catO S).length⟩] ∧ d.dn = false
def KSick (S : List (List Op3)) (l : List Op3) (d : Dk) : Prop := ∃ r s, d.fs = [⟨sLog, catO S ++ r, s⟩] ∧ (catO S).length ≤ s ∧ s ≤ (catO S ++ r).length ∧ (r = [] ∨ r = bytesO l)
theorem KSick.of {S : List (List Op3)} {l : List Op3} {d : Dk} (h : d.fs = [⟨sLog, catO S, (catO S).length⟩]) : KSick S l d := ⟨[], _, by rw [List.append_nil]; exact h, Nat.le_refl _, by rw [List.append_nil]; exact Nat.le_refl _, .inl rfl⟩
theorem KSick.of2 {S : List (List Op3)} {l : List Op3} {d : Dk} {s : Nat} (h : d.fs = [⟨sLog, catO S ++ bytesO l, s⟩]) (h1 : (catO S).length ≤ s) (h2 : s ≤ (catO S ++ bytesO l).length) : KSick S l d := ⟨_, s, h, h1, h2, .inr rfl⟩
/-- A cut back to what is committed. -/
theorem keeps_cut (S : List (List Op3)) (l : List Op3) (d : Dk) (r : List UInt8) (s : Nat) (hfs : d.fs = [⟨sLog, catO S ++ r, (catO S).length⟩]) (hd : d.dn = false) (hr : r = [] ∨ r = bytesO l) :
    ((cutD d sLog ((catO S).length : Nat)).2 = 0 ∧ KGood S (cutD d sLog ((catO S).length : Nat)).1) ∨ ((cutD d sLog ((catO S).length : Nat)).2 ≠ 0 ∧ KSick S l (cutD d sLog ((catO S).length : Nat)).1) := by
  have hsk : ∀ d' : Dk, d'.fs = d.fs → KSick S l d' := fun d' h => ⟨r, _, h.trans hfs, Nat.le_refl _, by rw [List.length_append]; omega, hr⟩
  unfold cutD withD
  rcases gate_three d (fun d => hitAns d sLog (cutF ((catO S).length : Nat))) hd with h | h | h | h
  · rw [h, hit_one _ _ _ _ (show ({ d with c := d.c + 1 } : Dk).fs = _ from hfs), cutF_one { d with c := d.c + 1 } (catO S ++ r) (catO S).length (catO S).length hfs (by rw [List.length_append]; omega)]
    exact .inl ⟨rfl, by simp, hd⟩
  · rw [h]
    exact .inr ⟨by show (6 : Nat) ≠ 0; decide, hsk _ rfl⟩
  · rw [h, hit_one _ _ _ _ (show ({ d with c := d.c + 1, dn := true } : Dk).fs = _ from hfs), cutF_one { d with c := d.c + 1, dn := true } (catO S ++ r) (catO S).length (catO S).length hfs (by rw [List.length_append]; omega)]
    exact .inr ⟨by show (7 : Nat) ≠ 0; decide, KSick.of (by simp)⟩
  · rw [h]
    exact .inr ⟨by show (7 : Nat) ≠ 0; decide, hsk _ rfl⟩
/-- What a commit makes of a log that is well. -/
theorem keeps_commit (S : List (List Op3)) (l : List Op3) (d : Dk) (hg : KGood S d) (hr : rightO l) :
    ((commitD d (catO S).length l).e = 0 ∧ (commitD d (catO S).length l).sk = false ∧ (commitD d (catO S).length l).n = (catO (S ++ [l])).length ∧ KGood (S ++ [l]) (commitD d (catO S).length l).d) ∨
    ((commitD d (catO S).length l).e ≠ 0 ∧ (commitD d (catO S).length l).e ≠ 8 ∧ (commitD d (catO S).length l).n = (catO S).length ∧
      (((commitD d (catO S).length l).sk = false ∧ KGood S (commitD d (catO S).length l).d) ∨ ((commitD d (catO S).length l).sk = true ∧ KSick S l (commitD d (catO S).length l).d))) := by
  obtain ⟨hfs, hd⟩ := hg
  have ho : opsR l = (bytesO l, 0) := if_pos hr
  have hcl : catO (S ++ [l]) = catO S ++ bytesO l := by rw [catO_append, catO_one']
  -- behind a write that failed, on a disk that is up
  have hfail : ∀ (w : Ans) (r : List UInt8), writeD d (bytesO l) = w → w.2 = 5 ∨ w.2 = 6 → w.1.fs = [⟨sLog, catO S ++ r, (catO S).length⟩] → w.1.dn = false → (r = [] ∨ r = bytesO l) →
      ((commitD d (catO S).length l).e ≠ 0 ∧ (commitD d (catO S).length l).e ≠ 8 ∧ (commitD d (catO S).length l).n = (catO S).length ∧
        (((commitD d (catO S).length l).sk = false ∧ KGood S (commitD d (catO S).length l).d) ∨ ((commitD d (catO S).length l).sk = true ∧ KSick S l (commitD d (catO S).length l).d))) := by
    intro w r hw he hf hdn hrr
    have hc : commitD d (catO S).length l = ⟨(cutD w.1 sLog ((catO S).length : Nat)).1, (catO S).length, decide ((cutD w.1 sLog ((catO S).length : Nat)).2 ≠ 0), w.2⟩ := by
      unfold commitD
      rw [ho, if_pos rfl, hw, if_neg (by omega), if_neg (by omega)]
    rw [hc]
    refine ⟨by show w.2 ≠ 0; omega, by show w.2 ≠ 8; omega, rfl, ?_⟩
    rcases keeps_cut S l w.1 r 0 hf hdn hrr with ⟨h1, h2⟩ | ⟨h1, h2⟩
    · exact .inl ⟨by simp [h1], h2⟩
    · exact .inr ⟨by simp [h1], h2⟩
  have hdown : ∀ (w : Ans), writeD d (bytesO l) = w → w.2 = 7 → KSick S l w.1 →
      ((commitD d (catO S).length l).e ≠ 0 ∧ (commitD d (catO S).length l).e ≠ 8 ∧ (commitD d (catO S).length l).n = (catO S).length ∧
        (((commitD d (catO S).length l).sk = false ∧ KGood S (commitD d (catO S).length l).d) ∨ ((commitD d (catO S).length l).sk = true ∧ KSick S l (commitD d (catO S).length l).d))) := by
    intro w hw he hk
    have hc : commitD d (catO S).length l = ⟨w.1, (catO S).length, true, 7⟩ := by
      unfold commitD
      rw [ho, if_pos rfl, hw, if_neg (by omega), if_pos he]
    rw [hc]
    exact ⟨by show (7 : Nat) ≠ 0; decide, by show (7 : Nat) ≠ 8; decide, rfl, .inr ⟨rfl, hk⟩⟩
  have hap : appendD d sLog (bytesO l) = gateD d fun d => hitAns d sLog (appendF (bytesO l)) := rfl
  rcases gate_three d (fun d => hitAns d sLog (appendF (bytesO l))) hd with h | h | h | h
  · rw [hit_one _ _ _ _ (show ({ d with c := d.c + 1 } : Dk).fs = _ from hfs)] at h
    rcases appendF_one { d with c := d.c + 1 } _ _ (bytesO l) hfs with h5 | h0
    · have hw : writeD d (bytesO l) = ({ d with c := d.c + 1 }, 5) := by
        unfold writeD
        rw [hap, h, h5, tryD_bad (show ¬ ((5 : Nat) = 0) by decide)]
      exact .inr (hfail _ [] hw (.inl rfl) (by rw [List.append_nil]; exact hfs) hd (.inl rfl))
    · -- the append is made: the sync
      have hfs1 : ({ d with c := d.c + 1, fs := [⟨sLog, catO S ++ bytesO l, (catO S).length⟩] } : Dk).fs = [⟨sLog, catO S ++ bytesO l, (catO S).length⟩] := rfl
      have hw1 : writeD d (bytesO l) = syncD { d with c := d.c + 1, fs := [⟨sLog, catO S ++ bytesO l, (catO S).length⟩] } sLog := by
        unfold writeD
        rw [hap, h, h0, tryD_ok rfl]
      have hsy : syncD { d with c := d.c + 1, fs := [⟨sLog, catO S ++ bytesO l, (catO S).length⟩] } sLog = gateD { d with c := d.c + 1, fs := [⟨sLog, catO S ++ bytesO l, (catO S).length⟩] } fun d => hitAns d sLog syncF := rfl
      rcases gate_three { d with c := d.c + 1, fs := [⟨sLog, catO S ++ bytesO l, (catO S).length⟩] } (fun d => hitAns d sLog syncF) hd with k | k | k | k
      · rw [hit_one _ _ _ _ rfl, syncF_one _ _ _ rfl] at k
        have hw : writeD d (bytesO l) = ({ d with c := d.c + 1 + 1, fs := [⟨sLog, catO S ++ bytesO l, (catO S ++ bytesO l).length⟩] }, 0) := by rw [hw1, hsy, k]
        have hc : commitD d (catO S).length l = ⟨{ d with c := d.c + 1 + 1, fs := [⟨sLog, catO S ++ bytesO l, (catO S ++ bytesO l).length⟩] }, (catO S).length + (bytesO l).length, false, 0⟩ := by
          unfold commitD
          rw [ho, if_pos rfl, hw, if_pos rfl]
        rw [hc]
        exact .inl ⟨rfl, rfl, by rw [hcl, List.length_append], by rw [KGood, hcl]; exact ⟨rfl, hd⟩⟩
      · exact .inr (hfail _ (bytesO l) (hw1.trans (hsy.trans k)) (.inr rfl) rfl hd (.inr rfl))
      · rw [hit_one _ _ _ _ rfl, syncF_one _ _ _ rfl] at k
        exact .inr (hdown _ (hw1.trans (hsy.trans k)) rfl (KSick.of2 rfl (by rw [List.length_append]; omega) (Nat.le_refl _)))
      · exact .inr (hdown _ (hw1.trans (hsy.trans k)) rfl (KSick.of2 (s := (catO S).length) rfl (Nat.le_refl _) (by rw [List.length_append]; omega)))
  · have hw : writeD d (bytesO l) = ({ d with c := d.c + 1 }, 6) := by
      unfold writeD
      rw [hap, h, tryD_bad (show ¬ ((6 : Nat) = 0) by decide)]
    exact .inr (hfail _ [] hw (.inr rfl) (by rw [List.append_nil]; exact hfs) hd (.inl rfl))
  · rw [hit_one _ _ _ _ (show ({ d with c := d.c + 1, dn := true } : Dk).fs = _ from hfs)] at h
    rcases appendF_one { d with c := d.c + 1, dn := true } _ _ (bytesO l) hfs with h5 | h0
    · have hw : writeD d (bytesO l) = ({ d with c := d.c + 1, dn := true }, 7) := by
        unfold writeD
        rw [hap, h, h5, tryD_bad (show ¬ ((7 : Nat) = 0) by decide)]
      exact .inr (hdown _ hw rfl (KSick.of hfs))
    · have hw : writeD d (bytesO l) = ({ d with c := d.c + 1, dn := true, fs := [⟨sLog, catO S ++ bytesO l, (catO S).length⟩] }, 7) := by
        unfold writeD
        rw [hap, h, h0, tryD_bad (show ¬ ((7 : Nat) = 0) by decide)]
      exact .inr (hdown _ hw rfl (KSick.of2 (s := (catO S).length) rfl (Nat.le_refl _) (by rw [List.length_append]; omega)))
  · have hw : writeD d (bytesO l) = ({ d with c := d.c + 1, dn := true }, 7) := by
      unfold writeD
      rw [hap, h, tryD_bad (show ¬ ((7 : Nat) = 0) by decide)]
    exact .inr (hdown _ hw rfl (KSick.of hfs))
end Go.Proofs.YtaldneffhbgepaaDoor

