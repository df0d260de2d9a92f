/- The log on a disk of one file, whose plan names nothing: plain facts. No program stands here. -/
import Derived.Test.YtaldneffhbgepaaDoorWalM
import Derived.Test.YtaldneffhbgepaaDoorBatCu
namespace Go.Proofs.YtaldneffhbgepaaDoor
set_option linter.unusedVariables false

theorem sLog_ne : sLog ≠ ⟨#[]⟩ := by decide
theorem bytesO_len {l : List Op3} (hr : rightO l) (hw : wtO l ≤ 5000) : (bytesO l).length ≤ 26100 := by
  rw [bytesO_good]
  have h1 : ∀ m : List Op3, (∀ o ∈ m, 1 + o.k.size + o.v.size ≤ 5000) → goodOf (m.map recO) ≤ 20 * m.length + wtO m := by
    intro m
    induction m with
    | nil => intro _; simp [goodOf]
    | cons o m ih =>
      intro h
      have h2 := ih (fun x hx => h x (List.mem_cons_of_mem _ hx))
      have h3 := h o (List.mem_cons_self ..)
      have h4 := recO_length o
      have e : goodOf ((o :: m).map recO) = 8 + (recO o).length + goodOf (m.map recO) := by simp [goodOf]
      have e2 : wtO (o :: m) = wtOE o + wtO m := by simp [wtO]
      have e3 : wtOE o = 1 + o.k.size + o.v.size := by unfold wtOE; omega
      rw [e, e2, e3, List.length_cons]
      omega
  have h2 := h1 l (wtO_le hw).2
  have h3 := recE_length (n := l.length) (by have := hr.1; omega)
  have h4 := hr.1
  unfold recsO
  rw [goodOf_append]
  have e : goodOf [recE l.length] = 8 + (recE l.length).length := by simp [goodOf]
  rw [e]
  omega
/-- All batches are told, and all of them are whole. -/
theorem replay_cat (ls : List (List Op3)) (h : ∀ l ∈ ls, rightO l ∧ SmallO l) : replayB (ls.flatMap recsO) = (ls, (ls.flatMap recsO).length) := by
  obtain ⟨j, u, he, hn, hq⟩ := replayGo_batches ls h 0 0 []
  rw [List.append_nil] at hq
  unfold replayB
  rw [hq]
  have hl : (ls.flatMap recsO).length = (ls.map fun l => l.length + 1).sum := by
    clear hq he hn h
    induction ls with
    | nil => rfl
    | cons l ls ih =>
      have h3 : (recsO l).length = l.length + 1 := by simp [recsO]
      rw [List.flatMap_cons, List.length_append, List.map_cons, List.sum_cons, ih, h3]
  by_cases hc : ls = []
  · subst hc
    obtain ⟨rfl, rfl⟩ := he rfl
    simp [replayGo]
  · obtain ⟨h1, h2⟩ := hn hc
    simp only [replayGo, List.append_nil, Prod.mk.injEq, true_and]
    omega
theorem scan_cat (ls : List (List Op3)) (h : ∀ l ∈ ls, rightO l ∧ SmallO l) (r : List UInt8) : scanB (catO ls ++ r) = ls.flatMap recsO ++ scanB r := by
  rw [catO_frames]
  exact scanB_frames _ _ (fun p hp => by
    obtain ⟨l, hl, hp⟩ := List.mem_flatMap.1 hp
    exact recsO_small (h l hl).2 (h l hl).1.1 p hp)
theorem scan_cat0 (ls : List (List Op3)) (h : ∀ l ∈ ls, rightO l ∧ SmallO l) : scanB (catO ls) = ls.flatMap recsO := by
  have := scan_cat ls h []
  rwa [List.append_nil, scanB_nil, List.append_nil] at this
/-- What a log says that lies on a disk with these bytes. -/
theorem logB_one (d : Dk) (x : List UInt8) (s : Nat) (h : d.fs = [⟨sLog, x, s⟩]) (hd : d.dn = false) : readD d sLog = (x, 0) := by
  obtain ⟨p, fs, c, dn⟩ := d
  simp only at h hd
  subst h hd
  unfold readD
  rw [if_neg (by simp), if_pos (show hitF [⟨sLog, x, s⟩] sLog = true from hitF_one sLog x s [])]
  show ((fileAt _ (lbF [⟨sLog, x, s⟩] sLog)).b, 0) = _
  rw [lbF_one]
  rfl
theorem log_cat (d : Dk) (ls : List (List Op3)) (s : Nat) (h : d.fs = [⟨sLog, catO ls, s⟩]) (hd : d.dn = false) (hl : ∀ l ∈ ls, rightO l ∧ SmallO l) : logB d = catO ls ∧ logL d = ls ∧ logN d = (catO ls).length := by
  have hb : logB d = catO ls := by unfold logB; rw [logB_one d _ s h hd]
  have hs := scan_cat0 ls hl
  have hr := replay_cat ls hl
  refine ⟨hb, ?_, ?_⟩
  · unfold logL; rw [hb, hs, hr]
  · unfold logN
    rw [hb, hs, hr, List.take_length, ← framesB_length, ← catO_frames]
theorem open_new (cap : Int) (keep : List Int) (c : Nat) : openD (freeD cap keep [] c) = (freeD cap keep [⟨sLog, [], 0⟩] (c + 2), 0) ∧ logB (freeD cap keep [] c) = [] ∧ logN (freeD cap keep [] c) = 0 ∧ logL (freeD cap keep [] c) = [] := by
  have hr : readD (freeD cap keep [] c) sLog = ([], 3) := rfl
  have hb : logB (freeD cap keep [] c) = [] := by unfold logB; rw [hr]
  have hs : scanB [] = [] := scanB_nil
  have hn : logN (freeD cap keep [] c) = 0 := by unfold logN; rw [hb, hs]; rfl
  have hl : logL (freeD cap keep [] c) = [] := by unfold logL; rw [hb, hs]; rfl
  refine ⟨?_, hb, hn, hl⟩
  unfold openD open1D
  rw [hr, if_pos rfl, create_nil0 _ _ _ _ sLog_ne, hn, hb]
  have h2 : open2D 0 [] (freeD cap keep [⟨sLog, [], 0⟩] (c + 1)) = (freeD cap keep [⟨sLog, [], 0⟩] (c + 1), 0) := if_neg (by simp)
  rw [tryD_ok (a := (freeD cap keep [⟨sLog, [], 0⟩] (c + 1), 0)) rfl]
  show tryD (open2D 0 [] (freeD cap keep [⟨sLog, [], 0⟩] (c + 1))) _ = _
  rw [h2, tryD_ok rfl]
  exact sync_one _ _ _ _ _ _
theorem open_cat (cap : Int) (keep : List Int) (ls : List (List Op3)) (s c : Nat) (hl : ∀ l ∈ ls, rightO l ∧ SmallO l) : openD (freeD cap keep [⟨sLog, catO ls, s⟩] c) = (freeD cap keep [⟨sLog, catO ls, (catO ls).length⟩] (c + 1), 0) := by
  obtain ⟨hb, _, hn⟩ := log_cat (freeD cap keep [⟨sLog, catO ls, s⟩] c) ls s rfl rfl hl
  unfold openD open1D
  have h2 : open2D (catO ls).length (catO ls) (freeD cap keep [⟨sLog, catO ls, s⟩] c) = (freeD cap keep [⟨sLog, catO ls, s⟩] c, 0) := if_neg (by omega)
  rw [read_one, if_neg (show ¬ ((0 : Nat) = 3) by decide), hn, hb, tryD_ok (a := (freeD cap keep [⟨sLog, catO ls, s⟩] c, 0)) rfl]
  show tryD (open2D (catO ls).length (catO ls) (freeD cap keep [⟨sLog, catO ls, s⟩] c)) _ = _
  rw [h2, tryD_ok rfl]
  exact sync_one _ _ _ _ _ _
theorem commit_ok (cap : Int) (keep : List Int) (x : List UInt8) (s c n : Nat) (l : List Op3) (hr : rightO l) (hf : (x.length + (bytesO l).length : Nat) ≤ cap) :
    commitD (freeD cap keep [⟨sLog, x, s⟩] c) n l = ⟨freeD cap keep [⟨sLog, x ++ bytesO l, (x ++ bytesO l).length⟩] (c + 2), n + (bytesO l).length, false, 0⟩ := by
  have ho : opsR l = (bytesO l, 0) := if_pos hr
  have hw : writeD (freeD cap keep [⟨sLog, x, s⟩] c) (bytesO l) = (freeD cap keep [⟨sLog, x ++ bytesO l, (x ++ bytesO l).length⟩] (c + 2), 0) := by
    unfold writeD
    rw [append_one _ _ _ _ _ _ _ hf, tryD_ok rfl, sync_one]
  unfold commitD
  rw [ho, if_pos rfl, hw, if_pos rfl]
theorem commit_full (cap : Int) (keep : List Int) (x : List UInt8) (s c : Nat) (l : List Op3) (hr : rightO l) (hf : cap < (x.length + (bytesO l).length : Nat)) :
    commitD (freeD cap keep [⟨sLog, x, s⟩] c) x.length l = ⟨freeD cap keep [⟨sLog, x, min s x.length⟩] (c + 2), x.length, false, 5⟩ := by
  have ho : opsR l = (bytesO l, 0) := if_pos hr
  have hw : writeD (freeD cap keep [⟨sLog, x, s⟩] c) (bytesO l) = (freeD cap keep [⟨sLog, x, s⟩] (c + 1), 5) := by
    unfold writeD
    rw [append_full _ _ _ _ _ _ _ hf, tryD_bad (show ¬ ((5 : Nat) = 0) by decide)]
  unfold commitD
  rw [ho, if_pos rfl, hw, if_neg (show ¬ ((5 : Nat) = 0) by decide), if_neg (show ¬ ((5 : Nat) = 7) by decide), cut_one _ _ _ _ _ _ _ (Nat.le_refl _), List.take_length]
  rfl
theorem reset_ok (cap : Int) (keep : List Int) (x : List UInt8) (s c n : Nat) : resetD (freeD cap keep [⟨sLog, x, s⟩] c) n = ⟨freeD cap keep [⟨sLog, [], 0⟩] (c + 1), 0, false, 0⟩ := by
  have h := cut_one cap keep c sLog x s 0 (Nat.zero_le _)
  rw [List.take_zero, Nat.min_zero] at h
  unfold resetD
  rw [show ((0 : Nat) : Int) = 0 from rfl] at h
  rw [h, if_pos rfl]
end Go.Proofs.YtaldneffhbgepaaDoor

