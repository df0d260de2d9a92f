/- The log on a disk of one file, whose plan names nothing: plain facts. No program stands here. -/
import Derived.Test.YtnlmfmceogbomaaGreatDoorWlAQq
import Derived.Test.YtnlmfmceogbomaaGreatDoorBatCuQq
import Derived.Test.YtnlmfmceogbomaaGreatDoorDkFsQq
namespace Go.Proofs.YtnlmfmceogbomaaGreatDoor
set_option linter.unusedVariables false

theorem bytesO_len {l : List Op3} (hr : rightO l) (hw : wtO l ≤ 5000) : (bytesO l).length ≤ 26100 := by
  rw [bytesO_good]
  have h1 : ∀ m : List Op3, (∀ o ∈ m, 1 + o.k.size + o.v.size ≤ 5000) → goodOf (m.map recO) ≤ 20 * m.length + wtO m := by
    intro m
    induction m with
    | nil => intro _; simp [goodOf]
    | cons o m ih =>
      intro h
      have h2 := ih (fun x hx => h x (List.mem_cons_of_mem _ hx))
      have h3 := h o (List.mem_cons_self ..)
      have h4 := recO_length o
      have e : goodOf ((o :: m).map recO) = 8 + (recO o).length + goodOf (m.map recO) := by simp [goodOf]
      have e2 : wtO (o :: m) = wtOE o + wtO m := by simp [wtO]
      have e3 : wtOE o = 1 + o.k.size + o.v.size := by unfold wtOE; omega
      rw [e, e2, e3, List.length_cons]
      omega
  have h2 := h1 l (wtO_le hw).2
  have h3 := recE_length (n := l.length) (by have := hr.1; omega)
  have h4 := hr.1
  unfold recsO
  rw [goodOf_append]
  have e : goodOf [recE l.length] = 8 + (recE l.length).length := by simp [goodOf]
  rw [e]
  omega
end Go.Proofs.YtnlmfmceogbomaaGreatDoor

/- The log where calls fail and crash: plain facts. No program stands here. -/
namespace Go.Proofs.YtnlmfmceogbomaaGreatDoor
set_option linter.unusedVariables false

theorem replay_cut_used (ls : List (List Op3)) (h : ∀ l ∈ ls, rightO l ∧ SmallO l) : ∀ (k i : Nat), ∃ u, (replayGo [] i i ((ls.flatMap recsO).take (endsIn (ls.flatMap recsO) k))).2 = i + u ∧
    goodOf (((ls.flatMap recsO).take (endsIn (ls.flatMap recsO) k)).take u) = (catO (ls.take (endsO ls k))).length := by
  induction ls with
  | nil => intro k i; exact ⟨0, by simp [endsIn, replayGo], by simp [endsIn, endsO, goodOf, catO]⟩
  | cons l ls ih =>
    intro k i
    obtain ⟨hr, hs⟩ := h l (List.mem_cons_self ..)
    have hrl : (recsO l).length = l.length + 1 := by simp [recsO]
    rw [List.flatMap_cons]
    unfold endsO
    rw [bytesO_good]
    by_cases hk : goodOf (recsO l) ≤ k
    · obtain ⟨u, hu1, hu2⟩ := ih (fun x hx => h x (List.mem_cons_of_mem _ hx)) (k - goodOf (recsO l)) (i + l.length + 1)
      rw [if_pos hk, endsIn_ge _ _ _ hk, List.take_length_add_append, replayGo_batch l hr hs]
      refine ⟨l.length + 1 + u, by simp only; rw [hu1]; omega, ?_⟩
      rw [← hrl, List.take_length_add_append, goodOf_append, hu2, List.take_succ_cons, catO_cons, List.length_append, bytesO_good]
    · rw [if_neg hk]
      have hlt := endsIn_lt (recsO l) (ls.flatMap recsO) k (by omega)
      rw [List.take_append_of_le_length (by omega)]
      generalize endsIn (recsO l ++ ls.flatMap recsO) k = m at *
      have e : (recsO l).take m = (l.take m).map recO ++ [] := by
        unfold recsO
        rw [List.take_append_of_le_length (by rw [List.length_map]; omega), List.append_nil, List.map_take]
      refine ⟨0, ?_, by simp [goodOf, catO]⟩
      rw [e, replayGo_ops (l.take m) (fun o ho => ⟨hr.2 o (List.mem_of_mem_take ho), hs o (List.mem_of_mem_take ho)⟩)]
      simp [replayGo]
theorem endsO_snoc (S : List (List Op3)) (l : List Op3) : ∀ m, (catO S).length ≤ m → endsO (S ++ [l]) m = if (catO S).length + (bytesO l).length ≤ m then S.length + 1 else S.length := by
  induction S with
  | nil =>
    intro m _
    have : (catO []).length = 0 := rfl
    rw [List.nil_append, this]
    show (if (bytesO l).length ≤ m then endsO [] (m - (bytesO l).length) + 1 else 0) = _
    simp [endsO]
  | cons x S ih =>
    intro m h
    rw [catO_cons, List.length_append] at h ⊢
    have e : endsO (x :: S ++ [l]) m = if (bytesO x).length ≤ m then endsO (S ++ [l]) (m - (bytesO x).length) + 1 else 0 := rfl
    rw [e, if_pos (by omega), ih _ (by omega), List.length_cons]
    split
    · rw [if_pos (by omega)]
    · rw [if_neg (by omega)]
/-- A gate that nothing is planned for, and one that crashes. -/
theorem gate_ok (d : Dk) (op : Dk → Ans) (hd : d.dn = false) (h1 : ((d.c + 1 : Nat) : Int) ≠ d.p.crash) (h2 : ((d.c + 1 : Nat) : Int) ∉ d.p.fail) : gateD d op = op { d with c := d.c + 1 } := by
  unfold gateD
  rw [hd, if_neg (by decide), if_neg h1, if_neg h2]
theorem gate_three (d : Dk) (op : Dk → Ans) (hd : d.dn = false) : gateD d op = op { d with c := d.c + 1 } ∨ gateD d op = ({ d with c := d.c + 1 }, 6) ∨ gateD d op = ((op { d with c := d.c + 1, dn := true }).1, 7) ∨ gateD d op = ({ d with c := d.c + 1, dn := true }, 7) := by
  unfold gateD
  rw [hd, if_neg (by decide)]
  split
  · split
    · exact .inr (.inr (.inl rfl))
    · exact .inr (.inr (.inr rfl))
  · split
    · exact .inr (.inl rfl)
    · exact .inl rfl
theorem catO_one' (l : List Op3) : catO [l] = bytesO l := by simp [catO]
end Go.Proofs.YtnlmfmceogbomaaGreatDoor

/- The log in a law's own world: each call in one line; the statements' own example. -/
namespace Go.Proofs.YtnlmfmceogbomaaGreatDoor
open Go.RowKit
set_option linter.unusedVariables false

/-- In the world w a disk lies behind p, in just the blocks S, which are newer than w0; all that was in w0 is as it was. -/
structure Lw (w0 w : World) (p : Nat) (d : Dk) (S : Nat → Prop) : Prop where
  isD : IsD w p d S
  base : Mod NoneB w0 w
  own : ∀ k, S k → w0.heap.size ≤ k
structure FitL (d : Dk) : Prop where
  c : d.c ≤ 1000000
  l : d.fs.length ≤ 1000
  u : usedF d.fs ≤ 8000000
theorem logB_le (d : Dk) : (logB d).length ≤ usedF d.fs := by
  unfold logB readD
  split
  · simp
  · split
    · rename_i h
      have hlt := hitF_lt h
      rw [fileAt_get hlt]
      exact usedF_get _ _ hlt
    · simp
theorem opsR_le {l : List Op3} (hs : SmallO l) : (opsR l).1.length ≤ 1002000000 := by
  unfold opsR
  split
  · rename_i h; have := bytesO_length h hs; simpa using this
  · simp
section
variable {w0 w w1 : World} {p : Nat} {d : Dk} {S : Nat → Prop}
theorem Lw.mod0 (h : Lw w0 w p d S) (hm : Mod NoneB w w1) : Lw w0 w1 p d S := ⟨h.isD.mod0 hm, h.base.then0 hm, h.own⟩
theorem Lw.to {d' : Dk} {S' T : Nat → Prop} (h : Lw w0 w p d S) (h1 : IsD w1 p d' S') (hm : Mod T w w1) (hT : ∀ k, T k → S k ∨ w0.heap.size ≤ k) (hn : ∀ k, S' k → S k ∨ w.heap.size ≤ k) : Lw w0 w1 p d' S' :=
  ⟨h1, h.base.trans_new hm (fun k hk => .inr ((hT k hk).elim (h.own k) id)), fun k hk => (hn k hk).elim (h.own k) (Nat.le_trans h.base.size)⟩
theorem Lw.dw (h : Dw w0 w p d) : ∃ S, Lw w0 w p d S := by
  obtain ⟨S, h1, h2, h3⟩ := h
  exact ⟨S, h1, h2, h3⟩
end
def opA : Op3 := ⟨false, ⟨#[97]⟩, ⟨#[49]⟩⟩
theorem opA_right : rightO [opA] := ⟨by simp, fun o ho h => by rw [List.mem_singleton] at ho; subst ho; cases h⟩
theorem opA_wt : wtO [opA] ≤ 5000 := by decide

end Go.Proofs.YtnlmfmceogbomaaGreatDoor

/- The statements' bound: aquiferlaw7.Heavy. -/
namespace Go.Proofs.YtnlmfmceogbomaaGreatDoor
open Go.RowKit
set_option linter.unusedVariables false

/-- Within the statements' bound. -/
def LightL (l : List OsV) : Prop := l.length ≤ 40 ∧ ∀ x ∈ l, wtO x.l ≤ 5000 ∧ x.l.length ≤ 60
def LightP (ps : List PlV) : Prop := ps.length ≤ 40 ∧ ∀ x ∈ ps, x.p.fail.length ≤ 200 ∧ x.p.keep.length ≤ 50
def HeavyE (l : List OsV) (ps : List PlV) (w : World) (e : Ending) (w' : World) : Prop := ∃ b, e = .returned (.bool b) ∧ Mod NoneB w w' ∧ (b = false → LightL l ∧ LightP ps)
set_option maxHeartbeats 4000000 in
set_option maxRecDepth 100000 in
theorem heavy7_calls (l : List OsV) (ps : List PlV) (A B : Option Addr) (c c' : Nat) (w : World) (hr : Rd w 1 A l.length (l.flatMap encOv)) (ho : ∀ x ∈ l, OsOk w x) (hp : Rd w 5 B ps.length (ps.flatMap encPl)) (hpo : ∀ x ∈ ps, PlOk w x) :
    Calls Tryz.prog 11 #[.slice A l.length c, .slice B ps.length c'] w (HeavyE l ps w) := by
  have HO := Lib.hid ho
  have HPO := Lib.hid hpo
  have hn := hr.2.1
  have hn' := hp.2.1
  clear ho hpo
  by_cases h40 : l.length ≤ 40
  case neg =>
    have q1 : (40 : Int) < (l.length : Int) := by omega
    clear h40
    go_enter Tryz.func11, Tryz.ntmps11
    go_wp2_with fail
    go_ret
    exact ⟨true, rfl, Mod.refl _ _, fun h => by cases h⟩
  have q1 : ¬ ((40 : Int) < (l.length : Int)) := by omega
  by_cases p40 : ps.length ≤ 40
  case neg =>
    have q2 : (40 : Int) < (ps.length : Int) := by omega
    clear p40
    go_enter Tryz.func11, Tryz.ntmps11
    go_wp2_with fail
    go_ret
    exact ⟨true, rfl, Mod.refl _ _, fun h => by cases h⟩
  have q2 : ¬ ((40 : Int) < (ps.length : Int)) := by omega
  go_enter Tryz.func11, Tryz.ntmps11
  go_wp2_with fail
  clear q1 q2
  go_loopw [5] (fun i wr => ∃ j : Nat, i = .int .i64 j ∧ j ≤ l.length ∧ (∀ x ∈ l.take j, wtO x.l ≤ 5000 ∧ x.l.length ≤ 60) ∧ Mod NoneB w wr) (fun i _ => l.length - (intOf i).toNat)
  case atStart => exact ⟨0, rfl, by omega, (fun x hx => by simp at hx), Mod.refl _ _⟩
  case round =>
    obtain ⟨j, rfl, hj, hall, hmr⟩ := hrel
    by_cases hlt : j < l.length
    · obtain ⟨ad, rfl, h0, _⟩ := Rd.elem (f := encOv) (fun _ => rfl) (hr.mod0 hmr) (by decide) j hlt
      have y0 := h0 _ rfl
      rw [Nat.mul_one] at y0
      have hrd := (HO.out l[j] (List.getElem_mem _)).mod0 hmr
      have htk : l.take (j + 1) = l.take j ++ [l[j]] := List.take_succ_eq_append_getElem hlt
      obtain ⟨x, hx⟩ : ∃ x, x = l[j] := ⟨_, rfl⟩
      rw [← hx] at y0 hrd htk
      obtain ⟨m, X, xc⟩ := x
      simp only [OsOk] at hrd htk y0
      have HTK := Lib.hid htk
      have HALL := Lib.hid hall
      have q2 : (0 : Int) ≤ (j : Int) := by omega
      have q3 : (j : Int) < (l.length : Int) := by omega
      clear hx h0 htk hall
      go_wp2_with fail
      refine (greatO_calls m X xc _ hrd).mono ?_
      rintro e w1 ⟨b, rfl, hm1, hb1⟩
      have hm11 := hmr.then0 hm1
      cases b with
      | true =>
        clear hb1
        go_wp2_with fail
        go_ret
        exact ⟨true, rfl, hm11, fun h => by cases h⟩
      | false =>
        have hw := hb1 rfl
        have y1 := hm1.cell0 y0
        have hmn := hrd.2.1
        clear hb1 y0
        by_cases h60 : m.length ≤ 60
        · have q4 : ¬ ((60 : Int) < (m.length : Int)) := by omega
          go_wp2_with fail
          go_roundw
          case rel =>
            refine ⟨j + 1, by go_num, by omega, fun x hx => ?_, hm11⟩
            rw [HTK.out] at hx
            rcases List.mem_append.1 hx with hx | hx
            · exact HALL.out x hx
            · rw [List.mem_singleton] at hx; subst hx; exact ⟨hw, h60⟩
          case measure => simp [intOf]; omega
        · have q4 : (60 : Int) < (m.length : Int) := by omega
          go_wp2_with fail
          go_ret
          exact ⟨true, rfl, hm11, fun h => by cases h⟩
    · obtain rfl : j = l.length := by omega
      rw [List.take_length] at hall
      have HALL := Lib.hid hall
      clear hall
      go_wp2_with fail
      go_loopw [6] (fun i wx => ∃ k : Nat, i = .int .i64 k ∧ k ≤ ps.length ∧ (∀ x ∈ ps.take k, x.p.fail.length ≤ 200 ∧ x.p.keep.length ≤ 50) ∧ wx = wr) (fun i _ => ps.length - (intOf i).toNat)
      case atStart => exact ⟨0, rfl, by omega, (fun x hx => by simp at hx), rfl⟩
      case round =>
        obtain ⟨k, rfl, hk, hpl, rfl⟩ := hrel
        by_cases hlt : k < ps.length
        · obtain ⟨ad, rfl, h0, _⟩ := Rd.elem (f := encPl) (fun _ => rfl) (hp.mod0 hmr) (by decide) k hlt
          obtain ⟨ad', e', _, h1⟩ := Rd.elem (f := encPl) (fun _ => rfl) (hp.mod0 hmr) (by decide) k hlt
          cases e'
          have y1 := h1 1 _ (by decide) (by decide) rfl
          have y4 := h1 4 _ (by decide) (by decide) rfl
          have htk : ps.take (k + 1) = ps.take k ++ [ps[k]] := List.take_succ_eq_append_getElem hlt
          have hpk := HPO.out ps[k] (List.getElem_mem _)
          obtain ⟨x, hx⟩ : ∃ x, x = ps[k] := ⟨_, rfl⟩
          rw [← hx] at y1 y4 htk hpk
          have hf1 := hpk.fail.2.1
          have hf2 := hpk.keep.2.1
          have HTK := Lib.hid htk
          have HPL := Lib.hid hpl
          have q2 : (0 : Int) ≤ (k : Int) := by omega
          have q3 : (k : Int) < (ps.length : Int) := by omega
          clear hx h0 h1 htk hpl
          by_cases f200 : x.p.fail.length ≤ 200
          · have q4 : ¬ ((200 : Int) < (x.p.fail.length : Int)) := by omega
            by_cases k50 : x.p.keep.length ≤ 50
            · have q5 : ¬ ((50 : Int) < (x.p.keep.length : Int)) := by omega
              go_wp2_with fail
              go_roundw
              case rel =>
                refine ⟨k + 1, by go_num, by omega, fun y hy => ?_, by first | rfl | trivial⟩
                rw [HTK.out] at hy
                rcases List.mem_append.1 hy with hy | hy
                · exact HPL.out y hy
                · rw [List.mem_singleton] at hy; subst hy; exact ⟨f200, k50⟩
              case measure => simp [intOf]; omega
            · have q5 : (50 : Int) < (x.p.keep.length : Int) := by omega
              go_wp2_with fail
              go_ret
              exact ⟨true, rfl, hmr, fun h => by cases h⟩
          · have q4 : (200 : Int) < (x.p.fail.length : Int) := by omega
            go_wp2_with fail
            go_ret
            exact ⟨true, rfl, hmr, fun h => by cases h⟩
        · obtain rfl : k = ps.length := by omega
          rw [List.take_length] at hpl
          have HPL := Lib.hid hpl
          clear hpl
          go_wp2_with fail
          go_ret
          exact ⟨false, rfl, hmr, fun _ => ⟨⟨h40, HALL.out⟩, ⟨p40, HPL.out⟩⟩⟩
end Go.Proofs.YtnlmfmceogbomaaGreatDoor

/- The log in a law's own world: more of it; a commit that crashes, in plain words. -/
namespace Go.Proofs.YtnlmfmceogbomaaGreatDoor
open Go.RowKit
set_option linter.unusedVariables false

section
variable {w0 w w1 : World} {p : Nat} {d : Dk} {S : Nat → Prop}
def RestOk (w0 w : World) (p : Nat) (d' : Dk) (S : Nat → Prop) (e : Ending) (w' : World) : Prop := e = .returned (.tuple #[]) ∧ ∃ S', Lw w0 w' p d' S' ∧ Mod S w w' ∧ (∀ k, S' k → S k ∨ w.heap.size ≤ k)
theorem Lw.restart0 (h : Lw w0 w p d S) (hf : FitL d) (cap : Int) :
    Calls Tryz.prog 21 #[.pointer (some ⟨p, 0, none⟩), .agg #[.int .i64 cap, .slice none 0 0, .int .i64 0, .bool false, .slice none 0 0]] w (RestOk w0 w p (restartD d ⟨cap, [], 0, false, []⟩) S) := by
  refine (restart_calls w p d S ⟨cap, [], 0, false, []⟩ none none 0 0 h.isD (Rd.nil _ _ _) (Rd.nil _ _ _) (fun h => absurd h (Nat.lt_irrefl _)) (fun h => absurd h (Nat.lt_irrefl _)) (Nat.zero_le _) (Nat.zero_le _) (by have := hf.l; omega) (by have := hf.u; omega)).mono ?_
  rintro e w1 ⟨rfl, S', h1, h2, h3⟩
  exact ⟨rfl, S', h.to h1 h2 (fun k hk => .inl hk) h3, h2, h3⟩
/-- Blocks that are none of the disk's may turn. -/
theorem Lw.modX {T : Nat → Prop} (h : Lw w0 w p d S) (hm : Mod T w w1) (hT : ∀ k, T k → ¬ S k ∧ w0.heap.size ≤ k) : Lw w0 w1 p d S :=
  ⟨h.isD.mod hm (fun k hk ht => (hT k ht).1 hk), h.base.trans_new hm (fun k hk => .inr (hT k hk).2), h.own⟩
end
theorem bytesO_pos (l : List Op3) : 0 < (bytesO l).length := by
  rw [bytesO_good]
  have h := goodOf_len (recsO l)
  have : (recsO l).length = l.length + 1 := by simp [recsO]
  omega
end Go.Proofs.YtnlmfmceogbomaaGreatDoor

/- What is there behind a crash of the log's disk: plain facts. No program stands here. -/
namespace Go.Proofs.YtnlmfmceogbomaaGreatDoor
open Go.RowKit
set_option linter.unusedVariables false

theorem hit_plan (d : Dk) (n : ByteArray) (f : Dk → Nat → Ans) (h : ∀ i, (f d i).1.p = d.p) : (hitAns d n f).1.p = d.p := by
  by_cases hh : hitF d.fs n = true
  · rw [hitAns_true _ hh]; exact h _
  · unfold hitAns
    rw [if_neg hh]
theorem append_plan (d : Dk) (n : ByteArray) (b : List UInt8) : (appendD d n b).1.p = d.p := by
  unfold appendD withD
  refine gate_plan fun c dn => hit_plan _ n _ fun i => ?_
  unfold appendF
  split <;> rfl
theorem sync_plan (d : Dk) (n : ByteArray) : (syncD d n).1.p = d.p := by
  unfold syncD withD
  exact gate_plan fun c dn => hit_plan _ n _ fun i => rfl
theorem cut_plan (d : Dk) (n : ByteArray) (k : Int) : (cutD d n k).1.p = d.p := by
  unfold cutD withD
  refine gate_plan fun c dn => hit_plan _ n _ fun i => ?_
  unfold cutF
  split <;> rfl
theorem write_small (d : Dk) (b : List UInt8) : (writeD d b).1.p = d.p ∧ (writeD d b).1.c ≤ d.c + 2 := by
  have h1 := append_plan d sLog b
  have h2 := (append_grow d sLog b).c
  have h3 := sync_plan (appendD d sLog b).1 sLog
  have h4 := (sync_grow (appendD d sLog b).1 sLog).c
  unfold writeD tryD
  split
  · exact ⟨h3.trans h1, by show (syncD (appendD d sLog b).1 sLog).1.c ≤ d.c + 2; omega⟩
  · exact ⟨h1, by omega⟩
theorem commit_small (d : Dk) (n : Nat) (l : List Op3) : (commitD d n l).d.p = d.p ∧ (commitD d n l).d.c ≤ d.c + 3 := by
  obtain ⟨h1, h2⟩ := write_small d (opsR l).1
  have h3 := cut_plan (writeD d (opsR l).1).1 sLog n
  have h4 := (cut_grow (writeD d (opsR l).1).1 sLog n).c
  unfold commitD
  split
  · split
    · exact ⟨h1, by show _ ≤ _; simp only; omega⟩
    · split
      · exact ⟨h1, by show _ ≤ _; simp only; omega⟩
      · exact ⟨h3.trans h1, by show _ ≤ _; simp only; omega⟩
  · exact ⟨rfl, by show _ ≤ _; simp only; omega⟩
theorem commit_wrong (d : Dk) (n : Nat) (l : List Op3) (h : ¬ rightO l) : commitD d n l = ⟨d, n, false, 1⟩ := by
  have ho : opsR l = ([], 1) := if_neg h
  unfold commitD
  rw [ho]
  exact if_neg (by decide)
theorem write_used (d : Dk) (b : List UInt8) : (writeD d b).1.fs.length ≤ d.fs.length + 2 ∧ usedF (writeD d b).1.fs ≤ usedF d.fs + b.length := by
  have h2 := (append_grow d sLog b).ok
  have h4 := (sync_grow (appendD d sLog b).1 sLog).ok
  unfold writeD
  by_cases e : (appendD d sLog b).2 = 0
  · rw [tryD_ok e]; omega
  · rw [tryD_bad e]; omega
theorem commit_used (d : Dk) (n : Nat) (l : List Op3) : (commitD d n l).d.fs.length ≤ d.fs.length + 3 ∧ usedF (commitD d n l).d.fs ≤ usedF d.fs + (opsR l).1.length ∧ (commitD d n l).n ≤ n + (opsR l).1.length := by
  have h1 := write_used d (opsR l).1
  have h2 := (cut_grow (writeD d (opsR l).1).1 sLog n).ok
  unfold commitD
  split
  · split
    · exact ⟨by simp only; omega, by simp only; omega, by simp only; omega⟩
    · split
      · exact ⟨by simp only; omega, by simp only; omega, by simp only; omega⟩
      · exact ⟨by simp only; omega, by simp only; omega, by simp only; omega⟩
  · exact ⟨by simp only; omega, by simp only; omega, by simp only; omega⟩
end Go.Proofs.YtnlmfmceogbomaaGreatDoor
