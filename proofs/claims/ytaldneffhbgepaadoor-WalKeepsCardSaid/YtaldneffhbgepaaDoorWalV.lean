/- The log in a law's own world: more of it; a commit that crashes, in plain words. -/
import Derived.Test.YtaldneffhbgepaaDoorWalH
import Derived.Test.YtaldneffhbgepaaDoorWalQ
namespace Go.Proofs.YtaldneffhbgepaaDoor
open Go.RowKit
set_option linter.unusedVariables false

section
variable {w0 w w1 : World} {p : Nat} {d : Dk} {S : Nat → Prop}
/-- A log that was opened; what was told lies in none of the disk's blocks. -/
def OpenOk2 (w0 w : World) (p : Nat) (d : Dk) (S : Nat → Prop) (e : Ending) (w' : World) : Prop :=
  ∃ S' q vl vs, e = .returned (.tuple #[.pointer (some ⟨q, 0, none⟩), vl, .int .i64 0]) ∧ Lw w0 w' p (openD d).1 S' ∧ Mod S w w' ∧ (∀ k, S' k → S k ∨ w.heap.size ≤ k) ∧ w.heap.size ≤ q ∧ ¬ S' q ∧ w'.heap[q]? = some (wblk p (logN d) false) ∧ BatsAt w' vl w.heap.size (logL d) vs ∧
    (∀ g, vl.ownBlock = some g → ¬ S' g) ∧ (∀ u ∈ vs, ∀ g, u.ownBlock = some g → ¬ S' g)
theorem Lw.open2 (h : Lw w0 w p d S) (ht : TabW w0) (hf : FitL d) (hok : (openD d).2 = 0) : Calls Tryd.prog 29 #[.pointer (some ⟨p, 0, none⟩)] w (OpenOk2 w0 w p d S) := by
  have htw := ht.mod0 h.base
  have hT : ¬ S 1 := fun hk => by have := h.own _ hk; have := ht.lt; omega
  refine (wopen_calls w p d S h.isD htw hT (by have := hf.c; omega) (by have := hf.l; omega) (by have := hf.u; omega) (by have := logB_le d; have := hf.u; omega)).mono ?_
  rintro e w1 ⟨S', h1, h2, h3, ⟨h4, q, vl, vs, rfl, h5, h6, h7, h8, h9, h10⟩ | ⟨h4, _⟩⟩
  · exact ⟨S', q, vl, vs, rfl, h.to h1 h2 (fun k hk => .inl hk) h3, h2, h3, h5, h6, h7, h8, h9, h10⟩
  · exact absurd hok h4
def RestOk (w0 w : World) (p : Nat) (d' : Dk) (S : Nat → Prop) (e : Ending) (w' : World) : Prop := e = .returned (.tuple #[]) ∧ ∃ S', Lw w0 w' p d' S' ∧ Mod S w w' ∧ (∀ k, S' k → S k ∨ w.heap.size ≤ k)
theorem Lw.restart0 (h : Lw w0 w p d S) (hf : FitL d) (cap : Int) :
    Calls Tryd.prog 36 #[.pointer (some ⟨p, 0, none⟩), .agg #[.int .i64 cap, .slice none 0 0, .int .i64 0, .bool false, .slice none 0 0]] w (RestOk w0 w p (restartD d ⟨cap, [], 0, false, []⟩) S) := by
  refine (restart_calls w p d S ⟨cap, [], 0, false, []⟩ none none 0 0 h.isD (Rd.nil _ _ _) (Rd.nil _ _ _) (fun h => absurd h (Nat.lt_irrefl _)) (fun h => absurd h (Nat.lt_irrefl _)) (Nat.zero_le _) (Nat.zero_le _) (by have := hf.l; omega) (by have := hf.u; omega)).mono ?_
  rintro e w1 ⟨rfl, S', h1, h2, h3⟩
  exact ⟨rfl, S', h.to h1 h2 (fun k hk => .inl hk) h3, h2, h3⟩
/-- Blocks that are none of the disk's may turn. -/
theorem Lw.modX {T : Nat → Prop} (h : Lw w0 w p d S) (hm : Mod T w w1) (hT : ∀ k, T k → ¬ S k ∧ w0.heap.size ≤ k) : Lw w0 w1 p d S :=
  ⟨h.isD.mod hm (fun k hk ht => (hT k ht).1 hk), h.base.trans_new hm (fun k hk => .inr (hT k hk).2), h.own⟩
end
theorem fitL_at {d : Dk} {x : List UInt8} {s : Nat} (hfs : d.fs = [⟨sLog, x, s⟩]) (hc : d.c ≤ 1000) (hx : x.length ≤ 4000000) : FitL d :=
  ⟨by omega, by rw [hfs]; show 1 ≤ _; omega, by rw [hfs]; simp [usedF]; omega⟩
/-- A disk that crashes at a call of its own, and not at the first ones. -/
def crD (cap crash : Int) (done : Bool) (keep fail : List Int) (fs : List Fl) (c : Nat) : Dk := ⟨⟨cap, fail, crash, done, keep⟩, fs, c, false⟩
theorem crD_gate {cap crash : Int} {done : Bool} {keep fail : List Int} {fs : List Fl} {c : Nat} (op : Dk → Ans) (h1 : ((c + 1 : Nat) : Int) ≠ crash) (h2 : ((c + 1 : Nat) : Int) ∉ fail) : gateD (crD cap crash done keep fail fs c) op = op (crD cap crash done keep fail fs (c + 1)) :=
  gate_ok _ op rfl h1 h2
theorem cr_open {cap crash : Int} {done : Bool} {keep fail : List Int} (h1 : crash ≠ 1) (h2 : crash ≠ 2) (h3 : (1 : Int) ∉ fail) (h4 : (2 : Int) ∉ fail) :
    openD (crD cap crash done keep fail [] 0) = (crD cap crash done keep fail [⟨sLog, [], 0⟩] 2, 0) ∧ logN (crD cap crash done keep fail [] 0) = 0 ∧ logL (crD cap crash done keep fail [] 0) = [] := by
  have hr : readD (crD cap crash done keep fail [] 0) sLog = ([], 3) := rfl
  have hb : logB (crD cap crash done keep fail [] 0) = [] := by unfold logB; rw [hr]
  have hs : scanB [] = [] := scanB_nil
  have hn : logN (crD cap crash done keep fail [] 0) = 0 := by unfold logN; rw [hb, hs]; rfl
  have hl : logL (crD cap crash done keep fail [] 0) = [] := by unfold logL; rw [hb, hs]; rfl
  refine ⟨?_, hn, hl⟩
  have hcr : createD (crD cap crash done keep fail [] 0) sLog = (crD cap crash done keep fail [⟨sLog, [], 0⟩] 1, 0) := by
    unfold createD
    rw [crD_gate _ (by simpa using fun h => h1 h.symm) (by simpa using h3)]
    unfold createF
    rw [if_neg sLog_ne]
    rfl
  have h1' : open1D (crD cap crash done keep fail [] 0) = (crD cap crash done keep fail [⟨sLog, [], 0⟩] 1, 0) := by
    unfold open1D
    rw [hr, if_pos rfl, hcr]
  unfold openD
  rw [h1', hn, hb, tryD_ok (a := (crD cap crash done keep fail [⟨sLog, [], 0⟩] 1, 0)) rfl]
  have h2' : open2D 0 [] (crD cap crash done keep fail [⟨sLog, [], 0⟩] 1) = (crD cap crash done keep fail [⟨sLog, [], 0⟩] 1, 0) := if_neg (by simp)
  show tryD (open2D 0 [] (crD cap crash done keep fail [⟨sLog, [], 0⟩] 1)) _ = _
  rw [h2', tryD_ok rfl]
  show syncD (crD cap crash done keep fail [⟨sLog, [], 0⟩] 1) sLog = _
  unfold syncD withD
  rw [crD_gate _ (by intro h; apply h2; omega) (by simpa using h4), hit_one _ [] 0 _ rfl, syncF_one _ [] 0 rfl]
  rfl
theorem bytesO_pos (l : List Op3) : 0 < (bytesO l).length := by
  rw [bytesO_good]
  have h := goodOf_len (recsO l)
  have : (recsO l).length = l.length + 1 := by simp [recsO]
  omega
def thereB (second done big : Bool) : Bool := second && (done || big) || !second && done && big
theorem crash_commit (a b : List Op3) (hra : rightO a) (hrb : rightO b) (second done : Bool) (k : Nat) (hsz : (bytesO a).length + (bytesO b).length ≤ 100000) :
    commitD (crD 100000 (if second then 6 else 5) done [(k : Int)] [] [⟨sLog, [], 0⟩] 2) 0 a = ⟨crD 100000 (if second then 6 else 5) done [(k : Int)] [] [⟨sLog, bytesO a, (bytesO a).length⟩] 4, (bytesO a).length, false, 0⟩ ∧
    ∃ D3 m, commitD (crD 100000 (if second then 6 else 5) done [(k : Int)] [] [⟨sLog, bytesO a, (bytesO a).length⟩] 4) (bytesO a).length b = ⟨D3, (bytesO a).length, true, 7⟩ ∧
      restartD D3 ⟨100000, [], 0, false, []⟩ = freeD 100000 [] [⟨sLog, (catO [a, b]).take m, ((catO [a, b]).take m).length⟩] 0 ∧ (bytesO a).length ≤ m ∧ m ≤ (catO [a, b]).length ∧ thereB second done (decide ((bytesO b).length ≤ k)) = decide ((catO [a, b]).length ≤ m) ∧ FitL D3 := by
  have hoa : opsR a = (bytesO a, 0) := if_pos hra
  have hob : opsR b = (bytesO b, 0) := if_pos hrb
  have hcat : catO [a, b] = bytesO a ++ bytesO b := by simp [catO]
  have hbp := bytesO_pos b
  obtain ⟨x, hx⟩ : ∃ x, x = bytesO a := ⟨_, rfl⟩
  obtain ⟨y, hy⟩ : ∃ y, y = bytesO b := ⟨_, rfl⟩
  rw [hcat]
  rw [← hx, ← hy] at hsz ⊢
  rw [← hx] at hoa
  rw [← hy] at hob hbp
  obtain ⟨cr, hcr⟩ : ∃ cr : Int, cr = if second then 6 else 5 := ⟨_, rfl⟩
  have hcr3 : cr = 5 ∨ cr = 6 := by rw [hcr]; cases second <;> simp
  have happ : ∀ (z : List UInt8) (s c : Nat), ((c + 1 : Nat) : Int) ≠ cr → (x ++ y).length = x.length + y.length → ∀ (u v : List UInt8), u.length + v.length ≤ 100000 →
      appendD (crD 100000 cr done [(k : Int)] [] [⟨sLog, u, s⟩] c) sLog v = (crD 100000 cr done [(k : Int)] [] [⟨sLog, u ++ v, s⟩] (c + 1), 0) := by
    intro z s c h1 _ u v h2
    unfold appendD withD
    rw [crD_gate _ h1 (by simp), hit_one _ u s _ rfl, appendF_ok _ u s v rfl (by show ((u.length + v.length : Nat) : Int) ≤ 100000; omega)]
    rfl
  have hsyn : ∀ (s c : Nat), ((c + 1 : Nat) : Int) ≠ cr → ∀ (u : List UInt8), syncD (crD 100000 cr done [(k : Int)] [] [⟨sLog, u, s⟩] c) sLog = (crD 100000 cr done [(k : Int)] [] [⟨sLog, u, u.length⟩] (c + 1), 0) := by
    intro s c h1 u
    unfold syncD withD
    rw [crD_gate _ h1 (by simp), hit_one _ u s _ rfl, syncF_one _ u s rfl]
    rfl
  rw [← hcr]
  refine ⟨?_, ?_⟩
  · have hw : writeD (crD 100000 cr done [(k : Int)] [] [⟨sLog, [], 0⟩] 2) x = (crD 100000 cr done [(k : Int)] [] [⟨sLog, x, x.length⟩] 4, 0) := by
      unfold writeD
      rw [happ [] 0 2 (by omega) (by simp) [] x (by simp; omega), tryD_ok rfl]
      show syncD (crD 100000 cr done [(k : Int)] [] [⟨sLog, [] ++ x, 0⟩] 3) sLog = _
      rw [hsyn 0 3 (by omega), List.nil_append]
    unfold commitD
    rw [hoa, if_pos rfl, hw, if_pos rfl, Nat.zero_add]
  · have hdn : ∀ (w : Ans), writeD (crD 100000 cr done [(k : Int)] [] [⟨sLog, x, x.length⟩] 4) y = w → w.2 = 7 → commitD (crD 100000 cr done [(k : Int)] [] [⟨sLog, x, x.length⟩] 4) x.length b = ⟨w.1, x.length, true, 7⟩ := by
      intro w hw he
      unfold commitD
      rw [hob, if_pos rfl, hw, if_neg (by omega), if_pos he]
    have hrest : ∀ (D : Dk) (s : Nat), D.p.keep = [(k : Int)] → D.fs = [⟨sLog, x ++ y, s⟩] → s ≤ (x ++ y).length → restartD D ⟨100000, [], 0, false, []⟩ = freeD 100000 [] [⟨sLog, (x ++ y).take (s + k), ((x ++ y).take (s + k)).length⟩] 0 := by
      intro D s h1 h2 h3
      unfold restartD freeD
      rw [h1, h2]
      simp only [List.mapIdx_cons, List.mapIdx_nil]
      rw [restF_len _ _ _ h3]
      simp
    have hfit : ∀ (D : Dk) (z : List UInt8) (s : Nat), D.fs = [⟨sLog, z, s⟩] → D.c ≤ 10 → z.length ≤ 100000 → FitL D := fun D z s h1 h2 h3 => fitL_at h1 (by omega) (by omega)
    have hxy : (x ++ y).length = x.length + y.length := List.length_append
    cases second with
    | false =>
      have hc5 : cr = 5 := by rw [hcr]; rfl
      subst hc5
      have hap : appendD (crD 100000 5 done [(k : Int)] [] [⟨sLog, x, x.length⟩] 4) sLog y = (if done then { crD 100000 5 done [(k : Int)] [] [⟨sLog, x ++ y, x.length⟩] 5 with dn := true } else { crD 100000 5 done [(k : Int)] [] [⟨sLog, x, x.length⟩] 5 with dn := true }, 7) := by
        unfold appendD withD
        rw [gate_crash _ _ rfl rfl]
        rw [hit_one _ x x.length _ rfl, appendF_ok _ x x.length y rfl (by show ((x.length + y.length : Nat) : Int) ≤ 100000; omega)]
        rfl
      have hw : writeD (crD 100000 5 done [(k : Int)] [] [⟨sLog, x, x.length⟩] 4) y = (if done then { crD 100000 5 done [(k : Int)] [] [⟨sLog, x ++ y, x.length⟩] 5 with dn := true } else { crD 100000 5 done [(k : Int)] [] [⟨sLog, x, x.length⟩] 5 with dn := true }, 7) := by
        unfold writeD
        rw [hap, tryD_bad (show ¬ ((7 : Nat) = 0) by decide)]
      have hcm := hdn _ hw rfl
      cases done with
      | true =>
        refine ⟨_, min (x.length + k) (x ++ y).length, hcm, ?_, by omega, by omega, ?_, hfit _ (x ++ y) x.length rfl (by show 5 ≤ 10; omega) (by omega)⟩
        · have h := hrest { crD 100000 5 true [(k : Int)] [] [⟨sLog, x ++ y, x.length⟩] 5 with dn := true } x.length rfl rfl (by omega)
          have e : (x ++ y).take (min (x.length + k) (x ++ y).length) = (x ++ y).take (x.length + k) := by rw [← List.take_take, List.take_length]
          rw [e]
          exact h
        · unfold thereB
          rw [Bool.eq_iff_iff]
          simp
          omega
      | false =>
        refine ⟨_, x.length, hcm, ?_, Nat.le_refl _, by omega, ?_, hfit _ x x.length rfl (by show 5 ≤ 10; omega) (by omega)⟩
        · rw [List.take_left]
          unfold restartD freeD
          simp only [if_false, Bool.false_eq_true, crD, List.mapIdx_cons, List.mapIdx_nil]
          rw [restF_len _ _ _ (Nat.le_refl _)]
          simp
          exact List.take_of_length_le (by omega)
        · unfold thereB
          rw [Bool.eq_iff_iff]
          simp
          omega
    | true =>
      have hc6 : cr = 6 := by rw [hcr]; rfl
      subst hc6
      have hap := happ [] x.length 4 (by omega) hxy x y (by omega)
      have hsy : syncD (crD 100000 6 done [(k : Int)] [] [⟨sLog, x ++ y, x.length⟩] 5) sLog = (if done then { crD 100000 6 done [(k : Int)] [] [⟨sLog, x ++ y, (x ++ y).length⟩] 6 with dn := true } else { crD 100000 6 done [(k : Int)] [] [⟨sLog, x ++ y, x.length⟩] 6 with dn := true }, 7) := by
        unfold syncD withD
        rw [gate_crash _ _ rfl rfl]
        rw [hit_one _ (x ++ y) x.length _ rfl, syncF_one _ (x ++ y) x.length rfl]
        rfl
      have hw : writeD (crD 100000 6 done [(k : Int)] [] [⟨sLog, x, x.length⟩] 4) y = (if done then { crD 100000 6 done [(k : Int)] [] [⟨sLog, x ++ y, (x ++ y).length⟩] 6 with dn := true } else { crD 100000 6 done [(k : Int)] [] [⟨sLog, x ++ y, x.length⟩] 6 with dn := true }, 7) := by
        unfold writeD
        rw [hap, tryD_ok rfl]
        exact hsy
      have hcm := hdn _ hw rfl
      cases done with
      | true =>
        refine ⟨_, (x ++ y).length, hcm, ?_, by omega, Nat.le_refl _, ?_, hfit _ (x ++ y) (x ++ y).length rfl (by show 6 ≤ 10; omega) (by omega)⟩
        · have h := hrest { crD 100000 6 true [(k : Int)] [] [⟨sLog, x ++ y, (x ++ y).length⟩] 6 with dn := true } (x ++ y).length rfl rfl (Nat.le_refl _)
          rw [List.take_of_length_le (by omega)] at h
          rw [List.take_length]
          exact h
        · unfold thereB
          simp
      | false =>
        refine ⟨_, min (x.length + k) (x ++ y).length, hcm, ?_, by omega, by omega, ?_, hfit _ (x ++ y) x.length rfl (by show 6 ≤ 10; omega) (by omega)⟩
        · have h := hrest { crD 100000 6 false [(k : Int)] [] [⟨sLog, x ++ y, x.length⟩] 6 with dn := true } x.length rfl rfl (by omega)
          have e : (x ++ y).take (min (x.length + k) (x ++ y).length) = (x ++ y).take (x.length + k) := by rw [← List.take_take, List.take_length]
          rw [e]
          exact h
        · unfold thereB
          rw [Bool.eq_iff_iff]
          simp
          omega
end Go.Proofs.YtaldneffhbgepaaDoor

