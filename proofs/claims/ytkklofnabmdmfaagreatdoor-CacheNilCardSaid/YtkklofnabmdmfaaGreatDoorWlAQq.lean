/- The log in plain words: what each call makes of it, and of its disk. No program stands here. -/
import Derived.StillTailTactics
import Derived.WalkMore
import Derived.Deep.DeepCutAuto
import Derived.Deep.CutBlock
import Derived.Deep.DrawnRows
import Derived.OwnWalk
import Derived.Test.YtkklofnabmdmfaaGreatDoorBatAQq
import Derived.Test.YtkklofnabmdmfaaGreatDoorSnapPQq
import Derived.Test.YtkklofnabmdmfaaGreatDoorAfterQq
import Derived.Test.YtkklofnabmdmfaaGreatDoorOpenBQq
namespace Go.Proofs.YtkklofnabmdmfaaGreatDoor
set_option linter.unusedVariables false

def sLog : ByteArray := ⟨#[108, 111, 103]⟩
/-- Go on if it was OK. -/
def tryD (a : Ans) (f : Dk → Ans) : Ans := if a.2 = 0 then f a.1 else a
theorem tryD_ok {a : Ans} {f : Dk → Ans} (h : a.2 = 0) : tryD a f = f a.1 := if_pos h
theorem tryD_bad {a : Ans} {f : Dk → Ans} (h : a.2 ≠ 0) : tryD a f = a := if_neg h
/-- The log's bytes when it is opened; how many of them are of whole batches; the batches. -/
def logB (d : Dk) : List UInt8 := (readD d sLog).1
def logN (d : Dk) : Nat := goodOf ((scanB (logB d)).take (replayB (scanB (logB d))).2)
def logL (d : Dk) : List (List Op3) := (replayB (scanB (logB d))).1
def open1D (d : Dk) : Ans := if (readD d sLog).2 = 3 then createD d sLog else (d, (readD d sLog).2)
def open2D (n : Nat) (b : List UInt8) (d1 : Dk) : Ans := if n < b.length then cutD d1 sLog n else (d1, 0)
def openD (d : Dk) : Ans := tryD (tryD (open1D d) (open2D (logN d) (logB d))) fun d => syncD d sLog
theorem replayGo_used (ps : List (List UInt8)) : ∀ (now : List Op3) (i used : Nat), used ≤ i → (replayGo now i used ps).2 ≤ i + ps.length := by
  induction ps with
  | nil => intro now i used h; show used ≤ _; simp; omega
  | cons p ps ih =>
    intro now i used h
    cases hk : kindB now.length p with
    | op o => rw [replayGo_op _ _ _ _ _ hk, List.length_cons]; have := ih (now ++ [o]) (i + 1) used (by omega); omega
    | fin => rw [replayGo_fin _ _ _ _ _ hk, List.length_cons]; have := ih [] (i + 1) (i + 1) (Nat.le_refl _); simp only; omega
    | bad => rw [replayGo_bad _ _ _ _ _ hk]; simp only; omega
theorem replayB_used (ps : List (List UInt8)) : (replayB ps).2 ≤ ps.length := by have := replayGo_used ps [] 0 0 (Nat.le_refl _); unfold replayB; omega
theorem goodOf_take_le (ps : List (List UInt8)) (k : Nat) : goodOf (ps.take k) ≤ goodOf ps := by
  conv => rhs; rw [← List.take_append_drop k ps]
  rw [goodOf_append]
  omega
theorem logN_le (d : Dk) : logN d ≤ (logB d).length := Nat.le_trans (goodOf_take_le _ _) (scanB_good _)
theorem Grow.ok {k : Nat} {d d' : Dk} (h : Grow k d d') : d'.c ≤ d.c + 1 ∧ d'.fs.length ≤ d.fs.length + 1 ∧ usedF d'.fs ≤ usedF d.fs + k := ⟨h.c, h.l, h.u⟩
end Go.Proofs.YtkklofnabmdmfaaGreatDoor

/- The log: Size, Sick, Reset, Commit. -/
namespace Go.Proofs.YtkklofnabmdmfaaGreatDoor
open Go.RowKit
set_option linter.unusedVariables false

/-- A log's block. -/
def wblk (p n : Nat) (sk : Bool) : Obj := .cells #[.pointer (some ⟨p, 0, none⟩), .int .i64 n, .bool sk] 121

end Go.Proofs.YtkklofnabmdmfaaGreatDoor

/- The log: Open. -/
namespace Go.Proofs.YtkklofnabmdmfaaGreatDoor
open Go.RowKit
set_option linter.unusedVariables false

theorem goodOf_take_succ (ps : List (List UInt8)) (j : Nat) (h : j < ps.length) : goodOf (ps.take (j + 1)) = goodOf (ps.take j) + (8 + ps[j].length) := by
  rw [List.take_succ_eq_append_getElem h, goodOf_append]
  simp [goodOf]
theorem goodOf_len (ps : List (List UInt8)) : 8 * ps.length ≤ goodOf ps := by
  induction ps with
  | nil => simp
  | cons p ps ih =>
    have e : goodOf (p :: ps) = 8 + p.length + goodOf ps := by simp [goodOf]
    rw [e, List.length_cons]
    omega
theorem goodOf_mem (ps : List (List UInt8)) (p : List UInt8) (h : p ∈ ps) : 8 + p.length ≤ goodOf ps := by
  induction ps with
  | nil => cases h
  | cons q ps ih =>
    have e : goodOf (q :: ps) = 8 + q.length + goodOf ps := by simp [goodOf]
    rw [e]
    rcases List.mem_cons.1 h with rfl | h
    · omega
    · have := ih h; omega
theorem TabW.mod1 {S : Nat → Prop} {w w1 : World} (h : TabW w) (hm : Mod S w w1) (hs : ¬ S 3) : TabW w1 := by
  have hg : Tryz.prog.globalNamed "internal/strconv.uint64pow10" = some 3 := by kernel_rfl
  unfold TabW Lib.TabIs World.var? at *
  rw [hg] at h ⊢
  simp only [Option.bind_some] at h ⊢
  have hlt : 3 < w.heap.size := by
    cases hq : w.heap[3]? with
    | none => rw [hq] at h; cases h
    | some o => exact (Array.getElem?_eq_some_iff.1 hq).1
  rw [hm.block _ hlt hs]
  exact h
theorem TabW.lt {w : World} (h : TabW w) : 3 < w.heap.size := by
  have hg : Tryz.prog.globalNamed "internal/strconv.uint64pow10" = some 3 := by kernel_rfl
  unfold TabW Lib.TabIs World.var? at *
  rw [hg] at h
  simp only [Option.bind_some] at h
  cases hq : w.heap[3]? with
  | none => rw [hq] at h; cases h
  | some o => exact (Array.getElem?_eq_some_iff.1 hq).1
/-- Behind Open. -/
def OpenE (w : World) (S : Nat → Prop) (p : Nat) (d : Dk) (e : Ending) (w' : World) : Prop :=
  ∃ S', IsD w' p (openD d).1 S' ∧ Mod S w w' ∧ (∀ k, S' k → S k ∨ w.heap.size ≤ k) ∧
    (((openD d).2 = 0 ∧ ∃ q vl vs, e = .returned (.tuple #[.pointer (some ⟨q, 0, none⟩), vl, .int .i64 0]) ∧ w.heap.size ≤ q ∧ ¬ S' q ∧ w'.heap[q]? = some (wblk p (logN d) false) ∧ BatsAt w' vl w.heap.size (logL d) vs ∧
        (∀ g, vl.ownBlock = some g → ¬ S' g) ∧ (∀ u ∈ vs, ∀ g, u.ownBlock = some g → ¬ S' g)) ∨
     ((openD d).2 ≠ 0 ∧ e = .returned (.tuple #[.pointer none, .slice none 0 0, .int .i64 (openD d).2])))
theorem open_fits (d : Dk) : (open1D d).1.c ≤ d.c + 1 ∧ (open1D d).1.fs.length ≤ d.fs.length + 1 ∧ usedF (open1D d).1.fs ≤ usedF d.fs := by
  unfold open1D
  split
  · have := (create_grow d sLog).ok; omega
  · simp
theorem open2_fits (n : Nat) (b : List UInt8) (d : Dk) : (open2D n b d).1.c ≤ d.c + 1 ∧ (open2D n b d).1.fs.length ≤ d.fs.length + 1 := by
  unfold open2D
  split
  · have := (cut_grow d sLog n).ok; omega
  · simp

set_option maxHeartbeats 4000000 in
set_option maxRecDepth 100000 in
theorem wopen_calls (w : World) (p : Nat) (d : Dk) (S : Nat → Prop) (hd : IsD w p d S) (ht : TabW w) (hT : ¬ S 3) (hc : d.c + 3 < 4611686018427387904) (hl : d.fs.length + 3 ≤ 1099511627776) (hu : usedF d.fs ≤ 70368744177664) (hB : (logB d).length ≤ 8000000) :
    Calls Tryz.prog 31 #[.pointer (some ⟨p, 0, none⟩)] w (OpenE w S p d) := by
  have hrd := read_calls w p d S sLog hd (by omega) hu
  obtain ⟨e0, he0⟩ : ∃ e, e = (readD d sLog).2 := ⟨_, rfl⟩
  obtain ⟨b, hb⟩ : ∃ b, b = logB d := ⟨_, rfl⟩
  have hb' : (readD d sLog).1 = b := hb.symm
  rw [← he0, hb'] at hrd
  rw [← hb] at hB
  have HRD := Lib.hid hrd
  have HD := Lib.hid hd
  have HB := Lib.hid hb
  have HE0 := Lib.hid he0
  have HTW := Lib.hid ht
  have HTS := Lib.hid hT
  clear hrd hd hb hb' he0 ht hT
  go_enter Tryz.func31, Tryz.ntmps31
  go_wp2_with fail
  refine HRD.out.mono ?_
  rintro e w2 ⟨v2, rfl, ho2, hm2, hn2⟩
  obtain ⟨A2, c2, hv2, hc2, _, hr2⟩ := ho2.out
  subst hv2
  have hnA : ∀ ad, A2 = some ad → w.heap.size ≤ ad.block := fun ad had => by subst had; exact hn2 ad.block rfl
  have hd2 := HD.out.mod0 hm2
  have hnS : ∀ k, w.heap.size ≤ k → ¬ S k := fun k hk => HD.out.notS hk
  clear ho2 hn2 HRD
  go_upto_region 2 with fail
  go_cut [24] (fun t wx => t = .bool (decide (e0 = 3)) ∧ wx = w2)
  case first =>
    by_cases h3 : e0 = 3
    · subst h3
      go_wp2_with fail
      go_meet
      case rel => exact ⟨rfl, rfl⟩
    · have q0 : (((e0 : Nat) : Int) == 3) = false := beq_eq_false_iff_ne.mpr (by omega)
      have hdd : decide (e0 = 3) = false := decide_eq_false h3
      go_wp2_with fail
      go_meet
      case rel => exact ⟨by rw [hdd], rfl⟩
  case rest =>
  obtain ⟨rfl, hwx⟩ := hcut
  have hwx2 := hwx.symm
  clear hwx
  subst hwx2
  go_upto_if 24 with fail
  go_cut [6] (fun ev wx => ev = .int .i64 ((open1D d).2 : Nat) ∧ DStep w2 S p (open1D d).1 wx)
  case first =>
    by_cases h3 : e0 = 3
    · have hdd : decide (e0 = 3) = true := decide_eq_true h3
      subst h3
      rw [hdd]
      have ho : open1D d = createD d sLog := if_pos HE0.out.symm
      have hcr := create_calls w2 p d S sLog hd2 (by omega) (by omega)
      rw [← ho] at hcr
      have HCR := Lib.hid hcr
      clear hcr ho hd2 hr2
      go_wp2_with fail
      refine HCR.out.mono ?_
      rintro e w3 ⟨rfl, hs⟩
      go_wp2_with fail
      go_meet
      case rel => exact ⟨rfl, hs⟩
    · have ho : open1D d = (d, e0) := by
        unfold open1D
        rw [← HE0.out, if_neg h3]
      have hdd : decide (e0 = 3) = false := decide_eq_false h3
      have HO := Lib.hid ho
      rw [hdd]
      clear ho
      go_wp2_with fail
      go_meet
      case rel => rw [HO.out]; exact ⟨rfl, S, hd2, Mod.refl _ _, fun k hk => .inl hk⟩
  case rest =>
    obtain ⟨rfl, S3, hd3, hm3, hn3⟩ := hcut
    rename World => w3
    have hm03 : Mod S w w3 := (hm2.mono (fun _ _ h => h.elim)).trans hm3 (fun k _ h => h)
    have hn03 : ∀ k, S3 k → S k ∨ w.heap.size ≤ k := fun k hk => (hn3 k hk).imp id (fun h => Nat.le_trans hm2.size h)
    have hof := open_fits d
    obtain ⟨o1, ho1⟩ : ∃ a, a = open1D d := ⟨_, rfl⟩
    rw [← ho1] at hd3 hof ⊢
    have hop : openD d = tryD (tryD o1 (open2D (logN d) b)) fun d => syncD d sLog := by rw [ho1, HB.out]; rfl
    have HOP := Lib.hid hop
    clear hop ho1
    by_cases h1 : o1.2 = 0
    case neg =>
      have hop : openD d = o1 := by
        rw [HOP.out, tryD_bad h1, tryD_bad h1]
      have HO := Lib.hid hop
      have q0 : (((o1.2 : Nat) : Int) != 0) = true := bne_iff_ne.mpr (by omega)
      have q0' : (((o1.2 : Nat) : Int) == 0) = false := beq_eq_false_iff_ne.mpr (by omega)
      clear hop hr2 hd2
      go_wp2_with fail
      go_ret3
      refine ⟨S3, by rw [HO.out]; exact hd3, hm03, hn03, .inr ⟨by rw [HO.out]; exact h1, ?_⟩⟩
      rw [HO.out]
      rfl
    case pos =>
      have hrb3 : Rd w3 1 A2 b.length (encB b) := hr2.modP hm3 (fun _ ad had => hnS _ (hnA ad had))
      have htab3 : TabW w3 := (HTW.out.mod0 hm2).mod1 hm3 HTS.out
      have hsb : (scanB b).length ≤ 1000000 := by
        have h1 := scanB_good b
        have h2 := goodOf_len (scanB b)
        omega
      have hpl : ∀ q ∈ scanB b, q.length ≤ 140737488355328 := fun q hq => by
        have h1 := scanB_good b
        have h2 := goodOf_mem (scanB b) q hq
        omega
      have HSB := Lib.hid hsb
      have HPL := Lib.hid hpl
      have hus := replayB_used (scanB b)
      have hN : logN d = goodOf ((scanB b).take (replayB (scanB b)).2) := by unfold logN; rw [← HB.out]
      have hL : logL d = (replayB (scanB b)).1 := by unfold logL; rw [← HB.out]
      have hNle : logN d ≤ b.length := by rw [HB.out]; exact logN_le d
      have HN := Lib.hid hN
      have HL := Lib.hid hL
      have HUS := Lib.hid hus
      have HD3 := Lib.hid hd3
      have hwc : w.heap.size ≤ w3.heap.size := hm03.size
      clear hsb hpl hN hL hus hr2 hd2 hd3
      go_wp2_with fail
      refine (scan_calls b A2 c2 w3 hrb3 (by omega) hc2).mono ?_
      rintro e w4 ⟨v4, vs4, rfl, hla, hm4⟩
      obtain ⟨qs, A4, c4, rfl, hbs, hrq, hqc, hpo⟩ := hla.parts HPL.out
      have hql : qs.length = (scanB b).length := by rw [← hbs]; simp [bsOf]
      have HQL := Lib.hid hql
      have hq6 : qs.length ≤ 1000000 := by have := HSB.out; omega
      clear hla hql
      go_wp2_with fail
      refine (replay_calls qs A4 c4 w4 hrq hpo hq6 (htab3.mod0 hm4)).mono ?_
      rintro e w5 ⟨v5, vs5, rfl, hba, hm5⟩
      rw [hbs] at hba
      have hrq5 := hrq.mod0 hm5
      obtain ⟨A5, c5, rfl, _⟩ := hba.rd
      have hgv : ∀ g, (Value.slice A5 (replayB (scanB b)).1.length c5).ownBlock = some g → w3.heap.size ≤ g ∧ g < w5.heap.size := fun g hg => ⟨Nat.le_trans hm4.size (hba.new g hg), hba.own.lt hg⟩
      have hgu : ∀ u ∈ vs5, ∀ g, u.ownBlock = some g → w3.heap.size ≤ g ∧ g < w5.heap.size := fun u hu g hg => ⟨Nat.le_trans hm4.size (hba.newB u hu g hg), by
        obtain ⟨l, hl⟩ := hba.entOf u hu
        exact hl.lt hg⟩
      obtain ⟨us, hus⟩ : ∃ u, u = (replayB (bsOf qs)).2 := ⟨_, rfl⟩
      have husl : us ≤ qs.length := by rw [hus, hbs, HQL.out]; exact HUS.out
      have hNu : logN d = goodOf ((scanB b).take us) := by rw [HN.out, hus, hbs]
      rw [← hus]
      have hm35 := hm4.then0 hm5
      have hal : Mod NoneB w5 (w5.alloc (wblk p 0 false)) := (Mod.refl NoneB w5).alloc _
      have hbx := box1 w5 (wblk p 0 false)
      obtain ⟨q, hq⟩ : ∃ q, q = w5.heap.size := ⟨_, rfl⟩
      have hqN : w3.heap.size ≤ q := by rw [hq]; exact hm35.size
      obtain ⟨w6, hw6⟩ : ∃ x, x = w5.alloc (wblk p 0 false) := ⟨_, rfl⟩
      have HEQ : Hid (q = w5.heap.size ∧ w6 = w5.alloc (.cells #[.pointer (some ⟨p, 0, none⟩), .int .i64 0, .bool false] 121)) := Lib.hid ⟨hq, hw6⟩
      rw [← hq] at hgv hgu
      have HGV := Lib.hid hgv
      have HGU := Lib.hid hgu
      clear hgv hgu
      rw [← hq, ← hw6] at hbx
      rw [← hw6] at hal
      have hm36 := hm35.then0 hal
      have hrq6 := hrq5.mod0 hal
      have hba6 := hba.mod0 hal
      have HBA := Lib.hid hba6
      have HNU := Lib.hid hNu
      have HBS := Lib.hid hbs
      have HPO := Lib.hid hpo
      have e1 : (0 : Int) ≤ (us : Int) := by omega
      have e2 : (us : Int) ≤ (c4 : Int) := by omega
      have hbxx : w6.heap[q]? = some (wblk p (goodOf ((scanB b).take 0)) false) := by simpa [goodOf] using hbx
      have hqA : 0 < qs.length → ∀ ad, A4 = some ad → ad.block ≠ q := fun hp ad had => by
        have h := hrq5.block_lt (by decide) hp ad had
        omega
      clear hq hw6 hba hrq hrq5 hus hNu hbs hpo hba6 hbx htab3 hrb3 hc2
      go_wp2_with fail
      rw [← HEQ.out.2, ← HEQ.out.1]
      clear HEQ
      go_loopw [13, 47] (fun a13 i wr => ∃ j : Nat, i = .int .i64 j ∧ j ≤ us ∧ wr.heap[q]? = some (wblk p (goodOf ((scanB b).take j)) false) ∧ Mod (fun k => k = q) w6 wr) (fun _ i _ => us - (intOf i).toNat)
      case atStart => exact ⟨0, rfl, by omega, hbxx, Mod.refl _ _⟩
      case round =>
        obtain ⟨j, rfl, hj, hbj, hmj⟩ := hrel
        by_cases hlt : j < us
        · have hjq : j < qs.length := by omega
          obtain ⟨ad, hA4, h0, _⟩ := Rd.elem (f := encPart) (fun _ => rfl) (hrq6.modP hmj (fun hp ad had he => hqA hp ad had he)) (by decide) j hjq
          have y0 := h0 _ rfl
          rw [Nat.mul_one] at y0
          have hjs : j < (scanB b).length := by rw [← HQL.out]; exact hjq
          have hbj2 : qs[j].b = (scanB b)[j] := by
            have h := HBS.out
            have h2 : (bsOf qs)[j]'(by rw [h]; exact hjs) = qs[j].b := by simp [bsOf]
            rw [← h2]
            simp only [h]
          have hgs := goodOf_take_succ (scanB b) j hjs
          rw [← hbj2] at hgs
          have hgl : goodOf ((scanB b).take j) ≤ 8000000 := by
            have h1 := goodOf_take_le (scanB b) j
            have h2 := scanB_good b
            omega
          have hgl2 : goodOf ((scanB b).take (j + 1)) ≤ 8000000 := by
            have h1 := goodOf_take_le (scanB b) (j + 1)
            have h2 := scanB_good b
            omega
          obtain ⟨x, hx⟩ : ∃ x, x = qs[j].b.length := ⟨_, rfl⟩
          obtain ⟨g, hg⟩ : ∃ g, g = goodOf ((scanB b).take j) := ⟨_, rfl⟩
          rw [← hx, ← hg] at hgs
          rw [← hx] at y0
          rw [← hg] at hbj hgl
          have HGS := Lib.hid hgs
          have hxl : x ≤ 8000000 := by omega
          have k1 : wr.cell? ⟨q, 1, none⟩ = some (.int .i64 g) := by rw [blk_cell hbj]; rfl
          have f1 : wr.frozen? ⟨q, 1, none⟩ = false := blk_frozen hbj 1
          have hst : Mod (fun k => k = q) wr (wr.setCell ⟨q, 1, none⟩ (.int .i64 ((g : Int) + (8 + (x : Int))))) := (Mod.refl (fun k => k = q) wr).setCell (p := ⟨q, 1, none⟩) (fun _ => rfl) _
          have hb2 : (wr.setCell ⟨q, 1, none⟩ (.int .i64 ((g : Int) + (8 + (x : Int))))).heap[q]? = some (wblk p (goodOf ((scanB b).take (j + 1))) false) := by
            rw [hgs]
            have h := setCell_blk0 (j := 1) (u := .int .i64 ((g : Int) + (8 + (x : Int)))) hbj
            rw [h]
            unfold wblk
            simp
          have HST := Lib.hid (And.intro hb2 (hmj.trans hst (fun k _ h => h)))
          subst hA4
          clear hgs hx hg h0 hb2 hst hbj2
          go_wp2_with fail
          go_roundw
          case rel => exact ⟨j + 1, by go_num, by omega, HST.out.1, HST.out.2⟩
          case measure => simp [intOf]; omega
        · obtain rfl : j = us := by omega
          rw [← HNU.out] at hbj
          have hm3r : Mod NoneB w3 wr := hm36.trans_new hmj (fun k hk => .inr (by rw [hk]; exact hqN))
          have hd6 := HD3.out.mod0 hm3r
          have k1 : wr.cell? ⟨q, 1, none⟩ = some (.int .i64 (logN d)) := by rw [blk_cell hbj]; rfl
          have h2f := open2_fits (logN d) b o1.1
          obtain ⟨N, hNN⟩ : ∃ N, N = logN d := ⟨_, rfl⟩
          rw [← hNN] at hbj k1 hNle HOP h2f
          have HBJ := Lib.hid hbj
          have HNN := Lib.hid hNN
          clear hNN hbj hrq6 hqA
          go_upto_if 68 with fail
          go_cut [6] (fun ev wx => ev = .int .i64 ((open2D N b o1.1).2 : Nat) ∧ DStep wr S3 p (open2D N b o1.1).1 wx)
          case first =>
            by_cases hlt2 : N < b.length
            · have ho : open2D N b o1.1 = cutD o1.1 sLog N := if_pos hlt2
              have hcu := cut_calls wr p o1.1 S3 sLog N hd6 (by omega) (by omega)
              rw [← ho] at hcu
              have HCU := Lib.hid hcu
              have q0 : (N : Int) < (b.length : Int) := by omega
              clear hcu ho hd6
              go_wp2_with fail
              refine HCU.out.mono ?_
              rintro e w7 ⟨rfl, hs⟩
              go_wp2_with fail
              go_meet
              case rel => exact ⟨rfl, hs⟩
            · have ho : open2D N b o1.1 = (o1.1, 0) := if_neg hlt2
              have HO := Lib.hid ho
              have q0 : ¬ ((N : Int) < (b.length : Int)) := by omega
              clear ho
              go_wp2_with fail
              go_meet
              case rel => rw [HO.out]; exact ⟨by first | rfl | (simp [h1]), S3, hd6, Mod.refl _ _, fun k hk => .inl hk⟩
          case rest =>
            obtain ⟨rfl, S7, hd7, hm7, hn7⟩ := hcut
            rename World => w7
            have hS3lt : ∀ k, S3 k → k < w3.heap.size := fun k hk => HD3.out.lt hk
            have hrq : q < wr.heap.size := blk_lt HBJ.out
            have hoe : openD d = tryD (open2D N b o1.1) fun d => syncD d sLog := by rw [HOP.out, tryD_ok h1]
            obtain ⟨o2, ho2⟩ : ∃ a, a = open2D N b o1.1 := ⟨_, rfl⟩
            rw [← ho2] at hd7 h2f hoe ⊢
            have hw37 : w3.heap.size ≤ wr.heap.size := hm3r.size
            have hold : ∀ k, w3.heap.size ≤ k → k ≤ q → ¬ S3 k ∧ ¬ S7 k := fun k h1 h2 => by
              have hn3 : ¬ S3 k := fun h => by have := hS3lt k h; omega
              exact ⟨hn3, fun h => (hn7 k h).elim hn3 (fun h => by omega)⟩
            have HOE := Lib.hid hoe
            have HD7 := Lib.hid hd7
            clear hoe ho2 hd6 hd7 k1
            go_upto_if 76 with fail
            go_cut [6] (fun ev wx => ev = .int .i64 ((openD d).2 : Nat) ∧ DStep w7 S7 p (openD d).1 wx)
            case first =>
              by_cases h2 : o2.2 = 0
              · have ho : openD d = syncD o2.1 sLog := by rw [HOE.out, tryD_ok h2]
                have hsy := sync_calls w7 p o2.1 S7 sLog HD7.out (by omega) (by omega)
                rw [← ho] at hsy
                have HSY := Lib.hid hsy
                rw [h2]
                clear hsy ho h2
                go_wp2_with fail
                refine HSY.out.mono ?_
                rintro e w8 ⟨rfl, hs⟩
                go_wp2_with fail
                go_meet
                case rel => exact ⟨rfl, hs⟩
              · have ho : openD d = o2 := by rw [HOE.out, tryD_bad h2]
                have q0 : (((o2.2 : Nat) : Int) == 0) = false := beq_eq_false_iff_ne.mpr (by omega)
                have HO := Lib.hid ho
                clear ho
                go_wp2_with fail
                go_meet
                case rel => rw [HO.out]; exact ⟨rfl, S7, HD7.out, Mod.refl _ _, fun k hk => .inl hk⟩
            case rest =>
              obtain ⟨rfl, S9, hd9, hm9, hn9⟩ := hcut
              have hlt7 : wr.heap.size ≤ w7.heap.size := hm7.size
              have hold9 : ∀ k, w3.heap.size ≤ k → k ≤ q → ¬ S9 k := fun k h1 h2 => fun h => (hn9 k h).elim (hold k h1 h2).2 (fun h => by omega)
              have hq9 := hm9.blk (hm7.blk HBJ.out (hold q hqN (Nat.le_refl _)).1) (hold q hqN (Nat.le_refl _)).2
              have hmS : Mod S w wc := by
                have x1 : Mod S w wr := hm03.trans (hm3r.mono (fun _ _ h => h.elim)) (fun k _ h => h)
                have x2 : Mod S w w7 := x1.trans hm7 (fun k hk h => (hn03 k h).elim id (fun h => absurd hk (Nat.not_lt.2 h)))
                refine x2.trans hm9 (fun k hk h => (hn7 k h).elim (fun h => (hn03 k h).elim id (fun h => absurd hk (Nat.not_lt.2 h))) (fun h => ?_))
                have := x1.size
                omega
              have hn9w : ∀ k, S9 k → S k ∨ w.heap.size ≤ k := fun k hk => by
                rcases hn9 k hk with h | h
                · rcases hn7 k h with h | h
                  · exact hn03 k h
                  · exact .inr (by omega)
                · exact .inr (by omega)
              have hq9b : wc.heap[q]? = some (wblk p (logN d) false) := by rw [← HNN.out]; exact hq9
              have hbaW : BatsAt wc (.slice A5 (replayB (scanB b)).1.length c5) w.heap.size (logL d) vs5 := by
                have x1 : BatsAt w6 (.slice A5 (replayB (scanB b)).1.length c5) w.heap.size (logL d) vs5 := by
                  rw [HL.out]
                  exact ⟨HBA.out.own, HBA.out.len, HBA.out.ent, HBA.out.one, fun g hg => Nat.le_trans hwc (HGV.out g hg).1, fun u hu g hg => Nat.le_trans hwc (HGU.out u hu g hg).1⟩
                have x2 := x1.mod hmj (fun g hg he => by have := (HGV.out g hg).2; omega) (fun u hu g hg he => by have := (HGU.out u hu g hg).2; omega)
                have x3 := x2.mod hm7 (fun g hg => (hold g (HGV.out g hg).1 (by have := (HGV.out g hg).2; omega)).1) (fun u hu g hg => (hold g (HGU.out u hu g hg).1 (by have := (HGU.out u hu g hg).2; omega)).1)
                exact x3.mod hm9 (fun g hg => (hold g (HGV.out g hg).1 (by have := (HGV.out g hg).2; omega)).2) (fun u hu g hg => (hold g (HGU.out u hu g hg).1 (by have := (HGU.out u hu g hg).2; omega)).2)
              have HF := Lib.hid (And.intro hq9b (And.intro hbaW (And.intro hmS hn9w)))
              have H9 := Lib.hid hold9
              have HD9 := Lib.hid hd9
              have HGA : Hid (w.heap.size ≤ q) := Lib.hid (by omega)
              clear hq9b hbaW hmS hn9w hold9 hq9 hm9 hn9 hd9 hold hlt7
              by_cases he : (openD d).2 = 0
              · rw [he]
                go_wp2_with fail
                go_ret3
                exact ⟨S9, HD9.out, HF.out.2.2.1, HF.out.2.2.2, .inl ⟨he, q, _, vs5, rfl, HGA.out, H9.out q hqN (Nat.le_refl _), HF.out.1, HF.out.2.1,
                  fun g hg => H9.out g (HGV.out g hg).1 (by have := (HGV.out g hg).2; omega), fun u hu g hg => H9.out g (HGU.out u hu g hg).1 (by have := (HGU.out u hu g hg).2; omega)⟩⟩
              · obtain ⟨ee, hee⟩ : ∃ e, e = (openD d).2 := ⟨_, rfl⟩
                rw [← hee] at he ⊢
                have HEE := Lib.hid hee
                have q0 : (((ee : Nat) : Int) != 0) = true := bne_iff_ne.mpr (by omega)
                have q0' : (((ee : Nat) : Int) == 0) = false := beq_eq_false_iff_ne.mpr (by omega)
                clear hee
                go_wp2_with fail
                go_ret3
                exact ⟨S9, HD9.out, HF.out.2.2.1, HF.out.2.2.2, .inr ⟨by rw [← HEE.out]; exact he, by rw [← HEE.out]; rfl⟩⟩
end Go.Proofs.YtkklofnabmdmfaaGreatDoor
