/- Batches, maps as bytes, in plain words. No program stands here. -/
import Derived.Lib.ItoaNum
import Derived.WalkMore
import Derived.Deep.RegionHeld3
import Derived.Laws.StructEq
import Derived.Test.YtnlmfmceogbomaaGreatDoorConvRQq
import Derived.Test.YtnlmfmceogbomaaGreatDoorCodecQq
import Derived.Test.YtnlmfmceogbomaaGreatDoorItoaQq
import Derived.Test.YtnlmfmceogbomaaGreatDoorPlainQq
import Derived.Test.YtnlmfmceogbomaaGreatDoorTabAQq
import Derived.Test.YtnlmfmceogbomaaGreatDoorDkOpsAQq
namespace Go.Proofs.YtnlmfmceogbomaaGreatDoor
set_option linter.unusedVariables false

def digitsB (n : Nat) : ByteArray := strOf (Lib.decDigits n)
theorem digitsB_size (n : Nat) : (digitsB n).size = Lib.nDigits n := by unfold digitsB; rw [strOf_size, Lib.decDigits_length]
theorem digitsB_size_le {n : Nat} (h : n < 10000) : (digitsB n).size ≤ 4 := by
  rw [digitsB_size]
  have : ∀ k, Lib.nDigits k ≤ Lib.nDigits (k / 10) + 1 := by
    intro k
    by_cases h : k < 10
    · rw [Lib.nDigits_small h]; omega
    · rw [Lib.nDigits_big h]; omega
  have h1 := this n
  have h2 := this (n / 10)
  have h3 := this (n / 10 / 10)
  have h4 := Lib.nDigits_small (u := n / 10 / 10 / 10) (by omega)
  omega

def recO (o : Op3) : List UInt8 := if o.del then 100 :: encL [o.k] else 112 :: encL [o.k, o.v]
def recE (n : Nat) : List UInt8 := 99 :: encL [digitsB n]
/-- May ops be a batch? -/
def rightO (l : List Op3) : Prop := l.length ≤ 1000 ∧ ∀ o ∈ l, o.del = true → o.v = ⟨#[]⟩
instance (l : List Op3) : Decidable (rightO l) := by unfold rightO; exact inferInstance
/-- A batch as records, as bytes. -/
def recsO (l : List Op3) : List (List UInt8) := l.map recO ++ [recE l.length]
def bytesO (l : List Op3) : List UInt8 := framesB (recsO l)

inductive Kd where
  | op (o : Op3)
  | fin
  | bad
def kindT (now : Nat) (k : UInt8) : Option (List ByteArray) → Kd
  | some [a, b] => if k = 112 then .op ⟨false, a, b⟩ else .bad
  | some [a] => if k = 100 then .op ⟨true, a, ⟨#[]⟩⟩ else if k = 99 ∧ a = digitsB now then .fin else .bad
  | _ => .bad
/-- What a record says behind so many ops. -/
def kindB (now : Nat) : List UInt8 → Kd
  | [] => .bad
  | k :: r => kindT now k (decL r)
theorem kindB_cons (now : Nat) (k : UInt8) (r : List UInt8) : kindB now (k :: r) = kindT now k (decL r) := rfl
/-- The batches that records begin with, behind i records of which 'used' are used, and ops that are open; and how many are used. -/
def replayGo : List Op3 → Nat → Nat → List (List UInt8) → List (List Op3) × Nat
  | _, _, used, [] => ([], used)
  | now, i, used, p :: ps => match kindB now.length p with
    | .op o => replayGo (now ++ [o]) (i + 1) used ps
    | .fin => (now :: (replayGo [] (i + 1) (i + 1) ps).1, (replayGo [] (i + 1) (i + 1) ps).2)
    | .bad => ([], used)
def replayB (ps : List (List UInt8)) : List (List Op3) × Nat := replayGo [] 0 0 ps

theorem replayGo_op (now : List Op3) (i used : Nat) (p : List UInt8) (ps : List (List UInt8)) {o : Op3} (h : kindB now.length p = .op o) : replayGo now i used (p :: ps) = replayGo (now ++ [o]) (i + 1) used ps := by
  conv => lhs; unfold replayGo
  rw [h]
theorem replayGo_fin (now : List Op3) (i used : Nat) (p : List UInt8) (ps : List (List UInt8)) (h : kindB now.length p = .fin) :
    replayGo now i used (p :: ps) = (now :: (replayGo [] (i + 1) (i + 1) ps).1, (replayGo [] (i + 1) (i + 1) ps).2) := by
  conv => lhs; unfold replayGo
  rw [h]
theorem replayGo_bad (now : List Op3) (i used : Nat) (p : List UInt8) (ps : List (List UInt8)) (h : kindB now.length p = .bad) : replayGo now i used (p :: ps) = ([], used) := by
  conv => lhs; unfold replayGo
  rw [h]

/-- Ops that may be written: their texts are short. -/
def SmallO (l : List Op3) : Prop := ∀ o ∈ l, o.k.size + o.v.size ≤ 1000000
theorem recO_length (o : Op3) : (recO o).length ≤ 13 + o.k.size + o.v.size := by
  unfold recO
  split
  · rw [List.length_cons, encL_length]; simp; omega
  · rw [List.length_cons, encL_length]; simp; omega
theorem recE_length {n : Nat} (h : n < 10000) : (recE n).length ≤ 13 := by
  unfold recE
  have := digitsB_size_le h
  rw [List.length_cons, encL_length]; simp; omega
theorem recsO_small {l : List Op3} (h : SmallO l) (hr : l.length ≤ 1000) : ∀ p ∈ recsO l, p.length ≤ 1048576 := by
  intro p hp
  unfold recsO at hp
  rcases List.mem_append.1 hp with hp | hp
  · obtain ⟨o, ho, rfl⟩ := List.mem_map.1 hp
    have := recO_length o
    have := h o ho
    omega
  · rw [List.mem_singleton] at hp
    subst hp
    have := recE_length (n := l.length) (by omega)
    omega
theorem dec_one (a : ByteArray) (h : a.size < 4294967296) : decL (encL [a]) = some [a] :=
  decL_encL _ (by show 1 < 4294967296; omega) (fun s hs => by rw [List.mem_singleton] at hs; subst hs; exact h)
theorem dec_two (a b : ByteArray) (h : a.size < 4294967296) (h2 : b.size < 4294967296) : decL (encL [a, b]) = some [a, b] :=
  decL_encL _ (by show 2 < 4294967296; omega) (fun s hs => by
    rcases List.mem_cons.1 hs with rfl | hs
    · exact h
    · rw [List.mem_singleton] at hs; subst hs; exact h2)
theorem kind_recO (now : Nat) {o : Op3} (h : o.del = true → o.v = ⟨#[]⟩) (hs : o.k.size + o.v.size ≤ 1000000) : kindB now (recO o) = .op o := by
  obtain ⟨d, k, v⟩ := o
  cases d with
  | true =>
    have hv : v = ⟨#[]⟩ := h rfl
    subst hv
    show kindT now 100 (decL (encL [k])) = _
    rw [dec_one k (by simp only at hs; omega)]
    rfl
  | false =>
    show kindT now 112 (decL (encL [k, v])) = _
    simp only at hs
    rw [dec_two k v (by omega) (by omega)]
    rfl
theorem kind_recE (n : Nat) (h : n < 10000) : kindB n (recE n) = .fin := by
  have h1 := digitsB_size_le h
  show kindT n 99 (decL (encL [digitsB n])) = _
  rw [dec_one _ (by omega)]
  simp [kindT]
theorem replayGo_ops (l : List Op3) (h : ∀ o ∈ l, (o.del = true → o.v = ⟨#[]⟩) ∧ o.k.size + o.v.size ≤ 1000000) : ∀ (now : List Op3) (i used : Nat) (ps : List (List UInt8)),
    replayGo now i used (l.map recO ++ ps) = replayGo (now ++ l) (i + l.length) used ps := by
  induction l with
  | nil => intro now i used ps; simp
  | cons o l ih =>
    intro now i used ps
    obtain ⟨h1, h2⟩ := h o (List.mem_cons_self ..)
    show replayGo now i used (recO o :: (l.map recO ++ ps)) = _
    rw [replayGo_op _ _ _ _ _ (kind_recO _ h1 h2), ih (fun x hx => h x (List.mem_cons_of_mem _ hx)), List.append_assoc, List.length_cons]
    congr 1
    omega
theorem replayGo_batch (l : List Op3) (hr : rightO l) (hs : SmallO l) (i used : Nat) (ps : List (List UInt8)) :
    replayGo [] i used (recsO l ++ ps) = (l :: (replayGo [] (i + l.length + 1) (i + l.length + 1) ps).1, (replayGo [] (i + l.length + 1) (i + l.length + 1) ps).2) := by
  unfold recsO
  rw [List.append_assoc, replayGo_ops l (fun o ho => ⟨hr.2 o ho, hs o ho⟩), List.nil_append]
  show replayGo l (i + l.length) used (recE l.length :: ps) = _
  exact replayGo_fin _ _ _ _ _ (kind_recE _ (by have := hr.1; omega))
end Go.Proofs.YtnlmfmceogbomaaGreatDoor

/- Batches: batch.Right, record, Encode. -/
namespace Go.Proofs.YtnlmfmceogbomaaGreatDoor
open Go.RowKit
set_option linter.unusedVariables false

/-- The library's table of tens, as the row lays it. -/
def TabW (w : World) : Prop := Lib.TabIs Tryz.prog w "internal/strconv.uint64pow10" .u64 Lib.pow10Tab
theorem TabW.mod {S : Nat → Prop} {w w1 : World} (h : TabW w) (hm : Mod S w w1) (hs : ∀ k, k < 64 → ¬ S k) : TabW w1 := by
  have hg : Tryz.prog.globalNamed "internal/strconv.uint64pow10" = some 1 := by kernel_rfl
  unfold TabW Lib.TabIs World.var? at *
  rw [hg] at h ⊢
  simp only [Option.bind_some] at h ⊢
  have hlt : 1 < w.heap.size := by
    cases hq : w.heap[1]? with
    | none => rw [hq] at h; cases h
    | some o => exact (Array.getElem?_eq_some_iff.1 hq).1
  rw [hm.block _ hlt (hs _ (by decide))]
  exact h
theorem TabW.mod0 {w w1 : World} (h : TabW w) (hm : Mod NoneB w w1) : TabW w1 := h.mod hm (fun _ _ h => h)
theorem grow_mod (w : World) (os : Array Obj) (k : Nat) : Mod NoneB w (Sort.grow (w.drewN k) os) :=
  ⟨rfl, rfl, rfl, by simp [Sort.grow], fun i hi _ => by show (w.heap ++ os)[i]? = w.heap[i]?; exact Array.getElem?_append_left hi⟩
/-- A number's digits. -/
theorem itoa_calls (n : Nat) (w : World) (hn : n ≤ 1000000) (ht : TabW w) :
    Calls Tryz.prog 111 #[.int .i64 n] w fun e w' => e = .returned (.string (digitsB n)) ∧ Mod NoneB w w' := by
  refine (strconv_Itoa n (by omega) (by omega) w ht).mono ?_
  rintro e w1 ⟨rfl, k, os, rfl⟩
  refine ⟨?_, grow_mod w os k⟩
  rw [Lib.itoa_nonneg]
  rfl
/-- What must not be in a batch. -/
def BadO (o : Op3) : Prop := o.del = true ∧ o.v ≠ ⟨#[]⟩
instance (o : Op3) : Decidable (BadO o) := by unfold BadO; exact inferInstance

set_option maxHeartbeats 2000000 in
set_option maxRecDepth 100000 in
theorem bright_calls (l : List Op3) (A : Option Addr) (c : Nat) (w : World) (hr : Rd w 3 A l.length (encOs l)) :
    Calls Tryz.prog 119 #[.slice A l.length c] w fun e w' => e = .returned (.bool (decide (rightO l))) ∧ Mod NoneB w w' := by
  have hn := hr.2.1
  go_enter Tryz.func119, Tryz.ntmps119
  go_wp2_with fail
  go_loopw [7] (fun i wr => ∃ j : Nat, i = .int .i64 j ∧ j ≤ l.length ∧ (∀ o ∈ l.take j, ¬ BadO o) ∧ Mod NoneB w wr) (fun i _ => l.length - (intOf i).toNat)
  case atStart => exact ⟨0, rfl, by omega, fun o ho => by simp at ho, Mod.refl _ _⟩
  case round =>
    obtain ⟨j, rfl, hj, hno, hm⟩ := hrel
    have HNO := Lib.hid hno
    clear hno
    by_cases hlt : j < l.length
    · obtain ⟨ad, rfl, h0, h1, h2⟩ := (hr.mod0 hm).op j hlt
      have htk : l.take (j + 1) = l.take j ++ [l[j]] := List.take_succ_eq_append_getElem hlt
      have hmem : l[j] ∈ l := List.getElem_mem _
      obtain ⟨o, ho⟩ : ∃ o, o = l[j] := ⟨_, rfl⟩
      rw [← ho] at h0 h1 h2 htk hmem
      have HTK := Lib.hid htk
      have HMEM := Lib.hid hmem
      have hal := hm.alloc (.cells #[.bool o.del, .string o.k, .string o.v] 49)
      clear ho htk hmem
      by_cases hb : BadO o
      · have hbd : decide (rightO l) = false := decide_eq_false (fun h => hb.2 (h.2 o HMEM.out hb.1))
        have b1 : o.v.toList.isEmpty = false := by rw [isEmpty_toList]; exact decide_eq_false hb.2
        have hd := hb.1
        rw [hd] at h0
        have HBD := Lib.hid hbd
        clear hb hbd hd
        go_wp2_with fail
        go_ret
        exact ⟨by rw [HBD.out]; rfl, by repeat (first | exact hm | exact hal | apply Mod.alloc)⟩
      · have HB := Lib.hid hb
        cases hd : o.del with
        | false =>
          rw [hd] at h0
          clear hb hd
          go_wp2_with fail
          go_roundw
          case rel =>
            refine ⟨j + 1, by go_num, by omega, fun x hx => ?_, by repeat (first | exact hm | exact hal | apply Mod.alloc)⟩
            rw [HTK.out] at hx
            rcases List.mem_append.1 hx with hx | hx
            · exact HNO.out x hx
            · rw [List.mem_singleton] at hx; rw [hx]; exact HB.out
          case measure => simp [intOf]; omega
        | true =>
          have hv : o.v = ⟨#[]⟩ := Classical.byContradiction fun h => hb ⟨hd, h⟩
          have b1 : o.v.toList.isEmpty = true := by rw [isEmpty_toList]; exact decide_eq_true hv
          rw [hd] at h0
          clear hb hd hv
          go_wp2_with fail
          go_roundw
          case rel =>
            refine ⟨j + 1, by go_num, by omega, fun x hx => ?_, by repeat (first | exact hm | exact hal | apply Mod.alloc)⟩
            rw [HTK.out] at hx
            rcases List.mem_append.1 hx with hx | hx
            · exact HNO.out x hx
            · rw [List.mem_singleton] at hx; rw [hx]; exact HB.out
          case measure => simp [intOf]; omega
    · have hall : ∀ o ∈ l, ¬ BadO o := by
        have h := HNO.out
        rwa [List.take_of_length_le (by omega)] at h
      have hd : decide (rightO l) = decide (l.length ≤ 1000) := by
        by_cases h : l.length ≤ 1000
        · rw [decide_eq_true h]
          exact decide_eq_true ⟨h, fun o ho hdel => Classical.byContradiction fun hv => hall o ho ⟨hdel, hv⟩⟩
        · rw [decide_eq_false h]
          exact decide_eq_false (fun hh => h hh.1)
      have HD := Lib.hid hd
      clear hall hd
      go_wp2_with fail
      go_ret
      exact ⟨by rw [HD.out]; first | rfl | (congr 2; simp; omega), hm⟩

set_option maxHeartbeats 4000000 in
set_option maxRecDepth 100000 in
theorem record_calls (k : UInt8) (ts : List ByteArray) (n : Nat) (A : Option Addr) (c : Nat) (w : World) (hn : ts.length = n) (hr : Rd w 1 A n (encTs ts)) (hl : ts.length < 4294967296) (hs : ∀ s ∈ ts, s.size < 4294967296) (hsz : (encL ts).length ≤ 1048575) :
    Calls Tryz.prog 121 #[.int .u8 k.toNat, .slice A n c] w (BytesE (frameB (k :: encL ts), 0) w) := by
  subst hn
  have hu := Tryz.underlying24
  have hen : ∀ W, Mod NoneB w W → Calls Tryz.prog 126 #[.slice A ts.length c] W fun e w' => ∃ v, e = .returned v ∧ Own w' 5 1 v (encL ts).length (encB (encL ts)) ∧ Mod NoneB W w' ∧ (∀ g, v.ownBlock = some g → W.heap.size ≤ g) :=
    fun W hm => encode_calls ts A c W (hr.mod0 hm) hl hs (by omega)
  have HEN := Lib.hid hen
  obtain ⟨b, hb⟩ : ∃ b, b = encL ts := ⟨_, rfl⟩
  rw [← hb] at HEN hsz ⊢
  clear hen hb hs hl
  have h1 : (1 + b.length) * 1 ≤ 140737488355328 := by omega
  have hfr := frameR_ok (p := k :: b) (by simp; omega)
  have HFR := Lib.hid hfr
  have hm1 : Mod NoneB w (w.alloc (.cells #[.int .u8 k.toNat] 5)) := (Mod.refl NoneB w).alloc _
  have hbx := box1 w (.cells #[.int .u8 k.toNat] 5)
  have ho1 : Own (w.alloc (.cells #[.int .u8 k.toNat] 5)) 5 1 (.slice (some ⟨w.heap.size, 0, none⟩) 1 1) 1 (encB [k]) := Own.of_blk (cap := 1) hbx (by omega) (by omega) rfl rfl
  clear hbx hfr
  go_enter Tryz.func121, Tryz.ntmps121
  go_wp2_with fail
  refine (HEN.out _ hm1).mono ?_
  rintro e w2 ⟨v2, rfl, ho2, hm2, hn2⟩
  obtain ⟨B, bc, rfl, hrb⟩ := ho2.nilD0
  have ho12 := ho1.mod0 hm2
  have hnx := hrb.2.2
  have hlen : (encB b).length = b.length * 1 := by rw [encB_length, Nat.mul_one]
  go_wp2_with (at_builtin; refine wpList_append rfl (.tmp 7) (.tmp 9) 24 rfl 5 _ 1 1 hu tiB rfl (by decide) (by decide) _ 1 (encB [k]) rfl ho12 B b.length bc (encB b) rfl hlen hnx (encB_one _) h1 ?_)
  intro v3 w3 ho3 hm3 hno3
  obtain ⟨A3, c3, rfl, _, _, hr3⟩ := ho3.out
  have he3 : encB [k] ++ encB b = encB (k :: b) := by simp [encB]
  have hr3' : Rd w3 1 A3 (k :: b).length (encB (k :: b)) := by
    rw [← he3, List.length_cons, Nat.add_comm]
    exact hr3
  have hm13 : Mod NoneB w w3 := (hm1.then0 hm2).trans_new hm3 (fun g hg => .inr (by
    have e := Option.some.inj (show some w.heap.size = some g from hg)
    omega))
  have hfc : Calls Tryz.prog 125 #[.slice A3 (1 + b.length) c3] w3 (BytesE (frameB (k :: b), 0) w3) := by
    have h := frame_calls (k :: b) A3 c3 w3 hr3'
    rw [HFR.out, List.length_cons, Nat.add_comm] at h
    exact h
  have HFC := Lib.hid hfc
  have HM := Lib.hid hm13
  clear ho1 ho12 ho2 hrb hnx hlen hm1 hm2 hn2 ho3 hm3 hno3 hr3 he3 hr3' hm13 hfc HEN h1 hr
  go_wp2_with fail
  refine HFC.out.mono ?_
  rintro e w4 ⟨v4, rfl, ho4, hm4, hn4⟩
  have HO4 := Lib.hid ho4
  have HN4 := Lib.hid hn4
  clear ho4 hn4
  go_wp2_with fail
  go_ret2
  exact ⟨_, rfl, HO4.out, HM.out.then0 hm4, fun g hg => Nat.le_trans HM.out.size (HN4.out g hg)⟩

set_option maxHeartbeats 4000000 in
set_option maxRecDepth 100000 in
/-- Encode's own 'put': behind what is there. -/
theorem bput_calls (out b : List UInt8) (n : Nat) (v : Value) (q : Nat) (B : Option Addr) (bc : Nat) (er : Int) (w : World) (hn : b.length = n) (hq : w.heap[q]? = some (.cells #[v] 24 (0, 0))) (ho : Own w 5 1 v out.length (encB out)) (hb : Rd w 1 B n (encB b)) (hsz : out.length + b.length ≤ 70368744177664) :
    Calls Tryz.prog 120 #[.slice B n bc, .int .i64 er, .pointer (some ⟨q, 0, none⟩)] w fun e w' => e = .returned (.int .i64 er) ∧
      ∃ v', w'.heap[q]? = some (.cells #[v'] 24 (0, 0)) ∧ Own w' 5 1 v' (out ++ b).length (encB (out ++ b)) ∧ Mod (fun k => k = q ∨ v.ownBlock = some k) w w' ∧ NewOr w v v' := by
  subst hn
  have hu := Tryz.underlying24
  obtain ⟨A, c, rfl, _⟩ := ho.nilD0
  have y0 : w.cell? ⟨q, 0, none⟩ = some (.slice A out.length c) := by rw [blk_cell hq]; rfl
  have hne : ∀ g, (Value.slice A out.length c).ownBlock = some g → g ≠ q := fun g hg => by
    obtain ⟨cur, hc⟩ := ho.tag0 hg
    exact tag_ne0 hc hq (by decide)
  have h1 : (out.length + b.length) * 1 ≤ 140737488355328 := by omega
  have hnx := hb.2.2
  have hlen : (encB b).length = b.length * 1 := by rw [encB_length, Nat.mul_one]
  have HNE := Lib.hid hne
  have HQ := Lib.hid hq
  clear hne hq
  go_enter Tryz.func120, Tryz.ntmps120
  go_wp2_with (at_builtin; refine wpList_append rfl (.tmp 6) (.tmp 7) 24 rfl 5 _ 1 1 hu tiB rfl (by decide) (by decide) _ out.length (encB out) rfl ho B b.length bc (encB b) rfl hlen hnx (encB_one _) h1 ?_)
  intro v3 w3 ho3 hm3 hno3
  obtain ⟨A3, c3, rfl, _⟩ := ho3.out
  have hq3 : w3.heap[q]? = some (.cells #[.slice A out.length c] 24 (0, 0)) := hm3.blk HQ.out (fun h => HNE.out q h rfl)
  have f3 : w3.frozen? ⟨q, 0, none⟩ = false := blk_frozen hq3 0
  have z3 : w3.cell? ⟨q, 0, none⟩ = some (.slice A out.length c) := by rw [blk_cell hq3]; rfl
  have hm4 : Mod (fun k => k = q ∨ (Value.slice A out.length c).ownBlock = some k) w (w3.setCell ⟨q, 0, none⟩ (.slice A3 (out.length + b.length) c3)) :=
    (hm3.mono (S' := fun k => k = q ∨ (Value.slice A out.length c).ownBlock = some k) (fun k _ h => .inr h)).setCell (p := ⟨q, 0, none⟩) (fun _ => .inl rfl) _
  have hb4 : (w3.setCell ⟨q, 0, none⟩ (.slice A3 (out.length + b.length) c3)).heap[q]? = some (.cells #[.slice A3 (out.length + b.length) c3] 24 (0, 0)) := (setCell_blk0 hq3).trans rfl
  have ho4 : Own (w3.setCell ⟨q, 0, none⟩ (.slice A3 (out.length + b.length) c3)) 5 1 (.slice A3 (out.length + b.length) c3) (out ++ b).length (encB (out ++ b)) := by
    have h := ho3.mod ((Mod.refl (fun k => k = q) w3).setCell (p := ⟨q, 0, none⟩) (fun _ => rfl) (.slice A3 (out.length + b.length) c3)) (fun g hg e => by
      obtain ⟨cur, hc⟩ := ho3.tag0 hg
      exact tag_ne0 hc hq3 (by decide) e)
    rw [List.length_append]
    have e : encB (out ++ b) = encB out ++ encB b := by simp [encB]
    rw [e]
    exact h
  have HR := Lib.hid (And.intro hb4 (And.intro ho4 (And.intro hm4 hno3)))
  clear hb4 ho4 hm4 hno3 ho3 hm3 hq3 ho hb hnx hlen h1 y0
  go_wp2_with fail
  go_ret
  exact ⟨rfl, _, HR.out.1, HR.out.2.1, HR.out.2.2.1, HR.out.2.2.2⟩
end Go.Proofs.YtnlmfmceogbomaaGreatDoor

/- batch.Encode. -/
namespace Go.Proofs.YtnlmfmceogbomaaGreatDoor
open Go.RowKit
set_option linter.unusedVariables false

/-- A batch's bytes, or why there are none. -/
def opsR (l : List Op3) : List UInt8 × Nat := if rightO l then (bytesO l, 0) else ([], 1)
/-- What stands behind j ops. -/
def outO (l : List Op3) (j : Nat) : List UInt8 := framesB ((l.take j).map recO)
theorem outO_zero (l : List Op3) : outO l 0 = [] := by simp [outO, framesB]
theorem outO_succ (l : List Op3) (j : Nat) (h : j < l.length) : outO l (j + 1) = outO l j ++ frameB (recO l[j]) := by
  unfold outO
  rw [List.take_succ_eq_append_getElem h, List.map_append, framesB_append]
  simp [framesB]
theorem outO_all (l : List Op3) : outO l l.length ++ frameB (recE l.length) = bytesO l := by
  unfold outO bytesO recsO
  rw [List.take_length, framesB_append]
  simp [framesB]
theorem outO_le {l : List Op3} (hs : SmallO l) : ∀ j, j ≤ l.length → (outO l j).length ≤ j * 1000021 := by
  intro j
  induction j with
  | zero => intro _; rw [outO_zero]; simp
  | succ j ih =>
    intro h
    have h1 := ih (by omega)
    have h2 := recO_length l[j]
    have h3 := hs l[j] (List.getElem_mem _)
    rw [outO_succ l j h, List.length_append, frameB_length, Nat.add_mul]
    omega
theorem encL_one (a : ByteArray) : (encL [a]).length = 8 + a.size := by rw [encL_length]; simp; omega
theorem encL_two (a b : ByteArray) : (encL [a, b]).length = 12 + a.size + b.size := by rw [encL_length]; simp; omega

set_option maxHeartbeats 8000000 in
set_option maxRecDepth 100000 in
theorem bencode_calls (l : List Op3) (A : Option Addr) (c : Nat) (w : World) (hr : Rd w 3 A l.length (encOs l)) (hs : SmallO l) (ht : TabW w) :
    Calls Tryz.prog 77 #[.slice A l.length c] w (BytesE (opsR l) w) := by
  have hn := hr.2.1
  have hri := bright_calls l A c w hr
  have HRI := Lib.hid hri
  clear hri
  by_cases hR : rightO l
  · rw [decide_eq_true hR] at HRI
    have ho : opsR l = (bytesO l, 0) := if_pos hR
    have HO := Lib.hid ho
    have HRR := Lib.hid hR
    have HS := Lib.hid hs
    have HT := Lib.hid ht
    have hl1 := hR.1
    clear ho hR hs ht
    go_enter Tryz.func77, Tryz.ntmps77
    go_wp2_with fail
    refine HRI.out.mono ?_
    rintro e w1 ⟨rfl, hm1⟩
    go_wp2_with fail
    obtain ⟨q, hq⟩ : ∃ q, q = w1.heap.size := ⟨_, rfl⟩
    have hq0 := box1 w1 (.cells #[.slice none 0 0] 24)
    have hm2 := hm1.alloc (.cells #[.slice none 0 0] 24)
    have hqN : w.heap.size ≤ q := by rw [hq]; exact hm1.size
    rw [← hq] at hq0 ⊢
    generalize w1.alloc (.cells #[.slice none 0 0] 24) = w2 at hq0 hm2 ⊢
    clear hq hm1
    go_loopw [16] (fun i wr => ∃ (j : Nat) (v : Value), i = .int .i64 j ∧ j ≤ l.length ∧ wr.heap[q]? = some (.cells #[v] 24 (0, 0)) ∧ Own wr 5 1 v (outO l j).length (encB (outO l j)) ∧ Mod NoneB w wr ∧ (∀ g, v.ownBlock = some g → w.heap.size ≤ g)) (fun i _ => l.length - (intOf i).toNat)
    case atStart => exact ⟨0, _, rfl, by omega, hq0, by rw [outO_zero]; exact Own.nil _ _ _, hm2, fun g h => by simp [Value.ownBlock] at h⟩
    case round =>
      obtain ⟨j, v, rfl, hj, hqr, hor, hmr, hnr⟩ := hrel
      have hole := outO_le HS.out j hj
      have hj1 : j * 1000021 ≤ 1000 * 1000021 := Nat.mul_le_mul_right _ (by omega)
      clear hq0 hm2
      by_cases hlt : j < l.length
      · obtain ⟨ad, rfl, h0, h1, h2⟩ := (hr.mod0 hmr).op j hlt
        have hsu := outO_succ l j hlt
        have hsm := HS.out l[j] (List.getElem_mem _)
        have hri := HRR.out.2 l[j] (List.getElem_mem _)
        obtain ⟨o, hoo⟩ : ∃ o, o = l[j] := ⟨_, rfl⟩
        rw [← hoo] at h0 h1 h2 hsu hsm hri
        obtain ⟨out, hout⟩ : ∃ out, out = outO l j := ⟨_, rfl⟩
        rw [← hout] at hor hsu hole
        have HSU := Lib.hid hsu
        clear hoo hout hsu
        cases hd : o.del with
        | true =>
          have hv := hri hd
          have hre : recO o = 100 :: encL [o.k] := by unfold recO; rw [if_pos hd]
          rw [hd] at h0
          rw [hre] at HSU
          have hel := encL_one o.k
          obtain ⟨X1, hX1⟩ : ∃ X, X = Obj.cells #[.bool true, .string o.k, .string o.v] 49 := ⟨_, rfl⟩
          obtain ⟨bx0, bx1⟩ := box2 wr X1 (.cells #[.string o.k] 9)
          have hal : Mod NoneB wr ((wr.alloc X1).alloc (.cells #[.string o.k] 9)) := ((Mod.refl NoneB wr).alloc _).alloc _
          have hts : Rd ((wr.alloc X1).alloc (.cells #[.string o.k] 9)) 1 (some ⟨wr.heap.size + 1, 0, none⟩) 1 (encTs [o.k]) := rd_blk bx1 rfl (by omega)
          have hrec := record_calls 100 [o.k] 1 _ 1 _ rfl hts (by simp) (fun s hs => by rw [List.mem_singleton] at hs; subst hs; omega) (by omega)
          have HREC := Lib.hid hrec
          have hqa := hal.blk hqr (fun h => h)
          have hora := hor.mod0 hal
          have hmra := hmr.then0 hal
          clear hri hv hre hrec hts bx0 bx1
          rw [hX1] at HREC hqa hora hmra hal
          clear hX1
          go_wp2_with fail
          refine HREC.out.mono ?_
          rintro e w5 ⟨v5, rfl, ho5, hm5, hn5⟩
          obtain ⟨B, bc, rfl, hrb⟩ := ho5.nilD0
          have hfl : (frameB (100 :: encL [o.k])).length ≤ 8 + (1 + (8 + o.k.size)) := by rw [frameB_length, List.length_cons, hel]; omega
          obtain ⟨fb, hfb⟩ : ∃ fb, fb = frameB (100 :: encL [o.k]) := ⟨_, rfl⟩
          simp only [← hfb] at hrb hfl HSU ⊢
          have hput := bput_calls out fb fb.length v q B bc 0 w5 rfl (hm5.blk hqa (fun h => h)) (hora.mod0 hm5) hrb (by omega)
          have HPUT := Lib.hid hput
          have HM5 := Lib.hid (hmra.then0 hm5)
          clear hput hrb ho5 hn5 hm5 hqa hora hmra hal hfb hor hqr hmr hel HREC
          go_wp2_with fail
          refine HPUT.out.mono ?_
          rintro e w6 ⟨rfl, v6, hq6, ho6, hm6, hno6⟩
          have hn6 : ∀ g, v6.ownBlock = some g → w.heap.size ≤ g := fun g hg => by
            rcases hno6 with h | ⟨b, h, hb⟩
            · exact hnr g (by rw [← h]; exact hg)
            · rw [h] at hg; injection hg with hg; have := HM5.out.size; omega
          have hm6w : Mod NoneB w w6 := HM5.out.trans_new hm6 (fun k hk => .inr (hk.elim (fun h => by rw [h]; exact hqN) (hnr k)))
          have HR6 := Lib.hid (And.intro hq6 (And.intro ho6 (And.intro hm6w hn6)))
          clear hq6 ho6 hm6 hno6 hn6 hm6w HPUT HM5 hnr
          go_wp2_with fail
          go_roundw
          case rel => exact ⟨j + 1, v6, by go_num, by omega, HR6.out.1, by rw [HSU.out]; exact HR6.out.2.1, HR6.out.2.2.1, HR6.out.2.2.2⟩
          case measure => simp [intOf]; omega
        | false =>
          have hre : recO o = 112 :: encL [o.k, o.v] := by unfold recO; rw [if_neg (by rw [hd]; decide)]
          rw [hd] at h0
          rw [hre] at HSU
          have hel := encL_two o.k o.v
          obtain ⟨X1, hX1⟩ : ∃ X, X = Obj.cells #[.bool false, .string o.k, .string o.v] 49 := ⟨_, rfl⟩
          obtain ⟨bx0, bx1⟩ := box2 wr X1 (.cells #[.string o.k, .string o.v] 9)
          have hal : Mod NoneB wr ((wr.alloc X1).alloc (.cells #[.string o.k, .string o.v] 9)) := ((Mod.refl NoneB wr).alloc _).alloc _
          have hts : Rd ((wr.alloc X1).alloc (.cells #[.string o.k, .string o.v] 9)) 1 (some ⟨wr.heap.size + 1, 0, none⟩) 2 (encTs [o.k, o.v]) := rd_blk bx1 rfl (by omega)
          have hrec := record_calls 112 [o.k, o.v] 2 _ 2 _ rfl hts (by simp) (fun s hs => by simp at hs; rcases hs with rfl | rfl <;> omega) (by omega)
          have HREC := Lib.hid hrec
          have hqa := hal.blk hqr (fun h => h)
          have hora := hor.mod0 hal
          have hmra := hmr.then0 hal
          clear hri hre hrec hts bx0 bx1
          rw [hX1] at HREC hqa hora hmra hal
          clear hX1
          go_wp2_with fail
          refine HREC.out.mono ?_
          rintro e w5 ⟨v5, rfl, ho5, hm5, hn5⟩
          obtain ⟨B, bc, rfl, hrb⟩ := ho5.nilD0
          have hfl : (frameB (112 :: encL [o.k, o.v])).length ≤ 8 + (1 + (12 + o.k.size + o.v.size)) := by rw [frameB_length, List.length_cons, hel]; omega
          obtain ⟨fb, hfb⟩ : ∃ fb, fb = frameB (112 :: encL [o.k, o.v]) := ⟨_, rfl⟩
          simp only [← hfb] at hrb hfl HSU ⊢
          have hput := bput_calls out fb fb.length v q B bc 0 w5 rfl (hm5.blk hqa (fun h => h)) (hora.mod0 hm5) hrb (by omega)
          have HPUT := Lib.hid hput
          have HM5 := Lib.hid (hmra.then0 hm5)
          clear hput hrb ho5 hn5 hm5 hqa hora hmra hal hfb hor hqr hmr hel HREC
          go_wp2_with fail
          refine HPUT.out.mono ?_
          rintro e w6 ⟨rfl, v6, hq6, ho6, hm6, hno6⟩
          have hn6 : ∀ g, v6.ownBlock = some g → w.heap.size ≤ g := fun g hg => by
            rcases hno6 with h | ⟨b, h, hb⟩
            · exact hnr g (by rw [← h]; exact hg)
            · rw [h] at hg; injection hg with hg; have := HM5.out.size; omega
          have hm6w : Mod NoneB w w6 := HM5.out.trans_new hm6 (fun k hk => .inr (hk.elim (fun h => by rw [h]; exact hqN) (hnr k)))
          have HR6 := Lib.hid (And.intro hq6 (And.intro ho6 (And.intro hm6w hn6)))
          clear hq6 ho6 hm6 hno6 hn6 hm6w HPUT HM5 hnr
          go_wp2_with fail
          go_roundw
          case rel => exact ⟨j + 1, v6, by go_num, by omega, HR6.out.1, by rw [HSU.out]; exact HR6.out.2.1, HR6.out.2.2.1, HR6.out.2.2.2⟩
          case measure => simp [intOf]; omega
      · obtain rfl : j = l.length := by omega
        have hall := outO_all l
        have HALL := Lib.hid hall
        have hit := itoa_calls l.length wr (by omega) (HT.out.mod0 hmr)
        have HIT := Lib.hid hit
        obtain ⟨out, hout⟩ : ∃ out, out = outO l l.length := ⟨_, rfl⟩
        rw [← hout] at hor hole HALL
        clear hall hit hout
        go_wp2_with fail
        refine HIT.out.mono ?_
        rintro e w3 ⟨rfl, hm3⟩
        have hdz := digitsB_size_le (n := l.length) (by omega)
        have hre : recE l.length = 99 :: encL [digitsB l.length] := rfl
        rw [hre] at HALL
        obtain ⟨s, hss⟩ : ∃ s, s = digitsB l.length := ⟨_, rfl⟩
        rw [← hss] at hdz HALL ⊢
        have hel := encL_one s
        have hbx := box1 w3 (.cells #[.string s] 9)
        have hal : Mod NoneB wr (w3.alloc (.cells #[.string s] 9)) := hm3.alloc _
        have hts : Rd (w3.alloc (.cells #[.string s] 9)) 1 (some ⟨w3.heap.size, 0, none⟩) 1 (encTs [s]) := rd_blk hbx rfl (by omega)
        have hrec := record_calls 99 [s] 1 _ 1 _ rfl hts (by simp) (fun t hs => by rw [List.mem_singleton] at hs; subst hs; omega) (by omega)
        have HREC := Lib.hid hrec
        have hqa := hal.blk hqr (fun h => h)
        have hora := hor.mod0 hal
        have hmra := hmr.then0 hal
        clear hre hrec hts hbx hss HIT hm3
        go_wp2_with fail
        refine HREC.out.mono ?_
        rintro e w5 ⟨v5, rfl, ho5, hm5, hn5⟩
        obtain ⟨B, bc, rfl, hrb⟩ := ho5.nilD0
        have hfl : (frameB (99 :: encL [s])).length ≤ 8 + (1 + (8 + s.size)) := by rw [frameB_length, List.length_cons, hel]; omega
        obtain ⟨fb, hfb⟩ : ∃ fb, fb = frameB (99 :: encL [s]) := ⟨_, rfl⟩
        simp only [← hfb] at hrb hfl HALL ⊢
        have hput := bput_calls out fb fb.length v q B bc 0 w5 rfl (hm5.blk hqa (fun h => h)) (hora.mod0 hm5) hrb (by omega)
        have HPUT := Lib.hid hput
        have HM5 := Lib.hid (hmra.then0 hm5)
        clear hput hrb ho5 hn5 hm5 hqa hora hmra hal hfb hor hqr hmr hel HREC
        go_wp2_with fail
        refine HPUT.out.mono ?_
        rintro e w6 ⟨rfl, v6, hq6, ho6, hm6, hno6⟩
        have hn6 : ∀ g, v6.ownBlock = some g → w.heap.size ≤ g := fun g hg => by
          rcases hno6 with h | ⟨b, h, hb⟩
          · exact hnr g (by rw [← h]; exact hg)
          · rw [h] at hg; injection hg with hg; have := HM5.out.size; omega
        have hm6w : Mod NoneB w w6 := HM5.out.trans_new hm6 (fun k hk => .inr (hk.elim (fun h => by rw [h]; exact hqN) (hnr k)))
        have y6 : w6.cell? ⟨q, 0, none⟩ = some v6 := by rw [blk_cell hq6]; rfl
        have HR6 := Lib.hid (And.intro ho6 (And.intro hm6w hn6))
        clear hq6 ho6 hm6 hno6 hn6 hm6w HPUT HM5 hnr
        go_wp2_with fail
        go_ret2
        rw [HO.out]
        exact ⟨_, rfl, by rw [← HALL.out]; exact HR6.out.1, HR6.out.2.1, HR6.out.2.2⟩
  · rw [decide_eq_false hR] at HRI
    have ho : opsR l = ([], 1) := if_neg hR
    have HO := Lib.hid ho
    clear ho hR hs ht
    go_enter Tryz.func77, Tryz.ntmps77
    go_wp2_with fail
    refine HRI.out.mono ?_
    rintro e w1 ⟨rfl, hm1⟩
    go_wp2_with fail
    go_ret2
    rw [HO.out]
    exact ⟨_, rfl, Own.nil _ _ _, hm1, fun g h => by simp [Value.ownBlock] at h⟩
end Go.Proofs.YtnlmfmceogbomaaGreatDoor

/- batch.Replay. -/
namespace Go.Proofs.YtnlmfmceogbomaaGreatDoor
open Go.RowKit
set_option linter.unusedVariables false

theorem tiOp : TI Tryz.prog 49 (.agg #[.bool false, .string ⟨#[]⟩, .string ⟨#[]⟩]) 3 40 := by unfold TI; kernel_rfl
theorem tiOps : TI Tryz.prog 39 (.slice none 0 0) 1 24 := by unfold TI; kernel_rfl
/-- Batches as they are told: a row of rows of ops, each in a block of its own; all in blocks from N on. -/
structure BatsAt (w : World) (v : Value) (N : Nat) (ls : List (List Op3)) (vs : List Value) : Prop where
  own : Own w 39 1 v ls.length vs
  len : vs.length = ls.length
  ent : ∀ i (h : i < ls.length) (h' : i < vs.length), Own w 49 3 vs[i] ls[i].length (encOs ls[i])
  one : ∀ u ∈ vs, u.oneCell' = true
  new : ∀ g, v.ownBlock = some g → N ≤ g
  newB : ∀ u ∈ vs, ∀ g, u.ownBlock = some g → N ≤ g
theorem BatsAt.nil (w : World) (N : Nat) : BatsAt w (.slice none 0 0) N [] [] := ⟨Own.nil _ _ _, rfl, (fun i h => by cases h), (fun u h => by cases h), (fun g h => by cases h), (fun u h => by cases h)⟩
theorem BatsAt.mod {w w1 : World} {v : Value} {N : Nat} {ls : List (List Op3)} {vs : List Value} {T : Nat → Prop} (h : BatsAt w v N ls vs) (hm : Mod T w w1) (h1 : ∀ g, v.ownBlock = some g → ¬ T g) (h2 : ∀ u ∈ vs, ∀ g, u.ownBlock = some g → ¬ T g) : BatsAt w1 v N ls vs :=
  ⟨h.own.mod hm h1, h.len, fun i hi hi' => (h.ent i hi hi').mod hm (h2 _ (List.getElem_mem _)), h.one, h.new, h.newB⟩
theorem BatsAt.mod0 {w w1 : World} {v : Value} {N : Nat} {ls : List (List Op3)} {vs : List Value} (h : BatsAt w v N ls vs) (hm : Mod NoneB w w1) : BatsAt w1 v N ls vs := h.mod hm (fun _ _ h => h) (fun _ _ _ _ h => h)
theorem BatsAt.entOf {w : World} {v : Value} {N : Nat} {ls : List (List Op3)} {vs : List Value} (h : BatsAt w v N ls vs) (u : Value) (hu : u ∈ vs) : ∃ l : List Op3, Own w 49 3 u l.length (encOs l) := by
  obtain ⟨i, hi, rfl⟩ := List.getElem_of_mem hu
  exact ⟨_, h.ent i (by rw [← h.len]; exact hi) hi⟩
/-- One more behind. -/
theorem BatsAt.snoc {w w1 : World} {v v1 u : Value} {N : Nat} {ls : List (List Op3)} {vs : List Value} {l : List Op3} (h : BatsAt w v N ls vs) (hm : Mod (OnlyBlk v) w w1) (hno : NewOr w v v1) (hN : N ≤ w.heap.size)
    (ho : Own w1 39 1 v1 (ls.length + 1) (vs ++ [u])) (hu : Own w 49 3 u l.length (encOs l)) (h1 : u.oneCell' = true) (hn : ∀ g, u.ownBlock = some g → N ≤ g) : BatsAt w1 v1 N (ls ++ [l]) (vs ++ [u]) where
  own := by rw [List.length_append]; exact ho
  len := by simp [h.len]
  ent := by
    have ht : ∀ (x : Value) (n : Nat) (cs : List Value), Own w 49 3 x n cs → Own w1 49 3 x n cs := by
      intro x n cs hx
      refine hx.mod hm (fun g hg hk => ?_)
      obtain ⟨c1, hc1⟩ := hx.tag0 hg
      obtain ⟨c2, hc2⟩ := h.own.tag0 hk
      exact tag_ne0 hc1 hc2 (by decide) rfl
    intro i h2 h3
    have hl := h.len
    by_cases hi : i < ls.length
    · rw [List.getElem_append_left (by omega), List.getElem_append_left (by omega)]
      exact ht _ _ _ (h.ent i hi (by omega))
    · obtain rfl : i = ls.length := by simp at h2; omega
      have e1 : (vs ++ [u])[ls.length] = u := by simp [← hl]
      have e2 : (ls ++ [l])[ls.length] = l := by simp
      rw [e1, e2]
      exact ht _ _ _ hu
  one := fun x hx => by
    rcases List.mem_append.1 hx with hx | hx
    · exact h.one x hx
    · rw [List.mem_singleton] at hx; subst hx; exact h1
  new := fun g hg => by
    rcases hno with hq | ⟨b, hq, hb⟩
    · exact h.new g (by rw [← hq]; exact hg)
    · rw [hq] at hg
      injection hg with hg
      omega
  newB := fun x hx g hg => by
    rcases List.mem_append.1 hx with hx | hx
    · exact h.newB x hx g hg
    · rw [List.mem_singleton] at hx; subst hx; exact hn g hg
/-- One more op behind those that are open. -/
theorem replay_keep {w2 w5 : World} {N : Nat} {vl vo v5 : Value} {done : List (List Op3)} {vs : List Value} {now : List Op3} {o : Op3} (hba : BatsAt w2 vl N done vs) (ho : Own w2 49 3 vo now.length (encOs now)) (hnb : ∀ g, vo.ownBlock = some g → N ≤ g ∧ ∀ u ∈ vs, u.ownBlock ≠ some g)
    (ho5 : Own w5 49 3 v5 (now.length + 1) (encOs now ++ encO o)) (hm5 : Mod (OnlyBlk vo) w2 w5) (hno5 : NewOr w2 vo v5) (hN : N ≤ w2.heap.size) :
    BatsAt w5 vl N done vs ∧ Own w5 49 3 v5 (now ++ [o]).length (encOs (now ++ [o])) ∧ (∀ g, v5.ownBlock = some g → N ≤ g ∧ ∀ u ∈ vs, u.ownBlock ≠ some g) := by
  refine ⟨hba.mod hm5 (fun g hg hk => ?_) (fun u hu g hg hk => (hnb g hk).2 u hu hg), ?_, fun g hg => ?_⟩
  · obtain ⟨c1, h1⟩ := hba.own.tag0 hg
    obtain ⟨c2, h2⟩ := ho.tag0 hk
    exact tag_ne0 h1 h2 (by decide) rfl
  · have e : encOs (now ++ [o]) = encOs now ++ encO o := by unfold encOs; rw [List.flatMap_append]; simp
    rw [e, List.length_append]
    exact ho5
  · rcases hno5 with h | ⟨b, h, hb⟩
    · exact hnb g (by rw [← h]; exact hg)
    · rw [h] at hg
      injection hg with hg
      subst hg
      refine ⟨Nat.le_trans hN hb, fun u hu hub => ?_⟩
      obtain ⟨l, hl⟩ := hba.entOf u hu
      have := hl.lt hub
      omega
theorem encO_one (o : Op3) : ∀ u ∈ encO o, u.oneCell' = true := by
  intro u hu
  simp [encO] at hu
  rcases hu with rfl | rfl | rfl <;> rfl
/-- Batches that are told, and how many records are used. -/
def ReplE (r : List (List Op3) × Nat) (w : World) (e : Ending) (w' : World) : Prop :=
  ∃ v vs, e = .returned (.tuple #[v, .int .i64 (r.2 : Nat)]) ∧ BatsAt w' v w.heap.size r.1 vs ∧ Mod NoneB w w'
/-- Records as they came in. -/
structure PartOk (w : World) (p : Part) : Prop where
  rd : Rd w 1 p.A p.b.length (encB p.b)
  cap : p.b.length ≤ p.c
  top : p.b.length ≤ 140737488355328
def bsOf (ps : List Part) : List (List UInt8) := ps.map (·.b)

theorem add_nil0 (ad : Addr) : ad.add 0 = ad := by unfold Addr.add; split <;> simp_all
set_option maxRecDepth 100000 in
/-- b[1:], as the walk takes it. -/
theorem tail_at {w : World} {ad : Addr} {c : Nat} {k : UInt8} {r : List UInt8} (h : Rd w 1 (some ad) (k :: r).length (encB (k :: r))) (hnc : (k :: r).length ≤ c) :
    ∃ A', (∀ W, (Instr.slice 24 (.slice (some ad) (k :: r).length c) (some (.int .i64 1)) none none).run Tryz.prog W = .ok (.slice A' r.length (c - 1)) W) ∧
      (∀ W, (Instr.sliceAt 24 (.slice (some ad) (k :: r).length c) (some (.int .i64 1)) none none).run Tryz.prog W = .ok (.slice A' r.length (c - 1)) W) ∧ Rd w 1 A' r.length (encB r) := by
  have ht : Tryz.prog.underlying 24 = some (.slice (Tryz.prog.elem 24)) := by kernel_rfl
  have he : Tryz.prog.elem 24 = 5 := by kernel_rfl
  obtain ⟨ti, hti, _, hs, _⟩ := (tiB).parts
  have hrun : ∀ W, (Instr.slice 24 (.slice (some ad) (k :: r).length c) (some (.int .i64 1)) none none).run Tryz.prog W = .ok (.slice (if c = 1 then some ad else some (ad.add 1)) r.length (c - 1)) W := by
    intro W
    rw [run_slice_l W 24 (some ad) _ c ht .i64 _ (by omega) (by simp; omega), he]
    simp [sizeOf, typeInfo, hti, hs, sliced]
  refine ⟨_, hrun, fun W => by rw [run_sliceAt_slice W _ _ _ _ _ ht]; exact hrun W, ?_⟩
  by_cases hci : c = 1
  · have h0 : r = [] := List.eq_nil_of_length_eq_zero (by simp at hnc; omega)
    subst h0
    exact Rd.nil _ _ _
  · rw [if_neg hci]
    have h2 := h.sub 1 r.length (by simp; omega)
    simpa using h2
theorem kindT_bad {now : Nat} {k : UInt8} {ts : List ByteArray} (h1 : ¬ (k = 112 ∧ ts.length = 2)) (h2 : ¬ (k = 100 ∧ ts.length = 1)) (h3 : ¬ (k = 99 ∧ ∃ a, ts = [a] ∧ a = digitsB now)) : kindT now k (some ts) = .bad := by
  match ts with
  | [] => rfl
  | [a] =>
    show (if k = 100 then _ else if k = 99 ∧ a = digitsB now then _ else _) = _
    rw [if_neg (fun h => h2 ⟨h, rfl⟩), if_neg (fun h => h3 ⟨h.1, a, rfl, h.2⟩)]
  | [a, b] =>
    show (if k = 112 then _ else _) = _
    rw [if_neg (fun h => h1 ⟨h, rfl⟩)]
  | a :: b :: d :: l => rfl
theorem u8_ne {k : UInt8} {n : Nat} (hn : n < 256) (h : k ≠ UInt8.ofNat n) : (((k.toNat : Int) == (n : Int))) = false := by
  refine beq_eq_false_iff_ne.mpr (fun e => h ?_)
  apply UInt8.toNat_inj.1
  rw [UInt8.toNat_ofNat']
  omega
theorem drop_cons {α : Type} (l : List α) (j : Nat) (h : j < l.length) : l.drop j = l[j] :: l.drop (j + 1) := List.drop_eq_getElem_cons h

set_option maxHeartbeats 16000000 in
set_option maxRecDepth 100000 in
theorem replay_calls (ps : List Part) (A : Option Addr) (c : Nat) (w : World) (hr : Rd w 1 A ps.length (ps.flatMap encPart)) (hp : ∀ p ∈ ps, PartOk w p) (hn : ps.length ≤ 1000000) (ht : TabW w) :
    Calls Tryz.prog 68 #[.slice A ps.length c] w (ReplE (replayB (bsOf ps)) w) := by
  have hlen : (bsOf ps).length = ps.length := by simp [bsOf]
  have HLEN := Lib.hid hlen
  have HP := Lib.hid hp
  have HT := Lib.hid ht
  have huo := Tryz.underlying39
  have huos := Tryz.underlying22
  clear hlen hp ht
  go_enter Tryz.func68, Tryz.ntmps68
  go_wp2_with fail
  go_step3
  go_wp2_with fail
  go_step3
  go_wp2_with fail
  go_loopw [2, 3, 4, 12] (fun vl us vo i wr => ∃ (j used : Nat) (done : List (List Op3)) (vs : List Value) (now : List Op3), i = .int .i64 j ∧ us = .int .i64 used ∧ j ≤ ps.length ∧ now.length ≤ j ∧ done.length ≤ j ∧ used ≤ j ∧ BatsAt wr vl w.heap.size done vs ∧ Own wr 49 3 vo now.length (encOs now) ∧ (∀ g, vo.ownBlock = some g → w.heap.size ≤ g ∧ ∀ u ∈ vs, u.ownBlock ≠ some g) ∧ Mod NoneB w wr ∧
      replayB (bsOf ps) = (done ++ (replayGo now j used ((bsOf ps).drop j)).1, (replayGo now j used ((bsOf ps).drop j)).2)) (fun _ _ _ i _ => ps.length - (intOf i).toNat)
  case atStart => exact ⟨0, 0, [], [], [], rfl, rfl, by omega, by simp, by simp, by omega, BatsAt.nil _ _, Own.nil _ _ _, fun g h => by simp [Value.ownBlock] at h, Mod.refl _ _, by simp [replayB]⟩
  case round =>
    obtain ⟨j, used, done, vs, now, rfl, rfl, hj, hnl, hdl, hul, hba, hon, hnb, hm, hrp⟩ := hrel
    by_cases hlt : j < ps.length
    · obtain ⟨ad, rfl, h0, _⟩ := Rd.elem (f := encPart) (fun _ => rfl) hr (by decide) j hlt
      have c0 := hm.cell0 (h0 _ rfl)
      rw [Nat.mul_one] at c0
      have hpk := HP.out ps[j] (List.getElem_mem _)
      have hdr : (bsOf ps).drop j = ps[j].b :: (bsOf ps).drop (j + 1) := by
        have h1 : j < (bsOf ps).length := by rw [HLEN.out]; exact hlt
        rw [drop_cons _ _ h1]
        congr 1
        simp [bsOf]
      obtain ⟨p, hpp⟩ : ∃ p, p = ps[j] := ⟨_, rfl⟩
      rw [← hpp] at c0 hpk hdr
      rw [hdr] at hrp
      obtain ⟨pA, pb, pc⟩ := p
      obtain ⟨hrd, hcap, htop⟩ := hpk
      simp only at hrd hcap htop hrp c0
      replace hrd := hrd.mod0 hm
      clear h0 hpp hdr
      have HBA := Lib.hid hba
      have HON := Lib.hid hon
      have HNB := Lib.hid hnb
      have HRP := Lib.hid hrp
      clear hba hon hnb hrp
      cases pb with
      | nil =>
        have hbad := replayGo_bad now j used [] ((bsOf ps).drop (j + 1)) rfl
        have HBAD := Lib.hid hbad
        clear hbad
        go_wp2_with fail
        go_ret2
        rw [HRP.out, HBAD.out, List.append_nil]
        exact ⟨_, vs, rfl, HBA.out, hm⟩
      | cons k r =>
        obtain ⟨adp, rfl, hce⟩ := hrd.2.2 (by simp)
        have c1 := hce 0 (.int .u8 k.toNat) rfl
        rw [add_nil0] at c1
        obtain ⟨A', hs1, hs2, hrt⟩ := tail_at hrd hcap
        have hdec := decode_calls r A' (pc - 1) wr hrt (by simp at htop; omega) (by simp at hcap; omega)
        have HDEC := Lib.hid hdec
        have hkb := kindB_cons now.length k r
        have HKB := Lib.hid hkb
        have g1 : (1 : Int) ≤ ((k :: r).length : Int) := Int.ofNat_le.2 (by simp : 1 ≤ (k :: r).length)
        have g2 : ((((k :: r).length : Nat) : Int) == 0) = false := beq_eq_false_iff_ne.mpr (by simp; omega)
        have g0 : 0 < (k :: r).length := Nat.succ_pos _
        have g3 : (0 : Int) < ((k :: r).length : Int) := by omega
        obtain ⟨nb, hnbb⟩ : ∃ nb, nb = (k :: r).length := ⟨_, rfl⟩
        rw [← hnbb] at c0 g1 g2 g3 hs1 hs2
        clear hrd hce hdec hkb hrt hcap htop hnbb
        go_wp2_with fail
        refine HDEC.out.mono ?_
        rintro e w2 ⟨vt, rfl, hot, hmt, hnt⟩
        have c2 := hmt.cell0 c1
        have hm2 := hm.then0 hmt
        clear c0 c1 hs1 hs2 HDEC
        cases hdl : decL r with
        | none =>
          rw [hdl] at HKB
          have hbad := replayGo_bad now j used (k :: r) ((bsOf ps).drop (j + 1)) HKB.out
          have HBAD := Lib.hid hbad
          have HMT := Lib.hid hmt
          clear hbad hdl hot hnt
          simp only [errT, Option.isSome_none, Bool.false_eq_true, if_false]
          go_wp2_with fail
          go_ret2
          rw [HRP.out, HBAD.out, List.append_nil]
          exact ⟨_, vs, rfl, HBA.out.mod0 HMT.out, hm2⟩
        | some ts =>
          rw [hdl] at HKB hot
          simp only [Option.getD_some] at hot
          clear hdl
          simp only [errT, Option.isSome_some, if_true]
          have HKN := Lib.hid hnt
          obtain ⟨Vt, ct, hvt, _⟩ := hot.nilD0
          by_cases h112 : k = 112
          · have z0 : (((k.toNat : Nat) : Int)) = 112 := by rw [h112]; rfl
            rw [z0] at c2
            by_cases hl2 : ts.length = 2
            · obtain ⟨a, b, rfl⟩ : ∃ a b, ts = [a, b] := by
                match ts, hl2 with
                | [a, b], _ => exact ⟨a, b, rfl⟩
              obtain ⟨gt, ctt, hvg⟩ := hot.addrOf (by simp)
              have hvg2 : vt = .slice (some ⟨gt, 0, none⟩) 2 ctt := hvg
              subst hvg2
              have y0 : w2.cell? ⟨gt, 0, none⟩ = some (.string a) := Own.cellAt (n := 2) hot 0 _ rfl
              have y1 : w2.cell? ⟨gt, 1, none⟩ = some (.string b) := Own.cellAt (n := 2) hot 1 _ rfl
              have hop := replayGo_op now j used (k :: r) ((bsOf ps).drop (j + 1)) (o := ⟨false, a, b⟩) (HKB.out.trans (show kindT now.length k (some [a, b]) = _ from if_pos h112))
              have HOP := Lib.hid hop
              have hal : Mod NoneB w2 (w2.alloc (.cells #[.bool false, .string a, .string b] 49)).drew := ((Mod.refl NoneB w2).alloc _).drew
              have hbx := box1 w2 (.cells #[.bool false, .string a, .string b] 49)
              have hbx2 : (w2.alloc (.cells #[.bool false, .string a, .string b] 49)).drew.heap[w2.heap.size]? = some (.cells #[.bool false, .string a, .string b] 49) := hbx
              have hnx : 0 < 1 → ∃ x, (some ⟨w2.heap.size, 0, none⟩ : Option Addr) = some x ∧ ∀ (i : Nat) u, (encO ⟨false, a, b⟩)[i]? = some u → (w2.alloc (.cells #[.bool false, .string a, .string b] 49)).drew.cell? (x.add i) = some u := (rd_blk (sz := 3) (n := 1) hbx2 rfl (by decide)).2.2
              have hox := (HON.out.mod0 hmt).mod0 hal
              obtain ⟨Ao, co, hvo, _, _, _⟩ := hox.out
              have h40 : (now.length + 1) * 40 ≤ 140737488355328 := by omega
              have HBA2 := Lib.hid ((HBA.out.mod0 hmt).mod0 hal)
              have HM2 := Lib.hid (hm2.then0 hal)
              have hgt : ∀ g, (Value.slice (some ⟨gt, 0, none⟩) 2 ctt).ownBlock = some g → ¬ OnlyBlk (.slice Ao now.length co) g := fun g hg hk => by
                obtain ⟨d1, e1⟩ := (hot.mod0 hal).tag0 hg
                rw [hvo] at hox
                obtain ⟨d2, e2⟩ := hox.tag0 hk
                exact tag_ne0 e1 e2 (by decide) rfl
              have HGT := Lib.hid (hgt gt rfl)
              have u0 : (w2.alloc (.cells #[.bool false, .string a, .string b] 49)).drew.cell? ⟨gt, 0, none⟩ = some (.string a) := hal.cell0 y0
              have u1 : (w2.alloc (.cells #[.bool false, .string a, .string b] 49)).drew.cell? ⟨gt, 1, none⟩ = some (.string b) := hal.cell0 y1
              subst hvo
              clear hbx hbx2 hal hop hnt hmt hot hvt hgt
              go_wp2_with fail
              go_region_held3 (fun w' => w'.cell? ⟨gt, 0, none⟩ = some (.string a) ∧ w'.cell? ⟨gt, 1, none⟩ = some (.string b)) (first | go_keep | exact ⟨y05, y15⟩ | exact ⟨u0, u1⟩)
                ((refine step_app rfl (.tmp 39) (.tmp 47) 39 rfl 49 _ 3 40 huo tiOp rfl (by decide) (by decide) _ now.length (encOs now) (by simp [Act.eval]) hox (some ⟨w2.heap.size, 0, none⟩) 1 1 (encO ⟨false, a, b⟩) (by simp [Act.eval]) rfl hnx (encO_one _) h40 ?_; intro v5 w5 ho5 hm5 hno5; have y05 := hm5.cell u0 HGT.out; have y15 := hm5.cell u1 HGT.out))
              all_goals
                have hk := replay_keep HBA2.out hox HNB.out ho5 hm5 hno5 HM2.out.size
                have hm5w : Mod NoneB w w5 := HM2.out.trans_new hm5 (fun k hk => .inr (HNB.out k hk).1)
                have HK := Lib.hid (And.intro hk hm5w)
                obtain ⟨A5, c5, rfl, _⟩ := ho5.out
                clear hk hm5w ho5 hm5 hno5 hox hnx h40 u0 u1 y05 y15 y0 y1
                go_wp2_with fail
                go_roundw
                case rel => exact ⟨j + 1, used, done, vs, now ++ [⟨false, a, b⟩], by go_num, rfl, by omega, by simp; omega, by omega, by omega, HK.out.1.1, HK.out.1.2.1, HK.out.1.2.2, HK.out.2, by rw [HRP.out, HOP.out]⟩
                case measure => simp [intOf]; omega
            · have b2 : (((ts.length : Nat) : Int) == 2) = false := beq_eq_false_iff_ne.mpr (by omega)
              subst hvt
              have hbad := replayGo_bad now j used (k :: r) ((bsOf ps).drop (j + 1)) (HKB.out.trans (kindT_bad (ts := ts) (fun h => hl2 h.2) (fun h => by rw [h112] at h; exact absurd h.1 (by decide)) (fun h => by rw [h112] at h; exact absurd h.1 (by decide))))
              have HBAD := Lib.hid hbad
              have HMT := Lib.hid hmt
              clear hbad hot hnt hmt
              go_wp2_with fail
              go_quiet (fail)
              go_wp2_with fail
              go_ret2
              rw [HRP.out, HBAD.out, List.append_nil]
              exact ⟨_, vs, rfl, (HBA.out.mod0 HMT.out).mod0 ((Mod.refl NoneB w2).drewN nq), hm2.drewN nq⟩
          by_cases h100 : k = 100
          · have z0 : (((k.toNat : Nat) : Int)) = 100 := by rw [h100]; rfl
            rw [z0] at c2
            by_cases hl1 : ts.length = 1
            · obtain ⟨a, rfl⟩ : ∃ a, ts = [a] := by
                match ts, hl1 with
                | [a], _ => exact ⟨a, rfl⟩
              obtain ⟨gt, ctt, hvg⟩ := hot.addrOf (by simp)
              have hvg2 : vt = .slice (some ⟨gt, 0, none⟩) 1 ctt := hvg
              subst hvg2
              have y0 : w2.cell? ⟨gt, 0, none⟩ = some (.string a) := Own.cellAt (n := 1) hot 0 _ rfl
              have hop := replayGo_op now j used (k :: r) ((bsOf ps).drop (j + 1)) (o := ⟨true, a, ⟨#[]⟩⟩) (HKB.out.trans (show kindT now.length k (some [a]) = _ from if_pos h100))
              have HOP := Lib.hid hop
              have hal : Mod NoneB w2 (w2.alloc (.cells #[.bool true, .string a, .string ⟨#[]⟩] 49)) := (Mod.refl NoneB w2).alloc _
              have hbx := box1 w2 (.cells #[.bool true, .string a, .string ⟨#[]⟩] 49)
              have hnx : 0 < 1 → ∃ x, (some ⟨w2.heap.size, 0, none⟩ : Option Addr) = some x ∧ ∀ (i : Nat) u, (encO ⟨true, a, ⟨#[]⟩⟩)[i]? = some u → (w2.alloc (.cells #[.bool true, .string a, .string ⟨#[]⟩] 49)).cell? (x.add i) = some u := (rd_blk (sz := 3) (n := 1) hbx rfl (by decide)).2.2
              have hox := (HON.out.mod0 hmt).mod0 hal
              obtain ⟨Ao, co, hvo, _, _, _⟩ := hox.out
              have h40 : (now.length + 1) * 40 ≤ 140737488355328 := by omega
              have HBA2 := Lib.hid ((HBA.out.mod0 hmt).mod0 hal)
              have HM2 := Lib.hid (hm2.then0 hal)
              subst hvo
              clear hbx hal hop hnt hmt hot hvt
              go_wp2_with (at_builtin; refine wpList_append rfl (.tmp 57) (.tmp 62) 39 rfl 49 _ 3 40 huo tiOp rfl (by decide) (by decide) _ now.length (encOs now) rfl hox (some ⟨w2.heap.size, 0, none⟩) 1 1 (encO ⟨true, a, ⟨#[]⟩⟩) rfl rfl hnx (encO_one _) h40 ?_)
              intro v5 w5 ho5 hm5 hno5
              have hk := replay_keep HBA2.out hox HNB.out ho5 hm5 hno5 HM2.out.size
              have hm5w : Mod NoneB w w5 := HM2.out.trans_new hm5 (fun k hk => .inr (HNB.out k hk).1)
              have HK := Lib.hid (And.intro hk hm5w)
              obtain ⟨A5, c5, rfl, _⟩ := ho5.out
              clear hk hm5w ho5 hm5 hno5 hox hnx h40
              go_wp2_with fail
              go_roundw
              case rel => exact ⟨j + 1, used, done, vs, now ++ [⟨true, a, ⟨#[]⟩⟩], by go_num, rfl, by omega, by simp; omega, by omega, by omega, HK.out.1.1, HK.out.1.2.1, HK.out.1.2.2, HK.out.2, by rw [HRP.out, HOP.out]⟩
              case measure => simp [intOf]; omega
            · have b2 : (((ts.length : Nat) : Int) == 1) = false := beq_eq_false_iff_ne.mpr (by omega)
              subst hvt
              have hbad := replayGo_bad now j used (k :: r) ((bsOf ps).drop (j + 1)) (HKB.out.trans (kindT_bad (ts := ts) (fun h => h112 h.1) (fun h => hl1 h.2) (fun h => by rw [h100] at h; exact absurd h.1 (by decide))))
              have HBAD := Lib.hid hbad
              have HMT := Lib.hid hmt
              clear hbad hot hnt hmt
              go_wp2_with fail
              go_quiet (fail)
              go_wp2_with fail
              go_ret2
              rw [HRP.out, HBAD.out, List.append_nil]
              exact ⟨_, vs, rfl, (HBA.out.mod0 HMT.out).mod0 ((Mod.refl NoneB w2).drewN nq), hm2.drewN nq⟩
          by_cases h99 : k = 99
          · have z0 : (((k.toNat : Nat) : Int)) = 99 := by rw [h99]; rfl
            rw [z0] at c2
            by_cases hl1 : ts.length = 1
            · obtain ⟨a, rfl⟩ : ∃ a, ts = [a] := by
                match ts, hl1 with
                | [a], _ => exact ⟨a, rfl⟩
              obtain ⟨gt, ctt, hvg⟩ := hot.addrOf (by simp)
              have hvg2 : vt = .slice (some ⟨gt, 0, none⟩) 1 ctt := hvg
              subst hvg2
              have y0 : w2.cell? ⟨gt, 0, none⟩ = some (.string a) := Own.cellAt (n := 1) hot 0 _ rfl
              have hdr : Mod NoneB w2 w2.drew := (Mod.refl NoneB w2).drew
              have hit := itoa_calls now.length w2.drew (by omega) (HT.out.mod0 (hm2.then0 hdr))
              have HIT := Lib.hid hit
              have HMT := Lib.hid hmt
              obtain ⟨Ao, co, hvo, _, _, _⟩ := HON.out.out
              have y0d : w2.drew.cell? ⟨gt, 0, none⟩ = some (.string a) := y0
              by_cases ha : a = digitsB now.length
              · have bq : (a.toList == (digitsB now.length).toList) = true := by rw [beq_toList]; exact decide_eq_true ha
                have hfin := replayGo_fin now j used (k :: r) ((bsOf ps).drop (j + 1)) (HKB.out.trans (show kindT now.length k (some [a]) = _ by
                  show (if k = 100 then _ else if k = 99 ∧ a = digitsB now.length then _ else _) = _
                  rw [if_neg h100, if_pos ⟨h99, ha⟩]))
                have HFIN := Lib.hid hfin
                obtain ⟨dg, hdg⟩ : ∃ dg, dg = digitsB now.length := ⟨_, rfl⟩
                rw [← hdg] at HIT bq
                have HVO := Lib.hid hvo
                have HM2 := Lib.hid hm2
                have huN : w.heap.size ≤ w2.heap.size := hm2.size
                subst hvo
                clear hfin hit hmt hot hvt hdg ha hnt
                go_wp2_with fail
                go_region_held3 (fun w' => w'.cell? ⟨gt, 0, none⟩ = some (.string a)) (first | go_keep | exact y05)
                  ((go_at_call 111; (with_reducible refine HIT.out.mono ?_); rintro ez w5 ⟨rfl, hm5⟩; have y05 := hm5.cell0 y0d))
                all_goals
                  have hm25 : Mod NoneB w2 w5 := hdr.then0 hm5
                  have hba5 := (HBA.out.mod0 HMT.out).mod0 hm25
                  have hon5 := (HON.out.mod0 HMT.out).mod0 hm25
                  have hal : Mod NoneB w5 (w5.alloc (.cells #[.slice Ao now.length co] 39)) := (Mod.refl NoneB w5).alloc _
                  have hbx := box1 w5 (.cells #[.slice Ao now.length co] 39)
                  have hnx : 0 < 1 → ∃ x, (some ⟨w5.heap.size, 0, none⟩ : Option Addr) = some x ∧ ∀ (i : Nat) u, ([Value.slice Ao now.length co])[i]? = some u → (w5.alloc (.cells #[.slice Ao now.length co] 39)).cell? (x.add i) = some u := (rd_blk (sz := 1) (n := 1) hbx rfl (by decide)).2.2
                  have hba6 := hba5.mod0 hal
                  have hon6 := hon5.mod0 hal
                  have hm6 : Mod NoneB w (w5.alloc (.cells #[.slice Ao now.length co] 39)) := (HM2.out.then0 hm25).then0 hal
                  have h24 : (done.length + 1) * 24 ≤ 140737488355328 := by omega
                  obtain ⟨Al, cl, hvl, _, _, _⟩ := hba6.own.out
                  have HBA6 := Lib.hid hba6
                  have HON6 := Lib.hid hon6
                  have hown := hba6.own
                  subst hvl
                  clear hba5 hon5 hba6 hon6 hbx hal hm25 hm5 y05 y0 y0d hdr HIT hm2
                  go_wp2_with (at_builtin; refine wpList_append rfl (.tmp 81) (.tmp 83) 22 rfl 39 _ 1 24 huos tiOps rfl (by decide) (by decide) _ done.length vs rfl hown (some ⟨w5.heap.size, 0, none⟩) 1 1 [.slice Ao now.length co] rfl rfl hnx (fun u hu => by rw [List.mem_singleton] at hu; subst hu; rfl) h24 ?_)
                  intro v7 w7 ho7 hm7 hno7
                  have hsn := HBA6.out.snoc hm7 hno7 hm6.size ho7 HON6.out rfl (fun g hg => (HNB.out g hg).1)
                  have hm7w : Mod NoneB w w7 := hm6.trans_new hm7 (fun k hk => .inr (HBA6.out.new k hk))
                  have HSN := Lib.hid (And.intro hsn hm7w)
                  obtain ⟨A7, c7, rfl, _⟩ := ho7.out
                  clear hsn hm7w ho7 hm7 hno7 hown hnx h24 hm6
                  go_wp2_with fail
                  go_roundw
                  case rel => exact ⟨j + 1, j + 1, done ++ [now], vs ++ [.slice Ao now.length co], [], by go_num, by go_num, by omega, by simp, by simp; omega, by omega, HSN.out.1, Own.nil _ _ _, fun g h => by simp [Value.ownBlock] at h, HSN.out.2, by rw [HRP.out, HFIN.out]; simp⟩
                  case measure => simp [intOf]; omega
              · have bq : (a.toList == (digitsB now.length).toList) = false := by rw [beq_toList]; exact decide_eq_false ha
                have hbad := replayGo_bad now j used (k :: r) ((bsOf ps).drop (j + 1)) (HKB.out.trans (kindT_bad (ts := [a]) (fun h => h112 h.1) (fun h => h100 h.1) (fun h => by obtain ⟨_, a', ha', hd'⟩ := h; injection ha' with ha'; exact ha (ha'.trans hd'))))
                have HBAD := Lib.hid hbad
                obtain ⟨dg, hdg⟩ : ∃ dg, dg = digitsB now.length := ⟨_, rfl⟩
                rw [← hdg] at HIT bq
                subst hvo
                clear hbad hit hmt hot hvt hdg ha hnt
                go_wp2_with fail
                go_region_held3 (fun w' => w'.cell? ⟨gt, 0, none⟩ = some (.string a)) (first | go_keep | exact y05)
                  ((go_at_call 111; (with_reducible refine HIT.out.mono ?_); rintro ez w5 ⟨rfl, hm5⟩; have y05 := hm5.cell0 y0d))
                all_goals
                  go_wp2_with fail
                  go_ret2
                  rw [HRP.out, HBAD.out, List.append_nil]
                  exact ⟨_, vs, rfl, (HBA.out.mod0 HMT.out).mod0 (hdr.then0 hm5), (hm2.then0 hdr).then0 hm5⟩
            · have b2 : (((ts.length : Nat) : Int) == 1) = false := beq_eq_false_iff_ne.mpr (by omega)
              subst hvt
              have hbad := replayGo_bad now j used (k :: r) ((bsOf ps).drop (j + 1)) (HKB.out.trans (kindT_bad (ts := ts) (fun h => h112 h.1) (fun h => h100 h.1) (fun h => by obtain ⟨_, a, ha, _⟩ := h; exact hl1 (by rw [ha]; rfl))))
              have HBAD := Lib.hid hbad
              have HMT := Lib.hid hmt
              clear hbad hot hnt hmt
              go_wp2_with fail
              go_quiet (fail)
              go_wp2_with fail
              go_ret2
              rw [HRP.out, HBAD.out, List.append_nil]
              exact ⟨_, vs, rfl, (HBA.out.mod0 HMT.out).mod0 ((Mod.refl NoneB w2).drewN nq), hm2.drewN nq⟩
          have q1 : (((k.toNat : Nat) : Int) == 112) = false := u8_ne (n := 112) (by decide) h112
          have q2 : (((k.toNat : Nat) : Int) == 100) = false := u8_ne (n := 100) (by decide) h100
          have q3 : (((k.toNat : Nat) : Int) == 99) = false := u8_ne (n := 99) (by decide) h99
          subst hvt
          have hbad := replayGo_bad now j used (k :: r) ((bsOf ps).drop (j + 1)) (HKB.out.trans (kindT_bad (ts := ts) (fun h => h112 h.1) (fun h => h100 h.1) (fun h => h99 h.1)))
          have HBAD := Lib.hid hbad
          have HMT := Lib.hid hmt
          clear hbad hot hnt hmt
          go_wp2_with fail
          go_quiet (fail)
          go_wp2_with fail
          go_ret2
          rw [HRP.out, HBAD.out, List.append_nil]
          exact ⟨_, vs, rfl, (HBA.out.mod0 HMT.out).mod0 ((Mod.refl NoneB w2).drewN nq), hm2.drewN nq⟩
    · obtain rfl : j = ps.length := by omega
      have hend : (bsOf ps).drop ps.length = [] := List.drop_eq_nil_of_le (by rw [HLEN.out]; exact Nat.le_refl _)
      rw [hend] at hrp
      have HRP := Lib.hid hrp
      clear hend hrp hon hnb
      go_wp2_with fail
      go_ret2
      rw [HRP.out]
      exact ⟨_, vs, rfl, by simpa [replayGo] using hba, hm⟩
end Go.Proofs.YtnlmfmceogbomaaGreatDoor

/- The document's SameOps and Batches: are two lists one? -/
namespace Go.Proofs.YtnlmfmceogbomaaGreatDoor
open Go.RowKit
set_option linter.unusedVariables false

/-- Batches as they lie: a row of rows of ops. -/
def BatsRd (w : World) (A : Option Addr) (n : Nat) (ls : List (List Op3)) (vs : List Value) : Prop := Rd w 1 A n vs ∧ vs.length = ls.length ∧ ∀ i (h : i < ls.length) (h' : i < vs.length), ∃ B bc, vs[i] = .slice B ls[i].length bc ∧ Rd w 3 B ls[i].length (encOs ls[i])
theorem BatsAt.rd {w : World} {v : Value} {N : Nat} {ls : List (List Op3)} {vs : List Value} (h : BatsAt w v N ls vs) : ∃ A c, v = .slice A ls.length c ∧ BatsRd w A ls.length ls vs := by
  obtain ⟨A, c, e, hr⟩ := h.own.nilD0
  refine ⟨A, c, e, hr, h.len, fun i h1 h2 => ?_⟩
  obtain ⟨B, bc, e2, hr2⟩ := (h.ent i h1 h2).nilD0
  exact ⟨B, bc, e2, hr2⟩
theorem Rd.one {w : World} {A : Option Addr} {n : Nat} {vs : List Value} (h : Rd w 1 A n vs) (i : Nat) (hi : i < vs.length) : ∃ ad, A = some ad ∧ w.cell? (ad.add i) = some vs[i] := by
  have hl := h.1
  obtain ⟨ad, e, hc⟩ := h.2.2 (by omega)
  exact ⟨ad, e, hc i _ (List.getElem?_eq_getElem hi)⟩
end Go.Proofs.YtnlmfmceogbomaaGreatDoor

/- The document's RightOps. -/
namespace Go.Proofs.YtnlmfmceogbomaaGreatDoor
open Go.RowKit
set_option linter.unusedVariables false

set_option maxHeartbeats 2000000 in
set_option maxRecDepth 100000 in
theorem rrightops_calls (l : List Op3) (A : Option Addr) (c : Nat) (w : World) (hr : Rd w 3 A l.length (encOs l)) :
    Calls Tryz.prog 18 #[.slice A l.length c] w fun e w' => e = .returned (.bool (decide (rightO l))) ∧ Mod NoneB w w' := by
  have hn := hr.2.1
  go_enter Tryz.func18, Tryz.ntmps18
  go_wp2_with fail
  go_loopw [3] (fun i wr => ∃ j : Nat, i = .int .i64 j ∧ j ≤ l.length ∧ (∀ o ∈ l.take j, ¬ BadO o) ∧ Mod NoneB w wr) (fun i _ => l.length - (intOf i).toNat)
  case atStart => exact ⟨0, rfl, by omega, fun o ho => by simp at ho, Mod.refl _ _⟩
  case round =>
    obtain ⟨j, rfl, hj, hno, hm⟩ := hrel
    have HNO := Lib.hid hno
    clear hno
    by_cases hlt : j < l.length
    · obtain ⟨ad, rfl, h0, h1, h2⟩ := (hr.mod0 hm).op j hlt
      have htk : l.take (j + 1) = l.take j ++ [l[j]] := List.take_succ_eq_append_getElem hlt
      have hmem : l[j] ∈ l := List.getElem_mem _
      obtain ⟨o, ho⟩ : ∃ o, o = l[j] := ⟨_, rfl⟩
      rw [← ho] at h0 h1 h2 htk hmem
      have HTK := Lib.hid htk
      have HMEM := Lib.hid hmem
      have q0 : (0 : Int) ≤ (j : Int) := by omega
      have q1 : (j : Int) < (l.length : Int) := by omega
      clear ho htk hmem
      by_cases hb : BadO o
      · have hbd : decide (rightO l) = false := decide_eq_false (fun h => hb.2 (h.2 o HMEM.out hb.1))
        have b1 : o.v.toList.isEmpty = false := by rw [isEmpty_toList]; exact decide_eq_false hb.2
        have hd := hb.1
        rw [hd] at h0
        have HBD := Lib.hid hbd
        clear hb hbd hd
        go_wp2_with fail
        go_ret
        exact ⟨by rw [HBD.out]; rfl, hm⟩
      · have HB := Lib.hid hb
        cases hd : o.del with
        | false =>
          rw [hd] at h0
          clear hb hd
          go_wp2_with fail
          go_roundw
          case rel =>
            refine ⟨j + 1, by go_num, by omega, fun x hx => ?_, hm⟩
            rw [HTK.out] at hx
            rcases List.mem_append.1 hx with hx | hx
            · exact HNO.out x hx
            · rw [List.mem_singleton] at hx; rw [hx]; exact HB.out
          case measure => simp [intOf]; omega
        | true =>
          have hv : o.v = ⟨#[]⟩ := Classical.byContradiction fun h => hb ⟨hd, h⟩
          have b1 : o.v.toList.isEmpty = true := by rw [isEmpty_toList]; exact decide_eq_true hv
          rw [hd] at h0
          clear hb hd hv
          go_wp2_with fail
          go_roundw
          case rel =>
            refine ⟨j + 1, by go_num, by omega, fun x hx => ?_, hm⟩
            rw [HTK.out] at hx
            rcases List.mem_append.1 hx with hx | hx
            · exact HNO.out x hx
            · rw [List.mem_singleton] at hx; rw [hx]; exact HB.out
          case measure => simp [intOf]; omega
    · have hall : ∀ o ∈ l, ¬ BadO o := by
        have h := HNO.out
        rwa [List.take_of_length_le (by omega)] at h
      have hd : decide (rightO l) = decide (l.length ≤ 1000) := by
        by_cases h : l.length ≤ 1000
        · rw [decide_eq_true h]
          exact decide_eq_true ⟨h, fun o ho hdel => Classical.byContradiction fun hv => hall o ho ⟨hdel, hv⟩⟩
        · rw [decide_eq_false h]
          exact decide_eq_false (fun hh => h hh.1)
      have HD := Lib.hid hd
      clear hall hd
      go_wp2_with fail
      go_ret
      exact ⟨by rw [HD.out]; first | rfl | (congr 2; simp; omega), hm⟩
end Go.Proofs.YtnlmfmceogbomaaGreatDoor

/- The document's Digits. -/
namespace Go.Proofs.YtnlmfmceogbomaaGreatDoor
open Go.RowKit
set_option linter.unusedVariables false

theorem decDigits_big {u : Nat} (h : ¬ u < 10) : Lib.decDigits u = Lib.decDigits (u / 10) ++ [UInt8.ofNat (48 + u % 10)] := by rw [Lib.decDigits, dif_neg h]
theorem digit_toNat (u : Nat) : ((UInt8.ofNat (48 + u % 10)).toNat : Int) = 48 + (u : Int) % 10 := by
  rw [UInt8.toNat_ofNat']
  omega
set_option maxHeartbeats 2000000 in
set_option maxRecDepth 100000 in
theorem rdigits_calls (n : Nat) (w : World) (hn : n ≤ 1000000) :
    Calls Tryz.prog 140 #[.int .i64 n] w fun e w' => e = .returned (.string (digitsB n)) ∧ Mod NoneB w w' := by
  have b0 : ¬ ((n : Int) < 0) := by omega
  go_enter Tryz.func140, Tryz.ntmps140
  go_wp2_with fail
  go_loopw [3, 4] (fun uv sv wr => ∃ (u : Nat) (t : List UInt8), uv = .int .u64 u ∧ sv = .string (strOf t) ∧ u + t.length ≤ n ∧ Lib.decDigits n = Lib.decDigits u ++ t ∧ Mod NoneB w wr) (fun uv _ _ => (intOf uv).toNat)
  case atStart => exact ⟨n, [], by first | rfl | go_num, by rfl, by simp, by simp, Mod.refl _ _⟩
  case round =>
    obtain ⟨u, t, rfl, rfl, hut, hdd, hm⟩ := hrel
    have HDD := Lib.hid hdd
    clear hdd
    by_cases h10 : u < 10
    · have hd := Lib.decDigits_one h10
      have e1 : (u : Int) < 10 := by omega
      have hx : ((UInt8.ofNat (48 + u)).toNat : Int) = 48 + (u : Int) := by rw [UInt8.toNat_ofNat']; omega
      obtain ⟨x, hX⟩ : ∃ x, x = UInt8.ofNat (48 + u) := ⟨_, rfl⟩
      rw [← hX] at hd hx
      clear hX
      have hbx := box1 wr (.cells #[.int .u8 (48 + (u : Int))] 5)
      have hrd : Rd (wr.alloc (.cells #[.int .u8 (48 + (u : Int))] 5)) 1 (some ⟨wr.heap.size, 0, none⟩) 1 (encB [x]) := by
        have h := rd_blk (sz := 1) (n := 1) hbx rfl (by decide)
        have e : (#[Value.int .u8 (48 + (u : Int))] : Array Value).toList = encB [x] := by
          show [Value.int .u8 (48 + (u : Int))] = [Value.int .u8 (x.toNat : Int)]
          rw [hx]
        rw [e] at h
        exact h
      have hcv : (convert 24 9 (.slice (some ⟨wr.heap.size, 0, none⟩) 1 1)).run Tryz.prog (wr.alloc (.cells #[.int .u8 (48 + (u : Int))] 5)) = .ok (.string (strOf [x])) (wr.alloc (.cells #[.int .u8 (48 + (u : Int))] 5)) := conv_strN (by simp) hrd
      have hsz : ¬ (9223372036854775807 < (strOf [x]).size + (strOf t).size) := by rw [strOf_size, strOf_size]; simp; omega
      have HM := Lib.hid (hm.alloc (.cells #[.int .u8 (48 + (u : Int))] 5))
      have HD := Lib.hid hd
      clear hbx hrd hd hm hx
      go_wp2_with fail
      go_ret
      refine ⟨?_, by repeat (first | exact HM.out | apply Mod.alloc)⟩
      unfold digitsB
      rw [HDD.out, HD.out, strOf_append]
      rfl
    · have hd := decDigits_big h10
      have hx := digit_toNat u
      have e1 : ¬ ((u : Int) < 10) := by omega
      obtain ⟨x, hX⟩ : ∃ x, x = UInt8.ofNat (48 + u % 10) := ⟨_, rfl⟩
      rw [← hX] at hd hx
      clear hX
      have hbx := box1 wr (.cells #[.int .u8 (48 + (u : Int) % 10)] 5)
      have hrd : Rd (wr.alloc (.cells #[.int .u8 (48 + (u : Int) % 10)] 5)) 1 (some ⟨wr.heap.size, 0, none⟩) 1 (encB [x]) := by
        have h := rd_blk (sz := 1) (n := 1) hbx rfl (by decide)
        have e : (#[Value.int .u8 (48 + (u : Int) % 10)] : Array Value).toList = encB [x] := by
          show [Value.int .u8 (48 + (u : Int) % 10)] = [Value.int .u8 (x.toNat : Int)]
          rw [hx]
        rw [e] at h
        exact h
      have hcv : (convert 24 9 (.slice (some ⟨wr.heap.size, 0, none⟩) 1 1)).run Tryz.prog (wr.alloc (.cells #[.int .u8 (48 + (u : Int) % 10)] 5)) = .ok (.string (strOf [x])) (wr.alloc (.cells #[.int .u8 (48 + (u : Int) % 10)] 5)) := conv_strN (by simp) hrd
      have hsz : ¬ (9223372036854775807 < (strOf [x]).size + (strOf t).size) := by rw [strOf_size, strOf_size]; simp; omega
      have HM := Lib.hid (hm.alloc (.cells #[.int .u8 (48 + (u : Int) % 10)] 5))
      have HD := Lib.hid hd
      clear hbx hrd hd hm hx
      go_wp2_with fail
      go_roundw
      case rel => exact ⟨u / 10, [x] ++ t, by go_num, by rw [strOf_append], by simp; omega, by rw [HDD.out, HD.out, List.append_assoc], by repeat (first | exact HM.out | apply Mod.alloc)⟩
      case measure => simp [intOf]; omega
end Go.Proofs.YtnlmfmceogbomaaGreatDoor
