/- Batches: batch.Right, record, Encode. -/
import Derived.Test.YtaldneffhbgepaaDoorCodec
import Derived.Test.YtaldneffhbgepaaDoorBat
import Derived.Test.YtaldneffhbgepaaDoorItoa
import Derived.Test.YtaldneffhbgepaaDoorPlain
import Derived.Test.YtaldneffhbgepaaDoorTabA
import Derived.Test.YtaldneffhbgepaaDoorDkOpsA
namespace Go.Proofs.YtaldneffhbgepaaDoor
open Go.RowKit
set_option linter.unusedVariables false

/-- The library's table of tens, as the row lays it. -/
def TabW (w : World) : Prop := Lib.TabIs Tryd.prog w "internal/strconv.uint64pow10" .u64 Lib.pow10Tab
theorem TabW.mod {S : Nat → Prop} {w w1 : World} (h : TabW w) (hm : Mod S w w1) (hs : ∀ k, k < 64 → ¬ S k) : TabW w1 := by
  have hg : Tryd.prog.globalNamed "internal/strconv.uint64pow10" = some 1 := by kernel_rfl
  unfold TabW Lib.TabIs World.var? at *
  rw [hg] at h ⊢
  simp only [Option.bind_some] at h ⊢
  have hlt : 1 < w.heap.size := by
    cases hq : w.heap[1]? with
    | none => rw [hq] at h; cases h
    | some o => exact (Array.getElem?_eq_some_iff.1 hq).1
  rw [hm.block _ hlt (hs _ (by decide))]
  exact h
theorem TabW.mod0 {w w1 : World} (h : TabW w) (hm : Mod NoneB w w1) : TabW w1 := h.mod hm (fun _ _ h => h)
theorem grow_mod (w : World) (os : Array Obj) (k : Nat) : Mod NoneB w (Sort.grow (w.drewN k) os) :=
  ⟨rfl, rfl, rfl, by simp [Sort.grow], fun i hi _ => by show (w.heap ++ os)[i]? = w.heap[i]?; exact Array.getElem?_append_left hi⟩
/-- A number's digits. -/
theorem itoa_calls (n : Nat) (w : World) (hn : n ≤ 1000000) (ht : TabW w) :
    Calls Tryd.prog 41 #[.int .i64 n] w fun e w' => e = .returned (.string (digitsB n)) ∧ Mod NoneB w w' := by
  refine (strconv_Itoa n (by omega) (by omega) w ht).mono ?_
  rintro e w1 ⟨rfl, k, os, rfl⟩
  refine ⟨?_, grow_mod w os k⟩
  rw [Lib.itoa_nonneg]
  rfl
def notNil (s : ByteArray) : Bool := decide (s ≠ ⟨#[]⟩)
/-- What must not be in a batch. -/
def BadO (o : Op3) : Prop := o.del = true ∧ o.v ≠ ⟨#[]⟩
instance (o : Op3) : Decidable (BadO o) := by unfold BadO; exact inferInstance

set_option maxHeartbeats 2000000 in
set_option maxRecDepth 100000 in
theorem bright_calls (l : List Op3) (A : Option Addr) (c : Nat) (w : World) (hr : Rd w 3 A l.length (encOs l)) :
    Calls Tryd.prog 19 #[.slice A l.length c] w fun e w' => e = .returned (.bool (decide (rightO l))) ∧ Mod NoneB w w' := by
  have hn := hr.2.1
  go_enter Tryd.func19, Tryd.ntmps19
  go_wp2_with fail
  go_loopw [7] (fun i wr => ∃ j : Nat, i = .int .i64 j ∧ j ≤ l.length ∧ (∀ o ∈ l.take j, ¬ BadO o) ∧ Mod NoneB w wr) (fun i _ => l.length - (intOf i).toNat)
  case atStart => exact ⟨0, rfl, by omega, fun o ho => by simp at ho, Mod.refl _ _⟩
  case round =>
    obtain ⟨j, rfl, hj, hno, hm⟩ := hrel
    have HNO := Lib.hid hno
    clear hno
    by_cases hlt : j < l.length
    · obtain ⟨ad, rfl, h0, h1, h2⟩ := (hr.mod0 hm).op j hlt
      have htk : l.take (j + 1) = l.take j ++ [l[j]] := List.take_succ_eq_append_getElem hlt
      have hmem : l[j] ∈ l := List.getElem_mem _
      obtain ⟨o, ho⟩ : ∃ o, o = l[j] := ⟨_, rfl⟩
      rw [← ho] at h0 h1 h2 htk hmem
      have HTK := Lib.hid htk
      have HMEM := Lib.hid hmem
      have hal := hm.alloc (.cells #[.bool o.del, .string o.k, .string o.v] 67)
      clear ho htk hmem
      by_cases hb : BadO o
      · have hbd : decide (rightO l) = false := decide_eq_false (fun h => hb.2 (h.2 o HMEM.out hb.1))
        have b1 : o.v.toList.isEmpty = false := by rw [isEmpty_toList]; exact decide_eq_false hb.2
        have hd := hb.1
        rw [hd] at h0
        have HBD := Lib.hid hbd
        clear hb hbd hd
        go_wp2_with fail
        go_ret
        exact ⟨by rw [HBD.out]; rfl, by repeat (first | exact hm | exact hal | apply Mod.alloc)⟩
      · have HB := Lib.hid hb
        cases hd : o.del with
        | false =>
          rw [hd] at h0
          clear hb hd
          go_wp2_with fail
          go_roundw
          case rel =>
            refine ⟨j + 1, by go_num, by omega, fun x hx => ?_, by repeat (first | exact hm | exact hal | apply Mod.alloc)⟩
            rw [HTK.out] at hx
            rcases List.mem_append.1 hx with hx | hx
            · exact HNO.out x hx
            · rw [List.mem_singleton] at hx; rw [hx]; exact HB.out
          case measure => simp [intOf]; omega
        | true =>
          have hv : o.v = ⟨#[]⟩ := Classical.byContradiction fun h => hb ⟨hd, h⟩
          have b1 : o.v.toList.isEmpty = true := by rw [isEmpty_toList]; exact decide_eq_true hv
          rw [hd] at h0
          clear hb hd hv
          go_wp2_with fail
          go_roundw
          case rel =>
            refine ⟨j + 1, by go_num, by omega, fun x hx => ?_, by repeat (first | exact hm | exact hal | apply Mod.alloc)⟩
            rw [HTK.out] at hx
            rcases List.mem_append.1 hx with hx | hx
            · exact HNO.out x hx
            · rw [List.mem_singleton] at hx; rw [hx]; exact HB.out
          case measure => simp [intOf]; omega
    · have hall : ∀ o ∈ l, ¬ BadO o := by
        have h := HNO.out
        rwa [List.take_of_length_le (by omega)] at h
      have hd : decide (rightO l) = decide (l.length ≤ 1000) := by
        by_cases h : l.length ≤ 1000
        · rw [decide_eq_true h]
          exact decide_eq_true ⟨h, fun o ho hdel => Classical.byContradiction fun hv => hall o ho ⟨hdel, hv⟩⟩
        · rw [decide_eq_false h]
          exact decide_eq_false (fun hh => h hh.1)
      have HD := Lib.hid hd
      clear hall hd
      go_wp2_with fail
      go_ret
      exact ⟨by rw [HD.out]; first | rfl | (congr 2; simp; omega), hm⟩

set_option maxHeartbeats 4000000 in
set_option maxRecDepth 100000 in
theorem record_calls (k : UInt8) (ts : List ByteArray) (n : Nat) (A : Option Addr) (c : Nat) (w : World) (hn : ts.length = n) (hr : Rd w 1 A n (encTs ts)) (hl : ts.length < 4294967296) (hs : ∀ s ∈ ts, s.size < 4294967296) (hsz : (encL ts).length ≤ 1048575) :
    Calls Tryd.prog 40 #[.int .u8 k.toNat, .slice A n c] w (BytesE (frameB (k :: encL ts), 0) w) := by
  subst hn
  have hu := Tryd.underlying26
  have hen : ∀ W, Mod NoneB w W → Calls Tryd.prog 65 #[.slice A ts.length c] W fun e w' => ∃ v, e = .returned v ∧ Own w' 5 1 v (encL ts).length (encB (encL ts)) ∧ Mod NoneB W w' ∧ (∀ g, v.ownBlock = some g → W.heap.size ≤ g) :=
    fun W hm => encode_calls ts A c W (hr.mod0 hm) hl hs (by omega)
  have HEN := Lib.hid hen
  obtain ⟨b, hb⟩ : ∃ b, b = encL ts := ⟨_, rfl⟩
  rw [← hb] at HEN hsz ⊢
  clear hen hb hs hl
  have h1 : (1 + b.length) * 1 ≤ 140737488355328 := by omega
  have hfr := frameR_ok (p := k :: b) (by simp; omega)
  have HFR := Lib.hid hfr
  have hm1 : Mod NoneB w (w.alloc (.cells #[.int .u8 k.toNat] 5)) := (Mod.refl NoneB w).alloc _
  have hbx := box1 w (.cells #[.int .u8 k.toNat] 5)
  have ho1 : Own (w.alloc (.cells #[.int .u8 k.toNat] 5)) 5 1 (.slice (some ⟨w.heap.size, 0, none⟩) 1 1) 1 (encB [k]) := Own.of_blk (cap := 1) hbx (by omega) (by omega) rfl rfl
  clear hbx hfr
  go_enter Tryd.func40, Tryd.ntmps40
  go_wp2_with fail
  refine (HEN.out _ hm1).mono ?_
  rintro e w2 ⟨v2, rfl, ho2, hm2, hn2⟩
  obtain ⟨B, bc, rfl, hrb⟩ := ho2.nilD0
  have ho12 := ho1.mod0 hm2
  have hnx := hrb.2.2
  have hlen : (encB b).length = b.length * 1 := by rw [encB_length, Nat.mul_one]
  go_wp2_with (at_builtin; refine wpList_append rfl (.tmp 7) (.tmp 9) 26 rfl 5 _ 1 1 hu tiB rfl (by decide) (by decide) _ 1 (encB [k]) rfl ho12 B b.length bc (encB b) rfl hlen hnx (encB_one _) h1 ?_)
  intro v3 w3 ho3 hm3 hno3
  obtain ⟨A3, c3, rfl, _, _, hr3⟩ := ho3.out
  have he3 : encB [k] ++ encB b = encB (k :: b) := by simp [encB]
  have hr3' : Rd w3 1 A3 (k :: b).length (encB (k :: b)) := by
    rw [← he3, List.length_cons, Nat.add_comm]
    exact hr3
  have hm13 : Mod NoneB w w3 := (hm1.then0 hm2).trans_new hm3 (fun g hg => .inr (by
    have e := Option.some.inj (show some w.heap.size = some g from hg)
    omega))
  have hfc : Calls Tryd.prog 64 #[.slice A3 (1 + b.length) c3] w3 (BytesE (frameB (k :: b), 0) w3) := by
    have h := frame_calls (k :: b) A3 c3 w3 hr3'
    rw [HFR.out, List.length_cons, Nat.add_comm] at h
    exact h
  have HFC := Lib.hid hfc
  have HM := Lib.hid hm13
  clear ho1 ho12 ho2 hrb hnx hlen hm1 hm2 hn2 ho3 hm3 hno3 hr3 he3 hr3' hm13 hfc HEN h1 hr
  go_wp2_with fail
  refine HFC.out.mono ?_
  rintro e w4 ⟨v4, rfl, ho4, hm4, hn4⟩
  have HO4 := Lib.hid ho4
  have HN4 := Lib.hid hn4
  clear ho4 hn4
  go_wp2_with fail
  go_ret2
  exact ⟨_, rfl, HO4.out, HM.out.then0 hm4, fun g hg => Nat.le_trans HM.out.size (HN4.out g hg)⟩

set_option maxHeartbeats 4000000 in
set_option maxRecDepth 100000 in
/-- Encode's own 'put': behind what is there. -/
theorem bput_calls (out b : List UInt8) (n : Nat) (v : Value) (q : Nat) (B : Option Addr) (bc : Nat) (er : Int) (w : World) (hn : b.length = n) (hq : w.heap[q]? = some (.cells #[v] 26 (0, 0))) (ho : Own w 5 1 v out.length (encB out)) (hb : Rd w 1 B n (encB b)) (hsz : out.length + b.length ≤ 70368744177664) :
    Calls Tryd.prog 39 #[.slice B n bc, .int .i64 er, .pointer (some ⟨q, 0, none⟩)] w fun e w' => e = .returned (.int .i64 er) ∧
      ∃ v', w'.heap[q]? = some (.cells #[v'] 26 (0, 0)) ∧ Own w' 5 1 v' (out ++ b).length (encB (out ++ b)) ∧ Mod (fun k => k = q ∨ v.ownBlock = some k) w w' ∧ NewOr w v v' := by
  subst hn
  have hu := Tryd.underlying26
  obtain ⟨A, c, rfl, _⟩ := ho.nilD0
  have y0 : w.cell? ⟨q, 0, none⟩ = some (.slice A out.length c) := by rw [blk_cell hq]; rfl
  have hne : ∀ g, (Value.slice A out.length c).ownBlock = some g → g ≠ q := fun g hg => by
    obtain ⟨cur, hc⟩ := ho.tag0 hg
    exact tag_ne0 hc hq (by decide)
  have h1 : (out.length + b.length) * 1 ≤ 140737488355328 := by omega
  have hnx := hb.2.2
  have hlen : (encB b).length = b.length * 1 := by rw [encB_length, Nat.mul_one]
  have HNE := Lib.hid hne
  have HQ := Lib.hid hq
  clear hne hq
  go_enter Tryd.func39, Tryd.ntmps39
  go_wp2_with (at_builtin; refine wpList_append rfl (.tmp 6) (.tmp 7) 26 rfl 5 _ 1 1 hu tiB rfl (by decide) (by decide) _ out.length (encB out) rfl ho B b.length bc (encB b) rfl hlen hnx (encB_one _) h1 ?_)
  intro v3 w3 ho3 hm3 hno3
  obtain ⟨A3, c3, rfl, _⟩ := ho3.out
  have hq3 : w3.heap[q]? = some (.cells #[.slice A out.length c] 26 (0, 0)) := hm3.blk HQ.out (fun h => HNE.out q h rfl)
  have f3 : w3.frozen? ⟨q, 0, none⟩ = false := blk_frozen hq3 0
  have z3 : w3.cell? ⟨q, 0, none⟩ = some (.slice A out.length c) := by rw [blk_cell hq3]; rfl
  have hm4 : Mod (fun k => k = q ∨ (Value.slice A out.length c).ownBlock = some k) w (w3.setCell ⟨q, 0, none⟩ (.slice A3 (out.length + b.length) c3)) :=
    (hm3.mono (S' := fun k => k = q ∨ (Value.slice A out.length c).ownBlock = some k) (fun k _ h => .inr h)).setCell (p := ⟨q, 0, none⟩) (fun _ => .inl rfl) _
  have hb4 : (w3.setCell ⟨q, 0, none⟩ (.slice A3 (out.length + b.length) c3)).heap[q]? = some (.cells #[.slice A3 (out.length + b.length) c3] 26 (0, 0)) := (setCell_blk0 hq3).trans rfl
  have ho4 : Own (w3.setCell ⟨q, 0, none⟩ (.slice A3 (out.length + b.length) c3)) 5 1 (.slice A3 (out.length + b.length) c3) (out ++ b).length (encB (out ++ b)) := by
    have h := ho3.mod ((Mod.refl (fun k => k = q) w3).setCell (p := ⟨q, 0, none⟩) (fun _ => rfl) (.slice A3 (out.length + b.length) c3)) (fun g hg e => by
      obtain ⟨cur, hc⟩ := ho3.tag0 hg
      exact tag_ne0 hc hq3 (by decide) e)
    rw [List.length_append]
    have e : encB (out ++ b) = encB out ++ encB b := by simp [encB]
    rw [e]
    exact h
  have HR := Lib.hid (And.intro hb4 (And.intro ho4 (And.intro hm4 hno3)))
  clear hb4 ho4 hm4 hno3 ho3 hm3 hq3 ho hb hnx hlen h1 y0
  go_wp2_with fail
  go_ret
  exact ⟨rfl, _, HR.out.1, HR.out.2.1, HR.out.2.2.1, HR.out.2.2.2⟩
end Go.Proofs.YtaldneffhbgepaaDoor

