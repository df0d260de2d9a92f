/- batch.Encode. -/
import Derived.Test.YtaldneffhbgepaaDoorBatC
namespace Go.Proofs.YtaldneffhbgepaaDoor
open Go.RowKit
set_option linter.unusedVariables false

/-- A batch's bytes, or why there are none. -/
def opsR (l : List Op3) : List UInt8 × Nat := if rightO l then (bytesO l, 0) else ([], 1)
/-- What stands behind j ops. -/
def outO (l : List Op3) (j : Nat) : List UInt8 := framesB ((l.take j).map recO)
theorem outO_zero (l : List Op3) : outO l 0 = [] := by simp [outO, framesB]
theorem outO_succ (l : List Op3) (j : Nat) (h : j < l.length) : outO l (j + 1) = outO l j ++ frameB (recO l[j]) := by
  unfold outO
  rw [List.take_succ_eq_append_getElem h, List.map_append, framesB_append]
  simp [framesB]
theorem outO_all (l : List Op3) : outO l l.length ++ frameB (recE l.length) = bytesO l := by
  unfold outO bytesO recsO
  rw [List.take_length, framesB_append]
  simp [framesB]
theorem outO_le {l : List Op3} (hs : SmallO l) : ∀ j, j ≤ l.length → (outO l j).length ≤ j * 1000021 := by
  intro j
  induction j with
  | zero => intro _; rw [outO_zero]; simp
  | succ j ih =>
    intro h
    have h1 := ih (by omega)
    have h2 := recO_length l[j]
    have h3 := hs l[j] (List.getElem_mem _)
    rw [outO_succ l j h, List.length_append, frameB_length, Nat.add_mul]
    omega
theorem encL_one (a : ByteArray) : (encL [a]).length = 8 + a.size := by rw [encL_length]; simp; omega
theorem encL_two (a b : ByteArray) : (encL [a, b]).length = 12 + a.size + b.size := by rw [encL_length]; simp; omega

set_option maxHeartbeats 8000000 in
set_option maxRecDepth 100000 in
theorem bencode_calls (l : List Op3) (A : Option Addr) (c : Nat) (w : World) (hr : Rd w 3 A l.length (encOs l)) (hs : SmallO l) (ht : TabW w) :
    Calls Tryd.prog 15 #[.slice A l.length c] w (BytesE (opsR l) w) := by
  have hn := hr.2.1
  have hri := bright_calls l A c w hr
  have HRI := Lib.hid hri
  clear hri
  by_cases hR : rightO l
  · rw [decide_eq_true hR] at HRI
    have ho : opsR l = (bytesO l, 0) := if_pos hR
    have HO := Lib.hid ho
    have HRR := Lib.hid hR
    have HS := Lib.hid hs
    have HT := Lib.hid ht
    have hl1 := hR.1
    clear ho hR hs ht
    go_enter Tryd.func15, Tryd.ntmps15
    go_wp2_with fail
    refine HRI.out.mono ?_
    rintro e w1 ⟨rfl, hm1⟩
    go_wp2_with fail
    obtain ⟨q, hq⟩ : ∃ q, q = w1.heap.size := ⟨_, rfl⟩
    have hq0 := box1 w1 (.cells #[.slice none 0 0] 26)
    have hm2 := hm1.alloc (.cells #[.slice none 0 0] 26)
    have hqN : w.heap.size ≤ q := by rw [hq]; exact hm1.size
    rw [← hq] at hq0 ⊢
    generalize w1.alloc (.cells #[.slice none 0 0] 26) = w2 at hq0 hm2 ⊢
    clear hq hm1
    go_loopw [16] (fun i wr => ∃ (j : Nat) (v : Value), i = .int .i64 j ∧ j ≤ l.length ∧ wr.heap[q]? = some (.cells #[v] 26 (0, 0)) ∧ Own wr 5 1 v (outO l j).length (encB (outO l j)) ∧ Mod NoneB w wr ∧ (∀ g, v.ownBlock = some g → w.heap.size ≤ g)) (fun i _ => l.length - (intOf i).toNat)
    case atStart => exact ⟨0, _, rfl, by omega, hq0, by rw [outO_zero]; exact Own.nil _ _ _, hm2, fun g h => by simp [Value.ownBlock] at h⟩
    case round =>
      obtain ⟨j, v, rfl, hj, hqr, hor, hmr, hnr⟩ := hrel
      have hole := outO_le HS.out j hj
      have hj1 : j * 1000021 ≤ 1000 * 1000021 := Nat.mul_le_mul_right _ (by omega)
      clear hq0 hm2
      by_cases hlt : j < l.length
      · obtain ⟨ad, rfl, h0, h1, h2⟩ := (hr.mod0 hmr).op j hlt
        have hsu := outO_succ l j hlt
        have hsm := HS.out l[j] (List.getElem_mem _)
        have hri := HRR.out.2 l[j] (List.getElem_mem _)
        obtain ⟨o, hoo⟩ : ∃ o, o = l[j] := ⟨_, rfl⟩
        rw [← hoo] at h0 h1 h2 hsu hsm hri
        obtain ⟨out, hout⟩ : ∃ out, out = outO l j := ⟨_, rfl⟩
        rw [← hout] at hor hsu hole
        have HSU := Lib.hid hsu
        clear hoo hout hsu
        cases hd : o.del with
        | true =>
          have hv := hri hd
          have hre : recO o = 100 :: encL [o.k] := by unfold recO; rw [if_pos hd]
          rw [hd] at h0
          rw [hre] at HSU
          have hel := encL_one o.k
          obtain ⟨X1, hX1⟩ : ∃ X, X = Obj.cells #[.bool true, .string o.k, .string o.v] 67 := ⟨_, rfl⟩
          obtain ⟨bx0, bx1⟩ := box2 wr X1 (.cells #[.string o.k] 9)
          have hal : Mod NoneB wr ((wr.alloc X1).alloc (.cells #[.string o.k] 9)) := ((Mod.refl NoneB wr).alloc _).alloc _
          have hts : Rd ((wr.alloc X1).alloc (.cells #[.string o.k] 9)) 1 (some ⟨wr.heap.size + 1, 0, none⟩) 1 (encTs [o.k]) := rd_blk bx1 rfl (by omega)
          have hrec := record_calls 100 [o.k] 1 _ 1 _ rfl hts (by simp) (fun s hs => by rw [List.mem_singleton] at hs; subst hs; omega) (by omega)
          have HREC := Lib.hid hrec
          have hqa := hal.blk hqr (fun h => h)
          have hora := hor.mod0 hal
          have hmra := hmr.then0 hal
          clear hri hv hre hrec hts bx0 bx1
          rw [hX1] at HREC hqa hora hmra hal
          clear hX1
          go_wp2_with fail
          refine HREC.out.mono ?_
          rintro e w5 ⟨v5, rfl, ho5, hm5, hn5⟩
          obtain ⟨B, bc, rfl, hrb⟩ := ho5.nilD0
          have hfl : (frameB (100 :: encL [o.k])).length ≤ 8 + (1 + (8 + o.k.size)) := by rw [frameB_length, List.length_cons, hel]; omega
          obtain ⟨fb, hfb⟩ : ∃ fb, fb = frameB (100 :: encL [o.k]) := ⟨_, rfl⟩
          simp only [← hfb] at hrb hfl HSU ⊢
          have hput := bput_calls out fb fb.length v q B bc 0 w5 rfl (hm5.blk hqa (fun h => h)) (hora.mod0 hm5) hrb (by omega)
          have HPUT := Lib.hid hput
          have HM5 := Lib.hid (hmra.then0 hm5)
          clear hput hrb ho5 hn5 hm5 hqa hora hmra hal hfb hor hqr hmr hel HREC
          go_wp2_with fail
          refine HPUT.out.mono ?_
          rintro e w6 ⟨rfl, v6, hq6, ho6, hm6, hno6⟩
          have hn6 : ∀ g, v6.ownBlock = some g → w.heap.size ≤ g := fun g hg => by
            rcases hno6 with h | ⟨b, h, hb⟩
            · exact hnr g (by rw [← h]; exact hg)
            · rw [h] at hg; injection hg with hg; have := HM5.out.size; omega
          have hm6w : Mod NoneB w w6 := HM5.out.trans_new hm6 (fun k hk => .inr (hk.elim (fun h => by rw [h]; exact hqN) (hnr k)))
          have HR6 := Lib.hid (And.intro hq6 (And.intro ho6 (And.intro hm6w hn6)))
          clear hq6 ho6 hm6 hno6 hn6 hm6w HPUT HM5 hnr
          go_wp2_with fail
          go_roundw
          case rel => exact ⟨j + 1, v6, by go_num, by omega, HR6.out.1, by rw [HSU.out]; exact HR6.out.2.1, HR6.out.2.2.1, HR6.out.2.2.2⟩
          case measure => simp [intOf]; omega
        | false =>
          have hre : recO o = 112 :: encL [o.k, o.v] := by unfold recO; rw [if_neg (by rw [hd]; decide)]
          rw [hd] at h0
          rw [hre] at HSU
          have hel := encL_two o.k o.v
          obtain ⟨X1, hX1⟩ : ∃ X, X = Obj.cells #[.bool false, .string o.k, .string o.v] 67 := ⟨_, rfl⟩
          obtain ⟨bx0, bx1⟩ := box2 wr X1 (.cells #[.string o.k, .string o.v] 9)
          have hal : Mod NoneB wr ((wr.alloc X1).alloc (.cells #[.string o.k, .string o.v] 9)) := ((Mod.refl NoneB wr).alloc _).alloc _
          have hts : Rd ((wr.alloc X1).alloc (.cells #[.string o.k, .string o.v] 9)) 1 (some ⟨wr.heap.size + 1, 0, none⟩) 2 (encTs [o.k, o.v]) := rd_blk bx1 rfl (by omega)
          have hrec := record_calls 112 [o.k, o.v] 2 _ 2 _ rfl hts (by simp) (fun s hs => by simp at hs; rcases hs with rfl | rfl <;> omega) (by omega)
          have HREC := Lib.hid hrec
          have hqa := hal.blk hqr (fun h => h)
          have hora := hor.mod0 hal
          have hmra := hmr.then0 hal
          clear hri hre hrec hts bx0 bx1
          rw [hX1] at HREC hqa hora hmra hal
          clear hX1
          go_wp2_with fail
          refine HREC.out.mono ?_
          rintro e w5 ⟨v5, rfl, ho5, hm5, hn5⟩
          obtain ⟨B, bc, rfl, hrb⟩ := ho5.nilD0
          have hfl : (frameB (112 :: encL [o.k, o.v])).length ≤ 8 + (1 + (12 + o.k.size + o.v.size)) := by rw [frameB_length, List.length_cons, hel]; omega
          obtain ⟨fb, hfb⟩ : ∃ fb, fb = frameB (112 :: encL [o.k, o.v]) := ⟨_, rfl⟩
          simp only [← hfb] at hrb hfl HSU ⊢
          have hput := bput_calls out fb fb.length v q B bc 0 w5 rfl (hm5.blk hqa (fun h => h)) (hora.mod0 hm5) hrb (by omega)
          have HPUT := Lib.hid hput
          have HM5 := Lib.hid (hmra.then0 hm5)
          clear hput hrb ho5 hn5 hm5 hqa hora hmra hal hfb hor hqr hmr hel HREC
          go_wp2_with fail
          refine HPUT.out.mono ?_
          rintro e w6 ⟨rfl, v6, hq6, ho6, hm6, hno6⟩
          have hn6 : ∀ g, v6.ownBlock = some g → w.heap.size ≤ g := fun g hg => by
            rcases hno6 with h | ⟨b, h, hb⟩
            · exact hnr g (by rw [← h]; exact hg)
            · rw [h] at hg; injection hg with hg; have := HM5.out.size; omega
          have hm6w : Mod NoneB w w6 := HM5.out.trans_new hm6 (fun k hk => .inr (hk.elim (fun h => by rw [h]; exact hqN) (hnr k)))
          have HR6 := Lib.hid (And.intro hq6 (And.intro ho6 (And.intro hm6w hn6)))
          clear hq6 ho6 hm6 hno6 hn6 hm6w HPUT HM5 hnr
          go_wp2_with fail
          go_roundw
          case rel => exact ⟨j + 1, v6, by go_num, by omega, HR6.out.1, by rw [HSU.out]; exact HR6.out.2.1, HR6.out.2.2.1, HR6.out.2.2.2⟩
          case measure => simp [intOf]; omega
      · obtain rfl : j = l.length := by omega
        have hall := outO_all l
        have HALL := Lib.hid hall
        have hit := itoa_calls l.length wr (by omega) (HT.out.mod0 hmr)
        have HIT := Lib.hid hit
        obtain ⟨out, hout⟩ : ∃ out, out = outO l l.length := ⟨_, rfl⟩
        rw [← hout] at hor hole HALL
        clear hall hit hout
        go_wp2_with fail
        refine HIT.out.mono ?_
        rintro e w3 ⟨rfl, hm3⟩
        have hdz := digitsB_size_le (n := l.length) (by omega)
        have hre : recE l.length = 99 :: encL [digitsB l.length] := rfl
        rw [hre] at HALL
        obtain ⟨s, hss⟩ : ∃ s, s = digitsB l.length := ⟨_, rfl⟩
        rw [← hss] at hdz HALL ⊢
        have hel := encL_one s
        have hbx := box1 w3 (.cells #[.string s] 9)
        have hal : Mod NoneB wr (w3.alloc (.cells #[.string s] 9)) := hm3.alloc _
        have hts : Rd (w3.alloc (.cells #[.string s] 9)) 1 (some ⟨w3.heap.size, 0, none⟩) 1 (encTs [s]) := rd_blk hbx rfl (by omega)
        have hrec := record_calls 99 [s] 1 _ 1 _ rfl hts (by simp) (fun t hs => by rw [List.mem_singleton] at hs; subst hs; omega) (by omega)
        have HREC := Lib.hid hrec
        have hqa := hal.blk hqr (fun h => h)
        have hora := hor.mod0 hal
        have hmra := hmr.then0 hal
        clear hre hrec hts hbx hss HIT hm3
        go_wp2_with fail
        refine HREC.out.mono ?_
        rintro e w5 ⟨v5, rfl, ho5, hm5, hn5⟩
        obtain ⟨B, bc, rfl, hrb⟩ := ho5.nilD0
        have hfl : (frameB (99 :: encL [s])).length ≤ 8 + (1 + (8 + s.size)) := by rw [frameB_length, List.length_cons, hel]; omega
        obtain ⟨fb, hfb⟩ : ∃ fb, fb = frameB (99 :: encL [s]) := ⟨_, rfl⟩
        simp only [← hfb] at hrb hfl HALL ⊢
        have hput := bput_calls out fb fb.length v q B bc 0 w5 rfl (hm5.blk hqa (fun h => h)) (hora.mod0 hm5) hrb (by omega)
        have HPUT := Lib.hid hput
        have HM5 := Lib.hid (hmra.then0 hm5)
        clear hput hrb ho5 hn5 hm5 hqa hora hmra hal hfb hor hqr hmr hel HREC
        go_wp2_with fail
        refine HPUT.out.mono ?_
        rintro e w6 ⟨rfl, v6, hq6, ho6, hm6, hno6⟩
        have hn6 : ∀ g, v6.ownBlock = some g → w.heap.size ≤ g := fun g hg => by
          rcases hno6 with h | ⟨b, h, hb⟩
          · exact hnr g (by rw [← h]; exact hg)
          · rw [h] at hg; injection hg with hg; have := HM5.out.size; omega
        have hm6w : Mod NoneB w w6 := HM5.out.trans_new hm6 (fun k hk => .inr (hk.elim (fun h => by rw [h]; exact hqN) (hnr k)))
        have y6 : w6.cell? ⟨q, 0, none⟩ = some v6 := by rw [blk_cell hq6]; rfl
        have HR6 := Lib.hid (And.intro ho6 (And.intro hm6w hn6))
        clear hq6 ho6 hm6 hno6 hn6 hm6w HPUT HM5 hnr
        go_wp2_with fail
        go_ret2
        rw [HO.out]
        exact ⟨_, rfl, by rw [← HALL.out]; exact HR6.out.1, HR6.out.2.1, HR6.out.2.2⟩
  · rw [decide_eq_false hR] at HRI
    have ho : opsR l = ([], 1) := if_neg hR
    have HO := Lib.hid ho
    clear ho hR hs ht
    go_enter Tryd.func15, Tryd.ntmps15
    go_wp2_with fail
    refine HRI.out.mono ?_
    rintro e w1 ⟨rfl, hm1⟩
    go_wp2_with fail
    go_ret2
    rw [HO.out]
    exact ⟨_, rfl, Own.nil _ _ _, hm1, fun g h => by simp [Value.ownBlock] at h⟩
end Go.Proofs.YtaldneffhbgepaaDoor

