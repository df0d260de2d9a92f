/- The document's Sort. -/
import Derived.Test.YtdmdiokfpbmnaaaDoorDaX
namespace Go.Proofs.YtdmdiokfpbmnaaaDoor
open Go.RowKit
set_option linter.unusedVariables false

theorem ins_rises {R : List Dg} {x : Dg} {a : Nat} (h : RisesD R) (h1 : ∀ y ∈ R.take a, ltD y x) (h2 : ∀ y ∈ R.drop a, ltD x y) : RisesD (R.take a ++ x :: R.drop a) := by
  unfold RisesD at *
  rw [← List.take_append_drop a R, List.pairwise_append] at h
  refine List.pairwise_append.2 ⟨h.1, List.pairwise_cons.2 ⟨h2, h.2.1⟩, fun y hy z hz => ?_⟩
  rcases List.mem_cons.1 hz with rfl | hz
  · exact h1 y hy
  · exact h.2.2 y hy z hz
theorem ins_sort {l R : List Dg} {j a : Nat} (hj : j < l.length) (h : SortD (l.take j) R) (h1 : ∀ y ∈ R.take a, ltD y l[j]) (h2 : ∀ y ∈ R.drop a, ltD l[j] y) : SortD (l.take (j + 1)) (R.take a ++ l[j] :: R.drop a) := by
  refine ⟨ins_rises h.1 h1 h2, fun y => ?_⟩
  have e : y ∈ l.take (j + 1) ↔ y ∈ R ∨ y = l[j] := by rw [List.take_succ_eq_append_getElem hj, List.mem_append, List.mem_singleton, h.2 y]
  rw [e, List.mem_append, List.mem_cons]
  constructor
  · rintro (h | h | h)
    · exact .inl (List.mem_of_mem_take h)
    · exact .inr h
    · exact .inl (List.mem_of_mem_drop h)
  · rintro (h | h)
    · rw [← List.take_append_drop a R] at h
      rcases List.mem_append.1 h with h | h
      · exact .inl h
      · exact .inr (.inr h)
    · exact .inr (.inl h)
theorem ins_old {l R : List Dg} {j : Nat} (hj : j < l.length) (h : SortD (l.take j) R) (h1 : l[j] ∈ R) : SortD (l.take (j + 1)) R := by
  refine ⟨h.1, fun y => ?_⟩
  rw [List.take_succ_eq_append_getElem hj, List.mem_append, List.mem_singleton, ← h.2 y]
  constructor
  · exact .inl
  · rintro (h2 | rfl)
    · exact h2
    · exact h1
def SoR (l : List Dg) (w : World) (e : Ending) (w' : World) : Prop :=
  ∃ A s c, e = .returned (.slice A s.length c) ∧ SortD l s ∧ Rd w' 4 A s.length (encDs s) ∧ Mod NoneB w w'
set_option maxHeartbeats 16000000 in
set_option maxRecDepth 100000 in
theorem rsort_calls (l : List Dg) (A : Option Addr) (c : Nat) (w : World) (hr : Rd w 4 A l.length (encDs l)) (hb : l.length ≤ 1000) :
    Calls Tryd.prog 19 #[.slice A l.length c] w (SoR l w) := by
  have hus := Tryd.underlying22
  go_enter Tryd.func19, Tryd.ntmps19
  go_wp2_with fail
  go_loopw [3, 4, 5, 6] (fun o i _ _ wr => ∃ (j : Nat) (R : List Dg), i = .int .i64 j ∧ j ≤ l.length ∧ Own wr 27 4 o R.length (encDs R) ∧ SortD (l.take j) R ∧ R.length ≤ j ∧ Mod NoneB w wr ∧ (∀ g, o.ownBlock = some g → w.heap.size ≤ g)) (fun _ i _ _ _ => l.length - (intOf i).toNat)
  case atStart => exact ⟨0, [], rfl, by omega, Own.nil _ _ _, ⟨List.Pairwise.nil, fun x => by simp⟩, by simp, Mod.refl _ _, fun g h => by simp [Value.ownBlock] at h⟩
  case round =>
    obtain ⟨j, R, rfl, hj, own, hso, hRl, mod, new⟩ := hrel
    by_cases hlt : j < l.length
    · obtain ⟨ad, rfl, p0, p1, p2, p3⟩ := hr.dg j hlt
      have hadl : ad.block < w.heap.size := hr.block_lt (by decide) (by omega) ad rfl
      have hins := fun a h1 h2 => ins_sort (a := a) hlt hso h1 h2
      have hold := ins_old hlt hso
      obtain ⟨x, hx⟩ : ∃ x, x = l[j] := ⟨_, rfl⟩
      rw [← hx] at p0 p1 p2 p3 hold
      have hins2 : ∀ a, (∀ y ∈ R.take a, ltD y x) → (∀ y ∈ R.drop a, ltD x y) → SortD (l.take (j + 1)) (R.take a ++ x :: R.drop a) := by
        rw [hx]
        exact hins
      have HNEW := Lib.hid new
      have HIN2 := Lib.hid hins2
      have HOLD := Lib.hid hold
      have HRI := Lib.hid hso.1
      have OWN := Lib.hid own
      obtain ⟨Ao, co, rfl, hco, _, hR⟩ := own.out
      have HR := Lib.hid hR
      have g1 : (j : Int) < l.length := by omega
      have g0 : (0 : Int) ≤ j := by omega
      clear hx hins hold hins2 new hso own hR
      go_wp2_with fail
      obtain ⟨wO, hwO⟩ : ∃ w, w = wr := ⟨_, rfl⟩
      subst hwO
      go_loopw [5] (fun a wr => ∃ a' : Nat, a = .int .i64 a' ∧ a' ≤ R.length ∧ (∀ y ∈ R.take a', ltD y x) ∧ Mod NoneB wO wr) (fun a _ => R.length - (intOf a).toNat)
      case atStart => exact ⟨0, rfl, by omega, fun y hy => by simp at hy, Mod.refl _ _⟩
      case round =>
        obtain ⟨a, rfl, ha, hlo, hmO⟩ := hrel
        have HLO := Lib.hid hlo
        clear hlo
        by_cases hal : a < R.length
        · obtain ⟨adr, rfl, q0, q1, q2, q3⟩ := HR.out.dg a hal
          have htk : ∀ y, y ∈ R.take (a + 1) → y ∈ R.take a ∨ y = R[a] := by
            intro y hy
            rw [List.take_succ_eq_append_getElem hal, List.mem_append, List.mem_singleton] at hy
            exact hy
          have hdr : R.drop a = R[a] :: R.drop (a + 1) := List.drop_eq_getElem_cons hal
          have hmem : R[a] ∈ R := List.getElem_mem hal
          have hris : ∀ y ∈ R.drop (a + 1), ltD R[a] y := by
            have h := HRI.out
            unfold RisesD at h
            rw [← List.take_append_drop a R, List.pairwise_append, hdr, List.pairwise_cons] at h
            exact h.2.1.1
          obtain ⟨y, hy⟩ : ∃ y, y = R[a] := ⟨_, rfl⟩
          rw [← hy] at q0 q1 q2 q3 htk hdr hmem hris
          have hq0 := hmO.cell0 q0
          have hq1 := hmO.cell0 q1
          have hq2 := hmO.cell0 q2
          have hq3 := hmO.cell0 q3
          have hp0 := (mod.then0 hmO).cell0 p0
          have hp1 := (mod.then0 hmO).cell0 p1
          have hp2 := (mod.then0 hmO).cell0 p2
          have hp3 := (mod.then0 hmO).cell0 p3
          have hb1 : (ad.add (j * 4)).block = ad.block := by unfold Addr.add; split <;> rfl
          have hb2 : (adr.add (a * 4)).block = adr.block := by unfold Addr.add; split <;> rfl
          have hmd : Mod NoneB wr wr.drew := (Mod.refl _ _).drew
          have s0 := hmd.cell0 hp0
          have s1 := hmd.cell0 hp1
          have s2 := hmd.cell0 hp2
          have s3 := hmd.cell0 hp3
          have t0 := hmd.cell0 hq0
          have t1 := hmd.cell0 hq1
          have t2 := hmd.cell0 hq2
          have t3 := hmd.cell0 hq3
          rw [hb1] at s1 s2 s3
          rw [hb2] at t1 t2 t3
          have HL := Lib.hid (fun W => rless_calls y x W)
          obtain ⟨bt, hbt⟩ : ∃ bt, bt = decide (ltD y x) := ⟨_, rfl⟩
          rw [← hbt] at HL
          have HBT := Lib.hid hbt
          have HTK := Lib.hid htk
          have HDR := Lib.hid hdr
          have HMEM := Lib.hid hmem
          have HRIS := Lib.hid hris
          have i1 : (0 : Int) ≤ a := by omega
          have i2 : (a : Int) < R.length := by omega
          clear hy htk hdr hmem hris hbt
          go_wp2_with fail
          go_region_held3 (fun w' => (w'.cell? (ad.add (j * 4)) = some (.string x.m) ∧ w'.cell? ⟨ad.block, (ad.add (j * 4)).off + 1, none⟩ = some (.int .i64 x.a) ∧ w'.cell? ⟨ad.block, (ad.add (j * 4)).off + 2, none⟩ = some (.int .i64 x.c) ∧ w'.cell? ⟨ad.block, (ad.add (j * 4)).off + 3, none⟩ = some (.string x.n)) ∧ w'.cell? (adr.add (a * 4)) = some (.string y.m) ∧ w'.cell? ⟨adr.block, (adr.add (a * 4)).off + 1, none⟩ = some (.int .i64 y.a) ∧ w'.cell? ⟨adr.block, (adr.add (a * 4)).off + 2, none⟩ = some (.int .i64 y.c) ∧ w'.cell? ⟨adr.block, (adr.add (a * 4)).off + 3, none⟩ = some (.string y.n)) (first | exact ⟨⟨s0, s1, s2, s3⟩, t0, t1, t2, t3⟩ | exact ⟨⟨x0, x1, x2, x3⟩, y0, y1, y2, y3⟩ | go_keep)
            (first
              | (go_at_call 17; (with_reducible refine (HL.out _).mono ?_); rintro ez w3 ⟨rfl, hm3⟩; have x0 := hm3.cell0 s0; have x1 := hm3.cell0 s1; have x2 := hm3.cell0 s2; have x3 := hm3.cell0 s3; have y0 := hm3.cell0 t0; have y1 := hm3.cell0 t1; have y2 := hm3.cell0 t2; have y3 := hm3.cell0 t3))
          all_goals
            have hmw3 : Mod NoneB wr w3 := hmd.then0 hm3
            clear x0 x1 x2 x3 y0 y1 y2 y3 s0 s1 s2 s3 t0 t1 t2 t3 HL
            cases bt with
            | true =>
              go_wp2_with fail
              go_roundw
              case rel =>
                refine ⟨a + 1, by go_num, by omega, fun z hz => ?_, hmO.then0 hmw3⟩
                rcases HTK.out z hz with h | h
                · exact HLO.out z h
                · rw [h]; exact of_decide_eq_true HBT.out.symm
              case measure => simp [intOf]; omega
            | false =>
              have heq := eqlD y x
              replace hp0 := hmw3.cell0 hp0
              replace hp1 := hmw3.cell0 hp1
              replace hp2 := hmw3.cell0 hp2
              replace hp3 := hmw3.cell0 hp3
              replace hq0 := hmw3.cell0 hq0
              replace hq1 := hmw3.cell0 hq1
              replace hq2 := hmw3.cell0 hq2
              replace hq3 := hmw3.cell0 hq3
              by_cases hyx : y = x
              · rw [decide_eq_true hyx] at heq
                have HYX := Lib.hid hyx
                clear hyx
                go_wp2_with fail
                go_quiet (fail)
                clear hp0 hp1 hp2 hp3 hq0 hq1 hq2 hq3 heq
                go_wp2_with fail
                go_roundw
                case rel => exact ⟨j + 1, R, by go_num, by omega, OWN.out.mod0 ((hmO.then0 hmw3).drewN _), HOLD.out (by rw [← HYX.out]; exact HMEM.out), by omega, ((mod.then0 hmO).then0 hmw3).drewN _, HNEW.out⟩
                case measure => simp [intOf]; omega
              · rw [decide_eq_false hyx] at heq
                have hins := HIN2.out a HLO.out (by
                  have hlt3 : ltD x y := by
                    rcases ltD_tri x y with h | h | h
                    · exact h
                    · exact absurd h.symm hyx
                    · exact absurd h (of_decide_eq_false HBT.out.symm)
                  intro z hz
                  rw [HDR.out] at hz
                  rcases List.mem_cons.1 hz with rfl | hz
                  · exact hlt3
                  · exact ltD_trans hlt3 (HRIS.out z hz))
                have HINS := Lib.hid hins
                clear hyx hins
                go_wp2_with fail
                go_quiet (fail)
                have HMI : Mod NoneB w (w3.drewN nq) := ((mod.then0 hmO).then0 hmw3).drewN nq
                have HOI := Lib.hid (OWN.out.mod0 ((hmO.then0 hmw3).drewN nq))
                generalize w3.drewN nq = wi at HMI HOI ⊢
                clear hp0 hp1 hp2 hp3 hq0 hq1 hq2 hq3 heq
                have hzb : (R.length + 1) * 48 ≤ 140737488355328 := by omega
                have hali : Mod NoneB wi (wi.alloc (.cells #[.string ⟨#[]⟩, .int .i64 0, .int .i64 0, .string ⟨#[]⟩] 27)) := (Mod.refl NoneB wi).alloc _
                have hnxi : 0 < 1 → ∃ a, (some ⟨wi.heap.size, 0, none⟩ : Option Addr) = some a ∧ ∀ (j : Nat) u, (encDs [(⟨⟨#[]⟩, 0, 0, ⟨#[]⟩⟩ : Dg)])[j]? = some u → (wi.alloc (.cells #[.string ⟨#[]⟩, .int .i64 0, .int .i64 0, .string ⟨#[]⟩] 27)).cell? (a.add j) = some u := (rdBlk (sz := 4) (n := 1) (heap_alloc_new wi (.cells #[.string ⟨#[]⟩, .int .i64 0, .int .i64 0, .string ⟨#[]⟩] 27)) rfl (by omega)).2.2
                have hoi := HOI.out.mod0 hali
                go_wp2_with (at_builtin; refine wpList_append rfl (.tmp 45) (.tmp 47) 22 rfl 27 _ 4 48 hus tiD rfl (by decide) (by decide) _ R.length (encDs R) rfl hoi (some ⟨wi.heap.size, 0, none⟩) 1 1 (encDs [(⟨⟨#[]⟩, 0, 0, ⟨#[]⟩⟩ : Dg)]) rfl rfl hnxi (encDs_one _) hzb ?_)
                intro v4 w4 ho4 hm4 hno4
                obtain ⟨g, c4, he4⟩ := ho4.addrOf (by omega)
                subst he4
                have hm4w : Mod NoneB w w4 := (HMI.then0 hali).trans_new hm4 (fun k hk => .inr (HNEW.out k hk))
                have hgn : w.heap.size ≤ g := by
                  rcases hno4 with hq | ⟨b, hq, hb⟩
                  · exact HNEW.out g (by rw [← hq]; rfl)
                  · have h1 : (some g : Option Nat) = some b := hq
                    injection h1 with h1
                    have h2 := (HMI.then0 hali).size
                    omega
                have ho5 : Own w4 27 4 (.slice (some ⟨g, 0, none⟩) (R.length + 1) c4) (R.length + 1) (encDs (R.take R.length ++ (⟨⟨#[]⟩, 0, 0, ⟨#[]⟩⟩ : Dg) :: R.drop R.length)) := by
                  rw [List.take_length, List.drop_length, encDs_append]
                  exact ho4
                have HO5 := Lib.hid ho5
                clear ho4 ho5 hno4 hm4 hoi hnxi hali hzb
                go_wp2_with fail
                go_loopw [6] (fun i wq => ∃ (k : Nat) (z : Dg), i = .int .i64 k ∧ a ≤ k ∧ k ≤ R.length ∧ Own wq 27 4 (.slice (some ⟨g, 0, none⟩) (R.length + 1) c4) (R.length + 1) (encDs (R.take k ++ z :: R.drop k)) ∧ Mod (fun q => q = g) w4 wq) (fun i _ => (intOf i).toNat)
                case atStart => exact ⟨R.length, _, by go_num, by omega, Nat.le_refl _, HO5.out, Mod.refl _ _⟩
                case round =>
                  obtain ⟨k, z, rfl, hjk, hkl, hov, hmq⟩ := hrel
                  clear HO5
                  by_cases hlt2 : a < k
                  · first
                    | (exfalso; omega)
                    | (skip
                       obtain ⟨m, rfl⟩ : ∃ m, k = m + 1 := ⟨k - 1, by omega⟩
                       have hml : m < R.length := by omega
                       have hL : (R.take (m + 1) ++ z :: R.drop (m + 1)).length = R.length + 1 := by simp; omega
                       have hg1 := shift_get z R m hml
                       have hg2 := shift_at z R (m + 1) hkl
                       rw [List.getElem?_eq_getElem (by omega)] at hg1 hg2
                       obtain ⟨c0, c1, c2, c3⟩ := encDs_at (R.take (m + 1) ++ z :: R.drop (m + 1)) m (by omega)
                       obtain ⟨d0, d1, d2, d3⟩ := encDs_at (R.take (m + 1) ++ z :: R.drop (m + 1)) (m + 1) (by omega)
                       rw [Option.some.inj hg1] at c0 c1 c2 c3
                       rw [Option.some.inj hg2] at d0 d1 d2 d3
                       replace c0 := hov.cellAt _ _ c0
                       replace c1 := hov.cellAt _ _ c1
                       replace c2 := hov.cellAt _ _ c2
                       replace c3 := hov.cellAt _ _ c3
                       replace d0 := hov.cellAt _ _ d0
                       replace d1 := hov.cellAt _ _ d1
                       replace d2 := hov.cellAt _ _ d2
                       replace d3 := hov.cellAt _ _ d3
                       have f0 := hov.frozenAt ((m + 1) * 4)
                       have f1 := hov.frozenAt ((m + 1) * 4 + 1)
                       have f2 := hov.frozenAt ((m + 1) * 4 + 2)
                       have f3 := hov.frozenAt ((m + 1) * 4 + 3)
                       obtain ⟨r, hrr⟩ : ∃ r, r = R[m] := ⟨_, rfl⟩
                       have hs := (((hov.set ((m + 1) * 4) (.string R[m].m)).set ((m + 1) * 4 + 1) (.int .i64 R[m].a)).set ((m + 1) * 4 + 2) (.int .i64 R[m].c)).set ((m + 1) * 4 + 3) (.string R[m].n)
                       rw [encDs_setD, shift_step z R m hml] at hs
                       rw [← hrr] at c0 c1 c2 c3 hs
                       have HS := Lib.hid hs
                       clear hs hrr hg1 hg2 hL
                       have n1 : IntKind.i64.wrap (m : Int) = m := IntWalk.i64_in _ (by omega)
                       have n2 : ((m : Int) + 1).toNat = m + 1 := by omega
                       have n3 : (0 : Int) ≤ (m : Int) + 1 := by omega
                       have n4 : (m : Int) + 1 < (R.length : Int) + 1 := by omega
                       have n5 : (m : Int) < (R.length : Int) + 1 := by omega
                       have n6 : (a : Int) < (m : Int) + 1 := by omega
                       have n7 : (0 : Int) ≤ (m : Int) := by omega
                       have n8 : (m : Int) < R.length := by omega
                       go_wp2_with fail
                       go_roundw
                       case rel => exact ⟨m, r, by go_num, by omega, by omega, HS.out, (((hmq.setCell (p := ⟨g, (m + 1) * 4, none⟩) (fun _ => rfl) _).setCell (p := ⟨g, (m + 1) * 4 + 1, none⟩) (fun _ => rfl) _).setCell (p := ⟨g, (m + 1) * 4 + 2, none⟩) (fun _ => rfl) _).setCell (p := ⟨g, (m + 1) * 4 + 3, none⟩) (fun _ => rfl) _⟩
                       case measure => simp [intOf])
                  · have hkj : k = a := by omega
                    subst hkj
                    have hne : ¬ (ad.block = g) := by omega
                    have hmx : Mod (fun q => q = g) w wr := (hm4w.mono fun _ _ h => h.elim).trans hmq (fun _ _ h => h)
                    have hbl : (ad.add (j * 4)).block = ad.block := by unfold Addr.add; split <;> rfl
                    have x0' := hmx.cell p0 (by rw [hbl]; exact hne)
                    have x1' := hmx.cell p1 (by show ¬ (ad.add (j * 4)).block = g; rw [hbl]; exact hne)
                    have x2' := hmx.cell p2 (by show ¬ (ad.add (j * 4)).block = g; rw [hbl]; exact hne)
                    have x3' := hmx.cell p3 (by show ¬ (ad.add (j * 4)).block = g; rw [hbl]; exact hne)
                    rw [hbl] at x1' x2' x3'
                    have hg2 := shift_at z R k hkl
                    have hL : (R.take k ++ z :: R.drop k).length = R.length + 1 := by simp; omega
                    rw [List.getElem?_eq_getElem (by omega)] at hg2
                    obtain ⟨d0, d1, d2, d3⟩ := encDs_at (R.take k ++ z :: R.drop k) k (by omega)
                    rw [Option.some.inj hg2] at d0 d1 d2 d3
                    replace d0 := hov.cellAt _ _ d0
                    replace d1 := hov.cellAt _ _ d1
                    replace d2 := hov.cellAt _ _ d2
                    replace d3 := hov.cellAt _ _ d3
                    have f0 := hov.frozenAt (k * 4)
                    have f1 := hov.frozenAt (k * 4 + 1)
                    have f2 := hov.frozenAt (k * 4 + 2)
                    have f3 := hov.frozenAt (k * 4 + 3)
                    have hs := (((hov.set (k * 4) (.string x.m)).set (k * 4 + 1) (.int .i64 x.a)).set (k * 4 + 2) (.int .i64 x.c)).set (k * 4 + 3) (.string x.n)
                    rw [encDs_setD, shift_set z _ R k hkl] at hs
                    have HS := Lib.hid hs
                    have HMX := Lib.hid (((((hmx.setCell (p := ⟨g, k * 4, none⟩) (fun _ => rfl) (.string x.m)).setCell (p := ⟨g, k * 4 + 1, none⟩) (fun _ => rfl) (.int .i64 x.a)).setCell (p := ⟨g, k * 4 + 2, none⟩) (fun _ => rfl) (.int .i64 x.c)).setCell (p := ⟨g, k * 4 + 3, none⟩) (fun _ => rfl) (.string x.n)).mono (S' := NoneB) fun q hq h => absurd hq (by omega))
                    clear hs hg2 hL hmx hmq
                    have n5 : (k : Int) < (R.length : Int) + 1 := by omega
                    have n6 : ¬ (k : Int) < (k : Int) := by omega
                    have n7 : (0 : Int) ≤ k := by omega
                    have n8 : (j : Int) < l.length := by omega
                    have n9 : (0 : Int) ≤ j := by omega
                    go_wp2_with fail
                    go_roundw
                    case rel =>
                      have hlen : (R.take k ++ x :: R.drop k).length = R.length + 1 := by simp; omega
                      exact ⟨j + 1, R.take k ++ x :: R.drop k, by go_num, by omega, by rw [hlen]; exact HS.out, HINS.out, by rw [hlen]; omega, HMX.out, fun q hq => by
                        have h1 : (some g : Option Nat) = some q := hq
                        injection h1 with h1
                        omega⟩
                    case measure => simp [intOf]; omega
        · have HINS := Lib.hid (HIN2.out a HLO.out (by rw [List.drop_eq_nil_of_le (by omega)]; intro y hy; cases hy))
          have i2 : ¬ (a : Int) < R.length := by omega
          go_wp2_with fail
          go_quiet (fail)
          have hmw3 : Mod NoneB wr (wr.drewN nq) := (Mod.refl _ _).drewN nq
          generalize wr.drewN nq = w3 at hmw3 ⊢
          go_wp2_with fail
          go_quiet (fail)
          have HMI : Mod NoneB w (w3.drewN nq) := ((mod.then0 hmO).then0 hmw3).drewN nq
          have HOI := Lib.hid (OWN.out.mod0 ((hmO.then0 hmw3).drewN nq))
          generalize w3.drewN nq = wi at HMI HOI ⊢
          have hzb : (R.length + 1) * 48 ≤ 140737488355328 := by omega
          have hali : Mod NoneB wi (wi.alloc (.cells #[.string ⟨#[]⟩, .int .i64 0, .int .i64 0, .string ⟨#[]⟩] 27)) := (Mod.refl NoneB wi).alloc _
          have hnxi : 0 < 1 → ∃ a, (some ⟨wi.heap.size, 0, none⟩ : Option Addr) = some a ∧ ∀ (j : Nat) u, (encDs [(⟨⟨#[]⟩, 0, 0, ⟨#[]⟩⟩ : Dg)])[j]? = some u → (wi.alloc (.cells #[.string ⟨#[]⟩, .int .i64 0, .int .i64 0, .string ⟨#[]⟩] 27)).cell? (a.add j) = some u := (rdBlk (sz := 4) (n := 1) (heap_alloc_new wi (.cells #[.string ⟨#[]⟩, .int .i64 0, .int .i64 0, .string ⟨#[]⟩] 27)) rfl (by omega)).2.2
          have hoi := HOI.out.mod0 hali
          go_wp2_with (at_builtin; refine wpList_append rfl (.tmp 45) (.tmp 47) 22 rfl 27 _ 4 48 hus tiD rfl (by decide) (by decide) _ R.length (encDs R) rfl hoi (some ⟨wi.heap.size, 0, none⟩) 1 1 (encDs [(⟨⟨#[]⟩, 0, 0, ⟨#[]⟩⟩ : Dg)]) rfl rfl hnxi (encDs_one _) hzb ?_)
          intro v4 w4 ho4 hm4 hno4
          obtain ⟨g, c4, he4⟩ := ho4.addrOf (by omega)
          subst he4
          have hm4w : Mod NoneB w w4 := (HMI.then0 hali).trans_new hm4 (fun k hk => .inr (HNEW.out k hk))
          have hgn : w.heap.size ≤ g := by
            rcases hno4 with hq | ⟨b, hq, hb⟩
            · exact HNEW.out g (by rw [← hq]; rfl)
            · have h1 : (some g : Option Nat) = some b := hq
              injection h1 with h1
              have h2 := (HMI.then0 hali).size
              omega
          have ho5 : Own w4 27 4 (.slice (some ⟨g, 0, none⟩) (R.length + 1) c4) (R.length + 1) (encDs (R.take R.length ++ (⟨⟨#[]⟩, 0, 0, ⟨#[]⟩⟩ : Dg) :: R.drop R.length)) := by
            rw [List.take_length, List.drop_length, encDs_append]
            exact ho4
          have HO5 := Lib.hid ho5
          clear ho4 ho5 hno4 hm4 hoi hnxi hali hzb
          go_wp2_with fail
          go_loopw [6] (fun i wq => ∃ (k : Nat) (z : Dg), i = .int .i64 k ∧ a ≤ k ∧ k ≤ R.length ∧ Own wq 27 4 (.slice (some ⟨g, 0, none⟩) (R.length + 1) c4) (R.length + 1) (encDs (R.take k ++ z :: R.drop k)) ∧ Mod (fun q => q = g) w4 wq) (fun i _ => (intOf i).toNat)
          case atStart => exact ⟨R.length, _, by go_num, by omega, Nat.le_refl _, HO5.out, Mod.refl _ _⟩
          case round =>
            obtain ⟨k, z, rfl, hjk, hkl, hov, hmq⟩ := hrel
            clear HO5
            by_cases hlt2 : a < k
            · first
              | (exfalso; omega)
              | (skip
                 obtain ⟨m, rfl⟩ : ∃ m, k = m + 1 := ⟨k - 1, by omega⟩
                 have hml : m < R.length := by omega
                 have hL : (R.take (m + 1) ++ z :: R.drop (m + 1)).length = R.length + 1 := by simp; omega
                 have hg1 := shift_get z R m hml
                 have hg2 := shift_at z R (m + 1) hkl
                 rw [List.getElem?_eq_getElem (by omega)] at hg1 hg2
                 obtain ⟨c0, c1, c2, c3⟩ := encDs_at (R.take (m + 1) ++ z :: R.drop (m + 1)) m (by omega)
                 obtain ⟨d0, d1, d2, d3⟩ := encDs_at (R.take (m + 1) ++ z :: R.drop (m + 1)) (m + 1) (by omega)
                 rw [Option.some.inj hg1] at c0 c1 c2 c3
                 rw [Option.some.inj hg2] at d0 d1 d2 d3
                 replace c0 := hov.cellAt _ _ c0
                 replace c1 := hov.cellAt _ _ c1
                 replace c2 := hov.cellAt _ _ c2
                 replace c3 := hov.cellAt _ _ c3
                 replace d0 := hov.cellAt _ _ d0
                 replace d1 := hov.cellAt _ _ d1
                 replace d2 := hov.cellAt _ _ d2
                 replace d3 := hov.cellAt _ _ d3
                 have f0 := hov.frozenAt ((m + 1) * 4)
                 have f1 := hov.frozenAt ((m + 1) * 4 + 1)
                 have f2 := hov.frozenAt ((m + 1) * 4 + 2)
                 have f3 := hov.frozenAt ((m + 1) * 4 + 3)
                 obtain ⟨r, hrr⟩ : ∃ r, r = R[m] := ⟨_, rfl⟩
                 have hs := (((hov.set ((m + 1) * 4) (.string R[m].m)).set ((m + 1) * 4 + 1) (.int .i64 R[m].a)).set ((m + 1) * 4 + 2) (.int .i64 R[m].c)).set ((m + 1) * 4 + 3) (.string R[m].n)
                 rw [encDs_setD, shift_step z R m hml] at hs
                 rw [← hrr] at c0 c1 c2 c3 hs
                 have HS := Lib.hid hs
                 clear hs hrr hg1 hg2 hL
                 have n1 : IntKind.i64.wrap (m : Int) = m := IntWalk.i64_in _ (by omega)
                 have n2 : ((m : Int) + 1).toNat = m + 1 := by omega
                 have n3 : (0 : Int) ≤ (m : Int) + 1 := by omega
                 have n4 : (m : Int) + 1 < (R.length : Int) + 1 := by omega
                 have n5 : (m : Int) < (R.length : Int) + 1 := by omega
                 have n6 : (a : Int) < (m : Int) + 1 := by omega
                 have n7 : (0 : Int) ≤ (m : Int) := by omega
                 have n8 : (m : Int) < R.length := by omega
                 go_wp2_with fail
                 go_roundw
                 case rel => exact ⟨m, r, by go_num, by omega, by omega, HS.out, (((hmq.setCell (p := ⟨g, (m + 1) * 4, none⟩) (fun _ => rfl) _).setCell (p := ⟨g, (m + 1) * 4 + 1, none⟩) (fun _ => rfl) _).setCell (p := ⟨g, (m + 1) * 4 + 2, none⟩) (fun _ => rfl) _).setCell (p := ⟨g, (m + 1) * 4 + 3, none⟩) (fun _ => rfl) _⟩
                 case measure => simp [intOf])
            · have hkj : k = a := by omega
              subst hkj
              have hne : ¬ (ad.block = g) := by omega
              have hmx : Mod (fun q => q = g) w wr := (hm4w.mono fun _ _ h => h.elim).trans hmq (fun _ _ h => h)
              have hbl : (ad.add (j * 4)).block = ad.block := by unfold Addr.add; split <;> rfl
              have x0' := hmx.cell p0 (by rw [hbl]; exact hne)
              have x1' := hmx.cell p1 (by show ¬ (ad.add (j * 4)).block = g; rw [hbl]; exact hne)
              have x2' := hmx.cell p2 (by show ¬ (ad.add (j * 4)).block = g; rw [hbl]; exact hne)
              have x3' := hmx.cell p3 (by show ¬ (ad.add (j * 4)).block = g; rw [hbl]; exact hne)
              rw [hbl] at x1' x2' x3'
              have hg2 := shift_at z R k hkl
              have hL : (R.take k ++ z :: R.drop k).length = R.length + 1 := by simp; omega
              rw [List.getElem?_eq_getElem (by omega)] at hg2
              obtain ⟨d0, d1, d2, d3⟩ := encDs_at (R.take k ++ z :: R.drop k) k (by omega)
              rw [Option.some.inj hg2] at d0 d1 d2 d3
              replace d0 := hov.cellAt _ _ d0
              replace d1 := hov.cellAt _ _ d1
              replace d2 := hov.cellAt _ _ d2
              replace d3 := hov.cellAt _ _ d3
              have f0 := hov.frozenAt (k * 4)
              have f1 := hov.frozenAt (k * 4 + 1)
              have f2 := hov.frozenAt (k * 4 + 2)
              have f3 := hov.frozenAt (k * 4 + 3)
              have hs := (((hov.set (k * 4) (.string x.m)).set (k * 4 + 1) (.int .i64 x.a)).set (k * 4 + 2) (.int .i64 x.c)).set (k * 4 + 3) (.string x.n)
              rw [encDs_setD, shift_set z _ R k hkl] at hs
              have HS := Lib.hid hs
              have HMX := Lib.hid (((((hmx.setCell (p := ⟨g, k * 4, none⟩) (fun _ => rfl) (.string x.m)).setCell (p := ⟨g, k * 4 + 1, none⟩) (fun _ => rfl) (.int .i64 x.a)).setCell (p := ⟨g, k * 4 + 2, none⟩) (fun _ => rfl) (.int .i64 x.c)).setCell (p := ⟨g, k * 4 + 3, none⟩) (fun _ => rfl) (.string x.n)).mono (S' := NoneB) fun q hq h => absurd hq (by omega))
              clear hs hg2 hL hmx hmq
              have n5 : (k : Int) < (R.length : Int) + 1 := by omega
              have n6 : ¬ (k : Int) < (k : Int) := by omega
              have n7 : (0 : Int) ≤ k := by omega
              have n8 : (j : Int) < l.length := by omega
              have n9 : (0 : Int) ≤ j := by omega
              go_wp2_with fail
              go_roundw
              case rel =>
                have hlen : (R.take k ++ x :: R.drop k).length = R.length + 1 := by simp; omega
                exact ⟨j + 1, R.take k ++ x :: R.drop k, by go_num, by omega, by rw [hlen]; exact HS.out, HINS.out, by rw [hlen]; omega, HMX.out, fun q hq => by
                  have h1 : (some g : Option Nat) = some q := hq
                  injection h1 with h1
                  omega⟩
              case measure => simp [intOf]; omega
    · have hje : l.take j = l := List.take_of_length_le (by omega)
      rw [hje] at hso
      obtain ⟨Ao, co, rfl, _, _, hR⟩ := own.out
      have HSO := Lib.hid hso
      have g1 : ¬ (j : Int) < l.length := by omega
      clear hje hso own
      go_wp2_with fail
      go_ret
      exact ⟨Ao, R, co, rfl, HSO.out, hR, mod⟩
end Go.Proofs.YtdmdiokfpbmnaaaDoor

