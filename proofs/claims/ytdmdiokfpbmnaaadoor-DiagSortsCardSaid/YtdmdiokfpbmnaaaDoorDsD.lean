/- DiagSorts: sorted they rise, each once, just those; in another order, or twice, they sort alike: the walk of the law. -/
import Derived.Test.YtdmdiokfpbmnaaaDoorDsK
namespace Go.Proofs.YtdmdiokfpbmnaaaDoor
open Go.RowKit
set_option linter.unusedVariables false

theorem count_one : ∀ (l : List Dg) (x : Dg), l.Nodup → x ∈ l → l.count x = 1
  | y :: l, x, hn, hx => by
    rw [List.count_cons]
    by_cases h : y = x
    · subst h
      have h0 : l.count y = 0 := List.count_eq_zero.2 (List.nodup_cons.1 hn).1
      simp [h0]
    · have hx2 : x ∈ l := by
        rcases List.mem_cons.1 hx with h2 | h2
        · exact absurd h2.symm h
        · exact h2
      rw [count_one l x (List.nodup_cons.1 hn).2 hx2]
      simp [h]
theorem count_succ {s : List Dg} {x : Dg} {k : Nat} (h : k < s.length) : (s.take (k + 1)).count x = (s.take k).count x + if s[k] = x then 1 else 0 := by
  rw [List.take_succ_eq_append_getElem h, List.count_append, List.count_singleton]
  simp

set_option maxHeartbeats 16000000 in
set_option maxRecDepth 100000 in
theorem diagSorts_walk (l0 : List Dg) (a0 : Option Addr) (c0 : Nat) (w : World) (rd0 : Rd w 4 a0 l0.length (encDs l0)) (lc0 : l0.length ≤ c0) (htab : TabW w) :
    Calls Tryd.prog 3 #[.slice a0 l0.length c0] w fun e w' => e = .returned (.bool true) ∧ Mod NoneB w w' := by
  have HAW : Hid (∀ W, Mod NoneB w W → Calls Tryd.prog 8 #[] W fun e w' => e = .returned (.bool true) ∧ Mod NoneB W w') := Lib.hid fun W hm => awake18_calls W (htab.mod0 hm)
  clear htab
  go_enter Tryd.func3, Tryd.ntmps3
  go_wp2_with fail
  refine (great18_calls l0 a0 c0 w rd0).mono ?_
  rintro e w1 ⟨b, rfl, hm1, hfew⟩
  cases b with
  | true =>
    clear hfew
    go_wp2_with ((with_reducible refine (HAW.out _ hm1).mono ?_); rintro ez w2 ⟨rfl, hm2⟩)
    go_ret
    exact ⟨rfl, hm1.then0 hm2⟩
  | false =>
    have hn := (hfew rfl).1
    clear hfew
    have HS := Lib.hid (sort_calls l0 a0 c0 w1 (rd0.mod0 hm1) lc0 (by omega))
    go_wp2_with fail
    refine HS.out.mono ?_
    rintro e w2 ⟨A1, s, rfl, hso, hrs, hm2, hsl⟩
    have hmw2 := hm1.then0 hm2
    have HSO := Lib.hid hso
    clear hso HS hm1 hm2
    have z0 : IntKind.i64.wrap ((l0.length : Int) - 1) = (l0.length : Int) - 1 := IntWalk.i64_in _ (by omega)
    have z1 : wrap64 ((l0.length : Int) - 1) = (l0.length : Int) - 1 := IntWalk.wrap64_in _ (by omega)
    go_wp2_with fail
    clear z0 z1
    go_loopw [4, 5] (fun v i wr => ∃ (k : Nat) (z : Int) (mm : List Dg), i = .int .i64 z ∧ z = (k : Int) - 1 ∧ k ≤ l0.length ∧ Own wr 27 4 v mm.length (encDs mm) ∧ (∀ x, x ∈ mm ↔ x ∈ l0.drop k) ∧ mm.length = 2 * (l0.length - k) ∧ Mod NoneB w2 wr ∧ (∀ g, v.ownBlock = some g → w2.heap.size ≤ g)) (fun _ i _ => (intOf i + 1).toNat)
    case atStart => exact ⟨l0.length, _, [], rfl, rfl, by omega, Own.nil _ _ _, fun x => by simp, by simp, Mod.refl _ _, fun g h => by simp [Value.ownBlock] at h⟩
    case round =>
      obtain ⟨k, z, mm, rfl, hz, hk, own, hmem, hmml, mod, new⟩ := hrel
      have HMEM := Lib.hid hmem
      have NEW := Lib.hid new
      clear hmem new
      by_cases hk0 : 0 < k
      · obtain ⟨j, rfl⟩ : ∃ j, k = j + 1 := ⟨k - 1, by omega⟩
        obtain rfl : z = (j : Int) := by omega
        have hjl : j < l0.length := by omega
        obtain ⟨ad, rfl, p0, p1, p2, p3⟩ := rd0.dg j hjl
        have hadl : ad.block < w2.heap.size := Nat.lt_of_lt_of_le (rd0.block_lt (by decide) (by omega) ad rfl) hmw2.size
        have hdr : l0.drop j = l0[j] :: l0.drop (j + 1) := List.drop_eq_getElem_cons hjl
        obtain ⟨x, hx⟩ : ∃ x, x = l0[j] := ⟨_, rfl⟩
        rw [← hx] at p0 p1 p2 p3 hdr
        have HDR := Lib.hid hdr
        have hbl : (ad.add (j * 4)).block = ad.block := by unfold Addr.add; split <;> rfl
        rw [hbl] at p1 p2 p3
        have hmd : Mod NoneB w wr.drew := (hmw2.then0 mod).drew
        have s0 := hmd.cell0 p0
        have s1 := hmd.cell0 p1
        have s2 := hmd.cell0 p2
        have s3 := hmd.cell0 p3
        have hal : Mod NoneB wr (wr.alloc (.cells #[.string x.m, .int .i64 x.a, .int .i64 x.c, .string x.n, .string x.m, .int .i64 x.a, .int .i64 x.c, .string x.n] 27)).drew := ((Mod.refl NoneB wr).alloc _).drew
        have hox := own.mod0 hal
        have hnx : 0 < 2 → ∃ a, (some ⟨wr.heap.size, 0, none⟩ : Option Addr) = some a ∧ ∀ (j : Nat) u, (encDs [x, x])[j]? = some u → (wr.alloc (.cells #[.string x.m, .int .i64 x.a, .int .i64 x.c, .string x.n, .string x.m, .int .i64 x.a, .int .i64 x.c, .string x.n] 27)).drew.cell? (a.add j) = some u := ((rdBlk (sz := 4) (n := 2) (heap_alloc_new wr (.cells #[.string x.m, .int .i64 x.a, .int .i64 x.c, .string x.n, .string x.m, .int .i64 x.a, .int .i64 x.c, .string x.n] 27)) rfl (by omega)).mod0 ((Mod.refl NoneB _).drew)).2.2
        have h48 : (mm.length + 2) * 48 ≤ 140737488355328 := by omega
        have hne : ¬ OnlyBlk u4 (ad.add (j * 4)).block := fun hk => by have := NEW.out _ hk; rw [hbl] at this; omega
        have hne2 : ¬ OnlyBlk u4 ad.block := fun hk => by have := NEW.out _ hk; omega
        have t0 := hal.cell0 ((hmw2.then0 mod).cell0 p0)
        have t1 := hal.cell0 ((hmw2.then0 mod).cell0 p1)
        have t2 := hal.cell0 ((hmw2.then0 mod).cell0 p2)
        have t3 := hal.cell0 ((hmw2.then0 mod).cell0 p3)
        have hus := Tryd.underlying22
        have g1 : (0 : Int) ≤ j := by omega
        have g2 : (j : Int) < l0.length := by omega
        have HMML := Lib.hid hmml
        clear hx hdr p0 p1 p2 p3 hk0 hz hmml
        go_wp2_with fail
        go_region_held3 (fun w' => w'.cell? (ad.add (j * 4)) = some (.string x.m) ∧ w'.cell? ⟨ad.block, (ad.add (j * 4)).off + 1, none⟩ = some (.int .i64 x.a) ∧ w'.cell? ⟨ad.block, (ad.add (j * 4)).off + 2, none⟩ = some (.int .i64 x.c) ∧ w'.cell? ⟨ad.block, (ad.add (j * 4)).off + 3, none⟩ = some (.string x.n)) (first | exact ⟨s0, s1, s2, s3⟩ | exact ⟨k0, k1, k2, k3⟩ | go_keep)
          (first
            | (refine step_app rfl (.tmp 22) (.tmp 31) 22 rfl 27 _ 4 48 hus tiD rfl (by decide) (by decide) _ mm.length (encDs mm) (by simp [Act.eval]) hox (some ⟨wr.heap.size, 0, none⟩) 2 2 (encDs [x, x]) (by simp [Act.eval]) rfl hnx (encDs_one _) h48 ?_; intro v5 w5 ho5 hm5 hno5
               have k0 := hm5.cell t0 hne
               have k1 := hm5.cell t1 hne2
               have k2 := hm5.cell t2 hne2
               have k3 := hm5.cell t3 hne2))
        all_goals
          have hmal := mod.then0 hal
          have mod5 : Mod NoneB w2 w5 := hmal.trans_new hm5 (fun k hk => .inr (NEW.out k hk))
          have hn6 : ∀ g, v5.ownBlock = some g → w2.heap.size ≤ g := by
            intro g hg
            rcases hno5 with hq | ⟨b, hq, hb⟩
            · exact NEW.out g (by rw [← hq]; exact hg)
            · rw [hq] at hg
              injection hg with hg
              have h1 := hmal.size
              omega
          have ho6 : Own w5 27 4 v5 (mm ++ [x, x]).length (encDs (mm ++ [x, x])) := by
            rw [encDs_append, List.length_append]
            exact ho5
          have OW6 := Lib.hid ho6
          have NW6 := Lib.hid hn6
          obtain ⟨A5, c5, rfl, _, _, _⟩ := ho5.out
          clear ho6 hn6 ho5 hno5 hm5 hox hnx hal hmal s0 s1 s2 s3 k0 k1 k2 k3 t0 t1 t2 t3 own
          go_wp2_with fail
          go_roundw
          case rel =>
            refine ⟨j, (j : Int) - 1, mm ++ [x, x], by go_num, rfl, by omega, OW6.out, fun y => ?_, ?_, mod5, NW6.out⟩
            · rw [HDR.out, List.mem_append, List.mem_cons, HMEM.out y]
              simp
              constructor
              · rintro (h | h)
                · exact .inr h
                · exact .inl h
              · rintro (h | h)
                · exact .inr h
                · exact .inl h
            · rw [List.length_append, HMML.out]
              simp
              omega
          case measure => simp [intOf]
      · obtain rfl : k = 0 := by omega
        have g0 : ¬ (0 : Int) ≤ z := by omega
        have hall : ∀ x, x ∈ mm ↔ x ∈ l0 := fun x => by rw [HMEM.out x, List.drop_zero]
        have HALL := Lib.hid hall
        have hmm2 : mm.length ≤ 1000 := by omega
        obtain ⟨AM, cM, rfl, hcM, _, hrM⟩ := own.out
        have HRM := Lib.hid hrM
        have HMM2 := Lib.hid hmm2
        have HRS := Lib.hid (hrs.mod0 mod)
        have hmE := hmw2.then0 mod
        have ss0 : s.length ≤ 100 := by omega
        clear hall hmm2 own hrM HMEM NEW hrs mod hmw2 hz hmml hk hk0
        go_wp2_with fail
        clear g0
        obtain ⟨wE, hwE⟩ : ∃ x, x = wr := ⟨_, rfl⟩
        subst hwE
        go_loopw [6] (fun i wr => ∃ j : Nat, i = .int .i64 j ∧ 1 ≤ j ∧ Mod NoneB wE wr) (fun i _ => s.length - (intOf i).toNat)
        case atStart => exact ⟨1, rfl, by omega, Mod.refl _ _⟩
        case round =>
          obtain ⟨i, rfl, hi1, hm3⟩ := hrel
          by_cases hlt : i < s.length
          · obtain ⟨j, hj⟩ : ∃ j, j = i - 1 := ⟨_, rfl⟩
            obtain ⟨ad, rfl, p0, p1, p2, p3⟩ := HRS.out.dg j (by omega)
            obtain ⟨ad', he, q0, q1, q2, q3⟩ := HRS.out.dg i hlt
            injection he with he
            subst he
            have hb1 : (ad.add (j * 4)).block = ad.block := by unfold Addr.add; split <;> rfl
            have hb2 : (ad.add (i * 4)).block = ad.block := by unfold Addr.add; split <;> rfl
            rw [hb1] at p1 p2 p3
            rw [hb2] at q1 q2 q3
            have hlt1 : ltD s[j] s[i] := List.pairwise_iff_getElem.1 HSO.out.1 j i (by omega) hlt (by omega)
            have hlt2 := ltD_asymm hlt1
            obtain ⟨x, hx⟩ : ∃ x, x = s[j] := ⟨_, rfl⟩
            obtain ⟨y, hy⟩ : ∃ y, y = s[i] := ⟨_, rfl⟩
            rw [← hx] at p0 p1 p2 p3 hlt1 hlt2
            rw [← hy] at q0 q1 q2 q3 hlt1 hlt2
            have hl1 : ∀ W, _ := fun W => less_calls x y W
            have hl2 : ∀ W, _ := fun W => less_calls y x W
            rw [decide_eq_true hlt1] at hl1
            rw [decide_eq_false hlt2] at hl2
            have HL1 := Lib.hid hl1
            have HL2 := Lib.hid hl2
            have hmd : Mod NoneB wE wr.drew := hm3.drew
            have s0 := hmd.cell0 p0
            have s1 := hmd.cell0 p1
            have s2 := hmd.cell0 p2
            have s3 := hmd.cell0 p3
            have t0 := hmd.cell0 q0
            have t1 := hmd.cell0 q1
            have t2 := hmd.cell0 q2
            have t3 := hmd.cell0 q3
            have n1 : IntKind.i64.wrap ((i : Int) - 1) = j := by rw [show (i : Int) - 1 = j by omega]; exact IntWalk.i64_in _ (by omega)
            have g1 : (0 : Int) ≤ i := by omega
            have g2 : (i : Int) < s.length := by omega
            have g3 : (0 : Int) ≤ j := by omega
            have g4 : (j : Int) < s.length := by omega
            clear hx hy hlt1 hlt2 hl1 hl2 p0 p1 p2 p3 q0 q1 q2 q3 hj
            go_wp2_with fail
            go_region_held3 (fun w' => (w'.cell? (ad.add (j * 4)) = some (.string x.m) ∧ w'.cell? ⟨ad.block, (ad.add (j * 4)).off + 1, none⟩ = some (.int .i64 x.a) ∧ w'.cell? ⟨ad.block, (ad.add (j * 4)).off + 2, none⟩ = some (.int .i64 x.c) ∧ w'.cell? ⟨ad.block, (ad.add (j * 4)).off + 3, none⟩ = some (.string x.n)) ∧ w'.cell? (ad.add (i * 4)) = some (.string y.m) ∧ w'.cell? ⟨ad.block, (ad.add (i * 4)).off + 1, none⟩ = some (.int .i64 y.a) ∧ w'.cell? ⟨ad.block, (ad.add (i * 4)).off + 2, none⟩ = some (.int .i64 y.c) ∧ w'.cell? ⟨ad.block, (ad.add (i * 4)).off + 3, none⟩ = some (.string y.n)) (first | exact ⟨⟨s0, s1, s2, s3⟩, t0, t1, t2, t3⟩ | exact ⟨⟨x0, x1, x2, x3⟩, y0, y1, y2, y3⟩ | exact ⟨⟨v0, v1, v2, v3⟩, z0, z1, z2, z3⟩ | go_keep)
              (first
                | (go_at_call 10; (with_reducible refine (HL1.out _).mono ?_); rintro ez w4 ⟨rfl, hm4⟩; have x0 := hm4.cell0 s0; have x1 := hm4.cell0 s1; have x2 := hm4.cell0 s2; have x3 := hm4.cell0 s3; have y0 := hm4.cell0 t0; have y1 := hm4.cell0 t1; have y2 := hm4.cell0 t2; have y3 := hm4.cell0 t3)
                | (go_at_call 10; (with_reducible refine (HL2.out _).mono ?_); rintro ez w5 ⟨rfl, hm5⟩; have v0 := hm5.cell0 x0; have v1 := hm5.cell0 x1; have v2 := hm5.cell0 x2; have v3 := hm5.cell0 x3; have z0 := hm5.cell0 y0; have z1 := hm5.cell0 y1; have z2 := hm5.cell0 y2; have z3 := hm5.cell0 y3))
            all_goals
              have mod5 := (hmd.then0 hm4).then0 hm5
              clear s0 s1 s2 s3 t0 t1 t2 t3 x0 x1 x2 x3 y0 y1 y2 y3 v0 v1 v2 v3 z0 z1 z2 z3 hm4 hm5 hmd HL1 HL2
              go_wp2_with fail
              go_roundw
              case rel => exact ⟨i + 1, by go_num, by omega, mod5⟩
              case measure => simp [intOf]; omega
          · have g2 : ¬ (i : Int) < s.length := by omega
            go_wp2_with fail
            clear g2
            have hmG := hm3
            obtain ⟨wG, hwG⟩ : ∃ x, x = wr := ⟨_, rfl⟩
            subst hwG
            go_loopw [7, 8, 9] (fun i _ _ wr => ∃ j : Nat, i = .int .i64 j ∧ j ≤ l0.length ∧ Mod NoneB wE wr) (fun i _ _ _ => l0.length - (intOf i).toNat)
            case atStart => exact ⟨0, rfl, by omega, hmG⟩
            case round =>
              obtain ⟨i, rfl, hil, hm4⟩ := hrel
              by_cases hlt : i < l0.length
              · have hxs : l0[i] ∈ s := (HSO.out.2 _).2 (List.getElem_mem hlt)
                have hone := count_one s _ HSO.out.1.nodup hxs
                obtain ⟨ad, hA0, p0, p1, p2, p3⟩ := rd0.dg i hlt
                subst hA0
                obtain ⟨x, hx⟩ : ∃ x, x = l0[i] := ⟨_, rfl⟩
                rw [← hx] at p0 p1 p2 p3 hone
                have p0' := hmE.cell0 p0
                have p1' := hmE.cell0 p1
                have p2' := hmE.cell0 p2
                have p3' := hmE.cell0 p3
                have HONE := Lib.hid hone
                have g1 : (0 : Int) ≤ i := by omega
                have g2 : (i : Int) < l0.length := by omega
                clear hx hxs hone p0 p1 p2 p3
                go_wp2_with fail
                obtain ⟨wI, hwI⟩ : ∃ x, x = wr := ⟨_, rfl⟩
                subst hwI
                go_loopw [8, 9] (fun n k wr => ∃ j : Nat, k = .int .i64 j ∧ n = .int .i64 ((s.take j).count x : Nat) ∧ j ≤ s.length ∧ Mod NoneB wE wr) (fun _ k _ => s.length - (intOf k).toNat)
                case atStart => exact ⟨0, rfl, by simp, by omega, hm4⟩
                case round =>
                  obtain ⟨j, rfl, rfl, hjl, hm5⟩ := hrel
                  by_cases hlt2 : j < s.length
                  · obtain ⟨asd, rfl, q0, q1, q2, q3⟩ := HRS.out.dg j hlt2
                    have hcs := count_succ (x := x) hlt2
                    have hcl := List.count_le_length (a := x) (l := s.take j)
                    rw [List.length_take] at hcl
                    obtain ⟨y, hy⟩ : ∃ y, y = s[j] := ⟨_, rfl⟩
                    rw [← hy] at q0 q1 q2 q3 hcs
                    obtain ⟨n, hn'⟩ : ∃ n, n = (s.take j).count x := ⟨_, rfl⟩
                    rw [← hn'] at hcs hcl ⊢
                    have HCS := Lib.hid hcs
                    replace q0 := hm5.cell0 q0
                    replace q1 := hm5.cell0 q1
                    replace q2 := hm5.cell0 q2
                    replace q3 := hm5.cell0 q3
                    have r0 := hm5.cell0 p0'
                    have r1 := hm5.cell0 p1'
                    have r2 := hm5.cell0 p2'
                    have r3 := hm5.cell0 p3'
                    have heq := eqlD y x
                    have g3 : (0 : Int) ≤ j := by omega
                    have g4 : (j : Int) < s.length := by omega
                    have hn9 : n ≤ 100 := by omega
                    clear hy hn' hcs hcl
                    by_cases hyx : y = x
                    · rw [decide_eq_true hyx] at heq
                      have HYX := Lib.hid hyx
                      clear hyx
                      go_wp2_with fail
                      go_quiet (fail)
                      clear q0 q1 q2 q3 r0 r1 r2 r3 heq
                      go_wp2_with fail
                      go_roundw
                      case rel => exact ⟨j + 1, by go_num, by rw [HCS.out, if_pos HYX.out]; go_num, by omega, hm5.drewN _⟩
                      case measure => simp [intOf]; omega
                    · rw [decide_eq_false hyx] at heq
                      have HYX := Lib.hid hyx
                      clear hyx
                      go_wp2_with fail
                      go_quiet (fail)
                      clear q0 q1 q2 q3 r0 r1 r2 r3 heq
                      go_wp2_with fail
                      go_roundw
                      case rel => exact ⟨j + 1, by go_num, by rw [HCS.out, if_neg HYX.out]; rfl, by omega, hm5.drewN _⟩
                      case measure => simp [intOf]; omega
                  · have hone := HONE.out
                    rw [List.take_of_length_le (by omega), hone]
                    have g4 : ¬ (j : Int) < s.length := by omega
                    clear hone
                    go_wp2_with fail
                    go_roundw
                    case rel => exact ⟨i + 1, by go_num, by omega, hm5⟩
                    case measure => simp [intOf]; omega
              · have hmw4 := hmE.then0 hm4
                have HS2 := Lib.hid (sort_calls mm AM cM wr (HRM.out.mod0 hm4) hcM (by have := HMM2.out; omega))
                have g2 : ¬ (i : Int) < l0.length := by omega
                have e9 : (s.length : Int) ≤ l0.length := by omega
                go_wp2_with fail
                refine HS2.out.mono ?_
                rintro e w5 ⟨A5, s5, rfl, hso5, hr5, hm5, _⟩
                obtain rfl : s5 = s := SortD.eq hso5 HSO.out (fun x => HALL.out x)
                have hd5 := diags_calls s5 s5 A5 A1 s5.length s5.length w5 hr5 ((HRS.out.mod0 hm4).mod0 hm5)
                rw [decide_eq_true rfl] at hd5
                have HD5 := Lib.hid hd5
                have hmw5 := hmw4.then0 hm5
                have hm45 := hm4.then0 hm5
                clear hd5 hso5 hr5 HS2
                go_wp2_with fail
                refine HD5.out.mono ?_
                rintro e w6 ⟨rfl, hm6⟩
                have hmw6 := hmw5.then0 hm6
                have hm46 := hm45.then0 hm6
                have HS3 := Lib.hid (sort_calls s5 A1 s5.length w6 (HRS.out.mod0 hm46) (Nat.le_refl _) (by omega))
                clear HD5
                go_wp2_with fail
                refine HS3.out.mono ?_
                rintro e w7 ⟨A7, s7, rfl, hso7, hr7, hm7, _⟩
                obtain rfl : s7 = s5 := SortD.eq hso7 ⟨HSO.out.1, fun x => Iff.rfl⟩ (fun x => Iff.rfl)
                have hd7 := diags_calls s7 s7 A7 A1 s7.length s7.length w7 hr7 ((HRS.out.mod0 hm46).mod0 hm7)
                rw [decide_eq_true rfl] at hd7
                have HD7 := Lib.hid hd7
                have hmw7 := hmw6.then0 hm7
                clear hd7 hso7 hr7 HS3
                go_wp2_with fail
                refine HD7.out.mono ?_
                rintro e w8 ⟨rfl, hm8⟩
                have hmw8 := hmw7.then0 hm8
                clear HD7
                go_wp2_with ((with_reducible refine (HAW.out _ hmw8).mono ?_); rintro ez w9 ⟨rfl, hm9⟩)
                go_ret
                exact ⟨rfl, hmw8.then0 hm9⟩
end Go.Proofs.YtdmdiokfpbmnaaaDoor

