/- diag.merged: a list in order. -/
import Derived.Test.YtdmdiokfpbmnaaaDoorDsW
namespace Go.Proofs.YtdmdiokfpbmnaaaDoor
open Go.RowKit
set_option linter.unusedVariables false

def MgE (l : List Dg) (w : World) (e : Ending) (w' : World) : Prop :=
  ∃ v m, e = .returned v ∧ Own w' 27 4 v l.length (encDs m) ∧ m.Perm l ∧ InD m ∧ Mod NoneB w w' ∧ ∀ g, v.ownBlock = some g → w.heap.size ≤ g
/-- While two lists are merged. -/
structure MgR (l : List Dg) (wE wr : World) (a b o : Value) (ra rb m : List Dg) (Aa Ab : Option Addr) (ca cb : Nat) : Prop where
  ha : a = .slice Aa ra.length ca
  hb : b = .slice Ab rb.length cb
  la : ra.length ≤ ca
  lb : rb.length ≤ cb
  rda : Rd wE 4 Aa ra.length (encDs ra)
  rdb : Rd wE 4 Ab rb.length (encDs rb)
  own : Own wr 27 4 o m.length (encDs m)
  perm : (m ++ (ra ++ rb)).Perm l
  ina : InD (m ++ ra)
  inb : InD (m ++ rb)
  mod : Mod NoneB wE wr
  new : ∀ g, o.ownBlock = some g → wE.heap.size ≤ g
def lenV : Value → Nat
  | .slice _ n _ => n
  | _ => 0
theorem Rd.head {w : World} {A : Option Addr} {x : Dg} {l : List Dg} (h : Rd w 4 A (x :: l).length (encDs (x :: l))) :
    ∃ ad, A = some ad ∧ w.cell? ad = some (.string x.m) ∧ w.cell? ⟨ad.block, ad.off + 1, none⟩ = some (.int .i64 x.a) ∧ w.cell? ⟨ad.block, ad.off + 2, none⟩ = some (.int .i64 x.c) ∧ w.cell? ⟨ad.block, ad.off + 3, none⟩ = some (.string x.n) := by
  obtain ⟨ad, e, h0, h1, h2, h3⟩ := h.dg 0 (by simp)
  rw [Nat.zero_mul, add_nil0] at h0 h1 h2 h3
  exact ⟨ad, e, h0, h1, h2, h3⟩
theorem perm_b {m ra rb l : List Dg} {y : Dg} (h : (m ++ (ra ++ y :: rb)).Perm l) : ((m ++ [y]) ++ (ra ++ rb)).Perm l := by
  refine List.Perm.trans ?_ h
  rw [List.append_assoc]
  refine List.Perm.append_left m ?_
  exact (List.perm_middle (l₁ := ra) (l₂ := rb)).symm
theorem perm_a {m ra rb l : List Dg} {x : Dg} (h : (m ++ (x :: ra ++ rb)).Perm l) : ((m ++ [x]) ++ (ra ++ rb)).Perm l := by
  rw [List.append_assoc]
  exact h

set_option maxHeartbeats 16000000 in
set_option maxRecDepth 100000 in
theorem merged_calls : ∀ (N : Nat) (l : List Dg), l.length ≤ N → ∀ (A : Option Addr) (c : Nat) (w : World), Rd w 4 A l.length (encDs l) → l.length ≤ c → l.length ≤ 100000 →
    Calls Tryd.prog 25 #[.slice A l.length c, .func (.func 10) #[] #[]] w (MgE l w) := by
  intro N
  induction N with
  | zero =>
    intro l hN A c w hr hlc hb
    have h0 : l = [] := List.eq_nil_of_length_eq_zero (by omega)
    subst h0
    go_enter Tryd.func25, Tryd.ntmps25
    go_wp2_with fail
    refine (cloneD_calls [] A c w hr (by decide)).mono ?_
    rintro e w1 ⟨v, rfl, ho, hm, hn⟩
    have HO := Lib.hid ho
    clear ho
    go_wp2_with fail
    go_ret
    exact ⟨v, [], rfl, HO.out, List.Perm.refl _, List.Pairwise.nil, hm, hn⟩
  | succ N ih =>
    intro l hN A c w hr hlc hb
    have IH := Lib.hid ih
    clear ih
    by_cases h2 : l.length < 2
    · have hin : InD l := by
        match l, h2 with
        | [], _ => exact List.Pairwise.nil
        | [x], _ => exact List.pairwise_singleton _ _
      have HIN := Lib.hid hin
      have HCL := Lib.hid (cloneD_calls l A c w hr (by omega))
      have e2 : (l.length : Int) < 2 := by omega
      clear hin hr
      go_enter Tryd.func25, Tryd.ntmps25
      go_wp2_with fail
      refine HCL.out.mono ?_
      rintro e w1 ⟨v, rfl, ho, hm, hn⟩
      have HO := Lib.hid ho
      clear ho
      go_wp2_with fail
      go_ret
      exact ⟨v, l, rfl, HO.out, List.Perm.refl _, HIN.out, hm, hn⟩
    · obtain ⟨ad, rfl, _⟩ := hr.2.2 (by omega)
      obtain ⟨k, hk⟩ : ∃ k, k = l.length / 2 := ⟨_, rfl⟩
      have hk1 : k ≤ l.length := by omega
      have r1 := hr.takeD rfl k hk1
      have r2 := hr.dropD rfl k hk1
      have hc1 : ∀ W, Mod NoneB w W → Calls Tryd.prog 25 #[.slice (some ad) k c, .func (.func 10) #[] #[]] W (MgE (l.take k) W) := by
        intro W hm
        have hlen : (l.take k).length = k := by rw [List.length_take]; omega
        have h := IH.out (l.take k) (by omega) (some ad) c W (by rw [hlen]; exact r1.mod0 hm) (by omega) (by omega)
        rw [hlen] at h
        exact h
      have hc2 : ∀ W, Mod NoneB w W → Calls Tryd.prog 25 #[.slice (some (ad.add (k * 4))) (l.length - k) (c - k), .func (.func 10) #[] #[]] W (MgE (l.drop k) W) := by
        intro W hm
        have hlen : (l.drop k).length = l.length - k := List.length_drop
        have h := IH.out (l.drop k) (by omega) (some (ad.add (k * 4))) (c - k) W (by rw [hlen]; exact r2.mod0 hm) (by omega) (by omega)
        rw [hlen] at h
        exact h
      have HC1 := Lib.hid hc1
      have HC2 := Lib.hid hc2
      have e2 : ¬ (l.length : Int) < 2 := by omega
      have e3 : (l.length : Int).tdiv 2 = (k : Int) := by rw [Int.tdiv_eq_ediv_of_nonneg (by omega)]; omega
      have hn := hr.2.1
      have f0 : IntKind.i64.wrap (k : Int) = k := IntWalk.i64_in _ (by omega)
      have f1 : (0 : Int) ≤ k := by omega
      have f2 : (k : Int) ≤ c := by omega
      have f3 : (k : Int) ≤ l.length := by omega
      have f4 : ¬ (c = k) := by omega
      have HM0 : Mod NoneB w w.drew := (Mod.refl NoneB w).drew
      have HK := Lib.hid hk
      clear hc1 hc2 r1 r2 hr hk
      go_enter Tryd.func25, Tryd.ntmps25
      go_wp2_with fail
      go_region_held3 (fun _ => True) (trivial)
        (first
          | (go_at_call 25; (with_reducible refine (HC1.out _ HM0).mono ?_); rintro ez w3 ⟨v3, m3, rfl, ho3, hp3, hi3, hm3, hn3⟩; have HM3 := HM0.then0 hm3)
          | (go_at_call 25; (with_reducible refine (HC2.out _ HM3).mono ?_); rintro ez w4 ⟨v4, m4, rfl, ho4, hp4, hi4, hm4, hn4⟩; have HM4 := HM3.then0 hm4))
      all_goals
        rw [← hp3.length_eq] at ho3
        rw [← hp4.length_eq] at ho4
        obtain ⟨A3, c3, rfl, hle3, _, hr3⟩ := (ho3.mod0 hm4).out
        obtain ⟨A4, c4, rfl, hle4, _, hr4⟩ := ho4.out
        have hpl : (m3 ++ m4).Perm l := by
          have h := List.Perm.append hp3 hp4
          rwa [List.take_append_drop] at h
        obtain ⟨wE, hwE⟩ : ∃ x, x = w4 := ⟨_, rfl⟩
        subst hwE
        have hini : ∃ ra rb m Aa Ab ca cb, MgR l wE wE (.slice A3 m3.length c3) (.slice A4 m4.length c4) (.slice none 0 0) ra rb m Aa Ab ca cb :=
          ⟨m3, m4, [], A3, A4, c3, c4, rfl, rfl, hle3, hle4, hr3, hr4, Own.nil _ _ _, hpl, hi3, hi4, Mod.refl _ _, fun g h => by simp [Value.ownBlock] at h⟩
        have HINI := Lib.hid hini
        have hus := Tryd.underlying22
        clear hini hpl hle3 hle4 hr3 hr4 ho3 ho4 hp3 hp4 hi3 hi4 hm3 hm4 hn3 hn4 HM3 HM0 HC1 HC2 IH HK f0 f1 f2 f3 f4 e2 e3 hn
        go_wp2_with fail
        go_loopw [5, 6, 7] (fun a b o wr => ∃ ra rb m Aa Ab ca cb, MgR l wE wr a b o ra rb m Aa Ab ca cb) (fun a b _ _ => lenV a + lenV b)
        case atStart => exact HINI.out
        case round =>
          obtain ⟨ra, rb, m, Aa, Ab, ca, cb, hR⟩ := hrel
          obtain ⟨rfl, rfl, la, lb, rda, rdb, own, perm, ina, inb, mod, new⟩ := hR
          have hlen := perm.length_eq
          rw [List.length_append, List.length_append] at hlen
          clear HINI
          cases ra with
          | nil =>
            have hxa := rda.mod0 mod
            have h48 : (m.length + ([] : List Dg).length) * 48 ≤ 140737488355328 := by simp at hlen ⊢; omega
            have h49 : (m.length + ([] : List Dg).length + rb.length) * 48 ≤ 140737488355328 := by simp at hlen ⊢; omega
            have hso : InD (m ++ ([] : List Dg) ++ rb) := by simpa using inb
            have hpe : (m ++ ([] : List Dg) ++ rb).Perm l := by rw [List.append_assoc]; exact perm
            have HSO := Lib.hid hso
            have HPE := Lib.hid hpe
            have NEW := Lib.hid new
            have hll : m.length + ([] : List Dg).length + rb.length = l.length := by simp at hlen ⊢; omega
            have HLL := Lib.hid hll
            clear hso hpe new hlen hll perm ina inb
            go_wp2_with (at_builtin; refine wpList_append rfl (.tmp 59) (.tmp 60) 22 rfl 27 _ 4 48 hus tiD rfl (by decide) (by decide) _ m.length (encDs m) rfl own Aa ([] : List Dg).length ca (encDs ([] : List Dg)) rfl (encDs_length ([] : List Dg)) hxa.2.2 (encDs_one _) h48 ?_)
            intro v5 w5 ho5 hm5 hno5
            have hm5w : Mod NoneB wE w5 := mod.trans_new hm5 (fun k hk => .inr (NEW.out k hk))
            have hn5 : ∀ g, v5.ownBlock = some g → wE.heap.size ≤ g := by
              intro g hg
              rcases hno5 with hq | ⟨b, hq, hb⟩
              · exact NEW.out g (by rw [← hq]; exact hg)
              · rw [hq] at hg
                injection hg with hg
                have h1 := mod.size
                omega
            have hxb := rdb.mod0 hm5w
            have HN5 := Lib.hid hn5
            have HO5 := Lib.hid ho5
            obtain ⟨A5, c5, rfl, _, _, _⟩ := ho5.out
            clear hn5 ho5 hno5 hm5 own
            go_wp2_with (at_builtin; refine wpList_append rfl (.tmp 61) (.tmp 62) 22 rfl 27 _ 4 48 hus tiD rfl (by decide) (by decide) _ (m.length + ([] : List Dg).length) (encDs m ++ encDs ([] : List Dg)) rfl HO5.out Ab rb.length cb (encDs rb) rfl (encDs_length rb) hxb.2.2 (encDs_one _) h49 ?_)
            intro v6 w6 ho6 hm6 hno6
            have hm6w : Mod NoneB wE w6 := hm5w.trans_new hm6 (fun k hk => .inr (HN5.out k hk))
            have hn6 : ∀ g, v6.ownBlock = some g → wE.heap.size ≤ g := by
              intro g hg
              rcases hno6 with hq | ⟨b, hq, hb⟩
              · exact HN5.out g (by rw [← hq]; exact hg)
              · rw [hq] at hg
                injection hg with hg
                have h1 := hm5w.size
                omega
            have ho7 : Own w6 27 4 v6 l.length (encDs (m ++ ([] : List Dg) ++ rb)) := by
              rw [encDs_append, encDs_append, ← HLL.out, List.append_assoc]
              simpa using ho6
            have HO7 := Lib.hid ho7
            have HN6 := Lib.hid hn6
            clear ho6 ho7 hn6 hno6 hm6 HO5 HN5
            go_wp2_with fail
            go_ret
            exact ⟨v6, _, rfl, HO7.out, HPE.out, HSO.out, HM4.then0 hm6w, fun g hg => Nat.le_trans HM4.size (HN6.out g hg)⟩
          | cons x ra =>
            cases rb with
            | nil =>
              have hxa := rda.mod0 mod
              have h48 : (m.length + (x :: ra).length) * 48 ≤ 140737488355328 := by simp at hlen ⊢; omega
              have h49 : (m.length + (x :: ra).length + ([] : List Dg).length) * 48 ≤ 140737488355328 := by simp at hlen ⊢; omega
              have hso : InD (m ++ (x :: ra) ++ ([] : List Dg)) := by simpa using ina
              have hpe : (m ++ (x :: ra) ++ ([] : List Dg)).Perm l := by rw [List.append_assoc]; exact perm
              have HSO := Lib.hid hso
              have HPE := Lib.hid hpe
              have NEW := Lib.hid new
              have hll : m.length + (x :: ra).length + ([] : List Dg).length = l.length := by simp at hlen ⊢; omega
              have HLL := Lib.hid hll
              clear hso hpe new hlen hll perm ina inb
              go_wp2_with (at_builtin; refine wpList_append rfl (.tmp 59) (.tmp 60) 22 rfl 27 _ 4 48 hus tiD rfl (by decide) (by decide) _ m.length (encDs m) rfl own Aa (x :: ra).length ca (encDs (x :: ra)) rfl (encDs_length (x :: ra)) hxa.2.2 (encDs_one _) h48 ?_)
              intro v5 w5 ho5 hm5 hno5
              have hm5w : Mod NoneB wE w5 := mod.trans_new hm5 (fun k hk => .inr (NEW.out k hk))
              have hn5 : ∀ g, v5.ownBlock = some g → wE.heap.size ≤ g := by
                intro g hg
                rcases hno5 with hq | ⟨b, hq, hb⟩
                · exact NEW.out g (by rw [← hq]; exact hg)
                · rw [hq] at hg
                  injection hg with hg
                  have h1 := mod.size
                  omega
              have hxb := rdb.mod0 hm5w
              have HN5 := Lib.hid hn5
              have HO5 := Lib.hid ho5
              obtain ⟨A5, c5, rfl, _, _, _⟩ := ho5.out
              clear hn5 ho5 hno5 hm5 own
              go_wp2_with (at_builtin; refine wpList_append rfl (.tmp 61) (.tmp 62) 22 rfl 27 _ 4 48 hus tiD rfl (by decide) (by decide) _ (m.length + (x :: ra).length) (encDs m ++ encDs (x :: ra)) rfl HO5.out Ab ([] : List Dg).length cb (encDs ([] : List Dg)) rfl (encDs_length ([] : List Dg)) hxb.2.2 (encDs_one _) h49 ?_)
              intro v6 w6 ho6 hm6 hno6
              have hm6w : Mod NoneB wE w6 := hm5w.trans_new hm6 (fun k hk => .inr (HN5.out k hk))
              have hn6 : ∀ g, v6.ownBlock = some g → wE.heap.size ≤ g := by
                intro g hg
                rcases hno6 with hq | ⟨b, hq, hb⟩
                · exact HN5.out g (by rw [← hq]; exact hg)
                · rw [hq] at hg
                  injection hg with hg
                  have h1 := hm5w.size
                  omega
              have ho7 : Own w6 27 4 v6 l.length (encDs (m ++ (x :: ra) ++ ([] : List Dg))) := by
                rw [encDs_append, encDs_append, ← HLL.out, List.append_assoc]
                simpa using ho6
              have HO7 := Lib.hid ho7
              have HN6 := Lib.hid hn6
              clear ho6 ho7 hn6 hno6 hm6 HO5 HN5
              go_wp2_with fail
              go_ret
              exact ⟨v6, _, rfl, HO7.out, HPE.out, HSO.out, HM4.then0 hm6w, fun g hg => Nat.le_trans HM4.size (HN6.out g hg)⟩
            | cons y rb =>
              obtain ⟨ada, rfl, p0, p1, p2, p3⟩ := rda.head
              obtain ⟨adb, rfl, q0, q1, q2, q3⟩ := rdb.head
              have la' : ada.block < wE.heap.size := rda.block_lt (by decide) (by simp) ada rfl
              have lb' : adb.block < wE.heap.size := rdb.block_lt (by decide) (by simp) adb rfl
              have hra := rda.dropD rfl 1 (by simp)
              have hrb := rdb.dropD rfl 1 (by simp)
              simp only [List.length_cons, Nat.add_sub_cancel, List.drop_succ_cons, List.drop_zero, Nat.one_mul] at hra hrb la lb hlen
              have hmd : Mod NoneB wE wr.drew := mod.drew
              replace p0 := hmd.cell0 p0
              replace p1 := hmd.cell0 p1
              replace p2 := hmd.cell0 p2
              replace p3 := hmd.cell0 p3
              replace q0 := hmd.cell0 q0
              replace q1 := hmd.cell0 q1
              replace q2 := hmd.cell0 q2
              replace q3 := hmd.cell0 q3
              have i1 : (0 : Int) < (ra.length : Int) + 1 := by omega
              have i2 : (0 : Int) < (rb.length : Int) + 1 := by omega
              have HL := Lib.hid (fun W => less_calls y x W)
              obtain ⟨bt, hbt⟩ : ∃ bt, bt = decide (ltD y x) := ⟨_, rfl⟩
              rw [← hbt] at HL
              have HBT := Lib.hid hbt
              have OWN := Lib.hid own
              have NEW := Lib.hid new
              have PERM := Lib.hid perm
              have INA := Lib.hid ina
              have INB := Lib.hid inb
              have HRA := Lib.hid hra
              have HRB := Lib.hid hrb
              have RDA := Lib.hid rda
              have RDB := Lib.hid rdb
              clear hbt own new perm ina inb hra hrb rda rdb
              go_wp2_with fail
              go_region_held3 (fun w' => (w'.cell? ada = some (.string x.m) ∧ w'.cell? ⟨ada.block, ada.off + 1, none⟩ = some (.int .i64 x.a) ∧ w'.cell? ⟨ada.block, ada.off + 2, none⟩ = some (.int .i64 x.c) ∧ w'.cell? ⟨ada.block, ada.off + 3, none⟩ = some (.string x.n)) ∧ w'.cell? adb = some (.string y.m) ∧ w'.cell? ⟨adb.block, adb.off + 1, none⟩ = some (.int .i64 y.a) ∧ w'.cell? ⟨adb.block, adb.off + 2, none⟩ = some (.int .i64 y.c) ∧ w'.cell? ⟨adb.block, adb.off + 3, none⟩ = some (.string y.n)) (first | exact ⟨⟨p0, p1, p2, p3⟩, q0, q1, q2, q3⟩ | exact ⟨⟨x0, x1, x2, x3⟩, y0, y1, y2, y3⟩ | go_keep)
                (first
                  | (go_at_call 10; (with_reducible refine (HL.out _).mono ?_); rintro ez w3 ⟨rfl, hm3⟩; have x0 := hm3.cell0 p0; have x1 := hm3.cell0 p1; have x2 := hm3.cell0 p2; have x3 := hm3.cell0 p3; have y0 := hm3.cell0 q0; have y1 := hm3.cell0 q1; have y2 := hm3.cell0 q2; have y3 := hm3.cell0 q3))
              all_goals
                have mod3 := hmd.then0 hm3
                clear p0 p1 p2 p3 q0 q1 q2 q3 HL
                cases bt with
                | true =>
                  have y0' := y0
                  have y1' := y1
                  have y2' := y2
                  have y3' := y3
                  have hsd : Mod NoneB w3 w3.drew := (Mod.refl NoneB w3).drew
                  have s0 := hsd.cell0 y0
                  have s1 := hsd.cell0 y1
                  have s2 := hsd.cell0 y2
                  have s3 := hsd.cell0 y3
                  obtain ⟨A', sl1, sl2, r1, _⟩ := dropD_at (n := rb.length + 1) RDB.out rfl lb 1 (by omega) 1 rfl
                  simp only [Nat.add_sub_cancel, List.drop_succ_cons, List.drop_zero] at sl1 sl2 r1
                  have R1 := Lib.hid r1
                  have HS := Lib.hid (merge_step_b INA.out INB.out (of_decide_eq_true HBT.out.symm))
                  have hwr3 : Mod NoneB wr w3 := ((Mod.refl NoneB wr).drew).then0 hm3
                  have hal : Mod NoneB w3 (w3.alloc (.cells #[.string y.m, .int .i64 y.a, .int .i64 y.c, .string y.n] 27)).drew := ((Mod.refl NoneB w3).alloc _).drew
                  have hox := (OWN.out.mod0 hwr3).mod0 hal
                  have hnx : 0 < 1 → ∃ a, (some ⟨w3.heap.size, 0, none⟩ : Option Addr) = some a ∧ ∀ (j : Nat) u, (encDs [y])[j]? = some u → (w3.alloc (.cells #[.string y.m, .int .i64 y.a, .int .i64 y.c, .string y.n] 27)).drew.cell? (a.add j) = some u := ((rdBlk (sz := 4) (n := 1) (heap_alloc_new w3 (.cells #[.string y.m, .int .i64 y.a, .int .i64 y.c, .string y.n] 27)) rfl (by omega)).mod0 ((Mod.refl NoneB _).drew)).2.2
                  have h48 : (m.length + 1) * 48 ≤ 140737488355328 := by omega
                  have hne : ¬ OnlyBlk u7 adb.block := fun hk => by have := NEW.out _ hk; omega
                  have hus := Tryd.underlying22
                  have j1 : (1 : Int) ≤ (rb.length : Int) + 1 := by omega
                  clear r1 x0 x1 x2 x3 y0 y1 y2 y3
                  go_wp2_with fail
                  go_region_held3 (fun w' => w'.cell? adb = some (.string y.m) ∧ w'.cell? ⟨adb.block, adb.off + 1, none⟩ = some (.int .i64 y.a) ∧ w'.cell? ⟨adb.block, adb.off + 2, none⟩ = some (.int .i64 y.c) ∧ w'.cell? ⟨adb.block, adb.off + 3, none⟩ = some (.string y.n)) (first | exact ⟨s0, s1, s2, s3⟩ | exact ⟨k0, k1, k2, k3⟩ | go_keep)
                    (first
                      | (refine step_app rfl (.tmp 43) (.tmp 47) 22 rfl 27 _ 4 48 hus tiD rfl (by decide) (by decide) _ m.length (encDs m) (by simp [Act.eval]) hox (some ⟨w3.heap.size, 0, none⟩) 1 1 (encDs [y]) (by simp [Act.eval]) rfl hnx (encDs_one _) h48 ?_; intro v5 w5 ho5 hm5 hno5
                         have k0 := hm5.cell (hal.cell0 y0') hne
                         have k1 := hm5.cell (hal.cell0 y1') hne
                         have k2 := hm5.cell (hal.cell0 y2') hne
                         have k3 := hm5.cell (hal.cell0 y3') hne))
                  all_goals
                    have hmal := mod3.then0 hal
                    have mod5 : Mod NoneB wE w5 := hmal.trans_new hm5 (fun k hk => .inr (NEW.out k hk))
                    have hn6 : ∀ g, v5.ownBlock = some g → wE.heap.size ≤ g := by
                      intro g hg
                      rcases hno5 with hq | ⟨b, hq, hb⟩
                      · exact NEW.out g (by rw [← hq]; exact hg)
                      · rw [hq] at hg
                        injection hg with hg
                        have h1 := hmal.size
                        omega
                    have ho6 : Own w5 27 4 v5 (m ++ [y]).length (encDs (m ++ [y])) := by
                      rw [encDs_append, List.length_append]
                      exact ho5
                    have OW6 := Lib.hid ho6
                    have NW6 := Lib.hid hn6
                    obtain ⟨A5, c5, rfl, _, _, _⟩ := ho5.out
                    clear ho6 hn6 ho5 hno5 hm5 hox hnx hal hmal s0 s1 s2 s3 k0 k1 k2 k3
                    go_wp2_with fail
                    go_roundw
                    case rel => exact ⟨x :: ra, rb, m ++ [y], some ada, A', ca, cb - 1, ⟨rfl, rfl, by simp; omega, by omega, RDA.out, R1.out, OW6.out, perm_b PERM.out, HS.out.1, HS.out.2, mod5, NW6.out⟩⟩
                    case measure => simp [lenV]
                | false =>
                  have x0' := x0
                  have x1' := x1
                  have x2' := x2
                  have x3' := x3
                  have hsd : Mod NoneB w3 w3.drew := (Mod.refl NoneB w3).drew
                  have s0 := hsd.cell0 x0
                  have s1 := hsd.cell0 x1
                  have s2 := hsd.cell0 x2
                  have s3 := hsd.cell0 x3
                  obtain ⟨A', sl1, sl2, r1, _⟩ := dropD_at (n := ra.length + 1) RDA.out rfl la 1 (by omega) 1 rfl
                  simp only [Nat.add_sub_cancel, List.drop_succ_cons, List.drop_zero] at sl1 sl2 r1
                  have R1 := Lib.hid r1
                  have HS := Lib.hid (merge_step_a INA.out INB.out (of_decide_eq_false HBT.out.symm))
                  have hwr3 : Mod NoneB wr w3 := ((Mod.refl NoneB wr).drew).then0 hm3
                  have hal : Mod NoneB w3 (w3.alloc (.cells #[.string x.m, .int .i64 x.a, .int .i64 x.c, .string x.n] 27)).drew := ((Mod.refl NoneB w3).alloc _).drew
                  have hox := (OWN.out.mod0 hwr3).mod0 hal
                  have hnx : 0 < 1 → ∃ a, (some ⟨w3.heap.size, 0, none⟩ : Option Addr) = some a ∧ ∀ (j : Nat) u, (encDs [x])[j]? = some u → (w3.alloc (.cells #[.string x.m, .int .i64 x.a, .int .i64 x.c, .string x.n] 27)).drew.cell? (a.add j) = some u := ((rdBlk (sz := 4) (n := 1) (heap_alloc_new w3 (.cells #[.string x.m, .int .i64 x.a, .int .i64 x.c, .string x.n] 27)) rfl (by omega)).mod0 ((Mod.refl NoneB _).drew)).2.2
                  have h48 : (m.length + 1) * 48 ≤ 140737488355328 := by omega
                  have hne : ¬ OnlyBlk u7 ada.block := fun hk => by have := NEW.out _ hk; omega
                  have hus := Tryd.underlying22
                  have j1 : (1 : Int) ≤ (ra.length : Int) + 1 := by omega
                  clear r1 x0 x1 x2 x3 y0 y1 y2 y3
                  go_wp2_with fail
                  go_region_held3 (fun w' => w'.cell? ada = some (.string x.m) ∧ w'.cell? ⟨ada.block, ada.off + 1, none⟩ = some (.int .i64 x.a) ∧ w'.cell? ⟨ada.block, ada.off + 2, none⟩ = some (.int .i64 x.c) ∧ w'.cell? ⟨ada.block, ada.off + 3, none⟩ = some (.string x.n)) (first | exact ⟨s0, s1, s2, s3⟩ | exact ⟨k0, k1, k2, k3⟩ | go_keep)
                    (first
                      | (refine step_app rfl (.tmp 51) (.tmp 55) 22 rfl 27 _ 4 48 hus tiD rfl (by decide) (by decide) _ m.length (encDs m) (by simp [Act.eval]) hox (some ⟨w3.heap.size, 0, none⟩) 1 1 (encDs [x]) (by simp [Act.eval]) rfl hnx (encDs_one _) h48 ?_; intro v5 w5 ho5 hm5 hno5
                         have k0 := hm5.cell (hal.cell0 x0') hne
                         have k1 := hm5.cell (hal.cell0 x1') hne
                         have k2 := hm5.cell (hal.cell0 x2') hne
                         have k3 := hm5.cell (hal.cell0 x3') hne))
                  all_goals
                    have hmal := mod3.then0 hal
                    have mod5 : Mod NoneB wE w5 := hmal.trans_new hm5 (fun k hk => .inr (NEW.out k hk))
                    have hn6 : ∀ g, v5.ownBlock = some g → wE.heap.size ≤ g := by
                      intro g hg
                      rcases hno5 with hq | ⟨b, hq, hb⟩
                      · exact NEW.out g (by rw [← hq]; exact hg)
                      · rw [hq] at hg
                        injection hg with hg
                        have h1 := hmal.size
                        omega
                    have ho6 : Own w5 27 4 v5 (m ++ [x]).length (encDs (m ++ [x])) := by
                      rw [encDs_append, List.length_append]
                      exact ho5
                    have OW6 := Lib.hid ho6
                    have NW6 := Lib.hid hn6
                    obtain ⟨A5, c5, rfl, _, _, _⟩ := ho5.out
                    clear ho6 hn6 ho5 hno5 hm5 hox hnx hal hmal s0 s1 s2 s3 k0 k1 k2 k3
                    go_wp2_with fail
                    go_roundw
                    case rel => exact ⟨ra, y :: rb, m ++ [x], A', some adb, ca - 1, cb, ⟨rfl, rfl, by omega, by simp; omega, R1.out, RDB.out, OW6.out, perm_a PERM.out, HS.out.1, HS.out.2, mod5, NW6.out⟩⟩
                    case measure => simp [lenV]
end Go.Proofs.YtdmdiokfpbmnaaaDoor

