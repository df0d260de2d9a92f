/- '==' and '!=' of pairs and of ops; aquiferref1.Pairs tells whether two lists are one. -/
import Derived.Test.YtfbnkbdolimojaaGreat
import Derived.Laws.StructEq
namespace Go.Proofs.Ytfbnkbdolimojaa
open Go.RowKit

section
variable {P : Program} {d : Nat} {xs ys : Array Value} {f : Field} {fs : List Field} {a b : Value} {r s : Bool} {w : World}
/-- The fields of two structs, one behind the other. -/
theorem fields_cons (hn : (f.name == "_") = false) (ha : (part f.type xs f.offset).run P w = .ok a w) (hb : (part f.type ys f.offset).run P w = .ok b w) (he : (Op.equalIn d f.type a b).run P w = .ok r w) (hr : (Op.eqFields d xs ys fs).run P w = .ok s w) :
    (Op.eqFields d xs ys (f :: fs)).run P w = .ok (r && s) w := by
  have hn' : f.name ≠ "_" := by simpa using hn
  rw [Op.eqFields]
  simp only [if_pos hn', Sem.run_bind, ha, hb, he, Result.andThen_ok]
  cases r
  · simp
  · simpa using hr
theorem fields_nil : (Op.eqFields d xs ys []).run P w = .ok true w := by simp [Op.eqFields]
theorem equal_struct {t : TypeId} {fs : Array Field} (hu : P.underlying t = some (.struct fs)) (hp : P.stoodInHeld t = false) (h : (Op.eqFields d xs ys fs.toList).run P w = .ok r w) : (Op.equalIn (d + 1) t (.agg xs) (.agg ys)).run P w = .ok r w := by
  have hf : P.fieldsOf t = fs := by simp [Program.fieldsOf, hu]
  rw [run_equalIn_struct (P := P) w d t xs ys (by rw [hf]; exact hu) hp, hf]
  exact h
theorem neq_of (t : TypeId) (h : ∀ d, (Op.equalIn (d + 3) t (.agg xs) (.agg ys)).run P w = .ok r w) : (binOp .neq t (.agg xs) (.agg ys)).run P w = .ok (.bool (!r)) w := by
  simp only [binOp]
  simp [Op.equal, Op.maxDepth, h 9997]
theorem eql_of (t : TypeId) (h : ∀ d, (Op.equalIn (d + 3) t (.agg xs) (.agg ys)).run P w = .ok r w) : (binOp .eql t (.agg xs) (.agg ys)).run P w = .ok (.bool r) w := by
  simp only [binOp]
  simp [Op.equal, Op.maxDepth, h 9997]
end

theorem eqP_in (d : Nat) (w : World) (p q : Pr) : (Op.equalIn (d + 3) 102 (.agg #[.string p.k, .string p.v]) (.agg #[.string q.k, .string q.v])).run Try.prog w = .ok (decide (p = q)) w := by
  have h : (Op.equalIn (d + 3) 102 (.agg #[.string p.k, .string p.v]) (.agg #[.string q.k, .string q.v])).run Try.prog w = .ok (p.k.toList == q.k.toList && (p.v.toList == q.v.toList && true)) w := by
    refine equal_struct Try.underlying102 (by kernel_rfl) ?_
    refine fields_cons (by rfl) (by go_simp; rfl) (by go_simp; rfl) (by go_simp) ?_
    refine fields_cons (by rfl) (by go_simp; rfl) (by go_simp; rfl) (by go_simp) ?_
    exact fields_nil
  have hb : (p.k.toList == q.k.toList && (p.v.toList == q.v.toList && true)) = decide (p = q) := by
    rw [beq_toList, beq_toList]
    cases p; cases q
    simp
  rw [← hb]
  exact h
theorem neqP (p q : Pr) (w : World) : (binOp .neq 102 (.agg #[.string p.k, .string p.v]) (.agg #[.string q.k, .string q.v])).run Try.prog w = .ok (.bool (!(decide (p = q)))) w :=
  neq_of _ fun d => eqP_in d w p q

theorem take_eq_succ {α : Type} {a b : List α} {j : Nat} (h : a.take j = b.take j) (ha : j < a.length) (hb : j < b.length) (he : a[j] = b[j]) : a.take (j + 1) = b.take (j + 1) := by
  rw [List.take_succ_eq_append_getElem ha, List.take_succ_eq_append_getElem hb, h, he]

set_option maxHeartbeats 1000000 in
set_option maxRecDepth 100000 in
theorem pairs_calls (a b : List Pr) (A B : Option Addr) (c c' : Nat) (w : World) (hr : Rd w 2 A a.length (encPs a)) (hs : Rd w 2 B b.length (encPs b)) :
    Calls Try.prog 30 #[.slice A a.length c, .slice B b.length c'] w fun e w' => e = .returned (.bool (decide (a = b))) ∧ Mod NoneB w w' := by
  have hn := hr.2.1
  have hn' := hs.2.1
  by_cases hl : a.length = b.length
  · have e1 : ((a.length : Int) != b.length) = false := by simp [hl]
    have HL := Lib.hid hl
    clear hl
    go_enter Try.func30, Try.ntmps30
    go_wp2_with fail
    clear e1
    go_loopw [5] (fun i wr => ∃ j : Nat, i = .int .i64 j ∧ j ≤ a.length ∧ a.take j = b.take j ∧ Mod NoneB w wr) (fun i _ => a.length - (intOf i).toNat)
    case atStart => exact ⟨0, rfl, by omega, by simp, Mod.refl _ _⟩
    case round =>
      obtain ⟨j, rfl, hj, ht, hm⟩ := hrel
      have HT := Lib.hid ht
      clear ht
      by_cases hlt : j < a.length
      · have hlb : j < b.length := by have := HL.out; omega
        obtain ⟨ad, rfl, h0, h1⟩ := hr.pair j hlt
        obtain ⟨bd, rfl, g0, g1⟩ := hs.pair j hlb
        replace h0 := hm.cell0 h0
        replace h1 := hm.cell0 h1
        replace g0 := hm.cell0 g0
        replace g1 := hm.cell0 g1
        obtain ⟨p, hp⟩ : ∃ p, p = a[j] := ⟨_, rfl⟩
        obtain ⟨q, hq⟩ : ∃ q, q = b[j] := ⟨_, rfl⟩
        rw [← hp] at h0 h1
        rw [← hq] at g0 g1
        have HP := Lib.hid hp
        have HQ := Lib.hid hq
        clear hp hq
        have hne := neqP p q
        have e2 : (0 : Int) ≤ j := by omega
        have e3 : (j : Int) < a.length := by omega
        have e4 : (j : Int) < b.length := by omega
        by_cases he : p = q
        · have hd : decide (p = q) = true := decide_eq_true he
          have HE := Lib.hid he
          clear he
          rw [hd] at hne
          clear hd
          go_wp2_with fail
          go_quiet (fail)
          clear e2 e3 e4
          go_wp2_with fail
          go_roundw
          case rel => exact ⟨j + 1, by go_num, by omega, take_eq_succ HT.out hlt hlb (by rw [← HP.out, ← HQ.out]; exact HE.out), hm.drewN _⟩
          case measure => simp [intOf]; omega
        · have hd : decide (p = q) = false := decide_eq_false he
          have HE : Hid (a ≠ b) := Lib.hid fun e => he (by rw [HP.out, HQ.out]; simp only [e])
          clear he
          rw [hd] at hne
          clear hd
          go_wp2_with fail
          go_quiet (fail)
          clear e2 e3 e4
          go_wp2_with fail
          go_ret
          exact ⟨by rw [decide_eq_false HE.out]; rfl, hm.drewN _⟩
      · have he : a = b := by
          have h := HT.out
          have := HL.out
          rwa [List.take_of_length_le (by omega), List.take_of_length_le (by omega)] at h
        have HE := Lib.hid he
        clear he
        go_wp2_with fail
        go_ret
        exact ⟨by rw [decide_eq_true HE.out]; rfl, hm⟩
  · have e1 : ((a.length : Int) != b.length) = true := by rw [bne_iff_ne]; omega
    have HE : Hid (a ≠ b) := Lib.hid fun e => hl (by rw [e])
    clear hl
    go_enter Try.func30, Try.ntmps30
    go_wp2_with fail
    go_ret
    exact ⟨by rw [decide_eq_false HE.out]; rfl, Mod.refl _ _⟩
end Go.Proofs.Ytfbnkbdolimojaa
