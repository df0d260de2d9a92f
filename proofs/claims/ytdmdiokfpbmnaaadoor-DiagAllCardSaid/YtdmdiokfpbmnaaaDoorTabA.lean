/- table.Apply, table.Get and what they call. -/
import Derived.Test.YtdmdiokfpbmnaaaDoorPlain
import Derived.Test.YtdmdiokfpbmnaaaDoorFind
import Derived.Test.YtdmdiokfpbmnaaaDoorRow
import Derived.StillTailTactics
import Derived.WalkSpells
import Derived.WalkLawsBesides
import Derived.Laws.StructEq
import Derived.Deep.DeepCutAuto
namespace Go.Proofs.YtdmdiokfpbmnaaaDoor
open Go.RowKit


theorem encPs_set (l : List Pr) (i : Nat) (h : i < l.length) (v : ByteArray) : (encPs l).set (i * 2 + 1) (.string v) = encPs (l.take i ++ ⟨l[i].k, v⟩ :: l.drop (i + 1)) := by
  induction l generalizing i with
  | nil => simp at h
  | cons p l ih =>
    cases i with
    | zero => simp [encPs, encP]
    | succ i =>
      have := ih i (by simpa using h)
      rw [show (i + 1) * 2 + 1 = (i * 2 + 1) + 2 from by omega]
      simp only [encPs, List.flatMap_cons, encP, List.cons_append, List.nil_append, List.set_cons_succ, List.take_succ_cons, List.drop_succ_cons, List.getElem_cons_succ] at this ⊢
      rw [this]
theorem putT_length_le (l : List Pr) (key v : ByteArray) : (putT l key v).length ≤ l.length + 1 := by
  unfold putT
  have := lb_le l key
  split <;> simp <;> omega

end Go.Proofs.YtdmdiokfpbmnaaaDoor

/- table.Right, the laws' Great, aquiferref1.Pairs. -/
namespace Go.Proofs.YtdmdiokfpbmnaaaDoor
open Go.RowKit

theorem rises_take_succ {l : List Pr} {i : Nat} (h : i + 1 < l.length) (hr : Rises (l.take (i + 1))) (hk : cmpS l[i].k l[i + 1].k < 0) : Rises (l.take (i + 2)) := by
  rw [show l.take (i + 2) = l.take (i + 1) ++ [l[i + 1]] from by rw [List.take_succ_eq_append_getElem h]]
  refine List.pairwise_append.2 ⟨hr, List.pairwise_singleton _ _, fun a ha b hb => ?_⟩
  rw [List.mem_singleton] at hb
  subst hb
  rw [List.take_succ_eq_append_getElem (by omega)] at ha hr
  rcases List.mem_append.1 ha with ha' | ha'
  · exact cmpS_trans ((List.pairwise_append.1 hr).2.2 a ha' _ (List.mem_singleton.2 rfl)) hk
  · rw [List.mem_singleton] at ha'
    subst ha'
    exact hk
theorem rises_pair {l : List Pr} (h : Rises l) {i : Nat} (hi : i + 1 < l.length) : cmpS l[i].k l[i + 1].k < 0 :=
  List.pairwise_iff_getElem.1 h i (i + 1) (by omega) hi (by omega)

end Go.Proofs.YtdmdiokfpbmnaaaDoor

/- The laws' Great: it lets by no more than some thousand letters. -/
namespace Go.Proofs.YtdmdiokfpbmnaaaDoor
open Go.RowKit

def encO (o : Op3) : List Value := [.bool o.del, .string o.k, .string o.v]
def encOs (l : List Op3) : List Value := l.flatMap encO
theorem encOs_length (l : List Op3) : (encOs l).length = l.length * 3 := by
  unfold encOs
  induction l with
  | nil => rfl
  | cons x l ih => rw [List.flatMap_cons, List.length_append, ih, List.length_cons]; simp [encO]; omega
theorem encOs_get (l : List Op3) (i : Nat) (h : i < l.length) : (encOs l)[i * 3]? = some (.bool l[i].del) ∧ (encOs l)[i * 3 + 1]? = some (.string l[i].k) ∧ (encOs l)[i * 3 + 2]? = some (.string l[i].v) := by
  unfold encOs
  induction l generalizing i with
  | nil => simp at h
  | cons x l ih =>
    rw [List.flatMap_cons]
    cases i with
    | zero => simp [encO]
    | succ i =>
      have := ih i (by simpa using h)
      have e1 : (i + 1) * 3 = (encO x).length + i * 3 := by simp [encO]; omega
      rw [e1, Nat.add_assoc, Nat.add_assoc, List.getElem?_append_right (by omega), List.getElem?_append_right (by omega), List.getElem?_append_right (by omega)]
      simpa using this
/-- Element i of a row of ops. -/
theorem Rd.op {w : World} {A : Option Addr} {n : Nat} {l : List Op3} (h : Rd w 3 A n (encOs l)) (i : Nat) (hi : i < l.length) :
    ∃ ad, A = some ad ∧ w.cell? (ad.add (i * 3)) = some (.bool l[i].del) ∧ w.cell? ⟨(ad.add (i * 3)).block, (ad.add (i * 3)).off + 1, none⟩ = some (.string l[i].k) ∧ w.cell? ⟨(ad.add (i * 3)).block, (ad.add (i * 3)).off + 2, none⟩ = some (.string l[i].v) := by
  have hl : l.length = n := by have := h.1; rw [encOs_length] at this; omega
  obtain ⟨ad, e, hc⟩ := h.2.2 (by omega)
  have hg := encOs_get l i hi
  exact ⟨ad, e, hc _ _ hg.1, by rw [← addr_field _ _ 1 (by omega)]; exact hc _ _ hg.2.1, by rw [← addr_field _ _ 2 (by omega)]; exact hc _ _ hg.2.2⟩

/-- What 'aquifer/aquiferlaw6.Great' counts. -/
def wtPE (p : Pr) : Nat := 1 + min p.k.size 3001 + min p.v.size 3001
def wtP (l : List Pr) : Nat := (l.map wtPE).sum
theorem wtP_le {l : List Pr} (h : wtP l ≤ 3000) : l.length ≤ 3000 ∧ ∀ p ∈ l, 1 + p.k.size + p.v.size ≤ 3000 := by
  induction l with
  | nil => exact ⟨by simp, fun p hp => by cases hp⟩
  | cons q l ih =>
    simp only [wtP, List.map_cons, List.sum_cons] at h ih
    have h1 : wtPE q ≥ 1 := by unfold wtPE; omega
    obtain ⟨h2, h3⟩ := ih (by omega)
    have hlen : l.length ≤ (l.map wtPE).sum := by
      clear h ih h2 h3
      induction l with
      | nil => simp
      | cons r l ih => simp only [List.map_cons, List.sum_cons, List.length_cons]; have : wtPE r ≥ 1 := by unfold wtPE; omega
                       omega
    refine ⟨by simp only [List.length_cons]; omega, fun p hp => ?_⟩
    rcases List.mem_cons.1 hp with rfl | hp
    · unfold wtPE at h
      omega
    · exact h3 p hp
theorem wtP_take (l : List Pr) (i : Nat) (h : i < l.length) : wtP (l.take (i + 1)) = wtP (l.take i) + wtPE l[i] := by
  unfold wtP
  rw [List.take_succ_eq_append_getElem h]
  simp only [List.map_append, List.sum_append, List.map_cons, List.map_nil, List.sum_cons, List.sum_nil, Nat.add_zero]


/-- What 'aquifer/aquiferlaw5.Great' counts. -/
def wtOE (p : Op3) : Nat := 1 + min p.k.size 5001 + min p.v.size 5001
def wtO (l : List Op3) : Nat := (l.map wtOE).sum
theorem wtO_le {l : List Op3} (h : wtO l ≤ 5000) : l.length ≤ 5000 ∧ ∀ p ∈ l, 1 + p.k.size + p.v.size ≤ 5000 := by
  induction l with
  | nil => exact ⟨by simp, fun p hp => by cases hp⟩
  | cons q l ih =>
    simp only [wtO, List.map_cons, List.sum_cons] at h ih
    have h1 : wtOE q ≥ 1 := by unfold wtOE; omega
    obtain ⟨h2, h3⟩ := ih (by omega)
    have hlen : l.length ≤ (l.map wtOE).sum := by
      clear h ih h2 h3
      induction l with
      | nil => simp
      | cons r l ih => simp only [List.map_cons, List.sum_cons, List.length_cons]; have : wtOE r ≥ 1 := by unfold wtOE; omega
                       omega
    refine ⟨by simp only [List.length_cons]; omega, fun p hp => ?_⟩
    rcases List.mem_cons.1 hp with rfl | hp
    · unfold wtOE at h
      omega
    · exact h3 p hp
theorem wtO_take (l : List Op3) (i : Nat) (h : i < l.length) : wtO (l.take (i + 1)) = wtO (l.take i) + wtOE l[i] := by
  unfold wtO
  rw [List.take_succ_eq_append_getElem h]
  simp only [List.map_append, List.sum_append, List.map_cons, List.map_nil, List.sum_cons, List.sum_nil, Nat.add_zero]

end Go.Proofs.YtdmdiokfpbmnaaaDoor

/- '==' and '!=' of pairs and of ops; aquiferref1.Pairs tells whether two lists are one. -/
namespace Go.Proofs.YtdmdiokfpbmnaaaDoor
open Go.RowKit

section
variable {P : Program} {d : Nat} {xs ys : Array Value} {f : Field} {fs : List Field} {a b : Value} {r s : Bool} {w : World}
/-- The fields of two structs, one behind the other. -/
theorem fields_cons (hn : (f.name == "_") = false) (ha : (part f.type xs f.offset).run P w = .ok a w) (hb : (part f.type ys f.offset).run P w = .ok b w) (he : (Op.equalIn d f.type a b).run P w = .ok r w) (hr : (Op.eqFields d xs ys fs).run P w = .ok s w) :
    (Op.eqFields d xs ys (f :: fs)).run P w = .ok (r && s) w := by
  have hn' : f.name ≠ "_" := by simpa using hn
  rw [Op.eqFields]
  simp only [if_pos hn', Sem.run_bind, ha, hb, he, Result.andThen_ok]
  cases r
  · simp
  · simpa using hr
theorem fields_nil : (Op.eqFields d xs ys []).run P w = .ok true w := by simp [Op.eqFields]
theorem equal_struct {t : TypeId} {fs : Array Field} (hu : P.underlying t = some (.struct fs)) (hp : P.stoodInHeld t = false) (h : (Op.eqFields d xs ys fs.toList).run P w = .ok r w) : (Op.equalIn (d + 1) t (.agg xs) (.agg ys)).run P w = .ok r w := by
  have hf : P.fieldsOf t = fs := by simp [Program.fieldsOf, hu]
  rw [run_equalIn_struct (P := P) w d t xs ys (by rw [hf]; exact hu) hp, hf]
  exact h
theorem neq_of (t : TypeId) (h : ∀ d, (Op.equalIn (d + 3) t (.agg xs) (.agg ys)).run P w = .ok r w) : (binOp .neq t (.agg xs) (.agg ys)).run P w = .ok (.bool (!r)) w := by
  simp only [binOp]
  simp [Op.equal, Op.maxDepth, h 9997]
theorem eql_of (t : TypeId) (h : ∀ d, (Op.equalIn (d + 3) t (.agg xs) (.agg ys)).run P w = .ok r w) : (binOp .eql t (.agg xs) (.agg ys)).run P w = .ok (.bool r) w := by
  simp only [binOp]
  simp [Op.equal, Op.maxDepth, h 9997]
end


theorem take_eq_succ {α : Type} {a b : List α} {j : Nat} (h : a.take j = b.take j) (ha : j < a.length) (hb : j < b.length) (he : a[j] = b[j]) : a.take (j + 1) = b.take (j + 1) := by
  rw [List.take_succ_eq_append_getElem ha, List.take_succ_eq_append_getElem hb, h, he]

end Go.Proofs.YtdmdiokfpbmnaaaDoor

/- table.Apply: what ops make of pairs. -/
namespace Go.Proofs.YtdmdiokfpbmnaaaDoor
open Go.RowKit
set_option linter.unusedVariables false

theorem stepT_length_le (l : List Pr) (o : Op3) : (stepT l o).length ≤ l.length + 1 := by
  unfold stepT
  split
  · unfold delT
    have := lb_le l o.k
    split
    · simp; omega
    · omega
  · exact putT_length_le _ _ _
theorem fold_length_le (ops : List Op3) (l : List Pr) : (ops.foldl stepT l).length ≤ l.length + ops.length := by
  induction ops generalizing l with
  | nil => simp
  | cons o ops ih => have := ih (stepT l o); have := stepT_length_le l o; simp only [List.foldl_cons, List.length_cons]; omega
theorem foldput_length_le (ps : List Pr) (l : List Pr) : (ps.foldl (fun m p => putT m p.k p.v) l).length ≤ l.length + ps.length := by
  induction ps generalizing l with
  | nil => simp
  | cons o ops ih => have := ih (putT l o.k o.v); have := putT_length_le l o.k o.v; simp only [List.foldl_cons, List.length_cons]; omega
theorem foldl_take_succ {α β : Type} (f : β → α → β) (b : β) (l : List α) (j : Nat) (h : j < l.length) : (l.take (j + 1)).foldl f b = f ((l.take j).foldl f b) l[j] := by
  rw [List.take_succ_eq_append_getElem h, List.foldl_append]
  rfl


end Go.Proofs.YtdmdiokfpbmnaaaDoor

/- table.Get: the value of the first pair of a key. -/
namespace Go.Proofs.YtdmdiokfpbmnaaaDoor
open Go.RowKit
set_option linter.unusedVariables false

theorem getT_drop {l : List Pr} {key : ByteArray} (h : Rises l) : ∀ j, j ≤ lb l key → getT (l.drop j) key = getT l key := by
  intro j
  induction j with
  | zero => intro _; rfl
  | succ j ih =>
    intro hj
    have hl := lb_le l key
    have hjl : j < l.length := by omega
    rw [← ih (by omega), List.drop_eq_getElem_cons hjl, getT_cons, if_neg]
    intro e
    have := (parts_of_rises h key j hjl).2 (by omega)
    rw [e] at this
    exact lt_irrefl _ this
def getV (l : List Pr) (key : ByteArray) : ByteArray := (getT l key).getD ⟨#[]⟩
def getB (l : List Pr) (key : ByteArray) : Bool := (getT l key).isSome

end Go.Proofs.YtdmdiokfpbmnaaaDoor

/- The document's example of layer 6: it is as it says. -/
namespace Go.Proofs.YtdmdiokfpbmnaaaDoor
open Go.RowKit
set_option linter.unusedVariables false


def sA : ByteArray := ⟨#[97]⟩
def s1 : ByteArray := ⟨#[49]⟩
end Go.Proofs.YtdmdiokfpbmnaaaDoor

