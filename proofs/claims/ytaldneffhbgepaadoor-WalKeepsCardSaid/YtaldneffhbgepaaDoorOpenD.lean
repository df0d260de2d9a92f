/- Numbers, bytes and plans, read from what the row tells of an argument. -/
import Derived.Test.YtaldneffhbgepaaDoorOpen
import Derived.Test.YtaldneffhbgepaaDoorNums
namespace Go.Proofs.YtaldneffhbgepaaDoor
open Go.RowKit Go.Deep Go.ChangeShapes Go.WideShapes
set_option linter.unusedVariables false

theorem flatMap_one {α β : Type} (f : α → β) (l : List α) : l.flatMap (fun z => [f z]) = l.map f := by induction l with
  | nil => rfl
  | cons x l ih => rw [List.flatMap_cons, ih]; rfl
section
variable {H : Type} {enc : TypeId × Value → H} {w : World} {spare : Nat → Bool} {held : Bool}
theorem elI (n : Nat) (cs : List Value) (y : DataW H × List MemPlace) (h : DataW.trod enc Tryd.prog w 0 spare held n 3 cs = some y) (hl : cs.length = 1) : ∃ z : Int, cs = [.int .i64 z] := by
  obtain ⟨z, e, _⟩ := DataW.trod_int (t := 3) Tryd.underlying3 h
  exact ⟨z, e⟩
theorem elB (n : Nat) (cs : List Value) (y : DataW H × List MemPlace) (h : DataW.trod enc Tryd.prog w 0 spare held n 5 cs = some y) (hl : cs.length = 1) : ∃ z : UInt8, cs = [.int .u8 z.toNat] := by
  obtain ⟨z, e, _, hw⟩ := DataW.trod_int (t := 5) Tryd.underlying5 h
  have h2 : (0 : Int) ≤ z ∧ z ≤ 255 := by
    simp [Lit.wf] at hw
    exact hw
  refine ⟨UInt8.ofNat z.toNat, ?_⟩
  rw [e]
  have : ((UInt8.ofNat z.toNat).toNat : Int) = z := by
    rw [UInt8.toNat_ofNat']
    omega
  rw [this]
theorem rd_ints {A : Option Addr} {n c fuel : Nat} {x : DataW H × List MemPlace} (h : DataW.trod enc Tryd.prog w 0 spare held fuel 39 [.slice A n c] = some x) :
    ∃ l : List Int, l.length = n ∧ n ≤ c ∧ c ≤ maxLen ∧ Rd w 1 A n (encI l) := by
  obtain ⟨l, h1, h2, h3, h4⟩ := rd_open (fun z : Int => [Value.int .i64 z]) 1 (fun _ => rfl) Tryd.underlying39 (by kernel_rfl) elI h
  exact ⟨l, h1, h2, h3, by rw [flatMap_one] at h4; exact h4⟩
theorem rd_bytes {A : Option Addr} {n c fuel : Nat} {x : DataW H × List MemPlace} (h : DataW.trod enc Tryd.prog w 0 spare held fuel 26 [.slice A n c] = some x) :
    ∃ l : List UInt8, l.length = n ∧ n ≤ c ∧ c ≤ maxLen ∧ Rd w 1 A n (encB l) := by
  obtain ⟨l, h1, h2, h3, h4⟩ := rd_open (fun z : UInt8 => [Value.int .u8 z.toNat]) 1 (fun _ => rfl) Tryd.underlying26 (by kernel_rfl) elB h
  exact ⟨l, h1, h2, h3, by rw [flatMap_one] at h4; exact h4⟩
set_option maxRecDepth 100000 in
/-- A plan that came in: five cells. -/
theorem open_plan {d : DataW H} {ps : List MemPlace} {cs : Array Value} (hsz : cs.size = 5) (h : DataW.Trod enc Tryd.prog w 0 spare held 51 (.agg cs) d ps) :
    ∃ (c1 c2 : Int) (b : Bool) (F K : Option Addr) (lf lk : List Int) (fc kc : Nat), cs = #[.int .i64 c1, .slice F lf.length fc, .int .i64 c2, .bool b, .slice K lk.length kc] ∧ Rd w 1 F lf.length (encI lf) ∧ Rd w 1 K lk.length (encI lk) := by
  obtain ⟨fuel, hf⟩ := h
  obtain ⟨xs, n, _, _, _, hxl, hfs⟩ := DataW.trod_struct Tryd.underlying51 hf
  have hc : ∃ v0 v1 v2 v3 v4, cs = #[v0, v1, v2, v3, v4] := by
    obtain ⟨l⟩ := cs
    match l, hsz with
    | [v0, v1, v2, v3, v4], _ => exact ⟨v0, v1, v2, v3, v4, rfl⟩
  obtain ⟨v0, v1, v2, v3, v4, rfl⟩ := hc
  have hsl : ∀ (v : Value) (y : DataW H × List MemPlace) m, DataW.trod enc Tryd.prog w 0 spare held m 39 [v] = some y → ∃ (A : Option Addr) (l : List Int) (c : Nat), v = .slice A l.length c ∧ Rd w 1 A l.length (encI l) := by
    intro v y m hy
    rcases open_slice Tryd.underlying39 hy with ⟨h1, _⟩ | ⟨a, len, cap, _, _, _, _, h1, _⟩
    · simp only [List.cons.injEq, and_true] at h1
      subst h1
      exact ⟨none, [], 0, rfl, Rd.nil _ _ _⟩
    · simp only [List.cons.injEq, and_true] at h1
      subst h1
      obtain ⟨l, rfl, _, _, hr⟩ := rd_ints hy
      exact ⟨_, l, cap, rfl, hr⟩
  match xs, hxl with
  | [y0, y1, y2, y3, y4], _ =>
    have g0 := hfs 0 _ rfl
    have g1 := hfs 1 _ rfl
    have g2 := hfs 2 _ rfl
    have g3 := hfs 3 _ rfl
    have g4 := hfs 4 _ rfl
    obtain ⟨c1, e0, _⟩ := DataW.trod_int (t := 3) Tryd.underlying3 g0
    obtain ⟨c2, e2, _⟩ := DataW.trod_int (t := 3) Tryd.underlying3 g2
    obtain ⟨b, e3, _⟩ := DataW.trod_bool (t := 4) Tryd.underlying4 g3
    obtain ⟨F, lf, fc, rfl, hF⟩ := hsl v1 y1 n g1
    obtain ⟨K, lk, kc, rfl, hK⟩ := hsl v4 y4 n g4
    have e0' : [v0] = [.int .i64 c1] := e0
    have e2' : [v2] = [.int .i64 c2] := e2
    have e3' : [v3] = [.bool b] := e3
    simp only [List.cons.injEq, and_true] at e0' e2' e3'
    subst e0' e2' e3'
    exact ⟨c1, c2, b, F, K, lf, lk, fc, kc, rfl, hF, hK⟩
end
end Go.Proofs.YtaldneffhbgepaaDoor

