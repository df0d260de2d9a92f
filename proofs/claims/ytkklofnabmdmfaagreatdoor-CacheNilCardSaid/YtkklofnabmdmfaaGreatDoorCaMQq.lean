/- Maps from texts to texts in a block of their own. -/
import Derived.Maps.StringElems
import Derived.Test.YtkklofnabmdmfaaGreatDoorDgWQq
namespace Go.Proofs.YtkklofnabmdmfaaGreatDoor
open Go.RowKit Go.WideMaps Go.Maps
set_option linter.unusedVariables false

theorem mkey : Keyed Tryz.prog 9 := string_keyed Tryz.underlying9
theorem mzero (w : World) : (zeroValue 9).run Tryz.prog w = .ok (.string ⟨#[]⟩) w := by kernel_rfl
theorem s_data_inj {a b : ByteArray} (h : (Lit.string a.data.toList) = .string b.data.toList) : a = b := by
  injection h with h
  exact ba_ext h
/-- Block b holds the map f, of at most n keys. -/
def KnM (w : World) (b n : Nat) (f : ByteArray → Option ByteArray) : Prop :=
  ∃ D : DataW Unit, w.ownsMap Tryz.prog 9 (plainElem Tryz.prog 9) b n D ∧ ∀ s : ByteArray, Maps.has D (.string s.data.toList) = (f s).isSome ∧ D.atKey (.string s.data.toList) (.lit (.string [])) = .lit (.string ((f s).getD ⟨#[]⟩).data.toList)
theorem KnM.made (w : World) : KnM (w.alloc (.map #[] 0)) w.heap.size 0 (fun _ => none) :=
  ⟨.map [], World.ownsMap_made _ _ _ _, fun s => ⟨rfl, rfl⟩⟩
theorem KnM.lt {w : World} {b n : Nat} {f : ByteArray → Option ByteArray} (h : KnM w b n f) : b < w.heap.size := by
  obtain ⟨D, h, _⟩ := h
  exact h.lt
theorem KnM.mod {w w1 : World} {b n : Nat} {f : ByteArray → Option ByteArray} {S : Nat → Prop} (h : KnM w b n f) (hm : Mod S w w1) (hs : ¬ S b) : KnM w1 b n f := by
  obtain ⟨D, ⟨es, clock, hb, F, hsz, hD⟩, hf⟩ := h
  exact ⟨D, ⟨es, clock, hm.blk hb hs, F, hsz, hD⟩, hf⟩
theorem KnM.mod0 {w w1 : World} {b n : Nat} {f : ByteArray → Option ByteArray} (h : KnM w b n f) (hm : Mod NoneB w w1) : KnM w1 b n f := h.mod hm (fun h => h)
theorem KnM.look {w : World} {b n : Nat} {f : ByteArray → Option ByteArray} (h : KnM w b n f) (s : ByteArray) (hs : s.size ≤ maxLen) :
    (Instr.lookup 57 (.map (some b)) (.string s) true).run Tryz.prog w = .ok (.tuple #[.string ((f s).getD ⟨#[]⟩), .bool (f s).isSome]) w := by
  obtain ⟨D, h, hf⟩ := h
  obtain ⟨v, ps, hrun, hv⟩ := h.look_ok mkey Tryz.underlying57 (mzero w) (plainElem_string Tryz.underlying9 (Nat.zero_le _)) (keyOf_string_mk Tryz.underlying9 hs)
  obtain ⟨c, rfl, hc, _⟩ := plainElem_string_inv Tryz.underlying9 hv
  obtain ⟨h1, h2⟩ := hf s
  have h3 : D.atKey (.string s.data.toList) (.lit (.string [])) = .lit (.string c.data.toList) := congrArg Prod.fst hc
  have h4 := h2.symm.trans h3
  simp only [DataW.lit.injEq, Lit.string.injEq] at h4
  rw [h1, ← ba_ext h4] at hrun
  exact hrun
def updM (f : ByteArray → Option ByteArray) (k v : ByteArray) : ByteArray → Option ByteArray := fun s => if s = k then some v else f s
set_option maxRecDepth 100000 in
theorem KnM.store {w : World} {b n : Nat} {f : ByteArray → Option ByteArray} (h : KnM w b n f) (hn : n < maxLen) (k v : ByteArray) (hk : k.size ≤ maxLen) (hv : v.size ≤ maxLen) :
    ∃ w', (Instr.mapUpdate 57 (.map (some b)) (.string k) (.string v)).run Tryz.prog w = .ok () w' ∧ KnM w' b (n + 1) (updM f k v) ∧ Mod (fun j => j = b) w w' := by
  obtain ⟨D, h, hf⟩ := h
  obtain ⟨w', hrun, ho, hg⟩ := h.update mkey Tryz.underlying57 hn (keyOf_string_mk Tryz.underlying9 hk) (plainElem_string Tryz.underlying9 hv)
  refine ⟨w', hrun, ⟨_, ho, fun s => ?_⟩, (grownBy_mod hg).mono fun j _ hj => (Option.some.inj hj).symm⟩
  have hD := h.isMap
  have hkl : WideAt.IsKeyLit (.string k.data.toList) := by simp [WideAt.IsKeyLit]
  unfold updM
  by_cases hsk : s = k
  · subst hsk
    rw [if_pos rfl]
    exact ⟨has_put_same hD hkl _, atKey_put_same hD hkl _ _⟩
  · have hne : (Lit.string s.data.toList) ≠ .string k.data.toList := fun e => hsk (s_data_inj e)
    rw [if_neg hsk, has_put_other hne, atKey_put_other hne]
    exact hf s
end Go.Proofs.YtkklofnabmdmfaaGreatDoor
