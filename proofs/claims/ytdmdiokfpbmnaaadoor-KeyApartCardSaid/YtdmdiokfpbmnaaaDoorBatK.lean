/- Batches: what is told is read back; records as arguments; the statements' own example. -/
import Derived.Test.YtdmdiokfpbmnaaaDoorBatA
import Derived.Test.YtdmdiokfpbmnaaaDoorDkAn
import Derived.Deep.Slices
namespace Go.Proofs.YtdmdiokfpbmnaaaDoor
open Go.RowKit
set_option linter.unusedVariables false

theorem scan_bytesO {l : List Op3} (hr : rightO l) (hs : SmallO l) (r : List UInt8) : scanB (bytesO l ++ r) = recsO l ++ scanB r := scanB_frames _ _ (recsO_small hs hr.1)
theorem scan_bytesO1 {l : List Op3} (hr : rightO l) (hs : SmallO l) : scanB (bytesO l) = recsO l := by
  have h := scan_bytesO hr hs []
  rwa [List.append_nil, scanB_nil, List.append_nil] at h
theorem scan_bytesO2 {a b : List Op3} (hra : rightO a) (hsa : SmallO a) (hrb : rightO b) (hsb : SmallO b) : scanB (bytesO a ++ bytesO b) = recsO a ++ recsO b := by
  rw [scan_bytesO hra hsa, scan_bytesO1 hrb hsb]
theorem replay_one {a : List Op3} (hr : rightO a) (hs : SmallO a) : replayB (recsO a) = ([a], a.length + 1) := by
  have h := replayGo_batch a hr hs 0 0 []
  rw [List.append_nil] at h
  unfold replayB
  rw [h]
  simp [replayGo]
theorem replay_two {a b : List Op3} (hra : rightO a) (hsa : SmallO a) (hrb : rightO b) (hsb : SmallO b) : replayB (recsO a ++ recsO b) = ([a, b], a.length + b.length + 2) := by
  have h := replayGo_batch b hrb hsb (0 + a.length + 1) (0 + a.length + 1) []
  rw [List.append_nil] at h
  unfold replayB
  rw [replayGo_batch a hra hsa, h]
  simp [replayGo]
  omega
theorem bytesO_inj {a b : List Op3} (hra : rightO a) (hsa : SmallO a) (hrb : rightO b) (hsb : SmallO b) : bytesO a = bytesO b ↔ a = b := by
  refine ⟨fun h => ?_, fun h => by rw [h]⟩
  have h1 := scan_bytesO1 hra hsa
  rw [h, scan_bytesO1 hrb hsb] at h1
  have h2 := replay_one hra hsa
  rw [← h1, replay_one hrb hsb] at h2
  simp only [Prod.mk.injEq, List.cons.injEq, and_true] at h2
  exact h2.1.symm
theorem bytesO_length {l : List Op3} (hr : rightO l) (hs : SmallO l) : (bytesO l).length ≤ 1001000000 + 1000000 := by
  have h1 := outO_le hs l.length (Nat.le_refl _)
  have h2 := recE_length (n := l.length) (by have := hr.1; omega)
  have h3 := hr.1
  have h4 : l.length * 1000021 ≤ 1000 * 1000021 := Nat.mul_le_mul_right _ h3
  rw [← outO_all, List.length_append, frameB_length]
  omega
theorem smallO_of {l : List Op3} (h : wtO l ≤ 5000) : SmallO l := by
  intro o ho
  have := (wtO_le h).2 o ho
  omega
/-- What a contract of bytes gives. -/
theorem BytesE.open {w : World} {r : List UInt8 × Nat} {e : Ending} {w' : World} (h : BytesE r w e w') : ∃ A c, e = .returned (.tuple #[.slice A r.1.length c, .int .i64 r.2]) ∧ r.1.length ≤ c ∧ Rd w' 1 A r.1.length (encB r.1) ∧ Mod NoneB w w' := by
  obtain ⟨v, rfl, ho, hm, _⟩ := h
  obtain ⟨A, c, rfl, hc, _, hr⟩ := ho.out
  exact ⟨A, c, rfl, hc, hr, hm⟩
theorem flatMap_part (l : List Part) : l.flatMap encPart = l.map (fun q => Value.slice q.A q.b.length q.c) := by
  induction l with
  | nil => rfl
  | cons q l ih => rw [List.flatMap_cons, ih]; rfl
instance : Inhabited Part := ⟨⟨none, [], 0⟩⟩
/-- Records that were told, as an argument. -/
theorem ListAt.parts {w : World} {v : Value} {N : Nat} {ps : List (List UInt8)} {vs : List Value} (h : ListAt w v N ps vs) (ht : ∀ p ∈ ps, p.length ≤ 140737488355328) :
    ∃ (qs : List Part) (A : Option Addr) (c : Nat), v = .slice A qs.length c ∧ bsOf qs = ps ∧ Rd w 1 A qs.length (qs.flatMap encPart) ∧ qs.length ≤ c ∧ ∀ q ∈ qs, PartOk w q := by
  obtain ⟨A, c, hv, hc, _, hr⟩ := h.own.out
  obtain ⟨g, hg⟩ := Go.Deep.choose_lt (α := Part) (n := ps.length) (p := fun i q => vs[i]? = some (.slice q.A q.b.length q.c) ∧ ps[i]? = some q.b ∧ PartOk w q) (fun i hi => by
    have hi' : i < vs.length := by rw [h.len]; exact hi
    obtain ⟨B, bc, e, h1, _, h2⟩ := (h.byt i hi hi').out
    exact ⟨⟨B, ps[i], bc⟩, by rw [List.getElem?_eq_getElem hi', e], by rw [List.getElem?_eq_getElem hi], h2, h1, ht _ (List.getElem_mem hi)⟩)
  have hl : ((List.range ps.length).map g).length = ps.length := by simp
  refine ⟨(List.range ps.length).map g, A, c, by rw [hl]; exact hv, ?_, ?_, by rw [hl]; exact hc, ?_⟩
  · refine List.ext_getElem? fun i => ?_
    by_cases hi : i < ps.length
    · unfold bsOf
      rw [List.getElem?_map, List.getElem?_map, List.getElem?_range hi, (hg i hi).2.1]
      rfl
    · rw [List.getElem?_eq_none (by unfold bsOf; simp; omega), List.getElem?_eq_none (by omega)]
  · have e : ((List.range ps.length).map g).flatMap encPart = vs := by
      refine List.ext_getElem? fun i => ?_
      rw [show ((List.range ps.length).map g).flatMap encPart = ((List.range ps.length).map g).map (fun q => Value.slice q.A q.b.length q.c) from flatMap_part _]
      by_cases hi : i < ps.length
      · rw [List.getElem?_map, List.getElem?_map, List.getElem?_range hi, (hg i hi).1]
        rfl
      · rw [List.getElem?_eq_none (by simp; omega), List.getElem?_eq_none (by rw [h.len]; omega)]
    rw [e, hl]
    exact hr
  · intro q hq
    obtain ⟨i, hi, rfl⟩ := List.mem_map.1 hq
    exact (hg i (List.mem_range.1 hi)).2.2

end Go.Proofs.YtdmdiokfpbmnaaaDoor

