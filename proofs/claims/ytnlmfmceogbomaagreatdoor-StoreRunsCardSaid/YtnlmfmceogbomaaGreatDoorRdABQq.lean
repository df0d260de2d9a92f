/- The reference's disk: how it lies; NewDisk, gate, told, at. -/
import Derived.Test.YtnlmfmceogbomaaGreatDoorDkOneLQq
import Derived.Test.YtnlmfmceogbomaaGreatDoorFlatQq
import Derived.Test.YtnlmfmceogbomaaGreatDoorPlainQq
import Derived.Test.YtnlmfmceogbomaaGreatDoorDkFsQq
namespace Go.Proofs.YtnlmfmceogbomaaGreatDoor
open Go.RowKit
set_option linter.unusedVariables false

/-- A slice that came in from outside: it lies in blocks older than N, and reads so. -/
def OldI (N : Nat) (w : World) (v : Value) (l : List Int) : Prop := ∃ A c, v = .slice A l.length c ∧ Rd w 1 A l.length (encI l) ∧ (0 < l.length → ∀ ad, A = some ad → ad.block < N)
theorem OldI.mod {N : Nat} {w w1 : World} {T : Nat → Prop} {v : Value} {l : List Int} (h : OldI N w v l) (hm : Mod T w w1) (ht : ∀ k, T k → N ≤ k) : OldI N w1 v l := by
  obtain ⟨A, c, h1, h2, h3⟩ := h
  exact ⟨A, c, h1, h2.modP hm (fun hp ad hA hT => by have := h3 hp ad hA; have := ht _ hT; omega), h3⟩
/-- A row of files: their names, where their bytes lie, how much of them is synced. -/
structure FilAt (N : Nat) (w : World) (row : Value) (zs : List (Fl × Value)) : Prop where
  own : Own w 110 3 row zs.length (encFs zs)
  new : ∀ g, row.ownBlock = some g → N ≤ g
  ent : ∀ z ∈ zs, Own w 5 1 z.2 z.1.b.length (encB z.1.b) ∧ z.2.oneCell' = true ∧ ∀ g, z.2.ownBlock = some g → N ≤ g
theorem FilAt.mod {w w1 : World} {T : Nat → Prop} {v : Value} {N : Nat} {zs : List (Fl × Value)} (h : FilAt N w v zs) (hm : Mod T w w1) (h1 : ∀ g, v.ownBlock = some g → ¬ T g) (h2 : ∀ z ∈ zs, ∀ g, z.2.ownBlock = some g → ¬ T g) : FilAt N w1 v zs :=
  ⟨h.own.mod hm h1, h.new, fun z hz => ⟨(h.ent z hz).1.mod hm (h2 z hz), (h.ent z hz).2⟩⟩
structure RdAt (N : Nat) (w : World) (p : Nat) (d : Dk) (row FA KA : Value) (zs : List (Fl × Value)) : Prop where
  blk : w.heap[p]? = some (.cells (dkCells d row FA KA) 104 (0, 0))
  fil : FilAt N w row zs
  fs : d.fs = zs.map (·.1)
  fail : OldI N w FA d.p.fail
  keep : OldI N w KA d.p.keep
  rises : Rises (asPs d.fs)
  sync : ∀ f ∈ d.fs, f.s ≤ f.b.length
  pos : N ≤ p
def FootR (p : Nat) (row : Value) (zs : List (Fl × Value)) (k : Nat) : Prop := k = p ∨ row.ownBlock = some k ∨ ∃ z ∈ zs, z.2.ownBlock = some k
/-- The reference's disk behind the pointer p, in just the blocks S. -/
def IsR (N : Nat) (w : World) (p : Nat) (d : Dk) (S : Nat → Prop) : Prop := ∃ row FA KA zs, RdAt N w p d row FA KA zs ∧ ∀ k, S k ↔ FootR p row zs k
namespace RdAt
variable {N : Nat} {w w1 : World} {p : Nat} {d : Dk} {row FA KA : Value} {zs : List (Fl × Value)}
theorem lt (h : RdAt N w p d row FA KA zs) {k : Nat} (hk : FootR p row zs k) : k < w.heap.size := by
  rcases hk with rfl | hk | ⟨u, hu, hk⟩
  · exact blk_lt h.blk
  · exact h.fil.own.lt hk
  · exact (h.fil.ent u hu).1.lt hk
theorem new (h : RdAt N w p d row FA KA zs) {k : Nat} (hk : FootR p row zs k) : N ≤ k := by
  rcases hk with rfl | hk | ⟨u, hu, hk⟩
  · exact h.pos
  · exact h.fil.new k hk
  · exact (h.fil.ent u hu).2.2 k hk
theorem mod {T : Nat → Prop} (h : RdAt N w p d row FA KA zs) (hm : Mod T w w1) (hs : ∀ k, FootR p row zs k → ¬ T k) (ht : ∀ k, T k → N ≤ k) : RdAt N w1 p d row FA KA zs :=
  ⟨hm.blk h.blk (hs p (.inl rfl)), h.fil.mod hm (fun g hg => hs g (.inr (.inl hg))) (fun u hu g hg => hs g (.inr (.inr ⟨u, hu, hg⟩))), h.fs, h.fail.mod hm ht, h.keep.mod hm ht, h.rises, h.sync, h.pos⟩
theorem rowNe (h : RdAt N w p d row FA KA zs) {g : Nat} (hg : row.ownBlock = some g) : g ≠ p := by
  obtain ⟨cur, hc⟩ := h.fil.own.tag hg
  exact tag_ne hc h.blk (by decide)
theorem bytNe (h : RdAt N w p d row FA KA zs) {z : Fl × Value} (hz : z ∈ zs) {g : Nat} (hg : z.2.ownBlock = some g) : g ≠ p := by
  obtain ⟨cur, hc⟩ := (h.fil.ent z hz).1.tag hg
  exact tag_ne hc h.blk (by decide)
theorem bytRow (h : RdAt N w p d row FA KA zs) {z : Fl × Value} (hz : z ∈ zs) {g : Nat} (hg : z.2.ownBlock = some g) : row.ownBlock ≠ some g := by
  intro hr
  obtain ⟨cur, hc⟩ := (h.fil.ent z hz).1.tag hg
  obtain ⟨cur2, hc2⟩ := h.fil.own.tag hr
  exact tag_ne hc hc2 (by decide) rfl
theorem len (h : RdAt N w p d row FA KA zs) : d.fs.length = zs.length := by rw [h.fs]; simp
theorem get (h : RdAt N w p d row FA KA zs) {i : Nat} (h1 : i < d.fs.length) (h2 : i < zs.length) : d.fs[i] = zs[i].1 := by simp [h.fs]
/-- The disk's own block turns: what it says now. -/
theorem turn (h : RdAt N w p d row FA KA zs) {d' : Dk} (hm : Mod (fun k => k = p) w w1) (hb : w1.heap[p]? = some (.cells (dkCells d' row FA KA) 104 (0, 0))) (hp : d'.p = d.p) (hf : d'.fs = d.fs) : RdAt N w1 p d' row FA KA zs where
  blk := hb
  fil := h.fil.mod hm (fun g hg => h.rowNe hg) (fun u hu g hg => h.bytNe hu hg)
  fs := hf.trans h.fs
  fail := by rw [hp]; exact h.fail.mod hm (fun k hk => by rw [hk]; exact h.pos)
  keep := by rw [hp]; exact h.keep.mod hm (fun k hk => by rw [hk]; exact h.pos)
  rises := by rw [hf]; exact h.rises
  sync := by rw [hf]; exact h.sync
  pos := h.pos
theorem cellAt (h : RdAt N w p d row FA KA zs) (j : Nat) : w.cell? ⟨p, j, none⟩ = (dkCells d row FA KA)[j]? := blk_cell h.blk j
end RdAt
theorem IsR.lt {N : Nat} {w : World} {p : Nat} {d : Dk} {S : Nat → Prop} (h : IsR N w p d S) {k : Nat} (hk : S k) : k < w.heap.size := by
  obtain ⟨row, FA, KA, vs, h1, h2⟩ := h
  exact h1.lt ((h2 k).1 hk)
theorem IsR.new {N : Nat} {w : World} {p : Nat} {d : Dk} {S : Nat → Prop} (h : IsR N w p d S) {k : Nat} (hk : S k) : N ≤ k := by
  obtain ⟨row, FA, KA, vs, h1, h2⟩ := h
  exact h1.new ((h2 k).1 hk)
theorem IsR.mod {N : Nat} {w w1 : World} {p : Nat} {d : Dk} {S T : Nat → Prop} (h : IsR N w p d S) (hm : Mod T w w1) (hs : ∀ k, S k → ¬ T k) (ht : ∀ k, T k → N ≤ k) : IsR N w1 p d S := by
  obtain ⟨row, FA, KA, vs, h1, h2⟩ := h
  exact ⟨row, FA, KA, vs, h1.mod hm (fun k hk => hs k ((h2 k).2 hk)) ht, h2⟩
theorem IsR.mod0 {N : Nat} {w w1 : World} {p : Nat} {d : Dk} {S : Nat → Prop} (h : IsR N w p d S) (hm : Mod NoneB w w1) : IsR N w1 p d S := h.mod hm (fun _ _ h => h) (fun _ h => h.elim)
structure RTo (N : Nat) (w : World) (S : Nat → Prop) (p : Nat) (d' : Dk) (w' : World) (S' : Nat → Prop) : Prop where
  isR : IsR N w' p d' S'
  mod : Mod S w w'
  new : ∀ k, S' k → S k ∨ w.heap.size ≤ k
def RStep (N : Nat) (w : World) (S : Nat → Prop) (p : Nat) (d' : Dk) (w' : World) : Prop := ∃ S', RTo N w S p d' w' S'

set_option maxHeartbeats 1000000 in
set_option maxRecDepth 100000 in
theorem rnew_calls (N : Nat) (w : World) (pl : Pl) (F K : Option Addr) (fc kc : Nat) (hF : Rd w 1 F pl.fail.length (encI pl.fail)) (hK : Rd w 1 K pl.keep.length (encI pl.keep)) (hoF : 0 < pl.fail.length → ∀ ad, F = some ad → ad.block < N) (hoK : 0 < pl.keep.length → ∀ ad, K = some ad → ad.block < N) (hN : N ≤ w.heap.size) :
    Calls Tryz.prog 28 #[.agg #[.int .i64 pl.cap, .slice F pl.fail.length fc, .int .i64 pl.crash, .bool pl.done, .slice K pl.keep.length kc]] w fun e w' => ∃ p S, e = .returned (.pointer (some ⟨p, 0, none⟩)) ∧ IsR N w' p ⟨pl, [], 0, false⟩ S ∧ Mod NoneB w w' ∧ ∀ k, S k → w.heap.size ≤ k := by
  go_enter Tryz.func28, Tryz.ntmps28
  go_wp2_with fail
  go_ret
  obtain ⟨b0, b1⟩ := box2 w (.cells #[.int .i64 pl.cap, .slice F pl.fail.length fc, .int .i64 pl.crash, .bool pl.done, .slice K pl.keep.length kc] 29) (.cells #[.int .i64 pl.cap, .slice F pl.fail.length fc, .int .i64 pl.crash, .bool pl.done, .slice K pl.keep.length kc, .slice none 0 0, .int .i64 0, .bool false] 104)
  have hm : Mod NoneB w ((w.alloc (.cells #[.int .i64 pl.cap, .slice F pl.fail.length fc, .int .i64 pl.crash, .bool pl.done, .slice K pl.keep.length kc] 29)).alloc (.cells #[.int .i64 pl.cap, .slice F pl.fail.length fc, .int .i64 pl.crash, .bool pl.done, .slice K pl.keep.length kc, .slice none 0 0, .int .i64 0, .bool false] 104)) := ((Mod.refl NoneB w).alloc _).alloc _
  refine ⟨w.heap.size + 1, FootR (w.heap.size + 1) (.slice none 0 0) [], by simp, ⟨.slice none 0 0, .slice F pl.fail.length fc, .slice K pl.keep.length kc, [], ⟨b1, ⟨Own.nil _ _ _, (fun g h => by cases h), (fun z h => by cases h)⟩, rfl, ⟨F, fc, rfl, hF.mod0 hm, hoF⟩, ⟨K, kc, rfl, hK.mod0 hm, hoK⟩, rises_nil, fun f hf => (by cases hf), by omega⟩, fun _ => Iff.rfl⟩, hm, fun k hk => ?_⟩
  rcases hk with rfl | hk | ⟨u, hu, _⟩
  · omega
  · cases hk
  · cases hu

set_option maxHeartbeats 1000000 in
set_option maxRecDepth 100000 in
theorem rtold_calls (N : Nat) (w : World) (p : Nat) (d : Dk) (row FA KA : Value) (zs : List (Fl × Value)) (h : RdAt N w p d row FA KA zs) (z : Int) :
    Calls Tryz.prog 136 #[.pointer (some ⟨p, 0, none⟩), .int .i64 z] w fun e w' => e = .returned (.int .i64 (if d.dn then 7 else z)) ∧ w' = w := by
  have y7 : w.cell? ⟨p, 7, none⟩ = some (.bool d.dn) := h.cellAt 7
  clear h
  cases hdn : d.dn with
  | true =>
    rw [hdn] at y7
    go_enter Tryz.func136, Tryz.ntmps136
    go_wp2_with fail
    go_ret
    exact ⟨rfl, rfl⟩
  | false =>
    rw [hdn] at y7
    go_enter Tryz.func136, Tryz.ntmps136
    go_wp2_with fail
    go_ret
    exact ⟨rfl, rfl⟩

/-- A file's place; below 0: there is none. -/
def plF (fs : List Fl) (n : ByteArray) : Int := if hitF fs n then lbF fs n else -1
theorem hit_iff {fs : List Fl} (hr : Rises (asPs fs)) (n : ByteArray) : hitF fs n = true ↔ ∃ f ∈ fs, f.n = n := by
  constructor
  · intro h
    have hl := hitF_lt h
    refine ⟨fs[lbF fs n], List.getElem_mem _, ?_⟩
    unfold hitF hitB at h
    split at h
    · have h2 := cmpS_zero (of_decide_eq_true h)
      simp only [asPs, List.getElem_map] at h2
      exact h2
    · cases h
  · rintro ⟨f, hf, rfl⟩
    obtain ⟨i, hi, rfl⟩ := List.getElem_of_mem hf
    exact (hitF_at hr hi).1

set_option maxHeartbeats 2000000 in
set_option maxRecDepth 100000 in
theorem rat_calls (N : Nat) (w : World) (p : Nat) (d : Dk) (row FA KA : Value) (zs : List (Fl × Value)) (h : RdAt N w p d row FA KA zs) (n : ByteArray) (hl : d.fs.length ≤ 1099511627776) :
    Calls Tryz.prog 132 #[.pointer (some ⟨p, 0, none⟩), .string n] w fun e w' => e = .returned (.int .i64 (plF d.fs n)) ∧ w' = w := by
  have y5 : w.cell? ⟨p, 5, none⟩ = some row := h.cellAt 5
  obtain ⟨A, c, rfl, hr⟩ := h.fil.own.nilD0
  have hzl : zs.length = d.fs.length := h.len.symm
  have hgt : ∀ i, ∀ h1 : i < d.fs.length, ∀ h2 : i < zs.length, zs[i].1 = d.fs[i] := fun i h1 h2 => (h.get h1 h2).symm
  have HZL := Lib.hid hzl
  have HGT := Lib.hid hgt
  have HRI := Lib.hid h.rises
  rw [hzl] at hr y5
  clear h hzl hgt
  go_enter Tryz.func132, Tryz.ntmps132
  go_wp2_with fail
  go_loopw [5] (fun i wr => wr = w ∧ ∃ j : Nat, i = .int .i64 j ∧ j ≤ d.fs.length ∧ ∀ f ∈ d.fs.take j, f.n ≠ n) (fun i _ => d.fs.length - (intOf i).toNat)
  case atStart => exact ⟨rfl, 0, rfl, by omega, fun f hf => by simp at hf⟩
  case round =>
    obtain ⟨rfl, j, rfl, hj, hno⟩ := hrel
    have HNO := Lib.hid hno
    clear hno
    by_cases hlt : j < d.fs.length
    · have hz1 : j < zs.length := by rw [HZL.out]; exact hlt
      obtain ⟨ad, rfl, h0, hk⟩ := Rd.elem (f := encFl) (fun _ => rfl) hr (by decide) j hz1
      have c0 := h0 _ rfl
      have hn1 := HGT.out j hlt hz1
      rw [hn1] at c0
      have hit := hitF_at HRI.out hlt
      obtain ⟨f, hf⟩ : ∃ f, f = d.fs[j] := ⟨_, rfl⟩
      have htk : d.fs.take (j + 1) = d.fs.take j ++ [f] := by rw [hf]; exact List.take_succ_eq_append_getElem hlt
      rw [← hf] at c0 hit
      have HTK := Lib.hid htk
      clear h0 hk hn1 hf htk hz1
      by_cases he : f.n = n
      · have b1 : (f.n.toList == n.toList) = true := by rw [beq_toList]; exact decide_eq_true he
        have hp : plF d.fs n = j := by
          rw [he] at hit
          unfold plF
          rw [if_pos hit.1, hit.2]
        have HP := Lib.hid hp
        clear he hp hit
        go_wp2_with fail
        go_ret
        exact ⟨by rw [HP.out]; rfl, rfl⟩
      · have b1 : (f.n.toList == n.toList) = false := by rw [beq_toList]; exact decide_eq_false he
        have HE := Lib.hid he
        clear he hit
        go_wp2_with fail
        go_roundw
        case rel =>
          refine ⟨trivial, j + 1, by go_num, by omega, fun x hx => ?_⟩
          rw [HTK.out] at hx
          rcases List.mem_append.1 hx with hx | hx
          · exact HNO.out x hx
          · rw [List.mem_singleton] at hx; rw [hx]; exact HE.out
        case measure => simp [intOf]; omega
    · have hp : plF d.fs n = -1 := by
        have hno := HNO.out
        rw [List.take_of_length_le (by omega)] at hno
        unfold plF
        rw [if_neg]
        intro hh
        obtain ⟨f, hf, hfn⟩ := (hit_iff HRI.out n).1 hh
        exact hno f hf hfn
      have HP := Lib.hid hp
      clear hp
      go_wp2_with fail
      go_ret
      exact ⟨by rw [HP.out]; rfl, rfl⟩
end Go.Proofs.YtnlmfmceogbomaaGreatDoor

/- The reference's Files: two rows of the same files are one. -/
namespace Go.Proofs.YtnlmfmceogbomaaGreatDoor
open Go.RowKit
set_option linter.unusedVariables false

/-- The bytes of a row of files lie where the row says. -/
def ZsAt (w : World) (zs : List (Fl × Value)) : Prop := ∀ z ∈ zs, ∃ B c, z.2 = .slice B z.1.b.length c ∧ Rd w 1 B z.1.b.length (encB z.1.b)
theorem ZsAt.mod0 {w w1 : World} {zs : List (Fl × Value)} (h : ZsAt w zs) (hm : Mod NoneB w w1) : ZsAt w1 zs := fun z hz => by
  obtain ⟨B, c, h1, h2⟩ := h z hz
  exact ⟨B, c, h1, h2.mod0 hm⟩
theorem FilAt.zs {N : Nat} {w : World} {v : Value} {zs : List (Fl × Value)} (h : FilAt N w v zs) : ∃ A c, v = .slice A zs.length c ∧ Rd w 3 A zs.length (encFs zs) ∧ ZsAt w zs := by
  obtain ⟨A, c, h1, h2⟩ := h.own.nilD0
  refine ⟨A, c, h1, h2, fun z hz => ?_⟩
  obtain ⟨B, bc, h3, h4⟩ := (h.ent z hz).1.nilD0
  exact ⟨B, bc, h3, h4⟩
theorem FilesAt.zs {w : World} {v : Value} {N : Nat} {fs : List Fl} {vs : List Value} (h : FilesAt w v N fs vs) : ∃ zs A c, zs.map (·.1) = fs ∧ v = .slice A zs.length c ∧ Rd w 3 A zs.length (encFs zs) ∧ ZsAt w zs := by
  obtain ⟨A, c, h1, h2⟩ := h.own.nilD0
  have hl : (fs.zip vs).length = fs.length := by rw [List.length_zip, h.len]; simp
  refine ⟨fs.zip vs, A, c, ?_, by rw [hl]; exact h1, by rw [hl]; exact h2, fun z hz => ?_⟩
  · exact List.map_fst_zip (by rw [h.len]; exact Nat.le_refl _)
  · obtain ⟨i, hi, rfl⟩ := List.getElem_of_mem hz
    have h3 : i < fs.length := by rw [← hl]; exact hi
    have h4 : i < vs.length := by rw [h.len]; exact h3
    obtain ⟨B, bc, h5, h6⟩ := (h.byt i h3 h4).nilD0
    rw [List.getElem_zip]
    exact ⟨B, bc, h5, h6⟩

set_option maxHeartbeats 4000000 in
set_option maxRecDepth 100000 in
theorem rfiles_calls (za zb : List (Fl × Value)) (A B : Option Addr) (n ca cb : Nat) (w : World) (hna : za.length = n) (hnb : zb.length = n) (ha : Rd w 3 A n (encFs za)) (hb : Rd w 3 B n (encFs zb)) (va : ZsAt w za) (vb : ZsAt w zb) (he : za.map (·.1) = zb.map (·.1)) :
    Calls Tryz.prog 60 #[.slice A n ca, .slice B n cb] w fun e w' => e = .returned (.bool true) ∧ Mod NoneB w w' := by
  have hn := ha.2.1
  have HNA := Lib.hid hna
  have HNB := Lib.hid hnb
  have HE := Lib.hid he
  clear hna hnb he
  go_enter Tryz.func60, Tryz.ntmps60
  go_wp2_with fail
  go_loopw [5] (fun i wr => ∃ j : Nat, i = .int .i64 j ∧ j ≤ n ∧ Mod NoneB w wr) (fun i _ => n - (intOf i).toNat)
  case atStart => exact ⟨0, rfl, by omega, Mod.refl _ _⟩
  case round =>
    obtain ⟨j, rfl, hj, hm⟩ := hrel
    by_cases hlt : j < n
    · have ja : j < za.length := by rw [HNA.out]; exact hlt
      have jb : j < zb.length := by rw [HNB.out]; exact hlt
      have heq : za[j].1 = zb[j].1 := by
        have h1 : (za.map (·.1))[j]? = (zb.map (·.1))[j]? := by rw [HE.out]
        rw [List.getElem?_map, List.getElem?_map, List.getElem?_eq_getElem ja, List.getElem?_eq_getElem jb] at h1
        exact Option.some.inj h1
      obtain ⟨ada, rfl, a0, ka⟩ := Rd.elem (f := encFl) (fun _ => rfl) (ha.mod0 hm) (by decide) j ja
      obtain ⟨adb, rfl, b0, kb⟩ := Rd.elem (f := encFl) (fun _ => rfl) (hb.mod0 hm) (by decide) j jb
      obtain ⟨VA, vca, hva, hra⟩ := va za[j] (List.getElem_mem _)
      obtain ⟨VB, vcb, hvb, hrb⟩ := vb zb[j] (List.getElem_mem _)
      have c0 := a0 _ rfl
      have c1 := ka 1 _ (by decide) (by decide) rfl
      have c2 := ka 2 _ (by decide) (by decide) rfl
      have d0 := b0 _ rfl
      have d1 := kb 1 _ (by decide) (by decide) rfl
      have d2 := kb 2 _ (by decide) (by decide) rfl
      rw [hva] at c1
      rw [hvb] at d1
      rw [heq] at c0 c1 c2 hra
      obtain ⟨f, hf⟩ : ∃ f, f = zb[j].1 := ⟨_, rfl⟩
      rw [← hf] at c0 c1 c2 hra d0 d1 d2 hrb
      have hx1 : ∀ k, (convert 24 9 (.slice VA f.b.length vca)).run Tryz.prog (wr.drewN k) = .ok (.string (strOf f.b)) (wr.drewN k) := fun k => conv_str ((hra.mod0 hm).mod0 ((Mod.refl NoneB wr).drewN k))
      have hx2 : ∀ k, (convert 24 9 (.slice VB f.b.length vcb)).run Tryz.prog (wr.drewN k) = .ok (.string (strOf f.b)) (wr.drewN k) := fun k => conv_str ((hrb.mod0 hm).mod0 ((Mod.refl NoneB wr).drewN k))
      have g0 : (0 : Int) ≤ (j : Int) := by omega
      have g1 : (j : Int) < (n : Int) := by omega
      clear a0 ka b0 kb hva hvb heq hf hra hrb ja jb
      go_wp2_with fail
      go_quiet (fail)
      have hmq : Mod NoneB w (wr.drewN nq) := hm.drewN nq
      clear hx1 hx2
      go_wp2_with fail
      go_roundw
      case rel => exact ⟨j + 1, by go_num, by omega, hmq⟩
      case measure => simp [intOf]; omega
    · go_wp2_with fail
      go_ret
      exact ⟨rfl, hm⟩
end Go.Proofs.YtnlmfmceogbomaaGreatDoor

/- The reference's disk: gate. -/
namespace Go.Proofs.YtnlmfmceogbomaaGreatDoor
open Go.RowKit
set_option linter.unusedVariables false

/-- Is a call done, and what is told if not; the disk behind that. -/
def gateR (d : Dk) : Dk × Bool × Nat :=
  if d.dn then (d, false, 7)
  else if ((d.c + 1 : Nat) : Int) = d.p.crash then ({ d with c := d.c + 1, dn := true }, d.p.done, 7)
  else if ((d.c + 1 : Nat) : Int) ∈ d.p.fail then ({ d with c := d.c + 1 }, false, 6)
  else ({ d with c := d.c + 1 }, true, 0)
theorem gateR_fs (d : Dk) : (gateR d).1.fs = d.fs ∧ (gateR d).1.p = d.p := by
  unfold gateR
  split
  · exact ⟨rfl, rfl⟩
  · split
    · exact ⟨rfl, rfl⟩
    · split <;> exact ⟨rfl, rfl⟩
theorem gateD_R (d : Dk) (op : Dk → Ans) : gateD d op = if (gateR d).2.1 then ((op (gateR d).1).1, if (gateR d).1.dn then 7 else (op (gateR d).1).2) else ((gateR d).1, (gateR d).2.2) := by
  unfold gateD gateR
  by_cases h1 : d.dn
  · simp [h1]
  · rw [if_neg h1]
    by_cases h2 : ((d.c + 1 : Nat) : Int) = d.p.crash
    · simp only [if_pos h2, if_neg h1]
      cases hd : d.p.done <;> simp
    · simp only [if_neg h2, if_neg h1]
      by_cases h3 : ((d.c + 1 : Nat) : Int) ∈ d.p.fail
      · simp only [if_pos h3]
        simp
      · simp only [if_neg h3]
        simp [h1]

set_option maxHeartbeats 4000000 in
set_option maxRecDepth 100000 in
theorem rgate_calls (N : Nat) (w : World) (p : Nat) (d : Dk) (row FA KA : Value) (zs : List (Fl × Value)) (h : RdAt N w p d row FA KA zs) (hc : d.c < 4611686018427387904) :
    Calls Tryz.prog 135 #[.pointer (some ⟨p, 0, none⟩)] w fun e w' => e = .returned (.tuple #[.bool (gateR d).2.1, .int .i64 ((gateR d).2.2 : Nat)]) ∧ RdAt N w' p (gateR d).1 row FA KA zs ∧ Mod (fun k => k = p) w w' := by
  obtain ⟨pl, fs, cc, dn⟩ := d
  have y7 : w.cell? ⟨p, 7, none⟩ = some (.bool dn) := h.cellAt 7
  have y6 : w.cell? ⟨p, 6, none⟩ = some (.int .i64 cc) := h.cellAt 6
  simp only at hc
  cases dn with
  | true =>
    have hg : gateR ⟨pl, fs, cc, true⟩ = (⟨pl, fs, cc, true⟩, false, 7) := by unfold gateR; rw [if_pos rfl]
    have HG := Lib.hid hg
    have H := Lib.hid h
    clear hg h y6
    go_enter Tryz.func135, Tryz.ntmps135
    go_wp2_with fail
    go_ret2
    rw [HG.out]
    exact ⟨rfl, H.out, Mod.refl _ _⟩
  | false =>
    have fr6 : w.frozen? ⟨p, 6, none⟩ = false := blk_frozen h.blk 6
    have e1 : IntKind.i64.wrap ((cc : Int) + 1) = cc + 1 := IntWalk.i64_in _ (by omega)
    obtain ⟨w1, hw1⟩ : ∃ w1, w1 = w.setCell ⟨p, 6, none⟩ (.int .i64 (↑cc + 1)) := ⟨_, rfl⟩
    have hm1 : Mod (fun k => k = p) w w1 := by rw [hw1]; exact Mod.setCell (S := fun k => k = p) (Mod.refl _ _) (p := ⟨p, 6, none⟩) (fun _ => rfl) _
    have h1 : RdAt N w1 p ⟨pl, fs, cc + 1, false⟩ row FA KA zs := h.turn hm1 (by rw [hw1]; exact (setCell_blk h.blk).trans rfl) rfl rfl
    have HW1 := Lib.hid hw1
    have z6 : w1.cell? ⟨p, 6, none⟩ = some (.int .i64 (↑cc + 1)) := h1.cellAt 6
    have z2 : w1.cell? ⟨p, 2, none⟩ = some (.int .i64 pl.crash) := h1.cellAt 2
    have z3 : w1.cell? ⟨p, 3, none⟩ = some (.bool pl.done) := h1.cellAt 3
    have z1 : w1.cell? ⟨p, 1, none⟩ = some FA := h1.cellAt 1
    have fr7 : w1.frozen? ⟨p, 7, none⟩ = false := blk_frozen h1.blk 7
    have z7 : w1.cell? ⟨p, 7, none⟩ = some (.bool false) := h1.cellAt 7
    have H1 := Lib.hid h1
    clear hw1 h h1
    go_enter Tryz.func135, Tryz.ntmps135
    go_wp2_with fail
    rw [← HW1.out]
    clear y6 y7 fr6
    by_cases hcr : ((cc : Int) + 1) = pl.crash
    · have b1 : (((cc : Int) + 1) == pl.crash) = true := by simpa using hcr
      have hg : gateR ⟨pl, fs, cc, false⟩ = (⟨pl, fs, cc + 1, true⟩, pl.done, 7) := by
        unfold gateR
        rw [if_neg (by simp), if_pos (show ((cc + 1 : Nat) : Int) = pl.crash from hcr)]
      have HG := Lib.hid hg
      clear hcr hg
      go_quiet (fail)
      have hmq : Mod NoneB w1 (w1.drewN nq) := (Mod.refl NoneB w1).drewN nq
      have h3 : RdAt N ((w1.drewN nq).setCell ⟨p, 7, none⟩ (.bool true)) p ⟨pl, fs, cc + 1, true⟩ row FA KA zs :=
        (H1.out.mod hmq (fun _ _ h => h) (fun _ h => h.elim)).turn (Mod.setCell (S := fun k => k = p) (Mod.refl _ _) (p := ⟨p, 7, none⟩) (fun _ => rfl) _) ((setCell_blk (H1.out.mod hmq (fun _ _ h => h) (fun _ h => h.elim)).blk).trans rfl) rfl rfl
      have hm3 : Mod (fun k => k = p) w ((w1.drewN nq).setCell ⟨p, 7, none⟩ (.bool true)) := (hm1.then0 hmq).setCell (p := ⟨p, 7, none⟩) (fun _ => rfl) _
      have u3 : ((w1.drewN nq).setCell ⟨p, 7, none⟩ (.bool true)).cell? ⟨p, 3, none⟩ = some (.bool pl.done) := h3.cellAt 3
      have H3 := Lib.hid h3
      clear h3
      go_wp2_with fail
      go_ret2
      rw [HG.out]
      exact ⟨rfl, H3.out, hm3⟩
    · have b1 : (((cc : Int) + 1) == pl.crash) = false := by simpa using hcr
      have hg1 : gateR ⟨pl, fs, cc, false⟩ = if ((cc + 1 : Nat) : Int) ∈ pl.fail then (⟨pl, fs, cc + 1, false⟩, false, 6) else (⟨pl, fs, cc + 1, false⟩, true, 0) := by
        unfold gateR
        rw [if_neg (by simp), if_neg (show ¬ ((cc + 1 : Nat) : Int) = pl.crash from hcr)]
      have HG := Lib.hid hg1
      clear hcr hg1
      go_quiet (fail)
      have hmq : Mod NoneB w1 (w1.drewN nq) := (Mod.refl NoneB w1).drewN nq
      have h3 := H1.out.mod hmq (fun _ _ h => h) (fun _ h => h.elim)
      have hm3 := hm1.then0 hmq
      generalize w1.drewN nq = w3 at h3 hm3 ⊢
      obtain ⟨A, c, rfl, hr, _⟩ := h3.fail
      have hn := hr.2.1
      have z1 : ∀ wr, Mod NoneB w3 wr → wr.cell? ⟨p, 1, none⟩ = some (.slice A pl.fail.length c) := fun wr hm => (h3.mod hm (fun _ _ h => h) (fun _ h => h.elim)).cellAt 1
      have z6 : ∀ wr, Mod NoneB w3 wr → wr.cell? ⟨p, 6, none⟩ = some (.int .i64 (↑cc + 1)) := fun wr hm => (h3.mod hm (fun _ _ h => h) (fun _ h => h.elim)).cellAt 6
      have H3 := Lib.hid h3
      have Z1 := Lib.hid z1
      have Z6 := Lib.hid z6
      clear h3 z1 z6 z2 z3 z7 fr7 hmq b1
      go_wp2_with fail
      go_loopw [4] (fun i wr => ∃ j : Nat, i = .int .i64 j ∧ j ≤ pl.fail.length ∧ (∀ x ∈ pl.fail.take j, x ≠ (cc : Int) + 1) ∧ Mod NoneB w3 wr) (fun i _ => pl.fail.length - (intOf i).toNat)
      case atStart => exact ⟨0, rfl, by omega, fun x hx => by simp at hx, Mod.refl _ _⟩
      case round =>
        obtain ⟨j, rfl, hj, hno, hm⟩ := hrel
        have HNO := Lib.hid hno
        have z1 := Z1.out wr hm
        have z6 := Z6.out wr hm
        clear hno
        by_cases hlt : j < pl.fail.length
        · obtain ⟨ad, rfl, h0⟩ := (hr.mod0 hm).ints j hlt
          have htk : pl.fail.take (j + 1) = pl.fail.take j ++ [pl.fail[j]] := List.take_succ_eq_append_getElem hlt
          have hmem : pl.fail[j] ∈ pl.fail := List.getElem_mem _
          obtain ⟨y, hy⟩ : ∃ y, y = pl.fail[j] := ⟨_, rfl⟩
          rw [← hy] at h0 htk hmem
          have HTK := Lib.hid htk
          have g0 : (0 : Int) ≤ (j : Int) := by omega
          have g1 : (j : Int) < (pl.fail.length : Int) := by omega
          clear hy htk
          by_cases he : y = (cc : Int) + 1
          · have b2 : (y == (cc : Int) + 1) = true := by simpa using he
            have hin : ((cc + 1 : Nat) : Int) ∈ pl.fail := by rw [show ((cc + 1 : Nat) : Int) = y from by omega]; exact hmem
            have HIN := Lib.hid hin
            clear he hmem hin
            go_wp2_with fail
            go_quiet (fail)
            go_wp2_with fail
            go_ret2
            rw [HG.out, if_pos HIN.out]
            exact ⟨rfl, H3.out.mod (hm.drewN nq) (fun _ _ h => h) (fun _ h => h.elim), hm3.then0 (hm.drewN nq)⟩
          · have b2 : (y == (cc : Int) + 1) = false := by simpa using he
            have HE := Lib.hid he
            clear he hmem
            go_wp2_with fail
            go_quiet (fail)
            go_wp2_with fail
            go_roundw
            case rel =>
              refine ⟨j + 1, by go_num, by omega, fun x hx => ?_, hm.drewN nq⟩
              rw [HTK.out] at hx
              rcases List.mem_append.1 hx with hx | hx
              · exact HNO.out x hx
              · rw [List.mem_singleton] at hx; rw [hx]; exact HE.out
            case measure => simp [intOf]; omega
        · have hin : ¬ ((cc + 1 : Nat) : Int) ∈ pl.fail := by
            have hno := HNO.out
            rw [List.take_of_length_le (by omega)] at hno
            intro hi
            exact hno _ hi (by omega)
          have HIN := Lib.hid hin
          clear hin
          go_wp2_with fail
          go_ret2
          rw [HG.out, if_neg HIN.out]
          exact ⟨rfl, H3.out.mod hm (fun _ _ h => h) (fun _ h => h.elim), hm3.then0 hm⟩
end Go.Proofs.YtnlmfmceogbomaaGreatDoor

/- The reference's disk: put. -/
namespace Go.Proofs.YtnlmfmceogbomaaGreatDoor
open Go.RowKit
set_option linter.unusedVariables false

theorem encFs_set3 : ∀ (l : List (Fl × Value)) (i : Nat) (z : Fl × Value), (((encFs l).set (i * 3) (.string z.1.n)).set (i * 3 + 1) z.2).set (i * 3 + 2) (.int .i64 z.1.s) = encFs (l.set i z)
  | [], i, z => by simp [encFs]
  | q :: l, 0, z => by simp [encFs, encFl]
  | q :: l, i + 1, z => by
    have h := encFs_set3 l i z
    have e : (i + 1) * 3 = i * 3 + 1 + 1 + 1 := by omega
    simp only [encFs, List.flatMap_cons, encFl, e, List.cons_append, List.nil_append, List.set_cons_succ] at h ⊢
    rw [h]
theorem encFs_getO {l : List (Fl × Value)} {i : Nat} {z : Fl × Value} (h : l[i]? = some z) : (encFs l)[i * 3]? = some (.string z.1.n) ∧ (encFs l)[i * 3 + 1]? = some z.2 ∧ (encFs l)[i * 3 + 2]? = some (.int .i64 z.1.s) := by
  obtain ⟨hi, rfl⟩ := List.getElem?_eq_some_iff.1 h
  exact encFs_get l i hi
theorem encFs_snoc (l : List (Fl × Value)) (z : Fl × Value) : encFs (l ++ [z]) = encFs l ++ encFs [z] := by unfold encFs; rw [List.flatMap_append]
def insZ (zs : List (Fl × Value)) (k : Nat) (z : Fl × Value) : List (Fl × Value) := zs.take k ++ z :: zs.drop k
theorem mem_insZ {zs : List (Fl × Value)} {k : Nat} {z q : Fl × Value} (h : q ∈ insZ zs k z) : q = z ∨ q ∈ zs := by
  unfold insZ at h
  rcases List.mem_append.1 h with h | h
  · exact .inr (List.mem_of_mem_take h)
  · rcases List.mem_cons.1 h with h | h
    · exact .inl h
    · exact .inr (List.mem_of_mem_drop h)
theorem putF_miss {fs : List Fl} {f : Fl} (h : hitF fs f.n = false) : putF fs f = fs.take (lbF fs f.n) ++ f :: fs.drop (lbF fs f.n) := by
  unfold putF
  rw [h]
  rfl
theorem rises_putF {fs : List Fl} (h : Rises (asPs fs)) (f : Fl) : Rises (asPs (putF fs f)) := by
  have h1 := rises_putT h f.n (asP f).v
  have e : asPs (putF fs f) = putT (asPs fs) f.n (asP f).v := by
    unfold putF putT asPs
    rw [List.map_append, List.map_cons, List.map_take, List.map_drop]
    rfl
  rw [e]
  exact h1

set_option maxHeartbeats 8000000 in
set_option maxRecDepth 100000 in
theorem rdput_calls (N : Nat) (w : World) (p : Nat) (d : Dk) (row FA KA : Value) (zs : List (Fl × Value)) (h : RdAt N w p d row FA KA zs) (f : Fl) (u : Value) (hN : N ≤ w.heap.size)
    (hu : Own w 5 1 u f.b.length (encB f.b) ∧ u.oneCell' = true ∧ ∀ g, u.ownBlock = some g → N ≤ g) (hs : f.s ≤ f.b.length) (hm : hitF d.fs f.n = false) (hl : d.fs.length ≤ 1000000) :
    Calls Tryz.prog 137 #[.pointer (some ⟨p, 0, none⟩), .agg #[.string f.n, u, .int .i64 f.s]] w fun e w' => e = .returned (.tuple #[]) ∧
      ∃ row', RdAt N w' p { d with fs := putF d.fs f } row' FA KA (insZ zs (lbF d.fs f.n) (f, u)) ∧ Mod (fun k => k = p ∨ row.ownBlock = some k) w w' ∧ NewOr w row row' := by
  have hln := h.len
  have hpf := putF_miss hm
  have hlb := lbF_le d.fs f.n
  obtain ⟨A, c, hrow, hrd⟩ := h.fil.own.nilD0
  have hown := h.fil.own
  rw [hrow] at hown
  have HROW := Lib.hid hrow
  have hub := Tryz.underlying102
  have hgt : ∀ i, ∀ h1 : i < d.fs.length, ∀ h2 : i < zs.length, zs[i].1 = d.fs[i] := fun i h1 h2 => (h.get h1 h2).symm
  have HGT := Lib.hid hgt
  have hless : ∀ j, ∀ h : j < d.fs.length, j < lbF d.fs f.n → cmpS d.fs[j].n f.n < 0 := fun j h1 h2 => by
    have h3 := lb_less f.n (asPs d.fs) j (by simpa [asPs] using h1) h2
    simp only [asPs, List.getElem_map] at h3
    exact h3
  have HLESS := Lib.hid hless
  have hstop : ∀ h : lbF d.fs f.n < d.fs.length, ¬ cmpS d.fs[lbF d.fs f.n].n f.n < 0 := fun h1 => by
    have h3 := lb_stop f.n (asPs d.fs) (by simpa [asPs, lbF] using h1)
    simp only [asPs, List.getElem_map] at h3
    exact h3
  have HSTOP := Lib.hid hstop
  have H := Lib.hid h
  have HPF := Lib.hid hpf
  obtain ⟨Au, cu, rfl, _⟩ := hu.1.nilD0
  have HU := Lib.hid hu
  have y5 : ∀ wr, Mod NoneB w wr → wr.cell? ⟨p, 5, none⟩ = some (.slice A zs.length c) := fun wr hm => by rw [← hrow]; exact (h.mod hm (fun _ _ h => h) (fun _ h => h.elim)).cellAt 5
  have Y5 := Lib.hid y5
  have hplt : p < w.heap.size := blk_lt h.blk
  obtain ⟨m, hmd⟩ : ∃ m, m = lbF d.fs f.n := ⟨_, rfl⟩
  rw [← hmd] at HLESS HSTOP HPF hlb ⊢
  have HM := Lib.hid hmd
  clear hgt hless hstop h hpf hu hm y5 hmd hrow
  go_enter Tryz.func137, Tryz.ntmps137
  go_wp2_with fail
  have hmA : Mod NoneB w (w.alloc (.cells #[.string f.n, .slice Au f.b.length cu, .int .i64 f.s] 110)) := (Mod.refl NoneB w).alloc _
  have hbx := heap_alloc_new w (.cells #[.string f.n, .slice Au f.b.length cu, .int .i64 f.s] 110)
  have hx0 : (w.alloc (.cells #[.string f.n, .slice Au f.b.length cu, .int .i64 f.s] 110)).cell? ⟨w.heap.size, 0, none⟩ = some (.string f.n) := blk_cell hbx 0
  have hsz : w.heap.size < (w.alloc (.cells #[.string f.n, .slice Au f.b.length cu, .int .i64 f.s] 110)).heap.size := by simp
  have HBX := Lib.hid hbx
  go_loopw [4] (fun i wr => ∃ j : Nat, i = .int .i64 j ∧ j ≤ m ∧ Mod NoneB w wr ∧ wr.heap[w.heap.size]? = some (.cells #[.string f.n, .slice Au f.b.length cu, .int .i64 f.s] 110 (0, 0)) ∧ w.heap.size < wr.heap.size) (fun i _ => m - (intOf i).toNat)
  case atStart => exact ⟨0, rfl, by omega, hmA, HBX.out, hsz⟩
  case round =>
    clear hmA hbx hx0 hsz HBX
    obtain ⟨j, rfl, hj, hm, hbx, hlt⟩ := hrel
    have y5 := Y5.out wr hm
    have x0 : wr.cell? ⟨w.heap.size, 0, none⟩ = some (.string f.n) := blk_cell hbx 0
    by_cases hjm : j < m
    · have hjn : j < d.fs.length := by omega
      have hz1 : j < zs.length := by omega
      obtain ⟨ad, rfl, h0, _⟩ := Rd.elem (f := encFl) (fun _ => rfl) (hrd.mod0 hm) (by decide) j hz1
      have c0 := h0 _ rfl
      rw [HGT.out j hjn hz1] at c0
      have hls := HLESS.out j hjn hjm
      obtain ⟨q, hq⟩ : ∃ q, q = d.fs[j].n := ⟨_, rfl⟩
      rw [← hq] at c0 hls
      have b1 : Op.bytesLess q.toList f.n.toList = true := by rw [less_cmpS]; exact decide_eq_true hls
      have e1 : IntKind.i64.wrap ((j : Int) + 1) = j + 1 := IntWalk.i64_in _ (by omega)
      have e6 : (j : Int) < zs.length := by omega
      have e7 : (0 : Int) ≤ j := by omega
      clear hq hls h0
      go_wp2_with fail
      go_quiet (fail)
      go_wp2_with fail
      go_roundw
      case rel => exact ⟨j + 1, by go_num, by omega, hm.drewN _, ((Mod.refl NoneB wr).drewN _).blk hbx (fun h => h), by simpa using hlt⟩
      case measure => simp [intOf]; omega
    · have hje : j = m := by omega
      subst hje
      have e7 : (0 : Int) ≤ j := by omega
      have hown' := hown.mod0 hm
      have hln2 : (zs.length + 1) * 48 ≤ 140737488355328 := by omega
      have hnw : ∀ n, 0 < 1 → ∃ a, (some ⟨wr.heap.size, 0, none⟩ : Option Addr) = some a ∧ ∀ (j : Nat) u, (encFs [(⟨⟨#[]⟩, [], 0⟩, .slice none 0 0)])[j]? = some u → ((wr.drewN n).alloc (.cells #[.string ⟨#[]⟩, .slice none 0 0, .int .i64 0] 110)).cell? (a.add j) = some u := by
        intro n
        have h := (rdBlk (sz := 3) (n := 1) (heap_alloc_new (wr.drewN n) (.cells #[.string ⟨#[]⟩, .slice none 0 0, .int .i64 0] 110)) rfl (by omega)).2.2
        have e : (wr.drewN n).heap.size = wr.heap.size := by simp
        rw [e] at h
        exact h
      have h1f : ∀ u ∈ encFs [((⟨⟨#[]⟩, [], 0⟩ : Fl), Value.slice none 0 0)], u.oneCell' = true := fun u hu => encFl_one ⟨⟨#[]⟩, [], 0⟩ none 0 0 u (by simpa [encFs] using hu)
      have hgp : p ≠ wr.heap.size := by have := hm.size; omega
      by_cases hjn : j < d.fs.length
      case' pos =>
        have hz1 : j < zs.length := by omega
        obtain ⟨ad, rfl, h0, _⟩ := Rd.elem (f := encFl) (fun _ => rfl) (hrd.mod0 hm) (by decide) j hz1
        have c0 := h0 _ rfl
        rw [HGT.out j hjn hz1] at c0
        have hns := HSTOP.out hjn
        obtain ⟨q, hq⟩ : ∃ q, q = d.fs[j].n := ⟨_, rfl⟩
        rw [← hq] at c0 hns
        have b1 : Op.bytesLess q.toList f.n.toList = false := by rw [less_cmpS]; exact decide_eq_false (by omega)
        have e6 : (j : Int) < zs.length := by omega
        clear hq hns h0
      case' neg =>
        have e6 : ¬ (j : Int) < zs.length := by omega
        have e6n : decide (j < zs.length) = false := by simp; omega
      all_goals
        go_wp2_with fail
        go_quiet (fail)
        have y5q := Y5.out _ (hm.drewN nq)
        go_wp2_with (at_builtin; refine wpList_append rfl (.tmp 32) (.tmp 34) 102 rfl 110 _ 3 48 hub tiFile rfl (by decide) (by decide) _ zs.length (encFs zs) rfl (hown'.mod0 (((Mod.refl NoneB wr).drewN _).alloc _)) (some ⟨wr.heap.size, 0, none⟩) 1 1 (encFs [(⟨⟨#[]⟩, [], 0⟩, .slice none 0 0)]) rfl rfl (hnw _) h1f hln2 ?_)
        intro v4 w4 ho4 hm4 hno4
        have hrp : ∀ g, row.ownBlock = some g → g ≠ p := fun g hg => H.out.rowNe hg
        have hpA := ((hm.drewN nq).alloc (.cells #[.string ⟨#[]⟩, .slice none 0 0, .int .i64 0] 110)).blk H.out.blk (fun h => h)
        have hp4 := hm4.blk hpA (fun hk => hrp p (by rw [HROW.out]; exact hk) rfl)
        have y54 : w4.cell? ⟨p, 5, none⟩ = some row := blk_cell hp4 5
        have fr54 : w4.frozen? ⟨p, 5, none⟩ = false := blk_frozen hp4 5
        have hbx4 := hm4.blk ((((Mod.refl NoneB wr).drewN nq).alloc (.cells #[.string ⟨#[]⟩, .slice none 0 0, .int .i64 0] 110)).blk hbx (fun h => h)) (fun h => absurd (hown.lt h) (Nat.lt_irrefl _))
        have hmA4 := (((hm.mono (fun _ _ h => h.elim)).drewN nq).alloc (.cells #[.string ⟨#[]⟩, .slice none 0 0, .int .i64 0] 110)).trans hm4 (fun _ _ h => h)
        obtain ⟨g, c4, he4⟩ := ho4.addrOf (by omega)
        subst he4
        obtain ⟨hgx, hgS, hnv⟩ := hno4.two (w := w) (fun _ h => hown.lt h) (by simp; omega)
        have hgp2 : g ≠ p := by
          obtain ⟨cur, hc⟩ := ho4.tag rfl
          exact tag_ne hc hp4 (by decide)
        obtain ⟨w5, hw5⟩ : ∃ w5, w5 = w4.setCell ⟨p, 5, none⟩ (.slice (some ⟨g, 0, none⟩) (zs.length + 1) c4) := ⟨_, rfl⟩
        have hms : Mod (fun k => k = p) w4 w5 := by rw [hw5]; exact Mod.setCell (S := fun k => k = p) (Mod.refl _ _) (p := ⟨p, 5, none⟩) (fun _ => rfl) _
        have hp5 : w5.heap[p]? = some (.cells (dkCells d (.slice (some ⟨g, 0, none⟩) (zs.length + 1) c4) FA KA) 104 (0, 0)) := by rw [hw5]; exact (setCell_blk hp4).trans rfl
        have hbx5 := hms.blk hbx4 (fun e => by omega)
        have ho5 : Own w5 110 3 (.slice (some ⟨g, 0, none⟩) (zs.length + 1) c4) (zs.length + 1) (encFs (zs.take zs.length ++ ((⟨⟨#[]⟩, [], 0⟩ : Fl), Value.slice none 0 0) :: zs.drop zs.length)) := by
          have e : zs.take zs.length ++ ((⟨⟨#[]⟩, [], 0⟩ : Fl), Value.slice none 0 0) :: zs.drop zs.length = zs ++ [((⟨⟨#[]⟩, [], 0⟩ : Fl), Value.slice none 0 0)] := by simp
          rw [e, encFs_snoc]
          exact ho4.mod hms (fun k hk e => hgp2 ((Option.some.inj (show some g = some k from hk)).trans e))
        have HW5 := Lib.hid hw5
        have hmw5 : Mod (fun k => k = p ∨ row.ownBlock = some k) w w5 := (hmA4.mono (fun _ _ h => .inr (by rw [HROW.out]; exact h))).trans hms (fun _ _ h => .inl h)
        have HMW5 := Lib.hid hmw5
        rw [← HROW.out] at hnv
        have hgS2 : row.ownBlock = some g ∨ w.heap.size ≤ g := hgS.imp (fun h => by rw [HROW.out]; exact h) id
        have HNV := Lib.hid hnv
        have HGS := Lib.hid hgS2
        have HP5 := Lib.hid hp5
        have HBX5 := Lib.hid hbx5
        have hfin : ∀ w6, Own w6 110 3 (.slice (some ⟨g, 0, none⟩) (zs.length + 1) c4) (zs.length + 1) (encFs (zs.take j ++ (f, Value.slice Au f.b.length cu) :: zs.drop j)) → Mod (fun q => q = g) w5 w6 →
            ∃ row', RdAt N w6 p { d with fs := putF d.fs f } row' FA KA (insZ zs j (f, .slice Au f.b.length cu)) ∧ Mod (fun k => k = p ∨ row.ownBlock = some k) w w6 ∧ NewOr w row row' := by
          intro w6 ho6 hm6
          have hmt : Mod (fun k => k = p ∨ row.ownBlock = some k) w w6 := HMW5.out.trans_new hm6 (fun q hq => by subst hq; exact HGS.out.imp .inr id)
          have hrn : ∀ g', row.ownBlock = some g' → N ≤ g' := H.out.fil.new
          have hT : ∀ q, (q = p ∨ row.ownBlock = some q) → N ≤ q := fun q hq => hq.elim (fun e => by rw [e]; exact H.out.pos) (hrn q)
          have hil : (insZ zs j (f, Value.slice Au f.b.length cu)).length = zs.length + 1 := by unfold insZ; simp; omega
          refine ⟨_, ⟨hm6.blk HP5.out (fun e => hgp2 e.symm), ⟨by rw [hil]; exact ho6, fun g' hg' => ?_, fun q hq => ?_⟩, ?_, H.out.fail.mod hmt hT, H.out.keep.mod hmt hT, ?_, fun q hq => ?_, H.out.pos⟩, hmt, HNV.out⟩
          · have e := Option.some.inj (show some g = some g' from hg')
            rw [← e]
            rcases HGS.out with h1 | h1
            · exact hrn g h1
            · exact Nat.le_trans hN h1
          · rcases mem_insZ hq with rfl | hq
            · refine ⟨HU.out.1.mod hmt (fun g' hg' hT' => ?_), HU.out.2⟩
              obtain ⟨cur, hc⟩ := HU.out.1.tag hg'
              rcases hT' with rfl | hT'
              · exact tag_ne hc H.out.blk (by decide) rfl
              · obtain ⟨cur2, hc2⟩ := H.out.fil.own.tag hT'
                exact tag_ne hc hc2 (by decide) rfl
            · have he := H.out.fil.ent q hq
              exact ⟨he.1.mod hmt (fun g' hg' hT' => hT'.elim (H.out.bytNe hq hg') (fun h => H.out.bytRow hq hg' h)), he.2⟩
          · show putF d.fs f = _
            rw [HPF.out, H.out.fs]
            unfold insZ
            rw [List.map_append, List.map_cons, List.map_take, List.map_drop]
          · exact rises_putF H.out.rises f
          · rcases mem_putF hq with rfl | hq
            · exact hs
            · exact H.out.sync q hq
        have HFIN := Lib.hid hfin
        have y55 : w5.cell? ⟨p, 5, none⟩ = some (.slice (some ⟨g, 0, none⟩) (zs.length + 1) c4) := blk_cell hp5 5
        have en : IntKind.i64.wrap (zs.length : Int) = zs.length := IntWalk.i64_in _ (by omega)
        clear hfin hrp hpA hp4 hbx4 hmA4 hnv hgS hgS2 hms hp5 hbx5 hmw5 ho4 hm4 hno4 hnw hown' hw5 y5q hbx h1f
        go_wp2_with fail
        rw [← HW5.out]
        go_loopw [5] (fun i wq => ∃ (k : Nat) (z : Fl × Value), i = .int .i64 k ∧ j ≤ k ∧ k ≤ zs.length ∧ Own wq 110 3 (.slice (some ⟨g, 0, none⟩) (zs.length + 1) c4) (zs.length + 1) (encFs (zs.take k ++ z :: zs.drop k)) ∧ Mod (fun q => q = g) w5 wq) (fun i _ => (intOf i).toNat)
        case atStart => exact ⟨zs.length, _, by go_num, by omega, Nat.le_refl _, ho5, Mod.refl _ _⟩
        case round =>
          clear ho5 y54 fr54 y5 y55
          obtain ⟨k, z, rfl, hjk, hkl, hov, hmq⟩ := hrel
          have hpq := hmq.blk HP5.out (fun e => hgp2 e.symm)
          have yq5 : wr.cell? ⟨p, 5, none⟩ = some (.slice (some ⟨g, 0, none⟩) (zs.length + 1) c4) := blk_cell hpq 5
          by_cases hlt2 : j < k
          · first
            | (exfalso; omega)
            | (skip
               obtain ⟨m, rfl⟩ : ∃ m, k = m + 1 := ⟨k - 1, by omega⟩
               have hml : m < zs.length := by omega
               obtain ⟨Av, cv, hyv, _⟩ := (H.out.fil.ent zs[m] (List.getElem_mem _)).1.nilD0
               have hst := shift_step z zs m hml
               have cc := encFs_getO (shift_get z zs m hml)
               obtain ⟨y, hy⟩ : ∃ y, y = zs[m] := ⟨_, rfl⟩
               rw [← hy] at cc hyv hst
               obtain ⟨yf, yv⟩ := y
               simp only at hyv cc
               subst hyv
               have dd := encFs_getO (shift_at z zs (m + 1) hkl)
               have c0 := hov.cellAt (m * 3) _ cc.1
               have c1 := hov.cellAt (m * 3 + 1) _ cc.2.1
               have c2 := hov.cellAt (m * 3 + 2) _ cc.2.2
               have d0 := hov.cellAt ((m + 1) * 3) _ dd.1
               have d1 := hov.cellAt ((m + 1) * 3 + 1) _ dd.2.1
               have d2 := hov.cellAt ((m + 1) * 3 + 2) _ dd.2.2
               have f0 := hov.frozenAt ((m + 1) * 3)
               have f1 := hov.frozenAt ((m + 1) * 3 + 1)
               have f2 := hov.frozenAt ((m + 1) * 3 + 2)
               have hovd := hov.mod0 ((Mod.refl NoneB wr).drew)
               have hs := ((hovd.set ((m + 1) * 3) (.string yf.n)).set ((m + 1) * 3 + 1) (.slice Av yf.b.length cv)).set ((m + 1) * 3 + 2) (.int .i64 yf.s)
               have hs := (encFs_set3 _ _ (yf, .slice Av yf.b.length cv)) ▸ hs
               rw [hst] at hs
               have HS := Lib.hid hs
               have n1 : IntKind.i64.wrap (m : Int) = m := IntWalk.i64_in _ (by omega)
               have n2 : ((m : Int) + 1).toNat = m + 1 := by omega
               have n3 : (0 : Int) ≤ (m : Int) + 1 := by omega
               have n4 : (m : Int) + 1 < (zs.length : Int) + 1 := by omega
               have n5 : (m : Int) < (zs.length : Int) + 1 := by omega
               have n6 : (j : Int) < (m : Int) + 1 := by omega
               have n7 : (0 : Int) ≤ (m : Int) := by omega
               clear hs cc dd hovd hst hy
               go_wp2_with fail
               go_region_law (fail)
               all_goals
                 clear c0 c1 c2 d0 d1 d2 f0 f1 f2 n1 n3 n4 n5 n7
                 go_wp2_with fail
                 go_roundw
                 case rel => exact ⟨m, (yf, .slice Av yf.b.length cv), by go_num, by omega, by omega, HS.out, ((hmq.drew.setCell (p := ⟨g, (m + 1) * 3, none⟩) (fun _ => rfl) _).setCell (p := ⟨g, (m + 1) * 3 + 1, none⟩) (fun _ => rfl) _).setCell (p := ⟨g, (m + 1) * 3 + 2, none⟩) (fun _ => rfl) _⟩
                 case measure => simp [intOf])
          · have hkj : k = j := by omega
            subst hkj
            have hbq := hmq.blk HBX5.out (fun e => hgx e.symm)
            have x0 : wr.cell? ⟨w.heap.size, 0, none⟩ = some (.string f.n) := blk_cell hbq 0
            have x1 : wr.cell? ⟨w.heap.size, 1, none⟩ = some (.slice Au f.b.length cu) := blk_cell hbq 1
            have x2 : wr.cell? ⟨w.heap.size, 2, none⟩ = some (.int .i64 f.s) := blk_cell hbq 2
            have dd := encFs_getO (shift_at z zs k hkl)
            have d0 := hov.cellAt (k * 3) _ dd.1
            have d1 := hov.cellAt (k * 3 + 1) _ dd.2.1
            have d2 := hov.cellAt (k * 3 + 2) _ dd.2.2
            have f0 := hov.frozenAt (k * 3)
            have f1 := hov.frozenAt (k * 3 + 1)
            have f2 := hov.frozenAt (k * 3 + 2)
            have hovd := hov.mod0 ((Mod.refl NoneB wr).drew)
            have hs := ((hovd.set (k * 3) (.string f.n)).set (k * 3 + 1) (.slice Au f.b.length cu)).set (k * 3 + 2) (.int .i64 f.s)
            have hs := (encFs_set3 _ _ (f, .slice Au f.b.length cu)) ▸ hs
            rw [shift_set z _ zs k hkl] at hs
            have hfin := HFIN.out _ hs (((hmq.drew.setCell (p := ⟨g, k * 3, none⟩) (fun _ => rfl) _).setCell (p := ⟨g, k * 3 + 1, none⟩) (fun _ => rfl) _).setCell (p := ⟨g, k * 3 + 2, none⟩) (fun _ => rfl) _)
            have HF := Lib.hid hfin
            have n5 : (k : Int) < (zs.length : Int) + 1 := by omega
            clear hs dd hovd hfin hbq hpq hov
            go_wp2_with fail
            go_region_law (fail)
            all_goals
              clear x0 x1 x2 d0 d1 d2 f0 f1 f2
              go_wp2_with fail
              go_end0
              exact ⟨rfl, HF.out⟩
end Go.Proofs.YtnlmfmceogbomaaGreatDoor

/- The reference's disk: drop; Create, Remove, Read. -/
namespace Go.Proofs.YtnlmfmceogbomaaGreatDoor
open Go.RowKit
set_option linter.unusedVariables false

theorem erase_take {α : Type} (l : List α) (k j : Nat) (h : j < l.length) : (l.take (j + 1)).eraseIdx k = if j = k then (l.take j).eraseIdx k else (l.take j).eraseIdx k ++ [l[j]] := by
  have hl : (l.take j).length = j := by rw [List.length_take]; omega
  rw [List.take_succ_eq_append_getElem h]
  by_cases hk : k < j
  · rw [if_neg (by omega), List.eraseIdx_append_of_lt_length (by omega)]
  · rw [List.eraseIdx_append_of_length_le (by omega), hl, List.eraseIdx_of_length_le (by omega : (l.take j).length ≤ k)]
    by_cases hjk : j = k
    · rw [if_pos hjk]; subst hjk; simp
    · rw [if_neg hjk, List.eraseIdx_of_length_le (by simp; omega)]
theorem map_erase {α β : Type} (f : α → β) (l : List α) (k : Nat) : (l.map f).eraseIdx k = (l.eraseIdx k).map f := by
  rw [List.eraseIdx_eq_take_drop_succ, List.eraseIdx_eq_take_drop_succ, List.map_append, List.map_take, List.map_drop]
theorem rises_erase {fs : List Fl} (h : Rises (asPs fs)) (k : Nat) : Rises (asPs (fs.eraseIdx k)) := by
  unfold Rises asPs at *
  exact h.sublist (List.Sublist.map _ (List.eraseIdx_sublist _ _))

set_option maxHeartbeats 4000000 in
set_option maxRecDepth 100000 in
theorem rddrop_calls (N : Nat) (w : World) (p : Nat) (d : Dk) (row FA KA : Value) (zs : List (Fl × Value)) (h : RdAt N w p d row FA KA zs) (k : Nat) (hN : N ≤ w.heap.size) (hl : d.fs.length ≤ 1000000) :
    Calls Tryz.prog 143 #[.pointer (some ⟨p, 0, none⟩), .int .i64 k] w fun e w' => e = .returned (.tuple #[]) ∧
      ∃ row', RdAt N w' p { d with fs := d.fs.eraseIdx k } row' FA KA (zs.eraseIdx k) ∧ Mod (fun k => k = p) w w' ∧ (∀ g, row'.ownBlock = some g → w.heap.size ≤ g) := by
  have hln := h.len
  obtain ⟨A, c, hrow, hrd⟩ := h.fil.own.nilD0
  have hub := Tryz.underlying102
  have y5 : ∀ wr, Mod NoneB w wr → wr.cell? ⟨p, 5, none⟩ = some (.slice A zs.length c) := fun wr hm => by rw [← hrow]; exact (h.mod hm (fun _ _ h => h) (fun _ h => h.elim)).cellAt 5
  have hpw : ∀ wr, Mod NoneB w wr → wr.heap[p]? = some (.cells (dkCells d row FA KA) 104 (0, 0)) := fun wr hm => hm.blk h.blk (fun h => h)
  have hsl : ∀ z ∈ zs, ∃ A c, z.2 = .slice A z.1.b.length c := fun z hz => by
    obtain ⟨A, c, h1, _⟩ := (h.fil.ent z hz).1.nilD0
    exact ⟨A, c, h1⟩
  have Y5 := Lib.hid y5
  have H := Lib.hid h
  have HSL := Lib.hid hsl
  have HPW := Lib.hid hpw
  obtain ⟨n, hn⟩ : ∃ n, n = zs.length := ⟨_, rfl⟩
  rw [← hn] at Y5 hrd hln
  have HN := Lib.hid hn
  clear h y5 hrow hsl hpw hn
  go_enter Tryz.func143, Tryz.ntmps143
  go_wp2_with fail
  go_loopw [4, 5] (fun v i wr => ∃ j : Nat, i = .int .i64 j ∧ j ≤ n ∧ Own wr 110 3 v ((zs.take j).eraseIdx k).length (encFs ((zs.take j).eraseIdx k)) ∧ (∀ g, v.ownBlock = some g → w.heap.size ≤ g) ∧ Mod NoneB w wr) (fun _ i _ => n - (intOf i).toNat)
  case atStart => exact ⟨0, rfl, by omega, by simp only [List.take_zero, List.eraseIdx_nil]; exact Own.nil _ _ _, (fun g h => (by cases h)), Mod.refl _ _⟩
  case round =>
    obtain ⟨j, rfl, hj, ho, hnv, hm⟩ := hrel
    have y5 := Y5.out wr hm
    by_cases hlt : j < n
    · have hjz : j < zs.length := by rw [← HN.out]; exact hlt
      have het := erase_take zs k j hjz
      have hel : ((zs.take j).eraseIdx k).length ≤ n := by
        have := List.length_eraseIdx_le (zs.take j) k
        rw [List.length_take] at this
        omega
      obtain ⟨t, ht⟩ : ∃ t, t = (zs.take j).eraseIdx k := ⟨_, rfl⟩
      rw [← ht] at ho het hel
      have g0 : (0 : Int) ≤ (j : Int) := by omega
      have g1 : (j : Int) < (n : Int) := by omega
      have e8 : IntKind.i64.wrap ((j : Int) + 1) = j + 1 := IntWalk.i64_in _ (by omega)
      by_cases hjk : j = k
      · rw [if_pos hjk] at het
        rw [← het] at ho
        have HO := Lib.hid ho
        have b1 : ((j : Int) != (k : Int)) = false := by simp [bne]; omega
        clear ht het ho
        go_wp2_with fail
        go_roundw
        case rel => exact ⟨j + 1, by go_num, by omega, HO.out, hnv, hm⟩
        case measure => simp [intOf]; omega
      · rw [if_neg hjk] at het
        obtain ⟨Av, cv, hyv⟩ := HSL.out zs[j] (List.getElem_mem _)
        obtain ⟨ad, rfl, h0, hk⟩ := Rd.elem (f := encFl) (fun _ => rfl) (hrd.mod0 hm) (by decide) j hjz
        have c0 := h0 _ rfl
        have c1 := hk 1 _ (by decide) (by decide) rfl
        have c2 := hk 2 _ (by decide) (by decide) rfl
        obtain ⟨y, hy⟩ : ∃ y, y = zs[j] := ⟨_, rfl⟩
        rw [← hy] at c0 c1 c2 het hyv
        obtain ⟨yf, yv⟩ := y
        simp only at hyv c0 c1 c2
        subst hyv
        have HET := Lib.hid het
        have b1 : ((j : Int) != (k : Int)) = true := by simp [bne]; omega
        have hal : Mod NoneB wr (wr.alloc (.cells #[.string yf.n, .slice Av yf.b.length cv, .int .i64 yf.s] 110)) := (Mod.refl NoneB wr).alloc _
        have hox := ho.mod0 hal
        have hnx : 0 < 1 → ∃ a, (some ⟨wr.heap.size, 0, none⟩ : Option Addr) = some a ∧ ∀ (j : Nat) u, (encFs [(yf, Value.slice Av yf.b.length cv)])[j]? = some u → (wr.alloc (.cells #[.string yf.n, .slice Av yf.b.length cv, .int .i64 yf.s] 110)).cell? (a.add j) = some u := (rdBlk (sz := 3) (n := 1) (heap_alloc_new wr (.cells #[.string yf.n, .slice Av yf.b.length cv, .int .i64 yf.s] 110)) rfl (by omega)).2.2
        have h1f : ∀ u ∈ encFs [(yf, Value.slice Av yf.b.length cv)], u.oneCell' = true := fun u hu => encFl_one yf Av _ cv u (by simpa [encFs] using hu)
        have hsz : (t.length + 1) * 48 ≤ 140737488355328 := by omega
        have HNV := Lib.hid hnv
        clear h0 hk hy het ho ht hnv hjk
        go_wp2_with (at_builtin; refine wpList_append rfl (.tmp 18) (.tmp 26) 102 rfl 110 _ 3 48 hub tiFile rfl (by decide) (by decide) _ t.length (encFs t) rfl hox (some ⟨wr.heap.size, 0, none⟩) 1 1 (encFs [(yf, Value.slice Av yf.b.length cv)]) rfl rfl hnx h1f hsz ?_)
        intro v5 w5 ho5 hm5 hno5
        have hmw := (hm.then0 hal).trans_new hm5 (fun k hk => .inr (HNV.out k hk))
        have hn5 : ∀ g, v5.ownBlock = some g → w.heap.size ≤ g := by
          intro g hg
          rcases hno5 with hq | ⟨b, hq, hb⟩
          · exact HNV.out g (by rw [← hq]; exact hg)
          · rw [hq] at hg
            injection hg with hg
            subst hg
            exact Nat.le_trans (Nat.le_trans hm.size hal.size) hb
        have ho6 : Own w5 110 3 v5 ((zs.take (j + 1)).eraseIdx k).length (encFs ((zs.take (j + 1)).eraseIdx k)) := by
          rw [HET.out, encFs_snoc, List.length_append]
          exact ho5
        obtain ⟨V5, cv5, rfl, _, _, _⟩ := ho5.out
        have HO6 := Lib.hid ho6
        have HN5 := Lib.hid hn5
        clear ho6 hn5 ho5 hox hnx hno5 h1f c0 c1 c2
        go_wp2_with fail
        go_roundw
        case rel => exact ⟨j + 1, by go_num, by omega, HO6.out, HN5.out, hmw⟩
        case measure => simp [intOf]; omega
    · have hje : (zs.take j).eraseIdx k = zs.eraseIdx k := by rw [List.take_of_length_le (by rw [← HN.out]; omega)]
      rw [hje] at ho
      have hpb := HPW.out wr hm
      have fr5 : wr.frozen? ⟨p, 5, none⟩ = false := blk_frozen hpb 5
      have hplt : p < w.heap.size := blk_lt H.out.blk
      obtain ⟨V5, cv5, rfl, _⟩ := ho.nilD0
      have hms : Mod (fun k => k = p) wr (wr.setCell ⟨p, 5, none⟩ (.slice V5 (zs.eraseIdx k).length cv5)) := Mod.setCell (S := fun k => k = p) (Mod.refl _ _) (p := ⟨p, 5, none⟩) (fun _ => rfl) _
      have hmt : Mod (fun k => k = p) w (wr.setCell ⟨p, 5, none⟩ (.slice V5 (zs.eraseIdx k).length cv5)) := (hm.mono (fun _ _ h => h.elim)).trans hms (fun _ _ h => h)
      have hpN : ∀ q, q = p → N ≤ q := fun q hq => by rw [hq]; exact H.out.pos
      have hfin : RdAt N (wr.setCell ⟨p, 5, none⟩ (.slice V5 (zs.eraseIdx k).length cv5)) p { d with fs := d.fs.eraseIdx k } (.slice V5 (zs.eraseIdx k).length cv5) FA KA (zs.eraseIdx k) :=
        ⟨(setCell_blk hpb).trans rfl, ⟨ho.mod hms (fun g hg e => by have := hnv g hg; omega), (fun g hg => Nat.le_trans hN (hnv g hg)), fun z hz => by
          have hz' := (List.eraseIdx_sublist zs k).subset hz
          have he := H.out.fil.ent z hz'
          exact ⟨he.1.mod hmt (fun g hg => H.out.bytNe hz' hg), he.2⟩⟩, by show d.fs.eraseIdx k = _; rw [H.out.fs, map_erase], H.out.fail.mod hmt hpN, H.out.keep.mod hmt hpN, rises_erase H.out.rises k,
          fun f hf => H.out.sync f ((List.eraseIdx_sublist d.fs k).subset hf), H.out.pos⟩
      have HF := Lib.hid hfin
      have HNV := Lib.hid hnv
      clear hje hfin ho hms hnv hpb hpN
      go_wp2_with fail
      go_end0
      exact ⟨rfl, _, HF.out, hmt, HNV.out⟩

/-- A call whose answer is what is told, if no crash stands. -/
def toldD (d : Dk) (e : Nat) : Nat := if d.dn then 7 else e
theorem gateD_no {d : Dk} {op : Dk → Ans} (h : (gateR d).2.1 = false) : gateD d op = ((gateR d).1, (gateR d).2.2) := by rw [gateD_R, h]; rfl
theorem gateD_yes {d : Dk} {op : Dk → Ans} (h : (gateR d).2.1 = true) : gateD d op = ((op (gateR d).1).1, toldD (gateR d).1 (op (gateR d).1).2) := by rw [gateD_R, h]; rfl
theorem rtold2_calls (N : Nat) (w : World) (p : Nat) (d : Dk) (row FA KA : Value) (zs : List (Fl × Value)) (h : RdAt N w p d row FA KA zs) (n : Nat) (z : Int) (hz : z = n) :
    Calls Tryz.prog 136 #[.pointer (some ⟨p, 0, none⟩), .int .i64 z] w fun e w' => e = .returned (.int .i64 (toldD d n : Nat)) ∧ w' = w := by
  subst hz
  refine (rtold_calls N w p d row FA KA zs h n).mono ?_
  rintro e w' ⟨rfl, hw⟩
  refine ⟨?_, hw⟩
  unfold toldD
  split <;> rfl
/-- From a row to a step. -/
theorem RdAt.step {N : Nat} {w w' : World} {p : Nat} {d d' : Dk} {row FA KA row' : Value} {zs zs' : List (Fl × Value)} {S : Nat → Prop} (h : RdAt N w p d row FA KA zs) (hS : ∀ k, S k ↔ FootR p row zs k)
    (hm : Mod (fun k => k = p ∨ row.ownBlock = some k) w w') (h' : RdAt N w' p d' row' FA KA zs') (hn : NewOr w row row') (hz : ∀ z ∈ zs', z ∈ zs ∨ ∀ g, z.2.ownBlock = some g → w.heap.size ≤ g) : RStep N w S p d' w' := by
  refine ⟨FootR p row' zs', ⟨row', FA, KA, zs', h', fun _ => Iff.rfl⟩, hm.mono (fun k _ hk => (hS k).2 (hk.elim .inl (fun h => .inr (.inl h)))), fun k hk => ?_⟩
  rcases hk with rfl | hk | ⟨z, hz1, hk⟩
  · exact .inl ((hS _).2 (.inl rfl))
  · rcases hn with hq | ⟨b, hq, hb⟩
    · exact .inl ((hS _).2 (.inr (.inl (by rw [← hq]; exact hk))))
    · rw [hk] at hq; injection hq with hq; exact .inr (by omega)
  · rcases hz z hz1 with h1 | h1
    · exact .inl ((hS _).2 (.inr (.inr ⟨z, h1, hk⟩)))
    · exact .inr (h1 k hk)
end Go.Proofs.YtnlmfmceogbomaaGreatDoor

/- The reference's disk: Create, Remove, Read. -/
namespace Go.Proofs.YtnlmfmceogbomaaGreatDoor
open Go.RowKit
set_option linter.unusedVariables false

theorem plF_hit {fs : List Fl} {n : ByteArray} (h : hitF fs n = true) : plF fs n = lbF fs n := by unfold plF; rw [if_pos h]
theorem plF_miss {fs : List Fl} {n : ByteArray} (h : hitF fs n = false) : plF fs n = -1 := by unfold plF; rw [if_neg (by simp [h])]
theorem RdAt.step0 {N : Nat} {w w' : World} {p : Nat} {d d' : Dk} {row FA KA : Value} {zs : List (Fl × Value)} {S : Nat → Prop} (h : RdAt N w p d row FA KA zs) (hS : ∀ k, S k ↔ FootR p row zs k)
    (hm : Mod (fun k => k = p) w w') (h' : RdAt N w' p d' row FA KA zs) : RStep N w S p d' w' :=
  h.step hS (hm.mono (fun _ _ h => .inl h)) h' (.inl rfl) (fun z hz => .inl hz)
/-- The same where the row lies in a new block, or has none. -/
theorem stepNew {N : Nat} {w w' : World} {p : Nat} {d d' : Dk} {row FA KA row' : Value} {zs zs' : List (Fl × Value)} {S : Nat → Prop} (h : RdAt N w p d row FA KA zs) (hS : ∀ k, S k ↔ FootR p row zs k)
    (hm : Mod (fun k => k = p) w w') (h' : RdAt N w' p d' row' FA KA zs') (hn : ∀ g, row'.ownBlock = some g → w.heap.size ≤ g) (hz : ∀ z ∈ zs', z ∈ zs ∨ ∀ g, z.2.ownBlock = some g → w.heap.size ≤ g) : RStep N w S p d' w' := by
  refine ⟨FootR p row' zs', ⟨row', FA, KA, zs', h', fun _ => Iff.rfl⟩, hm.mono (fun k _ hk => (hS k).2 (.inl hk)), fun k hk => ?_⟩
  rcases hk with rfl | hk | ⟨z, hz1, hk⟩
  · exact .inl ((hS _).2 (.inl rfl))
  · exact .inr (hn k hk)
  · rcases hz z hz1 with h1 | h1
    · exact .inl ((hS _).2 (.inr (.inr ⟨z, h1, hk⟩)))
    · exact .inr (h1 k hk)
structure RoomR (N : Nat) (w : World) (d : Dk) : Prop where
  c : d.c < 4611686018427387904
  l : d.fs.length ≤ 1000000
  n : N ≤ w.heap.size

set_option maxHeartbeats 2000000 in
set_option maxRecDepth 100000 in
theorem rcreate_calls (N : Nat) (w : World) (p : Nat) (d : Dk) (S : Nat → Prop) (n : ByteArray) (h : IsR N w p d S) (hr : RoomR N w d) :
    Calls Tryz.prog 95 #[.pointer (some ⟨p, 0, none⟩), .string n] w fun e w' => e = .returned (.int .i64 ((createD d n).2 : Nat)) ∧ RStep N w S p (createD d n).1 w' := by
  obtain ⟨row, FA, KA, zs, h, hS⟩ := h
  have hg := rgate_calls N w p d row FA KA zs h hr.c
  have hfs := (gateR_fs d).1
  have hno := fun hk => gateD_no (d := d) (op := createF n) hk
  have hyes := fun hk => gateD_yes (d := d) (op := createF n) hk
  obtain ⟨G, hG⟩ : ∃ G, G = gateR d := ⟨_, rfl⟩
  rw [← hG] at hg hfs hno hyes
  obtain ⟨d1, ok, ge⟩ := G
  simp only at hg hfs hno hyes
  have H := Lib.hid h
  have HS := Lib.hid hS
  have HG := Lib.hid hg
  have HNO := Lib.hid hno
  have HYES := Lib.hid hyes
  have hrl := hr.l
  have hrn := hr.n
  clear h hS hg hno hyes hG hr
  go_enter Tryz.func95, Tryz.ntmps95
  go_wp2_with fail
  refine HG.out.mono ?_
  rintro e w1 ⟨rfl, h1, hm1⟩
  cases ok with
  | false =>
    go_wp2_with fail
    go_ret
    show _ ∧ RStep N w S p (gateD d (createF n)).1 _
    unfold createD
    rw [HNO.out trivial]
    exact ⟨rfl, H.out.step0 HS.out hm1 h1⟩
  | true =>
    have hy := HYES.out rfl
    by_cases hn : n = ⟨#[]⟩
    · have hc : createF n d1 = (d1, 1) := by unfold createF; rw [if_pos hn]
      rw [hc] at hy
      have HY := Lib.hid hy
      subst hn
      clear hc hy
      go_wp2_with fail
      refine (rtold2_calls N w1 p d1 row FA KA zs h1 1 _ rfl).mono ?_
      rintro e wz ⟨rfl, hwz⟩
      subst hwz
      go_wp2_with fail
      go_ret
      unfold createD
      rw [HY.out]
      exact ⟨rfl, H.out.step0 HS.out hm1 h1⟩
    · have b1 : (n.toList == []) = false := by
        have h2 := beq_toList n ⟨#[]⟩
        rw [decide_eq_false hn] at h2
        rw [← h2]
        simp [ba_toList]
      cases hh : hitF d1.fs n with
      | true =>
        have hc : createF n d1 = (d1, 4) := by unfold createF; rw [if_neg hn, if_pos hh]
        rw [hc] at hy
        have HY := Lib.hid hy
        have hp := plF_hit hh
        have e1 : (0 : Int) ≤ (lbF d1.fs n : Int) := by omega
        clear hc hy hn hh
        go_wp2_with fail
        refine (rat_calls N w1 p d1 row FA KA zs h1 n (by rw [hfs]; omega)).mono ?_
        rintro e wz ⟨rfl, hwz⟩
        subst hwz
        rw [hp]
        clear hp
        go_wp2_with fail
        refine (rtold2_calls N wz p d1 row FA KA zs h1 4 _ rfl).mono ?_
        rintro e wy ⟨rfl, hwy⟩
        subst hwy
        go_wp2_with fail
        go_ret
        unfold createD
        rw [HY.out]
        exact ⟨rfl, H.out.step0 HS.out hm1 h1⟩
      | false =>
        have hc : createF n d1 = ({ d1 with fs := putF d1.fs ⟨n, [], 0⟩ }, 0) := by unfold createF; rw [if_neg hn, if_neg (by simp [hh])]
        rw [hc] at hy
        have HY := Lib.hid hy
        have hp := plF_miss hh
        have HH := Lib.hid hh
        clear hc hy hn hh
        go_wp2_with fail
        refine (rat_calls N w1 p d1 row FA KA zs h1 n (by rw [hfs]; omega)).mono ?_
        rintro e wz ⟨rfl, hwz⟩
        subst hwz
        rw [hp]
        clear hp
        go_wp2_with fail
        refine (rdput_calls N wz p d1 row FA KA zs h1 ⟨n, [], 0⟩ (.slice none 0 0) (Nat.le_trans hrn hm1.size) ⟨Own.nil _ _ _, rfl, fun g h => by cases h⟩ (Nat.le_refl _) HH.out (by rw [hfs]; exact hrl)).mono ?_
        rintro e w2 ⟨rfl, row', h2, hm2, hn2⟩
        go_wp2_with fail
        refine (rtold2_calls N w2 p _ row' FA KA _ h2 0 _ rfl).mono ?_
        rintro e wy ⟨rfl, hwy⟩
        subst hwy
        go_wp2_with fail
        go_ret
        unfold createD
        rw [HY.out]
        refine ⟨rfl, H.out.step HS.out ((hm1.mono (fun _ _ h => .inl h)).trans hm2 (fun _ _ h => h)) h2 (hn2.back hm1.size) (fun z hz => ?_)⟩
        rcases mem_insZ hz with rfl | hz
        · exact .inr (fun g h => by cases h)
        · exact .inl hz

set_option maxHeartbeats 2000000 in
set_option maxRecDepth 100000 in
theorem rremove_calls (N : Nat) (w : World) (p : Nat) (d : Dk) (S : Nat → Prop) (n : ByteArray) (h : IsR N w p d S) (hr : RoomR N w d) :
    Calls Tryz.prog 102 #[.pointer (some ⟨p, 0, none⟩), .string n] w fun e w' => e = .returned (.int .i64 ((removeD d n).2 : Nat)) ∧ RStep N w S p (removeD d n).1 w' := by
  obtain ⟨row, FA, KA, zs, h, hS⟩ := h
  have hg := rgate_calls N w p d row FA KA zs h hr.c
  have hfs := (gateR_fs d).1
  have hno := fun hk => gateD_no (d := d) (op := fun d => hitAns d n removeF) hk
  have hyes := fun hk => gateD_yes (d := d) (op := fun d => hitAns d n removeF) hk
  obtain ⟨G, hG⟩ : ∃ G, G = gateR d := ⟨_, rfl⟩
  rw [← hG] at hg hfs hno hyes
  obtain ⟨d1, ok, ge⟩ := G
  simp only at hg hfs hno hyes
  have H := Lib.hid h
  have HS := Lib.hid hS
  have HG := Lib.hid hg
  have HNO := Lib.hid hno
  have HYES := Lib.hid hyes
  have hrl := hr.l
  have hrn := hr.n
  clear h hS hg hno hyes hG hr
  go_enter Tryz.func102, Tryz.ntmps102
  go_wp2_with fail
  refine HG.out.mono ?_
  rintro e w1 ⟨rfl, h1, hm1⟩
  cases ok with
  | false =>
    go_wp2_with fail
    go_ret
    unfold removeD withD
    rw [HNO.out trivial]
    exact ⟨rfl, H.out.step0 HS.out hm1 h1⟩
  | true =>
    have hy := HYES.out rfl
    cases hh : hitF d1.fs n with
    | false =>
      rw [hitAns_false _ hh] at hy
      have HY := Lib.hid hy
      have hp := plF_miss hh
      clear hy hh
      go_wp2_with fail
      refine (rat_calls N w1 p d1 row FA KA zs h1 n (by rw [hfs]; omega)).mono ?_
      rintro e wz ⟨rfl, hwz⟩
      subst hwz
      rw [hp]
      clear hp
      go_wp2_with fail
      refine (rtold2_calls N wz p d1 row FA KA zs h1 3 _ rfl).mono ?_
      rintro e wy ⟨rfl, hwy⟩
      subst hwy
      go_wp2_with fail
      go_ret
      unfold removeD withD
      rw [HY.out]
      exact ⟨rfl, H.out.step0 HS.out hm1 h1⟩
    | true =>
      rw [hitAns_true _ hh] at hy
      have HY := Lib.hid hy
      have hp := plF_hit hh
      obtain ⟨i, hi⟩ : ∃ i, i = lbF d1.fs n := ⟨_, rfl⟩
      rw [← hi] at hp
      rw [← hi] at HY
      have e1 : ¬ ((i : Int) < 0) := by omega
      clear hy hh hi
      go_wp2_with fail
      refine (rat_calls N w1 p d1 row FA KA zs h1 n (by rw [hfs]; omega)).mono ?_
      rintro e wz ⟨rfl, hwz⟩
      subst hwz
      rw [hp]
      clear hp
      go_wp2_with fail
      refine (rddrop_calls N wz p d1 row FA KA zs h1 i (Nat.le_trans hrn hm1.size) (by rw [hfs]; exact hrl)).mono ?_
      rintro e w2 ⟨rfl, row', h2, hm2, hn2⟩
      go_wp2_with fail
      refine (rtold2_calls N w2 p _ row' FA KA _ h2 0 _ rfl).mono ?_
      rintro e wy ⟨rfl, hwy⟩
      subst hwy
      go_wp2_with fail
      go_ret
      unfold removeD withD
      rw [HY.out]
      refine ⟨rfl, ?_⟩
      exact stepNew H.out HS.out (hm1.trans hm2 (fun _ _ h => h)) h2 (fun g hg => Nat.le_trans hm1.size (hn2 g hg)) (fun z hz => .inl ((List.eraseIdx_sublist _ _).subset hz))
end Go.Proofs.YtnlmfmceogbomaaGreatDoor
