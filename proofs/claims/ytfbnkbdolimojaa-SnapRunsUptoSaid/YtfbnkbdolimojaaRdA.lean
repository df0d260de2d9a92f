/- The reference's disk: how it lies; NewDisk, gate, told, at. -/
import Derived.Test.YtfbnkbdolimojaaDkFs
import Derived.Test.YtfbnkbdolimojaaDkOneL
import Derived.Test.YtfbnkbdolimojaaFlat
namespace Go.Proofs.Ytfbnkbdolimojaa
open Go.RowKit
set_option linter.unusedVariables false

/-- A slice that came in from outside: it lies in blocks older than N, and reads so. -/
def OldI (N : Nat) (w : World) (v : Value) (l : List Int) : Prop := ∃ A c, v = .slice A l.length c ∧ Rd w 1 A l.length (encI l) ∧ (0 < l.length → ∀ ad, A = some ad → ad.block < N)
theorem OldI.mod {N : Nat} {w w1 : World} {T : Nat → Prop} {v : Value} {l : List Int} (h : OldI N w v l) (hm : Mod T w w1) (ht : ∀ k, T k → N ≤ k) : OldI N w1 v l := by
  obtain ⟨A, c, h1, h2, h3⟩ := h
  exact ⟨A, c, h1, h2.modP hm (fun hp ad hA hT => by have := h3 hp ad hA; have := ht _ hT; omega), h3⟩
/-- A row of files: their names, where their bytes lie, how much of them is synced. -/
structure FilAt (N : Nat) (w : World) (row : Value) (zs : List (Fl × Value)) : Prop where
  own : Own w 139 3 row zs.length (encFs zs)
  new : ∀ g, row.ownBlock = some g → N ≤ g
  ent : ∀ z ∈ zs, Own w 5 1 z.2 z.1.b.length (encB z.1.b) ∧ z.2.oneCell' = true ∧ ∀ g, z.2.ownBlock = some g → N ≤ g
theorem FilAt.mod {w w1 : World} {T : Nat → Prop} {v : Value} {N : Nat} {zs : List (Fl × Value)} (h : FilAt N w v zs) (hm : Mod T w w1) (h1 : ∀ g, v.ownBlock = some g → ¬ T g) (h2 : ∀ z ∈ zs, ∀ g, z.2.ownBlock = some g → ¬ T g) : FilAt N w1 v zs :=
  ⟨h.own.mod hm h1, h.new, fun z hz => ⟨(h.ent z hz).1.mod hm (h2 z hz), (h.ent z hz).2⟩⟩
structure RdAt (N : Nat) (w : World) (p : Nat) (d : Dk) (row FA KA : Value) (zs : List (Fl × Value)) : Prop where
  blk : w.heap[p]? = some (.cells (dkCells d row FA KA) 38 (0, 0))
  fil : FilAt N w row zs
  fs : d.fs = zs.map (·.1)
  fail : OldI N w FA d.p.fail
  keep : OldI N w KA d.p.keep
  rises : Rises (asPs d.fs)
  sync : ∀ f ∈ d.fs, f.s ≤ f.b.length
  pos : N ≤ p
def FootR (p : Nat) (row : Value) (zs : List (Fl × Value)) (k : Nat) : Prop := k = p ∨ row.ownBlock = some k ∨ ∃ z ∈ zs, z.2.ownBlock = some k
/-- The reference's disk behind the pointer p, in just the blocks S. -/
def IsR (N : Nat) (w : World) (p : Nat) (d : Dk) (S : Nat → Prop) : Prop := ∃ row FA KA zs, RdAt N w p d row FA KA zs ∧ ∀ k, S k ↔ FootR p row zs k
namespace RdAt
variable {N : Nat} {w w1 : World} {p : Nat} {d : Dk} {row FA KA : Value} {zs : List (Fl × Value)}
theorem lt (h : RdAt N w p d row FA KA zs) {k : Nat} (hk : FootR p row zs k) : k < w.heap.size := by
  rcases hk with rfl | hk | ⟨u, hu, hk⟩
  · exact blk_lt h.blk
  · exact h.fil.own.lt hk
  · exact (h.fil.ent u hu).1.lt hk
theorem new (h : RdAt N w p d row FA KA zs) {k : Nat} (hk : FootR p row zs k) : N ≤ k := by
  rcases hk with rfl | hk | ⟨u, hu, hk⟩
  · exact h.pos
  · exact h.fil.new k hk
  · exact (h.fil.ent u hu).2.2 k hk
theorem mod {T : Nat → Prop} (h : RdAt N w p d row FA KA zs) (hm : Mod T w w1) (hs : ∀ k, FootR p row zs k → ¬ T k) (ht : ∀ k, T k → N ≤ k) : RdAt N w1 p d row FA KA zs :=
  ⟨hm.blk h.blk (hs p (.inl rfl)), h.fil.mod hm (fun g hg => hs g (.inr (.inl hg))) (fun u hu g hg => hs g (.inr (.inr ⟨u, hu, hg⟩))), h.fs, h.fail.mod hm ht, h.keep.mod hm ht, h.rises, h.sync, h.pos⟩
theorem rowNe (h : RdAt N w p d row FA KA zs) {g : Nat} (hg : row.ownBlock = some g) : g ≠ p := by
  obtain ⟨cur, hc⟩ := h.fil.own.tag hg
  exact tag_ne hc h.blk (by decide)
theorem bytNe (h : RdAt N w p d row FA KA zs) {z : Fl × Value} (hz : z ∈ zs) {g : Nat} (hg : z.2.ownBlock = some g) : g ≠ p := by
  obtain ⟨cur, hc⟩ := (h.fil.ent z hz).1.tag hg
  exact tag_ne hc h.blk (by decide)
theorem bytRow (h : RdAt N w p d row FA KA zs) {z : Fl × Value} (hz : z ∈ zs) {g : Nat} (hg : z.2.ownBlock = some g) : row.ownBlock ≠ some g := by
  intro hr
  obtain ⟨cur, hc⟩ := (h.fil.ent z hz).1.tag hg
  obtain ⟨cur2, hc2⟩ := h.fil.own.tag hr
  exact tag_ne hc hc2 (by decide) rfl
theorem len (h : RdAt N w p d row FA KA zs) : d.fs.length = zs.length := by rw [h.fs]; simp
theorem get (h : RdAt N w p d row FA KA zs) {i : Nat} (h1 : i < d.fs.length) (h2 : i < zs.length) : d.fs[i] = zs[i].1 := by simp [h.fs]
/-- The disk's own block turns: what it says now. -/
theorem turn (h : RdAt N w p d row FA KA zs) {d' : Dk} (hm : Mod (fun k => k = p) w w1) (hb : w1.heap[p]? = some (.cells (dkCells d' row FA KA) 38 (0, 0))) (hp : d'.p = d.p) (hf : d'.fs = d.fs) : RdAt N w1 p d' row FA KA zs where
  blk := hb
  fil := h.fil.mod hm (fun g hg => h.rowNe hg) (fun u hu g hg => h.bytNe hu hg)
  fs := hf.trans h.fs
  fail := by rw [hp]; exact h.fail.mod hm (fun k hk => by rw [hk]; exact h.pos)
  keep := by rw [hp]; exact h.keep.mod hm (fun k hk => by rw [hk]; exact h.pos)
  rises := by rw [hf]; exact h.rises
  sync := by rw [hf]; exact h.sync
  pos := h.pos
theorem cellAt (h : RdAt N w p d row FA KA zs) (j : Nat) : w.cell? ⟨p, j, none⟩ = (dkCells d row FA KA)[j]? := blk_cell h.blk j
end RdAt
theorem IsR.lt {N : Nat} {w : World} {p : Nat} {d : Dk} {S : Nat → Prop} (h : IsR N w p d S) {k : Nat} (hk : S k) : k < w.heap.size := by
  obtain ⟨row, FA, KA, vs, h1, h2⟩ := h
  exact h1.lt ((h2 k).1 hk)
theorem IsR.new {N : Nat} {w : World} {p : Nat} {d : Dk} {S : Nat → Prop} (h : IsR N w p d S) {k : Nat} (hk : S k) : N ≤ k := by
  obtain ⟨row, FA, KA, vs, h1, h2⟩ := h
  exact h1.new ((h2 k).1 hk)
theorem IsR.mod {N : Nat} {w w1 : World} {p : Nat} {d : Dk} {S T : Nat → Prop} (h : IsR N w p d S) (hm : Mod T w w1) (hs : ∀ k, S k → ¬ T k) (ht : ∀ k, T k → N ≤ k) : IsR N w1 p d S := by
  obtain ⟨row, FA, KA, vs, h1, h2⟩ := h
  exact ⟨row, FA, KA, vs, h1.mod hm (fun k hk => hs k ((h2 k).2 hk)) ht, h2⟩
theorem IsR.mod0 {N : Nat} {w w1 : World} {p : Nat} {d : Dk} {S : Nat → Prop} (h : IsR N w p d S) (hm : Mod NoneB w w1) : IsR N w1 p d S := h.mod hm (fun _ _ h => h) (fun _ h => h.elim)
structure RTo (N : Nat) (w : World) (S : Nat → Prop) (p : Nat) (d' : Dk) (w' : World) (S' : Nat → Prop) : Prop where
  isR : IsR N w' p d' S'
  mod : Mod S w w'
  new : ∀ k, S' k → S k ∨ w.heap.size ≤ k
def RStep (N : Nat) (w : World) (S : Nat → Prop) (p : Nat) (d' : Dk) (w' : World) : Prop := ∃ S', RTo N w S p d' w' S'
theorem RTo.trans {N : Nat} {w w1 w2 : World} {S S1 S2 : Nat → Prop} {p : Nat} {d1 d2 : Dk} (h : RTo N w S p d1 w1 S1) (k : RTo N w1 S1 p d2 w2 S2) : RTo N w S p d2 w2 S2 :=
  ⟨k.isR, h.mod.trans k.mod (fun i hi hk => (h.new i hk).elim id (fun h2 => absurd hi (Nat.not_lt.2 h2))), fun i hi => (k.new i hi).elim (h.new i) (fun h2 => .inr (Nat.le_trans h.mod.size h2))⟩
theorem RTo.self {N : Nat} {w : World} {S : Nat → Prop} {p : Nat} {d : Dk} (h : IsR N w p d S) : RTo N w S p d w S := ⟨h, Mod.refl _ _, fun _ h => .inl h⟩

set_option maxHeartbeats 1000000 in
set_option maxRecDepth 100000 in
theorem rnew_calls (N : Nat) (w : World) (pl : Pl) (F K : Option Addr) (fc kc : Nat) (hF : Rd w 1 F pl.fail.length (encI pl.fail)) (hK : Rd w 1 K pl.keep.length (encI pl.keep)) (hoF : 0 < pl.fail.length → ∀ ad, F = some ad → ad.block < N) (hoK : 0 < pl.keep.length → ∀ ad, K = some ad → ad.block < N) (hN : N ≤ w.heap.size) :
    Calls Try.prog 14 #[.agg #[.int .i64 pl.cap, .slice F pl.fail.length fc, .int .i64 pl.crash, .bool pl.done, .slice K pl.keep.length kc]] w fun e w' => ∃ p S, e = .returned (.pointer (some ⟨p, 0, none⟩)) ∧ IsR N w' p ⟨pl, [], 0, false⟩ S ∧ Mod NoneB w w' ∧ ∀ k, S k → w.heap.size ≤ k := by
  go_enter Try.func14, Try.ntmps14
  go_wp2_with fail
  go_ret
  obtain ⟨b0, b1⟩ := box2 w (.cells #[.int .i64 pl.cap, .slice F pl.fail.length fc, .int .i64 pl.crash, .bool pl.done, .slice K pl.keep.length kc] 24) (.cells #[.int .i64 pl.cap, .slice F pl.fail.length fc, .int .i64 pl.crash, .bool pl.done, .slice K pl.keep.length kc, .slice none 0 0, .int .i64 0, .bool false] 38)
  have hm : Mod NoneB w ((w.alloc (.cells #[.int .i64 pl.cap, .slice F pl.fail.length fc, .int .i64 pl.crash, .bool pl.done, .slice K pl.keep.length kc] 24)).alloc (.cells #[.int .i64 pl.cap, .slice F pl.fail.length fc, .int .i64 pl.crash, .bool pl.done, .slice K pl.keep.length kc, .slice none 0 0, .int .i64 0, .bool false] 38)) := ((Mod.refl NoneB w).alloc _).alloc _
  refine ⟨w.heap.size + 1, FootR (w.heap.size + 1) (.slice none 0 0) [], by simp, ⟨.slice none 0 0, .slice F pl.fail.length fc, .slice K pl.keep.length kc, [], ⟨b1, ⟨Own.nil _ _ _, (fun g h => by cases h), (fun z h => by cases h)⟩, rfl, ⟨F, fc, rfl, hF.mod0 hm, hoF⟩, ⟨K, kc, rfl, hK.mod0 hm, hoK⟩, rises_nil, fun f hf => (by cases hf), by omega⟩, fun _ => Iff.rfl⟩, hm, fun k hk => ?_⟩
  rcases hk with rfl | hk | ⟨u, hu, _⟩
  · omega
  · cases hk
  · cases hu

set_option maxHeartbeats 1000000 in
set_option maxRecDepth 100000 in
theorem rtold_calls (N : Nat) (w : World) (p : Nat) (d : Dk) (row FA KA : Value) (zs : List (Fl × Value)) (h : RdAt N w p d row FA KA zs) (z : Int) :
    Calls Try.prog 100 #[.pointer (some ⟨p, 0, none⟩), .int .i64 z] w fun e w' => e = .returned (.int .i64 (if d.dn then 7 else z)) ∧ w' = w := by
  have y7 : w.cell? ⟨p, 7, none⟩ = some (.bool d.dn) := h.cellAt 7
  clear h
  cases hdn : d.dn with
  | true =>
    rw [hdn] at y7
    go_enter Try.func100, Try.ntmps100
    go_wp2_with fail
    go_ret
    exact ⟨rfl, rfl⟩
  | false =>
    rw [hdn] at y7
    go_enter Try.func100, Try.ntmps100
    go_wp2_with fail
    go_ret
    exact ⟨rfl, rfl⟩

/-- A file's place; below 0: there is none. -/
def plF (fs : List Fl) (n : ByteArray) : Int := if hitF fs n then lbF fs n else -1
theorem hit_iff {fs : List Fl} (hr : Rises (asPs fs)) (n : ByteArray) : hitF fs n = true ↔ ∃ f ∈ fs, f.n = n := by
  constructor
  · intro h
    have hl := hitF_lt h
    refine ⟨fs[lbF fs n], List.getElem_mem _, ?_⟩
    unfold hitF hitB at h
    split at h
    · have h2 := cmpS_zero (of_decide_eq_true h)
      simp only [asPs, List.getElem_map] at h2
      exact h2
    · cases h
  · rintro ⟨f, hf, rfl⟩
    obtain ⟨i, hi, rfl⟩ := List.getElem_of_mem hf
    exact (hitF_at hr hi).1

set_option maxHeartbeats 2000000 in
set_option maxRecDepth 100000 in
theorem rat_calls (N : Nat) (w : World) (p : Nat) (d : Dk) (row FA KA : Value) (zs : List (Fl × Value)) (h : RdAt N w p d row FA KA zs) (n : ByteArray) (hl : d.fs.length ≤ 1099511627776) :
    Calls Try.prog 101 #[.pointer (some ⟨p, 0, none⟩), .string n] w fun e w' => e = .returned (.int .i64 (plF d.fs n)) ∧ w' = w := by
  have y5 : w.cell? ⟨p, 5, none⟩ = some row := h.cellAt 5
  obtain ⟨A, c, rfl, hr⟩ := h.fil.own.nilD0
  have hzl : zs.length = d.fs.length := h.len.symm
  have hgt : ∀ i, ∀ h1 : i < d.fs.length, ∀ h2 : i < zs.length, zs[i].1 = d.fs[i] := fun i h1 h2 => (h.get h1 h2).symm
  have HZL := Lib.hid hzl
  have HGT := Lib.hid hgt
  have HRI := Lib.hid h.rises
  rw [hzl] at hr y5
  clear h hzl hgt
  go_enter Try.func101, Try.ntmps101
  go_wp2_with fail
  go_loopw [5] (fun i wr => wr = w ∧ ∃ j : Nat, i = .int .i64 j ∧ j ≤ d.fs.length ∧ ∀ f ∈ d.fs.take j, f.n ≠ n) (fun i _ => d.fs.length - (intOf i).toNat)
  case atStart => exact ⟨rfl, 0, rfl, by omega, fun f hf => by simp at hf⟩
  case round =>
    obtain ⟨rfl, j, rfl, hj, hno⟩ := hrel
    have HNO := Lib.hid hno
    clear hno
    by_cases hlt : j < d.fs.length
    · have hz1 : j < zs.length := by rw [HZL.out]; exact hlt
      obtain ⟨ad, rfl, h0, hk⟩ := Rd.elem (f := encFl) (fun _ => rfl) hr (by decide) j hz1
      have c0 := h0 _ rfl
      have hn1 := HGT.out j hlt hz1
      rw [hn1] at c0
      have hit := hitF_at HRI.out hlt
      obtain ⟨f, hf⟩ : ∃ f, f = d.fs[j] := ⟨_, rfl⟩
      have htk : d.fs.take (j + 1) = d.fs.take j ++ [f] := by rw [hf]; exact List.take_succ_eq_append_getElem hlt
      rw [← hf] at c0 hit
      have HTK := Lib.hid htk
      clear h0 hk hn1 hf htk hz1
      by_cases he : f.n = n
      · have b1 : (f.n.toList == n.toList) = true := by rw [beq_toList]; exact decide_eq_true he
        have hp : plF d.fs n = j := by
          rw [he] at hit
          unfold plF
          rw [if_pos hit.1, hit.2]
        have HP := Lib.hid hp
        clear he hp hit
        go_wp2_with fail
        go_ret
        exact ⟨by rw [HP.out]; rfl, rfl⟩
      · have b1 : (f.n.toList == n.toList) = false := by rw [beq_toList]; exact decide_eq_false he
        have HE := Lib.hid he
        clear he hit
        go_wp2_with fail
        go_roundw
        case rel =>
          refine ⟨trivial, j + 1, by go_num, by omega, fun x hx => ?_⟩
          rw [HTK.out] at hx
          rcases List.mem_append.1 hx with hx | hx
          · exact HNO.out x hx
          · rw [List.mem_singleton] at hx; rw [hx]; exact HE.out
        case measure => simp [intOf]; omega
    · have hp : plF d.fs n = -1 := by
        have hno := HNO.out
        rw [List.take_of_length_le (by omega)] at hno
        unfold plF
        rw [if_neg]
        intro hh
        obtain ⟨f, hf, hfn⟩ := (hit_iff HRI.out n).1 hh
        exact hno f hf hfn
      have HP := Lib.hid hp
      clear hp
      go_wp2_with fail
      go_ret
      exact ⟨by rw [HP.out]; rfl, rfl⟩
end Go.Proofs.Ytfbnkbdolimojaa

/- The reference's Files: two rows of the same files are one. -/
namespace Go.Proofs.Ytfbnkbdolimojaa
open Go.RowKit
set_option linter.unusedVariables false

/-- The bytes of a row of files lie where the row says. -/
def ZsAt (w : World) (zs : List (Fl × Value)) : Prop := ∀ z ∈ zs, ∃ B c, z.2 = .slice B z.1.b.length c ∧ Rd w 1 B z.1.b.length (encB z.1.b)
theorem ZsAt.mod0 {w w1 : World} {zs : List (Fl × Value)} (h : ZsAt w zs) (hm : Mod NoneB w w1) : ZsAt w1 zs := fun z hz => by
  obtain ⟨B, c, h1, h2⟩ := h z hz
  exact ⟨B, c, h1, h2.mod0 hm⟩
theorem FilAt.zs {N : Nat} {w : World} {v : Value} {zs : List (Fl × Value)} (h : FilAt N w v zs) : ∃ A c, v = .slice A zs.length c ∧ Rd w 3 A zs.length (encFs zs) ∧ ZsAt w zs := by
  obtain ⟨A, c, h1, h2⟩ := h.own.nilD0
  refine ⟨A, c, h1, h2, fun z hz => ?_⟩
  obtain ⟨B, bc, h3, h4⟩ := (h.ent z hz).1.nilD0
  exact ⟨B, bc, h3, h4⟩
theorem FilesAt.zs {w : World} {v : Value} {N : Nat} {fs : List Fl} {vs : List Value} (h : FilesAt w v N fs vs) : ∃ zs A c, zs.map (·.1) = fs ∧ v = .slice A zs.length c ∧ Rd w 3 A zs.length (encFs zs) ∧ ZsAt w zs := by
  obtain ⟨A, c, h1, h2⟩ := h.own.nilD0
  have hl : (fs.zip vs).length = fs.length := by rw [List.length_zip, h.len]; simp
  refine ⟨fs.zip vs, A, c, ?_, by rw [hl]; exact h1, by rw [hl]; exact h2, fun z hz => ?_⟩
  · exact List.map_fst_zip (by rw [h.len]; exact Nat.le_refl _)
  · obtain ⟨i, hi, rfl⟩ := List.getElem_of_mem hz
    have h3 : i < fs.length := by rw [← hl]; exact hi
    have h4 : i < vs.length := by rw [h.len]; exact h3
    obtain ⟨B, bc, h5, h6⟩ := (h.byt i h3 h4).nilD0
    rw [List.getElem_zip]
    exact ⟨B, bc, h5, h6⟩

set_option maxHeartbeats 4000000 in
set_option maxRecDepth 100000 in
theorem rfiles_calls (za zb : List (Fl × Value)) (A B : Option Addr) (n ca cb : Nat) (w : World) (hna : za.length = n) (hnb : zb.length = n) (ha : Rd w 3 A n (encFs za)) (hb : Rd w 3 B n (encFs zb)) (va : ZsAt w za) (vb : ZsAt w zb) (he : za.map (·.1) = zb.map (·.1)) :
    Calls Try.prog 64 #[.slice A n ca, .slice B n cb] w fun e w' => e = .returned (.bool true) ∧ Mod NoneB w w' := by
  have hn := ha.2.1
  have HNA := Lib.hid hna
  have HNB := Lib.hid hnb
  have HE := Lib.hid he
  clear hna hnb he
  go_enter Try.func64, Try.ntmps64
  go_wp2_with fail
  go_loopw [5] (fun i wr => ∃ j : Nat, i = .int .i64 j ∧ j ≤ n ∧ Mod NoneB w wr) (fun i _ => n - (intOf i).toNat)
  case atStart => exact ⟨0, rfl, by omega, Mod.refl _ _⟩
  case round =>
    obtain ⟨j, rfl, hj, hm⟩ := hrel
    by_cases hlt : j < n
    · have ja : j < za.length := by rw [HNA.out]; exact hlt
      have jb : j < zb.length := by rw [HNB.out]; exact hlt
      have heq : za[j].1 = zb[j].1 := by
        have h1 : (za.map (·.1))[j]? = (zb.map (·.1))[j]? := by rw [HE.out]
        rw [List.getElem?_map, List.getElem?_map, List.getElem?_eq_getElem ja, List.getElem?_eq_getElem jb] at h1
        exact Option.some.inj h1
      obtain ⟨ada, rfl, a0, ka⟩ := Rd.elem (f := encFl) (fun _ => rfl) (ha.mod0 hm) (by decide) j ja
      obtain ⟨adb, rfl, b0, kb⟩ := Rd.elem (f := encFl) (fun _ => rfl) (hb.mod0 hm) (by decide) j jb
      obtain ⟨VA, vca, hva, hra⟩ := va za[j] (List.getElem_mem _)
      obtain ⟨VB, vcb, hvb, hrb⟩ := vb zb[j] (List.getElem_mem _)
      have c0 := a0 _ rfl
      have c1 := ka 1 _ (by decide) (by decide) rfl
      have c2 := ka 2 _ (by decide) (by decide) rfl
      have d0 := b0 _ rfl
      have d1 := kb 1 _ (by decide) (by decide) rfl
      have d2 := kb 2 _ (by decide) (by decide) rfl
      rw [hva] at c1
      rw [hvb] at d1
      rw [heq] at c0 c1 c2 hra
      obtain ⟨f, hf⟩ : ∃ f, f = zb[j].1 := ⟨_, rfl⟩
      rw [← hf] at c0 c1 c2 hra d0 d1 d2 hrb
      have hx1 : ∀ k, (convert 33 9 (.slice VA f.b.length vca)).run Try.prog (wr.drewN k) = .ok (.string (strOf f.b)) (wr.drewN k) := fun k => conv_str ((hra.mod0 hm).mod0 ((Mod.refl NoneB wr).drewN k))
      have hx2 : ∀ k, (convert 33 9 (.slice VB f.b.length vcb)).run Try.prog (wr.drewN k) = .ok (.string (strOf f.b)) (wr.drewN k) := fun k => conv_str ((hrb.mod0 hm).mod0 ((Mod.refl NoneB wr).drewN k))
      have g0 : (0 : Int) ≤ (j : Int) := by omega
      have g1 : (j : Int) < (n : Int) := by omega
      clear a0 ka b0 kb hva hvb heq hf hra hrb ja jb
      go_wp2_with fail
      go_quiet (fail)
      have hmq : Mod NoneB w (wr.drewN nq) := hm.drewN nq
      clear hx1 hx2
      go_wp2_with fail
      go_roundw
      case rel => exact ⟨j + 1, by go_num, by omega, hmq⟩
      case measure => simp [intOf]; omega
    · go_wp2_with fail
      go_ret
      exact ⟨rfl, hm⟩
end Go.Proofs.Ytfbnkbdolimojaa

/- The reference's disk: gate. -/
namespace Go.Proofs.Ytfbnkbdolimojaa
open Go.RowKit
set_option linter.unusedVariables false

/-- Is a call done, and what is told if not; the disk behind that. -/
def gateR (d : Dk) : Dk × Bool × Nat :=
  if d.dn then (d, false, 7)
  else if ((d.c + 1 : Nat) : Int) = d.p.crash then ({ d with c := d.c + 1, dn := true }, d.p.done, 7)
  else if ((d.c + 1 : Nat) : Int) ∈ d.p.fail then ({ d with c := d.c + 1 }, false, 6)
  else ({ d with c := d.c + 1 }, true, 0)
theorem gateR_fs (d : Dk) : (gateR d).1.fs = d.fs ∧ (gateR d).1.p = d.p := by
  unfold gateR
  split
  · exact ⟨rfl, rfl⟩
  · split
    · exact ⟨rfl, rfl⟩
    · split <;> exact ⟨rfl, rfl⟩
theorem gateD_R (d : Dk) (op : Dk → Ans) : gateD d op = if (gateR d).2.1 then ((op (gateR d).1).1, if (gateR d).1.dn then 7 else (op (gateR d).1).2) else ((gateR d).1, (gateR d).2.2) := by
  unfold gateD gateR
  by_cases h1 : d.dn
  · simp [h1]
  · rw [if_neg h1]
    by_cases h2 : ((d.c + 1 : Nat) : Int) = d.p.crash
    · simp only [if_pos h2, if_neg h1]
      cases hd : d.p.done <;> simp
    · simp only [if_neg h2, if_neg h1]
      by_cases h3 : ((d.c + 1 : Nat) : Int) ∈ d.p.fail
      · simp only [if_pos h3]
        simp
      · simp only [if_neg h3]
        simp [h1]

set_option maxHeartbeats 4000000 in
set_option maxRecDepth 100000 in
theorem rgate_calls (N : Nat) (w : World) (p : Nat) (d : Dk) (row FA KA : Value) (zs : List (Fl × Value)) (h : RdAt N w p d row FA KA zs) (hc : d.c < 4611686018427387904) :
    Calls Try.prog 99 #[.pointer (some ⟨p, 0, none⟩)] w fun e w' => e = .returned (.tuple #[.bool (gateR d).2.1, .int .i64 ((gateR d).2.2 : Nat)]) ∧ RdAt N w' p (gateR d).1 row FA KA zs ∧ Mod (fun k => k = p) w w' := by
  obtain ⟨pl, fs, cc, dn⟩ := d
  have y7 : w.cell? ⟨p, 7, none⟩ = some (.bool dn) := h.cellAt 7
  have y6 : w.cell? ⟨p, 6, none⟩ = some (.int .i64 cc) := h.cellAt 6
  simp only at hc
  cases dn with
  | true =>
    have hg : gateR ⟨pl, fs, cc, true⟩ = (⟨pl, fs, cc, true⟩, false, 7) := by unfold gateR; rw [if_pos rfl]
    have HG := Lib.hid hg
    have H := Lib.hid h
    clear hg h y6
    go_enter Try.func99, Try.ntmps99
    go_wp2_with fail
    go_ret2
    rw [HG.out]
    exact ⟨rfl, H.out, Mod.refl _ _⟩
  | false =>
    have fr6 : w.frozen? ⟨p, 6, none⟩ = false := blk_frozen h.blk 6
    have e1 : IntKind.i64.wrap ((cc : Int) + 1) = cc + 1 := IntWalk.i64_in _ (by omega)
    obtain ⟨w1, hw1⟩ : ∃ w1, w1 = w.setCell ⟨p, 6, none⟩ (.int .i64 (↑cc + 1)) := ⟨_, rfl⟩
    have hm1 : Mod (fun k => k = p) w w1 := by rw [hw1]; exact Mod.setCell (S := fun k => k = p) (Mod.refl _ _) (p := ⟨p, 6, none⟩) (fun _ => rfl) _
    have h1 : RdAt N w1 p ⟨pl, fs, cc + 1, false⟩ row FA KA zs := h.turn hm1 (by rw [hw1]; exact (setCell_blk h.blk).trans rfl) rfl rfl
    have HW1 := Lib.hid hw1
    have z6 : w1.cell? ⟨p, 6, none⟩ = some (.int .i64 (↑cc + 1)) := h1.cellAt 6
    have z2 : w1.cell? ⟨p, 2, none⟩ = some (.int .i64 pl.crash) := h1.cellAt 2
    have z3 : w1.cell? ⟨p, 3, none⟩ = some (.bool pl.done) := h1.cellAt 3
    have z1 : w1.cell? ⟨p, 1, none⟩ = some FA := h1.cellAt 1
    have fr7 : w1.frozen? ⟨p, 7, none⟩ = false := blk_frozen h1.blk 7
    have z7 : w1.cell? ⟨p, 7, none⟩ = some (.bool false) := h1.cellAt 7
    have H1 := Lib.hid h1
    clear hw1 h h1
    go_enter Try.func99, Try.ntmps99
    go_wp2_with fail
    rw [← HW1.out]
    clear y6 y7 fr6
    by_cases hcr : ((cc : Int) + 1) = pl.crash
    · have b1 : (((cc : Int) + 1) == pl.crash) = true := by simpa using hcr
      have hg : gateR ⟨pl, fs, cc, false⟩ = (⟨pl, fs, cc + 1, true⟩, pl.done, 7) := by
        unfold gateR
        rw [if_neg (by simp), if_pos (show ((cc + 1 : Nat) : Int) = pl.crash from hcr)]
      have HG := Lib.hid hg
      clear hcr hg
      go_quiet (fail)
      have hmq : Mod NoneB w1 (w1.drewN nq) := (Mod.refl NoneB w1).drewN nq
      have h3 : RdAt N ((w1.drewN nq).setCell ⟨p, 7, none⟩ (.bool true)) p ⟨pl, fs, cc + 1, true⟩ row FA KA zs :=
        (H1.out.mod hmq (fun _ _ h => h) (fun _ h => h.elim)).turn (Mod.setCell (S := fun k => k = p) (Mod.refl _ _) (p := ⟨p, 7, none⟩) (fun _ => rfl) _) ((setCell_blk (H1.out.mod hmq (fun _ _ h => h) (fun _ h => h.elim)).blk).trans rfl) rfl rfl
      have hm3 : Mod (fun k => k = p) w ((w1.drewN nq).setCell ⟨p, 7, none⟩ (.bool true)) := (hm1.then0 hmq).setCell (p := ⟨p, 7, none⟩) (fun _ => rfl) _
      have u3 : ((w1.drewN nq).setCell ⟨p, 7, none⟩ (.bool true)).cell? ⟨p, 3, none⟩ = some (.bool pl.done) := h3.cellAt 3
      have H3 := Lib.hid h3
      clear h3
      go_wp2_with fail
      go_ret2
      rw [HG.out]
      exact ⟨rfl, H3.out, hm3⟩
    · have b1 : (((cc : Int) + 1) == pl.crash) = false := by simpa using hcr
      have hg1 : gateR ⟨pl, fs, cc, false⟩ = if ((cc + 1 : Nat) : Int) ∈ pl.fail then (⟨pl, fs, cc + 1, false⟩, false, 6) else (⟨pl, fs, cc + 1, false⟩, true, 0) := by
        unfold gateR
        rw [if_neg (by simp), if_neg (show ¬ ((cc + 1 : Nat) : Int) = pl.crash from hcr)]
      have HG := Lib.hid hg1
      clear hcr hg1
      go_quiet (fail)
      have hmq : Mod NoneB w1 (w1.drewN nq) := (Mod.refl NoneB w1).drewN nq
      have h3 := H1.out.mod hmq (fun _ _ h => h) (fun _ h => h.elim)
      have hm3 := hm1.then0 hmq
      generalize w1.drewN nq = w3 at h3 hm3 ⊢
      obtain ⟨A, c, rfl, hr, _⟩ := h3.fail
      have hn := hr.2.1
      have z1 : ∀ wr, Mod NoneB w3 wr → wr.cell? ⟨p, 1, none⟩ = some (.slice A pl.fail.length c) := fun wr hm => (h3.mod hm (fun _ _ h => h) (fun _ h => h.elim)).cellAt 1
      have z6 : ∀ wr, Mod NoneB w3 wr → wr.cell? ⟨p, 6, none⟩ = some (.int .i64 (↑cc + 1)) := fun wr hm => (h3.mod hm (fun _ _ h => h) (fun _ h => h.elim)).cellAt 6
      have H3 := Lib.hid h3
      have Z1 := Lib.hid z1
      have Z6 := Lib.hid z6
      clear h3 z1 z6 z2 z3 z7 fr7 hmq b1
      go_wp2_with fail
      go_loopw [4] (fun i wr => ∃ j : Nat, i = .int .i64 j ∧ j ≤ pl.fail.length ∧ (∀ x ∈ pl.fail.take j, x ≠ (cc : Int) + 1) ∧ Mod NoneB w3 wr) (fun i _ => pl.fail.length - (intOf i).toNat)
      case atStart => exact ⟨0, rfl, by omega, fun x hx => by simp at hx, Mod.refl _ _⟩
      case round =>
        obtain ⟨j, rfl, hj, hno, hm⟩ := hrel
        have HNO := Lib.hid hno
        have z1 := Z1.out wr hm
        have z6 := Z6.out wr hm
        clear hno
        by_cases hlt : j < pl.fail.length
        · obtain ⟨ad, rfl, h0⟩ := (hr.mod0 hm).ints j hlt
          have htk : pl.fail.take (j + 1) = pl.fail.take j ++ [pl.fail[j]] := List.take_succ_eq_append_getElem hlt
          have hmem : pl.fail[j] ∈ pl.fail := List.getElem_mem _
          obtain ⟨y, hy⟩ : ∃ y, y = pl.fail[j] := ⟨_, rfl⟩
          rw [← hy] at h0 htk hmem
          have HTK := Lib.hid htk
          have g0 : (0 : Int) ≤ (j : Int) := by omega
          have g1 : (j : Int) < (pl.fail.length : Int) := by omega
          clear hy htk
          by_cases he : y = (cc : Int) + 1
          · have b2 : (y == (cc : Int) + 1) = true := by simpa using he
            have hin : ((cc + 1 : Nat) : Int) ∈ pl.fail := by rw [show ((cc + 1 : Nat) : Int) = y from by omega]; exact hmem
            have HIN := Lib.hid hin
            clear he hmem hin
            go_wp2_with fail
            go_quiet (fail)
            go_wp2_with fail
            go_ret2
            rw [HG.out, if_pos HIN.out]
            exact ⟨rfl, H3.out.mod (hm.drewN nq) (fun _ _ h => h) (fun _ h => h.elim), hm3.then0 (hm.drewN nq)⟩
          · have b2 : (y == (cc : Int) + 1) = false := by simpa using he
            have HE := Lib.hid he
            clear he hmem
            go_wp2_with fail
            go_quiet (fail)
            go_wp2_with fail
            go_roundw
            case rel =>
              refine ⟨j + 1, by go_num, by omega, fun x hx => ?_, hm.drewN nq⟩
              rw [HTK.out] at hx
              rcases List.mem_append.1 hx with hx | hx
              · exact HNO.out x hx
              · rw [List.mem_singleton] at hx; rw [hx]; exact HE.out
            case measure => simp [intOf]; omega
        · have hin : ¬ ((cc + 1 : Nat) : Int) ∈ pl.fail := by
            have hno := HNO.out
            rw [List.take_of_length_le (by omega)] at hno
            intro hi
            exact hno _ hi (by omega)
          have HIN := Lib.hid hin
          clear hin
          go_wp2_with fail
          go_ret2
          rw [HG.out, if_neg HIN.out]
          exact ⟨rfl, H3.out.mod hm (fun _ _ h => h) (fun _ h => h.elim), hm3.then0 hm⟩
end Go.Proofs.Ytfbnkbdolimojaa
