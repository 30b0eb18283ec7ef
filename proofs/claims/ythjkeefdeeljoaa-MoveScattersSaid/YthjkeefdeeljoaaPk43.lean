/- Contracts and lemmas that the row of this claim stands on: Gather1, Gather, BClone. -/
import Derived.Test.YthjkeefdeeljoaaPk37
import Derived.Test.YthjkeefdeeljoaaPk40
import Derived.Test.YthjkeefdeeljoaaPk42
import Derived.Deep.DeepCutAuto
import Derived.Test.YthjkeefdeeljoaaPk41
/- Rows between two blocks; move.Gather's closure. -/
namespace Go.Proofs.Ythjkeefdeeljoaa.Shp
open Go.RowKit Go.Shelf Go.Proofs.Ythjkeefdeeljoaa.Num Go.Proofs.Ythjkeefdeeljoaa.Cl
set_option linter.unusedVariables false
set_option linter.unusedSimpArgs false

/-- A row whose blocks lie from lo to below hi. -/
def BufR (lo hi : Nat) (w : World) (T : Nat) (l : List Cell) : Prop := ∃ g c vs M mg mc mcs W, BufW w T g c vs M mg mc mcs W l ∧ (lo ≤ T ∧ lo ≤ g ∧ lo ≤ M ∧ lo ≤ mg) ∧ (T < hi ∧ g < hi ∧ M < hi ∧ mg < hi)
theorem buf_toR {lo hi : Nat} {w : World} {T : Nat} {l : List Cell} (h : Buf lo w T l) (hh : w.heap.size ≤ hi) : BufR lo hi w T l := by
  obtain ⟨g, c, vs, M, mg, mc, mcs, W, h, h1, h2, h3, h4⟩ := h
  have := h.box.lt
  have := h.row.lt
  have := h.mask.hT.lt
  have := h.mask.hg.lt
  exact ⟨g, c, vs, M, mg, mc, mcs, W, h, ⟨h1, h2, h3, h4⟩, by omega, by omega, by omega, by omega⟩
theorem BufR.buf {lo hi : Nat} {w : World} {T : Nat} {l : List Cell} (h : BufR lo hi w T l) : Buf lo w T l := by
  obtain ⟨g, c, vs, M, mg, mc, mcs, W, h, h1, _⟩ := h
  exact ⟨g, c, vs, M, mg, mc, mcs, W, h, h1.1, h1.2.1, h1.2.2.1, h1.2.2.2⟩
theorem BufR.low {lo hi : Nat} {w w' : World} {T : Nat} {l : List Cell} (h : BufR lo hi w T l) (hs : ∀ b, b < hi → w'.heap[b]? = w.heap[b]?) : BufR lo hi w' T l := by
  obtain ⟨g, c, vs, M, mg, mc, mcs, W, h, h1, h2, h3, h4, h5⟩ := h
  exact ⟨g, c, vs, M, mg, mc, mcs, W, ⟨(hs T h2).trans h.box, (hs g h3).trans h.row, h.cell, ⟨h.mask.rep, (hs M h4).trans h.mask.hT, (hs mg h5).trans h.mask.hg, h.mask.hc, h.mask.small⟩, h.norm, h.small, h.cap⟩, h1, h2, h3, h4, h5⟩
/-- Blocks of other types than a row's numbers and words stay. -/
def KeepsB (W W' : World) : Prop := ∀ g t cs, Blk W g t cs → t ≠ 2 → t ≠ 151 → Blk W' g t cs
theorem KeepsB.trans {X Y Z : World} (h : KeepsB X Y) (k : KeepsB Y Z) : KeepsB X Z := fun g t cs hb h1 h2 => k g t cs (h g t cs hb h1 h2) h1 h2
theorem KeepsB.below {X Y : World} (h : Below X.heap.size X Y) : KeepsB X Y := fun g t cs hb _ _ => hb.below' h
theorem bufR_put {lo hi : Nat} {w : World} {T : Nat} {l : List Cell} (h : BufR lo hi w T l) (hlo : lo ≤ w.heap.size) (j : Nat) (hj : j < l.length) (x : Cell) :
    Calls Try.prog 81 #[.pointer (some ⟨T, 0, none⟩), .int .i64 (j : Nat), .agg #[.int .i64 x.1, .bool x.2]] w fun e w' => e = .returned (.bool true) ∧ BufR lo hi w' T (l.set j (normC x)) ∧ Hi hi w w' ∧ Below lo w w' ∧ KeepsB w w' := by
  obtain ⟨g, c, vs, M, mg, mc, mcs, W, h, h1, h2⟩ := h
  refine (put_yes T g c vs M mg mc mcs W l j x w h hj).mono ?_
  rintro e w' ⟨rfl, ⟨vs', mcs', W', hb⟩, hO⟩
  exact ⟨rfl, ⟨g, c, vs', M, mg, mc, mcs', W', hb, h1, h2⟩, ⟨hO.os, hO.tape, hO.output, hO.size, fun k hk hl => hO.other k hl (by omega) (by omega)⟩, hO.below hlo h1.2.1 h1.2.2.2, fun q t cs hq h3 h4 => hO.blk hq (Blk.ne_ hq h.row h3) (Blk.ne_ hq h.mask.hg h4)⟩
theorem Hi.trans {B : Nat} {X Y Z : World} (h : Hi B X Y) (k : Hi B Y Z) : Hi B X Z := ⟨k.os.trans h.os, k.tape.trans h.tape, k.output.trans h.output, Nat.le_trans h.size k.size, fun j hj hl => (k.high j hj (Nat.lt_of_lt_of_le hl h.size)).trans (h.high j hj hl)⟩
theorem Hi.of_below {B : Nat} {X Y : World} (h : Below X.heap.size X Y) : Hi B X Y := ⟨h.os, h.tape, h.output, h.size, fun k _ hl => h.block k hl⟩
theorem Hi.alloc {B : Nat} {X Y : World} (h : Hi B X Y) (o : Obj) : Hi B X (Y.alloc o) := h.trans (Hi.of_below (bl_alloc (Below.refl _ _) o))
set_option maxHeartbeats 1000000 in
theorem gat1_calls {bl lo hi : Nat} (T U H1 H2 : Nat) (l l2 : List Cell) (k p : Nat) (W : World) (hT : Buf bl W T l) (hU : BufR lo hi W U l2) (h1 : Blk W H1 57 #[.pointer (some ⟨T, 0, none⟩)]) (h2 : Blk W H2 57 #[.pointer (some ⟨U, 0, none⟩)]) (hp : p < l.length) (hk : k < l2.length) (hlo : lo ≤ W.heap.size) (hh : hi ≤ W.heap.size) :
    Calls Try.prog 89 #[.int .i64 (k : Nat), .int .i64 (p : Nat), .pointer (some ⟨H1, 0, none⟩), .pointer (some ⟨H2, 0, none⟩)] W fun e W' => e = .returned (.tuple #[]) ∧ BufR lo hi W' U (l2.set k (normC (nth l p))) ∧ Hi hi W W' ∧ Below lo W W' ∧ KeepsB W W' := by
  have c0 : W.cell? ⟨H1, 0, none⟩ = some (.pointer (some ⟨T, 0, none⟩)) := h1.cell 0
  have HG := Lib.hid (buf_get hT p hp)
  obtain ⟨x, hx⟩ : ∃ x, nth l p = x := ⟨_, rfl⟩
  rw [hx] at HG ⊢
  have HU := Lib.hid hU
  have HH2 := Lib.hid h2
  clear hT hU h1 h2 hx
  go_enter Try.func89, Try.ntmps89
  go_wp2_with fail
  refine HG.out.mono ?_
  rintro e w1 ⟨rfl, hB1⟩
  have hb2 := bl_alloc hB1 (.cells #[.int .i64 x.1, .bool x.2] 78)
  have k0 : (w1.alloc (.cells #[.int .i64 x.1, .bool x.2] 78)).cell? ⟨H2, 0, none⟩ = some (.pointer (some ⟨U, 0, none⟩)) := (HH2.out.below' hb2).cell 0
  have HP := Lib.hid (bufR_put (HU.out.low (fun b hb => hb2.block b (by omega))) (Nat.le_trans hlo hb2.size) k hk x)
  have HB2 := Lib.hid hb2
  clear hB1 hb2 c0
  go_wp2_with fail
  refine HP.out.mono ?_
  rintro e w2 ⟨rfl, hU2, hHi, hB2, hK2⟩
  have HK2 := Lib.hid hK2
  have HU2 := Lib.hid hU2
  have HHI := Lib.hid hHi
  have HB3 := Lib.hid hB2
  clear hU2 hHi hB2 k0 hK2
  go_wp2_with fail
  go_end0
  exact ⟨rfl, HU2.out, (Hi.of_below HB2.out).trans HHI.out, (HB2.out.mono hlo).trans HB3.out, (KeepsB.below HB2.out).trans HK2.out⟩
end Go.Proofs.Ythjkeefdeeljoaa.Shp
/- move.Gather. -/
namespace Go.Proofs.Ythjkeefdeeljoaa.Shp
open Go.RowKit Go.Shelf Go.Proofs.Ythjkeefdeeljoaa.Num Go.Proofs.Ythjkeefdeeljoaa.Cl
set_option linter.unusedVariables false
set_option linter.unusedSimpArgs false

theorem held_g {W : World} {H V : Nat} {T1 T2 : TypeId} {p x y z : Value} (h : Blk W H T1 #[p]) (h2 : Blk W V T2 #[x, y, z]) : W.cell? ⟨H, 0, none⟩ = some p ∧ W.cell? ⟨V, 0, none⟩ = some x ∧ W.cell? ⟨V, 1, none⟩ = some y ∧ W.cell? ⟨V, 2, none⟩ = some z := ⟨h.cell 0, h2.cell 0, h2.cell 1, h2.cell 2⟩
set_option maxRecDepth 100000 in
set_option maxHeartbeats 2000000 in
theorem gather_out (xs ys : List Int) (off : Int) (A B : Option Addr) (ca cb n m : Nat) (T : Nat) (l : List Cell) (bl : Nat) (most : Int) (w : World) (hx : ReadsI w .i64 A xs) (hy : ReadsI w .i64 B ys) (hn : xs.length = n) (hm : ys.length = m) (hl : n ≤ 1000000) (hl2 : m ≤ 1000000) (hT : Buf bl w T l)
    (hf : fitsB xs ys off l.length = false) :
    Calls Try.prog 38 #[.pointer (some ⟨T, 0, none⟩), .agg #[.slice A n ca, .slice B m cb, .int .i64 off], .int .i64 most] w fun e w' => e = .returned (.tuple #[.pointer none, .int .i64 2]) ∧ Below w.heap.size w w' := by
  obtain ⟨W0, hW0⟩ : ∃ W0, W0 = (w.alloc (.cells #[.pointer (some ⟨T, 0, none⟩)] 57)).alloc (.cells #[.slice A n ca, .slice B m cb, .int .i64 off] 34) := ⟨_, rfl⟩
  have hb0 : Below w.heap.size w W0 := by rw [hW0]; exact bl_alloc (bl_alloc (Below.refl _ _) _) _
  have hb : Blk W0 w.heap.size 57 #[.pointer (some ⟨T, 0, none⟩)] := by rw [hW0]; exact (Blk.new _ _ _).alloc _
  have hv : Blk W0 (w.heap.size + 1) 34 #[.slice A n ca, .slice B m cb, .int .i64 off] := by rw [hW0]; exact Blk.new' (by simp) _ _
  have HLEN := Lib.hid (fun W (h : Below w.heap.size w W) => buf_len (hT.below h))
  have HFIT := Lib.hid (fun W (h : Below w.heap.size w W) => fits_calls xs ys off A B ca cb n m (l.length : Int) W (hx.below h) (hy.below h) hn hm hl hl2)
  rw [hf] at HFIT
  have HB0 := Lib.hid hb0
  have HB := Lib.hid hb
  have HV := Lib.hid hv
  have HW0 := Lib.hid hW0
  clear hx hy hb0 hb hv hW0 hf hn hm hT
  go_enter Try.func38, Try.ntmps38
  go_upto_region 1 with fail
  rw [← HW0.out]
  obtain ⟨k3, k0, k1, k2⟩ := held_g HB.out HV.out
  go_region_held3 (fun W => W.cell? ⟨w.heap.size, 0, none⟩ = some (.pointer (some ⟨T, 0, none⟩)) ∧ W.cell? ⟨w.heap.size + 1, 0, none⟩ = some (.slice A n ca) ∧ W.cell? ⟨w.heap.size + 1, 1, none⟩ = some (.slice B m cb) ∧ W.cell? ⟨w.heap.size + 1, 2, none⟩ = some (.int .i64 off))
    (first | exact ⟨k3, k0, k1, k2⟩ | exact held_g (HB.out.drew.below' HBF.out) (HV.out.drew.below' HBF.out))
    (first
    | (go_at_call 83; refine (HLEN.out _ (bl_drew HB0.out)).mono ?_; rintro e wA ⟨rfl, rfl⟩)
    | (go_at_call 82; refine (HFIT.out _ (bl_drew HB0.out)).mono ?_; rintro e wF ⟨rfl, hBF⟩; have HBF := Lib.hid hBF; clear hBF))
  go_wp2_with fail
  go_ret2
  exact ⟨rfl, bl_then (bl_drew HB0.out) HBF.out⟩
/-- What is gathered. -/
def gathL (xs ys : List Int) (off : Int) (l : List Cell) : List Cell := (List.range (cellsN xs ys off)).map fun k => nth l (plO xs ys off k).toNat
theorem gathL_length (xs ys : List Int) (off : Int) (l : List Cell) : (gathL xs ys off l).length = cellsN xs ys off := by simp [gathL]
theorem gathL_nth (xs ys : List Int) (off : Int) (l : List Cell) (k : Nat) (h : k < cellsN xs ys off) : nth (gathL xs ys off l) k = nth l (plO xs ys off k).toNat := by
  rw [nth_eq _ _ (by rw [gathL_length]; exact h)]
  simp [gathL]
theorem fits_vr {xs ys : List Int} {off n : Int} (hf : fitsB xs ys off n = true) : vrB xs ys off = true := by unfold fitsB at hf; simp only [Bool.and_eq_true] at hf; exact hf.1
set_option maxRecDepth 100000 in
set_option maxHeartbeats 2000000 in
theorem gather_limit (xs ys : List Int) (off : Int) (A B : Option Addr) (ca cb n m : Nat) (T : Nat) (l : List Cell) (bl : Nat) (most : Int) (w : World) (hx : ReadsI w .i64 A xs) (hy : ReadsI w .i64 B ys) (hn : xs.length = n) (hm : ys.length = m) (hl : n ≤ 1000000) (hl2 : m ≤ 1000000) (hT : Buf bl w T l)
    (hf : fitsB xs ys off l.length = true) (hmo : min (max most 0) 1048576 < (cellsN xs ys off : Int)) :
    Calls Try.prog 38 #[.pointer (some ⟨T, 0, none⟩), .agg #[.slice A n ca, .slice B m cb, .int .i64 off], .int .i64 most] w fun e w' => e = .returned (.tuple #[.pointer none, .int .i64 7]) ∧ Below w.heap.size w w' := by
  obtain ⟨W0, hW0⟩ : ∃ W0, W0 = (w.alloc (.cells #[.pointer (some ⟨T, 0, none⟩)] 57)).alloc (.cells #[.slice A n ca, .slice B m cb, .int .i64 off] 34) := ⟨_, rfl⟩
  have hb0 : Below w.heap.size w W0 := by rw [hW0]; exact bl_alloc (bl_alloc (Below.refl _ _) _) _
  have hb : Blk W0 w.heap.size 57 #[.pointer (some ⟨T, 0, none⟩)] := by rw [hW0]; exact (Blk.new _ _ _).alloc _
  have hv : Blk W0 (w.heap.size + 1) 34 #[.slice A n ca, .slice B m cb, .int .i64 off] := by rw [hW0]; exact Blk.new' (by simp) _ _
  have hvr := fits_vr hf
  have HLEN := Lib.hid (fun W (h : Below w.heap.size w W) => buf_len (hT.below h))
  have HFIT := Lib.hid (fun W (h : Below w.heap.size w W) => fits_calls xs ys off A B ca cb n m (l.length : Int) W (hx.below h) (hy.below h) hn hm hl hl2)
  rw [hf] at HFIT
  have HSZ := Lib.hid (fun W (h : Below w.heap.size w W) => msize_calls xs ys off A B ca cb n m W (hx.below h) hn hl (cellsN xs ys off) (vrB_out hvr).1 (cellsN_prod hvr))
  have HRM := Lib.hid (fun W => mroom_no (cellsN xs ys off) most W hmo)
  have HB0 := Lib.hid hb0
  have HB := Lib.hid hb
  have HV := Lib.hid hv
  have HW0 := Lib.hid hW0
  generalize cellsN xs ys off = N at *
  clear hx hy hb0 hb hv hW0 hf hn hm hT hvr hmo
  go_enter Try.func38, Try.ntmps38
  go_upto_region 1 with fail
  rw [← HW0.out]
  obtain ⟨k3, k0, k1, k2⟩ := held_g HB.out HV.out
  go_region_held3 (fun W => W.cell? ⟨w.heap.size, 0, none⟩ = some (.pointer (some ⟨T, 0, none⟩)) ∧ W.cell? ⟨w.heap.size + 1, 0, none⟩ = some (.slice A n ca) ∧ W.cell? ⟨w.heap.size + 1, 1, none⟩ = some (.slice B m cb) ∧ W.cell? ⟨w.heap.size + 1, 2, none⟩ = some (.int .i64 off))
    (first | exact ⟨k3, k0, k1, k2⟩ | exact held_g (HB.out.drew.below' HBF.out) (HV.out.drew.below' HBF.out))
    (first
    | (go_at_call 83; refine (HLEN.out _ (bl_drew HB0.out)).mono ?_; rintro e wA ⟨rfl, rfl⟩)
    | (go_at_call 82; refine (HFIT.out _ (bl_drew HB0.out)).mono ?_; rintro e wF ⟨rfl, hBF⟩; have HBF := Lib.hid hBF; clear hBF))
  have HB1 := Lib.hid (bl_then (bl_drew HB0.out) HBF.out)
  have HV1 := Lib.hid (HV.out.drew.below' HBF.out)
  clear k0 k1 k2 k3
  obtain ⟨k0, k1, k2⟩ := seen_view HV1.out
  go_wp2_with fail
  refine (HSZ.out _ HB1.out).mono ?_
  rintro e w2 ⟨rfl, hB2⟩
  have HB2 := Lib.hid (bl_then HB1.out hB2)
  clear hB2 k0 k1 k2
  go_wp2_with fail
  refine (HRM.out _).mono ?_
  rintro e w3 ⟨rfl, rfl⟩
  go_wp2_with fail
  go_ret2
  exact ⟨rfl, HB2.out.alloc HB2.out.size _⟩
theorem gath_norm {xs ys : List Int} {off : Int} {l : List Cell} (hf : fitsB xs ys off l.length = true) (hn : ∀ i, i < l.length → normC (nth l i) = nth l i) : (gathL xs ys off l).map normC = gathL xs ys off l := by
  apply List.ext_getElem (by simp)
  intro i h1 h2
  rw [List.getElem_map]
  rw [gathL_length] at h2
  have h3 : (gathL xs ys off l)[i]'(by rw [gathL_length]; exact h2) = nth l (plO xs ys off i).toNat := by
    rw [← gathL_nth xs ys off l i h2, nth_eq]
  rw [h3]
  have := fits_in hf i h2
  exact hn _ (by omega)
/-- Between two rounds of what is gathered. -/
structure GaR (vc : Array Value) (L : List Cell) (w : World) (base T U X : Nat) (k : Nat) (W : World) : Prop where
  o : BufR w.heap.size base W U (laidC L k)
  bb : Blk W w.heap.size 57 #[.pointer (some ⟨T, 0, none⟩)]
  ob : Blk W X 57 #[.pointer (some ⟨U, 0, none⟩)]
  vb : Blk W (w.heap.size + 1) 34 vc
  below : Below w.heap.size w W
theorem gaR_low (vc : Array Value) (L : List Cell) (w : World) (base T U X : Nat) (h1 : w.heap.size + 1 < base) (h2 : X < base) : LowOnly base (GaR vc L w base T U X) := fun k W W' h hos htp hout hsz hlow =>
  ⟨h.o.low hlow, (hlow _ (by omega)).trans h.bb, (hlow _ h2).trans h.ob, (hlow _ h1).trans h.vb, ⟨hos.trans h.below.os, htp.trans h.below.tape, hout.trans h.below.output, Nat.le_trans h.below.size hsz, fun b hb => (hlow b (by omega)).trans (h.below.block b hb)⟩⟩
set_option maxRecDepth 100000 in
set_option maxHeartbeats 2000000 in
theorem gather_yes (xs ys : List Int) (off : Int) (A B : Option Addr) (ca cb n m : Nat) (T : Nat) (l : List Cell) (bl : Nat) (most : Int) (w : World) (hx : ReadsI w .i64 A xs) (hy : ReadsI w .i64 B ys) (hn : xs.length = n) (hm : ys.length = m) (hl : n ≤ 1000000) (hl2 : m ≤ 1000000) (hT : Buf bl w T l)
    (hf : fitsB xs ys off l.length = true) (hmo : (cellsN xs ys off : Int) ≤ min (max most 0) 1048576) :
    Calls Try.prog 38 #[.pointer (some ⟨T, 0, none⟩), .agg #[.slice A n ca, .slice B m cb, .int .i64 off], .int .i64 most] w fun e w' => ∃ U, e = .returned (.tuple #[.pointer (some ⟨U, 0, none⟩), .int .i64 0]) ∧ Buf w.heap.size w' U (gathL xs ys off l) ∧ Below w.heap.size w w' := by
  obtain ⟨W0, hW0⟩ : ∃ W0, W0 = (w.alloc (.cells #[.pointer (some ⟨T, 0, none⟩)] 57)).alloc (.cells #[.slice A n ca, .slice B m cb, .int .i64 off] 34) := ⟨_, rfl⟩
  have hb0 : Below w.heap.size w W0 := by rw [hW0]; exact bl_alloc (bl_alloc (Below.refl _ _) _) _
  have hb : Blk W0 w.heap.size 57 #[.pointer (some ⟨T, 0, none⟩)] := by rw [hW0]; exact (Blk.new _ _ _).alloc _
  have hv : Blk W0 (w.heap.size + 1) 34 #[.slice A n ca, .slice B m cb, .int .i64 off] := by rw [hW0]; exact Blk.new' (by simp) _ _
  have hvr := fits_vr hf
  have HLEN := Lib.hid (fun W (h : Below w.heap.size w W) => buf_len (hT.below h))
  have HFIT := Lib.hid (fun W (h : Below w.heap.size w W) => fits_calls xs ys off A B ca cb n m (l.length : Int) W (hx.below h) (hy.below h) hn hm hl hl2)
  rw [hf] at HFIT
  have HSZ := Lib.hid (fun W (h : Below w.heap.size w W) => msize_calls xs ys off A B ca cb n m W (hx.below h) hn hl (cellsN xs ys off) (vrB_out hvr).1 (cellsN_prod hvr))
  have HRM := Lib.hid (fun W => mroom_yes (cellsN xs ys off) most W hmo)
  have HPL := Lib.hid (fun W (h : Below w.heap.size w W) => plain_calls xs ys off A B ca cb n m W (hx.below h) (hy.below h) hn hm hvr (cellsN xs ys off) (cellsN_prod hvr))
  have HB0 := Lib.hid hb0
  have HB := Lib.hid hb
  have HV := Lib.hid hv
  have HW0 := Lib.hid hW0
  have HX := Lib.hid hx
  have HY := Lib.hid hy
  have HNN := Lib.hid hn
  have HMM := Lib.hid hm
  have HT := Lib.hid hT
  have HF := Lib.hid hf
  have HMO := Lib.hid hmo
  clear hx hy hb0 hb hv hW0 hf hn hm hT hvr hmo
  go_enter Try.func38, Try.ntmps38
  go_upto_region 1 with fail
  rw [← HW0.out]
  obtain ⟨k3, k0, k1, k2⟩ := held_g HB.out HV.out
  go_region_held3 (fun W => W.cell? ⟨w.heap.size, 0, none⟩ = some (.pointer (some ⟨T, 0, none⟩)) ∧ W.cell? ⟨w.heap.size + 1, 0, none⟩ = some (.slice A n ca) ∧ W.cell? ⟨w.heap.size + 1, 1, none⟩ = some (.slice B m cb) ∧ W.cell? ⟨w.heap.size + 1, 2, none⟩ = some (.int .i64 off))
    (first | exact ⟨k3, k0, k1, k2⟩ | exact held_g (HB.out.drew.below' HBF.out) (HV.out.drew.below' HBF.out))
    (first
    | (go_at_call 83; refine (HLEN.out _ (bl_drew HB0.out)).mono ?_; rintro e wA ⟨rfl, rfl⟩)
    | (go_at_call 82; refine (HFIT.out _ (bl_drew HB0.out)).mono ?_; rintro e wF ⟨rfl, hBF⟩; have HBF := Lib.hid hBF; clear hBF))
  have HB1 := Lib.hid (bl_then (bl_drew HB0.out) HBF.out)
  have HV1 := Lib.hid (HV.out.drew.below' HBF.out)
  have HBB1 := Lib.hid (HB.out.drew.below' HBF.out)
  clear k0 k1 k2 k3
  obtain ⟨k0, k1, k2⟩ := seen_view HV1.out
  go_wp2_with fail
  refine (HSZ.out _ HB1.out).mono ?_
  rintro e w2 ⟨rfl, hB2⟩
  have HB2 := Lib.hid (bl_then HB1.out hB2)
  have HV2 := Lib.hid (HV1.out.below' hB2)
  have HBB2 := Lib.hid (HBB1.out.below' hB2)
  clear hB2 k0 k1 k2
  go_wp2_with fail
  refine (HRM.out _).mono ?_
  rintro e w3 ⟨U, rfl, hU, hB3⟩
  obtain ⟨W4, hW4⟩ : ∃ W4, W4 = w3.alloc (.cells #[.pointer (some ⟨U, 0, none⟩)] 57) := ⟨_, rfl⟩
  obtain ⟨X, hX⟩ : ∃ X, X = w3.heap.size := ⟨_, rfl⟩
  have hb34 : Below w3.heap.size w3 W4 := by rw [hW4]; exact bl_alloc (Below.refl _ _) _
  have HB4 := Lib.hid (bl_then (bl_then HB2.out hB3) hb34)
  have HV4 := Lib.hid ((HV2.out.below' hB3).below' hb34)
  have HBB4 := Lib.hid ((HBB2.out.below' hB3).below' hb34)
  have HU4 := Lib.hid ((hU.wide HB2.out.size).below hb34)
  have HOB4 : Hid (Blk W4 X 57 #[.pointer (some ⟨U, 0, none⟩)]) := Lib.hid (by rw [hW4, hX]; exact Blk.new _ _ _)
  have HS4 : Hid (W4.heap.size = X + 1) := Lib.hid (by rw [hW4, hX]; simp)
  have HXW : Hid (w.heap.size + 1 < X) := Lib.hid (by have h1 := HV2.out.lt; have h2 := hB3.size; omega)
  have HW4 := Lib.hid hW4
  have HX4 := Lib.hid hX
  obtain ⟨k0, k1, k2⟩ := seen_view HV4.out
  rw [hW4] at k0 k1 k2
  clear hU hB3 hb34 hW4 hX
  go_wp2_with fail
  rw [← HW4.out, ← HX4.out]
  clear k0 k1 k2
  refine (HPL.out _ HB4.out).mono ?_
  rintro e w5 ⟨rfl, hB5⟩
  have HB5 := Lib.hid (bl_then HB4.out hB5)
  have HV5 := Lib.hid (HV4.out.below' hB5)
  have HBB5 := Lib.hid (HBB4.out.below' hB5)
  have HU5 := Lib.hid (HU4.out.below hB5)
  have HOB5 := Lib.hid (HOB4.out.below' hB5)
  have HS5 : Hid (X + 1 ≤ w5.heap.size) := Lib.hid (by have := hB5.size; have := HS4.out; omega)
  clear hB5
  cases hpl : (denB xs ys off && decide (0 < cellsN xs ys off)) with
  | true =>
    simp only [Bool.and_eq_true, decide_eq_true_eq] at hpl
    obtain ⟨f, hf⟩ := Int.eq_ofNat_of_zero_le (show 0 ≤ off from (vrB_out (fits_vr HF.out)).2.2.2.1)
    have hlast := (fits_in HF.out (cellsN xs ys off - 1) (by omega)).2
    rw [den_pl (fits_vr HF.out) hpl.1 _ (by omega)] at hlast
    have hfl : f + cellsN xs ys off ≤ l.length := by omega
    have hgl : copyC (List.replicate (cellsN xs ys off) (0, false)) l 0 f (cellsN xs ys off) = gathL xs ys off l := by
      apply List.ext_getElem (by rw [copyC_length _ _ _ _ _ (by simp) hfl, gathL_length]; simp)
      intro i h1 h2
      rw [gathL_length] at h2
      have e1 : (gathL xs ys off l)[i]'(by rw [gathL_length]; exact h2) = nth l (plO xs ys off i).toNat := by
        rw [← gathL_nth xs ys off l i h2, nth_eq]
      have e2 : (copyC (List.replicate (cellsN xs ys off) (0, false)) l 0 f (cellsN xs ys off))[i]'h1 = nth l (f + i) := by
        rw [← nth_eq _ _ h1, copyC_nth _ _ _ _ _ i (by simp) hfl (by simpa using h2), if_pos (by omega), Nat.sub_zero]
      rw [e1, e2, den_pl (fits_vr HF.out) hpl.1 i h2, hf]
      congr 1
    obtain ⟨gU, cU, vU, MU, mgU, mcU, mcsU, WU, hbU, hU1, hU2, hU3, hU4⟩ := HU5.out
    obtain ⟨gT, cT, vT, MT, mgT, mcT, mcsT, WT, hbT, _⟩ := HT.out.below HB5.out
    have hCP := bcopy_calls U gU cU vU MU mgU mcU mcsU WU _ T gT cT vT MT mgT mcT mcsT WT l 0 f (cellsN xs ys off) w5.drew (hbU.below (bl_drew (Below.refl _ _))) (hbT.below (bl_drew (Below.refl _ _))) (by simp) hfl (by omega)
    rw [hgl] at hCP
    have HCP := Lib.hid hCP
    have hLN := blen_calls U gU cU vU MU mgU mcU mcsU WU _ w5.drew (hbU.below (bl_drew (Below.refl _ _)))
    rw [List.length_replicate] at hLN
    have HLN := Lib.hid hLN
    have HAP := Lib.hid (show w.heap.size ≤ U ∧ w.heap.size ≤ gU ∧ w.heap.size ≤ MU ∧ w.heap.size ≤ mgU from ⟨hU1, hU2, hU3, hU4⟩)
    have HROW := Lib.hid hbU.row
    have HMG := Lib.hid hbU.mask.hg
    obtain ⟨k3, k0, k1, k2⟩ := held_g HBB5.out HV5.out
    have k4 : w5.cell? ⟨X, 0, none⟩ = some (.pointer (some ⟨U, 0, none⟩)) := HOB5.out.cell 0
    rw [hf] at k2
    have HFO := Lib.hid hf
    clear hlast hfl hgl hbU hbT hU1 hU2 hU3 hU4 hCP hLN hpl hf
    obtain ⟨L, hL⟩ : ∃ L, L = gathL xs ys off l := ⟨_, rfl⟩
    rw [← hL] at HCP
    have HLL := Lib.hid hL
    clear hL
    generalize cellsN xs ys off = N at *
    go_upto_region 7 with fail
    go_region_held3 (fun W => W.cell? ⟨w.heap.size, 0, none⟩ = some (.pointer (some ⟨T, 0, none⟩)) ∧ W.cell? ⟨w.heap.size + 1, 2, none⟩ = some (.int .i64 (f : Nat)) ∧ W.cell? ⟨X, 0, none⟩ = some (.pointer (some ⟨U, 0, none⟩)))
      (first | exact ⟨k3, k2, k4⟩ | exact HHE.out)
      (first
      | (go_at_call 83; refine HLN.out.mono ?_; rintro e wA ⟨rfl, rfl⟩)
      | (go_at_call 87; refine HCP.out.mono ?_; rintro e wC ⟨rfl, hbC, hOC⟩; have HBC := Lib.hid hbC; have HOC := Lib.hid hOC; have hq : ∀ q t cs, Blk w5 q t cs → t ≠ 2 → t ≠ 151 → Blk wC q t cs := fun q t cs hb h1 h2 => hOC.blk hb.drew (Blk.ne_ hb HROW.out h1) (Blk.ne_ hb HMG.out h2); have HHE := Lib.hid (show wC.cell? ⟨w.heap.size, 0, none⟩ = some (.pointer (some ⟨T, 0, none⟩)) ∧ wC.cell? ⟨w.heap.size + 1, 2, none⟩ = some (.int .i64 (f : Nat)) ∧ wC.cell? ⟨X, 0, none⟩ = some (.pointer (some ⟨U, 0, none⟩)) from ⟨(hq _ _ _ HBB5.out (by decide) (by decide)).cell 0, ((hq _ _ _ HV5.out (by decide) (by decide)).cell 2).trans (by rw [HFO.out]; rfl), (hq _ _ _ HOB5.out (by decide) (by decide)).cell 0⟩); have HOX := Lib.hid (hq _ _ _ HOB5.out (by decide) (by decide)); clear hbC hOC hq))
    have k5 : wC.cell? ⟨X, 0, none⟩ = some (.pointer (some ⟨U, 0, none⟩)) := HOX.out.cell 0
    go_wp2_with fail
    go_ret2
    obtain ⟨vs', mcs', W', hB⟩ := HBC.out
    rw [HLL.out] at hB
    exact ⟨U, rfl, ⟨gU, cU, vs', MU, mgU, mcU, mcs', W', hB, HAP.out.1, HAP.out.2.1, HAP.out.2.2.1, HAP.out.2.2.2⟩, (bl_drew HB5.out).trans (HOC.out.below (bl_drew HB5.out).size HAP.out.2.1 HAP.out.2.2.2)⟩
  | false =>
    obtain ⟨L, hL⟩ : ∃ L, L = gathL xs ys off l := ⟨_, rfl⟩
    have hLl : L.length = cellsN xs ys off := by rw [hL, gathL_length]
    have hnrm : ∀ i, i < l.length → normC (nth l i) = nth l i := by
      obtain ⟨g, c, vs, M, mg, mc, mcs, W, h, _⟩ := HT.out
      exact h.norm
    have hT5 : Buf bl w5.drew T l := (HT.out.below HB5.out).below (bl_drew (Below.refl _ _))
    have hU5 : BufR w.heap.size w5.drew.heap.size w5.drew U (laidC L 0) := by
      have h := (HU5.out.below (bl_drew (Below.refl w5.heap.size w5)))
      have e : laidC L 0 = List.replicate (cellsN xs ys off) (0, false) := by simp [laidC, hLl]
      rw [e]
      exact buf_toR h (Nat.le_refl _)
    have hR0 : GaR #[.slice A n ca, .slice B m cb, .int .i64 off] L w w5.drew.heap.size T U X 0 w5.drew := ⟨hU5, HBB5.out.drew, HOB5.out.drew, HV5.out.drew, bl_drew HB5.out⟩
    have HEA := Lib.hid (each_calls xs ys off A B ca cb n m T l bl 89 #[.pointer (some ⟨w.heap.size, 0, none⟩), .pointer (some ⟨X, 0, none⟩)] w5.drew (HX.out.below (bl_drew HB5.out)) (HY.out.below (bl_drew HB5.out)) HNN.out HMM.out hl hl2 hT5 HF.out (fun _ _ => rfl) (GaR #[.slice A n ca, .slice B m cb, .int .i64 off] L w w5.drew.heap.size T U X) (gaR_low _ L w _ T U X (by have := HS5.out; have := HXW.out; show w.heap.size + 1 < w5.heap.size; omega) (by have := HS5.out; show X < w5.heap.size; omega)) hR0
      (fun k W hk hsz hr => by
        have hin := fits_in HF.out k hk
        obtain ⟨p, hp⟩ := Int.eq_ofNat_of_zero_le hin.1
        have hset := laidC_set L k (by rw [hLl]; exact hk)
        have e1 : nth L k = nth l p := by rw [hL, gathL_nth xs ys off l k hk, hp, Int.toNat_natCast]
        rw [e1] at hset
        have h := gat1_calls T U w.heap.size X l (laidC L k) k p W (HT.out.below hr.below) hr.o hr.bb hr.ob (by omega) (by rw [laidC_length L k (by rw [hLl]; omega), hLl]; exact hk) hr.below.size hsz
        rw [hset] at h
        rw [hp]
        refine h.mono ?_
        rintro e W' ⟨rfl, h1, h2, h3, h4⟩
        exact ⟨rfl, ⟨h1, h4 _ _ _ hr.bb (by decide) (by decide), h4 _ _ _ hr.ob (by decide) (by decide), h4 _ _ _ hr.vb (by decide) (by decide), hr.below.trans h3⟩, h2⟩))
    have HLL := Lib.hid hL
    have HLN := Lib.hid hLl
    have HNRM := Lib.hid hnrm
    go_upto_region 9 with fail
    obtain ⟨k3, k0, k1, k2⟩ := held_g HBB5.out HV5.out
    have k4 : w5.cell? ⟨X, 0, none⟩ = some (.pointer (some ⟨U, 0, none⟩)) := HOB5.out.cell 0
    clear hL hLl hnrm hT5 hU5 hR0 hpl
    go_region_held3 (fun W => W.cell? ⟨w.heap.size, 0, none⟩ = some (.pointer (some ⟨T, 0, none⟩)) ∧ W.cell? ⟨w.heap.size + 1, 0, none⟩ = some (.slice A n ca) ∧ W.cell? ⟨w.heap.size + 1, 1, none⟩ = some (.slice B m cb) ∧ W.cell? ⟨w.heap.size + 1, 2, none⟩ = some (.int .i64 off) ∧ W.cell? ⟨X, 0, none⟩ = some (.pointer (some ⟨U, 0, none⟩)))
      (first | exact ⟨k3, k0, k1, k2, k4⟩ | exact HHE.out)
      ((go_at_call 88; refine HEA.out.mono ?_; rintro e wE ⟨rfl, hRE, hSE⟩; have HRE := Lib.hid hRE; have HHE := Lib.hid (show wE.cell? ⟨w.heap.size, 0, none⟩ = some (.pointer (some ⟨T, 0, none⟩)) ∧ wE.cell? ⟨w.heap.size + 1, 0, none⟩ = some (.slice A n ca) ∧ wE.cell? ⟨w.heap.size + 1, 1, none⟩ = some (.slice B m cb) ∧ wE.cell? ⟨w.heap.size + 1, 2, none⟩ = some (.int .i64 off) ∧ wE.cell? ⟨X, 0, none⟩ = some (.pointer (some ⟨U, 0, none⟩)) from ⟨hRE.bb.cell 0, hRE.vb.cell 0, hRE.vb.cell 1, hRE.vb.cell 2, hRE.ob.cell 0⟩); clear hRE hSE))
    go_wp2_with fail
    go_ret2
    refine ⟨U, rfl, ?_, HRE.out.below⟩
    have h := HRE.out.o.buf
    rw [← HLN.out, laidC_all, HLL.out, gath_norm HF.out HNRM.out] at h
    exact h
end Go.Proofs.Ythjkeefdeeljoaa.Shp
/- buf.Clone; move.Scatter's closure, move.Fill's. -/
namespace Go.Proofs.Ythjkeefdeeljoaa.Shp
open Go.RowKit Go.Shelf Go.Proofs.Ythjkeefdeeljoaa.Num Go.Proofs.Ythjkeefdeeljoaa.Cl Go.Proofs.Ythjkeefdeeljoaa.Bt
set_option linter.unusedVariables false
set_option linter.unusedSimpArgs false

theorem vclone2_calls (g o c : Nat) (L : List Int) (w : World) (hs : Shows w (some ⟨g, o, none⟩) (L.map (Value.int .i64))) (hl : L.length ≤ 10000000) : Calls Try.prog 122 #[.slice (some ⟨g, o, none⟩) L.length c] w fun e w' => ∃ g' c' cs', e = .returned (.slice (some ⟨g', 0, none⟩) L.length c') ∧ Blk w' g' 2 cs' ∧ (∀ i, i < L.length → cs'[i]? = some (.int .i64 (nth L i))) ∧ w.heap.size ≤ g' ∧ Below w.heap.size w w' ∧ L.length ≤ c' := by
  have hq := fun w => Lib.run_eql_slice_nil (P := Try.prog) w 139 2 (some ⟨g, o, none⟩) L.length c 0 0 Try.underlying139
  have hown : (w.alloc (.cells #[] 2)).ownsRow w.heap.size 2 1 (.slice (some ⟨w.heap.size, 0, none⟩) 0 0) 0 [] := World.ownsRow_lit w #[] 0 (Nat.le_refl _) (by simp) (by simp)
  have HOW := Lib.hid hown
  have HSH := Lib.hid (hs.below (bl_alloc (Below.refl w.heap.size w) (.cells #[] 2)))
  have HB := Lib.hid (bl_alloc (Below.refl w.heap.size w) (.cells #[] 2))
  have hz : w.heap.size ≤ (w.alloc (.cells #[] 2)).heap.size := by simp
  clear hs hown
  go_enter Try.func122, Try.ntmps122
  go_wp2_with (at_builtin; go_must (refine wpList_app rfl (.tmp 5) (.tmp 6) 139 rfl 2 w.heap.size (.int .i64 0) 1 8 Try.underlying139 info_i64 rfl (by decide) (.slice (some ⟨w.heap.size, 0, none⟩) 0 0) 0 [] rfl HOW.out (some ⟨g, o, none⟩) L.length c (L.map (Value.int .i64)) rfl (by simp) HSH.out (ints_one L) (by simp only [maxLen]; omega) (by omega) hz ?_); intro v1 w1 hown1 hg1 hb1)
  go_ret
  rw [Nat.zero_add, List.nil_append] at hown1
  rcases hown1.2 with ⟨rfl, h0⟩ | ⟨g', cap, cur, rfl, hbase, hh, hnc, hcm, hcs, htk⟩
  · rcases hb1 with h | h <;> simp [Value.ownBlock] at h
  · refine ⟨g', cap, cur, rfl, hh, fun i hi => ?_, hbase, bl_grown HB.out hg1 (fun k hk => by simp [Value.ownBlock] at hk; omega), by omega⟩
    have h1 := congrArg (fun l => l[i]?) htk
    simp only [Nat.mul_one, List.getElem?_take, if_pos hi, List.getElem?_map, Array.getElem?_toList] at h1
    rw [h1, List.getElem?_eq_getElem hi, nth_eq _ _ hi]
    rfl
/-- A box over a row and a mask. -/
theorem buf_cloned {bl : Nat} {w : World} {T' g c' M : Nat} {cs' : Array Value} {l : List Cell} (hb : Blk w T' 141 #[.pointer (some ⟨M, 0, none⟩), .slice (some ⟨g, 0, none⟩) l.length c']) (hr : Blk w g 2 cs') (hc : ∀ i, i < l.length → cs'[i]? = some (.int .i64 (nth (l.map (·.1)) i))) (hm : Mask bl w M (l.map (·.2))) (hn : ∀ i, i < l.length → normC (nth l i) = nth l i) (hs : l.length ≤ 1048576) (hcap : l.length ≤ c') (h1 : bl ≤ T') (h2 : bl ≤ g) : Buf bl w T' l := by
  obtain ⟨mg, mc, mcs, W, q1, q2, q3⟩ := hm
  refine ⟨g, c', cs', M, mg, mc, mcs, W, ⟨hb, hr, fun i hi => ?_, q1, hn, hs, hcap⟩, h1, h2, q2, q3⟩
  rw [hc i hi, nth_eq _ _ (by simpa using hi), nth_eq _ _ hi]
  simp
theorem mask_wide {B B2 : Nat} {w : World} {M : Nat} {l : List Bool} (h : Mask B w M l) (hB : B2 ≤ B) : Mask B2 w M l := by
  obtain ⟨mg, mc, mcs, W, q1, q2, q3⟩ := h
  exact ⟨mg, mc, mcs, W, q1, by omega, by omega⟩
set_option maxRecDepth 100000 in
set_option maxHeartbeats 2000000 in
theorem bclone_calls {bl : Nat} (T : Nat) (l : List Cell) (w : World) (hT : Buf bl w T l) :
    Calls Try.prog 93 #[.pointer (some ⟨T, 0, none⟩)] w fun e w' => ∃ U, e = .returned (.pointer (some ⟨U, 0, none⟩)) ∧ Buf w.heap.size w' U l ∧ Below w.heap.size w w' := by
  have HL := Lib.hid (buf_len hT)
  by_cases h0 : l.length = 0
  · obtain rfl : l = [] := List.eq_nil_of_length_eq_zero h0
    have HM := Lib.hid (made_calls 0 (by omega) w)
    clear hT h0
    go_enter Try.func93, Try.ntmps93
    go_wp2_with fail
    refine HL.out.mono ?_
    rintro e w' ⟨rfl, rfl⟩
    go_wp2_with fail
    refine HM.out.mono ?_
    rintro e w' ⟨U, rfl, hU, hB⟩
    have HU := Lib.hid hU
    have HB := Lib.hid hB
    clear hU hB
    go_wp2_with fail
    go_ret
    exact ⟨U, rfl, HU.out, HB.out⟩
  · obtain ⟨g, c, vs, M, mg, mc, mcs, W, hb, _⟩ := hT
    obtain ⟨t0, t1⟩ := hb.tops
    have hsm := hb.small
    have hsh : Shows w (some ⟨g, 0, none⟩) ((l.map (·.1)).map (Value.int .i64)) := fun i v hv => by
      rw [List.getElem?_map] at hv
      obtain ⟨x, hx, rfl⟩ := Option.map_eq_some_iff.1 hv
      obtain ⟨hi, e⟩ := List.getElem?_eq_some_iff.1 hx
      simp at hi e
      refine ⟨g, 0, rfl, ?_⟩
      rw [Nat.zero_add, (hb.val i hi).1, nth_eq _ _ hi, e]
    have hV := fun W' (h : Below w.heap.size w W') => vclone2_calls g 0 c (l.map (·.1)) W' (hsh.below h) (by simp; omega)
    have hlen : (l.map (·.1)).length = l.length := by simp
    rw [hlen] at hV
    have HV := Lib.hid hV
    have HC := Lib.hid (fun W' (h : Below w.heap.size w W') => clone_calls M mg mc mcs W (l.map (·.2)) W' (hb.mask.below h))
    have HBW := Lib.hid hb
    have hl0 : ((l.length : Int) == 0) = false := by simp; exact fun h => h0 (by simp [h])
    have HNE := Lib.hid h0
    clear hb hsh hV
    go_enter Try.func93, Try.ntmps93
    go_wp2_with fail
    refine HL.out.mono ?_
    rintro e w' ⟨rfl, rfl⟩
    go_upto_region 3 with fail
    go_region_with (first
      | (go_at_call 124; refine (HC.out _ (by first | exact bl_drew (Below.refl _ _) | exact HB1.out)).mono ?_; rintro e wm ⟨M', rfl, hM, hBm⟩; have HM := Lib.hid hM; have HBM := Lib.hid hBm; have HB2 := Lib.hid (by first | exact bl_then (bl_drew (Below.refl w.heap.size w)) hBm | exact bl_then HB1.out hBm : Below w.heap.size w wm); have m0 := bl_seen HB2.out t0; have m1 := bl_seen HB2.out t1; clear hM hBm)
      | (go_at_call 122; refine (HV.out _ (by first | exact bl_drew (Below.refl _ _) | exact HB2.out)).mono ?_; rintro e wv ⟨G, cG, csG, rfl, hG, hGc, hGs, hBv, hGl⟩; have HG := Lib.hid hG; have HGC := Lib.hid hGc; have HGS := Lib.hid hGs; have HGL := Lib.hid hGl; have HBV := Lib.hid hBv; have HB1 := Lib.hid (by first | exact bl_then (bl_drew (Below.refl w.heap.size w)) hBv | exact bl_then HB2.out hBv : Below w.heap.size w wv); have v0 := bl_seen HB1.out t0; have v1 := bl_seen HB1.out t1; clear hG hGc hGs hBv hGl))
    all_goals go_wp2_with fail
    all_goals go_ret
    all_goals have hsz1 := HBM.out.size
    all_goals have hsz2 := HBV.out.size
    all_goals have hsz3 := HB1.out.size
    all_goals have hsz4 := HB2.out.size
    all_goals simp at hsz1 hsz2
    all_goals exact ⟨_, rfl, buf_cloned (Blk.new _ _ _) ((HG.out).alloc _) HGC.out ((mask_wide HM.out (by first | omega | (simp; done) | (simp; omega))).below (bl_then HBV.out (bl_alloc (Below.refl _ _) _))) HBW.out.norm HBW.out.small HGL.out (by first | omega | (simp; done) | (simp; omega)) (by have := HGS.out; first | omega | (simp at this; omega)), bl_alloc HB1.out _⟩
end Go.Proofs.Ythjkeefdeeljoaa.Shp
