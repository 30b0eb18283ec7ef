/- Contracts and lemmas that the row of this claim stands on: Gather1, Gather, Pick. -/
import Derived.Test.YthjkeefdeeljoaaPk41
import Derived.Test.YthjkeefdeeljoaaPk44
import Derived.Test.YthjkeefdeeljoaaPk46
import Derived.Deep.DeepCutAuto
/- Rows between two blocks; move.Gather's closure. -/
namespace Go.Proofs.Ythjkeefdeeljoaa.Shp
open Go.RowKit Go.Shelf Go.Proofs.Ythjkeefdeeljoaa.Num Go.Proofs.Ythjkeefdeeljoaa.Cl
set_option linter.unusedVariables false
set_option linter.unusedSimpArgs false

/-- A row whose blocks lie from lo to below hi. -/
def BufR (lo hi : Nat) (w : World) (T : Nat) (l : List Cell) : Prop := ∃ g c vs M mg mc mcs W, BufW w T g c vs M mg mc mcs W l ∧ (lo ≤ T ∧ lo ≤ g ∧ lo ≤ M ∧ lo ≤ mg) ∧ (T < hi ∧ g < hi ∧ M < hi ∧ mg < hi)
theorem buf_toR {lo hi : Nat} {w : World} {T : Nat} {l : List Cell} (h : Buf lo w T l) (hh : w.heap.size ≤ hi) : BufR lo hi w T l := by
  obtain ⟨g, c, vs, M, mg, mc, mcs, W, h, h1, h2, h3, h4⟩ := h
  have := h.box.lt
  have := h.row.lt
  have := h.mask.hT.lt
  have := h.mask.hg.lt
  exact ⟨g, c, vs, M, mg, mc, mcs, W, h, ⟨h1, h2, h3, h4⟩, by omega, by omega, by omega, by omega⟩
theorem BufR.buf {lo hi : Nat} {w : World} {T : Nat} {l : List Cell} (h : BufR lo hi w T l) : Buf lo w T l := by
  obtain ⟨g, c, vs, M, mg, mc, mcs, W, h, h1, _⟩ := h
  exact ⟨g, c, vs, M, mg, mc, mcs, W, h, h1.1, h1.2.1, h1.2.2.1, h1.2.2.2⟩
theorem BufR.low {lo hi : Nat} {w w' : World} {T : Nat} {l : List Cell} (h : BufR lo hi w T l) (hs : ∀ b, b < hi → w'.heap[b]? = w.heap[b]?) : BufR lo hi w' T l := by
  obtain ⟨g, c, vs, M, mg, mc, mcs, W, h, h1, h2, h3, h4, h5⟩ := h
  exact ⟨g, c, vs, M, mg, mc, mcs, W, ⟨(hs T h2).trans h.box, (hs g h3).trans h.row, h.cell, ⟨h.mask.rep, (hs M h4).trans h.mask.hT, (hs mg h5).trans h.mask.hg, h.mask.hc, h.mask.small⟩, h.norm, h.small, h.cap⟩, h1, h2, h3, h4, h5⟩
/-- Blocks of other types than a row's numbers and words stay. -/
def KeepsB (W W' : World) : Prop := ∀ g t cs, Blk W g t cs → t ≠ 2 → t ≠ 151 → Blk W' g t cs
theorem KeepsB.trans {X Y Z : World} (h : KeepsB X Y) (k : KeepsB Y Z) : KeepsB X Z := fun g t cs hb h1 h2 => k g t cs (h g t cs hb h1 h2) h1 h2
theorem KeepsB.below {X Y : World} (h : Below X.heap.size X Y) : KeepsB X Y := fun g t cs hb _ _ => hb.below' h
theorem bufR_put {lo hi : Nat} {w : World} {T : Nat} {l : List Cell} (h : BufR lo hi w T l) (hlo : lo ≤ w.heap.size) (j : Nat) (hj : j < l.length) (x : Cell) :
    Calls Try.prog 81 #[.pointer (some ⟨T, 0, none⟩), .int .i64 (j : Nat), .agg #[.int .i64 x.1, .bool x.2]] w fun e w' => e = .returned (.bool true) ∧ BufR lo hi w' T (l.set j (normC x)) ∧ Hi hi w w' ∧ Below lo w w' ∧ KeepsB w w' := by
  obtain ⟨g, c, vs, M, mg, mc, mcs, W, h, h1, h2⟩ := h
  refine (put_yes T g c vs M mg mc mcs W l j x w h hj).mono ?_
  rintro e w' ⟨rfl, ⟨vs', mcs', W', hb⟩, hO⟩
  exact ⟨rfl, ⟨g, c, vs', M, mg, mc, mcs', W', hb, h1, h2⟩, ⟨hO.os, hO.tape, hO.output, hO.size, fun k hk hl => hO.other k hl (by omega) (by omega)⟩, hO.below hlo h1.2.1 h1.2.2.2, fun q t cs hq h3 h4 => hO.blk hq (Blk.ne_ hq h.row h3) (Blk.ne_ hq h.mask.hg h4)⟩
theorem Hi.trans {B : Nat} {X Y Z : World} (h : Hi B X Y) (k : Hi B Y Z) : Hi B X Z := ⟨k.os.trans h.os, k.tape.trans h.tape, k.output.trans h.output, Nat.le_trans h.size k.size, fun j hj hl => (k.high j hj (Nat.lt_of_lt_of_le hl h.size)).trans (h.high j hj hl)⟩
theorem Hi.of_below {B : Nat} {X Y : World} (h : Below X.heap.size X Y) : Hi B X Y := ⟨h.os, h.tape, h.output, h.size, fun k _ hl => h.block k hl⟩
theorem Hi.alloc {B : Nat} {X Y : World} (h : Hi B X Y) (o : Obj) : Hi B X (Y.alloc o) := h.trans (Hi.of_below (bl_alloc (Below.refl _ _) o))
set_option maxHeartbeats 1000000 in
theorem gat1_calls {bl lo hi : Nat} (T U H1 H2 : Nat) (l l2 : List Cell) (k p : Nat) (W : World) (hT : Buf bl W T l) (hU : BufR lo hi W U l2) (h1 : Blk W H1 57 #[.pointer (some ⟨T, 0, none⟩)]) (h2 : Blk W H2 57 #[.pointer (some ⟨U, 0, none⟩)]) (hp : p < l.length) (hk : k < l2.length) (hlo : lo ≤ W.heap.size) (hh : hi ≤ W.heap.size) :
    Calls Try.prog 89 #[.int .i64 (k : Nat), .int .i64 (p : Nat), .pointer (some ⟨H1, 0, none⟩), .pointer (some ⟨H2, 0, none⟩)] W fun e W' => e = .returned (.tuple #[]) ∧ BufR lo hi W' U (l2.set k (normC (nth l p))) ∧ Hi hi W W' ∧ Below lo W W' ∧ KeepsB W W' := by
  have c0 : W.cell? ⟨H1, 0, none⟩ = some (.pointer (some ⟨T, 0, none⟩)) := h1.cell 0
  have HG := Lib.hid (buf_get hT p hp)
  obtain ⟨x, hx⟩ : ∃ x, nth l p = x := ⟨_, rfl⟩
  rw [hx] at HG ⊢
  have HU := Lib.hid hU
  have HH2 := Lib.hid h2
  clear hT hU h1 h2 hx
  go_enter Try.func89, Try.ntmps89
  go_wp2_with fail
  refine HG.out.mono ?_
  rintro e w1 ⟨rfl, hB1⟩
  have hb2 := bl_alloc hB1 (.cells #[.int .i64 x.1, .bool x.2] 78)
  have k0 : (w1.alloc (.cells #[.int .i64 x.1, .bool x.2] 78)).cell? ⟨H2, 0, none⟩ = some (.pointer (some ⟨U, 0, none⟩)) := (HH2.out.below' hb2).cell 0
  have HP := Lib.hid (bufR_put (HU.out.low (fun b hb => hb2.block b (by omega))) (Nat.le_trans hlo hb2.size) k hk x)
  have HB2 := Lib.hid hb2
  clear hB1 hb2 c0
  go_wp2_with fail
  refine HP.out.mono ?_
  rintro e w2 ⟨rfl, hU2, hHi, hB2, hK2⟩
  have HK2 := Lib.hid hK2
  have HU2 := Lib.hid hU2
  have HHI := Lib.hid hHi
  have HB3 := Lib.hid hB2
  clear hU2 hHi hB2 k0 hK2
  go_wp2_with fail
  go_end0
  exact ⟨rfl, HU2.out, (Hi.of_below HB2.out).trans HHI.out, (HB2.out.mono hlo).trans HB3.out, (KeepsB.below HB2.out).trans HK2.out⟩
end Go.Proofs.Ythjkeefdeeljoaa.Shp
/- move.Gather. -/
namespace Go.Proofs.Ythjkeefdeeljoaa.Shp
open Go.RowKit Go.Shelf Go.Proofs.Ythjkeefdeeljoaa.Num Go.Proofs.Ythjkeefdeeljoaa.Cl
set_option linter.unusedVariables false
set_option linter.unusedSimpArgs false

theorem held_g {W : World} {H V : Nat} {T1 T2 : TypeId} {p x y z : Value} (h : Blk W H T1 #[p]) (h2 : Blk W V T2 #[x, y, z]) : W.cell? ⟨H, 0, none⟩ = some p ∧ W.cell? ⟨V, 0, none⟩ = some x ∧ W.cell? ⟨V, 1, none⟩ = some y ∧ W.cell? ⟨V, 2, none⟩ = some z := ⟨h.cell 0, h2.cell 0, h2.cell 1, h2.cell 2⟩
set_option maxRecDepth 100000 in
set_option maxHeartbeats 2000000 in
theorem gather_out (xs ys : List Int) (off : Int) (A B : Option Addr) (ca cb n m : Nat) (T : Nat) (l : List Cell) (bl : Nat) (most : Int) (w : World) (hx : ReadsI w .i64 A xs) (hy : ReadsI w .i64 B ys) (hn : xs.length = n) (hm : ys.length = m) (hl : n ≤ 1000000) (hl2 : m ≤ 1000000) (hT : Buf bl w T l)
    (hf : fitsB xs ys off l.length = false) :
    Calls Try.prog 38 #[.pointer (some ⟨T, 0, none⟩), .agg #[.slice A n ca, .slice B m cb, .int .i64 off], .int .i64 most] w fun e w' => e = .returned (.tuple #[.pointer none, .int .i64 2]) ∧ Below w.heap.size w w' := by
  obtain ⟨W0, hW0⟩ : ∃ W0, W0 = (w.alloc (.cells #[.pointer (some ⟨T, 0, none⟩)] 57)).alloc (.cells #[.slice A n ca, .slice B m cb, .int .i64 off] 34) := ⟨_, rfl⟩
  have hb0 : Below w.heap.size w W0 := by rw [hW0]; exact bl_alloc (bl_alloc (Below.refl _ _) _) _
  have hb : Blk W0 w.heap.size 57 #[.pointer (some ⟨T, 0, none⟩)] := by rw [hW0]; exact (Blk.new _ _ _).alloc _
  have hv : Blk W0 (w.heap.size + 1) 34 #[.slice A n ca, .slice B m cb, .int .i64 off] := by rw [hW0]; exact Blk.new' (by simp) _ _
  have HLEN := Lib.hid (fun W (h : Below w.heap.size w W) => buf_len (hT.below h))
  have HFIT := Lib.hid (fun W (h : Below w.heap.size w W) => fits_calls xs ys off A B ca cb n m (l.length : Int) W (hx.below h) (hy.below h) hn hm hl hl2)
  rw [hf] at HFIT
  have HB0 := Lib.hid hb0
  have HB := Lib.hid hb
  have HV := Lib.hid hv
  have HW0 := Lib.hid hW0
  clear hx hy hb0 hb hv hW0 hf hn hm hT
  go_enter Try.func38, Try.ntmps38
  go_upto_region 1 with fail
  rw [← HW0.out]
  obtain ⟨k3, k0, k1, k2⟩ := held_g HB.out HV.out
  go_region_held3 (fun W => W.cell? ⟨w.heap.size, 0, none⟩ = some (.pointer (some ⟨T, 0, none⟩)) ∧ W.cell? ⟨w.heap.size + 1, 0, none⟩ = some (.slice A n ca) ∧ W.cell? ⟨w.heap.size + 1, 1, none⟩ = some (.slice B m cb) ∧ W.cell? ⟨w.heap.size + 1, 2, none⟩ = some (.int .i64 off))
    (first | exact ⟨k3, k0, k1, k2⟩ | exact held_g (HB.out.drew.below' HBF.out) (HV.out.drew.below' HBF.out))
    (first
    | (go_at_call 83; refine (HLEN.out _ (bl_drew HB0.out)).mono ?_; rintro e wA ⟨rfl, rfl⟩)
    | (go_at_call 82; refine (HFIT.out _ (bl_drew HB0.out)).mono ?_; rintro e wF ⟨rfl, hBF⟩; have HBF := Lib.hid hBF; clear hBF))
  go_wp2_with fail
  go_ret2
  exact ⟨rfl, bl_then (bl_drew HB0.out) HBF.out⟩
/-- What is gathered. -/
def gathL (xs ys : List Int) (off : Int) (l : List Cell) : List Cell := (List.range (cellsN xs ys off)).map fun k => nth l (plO xs ys off k).toNat
theorem gathL_length (xs ys : List Int) (off : Int) (l : List Cell) : (gathL xs ys off l).length = cellsN xs ys off := by simp [gathL]
theorem gathL_nth (xs ys : List Int) (off : Int) (l : List Cell) (k : Nat) (h : k < cellsN xs ys off) : nth (gathL xs ys off l) k = nth l (plO xs ys off k).toNat := by
  rw [nth_eq _ _ (by rw [gathL_length]; exact h)]
  simp [gathL]
theorem fits_vr {xs ys : List Int} {off n : Int} (hf : fitsB xs ys off n = true) : vrB xs ys off = true := by unfold fitsB at hf; simp only [Bool.and_eq_true] at hf; exact hf.1
set_option maxRecDepth 100000 in
set_option maxHeartbeats 2000000 in
theorem gather_limit (xs ys : List Int) (off : Int) (A B : Option Addr) (ca cb n m : Nat) (T : Nat) (l : List Cell) (bl : Nat) (most : Int) (w : World) (hx : ReadsI w .i64 A xs) (hy : ReadsI w .i64 B ys) (hn : xs.length = n) (hm : ys.length = m) (hl : n ≤ 1000000) (hl2 : m ≤ 1000000) (hT : Buf bl w T l)
    (hf : fitsB xs ys off l.length = true) (hmo : min (max most 0) 1048576 < (cellsN xs ys off : Int)) :
    Calls Try.prog 38 #[.pointer (some ⟨T, 0, none⟩), .agg #[.slice A n ca, .slice B m cb, .int .i64 off], .int .i64 most] w fun e w' => e = .returned (.tuple #[.pointer none, .int .i64 7]) ∧ Below w.heap.size w w' := by
  obtain ⟨W0, hW0⟩ : ∃ W0, W0 = (w.alloc (.cells #[.pointer (some ⟨T, 0, none⟩)] 57)).alloc (.cells #[.slice A n ca, .slice B m cb, .int .i64 off] 34) := ⟨_, rfl⟩
  have hb0 : Below w.heap.size w W0 := by rw [hW0]; exact bl_alloc (bl_alloc (Below.refl _ _) _) _
  have hb : Blk W0 w.heap.size 57 #[.pointer (some ⟨T, 0, none⟩)] := by rw [hW0]; exact (Blk.new _ _ _).alloc _
  have hv : Blk W0 (w.heap.size + 1) 34 #[.slice A n ca, .slice B m cb, .int .i64 off] := by rw [hW0]; exact Blk.new' (by simp) _ _
  have hvr := fits_vr hf
  have HLEN := Lib.hid (fun W (h : Below w.heap.size w W) => buf_len (hT.below h))
  have HFIT := Lib.hid (fun W (h : Below w.heap.size w W) => fits_calls xs ys off A B ca cb n m (l.length : Int) W (hx.below h) (hy.below h) hn hm hl hl2)
  rw [hf] at HFIT
  have HSZ := Lib.hid (fun W (h : Below w.heap.size w W) => msize_calls xs ys off A B ca cb n m W (hx.below h) hn hl (cellsN xs ys off) (vrB_out hvr).1 (cellsN_prod hvr))
  have HRM := Lib.hid (fun W => mroom_no (cellsN xs ys off) most W hmo)
  have HB0 := Lib.hid hb0
  have HB := Lib.hid hb
  have HV := Lib.hid hv
  have HW0 := Lib.hid hW0
  generalize cellsN xs ys off = N at *
  clear hx hy hb0 hb hv hW0 hf hn hm hT hvr hmo
  go_enter Try.func38, Try.ntmps38
  go_upto_region 1 with fail
  rw [← HW0.out]
  obtain ⟨k3, k0, k1, k2⟩ := held_g HB.out HV.out
  go_region_held3 (fun W => W.cell? ⟨w.heap.size, 0, none⟩ = some (.pointer (some ⟨T, 0, none⟩)) ∧ W.cell? ⟨w.heap.size + 1, 0, none⟩ = some (.slice A n ca) ∧ W.cell? ⟨w.heap.size + 1, 1, none⟩ = some (.slice B m cb) ∧ W.cell? ⟨w.heap.size + 1, 2, none⟩ = some (.int .i64 off))
    (first | exact ⟨k3, k0, k1, k2⟩ | exact held_g (HB.out.drew.below' HBF.out) (HV.out.drew.below' HBF.out))
    (first
    | (go_at_call 83; refine (HLEN.out _ (bl_drew HB0.out)).mono ?_; rintro e wA ⟨rfl, rfl⟩)
    | (go_at_call 82; refine (HFIT.out _ (bl_drew HB0.out)).mono ?_; rintro e wF ⟨rfl, hBF⟩; have HBF := Lib.hid hBF; clear hBF))
  have HB1 := Lib.hid (bl_then (bl_drew HB0.out) HBF.out)
  have HV1 := Lib.hid (HV.out.drew.below' HBF.out)
  clear k0 k1 k2 k3
  obtain ⟨k0, k1, k2⟩ := seen_view HV1.out
  go_wp2_with fail
  refine (HSZ.out _ HB1.out).mono ?_
  rintro e w2 ⟨rfl, hB2⟩
  have HB2 := Lib.hid (bl_then HB1.out hB2)
  clear hB2 k0 k1 k2
  go_wp2_with fail
  refine (HRM.out _).mono ?_
  rintro e w3 ⟨rfl, rfl⟩
  go_wp2_with fail
  go_ret2
  exact ⟨rfl, HB2.out.alloc HB2.out.size _⟩
theorem gath_norm {xs ys : List Int} {off : Int} {l : List Cell} (hf : fitsB xs ys off l.length = true) (hn : ∀ i, i < l.length → normC (nth l i) = nth l i) : (gathL xs ys off l).map normC = gathL xs ys off l := by
  apply List.ext_getElem (by simp)
  intro i h1 h2
  rw [List.getElem_map]
  rw [gathL_length] at h2
  have h3 : (gathL xs ys off l)[i]'(by rw [gathL_length]; exact h2) = nth l (plO xs ys off i).toNat := by
    rw [← gathL_nth xs ys off l i h2, nth_eq]
  rw [h3]
  have := fits_in hf i h2
  exact hn _ (by omega)
/-- Between two rounds of what is gathered. -/
structure GaR (vc : Array Value) (L : List Cell) (w : World) (base T U X : Nat) (k : Nat) (W : World) : Prop where
  o : BufR w.heap.size base W U (laidC L k)
  bb : Blk W w.heap.size 57 #[.pointer (some ⟨T, 0, none⟩)]
  ob : Blk W X 57 #[.pointer (some ⟨U, 0, none⟩)]
  vb : Blk W (w.heap.size + 1) 34 vc
  below : Below w.heap.size w W
theorem gaR_low (vc : Array Value) (L : List Cell) (w : World) (base T U X : Nat) (h1 : w.heap.size + 1 < base) (h2 : X < base) : LowOnly base (GaR vc L w base T U X) := fun k W W' h hos htp hout hsz hlow =>
  ⟨h.o.low hlow, (hlow _ (by omega)).trans h.bb, (hlow _ h2).trans h.ob, (hlow _ h1).trans h.vb, ⟨hos.trans h.below.os, htp.trans h.below.tape, hout.trans h.below.output, Nat.le_trans h.below.size hsz, fun b hb => (hlow b (by omega)).trans (h.below.block b hb)⟩⟩
set_option maxRecDepth 100000 in
set_option maxHeartbeats 2000000 in
theorem gather_yes (xs ys : List Int) (off : Int) (A B : Option Addr) (ca cb n m : Nat) (T : Nat) (l : List Cell) (bl : Nat) (most : Int) (w : World) (hx : ReadsI w .i64 A xs) (hy : ReadsI w .i64 B ys) (hn : xs.length = n) (hm : ys.length = m) (hl : n ≤ 1000000) (hl2 : m ≤ 1000000) (hT : Buf bl w T l)
    (hf : fitsB xs ys off l.length = true) (hmo : (cellsN xs ys off : Int) ≤ min (max most 0) 1048576) :
    Calls Try.prog 38 #[.pointer (some ⟨T, 0, none⟩), .agg #[.slice A n ca, .slice B m cb, .int .i64 off], .int .i64 most] w fun e w' => ∃ U, e = .returned (.tuple #[.pointer (some ⟨U, 0, none⟩), .int .i64 0]) ∧ Buf w.heap.size w' U (gathL xs ys off l) ∧ Below w.heap.size w w' := by
  obtain ⟨W0, hW0⟩ : ∃ W0, W0 = (w.alloc (.cells #[.pointer (some ⟨T, 0, none⟩)] 57)).alloc (.cells #[.slice A n ca, .slice B m cb, .int .i64 off] 34) := ⟨_, rfl⟩
  have hb0 : Below w.heap.size w W0 := by rw [hW0]; exact bl_alloc (bl_alloc (Below.refl _ _) _) _
  have hb : Blk W0 w.heap.size 57 #[.pointer (some ⟨T, 0, none⟩)] := by rw [hW0]; exact (Blk.new _ _ _).alloc _
  have hv : Blk W0 (w.heap.size + 1) 34 #[.slice A n ca, .slice B m cb, .int .i64 off] := by rw [hW0]; exact Blk.new' (by simp) _ _
  have hvr := fits_vr hf
  have HLEN := Lib.hid (fun W (h : Below w.heap.size w W) => buf_len (hT.below h))
  have HFIT := Lib.hid (fun W (h : Below w.heap.size w W) => fits_calls xs ys off A B ca cb n m (l.length : Int) W (hx.below h) (hy.below h) hn hm hl hl2)
  rw [hf] at HFIT
  have HSZ := Lib.hid (fun W (h : Below w.heap.size w W) => msize_calls xs ys off A B ca cb n m W (hx.below h) hn hl (cellsN xs ys off) (vrB_out hvr).1 (cellsN_prod hvr))
  have HRM := Lib.hid (fun W => mroom_yes (cellsN xs ys off) most W hmo)
  have HPL := Lib.hid (fun W (h : Below w.heap.size w W) => plain_calls xs ys off A B ca cb n m W (hx.below h) (hy.below h) hn hm hvr (cellsN xs ys off) (cellsN_prod hvr))
  have HB0 := Lib.hid hb0
  have HB := Lib.hid hb
  have HV := Lib.hid hv
  have HW0 := Lib.hid hW0
  have HX := Lib.hid hx
  have HY := Lib.hid hy
  have HNN := Lib.hid hn
  have HMM := Lib.hid hm
  have HT := Lib.hid hT
  have HF := Lib.hid hf
  have HMO := Lib.hid hmo
  clear hx hy hb0 hb hv hW0 hf hn hm hT hvr hmo
  go_enter Try.func38, Try.ntmps38
  go_upto_region 1 with fail
  rw [← HW0.out]
  obtain ⟨k3, k0, k1, k2⟩ := held_g HB.out HV.out
  go_region_held3 (fun W => W.cell? ⟨w.heap.size, 0, none⟩ = some (.pointer (some ⟨T, 0, none⟩)) ∧ W.cell? ⟨w.heap.size + 1, 0, none⟩ = some (.slice A n ca) ∧ W.cell? ⟨w.heap.size + 1, 1, none⟩ = some (.slice B m cb) ∧ W.cell? ⟨w.heap.size + 1, 2, none⟩ = some (.int .i64 off))
    (first | exact ⟨k3, k0, k1, k2⟩ | exact held_g (HB.out.drew.below' HBF.out) (HV.out.drew.below' HBF.out))
    (first
    | (go_at_call 83; refine (HLEN.out _ (bl_drew HB0.out)).mono ?_; rintro e wA ⟨rfl, rfl⟩)
    | (go_at_call 82; refine (HFIT.out _ (bl_drew HB0.out)).mono ?_; rintro e wF ⟨rfl, hBF⟩; have HBF := Lib.hid hBF; clear hBF))
  have HB1 := Lib.hid (bl_then (bl_drew HB0.out) HBF.out)
  have HV1 := Lib.hid (HV.out.drew.below' HBF.out)
  have HBB1 := Lib.hid (HB.out.drew.below' HBF.out)
  clear k0 k1 k2 k3
  obtain ⟨k0, k1, k2⟩ := seen_view HV1.out
  go_wp2_with fail
  refine (HSZ.out _ HB1.out).mono ?_
  rintro e w2 ⟨rfl, hB2⟩
  have HB2 := Lib.hid (bl_then HB1.out hB2)
  have HV2 := Lib.hid (HV1.out.below' hB2)
  have HBB2 := Lib.hid (HBB1.out.below' hB2)
  clear hB2 k0 k1 k2
  go_wp2_with fail
  refine (HRM.out _).mono ?_
  rintro e w3 ⟨U, rfl, hU, hB3⟩
  obtain ⟨W4, hW4⟩ : ∃ W4, W4 = w3.alloc (.cells #[.pointer (some ⟨U, 0, none⟩)] 57) := ⟨_, rfl⟩
  obtain ⟨X, hX⟩ : ∃ X, X = w3.heap.size := ⟨_, rfl⟩
  have hb34 : Below w3.heap.size w3 W4 := by rw [hW4]; exact bl_alloc (Below.refl _ _) _
  have HB4 := Lib.hid (bl_then (bl_then HB2.out hB3) hb34)
  have HV4 := Lib.hid ((HV2.out.below' hB3).below' hb34)
  have HBB4 := Lib.hid ((HBB2.out.below' hB3).below' hb34)
  have HU4 := Lib.hid ((hU.wide HB2.out.size).below hb34)
  have HOB4 : Hid (Blk W4 X 57 #[.pointer (some ⟨U, 0, none⟩)]) := Lib.hid (by rw [hW4, hX]; exact Blk.new _ _ _)
  have HS4 : Hid (W4.heap.size = X + 1) := Lib.hid (by rw [hW4, hX]; simp)
  have HXW : Hid (w.heap.size + 1 < X) := Lib.hid (by have h1 := HV2.out.lt; have h2 := hB3.size; omega)
  have HW4 := Lib.hid hW4
  have HX4 := Lib.hid hX
  obtain ⟨k0, k1, k2⟩ := seen_view HV4.out
  rw [hW4] at k0 k1 k2
  clear hU hB3 hb34 hW4 hX
  go_wp2_with fail
  rw [← HW4.out, ← HX4.out]
  clear k0 k1 k2
  refine (HPL.out _ HB4.out).mono ?_
  rintro e w5 ⟨rfl, hB5⟩
  have HB5 := Lib.hid (bl_then HB4.out hB5)
  have HV5 := Lib.hid (HV4.out.below' hB5)
  have HBB5 := Lib.hid (HBB4.out.below' hB5)
  have HU5 := Lib.hid (HU4.out.below hB5)
  have HOB5 := Lib.hid (HOB4.out.below' hB5)
  have HS5 : Hid (X + 1 ≤ w5.heap.size) := Lib.hid (by have := hB5.size; have := HS4.out; omega)
  clear hB5
  cases hpl : (denB xs ys off && decide (0 < cellsN xs ys off)) with
  | true =>
    simp only [Bool.and_eq_true, decide_eq_true_eq] at hpl
    obtain ⟨f, hf⟩ := Int.eq_ofNat_of_zero_le (show 0 ≤ off from (vrB_out (fits_vr HF.out)).2.2.2.1)
    have hlast := (fits_in HF.out (cellsN xs ys off - 1) (by omega)).2
    rw [den_pl (fits_vr HF.out) hpl.1 _ (by omega)] at hlast
    have hfl : f + cellsN xs ys off ≤ l.length := by omega
    have hgl : copyC (List.replicate (cellsN xs ys off) (0, false)) l 0 f (cellsN xs ys off) = gathL xs ys off l := by
      apply List.ext_getElem (by rw [copyC_length _ _ _ _ _ (by simp) hfl, gathL_length]; simp)
      intro i h1 h2
      rw [gathL_length] at h2
      have e1 : (gathL xs ys off l)[i]'(by rw [gathL_length]; exact h2) = nth l (plO xs ys off i).toNat := by
        rw [← gathL_nth xs ys off l i h2, nth_eq]
      have e2 : (copyC (List.replicate (cellsN xs ys off) (0, false)) l 0 f (cellsN xs ys off))[i]'h1 = nth l (f + i) := by
        rw [← nth_eq _ _ h1, copyC_nth _ _ _ _ _ i (by simp) hfl (by simpa using h2), if_pos (by omega), Nat.sub_zero]
      rw [e1, e2, den_pl (fits_vr HF.out) hpl.1 i h2, hf]
      congr 1
    obtain ⟨gU, cU, vU, MU, mgU, mcU, mcsU, WU, hbU, hU1, hU2, hU3, hU4⟩ := HU5.out
    obtain ⟨gT, cT, vT, MT, mgT, mcT, mcsT, WT, hbT, _⟩ := HT.out.below HB5.out
    have hCP := bcopy_calls U gU cU vU MU mgU mcU mcsU WU _ T gT cT vT MT mgT mcT mcsT WT l 0 f (cellsN xs ys off) w5.drew (hbU.below (bl_drew (Below.refl _ _))) (hbT.below (bl_drew (Below.refl _ _))) (by simp) hfl (by omega)
    rw [hgl] at hCP
    have HCP := Lib.hid hCP
    have hLN := blen_calls U gU cU vU MU mgU mcU mcsU WU _ w5.drew (hbU.below (bl_drew (Below.refl _ _)))
    rw [List.length_replicate] at hLN
    have HLN := Lib.hid hLN
    have HAP := Lib.hid (show w.heap.size ≤ U ∧ w.heap.size ≤ gU ∧ w.heap.size ≤ MU ∧ w.heap.size ≤ mgU from ⟨hU1, hU2, hU3, hU4⟩)
    have HROW := Lib.hid hbU.row
    have HMG := Lib.hid hbU.mask.hg
    obtain ⟨k3, k0, k1, k2⟩ := held_g HBB5.out HV5.out
    have k4 : w5.cell? ⟨X, 0, none⟩ = some (.pointer (some ⟨U, 0, none⟩)) := HOB5.out.cell 0
    rw [hf] at k2
    have HFO := Lib.hid hf
    clear hlast hfl hgl hbU hbT hU1 hU2 hU3 hU4 hCP hLN hpl hf
    obtain ⟨L, hL⟩ : ∃ L, L = gathL xs ys off l := ⟨_, rfl⟩
    rw [← hL] at HCP
    have HLL := Lib.hid hL
    clear hL
    generalize cellsN xs ys off = N at *
    go_upto_region 7 with fail
    go_region_held3 (fun W => W.cell? ⟨w.heap.size, 0, none⟩ = some (.pointer (some ⟨T, 0, none⟩)) ∧ W.cell? ⟨w.heap.size + 1, 2, none⟩ = some (.int .i64 (f : Nat)) ∧ W.cell? ⟨X, 0, none⟩ = some (.pointer (some ⟨U, 0, none⟩)))
      (first | exact ⟨k3, k2, k4⟩ | exact HHE.out)
      (first
      | (go_at_call 83; refine HLN.out.mono ?_; rintro e wA ⟨rfl, rfl⟩)
      | (go_at_call 87; refine HCP.out.mono ?_; rintro e wC ⟨rfl, hbC, hOC⟩; have HBC := Lib.hid hbC; have HOC := Lib.hid hOC; have hq : ∀ q t cs, Blk w5 q t cs → t ≠ 2 → t ≠ 151 → Blk wC q t cs := fun q t cs hb h1 h2 => hOC.blk hb.drew (Blk.ne_ hb HROW.out h1) (Blk.ne_ hb HMG.out h2); have HHE := Lib.hid (show wC.cell? ⟨w.heap.size, 0, none⟩ = some (.pointer (some ⟨T, 0, none⟩)) ∧ wC.cell? ⟨w.heap.size + 1, 2, none⟩ = some (.int .i64 (f : Nat)) ∧ wC.cell? ⟨X, 0, none⟩ = some (.pointer (some ⟨U, 0, none⟩)) from ⟨(hq _ _ _ HBB5.out (by decide) (by decide)).cell 0, ((hq _ _ _ HV5.out (by decide) (by decide)).cell 2).trans (by rw [HFO.out]; rfl), (hq _ _ _ HOB5.out (by decide) (by decide)).cell 0⟩); have HOX := Lib.hid (hq _ _ _ HOB5.out (by decide) (by decide)); clear hbC hOC hq))
    have k5 : wC.cell? ⟨X, 0, none⟩ = some (.pointer (some ⟨U, 0, none⟩)) := HOX.out.cell 0
    go_wp2_with fail
    go_ret2
    obtain ⟨vs', mcs', W', hB⟩ := HBC.out
    rw [HLL.out] at hB
    exact ⟨U, rfl, ⟨gU, cU, vs', MU, mgU, mcU, mcs', W', hB, HAP.out.1, HAP.out.2.1, HAP.out.2.2.1, HAP.out.2.2.2⟩, (bl_drew HB5.out).trans (HOC.out.below (bl_drew HB5.out).size HAP.out.2.1 HAP.out.2.2.2)⟩
  | false =>
    obtain ⟨L, hL⟩ : ∃ L, L = gathL xs ys off l := ⟨_, rfl⟩
    have hLl : L.length = cellsN xs ys off := by rw [hL, gathL_length]
    have hnrm : ∀ i, i < l.length → normC (nth l i) = nth l i := by
      obtain ⟨g, c, vs, M, mg, mc, mcs, W, h, _⟩ := HT.out
      exact h.norm
    have hT5 : Buf bl w5.drew T l := (HT.out.below HB5.out).below (bl_drew (Below.refl _ _))
    have hU5 : BufR w.heap.size w5.drew.heap.size w5.drew U (laidC L 0) := by
      have h := (HU5.out.below (bl_drew (Below.refl w5.heap.size w5)))
      have e : laidC L 0 = List.replicate (cellsN xs ys off) (0, false) := by simp [laidC, hLl]
      rw [e]
      exact buf_toR h (Nat.le_refl _)
    have hR0 : GaR #[.slice A n ca, .slice B m cb, .int .i64 off] L w w5.drew.heap.size T U X 0 w5.drew := ⟨hU5, HBB5.out.drew, HOB5.out.drew, HV5.out.drew, bl_drew HB5.out⟩
    have HEA := Lib.hid (each_calls xs ys off A B ca cb n m T l bl 89 #[.pointer (some ⟨w.heap.size, 0, none⟩), .pointer (some ⟨X, 0, none⟩)] w5.drew (HX.out.below (bl_drew HB5.out)) (HY.out.below (bl_drew HB5.out)) HNN.out HMM.out hl hl2 hT5 HF.out (fun _ _ => rfl) (GaR #[.slice A n ca, .slice B m cb, .int .i64 off] L w w5.drew.heap.size T U X) (gaR_low _ L w _ T U X (by have := HS5.out; have := HXW.out; show w.heap.size + 1 < w5.heap.size; omega) (by have := HS5.out; show X < w5.heap.size; omega)) hR0
      (fun k W hk hsz hr => by
        have hin := fits_in HF.out k hk
        obtain ⟨p, hp⟩ := Int.eq_ofNat_of_zero_le hin.1
        have hset := laidC_set L k (by rw [hLl]; exact hk)
        have e1 : nth L k = nth l p := by rw [hL, gathL_nth xs ys off l k hk, hp, Int.toNat_natCast]
        rw [e1] at hset
        have h := gat1_calls T U w.heap.size X l (laidC L k) k p W (HT.out.below hr.below) hr.o hr.bb hr.ob (by omega) (by rw [laidC_length L k (by rw [hLl]; omega), hLl]; exact hk) hr.below.size hsz
        rw [hset] at h
        rw [hp]
        refine h.mono ?_
        rintro e W' ⟨rfl, h1, h2, h3, h4⟩
        exact ⟨rfl, ⟨h1, h4 _ _ _ hr.bb (by decide) (by decide), h4 _ _ _ hr.ob (by decide) (by decide), h4 _ _ _ hr.vb (by decide) (by decide), hr.below.trans h3⟩, h2⟩))
    have HLL := Lib.hid hL
    have HLN := Lib.hid hLl
    have HNRM := Lib.hid hnrm
    go_upto_region 9 with fail
    obtain ⟨k3, k0, k1, k2⟩ := held_g HBB5.out HV5.out
    have k4 : w5.cell? ⟨X, 0, none⟩ = some (.pointer (some ⟨U, 0, none⟩)) := HOB5.out.cell 0
    clear hL hLl hnrm hT5 hU5 hR0 hpl
    go_region_held3 (fun W => W.cell? ⟨w.heap.size, 0, none⟩ = some (.pointer (some ⟨T, 0, none⟩)) ∧ W.cell? ⟨w.heap.size + 1, 0, none⟩ = some (.slice A n ca) ∧ W.cell? ⟨w.heap.size + 1, 1, none⟩ = some (.slice B m cb) ∧ W.cell? ⟨w.heap.size + 1, 2, none⟩ = some (.int .i64 off) ∧ W.cell? ⟨X, 0, none⟩ = some (.pointer (some ⟨U, 0, none⟩)))
      (first | exact ⟨k3, k0, k1, k2, k4⟩ | exact HHE.out)
      ((go_at_call 88; refine HEA.out.mono ?_; rintro e wE ⟨rfl, hRE, hSE⟩; have HRE := Lib.hid hRE; have HHE := Lib.hid (show wE.cell? ⟨w.heap.size, 0, none⟩ = some (.pointer (some ⟨T, 0, none⟩)) ∧ wE.cell? ⟨w.heap.size + 1, 0, none⟩ = some (.slice A n ca) ∧ wE.cell? ⟨w.heap.size + 1, 1, none⟩ = some (.slice B m cb) ∧ wE.cell? ⟨w.heap.size + 1, 2, none⟩ = some (.int .i64 off) ∧ wE.cell? ⟨X, 0, none⟩ = some (.pointer (some ⟨U, 0, none⟩)) from ⟨hRE.bb.cell 0, hRE.vb.cell 0, hRE.vb.cell 1, hRE.vb.cell 2, hRE.ob.cell 0⟩); clear hRE hSE))
    go_wp2_with fail
    go_ret2
    refine ⟨U, rfl, ?_, HRE.out.below⟩
    have h := HRE.out.o.buf
    rw [← HLN.out, laidC_all, HLL.out, gath_norm HF.out HNRM.out] at h
    exact h
end Go.Proofs.Ythjkeefdeeljoaa.Shp
/- move.Pick. -/
namespace Go.Proofs.Ythjkeefdeeljoaa.Shp
open Go.RowKit Go.Shelf Go.Proofs.Ythjkeefdeeljoaa.Num Go.Proofs.Ythjkeefdeeljoaa.Cl
set_option linter.unusedVariables false
set_option linter.unusedSimpArgs false

theorem indexP_calls (xs : List Int) (pr : Int → Bool) (A : Option Addr) (ca : Nat) (gf : FuncId) (lb : Array Value) (w : World) (hx : ReadsI w .i64 A xs) (hl : xs.length ≤ 9223372036854775807) (hg : Fun Try.prog gf)
    (hc : ∀ x, Calls Try.prog gf (#[.int .i64 x] ++ lb) w fun e w' => e = .returned (.bool (pr x)) ∧ w = w') :
    Calls Try.prog 123 #[.slice A xs.length ca, .func (.func gf) #[] lb] w fun e w' => (∃ k : Int, e = .returned (.int .i64 k) ∧ decide (0 ≤ k) = xs.any pr) ∧ w = w' := by
  have HX := Lib.hid hx
  have HC := Lib.hid hc
  have hfun := hg
  unfold Fun at hfun
  clear hx hc
  go_enter Try.func123, Try.ntmps123
  go_wp2_with fail
  go_loop [5, 8] (fun _ i => ∃ k : Nat, i = .int .i64 k ∧ k ≤ xs.length ∧ Hid ((xs.take k).any pr = false)) (fun _ i => xs.length - (intOf i).toNat)
  case atStart => exact ⟨0, rfl, Nat.zero_le _, Lib.hid (by simp)⟩
  case round =>
    obtain ⟨k, rfl, hk, HA⟩ := hrel
    by_cases hlt : k < xs.length
    · obtain ⟨b, off, rfl, hcc⟩ := HX.out k hlt
      have HT := Lib.hid (take_nth xs k hlt)
      have HM := Lib.hid (nth_mem xs k hlt)
      generalize nth xs k = x at *
      have HB' := Lib.hid (HC.out x)
      clear HC
      go_wp2_with fail
      refine HB'.out.mono ?_
      rintro e w' ⟨rfl, rfl⟩
      cases hb : pr x with
      | true =>
        have HBX := Lib.hid hb
        clear hb
        go_wp2_with fail
        go_ret
        refine ⟨⟨k, rfl, ?_⟩, rfl⟩
        have h1 : xs.any pr = true := List.any_eq_true.2 ⟨x, HM.out, HBX.out⟩
        rw [h1]; simp
      | false =>
        have HBX := Lib.hid hb
        clear hb
        go_wp2_with fail
        go_round
        case measure => first | (simp [intOf]; done) | (simp [intOf]; omega)
        case rel => exact ⟨k + 1, by go_num, by omega, Lib.hid (by rw [HT.out, List.any_append, HA.out]; simp [HBX.out])⟩
    · go_wp2_with fail
      go_ret
      have := HA.out
      rw [List.take_of_length_le (by omega)] at this
      exact ⟨⟨-1, rfl, by rw [this]; rfl⟩, rfl⟩
theorem containsP_calls (xs : List Int) (pr : Int → Bool) (A : Option Addr) (ca : Nat) (gf : FuncId) (lb : Array Value) (w : World) (hx : ReadsI w .i64 A xs) (hl : xs.length ≤ 9223372036854775807) (hg : Fun Try.prog gf)
    (hc : ∀ x, Calls Try.prog gf (#[.int .i64 x] ++ lb) w fun e w' => e = .returned (.bool (pr x)) ∧ w = w') :
    Calls Try.prog 90 #[.slice A xs.length ca, .func (.func gf) #[] lb] w fun e w' => e = .returned (.bool (xs.any pr)) ∧ w = w' := by
  have HI := Lib.hid (indexP_calls xs pr A ca gf lb w hx hl hg hc)
  clear hx hc
  go_enter Try.func90, Try.ntmps90
  go_wp2_with fail
  refine HI.out.mono ?_
  rintro e w' ⟨⟨k, rfl, hk⟩, rfl⟩
  have HK := Lib.hid hk
  clear hk
  go_wp2_with fail
  go_ret
  exact ⟨ret_bool HK.out, rfl⟩
theorem pick1_calls {bl : Nat} (T H : Nat) (l : List Cell) (x : Int) (w : World) (hT : Buf bl w T l) (hb : Blk w H 57 #[.pointer (some ⟨T, 0, none⟩)]) : Calls Try.prog 91 #[.int .i64 x, .pointer (some ⟨H, 0, none⟩)] w fun e w' => e = .returned (.bool (decide ((l.length : Int) ≤ x))) ∧ w = w' := by
  have HL := Lib.hid (buf_len hT)
  have c0 : w.cell? ⟨H, 0, none⟩ = some (.pointer (some ⟨T, 0, none⟩)) := hb.cell 0
  clear hT hb
  go_enter Try.func91, Try.ntmps91
  go_wp2_with fail
  refine HL.out.mono ?_
  rintro e w' ⟨rfl, rfl⟩
  go_wp2_with fail
  go_ret
  exact ⟨rfl, rfl⟩
/-- The cells at some places. -/
def pickL (ps : List Int) (l : List Cell) : List Cell := ps.map fun p => if p < 0 then (0, false) else nth l p.toNat
theorem pickL_length (ps : List Int) (l : List Cell) : (pickL ps l).length = ps.length := by simp [pickL]
theorem pickL_nth (ps : List Int) (l : List Cell) (k : Nat) (h : k < ps.length) : nth (pickL ps l) k = if nth ps k < 0 then (0, false) else nth l (nth ps k).toNat := by
  rw [nth_eq _ _ (by rw [pickL_length]; exact h), nth_eq _ _ h]
  simp [pickL]
def pickB (ps : List Int) (n : Nat) : Bool := ps.any fun x => decide ((n : Int) ≤ x)
theorem pickB_no {ps : List Int} {n : Nat} (h : pickB ps n = false) (k : Nat) (hk : k < ps.length) : nth ps k < n := by
  unfold pickB at h
  rw [List.any_eq_false] at h
  have := h _ (nth_mem ps k hk)
  simp at this
  omega
set_option maxRecDepth 100000 in
set_option maxHeartbeats 1000000 in
theorem mpick_out (ps : List Int) (C : Option Addr) (cc : Nat) (T : Nat) (l : List Cell) (bl : Nat) (most : Int) (w : World) (hp : ReadsI w .i64 C ps) (hl : ps.length ≤ 1000000) (hT : Buf bl w T l) (hb : pickB ps l.length = true) :
    Calls Try.prog 40 #[.pointer (some ⟨T, 0, none⟩), .slice C ps.length cc, .int .i64 most] w fun e w' => e = .returned (.tuple #[.pointer none, .int .i64 2]) ∧ Below w.heap.size w w' := by
  have hb0 : Below w.heap.size w (w.alloc (.cells #[.pointer (some ⟨T, 0, none⟩)] 57)) := bl_alloc (Below.refl _ _) _
  have hbk : Blk (w.alloc (.cells #[.pointer (some ⟨T, 0, none⟩)] 57)) w.heap.size 57 #[.pointer (some ⟨T, 0, none⟩)] := Blk.new _ _ _
  have hC := containsP_calls ps (fun x => decide ((l.length : Int) ≤ x)) C cc 91 #[.pointer (some ⟨w.heap.size, 0, none⟩)] _ (hp.below hb0) (by omega) (fun _ _ => rfl) (fun x => pick1_calls T w.heap.size l x _ (hT.below hb0) hbk)
  have e : (ps.any fun x => decide ((l.length : Int) ≤ x)) = true := hb
  rw [e] at hC
  have HC := Lib.hid hC
  have HB0 := Lib.hid hb0
  clear hp hT hb0 hbk hC e hb
  go_enter Try.func40, Try.ntmps40
  go_wp2_with fail
  refine HC.out.mono ?_
  rintro e w1 ⟨rfl, rfl⟩
  go_wp2_with fail
  go_ret2
  exact ⟨rfl, HB0.out⟩
set_option maxRecDepth 100000 in
set_option maxHeartbeats 1000000 in
theorem mpick_limit (ps : List Int) (C : Option Addr) (cc : Nat) (T : Nat) (l : List Cell) (bl : Nat) (most : Int) (w : World) (hp : ReadsI w .i64 C ps) (hl : ps.length ≤ 1000000) (hT : Buf bl w T l) (hb : pickB ps l.length = false) (hmo : min (max most 0) 1048576 < (ps.length : Int)) :
    Calls Try.prog 40 #[.pointer (some ⟨T, 0, none⟩), .slice C ps.length cc, .int .i64 most] w fun e w' => e = .returned (.tuple #[.pointer none, .int .i64 7]) ∧ Below w.heap.size w w' := by
  have hb0 : Below w.heap.size w (w.alloc (.cells #[.pointer (some ⟨T, 0, none⟩)] 57)) := bl_alloc (Below.refl _ _) _
  have hbk : Blk (w.alloc (.cells #[.pointer (some ⟨T, 0, none⟩)] 57)) w.heap.size 57 #[.pointer (some ⟨T, 0, none⟩)] := Blk.new _ _ _
  have hC := containsP_calls ps (fun x => decide ((l.length : Int) ≤ x)) C cc 91 #[.pointer (some ⟨w.heap.size, 0, none⟩)] _ (hp.below hb0) (by omega) (fun _ _ => rfl) (fun x => pick1_calls T w.heap.size l x _ (hT.below hb0) hbk)
  have e : (ps.any fun x => decide ((l.length : Int) ≤ x)) = false := hb
  rw [e] at hC
  have HC := Lib.hid hC
  have HB0 := Lib.hid hb0
  have HRM := Lib.hid (fun W => mroom_no ps.length most W hmo)
  clear hp hT hb0 hbk hC e hb hmo
  go_enter Try.func40, Try.ntmps40
  go_wp2_with fail
  refine HC.out.mono ?_
  rintro e w1 ⟨rfl, rfl⟩
  go_wp2_with fail
  refine (HRM.out _).mono ?_
  rintro e w1 ⟨rfl, rfl⟩
  go_wp2_with fail
  go_ret2
  exact ⟨rfl, HB0.out⟩
set_option maxRecDepth 100000 in
set_option maxHeartbeats 1000000 in
theorem mpick_yes (ps : List Int) (C : Option Addr) (cc : Nat) (T : Nat) (l : List Cell) (bl : Nat) (most : Int) (w : World) (hp : ReadsI w .i64 C ps) (hl : ps.length ≤ 1000000) (hT : Buf bl w T l) (hb : pickB ps l.length = false) (hmo : (ps.length : Int) ≤ min (max most 0) 1048576) :
    Calls Try.prog 40 #[.pointer (some ⟨T, 0, none⟩), .slice C ps.length cc, .int .i64 most] w fun e w' => ∃ U, e = .returned (.tuple #[.pointer (some ⟨U, 0, none⟩), .int .i64 0]) ∧ Buf w.heap.size w' U ((pickL ps l).map normC) ∧ Below w.heap.size w w' := by
  have hb0 : Below w.heap.size w (w.alloc (.cells #[.pointer (some ⟨T, 0, none⟩)] 57)) := bl_alloc (Below.refl _ _) _
  have hbk : Blk (w.alloc (.cells #[.pointer (some ⟨T, 0, none⟩)] 57)) w.heap.size 57 #[.pointer (some ⟨T, 0, none⟩)] := Blk.new _ _ _
  have hC := containsP_calls ps (fun x => decide ((l.length : Int) ≤ x)) C cc 91 #[.pointer (some ⟨w.heap.size, 0, none⟩)] _ (hp.below hb0) (by omega) (fun _ _ => rfl) (fun x => pick1_calls T w.heap.size l x _ (hT.below hb0) hbk)
  have e : (ps.any fun x => decide ((l.length : Int) ≤ x)) = false := hb
  rw [e] at hC
  have HC := Lib.hid hC
  have HB0 := Lib.hid hb0
  have HRM := Lib.hid (fun W => mroom_yes ps.length most W hmo)
  have HNO := Lib.hid (fun k hk => pickB_no hb k hk)
  have HBK := Lib.hid hbk
  have HP := Lib.hid hp
  have HT := Lib.hid hT
  have HPN := Lib.hid (fun k hk => pickL_nth ps l k hk)
  obtain ⟨PL, hPL⟩ : ∃ PL, PL = pickL ps l := ⟨_, rfl⟩
  have hPLl : PL.length = ps.length := by rw [hPL, pickL_length]
  rw [← hPL] at HPN
  have HPL := Lib.hid hPL
  have HPLL := Lib.hid hPLl
  clear hp hT hb0 hbk hC e hb hmo hPL hPLl
  go_enter Try.func40, Try.ntmps40
  go_wp2_with fail
  refine HC.out.mono ?_
  rintro e w1 ⟨rfl, rfl⟩
  go_wp2_with fail
  refine (HRM.out _).mono ?_
  rintro e w2 ⟨U, rfl, hU, hB2⟩
  have hU0 : Buf (w.heap.size + 1) w2 U (laidC PL 0) := by
    have e : laidC PL 0 = List.replicate ps.length (0, false) := by simp [laidC, HPLL.out]
    rw [e]
    exact hU.wide (by simp)
  have HU := Lib.hid hU0
  have hB2' : Below (w.heap.size + 1) w w2 ∨ True := .inr trivial
  have HB2 := Lib.hid (bl_then HB0.out hB2)
  have HBK2 := Lib.hid (HBK.out.below' hB2)
  have HSZ : Hid (w.heap.size + 1 ≤ w2.heap.size) := Lib.hid (by have := hB2.size; simp at this; omega)
  clear hU hB2 hU0 hB2'
  go_wp2_with fail
  go_loopw [10, 11, 12, 13, 29] (fun _ _ _ _ t29 wr => ∃ k : Nat, t29 = .int .i64 k ∧ k ≤ ps.length ∧ Hid (Buf (w.heap.size + 1) wr U (laidC PL k)) ∧ Hid (Below (w.heap.size + 1) w2 wr)) (fun _ _ _ _ i _ => ps.length - (intOf i).toNat)
  case atStart => exact ⟨0, rfl, Nat.zero_le _, HU, Lib.hid (Below.refl _ _)⟩
  case round =>
    obtain ⟨k, rfl, hk, HUR, HBR⟩ := hrel
    have hbw : Below w.heap.size w wr := HB2.out.trans (HBR.out.mono (by omega))
    have HBW := Lib.hid hbw
    have hsz : w.heap.size + 1 ≤ wr.heap.size := Nat.le_trans HSZ.out HBR.out.size
    have k0 : wr.cell? ⟨w.heap.size, 0, none⟩ = some (.pointer (some ⟨T, 0, none⟩)) := (HBK2.out.below HBR.out (by omega)).cell 0
    by_cases hlt : k < ps.length
    · have hkN : (k : Int) < (ps.length : Int) := by omega
      obtain ⟨bC, oC, eC, cC⟩ := (HP.out.below hbw) k hlt
      subst eC
      have hno := HNO.out k hlt
      have hpn := HPN.out k hlt
      have hset := laidC_set PL k (by rw [HPLL.out]; exact hlt)
      have hlen := laidC_length PL k (by rw [HPLL.out]; omega)
      obtain ⟨p, hp⟩ : ∃ p, nth ps k = p := ⟨_, rfl⟩
      rw [hp] at cC hno hpn
      obtain ⟨gT, cT, vT, MT, mgT, mcT, mcsT, WT, hbT, _⟩ := HT.out.below hbw
      obtain ⟨x, hx, hG⟩ : ∃ x : Cell, nth PL k = x ∧ ∃ ok : Bool, Calls Try.prog 78 #[.pointer (some ⟨T, 0, none⟩), .int .i64 p] wr fun e w' => e = .returned (.tuple #[.agg #[.int .i64 x.1, .bool x.2], .bool ok]) ∧ Below wr.heap.size wr w' := by
        by_cases hneg : p < 0
        · exact ⟨(0, false), by rw [hpn, if_pos hneg], false, bget_no T gT cT vT MT mgT mcT mcsT WT l p wr hbT (by omega)⟩
        · obtain ⟨q, rfl⟩ := Int.eq_ofNat_of_zero_le (show 0 ≤ p by omega)
          exact ⟨nth l q, by rw [hpn, if_neg hneg, Int.toNat_natCast], true, bget_yes T gT cT vT MT mgT mcT mcsT WT l q wr hbT (by omega)⟩
      obtain ⟨ok, hG⟩ := hG
      rw [hx] at hset
      have HG := Lib.hid hG
      have HST := Lib.hid hset
      have HLE := Lib.hid hlen
      clear hbT hG hset hlen hpn hno hx hp hbw
      go_wp2_with fail
      refine HG.out.mono ?_
      rintro e w3 ⟨rfl, hB3⟩
      have hb3 := bl_alloc hB3 (.cells #[.int .i64 x.1, .bool x.2] 78)
      have HPT := Lib.hid (buf_put (HUR.out.below hb3) (Nat.le_trans hsz hb3.size) k (by rw [HLE.out, HPLL.out]; exact hlt) x)
      have HB3 := Lib.hid (HBR.out.trans (hb3.mono hsz))
      clear hB3 hb3 k0
      go_wp2_with fail
      refine HPT.out.mono ?_
      rintro e w4 ⟨rfl, hU4, hB4⟩
      have HU4 := Lib.hid hU4
      have HB4 := Lib.hid (HB3.out.trans hB4)
      clear hU4 hB4
      go_wp2_with fail
      go_roundw
      case measure => first | (simp [intOf]; done) | (simp [intOf]; omega)
      case rel => exact ⟨k + 1, by go_num, by omega, Lib.hid (by rw [← HST.out]; exact HU4.out), HB4⟩
    · obtain rfl : k = ps.length := by omega
      go_wp2_with fail
      go_ret2
      have h := HUR.out
      rw [← HPLL.out, laidC_all, HPL.out] at h
      exact ⟨U, rfl, h.wide (by omega), HBW.out⟩
end Go.Proofs.Ythjkeefdeeljoaa.Shp
