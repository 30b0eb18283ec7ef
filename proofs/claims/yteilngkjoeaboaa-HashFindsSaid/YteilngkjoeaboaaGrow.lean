/- Contract of hash.grow. -/
import Derived.Test.YteilngkjoeaboaaTab
import Derived.Test.YteilngkjoeaboaaLeave
import Derived.BigRegionIn
namespace Go.Proofs.Yteilngkjoeaboaa.Hs
open Go.RowKit Go.Shelf Go.Proofs.Yteilngkjoeaboaa.Lb
set_option linter.unusedVariables false
set_option linter.unusedSimpArgs false
attribute [local go_sem] Oper.semAt_some
attribute [local irreducible] wpStill

theorem make_slots (m : Nat) (hm : m ≤ 10000000) : ∀ W : World, (Instr.makeSlice 43 (.int .i64 (m : Int)) (.int .i64 (m : Int))).run Try.prog W = .ok (.slice (some ⟨W.heap.size, 0, none⟩) m m) (W.alloc (.cells (madeCells #[.int .i64 0] m) 3)) :=
  fun W => run_make_row' 43 3 (.int .i64 0) 8 Try.underlying43 (by kernel_rfl) rfl .i64 .i64 m (by omega) (by omega) W

theorem made_eq (n : Nat) : madeCells #[Value.int .i64 0] n = ((List.replicate n 0).map fun (x : Nat) => Value.int .i64 x).toArray := by
  apply Array.toList_inj.1
  rw [toList_madeCells_one]
  simp
/-- What grow leaves. -/
def Grown (B T : Nat) (L : List Lab) (m : Nat) (LA : Option Addr) (lc : Nat) (w w' : World) : Prop := (∃ S' sb', TabW B w' T L S' LA lc sb' ∧ Inv L S' ∧ S'.length = 2 * m) ∧ Only T w w'
theorem bl_drew' {B : Nat} {w W : World} (h : Below B w W) : Below B w W.drew := ⟨h.os, h.tape, h.output, h.size, h.block⟩
/-- What holds where a label's turn comes. -/
structure GrI (B T : Nat) (L : List Lab) (m : Nat) (LA : Option Addr) (lc : Nat) (w : World) (i : Nat) (S' : List Nat) (ds : List Nat) (a : Act) (W : World) : Prop where
  il : i ≤ L.length
  sz : a.tmps.size = 48
  t1 : a.tmps.getD 1 undef = .pointer (some ⟨w.heap.size, 0, none⟩)
  t19 : a.tmps.getD 19 undef = .slice LA L.length lc
  t20 : a.tmps.getD 20 undef = .int .i64 (L.length : Nat)
  t21 : a.tmps.getD 21 undef = .int .i64 (i : Nat)
  df : a.defers = marks ds
  tab : TabW B W T L S' LA lc (w.heap.size + 1)
  box : Blk W w.heap.size 27 #[.pointer (some ⟨T, 0, none⟩)]
  inv : Inv (L.take i) S'
  len : S'.length = m
  bel : Only T w W
  hs : w.heap.size ≤ W.heap.size
  nd : ds.Nodup
  dk : ∀ D ∈ ds, W.heap[D]? = some (.deferred (some [])) ∧ w.heap.size ≤ D
/-- What a round of the inner loop keeps. -/
structure GrJ (B T : Nat) (L : List Lab) (LA : Option Addr) (lc : Nat) (w W1 : World) (i : Nat) (S' ds : List Nat) (W : World) : Prop where
  tab : TabW B W T L S' LA lc (w.heap.size + 1)
  box : Blk W w.heap.size 27 #[.pointer (some ⟨T, 0, none⟩)]
  ib : Blk W W1.heap.size 3 #[.int .i64 (i : Nat)]
  bel : Only T w W
  hs : W1.heap.size ≤ W.heap.size
  dk : ∀ D ∈ ds, W.heap[D]? = some (.deferred (some [])) ∧ w.heap.size ≤ D ∧ D < W1.heap.size
theorem GrJ.own {B T : Nat} {L : List Lab} {LA : Option Addr} {lc : Nat} {w W1 : World} {i : Nat} {S' ds : List Nat} {B' : Nat} (hB : B ≤ w.heap.size) (hW : w.heap.size ≤ W1.heap.size) (hB' : W1.heap.size ≤ B') : OwnFrom B' (fun (_ : List Nat) => GrJ B T L LA lc w W1 i S' ds) := fun x W W' row hs hg hr => by
  have h2 : ∀ r, row = some r → ∃ o : Obj, W.heap[r]? = some o ∧ o.isCells = false := fun r e => (hr r e).2
  refine ⟨hs.tab.kept hg h2, blk_kept hs.box hg h2, blk_kept hs.ib hg h2, hs.bel.grown hg (fun k e => by have := (hr k e).1; omega), Nat.le_trans hs.hs hg.size, fun D hD => ?_⟩
  obtain ⟨h3, h4, h5⟩ := hs.dk D hD
  exact ⟨(hg.block D (Array.getElem?_eq_some_iff.1 h3).1 (fun e => by have := (hr D e.symm).1; omega)).trans h3, h4, h5⟩
theorem grow_round (W : World) (T i : Nat) (x : Lab) (t1 t2 t3 t4 : TypeId) : ∃ W1 : World, W1 = ((((W.alloc (.cells #[.int .i64 (i : Nat)] t1)).alloc (.cells #[.int .u8 x.k, .int .i64 x.n, .string x.s] t2)).alloc (.cells #[.pointer (some ⟨T, 0, none⟩)] t3)).alloc (.cells #[.int .u8 x.k, .int .i64 x.n, .string x.s] t4)) ∧
    W1.heap.size = W.heap.size + 4 ∧ Blk W1 W.heap.size t1 #[.int .i64 (i : Nat)] ∧ W1.cell? ⟨W.heap.size + 1 + 1, 0, none⟩ = some (.pointer (some ⟨T, 0, none⟩)) ∧
    W1.cell? ⟨W.heap.size + 1 + 1 + 1, 0, none⟩ = some (.int .u8 x.k) ∧ W1.cell? ⟨W.heap.size + 1 + 1 + 1, 1, none⟩ = some (.int .i64 x.n) ∧ W1.cell? ⟨W.heap.size + 1 + 1 + 1, 2, none⟩ = some (.string x.s) ∧ Below W.heap.size W W1 := by
  refine ⟨_, rfl, by simp, ?_⟩
  have b0 := (((Blk.new W t1 #[.int .i64 (i : Nat)]).alloc (.cells #[.int .u8 x.k, .int .i64 x.n, .string x.s] t2)).alloc (.cells #[.pointer (some ⟨T, 0, none⟩)] t3)).alloc (.cells #[.int .u8 x.k, .int .i64 x.n, .string x.s] t4)
  have b2 := (Blk.new' (w := (W.alloc (.cells #[.int .i64 (i : Nat)] t1)).alloc (.cells #[.int .u8 x.k, .int .i64 x.n, .string x.s] t2)) (H := W.heap.size + 1 + 1) (by simp) t3 #[.pointer (some ⟨T, 0, none⟩)]).alloc (.cells #[.int .u8 x.k, .int .i64 x.n, .string x.s] t4)
  have b3 := Blk.new' (w := ((W.alloc (.cells #[.int .i64 (i : Nat)] t1)).alloc (.cells #[.int .u8 x.k, .int .i64 x.n, .string x.s] t2)).alloc (.cells #[.pointer (some ⟨T, 0, none⟩)] t3)) (H := W.heap.size + 1 + 1 + 1) (by simp) t4 #[.int .u8 x.k, .int .i64 x.n, .string x.s]
  exact ⟨b0, b2.cell 0, b3.cell 0, b3.cell 1, b3.cell 2, bl_alloc (bl_alloc (bl_alloc (bl_alloc (Below.refl _ _) _) _) _) _⟩
theorem GrJ.store {B T : Nat} {L : List Lab} {LA : Option Addr} {lc : Nat} {w W1 : World} {i : Nat} {S' ds : List Nat} {W : World} (h : GrJ B T L LA lc w W1 i S' ds W) (hB : B ≤ w.heap.size) (hW : w.heap.size + 1 < W1.heap.size) (p : Nat) :
    GrJ B T L LA lc w W1 i (S'.set p (i + 1)) ds ((W.setCell ⟨w.heap.size + 1, p, none⟩ (.int .i64 ((i : Int) + 1))).drew) := by
  have hz : (W.setCell ⟨w.heap.size + 1, p, none⟩ (.int .i64 ((i : Int) + 1))).heap.size = W.heap.size := by simp [World.setCell]
  refine ⟨(h.tab.slot p (i + 1)).drew, Blk.drew (h.box.far (by simp) _), Blk.drew (h.ib.far (by simp; omega) _), (h.bel.set (.inr (by simp)) _).drew, by show W1.heap.size ≤ (W.setCell _ _).heap.size; rw [hz]; exact h.hs, fun D hD => ?_⟩
  obtain ⟨h1, h2, h3⟩ := h.dk D hD
  refine ⟨?_, h2, h3⟩
  show (W.setCell ⟨w.heap.size + 1, p, none⟩ (.int .i64 ((i : Int) + 1))).heap[D]? = _
  rw [Below.heap_setCell _ _ _ _ (fun e => by
    have := h.tab.hs
    unfold Blk at this
    rw [e] at h1
    rw [h1] at this
    cases this)]
  exact h1
def GrP (B T : Nat) (L : List Lab) (LA : Option Addr) (lc : Nat) (w W1 : World) (i : Nat) (S' ds : List Nat) (x : Lab) (m : Nat) (pre : List (Fin m)) (W : World) : Prop :=
  GrJ B T L LA lc w W1 i S' ds W ∧ ∀ y ∈ pre, nth S' (probe x m y.1) ≠ 0
def GrX (B T : Nat) (L : List Lab) (LA : Option Addr) (lc : Nat) (w W1 : World) (i : Nat) (S' ds : List Nat) (x : Lab) (m : Nat) (c : Code) (pre' : List (Fin m)) (W : World) : Prop :=
  c = .exit 2 ∧ ∃ (pre : List (Fin m)) (y : Fin m), pre' = pre ++ [y] ∧ nth S' (probe x m y.1) = 0 ∧ (∀ y ∈ pre, nth S' (probe x m y.1) ≠ 0) ∧ GrJ B T L LA lc w W1 i (S'.set (probe x m y.1) (i + 1)) ds W
theorem GrP.own {B T : Nat} {L : List Lab} {LA : Option Addr} {lc : Nat} {w W1 : World} {i : Nat} {S' ds : List Nat} {x : Lab} {m : Nat} {B' : Nat} (hB : B ≤ w.heap.size) (hW : w.heap.size ≤ W1.heap.size) (hB' : W1.heap.size ≤ B') : OwnFrom B' (GrP B T L LA lc w W1 i S' ds x m) := fun s W W' row hs hg hr => ⟨GrJ.own hB hW hB' [] W W' row hs.1 hg hr, hs.2⟩
theorem GrX.own {B T : Nat} {L : List Lab} {LA : Option Addr} {lc : Nat} {w W1 : World} {i : Nat} {S' ds : List Nat} {x : Lab} {m : Nat} {B' : Nat} (hB : B ≤ w.heap.size) (hW : w.heap.size ≤ W1.heap.size) (hB' : W1.heap.size ≤ B') (c : Code) : OwnFrom B' (GrX B T L LA lc w W1 i S' ds x m c) := fun s W W' row hs hg hr => by
  obtain ⟨h1, pre, y, h2, h3, h4, h5⟩ := hs
  exact ⟨h1, pre, y, h2, h3, h4, GrJ.own hB hW hB' [] W W' row h5 hg hr⟩
theorem grow_start {B T : Nat} {L : List Lab} {S : List Nat} {LA : Option Addr} {lc sb : Nat} {w : World} (ht : TabW B w T L S LA lc sb) (hB : B ≤ w.heap.size) (m : Nat) : ∃ W : World,
    W = (((w.setCell ⟨T, 1, none⟩ (.slice (some ⟨w.heap.size + 1, 0, none⟩) m m)).alloc (.cells #[.pointer (some ⟨T, 0, none⟩)] 27)).alloc (.cells (madeCells #[.int .i64 0] m) 3)).drew ∧
    TabW B W T L (List.replicate m 0) LA lc (w.heap.size + 1) ∧ Blk W w.heap.size 27 #[.pointer (some ⟨T, 0, none⟩)] ∧ Only T w W ∧ W.heap.size = w.heap.size + 2 := by
  have hs : (w.setCell ⟨T, 1, none⟩ (.slice (some ⟨w.heap.size + 1, 0, none⟩) m m)).heap.size = w.heap.size := by simp [World.setCell]
  refine ⟨_, rfl, ⟨?_, ?_, ?_, ht.b1, by omega⟩, ?_, ?_, by simp [hs]⟩
  · have := ht.hT.set 1 (.slice (some ⟨w.heap.size + 1, 0, none⟩) m m)
    have h2 := (this.alloc (.cells #[.pointer (some ⟨T, 0, none⟩)] 27)).alloc (.cells (madeCells #[.int .i64 0] m) 3)
    simpa using h2.drew
  · rw [made_eq]
    exact Blk.drew (Blk.new' (by simp [hs]) _ _)
  · have := own_far ht.ho (p := ⟨T, 1, none⟩) ht.hT (by decide) (.slice (some ⟨w.heap.size + 1, 0, none⟩) m m)
    exact (this.alloc _).alloc _
  · exact Blk.drew (Blk.alloc (Blk.new' hs _ _) _)
  · exact ((((Only.refl T w).set (p := ⟨T, 1, none⟩) (.inl rfl) _).alloc _).alloc _).drew
set_option maxRecDepth 100000 in
set_option maxHeartbeats 2000000 in
theorem grow_in (B T : Nat) (L : List Lab) (S : List Nat) (LA : Option Addr) (lc sb : Nat) (w : World) (ht : TabW B w T L S LA lc sb) (hi : Inv L S) (hm : S.length ≤ 1000000) (hok : ∀ x ∈ L, x.Ok) (hB : B ≤ w.heap.size) :
    CallsIn Fence.wide 5 Try.prog 20 #[.pointer (some ⟨T, 0, none⟩)] w fun e w' => e = .returned (.tuple #[]) ∧ Grown B T L S.length LA lc w w' := by
  have hmk := make_slots (2 * S.length) (by omega)
  rw [show ((2 * S.length : Nat) : Int) = 2 * (S.length : Int) by omega] at hmk
  have hwm : IntKind.i64.wrap (2 * (S.length : Int)) = 2 * (S.length : Int) := by rw [IntKind.wrap_i64]; omega
  have e1 := ht.hT.cell 0
  have e2 := ht.hT.cell 1
  have e3 := ht.hT.frozen 1
  have HT := Lib.hid ht
  have HI := Lib.hid hi
  have HOK := Lib.hid hok
  have hTl := ht.hT.lt
  clear ht hi hok
  refine callsIn_of_wp_marks Try.func20 rfl trivial ?_ rfl
  simp only [Try.ntmps20, List.size_toArray, List.length_cons, List.length_nil, Nat.reduceAdd, Nat.reduceSub, Array.replicate_succ, Array.replicate_zero, List.push_toArray, List.append_toArray, List.nil_append, List.cons_append]
  gi_wp2
  gi_region
  gi_wp2
  obtain ⟨W0, hW0, hT0, hb0, hB0, hz0⟩ := grow_start HT.out hB (2 * S.length)
  rw [← hW0]
  clear hW0 hmk hwm e1 e2 e3
  obtain ⟨kk, hkk, hpow⟩ := HI.out.pow
  have hk1 : kk + 1 ≤ 40 := by
    rcases Nat.lt_or_ge kk 40 with h | h
    · omega
    · have : (2 : Nat) ^ 40 ≤ 2 ^ kk := Nat.pow_le_pow_right (by omega) h
      omega
  have hlen : L.length < S.length := HI.out.lt
  have HPW := Lib.hid (show 2 * S.length = 2 ^ (kk + 1) by rw [hpow, Nat.pow_succ]; omega)
  clear hpow
  refine wpIn_loop (fun a W => ∃ i S' ds, GrI B T L (2 * S.length) LA lc w i S' ds a W) (fun a _ => L.length - (intOf (a.tmps.getD 21 undef)).toNat) ?_ ?_
  · refine ⟨0, List.replicate (2 * S.length) 0, [], Nat.zero_le _, rfl, rfl, rfl, rfl, rfl, rfl, hT0, hb0, ?_, by simp, hB0, by omega, List.nodup_nil, fun D hD => by simp at hD⟩
    rw [HPW.out]
    simpa using inv_empty (kk + 1) hk1
  · rintro ⟨t, d⟩ W ⟨i, S', ds, hI⟩
    obtain ⟨f, hf⟩ : ∃ f : Nat → Value, t = #[f 0, f 1, f 2, f 3, f 4, f 5, f 6, f 7, f 8, f 9, f 10, f 11, f 12, f 13, f 14, f 15, f 16, f 17, f 18, f 19, f 20, f 21, f 22, f 23, f 24, f 25, f 26, f 27, f 28, f 29, f 30, f 31, f 32, f 33, f 34, f 35, f 36, f 37, f 38, f 39, f 40, f 41, f 42, f 43, f 44, f 45, f 46, f 47] := ⟨fun i => t.getD i undef, tmps_lit t 48 hI.sz⟩
    subst hf
    have f1 : f 1 = .pointer (some ⟨w.heap.size, 0, none⟩) := hI.t1
    have f19 : f 19 = .slice LA L.length lc := hI.t19
    have f20 : f 20 = .int .i64 (L.length : Nat) := hI.t20
    have f21 : f 21 = .int .i64 (i : Nat) := hI.t21
    obtain rfl : d = marks ds := hI.df
    have hil := hI.il
    dsimp only
    rw [f1, f19, f20, f21]
    clear f1 f19 f20 f21
    have HG := Lib.hid hI
    have HS2 := Lib.hid hI.len
    have hS0 : 0 < S'.length := by rw [HS2.out]; omega
    have hSm : S'.length ≤ 2000000 := by rw [HS2.out]; omega
    have hsz := hI.hs
    have hbx := hI.box.cell 0
    have hbl := hI.box.lt
    have hsb := hI.tab.hs.lt
    by_cases hlt : i < L.length
    · obtain ⟨lb, lo, rfl, g0, g1, g2⟩ := lab_at hI.tab.read.ls i hlt
      have hxok := HOK.out _ (nth_mem L i hlt)
      have hxn : nth L i ∉ L.take i := fun hm => by
        obtain ⟨j, hj, e⟩ := List.getElem_of_mem hm
        have hj' : j < i := by simp at hj; omega
        rw [List.getElem_take] at e
        have hj2 : j < L.length := by omega
        have := nth_inj (i := j) (j := i) HI.out.nodup hj2 hlt (by rw [nth_eq L j hj2]; exact e)
        omega
      have hsn := take_nth L i hlt
      generalize nth L i = x at *
      have HXN := Lib.hid hxn
      have HXO := Lib.hid hxok
      have HSN := Lib.hid hsn
      have HSL := Lib.hid (fun w => slots_calls (some ⟨T, 0, none⟩) x w)
      have hv : x.v = .agg #[.int .u8 x.k, .int .i64 x.n, .string x.s] := rfl
      rw [hv] at HSL
      clear hI hxn hxok hsn hv
      gi_wp2_with (refine ⟨trivial, ?_⟩; gi_at_call 23; refine (callsIn_wide.2 (HSL.out _)).mono ?_; rintro e w' ⟨rfl, rfl⟩)
      obtain ⟨W1, hW1, hz1, hi1, hb1, ha0, ha1, ha2, hB1⟩ := grow_round W T i x 3 34 27 34
      rw [← hW1]
      clear hW1 HSL hbx
      have HG1 := Lib.hid (HG.out.tab.below hB1)
      refine wpIn_rangeFunc_ownG rfl (by omega) (gf := 26) (lb := #[.pointer (some ⟨W.heap.size + 1 + 1, 0, none⟩), .pointer (some ⟨W.heap.size + 1 + 1 + 1, 0, none⟩)]) rfl trivial (enters_of Try.func26 (by kernel_rfl) rfl)
        (slots_stops (W.heap.size + 1 + 1) (W.heap.size + 1 + 1 + 1) T x HXO.out S'.length (kk + 1) (by rw [HS2.out, HPW.out]) hk1 (some ⟨w.heap.size + 1, 0, none⟩) S'.length W1 hb1 (HG1.out.hT.cell 1) ha0 ha1 ha2) (fun _ _ => trivial) (fun _ _ _ _ _ _ _ _ => trivial) (Below.refl _ _) (fun _ => rfl)
        (GrP B T L (some ⟨lb, lo, none⟩) lc w W i S' ds x S'.length) (GrX B T L (some ⟨lb, lo, none⟩) lc w W i S' ds x S'.length) (GrP.own hB hsz (by omega)) (GrX.own hB hsz (by omega))
        ⟨⟨HG1.out, HG.out.box.below' hB1, hi1, HG.out.bel.then hsz hB1 hB1.size, by omega, fun D hD => ⟨(hB1.block D (Array.getElem?_eq_some_iff.1 (HG.out.dk D hD).1).1).trans (HG.out.dk D hD).1, (HG.out.dk D hD).2, (Array.getElem?_eq_some_iff.1 (HG.out.dk D hD).1).1⟩⟩, fun y hy => by simp at hy⟩
        (fun y => { tmps := #[f 0, .pointer (some ⟨w.heap.size, 0, none⟩), .pointer (some ⟨W.heap.size, 0, none⟩), .pointer (some ⟨W.heap.size + 1, 0, none⟩), f 4, .int .i64 (probe x S'.length y.1 : Nat), f 6, f 7, f 8, f 9, f 10, f 11, f 12, f 13, f 14, f 15, f 16, f 17, f 18, .slice (some ⟨lb, lo, none⟩) L.length lc, .int .i64 (L.length : Nat), .int .i64 (i : Nat), .bool true, .int .i64 (i : Nat), .pointer (some ⟨lb, lo + i * 3, none⟩), .agg #[.int .u8 x.k, .int .i64 x.n, .string x.s], .pointer (some ⟨T, 0, none⟩), .agg #[.int .u8 x.k, .int .i64 x.n, .string x.s], .func (.func 26) #[] #[.pointer (some ⟨W.heap.size + 1 + 1, 0, none⟩), .pointer (some ⟨W.heap.size + 1 + 1 + 1, 0, none⟩)], .int .i64 ((y.1 + 1 : Nat) : Int), .int .i64 (probe x S'.length y.1 : Nat), f 31, f 32, f 33, f 34, f 35, f 36, f 37, f 38, f 39, f 40, f 41, f 42, f 43, f 44, f 45, f 46, f 47], defers := [] }) ?assign ?body ?done ?stop
      case assign =>
        intro l y W2 K hK
        gi_wp2
        exact hK
      case body =>
        rintro l pre ⟨e, he⟩ W2 ⟨hJ, hno⟩ _
        dsimp only
        have hp : probe x S'.length e < S'.length := probe_lt _ _ _ (by omega)
        have hrow := (hJ.tab.read.row _ hp).1
        have hrof := (hJ.tab.read.row _ hp).2
        rw [Nat.zero_add] at hrow hrof
        have q1 := hJ.tab.hT.cell 1
        have q2 := hJ.box.cell 0
        have q3 := hJ.ib.cell 0
        have hpl : (probe x S'.length e : Int) < (S'.length : Int) := by omega
        have HJ := Lib.hid hJ
        have HNO := Lib.hid hno
        have HXX : Hid (∀ W', nth S' (probe x S'.length e) = 0 → GrJ B T L (some ⟨lb, lo, none⟩) lc w W i (S'.set (probe x S'.length e) (i + 1)) ds W' → GrX B T L (some ⟨lb, lo, none⟩) lc w W i S' ds x S'.length (.exit 2) (pre ++ [⟨e, he⟩]) W') := Lib.hid fun W' h h' => ⟨rfl, pre, ⟨e, he⟩, rfl, h, hno, h'⟩
        have HJJ : Hid (∀ W', nth S' (probe x S'.length e) ≠ 0 → GrJ B T L (some ⟨lb, lo, none⟩) lc w W i S' ds W' → GrP B T L (some ⟨lb, lo, none⟩) lc w W i S' ds x S'.length (pre ++ [⟨e, he⟩]) W') := Lib.hid fun W' h h' => ⟨h', fun y hy => by
          rcases List.mem_append.1 hy with hy | hy
          · exact hno y hy
          · obtain rfl : y = ⟨e, he⟩ := by simpa using hy
            exact h⟩
        clear hJ hno
        generalize probe x S'.length e = p at *
        by_cases hz : nth S' p = 0
        · rw [hz] at hrow
          have HZ := Lib.hid hz
          clear hz
          have hwi : IntKind.i64.wrap ((i : Int) + 1) = (i : Int) + 1 := by rw [IntKind.wrap_i64]; omega
          gi_wp2
          refine wpIn_region_head (g := 1) 8 #[true, true, true, true, true, true, true, true, false] (by kernel_rfl) (by kernel_rfl) rfl ?_
          simp only [List.take_succ_cons, List.take_zero]
          change wpStill _ _ W2.drew _ _ _
          iterate 8 still_step
          refine wpStill_nil ?_
          refine wpAnyIn_ready (rs := [8]) (by kernel_rfl) (by simp) ?_
          refine AllReadyIn.cons rfl (fun K hK => ?_) AllReadyIn.nil
          go_simp
          refine hK _ _ ?_
          clear hK K
          refine wpAnyIn_done (by kernel_rfl) ?_ _
          gi_wp2
          exact ⟨((KeepsOthers.setCell _ _ _).trans (KeepsOthers.drew _)).from _, HXX.out _ HZ.out (HJ.out.store hB hsb p)⟩
        · have hz' : (((nth S' p : Nat) : Int) == 0) = false := by simpa using hz
          have HZ := Lib.hid hz
          clear hz
          gi_wp2
          exact ⟨(KeepsOthers.refl _).from _, trivial, HJJ.out _ HZ.out HJ.out⟩
      case done =>
        rintro D ys W3 hD rfl ⟨hJ, hno⟩ hK
        obtain ⟨p, hp, hz⟩ := inv_free HG.out.inv
        obtain ⟨e, he, hpe⟩ := probe_surj x S'.length p hp
        exact absurd (by rw [hpe]; exact hz) (hno ⟨e, he⟩ (mem_upto _ _ he))
      case stop =>
        rintro D c pre' W3 hD ⟨k, hk, rfl⟩ ⟨rfl, pre, y, he, hz, hno, hJ⟩ hK
        have hx : y.1 = k ∧ pre = upto S'.length k := by
          rw [upto_succ _ _ hk] at he
          have h := List.append_inj' he.symm rfl
          exact ⟨by have := congrArg (List.map Fin.val) h.2; simpa using this, h.1⟩
        obtain ⟨hx1, rfl⟩ := hx
        have hno' : ∀ d', d' < k → nth S' (probe x S'.length d') ≠ 0 := fun d' hd' => hno ⟨d', by omega⟩ (mem_upto _ _ hd')
        subst hx1
        have hti : (L.take i).length = i := by simp; omega
        have hinv := insert_inv HG.out.inv HXN.out y.2 rfl hz hno' (by rw [hti, HS2.out]; omega)
        rw [hti, ← HSN.out] at hinv
        have HJ := Lib.hid hJ
        have HINV := Lib.hid hinv
        have HNM : Hid (D ∉ ds) := Lib.hid fun hm => by have := (HJ.out.dk D hm).2.2; omega
        have HK := Lib.hid hK
        clear he hno hno' hinv hJ hti hz hK
        gi_wp2
        refine ⟨⟨i + 1, S'.set (probe x S'.length y.1) (i + 1), D :: ds, by omega, rfl, rfl, rfl, rfl, by show Value.int .i64 _ = _; go_num, rfl, HJ.out.tab, HJ.out.box, HINV.out, by rw [List.length_set]; exact HS2.out, HJ.out.bel, by have := HJ.out.hs; omega, List.nodup_cons.2 ⟨HNM.out, HG.out.nd⟩, fun E hE => ?_⟩, ?_⟩
        · rcases List.mem_cons.1 hE with rfl | hE
          · exact ⟨HK.out, by omega⟩
          · exact ⟨(HJ.out.dk E hE).1, (HJ.out.dk E hE).2.1⟩
        · show L.length - (intOf (Value.int .i64 ((i : Int) + 1))).toNat < L.length - (intOf (Value.int .i64 (i : Int))).toNat
          simp [intOf]; omega
    · have HIL := Lib.hid (show i = L.length by omega)
      clear hI
      gi_wp2
      refine leaves_marks ds W HG.out.nd (fun D hD => (HG.out.dk D hD).1) (fun W' hp => ?_)
      have hK := fun D hD => (HG.out.dk D hD).1
      refine ⟨_, results_none rfl _ _ _, rfl, ⟨S', w.heap.size + 1, ⟨hp.blk hK HG.out.tab.hT, hp.blk hK HG.out.tab.hs, hp.own hK HG.out.tab.ho, HG.out.tab.b1, HG.out.tab.b2⟩, ?_, HS2.out⟩, HG.out.bel.then (Nat.le_refl _) (hp.below (fun D hD => (HG.out.dk D hD).2)) (Nat.le_of_eq hp.size.symm)⟩
      have := HG.out.inv
      rwa [HIL.out, List.take_length] at this
end Go.Proofs.Yteilngkjoeaboaa.Hs
