/- Contracts and lemmas that the row of this claim stands on: Buf, Buf2, Buf3. -/
import Derived.Test.YthjkeefdeeljoaaPk6
import Derived.Test.YthjkeefdeeljoaaPk35
import Derived.Deep.RegionHeld3
import Derived.Deep.DeepCutAuto
import Derived.Deep.RegionWith
/- buf: rows of cells, some of them missing: Len, is, Norm, Put, Get. -/
namespace Go.Proofs.Ythjkeefdeeljoaa.Cl
open Go.RowKit Go.Proofs.Ythjkeefdeeljoaa.Bt
set_option linter.unusedVariables false
set_option linter.unusedSimpArgs false

/-- At T stands a row of these cells: its numbers in block g, its mask at M (words in block mg). -/
structure BufW (w : World) (T g c : Nat) (vs : Array Value) (M mg mc : Nat) (mcs : Array Value) (W : List Nat) (l : List Cell) : Prop where
  box : Blk w T 141 #[.pointer (some ⟨M, 0, none⟩), .slice (some ⟨g, 0, none⟩) l.length c]
  row : Blk w g 2 vs
  cell : ∀ i, i < l.length → vs[i]? = some (.int .i64 (nth l i).1)
  mask : MaskW w M mg mc mcs W (l.map (·.2))
  norm : ∀ i, i < l.length → normC (nth l i) = nth l i
  small : l.length ≤ 1048576
  cap : l.length ≤ c
/-- .. whose blocks lie from B on. -/
def Buf (B : Nat) (w : World) (T : Nat) (l : List Cell) : Prop := ∃ g c vs M mg mc mcs W, BufW w T g c vs M mg mc mcs W l ∧ B ≤ T ∧ B ≤ g ∧ B ≤ M ∧ B ≤ mg
/-- Of what lay in w, blocks g and h alone may have been written. -/
structure Only2 (g h : Nat) (w w' : World) : Prop where
  os : w'.os = w.os
  tape : w'.tape = w.tape
  output : w'.output = w.output
  size : w.heap.size ≤ w'.heap.size
  other : ∀ k, k < w.heap.size → k ≠ g → k ≠ h → w'.heap[k]? = w.heap[k]?
section
variable {g h : Nat} {w w' w'' : World}
theorem Only2.refl (g h : Nat) (w : World) : Only2 g h w w := ⟨rfl, rfl, rfl, Nat.le_refl _, fun _ _ _ _ => rfl⟩
theorem Only2.trans (a : Only2 g h w w') (b : Only2 g h w' w'') : Only2 g h w w'' :=
  ⟨b.os.trans a.os, b.tape.trans a.tape, b.output.trans a.output, Nat.le_trans a.size b.size, fun j hj h1 h2 => (b.other j (Nat.lt_of_lt_of_le hj a.size) h1 h2).trans (a.other j hj h1 h2)⟩
theorem Only2.of_below (a : Below w.heap.size w w') : Only2 g h w w' := ⟨a.os, a.tape, a.output, a.size, fun k hk _ _ => a.block k hk⟩
theorem Only2.of_only (a : Only h w w') : Only2 g h w w' := ⟨a.os, a.tape, a.output, a.size, fun k hk _ h2 => a.other k hk h2⟩
theorem Only2.of_only' (a : Only g w w') : Only2 g h w w' := ⟨a.os, a.tape, a.output, a.size, fun k hk h1 _ => a.other k hk h1⟩
theorem Only2.below (a : Only2 g h w w') {B : Nat} (hB : B ≤ w.heap.size) (h1 : B ≤ g) (h2 : B ≤ h) : Below B w w' := ⟨a.os, a.tape, a.output, a.size, fun k hk => a.other k (by omega) (by omega) (by omega)⟩
theorem Only2.blk (a : Only2 g h w w') {k : Nat} {t : TypeId} {cs : Array Value} (hb : Blk w k t cs) (h1 : k ≠ g) (h2 : k ≠ h) : Blk w' k t cs := (a.other k hb.lt h1 h2).trans hb
theorem Only2.drew (a : Only2 g h w w') : Only2 g h w w'.drew := ⟨a.os, a.tape, a.output, a.size, a.other⟩
theorem Only2.set (a : Only2 g h w w') {p : Addr} (hp : p.block = g ∨ p.block = h ∨ w.heap.size ≤ p.block) (u : Value) : Only2 g h w (w'.setCell p u) :=
  ⟨a.os, a.tape, a.output, by rw [show (w'.setCell p u).heap.size = w'.heap.size by simp [World.setCell]]; exact a.size, fun k hk h1 h2 => (Below.heap_setCell _ _ _ _ (fun e => by rcases hp with hp | hp | hp <;> omega)).trans (a.other k hk h1 h2)⟩
end
section
variable {w w' : World} {T g c : Nat} {vs : Array Value} {M mg mc : Nat} {mcs : Array Value} {W : List Nat} {l : List Cell} {B : Nat}
theorem BufW.below (h : BufW w T g c vs M mg mc mcs W l) (hb : Below w.heap.size w w') : BufW w' T g c vs M mg mc mcs W l := ⟨h.box.below' hb, h.row.below' hb, h.cell, h.mask.below hb, h.norm, h.small, h.cap⟩
theorem Buf.below (h : Buf B w T l) (hb : Below w.heap.size w w') : Buf B w' T l := by
  obtain ⟨g, c, vs, M, mg, mc, mcs, W, h, h1⟩ := h
  exact ⟨g, c, vs, M, mg, mc, mcs, W, h.below hb, h1⟩
theorem Buf.wide (h : Buf B w T l) {B2 : Nat} (hB : B2 ≤ B) : Buf B2 w T l := by
  obtain ⟨g, c, vs, M, mg, mc, mcs, W, h, h1, h2, h3, h4⟩ := h
  exact ⟨g, c, vs, M, mg, mc, mcs, W, h, by omega, by omega, by omega, by omega⟩
/-- Its blocks are four. -/
theorem BufW.apart (h : BufW w T g c vs M mg mc mcs W l) : T ≠ g ∧ T ≠ M ∧ T ≠ mg ∧ g ≠ M ∧ g ≠ mg ∧ M ≠ mg :=
  ⟨Blk.ne_ h.box h.row (by decide), Blk.ne_ h.box h.mask.hT (by decide), Blk.ne_ h.box h.mask.hg (by decide), Blk.ne_ h.row h.mask.hT (by decide), Blk.ne_ h.row h.mask.hg (by decide), Blk.ne_ h.mask.hT h.mask.hg (by decide)⟩
theorem BufW.val (h : BufW w T g c vs M mg mc mcs W l) (i : Nat) (hi : i < l.length) : w.cell? ⟨g, i, none⟩ = some (.int .i64 (nth l i).1) ∧ w.frozen? ⟨g, i, none⟩ = false := ⟨(h.row.cell i).trans (h.cell i hi), h.row.frozen i⟩
theorem BufW.tops (h : BufW w T g c vs M mg mc mcs W l) : w.cell? ⟨T, 0, none⟩ = some (.pointer (some ⟨M, 0, none⟩)) ∧ w.cell? ⟨T, 1, none⟩ = some (.slice (some ⟨g, 0, none⟩) l.length c) := ⟨h.box.cell 0, h.box.cell 1⟩
end
theorem blen_calls (T g c : Nat) (vs : Array Value) (M mg mc : Nat) (mcs : Array Value) (W : List Nat) (l : List Cell) (w : World) (h : BufW w T g c vs M mg mc mcs W l) : Calls Try.prog 83 #[.pointer (some ⟨T, 0, none⟩)] w fun e w' => e = .returned (.int .i64 (l.length : Nat)) ∧ w = w' := by
  have c1 := h.tops.2
  clear h
  go_enter Try.func83, Try.ntmps83
  go_wp2
  go_ret
  exact ⟨rfl, rfl⟩
theorem blen_nil (w : World) : Calls Try.prog 83 #[.pointer none] w fun e w' => e = .returned (.int .i64 0) ∧ w = w' := by
  go_enter Try.func83, Try.ntmps83
  go_wp2
  go_ret
  exact ⟨rfl, rfl⟩
theorem bis_calls (T g c : Nat) (vs : Array Value) (M mg mc : Nat) (mcs : Array Value) (W : List Nat) (l : List Cell) (j : Int) (w : World) (h : BufW w T g c vs M mg mc mcs W l) : Calls Try.prog 117 #[.pointer (some ⟨T, 0, none⟩), .int .i64 j] w fun e w' => e = .returned (.bool (decide (0 ≤ j ∧ j < (l.length : Int)))) ∧ w = w' := by
  have HL := Lib.hid (blen_calls T g c vs M mg mc mcs W l w h)
  clear h
  by_cases h0 : 0 ≤ j
  · have e : decide (0 ≤ j ∧ j < (l.length : Int)) = decide (j < (l.length : Int)) := by simp [h0]
    rw [e]
    go_enter Try.func117, Try.ntmps117
    go_wp2_with fail
    refine HL.out.mono ?_
    rintro e w' ⟨rfl, rfl⟩
    go_wp2_with fail
    go_ret
    exact ⟨rfl, rfl⟩
  · rw [decide_eq_false (p := 0 ≤ j ∧ j < (l.length : Int)) (fun h => h0 h.1)]
    go_enter Try.func117, Try.ntmps117
    go_wp2_with fail
    go_ret
    exact ⟨rfl, rfl⟩
theorem norm_calls (x : Cell) (w : World) : Calls Try.prog 118 #[.agg #[.int .i64 x.1, .bool x.2]] w fun e w' => e = .returned (.agg #[.int .i64 (normC x).1, .bool (normC x).2]) ∧ Below w.heap.size w w' := by
  obtain ⟨n, b⟩ := x
  have HB := Lib.hid (bl_alloc (bl_alloc (Below.refl w.heap.size w) (.cells #[.int .i64 n, .bool b] 78)) (.cells #[.int .i64 0, .bool false] 78))
  cases b with
  | true =>
    go_enter Try.func118, Try.ntmps118
    go_wp2_with fail
    exact bodyPost_ret (v := .agg #[.int .i64 n, .bool true]) (by simp [results, Try.results118, go_sem]) rfl ⟨rfl, bl_alloc (bl_alloc (Below.refl _ _) _) _⟩
  | false =>
    go_enter Try.func118, Try.ntmps118
    go_wp2_with fail
    exact bodyPost_ret (v := .agg #[.int .i64 0, .bool false]) (by simp [results, Try.results118, go_sem]) rfl ⟨rfl, HB.out⟩
theorem make_vals (m : Nat) (hm : m ≤ 10000000) : ∀ W : World, (Instr.makeSlice 139 (.int .i64 (m : Int)) (.int .i64 (m : Int))).run Try.prog W = .ok (.slice (some ⟨W.heap.size, 0, none⟩) m m) (W.alloc (.cells (madeCells #[.int .i64 0] m) 2)) :=
  fun W => run_make_row' 139 2 (.int .i64 0) 8 Try.underlying139 (by kernel_rfl) rfl .i64 .i64 m (by omega) (by omega) W
theorem made_cells (m i : Nat) (h : i < m) : (madeCells #[Value.int .i64 0] m)[i]? = some (.int .i64 0) := by
  have e : (madeCells #[Value.int .i64 0] m)[i]? = (madeCells #[Value.int .i64 0] m).toList[i]? := by simp
  rw [e, toList_madeCells_one, List.getElem?_replicate, if_pos h]
/-- A row of missing cells. -/
theorem buf_made {w : World} {T g M B : Nat} {m : Nat} (hb : Blk w T 141 #[.pointer (some ⟨M, 0, none⟩), .slice (some ⟨g, 0, none⟩) m m]) (hr : Blk w g 2 (madeCells #[.int .i64 0] m)) (hm : Mask B w M (List.replicate m false)) (hl : m ≤ 1048576) (hT : B ≤ T) (hg : B ≤ g) (hM : B ≤ M) : Buf B w T (List.replicate m (0, false)) := by
  obtain ⟨mg, mc, mcs, W, h1, h2, h3⟩ := hm
  refine ⟨g, m, _, M, mg, mc, mcs, W, ⟨by rw [List.length_replicate]; exact hb, hr, fun i hi => ?_, by simpa using h1, fun i hi => ?_, by simpa using hl, by simp⟩, hT, hg, hM, h3⟩
  · have hi' : i < m := by simpa using hi
    rw [made_cells m i hi', nth_replicate _ _ _ hi']
  · have hi' : i < m := by simpa using hi
    rw [nth_replicate _ _ _ hi']; rfl
set_option maxHeartbeats 1000000 in
theorem made_calls (m : Nat) (hm : m ≤ 1048576) (w : World) : Calls Try.prog 80 #[.int .i64 (m : Nat)] w fun e w' => ∃ T, e = .returned (.pointer (some ⟨T, 0, none⟩)) ∧ Buf w.heap.size w' T (List.replicate m (0, false)) ∧ Below w.heap.size w w' := by
  have HN := Lib.hid (fun W => new_calls (m : Int) (by omega) false W)
  rw [Int.toNat_natCast] at HN
  have hmk := make_vals m (by omega)
  go_enter Try.func80, Try.ntmps80
  go_upto_region 1 with fail
  go_region_with (go_at_call 99; refine (HN.out _).mono ?_; rintro e w' ⟨rfl, hM, hB⟩; have HM := Lib.hid hM; have HB := Lib.hid hB; clear hM hB)
  all_goals go_wp2_with fail
  all_goals go_ret
  all_goals first
    | (have hb0 := bl_then (bl_drew (Below.refl w.heap.size w)) HB.out
       have hs := hb0.size
       exact ⟨_, rfl, buf_made (Blk.new' (by simp) _ _) ((Blk.new _ _ _).alloc _) (HM.out.below (bl_alloc (bl_alloc (Below.refl _ _) _) _)) hm (by omega) (by omega) (by simp), bl_alloc (bl_alloc hb0 _) _⟩)
    | (have hb0 := bl_then (bl_alloc (bl_drew (Below.refl w.heap.size w)) (.cells (madeCells #[.int .i64 0] m) 2)) HB.out
       have hs := HB.out.size
       have hr : Blk (w.drew.alloc (.cells (madeCells #[.int .i64 0] m) 2)) w.heap.size 2 (madeCells #[.int .i64 0] m) := Blk.new w.drew _ _
       have hmk2 := HM.out
       simp at hs
       obtain ⟨mg, mc, mcs, W, q1, q2, q3⟩ := hmk2
       simp at q1 q2 q3
       exact ⟨_, rfl, buf_made (Blk.new _ _ _) ((hr.below' HB.out).alloc _) ⟨mg, mc, mcs, W, q1.below (bl_alloc (Below.refl _ _) _), by omega, by omega⟩ hm (by omega) (by omega) (by omega), bl_alloc hb0 _⟩)
end Go.Proofs.Ythjkeefdeeljoaa.Cl
/- buf: Put and Get. -/
namespace Go.Proofs.Ythjkeefdeeljoaa.Cl
open Go.RowKit Go.Proofs.Ythjkeefdeeljoaa.Bt
set_option linter.unusedVariables false
set_option linter.unusedSimpArgs false

section
variable {w w' : World} {T g c : Nat} {vs : Array Value} {M mg mc : Nat} {mcs : Array Value} {W : List Nat} {l : List Cell} {B : Nat}
/-- A store into a block of another type. -/
theorem BufW.far (h : BufW w T g c vs M mg mc mcs W l) {p : Addr} {t : TypeId} {ds : Array Value} (hp : Blk w p.block t ds) (h1 : 141 ≠ t) (h2 : 2 ≠ t) (h3 : 149 ≠ t) (h4 : 151 ≠ t) (u : Value) : BufW (w.setCell p u) T g c vs M mg mc mcs W l :=
  ⟨h.box.far (Blk.ne_ h.box hp h1) u, h.row.far (Blk.ne_ h.row hp h2) u, h.cell, h.mask.far hp h3 h4 u, h.norm, h.small, h.cap⟩
theorem set_map (l : List Cell) (j : Nat) (x : Cell) : (l.set j x).map (·.2) = (l.map (·.2)).set j x.2 := by rw [List.map_set]
end
theorem nth_setC (l : List Cell) (j : Nat) (x : Cell) (i : Nat) (hj : j < l.length) : nth (l.set j x) i = if i = j then x else nth l i := by
  by_cases e : i = j
  · subst e
    rw [if_pos rfl, nth_eq _ _ (by simpa using hj)]; simp
  · rw [if_neg e]
    unfold nth
    simp [List.getD, List.getElem?_set_ne (Ne.symm e)]
set_option maxHeartbeats 1000000 in
theorem put_yes (T g c : Nat) (vs : Array Value) (M mg mc : Nat) (mcs : Array Value) (W : List Nat) (l : List Cell) (j : Nat) (x : Cell) (w : World) (h : BufW w T g c vs M mg mc mcs W l) (hj : j < l.length) :
    Calls Try.prog 81 #[.pointer (some ⟨T, 0, none⟩), .int .i64 (j : Nat), .agg #[.int .i64 x.1, .bool x.2]] w fun e w' => e = .returned (.bool true) ∧ (∃ vs' mcs' W', BufW w' T g c vs' M mg mc mcs' W' (l.set j (normC x))) ∧ Only2 g mg w w' := by
  have hb0 : Below w.heap.size w (w.alloc (.cells #[.int .i64 x.1, .bool x.2] 78)) := bl_alloc (Below.refl _ _) _
  have hbk : Blk (w.alloc (.cells #[.int .i64 x.1, .bool x.2] 78)) w.heap.size 78 #[.int .i64 x.1, .bool x.2] := Blk.new _ _ _
  have HIS := Lib.hid (bis_calls T g c vs M mg mc mcs W l (j : Int) _ (h.below hb0))
  rw [decide_eq_true (p := 0 ≤ (j : Int) ∧ (j : Int) < (l.length : Int)) (by omega)] at HIS
  have HN := Lib.hid (norm_calls x)
  have HH := Lib.hid h
  have HB0 := Lib.hid hb0
  have HBK := Lib.hid hbk
  have hjl : (j : Int) < (l.length : Int) := by omega
  clear h hb0 hbk
  go_enter Try.func81, Try.ntmps81
  go_wp2_with fail
  refine HIS.out.mono ?_
  rintro e w1 ⟨rfl, rfl⟩
  go_wp2_with fail
  refine (HN.out _).mono ?_
  rintro e w1 ⟨rfl, hB1⟩
  obtain ⟨y, hy⟩ : ∃ y, normC x = y := ⟨_, rfl⟩
  obtain ⟨yn, yb⟩ := y
  rw [hy]
  have HY := Lib.hid hy
  have hbk1 := HBK.out.below' hB1
  have hw1 := HH.out.below (bl_then HB0.out hB1)
  obtain ⟨W2, hW2⟩ : ∃ W2, W2 = (w1.setCell ⟨w.heap.size, 0, none⟩ (.int .i64 yn)).setCell ⟨w.heap.size, 1, none⟩ (.bool yb) := ⟨_, rfl⟩
  have hbk2 : Blk W2 w.heap.size 78 #[.int .i64 yn, .bool yb] := by
    rw [hW2]
    have h := (hbk1.set 0 (.int .i64 yn)).set 1 (.bool yb)
    simpa using h
  have hw2 : BufW W2 T g c vs M mg mc mcs W l := by
    rw [hW2]
    exact (hw1.far (p := ⟨w.heap.size, 0, none⟩) hbk1 (by decide) (by decide) (by decide) (by decide) _).far (p := ⟨w.heap.size, 1, none⟩) (hbk1.set 0 _) (by decide) (by decide) (by decide) (by decide) _
  have hb2 : Below w.heap.size w W2 := by rw [hW2]; exact bl_set (bl_set (bl_then HB0.out hB1) (by simp) _) (by simp) _
  obtain ⟨e0, e1, e0f, e1f⟩ : w1.cell? ⟨w.heap.size, 0, none⟩ = some (.int .i64 x.1) ∧ w1.cell? ⟨w.heap.size, 1, none⟩ = some (.bool x.2) ∧ w1.frozen? ⟨w.heap.size, 0, none⟩ = false ∧ w1.frozen? ⟨w.heap.size, 1, none⟩ = false := ⟨hbk1.cell 0, hbk1.cell 1, hbk1.frozen 0, hbk1.frozen 1⟩
  have HB2 := Lib.hid hb2
  have HW2 := Lib.hid hw2
  have HBK2 := Lib.hid hbk2
  have HE2 := Lib.hid hW2
  clear hy hB1 hbk1 hw1 hbk2 hw2 hb2 hW2
  dsimp only
  go_upto_region 4 with fail
  rw [← HE2.out]
  clear e0 e1 e0f e1f
  obtain ⟨t0, t1⟩ := HW2.out.tops
  obtain ⟨v0, v0f⟩ := HW2.out.val j hj
  obtain ⟨e0, e1⟩ : W2.cell? ⟨w.heap.size, 0, none⟩ = some (.int .i64 yn) ∧ W2.cell? ⟨w.heap.size, 1, none⟩ = some (.bool yb) := ⟨HBK2.out.cell 0, HBK2.out.cell 1⟩
  have hbx := HBK2.out
  obtain ⟨q1, q2, q3, q4, q5, q6⟩ := HW2.out.apart
  have hgb : g ≠ w.heap.size := Blk.ne_ HW2.out.row HBK2.out (by decide)
  have HS := Lib.hid (fun (u : Value) => (⟨(HW2.out.box.far (p := ⟨g, j, none⟩) q1 u).cell 0, (HW2.out.box.far (p := ⟨g, j, none⟩) q1 u).cell 1, (HBK2.out.far (p := ⟨g, j, none⟩) (Ne.symm hgb) u).cell 0⟩ : (W2.setCell ⟨g, j, none⟩ u).cell? ⟨T, 0, none⟩ = some (.pointer (some ⟨M, 0, none⟩)) ∧ (W2.setCell ⟨g, j, none⟩ u).cell? ⟨T, 1, none⟩ = some (.slice (some ⟨g, 0, none⟩) l.length c) ∧ (W2.setCell ⟨g, j, none⟩ u).cell? ⟨w.heap.size, 0, none⟩ = some (.int .i64 yn)))
  clear hbx q1 q2 q3 q4 q5 q6 hgb
  go_region_held3 (fun W => W.cell? ⟨T, 0, none⟩ = some (.pointer (some ⟨M, 0, none⟩)) ∧ W.cell? ⟨T, 1, none⟩ = some (.slice (some ⟨g, 0, none⟩) l.length c) ∧ W.cell? ⟨w.heap.size, 0, none⟩ = some (.int .i64 yn))
    (first | exact ⟨t0, t1, e0⟩ | exact HS.out _)
    (fail)
  obtain ⟨V, hV⟩ : ∃ V, V = (W2.setCell ⟨g, j, none⟩ (.int .i64 yn)).drew := ⟨_, rfl⟩
  obtain ⟨q1, q2, q3, q4, q5, q6⟩ := HW2.out.apart
  have hgb : g ≠ w.heap.size := Blk.ne_ HW2.out.row HBK2.out (by decide)
  have hbx : Blk V T 141 #[.pointer (some ⟨M, 0, none⟩), .slice (some ⟨g, 0, none⟩) l.length c] := by rw [hV]; exact (HW2.out.box.far (p := ⟨g, j, none⟩) q1 _).drew
  have hrow : Blk V g 2 (vs.setIfInBounds j (.int .i64 yn)) := by rw [hV]; exact (HW2.out.row.set j _).drew
  have hmk : MaskW V M mg mc mcs W (l.map (·.2)) := by rw [hV]; exact (HW2.out.mask.far (p := ⟨g, j, none⟩) HW2.out.row (by decide) (by decide) _).below (bl_drew (Below.refl _ _))
  have hce : Blk V w.heap.size 78 #[.int .i64 yn, .bool yb] := by rw [hV]; exact (HBK2.out.far (p := ⟨g, j, none⟩) (Ne.symm hgb) _).drew
  have hon : Only2 g mg w V := by rw [hV]; exact ((Only2.of_below HB2.out).set (p := ⟨g, j, none⟩) (.inl rfl) _).drew
  have HSET := Lib.hid (set_calls M mg mc mcs W (l.map (·.2)) (j : Int) yb V.drew (hmk.below (bl_drew (Below.refl _ _))))
  rw [decide_eq_true (p := 0 ≤ (j : Int) ∧ (j : Int) < ((l.map (·.2)).length : Int)) (by simp; omega)] at HSET
  have HBX := Lib.hid hbx
  have HROW := Lib.hid hrow
  have HMK := Lib.hid hmk
  have HCE := Lib.hid hce
  have HON := Lib.hid hon
  go_upto_region 5 with fail
  rw [← hV]
  have HV := Lib.hid hV
  obtain ⟨t0', t1'⟩ : V.cell? ⟨T, 0, none⟩ = some (.pointer (some ⟨M, 0, none⟩)) ∧ V.cell? ⟨w.heap.size, 1, none⟩ = some (.bool yb) := ⟨hbx.cell 0, hce.cell 1⟩
  clear hV q1 q2 q3 q4 q5 q6 hgb hbx hrow hmk hce hon t0 t1 v0 v0f e0 e1
  go_region_held3 (fun W => W.cell? ⟨T, 0, none⟩ = some (.pointer (some ⟨M, 0, none⟩)) ∧ W.cell? ⟨w.heap.size, 1, none⟩ = some (.bool yb))
    (first | exact ⟨t0', t1'⟩ | exact HSE.out)
    ((go_at_call 102; refine HSET.out.mono ?_; rintro e w5 ⟨rfl, hM, _, hK, hO⟩; have HM := Lib.hid (hM (by simp; omega)); have HK := Lib.hid hK; have HO := Lib.hid hO; have HSE := Lib.hid (show w5.cell? ⟨T, 0, none⟩ = some (.pointer (some ⟨M, 0, none⟩)) ∧ w5.cell? ⟨w.heap.size, 1, none⟩ = some (.bool yb) from ⟨(hK _ _ _ HBX.out.drew (by decide)).cell 0, (hK _ _ _ HCE.out.drew (by decide)).cell 1⟩); clear hM hK hO))
  go_wp2_with fail
  go_ret
  have hop : Only2 g mg w w5 := HON.out.trans (Only2.of_only ⟨HO.out.os, HO.out.tape, HO.out.output, HO.out.size, HO.out.other⟩)
  obtain ⟨cs', W', hM⟩ := HM.out
  rw [Int.toNat_natCast] at hM
  refine ⟨rfl, ⟨vs.setIfInBounds j (.int .i64 yn), cs', W', ⟨?_, HK.out _ _ _ HROW.out.drew (by decide), fun i hi => ?_, ?_, fun i hi => ?_, ?_, ?_⟩⟩, hop⟩
  · rw [List.length_set]; exact HK.out _ _ _ HBX.out.drew (by decide)
  · rw [List.length_set] at hi
    rw [nth_setC l j _ i hj, HY.out]
    have hs : j < vs.size := (Array.getElem?_eq_some_iff.1 (HH.out.cell j hj)).1
    by_cases e : i = j
    · subst e
      rw [if_pos rfl, Array.getElem?_setIfInBounds_self_of_lt hs]
    · rw [if_neg e, Array.getElem?_setIfInBounds_ne (Ne.symm e), HH.out.cell i hi]
  · rw [HY.out, set_map]; exact hM
  · rw [List.length_set] at hi
    rw [nth_setC l j _ i hj]
    by_cases e : i = j
    · rw [if_pos e, normC_norm]
    · rw [if_neg e]; exact HH.out.norm i hi
  · rw [List.length_set]; exact HH.out.small
  · rw [List.length_set]; exact HH.out.cap
set_option maxHeartbeats 1000000 in
theorem bget_yes (T g c : Nat) (vs : Array Value) (M mg mc : Nat) (mcs : Array Value) (W : List Nat) (l : List Cell) (j : Nat) (w : World) (h : BufW w T g c vs M mg mc mcs W l) (hj : j < l.length) :
    Calls Try.prog 78 #[.pointer (some ⟨T, 0, none⟩), .int .i64 (j : Nat)] w fun e w' => e = .returned (.tuple #[.agg #[.int .i64 (nth l j).1, .bool (nth l j).2], .bool true]) ∧ Below w.heap.size w w' := by
  obtain ⟨W0, hW0⟩ : ∃ W0, W0 = w.alloc (.cells #[.int .i64 0, .bool false] 78) := ⟨_, rfl⟩
  have hb0 : Below w.heap.size w W0 := by rw [hW0]; exact bl_alloc (Below.refl _ _) _
  have hbk : Blk W0 w.heap.size 78 #[.int .i64 0, .bool false] := by rw [hW0]; exact Blk.new _ _ _
  have hw0 := h.below hb0
  have HIS := Lib.hid (bis_calls T g c vs M mg mc mcs W l (j : Int) W0 hw0)
  rw [decide_eq_true (p := 0 ≤ (j : Int) ∧ (j : Int) < (l.length : Int)) (by omega)] at HIS
  have hG := get_calls M mg mc mcs W (l.map (·.2)) (j : Int) W0.drew (hw0.mask.below (bl_drew (Below.refl _ _)))
  have e1 : tr (l.map (·.2)) (j : Int).toNat = (nth l j).2 := by
    rw [Int.toNat_natCast, tr_lt (by simpa using hj), nth_eq _ _ (by simpa using hj), nth_eq _ _ hj]; simp
  rw [decide_eq_true (p := 0 ≤ (j : Int) ∧ (j : Int) < ((l.map (·.2)).length : Int)) (by simp; omega), e1, Bool.true_and] at hG
  have HG := Lib.hid hG
  have HW0 := Lib.hid hW0
  have HB0 := Lib.hid hb0
  have HBK := Lib.hid hbk
  have hjl : (j : Int) < (l.length : Int) := by omega
  obtain ⟨t0, t1⟩ := hw0.tops
  obtain ⟨v0, v0f⟩ := hw0.val j hj
  have HW := Lib.hid hw0
  generalize nth l j = x at *
  clear h hG hW0 hb0 hbk hw0 e1
  go_enter Try.func78, Try.ntmps78
  go_wp2_with fail
  rw [← HW0.out]
  refine HIS.out.mono ?_
  rintro e w1 ⟨rfl, rfl⟩
  have n1 : T ≠ w.heap.size := Blk.ne_ HW.out.box HBK.out (by decide)
  have n2 : g ≠ w.heap.size := Blk.ne_ HW.out.row HBK.out (by decide)
  have HS := Lib.hid (fun (u v : Value) => (⟨((HW.out.box.far (p := ⟨w.heap.size, 0, none⟩) n1 u).far (p := ⟨w.heap.size, 1, none⟩) n1 v).cell 0, ((HW.out.box.far (p := ⟨w.heap.size, 0, none⟩) n1 u).far (p := ⟨w.heap.size, 1, none⟩) n1 v).cell 1, (((HW.out.row.far (p := ⟨w.heap.size, 0, none⟩) n2 u).far (p := ⟨w.heap.size, 1, none⟩) n2 v).cell j).trans ((HW.out.row.cell j).symm.trans v0)⟩ : ((W0.setCell ⟨w.heap.size, 0, none⟩ u).setCell ⟨w.heap.size, 1, none⟩ v).cell? ⟨T, 0, none⟩ = some (.pointer (some ⟨M, 0, none⟩)) ∧ ((W0.setCell ⟨w.heap.size, 0, none⟩ u).setCell ⟨w.heap.size, 1, none⟩ v).cell? ⟨T, 1, none⟩ = some (.slice (some ⟨g, 0, none⟩) l.length c) ∧ ((W0.setCell ⟨w.heap.size, 0, none⟩ u).setCell ⟨w.heap.size, 1, none⟩ v).cell? ⟨g, j, none⟩ = some (.int .i64 x.1)))
  have HBS := Lib.hid (fun (u v : Value) => (bl_set (p := ⟨w.heap.size, 1, none⟩) (bl_set (p := ⟨w.heap.size, 0, none⟩) HB0.out (Nat.le_refl _) u) (Nat.le_refl _) v))
  have HRS := Lib.hid (fun (u v : Value) => (by have h := (HBK.out.set 0 u).set 1 v; simpa using h : Blk ((W0.setCell ⟨w.heap.size, 0, none⟩ u).setCell ⟨w.heap.size, 1, none⟩ v) w.heap.size 78 #[u, v]))
  obtain ⟨r0, r1, r0f, r1f⟩ : W0.cell? ⟨w.heap.size, 0, none⟩ = some (.int .i64 0) ∧ W0.cell? ⟨w.heap.size, 1, none⟩ = some (.bool false) ∧ W0.frozen? ⟨w.heap.size, 0, none⟩ = false ∧ W0.frozen? ⟨w.heap.size, 1, none⟩ = false := ⟨HBK.out.cell 0, HBK.out.cell 1, HBK.out.frozen 0, HBK.out.frozen 1⟩
  go_upto_region 3 with fail
  clear n1 n2
  go_region_held3 (fun W => W.cell? ⟨T, 0, none⟩ = some (.pointer (some ⟨M, 0, none⟩)) ∧ W.cell? ⟨T, 1, none⟩ = some (.slice (some ⟨g, 0, none⟩) l.length c) ∧ W.cell? ⟨g, j, none⟩ = some (.int .i64 x.1))
    (first | exact ⟨t0, t1, v0⟩ | exact HS.out _ _)
    ((go_at_call 101; refine HG.out.mono ?_; rintro e w' ⟨rfl, rfl⟩))
  go_wp2_with fail
  obtain ⟨V, hV⟩ : ∃ V, V = ((W0.setCell ⟨w.heap.size, 0, none⟩ (.int .i64 x.1)).setCell ⟨w.heap.size, 1, none⟩ (.bool x.2)).drew := ⟨_, rfl⟩
  have hr : Blk V w.heap.size 78 #[.int .i64 x.1, .bool x.2] := by rw [hV]; exact (HRS.out _ _).drew
  have h0 : V.cell? ⟨w.heap.size, 0, none⟩ = some (.int .i64 x.1) := hr.cell 0
  have h1 : V.cell? ⟨w.heap.size, 1, none⟩ = some (.bool x.2) := hr.cell 1
  have hb : Below w.heap.size w V := by rw [hV]; exact bl_drew (HBS.out _ _)
  rw [← hV]
  exact bodyPost_ret (v := .tuple #[.agg #[.int .i64 x.1, .bool x.2], .bool true]) (by simp [results, Try.results78, go_sem, h0, h1]) rfl ⟨rfl, hb⟩
theorem bget_no (T g c : Nat) (vs : Array Value) (M mg mc : Nat) (mcs : Array Value) (W : List Nat) (l : List Cell) (j : Int) (w : World) (h : BufW w T g c vs M mg mc mcs W l) (hj : ¬ (0 ≤ j ∧ j < (l.length : Int))) :
    Calls Try.prog 78 #[.pointer (some ⟨T, 0, none⟩), .int .i64 j] w fun e w' => e = .returned (.tuple #[.agg #[.int .i64 0, .bool false], .bool false]) ∧ Below w.heap.size w w' := by
  have hb0 : Below w.heap.size w (w.alloc (.cells #[.int .i64 0, .bool false] 78)) := bl_alloc (Below.refl _ _) _
  have HIS := Lib.hid (bis_calls T g c vs M mg mc mcs W l j _ (h.below hb0))
  rw [decide_eq_false hj] at HIS
  have HB0 := Lib.hid hb0
  clear h hb0 hj
  go_enter Try.func78, Try.ntmps78
  go_wp2_with fail
  refine HIS.out.mono ?_
  rintro e w1 ⟨rfl, rfl⟩
  go_wp2_with fail
  exact bodyPost_ret (v := .tuple #[.agg #[.int .i64 0, .bool false], .bool false]) (by simp [results, Try.results78, go_sem]) rfl ⟨rfl, HB0.out⟩
end Go.Proofs.Ythjkeefdeeljoaa.Cl
/- buf: Of, New, Cells. -/
namespace Go.Proofs.Ythjkeefdeeljoaa.Cl
open Go.RowKit Go.Proofs.Ythjkeefdeeljoaa.Bt
set_option linter.unusedVariables false
set_option linter.unusedSimpArgs false

/-- So many cells are laid. -/
def laidC (L : List Cell) (k : Nat) : List Cell := (L.take k).map normC ++ List.replicate (L.length - k) (0, false)
theorem laidC_length (L : List Cell) (k : Nat) (hk : k ≤ L.length) : (laidC L k).length = L.length := by simp [laidC]; omega
theorem laidC_set (L : List Cell) (k : Nat) (hk : k < L.length) : (laidC L k).set k (normC (nth L k)) = laidC L (k + 1) := by
  unfold laidC
  have e1 : ((L.take k).map normC).length = k := by simp; omega
  rw [List.set_append_right _ _ (by omega), e1, Nat.sub_self, take_nth L k hk, List.map_append, show L.length - k = (L.length - (k + 1)) + 1 by omega, List.replicate_succ, List.set_cons_zero]
  simp
theorem laidC_all (L : List Cell) : laidC L L.length = L.map normC := by simp [laidC]
/-- Put, wherever its row lies. -/
theorem buf_put {B : Nat} {w : World} {T : Nat} {l : List Cell} (h : Buf B w T l) (hB : B ≤ w.heap.size) (j : Nat) (hj : j < l.length) (x : Cell) :
    Calls Try.prog 81 #[.pointer (some ⟨T, 0, none⟩), .int .i64 (j : Nat), .agg #[.int .i64 x.1, .bool x.2]] w fun e w' => e = .returned (.bool true) ∧ Buf B w' T (l.set j (normC x)) ∧ Below B w w' := by
  obtain ⟨g, c, vs, M, mg, mc, mcs, W, h, h1, h2, h3, h4⟩ := h
  refine (put_yes T g c vs M mg mc mcs W l j x w h hj).mono ?_
  rintro e w' ⟨rfl, ⟨vs', mcs', W', hb⟩, hO⟩
  exact ⟨rfl, ⟨g, c, vs', M, mg, mc, mcs', W', hb, h1, h2, h3, h4⟩, hO.below hB h2 h4⟩
theorem buf_get {B : Nat} {w : World} {T : Nat} {l : List Cell} (h : Buf B w T l) (j : Nat) (hj : j < l.length) :
    Calls Try.prog 78 #[.pointer (some ⟨T, 0, none⟩), .int .i64 (j : Nat)] w fun e w' => e = .returned (.tuple #[.agg #[.int .i64 (nth l j).1, .bool (nth l j).2], .bool true]) ∧ Below w.heap.size w w' := by
  obtain ⟨g, c, vs, M, mg, mc, mcs, W, h, _⟩ := h
  exact bget_yes T g c vs M mg mc mcs W l j w h hj
theorem buf_len {B : Nat} {w : World} {T : Nat} {l : List Cell} (h : Buf B w T l) : Calls Try.prog 83 #[.pointer (some ⟨T, 0, none⟩)] w fun e w' => e = .returned (.int .i64 (l.length : Nat)) ∧ w = w' := by
  obtain ⟨g, c, vs, M, mg, mc, mcs, W, h, _⟩ := h
  exact blen_calls T g c vs M mg mc mcs W l w h
set_option maxRecDepth 100000 in
set_option maxHeartbeats 1000000 in
theorem of_calls (L : List Cell) (A : Option Addr) (c : Nat) (w : World) (hs : Shows w A (L.flatMap ce)) (hl : L.length ≤ 1048576) (hc : L.length ≤ c) :
    Calls Try.prog 36 #[.slice A L.length c] w fun e w' => ∃ T, e = .returned (.pointer (some ⟨T, 0, none⟩)) ∧ Buf w.heap.size w' T (L.map normC) ∧ Below w.heap.size w w' := by
  have HS := Lib.hid hs
  have HMD := Lib.hid (made_calls L.length hl w)
  clear hs
  go_enter Try.func36, Try.ntmps36
  go_wp2_with fail
  refine HMD.out.mono ?_
  rintro e w1 ⟨T, rfl, hT, hB1⟩
  have HT := Lib.hid hT
  have HB1 := Lib.hid hB1
  clear hT hB1
  go_wp2_with fail
  go_loopw [4, 5, 16] (fun _ _ t16 wr => ∃ k : Nat, t16 = .int .i64 k ∧ k ≤ L.length ∧ Hid (Buf w.heap.size wr T (laidC L k)) ∧ Hid (Below w.heap.size w wr)) (fun _ _ i _ => L.length - (intOf i).toNat)
  case atStart => exact ⟨0, rfl, Nat.zero_le _, Lib.hid (by have h := HT.out; simpa [laidC] using h), HB1⟩
  case round =>
    obtain ⟨k, rfl, hk, HBF, HB⟩ := hrel
    by_cases hlt : k < L.length
    · obtain ⟨b, off, eA, c0, c1⟩ := cell_at (HS.out.below HB.out) k hlt
      subst eA
      have hset := laidC_set L k hlt
      have hkl : (k : Int) < (L.length : Int) := by omega
      obtain ⟨x, hx⟩ : ∃ x, nth L k = x := ⟨_, rfl⟩
      rw [hx] at c0 c1 hset
      have HST := Lib.hid hset
      have hsz := HB.out.size
      have HP := Lib.hid (buf_put (HBF.out.below (bl_alloc (Below.refl wr.heap.size wr) (.cells #[.int .i64 x.1, .bool x.2] 78))) (by simp; omega) k (by rw [laidC_length L k hk]; exact hlt) x)
      clear hx hset
      go_wp2_with fail
      refine HP.out.mono ?_
      rintro e w2 ⟨rfl, hb2, hB2⟩
      have HB2 := Lib.hid (Below.trans (HB.out.alloc hsz _) hB2)
      have HBF2 := Lib.hid hb2
      clear hb2 hB2 c0 c1
      go_wp2_with fail
      go_roundw
      case measure => first | (simp [intOf]; done) | (simp [intOf]; omega)
      case rel => exact ⟨k + 1, by go_num, by omega, Lib.hid (by rw [← HST.out]; exact HBF2.out), HB2⟩
    · obtain rfl : k = L.length := by omega
      go_wp2_with fail
      go_ret
      have h := HBF.out
      rw [laidC_all] at h
      exact ⟨T, rfl, h, HB.out⟩
theorem bnew_calls (n : Nat) (most : Int) (w : World) (hn : (n : Int) ≤ min (max most 0) 1048576) : Calls Try.prog 120 #[.int .i64 (n : Nat), .int .i64 most] w fun e w' => ∃ T, e = .returned (.tuple #[.pointer (some ⟨T, 0, none⟩), .int .i64 0]) ∧ Buf w.heap.size w' T (List.replicate n (0, false)) ∧ Below w.heap.size w w' := by
  have HM := Lib.hid (made_calls n (by omega) w)
  obtain ⟨q, hq⟩ : ∃ q, min (max most 0) 1048576 = q := ⟨_, rfl⟩
  have hlt : ¬ q < (n : Int) := by omega
  have hn0 : ¬ (n : Int) < 0 := by omega
  have hmx : (if most < 0 then 0 else most) = max most 0 := by split <;> omega
  go_enter Try.func120, Try.ntmps120
  go_wp2_with fail
  all_goals
    refine HM.out.mono ?_
    rintro e w1 ⟨T, rfl, hT, hB1⟩
    have HT := Lib.hid hT
    have HB1 := Lib.hid hB1
    clear hT hB1
    go_wp2_with fail
    go_ret2
    exact ⟨T, rfl, HT.out, HB1.out⟩
theorem bnew_no (n : Nat) (most : Int) (w : World) (hn : min (max most 0) 1048576 < (n : Int)) : Calls Try.prog 120 #[.int .i64 (n : Nat), .int .i64 most] w fun e w' => e = .returned (.tuple #[.pointer none, .int .i64 7]) ∧ w = w' := by
  obtain ⟨q, hq⟩ : ∃ q, min (max most 0) 1048576 = q := ⟨_, rfl⟩
  have hlt : q < (n : Int) := by omega
  go_enter Try.func120, Try.ntmps120
  go_wp2_with fail
  all_goals
    go_ret2
    exact ⟨rfl, rfl⟩
set_option maxRecDepth 100000 in
set_option maxHeartbeats 1000000 in
theorem cells_calls {B : Nat} (T : Nat) (l : List Cell) (w : World) (h : Buf B w T l) :
    Calls Try.prog 44 #[.pointer (some ⟨T, 0, none⟩)] w fun e w' => (∃ v, e = .returned v ∧ OwnC w' w.heap.size 78 v l) ∧ Below w.heap.size w w' := by
  have HH := Lib.hid h
  have HL := Lib.hid (buf_len h)
  have hl6 : l.length ≤ 1048576 := by obtain ⟨g, c, vs, M, mg, mc, mcs, W, h, _⟩ := h; exact h.small
  clear h
  go_enter Try.func44, Try.ntmps44
  go_wp2_with fail
  refine HL.out.mono ?_
  rintro e w1 ⟨rfl, rfl⟩
  go_wp2_with fail
  go_loopw [3, 4, 5, 6, 9] (fun t3 _ _ _ t9 wr => ∃ (k : Nat) (v : Value), v = t3 ∧ t9 = .int .i64 k ∧ k ≤ l.length ∧ Hid (OwnC wr w.heap.size 78 v (l.take k)) ∧ Hid (Below w.heap.size w wr)) (fun _ _ _ _ i _ => l.length - (intOf i).toNat)
  case atStart => exact ⟨0, _, rfl, rfl, Nat.zero_le _, Lib.hid (ownC_nil _ _ _), Lib.hid (Below.refl _ _)⟩
  case round =>
    obtain ⟨k, v, rfl, rfl, hk, HO, HB⟩ := hrel
    by_cases hlt : k < l.length
    · have HG := Lib.hid (buf_get (HH.out.below HB.out) k hlt)
      have hT := take_nth l k hlt
      obtain ⟨⟨xn, xb⟩, hx⟩ : ∃ x, nth l k = x := ⟨_, rfl⟩
      rw [hx] at HG hT
      have HT := Lib.hid hT
      have hkl : (k : Int) < (l.length : Int) := by omega
      clear hx hT
      go_wp2_with fail
      refine HG.out.mono ?_
      rintro e w2 ⟨rfl, hB2⟩
      have hlen : (l.take k).length = k := by simp; omega
      have hB2' := bl_then HB.out hB2
      have hown : (w2.alloc (.cells #[.int .i64 xn, .bool xb] 78)).ownsRow w.heap.size 78 2 v k ((l.take k).flatMap ce) := by
        have h := (HO.out.below hB2).below (bl_alloc (Below.refl w2.heap.size w2) (.cells #[.int .i64 xn, .bool xb] 78))
        unfold OwnC at h
        rwa [hlen] at h
      have HOWN := Lib.hid hown
      have HLEN := Lib.hid hlen
      have HB3 := Lib.hid (bl_alloc hB2' (.cells #[.int .i64 xn, .bool xb] 78))
      have hsz := HB3.out.size
      clear hown hlen hB2 hB2'
      dsimp only
      go_wp2_with (at_builtin; go_must (refine app_rowH (w0 := w) (w2.heap.size + 1) (by simp) w.heap.size rfl (.tmp 18) (.tmp 20) 59 78 (.agg #[.int .i64 0, .bool false]) 2 16 rfl Try.underlying59 info_bcell rfl (by decide) v k _ #[.int .i64 xn, .bool xb] rfl rfl rfl (ce_one (xn, xb)) HOWN.out HB3.out hsz (by omega) (by omega) ?_); intro v1 w3 hown1 hB1 hg1 hsz1; have HOWN1 := Lib.hid hown1; have HB4 := Lib.hid hB1; clear hown1 hB1 hg1 hsz1)
      go_roundw
      case measure => first | (simp [intOf]; done) | (simp [intOf]; omega)
      case rel =>
        refine ⟨k + 1, v1, rfl, by go_num, by omega, Lib.hid ?_, HB4⟩
        rw [HT.out]
        refine OwnC.snoc ?_
        rw [HLEN.out]
        exact HOWN1.out
    · obtain rfl : k = l.length := by omega
      go_wp2_with fail
      go_ret
      have h := HO.out
      rw [List.take_length] at h
      exact ⟨⟨v, rfl, h⟩, HB.out⟩
theorem cells_nil (w : World) : Calls Try.prog 44 #[.pointer none] w fun e w' => e = .returned (.slice none 0 0) ∧ w = w' := by
  go_enter Try.func44, Try.ntmps44
  go_wp2_with fail
  refine (blen_nil _).mono ?_
  rintro e w1 ⟨rfl, rfl⟩
  go_wp2_with fail
  go_loopw [3, 9] (fun t3 t9 wr => t3 = .slice none 0 0 ∧ t9 = .int .i64 0 ∧ wr = w) (fun _ _ _ => 0)
  case atStart => exact ⟨rfl, rfl, rfl⟩
  case round =>
    obtain ⟨rfl, rfl, rfl⟩ := hrel
    go_wp2_with fail
    go_ret
    exact ⟨rfl, rfl⟩
end Go.Proofs.Ythjkeefdeeljoaa.Cl
