/- buf: rows of cells, some of them missing: Len, is, Norm, Put, Get. -/
import Derived.Test.YthjkeefdeeljoaaPk6
import Derived.Test.YthjkeefdeeljoaaPk38
import Derived.Deep.RegionHeld3
import Derived.Deep.DeepCutAuto
import Derived.Deep.RegionWith
namespace Go.Proofs.Ythjkeefdeeljoaa.Cl
open Go.RowKit Go.Proofs.Ythjkeefdeeljoaa.Bt
set_option linter.unusedVariables false
set_option linter.unusedSimpArgs false

/-- At T stands a row of these cells: its numbers in block g, its mask at M (words in block mg). -/
structure BufW (w : World) (T g c : Nat) (vs : Array Value) (M mg mc : Nat) (mcs : Array Value) (W : List Nat) (l : List Cell) : Prop where
  box : Blk w T 141 #[.pointer (some ⟨M, 0, none⟩), .slice (some ⟨g, 0, none⟩) l.length c]
  row : Blk w g 2 vs
  cell : ∀ i, i < l.length → vs[i]? = some (.int .i64 (nth l i).1)
  mask : MaskW w M mg mc mcs W (l.map (·.2))
  norm : ∀ i, i < l.length → normC (nth l i) = nth l i
  small : l.length ≤ 1048576
  cap : l.length ≤ c
/-- .. whose blocks lie from B on. -/
def Buf (B : Nat) (w : World) (T : Nat) (l : List Cell) : Prop := ∃ g c vs M mg mc mcs W, BufW w T g c vs M mg mc mcs W l ∧ B ≤ T ∧ B ≤ g ∧ B ≤ M ∧ B ≤ mg
/-- Of what lay in w, blocks g and h alone may have been written. -/
structure Only2 (g h : Nat) (w w' : World) : Prop where
  os : w'.os = w.os
  tape : w'.tape = w.tape
  output : w'.output = w.output
  size : w.heap.size ≤ w'.heap.size
  other : ∀ k, k < w.heap.size → k ≠ g → k ≠ h → w'.heap[k]? = w.heap[k]?
section
variable {g h : Nat} {w w' w'' : World}
theorem Only2.refl (g h : Nat) (w : World) : Only2 g h w w := ⟨rfl, rfl, rfl, Nat.le_refl _, fun _ _ _ _ => rfl⟩
theorem Only2.trans (a : Only2 g h w w') (b : Only2 g h w' w'') : Only2 g h w w'' :=
  ⟨b.os.trans a.os, b.tape.trans a.tape, b.output.trans a.output, Nat.le_trans a.size b.size, fun j hj h1 h2 => (b.other j (Nat.lt_of_lt_of_le hj a.size) h1 h2).trans (a.other j hj h1 h2)⟩
theorem Only2.of_below (a : Below w.heap.size w w') : Only2 g h w w' := ⟨a.os, a.tape, a.output, a.size, fun k hk _ _ => a.block k hk⟩
theorem Only2.of_only (a : Only h w w') : Only2 g h w w' := ⟨a.os, a.tape, a.output, a.size, fun k hk _ h2 => a.other k hk h2⟩
theorem Only2.of_only' (a : Only g w w') : Only2 g h w w' := ⟨a.os, a.tape, a.output, a.size, fun k hk h1 _ => a.other k hk h1⟩
theorem Only2.below (a : Only2 g h w w') {B : Nat} (hB : B ≤ w.heap.size) (h1 : B ≤ g) (h2 : B ≤ h) : Below B w w' := ⟨a.os, a.tape, a.output, a.size, fun k hk => a.other k (by omega) (by omega) (by omega)⟩
theorem Only2.blk (a : Only2 g h w w') {k : Nat} {t : TypeId} {cs : Array Value} (hb : Blk w k t cs) (h1 : k ≠ g) (h2 : k ≠ h) : Blk w' k t cs := (a.other k hb.lt h1 h2).trans hb
theorem Only2.drew (a : Only2 g h w w') : Only2 g h w w'.drew := ⟨a.os, a.tape, a.output, a.size, a.other⟩
theorem Only2.set (a : Only2 g h w w') {p : Addr} (hp : p.block = g ∨ p.block = h ∨ w.heap.size ≤ p.block) (u : Value) : Only2 g h w (w'.setCell p u) :=
  ⟨a.os, a.tape, a.output, by rw [show (w'.setCell p u).heap.size = w'.heap.size by simp [World.setCell]]; exact a.size, fun k hk h1 h2 => (Below.heap_setCell _ _ _ _ (fun e => by rcases hp with hp | hp | hp <;> omega)).trans (a.other k hk h1 h2)⟩
end
section
variable {w w' : World} {T g c : Nat} {vs : Array Value} {M mg mc : Nat} {mcs : Array Value} {W : List Nat} {l : List Cell} {B : Nat}
theorem BufW.below (h : BufW w T g c vs M mg mc mcs W l) (hb : Below w.heap.size w w') : BufW w' T g c vs M mg mc mcs W l := ⟨h.box.below' hb, h.row.below' hb, h.cell, h.mask.below hb, h.norm, h.small, h.cap⟩
theorem Buf.below (h : Buf B w T l) (hb : Below w.heap.size w w') : Buf B w' T l := by
  obtain ⟨g, c, vs, M, mg, mc, mcs, W, h, h1⟩ := h
  exact ⟨g, c, vs, M, mg, mc, mcs, W, h.below hb, h1⟩
theorem Buf.wide (h : Buf B w T l) {B2 : Nat} (hB : B2 ≤ B) : Buf B2 w T l := by
  obtain ⟨g, c, vs, M, mg, mc, mcs, W, h, h1, h2, h3, h4⟩ := h
  exact ⟨g, c, vs, M, mg, mc, mcs, W, h, by omega, by omega, by omega, by omega⟩
/-- Its blocks are four. -/
theorem BufW.apart (h : BufW w T g c vs M mg mc mcs W l) : T ≠ g ∧ T ≠ M ∧ T ≠ mg ∧ g ≠ M ∧ g ≠ mg ∧ M ≠ mg :=
  ⟨Blk.ne_ h.box h.row (by decide), Blk.ne_ h.box h.mask.hT (by decide), Blk.ne_ h.box h.mask.hg (by decide), Blk.ne_ h.row h.mask.hT (by decide), Blk.ne_ h.row h.mask.hg (by decide), Blk.ne_ h.mask.hT h.mask.hg (by decide)⟩
theorem BufW.val (h : BufW w T g c vs M mg mc mcs W l) (i : Nat) (hi : i < l.length) : w.cell? ⟨g, i, none⟩ = some (.int .i64 (nth l i).1) ∧ w.frozen? ⟨g, i, none⟩ = false := ⟨(h.row.cell i).trans (h.cell i hi), h.row.frozen i⟩
theorem BufW.tops (h : BufW w T g c vs M mg mc mcs W l) : w.cell? ⟨T, 0, none⟩ = some (.pointer (some ⟨M, 0, none⟩)) ∧ w.cell? ⟨T, 1, none⟩ = some (.slice (some ⟨g, 0, none⟩) l.length c) := ⟨h.box.cell 0, h.box.cell 1⟩
end
theorem blen_calls (T g c : Nat) (vs : Array Value) (M mg mc : Nat) (mcs : Array Value) (W : List Nat) (l : List Cell) (w : World) (h : BufW w T g c vs M mg mc mcs W l) : Calls Try.prog 83 #[.pointer (some ⟨T, 0, none⟩)] w fun e w' => e = .returned (.int .i64 (l.length : Nat)) ∧ w = w' := by
  have c1 := h.tops.2
  clear h
  go_enter Try.func83, Try.ntmps83
  go_wp2
  go_ret
  exact ⟨rfl, rfl⟩
theorem blen_nil (w : World) : Calls Try.prog 83 #[.pointer none] w fun e w' => e = .returned (.int .i64 0) ∧ w = w' := by
  go_enter Try.func83, Try.ntmps83
  go_wp2
  go_ret
  exact ⟨rfl, rfl⟩
theorem bis_calls (T g c : Nat) (vs : Array Value) (M mg mc : Nat) (mcs : Array Value) (W : List Nat) (l : List Cell) (j : Int) (w : World) (h : BufW w T g c vs M mg mc mcs W l) : Calls Try.prog 117 #[.pointer (some ⟨T, 0, none⟩), .int .i64 j] w fun e w' => e = .returned (.bool (decide (0 ≤ j ∧ j < (l.length : Int)))) ∧ w = w' := by
  have HL := Lib.hid (blen_calls T g c vs M mg mc mcs W l w h)
  clear h
  by_cases h0 : 0 ≤ j
  · have e : decide (0 ≤ j ∧ j < (l.length : Int)) = decide (j < (l.length : Int)) := by simp [h0]
    rw [e]
    go_enter Try.func117, Try.ntmps117
    go_wp2_with fail
    refine HL.out.mono ?_
    rintro e w' ⟨rfl, rfl⟩
    go_wp2_with fail
    go_ret
    exact ⟨rfl, rfl⟩
  · rw [decide_eq_false (p := 0 ≤ j ∧ j < (l.length : Int)) (fun h => h0 h.1)]
    go_enter Try.func117, Try.ntmps117
    go_wp2_with fail
    go_ret
    exact ⟨rfl, rfl⟩
theorem norm_calls (x : Cell) (w : World) : Calls Try.prog 118 #[.agg #[.int .i64 x.1, .bool x.2]] w fun e w' => e = .returned (.agg #[.int .i64 (normC x).1, .bool (normC x).2]) ∧ Below w.heap.size w w' := by
  obtain ⟨n, b⟩ := x
  have HB := Lib.hid (bl_alloc (bl_alloc (Below.refl w.heap.size w) (.cells #[.int .i64 n, .bool b] 78)) (.cells #[.int .i64 0, .bool false] 78))
  cases b with
  | true =>
    go_enter Try.func118, Try.ntmps118
    go_wp2_with fail
    exact bodyPost_ret (v := .agg #[.int .i64 n, .bool true]) (by simp [results, Try.results118, go_sem]) rfl ⟨rfl, bl_alloc (bl_alloc (Below.refl _ _) _) _⟩
  | false =>
    go_enter Try.func118, Try.ntmps118
    go_wp2_with fail
    exact bodyPost_ret (v := .agg #[.int .i64 0, .bool false]) (by simp [results, Try.results118, go_sem]) rfl ⟨rfl, HB.out⟩
theorem make_vals (m : Nat) (hm : m ≤ 10000000) : ∀ W : World, (Instr.makeSlice 139 (.int .i64 (m : Int)) (.int .i64 (m : Int))).run Try.prog W = .ok (.slice (some ⟨W.heap.size, 0, none⟩) m m) (W.alloc (.cells (madeCells #[.int .i64 0] m) 2)) :=
  fun W => run_make_row' 139 2 (.int .i64 0) 8 Try.underlying139 (by kernel_rfl) rfl .i64 .i64 m (by omega) (by omega) W
theorem made_cells (m i : Nat) (h : i < m) : (madeCells #[Value.int .i64 0] m)[i]? = some (.int .i64 0) := by
  have e : (madeCells #[Value.int .i64 0] m)[i]? = (madeCells #[Value.int .i64 0] m).toList[i]? := by simp
  rw [e, toList_madeCells_one, List.getElem?_replicate, if_pos h]
/-- A row of missing cells. -/
theorem buf_made {w : World} {T g M B : Nat} {m : Nat} (hb : Blk w T 141 #[.pointer (some ⟨M, 0, none⟩), .slice (some ⟨g, 0, none⟩) m m]) (hr : Blk w g 2 (madeCells #[.int .i64 0] m)) (hm : Mask B w M (List.replicate m false)) (hl : m ≤ 1048576) (hT : B ≤ T) (hg : B ≤ g) (hM : B ≤ M) : Buf B w T (List.replicate m (0, false)) := by
  obtain ⟨mg, mc, mcs, W, h1, h2, h3⟩ := hm
  refine ⟨g, m, _, M, mg, mc, mcs, W, ⟨by rw [List.length_replicate]; exact hb, hr, fun i hi => ?_, by simpa using h1, fun i hi => ?_, by simpa using hl, by simp⟩, hT, hg, hM, h3⟩
  · have hi' : i < m := by simpa using hi
    rw [made_cells m i hi', nth_replicate _ _ _ hi']
  · have hi' : i < m := by simpa using hi
    rw [nth_replicate _ _ _ hi']; rfl
set_option maxHeartbeats 1000000 in
theorem made_calls (m : Nat) (hm : m ≤ 1048576) (w : World) : Calls Try.prog 80 #[.int .i64 (m : Nat)] w fun e w' => ∃ T, e = .returned (.pointer (some ⟨T, 0, none⟩)) ∧ Buf w.heap.size w' T (List.replicate m (0, false)) ∧ Below w.heap.size w w' := by
  have HN := Lib.hid (fun W => new_calls (m : Int) (by omega) false W)
  rw [Int.toNat_natCast] at HN
  have hmk := make_vals m (by omega)
  go_enter Try.func80, Try.ntmps80
  go_upto_region 1 with fail
  go_region_with (go_at_call 99; refine (HN.out _).mono ?_; rintro e w' ⟨rfl, hM, hB⟩; have HM := Lib.hid hM; have HB := Lib.hid hB; clear hM hB)
  all_goals go_wp2_with fail
  all_goals go_ret
  all_goals first
    | (have hb0 := bl_then (bl_drew (Below.refl w.heap.size w)) HB.out
       have hs := hb0.size
       exact ⟨_, rfl, buf_made (Blk.new' (by simp) _ _) ((Blk.new _ _ _).alloc _) (HM.out.below (bl_alloc (bl_alloc (Below.refl _ _) _) _)) hm (by omega) (by omega) (by simp), bl_alloc (bl_alloc hb0 _) _⟩)
    | (have hb0 := bl_then (bl_alloc (bl_drew (Below.refl w.heap.size w)) (.cells (madeCells #[.int .i64 0] m) 2)) HB.out
       have hs := HB.out.size
       have hr : Blk (w.drew.alloc (.cells (madeCells #[.int .i64 0] m) 2)) w.heap.size 2 (madeCells #[.int .i64 0] m) := Blk.new w.drew _ _
       have hmk2 := HM.out
       simp at hs
       obtain ⟨mg, mc, mcs, W, q1, q2, q3⟩ := hmk2
       simp at q1 q2 q3
       exact ⟨_, rfl, buf_made (Blk.new _ _ _) ((hr.below' HB.out).alloc _) ⟨mg, mc, mcs, W, q1.below (bl_alloc (Below.refl _ _) _), by omega, by omega⟩ hm (by omega) (by omega) (by omega), bl_alloc hb0 _⟩)
end Go.Proofs.Ythjkeefdeeljoaa.Cl
