/- Contract of hash.seek. -/
import Derived.Test.YteilngkjoeaboaaSlots
import Derived.Test.YteilngkjoeaboaaHead
import Derived.Laws.StructEq
import Derived.WideShapes
namespace Go.Proofs.Yteilngkjoeaboaa.Hs
open Go.RowKit Go.Shelf Go.Proofs.Yteilngkjoeaboaa.Lb
set_option linter.unusedVariables false
set_option linter.unusedSimpArgs false
attribute [local go_sem] Oper.semAt_some
attribute [local irreducible] wpStill

/-- '==' on labels. -/
theorem eql_lab (x y : Lab) (w : World) : (binOp .eql 34 x.v y.v).run Try.prog w = .ok (.bool (decide (x = y))) w := by
  have a1 := Try.isAgg5
  have a2 := Try.isAgg2
  have a3 := Try.isAgg9
  have z1 := Try.sizeOf5
  have z2 := Try.sizeOf2
  have z3 := Try.sizeOf9
  have u1 := Try.underlying5
  have u2 := Try.underlying2
  have u3 := Try.underlying9
  have hS : Try.prog.underlying 34 = some (.struct (Try.prog.fieldsOf 34)) := by kernel_rfl
  have hp : Try.prog.stoodInHeld 34 = false := by kernel_rfl
  obtain ⟨xk, xn, xs⟩ := x
  obtain ⟨yk, yn, ys⟩ := y
  simp only [Lab.v]
  rw [run_eql_struct, show (10000 : Nat) = 9999 + 1 from rfl, run_equalIn_agg w 9999 34 _ _ hS hp]
  simp only [Program.fieldsOf, Try.underlying34]
  go_simp
  have h3 : (xs.toList = ys.toList) ↔ xs = ys := ⟨fun h => by rw [ByteArray.toList_eq, ByteArray.toList_eq] at h; exact Go.WideShapes.bytes_inj h, fun h => by rw [h]⟩
  by_cases h1 : xk = yk <;> by_cases h2 : xn = yn <;> by_cases h : xs = ys <;> simp [h1, h2, h, h3]
theorem guard_lab : Try.prog.eqGuardType Try.prog.depth 34 = false := by kernel_rfl

theorem cs_get (L : List Lab) (j : Nat) (h : j < L.length) : (L.flatMap Lab.cs)[j * 3]? = some (.int .u8 (nth L j).k) ∧ (L.flatMap Lab.cs)[j * 3 + 1]? = some (.int .i64 (nth L j).n) ∧ (L.flatMap Lab.cs)[j * 3 + 2]? = some (.string (nth L j).s) := by
  induction L generalizing j with
  | nil => simp at h
  | cons a L ih =>
    have e : (a :: L).flatMap Lab.cs = Value.int .u8 a.k :: Value.int .i64 a.n :: Value.string a.s :: L.flatMap Lab.cs := rfl
    rw [e]
    cases j with
    | zero => exact ⟨rfl, rfl, rfl⟩
    | succ j =>
      have h' : j < L.length := by simpa using h
      rw [nth_cons_succ, show (j + 1) * 3 = j * 3 + 1 + 1 + 1 by omega]
      simpa using ih j h'
theorem lab_at {w : World} {A : Option Addr} {L : List Lab} (h : Shows w A (L.flatMap Lab.cs)) (j : Nat) (hj : j < L.length) : ∃ b off, A = some ⟨b, off, none⟩ ∧ w.cell? ⟨b, off + j * 3, none⟩ = some (.int .u8 (nth L j).k) ∧ w.cell? ⟨b, off + j * 3 + 1, none⟩ = some (.int .i64 (nth L j).n) ∧ w.cell? ⟨b, off + j * 3 + 2, none⟩ = some (.string (nth L j).s) := by
  obtain ⟨h1, h2, h3⟩ := cs_get L j hj
  obtain ⟨b, off, e, c1⟩ := h _ _ h1
  obtain ⟨b', off', e', c2⟩ := h _ _ h2
  obtain ⟨b'', off'', e'', c3⟩ := h _ _ h3
  rw [e] at e' e''
  injection e' with e'
  injection e' with e1 e2
  injection e'' with e''
  injection e'' with e3 e4
  subst e1; subst e2; subst e3; subst e4
  exact ⟨b, off, e, c1, by rw [← Nat.add_assoc] at c2; exact c2, by rw [← Nat.add_assoc] at c3; exact c3⟩

/-- A table that may be read. -/
structure TabR (w : World) (T : Nat) (L : List Lab) (S : List Nat) (LA : Option Addr) (lc sb sc : Nat) : Prop where
  l : w.cell? ⟨T, 0, none⟩ = some (.slice LA L.length lc)
  s : w.cell? ⟨T, 1, none⟩ = some (.slice (some ⟨sb, 0, none⟩) S.length sc)
  ls : Shows w LA (L.flatMap Lab.cs)
  row : RowN w sb 0 S
theorem TabR.below {w w' : World} {T : Nat} {L : List Lab} {S : List Nat} {LA : Option Addr} {lc sb sc : Nat} (h : TabR w T L S LA lc sb sc) (hb : Below w.heap.size w w') : TabR w' T L S LA lc sb sc :=
  ⟨bl_seen hb h.l, bl_seen hb h.s, h.ls.below hb, h.row.below hb⟩

/-- Is the d-th place looked at the one? -/
noncomputable def hit (a : Lab) (L : List Lab) (S : List Nat) (d : Nat) : Bool := decide (nth S (probe a S.length d) = 0) || decide (nth L (nth S (probe a S.length d) - 1) = a)
def SeekPost (a : Lab) (L : List Lab) (S : List Nat) (s n : Nat) : Prop :=
  (∃ d, d < S.length ∧ hit a L S d = true ∧ (∀ d', d' < d → hit a L S d' = false) ∧ s = probe a S.length d ∧ n = d + 1) ∨ ((∀ d, d < S.length → hit a L S d = false) ∧ s = 0 ∧ n = 0)

/-- What the loop's cells hold. -/
structure SkI (a : Lab) (T : Nat) (w : World) (s n : Nat) (W : World) : Prop where
  t : W.cell? ⟨w.heap.size, 0, none⟩ = some (.pointer (some ⟨T, 0, none⟩))
  a0 : W.cell? ⟨w.heap.size + 1, 0, none⟩ = some (.int .u8 a.k)
  a1 : W.cell? ⟨w.heap.size + 1, 1, none⟩ = some (.int .i64 a.n)
  a2 : W.cell? ⟨w.heap.size + 1, 2, none⟩ = some (.string a.s)
  r : W.cell? ⟨w.heap.size + 1 + 1, 0, none⟩ = some (.int .i64 s)
  rf : W.frozen? ⟨w.heap.size + 1 + 1, 0, none⟩ = false
  q : W.cell? ⟨w.heap.size + 1 + 1 + 1, 0, none⟩ = some (.int .i64 n)
  qf : W.frozen? ⟨w.heap.size + 1 + 1 + 1, 0, none⟩ = false
  below : Below w.heap.size w W
theorem SkI.own {a : Lab} {T : Nat} {w : World} {s n : Nat} {B : Nat} (hB : w.heap.size ≤ B) : OwnFrom B (fun (_ : List Nat) => SkI a T w s n) := fun x W W' row hs hg hr => by
  have h2 : ∀ r, row = some r → ∃ o : Obj, W.heap[r]? = some o ∧ o.isCells = false := fun r e => (hr r e).2
  exact ⟨cell_kept hs.t hg h2, cell_kept hs.a0 hg h2, cell_kept hs.a1 hg h2, cell_kept hs.a2 hg h2, cell_kept hs.r hg h2, (frozen_kept hs.r hg h2).trans hs.rf, cell_kept hs.q hg h2, (frozen_kept hs.q hg h2).trans hs.qf,
    hs.below.grown hg hs.below.size (fun k e => Nat.le_trans hB (hr k e).1)⟩
def SkJ (a : Lab) (L : List Lab) (S : List Nat) (T : Nat) (w : World) (pre : List (Fin S.length)) (W : World) : Prop := SkI a T w 0 0 W ∧ ∀ y ∈ pre, hit a L S y.1 = false
def SkX (a : Lab) (L : List Lab) (S : List Nat) (T : Nat) (w : World) (c : Code) (pre' : List (Fin S.length)) (W : World) : Prop :=
  (c = .ret ∧ ∃ (pre : List (Fin S.length)) (x : Fin S.length), pre' = pre ++ [x] ∧ hit a L S x.1 = true ∧ (∀ y ∈ pre, hit a L S y.1 = false) ∧ SkI a T w (probe a S.length x.1) (x.1 + 1) W)
theorem SkJ.own {a : Lab} {L : List Lab} {S : List Nat} {T : Nat} {w : World} {B : Nat} (hB : w.heap.size ≤ B) : OwnFrom B (SkJ a L S T w) := fun x W W' row hs hg hr => ⟨SkI.own hB [] W W' row hs.1 hg hr, hs.2⟩
theorem SkX.own {a : Lab} {L : List Lab} {S : List Nat} {T : Nat} {w : World} {B : Nat} (hB : w.heap.size ≤ B) (c : Code) : OwnFrom B (SkX a L S T w c) := fun x W W' row hs hg hr => by
  obtain ⟨h1, pre, y, h2, h3, h4, h5⟩ := hs
  exact ⟨h1, pre, y, h2, h3, h4, SkI.own hB [] W W' row h5 hg hr⟩

theorem SkI.store {a : Lab} {T : Nat} {w : World} {s0 n0 : Nat} {W : World} (hs : SkI a T w s0 n0 W) (s n : Nat) : SkI a T w s n (((W.setCell ⟨w.heap.size + 1 + 1, 0, none⟩ (.int .i64 (s : Nat))).setCell ⟨w.heap.size + 1 + 1 + 1, 0, none⟩ (.int .i64 (n : Nat))).drew) := by
  have hc : ∀ p : Addr, p.block ≠ w.heap.size + 1 + 1 → p.block ≠ w.heap.size + 1 + 1 + 1 → (((W.setCell ⟨w.heap.size + 1 + 1, 0, none⟩ (.int .i64 (s : Nat))).setCell ⟨w.heap.size + 1 + 1 + 1, 0, none⟩ (.int .i64 (n : Nat))).drew).cell? p = W.cell? p := fun p h h' => by
    show ((W.setCell ⟨w.heap.size + 1 + 1, 0, none⟩ (.int .i64 (s : Nat))).setCell ⟨w.heap.size + 1 + 1 + 1, 0, none⟩ (.int .i64 (n : Nat))).cell? p = W.cell? p
    rw [World.cell?_setCell_other _ _ _ _ (by intro e; rw [← e] at h'; exact h' rfl), World.cell?_setCell_other _ _ _ _ (by intro e; rw [← e] at h; exact h rfl)]
  refine ⟨(hc _ (by simp <;> omega) (by simp <;> omega)).trans hs.t, (hc _ (by simp) (by simp)).trans hs.a0, (hc _ (by simp) (by simp)).trans hs.a1, (hc _ (by simp) (by simp)).trans hs.a2, ?_, ?_, ?_, ?_, bl_drew (bl_set (bl_set hs.below (by simp <;> omega) _) (by simp <;> omega) _)⟩
  · show ((W.setCell ⟨w.heap.size + 1 + 1, 0, none⟩ (.int .i64 (s : Nat))).setCell ⟨w.heap.size + 1 + 1 + 1, 0, none⟩ (.int .i64 (n : Nat))).cell? _ = _
    rw [World.cell?_setCell_other _ _ _ _ (by intro e; injection e with e1; omega), World.cell?_setCell_same _ _ _ hs.r]
  · show ((W.setCell ⟨w.heap.size + 1 + 1, 0, none⟩ (.int .i64 (s : Nat))).setCell ⟨w.heap.size + 1 + 1 + 1, 0, none⟩ (.int .i64 (n : Nat))).frozen? _ = _
    rw [World.frozen?_setCell, World.frozen?_setCell]; exact hs.rf
  · show ((W.setCell ⟨w.heap.size + 1 + 1, 0, none⟩ (.int .i64 (s : Nat))).setCell ⟨w.heap.size + 1 + 1 + 1, 0, none⟩ (.int .i64 (n : Nat))).cell? _ = _
    exact World.cell?_setCell_same _ _ _ (by rw [World.cell?_setCell_other _ _ _ _ (by intro e; injection e with e1; omega)]; exact hs.q)
  · show ((W.setCell ⟨w.heap.size + 1 + 1, 0, none⟩ (.int .i64 (s : Nat))).setCell ⟨w.heap.size + 1 + 1 + 1, 0, none⟩ (.int .i64 (n : Nat))).frozen? _ = _
    rw [World.frozen?_setCell, World.frozen?_setCell]; exact hs.qf
/-- Where the loop begins. -/
theorem seek_start (w : World) (T : Nat) (a : Lab) (t1 t2 t3 t4 t5 t6 : TypeId) : ∃ W : World, W = ((((((w.alloc (.cells #[.pointer (some ⟨T, 0, none⟩)] t1)).alloc (.cells #[.int .u8 a.k, .int .i64 a.n, .string a.s] t2)).alloc (.cells #[.int .i64 0] t3)).alloc (.cells #[.int .i64 0] t4)).alloc (.cells #[.pointer (some ⟨T, 0, none⟩)] t5)).alloc (.cells #[.int .u8 a.k, .int .i64 a.n, .string a.s] t6)) ∧
    W.heap.size = w.heap.size + 6 ∧ SkI a T w 0 0 W ∧ W.cell? ⟨w.heap.size + 1 + 1 + 1 + 1, 0, none⟩ = some (.pointer (some ⟨T, 0, none⟩)) ∧
    W.cell? ⟨w.heap.size + 1 + 1 + 1 + 1 + 1, 0, none⟩ = some (.int .u8 a.k) ∧ W.cell? ⟨w.heap.size + 1 + 1 + 1 + 1 + 1, 1, none⟩ = some (.int .i64 a.n) ∧ W.cell? ⟨w.heap.size + 1 + 1 + 1 + 1 + 1, 2, none⟩ = some (.string a.s) := by
  refine ⟨_, rfl, by simp, ?_⟩
  have b0 := (((((Blk.new w t1 #[.pointer (some ⟨T, 0, none⟩)]).alloc (.cells #[.int .u8 a.k, .int .i64 a.n, .string a.s] t2)).alloc (.cells #[.int .i64 0] t3)).alloc (.cells #[.int .i64 0] t4)).alloc (.cells #[.pointer (some ⟨T, 0, none⟩)] t5)).alloc (.cells #[.int .u8 a.k, .int .i64 a.n, .string a.s] t6)
  have b1 := ((((Blk.new' (w := w.alloc (.cells #[.pointer (some ⟨T, 0, none⟩)] t1)) (H := w.heap.size + 1) (by simp) t2 #[.int .u8 a.k, .int .i64 a.n, .string a.s]).alloc (.cells #[.int .i64 0] t3)).alloc (.cells #[.int .i64 0] t4)).alloc (.cells #[.pointer (some ⟨T, 0, none⟩)] t5)).alloc (.cells #[.int .u8 a.k, .int .i64 a.n, .string a.s] t6)
  have b2 := (((Blk.new' (w := (w.alloc (.cells #[.pointer (some ⟨T, 0, none⟩)] t1)).alloc (.cells #[.int .u8 a.k, .int .i64 a.n, .string a.s] t2)) (H := w.heap.size + 1 + 1) (by simp) t3 #[.int .i64 0]).alloc (.cells #[.int .i64 0] t4)).alloc (.cells #[.pointer (some ⟨T, 0, none⟩)] t5)).alloc (.cells #[.int .u8 a.k, .int .i64 a.n, .string a.s] t6)
  have b3 := ((Blk.new' (w := ((w.alloc (.cells #[.pointer (some ⟨T, 0, none⟩)] t1)).alloc (.cells #[.int .u8 a.k, .int .i64 a.n, .string a.s] t2)).alloc (.cells #[.int .i64 0] t3)) (H := w.heap.size + 1 + 1 + 1) (by simp) t4 #[.int .i64 0]).alloc (.cells #[.pointer (some ⟨T, 0, none⟩)] t5)).alloc (.cells #[.int .u8 a.k, .int .i64 a.n, .string a.s] t6)
  have b4 := (Blk.new' (w := (((w.alloc (.cells #[.pointer (some ⟨T, 0, none⟩)] t1)).alloc (.cells #[.int .u8 a.k, .int .i64 a.n, .string a.s] t2)).alloc (.cells #[.int .i64 0] t3)).alloc (.cells #[.int .i64 0] t4)) (H := w.heap.size + 1 + 1 + 1 + 1) (by simp) t5 #[.pointer (some ⟨T, 0, none⟩)]).alloc (.cells #[.int .u8 a.k, .int .i64 a.n, .string a.s] t6)
  have b5 := Blk.new' (w := ((((w.alloc (.cells #[.pointer (some ⟨T, 0, none⟩)] t1)).alloc (.cells #[.int .u8 a.k, .int .i64 a.n, .string a.s] t2)).alloc (.cells #[.int .i64 0] t3)).alloc (.cells #[.int .i64 0] t4)).alloc (.cells #[.pointer (some ⟨T, 0, none⟩)] t5)) (H := w.heap.size + 1 + 1 + 1 + 1 + 1) (by simp) t6 #[.int .u8 a.k, .int .i64 a.n, .string a.s]
  exact ⟨⟨b0.cell 0, b1.cell 0, b1.cell 1, b1.cell 2, b2.cell 0, b2.frozen 0, b3.cell 0, b3.frozen 0, bl_alloc (bl_alloc (bl_alloc (bl_alloc (bl_alloc (bl_alloc (Below.refl _ _) _) _) _) _) _) _⟩, b4.cell 0, b5.cell 0, b5.cell 1, b5.cell 2⟩
set_option maxRecDepth 100000 in
set_option maxHeartbeats 2000000 in
theorem seek_in (a : Lab) (ha : a.Ok) (T : Nat) (L : List Lab) (S : List Nat) (LA : Option Addr) (lc sb sc kk : Nat) (w : World) (ht : TabR w T L S LA lc sb sc) (hm : S.length = 2 ^ kk) (hkk : kk ≤ 40) (hS : ∀ x ∈ S, x ≤ L.length) (hL : L.length ≤ 1099511627776) :
    CallsIn Fence.wide 5 Try.prog 19 #[.pointer (some ⟨T, 0, none⟩), a.v] w fun e w' => (∃ s n : Nat, e = .returned (.tuple #[.int .i64 s, .int .i64 n]) ∧ SeekPost a L S s n) ∧ Below w.heap.size w w' := by
  have HSL := Lib.hid (fun w => slots_calls (some ⟨T, 0, none⟩) a w)
  have HT := Lib.hid ht
  have HA := Lib.hid ha
  have HSB := Lib.hid hS
  have hv : a.v = .agg #[.int .u8 a.k, .int .i64 a.n, .string a.s] := rfl
  rw [hv] at HSL ⊢
  have HM := Lib.hid hm
  clear ht ha hS hv hm
  refine callsIn_of_wp_marks Try.func19 rfl trivial ?_ rfl
  simp only [Try.ntmps19, List.size_toArray, List.length_cons, List.length_nil, Nat.reduceAdd, Nat.reduceSub, Array.replicate_succ, Array.replicate_zero, List.push_toArray, List.append_toArray, List.nil_append, List.cons_append]
  gi_wp2_with (refine ⟨trivial, ?_⟩; gi_at_call 23; refine (callsIn_wide.2 (HSL.out _)).mono ?_; rintro e w' ⟨rfl, rfl⟩)
  clear HSL
  obtain ⟨W0, hW0, hsz, hI0, hb4, hb5, hb6, hb7⟩ := seek_start w T a 27 34 3 3 27 34
  rw [← hW0]
  clear hW0
  have HT0 := Lib.hid (HT.out.below hI0.below)
  refine wpIn_rangeFunc_ownG rfl (by omega) (gf := 26) (lb := #[.pointer (some ⟨w.heap.size + 1 + 1 + 1 + 1, 0, none⟩), .pointer (some ⟨w.heap.size + 1 + 1 + 1 + 1 + 1, 0, none⟩)]) rfl trivial (enters_of Try.func26 (by kernel_rfl) rfl)
    (slots_stops (w.heap.size + 1 + 1 + 1 + 1) (w.heap.size + 1 + 1 + 1 + 1 + 1) T a HA.out S.length kk HM.out hkk (some ⟨sb, 0, none⟩) sc W0 hb4 HT0.out.s hb5 hb6 hb7) (fun _ _ => trivial) (fun _ _ _ _ _ _ _ _ => trivial) (Below.refl _ _) (fun _ => rfl)
    (SkJ a L S T w) (SkX a L S T w) (SkJ.own (by omega)) (SkX.own (by omega)) ⟨hI0, fun y hy => by simp at hy⟩
    (fun x => { tmps := #[.pointer (some ⟨T, 0, none⟩), .agg #[.int .u8 a.k, .int .i64 a.n, .string a.s], .pointer (some ⟨w.heap.size, 0, none⟩), .pointer (some ⟨w.heap.size + 1, 0, none⟩), .pointer (some ⟨w.heap.size + 1 + 1, 0, none⟩), .pointer (some ⟨w.heap.size + 1 + 1 + 1, 0, none⟩),
      .int .i64 ((x.1 + 1 : Nat) : Int), .int .i64 (probe a S.length x.1 : Nat), .pointer (some ⟨T, 0, none⟩), .agg #[.int .u8 a.k, .int .i64 a.n, .string a.s], .func (.func 26) #[] #[.pointer (some ⟨w.heap.size + 1 + 1 + 1 + 1, 0, none⟩), .pointer (some ⟨w.heap.size + 1 + 1 + 1 + 1 + 1, 0, none⟩)],
      .int .i64 ((x.1 + 1 : Nat) : Int), .int .i64 (probe a S.length x.1 : Nat), undef, undef, undef, undef, undef, undef, undef, undef, undef, undef, undef, undef, undef, undef, undef, undef, undef, undef, undef, undef, undef, undef, undef, undef, undef, undef, undef, undef], defers := [] }) ?assign ?body ?done ?stop
  case assign =>
    intro l x W K hK
    gi_wp2
    exact hK
  case body =>
    rintro l pre ⟨d, hd⟩ W ⟨hI, hno⟩ _
    dsimp only
    have hp : probe a S.length d < S.length := Nat.mod_lt _ (by omega)
    have hTW := HT.out.below hI.below
    have hrow := (hTW.row (probe a S.length d) hp).1
    rw [Nat.zero_add] at hrow
    have hx := HSB.out _ (nth_mem S _ hp)
    have HHit : Hid (hit a L S d = (decide (nth S (probe a S.length d) = 0) || decide (nth L (nth S (probe a S.length d) - 1) = a))) := Lib.hid rfl
    have e0 := hTW.s
    have eL := hTW.l
    have eLs := Lib.hid hTW.ls
    have e1 := hI.t
    have e2 := hI.a0
    have e3 := hI.a1
    have e4 := hI.a2
    have e5 := hI.r
    have e5f := hI.rf
    have e6 := hI.q
    have e6f := hI.qf
    have HI := Lib.hid hI
    have HNO := Lib.hid hno
    have HPP : Hid (∀ P, P = probe a S.length d → P = probe a S.length d) := Lib.hid fun P h => h
    have HXX : Hid (∀ W', SkI a T w (probe a S.length d) (d + 1) W' → hit a L S d = true → SkX a L S T w .ret (pre ++ [⟨d, hd⟩]) W') := Lib.hid fun W' h h' => ⟨rfl, pre, ⟨d, hd⟩, rfl, h', hno, h⟩
    have HJJ : Hid (∀ W', SkI a T w 0 0 W' → hit a L S d = false → SkJ a L S T w (pre ++ [⟨d, hd⟩]) W') := Lib.hid fun W' h h' => ⟨h, fun y hy => by
      rcases List.mem_append.1 hy with hy | hy
      · exact hno y hy
      · obtain rfl : y = ⟨d, hd⟩ := by simpa using hy
        exact h'⟩
    have hpl : (probe a S.length d : Int) < (S.length : Int) := by omega
    clear hTW hI hno
    generalize probe a S.length d = p at *
    generalize nth S p = x at *
    cases x with
    | zero =>
      have hh : hit a L S d = true := by rw [HHit.out]; rfl
      have HH := Lib.hid hh
      clear hh
      gi_wp2
      refine wpIn_region_head (g := 1) 25 #[true, true, true, true, true, true, true, true, true, true, true, true, true, true, true, true, true, true, true, true, true, true, true, true, true, false] (by kernel_rfl) (by kernel_rfl) rfl ?_
      simp only [List.take_succ_cons, List.take_zero]
      change wpStill _ _ W.drew _ _ _
      iterate 9 still_step
      iterate 16 refine wpStill_skip (by kernel_rfl) ?_
      refine wpStill_nil ?_
      refine wpAnyIn_ready (rs := [25]) (by kernel_rfl) (by simp) ?_
      refine AllReadyIn.cons rfl (fun K hK => ?_) AllReadyIn.nil
      go_simp
      refine hK _ _ ?_
      clear hK K
      refine wpAnyIn_done (by kernel_rfl) ?_ _
      gi_wp2
      exact ⟨(((KeepsOthers.setCell _ _ _).trans (KeepsOthers.setCell _ _ _)).trans (KeepsOthers.drew _)).from _, HXX.out _ (HI.out.store p (d + 1)) HH.out⟩
    | succ j =>
      obtain ⟨lb, lo, rfl, g0, g1, g2⟩ := lab_at eLs.out j (by omega)
      have hhit : hit a L S d = decide (nth L j = a) := by rw [HHit.out]; simp
      have hx' : ((j + 1 : Nat) : Int) = (j : Int) + 1 := by omega
      rw [hx'] at hrow
      have hjl : (j : Int) < (L.length : Int) := by omega
      have z0 : (((j : Int) + 1) == 0) = false := by simp; omega
      have hwj : IntKind.i64.wrap (j : Int) = (j : Int) := by rw [IntKind.wrap_i64]; omega
      have heq := fun w => eql_lab (nth L j) a w
      have hgd := guard_lab
      unfold Lab.v at heq
      clear hx' hx HHit
      generalize nth L j = y at *
      obtain ⟨b, hb⟩ : ∃ b, b = decide (y = a) := ⟨_, rfl⟩
      rw [← hb] at heq hhit
      have HHit := Lib.hid hhit
      clear hb hhit eLs
      cases b with
      | true =>
        gi_wp2
        refine wpIn_region_head (g := 1) 25 #[true, true, true, true, true, true, true, true, true, true, true, true, true, true, true, true, true, true, true, true, true, true, true, true, true, false] (by kernel_rfl) (by kernel_rfl) rfl ?_
        simp only [List.take_succ_cons, List.take_zero]
        change wpStill _ _ W.drew _ _ _
        iterate 9 still_step
        iterate 16 (refine wpStill_want (by kernel_rfl) (fun K hK => ?_); go_simp; refine hK _ ?_; clear hK K)
        refine wpStill_nil ?_
        refine wpAnyIn_ready (rs := [25]) (by kernel_rfl) (by simp) ?_
        refine AllReadyIn.cons rfl (fun K hK => ?_) AllReadyIn.nil
        go_simp
        refine hK _ _ ?_
        clear hK K
        refine wpAnyIn_done (by kernel_rfl) ?_ _
        gi_wp2
        exact ⟨(((KeepsOthers.setCell _ _ _).trans (KeepsOthers.setCell _ _ _)).trans (KeepsOthers.drew _)).from _, HXX.out _ (HI.out.store p (d + 1)) HHit.out⟩
      | false =>
        gi_wp2
        refine wpIn_region_head (g := 1) 25 #[true, true, true, true, true, true, true, true, true, true, true, true, true, true, true, true, true, true, true, true, true, true, true, true, true, false] (by kernel_rfl) (by kernel_rfl) rfl ?_
        simp only [List.take_succ_cons, List.take_zero]
        change wpStill _ _ W.drew _ _ _
        iterate 9 still_step
        iterate 16 (refine wpStill_want (by kernel_rfl) (fun K hK => ?_); go_simp; refine hK _ ?_; clear hK K)
        refine wpStill_nil ?_
        refine wpAnyIn_ready (rs := [25]) (by kernel_rfl) (by simp) ?_
        refine AllReadyIn.cons rfl (fun K hK => ?_) AllReadyIn.nil
        go_simp
        refine hK _ _ ?_
        clear hK K
        refine wpAnyIn_done (by kernel_rfl) ?_ _
        gi_wp2
        exact ⟨(KeepsOthers.drew _).from _, trivial, HJJ.out _ ⟨HI.out.t, HI.out.a0, HI.out.a1, HI.out.a2, HI.out.r, HI.out.rf, HI.out.q, HI.out.qf, bl_drew HI.out.below⟩ HHit.out⟩
  case done =>
    rintro D ys W hD rfl ⟨hI, hno⟩ hK
    have e5 := hI.r
    have e5f := hI.rf
    have e6 := hI.q
    have e6f := hI.qf
    have HI := Lib.hid hI
    have HNO : Hid (∀ d, d < S.length → hit a L S d = false) := Lib.hid fun d hd => hno ⟨d, hd⟩ (mem_upto _ _ hd)
    clear hI hno
    gi_wp2
    have hI3 := HI.out.store 0 0
    have hK3 : (((W.setCell ⟨w.heap.size + 1 + 1, 0, none⟩ (.int .i64 (0 : Nat))).setCell ⟨w.heap.size + 1 + 1 + 1, 0, none⟩ (.int .i64 (0 : Nat)))).heap[D]? = some (.deferred (some [])) := ((KeepsOthers.setCell _ _ _).trans (KeepsOthers.setCell _ _ _)).same D _ hK rfl
    refine ⟨by simp, .inl ⟨_, _, rfl, run_takeDeferred hK3, ?_⟩⟩
    have hg := grownBy_putObj' ((W.setCell ⟨w.heap.size + 1 + 1, 0, none⟩ (.int .i64 (0 : Nat))).setCell ⟨w.heap.size + 1 + 1 + 1, 0, none⟩ (.int .i64 (0 : Nat))) D (.deferred none)
    have hr : ∀ r, some D = some r → ∃ o : Obj, ((W.setCell ⟨w.heap.size + 1 + 1, 0, none⟩ (.int .i64 (0 : Nat))).setCell ⟨w.heap.size + 1 + 1 + 1, 0, none⟩ (.int .i64 (0 : Nat))).heap[r]? = some o ∧ o.isCells = false := fun r e => by cases e; exact ⟨_, hK3, rfl⟩
    have q1 := cell_kept (W := ((W.setCell ⟨w.heap.size + 1 + 1, 0, none⟩ (.int .i64 (0 : Nat))).setCell ⟨w.heap.size + 1 + 1 + 1, 0, none⟩ (.int .i64 (0 : Nat)))) hI3.r hg hr
    have q2 := cell_kept (W := ((W.setCell ⟨w.heap.size + 1 + 1, 0, none⟩ (.int .i64 (0 : Nat))).setCell ⟨w.heap.size + 1 + 1 + 1, 0, none⟩ (.int .i64 (0 : Nat)))) hI3.q hg hr
    have hB3 : Below w.heap.size w ((W.setCell ⟨w.heap.size + 1 + 1, 0, none⟩ (.int .i64 (0 : Nat))).setCell ⟨w.heap.size + 1 + 1 + 1, 0, none⟩ (.int .i64 (0 : Nat))) := bl_set (bl_set HI.out.below (by simp <;> omega) _) (by simp <;> omega) _
    refine ⟨.tuple #[.int .i64 (0 : Nat), .int .i64 (0 : Nat)], ?_, ⟨0, 0, rfl, .inr ⟨HNO.out, rfl, rfl⟩⟩, hB3.trans (belowK_b (w := w) (Nat.le_refl _) _ D _ _ (by omega) hK3 rfl rfl)⟩
    have q1' := q1
    have q2' := q2
    simp only [Int.natCast_zero] at q1' q2'
    simp [results, Try.f19, go_sem, q1', q2']
  case stop =>
    rintro D c pre W hD ⟨k, hk, rfl⟩ ⟨rfl, pre', x, he, hh, hno, hI⟩ hK
    have hx : x.1 = k ∧ pre' = upto S.length k := by
      rw [upto_succ _ _ hk] at he
      have h := List.append_inj' he.symm rfl
      exact ⟨by have := congrArg (List.map Fin.val) h.2; simpa using this, h.1⟩
    obtain ⟨hx1, rfl⟩ := hx
    have hno' : ∀ d', d' < k → hit a L S d' = false := fun d' hd' => hno ⟨d', by omega⟩ (mem_upto _ _ hd')
    subst hx1
    clear he hno
    gi_wp2
    refine ⟨by simp, .inl ⟨_, _, rfl, run_takeDeferred hK, ?_⟩⟩
    have q1 := cell_kept hI.r (grownBy_putObj' _ D (.deferred none)) (fun r e => by cases e; exact ⟨_, hK, rfl⟩)
    have q2 := cell_kept hI.q (grownBy_putObj' _ D (.deferred none)) (fun r e => by cases e; exact ⟨_, hK, rfl⟩)
    refine ⟨.tuple #[.int .i64 (probe a S.length x.1 : Nat), .int .i64 ((x.1 + 1 : Nat) : Int)], ?_, ⟨_, _, rfl, .inl ⟨x.1, hk, hh, hno', rfl, rfl⟩⟩, hI.below.trans (belowK_b (w := w) (Nat.le_refl _) _ D _ _ (by omega) hK rfl rfl)⟩
    simp [results, Try.f19, go_sem, q1, q2]
end Go.Proofs.Yteilngkjoeaboaa.Hs
