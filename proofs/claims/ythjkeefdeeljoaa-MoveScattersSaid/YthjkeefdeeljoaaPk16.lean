/- Contract of shape.Strides. -/
import Derived.Test.YthjkeefdeeljoaaPk14
import Derived.Test.YthjkeefdeeljoaaPk15
import Derived.RangeFuncNested
namespace Go.Proofs.Ythjkeefdeeljoaa.Shp
open Go.RowKit Go.Shelf Go.Proofs.Ythjkeefdeeljoaa.Num
set_option linter.unusedVariables false
set_option linter.unusedSimpArgs false
attribute [local go_sem] Oper.semAt_some

theorem backward_calls (a : Option Addr) (len cap : Nat) (w : World) :
    Calls Try.prog 109 #[.slice a len cap] w fun e w' => e = .returned (.func (.func 134) #[] #[.pointer (some ⟨w.heap.size, 0, none⟩)]) ∧ w' = w.alloc (.cells #[.slice a len cap] 32) := by
  go_enter Try.func109, Try.ntmps109
  go_wp2
  go_ret
  exact ⟨rfl, rfl⟩
theorem backward_stops (F : Fence) (n : Nat) (hf : F.fn 134) (hro : F.round = none) (hn : 1 ≤ n) (Bs n₀ : Nat) (xs : List Int) (A : Option Addr) (ca : Nat) (hl : xs.length ≤ 1000000) (w : World)
    (hBs : w.cell? ⟨Bs, 0, none⟩ = some (.slice A xs.length ca)) (hn0 : n₀ ≤ w.heap.size) (hX : ∀ W', Below n₀ w W' → ReadsI W' .i64 A xs) :
    SeqStopsK F n Try.prog 134 #[.pointer (some ⟨Bs, 0, none⟩)] (fun x : Fin xs.length => #[Value.int .i64 (x.1 : Int), Value.int .i64 (nth xs x.1)]) (KpB n₀ Bs) (fun ys => ys = downs xs.length xs.length)
      (fun pre => ∃ k, k < xs.length ∧ pre = downs xs.length (k + 1)) xs.length w := fun l J Jx W hW _ _ hY h0 =>
  backward1_in F n hf hro hn l Bs n₀ xs A ca hl J Jx hY W ((hW.cell (p := ⟨Bs, 0, none⟩) (World.block_lt_of_cell? _ _ hBs)).trans hBs) (fun W' h => hX W' ((hW.mono hn0).trans h)) h0


/-- What an axis counts for at least. -/
def mx (xs : List Int) (j : Nat) : Nat := (max (nth xs j) 1).toNat
def nxt (xs : List Int) (m i : Nat) : Nat := if i + 1 < xs.length then m * mx xs (i + 1) else m
def stepS (xs : List Int) (s : Nat × List Nat) (i : Nat) : Nat × List Nat := (nxt xs s.1 i, s.2.set i (nxt xs s.1 i))
def foldS (xs : List Int) (pre : List (Fin xs.length)) : Nat × List Nat := pre.foldl (fun s x => stepS xs s x.1) (1, List.replicate xs.length 0)
theorem foldS_snoc (xs : List Int) (pre : List (Fin xs.length)) (x : Fin xs.length) : foldS xs (pre ++ [x]) = stepS xs (foldS xs pre) x.1 := by simp [foldS]
theorem foldS_length (xs : List Int) (pre : List (Fin xs.length)) : (foldS xs pre).2.length = xs.length := by
  suffices h : ∀ (l : List (Fin xs.length)) (s : Nat × List Nat), s.2.length = xs.length → (l.foldl (fun s x => stepS xs s x.1) s).2.length = xs.length by
    exact h pre _ (by simp)
  intro l
  induction l with
  | nil => intro s h; exact h
  | cons x l ih => intro s h; exact ih _ (by simp [stepS, h])
theorem KpB.set {n₀ Bs : Nat} {W W' : World} (h : KpB n₀ Bs W W') {a : Addr} (h1 : n₀ ≤ a.block) (h2 : Bs ≠ a.block) (v : Value) : KpB n₀ Bs W (W'.setCell a v) :=
  ⟨h.1.setCell h1 v, (Below.heap_setCell _ _ _ _ h2).trans h.2⟩
theorem KpB.alloc {n₀ Bs : Nat} {W : World} (h0 : n₀ ≤ W.heap.size) (hb : Bs < W.heap.size) (o : Obj) : KpB n₀ Bs W (W.alloc o) := ⟨(Below.refl _ _).alloc h0 o, Below.heap_alloc _ _ _ hb⟩
theorem KpB.drew {n₀ Bs : Nat} {W W' : World} (h : KpB n₀ Bs W W') : KpB n₀ Bs W W'.drew := ⟨⟨h.1.os, h.1.tape, h.1.output, h.1.size, h.1.block⟩, h.2⟩
/-- What the loop's cells hold. -/
structure StrI (xs : List Int) (A : Option Addr) (ca : Nat) (w : World) (N : Nat) (L : List Nat) (W : World) : Prop where
  s : W.cell? ⟨w.heap.size, 0, none⟩ = some (.slice A xs.length ca)
  r : W.cell? ⟨w.heap.size + 1, 0, none⟩ = some (.slice none 0 0)
  rf : W.frozen? ⟨w.heap.size + 1, 0, none⟩ = false
  l : W.cell? ⟨w.heap.size + 1 + 1 + 1, 0, none⟩ = some (.slice (some ⟨w.heap.size + 1 + 1, 0, none⟩) xs.length xs.length)
  n : W.cell? ⟨w.heap.size + 1 + 1 + 1 + 1, 0, none⟩ = some (.int .i64 (N : Nat))
  nf : W.frozen? ⟨w.heap.size + 1 + 1 + 1 + 1, 0, none⟩ = false
  ok : W.cell? ⟨w.heap.size + 1 + 1 + 1 + 1 + 1, 0, none⟩ = some (.bool true)
  okf : W.frozen? ⟨w.heap.size + 1 + 1 + 1 + 1 + 1, 0, none⟩ = false
  row : RowN W (w.heap.size + 1 + 1) 0 L
  pos : 1 ≤ N
  le : N ≤ 1048576
  below : Below w.heap.size w W
  sz : w.heap.size + 7 ≤ W.heap.size
section
variable {xs : List Int} {A : Option Addr} {ca : Nat} {w : World} {N : Nat} {L : List Nat} {W : World}
theorem StrI.keep (hs : StrI xs A ca w N L W) {W' : World} (hc : ∀ a : Addr, a.block < W.heap.size → W'.cell? a = W.cell? a) (hf : ∀ a : Addr, a.block < W.heap.size → W'.frozen? a = W.frozen? a) (hb : Below w.heap.size w W') (hz : W.heap.size ≤ W'.heap.size) : StrI xs A ca w N L W' := by
  have lt : ∀ {a : Addr} {v : Value}, W.cell? a = some v → a.block < W.heap.size := fun h => World.block_lt_of_cell? _ _ h
  exact ⟨(hc _ (lt hs.s)).trans hs.s, (hc _ (lt hs.r)).trans hs.r, (hf _ (lt hs.r)).trans hs.rf, (hc _ (lt hs.l)).trans hs.l, (hc _ (lt hs.n)).trans hs.n, (hf _ (lt hs.n)).trans hs.nf, (hc _ (lt hs.ok)).trans hs.ok, (hf _ (lt hs.ok)).trans hs.okf,
    fun i hi => ⟨(hc _ (lt (hs.row i hi).1)).trans (hs.row i hi).1, (hf _ (lt (hs.row i hi).1)).trans (hs.row i hi).2⟩, hs.pos, hs.le, hb, Nat.le_trans hs.sz hz⟩
theorem StrI.alloc (hs : StrI xs A ca w N L W) (o : Obj) : StrI xs A ca w N L (W.alloc o) := by
  have hb : Below W.heap.size W (W.alloc o) := bl_alloc (Below.refl _ _) o
  exact hs.keep (fun a h => hb.cell h) (fun a h => hb.frozen h) (bl_then hs.below hb) hb.size
theorem StrI.drew (hs : StrI xs A ca w N L W) : StrI xs A ca w N L W.drew := hs.keep (fun _ _ => rfl) (fun _ _ => rfl) (bl_drew hs.below) (Nat.le_refl _)
theorem StrI.setN (hs : StrI xs A ca w N L W) (M : Nat) (h1 : 1 ≤ M) (h2 : M ≤ 1048576) : StrI xs A ca w M L (W.setCell ⟨w.heap.size + 1 + 1 + 1 + 1, 0, none⟩ (.int .i64 (M : Nat))) := by
  have hc : ∀ a : Addr, a.block ≠ w.heap.size + 1 + 1 + 1 + 1 → (W.setCell ⟨w.heap.size + 1 + 1 + 1 + 1, 0, none⟩ (.int .i64 (M : Nat))).cell? a = W.cell? a := fun a h => World.cell?_setCell_other _ _ _ _ (by intro e; rw [← e] at h; exact h rfl)
  refine ⟨(hc _ (by simp <;> omega)).trans hs.s, (hc _ (by simp <;> omega)).trans hs.r, by rw [World.frozen?_setCell]; exact hs.rf, (hc _ (by simp <;> omega)).trans hs.l, World.cell?_setCell_same _ _ _ hs.n, by rw [World.frozen?_setCell]; exact hs.nf,
    (hc _ (by simp <;> omega)).trans hs.ok, by rw [World.frozen?_setCell]; exact hs.okf, fun i hi => ⟨(hc _ (by simp <;> omega)).trans (hs.row i hi).1, by rw [World.frozen?_setCell]; exact (hs.row i hi).2⟩, h1, h2, bl_set hs.below (by simp <;> omega) _, by have := hs.sz; simpa [World.setCell] using this⟩
theorem StrI.setOk (hs : StrI xs A ca w N L W) : StrI xs A ca w N L (W.setCell ⟨w.heap.size + 1 + 1 + 1 + 1 + 1, 0, none⟩ (.bool true)) := by
  have hc : ∀ a : Addr, a.block ≠ w.heap.size + 1 + 1 + 1 + 1 + 1 → (W.setCell ⟨w.heap.size + 1 + 1 + 1 + 1 + 1, 0, none⟩ (.bool true)).cell? a = W.cell? a := fun a h => World.cell?_setCell_other _ _ _ _ (by intro e; rw [← e] at h; exact h rfl)
  refine ⟨(hc _ (by simp <;> omega)).trans hs.s, (hc _ (by simp <;> omega)).trans hs.r, by rw [World.frozen?_setCell]; exact hs.rf, (hc _ (by simp <;> omega)).trans hs.l, (hc _ (by simp <;> omega)).trans hs.n, by rw [World.frozen?_setCell]; exact hs.nf,
    World.cell?_setCell_same _ _ _ hs.ok, by rw [World.frozen?_setCell]; exact hs.okf, fun i hi => ⟨(hc _ (by simp <;> omega)).trans (hs.row i hi).1, by rw [World.frozen?_setCell]; exact (hs.row i hi).2⟩, hs.pos, hs.le, bl_set hs.below (by simp <;> omega) _, by have := hs.sz; simpa [World.setCell] using this⟩
theorem StrI.setRow (hs : StrI xs A ca w N L W) (i : Nat) (hi : i < L.length) : StrI xs A ca w N (L.set i N) (W.setCell ⟨w.heap.size + 1 + 1, i, none⟩ (.int .i64 (N : Nat))) := by
  have hc : ∀ a : Addr, a.block ≠ w.heap.size + 1 + 1 → (W.setCell ⟨w.heap.size + 1 + 1, i, none⟩ (.int .i64 (N : Nat))).cell? a = W.cell? a := fun a h => World.cell?_setCell_other _ _ _ _ (by intro e; rw [← e] at h; exact h rfl)
  have hr := hs.row.set i N hi
  rw [Nat.zero_add] at hr
  exact ⟨(hc _ (by simp <;> omega)).trans hs.s, (hc _ (by simp <;> omega)).trans hs.r, by rw [World.frozen?_setCell]; exact hs.rf, (hc _ (by simp <;> omega)).trans hs.l, (hc _ (by simp <;> omega)).trans hs.n, by rw [World.frozen?_setCell]; exact hs.nf,
    (hc _ (by simp <;> omega)).trans hs.ok, by rw [World.frozen?_setCell]; exact hs.okf, hr, hs.pos, hs.le, bl_set hs.below (by simp <;> omega) _, by have := hs.sz; simpa [World.setCell] using this⟩
end
/-- .. some places having come. -/
def StrJ (xs : List Int) (A : Option Addr) (ca : Nat) (w : World) (pre : List (Fin xs.length)) (W : World) : Prop := StrI xs A ca w (foldS xs pre).1 (foldS xs pre).2 W
theorem StrI.own {xs : List Int} {A : Option Addr} {ca : Nat} {w : World} {B : Nat} (hB : w.heap.size ≤ B) : OwnFrom B (StrJ xs A ca w) := fun s W W' row hs hg hr => by
  have hs : StrI xs A ca w (foldS xs s).1 (foldS xs s).2 W := hs
  have h2 : ∀ r, row = some r → ∃ o : Obj, W.heap[r]? = some o ∧ o.isCells = false := fun r e => (hr r e).2
  exact ⟨cell_kept hs.s hg h2, cell_kept hs.r hg h2, (frozen_kept hs.r hg h2).trans hs.rf, cell_kept hs.l hg h2, cell_kept hs.n hg h2, (frozen_kept hs.n hg h2).trans hs.nf, cell_kept hs.ok hg h2, (frozen_kept hs.ok hg h2).trans hs.okf,
    fun i hi => ⟨cell_kept (hs.row i hi).1 hg h2, (frozen_kept (hs.row i hi).1 hg h2).trans (hs.row i hi).2⟩, hs.pos, hs.le, hs.below.grown hg hs.below.size (fun k e => Nat.le_trans hB (hr k e).1), Nat.le_trans hs.sz hg.size⟩
/-- A round has left: too much. -/
def StrX (xs : List Int) (w : World) (c : Code) (pre : List (Fin xs.length)) (W : World) : Prop :=
  (c = .ret ∧ W.cell? ⟨w.heap.size + 1, 0, none⟩ = some (.slice none 0 0) ∧ 1048576 < (foldS xs pre).1) ∧ Below w.heap.size w W
theorem StrX.own {xs : List Int} {w : World} {B : Nat} (hB : w.heap.size ≤ B) (c : Code) : OwnFrom B (StrX xs w c) := fun s W W' row hs hg hr => by
  have h2 : ∀ r, row = some r → ∃ o : Obj, W.heap[r]? = some o ∧ o.isCells = false := fun r e => (hr r e).2
  exact ⟨⟨hs.1.1, cell_kept hs.1.2.1 hg h2, hs.1.2.2⟩, hs.2.grown hg hs.2.size (fun k e => Nat.le_trans hB (hr k e).1)⟩
theorem prodV_two (a b : Nat) : prodV 1048576 [(a : Int), (b : Int)] = if a * b ≤ 1048576 then .tuple #[.int .i64 ((a * b : Nat) : Int), .bool true] else .tuple #[.int .i64 0, .bool false] := by
  have h1 : prod [(a : Int), (b : Int)] = ((a * b : Nat) : Int) := by simp [prod]
  unfold prodV prodOk
  rw [h1]
  have h2 : ([(a : Int), (b : Int)].any fun x => decide (x < 0)) = false := by simp
  rw [h2]
  by_cases h : a * b ≤ 1048576
  · rw [if_pos h, if_pos]
    simp only [Bool.not_false, Bool.true_and, decide_eq_true_eq, Bool.and_eq_true]
    omega
  · rw [if_neg h, if_neg]
    simp only [Bool.not_false, Bool.true_and, decide_eq_true_eq, Bool.and_eq_true]
    omega
theorem laid {W W' : World} {v : Value} {T : TypeId} {H : Nat} (h : W.heap.size = H) (hb : Below (W.alloc (.cells #[v] T)).heap.size (W.alloc (.cells #[v] T)) W') : W'.cell? ⟨H, 0, none⟩ = some v ∧ W'.frozen? ⟨H, 0, none⟩ = false := by
  subst h
  have hc : (W.alloc (.cells #[v] T)).cell? ⟨W.heap.size, 0, none⟩ = some v := by rw [World.cell?_alloc_at _ _ _ _ rfl]; rfl
  have hf : (W.alloc (.cells #[v] T)).frozen? ⟨W.heap.size, 0, none⟩ = false := by rw [World.frozen?_alloc_at _ _ _ _ rfl]
  have hlt : (⟨W.heap.size, 0, none⟩ : Addr).block < (W.alloc (.cells #[v] T)).heap.size := by simp
  exact ⟨(hb.cell hlt).trans hc, (hb.frozen hlt).trans hf⟩
/-- Where the loop begins. -/
theorem strides_start (xs : List Int) (A : Option Addr) (ca : Nat) (w : World) (T1 T2 T3 T4 T5 T6 T7 : TypeId) : ∃ W : World, W = (((((((w.alloc (.cells #[.slice A xs.length ca] T1)).alloc (.cells #[.slice none 0 0] T2)).alloc (.cells (madeCells #[.int .i64 0] xs.length) T3)).alloc (.cells #[.slice (some ⟨w.heap.size + 1 + 1, 0, none⟩) xs.length xs.length] T4)).alloc (.cells #[.int .i64 1] T5)).alloc (.cells #[.bool true] T6)).alloc (.cells #[.slice A xs.length ca] T7)) ∧
    W.heap.size = w.heap.size + 7 ∧ StrI xs A ca w 1 (List.replicate xs.length 0) W ∧ W.cell? ⟨w.heap.size + 1 + 1 + 1 + 1 + 1 + 1, 0, none⟩ = some (.slice A xs.length ca) := by
  refine ⟨_, rfl, by simp, ⟨?_, ?_, ?_, ?_, ?_, ?_, ?_, ?_, ?_, by omega, by omega, ?_, by simp⟩, ?_⟩
  case refine_9 =>
    have h := rowN_made ((w.alloc (.cells #[.slice A xs.length ca] T1)).alloc (.cells #[.slice none 0 0] T2)) T3 xs.length
    rw [show ((w.alloc (.cells #[.slice A xs.length ca] T1)).alloc (.cells #[.slice none 0 0] T2)).heap.size = w.heap.size + 1 + 1 by simp] at h
    refine h.below (bl_alloc (bl_alloc (bl_alloc (bl_alloc (Below.refl _ _) _) _) _) _)
  case refine_10 => exact bl_alloc (bl_alloc (bl_alloc (bl_alloc (bl_alloc (bl_alloc (bl_alloc (Below.refl _ _) _) _) _) _) _) _) _
  case refine_1 => exact (laid (W := w) rfl (bl_alloc (bl_alloc (bl_alloc (bl_alloc (bl_alloc (bl_alloc (Below.refl _ _) _) _) _) _) _) _)).1
  case refine_2 => exact (laid (by simp) (bl_alloc (bl_alloc (bl_alloc (bl_alloc (bl_alloc (Below.refl _ _) _) _) _) _) _)).1
  case refine_3 => exact (laid (by simp) (bl_alloc (bl_alloc (bl_alloc (bl_alloc (bl_alloc (Below.refl _ _) _) _) _) _) _)).2
  case refine_4 => exact (laid (by simp) (bl_alloc (bl_alloc (bl_alloc (Below.refl _ _) _) _) _)).1
  case refine_5 => exact (laid (by simp) (bl_alloc (bl_alloc (Below.refl _ _) _) _)).1
  case refine_6 => exact (laid (by simp) (bl_alloc (bl_alloc (Below.refl _ _) _) _)).2
  case refine_7 => exact (laid (by simp) (bl_alloc (Below.refl _ _) _)).1
  case refine_8 => exact (laid (by simp) (bl_alloc (Below.refl _ _) _)).2
  case refine_11 => exact (laid (by simp) (Below.refl _ _)).1

set_option maxRecDepth 100000 in
set_option maxHeartbeats 2000000 in
theorem strides_in (xs : List Int) (A : Option Addr) (ca : Nat) (w : World) (hx : ReadsI w .i64 A xs) (hl : xs.length ≤ 1000000) (hr : rightB xs = true) :
    CallsIn Fence.wide 5 Try.prog 66 #[.slice A xs.length ca] w fun e w' =>
      ((e = .returned (.slice (some ⟨w.heap.size + 1 + 1, 0, none⟩) xs.length xs.length) ∧ RowN w' (w.heap.size + 1 + 1) 0 (foldS xs (downs xs.length xs.length)).2) ∨
       (e = .returned (.slice none 0 0) ∧ ∃ k, k < xs.length ∧ 1048576 < (foldS xs (downs xs.length (k + 1))).1)) ∧ Below w.heap.size w w' := by
  have HR := Lib.hid (right_calls xs A ca)
  have HX := Lib.hid hx
  have HRB := Lib.hid hr
  have hmk := make_ints xs.length (by omega)
  clear hx hr
  refine callsIn_of_wp_marks Try.func66 rfl trivial ?_ rfl
  simp only [Try.ntmps66, List.size_toArray, List.length_cons, List.length_nil, Nat.reduceAdd, Nat.reduceSub, Array.replicate_succ, Array.replicate_zero, List.push_toArray, List.append_toArray, List.nil_append, List.cons_append]
  gi_wp2_with (first
    | (refine ⟨trivial, ?_⟩; gi_at_call 106; refine (callsIn_wide.2 (HR.out _ (HX.out.below (bl_alloc (bl_alloc (Below.refl _ _) _) _)) (by omega))).mono ?_; rintro e w' ⟨rfl, rfl⟩; rw [HRB.out])
    | (refine ⟨trivial, ?_⟩; gi_at_call 109; refine (callsIn_wide.2 (backward_calls _ _ _ _)).mono ?_; rintro e w' ⟨rfl, rfl⟩))
  clear hmk
  obtain ⟨W0, hW0, hsz, hI0, hbx⟩ := strides_start xs A ca w 32 22 3 22 3 4 32
  rw [← hW0]
  clear hW0
  refine wpIn_rangeFunc_ownG rfl (by omega) (gf := 134) (lb := #[.pointer (some ⟨w.heap.size + 1 + 1 + 1 + 1 + 1 + 1, 0, none⟩)]) rfl trivial (enters_of Try.func134 (by kernel_rfl) rfl)
    (backward_stops Fence.wide 4 trivial rfl (by omega) (w.heap.size + 1 + 1 + 1 + 1 + 1 + 1) w.heap.size xs A ca hl W0 hbx (by omega) (fun W' h => HX.out.below (hI0.below.trans h))) (fun h k => h.trans k) (KpB.put (by omega) (by omega)) (Below.refl _ _) (fun _ => rfl)
    (StrJ xs A ca w) (StrX xs w) (StrI.own (by omega)) (StrX.own (by omega)) hI0
    (fun x => { tmps := #[.slice A xs.length ca, .pointer (some ⟨w.heap.size, 0, none⟩), .pointer (some ⟨w.heap.size + 1, 0, none⟩), .pointer (some ⟨w.heap.size + 1 + 1 + 1, 0, none⟩), .pointer (some ⟨w.heap.size + 1 + 1 + 1 + 1, 0, none⟩), .pointer (some ⟨w.heap.size + 1 + 1 + 1 + 1 + 1, 0, none⟩), .int .i64 (x.1 : Int),
      .slice A xs.length ca, .bool true, .bool false, .slice A xs.length ca, .int .i64 xs.length, .slice (some ⟨w.heap.size + 1 + 1, 0, none⟩) xs.length xs.length, .slice A xs.length ca, .func (.func 134) #[] #[.pointer (some ⟨w.heap.size + 1 + 1 + 1 + 1 + 1 + 1, 0, none⟩)],
      .int .i64 (x.1 : Int), .int .i64 (nth xs x.1), undef, undef, undef, undef, undef, undef, undef, undef, undef, undef, undef, undef, undef, undef, undef, undef, undef, undef, undef, undef, undef, undef, undef, undef], defers := [] }) ?assign ?body ?done ?stop
  case assign =>
    intro l x W K hK
    gi_wp2
    exact hK
  case body =>
    rintro l pre ⟨i, hi⟩ W hI0' _
    have hI' : StrI xs A ca w (foldS xs pre).1 (foldS xs pre).2 W := hI0'
    have hLl' := foldS_length xs pre
    have hst := foldS_snoc xs pre ⟨i, hi⟩
    obtain ⟨⟨N, L⟩, hS⟩ : ∃ S, S = foldS xs pre := ⟨_, rfl⟩
    rw [← hS] at hst hI' hLl'
    have hI : StrI xs A ca w N L W := hI'
    have hLl : L.length = xs.length := hLl'
    have HJ : Hid (∀ W', StrI xs A ca w (nxt xs N i) (L.set i (nxt xs N i)) W' → StrJ xs A ca w (pre ++ [⟨i, hi⟩]) W') := Lib.hid fun W' h => by
      unfold StrJ; rw [hst]; exact h
    have HX' : Hid (∀ W', W'.cell? ⟨w.heap.size + 1, 0, none⟩ = some (.slice none 0 0) → 1048576 < nxt xs N i → Below w.heap.size w W' → StrX xs w .ret (pre ++ [⟨i, hi⟩]) W') := Lib.hid fun W' h1 h2 h3 => ⟨⟨rfl, h1, by rw [hst]; exact h2⟩, h3⟩
    clear hI0' hst hI' hLl' hS
    have e1 := hI.s
    have e2 := hI.r
    have e2f := hI.rf
    have e3 := hI.l
    have e4 := hI.n
    have e4f := hI.nf
    have e5 := hI.ok
    have e5f := hI.okf
    obtain ⟨e6, e6f⟩ := hI.row i (by rw [hLl]; exact hi)
    rw [Nat.zero_add] at e6 e6f
    have HI := Lib.hid hI
    have HLL := Lib.hid hLl
    clear hI hLl
    generalize nth L i = old at *
    by_cases hlast : i + 1 < xs.length
    · obtain ⟨b, off, rfl, hcx⟩ := HX.out.below HI.out.below (i + 1) hlast
      have hy0 := ((rightB_mem HRB.out).2 _ (nth_mem xs (i + 1) hlast)).1
      have hy9 := ((rightB_mem HRB.out).2 _ (nth_mem xs (i + 1) hlast)).2
      have hmx : mx xs (i + 1) = (max (nth xs (i + 1)) 1).toNat := rfl
      have hnx : nxt xs N i = N * mx xs (i + 1) := if_pos hlast
      obtain ⟨q, hqi⟩ : ∃ q : Nat, q = i + 1 := ⟨_, rfl⟩
      have hq : (i : Int) + 1 = (q : Int) := by omega
      have hlast' : (q : Int) < (xs.length : Int) := by omega
      have hwq : IntKind.i64.wrap (q : Int) = (q : Int) := by rw [IntKind.wrap_i64]; omega
      rw [← hqi] at hcx hy0 hy9 hmx hnx
      clear hqi hlast
      generalize nth xs q = y at *
      obtain ⟨m, hm⟩ : ∃ m, m = mx xs q := ⟨_, rfl⟩
      rw [← hm] at hmx hnx
      have HNX := Lib.hid hnx
      clear hnx hm
      have hcall : ∀ (W' : World) (A' : Option Addr), ReadsI W' .i64 A' [(N : Int), (m : Int)] → Calls Try.prog 107 #[.int .i64 1048576, .slice A' 2 2] W' fun e w' => e = .returned (prodV 1048576 [(N : Int), (m : Int)]) ∧ W' = w' := fun W' A' h =>
        product_calls 1048576 A' 2 [(N : Int), (m : Int)] W' h (by simp) (by unfold fits; omega) (by
          have h1 := HI.out.le
          intro x hx
          unfold fits
          rcases List.mem_cons.1 hx with rfl | hx
          · omega
          · obtain rfl : x = (m : Int) := by simpa using hx
            omega)
      rw [prodV_two] at hcall
      obtain ⟨rv, okb, hrv, hok⟩ : ∃ (rv : Int) (okb : Bool), (if N * m ≤ 1048576 then Value.tuple #[.int .i64 ((N * m : Nat) : Int), .bool true] else .tuple #[.int .i64 0, .bool false]) = .tuple #[.int .i64 rv, .bool okb] ∧ ((okb = true ∧ rv = ((N * m : Nat) : Int) ∧ N * m ≤ 1048576) ∨ (okb = false ∧ 1048576 < N * m)) := by
        by_cases h : N * m ≤ 1048576
        · exact ⟨_, _, if_pos h, .inl ⟨rfl, rfl, h⟩⟩
        · exact ⟨_, _, if_neg h, .inr ⟨rfl, by omega⟩⟩
      rw [hrv] at hcall
      have HCALL := Lib.hid hcall
      have HOK := Lib.hid hok
      clear hcall hrv hok
      have HV : Hid (StrI xs (some ⟨b, off, none⟩) ca w N L (W.alloc (.cells #[.int .i64 (N : Int), .int .i64 (m : Int)] 3))) := Lib.hid (HI.out.alloc _)
      have g4 := HV.out.n
      have g4f := HV.out.nf
      have g5 := HV.out.ok
      have g5f := HV.out.okf
      have hmy : (if y < 1 then 1 else y) = (m : Int) := by rw [hmx]; split <;> omega
      have HMY := Lib.hid hmy
      have HM1 := Lib.hid (show 1 ≤ m by omega)
      clear hmx hmy hy0 hy9
      gi_wp2
      refine wpIn_region_head (g := 7) 7 #[true, true, true, true, true, true, true, false, false, false, false, false, false, false] (by kernel_rfl) (by kernel_rfl) rfl ?_
      simp only [List.take_succ_cons, List.take_zero]
      change wpStill _ _ W.drew _ _ _
      still_step
      still_step
      still_step
      still_step
      still_step
      still_step
      still_step
      refine wpStill_nil ?_
      rw [HMY.out]
      refine wpAnyIn_ready (rs := [7]) (by kernel_rfl) (by simp) ?_
      refine AllReadyIn.cons rfl (fun K hK => ?_) AllReadyIn.nil
      go_simp
      refine hK _ _ ?_
      clear hK K
      refine wpAnyIn_ready (rs := [8]) (by kernel_rfl) (by simp) ?_
      refine AllReadyIn.cons rfl (fun K hK => ?_) AllReadyIn.nil
      go_simp
      refine ⟨trivial, ?_⟩
      refine (CallsIn.inRound l (callsIn_wide.2 (HCALL.out ((W.alloc (.cells #[.int .i64 (N : Int), .int .i64 (m : Int)] 3)).drew) (some ⟨W.heap.size, 0, none⟩) (readsI_new W .i64 3 [(N : Int), (m : Int)])))).mono ?_
      rintro e w' ⟨rfl, rfl⟩
      refine hK _ _ ?_
      clear hK K
      refine wpAnyIn_ready (rs := [9]) (by kernel_rfl) (by simp) ?_
      refine AllReadyIn.cons rfl (fun K hK => ?_) AllReadyIn.nil
      go_simp
      refine hK _ _ ?_
      clear hK K
      refine wpAnyIn_ready (rs := [10, 11]) (by kernel_rfl) (by simp) ?_
      refine AllReadyIn.cons rfl (fun K hK => ?_) (AllReadyIn.cons rfl (fun K hK => ?_) AllReadyIn.nil)
      · go_simp
        refine hK _ _ ?_
        clear hK K
        refine wpAnyIn_ready (rs := [11, 12]) (by kernel_rfl) (by simp) ?_
        refine AllReadyIn.cons rfl (fun K hK => ?_) (AllReadyIn.cons rfl (fun K hK => ?_) AllReadyIn.nil)
        · go_simp
          refine hK _ _ ?_
          clear hK K
          refine wpAnyIn_ready (rs := [12]) (by kernel_rfl) (by simp) ?_
          refine AllReadyIn.cons rfl (fun K hK => ?_) AllReadyIn.nil
          go_simp
          refine hK _ _ ?_
          clear hK K
          refine wpAnyIn_ready (rs := [13]) (by kernel_rfl) (by simp) ?_
          refine AllReadyIn.cons rfl (fun K hK => ?_) AllReadyIn.nil
          go_simp
          refine hK _ _ ?_
          clear hK K
          refine wpAnyIn_done (by kernel_rfl) ?_ _
          rcases HOK.out with ⟨rfl, rfl, hle⟩ | ⟨rfl, hgt⟩
          · obtain ⟨V, hV⟩ : ∃ V : World, V = (((W.alloc (.cells #[.int .i64 (N : Int), .int .i64 (m : Int)] 3)).setCell ⟨w.heap.size + 1 + 1 + 1 + 1, 0, none⟩ (.int .i64 ((N * m : Nat) : Int))).setCell ⟨w.heap.size + 1 + 1 + 1 + 1 + 1, 0, none⟩ (.bool true)).drew := ⟨_, rfl⟩
            have hIV : StrI xs (some ⟨b, off, none⟩) ca w (N * m) L V := by rw [hV]; exact ((HV.out.setN (N * m) (Nat.mul_pos HI.out.pos HM1.out) hle).setOk).drew
            have HKO : Hid (KeepsOthers W V) := Lib.hid (by rw [hV]; exact (((KeepsOthers.alloc _ _).trans (KeepsOthers.setCell _ _ _)).trans (KeepsOthers.setCell _ _ _)).trans (KeepsOthers.drew _))
            have HKP : Hid (KpB w.heap.size (w.heap.size + 1 + 1 + 1 + 1 + 1 + 1) W V) := Lib.hid (by rw [hV]; exact (((KpB.alloc (by have := HI.out.sz; omega) (by have := HI.out.sz; omega) _).set (by simp <;> omega) (by simp <;> omega) _).set (by simp <;> omega) (by simp <;> omega) _).drew)
            rw [← hV]
            clear hV e1 e2 e2f e3 e4 e4f e5 e5f e6 e6f g4 g4f g5 g5f
            have e3 := hIV.l
            have e4 := hIV.n
            have e5 := hIV.ok
            obtain ⟨e6, e6f⟩ := hIV.row i (by rw [HLL.out]; exact hi)
            rw [Nat.zero_add] at e6 e6f
            have HIV := Lib.hid hIV
            clear hIV
            generalize nth L i = old2 at *
            generalize hNM : N * m = NM at *
            gi_wp2
            refine ⟨(HKO.out.trans (KeepsOthers.setCell _ _ _)).from _, HKP.out.set (by simp <;> omega) (by simp <;> omega) _, HJ.out _ ?_⟩
            rw [HNX.out]
            exact HIV.out.setRow i (by rw [HLL.out]; exact hi)
          · obtain ⟨V, hV⟩ : ∃ V : World, V = (((W.alloc (.cells #[.int .i64 (N : Int), .int .i64 (m : Int)] 3)).setCell ⟨w.heap.size + 1 + 1 + 1 + 1, 0, none⟩ (.int .i64 rv)).setCell ⟨w.heap.size + 1 + 1 + 1 + 1 + 1, 0, none⟩ (.bool false)).drew := ⟨_, rfl⟩
            have HKO : Hid (KeepsOthers W V) := Lib.hid (by rw [hV]; exact (((KeepsOthers.alloc _ _).trans (KeepsOthers.setCell _ _ _)).trans (KeepsOthers.setCell _ _ _)).trans (KeepsOthers.drew _))
            have f5 : V.cell? ⟨w.heap.size + 1 + 1 + 1 + 1 + 1, 0, none⟩ = some (.bool false) := by
              rw [hV]
              exact World.cell?_setCell_same _ _ _ ((World.cell?_setCell_other _ _ _ _ (by intro e; injection e; omega)).trans HV.out.ok)
            have f2 : V.cell? ⟨w.heap.size + 1, 0, none⟩ = some (.slice none 0 0) := by
              rw [hV]
              exact (World.cell?_setCell_other _ _ _ _ (by intro e; injection e; omega)).trans ((World.cell?_setCell_other _ _ _ _ (by intro e; injection e; omega)).trans HV.out.r)
            have f2f : V.frozen? ⟨w.heap.size + 1, 0, none⟩ = false := by
              rw [hV]
              exact (World.frozen?_setCell _ _ _ _).trans ((World.frozen?_setCell _ _ _ _).trans HV.out.rf)
            have HBV : Hid (Below w.heap.size w V) := Lib.hid (by rw [hV]; exact bl_drew (bl_set (bl_set HV.out.below (by simp <;> omega) _) (by simp <;> omega) _))
            rw [← hV]
            clear hV e1 e2 e2f e3 e4 e4f e5 e5f e6 e6f g4 g4f g5 g5f
            have HF2 := Lib.hid f2
            gi_wp2
            refine ⟨(HKO.out.trans (KeepsOthers.setCell _ _ _)).from _, HX'.out _ (World.cell?_setCell_same _ _ _ HF2.out) (by rw [HNX.out]; exact hgt) (bl_set HBV.out (by simp) _)⟩
        · go_simp
          refine hK _ _ ?_
          clear hK K
          refine wpAnyIn_ready (rs := [11]) (by kernel_rfl) (by simp) ?_
          refine AllReadyIn.cons rfl (fun K hK => ?_) AllReadyIn.nil
          go_simp
          refine hK _ _ ?_
          clear hK K
          refine wpAnyIn_ready (rs := [13]) (by kernel_rfl) (by simp) ?_
          refine AllReadyIn.cons rfl (fun K hK => ?_) AllReadyIn.nil
          go_simp
          refine hK _ _ ?_
          clear hK K
          refine wpAnyIn_done (by kernel_rfl) ?_ _
          rcases HOK.out with ⟨rfl, rfl, hle⟩ | ⟨rfl, hgt⟩
          · obtain ⟨V, hV⟩ : ∃ V : World, V = (((W.alloc (.cells #[.int .i64 (N : Int), .int .i64 (m : Int)] 3)).setCell ⟨w.heap.size + 1 + 1 + 1 + 1, 0, none⟩ (.int .i64 ((N * m : Nat) : Int))).setCell ⟨w.heap.size + 1 + 1 + 1 + 1 + 1, 0, none⟩ (.bool true)).drew := ⟨_, rfl⟩
            have hIV : StrI xs (some ⟨b, off, none⟩) ca w (N * m) L V := by rw [hV]; exact ((HV.out.setN (N * m) (Nat.mul_pos HI.out.pos HM1.out) hle).setOk).drew
            have HKO : Hid (KeepsOthers W V) := Lib.hid (by rw [hV]; exact (((KeepsOthers.alloc _ _).trans (KeepsOthers.setCell _ _ _)).trans (KeepsOthers.setCell _ _ _)).trans (KeepsOthers.drew _))
            have HKP : Hid (KpB w.heap.size (w.heap.size + 1 + 1 + 1 + 1 + 1 + 1) W V) := Lib.hid (by rw [hV]; exact (((KpB.alloc (by have := HI.out.sz; omega) (by have := HI.out.sz; omega) _).set (by simp <;> omega) (by simp <;> omega) _).set (by simp <;> omega) (by simp <;> omega) _).drew)
            rw [← hV]
            clear hV e1 e2 e2f e3 e4 e4f e5 e5f e6 e6f g4 g4f g5 g5f
            have e3 := hIV.l
            have e4 := hIV.n
            have e5 := hIV.ok
            obtain ⟨e6, e6f⟩ := hIV.row i (by rw [HLL.out]; exact hi)
            rw [Nat.zero_add] at e6 e6f
            have HIV := Lib.hid hIV
            clear hIV
            generalize nth L i = old2 at *
            generalize hNM : N * m = NM at *
            gi_wp2
            refine ⟨(HKO.out.trans (KeepsOthers.setCell _ _ _)).from _, HKP.out.set (by simp <;> omega) (by simp <;> omega) _, HJ.out _ ?_⟩
            rw [HNX.out]
            exact HIV.out.setRow i (by rw [HLL.out]; exact hi)
          · obtain ⟨V, hV⟩ : ∃ V : World, V = (((W.alloc (.cells #[.int .i64 (N : Int), .int .i64 (m : Int)] 3)).setCell ⟨w.heap.size + 1 + 1 + 1 + 1, 0, none⟩ (.int .i64 rv)).setCell ⟨w.heap.size + 1 + 1 + 1 + 1 + 1, 0, none⟩ (.bool false)).drew := ⟨_, rfl⟩
            have HKO : Hid (KeepsOthers W V) := Lib.hid (by rw [hV]; exact (((KeepsOthers.alloc _ _).trans (KeepsOthers.setCell _ _ _)).trans (KeepsOthers.setCell _ _ _)).trans (KeepsOthers.drew _))
            have f5 : V.cell? ⟨w.heap.size + 1 + 1 + 1 + 1 + 1, 0, none⟩ = some (.bool false) := by
              rw [hV]
              exact World.cell?_setCell_same _ _ _ ((World.cell?_setCell_other _ _ _ _ (by intro e; injection e; omega)).trans HV.out.ok)
            have f2 : V.cell? ⟨w.heap.size + 1, 0, none⟩ = some (.slice none 0 0) := by
              rw [hV]
              exact (World.cell?_setCell_other _ _ _ _ (by intro e; injection e; omega)).trans ((World.cell?_setCell_other _ _ _ _ (by intro e; injection e; omega)).trans HV.out.r)
            have f2f : V.frozen? ⟨w.heap.size + 1, 0, none⟩ = false := by
              rw [hV]
              exact (World.frozen?_setCell _ _ _ _).trans ((World.frozen?_setCell _ _ _ _).trans HV.out.rf)
            have HBV : Hid (Below w.heap.size w V) := Lib.hid (by rw [hV]; exact bl_drew (bl_set (bl_set HV.out.below (by simp <;> omega) _) (by simp <;> omega) _))
            rw [← hV]
            clear hV e1 e2 e2f e3 e4 e4f e5 e5f e6 e6f g4 g4f g5 g5f
            have HF2 := Lib.hid f2
            gi_wp2
            refine ⟨(HKO.out.trans (KeepsOthers.setCell _ _ _)).from _, HX'.out _ (World.cell?_setCell_same _ _ _ HF2.out) (by rw [HNX.out]; exact hgt) (bl_set HBV.out (by simp) _)⟩
      · go_simp
        refine hK _ _ ?_
        clear hK K
        refine wpAnyIn_ready (rs := [10]) (by kernel_rfl) (by simp) ?_
        refine AllReadyIn.cons rfl (fun K hK => ?_) AllReadyIn.nil
        go_simp
        refine hK _ _ ?_
        clear hK K
        refine wpAnyIn_ready (rs := [12]) (by kernel_rfl) (by simp) ?_
        refine AllReadyIn.cons rfl (fun K hK => ?_) AllReadyIn.nil
        go_simp
        refine hK _ _ ?_
        clear hK K
        refine wpAnyIn_ready (rs := [13]) (by kernel_rfl) (by simp) ?_
        refine AllReadyIn.cons rfl (fun K hK => ?_) AllReadyIn.nil
        go_simp
        refine hK _ _ ?_
        clear hK K
        refine wpAnyIn_done (by kernel_rfl) ?_ _
        rcases HOK.out with ⟨rfl, rfl, hle⟩ | ⟨rfl, hgt⟩
        · obtain ⟨V, hV⟩ : ∃ V : World, V = (((W.alloc (.cells #[.int .i64 (N : Int), .int .i64 (m : Int)] 3)).setCell ⟨w.heap.size + 1 + 1 + 1 + 1, 0, none⟩ (.int .i64 ((N * m : Nat) : Int))).setCell ⟨w.heap.size + 1 + 1 + 1 + 1 + 1, 0, none⟩ (.bool true)).drew := ⟨_, rfl⟩
          have hIV : StrI xs (some ⟨b, off, none⟩) ca w (N * m) L V := by rw [hV]; exact ((HV.out.setN (N * m) (Nat.mul_pos HI.out.pos HM1.out) hle).setOk).drew
          have HKO : Hid (KeepsOthers W V) := Lib.hid (by rw [hV]; exact (((KeepsOthers.alloc _ _).trans (KeepsOthers.setCell _ _ _)).trans (KeepsOthers.setCell _ _ _)).trans (KeepsOthers.drew _))
          have HKP : Hid (KpB w.heap.size (w.heap.size + 1 + 1 + 1 + 1 + 1 + 1) W V) := Lib.hid (by rw [hV]; exact (((KpB.alloc (by have := HI.out.sz; omega) (by have := HI.out.sz; omega) _).set (by simp <;> omega) (by simp <;> omega) _).set (by simp <;> omega) (by simp <;> omega) _).drew)
          rw [← hV]
          clear hV e1 e2 e2f e3 e4 e4f e5 e5f e6 e6f g4 g4f g5 g5f
          have e3 := hIV.l
          have e4 := hIV.n
          have e5 := hIV.ok
          obtain ⟨e6, e6f⟩ := hIV.row i (by rw [HLL.out]; exact hi)
          rw [Nat.zero_add] at e6 e6f
          have HIV := Lib.hid hIV
          clear hIV
          generalize nth L i = old2 at *
          generalize hNM : N * m = NM at *
          gi_wp2
          refine ⟨(HKO.out.trans (KeepsOthers.setCell _ _ _)).from _, HKP.out.set (by simp <;> omega) (by simp <;> omega) _, HJ.out _ ?_⟩
          rw [HNX.out]
          exact HIV.out.setRow i (by rw [HLL.out]; exact hi)
        · obtain ⟨V, hV⟩ : ∃ V : World, V = (((W.alloc (.cells #[.int .i64 (N : Int), .int .i64 (m : Int)] 3)).setCell ⟨w.heap.size + 1 + 1 + 1 + 1, 0, none⟩ (.int .i64 rv)).setCell ⟨w.heap.size + 1 + 1 + 1 + 1 + 1, 0, none⟩ (.bool false)).drew := ⟨_, rfl⟩
          have HKO : Hid (KeepsOthers W V) := Lib.hid (by rw [hV]; exact (((KeepsOthers.alloc _ _).trans (KeepsOthers.setCell _ _ _)).trans (KeepsOthers.setCell _ _ _)).trans (KeepsOthers.drew _))
          have f5 : V.cell? ⟨w.heap.size + 1 + 1 + 1 + 1 + 1, 0, none⟩ = some (.bool false) := by
            rw [hV]
            exact World.cell?_setCell_same _ _ _ ((World.cell?_setCell_other _ _ _ _ (by intro e; injection e; omega)).trans HV.out.ok)
          have f2 : V.cell? ⟨w.heap.size + 1, 0, none⟩ = some (.slice none 0 0) := by
            rw [hV]
            exact (World.cell?_setCell_other _ _ _ _ (by intro e; injection e; omega)).trans ((World.cell?_setCell_other _ _ _ _ (by intro e; injection e; omega)).trans HV.out.r)
          have f2f : V.frozen? ⟨w.heap.size + 1, 0, none⟩ = false := by
            rw [hV]
            exact (World.frozen?_setCell _ _ _ _).trans ((World.frozen?_setCell _ _ _ _).trans HV.out.rf)
          have HBV : Hid (Below w.heap.size w V) := Lib.hid (by rw [hV]; exact bl_drew (bl_set (bl_set HV.out.below (by simp <;> omega) _) (by simp <;> omega) _))
          rw [← hV]
          clear hV e1 e2 e2f e3 e4 e4f e5 e5f e6 e6f g4 g4f g5 g5f
          have HF2 := Lib.hid f2
          gi_wp2
          refine ⟨(HKO.out.trans (KeepsOthers.setCell _ _ _)).from _, HX'.out _ (World.cell?_setCell_same _ _ _ HF2.out) (by rw [HNX.out]; exact hgt) (bl_set HBV.out (by simp) _)⟩
    · have hlast' : ¬ ((i : Int) + 1 < (xs.length : Int)) := by omega
      gi_wp2
      refine ⟨(KeepsOthers.setCell _ _ _).from _, (KpB.refl _ _ _).set (by simp <;> omega) (by simp <;> omega) _, HJ.out _ ?_⟩
      unfold nxt
      rw [if_neg hlast]
      exact HI.out.setRow i (by rw [HLL.out]; exact hi)
  case done =>
    rintro D ys W hD rfl hI' hK
    have hI : StrI xs A ca w (foldS xs (downs xs.length xs.length)).1 (foldS xs (downs xs.length xs.length)).2 W := hI'
    have HI := Lib.hid hI
    have e3 := hI.l
    have e2 := hI.r
    have e2f := hI.rf
    clear hI hI'
    gi_wp2
    have hK' := (KeepsOthers.setCell W ⟨w.heap.size + 1, 0, none⟩ (.slice (some ⟨w.heap.size + 1 + 1, 0, none⟩) xs.length xs.length)).same D _ hK rfl
    refine ⟨by simp, .inl ⟨_, _, rfl, run_takeDeferred hK', ?_⟩⟩
    have hg := grownBy_putObj' (W.setCell ⟨w.heap.size + 1, 0, none⟩ (.slice (some ⟨w.heap.size + 1 + 1, 0, none⟩) xs.length xs.length)) D (.deferred none)
    have hr : ∀ r, some D = some r → ∃ o : Obj, (W.setCell ⟨w.heap.size + 1, 0, none⟩ (.slice (some ⟨w.heap.size + 1 + 1, 0, none⟩) xs.length xs.length)).heap[r]? = some o ∧ o.isCells = false := fun r e => by cases e; exact ⟨_, hK', rfl⟩
    have hc5 := cell_kept (World.cell?_setCell_same W ⟨w.heap.size + 1, 0, none⟩ (.slice (some ⟨w.heap.size + 1 + 1, 0, none⟩) xs.length xs.length) e2) hg hr
    refine ⟨.slice (some ⟨w.heap.size + 1 + 1, 0, none⟩) xs.length xs.length, ?_, .inl ⟨rfl, fun i hi => ?_⟩, (bl_set HI.out.below (by simp) _).trans (belowK_b (w := w) (Nat.le_refl _) _ D _ _ (by omega) hK' rfl rfl)⟩
    · simp [results, Try.f66, go_sem, hc5]
    · have h1 := HI.out.row i hi
      have h2 : (W.setCell ⟨w.heap.size + 1, 0, none⟩ (.slice (some ⟨w.heap.size + 1 + 1, 0, none⟩) xs.length xs.length)).cell? ⟨w.heap.size + 1 + 1, 0 + i, none⟩ = _ := (World.cell?_setCell_other _ _ _ _ (by intro e; injection e; omega)).trans h1.1
      exact ⟨cell_kept h2 hg hr, (frozen_kept h2 hg hr).trans ((World.frozen?_setCell _ _ _ _).trans h1.2)⟩
  case stop =>
    rintro D c pre W hD ⟨k, hk, rfl⟩ ⟨⟨rfl, hcr, hov⟩, hB⟩ hK
    gi_wp2
    refine ⟨by simp, .inl ⟨_, _, rfl, run_takeDeferred hK, ?_⟩⟩
    have hc5 := cell_kept hcr (grownBy_putObj' _ D (.deferred none)) (fun r e => by cases e; exact ⟨_, hK, rfl⟩)
    refine ⟨.slice none 0 0, ?_, .inr ⟨rfl, k, hk, hov⟩, hB.trans (belowK_b (w := w) (Nat.le_refl _) _ D _ _ (by omega) hK rfl rfl)⟩
    simp [results, Try.f66, go_sem, hc5]
end Go.Proofs.Ythjkeefdeeljoaa.Shp
