/- The law OdoPairs: its walk. -/
import Derived.Test.YthjkeefdeeljoaaPk39
import Derived.Test.YthjkeefdeeljoaaPk32
import Derived.Deep.RegionHeld3
import Derived.Test.YthjkeefdeeljoaaPk3
namespace Go.Proofs.Ythjkeefdeeljoaa.Shp
open Go.RowKit Go.Shelf Go.Proofs.Ythjkeefdeeljoaa.Num
set_option linter.unusedVariables false
set_option linter.unusedSimpArgs false
attribute [local go_sem] Oper.semAt_some

theorem pairs_calls (v v2 : Array Value) (w : World) : Calls Try.prog 14 #[.agg v, .agg v2] w fun e w' => e = .returned (.func (.func 55) #[] #[.pointer (some ⟨w.heap.size, 0, none⟩), .pointer (some ⟨w.heap.size + 1, 0, none⟩)]) ∧ w' = (w.alloc (.cells (Value.agg v).cells 34)).alloc (.cells (Value.agg v2).cells 34) := by
  go_enter Try.func14, Try.ntmps14
  go_wp2
  go_ret
  exact ⟨rfl, rfl⟩
abbrev vcs (A : Option Addr) (n ca : Nat) (B : Option Addr) (m cb : Nat) (off : Int) : Array Value := #[.slice A n ca, .slice B m cb, .int .i64 off]
theorem vcells {W : World} {H : Nat} {T : TypeId} {A B : Option Addr} {n ca m cb : Nat} {off : Int} (h : Blk W H T #[.slice A n ca, .slice B m cb, .int .i64 off]) : W.cell? ⟨H, 0, none⟩ = some (.slice A n ca) ∧ W.cell? ⟨H, 1, none⟩ = some (.slice B m cb) ∧ W.cell? ⟨H, 2, none⟩ = some (.int .i64 off) := ⟨h.cell 0, h.cell 1, h.cell 2⟩

theorem held6 {H : Nat} {W : World} {T : TypeId} {A B C D : Option Addr} {n ca m cb n2 cc m2 cd : Nat} {off off2 : Int} (h1 : Blk W H T #[.slice A n ca, .slice B m cb, .int .i64 off]) (h2 : Blk W (H + 1) T #[.slice C n2 cc, .slice D m2 cd, .int .i64 off2]) :
    W.cell? ⟨H, 0, none⟩ = some (.slice A n ca) ∧ W.cell? ⟨H, 1, none⟩ = some (.slice B m cb) ∧ W.cell? ⟨H, 2, none⟩ = some (.int .i64 off) ∧ W.cell? ⟨H + 1, 0, none⟩ = some (.slice C n2 cc) ∧ W.cell? ⟨H + 1, 1, none⟩ = some (.slice D m2 cd) ∧ W.cell? ⟨H + 1, 2, none⟩ = some (.int .i64 off2) := ⟨h1.cell 0, h1.cell 1, h1.cell 2, h2.cell 0, h2.cell 1, h2.cell 2⟩
theorem heldE {H X7 X5 X10 : Nat} {W : World} {T T1 T2 T3 : TypeId} {A B LA : Option Addr} {n ca m cb N p3 M : Nat} {off : Int} (h1 : Blk W H T #[.slice A n ca, .slice B m cb, .int .i64 off]) (h2 : Blk W X7 T1 #[.int .i64 (N : Nat)]) (h3 : Blk W X5 T2 #[.slice LA N p3]) (h4 : Blk W X10 T3 #[.int .i64 (M : Nat)]) :
    W.cell? ⟨H, 0, none⟩ = some (.slice A n ca) ∧ W.cell? ⟨H, 1, none⟩ = some (.slice B m cb) ∧ W.cell? ⟨H, 2, none⟩ = some (.int .i64 off) ∧ W.cell? ⟨X7, 0, none⟩ = some (.int .i64 (N : Nat)) ∧ W.cell? ⟨X5, 0, none⟩ = some (.slice LA N p3) ∧ W.cell? ⟨X10, 0, none⟩ = some (.int .i64 (M : Nat)) := ⟨h1.cell 0, h1.cell 1, h1.cell 2, h2.cell 0, h3.cell 0, h4.cell 0⟩
theorem mark_ne {W : World} {D X : Nat} {t : TypeId} {cs : Array Value} (h : W.heap[D]? = some (.deferred (some []))) (hb : Blk W X t cs) : D ≠ X := by
  rintro rfl
  unfold Blk at hb
  rw [h] at hb
  cases hb
theorem mark_on {W wC : World} {D H : Nat} {v : Value} (h : W.heap[D]? = some (.deferred (some []))) (hB : Below W.drew.heap.size W.drew wC) (hne : D ≠ H) : (wC.setCell ⟨H, 0, none⟩ v).heap[D]? = some (.deferred (some [])) :=
  (Below.heap_setCell _ _ _ _ hne).trans ((hB.block _ (Array.getElem?_eq_some_iff.1 h).1).trans h)
theorem fin_three {w W wC : World} {D1 D2 D3 H : Nat} {t : TypeId} (hbr : Blk W H t #[.bool false]) (h1 : W.heap[D1]? = some (.deferred (some []))) (h2 : W.heap[D2]? = some (.deferred (some []))) (h3 : W.heap[D3]? = some (.deferred (some []))) (hB : Below W.drew.heap.size W.drew wC) (hB2 : Below w.heap.size w wC)
    (l1 : w.heap.size ≤ D1) (l2 : w.heap.size ≤ D2) (l3 : w.heap.size ≤ D3) (n12 : D1 ≠ D2) (n13 : D1 ≠ D3) (n23 : D2 ≠ D3) (hH : w.heap.size ≤ H) :
    (wC.setCell ⟨H, 0, none⟩ (.bool true)).heap[D3]? = some (.deferred (some [])) ∧ ((wC.setCell ⟨H, 0, none⟩ (.bool true)).putObj D3 (.deferred none)).heap[D2]? = some (.deferred (some [])) ∧
      (((wC.setCell ⟨H, 0, none⟩ (.bool true)).putObj D3 (.deferred none)).putObj D2 (.deferred none)).heap[D1]? = some (.deferred (some [])) ∧
      ((((wC.setCell ⟨H, 0, none⟩ (.bool true)).putObj D3 (.deferred none)).putObj D2 (.deferred none)).putObj D1 (.deferred none)).cell? ⟨H, 0, none⟩ = some (.bool true) ∧
      Below w.heap.size w ((((wC.setCell ⟨H, 0, none⟩ (.bool true)).putObj D3 (.deferred none)).putObj D2 (.deferred none)).putObj D1 (.deferred none)) := by
  have z3 := mark_on (v := .bool true) h3 hB (mark_ne h3 hbr)
  have z2 := mark_on (v := .bool true) h2 hB (mark_ne h2 hbr)
  have z1 := mark_on (v := .bool true) h1 hB (mark_ne h1 hbr)
  have y2 : ((wC.setCell ⟨H, 0, none⟩ (.bool true)).putObj D3 (.deferred none)).heap[D2]? = some (.deferred (some [])) := (World.putObj_heap_other n23).trans z2
  have y1 : (((wC.setCell ⟨H, 0, none⟩ (.bool true)).putObj D3 (.deferred none)).putObj D2 (.deferred none)).heap[D1]? = some (.deferred (some [])) := (World.putObj_heap_other n12).trans ((World.putObj_heap_other n13).trans z1)
  have hb0 : Blk (wC.setCell ⟨H, 0, none⟩ (.bool true)) H t #[.bool true] := (hbr.drew.below' hB).one _
  have hb1 := blk_kept hb0 (grownBy_putObj' _ D3 (.deferred none)) (fun r e => by cases e; exact ⟨_, z3, rfl⟩)
  have hb2 := blk_kept hb1 (grownBy_putObj' _ D2 (.deferred none)) (fun r e => by cases e; exact ⟨_, y2, rfl⟩)
  have hb3 := blk_kept hb2 (grownBy_putObj' _ D1 (.deferred none)) (fun r e => by cases e; exact ⟨_, y1, rfl⟩)
  refine ⟨z3, y2, y1, hb3.cell 0, ?_⟩
  exact (((bl_set (p := ⟨H, 0, none⟩) hB2 hH _).trans (belowK_b (w := w) (Nat.le_refl _) _ D3 _ _ l3 z3 rfl rfl)).trans (belowK_b (w := w) (Nat.le_refl _) _ D2 _ _ l2 y2 rfl rfl)).trans (belowK_b (w := w) (Nat.le_refl _) _ D1 _ _ l1 y1 rfl rfl)
theorem pairs_results (tmps : Array Value) (W : World) (H : Nat) (v : Value) (h4 : tmps[4]? = some (.pointer (some ⟨H, 0, none⟩))) (hc : W.cell? ⟨H, 0, none⟩ = some v) : (results Try.f3 tmps).run Try.prog W = .ok v W := by
  simp [results, Try.f3, go_sem, h4, hc]
theorem pairs_end {tmps : Array Value} {W : World} {D1 D2 D3 H : Nat} {R : Ending → World → Prop} (z3 : W.heap[D3]? = some (.deferred (some []))) (z2 : (W.putObj D3 (.deferred none)).heap[D2]? = some (.deferred (some []))) (z1 : ((W.putObj D3 (.deferred none)).putObj D2 (.deferred none)).heap[D1]? = some (.deferred (some [])))
    (h4 : tmps[4]? = some (.pointer (some ⟨H, 0, none⟩))) (hc : (((W.putObj D3 (.deferred none)).putObj D2 (.deferred none)).putObj D1 (.deferred none)).cell? ⟨H, 0, none⟩ = some (.bool true)) (hR : R (.returned (.bool true)) (((W.putObj D3 (.deferred none)).putObj D2 (.deferred none)).putObj D1 (.deferred none))) :
    bodyPostM Fence.wide 5 Try.prog Try.f3 R .ret { tmps := tmps, defers := [{ target := .collected D3, args := #[] }, { target := .collected D2, args := #[] }, { target := .collected D1, args := #[] }] } W := by
  refine ⟨by simp, .inl ⟨_, _, rfl, run_takeDeferred z3, ?_⟩⟩
  refine ⟨by simp, .inl ⟨_, _, rfl, run_takeDeferred z2, ?_⟩⟩
  refine ⟨by simp, .inl ⟨_, _, rfl, run_takeDeferred z1, ?_⟩⟩
  exact ⟨.bool true, pairs_results _ _ _ _ h4 hc, hR⟩
/-- What stands behind the two lists' making: their cells are new. -/
structure R3I (xs ys : List Int) (off : Int) (xs2 ys2 : List Int) (off2 : Int) (A B C D : Option Addr) (n ca m cb n2 cc m2 cd H X5 X6 : Nat) (LA LB : Option Addr) (c1 c2 : Nat) (w W : World) : Prop where
  b5 : Blk W X5 22 #[.slice LA (offsL xs ys off).length c1]
  b6 : Blk W X6 22 #[.slice LB (offsL xs2 ys2 off2).length c2]
  ra : ReadsI W .i64 LA (offsL xs ys off)
  rb : ReadsI W .i64 LB (offsL xs2 ys2 off2)
  x5 : H + 2 < X5
  x6 : H + 2 < X6
  ne : X5 ≠ X6
  below : Below w.heap.size w W
  ba : Blk W H 24 #[.slice A n ca, .slice B m cb, .int .i64 off]
  bb : Blk W (H + 1) 24 #[.slice C n2 cc, .slice D m2 cd, .int .i64 off2]
  br : Blk W (H + 2) 4 #[.bool false]
def R3 (xs ys : List Int) (off : Int) (xs2 ys2 : List Int) (off2 : Int) (A B C D : Option Addr) (n ca m cb n2 cc m2 cd H : Nat) (w : World) (e : Exit) (a : Act) (W : World) : Prop :=
  e = .normal ∧ ∃ (X5 X6 : Nat) (LA LB : Option Addr) (c1 c2 : Nat), R3I xs ys off xs2 ys2 off2 A B C D n ca m cb n2 cc m2 cd H X5 X6 LA LB c1 c2 w W ∧
    a = { tmps := #[.agg #[.slice A n ca, .slice B m cb, .int .i64 off], .agg #[.slice C n2 cc, .slice D m2 cd, .int .i64 off2], .pointer (some ⟨H, 0, none⟩), .pointer (some ⟨H + 1, 0, none⟩), .pointer (some ⟨H + 1 + 1, 0, none⟩), .pointer (some ⟨X5, 0, none⟩), .pointer (some ⟨X6, 0, none⟩), undef, undef, undef, undef, .agg #[.slice A n ca, .slice B m cb, .int .i64 off], .bool true, .bool false, .bool false, .agg #[.slice C n2 cc, .slice D m2 cd, .int .i64 off2], .bool true, .bool false, .bool false, .bool false, .bool true, .bool false, .bool false, undef, .agg #[.slice A n ca, .slice B m cb, .int .i64 off], .slice LA (offsL xs ys off).length c1, .agg #[.slice C n2 cc, .slice D m2 cd, .int .i64 off2], .slice LB (offsL xs2 ys2 off2).length c2, undef, undef, undef, undef, undef, undef, undef, undef, undef, undef, undef, undef, undef, undef, undef, undef, undef, undef, undef, undef, undef, undef, undef, undef, undef, undef, undef, undef, undef, undef, undef, undef, undef, undef, undef, undef, undef, undef, undef, undef, undef, undef, undef, undef, undef, undef, undef, undef, undef, undef, undef, undef, undef, undef, undef, undef, undef, undef, undef, undef, undef, undef, undef, undef, undef, undef, undef, undef, undef, undef, undef, undef, undef, undef, undef, undef, undef], defers := [] }

theorem reads_cell {W : World} {k : IntKind} {A : Option Addr} {xs : List Int} {X : Nat} {t : TypeId} {a : Option Addr} {n c : Nat} (h : ReadsI W k A xs) (hb : Blk W X t #[.slice a n c]) (u : Value) : ReadsI (W.setCell ⟨X, 0, none⟩ u) k A xs := fun i hi => by
  obtain ⟨b, off, e, hc⟩ := h i hi
  refine ⟨b, off, e, (World.cell?_setCell_other _ _ _ _ (fun e' => ?_)).trans hc⟩
  injection e' with e1 e2
  rw [← e1, ← e2] at hc
  rw [hb.cell 0] at hc
  simp at hc
/-- What is known while the two lists are being made. -/
structure R8I (xs ys : List Int) (off : Int) (xs2 ys2 : List Int) (off2 : Int) (A B C D : Option Addr) (n ca m cb n2 cc m2 cd H : Nat) (w : World) (l0 l1 l2 l3 l4 l5 l6 l7 : Bool) (v24 v25 v26 v27 v5 v6 : Value) (X5 X6 : Nat) (LA LB : Option Addr) (c1 c2 : Nat) (W : World) : Prop where
  below : Below w.heap.size w W
  ba : Blk W H 24 #[.slice A n ca, .slice B m cb, .int .i64 off]
  bb : Blk W (H + 1) 24 #[.slice C n2 cc, .slice D m2 cd, .int .i64 off2]
  br : Blk W (H + 2) 4 #[.bool false]
  k0 : l0 = true → v24 = .agg #[.slice A n ca, .slice B m cb, .int .i64 off]
  k1 : l1 = true → v25 = .slice LA (offsL xs ys off).length c1 ∧ ReadsI W .i64 LA (offsL xs ys off)
  k2 : l2 = true → v26 = .agg #[.slice C n2 cc, .slice D m2 cd, .int .i64 off2]
  k3 : l3 = true → v27 = .slice LB (offsL xs2 ys2 off2).length c2 ∧ ReadsI W .i64 LB (offsL xs2 ys2 off2)
  k4 : l4 = true → v5 = .pointer (some ⟨X5, 0, none⟩) ∧ H + 2 < X5 ∧ Blk W X5 22 #[if l6 = true then .slice LA (offsL xs ys off).length c1 else .slice none 0 0]
  k5 : l5 = true → v6 = .pointer (some ⟨X6, 0, none⟩) ∧ H + 2 < X6 ∧ Blk W X6 22 #[if l7 = true then .slice LB (offsL xs2 ys2 off2).length c2 else .slice none 0 0]
  k45 : l4 = true → l5 = true → X5 ≠ X6
  d6 : l6 = true → l1 = true ∧ l4 = true
  d7 : l7 = true → l3 = true ∧ l5 = true
def R8 (xs ys : List Int) (off : Int) (xs2 ys2 : List Int) (off2 : Int) (A B C D : Option Addr) (n ca m cb n2 cc m2 cd H : Nat) (w : World) (l0 l1 l2 l3 l4 l5 l6 l7 : Bool) (a : Act) (W : World) : Prop :=
  ∃ (v24 v25 v26 v27 v5 v6 : Value) (X5 X6 : Nat) (LA LB : Option Addr) (c1 c2 : Nat), a = { tmps := #[.agg #[.slice A n ca, .slice B m cb, .int .i64 off], .agg #[.slice C n2 cc, .slice D m2 cd, .int .i64 off2], .pointer (some ⟨H, 0, none⟩), .pointer (some ⟨H + 1, 0, none⟩), .pointer (some ⟨H + 1 + 1, 0, none⟩), v5, v6, undef, undef, undef, undef, .agg #[.slice A n ca, .slice B m cb, .int .i64 off], .bool true, .bool false, .bool false, .agg #[.slice C n2 cc, .slice D m2 cd, .int .i64 off2], .bool true, .bool false, .bool false, .bool false, .bool true, .bool false, .bool false, undef, v24, v25, v26, v27, undef, undef, undef, undef, undef, undef, undef, undef, undef, undef, undef, undef, undef, undef, undef, undef, undef, undef, undef, undef, undef, undef, undef, undef, undef, undef, undef, undef, undef, undef, undef, undef, undef, undef, undef, undef, undef, undef, undef, undef, undef, undef, undef, undef, undef, undef, undef, undef, undef, undef, undef, undef, undef, undef, undef, undef, undef, undef, undef, undef, undef, undef, undef, undef, undef, undef, undef, undef, undef, undef, undef, undef, undef, undef, undef, undef, undef], defers := [] } ∧ R8I xs ys off xs2 ys2 off2 A B C D n ca m cb n2 cc m2 cd H w l0 l1 l2 l3 l4 l5 l6 l7 v24 v25 v26 v27 v5 v6 X5 X6 LA LB c1 c2 W
/-- The lists of the places of both views' cells, of one length. -/
def lstA (xs ys : List Int) (off : Int) (N : Nat) : List Int := (List.range N).map (plO xs ys off)
theorem lstA_length (xs ys : List Int) (off : Int) (N : Nat) : (lstA xs ys off N).length = N := by simp [lstA]
theorem lstA_nth (xs ys : List Int) (off : Int) (N k : Nat) (h : k < N) : nth (lstA xs ys off N) k = plO xs ys off k := by
  rw [nth_eq _ _ (by rw [lstA_length]; exact h)]; simp [lstA]
theorem R3I.later {xs ys : List Int} {off : Int} {xs2 ys2 : List Int} {off2 : Int} {A B C D : Option Addr} {n ca m cb n2 cc m2 cd H X5 X6 : Nat} {LA LB : Option Addr} {c1 c2 : Nat} {w W W' : World} (h : R3I xs ys off xs2 ys2 off2 A B C D n ca m cb n2 cc m2 cd H X5 X6 LA LB c1 c2 w W) (hB : Below W.heap.size W W') : R3I xs ys off xs2 ys2 off2 A B C D n ca m cb n2 cc m2 cd H X5 X6 LA LB c1 c2 w W' :=
  ⟨h.b5.below' hB, h.b6.below' hB, h.ra.below hB, h.rb.below hB, h.x5, h.x6, h.ne, bl_then h.below hB, h.ba.below' hB, h.bb.below' hB, h.br.below' hB⟩
theorem ints_any (A C : Option Addr) (ca cc n n' : Nat) (xs ys : List Int) (w : World) (hn : xs.length = n) (hn' : ys.length = n') (hx : ReadsI w .i64 A xs) (hy : ReadsI w .i64 C ys) (hl : n ≤ 1000000) (hl' : n' ≤ 1000000) (b : Bool) (hb : decide (xs = ys) = b) :
    Calls Try.prog 13 #[.slice A n ca, .slice C n' cc] w fun e w' => e = .returned (.bool b) ∧ Below w.heap.size w w' := by
  subst hn
  subst hn'
  subst hb
  refine (ints_calls A C ca cc xs ys w hx hy (by omega) (by omega)).mono ?_
  rintro e w' ⟨rfl, m, rfl⟩
  exact ⟨rfl, bl_drewN (Below.refl _ _) _⟩
structure SA (xs ys : List Int) (off : Int) (xs2 ys2 : List Int) (off2 : Int) (A B C D : Option Addr) (n ca m cb n2 cc m2 cd H X5 X6 N : Nat) (LA LB : Option Addr) (c1 c2 : Nat) (w W : World) : Prop where
  b5 : Blk W X5 22 #[.slice LA N c1]
  b6 : Blk W X6 22 #[.slice LB N c2]
  ra : ReadsI W .i64 LA (lstA xs ys off N)
  rb : ReadsI W .i64 LB (lstA xs2 ys2 off2 N)
  below : Below w.heap.size w W
  ba : Blk W H 24 #[.slice A n ca, .slice B m cb, .int .i64 off]
  bb : Blk W (H + 1) 24 #[.slice C n2 cc, .slice D m2 cd, .int .i64 off2]
  br : Blk W (H + 2) 4 #[.bool false]
theorem SA.later {xs ys : List Int} {off : Int} {xs2 ys2 : List Int} {off2 : Int} {A B C D : Option Addr} {n ca m cb n2 cc m2 cd H X5 X6 N : Nat} {LA LB : Option Addr} {c1 c2 : Nat} {w W W' : World} (h : SA xs ys off xs2 ys2 off2 A B C D n ca m cb n2 cc m2 cd H X5 X6 N LA LB c1 c2 w W) (hB : Below W.heap.size W W') : SA xs ys off xs2 ys2 off2 A B C D n ca m cb n2 cc m2 cd H X5 X6 N LA LB c1 c2 w W' :=
  ⟨h.b5.below' hB, h.b6.below' hB, h.ra.below hB, h.rb.below hB, bl_then h.below hB, h.ba.below' hB, h.bb.below' hB, h.br.below' hB⟩
def PA (xs ys : List Int) (off : Int) (xs2 ys2 : List Int) (off2 : Int) (A B C D : Option Addr) (n ca m cb n2 cc m2 cd H N : Nat) (w : World) (e : Exit) (a : Act) (W : World) : Prop :=
  e = .normal ∧ ∃ (X5 X6 : Nat) (LA LB : Option Addr) (c1 c2 : Nat) (u11 u12 u13 u14 u15 u16 u17 u18 u19 u20 u21 u22 u23 u24 u25 u26 u27 u28 u29 u30 u31 u32 u33 u34 u35 u36 u37 u38 u39 u40 u41 u42 u43 : Value), SA xs ys off xs2 ys2 off2 A B C D n ca m cb n2 cc m2 cd H X5 X6 N LA LB c1 c2 w W ∧
    a = { tmps := #[.agg #[.slice A n ca, .slice B m cb, .int .i64 off], .agg #[.slice C n2 cc, .slice D m2 cd, .int .i64 off2], .pointer (some ⟨H, 0, none⟩), .pointer (some ⟨H + 1, 0, none⟩), .pointer (some ⟨H + 1 + 1, 0, none⟩), .pointer (some ⟨X5, 0, none⟩), .pointer (some ⟨X6, 0, none⟩), undef, undef, undef, undef, u11, u12, u13, u14, u15, u16, u17, u18, u19, u20, u21, u22, u23, u24, u25, u26, u27, u28, u29, u30, u31, u32, u33, u34, u35, u36, u37, u38, u39, u40, u41, u42, u43, undef, undef, undef, undef, undef, undef, undef, undef, undef, undef, undef, undef, undef, undef, undef, undef, undef, undef, undef, undef, undef, undef, undef, undef, undef, undef, undef, undef, undef, undef, undef, undef, undef, undef, undef, undef, undef, undef, undef, undef, undef, undef, undef, undef, undef, undef, undef, undef, undef, undef, undef, undef, undef, undef, undef, undef, undef, undef, undef, undef, undef], defers := [] }

set_option maxRecDepth 100000 in
set_option maxHeartbeats 20000000 in
theorem pairs_walk (xs ys : List Int) (off : Int) (xs2 ys2 : List Int) (off2 : Int) (A B C D : Option Addr) (ca cb cc cd : Nat) (w : World) (hx : ReadsI w .i64 A xs) (hy : ReadsI w .i64 B ys) (hx2 : ReadsI w .i64 C xs2) (hy2 : ReadsI w .i64 D ys2) :
    CallsIn Fence.wide 5 Try.prog 3 #[.agg #[.slice A xs.length ca, .slice B ys.length cb, .int .i64 off], .agg #[.slice C xs2.length cc, .slice D ys2.length cd, .int .i64 off2]] w fun e w' => e = .returned (.bool true) ∧ Below w.heap.size w w' := by
  obtain ⟨W0, hW0⟩ : ∃ W0, W0 = ((w.alloc (.cells #[.slice A xs.length ca, .slice B ys.length cb, .int .i64 off] 24)).alloc (.cells #[.slice C xs2.length cc, .slice D ys2.length cd, .int .i64 off2] 24)).alloc (.cells #[.bool false] 4) := ⟨_, rfl⟩
  have hB0 : Below w.heap.size w W0 := by rw [hW0]; exact bl_alloc (bl_alloc (bl_alloc (Below.refl _ _) _) _) _
  have hs0 : W0.heap.size = w.heap.size + 3 := by rw [hW0]; simp
  have ha0 : Blk W0 w.heap.size 24 #[.slice A xs.length ca, .slice B ys.length cb, .int .i64 off] := by rw [hW0]; exact ((Blk.new _ _ _).alloc _).alloc _
  have hb0 : Blk W0 (w.heap.size + 1) 24 #[.slice C xs2.length cc, .slice D ys2.length cd, .int .i64 off2] := by rw [hW0]; exact (Blk.new' (by simp) _ _).alloc _
  have hr0 : Blk W0 (w.heap.size + 2) 4 #[.bool false] := by rw [hW0]; exact Blk.new' (by simp) _ _
  have hL1 := light_calls xs ys off A B ca cb W0 (hx.below hB0)
  have hL2 := fun W' (h : Below w.heap.size w W') => light_calls xs2 ys2 off2 C D cc cd W' (hx2.below h)
  rw [hW0] at hL1
  have HW0 := Lib.hid hW0
  have HB0 := Lib.hid hB0
  have HS0 := Lib.hid hs0
  have HA0 := Lib.hid ha0
  have HBB0 := Lib.hid hb0
  have HR0 := Lib.hid hr0
  cases hl1 : lightB 400 xs ys with
  | false =>
    rw [hl1] at hL1
    have HL1 := Lib.hid hL1
    clear hx hy hx2 hy2 hW0 hB0 hs0 ha0 hb0 hr0 hL1 hL2 hl1
    refine callsIn_wide.2 ?_
    go_enter Try.func3, Try.ntmps3
    go_wp2_with fail
    refine HL1.out.mono ?_
    rintro e w1 ⟨rfl, hB⟩
    have hB : Below W0.heap.size W0 w1 := by rw [HW0.out]; exact hB
    have HB1 := Lib.hid (bl_then HB0.out hB)
    have HR1 := Lib.hid (HR0.out.below' hB)
    clear hB
    go_wp2_with fail
    refine (knows_calls _).mono ?_
    rintro e w2 ⟨rfl, hB⟩
    have hr2 := HR1.out.below' hB
    have k0 := hr2.cell 0
    have k0f := hr2.frozen 0
    have HB2 := Lib.hid (bl_then HB1.out hB)
    clear hB hr2
    go_wp2_with fail
    exact bodyPost_ret (v := .bool true) (by simp [results, Try.results3, go_sem, k0]) rfl ⟨rfl, bl_set (p := ⟨w.heap.size + 1 + 1, 0, none⟩) HB2.out (by show w.heap.size ≤ w.heap.size + 1 + 1; omega) _⟩
  | true =>
    rw [hl1] at hL1
    cases hl2 : lightB 400 xs2 ys2 with
    | false =>
      rw [hl2] at hL2
      have HL1 := Lib.hid hL1
      have HL2 := Lib.hid hL2
      clear hx hy hx2 hy2 hW0 hB0 hs0 ha0 hb0 hr0 hL1 hL2 hl1 hl2
      refine callsIn_wide.2 ?_
      go_enter Try.func3, Try.ntmps3
      go_wp2_with fail
      refine HL1.out.mono ?_
      rintro e w1 ⟨rfl, hB⟩
      have hB : Below W0.heap.size W0 w1 := by rw [HW0.out]; exact hB
      have HB1 := Lib.hid (bl_then HB0.out hB)
      have HR1 := Lib.hid (HR0.out.below' hB)
      obtain ⟨d0, d1, d2⟩ := vcells (HBB0.out.below' hB)
      clear hB
      go_wp2_with fail
      refine (HL2.out _ HB1.out).mono ?_
      rintro e w2 ⟨rfl, hB⟩
      have HB2 := Lib.hid (bl_then HB1.out hB)
      have HR2 := Lib.hid (HR1.out.below' hB)
      clear hB d0 d1 d2
      go_wp2_with fail
      refine (knows_calls _).mono ?_
      rintro e w3 ⟨rfl, hB⟩
      have hr2 := HR2.out.below' hB
      have k0 := hr2.cell 0
      have k0f := hr2.frozen 0
      have HB3 := Lib.hid (bl_then HB2.out hB)
      clear hB hr2
      go_wp2_with fail
      exact bodyPost_ret (v := .bool true) (by simp [results, Try.results3, go_sem, k0]) rfl ⟨rfl, bl_set (p := ⟨w.heap.size + 1 + 1, 0, none⟩) HB3.out (by show w.heap.size ≤ w.heap.size + 1 + 1; omega) _⟩
    | true =>
      rw [hl2] at hL2
      have HL1 := Lib.hid hL1
      have HL2 := Lib.hid hL2
      have hlen : (xs.length ≤ 20 ∧ ys.length ≤ 20 ∧ (sizeOk xs = true → prod xs ≤ 400)) ∧ (xs2.length ≤ 20 ∧ ys2.length ≤ 20 ∧ (sizeOk xs2 = true → prod xs2 ≤ 400)) := by
        unfold lightB at hl1 hl2
        simp only [Bool.and_eq_true, decide_eq_true_eq, Bool.or_eq_true, Bool.not_eq_true'] at hl1 hl2
        exact ⟨⟨hl1.1, hl1.2.1, fun h => by rcases hl1.2.2 with h2 | h2
                                            · rw [h] at h2; cases h2
                                            · exact h2⟩, ⟨hl2.1, hl2.2.1, fun h => by rcases hl2.2.2 with h2 | h2
                                                                                      · rw [h] at h2; cases h2
                                                                                      · exact h2⟩⟩
      have HLEN := Lib.hid hlen
      have HX := Lib.hid hx
      have HY := Lib.hid hy
      have HX2 := Lib.hid hx2
      have HY2 := Lib.hid hy2
      clear hx hy hx2 hy2 hW0 hB0 hs0 ha0 hb0 hr0 hL1 hL2 hl1 hl2 hlen
      refine callsIn_of_wp_marks Try.func3 rfl trivial ?_ rfl
      simp only [Try.ntmps3, List.size_toArray, List.length_cons, List.length_nil, Nat.reduceAdd, Nat.reduceSub, Array.replicate_succ, Array.replicate_zero, List.push_toArray, List.append_toArray, List.nil_append, List.cons_append]
      refine wpIn_wide.2 ?_
      go_wp2_with fail
      refine HL1.out.mono ?_
      rintro e w1 ⟨rfl, hB⟩
      have hB : Below W0.heap.size W0 w1 := by rw [HW0.out]; exact hB
      have HB1 := Lib.hid (bl_then HB0.out hB)
      have HR1 := Lib.hid (HR0.out.below' hB)
      have HA1 := Lib.hid (HA0.out.below' hB)
      have HBB1 := Lib.hid (HBB0.out.below' hB)
      obtain ⟨d0, d1, d2⟩ := vcells HBB1.out
      clear hB HL1
      go_wp2_with fail
      refine (HL2.out _ HB1.out).mono ?_
      rintro e w2 ⟨rfl, hB⟩
      have HB2 := Lib.hid (bl_then HB1.out hB)
      have HR2 := Lib.hid (HR1.out.below' hB)
      have HA2 := Lib.hid (HA1.out.below' hB)
      have HBB2 := Lib.hid (HBB1.out.below' hB)
      clear hB d0 d1 d2 HB1 HR1 HA1 HBB1 HL2
      go_wp2_with fail
      refine (knows_calls _).mono ?_
      rintro e w3 ⟨rfl, hB⟩
      have HB3 := Lib.hid (bl_then HB2.out hB)
      have HR3 := Lib.hid (HR2.out.below' hB)
      have HA3 := Lib.hid (HA2.out.below' hB)
      have HBB3 := Lib.hid (HBB2.out.below' hB)
      clear hB HB2 HR2 HA2 HBB2 HW0 HB0 HS0 HA0 HBB0 HR0
      obtain ⟨n, hn⟩ : ∃ n, xs.length = n := ⟨_, rfl⟩
      obtain ⟨m, hm⟩ : ∃ m, ys.length = m := ⟨_, rfl⟩
      obtain ⟨n2, hn2⟩ : ∃ n2, xs2.length = n2 := ⟨_, rfl⟩
      obtain ⟨m2, hm2⟩ : ∃ m2, ys2.length = m2 := ⟨_, rfl⟩
      rw [hn, hm, hn2, hm2] at HLEN
      rw [hn, hm] at HA3
      rw [hn2, hm2] at HBB3
      rw [hn, hm, hn2, hm2]
      have HN1 := Lib.hid hn
      have HM1 := Lib.hid hm
      have HN2 := Lib.hid hn2
      have HM2 := Lib.hid hm2
      clear hn hm hn2 hm2
      obtain ⟨d0, d1, d2⟩ := vcells HBB3.out
      obtain ⟨c0, c1, c2⟩ := vcells HA3.out
      obtain ⟨l1, l2, _⟩ := HLEN.out.1
      obtain ⟨l3, l4, _⟩ := HLEN.out.2
      have HCA := Lib.hid (fun W' (h : Below w.heap.size w W') => (rcoll_calls xs ys off A B ca cb n m W' (HX.out.below h) (HY.out.below h) HN1.out HM1.out (by omega) (by omega)).mono (fun e w' (hq : _ ∧ Below W'.heap.size W' w') => (⟨hq.1, hq.2, bl_then h hq.2⟩ : _ ∧ Below W'.heap.size W' w' ∧ Below w.heap.size w w')))
      have HCB := Lib.hid (fun W' (h : Below w.heap.size w W') => (rcoll_calls xs2 ys2 off2 C D cc cd n2 m2 W' (HX2.out.below h) (HY2.out.below h) HN2.out HM2.out (by omega) (by omega)).mono (fun e w' (hq : _ ∧ Below W'.heap.size W' w') => (⟨hq.1, hq.2, bl_then h hq.2⟩ : _ ∧ Below W'.heap.size W' w' ∧ Below w.heap.size w w')))
      have hH2 : w3.heap.size ≥ w.heap.size + 3 := by have := HR3.out.lt; omega
      go_wp2_with fail
      refine Code.wp_mono (Q := R3 xs ys off xs2 ys2 off2 A B C D n ca m cb n2 cc m2 cd w.heap.size w) ?_ ?_
      · rintro e a W4 ⟨rfl, X5, X6, LA, LB, p1, p2, hI, rfl⟩
        rename_i K hK
        refine hK _ _ ?_
        have e5 := HLEN.out
        have HR1 := Lib.hid (fun W' (h : Below w.heap.size w W') => rvright_calls xs ys off A B ca cb n m W' (HX.out.below h) (HY.out.below h) HN1.out HM1.out (by omega) (by omega))
        have HR2 := Lib.hid (fun W' (h : Below w.heap.size w W') => rvright_calls xs2 ys2 off2 C D cc cd n2 m2 W' (HX2.out.below h) (HY2.out.below h) HN2.out HM2.out (by omega) (by omega))
        have HIN := Lib.hid (fun W' (h : Below w.heap.size w W') (b : Bool) (hb : decide (xs = xs2) = b) => ints_any A C ca cc n n2 xs xs2 W' HN1.out HN2.out (HX.out.below h) (HX2.out.below h) (by omega) (by omega) b hb)
        obtain ⟨N, hN⟩ : ∃ N, pairsN xs ys off xs2 ys2 off2 = N := ⟨_, rfl⟩
        have HNN := Lib.hid hN
        clear e5
        refine wp_seq (Code.wp_mono (Q := PA xs ys off xs2 ys2 off2 A B C D n ca m cb n2 cc m2 cd w.heap.size N w) ?_ ?_)
        · clear hI hN HCA HCB c0 c1 c2 d0 d1 d2 hK
          rintro e a W5 ⟨rfl, X5, X6, LA, LB, p3, p4, u11, u12, u13, u14, u15, u16, u17, u18, u19, u20, u21, u22, u23, u24, u25, u26, u27, u28, u29, u30, u31, u32, u33, u34, u35, u36, u37, u38, u39, u40, u41, u42, u43, hS, rfl⟩
          show Code.wp _ _ _ _ _
          have HSA := Lib.hid hS
          clear hS
          go_wp2_with fail
          obtain ⟨W6, hW6⟩ : ∃ W6, W5.alloc (.cells #[.int .i64 0] 3) = W6 := ⟨_, rfl⟩
          obtain ⟨X7, hX7⟩ : ∃ X7, W5.heap.size = X7 := ⟨_, rfl⟩
          have hB6 : Below W5.heap.size W5 W6 := by rw [← hW6]; exact bl_alloc (Below.refl _ _) _
          have hb7 : Blk W6 X7 3 #[.int .i64 0] := by rw [← hW6, ← hX7]; exact Blk.new _ _ _
          have hs6 : W6.heap.size = X7 + 1 := by rw [← hW6, ← hX7]; simp
          rw [hW6, hX7]
          have HX7 := Lib.hid hX7
          have HB6 := Lib.hid hB6
          have HB7 := Lib.hid hb7
          have HS6 := Lib.hid hs6
          have HSA6 := Lib.hid (HSA.out.later hB6)
          clear hW6 hX7 hB6 hb7 hs6
          obtain ⟨c0, c1, c2, d0, d1, d2⟩ := held6 HSA6.out.ba HSA6.out.bb
          go_region_held3 (fun W => W.cell? ⟨w.heap.size, 0, none⟩ = some (.slice A n ca) ∧ W.cell? ⟨w.heap.size, 1, none⟩ = some (.slice B m cb) ∧ W.cell? ⟨w.heap.size, 2, none⟩ = some (.int .i64 off) ∧ W.cell? ⟨w.heap.size + 1, 0, none⟩ = some (.slice C n2 cc) ∧ W.cell? ⟨w.heap.size + 1, 1, none⟩ = some (.slice D m2 cd) ∧ W.cell? ⟨w.heap.size + 1, 2, none⟩ = some (.int .i64 off2))
            (first | exact ⟨c0, c1, c2, d0, d1, d2⟩ | exact held6 (HSA6.out.ba.drew.below' HBA.out) (HSA6.out.bb.drew.below' HBA.out) | exact held6 ((HSA6.out.ba.drew.below' HBA.out).below' HBB.out) ((HSA6.out.bb.drew.below' HBA.out).below' HBB.out) | exact held6 ((((HSA6.out.ba.drew.below' HBA.out).below' HBB.out).alloc _).alloc _) ((((HSA6.out.bb.drew.below' HBA.out).below' HBB.out).alloc _).alloc _))
            (first
            | (go_at_call 15; first
              | ((with_reducible refine (own_calls A B ca cb n m off _).mono ?_); rintro e wA ⟨rfl, hBA⟩; have HBA := Lib.hid hBA; clear hBA)
              | ((with_reducible refine (own_calls C D cc cd n2 m2 off2 _).mono ?_); rintro e wB ⟨rfl, hBB⟩; have HBB := Lib.hid hBB; clear hBB))
            | (go_at_call 14; refine (pairs_calls _ _ _).mono ?_; rintro e wC ⟨rfl, rfl⟩))
          obtain ⟨W9, hW9⟩ : ∃ W9, (wB.alloc (.cells #[.slice A n ca, .slice B m cb, .int .i64 off] 34)).alloc (.cells #[.slice C n2 cc, .slice D m2 cd, .int .i64 off2] 34) = W9 := ⟨_, rfl⟩
          obtain ⟨B1, hB1⟩ : ∃ B1, wB.heap.size = B1 := ⟨_, rfl⟩
          have hB9 : Below wB.heap.size wB W9 := by rw [← hW9]; exact bl_alloc (bl_alloc (Below.refl _ _) _) _
          have hv1 : Blk W9 B1 34 #[.slice A n ca, .slice B m cb, .int .i64 off] := by rw [← hW9, ← hB1]; exact (Blk.new _ _ _).alloc _
          have hv2 : Blk W9 (B1 + 1) 34 #[.slice C n2 cc, .slice D m2 cd, .int .i64 off2] := by rw [← hW9, ← hB1]; exact Blk.new' (by simp) _ _
          have h69 : Below W6.heap.size W6 W9 := bl_then (bl_then (bl_drew (Below.refl _ _)) HBA.out) (bl_then HBB.out hB9)
          have h7 : Blk W9 X7 3 #[.int .i64 0] := HB7.out.below' h69
          have h59 : Below W5.heap.size W5 W9 := bl_then HB6.out h69
          have hs9 : X7 + 1 ≤ W9.heap.size := by have := h69.size; have := HS6.out; omega
          rw [hW9, hB1]
          have HV1 := Lib.hid hv1
          have HV2 := Lib.hid hv2
          have H7 := Lib.hid h7
          have H59 := Lib.hid h59
          have HS9 := Lib.hid hs9
          have H09 := Lib.hid (bl_then HSA.out.below h59)
          have HNB : Hid (N ≤ 400) := Lib.hid (by
            rw [← HNN.out]
            unfold pairsN
            split
            · rename_i hp
              unfold pairsB at hp
              simp only [Bool.and_eq_true, decide_eq_true_eq] at hp
              have h1 := cellsN_prod hp.1
              have h2 := HLEN.out.1.2.2 (vrB_out hp.1).1
              omega
            · omega)
          clear hW9 hB1 hB9 hv1 hv2 h69 h7 h59 hs9 HBA HBB c0 c1 c2 d0 d1 d2 HB6 HB7 HS6 HSA6
          have HSEQ := Lib.hid (pairs_seq 4 (by omega) xs ys off xs2 ys2 off2 A B C D ca cb cc cd n m n2 m2 B1 (B1 + 1) HN1.out HM1.out HN2.out HM2.out (by omega) (by omega) (by omega) (by omega) W9 HV1.out HV2.out (HX.out.below H09.out) (HY.out.below H09.out) (HX2.out.below H09.out) (HY2.out.below H09.out))
          rw [HNN.out] at HSEQ
          go_wp2_with fail
          refine (wpIn_wide (n := 5)).1 ?_
          refine wpIn_rangeFunc_at (n := 5) rfl (by omega) rfl trivial (fun _ _ => rfl) HSEQ.out (fun h k => h.trans k) (fun G W l o o' h _ _ _ _ => KpG.put W l o' h) (Below.refl _ _) (fun _ => rfl) (fun G k W => Blk W X7 3 #[.int .i64 (k : Nat)] ∧ Below W5.heap.size W5 W) (fun _ _ _ _ => False)
            (fun G k X Y hG h hd => ⟨hd.blk h.1 (fun g => by have := hG _ g; have := HS9.out; omega), h.2.trans ⟨hd.os, hd.tape, hd.output, hd.size, fun j hj => hd.low j (by have := HS9.out; have := HX7.out; omega)⟩⟩) (fun _ _ _ _ _ _ h _ => h)
            (fun G W1 hb hG => ⟨H7.out.below' hb, bl_then H59.out hb⟩)
            (fun k => { tmps := #[.agg #[.slice A n ca, .slice B m cb, .int .i64 off], .agg #[.slice C n2 cc, .slice D m2 cd, .int .i64 off2], .pointer (some ⟨w.heap.size, 0, none⟩), .pointer (some ⟨w.heap.size + 1, 0, none⟩), .pointer (some ⟨w.heap.size + 1 + 1, 0, none⟩), .pointer (some ⟨X5, 0, none⟩), .pointer (some ⟨X6, 0, none⟩), .pointer (some ⟨X7, 0, none⟩), .int .i64 (plO xs ys off k), .int .i64 (plO xs2 ys2 off2 k), undef, u11, u12, u13, u14, u15, u16, u17, u18, u19, u20, u21, u22, u23, u24, u25, u26, u27, u28, u29, u30, u31, u32, u33, u34, u35, u36, u37, u38, u39, u40, u41, u42, u43, .agg #[.slice A n ca, .slice B m cb, .int .i64 off], .agg #[.slice A n ca, .slice B m cb, .int .i64 off], .agg #[.slice C n2 cc, .slice D m2 cd, .int .i64 off2], .agg #[.slice C n2 cc, .slice D m2 cd, .int .i64 off2], .func (.func 55) #[] #[.pointer (some ⟨B1, 0, none⟩), .pointer (some ⟨B1 + 1, 0, none⟩)], .int .i64 (plO xs ys off k), .int .i64 (plO xs2 ys2 off2 k), undef, undef, undef, undef, undef, undef, undef, undef, undef, undef, undef, undef, undef, undef, undef, undef, undef, undef, undef, undef, undef, undef, undef, undef, undef, undef, undef, undef, undef, undef, undef, undef, undef, undef, undef, undef, undef, undef, undef, undef, undef, undef, undef, undef, undef, undef, undef, undef, undef, undef, undef, undef, undef, undef], defers := [] }) ?assign ?body ?done ?stop
          case assign =>
            intro l k W K hK
            gi_wp2
            exact hK
          case body =>
            rintro l k G W hG hsz ⟨h1, h2⟩ hk
            have hs := HSA.out.later h2
            obtain ⟨bA, oA, eA, cA⟩ := hs.ra k (by rw [lstA_length]; exact hk)
            obtain ⟨bB, oB, eB, cB⟩ := hs.rb k (by rw [lstA_length]; exact hk)
            rw [lstA_nth _ _ _ _ _ hk] at cA cB
            have e7 : W.cell? ⟨X7, 0, none⟩ = some (.int .i64 (k : Nat)) := h1.cell 0
            have e7f := h1.frozen 0
            have e5 : W.cell? ⟨X5, 0, none⟩ = some (.slice LA N p3) := hs.b5.cell 0
            have e6 : W.cell? ⟨X6, 0, none⟩ = some (.slice LB N p4) := hs.b6.cell 0
            rw [eA] at e5
            rw [eB] at e6
            generalize plO xs ys off k = z1 at *
            generalize plO xs2 ys2 off2 k = z2 at *
            have hN4 := HNB.out
            have hk' : ¬ ((N : Int) ≤ (k : Int)) := by omega
            have H1 := Lib.hid h1
            have H2 := Lib.hid h2
            have HG := Lib.hid hG
            clear h1 h2 hG hs hsz HSEQ
            gi_wp2
            refine ⟨(KeepsOthers.setCell _ _ _).from _, ⟨fun b hb => Below.heap_setCell _ _ _ _ (fun e => by have := (HG.out b hb).1; have := HS9.out; subst e; omega), by simp [World.setCell]⟩, H1.out.one _, bl_set (p := ⟨X7, 0, none⟩) H2.out (by rw [HX7.out]; exact Nat.le_refl _) _⟩
          case done =>
            rintro D1 G W10 hD hG ⟨h1, h2⟩ hK1
            have HSB := Lib.hid (HSA.out.later h2)
            have H10 := Lib.hid h1
            have HK1 := Lib.hid hK1
            have HD1 := Lib.hid hD
            have HD1w := Lib.hid (Nat.le_trans H09.out.size hD)
            clear hD hG h1 h2 hK1 HSEQ HV1 HV2 H7 H59 HSA HX7
            go_wp2_with fail
            obtain ⟨W11, hW11⟩ : ∃ W11, W10.alloc (.cells #[.int .i64 0] 3) = W11 := ⟨_, rfl⟩
            obtain ⟨X10, hX10⟩ : ∃ X10, W10.heap.size = X10 := ⟨_, rfl⟩
            have hB11 : Below W10.heap.size W10 W11 := by rw [← hW11]; exact bl_alloc (Below.refl _ _) _
            have hb11 : Blk W11 X10 3 #[.int .i64 0] := by rw [← hW11, ← hX10]; exact Blk.new _ _ _
            have hs11 : W11.heap.size = X10 + 1 := by rw [← hW11, ← hX10]; simp
            rw [hW11, hX10]
            have HX10 := Lib.hid hX10
            have HB11 := Lib.hid hB11
            have HC11 := Lib.hid hb11
            have HS11 := Lib.hid hs11
            have HSA11 := Lib.hid (HSB.out.later hB11)
            clear hW11 hX10 hB11 hb11 hs11
            obtain ⟨c0, c1, c2, d0, d1, d2⟩ := held6 HSA11.out.ba HSA11.out.bb
            go_region_held3 (fun W => W.cell? ⟨w.heap.size, 0, none⟩ = some (.slice A n ca) ∧ W.cell? ⟨w.heap.size, 1, none⟩ = some (.slice B m cb) ∧ W.cell? ⟨w.heap.size, 2, none⟩ = some (.int .i64 off) ∧ W.cell? ⟨w.heap.size + 1, 0, none⟩ = some (.slice C n2 cc) ∧ W.cell? ⟨w.heap.size + 1, 1, none⟩ = some (.slice D m2 cd) ∧ W.cell? ⟨w.heap.size + 1, 2, none⟩ = some (.int .i64 off2))
              (first | exact ⟨c0, c1, c2, d0, d1, d2⟩ | exact held6 (HSA11.out.ba.drew.below' HBA.out) (HSA11.out.bb.drew.below' HBA.out) | exact held6 ((HSA11.out.ba.drew.below' HBA.out).below' HBB.out) ((HSA11.out.bb.drew.below' HBA.out).below' HBB.out) | exact held6 ((((HSA11.out.ba.drew.below' HBA.out).below' HBB.out).alloc _).alloc _) ((((HSA11.out.bb.drew.below' HBA.out).below' HBB.out).alloc _).alloc _))
              (first
              | (go_at_call 15; first
                | ((with_reducible refine (own_calls A B ca cb n m off _).mono ?_); rintro e wC ⟨rfl, hBA⟩; have HBA := Lib.hid hBA; clear hBA)
                | ((with_reducible refine (own_calls C D cc cd n2 m2 off2 _).mono ?_); rintro e wE ⟨rfl, hBB⟩; have HBB := Lib.hid hBB; clear hBB))
              | (go_at_call 14; refine (pairs_calls _ _ _).mono ?_; rintro e wF ⟨rfl, rfl⟩))
            obtain ⟨W12, hW12⟩ : ∃ W12, (wE.alloc (.cells #[.slice A n ca, .slice B m cb, .int .i64 off] 34)).alloc (.cells #[.slice C n2 cc, .slice D m2 cd, .int .i64 off2] 34) = W12 := ⟨_, rfl⟩
            obtain ⟨B2, hB2⟩ : ∃ B2, wE.heap.size = B2 := ⟨_, rfl⟩
            have hB12 : Below wE.heap.size wE W12 := by rw [← hW12]; exact bl_alloc (bl_alloc (Below.refl _ _) _) _
            have hv1 : Blk W12 B2 34 #[.slice A n ca, .slice B m cb, .int .i64 off] := by rw [← hW12, ← hB2]; exact (Blk.new _ _ _).alloc _
            have hv2 : Blk W12 (B2 + 1) 34 #[.slice C n2 cc, .slice D m2 cd, .int .i64 off2] := by rw [← hW12, ← hB2]; exact Blk.new' (by simp) _ _
            have h69 : Below W11.heap.size W11 W12 := bl_then (bl_then (bl_drew (Below.refl _ _)) HBA.out) (bl_then HBB.out hB12)
            have h7 : Blk W12 X10 3 #[.int .i64 0] := HC11.out.below' h69
            have h59 : Below W10.heap.size W10 W12 := bl_then HB11.out h69
            have hs12 : X10 + 1 ≤ W12.heap.size := by have := h69.size; have := HS11.out; omega
            rw [hW12, hB2]
            have HV1 := Lib.hid hv1
            have HV2 := Lib.hid hv2
            have H12 := Lib.hid h7
            have H1012 := Lib.hid h59
            have HS12 := Lib.hid hs12
            have H09 := Lib.hid (bl_then HSB.out.below h59)
            clear hW12 hB2 hB12 hv1 hv2 h69 h7 h59 hs12 HBA HBB c0 c1 c2 d0 d1 d2 HB11 HC11 HS11 HSA11
            have HSEQ := Lib.hid (pairs_seq 4 (by omega) xs ys off xs2 ys2 off2 A B C D ca cb cc cd n m n2 m2 B2 (B2 + 1) HN1.out HM1.out HN2.out HM2.out (by omega) (by omega) (by omega) (by omega) W12 HV1.out HV2.out (HX.out.below H09.out) (HY.out.below H09.out) (HX2.out.below H09.out) (HY2.out.below H09.out))
            rw [HNN.out] at HSEQ
            rename_i K2 hK2 K3 hK3 hHeld
            obtain ⟨PB, hPB⟩ : ∃ PB : Exit → Act → World → Prop, PB = fun e a W => e = .normal ∧ ∃ D2, a = { tmps := #[.agg #[.slice A n ca, .slice B m cb, .int .i64 off], .agg #[.slice C n2 cc, .slice D m2 cd, .int .i64 off2], .pointer (some ⟨w.heap.size, 0, none⟩), .pointer (some ⟨w.heap.size + 1, 0, none⟩), .pointer (some ⟨w.heap.size + 1 + 1, 0, none⟩), .pointer (some ⟨X5, 0, none⟩), .pointer (some ⟨X6, 0, none⟩), .pointer (some ⟨X7, 0, none⟩), undef, undef, .pointer (some ⟨X10, 0, none⟩), u11, u12, u13, u14, u15, u16, u17, u18, u19, u20, u21, u22, u23, u24, u25, u26, u27, u28, u29, u30, u31, u32, u33, u34, u35, u36, u37, u38, u39, u40, u41, u42, u43, .agg #[.slice A n ca, .slice B m cb, .int .i64 off], .agg #[.slice A n ca, .slice B m cb, .int .i64 off], .agg #[.slice C n2 cc, .slice D m2 cd, .int .i64 off2], .agg #[.slice C n2 cc, .slice D m2 cd, .int .i64 off2], .func (.func 55) #[] #[.pointer (some ⟨B1, 0, none⟩), .pointer (some ⟨B1 + 1, 0, none⟩)], undef, undef, undef, undef, undef, undef, undef, undef, undef, undef, undef, undef, undef, undef, undef, undef, undef, undef, undef, undef, undef, undef, undef, undef, .agg #[.slice A n ca, .slice B m cb, .int .i64 off], .agg #[.slice A n ca, .slice B m cb, .int .i64 off], .agg #[.slice C n2 cc, .slice D m2 cd, .int .i64 off2], .agg #[.slice C n2 cc, .slice D m2 cd, .int .i64 off2], .func (.func 55) #[] #[.pointer (some ⟨B2, 0, none⟩), .pointer (some ⟨B2 + 1, 0, none⟩)], undef, undef, undef, undef, undef, undef, undef, undef, undef, undef, undef, undef, undef, undef, undef, undef, undef, undef, undef, undef, undef, undef, undef, undef, undef, undef, undef], defers := [{ target := .collected D2, args := #[] }, { target := .collected D1, args := #[] }] } ∧ Blk W X10 3 #[.int .i64 (min 3 N : Nat)] ∧ Below W10.heap.size W10 W ∧ X10 < D2 ∧ W.heap[D2]? = some (.deferred (some [])) := ⟨_, rfl⟩
            have HPB := Lib.hid hPB
            refine hK3 _ _ (Code.wp_mono (Q := PB) ?_ ?_)
            · rw [hPB]
              rintro e a W13 ⟨rfl, D2, rfl, hq1, hq2, hq3, hq4⟩
              refine hK2 _ _ ?_
              clear hK2 hK3
              have HSC := Lib.hid (HSB.out.later hq2)
              have HQ1 := Lib.hid hq1
              have HQ2 := Lib.hid hq2
              have HQ3 := Lib.hid hq3
              have HQ4 := Lib.hid hq4
              have HKD1 : Hid (W13.heap[D1]? = some (.deferred (some []))) := Lib.hid ((hq2.block _ (Array.getElem?_eq_some_iff.1 HK1.out).1).trans HK1.out)
              have H713 := Lib.hid (H10.out.below' hq2)
              have HD12 : Hid (D1 < X10) := Lib.hid (by rw [← HX10.out]; exact (Array.getElem?_eq_some_iff.1 HK1.out).1)
              have HX13 : Hid (X10 < W13.heap.size) := Lib.hid hq1.lt
              have HCA := Lib.hid (fun W' (h : Below w.heap.size w W') => (rcoll_calls xs ys off A B ca cb n m W' (HX.out.below h) (HY.out.below h) HN1.out HM1.out (by omega) (by omega)).mono (fun e w' (hq : _ ∧ Below W'.heap.size W' w') => (⟨hq.1, hq.2, bl_then h hq.2⟩ : _ ∧ Below W'.heap.size W' w' ∧ Below w.heap.size w w')))
              clear hPB HPB hHeld hq1 hq2 hq3 hq4 HSEQ HV1 HV2 H12 H1012 HS12 H09
              obtain ⟨c0, c1, c2⟩ := vcells HSC.out.ba
              go_wp2_with fail
              refine (own_calls A B ca cb n m off _).mono ?_
              rintro e wG ⟨rfl, hBA⟩
              have HBA := Lib.hid hBA
              clear hBA
              go_wp2_with fail
              refine (offsets_calls _ _).mono ?_
              rintro e W14 ⟨rfl, hW14⟩
              have hB14 : Below wG.heap.size wG W14 := by rw [hW14]; exact bl_alloc (Below.refl _ _) _
              have hv1 : Blk W14 wG.heap.size 34 #[.slice A n ca, .slice B m cb, .int .i64 off] := by rw [hW14]; exact Blk.new _ _ _
              have h14 : Below W13.heap.size W13 W14 := bl_then HBA.out hB14
              generalize wG.heap.size = B3 at *
              have HV1 := Lib.hid hv1
              have H14 := Lib.hid h14
              clear hW14 hB14 hv1 h14 HBA c0 c1 c2
              have HSEQ := Lib.hid (offsets_seq 4 (by omega) xs ys off A B ca cb n m B3 HN1.out HM1.out (by omega) (by omega) W14 HV1.out (HX.out.below (bl_then HSC.out.below H14.out)) (HY.out.below (bl_then HSC.out.below H14.out)))
              go_wp2_with fail
              rename_i K4 hK4
              obtain ⟨N2, hN2⟩ : ∃ N2, cellsN xs ys off = N2 := ⟨_, rfl⟩
              have hoL : (offsL xs ys off).length = N2 := by rw [offsL_length, hN2]
              rw [hoL] at HCA
              rw [hN2] at HSEQ
              have HNN2 := Lib.hid hN2
              have HREST : ∀ (D3 : Nat) (W : World), W14.heap.size ≤ D3 → Blk W X10 3 #[.int .i64 (min 3 N + min 1 N2 : Nat)] → Below W10.heap.size W10 W → W.heap[D2]? = some (.deferred (some [])) → W.heap[D3]? = some (.deferred (some [])) →
                  K4 { tmps := #[.agg #[.slice A n ca, .slice B m cb, .int .i64 off], .agg #[.slice C n2 cc, .slice D m2 cd, .int .i64 off2], .pointer (some ⟨w.heap.size, 0, none⟩), .pointer (some ⟨w.heap.size + 1, 0, none⟩), .pointer (some ⟨w.heap.size + 1 + 1, 0, none⟩), .pointer (some ⟨X5, 0, none⟩), .pointer (some ⟨X6, 0, none⟩), .pointer (some ⟨X7, 0, none⟩), undef, undef, .pointer (some ⟨X10, 0, none⟩), u11, u12, u13, u14, u15, u16, u17, u18, u19, u20, u21, u22, u23, u24, u25, u26, u27, u28, u29, u30, u31, u32, u33, u34, u35, u36, u37, u38, u39, u40, u41, u42, u43, .agg #[.slice A n ca, .slice B m cb, .int .i64 off], .agg #[.slice A n ca, .slice B m cb, .int .i64 off], .agg #[.slice C n2 cc, .slice D m2 cd, .int .i64 off2], .agg #[.slice C n2 cc, .slice D m2 cd, .int .i64 off2], .func (.func 55) #[] #[.pointer (some ⟨B1, 0, none⟩), .pointer (some ⟨B1 + 1, 0, none⟩)], undef, undef, undef, undef, undef, undef, undef, undef, undef, undef, undef, undef, undef, undef, undef, undef, undef, undef, undef, undef, undef, undef, undef, undef, .agg #[.slice A n ca, .slice B m cb, .int .i64 off], .agg #[.slice A n ca, .slice B m cb, .int .i64 off], .agg #[.slice C n2 cc, .slice D m2 cd, .int .i64 off2], .agg #[.slice C n2 cc, .slice D m2 cd, .int .i64 off2], .func (.func 55) #[] #[.pointer (some ⟨B2, 0, none⟩), .pointer (some ⟨B2 + 1, 0, none⟩)], undef, undef, undef, undef, undef, undef, .agg #[.slice A n ca, .slice B m cb, .int .i64 off], .agg #[.slice A n ca, .slice B m cb, .int .i64 off], .func (.func 57) #[] #[.pointer (some ⟨B3, 0, none⟩)], undef, undef, undef, undef, undef, undef, undef, undef, undef, undef, undef, undef, undef, undef, undef, undef, undef, undef], defers := [{ target := .collected D3, args := #[] }, { target := .collected D2, args := #[] }, { target := .collected D1, args := #[] }] } W := by
                intro D3 W g1 g2 g3 g4 g5
                refine hK4 _ _ ?_
                have HG1 := Lib.hid g1
                have HG2 := Lib.hid g2
                have HG3 := Lib.hid g3
                have HG4 := Lib.hid g4
                have HG5 := Lib.hid g5
                have HSD := Lib.hid (HSB.out.later g3)
                have H7D := Lib.hid (H10.out.below' g3)
                have HKD : Hid (W.heap[D1]? = some (.deferred (some []))) := Lib.hid ((g3.block _ (Array.getElem?_eq_some_iff.1 HK1.out).1).trans HK1.out)
                clear g1 g2 g3 g4 g5 hK4 HSEQ hN2 hoL
                obtain ⟨c0, c1, c2⟩ := vcells HSD.out.ba
                have k7 : W.cell? ⟨X7, 0, none⟩ = some (.int .i64 (N : Nat)) := H7D.out.cell 0
                have k5 : W.cell? ⟨X5, 0, none⟩ = some (.slice LA N p3) := HSD.out.b5.cell 0
                obtain ⟨M, hM⟩ : ∃ M : Nat, min 3 N + min 1 N2 = M := ⟨_, rfl⟩
                rw [hM] at HG2
                have HM := Lib.hid hM
                clear hM
                have k10 : W.cell? ⟨X10, 0, none⟩ = some (.int .i64 (M : Nat)) := HG2.out.cell 0
                have hN4 := HNB.out
                have hl2 : w.heap.size ≤ D2 := by have := HSB.out.below.size; have := HX10.out; have := HQ3.out; omega
                have hl3 : w.heap.size ≤ D3 := by have := HSB.out.below.size; have := HX10.out; have := HX13.out; have := H14.out.size; have := HG1.out; omega
                have n12 : D1 ≠ D2 := by have := HD12.out; have := HQ3.out; omega
                have n23 : D2 ≠ D3 := by have := (Array.getElem?_eq_some_iff.1 HQ4.out).1; have := H14.out.size; have := HG1.out; omega
                have n13 : D1 ≠ D3 := by have := HD12.out; have := HX13.out; have := H14.out.size; have := HG1.out; omega
                have ne0 : w.heap.size ≠ w.heap.size + 1 + 1 := by omega
                have ne7 : X7 ≠ w.heap.size + 1 + 1 := H7D.out.ne_ HSD.out.br (by decide)
                have ne5 : X5 ≠ w.heap.size + 1 + 1 := HSD.out.b5.ne_ HSD.out.br (by decide)
                have ne10 : X10 ≠ w.heap.size + 1 + 1 := HG2.out.ne_ HSD.out.br (by decide)
                by_cases h3 : (N : Int) < 3
                · by_cases h1 : (N2 : Int) < 1
                  · have hWR1 : IntKind.i64.wrap ((N : Int) + (N2 : Int)) = (M : Int) := by rw [IntKind.wrap_i64]; have := HM.out; omega
                    have hWR2 : IntKind.i64.wrap ((N : Int) + (if (N2 : Int) < 1 then (N2 : Int) else 1)) = (M : Int) := by rw [IntKind.wrap_i64]; have := HM.out; omega
                    have hWR3 : IntKind.i64.wrap ((if (N : Int) < 3 then (N : Int) else 3) + (N2 : Int)) = (M : Int) := by rw [IntKind.wrap_i64]; have := HM.out; omega
                    have hWR4 : IntKind.i64.wrap ((if (N : Int) < 3 then (N : Int) else 3) + (if (N2 : Int) < 1 then (N2 : Int) else 1)) = (M : Int) := by rw [IntKind.wrap_i64]; have := HM.out; omega
                    go_wp2_with fail
                    go_region_held3 (fun W => W.cell? ⟨w.heap.size, 0, none⟩ = some (.slice A n ca) ∧ W.cell? ⟨w.heap.size, 1, none⟩ = some (.slice B m cb) ∧ W.cell? ⟨w.heap.size, 2, none⟩ = some (.int .i64 off) ∧ W.cell? ⟨X7, 0, none⟩ = some (.int .i64 (N : Nat)) ∧ W.cell? ⟨X5, 0, none⟩ = some (.slice LA N p3) ∧ W.cell? ⟨X10, 0, none⟩ = some (.int .i64 (M : Nat)))
                      (first | exact ⟨c0, c1, c2, k7, k5, k10⟩ | exact heldE (HSD.out.ba.drew.below' HBA.out) (H7D.out.drew.below' HBA.out) (HSD.out.b5.drew.below' HBA.out) (HG2.out.drew.below' HBA.out) | exact heldE ((HSD.out.ba.drew.below' HBA.out).far (p := ⟨w.heap.size + 1 + 1, 0, none⟩) ne0 _) ((H7D.out.drew.below' HBA.out).far (p := ⟨w.heap.size + 1 + 1, 0, none⟩) ne7 _) ((HSD.out.b5.drew.below' HBA.out).far (p := ⟨w.heap.size + 1 + 1, 0, none⟩) ne5 _) ((HG2.out.drew.below' HBA.out).far (p := ⟨w.heap.size + 1 + 1, 0, none⟩) ne10 _))
                      ((go_at_call 11; refine (HCA.out _ (bl_drew HSD.out.below)).mono ?_; rintro e wC ⟨⟨A', c', rfl, hrr⟩, hBA, hBA2⟩; clear hrr; have k4 := (HSD.out.br.drew.below' hBA).cell 0; have k4f := (HSD.out.br.drew.below' hBA).frozen 0; have HBA := Lib.hid hBA; have HBA2 := Lib.hid hBA2; clear hBA hBA2))
                    all_goals
                      rename_i K5 hK5 hHeld
                      obtain ⟨z3, z2, z1, zc, zb⟩ := fin_three HSD.out.br HKD.out HG4.out HG5.out HBA.out HBA2.out HD1w.out hl2 hl3 n12 n13 n23 (by omega)
                      exact hK5 _ _ (wp_ret (pairs_end z3 z2 z1 rfl zc ⟨rfl, zb⟩))
                  · have hWR1 : IntKind.i64.wrap ((N : Int) + 1) = (M : Int) := by rw [IntKind.wrap_i64]; have := HM.out; omega
                    have hWR2 : IntKind.i64.wrap ((N : Int) + (if (N2 : Int) < 1 then (N2 : Int) else 1)) = (M : Int) := by rw [IntKind.wrap_i64]; have := HM.out; omega
                    have hWR3 : IntKind.i64.wrap ((if (N : Int) < 3 then (N : Int) else 3) + 1) = (M : Int) := by rw [IntKind.wrap_i64]; have := HM.out; omega
                    have hWR4 : IntKind.i64.wrap ((if (N : Int) < 3 then (N : Int) else 3) + (if (N2 : Int) < 1 then (N2 : Int) else 1)) = (M : Int) := by rw [IntKind.wrap_i64]; have := HM.out; omega
                    go_wp2_with fail
                    go_region_held3 (fun W => W.cell? ⟨w.heap.size, 0, none⟩ = some (.slice A n ca) ∧ W.cell? ⟨w.heap.size, 1, none⟩ = some (.slice B m cb) ∧ W.cell? ⟨w.heap.size, 2, none⟩ = some (.int .i64 off) ∧ W.cell? ⟨X7, 0, none⟩ = some (.int .i64 (N : Nat)) ∧ W.cell? ⟨X5, 0, none⟩ = some (.slice LA N p3) ∧ W.cell? ⟨X10, 0, none⟩ = some (.int .i64 (M : Nat)))
                      (first | exact ⟨c0, c1, c2, k7, k5, k10⟩ | exact heldE (HSD.out.ba.drew.below' HBA.out) (H7D.out.drew.below' HBA.out) (HSD.out.b5.drew.below' HBA.out) (HG2.out.drew.below' HBA.out) | exact heldE ((HSD.out.ba.drew.below' HBA.out).far (p := ⟨w.heap.size + 1 + 1, 0, none⟩) ne0 _) ((H7D.out.drew.below' HBA.out).far (p := ⟨w.heap.size + 1 + 1, 0, none⟩) ne7 _) ((HSD.out.b5.drew.below' HBA.out).far (p := ⟨w.heap.size + 1 + 1, 0, none⟩) ne5 _) ((HG2.out.drew.below' HBA.out).far (p := ⟨w.heap.size + 1 + 1, 0, none⟩) ne10 _))
                      ((go_at_call 11; refine (HCA.out _ (bl_drew HSD.out.below)).mono ?_; rintro e wC ⟨⟨A', c', rfl, hrr⟩, hBA, hBA2⟩; clear hrr; have k4 := (HSD.out.br.drew.below' hBA).cell 0; have k4f := (HSD.out.br.drew.below' hBA).frozen 0; have HBA := Lib.hid hBA; have HBA2 := Lib.hid hBA2; clear hBA hBA2))
                    all_goals
                      rename_i K5 hK5 hHeld
                      obtain ⟨z3, z2, z1, zc, zb⟩ := fin_three HSD.out.br HKD.out HG4.out HG5.out HBA.out HBA2.out HD1w.out hl2 hl3 n12 n13 n23 (by omega)
                      exact hK5 _ _ (wp_ret (pairs_end z3 z2 z1 rfl zc ⟨rfl, zb⟩))
                · by_cases h1 : (N2 : Int) < 1
                  · have hWR1 : IntKind.i64.wrap (3 + (N2 : Int)) = (M : Int) := by rw [IntKind.wrap_i64]; have := HM.out; omega
                    have hWR2 : IntKind.i64.wrap (3 + (if (N2 : Int) < 1 then (N2 : Int) else 1)) = (M : Int) := by rw [IntKind.wrap_i64]; have := HM.out; omega
                    have hWR3 : IntKind.i64.wrap ((if (N : Int) < 3 then (N : Int) else 3) + (N2 : Int)) = (M : Int) := by rw [IntKind.wrap_i64]; have := HM.out; omega
                    have hWR4 : IntKind.i64.wrap ((if (N : Int) < 3 then (N : Int) else 3) + (if (N2 : Int) < 1 then (N2 : Int) else 1)) = (M : Int) := by rw [IntKind.wrap_i64]; have := HM.out; omega
                    go_wp2_with fail
                    go_region_held3 (fun W => W.cell? ⟨w.heap.size, 0, none⟩ = some (.slice A n ca) ∧ W.cell? ⟨w.heap.size, 1, none⟩ = some (.slice B m cb) ∧ W.cell? ⟨w.heap.size, 2, none⟩ = some (.int .i64 off) ∧ W.cell? ⟨X7, 0, none⟩ = some (.int .i64 (N : Nat)) ∧ W.cell? ⟨X5, 0, none⟩ = some (.slice LA N p3) ∧ W.cell? ⟨X10, 0, none⟩ = some (.int .i64 (M : Nat)))
                      (first | exact ⟨c0, c1, c2, k7, k5, k10⟩ | exact heldE (HSD.out.ba.drew.below' HBA.out) (H7D.out.drew.below' HBA.out) (HSD.out.b5.drew.below' HBA.out) (HG2.out.drew.below' HBA.out) | exact heldE ((HSD.out.ba.drew.below' HBA.out).far (p := ⟨w.heap.size + 1 + 1, 0, none⟩) ne0 _) ((H7D.out.drew.below' HBA.out).far (p := ⟨w.heap.size + 1 + 1, 0, none⟩) ne7 _) ((HSD.out.b5.drew.below' HBA.out).far (p := ⟨w.heap.size + 1 + 1, 0, none⟩) ne5 _) ((HG2.out.drew.below' HBA.out).far (p := ⟨w.heap.size + 1 + 1, 0, none⟩) ne10 _))
                      ((go_at_call 11; refine (HCA.out _ (bl_drew HSD.out.below)).mono ?_; rintro e wC ⟨⟨A', c', rfl, hrr⟩, hBA, hBA2⟩; clear hrr; have k4 := (HSD.out.br.drew.below' hBA).cell 0; have k4f := (HSD.out.br.drew.below' hBA).frozen 0; have HBA := Lib.hid hBA; have HBA2 := Lib.hid hBA2; clear hBA hBA2))
                    all_goals
                      rename_i K5 hK5 hHeld
                      obtain ⟨z3, z2, z1, zc, zb⟩ := fin_three HSD.out.br HKD.out HG4.out HG5.out HBA.out HBA2.out HD1w.out hl2 hl3 n12 n13 n23 (by omega)
                      exact hK5 _ _ (wp_ret (pairs_end z3 z2 z1 rfl zc ⟨rfl, zb⟩))
                  · have hWR1 : IntKind.i64.wrap (3 + 1) = (M : Int) := by rw [IntKind.wrap_i64]; have := HM.out; omega
                    have hWR2 : IntKind.i64.wrap (3 + (if (N2 : Int) < 1 then (N2 : Int) else 1)) = (M : Int) := by rw [IntKind.wrap_i64]; have := HM.out; omega
                    have hWR3 : IntKind.i64.wrap ((if (N : Int) < 3 then (N : Int) else 3) + 1) = (M : Int) := by rw [IntKind.wrap_i64]; have := HM.out; omega
                    have hWR4 : IntKind.i64.wrap ((if (N : Int) < 3 then (N : Int) else 3) + (if (N2 : Int) < 1 then (N2 : Int) else 1)) = (M : Int) := by rw [IntKind.wrap_i64]; have := HM.out; omega
                    go_wp2_with fail
                    go_region_held3 (fun W => W.cell? ⟨w.heap.size, 0, none⟩ = some (.slice A n ca) ∧ W.cell? ⟨w.heap.size, 1, none⟩ = some (.slice B m cb) ∧ W.cell? ⟨w.heap.size, 2, none⟩ = some (.int .i64 off) ∧ W.cell? ⟨X7, 0, none⟩ = some (.int .i64 (N : Nat)) ∧ W.cell? ⟨X5, 0, none⟩ = some (.slice LA N p3) ∧ W.cell? ⟨X10, 0, none⟩ = some (.int .i64 (M : Nat)))
                      (first | exact ⟨c0, c1, c2, k7, k5, k10⟩ | exact heldE (HSD.out.ba.drew.below' HBA.out) (H7D.out.drew.below' HBA.out) (HSD.out.b5.drew.below' HBA.out) (HG2.out.drew.below' HBA.out) | exact heldE ((HSD.out.ba.drew.below' HBA.out).far (p := ⟨w.heap.size + 1 + 1, 0, none⟩) ne0 _) ((H7D.out.drew.below' HBA.out).far (p := ⟨w.heap.size + 1 + 1, 0, none⟩) ne7 _) ((HSD.out.b5.drew.below' HBA.out).far (p := ⟨w.heap.size + 1 + 1, 0, none⟩) ne5 _) ((HG2.out.drew.below' HBA.out).far (p := ⟨w.heap.size + 1 + 1, 0, none⟩) ne10 _))
                      ((go_at_call 11; refine (HCA.out _ (bl_drew HSD.out.below)).mono ?_; rintro e wC ⟨⟨A', c', rfl, hrr⟩, hBA, hBA2⟩; clear hrr; have k4 := (HSD.out.br.drew.below' hBA).cell 0; have k4f := (HSD.out.br.drew.below' hBA).frozen 0; have HBA := Lib.hid hBA; have HBA2 := Lib.hid hBA2; clear hBA hBA2))
                    all_goals
                      rename_i K5 hK5 hHeld
                      obtain ⟨z3, z2, z1, zc, zb⟩ := fin_three HSD.out.br HKD.out HG4.out HG5.out HBA.out HBA2.out HD1w.out hl2 hl3 n12 n13 n23 (by omega)
                      exact hK5 _ _ (wp_ret (pairs_end z3 z2 z1 rfl zc ⟨rfl, zb⟩))
              refine (wpIn_wide (n := 5)).1 ?_
              refine wpIn_rangeFunc_at (n := 5) rfl (by omega) rfl trivial (fun _ _ => rfl) HSEQ.out (fun h k => h.trans k) (fun G W l o o' h _ _ _ _ => KpG.put W l o' h) (Below.refl _ _) (fun _ => rfl) (fun G k W => Blk W X10 3 #[.int .i64 (min 3 N : Nat)] ∧ Below W10.heap.size W10 W ∧ W.heap[D2]? = some (.deferred (some [])) ∧ k = 0) (fun G c k W => Blk W X10 3 #[.int .i64 (min 3 N + 1 : Nat)] ∧ Below W10.heap.size W10 W ∧ W.heap[D2]? = some (.deferred (some [])) ∧ 0 < k ∧ c = .exit 4)
                (fun G k X Y hG h hd => ⟨hd.blk h.1 (fun g => by have := hG _ g; have := HX13.out; have := H14.out.size; omega), h.2.1.trans ⟨hd.os, hd.tape, hd.output, hd.size, fun j hj => hd.low j (by have := HX13.out; have := H14.out.size; have := HX10.out; omega)⟩, (hd.low _ (by have := (Array.getElem?_eq_some_iff.1 HQ4.out).1; have := H14.out.size; omega)).trans h.2.2.1, h.2.2.2⟩)
                (fun c G k X Y hG h hd => ⟨hd.blk h.1 (fun g => by have := hG _ g; have := HX13.out; have := H14.out.size; omega), h.2.1.trans ⟨hd.os, hd.tape, hd.output, hd.size, fun j hj => hd.low j (by have := HX13.out; have := H14.out.size; have := HX10.out; omega)⟩, (hd.low _ (by have := (Array.getElem?_eq_some_iff.1 HQ4.out).1; have := H14.out.size; omega)).trans h.2.2.1, h.2.2.2⟩)
                (fun G W1 hb hG => ⟨HQ1.out.below' (bl_then H14.out hb), bl_then HQ2.out (bl_then H14.out hb), ((bl_then H14.out hb).block _ (Array.getElem?_eq_some_iff.1 HQ4.out).1).trans HQ4.out, rfl⟩)
                (fun k => { tmps := #[.agg #[.slice A n ca, .slice B m cb, .int .i64 off], .agg #[.slice C n2 cc, .slice D m2 cd, .int .i64 off2], .pointer (some ⟨w.heap.size, 0, none⟩), .pointer (some ⟨w.heap.size + 1, 0, none⟩), .pointer (some ⟨w.heap.size + 1 + 1, 0, none⟩), .pointer (some ⟨X5, 0, none⟩), .pointer (some ⟨X6, 0, none⟩), .pointer (some ⟨X7, 0, none⟩), undef, undef, .pointer (some ⟨X10, 0, none⟩), u11, u12, u13, u14, u15, u16, u17, u18, u19, u20, u21, u22, u23, u24, u25, u26, u27, u28, u29, u30, u31, u32, u33, u34, u35, u36, u37, u38, u39, u40, u41, u42, u43, .agg #[.slice A n ca, .slice B m cb, .int .i64 off], .agg #[.slice A n ca, .slice B m cb, .int .i64 off], .agg #[.slice C n2 cc, .slice D m2 cd, .int .i64 off2], .agg #[.slice C n2 cc, .slice D m2 cd, .int .i64 off2], .func (.func 55) #[] #[.pointer (some ⟨B1, 0, none⟩), .pointer (some ⟨B1 + 1, 0, none⟩)], undef, undef, undef, undef, undef, undef, undef, undef, undef, undef, undef, undef, undef, undef, undef, undef, undef, undef, undef, undef, undef, undef, undef, undef, .agg #[.slice A n ca, .slice B m cb, .int .i64 off], .agg #[.slice A n ca, .slice B m cb, .int .i64 off], .agg #[.slice C n2 cc, .slice D m2 cd, .int .i64 off2], .agg #[.slice C n2 cc, .slice D m2 cd, .int .i64 off2], .func (.func 55) #[] #[.pointer (some ⟨B2, 0, none⟩), .pointer (some ⟨B2 + 1, 0, none⟩)], undef, undef, undef, undef, undef, undef, .agg #[.slice A n ca, .slice B m cb, .int .i64 off], .agg #[.slice A n ca, .slice B m cb, .int .i64 off], .func (.func 57) #[] #[.pointer (some ⟨B3, 0, none⟩)], .int .i64 (plO (shpN xs ys off) (strN xs ys off) (offN xs ys off) k), undef, undef, undef, undef, undef, undef, undef, undef, undef, undef, undef, undef, undef, undef, undef, undef, undef], defers := [] }) ?assign3 ?body3 ?done3 ?stop3
              case assign3 =>
                intro l k W K hK
                gi_wp2
                exact hK
              case body3 =>
                rintro l k G W hG hsz ⟨h1, h2, h3, rfl⟩ hk
                generalize hM : min 3 N = M at *
                have e10 : W.cell? ⟨X10, 0, none⟩ = some (.int .i64 (M : Nat)) := h1.cell 0
                have e10f := h1.frozen 0
                generalize plO (shpN xs ys off) (strN xs ys off) (offN xs ys off) 0 = z1 at *
                have hN4 : (M : Int) ≤ 3 := by omega
                have H1 := Lib.hid h1
                have H2 := Lib.hid h2
                have H3 := Lib.hid h3
                have HG := Lib.hid hG
                clear h1 h2 h3 hG hsz HSEQ HREST hM
                gi_wp2
                exact ⟨(KeepsOthers.setCell _ _ _).from _, H1.out.one _, bl_set (p := ⟨X10, 0, none⟩) H2.out (by rw [HX10.out]; exact Nat.le_refl _) _, (Below.heap_setCell _ _ _ _ (by have := HQ3.out; show D2 ≠ X10; omega)).trans H3.out, by omega, rfl⟩
              case done3 =>
                rintro D3 G W hD hG ⟨h1, h2, h3, h4⟩ hK5
                refine HREST D3 W hD ?_ h2 h3 hK5
                rw [show min 1 N2 = 0 by omega]
                exact h1
              case stop3 =>
                rintro D3 c G k W hD hG hk ⟨h1, h2, h3, h4, rfl⟩ hK5
                have HR := HREST D3 W hD (by rw [show min 1 N2 = 1 by omega]; exact h1) h2 h3 hK5
                clear hK5 h1 h2 h3 HREST hK4
                gi_wp2
                exact HR
            · clear hPB hHeld hK2 hK3
              refine (wpIn_wide (n := 5)).1 ?_
              refine wpIn_block ?_
              refine wpIn_rangeFunc_at (n := 5) rfl (by omega) rfl trivial (fun _ _ => rfl) HSEQ.out (fun h k => h.trans k) (fun G W l o o' h _ _ _ _ => KpG.put W l o' h) (Below.refl _ _) (fun _ => rfl) (fun G k W => Blk W X10 3 #[.int .i64 (k : Nat)] ∧ Below W10.heap.size W10 W ∧ k < 3) (fun G c k W => Blk W X10 3 #[.int .i64 (k : Nat)] ∧ Below W10.heap.size W10 W ∧ k = 3 ∧ c = .exit 2)
                (fun G k X Y hG h hd => ⟨hd.blk h.1 (fun g => by have := hG _ g; have := HS12.out; omega), h.2.1.trans ⟨hd.os, hd.tape, hd.output, hd.size, fun j hj => hd.low j (by have := HS12.out; have := HX10.out; omega)⟩, h.2.2⟩)
                (fun c G k X Y hG h hd => ⟨hd.blk h.1 (fun g => by have := hG _ g; have := HS12.out; omega), h.2.1.trans ⟨hd.os, hd.tape, hd.output, hd.size, fun j hj => hd.low j (by have := HS12.out; have := HX10.out; omega)⟩, h.2.2⟩)
                (fun G W1 hb hG => ⟨H12.out.below' hb, bl_then H1012.out hb, by omega⟩)
                (fun k => { tmps := #[.agg #[.slice A n ca, .slice B m cb, .int .i64 off], .agg #[.slice C n2 cc, .slice D m2 cd, .int .i64 off2], .pointer (some ⟨w.heap.size, 0, none⟩), .pointer (some ⟨w.heap.size + 1, 0, none⟩), .pointer (some ⟨w.heap.size + 1 + 1, 0, none⟩), .pointer (some ⟨X5, 0, none⟩), .pointer (some ⟨X6, 0, none⟩), .pointer (some ⟨X7, 0, none⟩), undef, undef, .pointer (some ⟨X10, 0, none⟩), u11, u12, u13, u14, u15, u16, u17, u18, u19, u20, u21, u22, u23, u24, u25, u26, u27, u28, u29, u30, u31, u32, u33, u34, u35, u36, u37, u38, u39, u40, u41, u42, u43, .agg #[.slice A n ca, .slice B m cb, .int .i64 off], .agg #[.slice A n ca, .slice B m cb, .int .i64 off], .agg #[.slice C n2 cc, .slice D m2 cd, .int .i64 off2], .agg #[.slice C n2 cc, .slice D m2 cd, .int .i64 off2], .func (.func 55) #[] #[.pointer (some ⟨B1, 0, none⟩), .pointer (some ⟨B1 + 1, 0, none⟩)], undef, undef, undef, undef, undef, undef, undef, undef, undef, undef, undef, undef, undef, undef, undef, undef, undef, undef, undef, undef, undef, undef, undef, undef, .agg #[.slice A n ca, .slice B m cb, .int .i64 off], .agg #[.slice A n ca, .slice B m cb, .int .i64 off], .agg #[.slice C n2 cc, .slice D m2 cd, .int .i64 off2], .agg #[.slice C n2 cc, .slice D m2 cd, .int .i64 off2], .func (.func 55) #[] #[.pointer (some ⟨B2, 0, none⟩), .pointer (some ⟨B2 + 1, 0, none⟩)], .int .i64 (plO xs ys off k), .int .i64 (plO xs2 ys2 off2 k), undef, undef, undef, undef, undef, undef, undef, undef, undef, undef, undef, undef, undef, undef, undef, undef, undef, undef, undef, undef, undef, undef, undef, undef, undef], defers := [] }) ?assign2 ?body2 ?done2 ?stop2
              case assign2 =>
                intro l k W K hK
                gi_wp2
                exact hK
              case body2 =>
                rintro l k G W hG hsz ⟨h1, h2, h3⟩ hk
                have e10 : W.cell? ⟨X10, 0, none⟩ = some (.int .i64 (k : Nat)) := h1.cell 0
                have e10f := h1.frozen 0
                generalize plO xs ys off k = z1 at *
                generalize plO xs2 ys2 off2 k = z2 at *
                have hN4 := HNB.out
                have H1 := Lib.hid h1
                have H2 := Lib.hid h2
                have HG := Lib.hid hG
                clear h1 h2 hG hsz HSEQ
                rcases Nat.lt_or_ge k 2 with h4 | h4
                · have h5 : ¬ ((k : Int) + 1 = 3) := by omega
                  gi_wp2
                  exact ⟨(KeepsOthers.setCell _ _ _).from _, ⟨fun b hb => Below.heap_setCell _ _ _ _ (fun e => by have := (HG.out b hb).1; have := HS12.out; subst e; omega), by simp [World.setCell]⟩, H1.out.one _, bl_set (p := ⟨X10, 0, none⟩) H2.out (by rw [HX10.out]; exact Nat.le_refl _) _, by omega⟩
                · obtain rfl : k = 2 := by omega
                  gi_wp2
                  exact ⟨(KeepsOthers.setCell _ _ _).from _, H1.out.one _, bl_set (p := ⟨X10, 0, none⟩) H2.out (by rw [HX10.out]; exact Nat.le_refl _) _, rfl, rfl⟩
              case done2 =>
                rintro D2 G W hD hG ⟨h1, h2, h3⟩ hK4
                rw [HPB.out]
                refine ⟨rfl, D2, rfl, ?_, h2, by have := HS12.out; omega, hK4⟩
                rw [Nat.min_eq_right (by omega)]
                exact h1
              case stop2 =>
                rintro D2 c G k W hD hG hk ⟨h1, h2, h3, rfl⟩ hK4
                have HK4 := Lib.hid hK4
                have H1 := Lib.hid h1
                have H2 := Lib.hid h2
                clear hK4 h1 h2
                gi_wp2
                rw [HPB.out]
                refine ⟨rfl, D2, rfl, ?_, H2.out, by have := HS12.out; omega, HK4.out⟩
                rw [show min 3 N = k + 1 by omega]
                exact H1.out
          case stop =>
            rintro D c G k W hD hG hk h
            exact h.elim
        · have HI4 := Lib.hid hI
          clear hI hN HCA HCB c0 c1 c2 d0 d1 d2
          obtain ⟨c0, c1, c2⟩ := vcells HI4.out.ba
          cases h1 : vrB xs ys off with
          | false =>
            have HR1' := HR1.out W4 HI4.out.below
            rw [h1] at HR1'
            have HRR := Lib.hid HR1'
            have hN0 : N = 0 := by rw [← HNN.out]; unfold pairsN pairsB; rw [h1]; rfl
            subst hN0
            clear HR1' h1
            go_wp2_with fail
            refine HRR.out.mono ?_
            rintro e W5 ⟨rfl, hB⟩
            have HI5 := Lib.hid (HI4.out.later hB)
            clear hB c0 c1 c2 HI4
            have k5 := HI5.out.b5.cell 0
            have k5f := HI5.out.b5.frozen 0
            have k6 : (W5.setCell ⟨X5, 0, none⟩ (.slice none 0 0)).cell? ⟨X6, 0, none⟩ = _ := (HI5.out.b6.far (p := ⟨X5, 0, none⟩) (Ne.symm HI5.out.ne) (.slice none 0 0)).cell 0
            have k6f : (W5.setCell ⟨X5, 0, none⟩ (.slice none 0 0)).frozen? ⟨X6, 0, none⟩ = false := (HI5.out.b6.far (p := ⟨X5, 0, none⟩) (Ne.symm HI5.out.ne) (.slice none 0 0)).frozen 0
            have hx5 := HI5.out.x5
            have hx6 := HI5.out.x6
            have HSA : Hid (SA xs ys off xs2 ys2 off2 A B C D n ca m cb n2 cc m2 cd w.heap.size X5 X6 0 none none 0 0 w ((W5.setCell ⟨X5, 0, none⟩ (.slice none 0 0)).setCell ⟨X6, 0, none⟩ (.slice none 0 0))) := Lib.hid ⟨(HI5.out.b5.one _).far (show X5 ≠ X6 from HI5.out.ne) _, (HI5.out.b6.far (show X6 ≠ X5 from Ne.symm HI5.out.ne) _).one _, (fun i hi => by simp [lstA] at hi), (fun i hi => by simp [lstA] at hi), bl_set (bl_set HI5.out.below (by show w.heap.size ≤ X5; omega) _) (by show w.heap.size ≤ X6; omega) _,
              (HI5.out.ba.far (by show w.heap.size ≠ X5; omega) _).far (by show w.heap.size ≠ X6; omega) _, (HI5.out.bb.far (by show w.heap.size + 1 ≠ X5; omega) _).far (by show w.heap.size + 1 ≠ X6; omega) _, (HI5.out.br.far (by show w.heap.size + 2 ≠ X5; omega) _).far (by show w.heap.size + 2 ≠ X6; omega) _⟩
            simp only [List.getElem?_toArray, List.getElem?_cons_zero] at k5 k6
            clear hx5 hx6
            go_wp2
            exact ⟨rfl, X5, X6, none, none, 0, 0, _, _, _, _, _, _, _, _, _, _, _, _, _, _, _, _, _, _, _, _, _, _, _, _, _, _, _, _, _, _, _, _, _, HSA.out, rfl⟩
          | true =>
            have HR1' := HR1.out W4 HI4.out.below
            rw [h1] at HR1'
            have HRR := Lib.hid HR1'
            cases h2 : vrB xs2 ys2 off2 with
            | false =>
              have HR2' := HR2.out
              rw [h2] at HR2'
              have HRS := Lib.hid HR2'
              have hN0 : N = 0 := by rw [← HNN.out]; unfold pairsN pairsB; rw [h2]; simp
              subst hN0
              clear HR1' h1 HR2' h2
              go_wp2_with fail
              refine HRR.out.mono ?_
              rintro e W5 ⟨rfl, hB⟩
              have HI5 := Lib.hid (HI4.out.later hB)
              clear hB c0 c1 c2 HI4
              obtain ⟨d0, d1, d2⟩ := vcells HI5.out.bb
              go_wp2_with fail
              refine (HRS.out W5 HI5.out.below).mono ?_
              rintro e W6 ⟨rfl, hB⟩
              have HI6 := Lib.hid (HI5.out.later hB)
              clear hB d0 d1 d2 HI5
              have k5 := HI6.out.b5.cell 0
              have k5f := HI6.out.b5.frozen 0
              have k6 : (W6.setCell ⟨X5, 0, none⟩ (.slice none 0 0)).cell? ⟨X6, 0, none⟩ = _ := (HI6.out.b6.far (p := ⟨X5, 0, none⟩) (Ne.symm HI6.out.ne) (.slice none 0 0)).cell 0
              have k6f : (W6.setCell ⟨X5, 0, none⟩ (.slice none 0 0)).frozen? ⟨X6, 0, none⟩ = false := (HI6.out.b6.far (p := ⟨X5, 0, none⟩) (Ne.symm HI6.out.ne) (.slice none 0 0)).frozen 0
              have hx5 := HI6.out.x5
              have hx6 := HI6.out.x6
              have HSA : Hid (SA xs ys off xs2 ys2 off2 A B C D n ca m cb n2 cc m2 cd w.heap.size X5 X6 0 none none 0 0 w ((W6.setCell ⟨X5, 0, none⟩ (.slice none 0 0)).setCell ⟨X6, 0, none⟩ (.slice none 0 0))) := Lib.hid ⟨(HI6.out.b5.one _).far (show X5 ≠ X6 from HI6.out.ne) _, (HI6.out.b6.far (show X6 ≠ X5 from Ne.symm HI6.out.ne) _).one _, (fun i hi => by simp [lstA] at hi), (fun i hi => by simp [lstA] at hi), bl_set (bl_set HI6.out.below (by show w.heap.size ≤ X5; omega) _) (by show w.heap.size ≤ X6; omega) _,
                (HI6.out.ba.far (by show w.heap.size ≠ X5; omega) _).far (by show w.heap.size ≠ X6; omega) _, (HI6.out.bb.far (by show w.heap.size + 1 ≠ X5; omega) _).far (by show w.heap.size + 1 ≠ X6; omega) _, (HI6.out.br.far (by show w.heap.size + 2 ≠ X5; omega) _).far (by show w.heap.size + 2 ≠ X6; omega) _⟩
              simp only [List.getElem?_toArray, List.getElem?_cons_zero] at k5 k6
              clear hx5 hx6
              go_wp2
              exact ⟨rfl, X5, X6, none, none, 0, 0, _, _, _, _, _, _, _, _, _, _, _, _, _, _, _, _, _, _, _, _, _, _, _, _, _, _, _, _, _, _, _, _, _, HSA.out, rfl⟩
            | true =>
              have HR2' := HR2.out
              rw [h2] at HR2'
              have HRS := Lib.hid HR2'
              cases h3 : decide (xs = xs2) with
              | false =>
                have hN0 : N = 0 := by rw [← HNN.out]; unfold pairsN pairsB; rw [h3]; simp
                subst hN0
                have H3 := Lib.hid h3
                clear HR1' h1 HR2' h2 h3
                go_wp2_with fail
                refine HRR.out.mono ?_
                rintro e W5 ⟨rfl, hB⟩
                have HI5 := Lib.hid (HI4.out.later hB)
                clear hB c0 c1 c2 HI4
                obtain ⟨d0, d1, d2⟩ := vcells HI5.out.bb
                go_wp2_with fail
                refine (HRS.out W5 HI5.out.below).mono ?_
                rintro e W6 ⟨rfl, hB⟩
                have HI6 := Lib.hid (HI5.out.later hB)
                clear hB d0 d1 d2 HI5
                have d0 : W6.cell? ⟨w.heap.size + 1, 0, none⟩ = some (.slice C n2 cc) := HI6.out.bb.cell 0
                have c0 : W6.cell? ⟨w.heap.size, 0, none⟩ = some (.slice A n ca) := HI6.out.ba.cell 0
                go_wp2_with fail
                refine (HIN.out W6 HI6.out.below false H3.out).mono ?_
                rintro e W7 ⟨rfl, hB⟩
                have HI7 := Lib.hid (HI6.out.later hB)
                clear hB d0 c0 HI6
                have k5 := HI7.out.b5.cell 0
                have k5f := HI7.out.b5.frozen 0
                have k6 : (W7.setCell ⟨X5, 0, none⟩ (.slice none 0 0)).cell? ⟨X6, 0, none⟩ = _ := (HI7.out.b6.far (p := ⟨X5, 0, none⟩) (Ne.symm HI7.out.ne) (.slice none 0 0)).cell 0
                have k6f : (W7.setCell ⟨X5, 0, none⟩ (.slice none 0 0)).frozen? ⟨X6, 0, none⟩ = false := (HI7.out.b6.far (p := ⟨X5, 0, none⟩) (Ne.symm HI7.out.ne) (.slice none 0 0)).frozen 0
                have hx5 := HI7.out.x5
                have hx6 := HI7.out.x6
                have HSA : Hid (SA xs ys off xs2 ys2 off2 A B C D n ca m cb n2 cc m2 cd w.heap.size X5 X6 0 none none 0 0 w ((W7.setCell ⟨X5, 0, none⟩ (.slice none 0 0)).setCell ⟨X6, 0, none⟩ (.slice none 0 0))) := Lib.hid ⟨(HI7.out.b5.one _).far (show X5 ≠ X6 from HI7.out.ne) _, (HI7.out.b6.far (show X6 ≠ X5 from Ne.symm HI7.out.ne) _).one _, (fun i hi => by simp [lstA] at hi), (fun i hi => by simp [lstA] at hi), bl_set (bl_set HI7.out.below (by show w.heap.size ≤ X5; omega) _) (by show w.heap.size ≤ X6; omega) _,
                  (HI7.out.ba.far (by show w.heap.size ≠ X5; omega) _).far (by show w.heap.size ≠ X6; omega) _, (HI7.out.bb.far (by show w.heap.size + 1 ≠ X5; omega) _).far (by show w.heap.size + 1 ≠ X6; omega) _, (HI7.out.br.far (by show w.heap.size + 2 ≠ X5; omega) _).far (by show w.heap.size + 2 ≠ X6; omega) _⟩
                simp only [List.getElem?_toArray, List.getElem?_cons_zero] at k5 k6
                clear hx5 hx6
                go_wp2
                exact ⟨rfl, X5, X6, none, none, 0, 0, _, _, _, _, _, _, _, _, _, _, _, _, _, _, _, _, _, _, _, _, _, _, _, _, _, _, _, _, _, _, _, _, _, HSA.out, rfl⟩
              | true =>
                have H3 := Lib.hid h3
                have hxe : xs = xs2 := by simpa using h3
                have hpb : pairsB xs ys off xs2 ys2 off2 = true := by unfold pairsB; rw [h1, h2, h3]; rfl
                have hL1 : lstA xs ys off N = offsL xs ys off := by rw [← HNN.out]; unfold lstA offsL pairsN; rw [if_pos hpb]
                have hc2 : cellsN xs2 ys2 off2 = cellsN xs ys off := by unfold cellsN; rw [if_pos h1, if_pos h2, hxe]
                have hL2 : lstA xs2 ys2 off2 N = offsL xs2 ys2 off2 := by rw [← HNN.out]; unfold lstA offsL pairsN; rw [if_pos hpb, hc2]
                have hl1 : (offsL xs ys off).length = N := by rw [← hL1, lstA_length]
                have hl2 : (offsL xs2 ys2 off2).length = N := by rw [← hL2, lstA_length]
                have HL1 := Lib.hid hL1
                have HL2 := Lib.hid hL2
                have HE1 := Lib.hid hl1
                have HE2 := Lib.hid hl2
                clear HR1' h1 HR2' h2 h3 hxe hpb hL1 hL2 hc2 hl1 hl2
                go_wp2_with fail
                refine HRR.out.mono ?_
                rintro e W5 ⟨rfl, hB⟩
                have HI5 := Lib.hid (HI4.out.later hB)
                clear hB c0 c1 c2 HI4
                obtain ⟨d0, d1, d2⟩ := vcells HI5.out.bb
                go_wp2_with fail
                refine (HRS.out W5 HI5.out.below).mono ?_
                rintro e W6 ⟨rfl, hB⟩
                have HI6 := Lib.hid (HI5.out.later hB)
                clear hB d0 d1 d2 HI5
                have d0 : W6.cell? ⟨w.heap.size + 1, 0, none⟩ = some (.slice C n2 cc) := HI6.out.bb.cell 0
                have c0 : W6.cell? ⟨w.heap.size, 0, none⟩ = some (.slice A n ca) := HI6.out.ba.cell 0
                go_wp2_with fail
                refine (HIN.out W6 HI6.out.below true H3.out).mono ?_
                rintro e W7 ⟨rfl, hB⟩
                have HI7 := Lib.hid (HI6.out.later hB)
                clear hB d0 c0 HI6
                have HSA : Hid (SA xs ys off xs2 ys2 off2 A B C D n ca m cb n2 cc m2 cd w.heap.size X5 X6 N LA LB p1 p2 w W7) := Lib.hid ⟨by rw [← HE1.out]; exact HI7.out.b5, by rw [← HE2.out]; exact HI7.out.b6, by rw [HL1.out]; exact HI7.out.ra, by rw [HL2.out]; exact HI7.out.rb, HI7.out.below, HI7.out.ba, HI7.out.bb, HI7.out.br⟩
                go_wp2
                exact ⟨rfl, X5, X6, LA, LB, p1, p2, _, _, _, _, _, _, _, _, _, _, _, _, _, _, _, _, _, _, _, _, _, _, _, _, _, _, _, _, _, _, _, _, _, HSA.out, rfl⟩
      · refine wp_region_inv (fun L a W => R8 xs ys off xs2 ys2 off2 A B C D n ca m cb n2 cc m2 cd w.heap.size w (L 0) (L 1) (L 2) (L 3) (L 4) (L 5) (L 6) (L 7) a W) rfl (by kernel_rfl) ?_ ?_ ?_
        · intro L a W i o hio hLi hdep hR K hK
          match i, hio with
          | 0, hio =>
            obtain rfl : _ = o := by simpa using hio
            obtain ⟨v24, v25, v26, v27, v5, v6, X5, X6, LA, LB, c1, c2, rfl, hR⟩ := hR
            rw [if_pos (show Region.wanted _ _ = true from rfl)]
            obtain ⟨q0, q1, q2⟩ := vcells hR.ba
            go_simp
            refine hK _ _ ?_
            show R8 xs ys off xs2 ys2 off2 A B C D n ca m cb n2 cc m2 cd w.heap.size w (true) (L 1) (L 2) (L 3) (L 4) (L 5) (L 6) (L 7) _ _
            exact ⟨_, v25, v26, v27, v5, v6, X5, X6, LA, LB, c1, c2, rfl, hR.below, hR.ba, hR.bb, hR.br, fun _ => rfl, hR.k1, hR.k2, hR.k3, hR.k4, hR.k5, hR.k45, hR.d6, hR.d7⟩
          | 1, hio =>
            obtain rfl : _ = o := by simpa using hio
            obtain ⟨v24, v25, v26, v27, v5, v6, X5, X6, LA, LB, c1, c2, rfl, hR⟩ := hR
            rw [if_pos (show Region.wanted _ _ = true from rfl)]
            have e0 := hR.k0 (hdep { on := 0, ground := Ground.data } (by simp) rfl)
            subst e0
            have hb := hR.below
            have h6 : L 6 = false := by
              cases h : L 6 with
              | false => rfl
              | true => have := (hR.d6 h).1; rw [hLi] at this; cases this
            go_simp
            refine (HCA.out W hb).mono ?_
            rintro e wA ⟨⟨LA', c1', rfl, hrA⟩, hBA, hBA2⟩
            refine hK _ _ ?_
            show R8 xs ys off xs2 ys2 off2 A B C D n ca m cb n2 cc m2 cd w.heap.size w (L 0) (true) (L 2) (L 3) (L 4) (L 5) (L 6) (L 7) _ _
            exact ⟨_, _, v26, v27, v5, v6, X5, X6, LA', LB, c1', c2, rfl, hBA2, hR.ba.below' hBA, hR.bb.below' hBA, hR.br.below' hBA, hR.k0, fun _ => ⟨rfl, hrA⟩, hR.k2, fun h => ⟨(hR.k3 h).1, (hR.k3 h).2.below hBA⟩,
              fun h => ⟨(hR.k4 h).1, (hR.k4 h).2.1, by have q := (hR.k4 h).2.2.below' hBA; rw [h6] at q ⊢; exact q⟩, fun h => ⟨(hR.k5 h).1, (hR.k5 h).2.1, (hR.k5 h).2.2.below' hBA⟩, hR.k45, (fun h => by rw [h6] at h; cases h), hR.d7⟩
          | 2, hio =>
            obtain rfl : _ = o := by simpa using hio
            obtain ⟨v24, v25, v26, v27, v5, v6, X5, X6, LA, LB, c1, c2, rfl, hR⟩ := hR
            rw [if_pos (show Region.wanted _ _ = true from rfl)]
            obtain ⟨q0, q1, q2⟩ := vcells hR.bb
            go_simp
            refine hK _ _ ?_
            show R8 xs ys off xs2 ys2 off2 A B C D n ca m cb n2 cc m2 cd w.heap.size w (L 0) (L 1) (true) (L 3) (L 4) (L 5) (L 6) (L 7) _ _
            exact ⟨v24, v25, _, v27, v5, v6, X5, X6, LA, LB, c1, c2, rfl, hR.below, hR.ba, hR.bb, hR.br, hR.k0, hR.k1, fun _ => rfl, hR.k3, hR.k4, hR.k5, hR.k45, hR.d6, hR.d7⟩
          | 3, hio =>
            obtain rfl : _ = o := by simpa using hio
            obtain ⟨v24, v25, v26, v27, v5, v6, X5, X6, LA, LB, c1, c2, rfl, hR⟩ := hR
            rw [if_pos (show Region.wanted _ _ = true from rfl)]
            have e0 := hR.k2 (hdep { on := 2, ground := Ground.data } (by simp) rfl)
            subst e0
            have hb := hR.below
            have h7 : L 7 = false := by
              cases h : L 7 with
              | false => rfl
              | true => have := (hR.d7 h).1; rw [hLi] at this; cases this
            go_simp
            refine (HCB.out W hb).mono ?_
            rintro e wA ⟨⟨LB', c2', rfl, hrA⟩, hBA, hBA2⟩
            refine hK _ _ ?_
            show R8 xs ys off xs2 ys2 off2 A B C D n ca m cb n2 cc m2 cd w.heap.size w (L 0) (L 1) (L 2) (true) (L 4) (L 5) (L 6) (L 7) _ _
            exact ⟨v24, v25, _, _, v5, v6, X5, X6, LA, LB', c1, c2', rfl, hBA2, hR.ba.below' hBA, hR.bb.below' hBA, hR.br.below' hBA, hR.k0, fun h => ⟨(hR.k1 h).1, (hR.k1 h).2.below hBA⟩, hR.k2, fun _ => ⟨rfl, hrA⟩,
              fun h => ⟨(hR.k4 h).1, (hR.k4 h).2.1, (hR.k4 h).2.2.below' hBA⟩, fun h => ⟨(hR.k5 h).1, (hR.k5 h).2.1, by have q := (hR.k5 h).2.2.below' hBA; rw [h7] at q ⊢; exact q⟩, hR.k45, hR.d6, (fun h => by rw [h7] at h; cases h)⟩
          | 4, hio =>
            obtain rfl : _ = o := by simpa using hio
            obtain ⟨v24, v25, v26, v27, v5, v6, X5, X6, LA, LB, c1, c2, rfl, hR⟩ := hR
            rw [if_pos (show Region.wanted _ _ = true from rfl)]
            have h6 : L 6 = false := by
              cases h : L 6 with
              | false => rfl
              | true => have := (hR.d6 h).2; rw [hLi] at this; cases this
            have hlt := hR.br.lt
            have hBA := bl_alloc (Below.refl W.heap.size W) (.cells #[.slice none 0 0] 22)
            go_simp
            refine hK _ _ ?_
            show R8 xs ys off xs2 ys2 off2 A B C D n ca m cb n2 cc m2 cd w.heap.size w (L 0) (L 1) (L 2) (L 3) (true) (L 5) (L 6) (L 7) _ _
            exact ⟨v24, v25, v26, v27, _, v6, W.heap.size, X6, LA, LB, c1, c2, rfl, bl_then hR.below hBA, hR.ba.below' hBA, hR.bb.below' hBA, hR.br.below' hBA, hR.k0, fun h => ⟨(hR.k1 h).1, (hR.k1 h).2.below hBA⟩, hR.k2, fun h => ⟨(hR.k3 h).1, (hR.k3 h).2.below hBA⟩,
              fun _ => ⟨rfl, hlt, by rw [h6]; exact Blk.new _ _ _⟩, fun h => ⟨(hR.k5 h).1, (hR.k5 h).2.1, (hR.k5 h).2.2.below' hBA⟩, (fun _ h => by have := (hR.k5 h).2.2.lt; omega), (fun h => by rw [h6] at h; cases h), hR.d7⟩
          | 5, hio =>
            obtain rfl : _ = o := by simpa using hio
            obtain ⟨v24, v25, v26, v27, v5, v6, X5, X6, LA, LB, c1, c2, rfl, hR⟩ := hR
            rw [if_pos (show Region.wanted _ _ = true from rfl)]
            have h7 : L 7 = false := by
              cases h : L 7 with
              | false => rfl
              | true => have := (hR.d7 h).2; rw [hLi] at this; cases this
            have hlt := hR.br.lt
            have hBA := bl_alloc (Below.refl W.heap.size W) (.cells #[.slice none 0 0] 22)
            go_simp
            refine hK _ _ ?_
            show R8 xs ys off xs2 ys2 off2 A B C D n ca m cb n2 cc m2 cd w.heap.size w (L 0) (L 1) (L 2) (L 3) (L 4) (true) (L 6) (L 7) _ _
            exact ⟨v24, v25, v26, v27, v5, _, X5, W.heap.size, LA, LB, c1, c2, rfl, bl_then hR.below hBA, hR.ba.below' hBA, hR.bb.below' hBA, hR.br.below' hBA, hR.k0, fun h => ⟨(hR.k1 h).1, (hR.k1 h).2.below hBA⟩, hR.k2, fun h => ⟨(hR.k3 h).1, (hR.k3 h).2.below hBA⟩,
              fun h => ⟨(hR.k4 h).1, (hR.k4 h).2.1, (hR.k4 h).2.2.below' hBA⟩, fun _ => ⟨rfl, hlt, by rw [h7]; exact Blk.new _ _ _⟩, (fun h _ => by have := (hR.k4 h).2.2.lt; omega), hR.d6, (fun h => by rw [h7] at h; cases h)⟩
          | 6, hio =>
            obtain rfl : _ = o := by simpa using hio
            obtain ⟨v24, v25, v26, v27, v5, v6, X5, X6, LA, LB, c1, c2, rfl, hR⟩ := hR
            rw [if_pos (show Region.wanted _ _ = true from rfl)]
            have g1 := hdep { on := 1, ground := Ground.data } (by simp) rfl
            have g4 := hdep { on := 4, ground := Ground.data } (by simp) rfl
            obtain ⟨e5, l5, b5⟩ := hR.k4 g4
            obtain ⟨e25, r25⟩ := hR.k1 g1
            rw [hLi] at b5
            subst e5
            subst e25
            have y0 : W.cell? ⟨X5, 0, none⟩ = some (.slice none 0 0) := b5.cell 0
            have y0f := b5.frozen 0
            go_simp
            refine hK _ _ ?_
            show R8 xs ys off xs2 ys2 off2 A B C D n ca m cb n2 cc m2 cd w.heap.size w (L 0) (L 1) (L 2) (L 3) (L 4) (L 5) (true) (L 7) _ _
            exact ⟨v24, _, v26, v27, _, v6, X5, X6, LA, LB, c1, c2, rfl, bl_set hR.below (by have := hR.below.size; show w.heap.size ≤ X5; omega) _, hR.ba.far (by show w.heap.size ≠ X5; omega) _, hR.bb.far (by show w.heap.size + 1 ≠ X5; omega) _, hR.br.far (by show w.heap.size + 2 ≠ X5; omega) _, hR.k0, fun h => ⟨rfl, reads_cell r25 b5 _⟩, hR.k2, fun h => ⟨(hR.k3 h).1, reads_cell (hR.k3 h).2 b5 _⟩,
              fun h => ⟨rfl, l5, b5.one _⟩, fun h => ⟨(hR.k5 h).1, (hR.k5 h).2.1, (hR.k5 h).2.2.far (Ne.symm (hR.k45 g4 h)) _⟩, hR.k45, fun _ => ⟨g1, g4⟩, hR.d7⟩
          | 7, hio =>
            obtain rfl : _ = o := by simpa using hio
            obtain ⟨v24, v25, v26, v27, v5, v6, X5, X6, LA, LB, c1, c2, rfl, hR⟩ := hR
            rw [if_pos (show Region.wanted _ _ = true from rfl)]
            have g3 := hdep { on := 3, ground := Ground.data } (by simp) rfl
            have g5 := hdep { on := 5, ground := Ground.data } (by simp) rfl
            obtain ⟨e5, l5, b5⟩ := hR.k5 g5
            obtain ⟨e25, r25⟩ := hR.k3 g3
            rw [hLi] at b5
            subst e5
            subst e25
            have y0 : W.cell? ⟨X6, 0, none⟩ = some (.slice none 0 0) := b5.cell 0
            have y0f := b5.frozen 0
            go_simp
            refine hK _ _ ?_
            show R8 xs ys off xs2 ys2 off2 A B C D n ca m cb n2 cc m2 cd w.heap.size w (L 0) (L 1) (L 2) (L 3) (L 4) (L 5) (L 6) (true) _ _
            exact ⟨v24, v25, v26, _, v5, _, X5, X6, LA, LB, c1, c2, rfl, bl_set hR.below (by have := hR.below.size; show w.heap.size ≤ X6; omega) _, hR.ba.far (by show w.heap.size ≠ X6; omega) _, hR.bb.far (by show w.heap.size + 1 ≠ X6; omega) _, hR.br.far (by show w.heap.size + 2 ≠ X6; omega) _, hR.k0, fun h => ⟨(hR.k1 h).1, reads_cell (hR.k1 h).2 b5 _⟩, hR.k2, fun h => ⟨rfl, reads_cell r25 b5 _⟩,
              fun h => ⟨(hR.k4 h).1, (hR.k4 h).2.1, (hR.k4 h).2.2.far (hR.k45 h g5) _⟩, fun h => ⟨rfl, l5, b5.one _⟩, hR.k45, hR.d6, fun _ => ⟨g3, g5⟩⟩
          | k + 8, hio => simp at hio
        · intro L a W hall hR
          obtain ⟨v24, v25, v26, v27, v5, v6, X5, X6, LA, LB, c1, c2, rfl, hR⟩ := hR
          have f0 := hall 0 (by simp)
          have f1 := hall 1 (by simp)
          have f2 := hall 2 (by simp)
          have f3 := hall 3 (by simp)
          have f4 := hall 4 (by simp)
          have f5 := hall 5 (by simp)
          have f6 := hall 6 (by simp)
          have f7 := hall 7 (by simp)
          obtain ⟨e5, l5, b5⟩ := hR.k4 f4
          obtain ⟨e6, l6, b6⟩ := hR.k5 f5
          obtain ⟨e25, r25⟩ := hR.k1 f1
          obtain ⟨e27, r27⟩ := hR.k3 f3
          have e24 := hR.k0 f0
          have e26 := hR.k2 f2
          rw [f6] at b5
          rw [f7] at b6
          subst e5; subst e6; subst e25; subst e27; subst e24; subst e26
          exact ⟨rfl, X5, X6, LA, LB, c1, c2, ⟨b5, b6, r25, r27, l5, l6, hR.k45 f4 f5, hR.below, hR.ba, hR.bb, hR.br⟩, rfl⟩
        · exact ⟨undef, undef, undef, undef, undef, undef, 0, 0, none, none, 0, 0, rfl, bl_drew HB3.out, HA3.out, HBB3.out, HR3.out, (fun h => by cases h), (fun h => by cases h), (fun h => by cases h), (fun h => by cases h), (fun h => by cases h), (fun h => by cases h), (fun h => by cases h), (fun h => by cases h), (fun h => by cases h)⟩
end Go.Proofs.Ythjkeefdeeljoaa.Shp
