/- Contracts of order.Merge and of the document's Merge. -/
import Derived.Test.YteppcfikalonbaaOrdFind
import Derived.Deep.RegionHeld3
import Derived.Deep.RegionLaw
namespace Go.Proofs.Yteppcfikalonbaa.Ord
open Go.RowKit
set_option linter.unusedVariables false
set_option linter.unusedSimpArgs false

/-- Slices of numbers that lie below B, whatever happens from B on. -/
theorem ReadsI.tail {w : World} {k : IntKind} {A A' : Option Addr} {x : Int} {xs : List Int} (h : ReadsI w k A (x :: xs)) (h' : ∀ b off, A = some ⟨b, off, none⟩ → 0 < xs.length → A' = some ⟨b, off + 1, none⟩) : ReadsI w k A' xs := fun i hi => by
  obtain ⟨b, off, e, _⟩ := h 0 (by simp)
  obtain ⟨b2, off2, e2, hc⟩ := h (i + 1) (by simpa using hi)
  rw [e] at e2
  injection e2 with e2
  injection e2 with e3 e4
  subst e3
  subst e4
  refine ⟨b, off + 1, h' b off e (by omega), ?_⟩
  rw [nth_cons_succ] at hc
  rwa [show off + 1 + i = off + (i + 1) by omega]

/-- Of what lay below 'base' only blocks c and d may have turned. -/
structure KeptTwo (w w' : World) (base c d : Nat) : Prop where
  os : w'.os = w.os
  tape : w'.tape = w.tape
  output : w'.output = w.output
  size : w.heap.size ≤ w'.heap.size
  block : ∀ k, k < base → k ≠ c → k ≠ d → w'.heap[k]? = w.heap[k]?
theorem KeptTwo.set {w w' : World} {base c d : Nat} (h : KeptTwo w w' base c d) (b : Nat) (hb : b = c ∨ b = d) (o : Nat) (v : Value) : KeptTwo w (w'.setCell ⟨b, o, none⟩ v) base c d :=
  ⟨h.os, h.tape, h.output, by rw [show (w'.setCell ⟨b, o, none⟩ v).heap.size = w'.heap.size by simp [World.setCell]]; exact h.size,
    fun k hk h1 h2 => (Below.heap_setCell _ _ _ _ (by show k ≠ b; omega)).trans (h.block k hk h1 h2)⟩
theorem KeptTwo.below {w0 w w' : World} {base c d : Nat} (h : KeptTwo w w' base c d) (hb : Below w0.heap.size w0 w) (hc : w0.heap.size ≤ c) (hd : w0.heap.size ≤ d) (hbase : w0.heap.size ≤ base) : Below w0.heap.size w0 w' :=
  ⟨h.os.trans hb.os, h.tape.trans hb.tape, h.output.trans hb.output, Nat.le_trans hb.size h.size, fun k hk => (h.block k (by omega) (by omega) (by omega)).trans (hb.block k hk)⟩

set_option maxHeartbeats 4000000 in
set_option maxRecDepth 100000 in
theorem next_calls (x : Int) (xs os : List Int) (A : Option Addr) (ca : Nat) (w : World) (base bl bo : Nat) (ov : Value)
    (c1 : w.cell? ⟨bl, 0, none⟩ = some (.slice A (xs.length + 1) ca)) (c2 : w.cell? ⟨bo, 0, none⟩ = some ov) (f1 : w.frozen? ⟨bl, 0, none⟩ = false) (f2 : w.frozen? ⟨bo, 0, none⟩ = false) (hx : ReadsI w .i64 A (x :: xs)) (ho : OwnI w base 3 .i64 ov os)
    (hA : ∀ b off, A = some ⟨b, off, none⟩ → b < base ∧ b ≠ bl ∧ b ≠ bo) (hbl : bl < base) (hbo : bo < base) (hne : bl ≠ bo) (hbase : base ≤ w.heap.size) (hca : xs.length + 1 ≤ ca) (hlo : os.length ≤ 10000000) (hlx : xs.length ≤ 10000000) :
    Calls Try.prog 29 #[.pointer (some ⟨bl, 0, none⟩), .pointer (some ⟨bo, 0, none⟩)] w fun e w' => e = .returned (.tuple #[]) ∧ KeptTwo w w' base bl bo ∧
      (∃ A' ca', w'.cell? ⟨bl, 0, none⟩ = some (.slice A' xs.length ca') ∧ xs.length ≤ ca' ∧ ∀ b off, A = some ⟨b, off, none⟩ → 0 < xs.length → A' = some ⟨b, off + 1, none⟩) ∧ (∃ ov', w'.cell? ⟨bo, 0, none⟩ = some ov' ∧ OwnI w' base 3 .i64 ov' (os ++ [x])) ∧
      w'.frozen? ⟨bl, 0, none⟩ = false ∧ w'.frozen? ⟨bo, 0, none⟩ = false := by
  obtain ⟨b, off, rfl, hc⟩ := hx 0 (by simp)
  rw [Nat.add_zero, nth_cons_zero] at hc
  obtain ⟨hbb, hbn1, hbn2⟩ := hA b off rfl
  have hown : w.ownsRow base 3 1 ov os.length (os.map (Value.int .i64)) := ho
  obtain ⟨i0, hi0, hzz⟩ := Option.map_eq_some_iff.1 info_int
  simp only [Prod.mk.injEq] at hzz
  obtain ⟨hz0, hz1, hz2⟩ := hzz
  have ag : ov.ownBlock ≠ some bo := fun h => by have := (own_lt hown _ h).1; omega
  have al : ov.ownBlock ≠ some bl := fun h => by have := (own_lt hown _ h).1; omega
  have ab : ov.ownBlock ≠ some b := fun h => by have := (own_lt hown _ h).1; omega
  obtain ⟨A', c', hsl, hc', hA'⟩ := run_tail (P := Try.prog) (T := 22) (E := 3) Try.underlying22 Try.sizeOf3 (some ⟨b, off, none⟩) xs.length ca hca
  have l1 : bo < w.heap.size := by omega
  have l2 : bl < w.heap.size := by omega
  have l3 : b < w.heap.size := by omega
  have HOWN := Lib.hid hown
  have HA' := Lib.hid hA'
  clear ho hown hA hA' hx
  go_enter Try.func29, Try.ntmps29
  go_wp2_with fail
  go_region_law (first
    | (refine step_append_lies _ (by rfl) _ _ _ (by rfl) base 3 i0 (.int .i64 0) 1 8 Try.underlying22 hi0 hz0 hz1 hz2 rfl (by omega) ov os.length (os.map (Value.int .i64)) (by rfl) ((HOWN.out.alloc _).drew) ⟨w.heap.size, 0, none⟩ 1 1 [.int .i64 x] (by rfl) (by rfl) (World.news_of_block (cs := #[.int .i64 x]) (t := 3) (fr := (0, 0)) (heap_alloc_new w _)) (by simp [Value.oneCell']) (by omega) (by simp only [maxLen]; omega) (by omega) (by simp; omega) (w.heap.size + 1) (by simp) ?_; intro gg cap w1 hown1 hgrow hat hlt; have cz1 : w1.cell? ⟨bo, 0, none⟩ = some ov := (hgrow.cell_far _ (by simp; omega) (Ne.symm ag)).trans ((World.cell?_alloc_past _ _ _ (by omega)).trans c2); have fz1 : w1.frozen? ⟨bo, 0, none⟩ = false := (hgrow.frozen_far _ (by simp; omega) (Ne.symm ag)).trans ((World.frozen?_alloc_past _ _ _ (by omega)).trans f2)))
  all_goals
    have cb1 : w1.cell? ⟨bl, 0, none⟩ = some (.slice (some ⟨b, off, none⟩) (xs.length + 1) ca) := (hgrow.cell_far _ (by simp; omega) (Ne.symm al)).trans ((World.cell?_alloc_past _ _ _ l2).trans c1)
    have fb1 : w1.frozen? ⟨bl, 0, none⟩ = false := (hgrow.frozen_far _ (by simp; omega) (Ne.symm al)).trans ((World.frozen?_alloc_past _ _ _ l2).trans f1)
    have hk1 : KeptTwo w w1 base bl bo := ⟨hgrow.os, hgrow.tape, hgrow.output, by have := hgrow.size; simp at this; omega, fun k hk _ _ => (hgrow.block k (by simp; omega) (fun e => by have := (own_lt HOWN.out k e.symm).1; omega)).trans (Below.heap_alloc w _ k (by omega))⟩
    have hneA : (⟨bo, 0, none⟩ : Addr) ≠ ⟨bl, 0, none⟩ := by intro e; injection e; omega
    have hneB : (⟨bl, 0, none⟩ : Addr) ≠ ⟨bo, 0, none⟩ := by intro e; injection e; omega
    obtain ⟨w2, hw2⟩ : ∃ w2 : World, w2 = w1.setCell ⟨bo, 0, none⟩ (.slice (some ⟨gg, 0, none⟩) (os.length + 1) cap) := ⟨_, rfl⟩
    rw [← hw2]
    have cl2 : w2.cell? ⟨bl, 0, none⟩ = some (.slice (some ⟨b, off, none⟩) (xs.length + 1) ca) := by rw [hw2, World.cell?_setCell_other _ _ _ _ hneA]; exact cb1
    have fl2 : w2.frozen? ⟨bl, 0, none⟩ = false := by rw [hw2, World.frozen?_setCell]; exact fb1
    have co2 : w2.cell? ⟨bo, 0, none⟩ = some (.slice (some ⟨gg, 0, none⟩) (os.length + 1) cap) := by rw [hw2]; exact World.cell?_setCell_same _ _ _ cz1
    have fo2 : w2.frozen? ⟨bo, 0, none⟩ = false := by rw [hw2, World.frozen?_setCell]; exact fz1
    have hk2 : KeptTwo w w2 base bl bo := by rw [hw2]; exact hk1.set bo (.inr rfl) _ _
    have ho2 : OwnI w2 base 3 .i64 (.slice (some ⟨gg, 0, none⟩) (os.length + 1) cap) (os ++ [x]) := by
      have h := OwnI.snoc hown1
      rw [hw2]
      exact ownsRow_setCell_below h hbo _
    have HK2 := Lib.hid hk2
    have HO2 := Lib.hid ho2
    have HCO := Lib.hid co2
    have HFO := Lib.hid fo2
    clear hw2 hk1 hk2 ho2 cz1 fz1 cb1 fb1 hown1 hgrow hat hlt co2 fo2
    go_wp2_with fail
    go_end0
    refine ⟨rfl, HK2.out.set bl (.inl rfl) _ _, ⟨A', c', World.cell?_setCell_same _ _ _ cl2, hc', HA'.out⟩, ⟨_, (World.cell?_setCell_other _ _ _ _ hneB).trans HCO.out, ownsRow_setCell_below HO2.out hbl _⟩, (World.frozen?_setCell _ _ _ _).trans fl2, (World.frozen?_setCell _ _ _ _).trans HFO.out⟩
end Go.Proofs.Yteppcfikalonbaa.Ord
