/- Words on memory: what a call wrote (one piece of one block), and rows of places. -/
import Derived.Test.YthjkeefdeeljoaaBase
import Derived.BigRegion
import Derived.RegionTactic
import Derived.ChangeAlike
import Derived.Deep.LoopGhost
import Derived.Deep.RegionWith
import Derived.Shelf.Abstract
namespace Go.Proofs.Ythjkeefdeeljoaa
open Go.RowKit

/-- Between two worlds nothing was laid, and only cells lo .. hi - 1 of block b were written. -/
structure Wrote (w w' : World) (b lo hi : Nat) : Prop where
  os : w'.os = w.os
  tape : w'.tape = w.tape
  output : w'.output = w.output
  size : w'.heap.size = w.heap.size
  other : ∀ k, k ≠ b → w'.heap[k]? = w.heap[k]?
  cells : ∀ o, (o < lo ∨ hi ≤ o) → w'.cell? ⟨b, o, none⟩ = w.cell? ⟨b, o, none⟩
  frozen : ∀ o, w'.frozen? ⟨b, o, none⟩ = w.frozen? ⟨b, o, none⟩
section
variable {w w' w'' : World} {b lo hi : Nat}
theorem Wrote.refl (w : World) (b lo hi : Nat) : Wrote w w b lo hi := ⟨rfl, rfl, rfl, rfl, fun _ _ => rfl, fun _ _ => rfl, fun _ => rfl⟩
theorem Wrote.trans (h : Wrote w w' b lo hi) (k : Wrote w' w'' b lo hi) : Wrote w w'' b lo hi :=
  ⟨k.os.trans h.os, k.tape.trans h.tape, k.output.trans h.output, k.size.trans h.size, fun j hj => (k.other j hj).trans (h.other j hj), fun o ho => (k.cells o ho).trans (h.cells o ho), fun o => (k.frozen o).trans (h.frozen o)⟩
theorem Wrote.wide (h : Wrote w w' b lo hi) {lo' hi' : Nat} (h1 : lo' ≤ lo) (h2 : hi ≤ hi') : Wrote w w' b lo' hi' :=
  ⟨h.os, h.tape, h.output, h.size, h.other, fun o ho => h.cells o (by omega), h.frozen⟩
theorem Wrote.drew (h : Wrote w w' b lo hi) : Wrote w w'.drew b lo hi := ⟨h.os, h.tape, h.output, h.size, h.other, h.cells, h.frozen⟩
theorem Wrote.drewN (h : Wrote w w' b lo hi) (n : Nat) : Wrote w (w'.drewN n) b lo hi := ⟨h.os, h.tape, h.output, h.size, h.other, h.cells, h.frozen⟩
theorem Wrote.of_drewN (n : Nat) (h : Wrote (w.drewN n) w' b lo hi) : Wrote w w' b lo hi := ⟨h.os, h.tape, h.output, h.size, h.other, h.cells, h.frozen⟩
theorem Wrote.set (h : Wrote w w' b lo hi) (o : Nat) (v : Value) (h1 : lo ≤ o) (h2 : o < hi) : Wrote w (w'.setCell ⟨b, o, none⟩ v) b lo hi :=
  ⟨h.os, h.tape, h.output, by rw [show (w'.setCell ⟨b, o, none⟩ v).heap.size = w'.heap.size by simp [World.setCell]]; exact h.size,
    fun k hk => (Below.heap_setCell _ _ _ _ hk).trans (h.other k hk),
    fun p hp => by rw [World.cell?_setCell_other _ _ _ _ (by intro e; injection e; omega)]; exact h.cells p hp,
    fun p => by rw [World.frozen?_setCell]; exact h.frozen p⟩
theorem Wrote.below (h : Wrote w w' b lo hi) {B : Nat} (hb : B ≤ b) : Below B w w' := ⟨h.os, h.tape, h.output, Nat.le_of_eq h.size.symm, fun k hk => h.other k (by omega)⟩
theorem Wrote.cell_other (h : Wrote w w' b lo hi) {a : Addr} (ha : a.block ≠ b) : w'.cell? a = w.cell? a := World.cell?_of_block (h.other _ ha)
theorem Wrote.frozen_other (h : Wrote w w' b lo hi) {a : Addr} (ha : a.block ≠ b) : w'.frozen? a = w.frozen? a := World.frozen?_of_block (h.other _ ha)
end

/-- Cells off .. of block b hold these places, and may be written. -/
def RowN (w : World) (b off : Nat) (xs : List Nat) : Prop :=
  ∀ i, i < xs.length → w.cell? ⟨b, off + i, none⟩ = some (.int .i64 (nth xs i : Nat)) ∧ w.frozen? ⟨b, off + i, none⟩ = false
section
variable {w w' : World} {b off : Nat} {xs ys : List Nat}
theorem RowN.same (h : RowN w b off xs) (hc : ∀ i, i < xs.length → w'.cell? ⟨b, off + i, none⟩ = w.cell? ⟨b, off + i, none⟩) (hf : ∀ i, i < xs.length → w'.frozen? ⟨b, off + i, none⟩ = w.frozen? ⟨b, off + i, none⟩) : RowN w' b off xs :=
  fun i hi => ⟨(hc i hi).trans (h i hi).1, (hf i hi).trans (h i hi).2⟩
theorem RowN.drewN (h : RowN w b off xs) (n : Nat) : RowN (w.drewN n) b off xs := h
theorem RowN.other (h : RowN w b off xs) {c lo hi : Nat} (k : Wrote w w' c lo hi) (hne : b ≠ c) : RowN w' b off xs :=
  h.same (fun _ _ => k.cell_other hne) (fun _ _ => k.frozen_other hne)
theorem RowN.apart (h : RowN w b off xs) {lo hi : Nat} (k : Wrote w w' b lo hi) (ho : off + xs.length ≤ lo ∨ hi ≤ off) : RowN w' b off xs :=
  h.same (fun i hi => k.cells _ (by omega)) (fun _ _ => k.frozen _)
theorem RowN.below (h : RowN w b off xs) (hb : Below w.heap.size w w') : RowN w' b off xs := fun i hi => by
  have := World.block_lt_of_cell? w _ (h i hi).1
  exact ⟨(hb.cell this).trans (h i hi).1, (hb.frozen this).trans (h i hi).2⟩
/-- One store. -/
theorem RowN.set (h : RowN w b off xs) (k v : Nat) (hk : k < xs.length) : RowN (w.setCell ⟨b, off + k, none⟩ (.int .i64 v)) b off (xs.set k v) := fun i hi => by
  have hi' : i < xs.length := by simpa using hi
  rw [World.frozen?_setCell]
  refine ⟨?_, (h i hi').2⟩
  by_cases e : i = k
  · subst e
    rw [World.cell?_setCell_same _ _ _ (h i hi').1, nth_eq _ _ hi, List.getElem_set_self]
  · rw [World.cell?_setCell_other _ _ _ _ (by intro e'; injection e'; omega), (h i hi').1, nth_eq _ _ hi, nth_eq _ _ hi', List.getElem_set_ne (by omega)]
theorem RowN.append (h : RowN w b off xs) (h2 : RowN w b (off + xs.length) ys) : RowN w b off (xs ++ ys) := fun i hi => by
  simp only [List.length_append] at hi
  by_cases c : i < xs.length
  · have := h i c
    rwa [show nth (xs ++ ys) i = nth xs i by rw [nth_eq _ _ (by simp; omega), nth_eq _ _ c, List.getElem_append_left c]]
  · have := h2 (i - xs.length) (by omega)
    rw [show off + xs.length + (i - xs.length) = off + i by omega] at this
    rwa [show nth (xs ++ ys) i = nth ys (i - xs.length) by rw [nth_eq _ _ (by simp; omega), nth_eq _ _ (by omega), List.getElem_append_right (by omega)]]
theorem RowN.left (h : RowN w b off (xs ++ ys)) : RowN w b off xs := fun i hi => by
  have := h i (by simp; omega)
  rwa [show nth (xs ++ ys) i = nth xs i by rw [nth_eq _ _ (by simp; omega), nth_eq _ _ hi, List.getElem_append_left hi]] at this
theorem RowN.right (h : RowN w b off (xs ++ ys)) : RowN w b (off + xs.length) ys := fun i hi => by
  have := h (xs.length + i) (by simp; omega)
  rw [← Nat.add_assoc] at this
  rwa [show nth (xs ++ ys) (xs.length + i) = nth ys i by rw [nth_eq _ _ (by simp; omega), nth_eq _ _ hi, List.getElem_append_right (by omega)]; simp] at this
end

/-- A slice whose array lies in block b shows these places (with none it may lie anywhere). -/
def ViewN (w : World) (b : Nat) (A : Option Addr) (xs : List Nat) : Prop := xs = [] ∨ ∃ off, A = some ⟨b, off, none⟩ ∧ RowN w b off xs
theorem ViewN.at_ {w : World} {b : Nat} {A : Option Addr} {x : Nat} {xs : List Nat} (h : ViewN w b A (x :: xs)) : ∃ off, A = some ⟨b, off, none⟩ ∧ w.cell? ⟨b, off, none⟩ = some (.int .i64 x) ∧ RowN w b off (x :: xs) := by
  rcases h with h | ⟨off, e, h⟩
  · simp at h
  · exact ⟨off, e, (h 0 (by simp)).1, h⟩
theorem ViewN.drewN {w : World} {b : Nat} {A : Option Addr} {xs : List Nat} (h : ViewN w b A xs) (n : Nat) : ViewN (w.drewN n) b A xs := h
theorem ViewN.other {w w' : World} {b : Nat} {A : Option Addr} {xs : List Nat} (h : ViewN w b A xs) {c lo hi : Nat} (k : Wrote w w' c lo hi) (hne : b ≠ c) : ViewN w' b A xs := by
  rcases h with h | ⟨off, e, h⟩
  · exact .inl h
  · exact .inr ⟨off, e, h.other k hne⟩
/-- x[1:], whatever the capacity: its address under one name. -/
theorem run_tail {P : Program} {T E : TypeId} (hT : P.underlying T = some (.slice E)) (hs : ∀ w, (sizeOf E).run P w = .ok 1 w) (A : Option Addr) (n c : Nat) (hc : n + 1 ≤ c) :
    ∃ A' c', (∀ w, (Instr.slice T (.slice A (n + 1) c) (some (.int .i64 1)) none none).run P w = .ok (.slice A' n c') w) ∧ n ≤ c' ∧ (∀ b off, A = some ⟨b, off, none⟩ → 0 < n → A' = some ⟨b, off + 1, none⟩) := by
  refine ⟨(if c = 1 then A else A.map (·.add 1)), c - 1, fun w => ?_, by omega, fun b off hA hn => ?_⟩
  · have hb : ((1 : Int) ≤ (n : Int) + 1) := by omega
    simp [Instr.slice, run_underlying hT, Instr.sliceBounds, run_sliceBound, hs, hb]
  · rw [hA, if_neg (by omega)]
    simp [Addr.add]
/-- x[lo:hi], whatever the capacity. -/
theorem run_piece {P : Program} {T E : TypeId} (hT : P.underlying T = some (.slice E)) (hs : ∀ w, (sizeOf E).run P w = .ok 1 w) (b o n c lo hi : Nat) (h1 : lo ≤ hi) (h2 : hi ≤ c) (i j : Int) (hi' : i = lo) (hj : j = hi) :
    ∃ A, (∀ w, (Instr.slice T (.slice (some ⟨b, o, none⟩) n c) (some (.int .i64 i)) (some (.int .i64 j)) none).run P w = .ok (.slice A (hi - lo) (c - lo)) w) ∧ (lo < c → A = some ⟨b, o + lo, none⟩) := by
  subst hi'
  subst hj
  refine ⟨(if c = lo then some ⟨b, o, none⟩ else some ⟨b, o + lo, none⟩), fun w => ?_, fun h => by rw [if_neg (by omega)]⟩
  have hb2 : ((hi : Int) ≤ (c : Int)) := by omega
  simp [Instr.slice, run_underlying hT, Instr.sliceBounds, run_sliceBound, hs, hb2, h1]
  by_cases hc : c = lo
  · simp [hc]
  · simp only [hc, if_false]
    by_cases h0 : lo = 0
    · subst h0; simp [Addr.add]
    · simp [Addr.add, h0]
theorem ViewN.tail {w : World} {b : Nat} {A A' : Option Addr} {x : Nat} {xs : List Nat} (h : ViewN w b A (x :: xs)) (k : ∀ b off, A = some ⟨b, off, none⟩ → 0 < xs.length → A' = some ⟨b, off + 1, none⟩) : ViewN w b A' xs := by
  cases xs with
  | nil => exact .inl rfl
  | cons y ys =>
    obtain ⟨off, e, _, hr⟩ := h.at_
    exact .inr ⟨off + 1, k b off e (by simp), RowN.right (xs := [x]) hr⟩

theorem nth_replicate {α : Type} [Inhabited α] (m i : Nat) (x : α) (h : i < m) : nth (List.replicate m x) i = x := by rw [nth_eq _ _ (by simpa using h)]; simp
/-- A new row of noughts. -/
theorem rowN_made (w : World) (t : TypeId) (m : Nat) : RowN (w.alloc (.cells (madeCells #[.int .i64 0] m) t)) w.heap.size 0 (List.replicate m 0) := fun i hi => by
  have hi' : i < m := by simpa using hi
  rw [nth_replicate _ _ _ hi', World.frozen?_alloc_at _ _ _ _ rfl, Nat.zero_add, World.cell?_alloc_at _ _ _ _ rfl]
  refine ⟨?_, by simp⟩
  have e : (madeCells #[Value.int .i64 0] m)[i]? = (madeCells #[Value.int .i64 0] m).toList[i]? := by simp
  rw [e, toList_madeCells_one, List.getElem?_replicate, if_pos hi']
  rfl
/-- One piece anew. -/
theorem RowN.splice {w w' : World} {b : Nat} {L ys : List Nat} {s e : Nat} (h : RowN w b 0 L) (hw : Wrote w w' b s e) (hy : RowN w' b s ys) (hl : ys.length = e - s) (hse : s ≤ e) (heL : e ≤ L.length) : RowN w' b 0 (L.take s ++ (ys ++ L.drop e)) := by
  have h0 : RowN w b 0 (L.take s ++ ((L.drop s).take (e - s) ++ L.drop e)) := by
    have e1 : L.drop e = (L.drop s).drop (e - s) := by rw [List.drop_drop]; congr 1; omega
    rw [e1, List.take_append_drop, List.take_append_drop]
    exact h
  have e2 : (L.take s).length = s := by simp; omega
  have e3 : ((L.drop s).take (e - s)).length = e - s := by simp; omega
  have h1 := h0.left.apart hw (by omega)
  have h2 := h0.right.right
  rw [e2, e3] at h2
  have h3 := h2.apart hw (.inr (by omega))
  refine h1.append ?_
  rw [e2, Nat.zero_add]
  refine hy.append ?_
  rw [hl]
  simpa using h3

/-- The function value that holds g with what it captured. -/
def Fun (P : Program) (g : FuncId) : Prop := ∀ args w, (callFunc g args).run P w = .ok (.enter g args) w
end Go.Proofs.Ythjkeefdeeljoaa
