/- Contracts and lemmas that the row of this claim stands on: Mem, Words, Inv. -/
import Derived.Test.YthjkeefdeeljoaaPk1
import Derived.BigRegion
import Derived.RegionTactic
import Derived.ChangeAlike
import Derived.Deep.LoopGhost
import Derived.Deep.RegionWith
import Derived.Shelf.Abstract
import Derived.Laws.OwnMore
import Derived.Laws.Rows
import Derived.OrdersIn
/- Words on memory: what a call wrote (one piece of one block), and rows of places. -/
namespace Go.Proofs.Ythjkeefdeeljoaa
open Go.RowKit

/-- Between two worlds nothing was laid, and only cells lo .. hi - 1 of block b were written. -/
structure Wrote (w w' : World) (b lo hi : Nat) : Prop where
  os : w'.os = w.os
  tape : w'.tape = w.tape
  output : w'.output = w.output
  size : w'.heap.size = w.heap.size
  other : ∀ k, k ≠ b → w'.heap[k]? = w.heap[k]?
  cells : ∀ o, (o < lo ∨ hi ≤ o) → w'.cell? ⟨b, o, none⟩ = w.cell? ⟨b, o, none⟩
  frozen : ∀ o, w'.frozen? ⟨b, o, none⟩ = w.frozen? ⟨b, o, none⟩
section
variable {w w' w'' : World} {b lo hi : Nat}
theorem Wrote.refl (w : World) (b lo hi : Nat) : Wrote w w b lo hi := ⟨rfl, rfl, rfl, rfl, fun _ _ => rfl, fun _ _ => rfl, fun _ => rfl⟩
theorem Wrote.trans (h : Wrote w w' b lo hi) (k : Wrote w' w'' b lo hi) : Wrote w w'' b lo hi :=
  ⟨k.os.trans h.os, k.tape.trans h.tape, k.output.trans h.output, k.size.trans h.size, fun j hj => (k.other j hj).trans (h.other j hj), fun o ho => (k.cells o ho).trans (h.cells o ho), fun o => (k.frozen o).trans (h.frozen o)⟩
theorem Wrote.wide (h : Wrote w w' b lo hi) {lo' hi' : Nat} (h1 : lo' ≤ lo) (h2 : hi ≤ hi') : Wrote w w' b lo' hi' :=
  ⟨h.os, h.tape, h.output, h.size, h.other, fun o ho => h.cells o (by omega), h.frozen⟩
theorem Wrote.drew (h : Wrote w w' b lo hi) : Wrote w w'.drew b lo hi := ⟨h.os, h.tape, h.output, h.size, h.other, h.cells, h.frozen⟩
theorem Wrote.drewN (h : Wrote w w' b lo hi) (n : Nat) : Wrote w (w'.drewN n) b lo hi := ⟨h.os, h.tape, h.output, h.size, h.other, h.cells, h.frozen⟩
theorem Wrote.of_drewN (n : Nat) (h : Wrote (w.drewN n) w' b lo hi) : Wrote w w' b lo hi := ⟨h.os, h.tape, h.output, h.size, h.other, h.cells, h.frozen⟩
theorem Wrote.set (h : Wrote w w' b lo hi) (o : Nat) (v : Value) (h1 : lo ≤ o) (h2 : o < hi) : Wrote w (w'.setCell ⟨b, o, none⟩ v) b lo hi :=
  ⟨h.os, h.tape, h.output, by rw [show (w'.setCell ⟨b, o, none⟩ v).heap.size = w'.heap.size by simp [World.setCell]]; exact h.size,
    fun k hk => (Below.heap_setCell _ _ _ _ hk).trans (h.other k hk),
    fun p hp => by rw [World.cell?_setCell_other _ _ _ _ (by intro e; injection e; omega)]; exact h.cells p hp,
    fun p => by rw [World.frozen?_setCell]; exact h.frozen p⟩
theorem Wrote.below (h : Wrote w w' b lo hi) {B : Nat} (hb : B ≤ b) : Below B w w' := ⟨h.os, h.tape, h.output, Nat.le_of_eq h.size.symm, fun k hk => h.other k (by omega)⟩
theorem Wrote.cell_other (h : Wrote w w' b lo hi) {a : Addr} (ha : a.block ≠ b) : w'.cell? a = w.cell? a := World.cell?_of_block (h.other _ ha)
theorem Wrote.frozen_other (h : Wrote w w' b lo hi) {a : Addr} (ha : a.block ≠ b) : w'.frozen? a = w.frozen? a := World.frozen?_of_block (h.other _ ha)
end

/-- Cells off .. of block b hold these places, and may be written. -/
def RowN (w : World) (b off : Nat) (xs : List Nat) : Prop :=
  ∀ i, i < xs.length → w.cell? ⟨b, off + i, none⟩ = some (.int .i64 (nth xs i : Nat)) ∧ w.frozen? ⟨b, off + i, none⟩ = false
section
variable {w w' : World} {b off : Nat} {xs ys : List Nat}
theorem RowN.same (h : RowN w b off xs) (hc : ∀ i, i < xs.length → w'.cell? ⟨b, off + i, none⟩ = w.cell? ⟨b, off + i, none⟩) (hf : ∀ i, i < xs.length → w'.frozen? ⟨b, off + i, none⟩ = w.frozen? ⟨b, off + i, none⟩) : RowN w' b off xs :=
  fun i hi => ⟨(hc i hi).trans (h i hi).1, (hf i hi).trans (h i hi).2⟩
theorem RowN.drewN (h : RowN w b off xs) (n : Nat) : RowN (w.drewN n) b off xs := h
theorem RowN.other (h : RowN w b off xs) {c lo hi : Nat} (k : Wrote w w' c lo hi) (hne : b ≠ c) : RowN w' b off xs :=
  h.same (fun _ _ => k.cell_other hne) (fun _ _ => k.frozen_other hne)
theorem RowN.apart (h : RowN w b off xs) {lo hi : Nat} (k : Wrote w w' b lo hi) (ho : off + xs.length ≤ lo ∨ hi ≤ off) : RowN w' b off xs :=
  h.same (fun i hi => k.cells _ (by omega)) (fun _ _ => k.frozen _)
theorem RowN.below (h : RowN w b off xs) (hb : Below w.heap.size w w') : RowN w' b off xs := fun i hi => by
  have := World.block_lt_of_cell? w _ (h i hi).1
  exact ⟨(hb.cell this).trans (h i hi).1, (hb.frozen this).trans (h i hi).2⟩
/-- One store. -/
theorem RowN.set (h : RowN w b off xs) (k v : Nat) (hk : k < xs.length) : RowN (w.setCell ⟨b, off + k, none⟩ (.int .i64 v)) b off (xs.set k v) := fun i hi => by
  have hi' : i < xs.length := by simpa using hi
  rw [World.frozen?_setCell]
  refine ⟨?_, (h i hi').2⟩
  by_cases e : i = k
  · subst e
    rw [World.cell?_setCell_same _ _ _ (h i hi').1, nth_eq _ _ hi, List.getElem_set_self]
  · rw [World.cell?_setCell_other _ _ _ _ (by intro e'; injection e'; omega), (h i hi').1, nth_eq _ _ hi, nth_eq _ _ hi', List.getElem_set_ne (by omega)]
theorem RowN.append (h : RowN w b off xs) (h2 : RowN w b (off + xs.length) ys) : RowN w b off (xs ++ ys) := fun i hi => by
  simp only [List.length_append] at hi
  by_cases c : i < xs.length
  · have := h i c
    rwa [show nth (xs ++ ys) i = nth xs i by rw [nth_eq _ _ (by simp; omega), nth_eq _ _ c, List.getElem_append_left c]]
  · have := h2 (i - xs.length) (by omega)
    rw [show off + xs.length + (i - xs.length) = off + i by omega] at this
    rwa [show nth (xs ++ ys) i = nth ys (i - xs.length) by rw [nth_eq _ _ (by simp; omega), nth_eq _ _ (by omega), List.getElem_append_right (by omega)]]
theorem RowN.left (h : RowN w b off (xs ++ ys)) : RowN w b off xs := fun i hi => by
  have := h i (by simp; omega)
  rwa [show nth (xs ++ ys) i = nth xs i by rw [nth_eq _ _ (by simp; omega), nth_eq _ _ hi, List.getElem_append_left hi]] at this
theorem RowN.right (h : RowN w b off (xs ++ ys)) : RowN w b (off + xs.length) ys := fun i hi => by
  have := h (xs.length + i) (by simp; omega)
  rw [← Nat.add_assoc] at this
  rwa [show nth (xs ++ ys) (xs.length + i) = nth ys i by rw [nth_eq _ _ (by simp; omega), nth_eq _ _ hi, List.getElem_append_right (by omega)]; simp] at this
end

/-- A slice whose array lies in block b shows these places (with none it may lie anywhere). -/
def ViewN (w : World) (b : Nat) (A : Option Addr) (xs : List Nat) : Prop := xs = [] ∨ ∃ off, A = some ⟨b, off, none⟩ ∧ RowN w b off xs
theorem ViewN.at_ {w : World} {b : Nat} {A : Option Addr} {x : Nat} {xs : List Nat} (h : ViewN w b A (x :: xs)) : ∃ off, A = some ⟨b, off, none⟩ ∧ w.cell? ⟨b, off, none⟩ = some (.int .i64 x) ∧ RowN w b off (x :: xs) := by
  rcases h with h | ⟨off, e, h⟩
  · simp at h
  · exact ⟨off, e, (h 0 (by simp)).1, h⟩
theorem ViewN.drewN {w : World} {b : Nat} {A : Option Addr} {xs : List Nat} (h : ViewN w b A xs) (n : Nat) : ViewN (w.drewN n) b A xs := h
theorem ViewN.other {w w' : World} {b : Nat} {A : Option Addr} {xs : List Nat} (h : ViewN w b A xs) {c lo hi : Nat} (k : Wrote w w' c lo hi) (hne : b ≠ c) : ViewN w' b A xs := by
  rcases h with h | ⟨off, e, h⟩
  · exact .inl h
  · exact .inr ⟨off, e, h.other k hne⟩
/-- x[1:], whatever the capacity: its address under one name. -/
theorem run_tail {P : Program} {T E : TypeId} (hT : P.underlying T = some (.slice E)) (hs : ∀ w, (sizeOf E).run P w = .ok 1 w) (A : Option Addr) (n c : Nat) (hc : n + 1 ≤ c) :
    ∃ A' c', (∀ w, (Instr.slice T (.slice A (n + 1) c) (some (.int .i64 1)) none none).run P w = .ok (.slice A' n c') w) ∧ n ≤ c' ∧ (∀ b off, A = some ⟨b, off, none⟩ → 0 < n → A' = some ⟨b, off + 1, none⟩) := by
  refine ⟨(if c = 1 then A else A.map (·.add 1)), c - 1, fun w => ?_, by omega, fun b off hA hn => ?_⟩
  · have hb : ((1 : Int) ≤ (n : Int) + 1) := by omega
    simp [Instr.slice, run_underlying hT, Instr.sliceBounds, run_sliceBound, hs, hb]
  · rw [hA, if_neg (by omega)]
    simp [Addr.add]
/-- x[lo:hi], whatever the capacity. -/
theorem run_piece {P : Program} {T E : TypeId} (hT : P.underlying T = some (.slice E)) (hs : ∀ w, (sizeOf E).run P w = .ok 1 w) (b o n c lo hi : Nat) (h1 : lo ≤ hi) (h2 : hi ≤ c) (i j : Int) (hi' : i = lo) (hj : j = hi) :
    ∃ A, (∀ w, (Instr.slice T (.slice (some ⟨b, o, none⟩) n c) (some (.int .i64 i)) (some (.int .i64 j)) none).run P w = .ok (.slice A (hi - lo) (c - lo)) w) ∧ (lo < c → A = some ⟨b, o + lo, none⟩) := by
  subst hi'
  subst hj
  refine ⟨(if c = lo then some ⟨b, o, none⟩ else some ⟨b, o + lo, none⟩), fun w => ?_, fun h => by rw [if_neg (by omega)]⟩
  have hb2 : ((hi : Int) ≤ (c : Int)) := by omega
  simp [Instr.slice, run_underlying hT, Instr.sliceBounds, run_sliceBound, hs, hb2, h1]
  by_cases hc : c = lo
  · simp [hc]
  · simp only [hc, if_false]
    by_cases h0 : lo = 0
    · subst h0; simp [Addr.add]
    · simp [Addr.add, h0]
theorem ViewN.tail {w : World} {b : Nat} {A A' : Option Addr} {x : Nat} {xs : List Nat} (h : ViewN w b A (x :: xs)) (k : ∀ b off, A = some ⟨b, off, none⟩ → 0 < xs.length → A' = some ⟨b, off + 1, none⟩) : ViewN w b A' xs := by
  cases xs with
  | nil => exact .inl rfl
  | cons y ys =>
    obtain ⟨off, e, _, hr⟩ := h.at_
    exact .inr ⟨off + 1, k b off e (by simp), RowN.right (xs := [x]) hr⟩

theorem nth_replicate {α : Type} [Inhabited α] (m i : Nat) (x : α) (h : i < m) : nth (List.replicate m x) i = x := by rw [nth_eq _ _ (by simpa using h)]; simp
/-- A new row of noughts. -/
theorem rowN_made (w : World) (t : TypeId) (m : Nat) : RowN (w.alloc (.cells (madeCells #[.int .i64 0] m) t)) w.heap.size 0 (List.replicate m 0) := fun i hi => by
  have hi' : i < m := by simpa using hi
  rw [nth_replicate _ _ _ hi', World.frozen?_alloc_at _ _ _ _ rfl, Nat.zero_add, World.cell?_alloc_at _ _ _ _ rfl]
  refine ⟨?_, by simp⟩
  have e : (madeCells #[Value.int .i64 0] m)[i]? = (madeCells #[Value.int .i64 0] m).toList[i]? := by simp
  rw [e, toList_madeCells_one, List.getElem?_replicate, if_pos hi']
  rfl
/-- One piece anew. -/
theorem RowN.splice {w w' : World} {b : Nat} {L ys : List Nat} {s e : Nat} (h : RowN w b 0 L) (hw : Wrote w w' b s e) (hy : RowN w' b s ys) (hl : ys.length = e - s) (hse : s ≤ e) (heL : e ≤ L.length) : RowN w' b 0 (L.take s ++ (ys ++ L.drop e)) := by
  have h0 : RowN w b 0 (L.take s ++ ((L.drop s).take (e - s) ++ L.drop e)) := by
    have e1 : L.drop e = (L.drop s).drop (e - s) := by rw [List.drop_drop]; congr 1; omega
    rw [e1, List.take_append_drop, List.take_append_drop]
    exact h
  have e2 : (L.take s).length = s := by simp; omega
  have e3 : ((L.drop s).take (e - s)).length = e - s := by simp; omega
  have h1 := h0.left.apart hw (by omega)
  have h2 := h0.right.right
  rw [e2, e3] at h2
  have h3 := h2.apart hw (.inr (by omega))
  refine h1.append ?_
  rw [e2, Nat.zero_add]
  refine hy.append ?_
  rw [hl]
  simpa using h3

/-- The function value that holds g with what it captured. -/
def Fun (P : Program) (g : FuncId) : Prop := ∀ args w, (callFunc g args).run P w = .ok (.enter g args) w
end Go.Proofs.Ythjkeefdeeljoaa
/- Words on memory, whatever the cells: a block known whole; what a slice shows, cell by cell. -/
namespace Go.Proofs.Ythjkeefdeeljoaa
open Go.RowKit

/-- Block g holds just these cells, and may be written. -/
def Blk (w : World) (g : Nat) (t : TypeId) (cs : Array Value) : Prop := w.heap[g]? = some (.cells cs t (0, 0))
section
variable {w w' : World} {g : Nat} {t : TypeId} {cs : Array Value}
theorem Blk.lt (h : Blk w g t cs) : g < w.heap.size := by
  unfold Blk at h
  exact (Array.getElem?_eq_some_iff.1 h).1
theorem Blk.cell (h : Blk w g t cs) (i : Nat) : w.cell? ⟨g, i, none⟩ = cs[i]? := cell_of_row w g i cs t (0, 0) h
theorem Blk.frozen (h : Blk w g t cs) (i : Nat) : w.frozen? ⟨g, i, none⟩ = false := by
  unfold Blk at h
  simp [World.frozen?, h]
theorem Blk.new (w : World) (t : TypeId) (cs : Array Value) : Blk (w.alloc (.cells cs t)) w.heap.size t cs := heap_alloc_new w _
theorem Blk.new' {H : Nat} (e : w.heap.size = H) (t : TypeId) (cs : Array Value) : Blk (w.alloc (.cells cs t)) H t cs := by subst e; exact Blk.new w t cs
theorem Blk.drew (h : Blk w g t cs) : Blk w.drew g t cs := h
theorem Blk.drewN (h : Blk w g t cs) (n : Nat) : Blk (w.drewN n) g t cs := h
theorem Blk.alloc (h : Blk w g t cs) (o : Obj) : Blk (w.alloc o) g t cs := (Below.heap_alloc w o g h.lt).trans h
theorem Blk.set (h : Blk w g t cs) (i : Nat) (u : Value) : Blk (w.setCell ⟨g, i, none⟩ u) g t (cs.setIfInBounds i u) := by
  unfold Blk at h ⊢
  simp [World.setCell, Array.getElem?_modify, h]
theorem Blk.one {x : Value} (h : Blk w g t #[x]) (u : Value) : Blk (w.setCell ⟨g, 0, none⟩ u) g t #[u] := by
  have := h.set 0 u
  simpa using this
theorem Blk.far (h : Blk w g t cs) {p : Addr} (hp : g ≠ p.block) (u : Value) : Blk (w.setCell p u) g t cs := (Below.heap_setCell w p u g hp).trans h
theorem Blk.below {B : Nat} (h : Blk w g t cs) (hb : Below B w w') (hg : g < B) : Blk w' g t cs := (hb.block g hg).trans h
theorem Blk.below' (h : Blk w g t cs) (hb : Below w.heap.size w w') : Blk w' g t cs := h.below hb h.lt
theorem Blk.grown {row : Option Nat} (h : Blk w g t cs) (hb : w.grownBy w' row) (hg : some g ≠ row) : Blk w' g t cs := (hb.block g h.lt hg).trans h
end

/-- Blocks of unlike types are unlike blocks. -/
theorem Blk.ne_ {w : World} {g g' : Nat} {t t' : TypeId} {cs cs' : Array Value} (h : Blk w g t cs) (h' : Blk w g' t' cs') (hne : t ≠ t') : g ≠ g' := by
  rintro rfl
  unfold Blk at h h'
  rw [h] at h'
  injection h' with h'
  injection h' with _ ht
  exact hne ht
theorem own_far {w : World} {base : Nat} {e : TypeId} {size n : Nat} {v : Value} {xs : List Value} (h : w.ownsRow base e size v n xs) {p : Addr} {t : TypeId} {cs : Array Value} (hb : Blk w p.block t cs) (hne : e ≠ t) (u : Value) : (w.setCell p u).ownsRow base e size v n xs := by
  refine ⟨h.1, ?_⟩
  rcases h.2 with hn | ⟨g, cap, cur, h1, h2, h3, h4⟩
  · exact .inl hn
  · exact .inr ⟨g, cap, cur, h1, h2, Blk.far (t := e) h3 (Blk.ne_ (t := e) h3 hb hne) u, h4⟩

/-- A slice at A shows these cells. -/
def Shows (w : World) (A : Option Addr) (xs : List Value) : Prop :=
  ∀ i v, xs[i]? = some v → ∃ b off, A = some ⟨b, off, none⟩ ∧ w.cell? ⟨b, off + i, none⟩ = some v
section
variable {w w' : World} {A : Option Addr} {xs : List Value}
theorem Shows.nil (w : World) (A : Option Addr) : Shows w A [] := fun i v h => by simp at h
theorem Shows.below (h : Shows w A xs) (hb : Below w.heap.size w w') : Shows w' A xs := fun i v hi => by
  obtain ⟨b, off, e, hc⟩ := h i v hi
  exact ⟨b, off, e, (hb.cell (World.block_lt_of_cell? w _ hc)).trans hc⟩
theorem Shows.of_blk {g : Nat} {t : TypeId} {cs : Array Value} (h : Blk w g t cs) : Shows w (some ⟨g, 0, none⟩) cs.toList := fun i v hi => by
  refine ⟨g, 0, rfl, ?_⟩
  rw [Nat.zero_add, h.cell]
  simpa using hi
theorem Shows.of_own {base : Nat} {e : TypeId} {size n c : Nat} (h : w.ownsRow base e size (.slice A n c) n xs) : Shows w A xs := fun i v hi => by
  rcases h.2 with ⟨e1, e2⟩ | ⟨g, cap, cur, e1, _, _⟩
  · subst e2
    have := h.1
    simp at this
    subst this
    simp at hi
  · injection e1 with e1
    subst e1
    refine ⟨g, 0, rfl, ?_⟩
    have := World.ownsRow.cells h (g := g) rfl i v hi
    have e2 : (⟨g, 0, none⟩ : Addr).add i = ⟨g, 0 + i, none⟩ := by unfold Addr.add; split <;> simp_all
    rwa [e2] at this
theorem Shows.drop (h : Shows w A xs) (k : Nat) (hk : k < xs.length) : ∃ b off, A = some ⟨b, off, none⟩ ∧ Shows w (some ⟨b, off + k, none⟩) (xs.drop k) := by
  obtain ⟨b, off, e, hc⟩ := h k _ (List.getElem?_eq_getElem hk)
  refine ⟨b, off, e, fun i v hi => ⟨b, off + k, rfl, ?_⟩⟩
  rw [List.getElem?_drop] at hi
  obtain ⟨b', off', e', hc'⟩ := h _ v hi
  rw [e] at e'
  injection e' with e'
  injection e' with e1 e2
  subst e1
  subst e2
  rwa [Nat.add_assoc]
theorem Shows.take (h : Shows w A xs) (k : Nat) : Shows w A (xs.take k) := fun i v hi => by
  rw [List.getElem?_take] at hi
  split at hi
  · exact h i v hi
  · simp at hi
theorem Shows.drewN (h : Shows w A xs) (n : Nat) : Shows (w.drewN n) A xs := h
theorem Shows.ints {k : IntKind} {ys : List Int} (h : ReadsI w k A ys) : Shows w A (ys.map (Value.int k)) := fun i v hi => by
  rw [List.getElem?_map] at hi
  obtain ⟨x, hx, rfl⟩ := Option.map_eq_some_iff.1 hi
  obtain ⟨hl, e⟩ := List.getElem?_eq_some_iff.1 hx
  obtain ⟨b, off, e1, hc⟩ := h i hl
  exact ⟨b, off, e1, by rw [hc, nth_eq _ _ hl, e]⟩
theorem Shows.to_ints {k : IntKind} {ys : List Int} (h : Shows w A (ys.map (Value.int k))) : ReadsI w k A ys := fun i hi => by
  obtain ⟨b, off, e, hc⟩ := h i (.int k (nth ys i)) (by rw [List.getElem?_map, List.getElem?_eq_getElem hi, nth_eq _ _ hi]; rfl)
  exact ⟨b, off, e, hc⟩
end

theorem bl_seen {w w' : World} {a : Addr} {v : Value} (hb : Below w.heap.size w w') (h : w.cell? a = some v) : w'.cell? a = some v := (hb.cell (World.block_lt_of_cell? w _ h)).trans h
/-- Of what lay in w, block T alone may have been written. -/
structure Only (T : Nat) (w w' : World) : Prop where
  os : w'.os = w.os
  tape : w'.tape = w.tape
  output : w'.output = w.output
  size : w.heap.size ≤ w'.heap.size
  other : ∀ k, k < w.heap.size → k ≠ T → w'.heap[k]? = w.heap[k]?
theorem Only.refl (T : Nat) (w : World) : Only T w w := ⟨rfl, rfl, rfl, Nat.le_refl _, fun _ _ _ => rfl⟩
theorem Only.trans {T : Nat} {w w' w'' : World} (h : Only T w w') (k : Only T w' w'') : Only T w w'' :=
  ⟨k.os.trans h.os, k.tape.trans h.tape, k.output.trans h.output, Nat.le_trans h.size k.size, fun j hj hne => (k.other j (Nat.lt_of_lt_of_le hj h.size) hne).trans (h.other j hj hne)⟩
theorem Only.of_below {T : Nat} {w w' : World} (h : Below w.heap.size w w') : Only T w w' := ⟨h.os, h.tape, h.output, h.size, fun k hk _ => h.block k hk⟩
theorem Only.then {T : Nat} {w w' w'' : World} (h : Only T w w') {n : Nat} (hn : w.heap.size ≤ n) (k : Below n w' w'') (hs : w'.heap.size ≤ w''.heap.size) : Only T w w'' :=
  ⟨k.os.trans h.os, k.tape.trans h.tape, k.output.trans h.output, Nat.le_trans h.size hs, fun j hj hne => (k.block j (Nat.lt_of_lt_of_le hj hn)).trans (h.other j hj hne)⟩
theorem Only.drew {T : Nat} {w w' : World} (h : Only T w w') : Only T w w'.drew := ⟨h.os, h.tape, h.output, h.size, h.other⟩
theorem Only.alloc {T : Nat} {w w' : World} (h : Only T w w') (o : Obj) : Only T w (w'.alloc o) := ⟨h.os, h.tape, h.output, Nat.le_trans h.size (by simp), fun k hk hne => (Below.heap_alloc _ _ _ (Nat.lt_of_lt_of_le hk h.size)).trans (h.other k hk hne)⟩
theorem Only.set {T : Nat} {w w' : World} (h : Only T w w') {p : Addr} (hp : p.block = T ∨ w.heap.size ≤ p.block) (u : Value) : Only T w (w'.setCell p u) :=
  ⟨h.os, h.tape, h.output, by rw [show (w'.setCell p u).heap.size = w'.heap.size by simp [World.setCell]]; exact h.size, fun k hk hne => (Below.heap_setCell _ _ _ _ (fun e => by rcases hp with hp | hp <;> omega)).trans (h.other k hk hne)⟩
theorem Only.grown {T : Nat} {w w' w'' : World} {row : Option Nat} (h : Only T w w') (hg : w'.grownBy w'' row) (hr : ∀ k, row = some k → k = T ∨ w.heap.size ≤ k) : Only T w w'' :=
  ⟨hg.os.trans h.os, hg.tape.trans h.tape, hg.output.trans h.output, Nat.le_trans h.size hg.size, fun k hk hne => (hg.block k (Nat.lt_of_lt_of_le hk h.size) (fun e => by rcases hr k e.symm with h | h <;> omega)).trans (h.other k hk hne)⟩
theorem Only.below {T : Nat} {w w' : World} (h : Only T w w') {B : Nat} (hB : B ≤ w.heap.size) (hT : B ≤ T) : Below B w w' := ⟨h.os, h.tape, h.output, h.size, fun k hk => h.other k (by omega) (by omega)⟩
theorem Only.blk {T : Nat} {w w' : World} (h : Only T w w') {g : Nat} {t : TypeId} {cs : Array Value} (hb : Blk w g t cs) (hne : g ≠ T) : Blk w' g t cs := (h.other g hb.lt hne).trans hb
end Go.Proofs.Ythjkeefdeeljoaa
/- A region that draws its order, by an invariant: what is known when just these operations have run. -/
namespace Go.Proofs.Ythjkeefdeeljoaa
open Go Go.RowKit
set_option linter.unusedVariables false

/-- Each operation waits for earlier ones alone. -/
def lowB (md : Region.Mode) (ops : Array Oper) : Bool := (List.range ops.size).all fun i => match ops[i]? with | none => true | some o => o.after.all fun e => !Region.binds md e || decide (e.on < i)
theorem lowB_spec {md : Region.Mode} {ops : Array Oper} (h : lowB md ops = true) {i : Nat} {o : Oper} (hi : ops[i]? = some o) : ∀ e ∈ o.after, Region.binds md e = true → e.on < i := fun e he hb => by
  have hlt : i < ops.size := (Array.getElem?_eq_some_iff.1 hi).1
  have h1 := List.all_eq_true.1 h i (List.mem_range.2 hlt)
  rw [hi] at h1
  have h2 := Array.all_eq_true'.1 h1 e he
  rw [hb] at h2
  simpa using h2
theorem none_ready {md : Region.Mode} {ops : Array Oper} (hl : lowB md ops = true) {listed : Array Bool} (hs : listed.size = ops.size) (hr : Region.ready md ops listed = []) : ∀ i, i < ops.size → listed.getD i false = true := by
  intro i
  induction i using Nat.strongRecOn with
  | _ i ih =>
    intro hi
    cases hc : listed.getD i false with
    | true => rfl
    | false =>
      exfalso
      have h1 : i ∈ Region.ready md ops listed := mem_ready.2 ⟨by simp [Array.getD, hs, hi] at hc ⊢; exact hc, ops[i], Array.getElem?_eq_getElem hi, fun e he hb => ih e.on (lowB_spec hl (Array.getElem?_eq_getElem hi) e he hb) (by have := lowB_spec hl (Array.getElem?_eq_getElem hi) e he hb; omega)⟩
      rw [hr] at h1
      cases h1
section
variable {P : Program} {Q : Exit → Act → World → Prop}
theorem wpAny_inv {md : Region.Mode} {ops : Array Oper} (R : (Nat → Bool) → Act → World → Prop) (hl : lowB md ops = true)
    (hstep : ∀ (L : Nat → Bool) (a : Act) (w : World) (i : Nat) (o : Oper), ops[i]? = some o → L i = false → (∀ e ∈ o.after, Region.binds md e = true → L e.on = true) → R L a w → ∀ K : Act → World → Prop, (∀ a' w', R (fun j => if j = i then true else L j) a' w' → K a' w') →
      if Region.wanted o (yielded ops a.tmps) = true then o.wp P a w K Q else K (a.put o.dst undef) w)
    (hdone : ∀ (L : Nat → Bool) (a : Act) (w : World), (∀ i, i < ops.size → L i = true) → R L a w → Q .normal a w) :
    ∀ (f : Nat) (listed : Array Bool) (a : Act) (w : World), listed.size = ops.size → listed.toList.countP (fun b => !b) ≤ f → R (fun i => listed.getD i false) a w → wpAny P md ops Q f listed a w := by
  intro f
  induction f with
  | zero =>
    intro listed a w hs hc hr
    have hall : ∀ i, i < ops.size → listed.getD i false = true := fun i hi => by
      have h0 : listed.toList.countP (fun b => !b) = 0 := by omega
      have h1 := List.countP_eq_zero.1 h0 (listed[i]'(by omega)) (by simp)
      simp [Array.getD, hs, hi]
      simpa using h1
    refine ⟨?_, hdone _ a w hall hr⟩
    rw [List.eq_nil_iff_forall_not_mem]
    intro j hj
    obtain ⟨h1, o, ho, _⟩ := mem_ready.1 hj
    have hlt : j < ops.size := (Array.getElem?_eq_some_iff.1 ho).1
    have h2 := hall j hlt
    simp [Array.getD, hs, hlt] at h1 h2
    rw [h1] at h2
    cases h2
  | succ f ih =>
    intro listed a w hs hc hr
    refine ⟨fun h => hdone _ a w (none_ready hl hs h) hr, fun i hi => ?_⟩
    obtain ⟨h1, o, ho, hall⟩ := mem_ready.1 hi
    have hlt : i < ops.size := (Array.getElem?_eq_some_iff.1 ho).1
    have hli : listed[i]'(by omega) = false := by simpa [Array.getD, hs, hlt] using h1
    have h := hstep _ a w i o ho (by simp [Array.getD, hs, hlt, hli]) hall hr (wpAny P md ops Q f (listed.setIfInBounds i true)) (fun a' w' hr' => by
      refine ih _ a' w' (by simp [hs]) ?_ ?_
      · rw [Array.toList_setIfInBounds, List.countP_set (by simpa [hs] using hlt)]
        have : listed.toList[i]'(by simpa [hs] using hlt) = false := by simpa using hli
        rw [this]
        have hpos : 0 < listed.toList.countP (fun b => !b) := List.countP_pos_iff.2 ⟨false, by rw [← this]; exact List.getElem_mem _, rfl⟩
        generalize listed.toList.countP (fun b => !b) = c at *
        simp
        omega
      · have e : (fun j => (listed.setIfInBounds i true).getD j false) = fun j => if j = i then true else listed.getD j false := by
          funext j
          by_cases hj : j = i
          · subst hj; simp [Array.getD, hs, hlt]
          · rw [if_neg hj]
            exact getD_set_ne false (Ne.symm hj)
        rw [e]
        exact hr')
    unfold wpOp
    simp only [ho]
    split
    · rename_i hw
      rw [if_pos hw] at h
      exact .inl h
    · rename_i hw
      rw [if_neg hw] at h
      exact h
theorem wp_region_inv {id : Nat} {a : Act} {w : World} {l : List Oper} (R : (Nat → Bool) → Act → World → Prop) (hm : P.follows .mixedOrders = true) (hl : lowB .any l.toArray = true)
    (hstep : ∀ (L : Nat → Bool) (a : Act) (w : World) (i : Nat) (o : Oper), l.toArray[i]? = some o → L i = false → (∀ e ∈ o.after, Region.binds .any e = true → L e.on = true) → R L a w → ∀ K : Act → World → Prop, (∀ a' w', R (fun j => if j = i then true else L j) a' w' → K a' w') →
      if Region.wanted o (yielded l.toArray a.tmps) = true then o.wp P a w K Q else K (a.put o.dst undef) w)
    (hdone : ∀ (L : Nat → Bool) (a : Act) (w : World), (∀ i, i < l.toArray.size → L i = true) → R L a w → Q .normal a w)
    (h0 : R (fun _ => false) a w.drew) : (Code.region id l.toArray true).wp P Q a w := by
  refine wp_region_any hm ?_
  refine wpAny_inv (md := .any) R hl hstep hdone _ _ a w.drew (by simp) ?_ ?_
  · simp [List.countP_replicate]
  · have e : (fun i => (Array.replicate l.toArray.size false).getD i false) = fun _ => false := by funext i; simp only [Array.getD]; split <;> simp
    rw [e]
    exact h0
end
end Go.Proofs.Ythjkeefdeeljoaa
