/- Words on memory, whatever the cells: a block known whole; what a slice shows, cell by cell. -/
import Derived.Test.YthjkeefdeeljoaaMem
import Derived.Laws.OwnMore
import Derived.Laws.Rows
namespace Go.Proofs.Ythjkeefdeeljoaa
open Go.RowKit

/-- Block g holds just these cells, and may be written. -/
def Blk (w : World) (g : Nat) (t : TypeId) (cs : Array Value) : Prop := w.heap[g]? = some (.cells cs t (0, 0))
section
variable {w w' : World} {g : Nat} {t : TypeId} {cs : Array Value}
theorem Blk.lt (h : Blk w g t cs) : g < w.heap.size := by
  unfold Blk at h
  exact (Array.getElem?_eq_some_iff.1 h).1
theorem Blk.cell (h : Blk w g t cs) (i : Nat) : w.cell? ⟨g, i, none⟩ = cs[i]? := cell_of_row w g i cs t (0, 0) h
theorem Blk.frozen (h : Blk w g t cs) (i : Nat) : w.frozen? ⟨g, i, none⟩ = false := by
  unfold Blk at h
  simp [World.frozen?, h]
theorem Blk.new (w : World) (t : TypeId) (cs : Array Value) : Blk (w.alloc (.cells cs t)) w.heap.size t cs := heap_alloc_new w _
theorem Blk.new' {H : Nat} (e : w.heap.size = H) (t : TypeId) (cs : Array Value) : Blk (w.alloc (.cells cs t)) H t cs := by subst e; exact Blk.new w t cs
theorem Blk.drew (h : Blk w g t cs) : Blk w.drew g t cs := h
theorem Blk.drewN (h : Blk w g t cs) (n : Nat) : Blk (w.drewN n) g t cs := h
theorem Blk.alloc (h : Blk w g t cs) (o : Obj) : Blk (w.alloc o) g t cs := (Below.heap_alloc w o g h.lt).trans h
theorem Blk.set (h : Blk w g t cs) (i : Nat) (u : Value) : Blk (w.setCell ⟨g, i, none⟩ u) g t (cs.setIfInBounds i u) := by
  unfold Blk at h ⊢
  simp [World.setCell, Array.getElem?_modify, h]
theorem Blk.one {x : Value} (h : Blk w g t #[x]) (u : Value) : Blk (w.setCell ⟨g, 0, none⟩ u) g t #[u] := by
  have := h.set 0 u
  simpa using this
theorem Blk.far (h : Blk w g t cs) {p : Addr} (hp : g ≠ p.block) (u : Value) : Blk (w.setCell p u) g t cs := (Below.heap_setCell w p u g hp).trans h
theorem Blk.below {B : Nat} (h : Blk w g t cs) (hb : Below B w w') (hg : g < B) : Blk w' g t cs := (hb.block g hg).trans h
theorem Blk.below' (h : Blk w g t cs) (hb : Below w.heap.size w w') : Blk w' g t cs := h.below hb h.lt
theorem Blk.grown {row : Option Nat} (h : Blk w g t cs) (hb : w.grownBy w' row) (hg : some g ≠ row) : Blk w' g t cs := (hb.block g h.lt hg).trans h
end

/-- Blocks of unlike types are unlike blocks. -/
theorem Blk.ne_ {w : World} {g g' : Nat} {t t' : TypeId} {cs cs' : Array Value} (h : Blk w g t cs) (h' : Blk w g' t' cs') (hne : t ≠ t') : g ≠ g' := by
  rintro rfl
  unfold Blk at h h'
  rw [h] at h'
  injection h' with h'
  injection h' with _ ht
  exact hne ht
theorem own_far {w : World} {base : Nat} {e : TypeId} {size n : Nat} {v : Value} {xs : List Value} (h : w.ownsRow base e size v n xs) {p : Addr} {t : TypeId} {cs : Array Value} (hb : Blk w p.block t cs) (hne : e ≠ t) (u : Value) : (w.setCell p u).ownsRow base e size v n xs := by
  refine ⟨h.1, ?_⟩
  rcases h.2 with hn | ⟨g, cap, cur, h1, h2, h3, h4⟩
  · exact .inl hn
  · exact .inr ⟨g, cap, cur, h1, h2, Blk.far (t := e) h3 (Blk.ne_ (t := e) h3 hb hne) u, h4⟩

/-- A slice at A shows these cells. -/
def Shows (w : World) (A : Option Addr) (xs : List Value) : Prop :=
  ∀ i v, xs[i]? = some v → ∃ b off, A = some ⟨b, off, none⟩ ∧ w.cell? ⟨b, off + i, none⟩ = some v
section
variable {w w' : World} {A : Option Addr} {xs : List Value}
theorem Shows.nil (w : World) (A : Option Addr) : Shows w A [] := fun i v h => by simp at h
theorem Shows.below (h : Shows w A xs) (hb : Below w.heap.size w w') : Shows w' A xs := fun i v hi => by
  obtain ⟨b, off, e, hc⟩ := h i v hi
  exact ⟨b, off, e, (hb.cell (World.block_lt_of_cell? w _ hc)).trans hc⟩
theorem Shows.of_blk {g : Nat} {t : TypeId} {cs : Array Value} (h : Blk w g t cs) : Shows w (some ⟨g, 0, none⟩) cs.toList := fun i v hi => by
  refine ⟨g, 0, rfl, ?_⟩
  rw [Nat.zero_add, h.cell]
  simpa using hi
theorem Shows.of_own {base : Nat} {e : TypeId} {size n c : Nat} (h : w.ownsRow base e size (.slice A n c) n xs) : Shows w A xs := fun i v hi => by
  rcases h.2 with ⟨e1, e2⟩ | ⟨g, cap, cur, e1, _, _⟩
  · subst e2
    have := h.1
    simp at this
    subst this
    simp at hi
  · injection e1 with e1
    subst e1
    refine ⟨g, 0, rfl, ?_⟩
    have := World.ownsRow.cells h (g := g) rfl i v hi
    have e2 : (⟨g, 0, none⟩ : Addr).add i = ⟨g, 0 + i, none⟩ := by unfold Addr.add; split <;> simp_all
    rwa [e2] at this
theorem Shows.drop (h : Shows w A xs) (k : Nat) (hk : k < xs.length) : ∃ b off, A = some ⟨b, off, none⟩ ∧ Shows w (some ⟨b, off + k, none⟩) (xs.drop k) := by
  obtain ⟨b, off, e, hc⟩ := h k _ (List.getElem?_eq_getElem hk)
  refine ⟨b, off, e, fun i v hi => ⟨b, off + k, rfl, ?_⟩⟩
  rw [List.getElem?_drop] at hi
  obtain ⟨b', off', e', hc'⟩ := h _ v hi
  rw [e] at e'
  injection e' with e'
  injection e' with e1 e2
  subst e1
  subst e2
  rwa [Nat.add_assoc]
theorem Shows.take (h : Shows w A xs) (k : Nat) : Shows w A (xs.take k) := fun i v hi => by
  rw [List.getElem?_take] at hi
  split at hi
  · exact h i v hi
  · simp at hi
theorem Shows.drewN (h : Shows w A xs) (n : Nat) : Shows (w.drewN n) A xs := h
theorem Shows.ints {k : IntKind} {ys : List Int} (h : ReadsI w k A ys) : Shows w A (ys.map (Value.int k)) := fun i v hi => by
  rw [List.getElem?_map] at hi
  obtain ⟨x, hx, rfl⟩ := Option.map_eq_some_iff.1 hi
  obtain ⟨hl, e⟩ := List.getElem?_eq_some_iff.1 hx
  obtain ⟨b, off, e1, hc⟩ := h i hl
  exact ⟨b, off, e1, by rw [hc, nth_eq _ _ hl, e]⟩
theorem Shows.to_ints {k : IntKind} {ys : List Int} (h : Shows w A (ys.map (Value.int k))) : ReadsI w k A ys := fun i hi => by
  obtain ⟨b, off, e, hc⟩ := h i (.int k (nth ys i)) (by rw [List.getElem?_map, List.getElem?_eq_getElem hi, nth_eq _ _ hi]; rfl)
  exact ⟨b, off, e, hc⟩
end

theorem bl_seen {w w' : World} {a : Addr} {v : Value} (hb : Below w.heap.size w w') (h : w.cell? a = some v) : w'.cell? a = some v := (hb.cell (World.block_lt_of_cell? w _ h)).trans h
/-- Of what lay in w, block T alone may have been written. -/
structure Only (T : Nat) (w w' : World) : Prop where
  os : w'.os = w.os
  tape : w'.tape = w.tape
  output : w'.output = w.output
  size : w.heap.size ≤ w'.heap.size
  other : ∀ k, k < w.heap.size → k ≠ T → w'.heap[k]? = w.heap[k]?
theorem Only.refl (T : Nat) (w : World) : Only T w w := ⟨rfl, rfl, rfl, Nat.le_refl _, fun _ _ _ => rfl⟩
theorem Only.trans {T : Nat} {w w' w'' : World} (h : Only T w w') (k : Only T w' w'') : Only T w w'' :=
  ⟨k.os.trans h.os, k.tape.trans h.tape, k.output.trans h.output, Nat.le_trans h.size k.size, fun j hj hne => (k.other j (Nat.lt_of_lt_of_le hj h.size) hne).trans (h.other j hj hne)⟩
theorem Only.of_below {T : Nat} {w w' : World} (h : Below w.heap.size w w') : Only T w w' := ⟨h.os, h.tape, h.output, h.size, fun k hk _ => h.block k hk⟩
theorem Only.then {T : Nat} {w w' w'' : World} (h : Only T w w') {n : Nat} (hn : w.heap.size ≤ n) (k : Below n w' w'') (hs : w'.heap.size ≤ w''.heap.size) : Only T w w'' :=
  ⟨k.os.trans h.os, k.tape.trans h.tape, k.output.trans h.output, Nat.le_trans h.size hs, fun j hj hne => (k.block j (Nat.lt_of_lt_of_le hj hn)).trans (h.other j hj hne)⟩
theorem Only.drew {T : Nat} {w w' : World} (h : Only T w w') : Only T w w'.drew := ⟨h.os, h.tape, h.output, h.size, h.other⟩
theorem Only.alloc {T : Nat} {w w' : World} (h : Only T w w') (o : Obj) : Only T w (w'.alloc o) := ⟨h.os, h.tape, h.output, Nat.le_trans h.size (by simp), fun k hk hne => (Below.heap_alloc _ _ _ (Nat.lt_of_lt_of_le hk h.size)).trans (h.other k hk hne)⟩
theorem Only.set {T : Nat} {w w' : World} (h : Only T w w') {p : Addr} (hp : p.block = T ∨ w.heap.size ≤ p.block) (u : Value) : Only T w (w'.setCell p u) :=
  ⟨h.os, h.tape, h.output, by rw [show (w'.setCell p u).heap.size = w'.heap.size by simp [World.setCell]]; exact h.size, fun k hk hne => (Below.heap_setCell _ _ _ _ (fun e => by rcases hp with hp | hp <;> omega)).trans (h.other k hk hne)⟩
theorem Only.grown {T : Nat} {w w' w'' : World} {row : Option Nat} (h : Only T w w') (hg : w'.grownBy w'' row) (hr : ∀ k, row = some k → k = T ∨ w.heap.size ≤ k) : Only T w w'' :=
  ⟨hg.os.trans h.os, hg.tape.trans h.tape, hg.output.trans h.output, Nat.le_trans h.size hg.size, fun k hk hne => (hg.block k (Nat.lt_of_lt_of_le hk h.size) (fun e => by rcases hr k e.symm with h | h <;> omega)).trans (h.other k hk hne)⟩
theorem Only.below {T : Nat} {w w' : World} (h : Only T w w') {B : Nat} (hB : B ≤ w.heap.size) (hT : B ≤ T) : Below B w w' := ⟨h.os, h.tape, h.output, h.size, fun k hk => h.other k (by omega) (by omega)⟩
theorem Only.blk {T : Nat} {w w' : World} (h : Only T w w') {g : Nat} {t : TypeId} {cs : Array Value} (hb : Blk w g t cs) (hne : g ≠ T) : Blk w' g t cs := (h.other g hb.lt hne).trans hb
end Go.Proofs.Ythjkeefdeeljoaa
