/- A loop in whose rounds a range over a function stands: the marks that are left behind, and how they are taken up at the return. -/
import Derived.Test.YthjkeefdeeljoaaWords
import Derived.RangeFuncNested
import Derived.RangeFuncLeaves
namespace Go.Proofs.Ythjkeefdeeljoaa
open Go.RowKit

/-- The marks of ranges over functions that are through. -/
def marks (ds : List Nat) : List Deferred := ds.map fun D => { target := .collected D, args := #[] }
/-- W', but for the blocks ds, is as W was. -/
structure PutAll (ds : List Nat) (W W' : World) : Prop where
  os : W'.os = W.os
  tape : W'.tape = W.tape
  output : W'.output = W.output
  size : W'.heap.size = W.heap.size
  other : ∀ k, k ∉ ds → W'.heap[k]? = W.heap[k]?
theorem PutAll.refl (W : World) : PutAll [] W W := ⟨rfl, rfl, rfl, rfl, fun _ _ => rfl⟩
theorem PutAll.below {ds : List Nat} {W W' : World} (h : PutAll ds W W') {B : Nat} (hd : ∀ D ∈ ds, B ≤ D) : Below B W W' :=
  ⟨h.os, h.tape, h.output, Nat.le_of_eq h.size.symm, fun k hk => h.other k (fun hm => by have := hd k hm; omega)⟩
theorem PutAll.blk {ds : List Nat} {W W' : World} (h : PutAll ds W W') (hK : ∀ D ∈ ds, W.heap[D]? = some (.deferred (some []))) {g : Nat} {t : TypeId} {cs : Array Value} (hb : Blk W g t cs) : Blk W' g t cs := by
  unfold Blk at hb ⊢
  rw [h.other g (fun hm => by rw [hK g hm] at hb; cases hb)]
  exact hb
theorem PutAll.own {ds : List Nat} {W W' : World} (h : PutAll ds W W') (hK : ∀ D ∈ ds, W.heap[D]? = some (.deferred (some []))) {base : Nat} {e : TypeId} {size n : Nat} {v : Value} {xs : List Value} (ho : W.ownsRow base e size v n xs) : W'.ownsRow base e size v n xs := by
  refine ⟨ho.1, ?_⟩
  rcases ho.2 with hn | ⟨g, cap, cur, h1, h2, h3, h4⟩
  · exact .inl hn
  · exact .inr ⟨g, cap, cur, h1, h2, by rw [h.other g (fun hm => by rw [hK g hm] at h3; cases h3)]; exact h3, h4⟩
theorem leaves_marks {F : Fence} {n : Nat} {P : Program} {fn : Func} {tmps : Array Value} {R : Ending → World → Prop} : ∀ (ds : List Nat) (W : World), ds.Nodup → (∀ D ∈ ds, W.heap[D]? = some (.deferred (some []))) →
    (∀ W', PutAll ds W W' → LeavesInM F n P fn tmps R [] .returning W') → LeavesInM F n P fn tmps R (marks ds) .returning W
  | [], W, _, _, h => h W (PutAll.refl W)
  | D :: ds, W, hn, hK, h => by
    obtain ⟨h1, h2⟩ := List.nodup_cons.1 hn
    refine ⟨by simp, .inl ⟨_, _, rfl, run_takeDeferred (hK D (by simp)), ?_⟩⟩
    have hlt : D < W.heap.size := (Array.getElem?_eq_some_iff.1 (hK D (by simp))).1
    have hoth : ∀ k, k ≠ D → (W.putObj D (.deferred none)).heap[k]? = W.heap[k]? := fun k hk => World.putObj_heap_other hk
    refine leaves_marks ds _ h2 (fun E hE => by rw [hoth E (fun e => by subst e; exact h1 hE)]; exact hK E (List.mem_cons_of_mem _ hE)) (fun W' hp => h W' ?_)
    exact ⟨hp.os, hp.tape, hp.output, hp.size.trans (by simp [World.putObj]), fun k hk => by
      simp only [List.mem_cons, not_or] at hk
      rw [hp.other k hk.2, hoth k hk.1]⟩

/-- Temporaries written out. -/
theorem tmps_lit (t : Array Value) (n : Nat) (h : t.size = n) : t = ((List.range n).map fun i => t.getD i undef).toArray := by
  apply Array.ext
  · simp [h]
  · intro i h1 h2
    simp [h1]

theorem blk_kept {W W' : World} {row : Option Nat} {g : Nat} {t : TypeId} {cs : Array Value} (h : Blk W g t cs) (hg : W.grownBy W' row) (hr : ∀ r, row = some r → ∃ o : Obj, W.heap[r]? = some o ∧ o.isCells = false) : Blk W' g t cs := by
  refine h.grown hg (fun e => ?_)
  obtain ⟨o, h1, h2⟩ := hr g e.symm
  unfold Blk at h
  rw [h] at h1
  cases h1
  cases h2
theorem own_kept {W W' : World} {row : Option Nat} {base : Nat} {e : TypeId} {size n : Nat} {v : Value} {xs : List Value} (h : W.ownsRow base e size v n xs) (hg : W.grownBy W' row) (hr : ∀ r, row = some r → ∃ o : Obj, W.heap[r]? = some o ∧ o.isCells = false) : W'.ownsRow base e size v n xs := by
  refine ⟨h.1, ?_⟩
  rcases h.2 with hn | ⟨g, cap, cur, h1, h2, h3, h4⟩
  · exact .inl hn
  · exact .inr ⟨g, cap, cur, h1, h2, blk_kept (t := e) h3 hg hr, h4⟩
theorem ReadsI.far {w : World} {k : IntKind} {A : Option Addr} {xs : List Int} (h : ReadsI w k A xs) {p : Addr} (hp : ∀ b off, A = some ⟨b, off, none⟩ → b ≠ p.block) (u : Value) : ReadsI (w.setCell p u) k A xs := fun i hi => by
  obtain ⟨b, off, e, hc⟩ := h i hi
  exact ⟨b, off, e, (World.cell?_setCell_other _ _ _ _ (by intro e'; exact hp b off e (by rw [e']))).trans hc⟩
theorem ReadsI.kept {W W' : World} {row : Option Nat} {k : IntKind} {A : Option Addr} {xs : List Int} (h : ReadsI W k A xs) (hg : W.grownBy W' row) (hr : ∀ r, row = some r → ∃ o : Obj, W.heap[r]? = some o ∧ o.isCells = false) : ReadsI W' k A xs := fun i hi => by
  obtain ⟨b, off, e, hc⟩ := h i hi
  exact ⟨b, off, e, cell_kept hc hg hr⟩

end Go.Proofs.Ythjkeefdeeljoaa
