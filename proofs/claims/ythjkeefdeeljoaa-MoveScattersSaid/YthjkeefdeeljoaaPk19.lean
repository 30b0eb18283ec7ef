/- Contracts and lemmas that the row of this claim stands on: Leave, Range. -/
import Derived.Test.YthjkeefdeeljoaaPk3
import Derived.RangeFuncNested
import Derived.RangeFuncLeaves
/- A loop in whose rounds a range over a function stands: the marks that are left behind, and how they are taken up at the return. -/
namespace Go.Proofs.Ythjkeefdeeljoaa
open Go.RowKit

/-- The marks of ranges over functions that are through. -/
def marks (ds : List Nat) : List Deferred := ds.map fun D => { target := .collected D, args := #[] }
/-- W', but for the blocks ds, is as W was. -/
structure PutAll (ds : List Nat) (W W' : World) : Prop where
  os : W'.os = W.os
  tape : W'.tape = W.tape
  output : W'.output = W.output
  size : W'.heap.size = W.heap.size
  other : ∀ k, k ∉ ds → W'.heap[k]? = W.heap[k]?
theorem PutAll.refl (W : World) : PutAll [] W W := ⟨rfl, rfl, rfl, rfl, fun _ _ => rfl⟩
theorem PutAll.below {ds : List Nat} {W W' : World} (h : PutAll ds W W') {B : Nat} (hd : ∀ D ∈ ds, B ≤ D) : Below B W W' :=
  ⟨h.os, h.tape, h.output, Nat.le_of_eq h.size.symm, fun k hk => h.other k (fun hm => by have := hd k hm; omega)⟩
theorem PutAll.blk {ds : List Nat} {W W' : World} (h : PutAll ds W W') (hK : ∀ D ∈ ds, W.heap[D]? = some (.deferred (some []))) {g : Nat} {t : TypeId} {cs : Array Value} (hb : Blk W g t cs) : Blk W' g t cs := by
  unfold Blk at hb ⊢
  rw [h.other g (fun hm => by rw [hK g hm] at hb; cases hb)]
  exact hb
theorem PutAll.own {ds : List Nat} {W W' : World} (h : PutAll ds W W') (hK : ∀ D ∈ ds, W.heap[D]? = some (.deferred (some []))) {base : Nat} {e : TypeId} {size n : Nat} {v : Value} {xs : List Value} (ho : W.ownsRow base e size v n xs) : W'.ownsRow base e size v n xs := by
  refine ⟨ho.1, ?_⟩
  rcases ho.2 with hn | ⟨g, cap, cur, h1, h2, h3, h4⟩
  · exact .inl hn
  · exact .inr ⟨g, cap, cur, h1, h2, by rw [h.other g (fun hm => by rw [hK g hm] at h3; cases h3)]; exact h3, h4⟩
theorem leaves_marks {F : Fence} {n : Nat} {P : Program} {fn : Func} {tmps : Array Value} {R : Ending → World → Prop} : ∀ (ds : List Nat) (W : World), ds.Nodup → (∀ D ∈ ds, W.heap[D]? = some (.deferred (some []))) →
    (∀ W', PutAll ds W W' → LeavesInM F n P fn tmps R [] .returning W') → LeavesInM F n P fn tmps R (marks ds) .returning W
  | [], W, _, _, h => h W (PutAll.refl W)
  | D :: ds, W, hn, hK, h => by
    obtain ⟨h1, h2⟩ := List.nodup_cons.1 hn
    refine ⟨by simp, .inl ⟨_, _, rfl, run_takeDeferred (hK D (by simp)), ?_⟩⟩
    have hlt : D < W.heap.size := (Array.getElem?_eq_some_iff.1 (hK D (by simp))).1
    have hoth : ∀ k, k ≠ D → (W.putObj D (.deferred none)).heap[k]? = W.heap[k]? := fun k hk => World.putObj_heap_other hk
    refine leaves_marks ds _ h2 (fun E hE => by rw [hoth E (fun e => by subst e; exact h1 hE)]; exact hK E (List.mem_cons_of_mem _ hE)) (fun W' hp => h W' ?_)
    exact ⟨hp.os, hp.tape, hp.output, hp.size.trans (by simp [World.putObj]), fun k hk => by
      simp only [List.mem_cons, not_or] at hk
      rw [hp.other k hk.2, hoth k hk.1]⟩

/-- Temporaries written out. -/
theorem tmps_lit (t : Array Value) (n : Nat) (h : t.size = n) : t = ((List.range n).map fun i => t.getD i undef).toArray := by
  apply Array.ext
  · simp [h]
  · intro i h1 h2
    simp [h1]

theorem blk_kept {W W' : World} {row : Option Nat} {g : Nat} {t : TypeId} {cs : Array Value} (h : Blk W g t cs) (hg : W.grownBy W' row) (hr : ∀ r, row = some r → ∃ o : Obj, W.heap[r]? = some o ∧ o.isCells = false) : Blk W' g t cs := by
  refine h.grown hg (fun e => ?_)
  obtain ⟨o, h1, h2⟩ := hr g e.symm
  unfold Blk at h
  rw [h] at h1
  cases h1
  cases h2
theorem own_kept {W W' : World} {row : Option Nat} {base : Nat} {e : TypeId} {size n : Nat} {v : Value} {xs : List Value} (h : W.ownsRow base e size v n xs) (hg : W.grownBy W' row) (hr : ∀ r, row = some r → ∃ o : Obj, W.heap[r]? = some o ∧ o.isCells = false) : W'.ownsRow base e size v n xs := by
  refine ⟨h.1, ?_⟩
  rcases h.2 with hn | ⟨g, cap, cur, h1, h2, h3, h4⟩
  · exact .inl hn
  · exact .inr ⟨g, cap, cur, h1, h2, blk_kept (t := e) h3 hg hr, h4⟩
theorem ReadsI.far {w : World} {k : IntKind} {A : Option Addr} {xs : List Int} (h : ReadsI w k A xs) {p : Addr} (hp : ∀ b off, A = some ⟨b, off, none⟩ → b ≠ p.block) (u : Value) : ReadsI (w.setCell p u) k A xs := fun i hi => by
  obtain ⟨b, off, e, hc⟩ := h i hi
  exact ⟨b, off, e, (World.cell?_setCell_other _ _ _ _ (by intro e'; exact hp b off e (by rw [e']))).trans hc⟩
theorem ReadsI.kept {W W' : World} {row : Option Nat} {k : IntKind} {A : Option Addr} {xs : List Int} (h : ReadsI W k A xs) (hg : W.grownBy W' row) (hr : ∀ r, row = some r → ∃ o : Obj, W.heap[r]? = some o ∧ o.isCells = false) : ReadsI W' k A xs := fun i hi => by
  obtain ⟨b, off, e, hc⟩ := h i hi
  exact ⟨b, off, e, cell_kept hc hg hr⟩

end Go.Proofs.Ythjkeefdeeljoaa
/- A range over an iterator that may keep blocks of its own: its elements come one by one, in a known order. -/
namespace Go.Proofs.Ythjkeefdeeljoaa
open Go Go.RowKit
set_option linter.unusedVariables false

/-- Only blocks of G, and what holds no cells (from B on), may have changed. -/
structure Drift (B : Nat) (G : Nat → Prop) (W W' : World) : Prop where
  os : W'.os = W.os
  tape : W'.tape = W.tape
  output : W'.output = W.output
  size : W.heap.size ≤ W'.heap.size
  low : ∀ k, k < B → W'.heap[k]? = W.heap[k]?
  cells : ∀ k o, W.heap[k]? = some o → o.isCells = true → ¬ G k → W'.heap[k]? = some o
section
variable {B : Nat} {G : Nat → Prop} {X Y Z : World}
theorem Drift.refl (B : Nat) (G : Nat → Prop) (X : World) : Drift B G X X := ⟨rfl, rfl, rfl, Nat.le_refl _, fun _ _ => rfl, fun _ _ h _ _ => h⟩
theorem Drift.trans (h : Drift B G X Y) (k : Drift B G Y Z) : Drift B G X Z :=
  ⟨k.os.trans h.os, k.tape.trans h.tape, k.output.trans h.output, Nat.le_trans h.size k.size, fun j hj => (k.low j hj).trans (h.low j hj), fun j o hj ho hg => k.cells j o (h.cells j o hj ho hg) ho hg⟩
theorem Drift.mono {B' : Nat} (h : Drift B G X Y) (hb : B' ≤ B) : Drift B' G X Y := ⟨h.os, h.tape, h.output, h.size, fun k hk => h.low k (by omega), h.cells⟩
theorem Drift.of_below (h : Below X.heap.size X Y) (hb : B ≤ X.heap.size) : Drift B G X Y :=
  ⟨h.os, h.tape, h.output, h.size, fun k hk => h.block k (by omega), fun k o hk _ _ => (h.block k (Array.getElem?_eq_some_iff.1 hk).1).trans hk⟩
theorem Drift.of_only {T : Nat} (h : Only T X Y) (hb : B ≤ X.heap.size) (hT : B ≤ T) (hG : G T) : Drift B G X Y :=
  ⟨h.os, h.tape, h.output, h.size, fun k hk => h.other k (by omega) (by omega), fun k o hk _ hg => (h.other k (Array.getElem?_eq_some_iff.1 hk).1 (fun e => hg (by rw [e]; exact hG))).trans hk⟩
theorem Drift.put {l : Nat} {o : Obj} (o' : Obj) (hl : B ≤ l) (h : X.heap[l]? = some o) (h1 : o.isCells = false) : Drift B G X (X.putObj l o') :=
  ⟨rfl, rfl, rfl, by simp [World.putObj], fun k hk => World.putObj_heap_other (by omega), fun k ob hk ho _ => by
    have hne : k ≠ l := fun e => by subst e; rw [h] at hk; cases hk; rw [h1] at ho; cases ho
    exact (World.putObj_heap_other hne).trans hk⟩
theorem Drift.cell (h : Drift B G X Y) {a : Addr} {v : Value} (hc : X.cell? a = some v) (ha : ¬ G a.block) : Y.cell? a = some v := by
  cases hb : X.heap[a.block]? with
  | none => simp [World.cell?, hb] at hc
  | some o =>
    have ho : o.isCells = true := by
      cases o <;> first | rfl | (simp [World.cell?, hb] at hc)
    have := h.cells _ _ hb ho ha
    rw [World.cell?_of_block (this.trans hb.symm)]
    exact hc
theorem Drift.blk (h : Drift B G X Y) {g : Nat} {t : TypeId} {cs : Array Value} (hb : Blk X g t cs) (hg : ¬ G g) : Blk Y g t cs := h.cells _ _ hb rfl hg
theorem Drift.reads (h : Drift B G X Y) {k : IntKind} {A : Option Addr} {xs : List Int} (hr : ReadsI X k A xs) (hA : ∀ b off, A = some ⟨b, off, none⟩ → ¬ G b) : ReadsI Y k A xs := fun i hi => by
  obtain ⟨b, off, e, hc⟩ := hr i hi
  exact ⟨b, off, e, h.cell hc (hA b off e)⟩
end

/-- An iterator that yields es 0, es 1, .. es (N - 1), by blocks of its own (G); Kp: what a round must keep. -/
def SeqAt (F : Fence) (n : Nat) (P : Program) (g : Nat) (lb : Array Value) (es : Nat → Array Value) (N : Nat) (Kp : (Nat → Prop) → World → World → Prop) (w : World) : Prop :=
  ∀ (l : Nat) (J Jx : (Nat → Prop) → Nat → World → Prop) (W : World), Below w.heap.size w W →
    (∀ G k A B, (∀ b, G b → W.heap.size ≤ b) → J G k A → Drift W.heap.size G A B → J G k B) →
    (∀ G k A B, (∀ b, G b → W.heap.size ≤ b) → Jx G k A → Drift W.heap.size G A B → Jx G k B) →
    (∀ G k W1, (∀ b, G b → W.heap.size ≤ b ∧ b < W1.heap.size) → J G k W1 → k < N → YieldAt F (n - 1) P l (es k) W1 fun e W' =>
      (e = .returned (.bool true) ∧ J G (k + 1) W' ∧ Kp G W1 W') ∨ (e = .returned (.bool false) ∧ Jx G (k + 1) W')) →
    (∀ G W1, Below W.heap.size W W1 → (∀ b, G b → W.heap.size ≤ b) → J G 0 W1) →
    CallsIn F n P g (#[.func (.yield l) #[] #[]] ++ lb) W fun e W' => (∃ v, e = .returned v) ∧ ∃ G : Nat → Prop, (∀ b, G b → W.heap.size ≤ b) ∧ (J G N W' ∨ ∃ k, k < N ∧ Jx G (k + 1) W')

/-- How the body of a round may be left. -/
def atPost (B : Nat) (G : Nat → Prop) (Kp : (Nat → Prop) → World → World → Prop) (I : (Nat → Prop) → Nat → World → Prop) (Ix : (Nat → Prop) → Code → Nat → World → Prop) (k : Nat) (W : World) : Exit → Act → World → Prop
  | .normal, _, W' => KeepsFrom B W W' ∧ Kp G W W' ∧ I G (k + 1) W'
  | .ret, _, W' => KeepsFrom B W W' ∧ Ix G .ret (k + 1) W'
  | .exit id, _, W' => KeepsFrom B W W' ∧ Ix G (.exit id) (k + 1) W'
  | .goto t, _, W' => KeepsFrom B W W' ∧ Ix G (.goto t) (k + 1) W'
  | .panic _, _, _ => False
  | .outgrown, _, _ => False

theorem keeps_below {B : Nat} {W W' : World} (h : Below W.heap.size W W') : KeepsFrom B W W' := ⟨h.size, fun k o _ hk _ => (h.block k (Array.getElem?_eq_some_iff.1 hk).1).trans hk⟩
theorem keeps_only {B T : Nat} {W W' : World} {t : TypeId} {cs : Array Value} (h : Only T W W') (hT : Blk W T t cs) : KeepsFrom B W W' := ⟨h.size, fun k o _ hk ho => (h.other k (Array.getElem?_eq_some_iff.1 hk).1 (fun e => by
  subst e
  rw [show W.heap[k]? = some (.cells cs t (0, 0)) from hT] at hk
  cases hk
  cases ho)).trans hk⟩

variable {F : Fence} {n : Nat} {P : Program} {w : World}
/-- The law of such a loop, where no loop of its kind is around it. -/
theorem wpIn_rangeFunc_at {g : Operand} {ps : Array Tmp} {assign body : Code} {Q : Exit → Act → World → Prop} {a : Act}
    (hro : F.round = none) (h1 : 1 ≤ n) {gf : Nat} {lb : Array Value} (hg : a.eval g = .func (.func gf) #[] lb) (hFg : F.fn gf) (eg : ∀ args w, (callFunc gf args).run P w = .ok (.enter gf args) w)
    {es : Nat → Array Value} {Kp : (Nat → Prop) → World → World → Prop} {N : Nat} {w0 : World} (hseq : SeqAt F (n - 1) P gf lb es N Kp w0)
    (hKt : ∀ {G : Nat → Prop} {A B C : World}, Kp G A B → Kp G B C → Kp G A C)
    (hKb : ∀ (G : Nat → Prop) (W : World) (l : Nat) (o o' : Obj), (∀ b, G b → l < b) → w.heap.size ≤ l → W.heap[l]? = some o → o.isCells = false → o.isWalk = false → Kp G W (W.putObj l o'))
    (hb0 : Below w0.heap.size w0 w) (hps : ∀ k, (es k).size = ps.size)
    (I : (Nat → Prop) → Nat → World → Prop) (Ix : (Nat → Prop) → Code → Nat → World → Prop)
    (hI : ∀ G k A B, (∀ b, G b → w.heap.size ≤ b) → I G k A → Drift w.heap.size G A B → I G k B)
    (hIx : ∀ c G k A B, (∀ b, G b → w.heap.size ≤ b) → Ix G c k A → Drift w.heap.size G A B → Ix G c k B)
    (h0 : ∀ G W1, Below w.heap.size w W1 → (∀ b, G b → w.heap.size ≤ b) → I G 0 W1) (a₁ : Nat → Act)
    (hassign : ∀ (l k : Nat) (W : World) (K : Act → World → Prop), K (a₁ k) W →
      assign.wpIn (F.inRound l) (n - 1 - 1) P (Exit.then K (fun _ _ _ => False)) { tmps := (ps.zip (es k)).foldl (fun t (p, v) => t.setIfInBounds p v) a.tmps, defers := [] } W)
    (hbody : ∀ (l k : Nat) (G : Nat → Prop) (W : World), (∀ b, G b → w.heap.size ≤ b ∧ b < W.heap.size) → w.heap.size ≤ W.heap.size → I G k W → k < N → body.wpIn (F.inRound l) (n - 1 - 1) P (atPost w.heap.size G Kp I Ix k W) (a₁ k) W)
    (hdone : ∀ (D : Nat) (G : Nat → Prop) (W : World), w.heap.size ≤ D → (∀ b, G b → w.heap.size ≤ b) → I G N W → W.heap[D]? = some (.deferred (some [])) → Q .normal { a with defers := { target := .collected D, args := #[] } :: a.defers } W)
    (hstop : ∀ (D : Nat) (c : Code) (G : Nat → Prop) (k : Nat) (W : World), w.heap.size ≤ D → (∀ b, G b → w.heap.size ≤ b) → k < N → Ix G c (k + 1) W → W.heap[D]? = some (.deferred (some [])) → c.wpIn F n P Q { a with defers := { target := .collected D, args := #[] } :: a.defers } W) :
    (Code.rangeFunc g ps assign body).wpIn F n P Q a w := by
  refine wpIn_rangeFunc ?_
  intro fn hfn
  rw [hro]
  obtain ⟨rc, hrc⟩ : ∃ rc : LoopState → Option Code → Loop, rc = fun st pe => { state := st, pending := pe, fn, tmps := a.tmps, params := ps, assign, body, defers := w.heap.size } := ⟨_, rfl⟩
  obtain ⟨V, hV⟩ : ∃ V, (w.alloc (.deferred (some []))).alloc (.loop (rc .ready none)) = V := ⟨_, rfl⟩
  have hVs : V.heap.size = w.heap.size + 2 := by rw [← hV]; simp
  have hVl : V.heap[w.heap.size + 1]? = some (.loop (rc .ready none)) := by
    have h := World.alloc_heap_new (w.alloc (.deferred (some []))) (.loop (rc .ready none))
    rw [World.size_alloc, hV] at h
    exact h
  have hVd : V.heap[w.heap.size]? = some (.deferred (some [])) := by
    rw [← hV]
    exact (Below.heap_alloc _ _ _ (by simp)).trans (World.alloc_heap_new w _)
  have hVb : Below w.heap.size w V := by rw [← hV]; exact bl_alloc (bl_alloc (Below.refl _ _) _) _
  have hb1 : Below w0.heap.size w0 V := hb0.trans (hVb.mono hb0.size)
  refine ⟨w.heap.size + 1, [{ target := .collected w.heap.size, args := #[] }], V, { target := .fn (.func gf) lb, args := #[.func (.yield (w.heap.size + 1)) #[] #[]] }, V, gf, #[.func (.yield (w.heap.size + 1)) #[] #[]] ++ lb, V, ?_, ?_, ?_, ?_, fun _ => h1, ?_⟩
  · rw [← hV, hrc]; exact run_enterLoop_outer _ _ _ _ _
  · simp only [resolve, hg]
    simp [go_sem]
  · intro f' hf'; simp [Target.leads] at hf'; subst hf'; exact hFg
  · simp [invoke, go_sem, eg]
  have hGw : ∀ G : Nat → Prop, (∀ b, G b → V.heap.size ≤ b) → ∀ b, G b → w.heap.size ≤ b := fun G h b hb => by have := h b hb; omega
  refine (hseq (w.heap.size + 1)
    (fun G k W => I G k W ∧ W.heap[w.heap.size + 1]? = some (.loop (rc .ready none)) ∧ W.heap[w.heap.size]? = some (.deferred (some [])))
    (fun G k W => ∃ c, Ix G c k W ∧ W.heap[w.heap.size + 1]? = some (.loop (rc .done (some c))) ∧ W.heap[w.heap.size]? = some (.deferred (some []))) V hb1 ?_ ?_ ?_ ?_).mono ?_
  · rintro G k A B hG ⟨i1, i2, i3⟩ hd
    exact ⟨hI G k A B (hGw G hG) i1 (hd.mono (by omega)), (hd.low _ (by omega)).trans i2, (hd.low _ (by omega)).trans i3⟩
  · rintro G k A B hG ⟨c, i1, i2, i3⟩ hd
    exact ⟨c, hIx c G k A B (hGw G hG) i1 (hd.mono (by omega)), (hd.low _ (by omega)).trans i2, (hd.low _ (by omega)).trans i3⟩
  · rintro G k W hG ⟨i1, i2, i3⟩ hk
    have hG1 : ∀ b, G b → w.heap.size ≤ b := fun b hb => by have := (hG b hb).1; omega
    have hG2 : ∀ b, G b → w.heap.size + 1 < b := fun b hb => by have := (hG b hb).1; omega
    have hlt : w.heap.size + 1 < W.heap.size := (Array.getElem?_eq_some_iff.1 i2).1
    have hy := run_yield (P := P) (args := es k) i2 (by rw [hrc]; exact hps k)
    rw [hrc] at hy
    refine ⟨fn, _, assign, body, hy, roundIn_of_wpIn hfn (hassign _ k W _ ?_)⟩
    clear hy
    refine ⟨_, run_beginRound i2 (by rw [hrc]), ?_⟩
    obtain ⟨U, hU⟩ : ∃ U, W.putObj (w.heap.size + 1) (.loop { rc .ready none with state := .busy }) = U := ⟨_, rfl⟩
    have hdU : Drift w.heap.size G W U := by rw [← hU]; exact Drift.put _ (by omega) i2 rfl
    have hUl : U.heap[w.heap.size + 1]? = some (.loop { rc .ready none with state := .busy }) := by rw [← hU]; exact World.putObj_heap_same hlt
    have hUd : U.heap[w.heap.size]? = some (.deferred (some [])) := by rw [← hU]; exact (World.putObj_heap_other (by omega)).trans i3
    have hUk : Kp G W U := by rw [← hU]; exact hKb _ _ _ _ _ hG2 (by omega) i2 rfl rfl
    have hUs : W.heap.size ≤ U.heap.size := hdU.size
    rw [hU]
    refine wpIn_mono (hbody _ k G U (fun b hb => ⟨hG1 b hb, by have := (hG b hb).2; omega⟩) (by omega) (hI G k W U hG1 i1 hdU) hk) ?_
    have fin : ∀ (jump : Option Code) (Z : World), KeepsFrom w.heap.size U Z → ∃ Z', Z' = Z.putObj (w.heap.size + 1) (.loop (rc (if jump.isNone then .ready else .done) jump)) ∧
        (Instr.endRound (w.heap.size + 1) jump).run P Z = .ok (.bool jump.isNone) Z' ∧ Drift w.heap.size G Z Z' ∧ Kp G Z Z' ∧ Z'.heap[w.heap.size + 1]? = some (.loop (rc (if jump.isNone then .ready else .done) jump)) ∧ Z'.heap[w.heap.size]? = some (.deferred (some [])) := fun jump Z hz => by
      have hzl := hz.same _ _ (by omega) hUl rfl
      have hzd := hz.same _ _ (Nat.le_refl _) hUd rfl
      have hr := run_endRound (P := P) jump hzl
      rw [hrc] at hr hzl ⊢
      exact ⟨_, rfl, hr, Drift.put _ (by omega) hzl rfl, hKb _ _ _ _ _ hG2 (by omega) hzl rfl rfl, World.putObj_heap_same (Array.getElem?_eq_some_iff.1 hzl).1, (World.putObj_heap_other (by omega)).trans hzd⟩
    rintro e a3 Z hp
    cases e with
    | normal =>
      obtain ⟨q1, q2, q3⟩ := hp
      obtain ⟨Z', _, r1, r2, r3, r4, r5⟩ := fin none Z q1
      exact ⟨_, _, r1, .inl ⟨rfl, ⟨hI _ _ _ _ hG1 q3 r2, r4, r5⟩, hKt hUk (hKt q2 r3)⟩⟩
    | ret =>
      obtain ⟨q1, q3⟩ := hp
      obtain ⟨Z', _, r1, r2, r3, r4, r5⟩ := fin (some .ret) Z q1
      exact ⟨_, _, r1, .inr ⟨rfl, .ret, hIx _ _ _ _ _ hG1 q3 r2, r4, r5⟩⟩
    | exit id =>
      obtain ⟨q1, q3⟩ := hp
      obtain ⟨Z', _, r1, r2, r3, r4, r5⟩ := fin (some (.exit id)) Z q1
      exact ⟨_, _, r1, .inr ⟨rfl, .exit id, hIx _ _ _ _ _ hG1 q3 r2, r4, r5⟩⟩
    | goto t =>
      obtain ⟨q1, q3⟩ := hp
      obtain ⟨Z', _, r1, r2, r3, r4, r5⟩ := fin (some (.goto t)) Z q1
      exact ⟨_, _, r1, .inr ⟨rfl, .goto t, hIx _ _ _ _ _ hG1 q3 r2, r4, r5⟩⟩
    | panic ch => exact hp.elim
    | outgrown => exact hp.elim
  · intro G W1 hb hG
    refine ⟨h0 G W1 (hVb.trans (hb.mono (by omega))) (hGw G hG), (hb.block _ (by omega)).trans hVl, (hb.block _ (by omega)).trans hVd⟩
  · rintro e Z ⟨⟨v, rfl⟩, G, hG, hz | ⟨k, hk, c, z1, z2, z3⟩⟩
    · obtain ⟨z1, z2, z3⟩ := hz
      have hr := run_endLoop (P := P) z2 (by rw [hrc]; simp)
      rw [hrc] at hr z2
      exact ⟨none, _, hr, hdone _ G _ (Nat.le_refl _) (hGw G hG) (hI _ _ _ _ (hGw G hG) z1 (Drift.put _ (by omega) z2 rfl)) ((World.putObj_heap_other (by omega)).trans z3)⟩
    · have hr := run_endLoop (P := P) z2 (by rw [hrc]; simp)
      rw [hrc] at hr z2
      exact ⟨some c, _, hr, hstop _ c G k _ (Nat.le_refl _) (hGw G hG) hk (hIx _ _ _ _ _ (hGw G hG) z1 (Drift.put _ (by omega) z2 rfl)) ((World.putObj_heap_other (by omega)).trans z3)⟩
end Go.Proofs.Ythjkeefdeeljoaa
