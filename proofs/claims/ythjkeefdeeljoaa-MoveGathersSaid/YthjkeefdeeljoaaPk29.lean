/- A region that draws its order, by an invariant: what is known when just these operations have run. -/
import Derived.Test.YthjkeefdeeljoaaPk3
import Derived.OrdersIn
namespace Go.Proofs.Ythjkeefdeeljoaa
open Go Go.RowKit
set_option linter.unusedVariables false

/-- Each operation waits for earlier ones alone. -/
def lowB (md : Region.Mode) (ops : Array Oper) : Bool := (List.range ops.size).all fun i => match ops[i]? with | none => true | some o => o.after.all fun e => !Region.binds md e || decide (e.on < i)
theorem lowB_spec {md : Region.Mode} {ops : Array Oper} (h : lowB md ops = true) {i : Nat} {o : Oper} (hi : ops[i]? = some o) : ∀ e ∈ o.after, Region.binds md e = true → e.on < i := fun e he hb => by
  have hlt : i < ops.size := (Array.getElem?_eq_some_iff.1 hi).1
  have h1 := List.all_eq_true.1 h i (List.mem_range.2 hlt)
  rw [hi] at h1
  have h2 := Array.all_eq_true'.1 h1 e he
  rw [hb] at h2
  simpa using h2
theorem none_ready {md : Region.Mode} {ops : Array Oper} (hl : lowB md ops = true) {listed : Array Bool} (hs : listed.size = ops.size) (hr : Region.ready md ops listed = []) : ∀ i, i < ops.size → listed.getD i false = true := by
  intro i
  induction i using Nat.strongRecOn with
  | _ i ih =>
    intro hi
    cases hc : listed.getD i false with
    | true => rfl
    | false =>
      exfalso
      have h1 : i ∈ Region.ready md ops listed := mem_ready.2 ⟨by simp [Array.getD, hs, hi] at hc ⊢; exact hc, ops[i], Array.getElem?_eq_getElem hi, fun e he hb => ih e.on (lowB_spec hl (Array.getElem?_eq_getElem hi) e he hb) (by have := lowB_spec hl (Array.getElem?_eq_getElem hi) e he hb; omega)⟩
      rw [hr] at h1
      cases h1
section
variable {P : Program} {Q : Exit → Act → World → Prop}
theorem wpAny_inv {md : Region.Mode} {ops : Array Oper} (R : (Nat → Bool) → Act → World → Prop) (hl : lowB md ops = true)
    (hstep : ∀ (L : Nat → Bool) (a : Act) (w : World) (i : Nat) (o : Oper), ops[i]? = some o → L i = false → (∀ e ∈ o.after, Region.binds md e = true → L e.on = true) → R L a w → ∀ K : Act → World → Prop, (∀ a' w', R (fun j => if j = i then true else L j) a' w' → K a' w') →
      if Region.wanted o (yielded ops a.tmps) = true then o.wp P a w K Q else K (a.put o.dst undef) w)
    (hdone : ∀ (L : Nat → Bool) (a : Act) (w : World), (∀ i, i < ops.size → L i = true) → R L a w → Q .normal a w) :
    ∀ (f : Nat) (listed : Array Bool) (a : Act) (w : World), listed.size = ops.size → listed.toList.countP (fun b => !b) ≤ f → R (fun i => listed.getD i false) a w → wpAny P md ops Q f listed a w := by
  intro f
  induction f with
  | zero =>
    intro listed a w hs hc hr
    have hall : ∀ i, i < ops.size → listed.getD i false = true := fun i hi => by
      have h0 : listed.toList.countP (fun b => !b) = 0 := by omega
      have h1 := List.countP_eq_zero.1 h0 (listed[i]'(by omega)) (by simp)
      simp [Array.getD, hs, hi]
      simpa using h1
    refine ⟨?_, hdone _ a w hall hr⟩
    rw [List.eq_nil_iff_forall_not_mem]
    intro j hj
    obtain ⟨h1, o, ho, _⟩ := mem_ready.1 hj
    have hlt : j < ops.size := (Array.getElem?_eq_some_iff.1 ho).1
    have h2 := hall j hlt
    simp [Array.getD, hs, hlt] at h1 h2
    rw [h1] at h2
    cases h2
  | succ f ih =>
    intro listed a w hs hc hr
    refine ⟨fun h => hdone _ a w (none_ready hl hs h) hr, fun i hi => ?_⟩
    obtain ⟨h1, o, ho, hall⟩ := mem_ready.1 hi
    have hlt : i < ops.size := (Array.getElem?_eq_some_iff.1 ho).1
    have hli : listed[i]'(by omega) = false := by simpa [Array.getD, hs, hlt] using h1
    have h := hstep _ a w i o ho (by simp [Array.getD, hs, hlt, hli]) hall hr (wpAny P md ops Q f (listed.setIfInBounds i true)) (fun a' w' hr' => by
      refine ih _ a' w' (by simp [hs]) ?_ ?_
      · rw [Array.toList_setIfInBounds, List.countP_set (by simpa [hs] using hlt)]
        have : listed.toList[i]'(by simpa [hs] using hlt) = false := by simpa using hli
        rw [this]
        have hpos : 0 < listed.toList.countP (fun b => !b) := List.countP_pos_iff.2 ⟨false, by rw [← this]; exact List.getElem_mem _, rfl⟩
        generalize listed.toList.countP (fun b => !b) = c at *
        simp
        omega
      · have e : (fun j => (listed.setIfInBounds i true).getD j false) = fun j => if j = i then true else listed.getD j false := by
          funext j
          by_cases hj : j = i
          · subst hj; simp [Array.getD, hs, hlt]
          · rw [if_neg hj]
            exact getD_set_ne false (Ne.symm hj)
        rw [e]
        exact hr')
    unfold wpOp
    simp only [ho]
    split
    · rename_i hw
      rw [if_pos hw] at h
      exact .inl h
    · rename_i hw
      rw [if_neg hw] at h
      exact h
theorem wp_region_inv {id : Nat} {a : Act} {w : World} {l : List Oper} (R : (Nat → Bool) → Act → World → Prop) (hm : P.follows .mixedOrders = true) (hl : lowB .any l.toArray = true)
    (hstep : ∀ (L : Nat → Bool) (a : Act) (w : World) (i : Nat) (o : Oper), l.toArray[i]? = some o → L i = false → (∀ e ∈ o.after, Region.binds .any e = true → L e.on = true) → R L a w → ∀ K : Act → World → Prop, (∀ a' w', R (fun j => if j = i then true else L j) a' w' → K a' w') →
      if Region.wanted o (yielded l.toArray a.tmps) = true then o.wp P a w K Q else K (a.put o.dst undef) w)
    (hdone : ∀ (L : Nat → Bool) (a : Act) (w : World), (∀ i, i < l.toArray.size → L i = true) → R L a w → Q .normal a w)
    (h0 : R (fun _ => false) a w.drew) : (Code.region id l.toArray true).wp P Q a w := by
  refine wp_region_any hm ?_
  refine wpAny_inv (md := .any) R hl hstep hdone _ _ a w.drew (by simp) ?_ ?_
  · simp [List.countP_replicate]
  · have e : (fun i => (Array.replicate l.toArray.size false).getD i false) = fun _ => false := by funext i; simp only [Array.getD]; split <;> simp
    rw [e]
    exact h0
end
end Go.Proofs.Ythjkeefdeeljoaa
