/- The frame's lemmas for labels that come in: by value, and in a slice. -/
import Derived.Test.YteilngkjoeaboaaLab
import Derived.SizedLaws
import Derived.ChangeSlices
import Derived.Deep.Slices
import Derived.Deep.Fields
import Derived.Carry
namespace Go.Proofs.Yteilngkjoeaboaa.Frame
open Go.ChangeShapes Go.WideShapes Go.RowKit Go.Deep Go.Proofs.Yteilngkjoeaboaa.Lb

/-- What the type says of a label that came in. -/
structure LabWf (a : Lab) : Prop where
  k0 : 0 ≤ a.k
  k1 : a.k ≤ 255
  n0 : -9223372036854775808 ≤ a.n
  n1 : a.n ≤ 9223372036854775807
theorem LabWf.ok {a : Lab} (h : LabWf a) (hs : a.s.size ≤ 1099511627776) : a.Ok := ⟨h.k0, h.k1, h.n0, h.n1, hs⟩
section
variable {H : Type} {enc : TypeId × Value → H} {P : Program} {w : World} {base : Nat} {spare : Nat → Bool} {held : Bool}
theorem lab_cells {e : TypeId} {f0 f1 f2 : Field} {fuel : Nat} {cs : List Value} {y : DataW H × List MemPlace} (he : P.underlying e = some (.struct #[f0, f1, f2])) (hone : oneCellFields P #[f0, f1, f2] = true) (hC : P.cellsOf e = 3)
    (h0 : P.underlying f0.type = some (.int .u8)) (h1 : P.underlying f1.type = some (.int .i64)) (h2 : P.underlying f2.type = some .string) (h : DataW.trod enc P w base spare held fuel e cs = some y) : ∃ a : Lab, cs = a.cs ∧ LabWf a := by
  obtain ⟨ys, n, _, _, hl, hyl, hf⟩ := DataW.trod_struct he h
  rw [hC] at hl
  match cs, hl with
  | [c0, c1, c2], _ =>
    obtain ⟨o0, k0⟩ := hone_of hone 0 f0 rfl
    obtain ⟨o1, k1⟩ := hone_of hone 1 f1 rfl
    obtain ⟨o2, k2⟩ := hone_of hone 2 f2 rfl
    have g0 := hf 0 f0 rfl
    have g1 := hf 1 f1 rfl
    have g2 := hf 2 f2 rfl
    rw [o0, k0] at g0
    rw [o1, k1] at g1
    rw [o2, k2] at g2
    have hy : ys.length = 3 := hyl
    match ys, hy with
    | [y0, y1, y2], _ =>
      obtain ⟨k, e0, _, w0⟩ := DataW.trod_int h0 (x := y0) (by simpa using g0)
      obtain ⟨m, e1, _, w1⟩ := DataW.trod_int h1 (x := y1) (by simpa using g1)
      obtain ⟨s, e2, _, _⟩ := DataW.trod_string h2 (x := y2) (by simpa using g2)
      simp only [List.cons.injEq, and_true] at e0 e1 e2
      subst e0; subst e1; subst e2
      refine ⟨⟨k, m, s⟩, rfl, ?_⟩
      simp [Lit.wf, IntKind.min, IntKind.max, IntKind.signed, IntKind.bits] at w0 w1
      exact ⟨by simp; omega, by simp; omega, by simp; omega, by simp; omega⟩
theorem open_lab {r : Reach} {b0 : Nat} {t : TypeId} {f0 f1 f2 : Field} {v : Value} {d : DataW H} {p : List MemPlace} (he : P.underlying t = some (.struct #[f0, f1, f2])) (hone : oneCellFields P #[f0, f1, f2] = true) (hC : P.cellsOf t = 3)
    (h0 : P.underlying f0.type = some (.int .u8)) (h1 : P.underlying f1.type = some (.int .i64)) (h2 : P.underlying f2.type = some .string)
    (hv : Value.okWide P w r b0 t v) (h : DataW.Trod enc P w base spare held t v d p) : ∃ a : Lab, v = a.v ∧ LabWf a := by
  obtain ⟨cs, rfl, hsz⟩ := okWide_struct he hv
  obtain ⟨fuel, hf⟩ := h
  obtain ⟨a, hc, hw⟩ := lab_cells he hone hC h0 h1 h2 hf
  refine ⟨a, ?_, hw⟩
  have : cs.toList = a.cs := by simpa [Value.cells] using hc
  unfold Lab.v
  congr 1
  apply Array.toList_inj.1
  rw [this]; rfl
theorem choose_below {α : Type} [Inhabited α] {p : Nat → α → Prop} {n : Nat} (h : ∀ i, i < n → ∃ x, p i x) : ∃ f : Nat → α, ∀ i, i < n → p i (f i) :=
  ⟨fun i => if hi : i < n then Classical.choose (h i hi) else default, fun i hi => by simp only [hi, dif_pos]; exact Classical.choose_spec (h i hi)⟩
theorem open_labs {t e : TypeId} {f0 f1 f2 : Field} {a : Option Addr} {len cap : Nat} {d : DataW H} {ps : List MemPlace}
    (hu : P.underlying t = some (.slice e)) (he : P.underlying e = some (.struct #[f0, f1, f2])) (hone : oneCellFields P #[f0, f1, f2] = true) (hC : P.cellsOf e = 3)
    (h0 : P.underlying f0.type = some (.int .u8)) (h1 : P.underlying f1.type = some (.int .i64)) (h2 : P.underlying f2.type = some .string)
    (h : DataW.Trod enc P w base spare held t (.slice a len cap) d ps) : ∃ xs : List Lab, xs.length = len ∧ len ≤ cap ∧ cap ≤ maxLen ∧ Shows w a (xs.flatMap Lab.cs) ∧ ∀ x ∈ xs, LabWf x := by
  obtain ⟨fuel, hf⟩ := h
  rcases open_slice hu hf with ⟨hcs, _⟩ | ⟨ad, l, c, m, n, D, Pl, hcs, _, hl, hm, hmm, _, hi⟩
  · simp [Value.cells] at hcs
    obtain ⟨rfl, rfl, rfl⟩ := hcs
    exact ⟨[], rfl, Nat.le_refl _, by simp [maxLen], Shows.nil _ _, fun x hx => by simp at hx⟩
  · simp [Value.cells] at hcs
    obtain ⟨rfl, rfl, rfl⟩ := hcs
    have hlm : len ≤ m := by rw [hmm]; split <;> omega
    obtain ⟨f, hfx⟩ := choose_below (α := Lab) (n := len) (p := fun i x => w.cells? base (ad.add (i * 3)) 3 = some x.cs ∧ LabWf x) (fun i hi' => by
      obtain ⟨cs', hc, ht⟩ := hi i (by omega)
      obtain ⟨x, rfl, hw⟩ := lab_cells he hone hC h0 h1 h2 ht
      rw [hC] at hc
      exact ⟨x, hc, hw⟩)
    refine ⟨(List.range len).map f, by simp, hl, hm, ?_, fun x hx => ?_⟩
    · intro i v hv
      have hlen : ((List.range len).map f).flatMap Lab.cs = (List.range len).flatMap fun j => (f j).cs := by rw [List.flatMap_map]
      rw [hlen] at hv
      have key : ∀ k i v, k ≤ len → ((List.range k).flatMap fun j => (f j).cs)[i]? = some v → i < k * 3 ∧ ∃ j r, j < k ∧ i = j * 3 + r ∧ r < 3 ∧ (f j).cs[r]? = some v := by
        intro k
        induction k with
        | zero => intro i v _ h; simp at h
        | succ k ih =>
          intro i v hk h
          rw [List.range_succ, List.flatMap_append] at h
          have hl3 : ((List.range k).flatMap fun j => (f j).cs).length = k * 3 := by
            clear h ih
            induction k with
            | zero => simp
            | succ k ih => rw [List.range_succ, List.flatMap_append, List.length_append, ih (by omega)]; simp [Lab.cs]; omega
          by_cases c : i < k * 3
          · rw [List.getElem?_append_left (by rw [hl3]; exact c)] at h
            obtain ⟨h5, j, r, h6, h7, h8, h9⟩ := ih i v (by omega) h
            exact ⟨by omega, j, r, by omega, h7, h8, h9⟩
          · rw [List.getElem?_append_right (by rw [hl3]; omega), hl3] at h
            simp only [List.flatMap_cons, List.flatMap_nil, List.append_nil] at h
            have hr : i - k * 3 < 3 := by
              have := (List.getElem?_eq_some_iff.1 h).1
              simpa [Lab.cs] using this
            exact ⟨by omega, k, i - k * 3, by omega, by omega, hr, h⟩
      obtain ⟨_, j, r, hj, rfl, hr, hcv⟩ := key len i v (Nat.le_refl _) hv
      obtain ⟨_, _, hat⟩ := World.cells?_some (hfx j hj).1
      have hcell := hat r (by omega)
      rw [hcv] at hcell
      have hsp : ad.spot = none := by
        obtain ⟨_, _, hat0⟩ := World.cells?_some (hfx 0 (by omega)).1
        have h0 := hat0 0 (by omega)
        rw [Nat.zero_mul] at h0
        have e0 : (ad.add 0).add 0 = ad := by simp [Addr.add]
        rw [e0] at h0
        unfold World.cell? at h0
        split at h0
        · split at h0
          · simp [Lab.cs] at h0
          · rename_i hs; simpa using hs
        · simp [Lab.cs] at h0
      obtain ⟨b, off, sp⟩ := ad
      simp only at hsp
      subst hsp
      refine ⟨b, off, rfl, ?_⟩
      have e1 : ((⟨b, off, none⟩ : Addr).add (j * 3)).add r = ⟨b, off + (j * 3 + r), none⟩ := by
        have h1 : ∀ o k, (⟨b, o, none⟩ : Addr).add k = ⟨b, o + k, none⟩ := fun o k => by unfold Addr.add; split <;> simp_all
        rw [h1, h1, Nat.add_assoc]
      rwa [e1] at hcell
    · obtain ⟨j, hj, rfl⟩ := List.mem_map.1 hx
      exact (hfx j (by simpa using hj)).2
end
end Go.Proofs.Yteilngkjoeaboaa.Frame
