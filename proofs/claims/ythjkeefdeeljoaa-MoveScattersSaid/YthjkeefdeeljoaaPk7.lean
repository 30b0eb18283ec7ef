/- The frame's lemmas for cells: struct{int64; bool}, by value and in slices. -/
import Derived.Test.YthjkeefdeeljoaaPk4
import Derived.Test.YthjkeefdeeljoaaPk6
namespace Go.Proofs.Ythjkeefdeeljoaa.Frame
open Go.ChangeShapes Go.WideShapes Go.RowKit Go.Deep Go.Proofs.Ythjkeefdeeljoaa.Cl
section
variable {H : Type} {enc : TypeId × Value → H} {P : Program} {w : World} {base : Nat} {spare : Nat → Bool} {held : Bool}
theorem cell_cells {e : TypeId} {f0 f1 : Field} {fuel : Nat} {cs : List Value} {y : DataW H × List MemPlace} (he : P.underlying e = some (.struct #[f0, f1])) (hone : oneCellFields P #[f0, f1] = true) (hC : P.cellsOf e = 2)
    (h0 : P.underlying f0.type = some (.int .i64)) (h1 : P.underlying f1.type = some .bool) (h : DataW.trod enc P w base spare held fuel e cs = some y) : ∃ c : Cell, cs = ce c ∧ True := by
  obtain ⟨ys, n, _, _, hl, hyl, hf⟩ := DataW.trod_struct he h
  rw [hC] at hl
  match cs, hl with
  | [c0, c1], _ =>
    obtain ⟨o0, k0⟩ := hone_of hone 0 f0 rfl
    obtain ⟨o1, k1⟩ := hone_of hone 1 f1 rfl
    have g0 := hf 0 f0 rfl
    have g1 := hf 1 f1 rfl
    rw [o0, k0] at g0
    rw [o1, k1] at g1
    have hy : ys.length = 2 := hyl
    match ys, hy with
    | [y0, y1], _ =>
      obtain ⟨a, e0, _, w0⟩ := DataW.trod_int h0 (x := y0) (by simpa using g0)
      obtain ⟨b, e1, _⟩ := DataW.trod_bool h1 (x := y1) (by simpa using g1)
      simp only [List.cons.injEq, and_true] at e0 e1
      subst e0; subst e1
      exact ⟨(a, b), rfl, trivial⟩
theorem open_cell {r : Reach} {b0 : Nat} {t : TypeId} {f0 f1 : Field} {v : Value} {d : DataW H} {p : List MemPlace} (he : P.underlying t = some (.struct #[f0, f1])) (hone : oneCellFields P #[f0, f1] = true) (hC : P.cellsOf t = 2)
    (h0 : P.underlying f0.type = some (.int .i64)) (h1 : P.underlying f1.type = some .bool) (hv : Value.okWide P w r b0 t v) (h : DataW.Trod enc P w base spare held t v d p) : ∃ c : Cell, v = .agg #[.int .i64 c.1, .bool c.2] := by
  obtain ⟨cs, rfl, hsz⟩ := okWide_struct he hv
  obtain ⟨fuel, hf⟩ := h
  obtain ⟨c, hc, _⟩ := cell_cells he hone hC h0 h1 hf
  refine ⟨c, ?_⟩
  have : cs.toList = ce c := by simpa [Value.cells] using hc
  congr 1
  apply Array.toList_inj.1
  rw [this]; rfl
theorem open_cellrow {t e : TypeId} {f0 f1 : Field} {a : Option Addr} {len cap : Nat} {d : DataW H} {ps : List MemPlace} (hu : P.underlying t = some (.slice e)) (he : P.underlying e = some (.struct #[f0, f1])) (hone : oneCellFields P #[f0, f1] = true) (hC : P.cellsOf e = 2)
    (h0 : P.underlying f0.type = some (.int .i64)) (h1 : P.underlying f1.type = some .bool) (h : DataW.Trod enc P w base spare held t (.slice a len cap) d ps) : ∃ xs : List Cell, xs.length = len ∧ len ≤ cap ∧ Shows w a (xs.flatMap ce) := by
  obtain ⟨xs, h2, h3, _, h4, _⟩ := open_elems ce (fun _ => True) 2 (by omega) (fun _ => rfl) hu hC (fun {fuel cells y} h => cell_cells he hone hC h0 h1 h) h
  exact ⟨xs, h2, h3, h4⟩
end
end Go.Proofs.Ythjkeefdeeljoaa.Frame
