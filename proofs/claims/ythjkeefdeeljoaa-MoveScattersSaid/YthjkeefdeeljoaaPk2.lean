/- The frame's lemmas for views that come in by value: two rows of numbers and a number. -/
import Derived.Test.YthjkeefdeeljoaaPk1
import Derived.SizedLaws
import Derived.ChangeSlices
import Derived.Deep.Slices
import Derived.Deep.Fields
import Derived.Carry
namespace Go.Proofs.Ythjkeefdeeljoaa.Frame
open Go.ChangeShapes Go.WideShapes Go.RowKit Go.Deep
section
variable {H : Type} {enc : TypeId × Value → H} {P : Program} {w : World} {base : Nat} {spare : Nat → Bool} {held : Bool}
theorem row_cell {t e : TypeId} {fuel : Nat} {c : Value} {y : DataW H × List MemPlace} (hu : P.underlying t = some (.slice e)) (he : P.underlying e = some (.int .i64)) (hc : P.cellsOf e = 1) (h : DataW.trod enc P w base spare held fuel t [c] = some y) :
    ∃ (a : Option Addr) (cap : Nat) (xs : List Int), c = .slice a xs.length cap ∧ xs.length ≤ cap ∧ ReadsI w .i64 a xs ∧ ∀ x ∈ xs, (Lit.int .i64 x).wf = true := by
  have hs : ∃ a len cap, c = .slice a len cap := by
    rcases open_ints hu he hc h with ⟨hcs, _⟩ | ⟨x, l, cc, zs, hcs, _⟩
    · exact ⟨_, _, _, by simpa using hcs⟩
    · exact ⟨_, _, _, by simpa using hcs⟩
  obtain ⟨a, len, cap, rfl⟩ := hs
  obtain ⟨xs, hl, hcap, hr, hw⟩ := open_row w (d := y.1) (ps := y.2) .i64 hu he hc ⟨fuel, h⟩
  subst hl
  exact ⟨a, cap, xs, rfl, hcap, hr, hw⟩
theorem open_view {r : Reach} {b0 : Nat} {t e : TypeId} {f0 f1 f2 : Field} {v : Value} {d : DataW H} {p : List MemPlace} (he : P.underlying t = some (.struct #[f0, f1, f2])) (hone : oneCellFields P #[f0, f1, f2] = true) (hC : P.cellsOf t = 3)
    (h0 : P.underlying f0.type = some (.slice e)) (h1 : P.underlying f1.type = some (.slice e)) (h2 : P.underlying f2.type = some (.int .i64)) (hi : P.underlying e = some (.int .i64)) (hic : P.cellsOf e = 1)
    (hv : Value.okWide P w r b0 t v) (h : DataW.Trod enc P w base spare held t v d p) : ∃ (A B : Option Addr) (ca cb : Nat) (xs ys : List Int) (off : Int), v = .agg #[.slice A xs.length ca, .slice B ys.length cb, .int .i64 off] ∧ ReadsI w .i64 A xs ∧ ReadsI w .i64 B ys ∧
      xs.length ≤ ca ∧ ys.length ≤ cb ∧ (∀ x ∈ xs, (Lit.int .i64 x).wf = true) ∧ (∀ x ∈ ys, (Lit.int .i64 x).wf = true) ∧ (Lit.int .i64 off).wf = true := by
  obtain ⟨cs, rfl, hsz⟩ := okWide_struct he hv
  obtain ⟨fuel, hf⟩ := h
  obtain ⟨zs, n, _, _, hl, hyl, hf⟩ := DataW.trod_struct he hf
  rw [hC] at hl
  have hcs : cs.toList.length = 3 := hl
  obtain ⟨c0, c1, c2, hc3⟩ : ∃ c0 c1 c2, cs.toList = [c0, c1, c2] := by
    match hL : cs.toList, hcs with
    | [c0, c1, c2], _ => exact ⟨c0, c1, c2, rfl⟩
  obtain ⟨o0, k0⟩ := hone_of hone 0 f0 rfl
  obtain ⟨o1, k1⟩ := hone_of hone 1 f1 rfl
  obtain ⟨o2, k2⟩ := hone_of hone 2 f2 rfl
  have g0 := hf 0 f0 rfl
  have g1 := hf 1 f1 rfl
  have g2 := hf 2 f2 rfl
  rw [o0, k0] at g0
  rw [o1, k1] at g1
  rw [o2, k2] at g2
  have hy : zs.length = 3 := hyl
  match zs, hy with
  | [y0, y1, y2], _ =>
    have hcs' : (Value.agg cs).cells.toList = [c0, c1, c2] := by simpa [Value.cells] using hc3
    rw [hcs'] at g0 g1 g2
    obtain ⟨A, ca, xs, e0, r1, r2, r3⟩ := row_cell h0 hi hic (c := c0) (y := y0) (by simpa using g0)
    obtain ⟨B, cb, ys, e1, s1, s2, s3⟩ := row_cell h1 hi hic (c := c1) (y := y1) (by simpa using g1)
    obtain ⟨m, e2, _, w2⟩ := DataW.trod_int h2 (x := y2) (by simpa using g2)
    simp only [List.cons.injEq, and_true] at e2
    subst e0; subst e1; subst e2
    refine ⟨A, B, ca, cb, xs, ys, m, ?_, r2, s2, r1, s1, r3, s3, w2⟩
    congr 1
    apply Array.toList_inj.1
    rw [hc3]
end
end Go.Proofs.Ythjkeefdeeljoaa.Frame
