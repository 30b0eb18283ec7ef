/- Contracts and lemmas that the row of this claim stands on: RColl, Offs8. -/
import Derived.Test.YthjkeefdeeljoaaROffs
import Derived.Test.YthjkeefdeeljoaaOffsets
/- The document's Collect. -/
namespace Go.Proofs.Ythjkeefdeeljoaa.Shp
open Go.RowKit Go.Proofs.Ythjkeefdeeljoaa.Num
set_option linter.unusedVariables false
set_option linter.unusedSimpArgs false

/-- Where all cells of a view stand. -/
def offsL (xs ys : List Int) (off : Int) : List Int := (List.range (cellsN xs ys off)).map (plO xs ys off)
theorem offsL_length (xs ys : List Int) (off : Int) : (offsL xs ys off).length = cellsN xs ys off := by simp [offsL]
theorem cellsN_prod {xs ys : List Int} {off : Int} (hv : vrB xs ys off = true) : prod xs = (cellsN xs ys off : Int) := by
  unfold cellsN
  rw [if_pos hv]
  have h1 := (vrB_out hv).1
  unfold sizeOk at h1
  simp only [Bool.and_eq_true] at h1
  have := prod_nonneg xs (fun x hx => ((rightB_mem h1.1).2 x hx).1)
  omega
theorem rcoll_calls (xs ys : List Int) (off : Int) (A B : Option Addr) (ca cb n m : Nat) (w : World) (hx : ReadsI w .i64 A xs) (hy : ReadsI w .i64 B ys) (hn : xs.length = n) (hm : ys.length = m) (hl : n ≤ 1000000) (hl2 : m ≤ 1000000) :
    Calls Try.prog 11 #[.agg #[.slice A n ca, .slice B m cb, .int .i64 off]] w fun e w' => (∃ A' c', e = .returned (.slice A' (offsL xs ys off).length c') ∧ ReadsI w' .i64 A' (offsL xs ys off)) ∧ Below w.heap.size w w' := by
  have HB0 : Hid (Below w.heap.size w (w.alloc (.cells #[.slice A n ca, .slice B m cb, .int .i64 off] 24))) := Lib.hid (bl_alloc (Below.refl _ _) _)
  have hR := rvright_calls xs ys off A B ca cb n m _ (hx.below HB0.out) (hy.below HB0.out) hn hm hl hl2
  have hbx : Blk (w.alloc (.cells #[.slice A n ca, .slice B m cb, .int .i64 off] 24)) w.heap.size 24 #[.slice A n ca, .slice B m cb, .int .i64 off] := Blk.new _ _ _
  have HBX := Lib.hid hbx
  have HX := Lib.hid hx
  have HY := Lib.hid hy
  cases hv : vrB xs ys off with
  | false =>
    have e1 : offsL xs ys off = [] := by unfold offsL cellsN; rw [if_neg (by rw [hv]; simp)]; rfl
    rw [hv] at hR
    rw [e1]
    have HR := Lib.hid hR
    clear hx hy hn hm hbx hR hv e1
    go_enter Try.func11, Try.ntmps11
    go_wp2_with fail
    refine HR.out.mono ?_
    rintro e w1 ⟨rfl, hB⟩
    have HB := Lib.hid (bl_then HB0.out hB)
    clear hB
    go_wp2_with fail
    go_ret
    exact ⟨⟨none, 0, rfl, fun i hi => by simp at hi⟩, HB.out⟩
  | true =>
    have HO := Lib.hid (fun w' h h' => roffs_calls xs ys off A B ca cb n m (cellsN xs ys off) w' h h' hn hm hv (cellsN_prod hv))
    rw [hv] at hR
    have HR := Lib.hid hR
    clear hx hy hn hm hbx hR hv
    go_enter Try.func11, Try.ntmps11
    go_wp2_with fail
    refine HR.out.mono ?_
    rintro e w1 ⟨rfl, hB⟩
    have hb1 := HBX.out.below' hB
    have c0 : w1.cell? ⟨w.heap.size, 0, none⟩ = some (.slice A n ca) := hb1.cell 0
    have c1 : w1.cell? ⟨w.heap.size, 1, none⟩ = some (.slice B m cb) := hb1.cell 1
    have c2 : w1.cell? ⟨w.heap.size, 2, none⟩ = some (.int .i64 off) := hb1.cell 2
    have HB := Lib.hid (bl_then HB0.out hB)
    clear hB hb1
    go_wp2_with fail
    refine (HO.out _ (HX.out.below HB.out) (HY.out.below HB.out)).mono ?_
    rintro e w2 ⟨⟨v, rfl, hsh⟩, hB⟩
    have HSH := Lib.hid hsh
    have HB2 := Lib.hid (bl_then HB.out hB)
    clear hB hsh
    go_wp2_with fail
    go_ret
    obtain ⟨A', c', rfl, _, hr⟩ := HSH.out
    exact ⟨⟨A', c', rfl, hr⟩, HB2.out⟩
end Go.Proofs.Ythjkeefdeeljoaa.Shp
/- law08: offsets. -/
namespace Go.Proofs.Ythjkeefdeeljoaa.Shp
open Go.RowKit
set_option linter.unusedVariables false
set_option linter.unusedSimpArgs false

theorem offs8_calls (xs ys : List Int) (off : Int) (A B : Option Addr) (ca cb n m : Nat) (w : World) (hx : ReadsI w .i64 A xs) (hy : ReadsI w .i64 B ys) (hn : xs.length = n) (hm : ys.length = m) (hv : vrB xs ys off = true) :
    Calls Try.prog 29 #[.agg #[.slice A n ca, .slice B m cb, .int .i64 off]] w fun e w' => (∃ A' c', e = .returned (.slice A' (offsL xs ys off).length c') ∧ ReadsI w' .i64 A' (offsL xs ys off)) ∧ Below w.heap.size w w' := by
  have HB0 : Hid (Below w.heap.size w (w.alloc (.cells #[.slice A n ca, .slice B m cb, .int .i64 off] 34))) := Lib.hid (bl_alloc (Below.refl _ _) _)
  have HO := Lib.hid (roffs_calls xs ys off A B ca cb n m (cellsN xs ys off) _ (hx.below HB0.out) (hy.below HB0.out) hn hm hv (cellsN_prod hv))
  clear hx hy hn hm hv
  go_enter Try.func29, Try.ntmps29
  go_wp2_with fail
  refine HO.out.mono ?_
  rintro e w2 ⟨⟨v, rfl, hsh⟩, hB⟩
  have HSH := Lib.hid hsh
  have HB2 := Lib.hid (bl_then HB0.out hB)
  clear hB hsh
  go_wp2_with fail
  go_ret
  obtain ⟨A', c', rfl, _, hr⟩ := HSH.out
  exact ⟨⟨A', c', rfl, hr⟩, HB2.out⟩
end Go.Proofs.Ythjkeefdeeljoaa.Shp
