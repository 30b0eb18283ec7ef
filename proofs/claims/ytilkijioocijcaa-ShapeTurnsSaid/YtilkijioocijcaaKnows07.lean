/- knows of law07: true. -/
import Derived.Test.YtilkijioocijcaaInts07
namespace Go.Proofs.Ytilkijioocijcaa.Shp
open Go.RowKit Go.Proofs.Ytilkijioocijcaa.Num
set_option linter.unusedVariables false
set_option linter.unusedSimpArgs false
theorem readsI_at {w : World} {H : Nat} (h : w.heap.size = H) (k : IntKind) (t : TypeId) (xs : List Int) : ReadsI (w.alloc (.cells (xs.map (Value.int k)).toArray t)) k (some ⟨H, 0, none⟩) xs := by
  subst h; exact readsI_new w k t xs
set_option maxHeartbeats 400000 in
theorem knows_calls (w : World) : Calls Try.prog 5 #[] w fun e w' => e = .returned (.bool true) ∧ Below w.heap.size w w' := by
  have h1 : ReadsI (w.alloc (.cells #[.int .i64 2, .int .i64 3] 3)) .i64 (some ⟨w.heap.size, 0, none⟩) [2, 3] := readsI_at rfl .i64 3 [2, 3]
  have h2 : ReadsI ((w.alloc (.cells #[.int .i64 2, .int .i64 3] 3)).alloc (.cells #[.int .i64 1, .int .i64 2] 3)) .i64 (some ⟨w.heap.size + 1, 0, none⟩) [1, 2] := readsI_at (by simp) .i64 3 [1, 2]
  have H1 := Lib.hid (h1.below (bl_alloc (Below.refl _ _) (.cells #[.int .i64 1, .int .i64 2] 3)))
  have H2 := Lib.hid h2
  have HB0 : Hid (Below w.heap.size w ((w.alloc (.cells #[.int .i64 2, .int .i64 3] 3)).alloc (.cells #[.int .i64 1, .int .i64 2] 3))) := Lib.hid (bl_alloc (bl_alloc (Below.refl _ _) _) _)
  clear h1 h2
  go_enter Try.func5, Try.ntmps5
  go_wp2_with fail
  refine (k7 _ _ _ H1.out H2.out).mono ?_
  rintro e w1 ⟨rfl, hB1⟩
  have HX := Lib.hid (H1.out.below hB1)
  have HB := Lib.hid (bl_then HB0.out hB1)
  clear hB1 H1 H2 HB0
  go_wp2_with fail
  refine (k8 _ w1 HX.out).mono ?_
  rintro e w2 ⟨rfl, rfl⟩
  go_wp2_with fail
  refine (k9 _ w1 HX.out).mono ?_
  rintro e w2 ⟨⟨b, rfl, hr⟩, hB2⟩
  have HR := Lib.hid (hr.below (bl_alloc (Below.refl _ _) (.cells #[.int .i64 3, .int .i64 1] 3)))
  have HN := Lib.hid (show ReadsI (w2.alloc (.cells #[.int .i64 3, .int .i64 1] 3)) .i64 (some ⟨w2.heap.size, 0, none⟩) [3, 1] from readsI_at rfl .i64 3 [3, 1])
  have HB2 := Lib.hid (bl_then HB.out hB2)
  clear hr hB2
  go_wp2_with fail
  refine (ints_same _ _ 2 2 2 [3, 1] _ rfl HR.out HN.out (by decide)).mono ?_
  rintro e w3 ⟨rfl, hB3⟩
  go_wp2_with fail
  go_ret
  exact ⟨rfl, bl_then HB2.out ((bl_then (bl_alloc (Below.refl _ _) _) hB3))⟩
end Go.Proofs.Ytilkijioocijcaa.Shp
