/- ViewCells: the walk. -/
import Derived.Test.YthjkeefdeeljoaaSlice
import Derived.Test.YthjkeefdeeljoaaPk8
import Derived.Test.YthjkeefdeeljoaaViewPure
import Derived.Test.YthjkeefdeeljoaaPk9
import Derived.Test.YthjkeefdeeljoaaPk10
import Derived.Test.YthjkeefdeeljoaaKnows08
namespace Go.Proofs.Ythjkeefdeeljoaa.Shp
open Go.RowKit Go.Shelf Go.Proofs.Ythjkeefdeeljoaa.Num
set_option linter.unusedVariables false
set_option linter.unusedSimpArgs false

set_option maxRecDepth 100000 in
set_option maxHeartbeats 1000000 in
theorem cells_out (xs ys : List Int) (off : Int) (A B : Option Addr) (ca cb n m : Nat) (axis width : Int) (w : World) (hx : ReadsI w .i64 A xs) (hy : ReadsI w .i64 B ys) (hn : xs.length = n) (hm : ys.length = m) (hl : (lightB 300 xs ys && vrB xs ys off) = false) :
    Calls Try.prog 5 #[.agg #[.slice A n ca, .slice B m cb, .int .i64 off], .int .i64 axis, .int .i64 width] w fun e w' => e = .returned (.bool true) ∧ Below w.heap.size w w' := by
  subst hn
  subst hm
  have HB0 : Hid (Below w.heap.size w (w.alloc (.cells #[.slice A xs.length ca, .slice B ys.length cb, .int .i64 off] 24))) := Lib.hid (bl_alloc (Below.refl _ _) _)
  have hbk : Blk (w.alloc (.cells #[.slice A xs.length ca, .slice B ys.length cb, .int .i64 off] 24)) w.heap.size 24 #[.slice A xs.length ca, .slice B ys.length cb, .int .i64 off] := Blk.new _ _ _
  have HL := Lib.hid (light8_calls xs ys off A B ca cb _ (hx.below HB0.out))
  by_cases h1 : lightB 300 xs ys = true
  · have hv : vrB xs ys off = false := by rw [h1] at hl; simpa using hl
    have hl1 : xs.length ≤ 1000000 ∧ ys.length ≤ 1000000 := by
      unfold lightB at h1
      simp only [Bool.and_eq_true, decide_eq_true_eq] at h1
      omega
    have HR := Lib.hid (fun W (h : Below w.heap.size w W) => rvright_calls xs ys off A B ca cb xs.length ys.length W (hx.below h) (hy.below h) rfl rfl hl1.1 hl1.2)
    rw [h1] at HL
    rw [hv] at HR
    have HBK := Lib.hid hbk
    clear hx hy hbk h1 hv hl hl1
    go_enter Try.func5, Try.ntmps5
    go_wp2_with fail
    refine HL.out.mono ?_
    rintro e w1 ⟨rfl, hB1⟩
    obtain ⟨k0, k1, k2⟩ := seen_view (HBK.out.below' hB1)
    have HB1 := Lib.hid (bl_then HB0.out hB1)
    clear hB1
    go_wp2_with fail
    refine (HR.out _ HB1.out).mono ?_
    rintro e w2 ⟨rfl, hB2⟩
    have HB2 := Lib.hid (bl_then HB1.out hB2)
    clear hB2 k0 k1 k2
    go_wp2_with fail
    refine (knows8_calls _).mono ?_
    rintro e w3 ⟨rfl, hB3⟩
    have HB3 := Lib.hid (bl_then HB2.out hB3)
    clear hB3
    go_wp2_with fail
    go_ret
    exact ⟨rfl, HB3.out⟩
  · have h1 : lightB 300 xs ys = false := by simpa using h1
    rw [h1] at HL
    clear hx hy hbk h1 hl
    go_enter Try.func5, Try.ntmps5
    go_wp2_with fail
    refine HL.out.mono ?_
    rintro e w1 ⟨rfl, hB1⟩
    have HB1 := Lib.hid (bl_then HB0.out hB1)
    clear hB1
    go_wp2_with fail
    refine (knows8_calls _).mono ?_
    rintro e w3 ⟨rfl, hB3⟩
    have HB3 := Lib.hid (bl_then HB1.out hB3)
    clear hB3
    go_wp2_with fail
    go_ret
    exact ⟨rfl, HB3.out⟩
theorem light_out {xs ys : List Int} (h1 : lightB 300 xs ys = true) : xs.length ≤ 1000000 ∧ ys.length ≤ 1000000 := by
  unfold lightB at h1
  simp only [Bool.and_eq_true, decide_eq_true_eq] at h1
  omega
set_option maxRecDepth 100000 in
set_option maxHeartbeats 1000000 in
theorem cells_far (xs ys : List Int) (off : Int) (A B : Option Addr) (ca cb n m : Nat) (axis width : Int) (w : World) (hx : ReadsI w .i64 A xs) (hy : ReadsI w .i64 B ys) (hn : xs.length = n) (hm : ys.length = m) (h1 : lightB 300 xs ys = true) (hv : vrB xs ys off = true) (ha : ¬ (0 ≤ axis ∧ axis < n)) :
    Calls Try.prog 5 #[.agg #[.slice A n ca, .slice B m cb, .int .i64 off], .int .i64 axis, .int .i64 width] w fun e w' => e = .returned (.bool true) ∧ Below w.heap.size w w' := by
  subst hn
  subst hm
  have HB0 : Hid (Below w.heap.size w (w.alloc (.cells #[.slice A xs.length ca, .slice B ys.length cb, .int .i64 off] 24))) := Lib.hid (bl_alloc (Below.refl _ _) _)
  have hbk : Blk (w.alloc (.cells #[.slice A xs.length ca, .slice B ys.length cb, .int .i64 off] 24)) w.heap.size 24 #[.slice A xs.length ca, .slice B ys.length cb, .int .i64 off] := Blk.new _ _ _
  have HL := Lib.hid (light8_calls xs ys off A B ca cb _ (hx.below HB0.out))
  have hl1 := light_out h1
  have HR := Lib.hid (fun W (h : Below w.heap.size w W) => rvright_calls xs ys off A B ca cb xs.length ys.length W (hx.below h) (hy.below h) rfl rfl hl1.1 hl1.2)
  have hl6 := rightB_mem (show rightB xs = true by have h1 := (vrB_out hv).1; unfold sizeOk at h1; simp only [Bool.and_eq_true] at h1; exact h1.1)
  have HF := Lib.hid (fun W (h : Below w.heap.size w W) => flip_no xs ys off A B ca cb xs.length ys.length axis W (hx.below h) (hy.below h) rfl rfl (by omega) (by rw [(vrB_out hv).2.1]; omega) ha)
  rw [h1] at HL
  rw [hv] at HR
  have HBK := Lib.hid hbk
  clear hx hy hbk h1 hv hl1 hl6
  go_enter Try.func5, Try.ntmps5
  go_wp2_with fail
  refine HL.out.mono ?_
  rintro e w1 ⟨rfl, hB1⟩
  obtain ⟨k0, k1, k2⟩ := seen_view (HBK.out.below' hB1)
  have HBK1 := Lib.hid (HBK.out.below' hB1)
  have HB1 := Lib.hid (bl_then HB0.out hB1)
  clear hB1 HBK
  go_wp2_with fail
  refine (HR.out _ HB1.out).mono ?_
  rintro e w2 ⟨rfl, hB2⟩
  have HB2 := Lib.hid (bl_then HB1.out hB2)
  have HBK2 := Lib.hid (HBK1.out.below' hB2)
  clear hB2 k0 k1 k2 HBK1
  go_wp2_with fail
  refine (knows8_calls _).mono ?_
  rintro e w3 ⟨rfl, hB3⟩
  have HB3 := Lib.hid (bl_then HB2.out hB3)
  have HBK3 := Lib.hid (HBK2.out.below' hB3)
  obtain ⟨k0, k1, k2⟩ := seen_view HBK3.out
  clear hB3 HBK2
  go_wp2_with fail
  refine (own_calls A B ca cb xs.length ys.length off _).mono ?_
  rintro e w4 ⟨rfl, hB4⟩
  have HB4 := Lib.hid (bl_then HB3.out hB4)
  have HBK4 := Lib.hid (HBK3.out.below' hB4)
  clear hB4 HBK3 k0 k1 k2
  have k0 := (HBK4.out.alloc (.cells #[.slice A xs.length ca, .slice B ys.length cb, .int .i64 off] 34)).cell 0
  by_cases h0 : axis < 0
  · go_wp2_with fail
    refine (HF.out _ (bl_alloc HB4.out _)).mono ?_
    rintro e w5 ⟨rfl, hB5⟩
    have HB5 := Lib.hid (bl_then (bl_alloc HB4.out _) hB5)
    clear hB5
    go_wp2_with fail
    go_ret
    exact ⟨rfl, HB5.out.alloc HB5.out.size _⟩
  · have h0 : ¬ axis < (xs.length : Int) := by omega
    go_wp2_with fail
    refine (HF.out _ (bl_alloc HB4.out _)).mono ?_
    rintro e w5 ⟨rfl, hB5⟩
    have HB5 := Lib.hid (bl_then (bl_alloc HB4.out _) hB5)
    clear hB5
    go_wp2_with fail
    go_ret
    exact ⟨rfl, HB5.out.alloc HB5.out.size _⟩
end Go.Proofs.Ythjkeefdeeljoaa.Shp
