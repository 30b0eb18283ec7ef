/- What law08 knows: a box the other way round. -/
import Derived.Test.YthjkeefdeeljoaaFlip2
import Derived.Test.YthjkeefdeeljoaaDense
import Derived.Test.YthjkeefdeeljoaaOffset
import Derived.Test.YthjkeefdeeljoaaPk1
import Derived.Test.YthjkeefdeeljoaaPk10
namespace Go.Proofs.Ythjkeefdeeljoaa.Shp
open Go.RowKit Go.Shelf Go.Proofs.Ythjkeefdeeljoaa.Num
set_option linter.unusedVariables false
set_option linter.unusedSimpArgs false

set_option maxRecDepth 100000 in
set_option maxHeartbeats 1000000 in
theorem knows8_calls (w : World) : Calls Try.prog 26 #[] w fun e w' => e = .returned (.bool true) ∧ Below w.heap.size w w' := by
  have hv1 : ∀ (A : Option Addr) (w : World), ReadsI w .i64 A [2, 3] → Calls Try.prog 52 #[.slice A 2 2] w fun e w' => (∃ A2 c2 B2 c3, e = .returned (.tuple #[.agg #[.slice A2 2 c2, .slice B2 2 c3, .int .i64 0], .bool true]) ∧ Hid (ReadsI w' .i64 A2 [2, 3]) ∧ Hid (ReadsI w' .i64 B2 [3, 1])) ∧ Below w.heap.size w w' := fun A w h =>
    vnew_yes [2, 3] A 2 2 w h rfl (by decide) (by decide) [3, 1] (by decide) (by decide)
  have hv2 : ∀ (A B : Option Addr) (ca cb : Nat) (w : World), ReadsI w .i64 A [2, 3] → ReadsI w .i64 B [3, 1] → Calls Try.prog 27 #[.agg #[.slice A 2 ca, .slice B 2 cb, .int .i64 0], .int .i64 1] w fun e w' => (∃ A2 c2 B2 c3, e = .returned (.tuple #[.agg #[.slice A2 2 c2, .slice B2 2 c3, .int .i64 2], .bool true]) ∧ Hid (ReadsI w' .i64 A2 [2, 3]) ∧ Hid (ReadsI w' .i64 B2 [3, -1])) ∧ Below w.heap.size w w' := fun A B ca cb w h1 h2 => by
    refine (flip_calls [2, 3] [3, 1] 0 A B ca cb 2 2 1 w h1 h2 rfl rfl (by omega) (by omega) (by decide) (by omega) 2 (by decide)).mono ?_
    rintro e w' ⟨P, n1, c1, Q, m1, d1, o1, b, rfl, HP, HB⟩
    obtain ⟨hb, ht, _, _⟩ := HP.out
    have e1 : vrB [2, 3] ([3, 1].set 1 (- nth [3, 1] 1)) 2 = true := by decide
    rw [e1] at hb
    subst hb
    obtain ⟨rfl, rfl, rfl, r1, r2⟩ := ht rfl
    exact ⟨⟨P, c1, Q, d1, rfl, Lib.hid r1, Lib.hid r2⟩, HB.out⟩
  have hv3 : ∀ (A B C : Option Addr) (ca cb : Nat) (w : World), ReadsI w .i64 A [2, 3] → ReadsI w .i64 B [3, -1] → ReadsI w .i64 C [1, 0] → Calls Try.prog 23 #[.agg #[.slice A 2 ca, .slice B 2 cb, .int .i64 2], .slice C 2 2] w fun e w' => e = .returned (.tuple #[.int .i64 5, .bool true]) ∧ Below w.heap.size w w' := fun A B C ca cb w h1 h2 h3 =>
    offset_yes [2, 3] [3, -1] [1, 0] 2 A B C ca cb 2 2 2 2 w h1 h2 h3 rfl rfl rfl (by decide) (by decide)
  have hv4 : ∀ (A B : Option Addr) (ca cb : Nat) (w : World), ReadsI w .i64 A [2, 3] → ReadsI w .i64 B [3, 1] → Calls Try.prog 67 #[.agg #[.slice A 2 ca, .slice B 2 cb, .int .i64 0]] w fun e w' => e = .returned (.bool true) ∧ Below w.heap.size w w' := fun A B ca cb w h1 h2 =>
    dense_calls [2, 3] [3, 1] 0 A B ca cb 2 2 w h1 h2 rfl rfl (by omega) (by omega)
  have hv5 : ∀ (A B : Option Addr) (ca cb : Nat) (w : World), ReadsI w .i64 A [2, 3] → ReadsI w .i64 B [3, -1] → Calls Try.prog 67 #[.agg #[.slice A 2 ca, .slice B 2 cb, .int .i64 2]] w fun e w' => e = .returned (.bool false) ∧ Below w.heap.size w w' := fun A B ca cb w h1 h2 =>
    dense_calls [2, 3] [3, -1] 2 A B ca cb 2 2 w h1 h2 rfl rfl (by omega) (by omega)
  have HV1 := Lib.hid hv1
  have HV2 := Lib.hid hv2
  have HV3 := Lib.hid hv3
  have HV4 := Lib.hid hv4
  have HV5 := Lib.hid hv5
  have HR0 := Lib.hid (show ReadsI (w.alloc (.cells #[.int .i64 2, .int .i64 3] 3)) .i64 (some ⟨w.heap.size, 0, none⟩) [2, 3] from readsI_at rfl .i64 3 [2, 3])
  clear hv1 hv2 hv3 hv4 hv5
  go_enter Try.func26, Try.ntmps26
  go_wp2_with fail
  refine (HV1.out _ _ HR0.out).mono ?_
  rintro e w1 ⟨⟨A2, c2, B2, c3, rfl, HA, HB⟩, hB1⟩
  have HB1 := Lib.hid (bl_then (bl_alloc (Below.refl w.heap.size w) _) hB1)
  clear hB1
  go_wp2_with fail
  have h2 := bl_alloc (Below.refl w1.heap.size w1) (.cells #[.slice A2 2 c2, .slice B2 2 c3, .int .i64 0] 34)
  have hbk : Blk (w1.alloc (.cells #[.slice A2 2 c2, .slice B2 2 c3, .int .i64 0] 34)) w1.heap.size 34 #[.slice A2 2 c2, .slice B2 2 c3, .int .i64 0] := Blk.new _ _ _
  have HB2 := Lib.hid (bl_then HB1.out h2)
  refine (HV2.out _ _ _ _ _ (HA.out.below h2) (HB.out.below h2)).mono ?_
  rintro e w2 ⟨⟨A3, c4, B3, c5, rfl, HA3, HB3⟩, hB2⟩
  have HB4 := Lib.hid (bl_then HB2.out hB2)
  have HAA := Lib.hid ((HA.out.below h2).below hB2)
  have HBB := Lib.hid ((HB.out.below h2).below hB2)
  have HBK := Lib.hid (hbk.below' hB2)
  clear hB2 h2 HA HB HB1 HB2 HV2 HV1 HR0 hbk
  go_wp2_with fail
  have h3 := bl_alloc (bl_alloc (Below.refl w2.heap.size w2) (.cells #[.slice A3 2 c4, .slice B3 2 c5, .int .i64 2] 34)) (.cells #[.int .i64 1, .int .i64 0] 3)
  have HB5 := Lib.hid (bl_then HB4.out h3)
  refine (HV3.out _ _ _ _ _ _ (HA3.out.below h3) (HB3.out.below h3) (readsI_at (by simp) .i64 3 [1, 0])).mono ?_
  rintro e w3 ⟨rfl, hB3⟩
  have hw3 : Blk (w2.alloc (.cells #[.slice A3 2 c4, .slice B3 2 c5, .int .i64 2] 34)) w2.heap.size 34 #[.slice A3 2 c4, .slice B3 2 c5, .int .i64 2] := Blk.new _ _ _
  have HBW := Lib.hid ((hw3.alloc (.cells #[.int .i64 1, .int .i64 0] 3)).below' hB3)
  have HBV := Lib.hid (((HBK.out.alloc (.cells #[.slice A3 2 c4, .slice B3 2 c5, .int .i64 2] 34)).alloc (.cells #[.int .i64 1, .int .i64 0] 3)).below' hB3)
  have HA4 := Lib.hid ((HA3.out.below h3).below hB3)
  have HB3' := Lib.hid ((HB3.out.below h3).below hB3)
  have HAA3 := Lib.hid ((HAA.out.below h3).below hB3)
  have HBB3 := Lib.hid ((HBB.out.below h3).below hB3)
  have HB6 := Lib.hid (bl_then HB5.out hB3)
  clear h3 hB3 hw3 HA3 HB3 HAA HBB HBK HV3 HB4 HB5
  obtain ⟨k0, k1, k2⟩ := seen_view HBW.out
  go_wp2_with fail
  have h4 := bl_alloc (Below.refl w3.heap.size w3) (.cells #[.int .i64 3, .int .i64 (-1)] 3)
  refine (ints8_same _ _ _ _ 2 [3, -1] _ rfl (HB3'.out.below h4) (readsI_at rfl .i64 3 [3, -1]) (by omega)).mono ?_
  rintro e w4 ⟨rfl, hB4⟩
  have hB5 := bl_then h4 hB4
  have HB7 := Lib.hid (bl_then HB6.out hB5)
  have HBW4 := Lib.hid (HBW.out.below' hB5)
  have HBV4 := Lib.hid (HBV.out.below' hB5)
  have HA5 := Lib.hid (HA4.out.below hB5)
  have HB8 := Lib.hid (HB3'.out.below hB5)
  have HAA4 := Lib.hid (HAA3.out.below hB5)
  have HBB4 := Lib.hid (HBB3.out.below hB5)
  clear k0 k1 k2 h4 hB4 hB5 HBW HBV HA4 HB3' HAA3 HBB3 HB6
  obtain ⟨k0, k1, k2⟩ := seen_view HBW4.out
  obtain ⟨q0, q1, q2⟩ := seen_view HBV4.out
  go_wp2_with fail
  refine (HV4.out _ _ _ _ _ HAA4.out HBB4.out).mono ?_
  rintro e w5 ⟨rfl, hB5⟩
  have HB9 := Lib.hid (bl_then HB7.out hB5)
  have HBW5 := Lib.hid (HBW4.out.below' hB5)
  have HA6 := Lib.hid (HA5.out.below hB5)
  have HB10 := Lib.hid (HB8.out.below hB5)
  clear k0 k1 k2 q0 q1 q2 hB5 HBW4 HBV4 HA5 HB8 HAA4 HBB4 HB7
  obtain ⟨k0, k1, k2⟩ := seen_view HBW5.out
  go_wp2_with fail
  refine (HV5.out _ _ _ _ _ HA6.out HB10.out).mono ?_
  rintro e w6 ⟨rfl, hB6⟩
  have HB11 := Lib.hid (bl_then HB9.out hB6)
  clear k0 k1 k2 hB6
  go_wp2_with fail
  go_ret
  exact ⟨rfl, HB11.out⟩
end Go.Proofs.Ythjkeefdeeljoaa.Shp
