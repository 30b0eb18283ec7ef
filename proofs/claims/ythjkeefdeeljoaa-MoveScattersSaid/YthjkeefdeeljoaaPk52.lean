/- What law10 knows: cells in another order. -/
import Derived.Test.YthjkeefdeeljoaaPk51
import Derived.Test.YthjkeefdeeljoaaPk47
namespace Go.Proofs.Ythjkeefdeeljoaa.Shp
open Go.RowKit Go.Shelf Go.Proofs.Ythjkeefdeeljoaa.Num Go.Proofs.Ythjkeefdeeljoaa.Cl
set_option linter.unusedVariables false
set_option linter.unusedSimpArgs false

def four : List Cell := [(1, true), (2, true), (3, true), (4, true)]
theorem four_gath : gathL [2, 2] [1, 2] 0 four = [(1, true), (3, true), (2, true), (4, true)] := by decide
theorem four_cells : cellsN [2, 2] [1, 2] 0 = 4 := by decide
set_option maxRecDepth 100000 in
set_option maxHeartbeats 1000000 in
theorem knows10_calls (w : World) : Calls Try.prog 35 #[] w fun e w' => e = .returned (.bool true) ∧ Below w.heap.size w w' := by
  have hv1 : ∀ (A : Option Addr) (w : World), ReadsI w .i64 A [2, 2] → Calls Try.prog 52 #[.slice A 2 2] w fun e w' => (∃ A2 c2 B2 c3, e = .returned (.tuple #[.agg #[.slice A2 2 c2, .slice B2 2 c3, .int .i64 0], .bool true]) ∧ Hid (ReadsI w' .i64 A2 [2, 2]) ∧ Hid (ReadsI w' .i64 B2 [2, 1])) ∧ Below w.heap.size w w' := fun A w h =>
    vnew_yes [2, 2] A 2 2 w h rfl (by decide) (by decide) [2, 1] (by decide) (by decide)
  have hv2 : ∀ (A B C : Option Addr) (ca cb : Nat) (w : World), ReadsI w .i64 A [2, 2] → ReadsI w .i64 B [2, 1] → ReadsI w .i64 C [1, 0] → Calls Try.prog 53 #[.agg #[.slice A 2 ca, .slice B 2 cb, .int .i64 0], .slice C 2 2] w fun e w' => (∃ A2 c2 B2 c3, e = .returned (.tuple #[.agg #[.slice A2 2 c2, .slice B2 2 c3, .int .i64 0], .bool true]) ∧ Hid (ReadsI w' .i64 A2 [2, 2]) ∧ Hid (ReadsI w' .i64 B2 [1, 2])) ∧ Below w.heap.size w w' := fun A B C ca cb w h1 h2 h3 =>
    vperm_yes [2, 2] [2, 1] [1, 0] [2, 2] 0 A B C ca cb 2 2 2 2 w h1 h2 h3 rfl rfl rfl (by decide) (by decide) [1, 2] (by decide)
  have hf1 : fitsB [2, 2] [1, 2] 0 four.length = true := by decide
  have hf2 : fitsB [2, 2] [2, 1] 0 (gathL [2, 2] [1, 2] 0 four).length = true := by decide
  have hg4 := fun (A B : Option Addr) (ca cb T bl : Nat) (W : World) (hx : ReadsI W .i64 A [2, 2]) (hy : ReadsI W .i64 B [1, 2]) (hT : Buf bl W T four) => gather_yes [2, 2] [1, 2] 0 A B ca cb 2 2 T four bl 4 W hx hy rfl rfl (by omega) (by omega) hT hf1 (by decide)
  have hg3 := fun (A B : Option Addr) (ca cb T bl : Nat) (W : World) (hx : ReadsI W .i64 A [2, 2]) (hy : ReadsI W .i64 B [1, 2]) (hT : Buf bl W T four) => gather_limit [2, 2] [1, 2] 0 A B ca cb 2 2 T four bl 3 W hx hy rfl rfl (by omega) (by omega) hT hf1 (by decide)
  have heq := fun (A B C D : Option Addr) (ca cb cc cd T U b1 b2 : Nat) (W : World) (hx : ReadsI W .i64 A [2, 2]) (hy : ReadsI W .i64 B [1, 2]) (hx2 : ReadsI W .i64 C [2, 2]) (hy2 : ReadsI W .i64 D [2, 1]) (hT : Buf b1 W T four) (hU : Buf b2 W U (gathL [2, 2] [1, 2] 0 four)) => mequal_yes [2, 2] [1, 2] 0 [2, 1] 0 A B C D ca cb cc cd 2 2 2 2 T U four _ b1 b2 W hx hy hx2 hy2 rfl rfl rfl rfl (by omega) (by omega) (by omega) (by omega) hT hU hf1 hf2 (by decide)
  have HV1 := Lib.hid hv1
  have HV2 := Lib.hid hv2
  have HG4 := Lib.hid hg4
  have HG3 := Lib.hid hg3
  have HEQ := Lib.hid heq
  have hsh : Shows (w.alloc (.cells #[.int .i64 1, .bool true, .int .i64 2, .bool true, .int .i64 3, .bool true, .int .i64 4, .bool true] 74)) (some ⟨w.heap.size, 0, none⟩) (four.flatMap ce) := Shows.of_blk (Blk.new w 74 #[.int .i64 1, .bool true, .int .i64 2, .bool true, .int .i64 3, .bool true, .int .i64 4, .bool true])
  have HCE := Lib.hid (lcells_calls four (some ⟨w.heap.size, 0, none⟩) 4 _ hsh (by decide))
  have HB0 : Hid (Below w.heap.size w (w.alloc (.cells #[.int .i64 1, .bool true, .int .i64 2, .bool true, .int .i64 3, .bool true, .int .i64 4, .bool true] 74))) := Lib.hid (bl_alloc (Below.refl _ _) _)
  clear hv1 hv2 hg4 hg3 heq hsh hf1 hf2
  go_enter Try.func35, Try.ntmps35
  go_wp2_with fail
  refine HCE.out.mono ?_
  rintro e w1 ⟨⟨v, rfl, hv⟩, hB1⟩
  obtain ⟨A1, c1, rfl, hc1, hs1⟩ := hv.shows
  have HOF := Lib.hid (of_calls four A1 c1 w1 hs1 (by decide) hc1)
  have HB1 := Lib.hid (bl_then HB0.out hB1)
  clear hv hs1 hB1 HCE
  go_wp2_with fail
  refine HOF.out.mono ?_
  rintro e w2 ⟨T, rfl, hT, hB2⟩
  have e4 : four.map normC = four := by decide
  rw [e4] at hT
  have HT := Lib.hid hT
  have HB2 := Lib.hid (bl_then HB1.out hB2)
  clear hT hB2 e4 HOF
  have HR2 := Lib.hid (show ReadsI (w2.alloc (.cells #[.int .i64 2, .int .i64 2] 3)) .i64 (some ⟨w2.heap.size, 0, none⟩) [2, 2] from readsI_at rfl .i64 3 [2, 2])
  go_wp2_with fail
  refine (HV1.out _ _ HR2.out).mono ?_
  rintro e w3 ⟨⟨A2, c2, B2, c3, rfl, HA, HB⟩, hB3⟩
  have hb3 := bl_then (bl_alloc (Below.refl w2.heap.size w2) _) hB3
  have HT3 := Lib.hid (HT.out.below hb3)
  have HB3 := Lib.hid (bl_then HB2.out hb3)
  clear hB3 hb3 HV1 HR2
  go_wp2_with fail
  have h2 := bl_alloc (bl_alloc (Below.refl w3.heap.size w3) (.cells #[.slice A2 2 c2, .slice B2 2 c3, .int .i64 0] 34)) (.cells #[.int .i64 1, .int .i64 0] 3)
  refine (HV2.out _ _ _ _ _ _ (HA.out.below h2) (HB.out.below h2) (readsI_at (by simp) .i64 3 [1, 0])).mono ?_
  rintro e w4 ⟨⟨A3, c4, B3, c5, rfl, HA3, HB3'⟩, hB4⟩
  have hb4 := bl_then h2 hB4
  have hvb : Blk w4 w3.heap.size 34 #[.slice A2 2 c2, .slice B2 2 c3, .int .i64 0] := (((Blk.new w3 34 #[.slice A2 2 c2, .slice B2 2 c3, .int .i64 0]).alloc (.cells #[.int .i64 1, .int .i64 0] 3))).below' hB4
  have HT4 := Lib.hid (HT3.out.below hb4)
  have HB4 := Lib.hid (bl_then HB3.out hb4)
  have HA4 := Lib.hid (HA.out.below hb4)
  have HBB4 := Lib.hid (HB.out.below hb4)
  have HVB4 := Lib.hid hvb
  clear hB4 hb4 h2 hvb HV2 HA HB
  go_wp2_with fail
  have h5 := bl_alloc (Below.refl w4.heap.size w4) (.cells #[.slice A3 2 c4, .slice B3 2 c5, .int .i64 0] 34)
  refine (HG4.out _ _ _ _ _ _ _ (HA3.out.below h5) (HB3'.out.below h5) (HT4.out.below h5)).mono ?_
  rintro e w5 ⟨U, rfl, hU, hB5⟩
  have hb5 := bl_then h5 hB5
  have hwb : Blk w5 w4.heap.size 34 #[.slice A3 2 c4, .slice B3 2 c5, .int .i64 0] := (Blk.new w4 34 #[.slice A3 2 c4, .slice B3 2 c5, .int .i64 0]).below' hB5
  have HT5 := Lib.hid (HT4.out.below hb5)
  have HU5 := Lib.hid hU
  have HB5 := Lib.hid (bl_then HB4.out hb5)
  have HA5 := Lib.hid (HA4.out.below hb5)
  have HBB5 := Lib.hid (HBB4.out.below hb5)
  have HA35 := Lib.hid (HA3.out.below hb5)
  have HB35 := Lib.hid (HB3'.out.below hb5)
  have HVB5 := Lib.hid (HVB4.out.below' hb5)
  have HWB5 := Lib.hid hwb
  have HGET := Lib.hid (buf_get hU 1 (by decide))
  have e3 : nth (gathL [2, 2] [1, 2] 0 four) 1 = (3, true) := by decide
  rw [e3] at HGET
  clear hB5 hb5 h5 hwb hU HG4 HT4 HA4 HBB4 HA3 HB3' HVB4 e3
  go_wp2_with fail
  refine HGET.out.mono ?_
  rintro e w6 ⟨rfl, hB6⟩
  have hb6 := bl_alloc hB6 (.cells #[.int .i64 3, .bool true] 78)
  have hcb : Blk (w6.alloc (.cells #[.int .i64 3, .bool true] 78)) w6.heap.size 78 #[.int .i64 3, .bool true] := Blk.new _ _ _
  obtain ⟨k0, k1, k2⟩ := seen_view (HWB5.out.below' hb6)
  have HT6 := Lib.hid (HT5.out.below hb6)
  have HU6 := Lib.hid (HU5.out.below hb6)
  have HB6 := Lib.hid (bl_then HB5.out hb6)
  have HA6 := Lib.hid (HA5.out.below hb6)
  have HBB6 := Lib.hid (HBB5.out.below hb6)
  have HA36 := Lib.hid (HA35.out.below hb6)
  have HB36 := Lib.hid (HB35.out.below hb6)
  have HVB6 := Lib.hid (HVB5.out.below' hb6)
  have HWB6 := Lib.hid (HWB5.out.below' hb6)
  have HCB6 := Lib.hid hcb
  clear hB6 hb6 hcb HT5 HU5 HB5 HA5 HBB5 HA35 HB35 HVB5 HWB5 HGET
  go_wp2_with fail
  refine (HG3.out _ _ _ _ _ _ _ HA36.out HB36.out HT6.out).mono ?_
  rintro e w7 ⟨rfl, hB7⟩
  have HT7 := Lib.hid (HT6.out.below hB7)
  have HU7 := Lib.hid (HU6.out.below hB7)
  have HB7 := Lib.hid (bl_then HB6.out hB7)
  have HA7 := Lib.hid (HA6.out.below hB7)
  have HBB7 := Lib.hid (HBB6.out.below hB7)
  have HA37 := Lib.hid (HA36.out.below hB7)
  have HB37 := Lib.hid (HB36.out.below hB7)
  have HVB7 := Lib.hid (HVB6.out.below' hB7)
  have HWB7 := Lib.hid (HWB6.out.below' hB7)
  have c0 : w7.cell? ⟨w6.heap.size, 0, none⟩ = some (.int .i64 3) := (HCB6.out.below' hB7).cell 0
  clear k0 k1 k2
  obtain ⟨k0, k1, k2⟩ := seen_view HWB7.out
  obtain ⟨q0, q1, q2⟩ := seen_view HVB7.out
  clear hB7 HT6 HU6 HB6 HA6 HBB6 HA36 HB36 HVB6 HWB6 HCB6 HG3
  go_wp2_with fail
  refine (num10_calls _ _).mono ?_
  rintro e w8 ⟨rfl, rfl⟩
  go_wp2_with fail
  refine (num10_calls _ _).mono ?_
  rintro e w8 ⟨rfl, rfl⟩
  go_wp2_with fail
  refine (HEQ.out _ _ _ _ _ _ _ _ _ _ _ _ _ HA37.out HB37.out HA7.out HBB7.out HT7.out HU7.out).mono ?_
  rintro e w8 ⟨rfl, hB8⟩
  have HB8 := Lib.hid (bl_then HB7.out hB8)
  clear hB8
  go_wp2_with fail
  go_ret
  exact ⟨rfl, HB8.out⟩
end Go.Proofs.Ythjkeefdeeljoaa.Shp
