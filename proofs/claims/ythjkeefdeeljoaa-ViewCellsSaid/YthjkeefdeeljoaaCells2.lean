/- ViewCells: the walk where the axis is one of the view's. -/
import Derived.Test.YthjkeefdeeljoaaCells
import Derived.Deep.DeepCutAuto
namespace Go.Proofs.Ythjkeefdeeljoaa.Shp
open Go.RowKit Go.Shelf Go.Proofs.Ythjkeefdeeljoaa.Num
set_option linter.unusedVariables false
set_option linter.unusedSimpArgs false

theorem vr_axis {xs ys : List Int} {off : Int} (hv : vrB xs ys off = true) (i : Nat) (hi : i < xs.length) : xs.length ≤ 6 ∧ ys.length = xs.length ∧ (0 ≤ nth xs i ∧ nth xs i ≤ 1048576) ∧ (-1048576 ≤ nth ys i ∧ nth ys i ≤ 1048576) ∧ 0 ≤ off ∧ off ≤ 16777216 := by
  obtain ⟨v1, v2, v3, v4, v5⟩ := vrB_out hv
  have h6 := rightB_mem (show rightB xs = true by unfold sizeOk at v1; simp only [Bool.and_eq_true] at v1; exact v1.1)
  exact ⟨h6.1, v2, h6.2 _ (nth_mem xs i hi), near_mem v3 _ (nth_mem ys i (by omega)), v4, v5⟩
/-- The way back: the same stride, the same beginning. -/
theorem flip_back {xs ys : List Int} {off : Int} (hv : vrB xs ys off = true) (i : Nat) (hi : i < xs.length) (o2 : Int) (ho : IntKind.i64.wrap (off + max (nth xs i - 1) 0 * nth ys i) = o2) :
    IntKind.i64.wrap (o2 + max (nth xs i - 1) 0 * nth (ys.set i (- nth ys i)) i) = off ∧ (ys.set i (- nth ys i)).set i (- nth (ys.set i (- nth ys i)) i) = ys := by
  obtain ⟨h6, hm, hx, hy, h0, h1⟩ := vr_axis hv i hi
  rw [nth_set ys i _ (by omega), set_twice, Int.neg_neg, set_same ys i (by omega)]
  refine ⟨?_, rfl⟩
  have hb := mul_bd (a := max (nth xs i - 1) 0) (y := nth ys i) (by omega) (by omega) hy.1 hy.2
  rw [Int.mul_neg]
  generalize max (nth xs i - 1) 0 * nth ys i = p at *
  rw [IntKind.wrap_i64] at ho ⊢
  omega
theorem hb_two {W : World} {H H2 : Nat} {T T2 : TypeId} {x y z x2 y2 z2 : Value} (h : Blk W H T #[x, y, z]) (h2 : Blk W H2 T2 #[x2, y2, z2]) : W.cell? ⟨H, 0, none⟩ = some x ∧ W.cell? ⟨H, 1, none⟩ = some y ∧ W.cell? ⟨H, 2, none⟩ = some z ∧ W.cell? ⟨H2, 0, none⟩ = some x2 ∧ W.cell? ⟨H2, 1, none⟩ = some y2 ∧ W.cell? ⟨H2, 2, none⟩ = some z2 :=
  ⟨h.cell 0, h.cell 1, h.cell 2, h2.cell 0, h2.cell 1, h2.cell 2⟩
set_option maxRecDepth 100000 in
set_option maxHeartbeats 2000000 in
theorem cells_in (xs ys : List Int) (off : Int) (A B : Option Addr) (ca cb n m i : Nat) (width : Int) (w : World) (hx : ReadsI w .i64 A xs) (hy : ReadsI w .i64 B ys) (hn : xs.length = n) (hm : ys.length = m) (h1 : lightB 300 xs ys = true) (hv : vrB xs ys off = true) (ha : i < n) :
    Calls Try.prog 5 #[.agg #[.slice A n ca, .slice B m cb, .int .i64 off], .int .i64 (i : Nat), .int .i64 width] w fun e w' => e = .returned (.bool true) ∧ Below w.heap.size w w' := by
  subst hn
  subst hm
  have HB0 : Hid (Below w.heap.size w (w.alloc (.cells #[.slice A xs.length ca, .slice B ys.length cb, .int .i64 off] 24))) := Lib.hid (bl_alloc (Below.refl _ _) _)
  have hbk : Blk (w.alloc (.cells #[.slice A xs.length ca, .slice B ys.length cb, .int .i64 off] 24)) w.heap.size 24 #[.slice A xs.length ca, .slice B ys.length cb, .int .i64 off] := Blk.new _ _ _
  have HL := Lib.hid (light8_calls xs ys off A B ca cb _ (hx.below HB0.out))
  have hl1 := light_out h1
  obtain ⟨l6, lm, lx, ly, l0, l9⟩ := vr_axis hv i ha
  have HR := Lib.hid (fun W (h : Below w.heap.size w W) => rvright_calls xs ys off A B ca cb xs.length ys.length W (hx.below h) (hy.below h) rfl rfl hl1.1 hl1.2)
  obtain ⟨o2, ho2⟩ : ∃ o2, IntKind.i64.wrap (off + max (nth xs i - 1) 0 * nth ys i) = o2 := ⟨_, rfl⟩
  have HF := Lib.hid (fun W (h : Below w.heap.size w W) => flip_calls xs ys off A B ca cb xs.length ys.length i W (hx.below h) (hy.below h) rfl rfl (by omega) (by omega) hv ha o2 ho2)
  have hfb := flip_back hv i ha o2 ho2
  have HF2 := Lib.hid (fun P Q c1 d1 W (h2 : vrB xs (ys.set i (- nth ys i)) o2 = true) (hp : ReadsI W .i64 P xs) (hq : ReadsI W .i64 Q (ys.set i (- nth ys i))) => flip_calls xs (ys.set i (- nth ys i)) o2 P Q c1 d1 xs.length ys.length i W hp hq rfl (by simp) (by omega) (by omega) h2 ha off hfb.1)
  rw [hfb.2] at HF2
  have HO := Lib.hid (fun P Q c1 d1 W (hp : ReadsI W .i64 P xs) (hq : ReadsI W .i64 Q ys) => offs8_calls xs ys off P Q c1 d1 xs.length ys.length W hp hq rfl rfl hv)
  rw [h1] at HL
  rw [hv] at HR
  have HBK := Lib.hid hbk
  have HX := Lib.hid hx
  have HY := Lib.hid hy
  have HV := Lib.hid hv
  have HL1 := Lib.hid h1
  have hi0 : ¬ ((i : Int) < 0) := by omega
  have hi1 : ¬ ((xs.length : Int) ≤ (i : Int)) := by omega
  have LM := Lib.hid lm
  have L6 := Lib.hid l6
  clear hx hy hbk h1 hv hl1 ho2 hfb lx ly l0 l9 lm l6
  go_enter Try.func5, Try.ntmps5
  go_wp2_with fail
  refine HL.out.mono ?_
  rintro e w1 ⟨rfl, hB1⟩
  obtain ⟨k0, k1, k2⟩ := seen_view (HBK.out.below' hB1)
  have HBK1 := Lib.hid (HBK.out.below' hB1)
  have HB1 := Lib.hid (bl_then HB0.out hB1)
  clear hB1 HBK
  go_wp2_with fail
  refine (HR.out _ HB1.out).mono ?_
  rintro e w2 ⟨rfl, hB2⟩
  have HB2 := Lib.hid (bl_then HB1.out hB2)
  have HBK2 := Lib.hid (HBK1.out.below' hB2)
  clear hB2 k0 k1 k2 HBK1
  go_wp2_with fail
  refine (knows8_calls _).mono ?_
  rintro e w3 ⟨rfl, hB3⟩
  have HB3 := Lib.hid (bl_then HB2.out hB3)
  have HBK3 := Lib.hid (HBK2.out.below' hB3)
  obtain ⟨k0, k1, k2⟩ := seen_view HBK3.out
  clear hB3 HBK2
  go_wp2_with fail
  refine (own_calls A B ca cb xs.length ys.length off _).mono ?_
  rintro e w4 ⟨rfl, hB4⟩
  obtain ⟨X, hX⟩ : ∃ X, X = w4.heap.size := ⟨_, rfl⟩
  obtain ⟨W4, hW4⟩ : ∃ W4, W4 = w4.alloc (.cells #[.slice A xs.length ca, .slice B ys.length cb, .int .i64 off] 34) := ⟨_, rfl⟩
  have hB4' := bl_then HB3.out hB4
  have HB4 : Hid (Below w.heap.size w W4) := Lib.hid (by rw [hW4]; exact bl_alloc hB4' _)
  have HBK4 : Hid (Blk W4 w.heap.size 24 #[.slice A xs.length ca, .slice B ys.length cb, .int .i64 off]) := Lib.hid (by rw [hW4]; exact (HBK3.out.below' hB4).alloc _)
  have HBX4 : Hid (Blk W4 X 34 #[.slice A xs.length ca, .slice B ys.length cb, .int .i64 off]) := Lib.hid (by rw [hW4, hX]; exact Blk.new _ _ _)
  clear hB4 HBK3 k0 k1 k2 hB4'
  have k0 : (w4.alloc (.cells #[.slice A xs.length ca, .slice B ys.length cb, .int .i64 off] 34)).cell? ⟨w.heap.size, 0, none⟩ = some (.slice A xs.length ca) := by rw [← hW4]; exact HBK4.out.cell 0
  have HX4 := Lib.hid hX
  have HW4 := Lib.hid hW4
  clear hX hW4
  go_wp2_with fail
  rw [← HW4.out, ← HX4.out]
  refine (HF.out _ HB4.out).mono ?_
  rintro e w5 ⟨P, n1, c1, Q, m1, d1, o1, b, rfl, HPQ, hB5⟩
  obtain ⟨W5, hW5⟩ : ∃ W5, W5 = w5.alloc (.cells #[.slice P n1 c1, .slice Q m1 d1, .int .i64 o1] 34) := ⟨_, rfl⟩
  obtain ⟨Y, hY⟩ : ∃ Y, Y = w5.heap.size := ⟨_, rfl⟩
  have hb5 : Below W4.heap.size W4 W5 := by rw [hW5]; exact bl_alloc hB5.out _
  have HB5 := Lib.hid (bl_then HB4.out hb5)
  have HBK5 := Lib.hid (HBK4.out.below' hb5)
  have HBX5 := Lib.hid (HBX4.out.below' hb5)
  have HBY5 : Hid (Blk W5 Y 34 #[.slice P n1 c1, .slice Q m1 d1, .int .i64 o1]) := Lib.hid (by rw [hW5, hY]; exact Blk.new _ _ _)
  obtain ⟨hbv, hbt, _, _⟩ := HPQ.out
  have HPW := Lib.hid (fun (h : b = true) => (⟨(hbt h).1, (hbt h).2.1, (hbt h).2.2.1, (hbt h).2.2.2.1.below (show Below w5.heap.size w5 W5 by rw [hW5]; exact bl_alloc (Below.refl _ _) _), (hbt h).2.2.2.2.below (show Below w5.heap.size w5 W5 by rw [hW5]; exact bl_alloc (Below.refl _ _) _)⟩ : n1 = xs.length ∧ m1 = ys.length ∧ o1 = o2 ∧ ReadsI W5 .i64 P xs ∧ ReadsI W5 .i64 Q (ys.set i (- nth ys i))))
  have HBV := Lib.hid hbv
  have HW5 := Lib.hid hW5
  have HY5 := Lib.hid hY
  clear hB5 hW5 hY hb5 hbv hbt HPQ HX4 HW4 k0
  go_upto_if 59 with fail
  rw [← HW5.out, ← HY5.out]
  go_cut [12, 13] (fun _ _ W8 => Hid (Below w.heap.size w W8) ∧ Hid (Blk W8 w.heap.size 24 #[.slice A xs.length ca, .slice B ys.length cb, .int .i64 off]) ∧ Hid (Blk W8 X 34 #[.slice A xs.length ca, .slice B ys.length cb, .int .i64 off]))
  case first =>
    cases b with
    | false =>
      go_wp2_with fail
      go_meet
      case rel => exact ⟨HB5, HBK5, HBX5⟩
    | true =>
      obtain ⟨rfl, rfl, rfl, hp5, hq5⟩ := HPW.out rfl
      have HP5 := Lib.hid hp5
      have HQ5 := Lib.hid hq5
      obtain ⟨y0, y1, y2⟩ := seen_view (HBY5.out)
      clear hp5 hq5 HPW
      go_wp2_with fail
      refine (HF2.out P Q c1 d1 W5 HBV.out.symm HP5.out HQ5.out).mono ?_
      rintro e w6 ⟨P2, n2, c2, Q2, m2, d2, o3, b2, rfl, HPQ2, hB6⟩
      obtain ⟨rfl, hbt2, _, _⟩ := HPQ2.out
      obtain ⟨rfl, rfl, rfl, hp6, hq6⟩ := hbt2 HV.out
      rw [HV.out]
      obtain ⟨W6, hW6⟩ : ∃ W6, W6 = w6.alloc (.cells #[.slice P2 xs.length c2, .slice Q2 ys.length d2, .int .i64 o3] 34) := ⟨_, rfl⟩
      obtain ⟨Z, hZ⟩ : ∃ Z, Z = w6.heap.size := ⟨_, rfl⟩
      have hb6 : Below w6.heap.size w6 W6 := by rw [hW6]; exact bl_alloc (Below.refl _ _) _
      have hb56 : Below W5.heap.size W5 W6 := bl_then hB6.out hb6
      have HB6 := Lib.hid (bl_then HB5.out hb56)
      have HBK6 := Lib.hid (HBK5.out.below' hb56)
      have HBX6 := Lib.hid (HBX5.out.below' hb56)
      have HBZ6 : Hid (Blk W6 Z 34 #[.slice P2 xs.length c2, .slice Q2 ys.length d2, .int .i64 o3]) := Lib.hid (by rw [hW6, hZ]; exact Blk.new _ _ _)
      have HP6 := Lib.hid (hp6.below hb6)
      have HQ6 := Lib.hid (hq6.below hb6)
      clear hp6 hq6 hbt2 HPQ2 hB6 hb6 hb56 y0 y1 y2 HF2 HF HB5 HBK5 HBX5 HBY5 HW5 HY5 HP5 HQ5
      go_upto_region 10 with fail
      rw [← hW6, ← hZ]
      clear hW6 hZ
      have HOZ := Lib.hid (fun W' (h : Below W6.heap.size W6 W') => HO.out P2 Q2 c2 d2 W' (HP6.out.below h) (HQ6.out.below h))
      have HOX := Lib.hid (fun W' (h : Below W6.heap.size W6 W') => HO.out A B ca cb W' (HX.out.below (bl_then HB6.out h)) (HY.out.below (bl_then HB6.out h)))
      obtain ⟨x0, x1, x2, z0, z1, z2⟩ := hb_two HBZ6.out HBX6.out
      go_region_held3 (fun W => W.cell? ⟨Z, 0, none⟩ = some (.slice P2 xs.length c2) ∧ W.cell? ⟨Z, 1, none⟩ = some (.slice Q2 ys.length d2) ∧ W.cell? ⟨Z, 2, none⟩ = some (.int .i64 o3) ∧ W.cell? ⟨X, 0, none⟩ = some (.slice A xs.length ca) ∧ W.cell? ⟨X, 1, none⟩ = some (.slice B ys.length cb) ∧ W.cell? ⟨X, 2, none⟩ = some (.int .i64 o3))
        (first | exact ⟨x0, x1, x2, z0, z1, z2⟩ | exact hb_two (HBZ6.out.below' HBA.out) (HBX6.out.below' HBA.out) | exact hb_two (HBZ6.out.below' HBB.out) (HBX6.out.below' HBB.out) | exact hb_two (HBZ6.out.below' HBC.out) (HBX6.out.below' HBC.out))
        (first
        | (go_at_call 29; first
          | ((with_reducible refine (HOZ.out _ (by first | exact bl_drew (Below.refl _ _))).mono ?_); rintro e wA ⟨⟨LA, e1, rfl, ra⟩, hBA⟩; have HRA := Lib.hid ra; have HBA := Lib.hid (bl_then (bl_drew (Below.refl _ _)) hBA); clear hBA ra)
          | ((with_reducible refine (HOX.out _ HBA.out).mono ?_); rintro e wB ⟨⟨LB, e2, rfl, rb⟩, hBB⟩; have HRB := Lib.hid rb; have HRA2 := Lib.hid (HRA.out.below hBB); have HBB := Lib.hid (bl_then HBA.out hBB); clear hBB rb))
        | (go_at_call 28; refine (ints8_same LA LB e1 e2 _ (offsL xs ys o3) _ rfl HRA2.out HRB.out (by rw [offsL_length]; have := cellsN_le xs ys o3; omega)).mono ?_; rintro e wC ⟨rfl, hBC⟩; have HBC := Lib.hid (bl_then HBB.out hBC); clear hBC))
      go_wp2_with fail
      go_meet
      case rel => exact ⟨Lib.hid (bl_then HB6.out HBC.out), Lib.hid (HBK6.out.below' HBC.out), Lib.hid (HBX6.out.below' HBC.out)⟩
  case rest =>
    obtain ⟨HB8, HBK8, HBX8⟩ := hcut
    clear HF HF2 HR HL HB0 HBK4 HBX4 HB4 HB3 HB2 HB1 HB5 HBK5 HBX5 HBY5 HW5 HY5 HPW HBV
    obtain ⟨x0, x1, x2⟩ := seen_view HBX8.out
    go_wp2_with fail
    by_cases hwd : width < 1 ∨ nth xs i < width
    · refine (window_no xs ys off A B ca cb xs.length ys.length i width _ (HX.out.below HB8.out) (HY.out.below HB8.out) rfl rfl (by have := L6.out; omega) (by have := L6.out; have := LM.out; omega) HV.out ha hwd).mono ?_
      rintro e w9 ⟨rfl, hB9⟩
      have HBK9 := Lib.hid (HBK8.out.below' hB9)
      have hB9' := bl_then HB8.out hB9
      have HB9 := Lib.hid hB9'
      obtain ⟨bA, oA, eA, cA⟩ := HX.out.below (bl_alloc hB9' (.cells #[.slice none 0 0, .slice none 0 0, .int .i64 0] 34)) i ha
      obtain ⟨k0, k1, k2⟩ := seen_view (HBK9.out.alloc (.cells #[.slice none 0 0, .slice none 0 0, .int .i64 0] 34))
      rw [eA] at k0
      clear hB9 hB9' x0 x1 x2
      by_cases h1 : width < 1
      · clear hwd k1 k2 cA
        go_wp2_with fail
        go_ret
        exact ⟨rfl, HB9.out.alloc HB9.out.size _⟩
      · have h2 : nth xs i < width := by omega
        clear hwd k1 k2
        generalize nth xs i = x at *
        go_wp2_with fail
        go_ret
        exact ⟨rfl, HB9.out.alloc HB9.out.size _⟩
    · obtain ⟨k, rfl⟩ := Int.eq_ofNat_of_zero_le (show 0 ≤ width by omega)
      have hk1 : 1 ≤ k := by omega
      have hk2 : (k : Int) ≤ nth xs i := by omega
      clear hwd
      refine (window_calls xs ys off A B ca cb xs.length ys.length i k _ (HX.out.below HB8.out) (HY.out.below HB8.out) rfl rfl (by have := L6.out; omega) (by have := L6.out; have := LM.out; omega) HV.out ha hk1 hk2).mono ?_
      rintro e w9 ⟨P9, n9, c9, Q9, m9, d9, o9, b9, rfl, HPQ9, hB9⟩
      obtain ⟨hbv9, hbt9, _, _⟩ := HPQ9.out
      have HBK9 := Lib.hid (HBK8.out.below' hB9.out)
      have HBX9 := Lib.hid (HBX8.out.below' hB9.out)
      have hB9' := bl_then HB8.out hB9.out
      have HB9 := Lib.hid hB9'
      cases b9 with
      | false =>
        have hw6 := win_why HV.out (by
          have h1 := HL1.out
          have h2 := (vrB_out HV.out).1
          unfold lightB at h1
          rw [h2] at h1
          simp only [Bool.and_eq_true, decide_eq_true_eq, Bool.not_true, Bool.false_or] at h1
          exact h1.2.2) i ha k hk1 hk2 hbv9.symm
        obtain ⟨bA, oA, eA, cA⟩ := HX.out.below (bl_alloc hB9' (.cells #[.slice P9 n9 c9, .slice Q9 m9 d9, .int .i64 o9] 34)) i ha
        obtain ⟨k0, k1, k2⟩ := seen_view (HBK9.out.alloc (.cells #[.slice P9 n9 c9, .slice Q9 m9 d9, .int .i64 o9] 34))
        rw [eA] at k0
        have hw7 : (6 : Int) ≤ (xs.length : Int) := by omega
        have hk3 : ¬ (k : Int) < 1 := by omega
        have hk4 : ¬ nth xs i < (k : Int) := by omega
        clear hB9 hB9' x0 x1 x2 hbt9 hbv9 HPQ9 k1 k2
        generalize nth xs i = x at *
        go_wp2_with fail
        go_ret
        exact ⟨rfl, HB9.out.alloc HB9.out.size _⟩
      | true =>
        obtain ⟨rfl, rfl, e9, hp9, hq9⟩ := hbt9 rfl
        subst e9
        obtain ⟨N, hN⟩ := Int.eq_ofNat_of_zero_le (show 0 ≤ nth xs i - k + 1 by omega)
        have HD := Lib.hid (fun (j : Nat) (hj : j < N) W (hp : ReadsI W .i64 P9 ((xs.set i (nth xs i - k + 1)).take (i + 1) ++ (k : Int) :: (xs.set i (nth xs i - k + 1)).drop (i + 1))) (hq : ReadsI W .i64 Q9 ((ys.set i (nth ys i)).take (i + 1) ++ nth ys i :: (ys.set i (nth ys i)).drop (i + 1))) => drop_calls _ _ _ P9 Q9 c9 d9 (xs.length + 1) (ys.length + 1) i j W hp hq (by simp; omega) (by simp; have := LM.out; omega) (by have := L6.out; omega) (by have := L6.out; have := LM.out; omega) hbv9.symm (by omega) (by rw [nth_win xs i _ _ ha]; omega) _ rfl)
        rw [win_drop xs i _ _ ha, win_drop ys i _ _ (by have := LM.out; omega), nth_win ys i _ _ (by have := LM.out; omega), Nat.add_sub_cancel, Nat.add_sub_cancel] at HD
        have HS := Lib.hid (fun (j : Nat) (hj : j < N) W (hp : ReadsI W .i64 A xs) (hq : ReadsI W .i64 B ys) => slice_calls xs ys o9 A B ca cb xs.length ys.length i j k W hp hq rfl rfl (by have := L6.out; omega) (by have := L6.out; have := LM.out; omega) HV.out ha hk1 (by omega) _ rfl)
        have HOF := Lib.hid (fun (j : Nat) P Q c1 d1 W (hv : vrB (xs.set i (k : Int)) (ys.set i (nth ys i)) (IntKind.i64.wrap (o9 + (j : Int) * nth ys i)) = true) (hp : ReadsI W .i64 P (xs.set i (k : Int))) (hq : ReadsI W .i64 Q (ys.set i (nth ys i))) => offs8_calls (xs.set i (k : Int)) (ys.set i (nth ys i)) _ P Q c1 d1 xs.length ys.length W hp hq (by simp) (by simp) hv)
        obtain ⟨W9, hW9⟩ : ∃ W9, W9 = w9.alloc (.cells #[.slice P9 (xs.length + 1) c9, .slice Q9 (ys.length + 1) d9, .int .i64 o9] 34) := ⟨_, rfl⟩
        obtain ⟨V, hV⟩ : ∃ V, V = w9.heap.size := ⟨_, rfl⟩
        have hbw : Below w9.heap.size w9 W9 := by rw [hW9]; exact bl_alloc (Below.refl _ _) _
        have HB10 := Lib.hid (bl_then hB9' hbw)
        have HBX10 := Lib.hid (HBX9.out.below' hbw)
        have HBV10 : Hid (Blk W9 V 34 #[.slice P9 (xs.length + 1) c9, .slice Q9 (ys.length + 1) d9, .int .i64 o9]) := Lib.hid (by rw [hW9, hV]; exact Blk.new _ _ _)
        have HP10 := Lib.hid (hp9.below hbw)
        have HQ10 := Lib.hid (hq9.below hbw)
        have HW10 := Lib.hid hW9
        have HV10 := Lib.hid hV
        have HNL := Lib.hid (show N ≤ 1048576 by have := (vr_axis HV.out i ha).2.2.1; omega)
        have HNN := Lib.hid (show nth ((xs.set i (nth xs i - k + 1)).take (i + 1) ++ (k : Int) :: (xs.set i (nth xs i - k + 1)).drop (i + 1)) i = (N : Int) by rw [nth_win xs i _ _ ha]; omega)
        have HLW := Lib.hid (show i < ((xs.set i (nth xs i - k + 1)).take (i + 1) ++ (k : Int) :: (xs.set i (nth xs i - k + 1)).drop (i + 1)).length by simp; omega)
        generalize ((xs.set i (nth xs i - k + 1)).take (i + 1) ++ (k : Int) :: (xs.set i (nth xs i - k + 1)).drop (i + 1)) = wxs at *
        generalize ((ys.set i (nth ys i)).take (i + 1) ++ nth ys i :: (ys.set i (nth ys i)).drop (i + 1)) = wys at *
        clear hB9 hB9' x0 x1 x2 hbt9 hbv9 HPQ9 hbw hp9 hq9 hW9 hV hN
        obtain ⟨bP, oP, eP, _⟩ := HP10.out i HLW.out
        subst eP
        go_wp2_with fail
        rw [← HW10.out, ← HV10.out]
        go_loopw [16, 17, 18, 19, 20] (fun s16 _ _ _ _ wr => ∃ j : Nat, s16 = .int .i64 j ∧ j ≤ N ∧ Hid (Below W9.heap.size W9 wr)) (fun s16 _ _ _ _ _ => N - (intOf s16).toNat)
        case atStart => exact ⟨0, rfl, Nat.zero_le _, Lib.hid (Below.refl _ _)⟩
        case round =>
          obtain ⟨j, rfl, hj, HBR⟩ := hrel
          have HBXr := Lib.hid (HBX10.out.below' HBR.out)
          have HBVr := Lib.hid (HBV10.out.below' HBR.out)
          have HBr := Lib.hid (bl_then HB10.out HBR.out)
          obtain ⟨bP', oP', eP', cP⟩ := HP10.out.below HBR.out i HLW.out
          obtain ⟨rfl, rfl⟩ : bP = bP' ∧ oP = oP' := by simpa using eP'
          obtain ⟨v0, v1, v2⟩ := seen_view HBVr.out
          rw [HNN.out] at cP
          clear eP'
          have hi9 : (i : Int) < (xs.length : Int) + 1 := by omega
          by_cases hjN : j < N
          · have hjN' : (j : Int) < (N : Int) := by omega
            obtain ⟨q, hq⟩ : ∃ q, j + 1 = q := ⟨_, rfl⟩
            have hqi : (j : Int) + 1 = (q : Int) := by omega
            have hqw : IntKind.i64.wrap (q : Int) = (q : Int) := by have := HNL.out; rw [IntKind.wrap_i64]; omega
            have HQ := Lib.hid hq
            clear hq
            go_wp2_with fail
            have hd := HD.out j hjN wr (HP10.out.below HBR.out) (HQ10.out.below HBR.out)
            refine hd.mono ?_
            rintro e wa ⟨P1, n1, c1, Q1, m1, d1, o1, b1, rfl, HPQ1, hBa⟩
            obtain ⟨Wa, hWa⟩ : ∃ Wa, Wa = wa.alloc (.cells #[.slice P1 n1 c1, .slice Q1 m1 d1, .int .i64 o1] 34) := ⟨_, rfl⟩
            obtain ⟨R, hR⟩ : ∃ R, R = wa.heap.size := ⟨_, rfl⟩
            have hba : Below wa.heap.size wa Wa := by rw [hWa]; exact bl_alloc (Below.refl _ _) _
            have hbra : Below wr.heap.size wr Wa := bl_then hBa.out hba
            have HBXa := Lib.hid (HBXr.out.below' hbra)
            have HBRa : Hid (Blk Wa R 34 #[.slice P1 n1 c1, .slice Q1 m1 d1, .int .i64 o1]) := Lib.hid (by rw [hWa, hR]; exact Blk.new _ _ _)
            have HBa := Lib.hid (bl_then HBr.out hbra)
            have HRa := Lib.hid (bl_then HBR.out hbra)
            obtain ⟨hb1, ht1, _, _⟩ := HPQ1.out
            have HT1 := Lib.hid (fun h : b1 = true => (⟨(ht1 h).1, (ht1 h).2.1, (ht1 h).2.2.1, (ht1 h).2.2.2.1.below hba, (ht1 h).2.2.2.2.below hba⟩ : n1 = xs.length ∧ m1 = ys.length ∧ o1 = IntKind.i64.wrap (o9 + (j : Int) * nth ys i) ∧ ReadsI Wa .i64 P1 (xs.set i (k : Int)) ∧ ReadsI Wa .i64 Q1 (ys.set i (nth ys i))))
            obtain ⟨x0, x1, x2⟩ := seen_view HBXa.out
            rw [hWa] at x0 x1 x2
            have HB1 := Lib.hid hb1
            have HWa := Lib.hid hWa
            have HR := Lib.hid hR
            clear hd hBa hWa hR hba hbra hb1 ht1 HPQ1 v0 v1 v2 cP HD HBXr HBVr
            go_wp2_with fail
            rw [← HWa.out, ← HR.out]
            clear x0 x1 x2
            refine (HS.out j hjN Wa (HX.out.below HBa.out) (HY.out.below HBa.out)).mono ?_
            rintro e wb ⟨P2, n2, c2, Q2, m2, d2, o2', b2, rfl, HPQ2, hBb⟩
            obtain ⟨Wb, hWb⟩ : ∃ Wb, Wb = wb.alloc (.cells #[.slice P2 n2 c2, .slice Q2 m2 d2, .int .i64 o2'] 34) := ⟨_, rfl⟩
            obtain ⟨S, hS⟩ : ∃ S, S = wb.heap.size := ⟨_, rfl⟩
            have hbb : Below wb.heap.size wb Wb := by rw [hWb]; exact bl_alloc (Below.refl _ _) _
            have hbab : Below Wa.heap.size Wa Wb := bl_then hBb.out hbb
            have HBRb := Lib.hid (HBRa.out.below' hbab)
            have HBSb : Hid (Blk Wb S 34 #[.slice P2 n2 c2, .slice Q2 m2 d2, .int .i64 o2']) := Lib.hid (by rw [hWb, hS]; exact Blk.new _ _ _)
            have HBb := Lib.hid (bl_then HBa.out hbab)
            have HRb := Lib.hid (bl_then HRa.out hbab)
            obtain ⟨hb2, ht2, _, _⟩ := HPQ2.out
            obtain rfl : b2 = b1 := by rw [hb2, HB1.out]
            have HT1b := Lib.hid (fun h : b2 = true => (⟨(HT1.out h).1, (HT1.out h).2.1, (HT1.out h).2.2.1, (HT1.out h).2.2.2.1.below hbab, (HT1.out h).2.2.2.2.below hbab⟩ : n1 = xs.length ∧ m1 = ys.length ∧ o1 = IntKind.i64.wrap (o9 + (j : Int) * nth ys i) ∧ ReadsI Wb .i64 P1 (xs.set i (k : Int)) ∧ ReadsI Wb .i64 Q1 (ys.set i (nth ys i))))
            have HT2 := Lib.hid (fun h : b2 = true => (⟨(ht2 h).1, (ht2 h).2.1, (ht2 h).2.2.1, (ht2 h).2.2.2.1.below hbb, (ht2 h).2.2.2.2.below hbb⟩ : n2 = xs.length ∧ m2 = ys.length ∧ o2' = IntKind.i64.wrap (o9 + (j : Int) * nth ys i) ∧ ReadsI Wb .i64 P2 (xs.set i (k : Int)) ∧ ReadsI Wb .i64 Q2 (ys.set i (nth ys i))))
            have HWb := Lib.hid hWb
            have HS2 := Lib.hid hS
            clear hBb hWb hS hbb hbab hb2 ht2 HPQ2 HS HT1
            go_upto_region 20 with fail
            rw [← HWb.out, ← HS2.out]
            cases b2 with
            | false =>
              go_region_with fail
              all_goals
                go_wp2_with fail
                go_roundw
                case rel => exact ⟨q, rfl, by have := HQ.out; omega, Lib.hid (bl_drew HRb.out)⟩
                case measure => have := HQ.out; simp [intOf]; omega
            | true =>
              obtain ⟨rfl, rfl, rfl, hp1, hq1⟩ := HT1b.out rfl
              obtain ⟨rfl, rfl, rfl, hp2, hq2⟩ := HT2.out rfl
              have hvv := HB1.out.symm
              obtain ⟨oj, hoj⟩ : ∃ oj, oj = IntKind.i64.wrap (o9 + (j : Int) * nth ys i) := ⟨_, rfl⟩
              have HOF' := Lib.hid (fun P Q c1 d1 W (hp : ReadsI W .i64 P (xs.set i (k : Int))) (hq : ReadsI W .i64 Q (ys.set i (nth ys i))) => HOF.out j P Q c1 d1 W hvv hp hq)
              rw [← hoj] at HOF' HBRb HBSb
              rw [← hoj]
              have HOA := Lib.hid (fun W' (h : Below Wb.heap.size Wb W') => HOF'.out P1 Q1 c1 d1 W' (hp1.below h) (hq1.below h))
              have HOB := Lib.hid (fun W' (h : Below Wb.heap.size Wb W') => HOF'.out P2 Q2 c2 d2 W' (hp2.below h) (hq2.below h))
              clear hp1 hq1 hp2 hq2 hvv HT1b HT2 HB1 HOF HOF' hoj
              generalize xs.set i (k : Int) = us at *
              generalize ys.set i (nth ys i) = vs at *
              obtain ⟨r0, r1, r2, s0, s1, s2⟩ := hb_two HBRb.out HBSb.out
              go_region_held3 (fun W => W.cell? ⟨R, 0, none⟩ = some (.slice P1 xs.length c1) ∧ W.cell? ⟨R, 1, none⟩ = some (.slice Q1 ys.length d1) ∧ W.cell? ⟨R, 2, none⟩ = some (.int .i64 oj) ∧ W.cell? ⟨S, 0, none⟩ = some (.slice P2 xs.length c2) ∧ W.cell? ⟨S, 1, none⟩ = some (.slice Q2 ys.length d2) ∧ W.cell? ⟨S, 2, none⟩ = some (.int .i64 oj))
                (first | exact ⟨r0, r1, r2, s0, s1, s2⟩ | exact hb_two (HBRb.out.below' HBA.out) (HBSb.out.below' HBA.out) | exact hb_two (HBRb.out.below' HBB.out) (HBSb.out.below' HBB.out) | exact hb_two (HBRb.out.below' HBC.out) (HBSb.out.below' HBC.out))
                (first
                | (go_at_call 29; first
                  | ((with_reducible refine (HOA.out _ (by first | exact bl_drew (Below.refl _ _))).mono ?_); rintro e wA ⟨⟨LA, e1, rfl, ra⟩, hBA⟩; have HRA := Lib.hid ra; have HBA := Lib.hid (bl_then (bl_drew (Below.refl _ _)) hBA); clear hBA ra)
                  | ((with_reducible refine (HOB.out _ HBA.out).mono ?_); rintro e wB ⟨⟨LB, e2, rfl, rb⟩, hBB⟩; have HRA2 := Lib.hid (HRA.out.below hBB); have HRB := Lib.hid rb; have HBB := Lib.hid (bl_then HBA.out hBB); clear hBB rb))
                | (go_at_call 28; refine (ints8_same LA LB e1 e2 _ (offsL us vs oj) _ rfl HRA2.out HRB.out (by rw [offsL_length]; have := cellsN_le us vs oj; omega)).mono ?_; rintro e wC ⟨rfl, hBC⟩; have HBC := Lib.hid (bl_then HBB.out hBC); clear hBC))
              go_wp2_with fail
              go_roundw
              case rel => exact ⟨q, rfl, by have := HQ.out; omega, Lib.hid (bl_then HRb.out HBC.out)⟩
              case measure => have := HQ.out; simp [intOf]; omega
          · have hjN' : ¬ (j : Int) < (N : Int) := by omega
            go_wp2_with fail
            go_ret
            exact ⟨rfl, HBr.out⟩
end Go.Proofs.Ythjkeefdeeljoaa.Shp
