/- The document's Bounds and Fits. -/
import Derived.Test.YthjkeefdeeljoaaPk30
import Derived.Test.YthjkeefdeeljoaaPk38
import Derived.Deep.DeepCutAuto
namespace Go.Proofs.Ythjkeefdeeljoaa.Shp
open Go.RowKit Go.Shelf Go.Proofs.Ythjkeefdeeljoaa.Num
set_option linter.unusedVariables false
set_option linter.unusedSimpArgs false

set_option maxRecDepth 100000 in
set_option maxHeartbeats 1000000 in
theorem rbounds_yes (xs ys : List Int) (off : Int) (A B : Option Addr) (ca cb n m : Nat) (w : World) (hx : ReadsI w .i64 A xs) (hy : ReadsI w .i64 B ys) (hn : xs.length = n) (hm : ys.length = m) (hv : vrB xs ys off = true) (hz : ¬ 0 ∈ xs) :
    Calls Try.prog 96 #[.agg #[.slice A n ca, .slice B m cb, .int .i64 off]] w fun e w' => e = .returned (.tuple #[.int .i64 (loK xs ys off n), .int .i64 (hiK xs ys off n), .bool true]) ∧ Below w.heap.size w w' := by
  obtain ⟨v6, vm, vx, vy, v0, v9⟩ := vr_each hv
  have hl : n ≤ 1000000 := by omega
  have hl2 : m ≤ 1000000 := by omega
  obtain ⟨W0, hW0⟩ : ∃ W0, W0 = w.alloc (.cells #[.slice A n ca, .slice B m cb, .int .i64 off] 24) := ⟨_, rfl⟩
  have hb0 : Below w.heap.size w W0 := by rw [hW0]; exact bl_alloc (Below.refl _ _) _
  have hbox : Blk W0 w.heap.size 24 #[.slice A n ca, .slice B m cb, .int .i64 off] := by rw [hW0]; exact Blk.new _ _ _
  have HR := Lib.hid (fun W (h : Below w.heap.size w W) => rvright_calls xs ys off A B ca cb n m W (hx.below h) (hy.below h) hn hm hl hl2)
  rw [hv] at HR
  obtain ⟨N, hN⟩ := Int.eq_ofNat_of_zero_le (show 0 ≤ prod xs from prod_nonneg xs fun x hx => by have := (rightB_mem (show rightB xs = true by have h1 := (vrB_out hv).1; unfold sizeOk at h1; simp only [Bool.and_eq_true] at h1; exact h1.1)).2 x hx; omega)
  have hN1 : 1 ≤ N := by
    have h1 : 0 < prod xs := prod_pos xs fun x hx => by
      have := (rightB_mem (show rightB xs = true by have h1 := (vrB_out hv).1; unfold sizeOk at h1; simp only [Bool.and_eq_true] at h1; exact h1.1)).2 x hx
      have h3 : x ≠ 0 := fun e => hz (e ▸ hx)
      omega
    omega
  have hN0 : ((N : Int) == 0) = false := by simp; omega
  have HE := Lib.hid (fun W (h : Below w.heap.size w W) => rsz_calls xs A B ca cb n m off W (hx.below h) hn (by omega) (N : Int) (vrB_out hv).1 hN)
  have H1X := Lib.hid (fun i (hi : i < xs.length) => (by
    have h1 := vx i hi
    have h3 : nth xs i ≠ 0 := fun e => hz (e ▸ nth_mem xs i hi)
    omega : 1 ≤ nth xs i))
  have HX := Lib.hid hx
  have HY := Lib.hid hy
  have HVX := Lib.hid vx
  have HVY := Lib.hid vy
  have HMM := Lib.hid hm
  have HVM := Lib.hid vm
  have HB0 := Lib.hid hb0
  have HBOX := Lib.hid hbox
  have HV := Lib.hid hv
  have HNN := Lib.hid hn
  have HW0 := Lib.hid hW0
  clear hx hy hb0 hbox hv hz vx vy vm hm hW0 v6 hl2 hn hN hN1
  go_enter Try.func96, Try.ntmps96
  go_wp2_with fail
  rw [← HW0.out]
  refine (HR.out _ HB0.out).mono ?_
  rintro e w1 ⟨rfl, hB1⟩
  have HBX1 := Lib.hid (HBOX.out.below' hB1)
  have HB1 := Lib.hid (bl_then HB0.out hB1)
  obtain ⟨k0, k1, k2⟩ := seen_view HBX1.out
  clear hB1 HW0
  go_wp2_with fail
  refine (HE.out _ HB1.out).mono ?_
  rintro e w2 ⟨rfl, hB2⟩
  have HBX2 := Lib.hid (HBX1.out.below' hB2)
  have HB2 := Lib.hid (bl_then HB1.out hB2)
  clear hB2 k0 k1 k2
  obtain ⟨k0, k1, k2⟩ := seen_view HBX2.out
  go_upto_region 3 with fail
  go_region_held3 (fun W => W.cell? ⟨w.heap.size, 0, none⟩ = some (.slice A n ca) ∧ W.cell? ⟨w.heap.size, 1, none⟩ = some (.slice B m cb) ∧ W.cell? ⟨w.heap.size, 2, none⟩ = some (.int .i64 off)) (exact ⟨k0, k1, k2⟩) (fail)
  go_wp2_with fail
  have HB3 := Lib.hid (bl_drew HB2.out)
  have HBX3 := Lib.hid HBX2.out.drew
  go_loopw [5, 6, 7, 8] (fun t5 t6 t7 _ wr => ∃ k : Nat, t5 = .int .i64 (loK xs ys off k) ∧ t6 = .int .i64 (hiK xs ys off k) ∧ t7 = .int .i64 k ∧ k ≤ n ∧ Hid (Below w.heap.size w wr) ∧ Hid (Blk wr w.heap.size 24 #[.slice A n ca, .slice B m cb, .int .i64 off])) (fun _ _ i _ _ => n - (intOf i).toNat)
  case atStart => exact ⟨0, rfl, rfl, rfl, Nat.zero_le _, HB3, HBX3⟩
  case round =>
    clear k0 k1 k2 HB3 HBX3 HB2 HBX2 HBX1 HB1 HB0 HBOX
    obtain ⟨k, rfl, rfl, rfl, hk, HB, HBX⟩ := hrel
    obtain ⟨k0, k1, k2⟩ := seen_view HBX.out
    by_cases hlt : k < n
    · have hkn : (k : Int) < (n : Int) := by omega
      have hkm : (k : Int) < (m : Int) := by have := HVM.out; have := HMM.out; have := HNN.out; omega
      have hb := lohi_bd HV.out k (by have := HNN.out; omega)
      have hb2 := lohi_bd HV.out (k + 1) (by have := HNN.out; omega)
      have hs := stepI_bd HV.out k (by have := HNN.out; omega)
      have hL : loK xs ys off (k + 1) = loK xs ys off k + min (stepI xs ys k) 0 := rfl
      have hH : hiK xs ys off (k + 1) = hiK xs ys off k + max (stepI xs ys k) 0 := rfl
      have h1x := H1X.out k (by have := HNN.out; omega)
      have hx9 := HVX.out k (by have := HNN.out; omega)
      have hy9 := HVY.out k (by have := HNN.out; omega)
      have es : (nth xs k - 1) * nth ys k = stepI xs ys k := by unfold stepI; rw [show max (nth xs k - 1) 0 = nth xs k - 1 by omega]
      obtain ⟨bA, oA, eA, cA⟩ := (HX.out.below HB.out) k (by have := HNN.out; omega)
      obtain ⟨bB, oB, eB, cB⟩ := (HY.out.below HB.out) k (by have := HMM.out; have := HVM.out; have := HNN.out; omega)
      rw [eA] at k0
      rw [eB] at k1
      obtain ⟨lo1, hlo1⟩ : ∃ v, loK xs ys off (k + 1) = v := ⟨_, rfl⟩
      obtain ⟨hi1, hhi1⟩ : ∃ v, hiK xs ys off (k + 1) = v := ⟨_, rfl⟩
      rw [hlo1] at hL hb2
      rw [hhi1] at hH hb2
      have HLO1 := Lib.hid hlo1
      have HHI1 := Lib.hid hhi1
      clear hlo1 hhi1
      generalize loK xs ys off k = lo at *
      generalize hiK xs ys off k = hi at *
      generalize stepI xs ys k = s at *
      generalize nth xs k = x at *
      generalize nth ys k = y at *
      have hn6 : n ≤ 6 := by have := (vr_each HV.out).1; have := HNN.out; omega
      obtain ⟨x1, hx1⟩ : ∃ x1, x - 1 = x1 := ⟨_, rfl⟩
      have hxw : IntKind.i64.wrap x1 = x1 := by rw [IntKind.wrap_i64]; omega
      have hsw : IntKind.i64.wrap s = s := by rw [IntKind.wrap_i64]; omega
      rw [hx1] at es
      have hw1 : IntKind.i64.wrap lo1 = lo1 := by rw [IntKind.wrap_i64]; omega
      have hw2 : IntKind.i64.wrap hi1 = hi1 := by rw [IntKind.wrap_i64]; omega
      have HEA := Lib.hid eA
      have HEB := Lib.hid eB
      have e1 : lo + min s 0 = lo1 := hL.symm
      have e2 : hi + max s 0 = hi1 := hH.symm
      clear hL hH hb hb2 hs h1x hx9 hy9 eA eB
      go_upto_region 7 with fail
      go_region_held3 (fun W => W.cell? ⟨w.heap.size, 0, none⟩ = some (.slice (some ⟨bA, oA, none⟩) n ca) ∧ W.cell? ⟨w.heap.size, 1, none⟩ = some (.slice (some ⟨bB, oB, none⟩) m cb) ∧ W.cell? ⟨bA, oA + k, none⟩ = some (.int .i64 x) ∧ W.cell? ⟨bB, oB + k, none⟩ = some (.int .i64 y)) (exact ⟨k0, k1, cA, cB⟩) (fail)
      go_wp2_with fail
      go_roundw
      case measure => first | (simp [intOf]; done) | (simp [intOf]; omega)
      case rel => exact ⟨k + 1, by rw [HLO1.out], by rw [HHI1.out], by go_num, by omega, Lib.hid (bl_drew HB.out), Lib.hid HBX.out.drew⟩
    · obtain rfl : k = n := by omega
      go_wp2_with fail
      exact bodyPost_ret (v := .tuple #[.int .i64 (loK xs ys off k), .int .i64 (hiK xs ys off k), .bool true]) (by simp [results, Try.results96, go_sem]) rfl ⟨rfl, HB.out⟩
theorem rbounds_no (xs ys : List Int) (off : Int) (A B : Option Addr) (ca cb n m : Nat) (w : World) (hx : ReadsI w .i64 A xs) (hy : ReadsI w .i64 B ys) (hn : xs.length = n) (hm : ys.length = m) (hl : n ≤ 1000000) (hl2 : m ≤ 1000000) (hv : vrB xs ys off = false ∨ 0 ∈ xs) :
    Calls Try.prog 96 #[.agg #[.slice A n ca, .slice B m cb, .int .i64 off]] w fun e w' => e = .returned (.tuple #[.int .i64 0, .int .i64 0, .bool false]) ∧ Below w.heap.size w w' := by
  obtain ⟨W0, hW0⟩ : ∃ W0, W0 = w.alloc (.cells #[.slice A n ca, .slice B m cb, .int .i64 off] 24) := ⟨_, rfl⟩
  have hb0 : Below w.heap.size w W0 := by rw [hW0]; exact bl_alloc (Below.refl _ _) _
  have hbox : Blk W0 w.heap.size 24 #[.slice A n ca, .slice B m cb, .int .i64 off] := by rw [hW0]; exact Blk.new _ _ _
  have HR := Lib.hid (fun W (h : Below w.heap.size w W) => rvright_calls xs ys off A B ca cb n m W (hx.below h) (hy.below h) hn hm hl hl2)
  have HB0 := Lib.hid hb0
  have HBOX := Lib.hid hbox
  have HW0 := Lib.hid hW0
  cases h1 : vrB xs ys off with
  | false =>
    rw [h1] at HR
    clear hx hy hb0 hbox hv hW0 h1 hn hm
    go_enter Try.func96, Try.ntmps96
    go_wp2_with fail
    rw [← HW0.out]
    refine (HR.out _ HB0.out).mono ?_
    rintro e w1 ⟨rfl, hB1⟩
    have HB1 := Lib.hid (bl_then HB0.out hB1)
    clear hB1 HW0
    go_wp2_with fail
    exact bodyPost_ret (v := .tuple #[.int .i64 0, .int .i64 0, .bool false]) (by simp [results, Try.results96, go_sem]) rfl ⟨rfl, HB1.out⟩
  | true =>
    have h2 : 0 ∈ xs := by rcases hv with h | h; (rw [h1] at h; cases h); exact h
    rw [h1] at HR
    have HE := Lib.hid (fun W (h : Below w.heap.size w W) => rsz_calls xs A B ca cb n m off W (hx.below h) hn (by omega) 0 (vrB_out h1).1 (prod_zero xs h2))
    clear hx hy hb0 hbox hv hW0 h1 h2 hn hm
    go_enter Try.func96, Try.ntmps96
    go_wp2_with fail
    rw [← HW0.out]
    refine (HR.out _ HB0.out).mono ?_
    rintro e w1 ⟨rfl, hB1⟩
    have HBX1 := Lib.hid (HBOX.out.below' hB1)
    have HB1 := Lib.hid (bl_then HB0.out hB1)
    obtain ⟨k0, k1, k2⟩ := seen_view HBX1.out
    clear hB1 HW0
    go_wp2_with fail
    refine (HE.out _ HB1.out).mono ?_
    rintro e w2 ⟨rfl, hB2⟩
    have HB2 := Lib.hid (bl_then HB1.out hB2)
    clear hB2 k0 k1 k2
    go_wp2_with fail
    exact bodyPost_ret (v := .tuple #[.int .i64 0, .int .i64 0, .bool false]) (by simp [results, Try.results96, go_sem]) rfl ⟨rfl, HB2.out⟩
theorem rfits_calls (xs ys : List Int) (off : Int) (A B : Option Addr) (ca cb n m : Nat) (q : Int) (w : World) (hx : ReadsI w .i64 A xs) (hy : ReadsI w .i64 B ys) (hn : xs.length = n) (hm : ys.length = m) (hl : n ≤ 1000000) (hl2 : m ≤ 1000000) :
    Calls Try.prog 49 #[.agg #[.slice A n ca, .slice B m cb, .int .i64 off], .int .i64 q] w fun e w' => e = .returned (.bool (fitsB xs ys off q)) ∧ Below w.heap.size w w' := by
  obtain ⟨W0, hW0⟩ : ∃ W0, W0 = w.alloc (.cells #[.slice A n ca, .slice B m cb, .int .i64 off] 24) := ⟨_, rfl⟩
  have hb0 : Below w.heap.size w W0 := by rw [hW0]; exact bl_alloc (Below.refl _ _) _
  have hbox : Blk W0 w.heap.size 24 #[.slice A n ca, .slice B m cb, .int .i64 off] := by rw [hW0]; exact Blk.new _ _ _
  have HR := Lib.hid (fun W (h : Below w.heap.size w W) => rvright_calls xs ys off A B ca cb n m W (hx.below h) (hy.below h) hn hm hl hl2)
  by_cases hc : vrB xs ys off = true ∧ ¬ 0 ∈ xs
  · obtain ⟨h1, h2⟩ := hc
    have HBD := Lib.hid (rbounds_yes xs ys off A B ca cb n m W0 (hx.below hb0) (hy.below hb0) hn hm h1 h2)
    have e : fitsB xs ys off q = (decide (0 ≤ loK xs ys off n) && decide (hiK xs ys off n < q)) := by unfold fitsB; rw [h1, decide_eq_false h2, hn]; rfl
    rw [e]
    rw [h1] at HR
    generalize loK xs ys off n = lo at *
    generalize hiK xs ys off n = hi at *
    have HB0 := Lib.hid hb0
    have HBOX := Lib.hid hbox
    have HW0 := Lib.hid hW0
    clear hx hy hb0 hbox hW0 h1 h2 hn hm e
    by_cases c : 0 ≤ lo
    · rw [decide_eq_true c, Bool.true_and]
      go_enter Try.func49, Try.ntmps49
      go_wp2_with fail
      rw [← HW0.out]
      refine HBD.out.mono ?_
      rintro e w1 ⟨rfl, hB1⟩
      obtain ⟨k0, k1, k2⟩ := seen_view (HBOX.out.below' hB1)
      have HB1 := Lib.hid (bl_then HB0.out hB1)
      clear hB1 HW0
      go_wp2_with fail
      refine (HR.out _ HB1.out).mono ?_
      rintro e w2 ⟨rfl, hB2⟩
      have HB2 := Lib.hid (bl_then HB1.out hB2)
      clear hB2 k0 k1 k2
      go_wp2_with fail
      go_ret
      exact ⟨rfl, HB2.out⟩
    · rw [decide_eq_false c, Bool.false_and]
      go_enter Try.func49, Try.ntmps49
      go_wp2_with fail
      rw [← HW0.out]
      refine HBD.out.mono ?_
      rintro e w1 ⟨rfl, hB1⟩
      obtain ⟨k0, k1, k2⟩ := seen_view (HBOX.out.below' hB1)
      have HB1 := Lib.hid (bl_then HB0.out hB1)
      clear hB1 HW0
      go_wp2_with fail
      refine (HR.out _ HB1.out).mono ?_
      rintro e w2 ⟨rfl, hB2⟩
      have HB2 := Lib.hid (bl_then HB1.out hB2)
      clear hB2 k0 k1 k2
      go_wp2_with fail
      go_ret
      exact ⟨rfl, HB2.out⟩
  · have h1 : vrB xs ys off = false ∨ 0 ∈ xs := by
      cases h : vrB xs ys off with
      | false => exact .inl rfl
      | true => exact .inr (Classical.byContradiction fun h2 => hc ⟨h, h2⟩)
    have HBD := Lib.hid (rbounds_no xs ys off A B ca cb n m W0 (hx.below hb0) (hy.below hb0) hn hm hl hl2 h1)
    have e : fitsB xs ys off q = vrB xs ys off := by
      unfold fitsB
      rcases h1 with h | h
      · rw [h]; rfl
      · rw [decide_eq_true h]; simp
    rw [e]
    generalize vrB xs ys off = v at *
    have HB0 := Lib.hid hb0
    have HBOX := Lib.hid hbox
    have HW0 := Lib.hid hW0
    clear hx hy hb0 hbox hW0 h1 hc hn hm e
    cases v with
    | false =>
      go_enter Try.func49, Try.ntmps49
      go_wp2_with fail
      rw [← HW0.out]
      refine HBD.out.mono ?_
      rintro e w1 ⟨rfl, hB1⟩
      obtain ⟨k0, k1, k2⟩ := seen_view (HBOX.out.below' hB1)
      have HB1 := Lib.hid (bl_then HB0.out hB1)
      clear hB1 HW0
      go_wp2_with fail
      refine (HR.out _ HB1.out).mono ?_
      rintro e w2 ⟨rfl, hB2⟩
      have HB2 := Lib.hid (bl_then HB1.out hB2)
      clear hB2 k0 k1 k2
      go_wp2_with fail
      go_ret
      exact ⟨rfl, HB2.out⟩
    | true =>
      go_enter Try.func49, Try.ntmps49
      go_wp2_with fail
      rw [← HW0.out]
      refine HBD.out.mono ?_
      rintro e w1 ⟨rfl, hB1⟩
      obtain ⟨k0, k1, k2⟩ := seen_view (HBOX.out.below' hB1)
      have HB1 := Lib.hid (bl_then HB0.out hB1)
      clear hB1 HW0
      go_wp2_with fail
      refine (HR.out _ HB1.out).mono ?_
      rintro e w2 ⟨rfl, hB2⟩
      have HB2 := Lib.hid (bl_then HB1.out hB2)
      clear hB2 k0 k1 k2
      go_wp2_with fail
      go_ret
      exact ⟨rfl, HB2.out⟩
end Go.Proofs.Ythjkeefdeeljoaa.Shp
