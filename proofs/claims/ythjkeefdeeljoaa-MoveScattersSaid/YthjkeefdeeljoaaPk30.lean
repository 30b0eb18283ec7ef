/- view.Bounds, view.Fits. -/
import Derived.Test.YthjkeefdeeljoaaPk28
import Derived.Test.YthjkeefdeeljoaaPk29
namespace Go.Proofs.Ythjkeefdeeljoaa.Shp
open Go.RowKit Go.Shelf Go.Proofs.Ythjkeefdeeljoaa.Num
set_option linter.unusedVariables false
set_option linter.unusedSimpArgs false

/-- How far an axis goes. -/
def stepI (xs ys : List Int) (i : Nat) : Int := max (nth xs i - 1) 0 * nth ys i
def loK (xs ys : List Int) (off : Int) : Nat → Int
  | 0 => off
  | k + 1 => loK xs ys off k + min (stepI xs ys k) 0
def hiK (xs ys : List Int) (off : Int) : Nat → Int
  | 0 => off
  | k + 1 => hiK xs ys off k + max (stepI xs ys k) 0
/-- Does a view fit into a row of so many? -/
def fitsB (xs ys : List Int) (off n : Int) : Bool := vrB xs ys off && (decide (0 ∈ xs) || (decide (0 ≤ loK xs ys off xs.length) && decide (hiK xs ys off xs.length < n)))
theorem vr_each {xs ys : List Int} {off : Int} (hv : vrB xs ys off = true) : xs.length ≤ 6 ∧ ys.length = xs.length ∧ (∀ i, i < xs.length → 0 ≤ nth xs i ∧ nth xs i ≤ 1048576) ∧ (∀ i, i < xs.length → -1048576 ≤ nth ys i ∧ nth ys i ≤ 1048576) ∧ 0 ≤ off ∧ off ≤ 16777216 := by
  obtain ⟨v1, v2, v3, v4, v5⟩ := vrB_out hv
  have h6 := rightB_mem (show rightB xs = true by unfold sizeOk at v1; simp only [Bool.and_eq_true] at v1; exact v1.1)
  exact ⟨h6.1, v2, fun i hi => h6.2 _ (nth_mem xs i hi), fun i hi => near_mem v3 _ (nth_mem ys i (by omega)), v4, v5⟩
theorem stepI_bd {xs ys : List Int} {off : Int} (hv : vrB xs ys off = true) (i : Nat) (hi : i < xs.length) : -1099511627776 ≤ stepI xs ys i ∧ stepI xs ys i ≤ 1099511627776 := by
  obtain ⟨_, _, h1, h2, _⟩ := vr_each hv
  have := h1 i hi
  have := h2 i hi
  have hb := mul_bd (a := max (nth xs i - 1) 0) (y := nth ys i) (by omega) (by omega) (h2 i hi).1 (h2 i hi).2
  unfold stepI
  generalize max (nth xs i - 1) 0 * nth ys i = p at *
  omega
theorem lohi_bd {xs ys : List Int} {off : Int} (hv : vrB xs ys off = true) : ∀ k, k ≤ xs.length → off - k * 1099511627776 ≤ loK xs ys off k ∧ loK xs ys off k ≤ off ∧ off ≤ hiK xs ys off k ∧ hiK xs ys off k ≤ off + k * 1099511627776
  | 0, _ => by simp [loK, hiK]
  | k + 1, h => by
    obtain ⟨h1, h2, h3, h4⟩ := lohi_bd hv k (by omega)
    have hs := stepI_bd hv k (by omega)
    unfold loK hiK
    generalize stepI xs ys k = s at *
    omega
set_option maxRecDepth 100000 in
set_option maxHeartbeats 1000000 in
theorem bounds_yes (xs ys : List Int) (off : Int) (A B : Option Addr) (ca cb n m : Nat) (w : World) (hx : ReadsI w .i64 A xs) (hy : ReadsI w .i64 B ys) (hn : xs.length = n) (hm : ys.length = m) (hv : vrB xs ys off = true) (hz : ¬ 0 ∈ xs) :
    Calls Try.prog 119 #[.agg #[.slice A n ca, .slice B m cb, .int .i64 off]] w fun e w' => e = .returned (.tuple #[.int .i64 (loK xs ys off n), .int .i64 (hiK xs ys off n), .bool true]) ∧ Below w.heap.size w w' := by
  obtain ⟨v6, vm, vx, vy, v0, v9⟩ := vr_each hv
  have hl : n ≤ 1000000 := by omega
  have hl2 : m ≤ 1000000 := by omega
  obtain ⟨W0, hW0⟩ : ∃ W0, W0 = w.alloc (.cells #[.slice A n ca, .slice B m cb, .int .i64 off] 34) := ⟨_, rfl⟩
  have hb0 : Below w.heap.size w W0 := by rw [hW0]; exact bl_alloc (Below.refl _ _) _
  have hbox : Blk W0 w.heap.size 34 #[.slice A n ca, .slice B m cb, .int .i64 off] := by rw [hW0]; exact Blk.new _ _ _
  have HR := Lib.hid (fun W (h : Below w.heap.size w W) => vright_calls xs ys off A B ca cb n m W (hx.below h) (hy.below h) hn hm hl hl2)
  rw [hv] at HR
  have HE := Lib.hid (fun W (h : Below w.heap.size w W) => empty_calls xs ys off A B ca cb n m W (hx.below h) hn hl)
  rw [decide_eq_false hz] at HE
  have HST := Lib.hid (fun i (hi : i < n) W (h : Below w.heap.size w W) => step_calls xs ys off A B ca cb n m i W (hx.below h) (hy.below h) hn hm hi (by omega) (vx i (by omega)) (vy i (by omega)))
  have HB0 := Lib.hid hb0
  have HBOX := Lib.hid hbox
  have HV := Lib.hid hv
  have HNN := Lib.hid hn
  have HW0 := Lib.hid hW0
  clear hx hy hb0 hbox hv hz vx vy vm hm hW0 v6 hl2 hn
  go_enter Try.func119, Try.ntmps119
  go_wp2_with fail
  rw [← HW0.out]
  refine (HR.out _ HB0.out).mono ?_
  rintro e w1 ⟨rfl, hB1⟩
  have HBX1 := Lib.hid (HBOX.out.below' hB1)
  have HB1 := Lib.hid (bl_then HB0.out hB1)
  obtain ⟨k0, k1, k2⟩ := seen_view HBX1.out
  clear hB1 HW0
  go_wp2_with fail
  refine (HE.out _ HB1.out).mono ?_
  rintro e w2 ⟨rfl, hB2⟩
  have HBX2 := Lib.hid (HBX1.out.below' hB2)
  have HB2 := Lib.hid (bl_then HB1.out hB2)
  clear hB2 k0 k1 k2
  obtain ⟨k0, k1, k2⟩ := seen_view HBX2.out
  go_upto_region 3 with fail
  go_region_held3 (fun W => W.cell? ⟨w.heap.size, 0, none⟩ = some (.slice A n ca) ∧ W.cell? ⟨w.heap.size, 1, none⟩ = some (.slice B m cb) ∧ W.cell? ⟨w.heap.size, 2, none⟩ = some (.int .i64 off)) (exact ⟨k0, k1, k2⟩) (fail)
  go_wp2_with fail
  have HB3 := Lib.hid (bl_drew HB2.out)
  have HBX3 := Lib.hid HBX2.out.drew
  go_loopw [5, 6, 7, 8, 23] (fun t5 t6 _ _ t23 wr => ∃ k : Nat, t5 = .int .i64 (loK xs ys off k) ∧ t6 = .int .i64 (hiK xs ys off k) ∧ t23 = .int .i64 k ∧ k ≤ n ∧ Hid (Below w.heap.size w wr) ∧ Hid (Blk wr w.heap.size 34 #[.slice A n ca, .slice B m cb, .int .i64 off])) (fun _ _ _ _ i _ => n - (intOf i).toNat)
  case atStart => exact ⟨0, rfl, rfl, rfl, Nat.zero_le _, HB3, HBX3⟩
  case round =>
    clear k0 k1 k2 HB3 HBX3 HB2 HBX2 HBX1 HB1 HB0 HBOX
    obtain ⟨k, rfl, rfl, rfl, hk, HB, HBX⟩ := hrel
    obtain ⟨k0, k1, k2⟩ := seen_view HBX.out
    by_cases hlt : k < n
    · have hkn : (k : Int) < (n : Int) := by omega
      have hb := lohi_bd HV.out k (by have := HNN.out; omega)
      have hb2 := lohi_bd HV.out (k + 1) (by have := HNN.out; omega)
      have hs := stepI_bd HV.out k (by have := HNN.out; omega)
      have hL : loK xs ys off (k + 1) = loK xs ys off k + min (stepI xs ys k) 0 := rfl
      have hH : hiK xs ys off (k + 1) = hiK xs ys off k + max (stepI xs ys k) 0 := rfl
      have HS := HST.out k hlt wr HB.out
      have es : max (nth xs k - 1) 0 * nth ys k = stepI xs ys k := rfl
      rw [es] at HS
      have HLL := Lib.hid hL
      have HHH := Lib.hid hH
      obtain ⟨lo1, hlo1⟩ : ∃ v, loK xs ys off (k + 1) = v := ⟨_, rfl⟩
      obtain ⟨hi1, hhi1⟩ : ∃ v, hiK xs ys off (k + 1) = v := ⟨_, rfl⟩
      rw [hlo1] at hL hb2 HLL
      rw [hhi1] at hH hb2 HHH
      have HLO1 := Lib.hid hlo1
      have HHI1 := Lib.hid hhi1
      clear hlo1 hhi1
      generalize loK xs ys off k = lo at *
      generalize hiK xs ys off k = hi at *
      generalize stepI xs ys k = s at *
      have HS := Lib.hid HS
      have hn6 : n ≤ 6 := by have := (vr_each HV.out).1; have := HNN.out; omega
      by_cases hneg : s < 0
      · have e1 : lo + s = lo1 := by have := HLL.out; omega
        have e2 : hi = hi1 := by have := HHH.out; omega
        have hw : IntKind.i64.wrap lo1 = lo1 := by rw [IntKind.wrap_i64]; omega
        have E2 := Lib.hid e2
        clear e2 hb hb2 hs hL hH es
        go_wp2_with fail
        refine HS.out.mono ?_
        rintro e w3 ⟨rfl, hB3⟩
        have HB3 := Lib.hid (bl_then HB.out hB3)
        have HBX3 := Lib.hid (HBX.out.below' hB3)
        clear hB3 k0 k1 k2
        go_wp2_with fail
        go_roundw
        case measure => first | (simp [intOf]; done) | (simp [intOf]; omega)
        case rel => exact ⟨k + 1, by rw [HLO1.out], by rw [HHI1.out, E2.out], rfl, by omega, HB3, HBX3⟩
      · have e1 : hi + s = hi1 := by have := HHH.out; omega
        have e2 : lo = lo1 := by have := HLL.out; omega
        have hw : IntKind.i64.wrap hi1 = hi1 := by rw [IntKind.wrap_i64]; omega
        have E2 := Lib.hid e2
        clear e2 hb hb2 hs hL hH es
        go_wp2_with fail
        refine HS.out.mono ?_
        rintro e w3 ⟨rfl, hB3⟩
        have HB3 := Lib.hid (bl_then HB.out hB3)
        have HBX3 := Lib.hid (HBX.out.below' hB3)
        clear hB3 k0 k1 k2
        go_wp2_with fail
        go_roundw
        case measure => first | (simp [intOf]; done) | (simp [intOf]; omega)
        case rel => exact ⟨k + 1, by rw [HLO1.out, E2.out], by rw [HHI1.out], rfl, by omega, HB3, HBX3⟩
    · obtain rfl : k = n := by omega
      go_wp2_with fail
      exact bodyPost_ret (v := .tuple #[.int .i64 (loK xs ys off k), .int .i64 (hiK xs ys off k), .bool true]) (by simp [results, Try.results119, go_sem]) rfl ⟨rfl, HB.out⟩
theorem bounds_no (xs ys : List Int) (off : Int) (A B : Option Addr) (ca cb n m : Nat) (w : World) (hx : ReadsI w .i64 A xs) (hy : ReadsI w .i64 B ys) (hn : xs.length = n) (hm : ys.length = m) (hl : n ≤ 1000000) (hl2 : m ≤ 1000000) (hv : vrB xs ys off = false ∨ 0 ∈ xs) :
    Calls Try.prog 119 #[.agg #[.slice A n ca, .slice B m cb, .int .i64 off]] w fun e w' => e = .returned (.tuple #[.int .i64 0, .int .i64 0, .bool false]) ∧ Below w.heap.size w w' := by
  obtain ⟨W0, hW0⟩ : ∃ W0, W0 = w.alloc (.cells #[.slice A n ca, .slice B m cb, .int .i64 off] 34) := ⟨_, rfl⟩
  have hb0 : Below w.heap.size w W0 := by rw [hW0]; exact bl_alloc (Below.refl _ _) _
  have hbox : Blk W0 w.heap.size 34 #[.slice A n ca, .slice B m cb, .int .i64 off] := by rw [hW0]; exact Blk.new _ _ _
  have HR := Lib.hid (fun W (h : Below w.heap.size w W) => vright_calls xs ys off A B ca cb n m W (hx.below h) (hy.below h) hn hm hl hl2)
  have HE := Lib.hid (fun W (h : Below w.heap.size w W) => empty_calls xs ys off A B ca cb n m W (hx.below h) hn hl)
  have HB0 := Lib.hid hb0
  have HBOX := Lib.hid hbox
  have HW0 := Lib.hid hW0
  cases h1 : vrB xs ys off with
  | false =>
    rw [h1] at HR
    clear hx hy hb0 hbox hv hW0 h1 hn hm
    go_enter Try.func119, Try.ntmps119
    go_wp2_with fail
    rw [← HW0.out]
    refine (HR.out _ HB0.out).mono ?_
    rintro e w1 ⟨rfl, hB1⟩
    have HB1 := Lib.hid (bl_then HB0.out hB1)
    clear hB1 HW0
    go_wp2_with fail
    exact bodyPost_ret (v := .tuple #[.int .i64 0, .int .i64 0, .bool false]) (by simp [results, Try.results119, go_sem]) rfl ⟨rfl, HB1.out⟩
  | true =>
    have h2 : 0 ∈ xs := by rcases hv with h | h; (rw [h1] at h; cases h); exact h
    rw [h1] at HR
    rw [decide_eq_true h2] at HE
    clear hx hy hb0 hbox hv hW0 h1 h2 hn hm
    go_enter Try.func119, Try.ntmps119
    go_wp2_with fail
    rw [← HW0.out]
    refine (HR.out _ HB0.out).mono ?_
    rintro e w1 ⟨rfl, hB1⟩
    have HBX1 := Lib.hid (HBOX.out.below' hB1)
    have HB1 := Lib.hid (bl_then HB0.out hB1)
    obtain ⟨k0, k1, k2⟩ := seen_view HBX1.out
    clear hB1 HW0
    go_wp2_with fail
    refine (HE.out _ HB1.out).mono ?_
    rintro e w2 ⟨rfl, hB2⟩
    have HB2 := Lib.hid (bl_then HB1.out hB2)
    clear hB2 k0 k1 k2
    go_wp2_with fail
    exact bodyPost_ret (v := .tuple #[.int .i64 0, .int .i64 0, .bool false]) (by simp [results, Try.results119, go_sem]) rfl ⟨rfl, HB2.out⟩
theorem fits_calls (xs ys : List Int) (off : Int) (A B : Option Addr) (ca cb n m : Nat) (q : Int) (w : World) (hx : ReadsI w .i64 A xs) (hy : ReadsI w .i64 B ys) (hn : xs.length = n) (hm : ys.length = m) (hl : n ≤ 1000000) (hl2 : m ≤ 1000000) :
    Calls Try.prog 82 #[.agg #[.slice A n ca, .slice B m cb, .int .i64 off], .int .i64 q] w fun e w' => e = .returned (.bool (fitsB xs ys off q)) ∧ Below w.heap.size w w' := by
  obtain ⟨W0, hW0⟩ : ∃ W0, W0 = w.alloc (.cells #[.slice A n ca, .slice B m cb, .int .i64 off] 34) := ⟨_, rfl⟩
  have hb0 : Below w.heap.size w W0 := by rw [hW0]; exact bl_alloc (Below.refl _ _) _
  have hbox : Blk W0 w.heap.size 34 #[.slice A n ca, .slice B m cb, .int .i64 off] := by rw [hW0]; exact Blk.new _ _ _
  have HR := Lib.hid (fun W (h : Below w.heap.size w W) => vright_calls xs ys off A B ca cb n m W (hx.below h) (hy.below h) hn hm hl hl2)
  by_cases hc : vrB xs ys off = true ∧ ¬ 0 ∈ xs
  · obtain ⟨h1, h2⟩ := hc
    have HBD := Lib.hid (bounds_yes xs ys off A B ca cb n m W0 (hx.below hb0) (hy.below hb0) hn hm h1 h2)
    have e : fitsB xs ys off q = (decide (0 ≤ loK xs ys off n) && decide (hiK xs ys off n < q)) := by unfold fitsB; rw [h1, decide_eq_false h2, hn]; rfl
    rw [e]
    generalize loK xs ys off n = lo at *
    generalize hiK xs ys off n = hi at *
    have HB0 := Lib.hid hb0
    have HW0 := Lib.hid hW0
    clear hx hy hb0 hbox hW0 h1 h2 hn hm e HR
    by_cases c : 0 ≤ lo
    · rw [decide_eq_true c, Bool.true_and]
      go_enter Try.func82, Try.ntmps82
      go_wp2_with fail
      rw [← HW0.out]
      refine HBD.out.mono ?_
      rintro e w1 ⟨rfl, hB1⟩
      have HB1 := Lib.hid (bl_then HB0.out hB1)
      clear hB1 HW0
      go_wp2_with fail
      go_ret
      exact ⟨rfl, HB1.out⟩
    · rw [decide_eq_false c, Bool.false_and]
      go_enter Try.func82, Try.ntmps82
      go_wp2_with fail
      rw [← HW0.out]
      refine HBD.out.mono ?_
      rintro e w1 ⟨rfl, hB1⟩
      have HB1 := Lib.hid (bl_then HB0.out hB1)
      clear hB1 HW0
      go_wp2_with fail
      go_ret
      exact ⟨rfl, HB1.out⟩
  · have h1 : vrB xs ys off = false ∨ 0 ∈ xs := by
      cases h : vrB xs ys off with
      | false => exact .inl rfl
      | true => exact .inr (Classical.byContradiction fun h2 => hc ⟨h, h2⟩)
    have HBD := Lib.hid (bounds_no xs ys off A B ca cb n m W0 (hx.below hb0) (hy.below hb0) hn hm hl hl2 h1)
    have e : fitsB xs ys off q = vrB xs ys off := by
      unfold fitsB
      rcases h1 with h | h
      · rw [h]; rfl
      · rw [decide_eq_true h]; simp
    rw [e]
    generalize vrB xs ys off = v at *
    have HB0 := Lib.hid hb0
    have HBOX := Lib.hid hbox
    have HW0 := Lib.hid hW0
    clear hx hy hb0 hbox hW0 h1 hc hn hm e
    go_enter Try.func82, Try.ntmps82
    go_wp2_with fail
    rw [← HW0.out]
    refine HBD.out.mono ?_
    rintro e w1 ⟨rfl, hB1⟩
    obtain ⟨k0, k1, k2⟩ := seen_view (HBOX.out.below' hB1)
    have HB1 := Lib.hid (bl_then HB0.out hB1)
    clear hB1 HW0
    go_wp2_with fail
    refine (HR.out _ HB1.out).mono ?_
    rintro e w2 ⟨rfl, hB2⟩
    have HB2 := Lib.hid (bl_then HB1.out hB2)
    clear hB2 k0 k1 k2
    go_wp2_with fail
    go_ret
    exact ⟨rfl, HB2.out⟩
end Go.Proofs.Ythjkeefdeeljoaa.Shp
