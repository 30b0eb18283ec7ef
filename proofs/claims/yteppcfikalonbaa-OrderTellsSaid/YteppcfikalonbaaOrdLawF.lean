/- The law OrderFinds. -/
import Derived.Test.YteppcfikalonbaaOrdRef4
import Derived.Test.YteppcfikalonbaaOrdLawB
namespace Go.Proofs.Yteppcfikalonbaa.Ord
open Go.RowKit
set_option linter.unusedVariables false
set_option linter.unusedSimpArgs false

theorem nth_toI (L : List Nat) (j : Nat) (h : j < L.length) : nth (toI L) j = ((nth L j : Nat) : Int) := nth_map (fun (x : Nat) => (x : Int)) L j h
theorem toI_length (L : List Nat) : (toI L).length = L.length := by simp [toI]
theorem takeL_perm (xs : List Int) (L : List Nat) (hp : L.Perm (List.range xs.length)) : takeL xs (toI L) = (toI L).map (fun p => nth xs p.toNat) := by
  have h : inRange xs (toI L) = true := by
    unfold inRange
    rw [List.all_eq_true]
    intro p hp'
    obtain ⟨x, hx, rfl⟩ := List.mem_map.1 hp'
    have : x < xs.length := by simpa using hp.subset hx
    simp; omega
  unfold takeL
  rw [if_pos h]
  rfl
theorem takeL_sorted (xs : List Int) (L : List Nat) (hp : L.Perm (List.range xs.length)) (hs : L.Pairwise (Ahead (bhOf cmpI xs))) :
    (takeL xs (toI L)).length = xs.length ∧ ∀ i j, i ≤ j → j < xs.length → nth (takeL xs (toI L)) i ≤ nth (takeL xs (toI L)) j := by
  have hl : L.length = xs.length := by simpa using hp.length_eq
  rw [takeL_perm xs L hp]
  refine ⟨by simp [toI, hl], fun i j hij hj => ?_⟩
  have e : ∀ k, k < xs.length → nth ((toI L).map (fun p => nth xs p.toNat)) k = nth xs (nth L k) := fun k hk => by
    rw [nth_map _ _ _ (by rw [toI_length]; omega), nth_toI _ _ (by omega), Int.toNat_natCast]
  rw [e i (by omega), e j hj]
  rcases Nat.lt_or_eq_of_le hij with h | rfl
  · have h1 := List.pairwise_iff_getElem.1 hs i j (by omega) (by omega) h
    rw [nth_eq L i (by omega), nth_eq L j (by omega)]
    unfold Ahead bhOf at h1
    simp only [decide_eq_true_eq, decide_eq_false_iff_not, cmpI_pos] at h1
    omega
  · exact Int.le_refl _

theorem ints_same (A C : Option Addr) (ca cc n : Nat) (xs : List Int) (w : World) (hn : xs.length = n) (hx : ReadsI w .i64 A xs) (hy : ReadsI w .i64 C xs) (hl : n ≤ 9223372036854775807) :
    Calls Try.prog 11 #[.slice A n ca, .slice C n cc] w fun e w' => e = .returned (.bool true) ∧ Below w.heap.size w w' := by
  subst hn
  refine (ints_calls A C ca cc xs xs w hx hy hl hl).mono ?_
  rintro e w' ⟨rfl, m, rfl⟩
  exact ⟨by simp, bl_drewN (Below.refl _ _) _⟩
set_option maxHeartbeats 1000000 in
theorem sorted_calls (xs : List Int) (A : Option Addr) (ca : Nat) (w : World) (hx : ReadsI w .i64 A xs) (hl : xs.length ≤ 1000000) :
    Calls Try.prog 17 #[.slice A xs.length ca] w fun e w' => (∃ D cd S, e = .returned (.slice D S.length cd) ∧ S.length ≤ cd ∧ ReadsI w' .i64 D S ∧ S.length = xs.length ∧ ∀ i j, i ≤ j → j < xs.length → nth S i ≤ nth S j) ∧ Below w.heap.size w w' := by
  have HX := Lib.hid hx
  clear hx
  go_enter Try.func17, Try.ntmps17
  go_wp2_with fail
  refine (refSort_calls xs A ca _ HX.out hl).mono ?_
  rintro e w1 ⟨⟨v, L, rfl, ⟨C, cc, rfl, hcc, hrc⟩, hp, hs⟩, hB1⟩
  have hl1 : (toI L).length = xs.length := by rw [toI_length]; simpa using hp.length_eq
  have HB1 := Lib.hid hB1
  have HP := Lib.hid hp
  have HS := Lib.hid hs
  have HC := Lib.hid hrc
  have HL1 := Lib.hid hl1
  have hcalls := refTake_calls A C ca cc xs (toI L) w1 (HX.out.below hB1) hrc (by omega) (by omega)
  clear hB1 hp hs hrc hcc
  rw [hl1] at hcalls ⊢
  clear hl1
  go_wp2_with fail
  refine hcalls.mono ?_
  rintro e w2 ⟨⟨v, rfl, D, cd, rfl, hcd, hrd⟩, hB2⟩
  have HB2 := Lib.hid (bl_then HB1.out hB2)
  have HD := Lib.hid hrd
  have HCD := Lib.hid hcd
  clear hB2 hrd hcd hcalls
  obtain ⟨h1, h2⟩ := takeL_sorted xs L HP.out HS.out
  have H1 := Lib.hid h1
  have H2 := Lib.hid h2
  clear h1 h2
  go_wp2_with fail
  go_ret
  exact ⟨⟨D, cd, _, rfl, HCD.out, HD.out, H1.out, H2.out⟩, HB2.out⟩

theorem stop_unique (S : List Int) (x : Int) (k n : Nat) (hm : ∀ i j, i ≤ j → j < S.length → nth S i ≤ nth S j) (hk : Stop (fun i => decide (0 ≤ cmpI (nth S i) x)) S.length k)
    (hn : n ≤ S.length) (h1 : ∀ i, i < n → nth S i < x) (h2 : n < S.length → x ≤ nth S n) : k = n := by
  obtain ⟨a, b, c⟩ := hk
  simp only [decide_eq_true_eq, decide_eq_false_iff_not, cmpI_nonneg] at b c
  rcases Nat.lt_trichotomy k n with h | h | h
  · have := b (by omega)
    have := h1 k h
    omega
  · exact h
  · have := c (by omega)
    have := h2 (by omega)
    have := hm n (k - 1) (by omega) (by omega)
    omega
theorem rises_unique (xs : List Int) (k m : Nat) (hk : Rises cmpI xs k) (hm : Rises cmpI xs m) : k = m := by
  obtain ⟨a1, a2, a3, a4, a5⟩ := hk
  obtain ⟨b1, b2, b3, b4, b5⟩ := hm
  rcases Nat.lt_trichotomy k m with h | h | h
  · by_cases h0 : xs.length = 0
    · omega
    · have c1 := a3 (by omega)
      have := a5 c1 (by omega)
      have := b4 k c1 h
      omega
  · exact h
  · by_cases h0 : xs.length = 0
    · omega
    · have c1 := b3 (by omega)
      have := b5 c1 (by omega)
      have := a4 m c1 h
      omega

set_option maxRecDepth 100000 in
set_option maxHeartbeats 2000000 in
theorem orderFinds_walk (xs ys : List Int) (x : Int) (A C : Option Addr) (ca cc : Nat) (w : World) (hx : ReadsI w .i64 A xs) (hy : ReadsI w .i64 C ys) (hca : xs.length ≤ ca) (hcc : ys.length ≤ cc) (hl : xs.length ≤ 20000000000000) (hly : ys.length ≤ 20000000000000) :
    Calls Try.prog 4 #[.slice A xs.length ca, .slice C ys.length cc, .int .i64 x] w fun e w' => e = .returned (.bool true) ∧ Below w.heap.size w w' := by
  have HX := Lib.hid hx
  have HY := Lib.hid hy
  clear hx hy
  by_cases h150 : 150 < xs.length ∨ 150 < ys.length
  · have d1 : decide (150 < (xs.length : Int)) = decide (150 < xs.length) := by simp; omega
    have d2 : decide (150 < (ys.length : Int)) = decide (150 < ys.length) := by simp; omega
    go_enter Try.func4, Try.ntmps4
    by_cases h1 : 150 < xs.length
    all_goals try have h2 : 150 < ys.length := by omega
    all_goals
      go_wp2_with fail
      refine (knows_calls _).mono ?_
      rintro e w1 ⟨rfl, hB1⟩
      go_wp2_with fail
      go_ret
      exact ⟨rfl, hB1⟩
  · have h1 : ¬ 150 < xs.length := by omega
    have h2 : ¬ 150 < ys.length := by omega
    clear h150
    go_enter Try.func4, Try.ntmps4
    go_wp2_with fail
    refine (sorted_calls xs A ca _ HX.out (by omega)).mono ?_
    rintro e w1 ⟨⟨D, cd, S, rfl, hcd, hrd, hSl, hSm⟩, hB1⟩
    have HB1 := Lib.hid hB1
    have HD := Lib.hid hrd
    have HSM := Lib.hid hSm
    clear hrd hSm hB1
    go_wp2_with fail
    refine (sorted_calls ys C cc _ (HY.out.below HB1.out) (by omega)).mono ?_
    rintro e w2 ⟨⟨E, ce, T, rfl, hce, hre, hTl, hTm⟩, hB2⟩
    have HB2 := Lib.hid (bl_then HB1.out hB2)
    have HD2 := Lib.hid (HD.out.below hB2)
    have HE := Lib.hid hre
    clear hre hTm hB2 HD
    go_wp2_with fail
    have hf := find_calls S x D cd _ cmpI cmpI_of.val w2 HD2.out (by omega)
    rw [hSl] at hf
    refine hf.mono ?_
    rintro e w3 ⟨⟨k, rfl, hk⟩, hB3⟩
    obtain ⟨ok, hok⟩ : ∃ ok, ok = decide (k < xs.length ∧ cmpI (nth S k) x = 0) := ⟨_, rfl⟩
    rw [← hok]
    rw [← hSl] at hk
    have HK := Lib.hid hk
    have HOK := Lib.hid hok
    have HB3 := Lib.hid (bl_then HB2.out hB3)
    have HD3 := Lib.hid (HD2.out.below hB3)
    have HE3 := Lib.hid (HE.out.below hB3)
    clear hf hk hok hB3 HB2 HD2 HE HB1
    go_wp2_with fail
    go_loopw [11] (fun i wr => ∃ (n m : Nat), i = .int .i64 n ∧ n ≤ xs.length ∧ Hid (∀ i, i < n → nth S i < x) ∧ Hid (wr = w3.drewN m)) (fun i _ => xs.length - (intOf i).toNat)
    case atStart => exact ⟨0, 0, rfl, Nat.zero_le _, Lib.hid (by omega), Lib.hid rfl⟩
    case round =>
      obtain ⟨n, m, rfl, hn, HN, HW⟩ := hrel
      by_cases hlt : n < xs.length
      · obtain ⟨bb, off, rfl, hc⟩ := HD3.out n (by omega)
        have g1 : wr.cell? ⟨bb, off + n, none⟩ = some (.int .i64 (nth S n)) := by rw [HW.out]; exact hc
        have HNN : Hid (nth S n < x → ∀ i, i < n + 1 → nth S i < x) := Lib.hid fun h i hi => by
          rcases Nat.lt_succ_iff_lt_or_eq.1 hi with hi | rfl
          · exact HN.out i hi
          · exact h
        have HKN : Hid (¬ nth S n < x → k = n) := Lib.hid fun h => stop_unique S x k n (fun i j h1 h2 => HSM.out i j h1 (by omega)) HK.out (by omega) HN.out (fun _ => by omega)
        clear hc
        by_cases hyx : nth S n < x
        · generalize nth S n = y at *
          go_wp2_with fail
          go_roundw
          case measure => first | (simp [intOf]; done) | (simp [intOf]; omega)
          case rel => exact ⟨n + 1, m, by go_num, by omega, Lib.hid (HNN.out hyx), Lib.hid HW.out⟩
        · obtain rfl := HKN.out hyx
          obtain rfl : ok = (nth S k == x) := by
            rw [HOK.out]
            rw [Bool.eq_iff_iff]
            simp [cmpI_zero, hlt]
          clear HKN HNN HOK
          obtain ⟨D, hD⟩ : ∃ D' : Option Addr, D' = some ⟨bb, off, none⟩ := ⟨_, rfl⟩
          generalize hy : nth S k = y at *
          clear hy
          have d1 : decide (y < x) = false := by simpa using hyx
          rw [← hD] at HD3
          have HBW : Hid (Below w.heap.size w wr) := Lib.hid (by rw [HW.out]; exact bl_drewN HB3.out _)
          have HDW : Hid (ReadsI wr .i64 D S) := Lib.hid (by rw [HW.out]; exact HD3.out)
          have HEW : Hid (ReadsI wr .i64 E T) := Lib.hid (by rw [HW.out]; exact HE3.out)
          clear HW HD3 HE3 HB3 HK HN HSM
          go_wp2_with fail
          try rw [← hD]
          try clear hD
          refine (rising_calls xs A ca _ cmpI cmpI_of.val wr (HX.out.below HBW.out) (by omega)).mono ?_
          rintro e w4 ⟨⟨r1, rfl, hr1⟩, m4, rfl⟩
          have HR1 := Lib.hid hr1
          clear hr1
          obtain ⟨w4, hw4⟩ : ∃ w4 : World, w4 = wr.drewN m4 := ⟨_, rfl⟩
          rw [← hw4]
          have HBW : Hid (Below w.heap.size w w4) := Lib.hid (by rw [hw4]; exact bl_drewN HBW.out _)
          have HDW : Hid (ReadsI w4 .i64 D S) := Lib.hid (by rw [hw4]; exact HDW.out)
          have HEW : Hid (ReadsI w4 .i64 E T) := Lib.hid (by rw [hw4]; exact HEW.out)
          clear hw4
          go_wp2_with fail
          refine (refRising_calls xs A ca w4 (HX.out.below HBW.out) (by omega)).mono ?_
          rintro e w5 ⟨⟨r2, rfl, hr2⟩, m5, rfl⟩
          obtain rfl := rises_unique xs _ _ HR1.out hr2
          clear hr2 HR1
          obtain ⟨w5, hw5⟩ : ∃ w5 : World, w5 = w4.drewN m5 := ⟨_, rfl⟩
          rw [← hw5]
          have HBW : Hid (Below w.heap.size w w5) := Lib.hid (by rw [hw5]; exact bl_drewN HBW.out _)
          have HDW : Hid (ReadsI w5 .i64 D S) := Lib.hid (by rw [hw5]; exact HDW.out)
          have HEW : Hid (ReadsI w5 .i64 E T) := Lib.hid (by rw [hw5]; exact HEW.out)
          clear hw5
          go_wp2_with fail
          have hm := merge_calls S T D E cd ce _ cmpI cmpI_of.val w5 HDW.out HEW.out (by omega) (by omega) hcd hce
          rw [hSl, hTl] at hm
          refine hm.mono ?_
          rintro e w6 ⟨⟨v, rfl, M, cm, rfl, hcm, hrm⟩, hB6⟩
          have HBW : Hid (Below w.heap.size w w6) := Lib.hid (bl_then HBW.out hB6)
          have HDW : Hid (ReadsI w6 .i64 D S) := Lib.hid (HDW.out.below hB6)
          have HEW : Hid (ReadsI w6 .i64 E T) := Lib.hid (HEW.out.below hB6)
          have HM := Lib.hid hrm
          clear hm hB6 hrm
          generalize hgl : (mergeL cmpI S T).length = ml
          have HGL := Lib.hid hgl
          clear hgl hcm
          go_wp2_with fail
          have hm := refMerge_calls S T D E cd ce w6 HDW.out HEW.out (by omega) (by omega)
          rw [hSl, hTl] at hm
          refine hm.mono ?_
          rintro e w7 ⟨⟨v, rfl, M2, cm2, rfl, hcm2, hrm2⟩, hB7⟩
          have HBW : Hid (Below w.heap.size w w7) := Lib.hid (bl_then HBW.out hB7)
          have HM : Hid (ReadsI w7 .i64 M (mergeL cmpI S T)) := Lib.hid (HM.out.below hB7)
          have HM2 := Lib.hid hrm2
          have hi := ints_same M M2 cm cm2 ml (mergeL cmpI S T) w7 HGL.out HM.out hrm2 (by have := HGL.out; rw [mergeL_length] at this; omega)
          clear hm hB7 hrm2 hcm2
          rw [HGL.out]
          go_wp2_with fail
          refine hi.mono ?_
          rintro e w8 ⟨rfl, hB8⟩
          have HBW : Hid (Below w.heap.size w w8) := Lib.hid (bl_then HBW.out hB8)
          clear hi hB8
          go_wp2_with fail
          refine (knows_calls _).mono ?_
          rintro e w9 ⟨rfl, hB9⟩
          go_wp2_with fail
          go_ret
          exact ⟨rfl, bl_then HBW.out hB9⟩
      · obtain rfl : n = xs.length := by omega
        obtain rfl := stop_unique S x k xs.length (fun i j h1 h2 => HSM.out i j h1 (by omega)) HK.out (by omega) HN.out (fun h => absurd h (by omega))
        obtain rfl : ok = false := by
          rw [HOK.out]
          simp
        clear HOK
        have HBW : Hid (Below w.heap.size w wr) := Lib.hid (by rw [HW.out]; exact bl_drewN HB3.out _)
        have HDW : Hid (ReadsI wr .i64 D S) := Lib.hid (by rw [HW.out]; exact HD3.out)
        have HEW : Hid (ReadsI wr .i64 E T) := Lib.hid (by rw [HW.out]; exact HE3.out)
        clear HW HD3 HE3 HB3 HK HN HSM
        go_wp2_with fail
        try rw [← hD]
        try clear hD
        refine (rising_calls xs A ca _ cmpI cmpI_of.val wr (HX.out.below HBW.out) (by omega)).mono ?_
        rintro e w4 ⟨⟨r1, rfl, hr1⟩, m4, rfl⟩
        have HR1 := Lib.hid hr1
        clear hr1
        obtain ⟨w4, hw4⟩ : ∃ w4 : World, w4 = wr.drewN m4 := ⟨_, rfl⟩
        rw [← hw4]
        have HBW : Hid (Below w.heap.size w w4) := Lib.hid (by rw [hw4]; exact bl_drewN HBW.out _)
        have HDW : Hid (ReadsI w4 .i64 D S) := Lib.hid (by rw [hw4]; exact HDW.out)
        have HEW : Hid (ReadsI w4 .i64 E T) := Lib.hid (by rw [hw4]; exact HEW.out)
        clear hw4
        go_wp2_with fail
        refine (refRising_calls xs A ca w4 (HX.out.below HBW.out) (by omega)).mono ?_
        rintro e w5 ⟨⟨r2, rfl, hr2⟩, m5, rfl⟩
        obtain rfl := rises_unique xs _ _ HR1.out hr2
        clear hr2 HR1
        obtain ⟨w5, hw5⟩ : ∃ w5 : World, w5 = w4.drewN m5 := ⟨_, rfl⟩
        rw [← hw5]
        have HBW : Hid (Below w.heap.size w w5) := Lib.hid (by rw [hw5]; exact bl_drewN HBW.out _)
        have HDW : Hid (ReadsI w5 .i64 D S) := Lib.hid (by rw [hw5]; exact HDW.out)
        have HEW : Hid (ReadsI w5 .i64 E T) := Lib.hid (by rw [hw5]; exact HEW.out)
        clear hw5
        go_wp2_with fail
        have hm := merge_calls S T D E cd ce _ cmpI cmpI_of.val w5 HDW.out HEW.out (by omega) (by omega) hcd hce
        rw [hSl, hTl] at hm
        refine hm.mono ?_
        rintro e w6 ⟨⟨v, rfl, M, cm, rfl, hcm, hrm⟩, hB6⟩
        have HBW : Hid (Below w.heap.size w w6) := Lib.hid (bl_then HBW.out hB6)
        have HDW : Hid (ReadsI w6 .i64 D S) := Lib.hid (HDW.out.below hB6)
        have HEW : Hid (ReadsI w6 .i64 E T) := Lib.hid (HEW.out.below hB6)
        have HM := Lib.hid hrm
        clear hm hB6 hrm
        generalize hgl : (mergeL cmpI S T).length = ml
        have HGL := Lib.hid hgl
        clear hgl hcm
        go_wp2_with fail
        have hm := refMerge_calls S T D E cd ce w6 HDW.out HEW.out (by omega) (by omega)
        rw [hSl, hTl] at hm
        refine hm.mono ?_
        rintro e w7 ⟨⟨v, rfl, M2, cm2, rfl, hcm2, hrm2⟩, hB7⟩
        have HBW : Hid (Below w.heap.size w w7) := Lib.hid (bl_then HBW.out hB7)
        have HM : Hid (ReadsI w7 .i64 M (mergeL cmpI S T)) := Lib.hid (HM.out.below hB7)
        have HM2 := Lib.hid hrm2
        have hi := ints_same M M2 cm cm2 ml (mergeL cmpI S T) w7 HGL.out HM.out hrm2 (by have := HGL.out; rw [mergeL_length] at this; omega)
        clear hm hB7 hrm2 hcm2
        rw [HGL.out]
        go_wp2_with fail
        refine hi.mono ?_
        rintro e w8 ⟨rfl, hB8⟩
        have HBW : Hid (Below w.heap.size w w8) := Lib.hid (bl_then HBW.out hB8)
        clear hi hB8
        go_wp2_with fail
        refine (knows_calls _).mono ?_
        rintro e w9 ⟨rfl, hB9⟩
        go_wp2_with fail
        go_ret
        exact ⟨rfl, bl_then HBW.out hB9⟩
end Go.Proofs.Yteppcfikalonbaa.Ord
