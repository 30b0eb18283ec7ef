/- The law ShapeBack: its walk, for every input. -/
import Derived.Test.YtilkijioocijcaaKnows07
namespace Go.Proofs.Ytilkijioocijcaa.Shp
open Go.RowKit Go.Proofs.Ytilkijioocijcaa.Num
set_option linter.unusedVariables false
set_option linter.unusedSimpArgs false

theorem has_at (xs : List Int) (p : Nat) (hr : rightB xs = true) (h1 : ∀ x ∈ xs, 1 ≤ x) : hasB xs ((atL xs p).map fun (x : Nat) => (x : Int)) = true := by
  have hl : (atL xs p).length = xs.length := by simp [atL]
  have hall : inTo xs ((atL xs p).map fun (x : Nat) => (x : Int)) xs.length = true := by
    unfold inTo
    rw [List.all_eq_true]
    intro i hi
    have hi' : i < xs.length := by simpa using hi
    have hx := h1 _ (nth_mem xs i hi')
    have e : nth ((atL xs p).map fun (x : Nat) => (x : Int)) i = ((dg xs p i : Nat) : Int) := by
      rw [nth_eq _ _ (by simpa [hl] using hi')]; simp [atL]
    rw [e]
    have : dg xs p i < (nth xs i).toNat := Nat.mod_lt _ (by omega)
    rw [decide_eq_true_eq]
    omega
  unfold hasB
  rw [hr, hall]
  simp [hl]
theorem ok_pos (xs : List Int) (hok : sizeOk xs = true) (p : Int) (h0 : 0 ≤ p) (h : p < prod xs) : rightB xs = true ∧ (∀ x ∈ xs, 1 ≤ x) ∧ prod xs ≤ 1048576 := by
  unfold sizeOk at hok
  simp only [Bool.and_eq_true, decide_eq_true_eq] at hok
  exact ⟨hok.1, prod_pos_mem xs (fun x hx => ((rightB_mem hok.1).2 x hx).1) (by omega), hok.2⟩
theorem place_yes (xs ps : List Int) (A C : Option Addr) (ca cc n : Nat) (w : World) (hn : ps.length = n) (hx : ReadsI w .i64 A xs) (hy : ReadsI w .i64 C ps) (hl : xs.length ≤ 1000000) (hly : n ≤ 1000000) (hok : sizeOk xs = true) (hh : hasB xs ps = true) :
    Calls Try.prog 8 #[.slice A xs.length ca, .slice C n cc] w fun e w' => e = .returned (.tuple #[.int .i64 (plc xs ps xs.length), .bool true]) ∧ Below w.heap.size w w' := by
  subst hn
  refine (place_calls xs ps A C ca cc w hx hy hl hly).mono ?_
  rintro e w' ⟨rfl, hB⟩
  rw [if_pos (by rw [hok, hh]; rfl)]
  exact ⟨rfl, hB⟩
theorem place_no (xs ps : List Int) (A C : Option Addr) (ca cc : Nat) (w : World) (hx : ReadsI w .i64 A xs) (hy : ReadsI w .i64 C ps) (hl : xs.length ≤ 1000000) (hly : ps.length ≤ 1000000) (h : (sizeOk xs && hasB xs ps) = false) :
    Calls Try.prog 8 #[.slice A xs.length ca, .slice C ps.length cc] w fun e w' => e = .returned (.tuple #[.int .i64 0, .bool false]) ∧ Below w.heap.size w w' := by
  refine (place_calls xs ps A C ca cc w hx hy hl hly).mono ?_
  rintro e w' ⟨rfl, hB⟩
  rw [if_neg (by rw [h]; simp)]
  exact ⟨rfl, hB⟩
theorem size_yes (xs : List Int) (A : Option Addr) (ca : Nat) (w : World) (hx : ReadsI w .i64 A xs) (hl : xs.length ≤ 1000000) (n : Int) (hn : prod xs = n) (h : sizeOk xs = true) :
    Calls Try.prog 6 #[.slice A xs.length ca, .int .i64 1048576] w fun e w' => e = .returned (.tuple #[.int .i64 n, .bool true]) ∧ w = w' := by
  have := size_calls xs 1048576 A ca w hx (by omega) (by unfold fits; omega)
  rwa [size_full, if_pos h, hn] at this
theorem size_no (xs : List Int) (A : Option Addr) (ca : Nat) (w : World) (hx : ReadsI w .i64 A xs) (hl : xs.length ≤ 1000000) (h : sizeOk xs = false) :
    Calls Try.prog 6 #[.slice A xs.length ca, .int .i64 1048576] w fun e w' => e = .returned (.tuple #[.int .i64 0, .bool false]) ∧ w = w' := by
  have := size_calls xs 1048576 A ca w hx (by omega) (by unfold fits; omega)
  rwa [size_full, if_neg (by rw [h]; simp)] at this
theorem has_same (xs ps : List Int) (A C : Option Addr) (ca cc n : Nat) (w : World) (hn : ps.length = n) (b : Bool) (hb : hasB xs ps = b) (hx : ReadsI w .i64 A xs) (hy : ReadsI w .i64 C ps) (hl : xs.length ≤ 1000000) (hly : n ≤ 1000000) :
    Calls Try.prog 9 #[.slice A xs.length ca, .slice C n cc] w fun e w' => e = .returned (.bool b) ∧ w = w' := by
  subst hn
  subst hb
  exact has_calls xs ps A C ca cc w hx hy (by omega) (by omega)

set_option maxRecDepth 100000 in
set_option maxHeartbeats 2000000 in
theorem back_walk (xs : List Int) (A : Option Addr) (ca : Nat) (place : Int) (ps : List Int) (C : Option Addr) (cc : Nat) (w : World) (hx : ReadsI w .i64 A xs) (hy : ReadsI w .i64 C ps) :
    Calls Try.prog 3 #[.slice A xs.length ca, .int .i64 place, .slice C ps.length cc] w fun e w' => e = .returned (.bool true) ∧ Below w.heap.size w w' := by
  have HX := Lib.hid hx
  have HY := Lib.hid hy
  clear hx hy
  by_cases h40 : 40 < xs.length
  · go_enter Try.func3, Try.ntmps3
    go_wp2_with fail
    refine (knows_calls _).mono ?_
    rintro e w1 ⟨rfl, hB1⟩
    go_wp2_with fail
    go_ret
    exact ⟨rfl, hB1⟩
  by_cases h41 : 40 < ps.length
  · go_enter Try.func3, Try.ntmps3
    go_wp2_with fail
    refine (knows_calls _).mono ?_
    rintro e w1 ⟨rfl, hB1⟩
    go_wp2_with fail
    go_ret
    exact ⟨rfl, hB1⟩
  cases hok : sizeOk xs with
  | false =>
    have HA := Lib.hid (fun w h => at_no_calls xs place A ca w h (by omega) (by rw [hok]; simp))
    have HP := Lib.hid (fun w h h' => place_no xs ps A C ca cc w h h' (by omega) (by omega) (by rw [hok]; rfl))
    have HS := Lib.hid (fun w h => size_no xs A ca w h (by omega) hok)
    clear hok
    go_enter Try.func3, Try.ntmps3
    go_wp2_with fail
    refine (knows_calls _).mono ?_
    rintro e w1 ⟨rfl, hB1⟩
    have HB1 := Lib.hid hB1
    have HX1 := Lib.hid (HX.out.below hB1)
    have HY1 := Lib.hid (HY.out.below hB1)
    clear hB1
    go_wp2_with fail
    refine (HS.out _ HX1.out).mono ?_
    rintro e w2 ⟨rfl, rfl⟩
    go_wp2_with fail
    refine (HA.out _ HX1.out).mono ?_
    rintro e w2 ⟨rfl, rfl⟩
    go_wp2_with fail
    refine (HP.out _ HX1.out HY1.out).mono ?_
    rintro e w2 ⟨rfl, hB2⟩
    have HB2 := Lib.hid (bl_then HB1.out hB2)
    clear hB2
    go_wp2_with fail
    go_ret
    exact ⟨rfl, HB2.out⟩
  | true =>
    obtain ⟨n, hn⟩ : ∃ n, prod xs = n := ⟨_, rfl⟩
    have HS := Lib.hid (fun w h => size_yes xs A ca w h (by omega) n hn hok)
    have HN := Lib.hid hn
    have HOK := Lib.hid hok
    clear hn hok
    -- the count of a place
    have hplace : ∃ (is : Bool) (D : Option Addr) (m : Nat) (r : List Int), True := ⟨true, none, 0, [], trivial⟩
    clear hplace
    cases hhas : hasB xs ps with
    | false =>
      have HP := Lib.hid (fun w h h' => place_no xs ps A C ca cc w h h' (by omega) (by omega) (by rw [hhas]; simp))
      have HH := Lib.hid (fun w h h' => has_same xs ps A C ca cc ps.length w rfl _ hhas h h' (by omega) (by omega))
      clear hhas
      by_cases hp : 0 ≤ place ∧ place < n
      · obtain ⟨hp0, hp1⟩ := hp
        obtain ⟨p, rfl⟩ := Int.eq_ofNat_of_zero_le hp0
        obtain ⟨hr, hm, hle⟩ := ok_pos xs HOK.out p hp0 (by rw [HN.out]; exact hp1)
        have hpp : (p : Int) < prod xs := by rw [HN.out]; exact hp1
        have HA := Lib.hid (fun w h => at_yes_calls xs p A ca w h (by omega) HOK.out hpp)
        have hal : ((atL xs p).map fun (x : Nat) => (x : Int)).length = xs.length := by simp [atL]
        have HP2 := Lib.hid (fun w b h h' => place_yes xs _ A (some ⟨b, 0, none⟩) ca xs.length xs.length w hal h h' (by omega) (by omega) HOK.out (has_at xs p hr hm))
        have HH2 := Lib.hid (fun w b h h' => has_same xs _ A (some ⟨b, 0, none⟩) ca xs.length xs.length w hal _ (has_at xs p hr hm) h h' (by omega) (by omega))
        rw [plc_at xs hm p hpp] at HP2
        clear hm hr hpp hal hle
        go_enter Try.func3, Try.ntmps3
        go_wp2_with fail
        refine (knows_calls _).mono ?_
        rintro e w1 ⟨rfl, hB1⟩
        have HB1 := Lib.hid hB1
        have HX1 := Lib.hid (HX.out.below hB1)
        have HY1 := Lib.hid (HY.out.below hB1)
        clear hB1
        go_wp2_with fail
        refine (HS.out _ HX1.out).mono ?_
        rintro e w2 ⟨rfl, rfl⟩
        go_wp2_with fail
        refine (HA.out _ HX1.out).mono ?_
        rintro e w2 ⟨⟨b, rfl, hrow⟩, hB2⟩
        have HX2 := Lib.hid (HX1.out.below hB2)
        have HY2 := Lib.hid (HY1.out.below hB2)
        have HB2 := Lib.hid (bl_then HB1.out hB2)
        have HR2 := Lib.hid (row_shows hrow)
        clear hB2 hrow
        go_wp2_with fail
        refine (HP.out _ HX2.out HY2.out).mono ?_
        rintro e w3 ⟨rfl, hB3⟩
        have HX3 := Lib.hid (HX2.out.below hB3)
        have HY3 := Lib.hid (HY2.out.below hB3)
        have HR3 := Lib.hid (HR2.out.below hB3)
        have HB3 := Lib.hid (bl_then HB2.out hB3)
        clear hB3
        go_wp2_with fail
        refine (HH.out _ HX3.out HY3.out).mono ?_
        rintro e w4 ⟨rfl, rfl⟩
        go_wp2_with fail
        refine (HP2.out _ _ HX3.out HR3.out).mono ?_
        rintro e w4 ⟨rfl, hB4⟩
        have HX4 := Lib.hid (HX3.out.below hB4)
        have HR4 := Lib.hid (HR3.out.below hB4)
        have HB4 := Lib.hid (bl_then HB3.out hB4)
        clear hB4
        go_wp2_with fail
        refine (HH2.out _ _ HX4.out HR4.out).mono ?_
        rintro e w5 ⟨rfl, rfl⟩
        go_wp2_with fail
        go_ret
        exact ⟨rfl, HB4.out⟩
      · have HA := Lib.hid (fun w h => at_no_calls xs place A ca w h (by omega) (by rw [HN.out]; exact fun h => hp h.2))
        have hcase : (place < 0) ∨ (0 ≤ place ∧ n ≤ place) := by omega
        clear hp
        rcases hcase with hp | ⟨hp, hp'⟩
        all_goals
          go_enter Try.func3, Try.ntmps3
          go_wp2_with fail
          refine (knows_calls _).mono ?_
          rintro e w1 ⟨rfl, hB1⟩
          have HB1 := Lib.hid hB1
          have HX1 := Lib.hid (HX.out.below hB1)
          have HY1 := Lib.hid (HY.out.below hB1)
          clear hB1
          go_wp2_with fail
          refine (HS.out _ HX1.out).mono ?_
          rintro e w2 ⟨rfl, rfl⟩
          go_wp2_with fail
          refine (HA.out _ HX1.out).mono ?_
          rintro e w2 ⟨rfl, rfl⟩
          go_wp2_with fail
          refine (HP.out _ HX1.out HY1.out).mono ?_
          rintro e w3 ⟨rfl, hB3⟩
          have HX3 := Lib.hid (HX1.out.below hB3)
          have HY3 := Lib.hid (HY1.out.below hB3)
          have HB3 := Lib.hid (bl_then HB1.out hB3)
          clear hB3
          go_wp2_with fail
          refine (HH.out _ HX3.out HY3.out).mono ?_
          rintro e w4 ⟨rfl, rfl⟩
          go_wp2_with fail
          go_ret
          exact ⟨rfl, HB3.out⟩
    | true =>
      have HP := Lib.hid (fun w h h' => place_yes xs ps A C ca cc ps.length w rfl h h' (by omega) (by omega) HOK.out hhas)
      have HH := Lib.hid (fun w h h' => has_same xs ps A C ca cc ps.length w rfl _ hhas h h' (by omega) (by omega))
      obtain ⟨q, hq, hqn, hqa⟩ := at_plc xs ps hhas
      have HQ := Lib.hid (fun w h => at_yes_calls xs q A ca w h (by omega) HOK.out hqn)
      have hlq : ps.length = xs.length := by rw [← hqa]; simp [atL]
      have HI : Hid (∀ (w : World) (b : Nat), ReadsI w .i64 C ps → ReadsI w .i64 (some ⟨b, 0, none⟩) ((atL xs q).map fun (x : Nat) => (x : Int)) → Calls Try.prog 10 #[.slice (some ⟨b, 0, none⟩) xs.length xs.length, .slice C ps.length cc] w fun e w' => e = .returned (.bool true) ∧ Below w.heap.size w w') := Lib.hid fun w b h h' => by
        rw [hqa] at h'
        rw [hlq]
        exact ints_same _ _ _ _ xs.length ps w hlq h' h (by omega)
      rw [hq] at HP
      rw [HN.out] at hqn
      clear hq hqa hhas hlq
      by_cases hp : 0 ≤ place ∧ place < n
      · obtain ⟨hp0, hp1⟩ := hp
        obtain ⟨p, rfl⟩ := Int.eq_ofNat_of_zero_le hp0
        obtain ⟨hr, hm, hle⟩ := ok_pos xs HOK.out p hp0 (by rw [HN.out]; exact hp1)
        have hpp : (p : Int) < prod xs := by rw [HN.out]; exact hp1
        have HA := Lib.hid (fun w h => at_yes_calls xs p A ca w h (by omega) HOK.out hpp)
        have hal : ((atL xs p).map fun (x : Nat) => (x : Int)).length = xs.length := by simp [atL]
        have HP2 := Lib.hid (fun w b h h' => place_yes xs _ A (some ⟨b, 0, none⟩) ca xs.length xs.length w hal h h' (by omega) (by omega) HOK.out (has_at xs p hr hm))
        have HH2 := Lib.hid (fun w b h h' => has_same xs _ A (some ⟨b, 0, none⟩) ca xs.length xs.length w hal _ (has_at xs p hr hm) h h' (by omega) (by omega))
        rw [plc_at xs hm p hpp] at HP2
        clear hm hr hpp hal hle
        go_enter Try.func3, Try.ntmps3
        go_wp2_with fail
        refine (knows_calls _).mono ?_
        rintro e w1 ⟨rfl, hB1⟩
        have HB1 := Lib.hid hB1
        have HX1 := Lib.hid (HX.out.below hB1)
        have HY1 := Lib.hid (HY.out.below hB1)
        clear hB1
        go_wp2_with fail
        refine (HS.out _ HX1.out).mono ?_
        rintro e w2 ⟨rfl, rfl⟩
        go_wp2_with fail
        refine (HA.out _ HX1.out).mono ?_
        rintro e w2 ⟨⟨b, rfl, hrow⟩, hB2⟩
        have HX2 := Lib.hid (HX1.out.below hB2)
        have HY2 := Lib.hid (HY1.out.below hB2)
        have HB2 := Lib.hid (bl_then HB1.out hB2)
        have HR2 := Lib.hid (row_shows hrow)
        clear hB2 hrow
        go_wp2_with fail
        refine (HP.out _ HX2.out HY2.out).mono ?_
        rintro e w3 ⟨rfl, hB3⟩
        have HX3 := Lib.hid (HX2.out.below hB3)
        have HY3 := Lib.hid (HY2.out.below hB3)
        have HR3 := Lib.hid (HR2.out.below hB3)
        have HB3 := Lib.hid (bl_then HB2.out hB3)
        clear hB3
        go_wp2_with fail
        refine (HH.out _ HX3.out HY3.out).mono ?_
        rintro e w4 ⟨rfl, rfl⟩
        go_wp2_with fail
        refine (HP2.out _ _ HX3.out HR3.out).mono ?_
        rintro e w4 ⟨rfl, hB4⟩
        have HX4 := Lib.hid (HX3.out.below hB4)
        have HY4 := Lib.hid (HY3.out.below hB4)
        have HR4 := Lib.hid (HR3.out.below hB4)
        have HB4 := Lib.hid (bl_then HB3.out hB4)
        clear hB4
        go_wp2_with fail
        refine (HH2.out _ _ HX4.out HR4.out).mono ?_
        rintro e w5 ⟨rfl, rfl⟩
        go_wp2_with fail
        refine (HQ.out _ HX4.out).mono ?_
        rintro e w5 ⟨⟨b5, rfl, hrow⟩, hB5⟩
        have HY5 := Lib.hid (HY4.out.below hB5)
        have HB5 := Lib.hid (bl_then HB4.out hB5)
        have HR5 := Lib.hid (row_shows hrow)
        clear hB5 hrow
        go_wp2_with fail
        refine (HI.out _ _ HY5.out HR5.out).mono ?_
        rintro e w6 ⟨rfl, hB6⟩
        have HB6 := Lib.hid (bl_then HB5.out hB6)
        clear hB6
        go_wp2_with fail
        go_ret
        exact ⟨rfl, HB6.out⟩
      · have HA := Lib.hid (fun w h => at_no_calls xs place A ca w h (by omega) (by rw [HN.out]; exact fun h => hp h.2))
        have hcase : (place < 0) ∨ (0 ≤ place ∧ n ≤ place) := by omega
        clear hp
        rcases hcase with hp | ⟨hp, hp'⟩
        all_goals
          go_enter Try.func3, Try.ntmps3
          go_wp2_with fail
          refine (knows_calls _).mono ?_
          rintro e w1 ⟨rfl, hB1⟩
          have HB1 := Lib.hid hB1
          have HX1 := Lib.hid (HX.out.below hB1)
          have HY1 := Lib.hid (HY.out.below hB1)
          clear hB1
          go_wp2_with fail
          refine (HS.out _ HX1.out).mono ?_
          rintro e w2 ⟨rfl, rfl⟩
          go_wp2_with fail
          refine (HA.out _ HX1.out).mono ?_
          rintro e w2 ⟨rfl, rfl⟩
          go_wp2_with fail
          refine (HP.out _ HX1.out HY1.out).mono ?_
          rintro e w3 ⟨rfl, hB3⟩
          have HX3 := Lib.hid (HX1.out.below hB3)
          have HY3 := Lib.hid (HY1.out.below hB3)
          have HB3 := Lib.hid (bl_then HB1.out hB3)
          clear hB3
          go_wp2_with fail
          refine (HH.out _ HX3.out HY3.out).mono ?_
          rintro e w4 ⟨rfl, rfl⟩
          go_wp2_with fail
          refine (HQ.out _ HX3.out).mono ?_
          rintro e w5 ⟨⟨b5, rfl, hrow⟩, hB5⟩
          have HY5 := Lib.hid (HY3.out.below hB5)
          have HB5 := Lib.hid (bl_then HB3.out hB5)
          have HR5 := Lib.hid (row_shows hrow)
          clear hB5 hrow
          go_wp2_with fail
          refine (HI.out _ _ HY5.out HR5.out).mono ?_
          rintro e w6 ⟨rfl, hB6⟩
          have HB6 := Lib.hid (bl_then HB5.out hB6)
          clear hB6
          go_wp2_with fail
          go_ret
          exact ⟨rfl, HB6.out⟩
end Go.Proofs.Ytilkijioocijcaa.Shp
