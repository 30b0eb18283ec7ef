/- The walks of the statements NumDivides and NumBack. -/
import Derived.Test.YtkfoicfpchiflaaNum4
namespace Go.Proofs.Ytkfoicfpchiflaa.Num
open Go.RowKit
set_option linter.unusedVariables false
set_option linter.unusedSimpArgs false

theorem prod_knows : prodV 100 [4, 5, 5] = .tuple #[.int .i64 100, .bool true] := if_pos (by decide +kernel)
theorem div_knows : divV (-7) 2 = .tuple #[.int .i64 (-4), .bool true] := (if_neg (by decide)).trans (by rw [show wrap64 (fd (-7) 2) = -4 by decide +kernel])
theorem mod_knows : modV (-7) 2 = .tuple #[.int .i64 1, .bool true] := (if_neg (by decide)).trans (by rw [show fm (-7) 2 = 1 by decide +kernel])
theorem steps_knows : stepsV 5 0 (-2) = .tuple #[.int .i64 3, .bool true] := (if_pos (by decide +kernel)).trans (by rw [show stepsN 5 0 (-2) = 3 by decide +kernel])

set_option maxHeartbeats 1000000 in
theorem knows_calls (w : World) : Calls Try.prog 7 #[] w fun e w' => e = .returned (.bool true) ∧ Below w.heap.size w w' := by
  go_enter Try.func7, Try.ntmps7
  go_wp2_with fail
  refine (product_calls 100 _ 3 [4, 5, 5] _ (readsI_new _ _ _ _) (by simp) (by simp [fits]) (by simp [fits])).mono ?_
  rw [prod_knows]
  rintro e w' ⟨rfl, rfl⟩
  go_wp2_with fail
  refine (div_calls (-7) 2 _ (by simp [fits]) (by simp [fits])).mono ?_
  rw [div_knows]
  rintro e w' ⟨rfl, n1, rfl⟩
  go_wp2_with fail
  refine (mod_calls (-7) 2 _ (by simp [fits]) (by simp [fits])).mono ?_
  rw [mod_knows]
  rintro e w' ⟨rfl, rfl⟩
  go_wp2_with fail
  refine (steps_calls 5 0 (-2) _).mono ?_
  rw [steps_knows]
  rintro e w' ⟨rfl, hb⟩
  go_wp2
  go_ret
  exact ⟨rfl, bl_then (bl_drewN (bl_alloc (Below.refl _ _) _) _) hb⟩

theorem divV_form (a b : Int) : ∃ (q : Int) (o : Bool), divV a b = .tuple #[.int .i64 q, .bool o] := by unfold divV; split <;> exact ⟨_, _, rfl⟩
theorem modV_form (a b : Int) : ∃ (q : Int) (o : Bool), modV a b = .tuple #[.int .i64 q, .bool o] := by unfold modV; split <;> exact ⟨_, _, rfl⟩
theorem downV_form (a b : Int) : ∃ (q : Int) (o : Bool), downV a b = .tuple #[.int .i64 q, .bool o] := by unfold downV; split <;> (try split) <;> exact ⟨_, _, rfl⟩

set_option maxHeartbeats 1000000 in
theorem numDivides_calls (a b : Int) (w : World) (ha : fits a) (hb : fits b) :
    Calls Try.prog 4 #[.int .i64 a, .int .i64 b] w fun e w' => e = .returned (.bool true) ∧ Below w.heap.size w w' := by
  have c1 := div_calls a b
  have c2 := refDiv_calls a b
  have c3 := mod_calls a b
  have c4 := refMod_calls a b
  have c5 := down_calls a b
  have c6 := refDown_calls a b
  obtain ⟨q, o, e1⟩ := divV_form a b
  obtain ⟨r, u, e2⟩ := modV_form a b
  obtain ⟨s, v, e3⟩ := downV_form a b
  rw [e1] at c1 c2
  rw [e2] at c3 c4
  rw [e3] at c5 c6
  have C1 := Lib.hid c1
  have C2 := Lib.hid c2
  have C3 := Lib.hid c3
  have C4 := Lib.hid c4
  have C5 := Lib.hid c5
  have C6 := Lib.hid c6
  clear c1 c2 c3 c4 c5 c6 e1 e2 e3
  go_enter Try.func4, Try.ntmps4
  go_wp2_with fail
  refine (C1.out _ ha hb).mono ?_
  rintro e w' ⟨rfl, n1, rfl⟩
  go_wp2_with fail
  refine (C2.out _ ha hb).mono ?_
  rintro e w' ⟨rfl, rfl⟩
  go_wp2_with fail
  refine (C3.out _ ha hb).mono ?_
  rintro e w' ⟨rfl, rfl⟩
  go_wp2_with fail
  refine (C4.out _ ha hb).mono ?_
  rintro e w' ⟨rfl, rfl⟩
  go_wp2_with fail
  refine (C5.out _ ha hb).mono ?_
  rintro e w' ⟨rfl, n2, rfl⟩
  go_wp2_with fail
  refine (C6.out _ ha hb).mono ?_
  rintro e w' ⟨rfl, rfl⟩
  go_wp2_with fail
  refine (knows_calls _).mono ?_
  rintro e w' ⟨rfl, hbl⟩
  go_wp2
  go_ret
  exact ⟨rfl, bl_then (by repeat (first | exact Below.refl _ _ | apply bl_drewN | apply bl_alloc)) hbl⟩

theorem back_mod (q b r a : Int) (h : q * b + r = a) (ha : fits a) : wrap64 (wrap64 (wrap64 q * b) + r) = a := by
  have h1 : wrap64 (wrap64 (wrap64 q * b) + r) = wrap64 (q * b + r) := by
    obtain ⟨m, hm⟩ : ∃ m, wrap64 q = q + m * 18446744073709551616 := ⟨-((q + 9223372036854775808) / 18446744073709551616), by unfold wrap64; omega⟩
    have e : (q + m * 18446744073709551616) * b = q * b + (m * b) * 18446744073709551616 := by
      rw [Int.add_mul, Int.mul_assoc, Int.mul_comm 18446744073709551616 b, ← Int.mul_assoc]
    rw [hm, e]
    generalize q * b = x
    generalize m * b = y
    unfold wrap64
    omega
  rw [h1, h, wrap_fits ha]

/-- How often it goes on: so many steps. -/
theorem steps_pos (f t s : Int) (k : Nat) (hs : 0 < s) (h1 : t ≤ f + k * s) (h2 : k = 0 ∨ f + (k - 1) * s < t) : stepsN f t s = k := by
  unfold stepsN
  rw [if_neg (by omega)]
  have e : ((k : Int) - 1) * s = k * s - s := by rw [Int.sub_mul]; omega
  have e2 : ((k : Int) + 1) * s = k * s + s := by rw [Int.add_mul]; omega
  rw [e] at h2
  have h3 : (k : Int) * s ≤ max 0 (t - f + s - 1) := by
    rcases h2 with rfl | h2
    · simp; omega
    · have := Int.le_max_right 0 (t - f + s - 1); omega
  have h4 : max 0 (t - f + s - 1) < ((k : Int) + 1) * s := by
    rw [e2]
    have := Int.mul_nonneg (show (0 : Int) ≤ k by omega) (Int.le_of_lt hs)
    rw [Int.max_lt]; omega
  have h5 := Int.le_ediv_of_mul_le hs h3
  have h6 := Int.ediv_lt_of_lt_mul hs h4
  omega
theorem steps_neg (f t s : Int) (k : Nat) (hs : s < 0) (h1 : f + k * s ≤ t) (h2 : k = 0 ∨ t < f + (k - 1) * s) : stepsN f t s = k := by
  have := steps_pos t f (-s) 
  have e : stepsN f t s = stepsN (-f) (-t) (-s) := by
    unfold stepsN
    rw [if_pos hs, if_neg (by omega)]
    have : f - t + -s - 1 = -t - -f + -s - 1 := by omega
    rw [this]
  rw [e]
  refine steps_pos (-f) (-t) (-s) k (by omega) ?_ ?_
  · rw [Int.mul_neg]; omega
  · rw [Int.mul_neg]; omega

theorem stepsV_zero (f t : Int) : stepsV f t 0 = .tuple #[.int .i64 0, .bool false] := if_neg (by simp [stepsOk])
theorem stepsV_near (f t s : Int) (hf : -1000 ≤ f ∧ f ≤ 1000) (ht : -1000 ≤ t ∧ t ≤ 1000) (hs : -1000 ≤ s ∧ s ≤ 1000) (h0 : s ≠ 0) : stepsV f t s = .tuple #[.int .i64 (stepsN f t s), .bool true] :=
  if_pos (by simp [stepsOk, near, h0]; omega)
theorem stepsN_bd (f t s : Int) (hf : -1000 ≤ f ∧ f ≤ 1000) (ht : -1000 ≤ t ∧ t ≤ 1000) (hs : -1000 ≤ s ∧ s ≤ 1000) (h0 : s ≠ 0) : 0 ≤ stepsN f t s ∧ stepsN f t s ≤ 4000 := by
  have h : ∀ a b : Int, 0 ≤ a → a ≤ 4000 → 0 < b → 0 ≤ a / b ∧ a / b ≤ 4000 := fun a b h0 h1 h2 => ⟨Int.ediv_nonneg h0 (by omega), by have := Int.ediv_le_self b h0; omega⟩
  unfold stepsN
  split <;> exact h _ _ (by omega) (by omega) (by omega)
def inRange (x : Int) : Prop := -1000 ≤ x ∧ x ≤ 1000
instance (x : Int) : Decidable (inRange x) := by unfold inRange; infer_instance

/-- The first half: the quotient's part holds, whatever a and b. -/
theorem first_half (a b : Int) (ha : fits a) (hb : fits b) : ∃ q o r u, divV a b = .tuple #[.int .i64 q, .bool o] ∧ modV a b = .tuple #[.int .i64 r, .bool u] ∧ (o == (b != 0)) = true ∧ (o == u) = true ∧
    (o = true → (wrap64 (wrap64 (q * b) + r) == a) = true) ∧ (0 < b → 0 ≤ r ∧ r < b) ∧ (b < 0 → r ≤ 0 ∧ b < r) := by
  by_cases h0 : b = 0
  · subst h0
    exact ⟨0, false, 0, false, divV_zero a, modV_zero a, by simp, rfl, by simp, by simp, by simp⟩
  · have hbd := fm_bd a b h0
    refine ⟨_, true, _, true, divV_of _ _ _ h0 rfl, modV_of _ _ _ h0 rfl, by simpa using h0, rfl, fun _ => ?_, hbd.1, fun h => ⟨(hbd.2 h).2, (hbd.2 h).1⟩⟩
    rw [beq_iff_eq]
    exact back_mod _ _ _ _ (fd_fm a b) ha

/-- What the statement knows of the quotient, b's sign known. -/
def HalfB (a b q r : Int) (o : Bool) : Prop := (b = 0 ∧ o = false) ∨ (0 < b ∧ o = true ∧ 0 ≤ r ∧ r < b ∧ (wrap64 (wrap64 (q * b) + r) == a) = true) ∨ (b < 0 ∧ o = true ∧ r ≤ 0 ∧ b < r ∧ (wrap64 (wrap64 (q * b) + r) == a) = true)
theorem half_of (a b : Int) (ha : fits a) (hb : fits b) : ∃ q r o, divV a b = .tuple #[.int .i64 q, .bool o] ∧ modV a b = .tuple #[.int .i64 r, .bool o] ∧ HalfB a b q r o := by
  obtain ⟨q, o, r, u, e1, e2, f1, f2, f3, f4, f5⟩ := first_half a b ha hb
  rw [beq_iff_eq] at f1 f2
  subst f2
  subst f1
  refine ⟨q, r, _, e1, e2, ?_⟩
  by_cases h0 : b = 0
  · left; exact ⟨h0, by simp [h0]⟩
  · have hb : (b != 0) = true := by simpa using h0
    by_cases h1 : 0 < b
    · right; left; exact ⟨h1, hb, (f4 h1).1, (f4 h1).2, f3 hb⟩
    · right; right; exact ⟨by omega, hb, (f5 (by omega)).1, (f5 (by omega)).2, f3 hb⟩

set_option maxHeartbeats 4000000 in
theorem numBack_calls (a b f t s : Int) (w : World) (ha : fits a) (hb : fits b) (hf : fits f) (ht : fits t) (hs : fits s) :
    Calls Try.prog 3 #[.int .i64 a, .int .i64 b, .int .i64 f, .int .i64 t, .int .i64 s] w fun e w' => e = .returned (.bool true) ∧ Below w.heap.size w w' := by
  have c1 := div_calls a b
  have c3 := mod_calls a b
  obtain ⟨q, r, o, e1, e2, hh⟩ := half_of a b ha hb
  rw [e1] at c1
  rw [e2] at c3
  have C1 := Lib.hid c1
  have C3 := Lib.hid c3
  clear c1 c3 e1 e2
  rcases hh with ⟨rfl, rfl⟩ | ⟨g0, rfl, g1, g2, g3⟩ | ⟨g0, rfl, g1, g2, g3⟩
  all_goals try have g4 : (wrap64 (wrap64 (q * b) + r) != a) = false := by rw [bne, g3]; rfl
  all_goals try have g5 : (b == 0) = false := by simp; omega
  all_goals try have g6 : (b != 0) = true := by simp; omega
  all_goals go_enter Try.func3, Try.ntmps3
  all_goals go_wp2_with fail
  all_goals refine (C1.out _ ha hb).mono ?_
  all_goals rintro e w' ⟨rfl, n1, rfl⟩
  all_goals go_wp2_with fail
  all_goals refine (C3.out _ ha hb).mono ?_
  all_goals rintro e w' ⟨rfl, rfl⟩
  all_goals go_wp2_with fail
  all_goals refine (knows_calls _).mono ?_
  all_goals rintro e w' ⟨rfl, hk⟩
  all_goals go_wp2_with fail
  all_goals first | (go_ret; exact ⟨rfl, bl_then (bl_drewN (Below.refl _ _) _) hk⟩) | skip
  all_goals have hB := bl_then (bl_drewN (Below.refl _ w) n1) hk
  all_goals try clear g1 g2 g3
  all_goals clear hk C1 C3
  all_goals refine (steps_calls f t s _).mono ?_
  all_goals rintro e w' ⟨rfl, hk⟩
  all_goals replace hB := bl_then hB hk
  all_goals clear hk
  all_goals rcases Int.lt_trichotomy s 0 with hs0 | rfl | hs0
  all_goals try have e2 : (s == 0) = false := by simp; omega
  all_goals first | rw [stepsV_zero] | (rw [stepsV_near f t s (by omega) (by omega) (by omega) (by omega)]; have hn := stepsN_bd f t s (by omega) (by omega) (by omega) (by omega); generalize hn' : stepsN f t s = n at hn; have HN := Lib.hid hn'; clear hn')
  all_goals go_wp2
  all_goals first | (go_ret; exact ⟨rfl, hB⟩) | skip
  · have d1 : decide (0 < s) = false := by simp; omega
    have d2 : decide (s < 0) = true := by simpa using hs0
    go_loopw [17, 18] (fun k x wr => ∃ (m : Nat) (X : Int), k = .int .i64 m ∧ x = .int .i64 X ∧ (m : Int) ≤ f - X ∧ -2000 ≤ X ∧ X ≤ 2000 ∧ Hid (X = f + m * s) ∧ (m = 0 ∨ t < X - s) ∧ Below w.heap.size w wr) (fun _ x _ => (intOf x - t).toNat)
    case atStart => exact ⟨0, f, rfl, rfl, by omega, by omega, by omega, Lib.hid (by simp), .inl rfl, hB⟩
    case round =>
      obtain ⟨m, X, rfl, rfl, hm, hX1, hX2, HX, hpr, hB2⟩ := hrel
      by_cases hlt : t < X
      · go_wp2
        go_roundw
        case rel => exact ⟨m + 1, X + s, by go_num, by go_num, by omega, by omega, by omega, Lib.hid (by rw [HX.out, Int.natCast_add, Int.add_mul]; omega), .inr (by omega), hB2⟩
        case measure => simp [intOf]; omega
      · have hfin : n = m := by
          rw [← HN.out]
          have e1 := HX.out
          refine steps_neg f t s m hs0 (by rw [← e1]; omega) ?_
          rcases hpr with h | h
          · exact .inl h
          · right; rw [Int.sub_mul]; omega
        have hbeq : (n == (m : Int)) = true := by simpa using hfin
        clear hfin hpr
        go_wp2
        go_ret
        exact ⟨rfl, hB2⟩
  · have d1 : decide (0 < s) = true := by simpa using hs0
    have d2 : decide (s < 0) = false := by simp; omega
    go_loopw [17, 18] (fun k x wr => ∃ (m : Nat) (X : Int), k = .int .i64 m ∧ x = .int .i64 X ∧ (m : Int) ≤ X - f ∧ -2000 ≤ X ∧ X ≤ 2000 ∧ Hid (X = f + m * s) ∧ (m = 0 ∨ X - s < t) ∧ Below w.heap.size w wr) (fun _ x _ => (t - intOf x).toNat)
    case atStart => exact ⟨0, f, rfl, rfl, by omega, by omega, by omega, Lib.hid (by simp), .inl rfl, hB⟩
    case round =>
      obtain ⟨m, X, rfl, rfl, hm, hX1, hX2, HX, hpr, hB2⟩ := hrel
      by_cases hlt : X < t
      · go_wp2
        go_roundw
        case rel => exact ⟨m + 1, X + s, by go_num, by go_num, by omega, by omega, by omega, Lib.hid (by rw [HX.out, Int.natCast_add, Int.add_mul]; omega), .inr (by omega), hB2⟩
        case measure => simp [intOf]; omega
      · have hfin : n = m := by
          rw [← HN.out]
          have e1 := HX.out
          refine steps_pos f t s m hs0 (by rw [← e1]; omega) ?_
          rcases hpr with h | h
          · exact .inl h
          · right; rw [Int.sub_mul]; omega
        have hbeq : (n == (m : Int)) = true := by simpa using hfin
        clear hfin hpr
        go_wp2
        go_ret
        exact ⟨rfl, hB2⟩
  · have d1 : decide (0 < s) = false := by simp; omega
    have d2 : decide (s < 0) = true := by simpa using hs0
    go_loopw [17, 18] (fun k x wr => ∃ (m : Nat) (X : Int), k = .int .i64 m ∧ x = .int .i64 X ∧ (m : Int) ≤ f - X ∧ -2000 ≤ X ∧ X ≤ 2000 ∧ Hid (X = f + m * s) ∧ (m = 0 ∨ t < X - s) ∧ Below w.heap.size w wr) (fun _ x _ => (intOf x - t).toNat)
    case atStart => exact ⟨0, f, rfl, rfl, by omega, by omega, by omega, Lib.hid (by simp), .inl rfl, hB⟩
    case round =>
      obtain ⟨m, X, rfl, rfl, hm, hX1, hX2, HX, hpr, hB2⟩ := hrel
      by_cases hlt : t < X
      · go_wp2
        go_roundw
        case rel => exact ⟨m + 1, X + s, by go_num, by go_num, by omega, by omega, by omega, Lib.hid (by rw [HX.out, Int.natCast_add, Int.add_mul]; omega), .inr (by omega), hB2⟩
        case measure => simp [intOf]; omega
      · have hfin : n = m := by
          rw [← HN.out]
          have e1 := HX.out
          refine steps_neg f t s m hs0 (by rw [← e1]; omega) ?_
          rcases hpr with h | h
          · exact .inl h
          · right; rw [Int.sub_mul]; omega
        have hbeq : (n == (m : Int)) = true := by simpa using hfin
        clear hfin hpr
        go_wp2
        go_ret
        exact ⟨rfl, hB2⟩
  · have d1 : decide (0 < s) = true := by simpa using hs0
    have d2 : decide (s < 0) = false := by simp; omega
    go_loopw [17, 18] (fun k x wr => ∃ (m : Nat) (X : Int), k = .int .i64 m ∧ x = .int .i64 X ∧ (m : Int) ≤ X - f ∧ -2000 ≤ X ∧ X ≤ 2000 ∧ Hid (X = f + m * s) ∧ (m = 0 ∨ X - s < t) ∧ Below w.heap.size w wr) (fun _ x _ => (t - intOf x).toNat)
    case atStart => exact ⟨0, f, rfl, rfl, by omega, by omega, by omega, Lib.hid (by simp), .inl rfl, hB⟩
    case round =>
      obtain ⟨m, X, rfl, rfl, hm, hX1, hX2, HX, hpr, hB2⟩ := hrel
      by_cases hlt : X < t
      · go_wp2
        go_roundw
        case rel => exact ⟨m + 1, X + s, by go_num, by go_num, by omega, by omega, by omega, Lib.hid (by rw [HX.out, Int.natCast_add, Int.add_mul]; omega), .inr (by omega), hB2⟩
        case measure => simp [intOf]; omega
      · have hfin : n = m := by
          rw [← HN.out]
          have e1 := HX.out
          refine steps_pos f t s m hs0 (by rw [← e1]; omega) ?_
          rcases hpr with h | h
          · exact .inl h
          · right; rw [Int.sub_mul]; omega
        have hbeq : (n == (m : Int)) = true := by simpa using hfin
        clear hfin hpr
        go_wp2
        go_ret
        exact ⟨rfl, hB2⟩
  · have d1 : decide (0 < s) = false := by simp; omega
    have d2 : decide (s < 0) = true := by simpa using hs0
    go_loopw [17, 18] (fun k x wr => ∃ (m : Nat) (X : Int), k = .int .i64 m ∧ x = .int .i64 X ∧ (m : Int) ≤ f - X ∧ -2000 ≤ X ∧ X ≤ 2000 ∧ Hid (X = f + m * s) ∧ (m = 0 ∨ t < X - s) ∧ Below w.heap.size w wr) (fun _ x _ => (intOf x - t).toNat)
    case atStart => exact ⟨0, f, rfl, rfl, by omega, by omega, by omega, Lib.hid (by simp), .inl rfl, hB⟩
    case round =>
      obtain ⟨m, X, rfl, rfl, hm, hX1, hX2, HX, hpr, hB2⟩ := hrel
      by_cases hlt : t < X
      · go_wp2
        go_roundw
        case rel => exact ⟨m + 1, X + s, by go_num, by go_num, by omega, by omega, by omega, Lib.hid (by rw [HX.out, Int.natCast_add, Int.add_mul]; omega), .inr (by omega), hB2⟩
        case measure => simp [intOf]; omega
      · have hfin : n = m := by
          rw [← HN.out]
          have e1 := HX.out
          refine steps_neg f t s m hs0 (by rw [← e1]; omega) ?_
          rcases hpr with h | h
          · exact .inl h
          · right; rw [Int.sub_mul]; omega
        have hbeq : (n == (m : Int)) = true := by simpa using hfin
        clear hfin hpr
        go_wp2
        go_ret
        exact ⟨rfl, hB2⟩
  · have d1 : decide (0 < s) = true := by simpa using hs0
    have d2 : decide (s < 0) = false := by simp; omega
    go_loopw [17, 18] (fun k x wr => ∃ (m : Nat) (X : Int), k = .int .i64 m ∧ x = .int .i64 X ∧ (m : Int) ≤ X - f ∧ -2000 ≤ X ∧ X ≤ 2000 ∧ Hid (X = f + m * s) ∧ (m = 0 ∨ X - s < t) ∧ Below w.heap.size w wr) (fun _ x _ => (t - intOf x).toNat)
    case atStart => exact ⟨0, f, rfl, rfl, by omega, by omega, by omega, Lib.hid (by simp), .inl rfl, hB⟩
    case round =>
      obtain ⟨m, X, rfl, rfl, hm, hX1, hX2, HX, hpr, hB2⟩ := hrel
      by_cases hlt : X < t
      · go_wp2
        go_roundw
        case rel => exact ⟨m + 1, X + s, by go_num, by go_num, by omega, by omega, by omega, Lib.hid (by rw [HX.out, Int.natCast_add, Int.add_mul]; omega), .inr (by omega), hB2⟩
        case measure => simp [intOf]; omega
      · have hfin : n = m := by
          rw [← HN.out]
          have e1 := HX.out
          refine steps_pos f t s m hs0 (by rw [← e1]; omega) ?_
          rcases hpr with h | h
          · exact .inl h
          · right; rw [Int.sub_mul]; omega
        have hbeq : (n == (m : Int)) = true := by simpa using hfin
        clear hfin hpr
        go_wp2
        go_ret
        exact ⟨rfl, hB2⟩

theorem numDivides_walk (a b : Int) (w : World) (ha : (Lit.int .i64 a).wf = true) (hb : (Lit.int .i64 b).wf = true) :
    Calls Try.prog 4 #[.int .i64 a, .int .i64 b] w fun e w' => e = .returned (.bool true) ∧ Below w.heap.size w w' := numDivides_calls a b w (fits_wf ha) (fits_wf hb)
theorem numBack_walk (a b f t s : Int) (w : World) (ha : (Lit.int .i64 a).wf = true) (hb : (Lit.int .i64 b).wf = true) (hf : (Lit.int .i64 f).wf = true) (ht : (Lit.int .i64 t).wf = true) (hs : (Lit.int .i64 s).wf = true) :
    Calls Try.prog 3 #[.int .i64 a, .int .i64 b, .int .i64 f, .int .i64 t, .int .i64 s] w fun e w' => e = .returned (.bool true) ∧ Below w.heap.size w w' := numBack_calls a b f t s w (fits_wf ha) (fits_wf hb) (fits_wf hf) (fits_wf ht) (fits_wf hs)
end Go.Proofs.Ytkfoicfpchiflaa.Num
