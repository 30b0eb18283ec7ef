/- Contracts of package num: Steps, Product. -/
import Derived.Test.YtkfoicfpchiflaaNum2
import Derived.Shelf.Bits.Mul64
namespace Go.Proofs.Ytkfoicfpchiflaa.Num
open Go.RowKit
set_option linter.unusedVariables false
set_option linter.unusedSimpArgs false

theorem ediv_fits (a b : Int) (h0 : 0 ≤ a) (h1 : a ≤ 9223372036854775807) (hb : 0 < b) : fits (a / b) := by
  have h2 := Int.ediv_nonneg h0 (Int.le_of_lt hb)
  have h3 : a / b ≤ a := Int.ediv_le_self _ h0
  unfold fits; omega
def stepsOk (f t s : Int) : Bool := !(s == 0) && (near f && near t && near s)
def stepsN (f t s : Int) : Int := if s < 0 then (max 0 (f - t + -s - 1)) / -s else (max 0 (t - f + s - 1)) / s
def stepsV (f t s : Int) : Value := if stepsOk f t s = true then .tuple #[.int .i64 (stepsN f t s), .bool true] else .tuple #[.int .i64 0, .bool false]

set_option maxHeartbeats 400000 in
theorem steps_calls (f t s : Int) (w : World) :
    Calls Try.prog 8 #[.int .i64 f, .int .i64 t, .int .i64 s] w fun e w' => e = .returned (stepsV f t s) ∧ Below w.heap.size w w' := by
  by_cases h0 : s = 0
  · subst h0
    go_enter Try.func8, Try.ntmps8
    go_wp2
    go_ret2
    exact ⟨congrArg Ending.returned (if_neg (by simp [stepsOk])).symm, Below.refl _ _⟩
  · have b0 : (s == 0) = false := by simpa using h0
    by_cases hn : (near f && near t && near s) = true
    · have hok : stepsOk f t s = true := by simp [stepsOk, h0, hn]
      have e0 : [f, t, s].all near = true := by simpa [and_assoc] using hn
      have HV : Hid (stepsV f t s = _) := Lib.hid (if_pos hok)
      have HE := Lib.hid e0
      clear e0 hok
      have hfin : ∀ x, x = stepsN f t s → Ending.returned (.tuple #[.int .i64 x, .bool true]) = .returned (stepsV f t s) := fun x h => by rw [h, HV.out]
      simp only [near, Bool.and_eq_true, decide_eq_true_eq] at hn
      by_cases h1 : s < 0
      · have hd : decide (s < 0) = true := by simpa using h1
        have h2 : (-s == 0) = false := by simp; omega
        have HN : Hid (stepsN f t s = _) := Lib.hid (if_pos h1)
        by_cases hm : 0 < f - t + -s - 1
        · go_enter Try.func8, Try.ntmps8
          go_wp2_with (go_at_call 15; refine (within_calls _ 3 [f, t, s] _ (readsI_new _ _ _ _) (by simp)).mono ?_; rw [HE.out]; rintro e w' ⟨rfl, rfl⟩)
          go_ret2
          refine ⟨hfin _ ?_, (Below.refl _ _).alloc (Nat.le_refl _) _⟩
          rw [HN.out]
          rw [Int.max_eq_right (by omega), ← Int.tdiv_neg, Int.tdiv_eq_ediv_of_nonneg (by omega)]
          exact wrap_fits (ediv_fits _ _ (by omega) (by omega) (by omega))
        · go_enter Try.func8, Try.ntmps8
          go_wp2_with (go_at_call 15; refine (within_calls _ 3 [f, t, s] _ (readsI_new _ _ _ _) (by simp)).mono ?_; rw [HE.out]; rintro e w' ⟨rfl, rfl⟩)
          go_ret2
          refine ⟨hfin _ ?_, (Below.refl _ _).alloc (Nat.le_refl _) _⟩
          rw [HN.out]
          rw [Int.max_eq_left (by omega)]; simp [wrap64]
      · have HN : Hid (stepsN f t s = _) := Lib.hid (if_neg h1)
        by_cases hm : 0 < t - f + s - 1
        · go_enter Try.func8, Try.ntmps8
          go_wp2_with (go_at_call 15; refine (within_calls _ 3 [f, t, s] _ (readsI_new _ _ _ _) (by simp)).mono ?_; rw [HE.out]; rintro e w' ⟨rfl, rfl⟩)
          go_ret2
          refine ⟨hfin _ ?_, (Below.refl _ _).alloc (Nat.le_refl _) _⟩
          rw [HN.out]
          rw [Int.max_eq_right (by omega)]
        · go_enter Try.func8, Try.ntmps8
          go_wp2_with (go_at_call 15; refine (within_calls _ 3 [f, t, s] _ (readsI_new _ _ _ _) (by simp)).mono ?_; rw [HE.out]; rintro e w' ⟨rfl, rfl⟩)
          go_ret2
          refine ⟨hfin _ ?_, (Below.refl _ _).alloc (Nat.le_refl _) _⟩
          rw [HN.out]
          rw [Int.max_eq_left (by omega)]; simp
    · have hn' : (near f && near t && near s) = false := by simpa using hn
      have hok : ¬ stepsOk f t s = true := by simp [stepsOk, h0, hn']
      have e0 : [f, t, s].all near = false := by simpa [and_assoc] using hn'
      have HV : Hid (stepsV f t s = _) := Lib.hid (if_neg hok)
      have HE := Lib.hid e0
      clear e0 hok hn hn'
      go_enter Try.func8, Try.ntmps8
      go_wp2_with (go_at_call 15; refine (within_calls _ 3 [f, t, s] _ (readsI_new _ _ _ _) (by simp)).mono ?_; rw [HE.out]; rintro e w' ⟨rfl, rfl⟩)
      go_ret2
      exact ⟨congrArg Ending.returned HV.out.symm, (Below.refl _ _).alloc (Nat.le_refl _) _⟩
theorem halves (x y : Nat) (hx : x < 18446744073709551616) (hy : y < 18446744073709551616) :
    x / 4294967296 * (y / 4294967296) < 18446744073709551616 ∧ x / 4294967296 * (y % 4294967296) < 18446744073709551616 ∧ x % 4294967296 * (y / 4294967296) < 18446744073709551616 ∧
    x / 4294967296 * (y / 4294967296) + (x / 4294967296 * (y % 4294967296) + x % 4294967296 * (y % 4294967296) / 4294967296) / 4294967296 < 18446744073709551616 ∧
    x / 4294967296 * (y / 4294967296) + (x / 4294967296 * (y % 4294967296) + x % 4294967296 * (y % 4294967296) / 4294967296) / 4294967296 + ((x / 4294967296 * (y % 4294967296) + x % 4294967296 * (y % 4294967296) / 4294967296) % 4294967296 + x % 4294967296 * (y / 4294967296)) / 4294967296 < 18446744073709551616 := by
  have ba := Lib.half_mul_le (a := x / 4294967296) (b := y / 4294967296) (by omega) (by omega)
  have bb := Lib.half_mul_le (a := x / 4294967296) (b := y % 4294967296) (by omega) (by omega)
  have bc := Lib.half_mul_le (a := x % 4294967296) (b := y / 4294967296) (by omega) (by omega)
  have bd := Lib.half_mul_le (a := x % 4294967296) (b := y % 4294967296) (by omega) (by omega)
  exact ⟨by omega, by omega, by omega, by omega, by omega⟩

set_option maxHeartbeats 1000000 in
theorem mul64_calls (x y : Nat) (hx : x < 18446744073709551616) (hy : y < 18446744073709551616) (w : World) :
    Calls Try.prog 17 #[.int .u64 x, .int .u64 y] w fun e w' => e = .returned (.tuple #[.int .u64 ((x * y / 18446744073709551616 : Nat) : Int), .int .u64 ((x * y % 18446744073709551616 : Nat) : Int)]) ∧ w = w' := by
  obtain ⟨bd, bt, bw, hhi⟩ := Lib.mul64_hi x y hx hy
  obtain ⟨ba, bb, bc, bh1, bh⟩ := halves x y hx hy
  go_enter Try.func17, Try.ntmps17
  go_wp2
  simp only [Mul64.maskN x hx, Mul64.maskN y hy, Mul64.divN, Mul64.mulN, Mul64.addN, Mul64.wrapN _ bd, Mul64.wrapN _ bb, Mul64.wrapN _ bt, Mul64.maskN _ bt, Mul64.wrapN _ bc, Mul64.wrapN _ bw, Mul64.wrapN _ ba, Mul64.wrapN _ bh1, Mul64.wrapN _ bh, Mul64.wrapM (x * y)]
  rw [hhi]
  go_ret2
  exact ⟨rfl, rfl⟩
end Go.Proofs.Ytkfoicfpchiflaa.Num
