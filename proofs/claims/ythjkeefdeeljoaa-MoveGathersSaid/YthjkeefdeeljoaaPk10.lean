/- Contract of num.Product: all times each other, or no answer (below, Mul64 with it). -/
import Derived.Test.YthjkeefdeeljoaaPk1
import Derived.Test.YthjkeefdeeljoaaPk9
import Derived.Shelf.Bits.Mul64
namespace Go.Proofs.Ythjkeefdeeljoaa.Num
open Go.RowKit
set_option linter.unusedVariables false
set_option linter.unusedSimpArgs false

theorem halves (x y : Nat) (hx : x < 18446744073709551616) (hy : y < 18446744073709551616) :
    x / 4294967296 * (y / 4294967296) < 18446744073709551616 ∧ x / 4294967296 * (y % 4294967296) < 18446744073709551616 ∧ x % 4294967296 * (y / 4294967296) < 18446744073709551616 ∧
    x / 4294967296 * (y / 4294967296) + (x / 4294967296 * (y % 4294967296) + x % 4294967296 * (y % 4294967296) / 4294967296) / 4294967296 < 18446744073709551616 ∧
    x / 4294967296 * (y / 4294967296) + (x / 4294967296 * (y % 4294967296) + x % 4294967296 * (y % 4294967296) / 4294967296) / 4294967296 + ((x / 4294967296 * (y % 4294967296) + x % 4294967296 * (y % 4294967296) / 4294967296) % 4294967296 + x % 4294967296 * (y / 4294967296)) / 4294967296 < 18446744073709551616 := by
  have ba := Lib.half_mul_le (a := x / 4294967296) (b := y / 4294967296) (by omega) (by omega)
  have bb := Lib.half_mul_le (a := x / 4294967296) (b := y % 4294967296) (by omega) (by omega)
  have bc := Lib.half_mul_le (a := x % 4294967296) (b := y / 4294967296) (by omega) (by omega)
  have bd := Lib.half_mul_le (a := x % 4294967296) (b := y % 4294967296) (by omega) (by omega)
  exact ⟨by omega, by omega, by omega, by omega, by omega⟩

set_option maxHeartbeats 1000000 in
theorem mul64_calls (x y : Nat) (hx : x < 18446744073709551616) (hy : y < 18446744073709551616) (w : World) :
    Calls Try.prog 133 #[.int .u64 x, .int .u64 y] w fun e w' => e = .returned (.tuple #[.int .u64 ((x * y / 18446744073709551616 : Nat) : Int), .int .u64 ((x * y % 18446744073709551616 : Nat) : Int)]) ∧ w = w' := by
  obtain ⟨bd, bt, bw, hhi⟩ := Lib.mul64_hi x y hx hy
  obtain ⟨ba, bb, bc, bh1, bh⟩ := halves x y hx hy
  go_enter Try.func133, Try.ntmps133
  go_wp2
  simp only [Mul64.maskN x hx, Mul64.maskN y hy, Mul64.divN, Mul64.mulN, Mul64.addN, Mul64.wrapN _ bd, Mul64.wrapN _ bb, Mul64.wrapN _ bt, Mul64.maskN _ bt, Mul64.wrapN _ bc, Mul64.wrapN _ bw, Mul64.wrapN _ ba, Mul64.wrapN _ bh1, Mul64.wrapN _ bh, Mul64.wrapM (x * y)]
  rw [hhi]
  go_ret2
  exact ⟨rfl, rfl⟩

set_option maxHeartbeats 400000 in
theorem below_calls (A : Option Addr) (c : Nat) (xs : List Int) (w : World) (hx : ReadsI w .i64 A xs) (hl : xs.length ≤ 9223372036854775807) :
    Calls Try.prog 132 #[.slice A xs.length c] w fun e w' => e = .returned (.bool (xs.any fun x => decide (x < 0))) ∧ w = w' := by
  have HX : Hid (ReadsI w .i64 A xs) := Lib.hid hx
  clear hx
  go_enter Try.func132, Try.ntmps132
  go_wp2
  go_loop [4, 7] (fun _ i => ∃ k : Nat, k ≤ xs.length ∧ i = .int .i64 k ∧ ((xs.take k).any fun x => decide (x < 0)) = false) (fun _ i => xs.length - (intOf i).toNat)
  case atStart => exact ⟨0, Nat.zero_le _, rfl, by simp⟩
  case round =>
    obtain ⟨k, hk, rfl, ha⟩ := hrel
    have HA := Lib.hid ha
    clear ha
    by_cases hlt : k < xs.length
    · obtain ⟨b, off, rfl, hc⟩ := HX.out k hlt
      have HT := Lib.hid (take_nth xs k hlt)
      have hm := nth_mem xs k hlt
      generalize nth xs k = x at hc HT hm
      have HM := Lib.hid hm
      clear hm
      by_cases h1 : x < 0
      · go_wp2
        go_ret
        exact ⟨ret_bool (by symm; rw [List.any_eq_true]; exact ⟨x, HM.out, by simp; omega⟩), rfl⟩
      · go_wp2
        go_round
        case rel => exact ⟨k + 1, by omega, by go_num, by rw [HT.out, List.any_append, HA.out]; simp; omega⟩
        case measure => simp [intOf]; omega
    · go_wp2
      go_ret
      exact ⟨ret_bool (by have := HA.out; rw [List.take_of_length_le (by omega)] at this; rw [this]), rfl⟩

def prod : List Int → Int
  | [] => 1
  | x :: xs => x * prod xs
theorem prod_append (xs : List Int) (x : Int) : prod (xs ++ [x]) = prod xs * x := by
  induction xs with
  | nil => simp [prod]
  | cons y ys ih => simp [prod, ih, Int.mul_assoc]
theorem prod_append2 (xs ys : List Int) : prod (xs ++ ys) = prod xs * prod ys := by
  induction xs with
  | nil => simp [prod]
  | cons y zs ih => simp [prod, ih, Int.mul_assoc]
theorem prod_zero (xs : List Int) (h : (0 : Int) ∈ xs) : prod xs = 0 := by
  induction xs with
  | nil => simp at h
  | cons y ys ih =>
    rcases List.mem_cons.1 h with h | h
    · simp [prod, ← h]
    · simp [prod, ih h]
theorem prod_pos (xs : List Int) (h : ∀ x ∈ xs, 0 < x) : 0 < prod xs := by
  induction xs with
  | nil => simp [prod]
  | cons y ys ih => exact Int.mul_pos (h y (by simp)) (ih fun x hx => h x (by simp [hx]))
theorem prod_nonneg (xs : List Int) (h : ∀ x ∈ xs, 0 ≤ x) : 0 ≤ prod xs := by
  induction xs with
  | nil => simp [prod]
  | cons y ys ih => exact Int.mul_nonneg (h y (by simp)) (ih fun x hx => h x (by simp [hx]))

/-- May they be multiplied: none below 0, and no more than the most. -/
def prodOk (most : Int) (xs : List Int) : Bool := decide (0 ≤ most) && (!(xs.any fun x => decide (x < 0)) && decide (prod xs ≤ most))
def prodV (most : Int) (xs : List Int) : Value := if prodOk most xs = true then .tuple #[.int .i64 (prod xs), .bool true] else .tuple #[.int .i64 0, .bool false]

/-- What stands in n and fits behind some numbers, none of them 0. -/
def Run (most : Int) (p : Int) (n : Nat) (fits : Bool) : Prop :=
  1 ≤ n ∧ n < 9223372036854775808 ∧ 0 < p ∧ ((fits = true ∧ (n : Int) = p) ∨ (fits = false ∧ most < p))

theorem run_step {most p : Int} {n m : Nat} {b : Bool} (h : Run most p n b) (h0 : 0 ≤ most) (hm : 0 < m) (h9 : most < 9223372036854775808) :
    (((n * m / 18446744073709551616 : Nat) : Int) ≤ 0 → ((n * m % 18446744073709551616 : Nat) : Int) ≤ most → Run most (p * m) (n * m % 18446744073709551616) b) ∧
    ((0 < ((n * m / 18446744073709551616 : Nat) : Int) ∨ most < ((n * m % 18446744073709551616 : Nat) : Int)) → Run most (p * m) 1 false) := by
  obtain ⟨h1, h2, h3, h4⟩ := h
  have hp : p ≤ p * m := by
    have := Int.mul_le_mul_of_nonneg_left (show (1 : Int) ≤ m by omega) (Int.le_of_lt h3)
    omega
  have hn : n ≤ n * m := Nat.le_mul_of_pos_right _ hm
  constructor
  · intro a c
    refine ⟨by omega, by omega, by omega, ?_⟩
    rcases h4 with ⟨rfl, h5⟩ | ⟨rfl, h5⟩
    · left; refine ⟨rfl, ?_⟩; rw [← h5, Nat.mod_eq_of_lt (by omega), Int.natCast_mul]
    · right; exact ⟨rfl, by omega⟩
  · intro a
    refine ⟨by omega, by omega, by omega, .inr ⟨rfl, ?_⟩⟩
    rcases h4 with ⟨rfl, h5⟩ | ⟨rfl, h5⟩
    · rw [← h5, ← Int.natCast_mul]; omega
    · omega

theorem list_neg (xs : List Int) (h : (xs.any fun x => decide (x < 0)) = false) : ∀ x ∈ xs, 0 ≤ x := fun x hx => by
  have := List.any_eq_false.1 h x hx
  simpa using this

set_option maxHeartbeats 1000000 in
theorem product_calls (most : Int) (A : Option Addr) (c : Nat) (xs : List Int) (w : World) (hx : ReadsI w .i64 A xs) (hl : xs.length ≤ 9223372036854775807) (hm : fits most) (hf : ∀ x ∈ xs, fits x) :
    Calls Try.prog 107 #[.int .i64 most, .slice A xs.length c] w fun e w' => e = .returned (prodV most xs) ∧ w = w' := by
  by_cases h0 : most < 0
  · have d0 : decide (most < 0) = true := by simpa using h0
    have HV : Hid (prodV most xs = _) := Lib.hid (if_neg (by simp [prodOk]; omega))
    go_enter Try.func107, Try.ntmps107
    go_wp2
    go_ret2
    exact ⟨congrArg Ending.returned HV.out.symm, rfl⟩
  · have d0 : decide (most < 0) = false := by simpa using h0
    have hbelow := below_calls A c xs
    by_cases hn : (xs.any fun x => decide (x < 0)) = true
    · have HV : Hid (prodV most xs = _) := Lib.hid (if_neg (by simp only [prodOk, hn]; simp))
      have HN := Lib.hid hn
      have HX : Hid (ReadsI w .i64 A xs) := Lib.hid hx
      clear hn hx hf
      go_enter Try.func107, Try.ntmps107
      go_wp2_with (go_at_call 132; refine (hbelow _ HX.out hl).mono ?_; rw [HN.out]; rintro e w' ⟨rfl, rfl⟩)
      go_ret2
      exact ⟨congrArg Ending.returned HV.out.symm, rfl⟩
    · have hn' : (xs.any fun x => decide (x < 0)) = false := by simpa using hn
      have hp := list_neg xs hn'
      have HP : Hid (∀ x ∈ xs, 0 ≤ x) := Lib.hid hp
      have HF : Hid (∀ x ∈ xs, fits x) := Lib.hid hf
      have hok : ∀ b : Bool, decide (prod xs ≤ most) = b → prodOk most xs = b := fun b hb => by simp only [prodOk, hn', hb]; simp; omega
      have HO : Hid (∀ b : Bool, decide (prod xs ≤ most) = b → prodOk most xs = b) := Lib.hid hok
      have HN := Lib.hid hn'
      have HX : Hid (ReadsI w .i64 A xs) := Lib.hid hx
      clear hn hn' hx hf hp hok
      have hm9 : most ≤ 9223372036854775807 := hm.2
      have h0' : 0 ≤ most := by omega
      clear hm h0
      go_enter Try.func107, Try.ntmps107
      go_wp2_with (go_at_call 132; refine (hbelow _ HX.out hl).mono ?_; rw [HN.out]; rintro e w' ⟨rfl, rfl⟩)
      clear hbelow
      go_loop [6, 7, 9, 10, 11, 20] (fun n f _ _ _ i => ∃ (k m : Nat) (b : Bool), k ≤ xs.length ∧ i = .int .i64 k ∧ n = .int .u64 m ∧ f = .bool b ∧ Run most (prod (xs.take k)) m b) (fun _ _ _ _ _ i => xs.length - (intOf i).toNat)
      case atStart => exact ⟨0, 1, true, Nat.zero_le _, rfl, rfl, rfl, by simp [Run, prod]⟩
      case round =>
        obtain ⟨k, m, b, hk, rfl, rfl, rfl, hr⟩ := hrel
        have HR := Lib.hid hr
        by_cases hlt : k < xs.length
        · obtain ⟨bb, off, rfl, hc⟩ := HX.out k hlt
          have HT := Lib.hid (take_nth xs k hlt)
          have hmem := nth_mem xs k hlt
          have hx0 := HP.out _ hmem
          have hx9 := (HF.out _ hmem).2
          generalize nth xs k = x at hc HT hmem hx0 hx9
          have HM := Lib.hid hmem
          clear hmem
          by_cases hz : x = 0
          · subst hz
            have hpz := prod_zero xs HM.out
            have HV : Hid (prodV most xs = .tuple #[.int .i64 0, .bool true]) := Lib.hid (by unfold prodV; rw [if_pos (HO.out true (by rw [hpz]; simpa using h0')), hpz])
            clear hpz
            go_wp2
            go_ret2
            exact ⟨congrArg Ending.returned HV.out.symm, rfl⟩
          · obtain ⟨y, rfl⟩ := Int.eq_ofNat_of_zero_le hx0
            have hy : (y == 0) = false := by simp; omega
            have hzy : ((y : Int) == 0) = false := by simp; omega
            have hy0 : 0 < y := by omega
            have hm1 := hr.1
            have hm2 := hr.2.1
            clear hr hz
            go_wp2_with (go_at_call 133; refine (mul64_calls m y (by omega) (by omega) _).mono ?_; rintro e w' ⟨rfl, rfl⟩)
            all_goals have hs := run_step HR.out h0' hy0 (by omega)
            · exact ⟨⟨k + 1, 1, false, by omega, by go_num, rfl, rfl, by rw [HT.out, prod_append]; exact hs.2 (by omega)⟩, by simp [intOf]; omega⟩
            · exact ⟨⟨k + 1, m * y % 18446744073709551616, b, by omega, by go_num, by simp, rfl, by rw [HT.out, prod_append]; exact hs.1 (by omega) (by omega)⟩, by simp [intOf]; omega⟩
            · exact ⟨⟨k + 1, 1, false, by omega, by go_num, rfl, rfl, by rw [HT.out, prod_append]; exact hs.2 (by omega)⟩, by simp [intOf]; omega⟩
        · have hall : xs.take k = xs := List.take_of_length_le (by omega)
          rw [hall] at hr
          obtain ⟨r1, r2, r3, r4⟩ := hr
          have hno : most < prod xs → prodV most xs = .tuple #[.int .i64 0, .bool false] := fun h => by
            unfold prodV; rw [if_neg (by rw [HO.out false (by simpa using h)]; simp)]
          have hyes : prod xs ≤ most → prodV most xs = .tuple #[.int .i64 (prod xs), .bool true] := fun h => by
            unfold prodV; rw [if_pos (HO.out true (by simpa using h))]
          have HNO := Lib.hid hno
          have HYES := Lib.hid hyes
          have R4 := Lib.hid r4
          clear hall hno hyes r4 HR
          cases b with
          | false =>
            go_wp2
            go_ret2
            exact ⟨congrArg Ending.returned (HNO.out (by have := R4.out; simp at this; exact this)).symm, rfl⟩
          | true =>
            by_cases hm : most < m
            · go_wp2
              go_ret2
              exact ⟨congrArg Ending.returned (HNO.out (by have := R4.out; simp at this; omega)).symm, rfl⟩
            · have hpm : (m : Int) = prod xs := by have := R4.out; simp at this; omega
              have hv : Ending.returned (.tuple #[.int .i64 m, .bool true]) = .returned (prodV most xs) := by rw [HYES.out (by omega), hpm]
              have HV := Lib.hid hv
              clear hpm hv
              go_wp2
              go_ret2
              exact ⟨HV.out, rfl⟩
end Go.Proofs.Ythjkeefdeeljoaa.Num
