/- Contracts and lemmas that the row of this claim stands on: Prod, Shape, RRight, Ints09. -/
import Derived.Test.YthjkeefdeeljoaaPk1
import Derived.Test.YthjkeefdeeljoaaPk9
import Derived.Shelf.Bits.Mul64
import Derived.IntWalk
/- Contract of num.Product: all times each other, or no answer (below, Mul64 with it). -/
namespace Go.Proofs.Ythjkeefdeeljoaa.Num
open Go.RowKit
set_option linter.unusedVariables false
set_option linter.unusedSimpArgs false

theorem halves (x y : Nat) (hx : x < 18446744073709551616) (hy : y < 18446744073709551616) :
    x / 4294967296 * (y / 4294967296) < 18446744073709551616 ∧ x / 4294967296 * (y % 4294967296) < 18446744073709551616 ∧ x % 4294967296 * (y / 4294967296) < 18446744073709551616 ∧
    x / 4294967296 * (y / 4294967296) + (x / 4294967296 * (y % 4294967296) + x % 4294967296 * (y % 4294967296) / 4294967296) / 4294967296 < 18446744073709551616 ∧
    x / 4294967296 * (y / 4294967296) + (x / 4294967296 * (y % 4294967296) + x % 4294967296 * (y % 4294967296) / 4294967296) / 4294967296 + ((x / 4294967296 * (y % 4294967296) + x % 4294967296 * (y % 4294967296) / 4294967296) % 4294967296 + x % 4294967296 * (y / 4294967296)) / 4294967296 < 18446744073709551616 := by
  have ba := Lib.half_mul_le (a := x / 4294967296) (b := y / 4294967296) (by omega) (by omega)
  have bb := Lib.half_mul_le (a := x / 4294967296) (b := y % 4294967296) (by omega) (by omega)
  have bc := Lib.half_mul_le (a := x % 4294967296) (b := y / 4294967296) (by omega) (by omega)
  have bd := Lib.half_mul_le (a := x % 4294967296) (b := y % 4294967296) (by omega) (by omega)
  exact ⟨by omega, by omega, by omega, by omega, by omega⟩

set_option maxHeartbeats 1000000 in
theorem mul64_calls (x y : Nat) (hx : x < 18446744073709551616) (hy : y < 18446744073709551616) (w : World) :
    Calls Try.prog 133 #[.int .u64 x, .int .u64 y] w fun e w' => e = .returned (.tuple #[.int .u64 ((x * y / 18446744073709551616 : Nat) : Int), .int .u64 ((x * y % 18446744073709551616 : Nat) : Int)]) ∧ w = w' := by
  obtain ⟨bd, bt, bw, hhi⟩ := Lib.mul64_hi x y hx hy
  obtain ⟨ba, bb, bc, bh1, bh⟩ := halves x y hx hy
  go_enter Try.func133, Try.ntmps133
  go_wp2
  simp only [Mul64.maskN x hx, Mul64.maskN y hy, Mul64.divN, Mul64.mulN, Mul64.addN, Mul64.wrapN _ bd, Mul64.wrapN _ bb, Mul64.wrapN _ bt, Mul64.maskN _ bt, Mul64.wrapN _ bc, Mul64.wrapN _ bw, Mul64.wrapN _ ba, Mul64.wrapN _ bh1, Mul64.wrapN _ bh, Mul64.wrapM (x * y)]
  rw [hhi]
  go_ret2
  exact ⟨rfl, rfl⟩

set_option maxHeartbeats 400000 in
theorem below_calls (A : Option Addr) (c : Nat) (xs : List Int) (w : World) (hx : ReadsI w .i64 A xs) (hl : xs.length ≤ 9223372036854775807) :
    Calls Try.prog 132 #[.slice A xs.length c] w fun e w' => e = .returned (.bool (xs.any fun x => decide (x < 0))) ∧ w = w' := by
  have HX : Hid (ReadsI w .i64 A xs) := Lib.hid hx
  clear hx
  go_enter Try.func132, Try.ntmps132
  go_wp2
  go_loop [4, 7] (fun _ i => ∃ k : Nat, k ≤ xs.length ∧ i = .int .i64 k ∧ ((xs.take k).any fun x => decide (x < 0)) = false) (fun _ i => xs.length - (intOf i).toNat)
  case atStart => exact ⟨0, Nat.zero_le _, rfl, by simp⟩
  case round =>
    obtain ⟨k, hk, rfl, ha⟩ := hrel
    have HA := Lib.hid ha
    clear ha
    by_cases hlt : k < xs.length
    · obtain ⟨b, off, rfl, hc⟩ := HX.out k hlt
      have HT := Lib.hid (take_nth xs k hlt)
      have hm := nth_mem xs k hlt
      generalize nth xs k = x at hc HT hm
      have HM := Lib.hid hm
      clear hm
      by_cases h1 : x < 0
      · go_wp2
        go_ret
        exact ⟨ret_bool (by symm; rw [List.any_eq_true]; exact ⟨x, HM.out, by simp; omega⟩), rfl⟩
      · go_wp2
        go_round
        case rel => exact ⟨k + 1, by omega, by go_num, by rw [HT.out, List.any_append, HA.out]; simp; omega⟩
        case measure => simp [intOf]; omega
    · go_wp2
      go_ret
      exact ⟨ret_bool (by have := HA.out; rw [List.take_of_length_le (by omega)] at this; rw [this]), rfl⟩

def prod : List Int → Int
  | [] => 1
  | x :: xs => x * prod xs
theorem prod_append (xs : List Int) (x : Int) : prod (xs ++ [x]) = prod xs * x := by
  induction xs with
  | nil => simp [prod]
  | cons y ys ih => simp [prod, ih, Int.mul_assoc]
theorem prod_append2 (xs ys : List Int) : prod (xs ++ ys) = prod xs * prod ys := by
  induction xs with
  | nil => simp [prod]
  | cons y zs ih => simp [prod, ih, Int.mul_assoc]
theorem prod_zero (xs : List Int) (h : (0 : Int) ∈ xs) : prod xs = 0 := by
  induction xs with
  | nil => simp at h
  | cons y ys ih =>
    rcases List.mem_cons.1 h with h | h
    · simp [prod, ← h]
    · simp [prod, ih h]
theorem prod_pos (xs : List Int) (h : ∀ x ∈ xs, 0 < x) : 0 < prod xs := by
  induction xs with
  | nil => simp [prod]
  | cons y ys ih => exact Int.mul_pos (h y (by simp)) (ih fun x hx => h x (by simp [hx]))
theorem prod_nonneg (xs : List Int) (h : ∀ x ∈ xs, 0 ≤ x) : 0 ≤ prod xs := by
  induction xs with
  | nil => simp [prod]
  | cons y ys ih => exact Int.mul_nonneg (h y (by simp)) (ih fun x hx => h x (by simp [hx]))

/-- May they be multiplied: none below 0, and no more than the most. -/
def prodOk (most : Int) (xs : List Int) : Bool := decide (0 ≤ most) && (!(xs.any fun x => decide (x < 0)) && decide (prod xs ≤ most))
def prodV (most : Int) (xs : List Int) : Value := if prodOk most xs = true then .tuple #[.int .i64 (prod xs), .bool true] else .tuple #[.int .i64 0, .bool false]

/-- What stands in n and fits behind some numbers, none of them 0. -/
def Run (most : Int) (p : Int) (n : Nat) (fits : Bool) : Prop :=
  1 ≤ n ∧ n < 9223372036854775808 ∧ 0 < p ∧ ((fits = true ∧ (n : Int) = p) ∨ (fits = false ∧ most < p))

theorem run_step {most p : Int} {n m : Nat} {b : Bool} (h : Run most p n b) (h0 : 0 ≤ most) (hm : 0 < m) (h9 : most < 9223372036854775808) :
    (((n * m / 18446744073709551616 : Nat) : Int) ≤ 0 → ((n * m % 18446744073709551616 : Nat) : Int) ≤ most → Run most (p * m) (n * m % 18446744073709551616) b) ∧
    ((0 < ((n * m / 18446744073709551616 : Nat) : Int) ∨ most < ((n * m % 18446744073709551616 : Nat) : Int)) → Run most (p * m) 1 false) := by
  obtain ⟨h1, h2, h3, h4⟩ := h
  have hp : p ≤ p * m := by
    have := Int.mul_le_mul_of_nonneg_left (show (1 : Int) ≤ m by omega) (Int.le_of_lt h3)
    omega
  have hn : n ≤ n * m := Nat.le_mul_of_pos_right _ hm
  constructor
  · intro a c
    refine ⟨by omega, by omega, by omega, ?_⟩
    rcases h4 with ⟨rfl, h5⟩ | ⟨rfl, h5⟩
    · left; refine ⟨rfl, ?_⟩; rw [← h5, Nat.mod_eq_of_lt (by omega), Int.natCast_mul]
    · right; exact ⟨rfl, by omega⟩
  · intro a
    refine ⟨by omega, by omega, by omega, .inr ⟨rfl, ?_⟩⟩
    rcases h4 with ⟨rfl, h5⟩ | ⟨rfl, h5⟩
    · rw [← h5, ← Int.natCast_mul]; omega
    · omega

theorem list_neg (xs : List Int) (h : (xs.any fun x => decide (x < 0)) = false) : ∀ x ∈ xs, 0 ≤ x := fun x hx => by
  have := List.any_eq_false.1 h x hx
  simpa using this

set_option maxHeartbeats 1000000 in
theorem product_calls (most : Int) (A : Option Addr) (c : Nat) (xs : List Int) (w : World) (hx : ReadsI w .i64 A xs) (hl : xs.length ≤ 9223372036854775807) (hm : fits most) (hf : ∀ x ∈ xs, fits x) :
    Calls Try.prog 107 #[.int .i64 most, .slice A xs.length c] w fun e w' => e = .returned (prodV most xs) ∧ w = w' := by
  by_cases h0 : most < 0
  · have d0 : decide (most < 0) = true := by simpa using h0
    have HV : Hid (prodV most xs = _) := Lib.hid (if_neg (by simp [prodOk]; omega))
    go_enter Try.func107, Try.ntmps107
    go_wp2
    go_ret2
    exact ⟨congrArg Ending.returned HV.out.symm, rfl⟩
  · have d0 : decide (most < 0) = false := by simpa using h0
    have hbelow := below_calls A c xs
    by_cases hn : (xs.any fun x => decide (x < 0)) = true
    · have HV : Hid (prodV most xs = _) := Lib.hid (if_neg (by simp only [prodOk, hn]; simp))
      have HN := Lib.hid hn
      have HX : Hid (ReadsI w .i64 A xs) := Lib.hid hx
      clear hn hx hf
      go_enter Try.func107, Try.ntmps107
      go_wp2_with (go_at_call 132; refine (hbelow _ HX.out hl).mono ?_; rw [HN.out]; rintro e w' ⟨rfl, rfl⟩)
      go_ret2
      exact ⟨congrArg Ending.returned HV.out.symm, rfl⟩
    · have hn' : (xs.any fun x => decide (x < 0)) = false := by simpa using hn
      have hp := list_neg xs hn'
      have HP : Hid (∀ x ∈ xs, 0 ≤ x) := Lib.hid hp
      have HF : Hid (∀ x ∈ xs, fits x) := Lib.hid hf
      have hok : ∀ b : Bool, decide (prod xs ≤ most) = b → prodOk most xs = b := fun b hb => by simp only [prodOk, hn', hb]; simp; omega
      have HO : Hid (∀ b : Bool, decide (prod xs ≤ most) = b → prodOk most xs = b) := Lib.hid hok
      have HN := Lib.hid hn'
      have HX : Hid (ReadsI w .i64 A xs) := Lib.hid hx
      clear hn hn' hx hf hp hok
      have hm9 : most ≤ 9223372036854775807 := hm.2
      have h0' : 0 ≤ most := by omega
      clear hm h0
      go_enter Try.func107, Try.ntmps107
      go_wp2_with (go_at_call 132; refine (hbelow _ HX.out hl).mono ?_; rw [HN.out]; rintro e w' ⟨rfl, rfl⟩)
      clear hbelow
      go_loop [6, 7, 9, 10, 11, 20] (fun n f _ _ _ i => ∃ (k m : Nat) (b : Bool), k ≤ xs.length ∧ i = .int .i64 k ∧ n = .int .u64 m ∧ f = .bool b ∧ Run most (prod (xs.take k)) m b) (fun _ _ _ _ _ i => xs.length - (intOf i).toNat)
      case atStart => exact ⟨0, 1, true, Nat.zero_le _, rfl, rfl, rfl, by simp [Run, prod]⟩
      case round =>
        obtain ⟨k, m, b, hk, rfl, rfl, rfl, hr⟩ := hrel
        have HR := Lib.hid hr
        by_cases hlt : k < xs.length
        · obtain ⟨bb, off, rfl, hc⟩ := HX.out k hlt
          have HT := Lib.hid (take_nth xs k hlt)
          have hmem := nth_mem xs k hlt
          have hx0 := HP.out _ hmem
          have hx9 := (HF.out _ hmem).2
          generalize nth xs k = x at hc HT hmem hx0 hx9
          have HM := Lib.hid hmem
          clear hmem
          by_cases hz : x = 0
          · subst hz
            have hpz := prod_zero xs HM.out
            have HV : Hid (prodV most xs = .tuple #[.int .i64 0, .bool true]) := Lib.hid (by unfold prodV; rw [if_pos (HO.out true (by rw [hpz]; simpa using h0')), hpz])
            clear hpz
            go_wp2
            go_ret2
            exact ⟨congrArg Ending.returned HV.out.symm, rfl⟩
          · obtain ⟨y, rfl⟩ := Int.eq_ofNat_of_zero_le hx0
            have hy : (y == 0) = false := by simp; omega
            have hzy : ((y : Int) == 0) = false := by simp; omega
            have hy0 : 0 < y := by omega
            have hm1 := hr.1
            have hm2 := hr.2.1
            clear hr hz
            go_wp2_with (go_at_call 133; refine (mul64_calls m y (by omega) (by omega) _).mono ?_; rintro e w' ⟨rfl, rfl⟩)
            all_goals have hs := run_step HR.out h0' hy0 (by omega)
            · exact ⟨⟨k + 1, 1, false, by omega, by go_num, rfl, rfl, by rw [HT.out, prod_append]; exact hs.2 (by omega)⟩, by simp [intOf]; omega⟩
            · exact ⟨⟨k + 1, m * y % 18446744073709551616, b, by omega, by go_num, by simp, rfl, by rw [HT.out, prod_append]; exact hs.1 (by omega) (by omega)⟩, by simp [intOf]; omega⟩
            · exact ⟨⟨k + 1, 1, false, by omega, by go_num, rfl, rfl, by rw [HT.out, prod_append]; exact hs.2 (by omega)⟩, by simp [intOf]; omega⟩
        · have hall : xs.take k = xs := List.take_of_length_le (by omega)
          rw [hall] at hr
          obtain ⟨r1, r2, r3, r4⟩ := hr
          have hno : most < prod xs → prodV most xs = .tuple #[.int .i64 0, .bool false] := fun h => by
            unfold prodV; rw [if_neg (by rw [HO.out false (by simpa using h)]; simp)]
          have hyes : prod xs ≤ most → prodV most xs = .tuple #[.int .i64 (prod xs), .bool true] := fun h => by
            unfold prodV; rw [if_pos (HO.out true (by simpa using h))]
          have HNO := Lib.hid hno
          have HYES := Lib.hid hyes
          have R4 := Lib.hid r4
          clear hall hno hyes r4 HR
          cases b with
          | false =>
            go_wp2
            go_ret2
            exact ⟨congrArg Ending.returned (HNO.out (by have := R4.out; simp at this; exact this)).symm, rfl⟩
          | true =>
            by_cases hm : most < m
            · go_wp2
              go_ret2
              exact ⟨congrArg Ending.returned (HNO.out (by have := R4.out; simp at this; omega)).symm, rfl⟩
            · have hpm : (m : Int) = prod xs := by have := R4.out; simp at this; omega
              have hv : Ending.returned (.tuple #[.int .i64 m, .bool true]) = .returned (prodV most xs) := by rw [HYES.out (by omega), hpm]
              have HV := Lib.hid hv
              clear hpm hv
              go_wp2
              go_ret2
              exact ⟨HV.out, rfl⟩
end Go.Proofs.Ythjkeefdeeljoaa.Num
/- Contracts of package shape: Right, Size, Has. -/
namespace Go.Proofs.Ythjkeefdeeljoaa.Shp
open Go.RowKit Go.Proofs.Ythjkeefdeeljoaa.Num
set_option linter.unusedVariables false
set_option linter.unusedSimpArgs false

/-- Is this no length? -/
def bad (n : Int) : Bool := decide (n < 0 ∨ 1048576 < n)
def rightB (xs : List Int) : Bool := decide (xs.length ≤ 6) && !(xs.any bad)
theorem bad_calls (x : Int) (w : World) : Calls Try.prog 131 #[.int .i64 x] w fun e w' => e = .returned (.bool (bad x)) ∧ w = w' := by
  by_cases h : x < 0
  · have h1 : bad x = true := by simp [bad, h]
    rw [h1]
    go_enter Try.func131, Try.ntmps131
    go_wp2
    go_ret
    exact ⟨rfl, rfl⟩
  · have h1 : bad x = decide (1048576 < x) := by simp [bad, h]
    rw [h1]
    clear h1
    go_enter Try.func131, Try.ntmps131
    go_wp2
    go_ret
    exact ⟨rfl, rfl⟩
theorem index_calls (xs : List Int) (A : Option Addr) (ca : Nat) (w : World) (hx : ReadsI w .i64 A xs) (hl : xs.length ≤ 9223372036854775807) :
    Calls Try.prog 141 #[.slice A xs.length ca, .func (.func 131) #[] #[]] w fun e w' => (∃ k : Int, e = .returned (.int .i64 k) ∧ decide (0 ≤ k) = xs.any bad) ∧ w = w' := by
  have HX := Lib.hid hx
  clear hx
  have HB : ∀ x w, Calls Try.prog 131 #[.int .i64 x] w fun e w' => e = .returned (.bool (bad x)) ∧ w = w' := bad_calls
  go_enter Try.func141, Try.ntmps141
  go_wp2_with fail
  go_loop [5, 8] (fun _ i => ∃ k : Nat, i = .int .i64 k ∧ k ≤ xs.length ∧ Hid ((xs.take k).any bad = false)) (fun _ i => xs.length - (intOf i).toNat)
  case atStart => exact ⟨0, rfl, Nat.zero_le _, Lib.hid (by simp)⟩
  case round =>
    obtain ⟨k, rfl, hk, HA⟩ := hrel
    by_cases hlt : k < xs.length
    · obtain ⟨b, off, rfl, hc⟩ := HX.out k hlt
      have HT := Lib.hid (take_nth xs k hlt)
      have HM := Lib.hid (nth_mem xs k hlt)
      generalize nth xs k = x at *
      have HB' := Lib.hid (HB x w)
      clear HB
      go_wp2_with fail
      refine HB'.out.mono ?_
      rintro e w' ⟨rfl, rfl⟩
      cases hb : bad x with
      | true =>
        have HBX := Lib.hid hb
        clear hb
        go_wp2_with fail
        go_ret
        refine ⟨⟨k, rfl, ?_⟩, rfl⟩
        have h1 : xs.any bad = true := List.any_eq_true.2 ⟨x, HM.out, HBX.out⟩
        rw [h1]; simp
      | false =>
        have HBX := Lib.hid hb
        clear hb
        go_wp2_with fail
        go_round
        case measure => first | (simp [intOf]; done) | (simp [intOf]; omega)
        case rel => exact ⟨k + 1, by go_num, by omega, Lib.hid (by rw [HT.out, List.any_append, HA.out]; simp [HBX.out])⟩
    · go_wp2_with fail
      go_ret
      have := HA.out
      rw [List.take_of_length_le (by omega)] at this
      exact ⟨⟨-1, rfl, by rw [this]; rfl⟩, rfl⟩
theorem contains_calls (xs : List Int) (A : Option Addr) (ca : Nat) (w : World) (hx : ReadsI w .i64 A xs) (hl : xs.length ≤ 9223372036854775807) :
    Calls Try.prog 130 #[.slice A xs.length ca, .func (.func 131) #[] #[]] w fun e w' => e = .returned (.bool (xs.any bad)) ∧ w = w' := by
  have HI := Lib.hid (index_calls xs A ca w hx hl)
  clear hx
  go_enter Try.func130, Try.ntmps130
  go_wp2_with fail
  refine HI.out.mono ?_
  rintro e w' ⟨⟨k, rfl, hk⟩, rfl⟩
  have HK := Lib.hid hk
  clear hk
  go_wp2_with fail
  go_ret
  exact ⟨ret_bool HK.out, rfl⟩
theorem right_calls (xs : List Int) (A : Option Addr) (ca : Nat) (w : World) (hx : ReadsI w .i64 A xs) (hl : xs.length ≤ 9223372036854775807) :
    Calls Try.prog 106 #[.slice A xs.length ca] w fun e w' => e = .returned (.bool (rightB xs)) ∧ w = w' := by
  have HC := Lib.hid (contains_calls xs A ca w hx hl)
  clear hx
  by_cases h6 : xs.length ≤ 6
  · have h1 : rightB xs = !(xs.any bad) := by simp [rightB, h6]
    rw [h1]
    clear h1
    go_enter Try.func106, Try.ntmps106
    go_wp2_with fail
    refine HC.out.mono ?_
    rintro e w' ⟨rfl, rfl⟩
    obtain ⟨b, hb⟩ : ∃ b, b = xs.any bad := ⟨_, rfl⟩
    rw [← hb]
    have HB := Lib.hid hb
    clear hb
    go_wp2_with fail
    go_ret
    exact ⟨ret_bool (by rw [HB.out]), rfl⟩
  · have h1 : rightB xs = false := by simp [rightB, h6]
    rw [h1]
    clear h1
    go_enter Try.func106, Try.ntmps106
    go_wp2_with fail
    go_ret
    exact ⟨rfl, rfl⟩
theorem rightB_mem {xs : List Int} (h : rightB xs = true) : xs.length ≤ 6 ∧ ∀ x ∈ xs, 0 ≤ x ∧ x ≤ 1048576 := by
  unfold rightB at h
  simp only [Bool.and_eq_true, decide_eq_true_eq, Bool.not_eq_true'] at h
  refine ⟨h.1, fun x hx => ?_⟩
  have := List.any_eq_false.1 h.2 x hx
  unfold bad at this
  simp at this
  omega

/-- What Size tells. -/
def sizeV (xs : List Int) (most : Int) : Value := if rightB xs = true then prodV (min most 1048576) xs else .tuple #[.int .i64 0, .bool false]
theorem prodV_form (m : Int) (xs : List Int) : ∃ (p : Int) (b : Bool), prodV m xs = .tuple #[.int .i64 p, .bool b] := by unfold prodV; split <;> exact ⟨_, _, rfl⟩
theorem size_calls (xs : List Int) (most : Int) (A : Option Addr) (ca : Nat) (w : World) (hx : ReadsI w .i64 A xs) (hl : xs.length ≤ 9223372036854775807) (hm : fits most) :
    Calls Try.prog 60 #[.slice A xs.length ca, .int .i64 most] w fun e w' => e = .returned (sizeV xs most) ∧ w = w' := by
  have HR := right_calls xs A ca w hx hl
  cases hr : rightB xs with
  | true =>
    have hv : sizeV xs most = prodV (min most 1048576) xs := if_pos hr
    have HP := product_calls (min most 1048576) A ca xs w hx hl (by unfold fits at *; omega) (fun x hx => by have := (rightB_mem hr).2 x hx; unfold fits; omega)
    obtain ⟨p, b, hpv⟩ := prodV_form (min most 1048576) xs
    rw [hv, hpv]
    rw [hpv] at HP
    rw [hr] at HR
    have HR := Lib.hid HR
    clear hr hv hpv hx hm
    by_cases hmm : most ≤ 1048576
    · rw [Int.min_eq_left (by omega)] at HP
      have HP := Lib.hid HP
      go_enter Try.func60, Try.ntmps60
      go_wp2_with fail
      refine HR.out.mono ?_
      rintro e w' ⟨rfl, rfl⟩
      go_wp2_with fail
      refine HP.out.mono ?_
      rintro e w' ⟨rfl, rfl⟩
      go_wp2_with fail
      go_ret2
      exact ⟨rfl, rfl⟩
    · rw [Int.min_eq_right (by omega)] at HP
      have HP := Lib.hid HP
      go_enter Try.func60, Try.ntmps60
      go_wp2_with fail
      refine HR.out.mono ?_
      rintro e w' ⟨rfl, rfl⟩
      go_wp2_with fail
      refine HP.out.mono ?_
      rintro e w' ⟨rfl, rfl⟩
      go_wp2_with fail
      go_ret2
      exact ⟨rfl, rfl⟩
  | false =>
    have hv : sizeV xs most = .tuple #[.int .i64 0, .bool false] := if_neg (by rw [hr]; simp)
    rw [hv]
    rw [hr] at HR
    have HR := Lib.hid HR
    clear hr hv hx hm
    go_enter Try.func60, Try.ntmps60
    go_wp2_with fail
    refine HR.out.mono ?_
    rintro e w' ⟨rfl, rfl⟩
    go_wp2_with fail
    go_ret2
    exact ⟨rfl, rfl⟩

/-- Is there such a place? -/
def inTo (xs ps : List Int) (m : Nat) : Bool := (List.range m).all fun i => decide (0 ≤ nth ps i ∧ nth ps i < nth xs i)
def hasB (xs ps : List Int) : Bool := rightB xs && (decide (ps.length = xs.length) && inTo xs ps xs.length)
theorem has_calls (xs ps : List Int) (A C : Option Addr) (ca cc : Nat) (w : World) (hx : ReadsI w .i64 A xs) (hy : ReadsI w .i64 C ps) (hl : xs.length ≤ 9223372036854775807) (hly : ps.length ≤ 9223372036854775807) :
    Calls Try.prog 65 #[.slice A xs.length ca, .slice C ps.length cc] w fun e w' => e = .returned (.bool (hasB xs ps)) ∧ w = w' := by
  have HR := right_calls xs A ca w hx hl
  cases hr : rightB xs with
  | false =>
    have hv : hasB xs ps = false := by simp [hasB, hr]
    rw [hv]
    rw [hr] at HR
    have HR := Lib.hid HR
    clear hr hv hx hy
    go_enter Try.func65, Try.ntmps65
    go_wp2_with fail
    refine HR.out.mono ?_
    rintro e w' ⟨rfl, rfl⟩
    go_wp2_with fail
    go_ret
    exact ⟨rfl, rfl⟩
  | true =>
    rw [hr] at HR
    have HR := Lib.hid HR
    have HX := Lib.hid hx
    have HY := Lib.hid hy
    clear hx hy
    by_cases hll : ps.length = xs.length
    · have hne : ((ps.length : Int) != (xs.length : Int)) = false := by rw [hll]; simp
      have hv : hasB xs ps = inTo xs ps xs.length := by simp [hasB, hr, hll]
      rw [hv]
      have HLL := Lib.hid hll
      clear hr hv hll
      go_enter Try.func65, Try.ntmps65
      go_wp2_with fail
      refine HR.out.mono ?_
      rintro e w' ⟨rfl, rfl⟩
      go_wp2_with fail
      go_loop [5, 6, 19] (fun _ _ i => ∃ k : Nat, i = .int .i64 k ∧ k ≤ xs.length ∧ Hid (inTo xs ps k = true)) (fun _ _ i => xs.length - (intOf i).toNat)
      case atStart => exact ⟨0, rfl, Nat.zero_le _, Lib.hid (by simp [inTo])⟩
      case round =>
        obtain ⟨k, rfl, hk, HA⟩ := hrel
        by_cases hlt : k < xs.length
        · obtain ⟨b, off, rfl, hc⟩ := HX.out k hlt
          obtain ⟨b2, off2, rfl, hc2⟩ := HY.out k (by rw [HLL.out]; exact hlt)
          have hlp : k < ps.length := by rw [HLL.out]; exact hlt
          have HNO : Hid (¬ (0 ≤ nth ps k ∧ nth ps k < nth xs k) → inTo xs ps xs.length = false) := Lib.hid fun h => List.all_eq_false.2 ⟨k, by simpa using hlt, by simpa using h⟩
          have HYES : Hid ((0 ≤ nth ps k ∧ nth ps k < nth xs k) → inTo xs ps (k + 1) = true) := Lib.hid fun h => by
            have h1 := HA.out
            unfold inTo at h1 ⊢
            rw [List.range_succ, List.all_append, h1]; simpa using h
          generalize nth xs k = x at hc HNO HYES
          generalize nth ps k = y at hc2 HNO HYES
          by_cases h0 : y < 0
          · go_wp2_with fail
            go_ret
            exact ⟨ret_bool (HNO.out (by omega)).symm, rfl⟩
          · by_cases h1 : x ≤ y
            · go_wp2_with fail
              go_ret
              exact ⟨ret_bool (HNO.out (by omega)).symm, rfl⟩
            · have d1 : decide (x ≤ y) = false := by simpa using h1
              go_wp2_with fail
              go_round
              case measure => first | (simp [intOf]; done) | (simp [intOf]; omega)
              case rel => exact ⟨k + 1, by go_num, by omega, Lib.hid (HYES.out (by omega))⟩
        · go_wp2_with fail
          go_ret
          obtain rfl : k = xs.length := by omega
          exact ⟨ret_bool HA.out.symm, rfl⟩
    · have hne : ((ps.length : Int) != (xs.length : Int)) = true := by simp; omega
      have hv : hasB xs ps = false := by simp [hasB, hll]
      rw [hv]
      clear hr hv hll
      go_enter Try.func65, Try.ntmps65
      go_wp2_with fail
      refine HR.out.mono ?_
      rintro e w' ⟨rfl, rfl⟩
      go_wp2_with fail
      go_ret
      exact ⟨rfl, rfl⟩
end Go.Proofs.Ythjkeefdeeljoaa.Shp
/- The document's Right of a shape. -/
namespace Go.Proofs.Ythjkeefdeeljoaa.Shp
open Go.RowKit
set_option linter.unusedVariables false
set_option linter.unusedSimpArgs false

theorem rright_calls (xs : List Int) (A : Option Addr) (ca : Nat) (w : World) (hx : ReadsI w .i64 A xs) (hl : xs.length ≤ 9223372036854775807) :
    Calls Try.prog 61 #[.slice A xs.length ca] w fun e w' => e = .returned (.bool (rightB xs)) ∧ w = w' := by
  have HX := Lib.hid hx
  clear hx
  obtain ⟨R, hR⟩ : ∃ R, R = rightB xs := ⟨_, rfl⟩
  rw [← hR]
  have HR := Lib.hid hR
  clear hR
  go_enter Try.func61, Try.ntmps61
  go_wp2_with fail
  go_loopw [3] (fun i wr => ∃ k : Nat, i = .int .i64 k ∧ k ≤ xs.length ∧ wr = w ∧ Hid (∀ j, j < k → bad (nth xs j) = false)) (fun i _ => xs.length - (intOf i).toNat)
  case atStart => exact ⟨0, rfl, Nat.zero_le _, by first | trivial | rfl, Lib.hid (fun j hj => by omega)⟩
  case round =>
    obtain ⟨k, rfl, hk, rfl, HN⟩ := hrel
    by_cases hlt : k < xs.length
    · obtain ⟨b, off, rfl, hc⟩ := HX.out k hlt
      have hmem := nth_mem xs k hlt
      have HBAD : Hid (bad (nth xs k) = true → R = false) := Lib.hid (fun h => by
        rw [HR.out]
        unfold rightB
        have : xs.any bad = true := List.any_eq_true.2 ⟨_, hmem, h⟩
        rw [this]; simp)
      have HN2 : Hid (bad (nth xs k) = false → ∀ j, j < k + 1 → bad (nth xs j) = false) := Lib.hid (fun h j hj => by
        by_cases e : j = k
        · rw [e]; exact h
        · exact HN.out j (by omega))
      clear hmem
      generalize nth xs k = x at *
      by_cases h0 : x < 0
      · have HE := Lib.hid (HBAD.out (by unfold bad; simp [h0]))
        go_wp2_with fail
        go_ret
        exact ⟨ret_bool HE.out.symm, by first | trivial | rfl⟩
      · by_cases h1 : 1048576 < x
        · have HE := Lib.hid (HBAD.out (by unfold bad; simp [h1]))
          go_wp2_with fail
          go_ret
          exact ⟨ret_bool HE.out.symm, by first | trivial | rfl⟩
        · have HE := Lib.hid (HN2.out (by unfold bad; simp; omega))
          go_wp2_with fail
          go_roundw
          case measure => simp [intOf]; omega
          case rel => exact ⟨k + 1, by go_num, by omega, by first | trivial | rfl, HE⟩
    · obtain rfl : k = xs.length := by omega
      have HE : Hid (R = decide (xs.length ≤ 6)) := Lib.hid (by
        rw [HR.out]
        unfold rightB
        have : xs.any bad = false := by
          rw [List.any_eq_false]
          intro x hx
          obtain ⟨j, hj, rfl⟩ := List.getElem_of_mem hx
          have := HN.out j hj
          rw [nth_eq _ _ hj] at this
          simpa using this
        rw [this]; simp)
      go_wp2_with fail
      go_ret
      exact ⟨ret_bool (by rw [HE.out]; first | exact decide_eq_decide.2 (by omega) | rfl), by first | trivial | rfl⟩
end Go.Proofs.Ythjkeefdeeljoaa.Shp
/- ints of law09: two lists of numbers. -/
namespace Go.Proofs.Ythjkeefdeeljoaa.Shp
open Go.RowKit Go.Proofs.Ythjkeefdeeljoaa.Num
set_option linter.unusedVariables false
set_option linter.unusedSimpArgs false

set_option maxHeartbeats 1000000 in
theorem ints_calls (A C : Option Addr) (ca cc : Nat) (xs ys : List Int) (w : World) (hx : ReadsI w .i64 A xs) (hy : ReadsI w .i64 C ys) (hlx : xs.length ≤ 9223372036854775807) (hly : ys.length ≤ 9223372036854775807) :
    Calls Try.prog 13 #[.slice A xs.length ca, .slice C ys.length cc] w fun e w' => e = .returned (.bool (decide (xs = ys))) ∧ ∃ m, w' = w.drewN m := by
  have HX := Lib.hid hx
  have HY := Lib.hid hy
  clear hx hy
  by_cases hl : xs.length = ys.length
  · have hle : ((xs.length : Int) != (ys.length : Int)) = false := by rw [hl]; simp
    have HL := Lib.hid hl
    clear hl
    go_enter Try.func13, Try.ntmps13
    go_wp2
    go_loopw [5] (fun i wr => ∃ (k m : Nat), i = .int .i64 k ∧ k ≤ xs.length ∧ Hid (xs.take k = ys.take k) ∧ Hid (wr = w.drewN m)) (fun i _ => xs.length - (intOf i).toNat)
    case atStart => exact ⟨0, 0, rfl, Nat.zero_le _, Lib.hid (by simp), Lib.hid rfl⟩
    case round =>
      obtain ⟨k, m, rfl, hk, HT, HW⟩ := hrel
      by_cases hlt : k < xs.length
      · have hlt' : k < ys.length := by rw [← HL.out]; exact hlt
        obtain ⟨b, off, rfl, hc⟩ := HX.out k hlt
        obtain ⟨b', off', rfl, hc'⟩ := HY.out k hlt'
        have h1 := take_nth xs k hlt
        have h2 := take_nth ys k hlt'
        have h3 : nth xs k ≠ nth ys k → xs ≠ ys := fun h e => h (by rw [e])
        have g1 : wr.cell? ⟨b, off + k, none⟩ = some (.int .i64 (nth xs k)) := by rw [HW.out]; exact hc
        have g2 : wr.cell? ⟨b', off' + k, none⟩ = some (.int .i64 (nth ys k)) := by rw [HW.out]; exact hc'
        have H1 := Lib.hid h1
        have H2 := Lib.hid h2
        have H3 := Lib.hid h3
        clear h1 h2 h3 hc hc'
        generalize nth xs k = x at *
        generalize nth ys k = y at *
        by_cases hxy : x = y
        · have e1 : (x != y) = false := by simpa using hxy
          have HXY := Lib.hid hxy
          clear hxy
          go_wp2_with fail
          go_quiet (fail)
          go_wp2_with fail
          go_roundw
          case measure => simp [intOf]; omega
          case rel => exact ⟨k + 1, m + nq, by go_num, by omega, Lib.hid (by rw [H1.out, H2.out, HT.out, HXY.out]), Lib.hid (by rw [HW.out, World.drewN_drewN])⟩
        · have e1 : (x != y) = true := by simpa using hxy
          have HXY := Lib.hid hxy
          clear hxy
          go_wp2_with fail
          go_quiet (fail)
          go_wp2_with fail
          go_ret
          exact ⟨ret_bool (decide_eq_false (H3.out HXY.out)).symm, m + nq, by rw [HW.out, World.drewN_drewN]⟩
      · go_wp2_with fail
        go_ret
        have hxy : xs = ys := by
          have := HT.out
          rwa [List.take_of_length_le (by omega), List.take_of_length_le (by rw [← HL.out]; omega)] at this
        exact ⟨ret_bool (decide_eq_true hxy).symm, m, HW.out⟩
  · have hle : ((xs.length : Int) != (ys.length : Int)) = true := by simp; omega
    have HL := Lib.hid hl
    clear hl
    go_enter Try.func13, Try.ntmps13
    go_wp2
    go_ret
    exact ⟨ret_bool (decide_eq_false (fun e => HL.out (by rw [e]))).symm, 0, rfl⟩
theorem ints_same (A C : Option Addr) (ca cc n : Nat) (xs : List Int) (w : World) (hn : xs.length = n) (hx : ReadsI w .i64 A xs) (hy : ReadsI w .i64 C xs) (hl : n ≤ 9223372036854775807) :
    Calls Try.prog 13 #[.slice A n ca, .slice C n cc] w fun e w' => e = .returned (.bool true) ∧ Below w.heap.size w w' := by
  subst hn
  refine (ints_calls A C ca cc xs xs w hx hy hl hl).mono ?_
  rintro e w' ⟨rfl, m, rfl⟩
  exact ⟨by simp, bl_drewN (Below.refl _ _) _⟩
end Go.Proofs.Ythjkeefdeeljoaa.Shp
