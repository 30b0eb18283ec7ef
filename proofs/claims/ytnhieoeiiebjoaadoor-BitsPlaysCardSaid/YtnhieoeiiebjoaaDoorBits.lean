/- The functions of bits. -/
import Derived.Test.YtnhieoeiiebjoaaDoorBitsRep
import Derived.Test.YtnhieoeiiebjoaaDoorMem
import Derived.Test.YtnhieoeiiebjoaaDoorWords
import Derived.BigQuiet
import Derived.IntWalk
import Derived.Laws.BitsAllLaws
namespace Go.Proofs.YtnhieoeiiebjoaaDoor.Bt
open Go.RowKit
set_option linter.unusedVariables false
set_option linter.unusedSimpArgs false

theorem words_calls (n : Nat) (hn : n ≤ 1099511627776) (w : World) : Calls Tryd.prog 18 #[.int .i64 (n : Nat)] w fun e w' => e = .returned (.int .i64 ((n + 63) / 64 : Nat)) ∧ w = w' := by
  have e1 : (((n : Int) + 64 - 1).tdiv 64) = (((n + 63) / 64 : Nat) : Int) := by rw [Int.tdiv_eq_ediv_of_nonneg (by omega)]; omega
  go_enter Tryd.func18, Tryd.ntmps18
  go_wp2_with fail
  go_ret
  exact ⟨by simp, rfl⟩

theorem ret_u64 {a b : Int} (h : a = b) : Ending.returned (.int .u64 a) = Ending.returned (.int .u64 b) := by rw [h]
theorem ret_i64 {a b : Int} (h : a = b) : Ending.returned (.int .i64 a) = Ending.returned (.int .i64 b) := by rw [h]
theorem span_val (lo hi : Nat) (h : lo < hi) : bits .and .u64 (IntKind.u64.wrap (18446744073709551615 * 2 ^ lo)) (18446744073709551615 / 2 ^ (64 - hi)) = ((spanW lo hi : Nat) : Int) := by
  have e1 : IntKind.u64.wrap (18446744073709551615 * 2 ^ lo) = ((18446744073709551615 * 2 ^ lo % 18446744073709551616 : Nat) : Int) := by
    show IntKind.u64.wrap (((18446744073709551615 : Nat) : Int) * ((2 : Nat) : Int) ^ lo) = _
    rw [IntKind.wrap_u64, ← Int.natCast_pow, ← Int.natCast_mul]; rfl
  have e2 : ((18446744073709551615 : Int) / 2 ^ (64 - hi)) = ((18446744073709551615 / 2 ^ (64 - hi) : Nat) : Int) := by
    show (((18446744073709551615 : Nat) : Int) / ((2 : Nat) : Int) ^ (64 - hi)) = _
    rw [← Int.natCast_pow]; rfl
  have h2 : 18446744073709551615 / 2 ^ (64 - hi) ≤ 18446744073709551615 := Nat.div_le_self _ _
  rw [e1, e2, u64_and_nat _ _ (Nat.mod_lt _ (by omega)) (by omega)]
  unfold spanW
  rw [if_neg (by omega)]
theorem span_val0 (hi : Nat) (h : 0 < hi) : bits .and .u64 18446744073709551615 (18446744073709551615 / 2 ^ (64 - hi)) = ((spanW 0 hi : Nat) : Int) := by
  have := span_val 0 hi h
  rwa [show IntKind.u64.wrap (18446744073709551615 * 2 ^ 0) = 18446744073709551615 by rw [IntKind.wrap_u64]; rfl] at this
theorem span_val1 (lo : Nat) (h : lo < 64) : bits .and .u64 (IntKind.u64.wrap (18446744073709551615 * 2 ^ lo)) 18446744073709551615 = ((spanW lo 64 : Nat) : Int) := by
  have := span_val lo 64 h
  rwa [show ((18446744073709551615 : Int) / 2 ^ (64 - 64)) = 18446744073709551615 by rfl] at this
theorem span_val2 : bits .and .u64 18446744073709551615 18446744073709551615 = ((spanW 0 64 : Nat) : Int) := by
  have := span_val1 0 (by omega)
  rwa [show IntKind.u64.wrap (18446744073709551615 * 2 ^ 0) = 18446744073709551615 by rw [IntKind.wrap_u64]; rfl] at this
theorem span_calls (k f t : Nat) (hk : k ≤ 1099511627776) (hf : f ≤ 9223372036854775807) (ht : t ≤ 1099511627776) (w : World) : Calls Tryd.prog 21 #[.int .i64 (k : Nat), .int .i64 (f : Nat), .int .i64 (t : Nat)] w fun e w' => e = .returned (.int .u64 (spanN k f t : Nat)) ∧ ∃ n, w' = w.drewN n := by
  by_cases c0 : min (t - 64 * k) 64 ≤ f - 64 * k
  · have h0 : spanN k f t = 0 := by unfold spanN spanW; rw [if_pos c0]
    rw [h0]
    by_cases c1 : f < 64 * k <;> by_cases c2 : t ≤ 64 * k + 64
    all_goals
      go_enter Tryd.func21, Tryd.ntmps21
      go_wp2_with fail
      try (go_ret; exact ⟨rfl, 0, rfl⟩)
  · by_cases c1 : f < 64 * k <;> by_cases c2 : t ≤ 64 * k + 64
    all_goals
      go_enter Tryd.func21, Tryd.ntmps21
      go_wp2_with fail
      go_quiet (fail)
      all_goals
        go_wp2_with fail
        go_ret
        refine ⟨ret_u64 ?_, nq, rfl⟩
        first
          | (rw [span_val0 _ (by omega)]; unfold spanN; congr 2 <;> omega)
          | (rw [span_val1 _ (by omega)]; unfold spanN; congr 2 <;> omega)
          | (rw [span_val2]; unfold spanN; congr 2 <;> omega)
          | (rw [span_val _ _ (by omega)]; unfold spanN; congr 2 <;> omega)
end Go.Proofs.YtnhieoeiiebjoaaDoor.Bt
