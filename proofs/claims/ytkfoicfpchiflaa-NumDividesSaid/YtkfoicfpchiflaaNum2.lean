/- Contracts of package num: Down, within, Steps, below, Product; and the document's answers Div, Mod, Down. -/
import Derived.Test.YtkfoicfpchiflaaNum
namespace Go.Proofs.Ytkfoicfpchiflaa.Num
open Go.RowKit
set_option linter.unusedVariables false
set_option linter.unusedSimpArgs false

def downV (a b : Int) : Value := if b < 1 then .tuple #[.int .i64 0, .bool false] else if a - fm a b < -9223372036854775808 then .tuple #[.int .i64 0, .bool false] else .tuple #[.int .i64 (a - fm a b), .bool true]

set_option maxHeartbeats 400000 in
theorem down_calls (a b : Int) (w : World) (ha : fits a) (hb : fits b) :
    Calls Try.prog 11 #[.int .i64 a, .int .i64 b] w fun e w' => e = .returned (downV a b) ∧ ∃ n, w' = w.drewN n := by
  by_cases h0 : b < 1
  · have HV : Hid (downV a b = _) := Lib.hid (if_pos h0)
    go_enter Try.func11, Try.ntmps11
    go_wp2
    go_ret2
    exact ⟨congrArg Ending.returned HV.out.symm, 0, rfl⟩
  · have hz : b ≠ 0 := by omega
    have hfm := (fm_bd a b hz).1 (by omega)
    by_cases h1 : a - fm a b < -9223372036854775808
    · have e : wrap64 (a - fm a b) = a - fm a b + 18446744073709551616 := by unfold fits at *; unfold wrap64; omega
      have hgt : a < wrap64 (a - fm a b) := by rw [e]; unfold fits at *; omega
      have HV : Hid (downV a b = _) := Lib.hid (by unfold downV; rw [if_neg h0, if_pos h1])
      clear e h1
      go_enter Try.func11, Try.ntmps11
      go_wp2_with (go_at_call 13; refine (rest_calls a b _ ha hb hz).mono ?_; rintro e w' ⟨rfl, rfl⟩)
      go_ret2
      exact ⟨congrArg Ending.returned HV.out.symm, 0, rfl⟩
    · have e : wrap64 (a - fm a b) = a - fm a b := by unfold fits at *; unfold wrap64; omega
      have hle : wrap64 (a - fm a b) ≤ a := by rw [e]; omega
      have HE := Lib.hid e
      clear e
      have HV : Hid (downV a b = _) := Lib.hid (by unfold downV; rw [if_neg h0, if_neg h1])
      go_enter Try.func11, Try.ntmps11
      go_wp2_with (go_at_call 13; refine (rest_calls a b _ ha hb hz).mono ?_; rintro e w' ⟨rfl, rfl⟩)
      go_ret2
      refine ⟨?_, 0, rfl⟩
      rw [HV.out]
      exact ret_ib HE.out rfl

set_option maxHeartbeats 400000 in
theorem refDiv_calls (a b : Int) (w : World) (ha : fits a) (hb : fits b) :
    Calls Try.prog 9 #[.int .i64 a, .int .i64 b] w fun e w' => e = .returned (divV a b) ∧ w = w' := by
  by_cases h0 : b = 0
  · subst h0
    go_enter Try.func9, Try.ntmps9
    go_wp2
    go_ret2
    exact ⟨congrArg Ending.returned (divV_zero a).symm, rfl⟩
  · by_cases h1 : b = -1
    · subst h1
      go_enter Try.func9, Try.ntmps9
      go_wp2
      go_ret2
      exact ⟨congrArg Ending.returned (divV_of _ _ _ h0 (by rw [fd_neg_one])).symm, rfl⟩
    · have b0 : (b == 0) = false := by simpa using h0
      have b1 : (b == -1) = false := by simpa using h1
      have HO := Lib.hid (odd_signs a b h0)
      have HE := Lib.hid (wrap_fits (tdiv_fits a b ha h1))
      go_enter Try.func9, Try.ntmps9
      go_wp2
      all_goals go_ret2
      all_goals refine ⟨congrArg Ending.returned (divV_of _ _ _ h0 ?_).symm, rfl⟩
      all_goals have ho := HO.out
      all_goals have he := HE.out
      all_goals clear HO HE
      · rw [fd_no (by simp_all)]
      · rw [fd_yes (by simp_all), he]
      · rw [fd_no (by simp_all)]

set_option maxHeartbeats 400000 in
theorem refMod_calls (a b : Int) (w : World) (ha : fits a) (hb : fits b) :
    Calls Try.prog 10 #[.int .i64 a, .int .i64 b] w fun e w' => e = .returned (modV a b) ∧ w = w' := by
  by_cases h0 : b = 0
  · subst h0
    go_enter Try.func10, Try.ntmps10
    go_wp2
    go_ret2
    exact ⟨congrArg Ending.returned (modV_zero a).symm, rfl⟩
  · by_cases h1 : b = -1
    · subst h1
      go_enter Try.func10, Try.ntmps10
      go_wp2
      go_ret2
      exact ⟨congrArg Ending.returned (modV_of _ _ _ h0 (by rw [fm_neg_one])).symm, rfl⟩
    · have b0 : (b == 0) = false := by simpa using h0
      have b1 : (b == -1) = false := by simpa using h1
      have HO := Lib.hid (odd_signs2 a b h0)
      have HE := Lib.hid (fm_fits a b hb h0)
      go_enter Try.func10, Try.ntmps10
      go_wp2
      all_goals go_ret2
      all_goals refine ⟨congrArg Ending.returned (modV_of _ _ _ h0 ?_).symm, rfl⟩
      all_goals have ho := HO.out
      all_goals have he := HE.out
      all_goals clear HO HE
      · rw [fm_no (by simp_all)]; simp_all
      · have ho' : odd a b := by simp_all
        rw [fm_yes ho'] at he ⊢; exact wrap_fits he
      · rw [fm_no (by simp_all)]

set_option maxHeartbeats 400000 in
theorem refDown_calls (a b : Int) (w : World) (ha : fits a) (hb : fits b) :
    Calls Try.prog 12 #[.int .i64 a, .int .i64 b] w fun e w' => e = .returned (downV a b) ∧ w = w' := by
  by_cases h0 : b < 1
  · have HV : Hid (downV a b = _) := Lib.hid (if_pos h0)
    go_enter Try.func12, Try.ntmps12
    go_wp2
    go_ret2
    exact ⟨congrArg Ending.returned HV.out.symm, rfl⟩
  · have hz : b ≠ 0 := by omega
    have hfm := (fm_bd a b hz).1 (by omega)
    have hmv : modV a b = .tuple #[.int .i64 (fm a b), .bool true] := if_neg hz
    have HM := Lib.hid hmv
    clear hmv
    by_cases h1 : a - fm a b < -9223372036854775808
    · have hgt : a < wrap64 (-9223372036854775808 + fm a b) := by unfold fits at *; unfold wrap64; omega
      have HV : Hid (downV a b = _) := Lib.hid (by unfold downV; rw [if_neg h0, if_pos h1])
      clear h1
      go_enter Try.func12, Try.ntmps12
      go_wp2_with (go_at_call 10; refine (refMod_calls a b _ ha hb).mono ?_; rw [HM.out]; rintro e w' ⟨rfl, rfl⟩)
      go_ret2
      exact ⟨congrArg Ending.returned HV.out.symm, rfl⟩
    · have hgt : ¬ a < wrap64 (-9223372036854775808 + fm a b) := by unfold fits at *; unfold wrap64; omega
      have e : wrap64 (a - fm a b) = a - fm a b := by unfold fits at *; unfold wrap64; omega
      have HE := Lib.hid e
      clear e
      have HV : Hid (downV a b = _) := Lib.hid (by unfold downV; rw [if_neg h0, if_neg h1])
      go_enter Try.func12, Try.ntmps12
      go_wp2_with (go_at_call 10; refine (refMod_calls a b _ ha hb).mono ?_; rw [HM.out]; rintro e w' ⟨rfl, rfl⟩)
      go_ret2
      refine ⟨?_, rfl⟩
      rw [HV.out]
      exact ret_ib HE.out rfl
/-- Are all near? -/
def near (n : Int) : Bool := decide (-1099511627776 ≤ n ∧ n ≤ 1099511627776)
set_option maxHeartbeats 400000 in
theorem within_calls (A : Option Addr) (c : Nat) (xs : List Int) (w : World) (hx : ReadsI w .i64 A xs) (hl : xs.length ≤ 9223372036854775807) :
    Calls Try.prog 15 #[.slice A xs.length c] w fun e w' => e = .returned (.bool (xs.all near)) ∧ w = w' := by
  have HX : Hid (ReadsI w .i64 A xs) := Lib.hid hx
  clear hx
  go_enter Try.func15, Try.ntmps15
  go_wp2
  go_loop [4, 7] (fun _ i => ∃ k : Nat, k ≤ xs.length ∧ i = .int .i64 k ∧ (xs.take k).all near = true) (fun _ i => xs.length - (intOf i).toNat)
  case atStart => exact ⟨0, Nat.zero_le _, rfl, by simp⟩
  case round =>
    obtain ⟨k, hk, rfl, ha⟩ := hrel
    have HA := Lib.hid ha
    clear ha
    by_cases hlt : k < xs.length
    · obtain ⟨b, off, rfl, hc⟩ := HX.out k hlt
      have HT := Lib.hid (take_nth xs k hlt)
      have hm := nth_mem xs k hlt
      generalize nth xs k = x at hc HT hm
      have HM := Lib.hid hm
      clear hm
      by_cases h1 : x < -1099511627776
      · go_wp2
        go_ret
        exact ⟨ret_bool (by symm; rw [List.all_eq_false]; exact ⟨x, HM.out, by simp [near]; omega⟩), rfl⟩
      · by_cases h2 : 1099511627776 < x
        · go_wp2
          go_ret
          exact ⟨ret_bool (by symm; rw [List.all_eq_false]; exact ⟨x, HM.out, by simp [near]; omega⟩), rfl⟩
        · go_wp2
          go_round
          case rel => exact ⟨k + 1, by omega, by go_num, by rw [HT.out, List.all_append, HA.out]; simp [near]; omega⟩
          case measure => simp [intOf]; omega
    · go_wp2
      go_ret
      exact ⟨ret_bool (by have := HA.out; rw [List.take_of_length_le (by omega)] at this; rw [this]), rfl⟩

set_option maxHeartbeats 400000 in
theorem below_calls (A : Option Addr) (c : Nat) (xs : List Int) (w : World) (hx : ReadsI w .i64 A xs) (hl : xs.length ≤ 9223372036854775807) :
    Calls Try.prog 16 #[.slice A xs.length c] w fun e w' => e = .returned (.bool (xs.any fun x => decide (x < 0))) ∧ w = w' := by
  have HX : Hid (ReadsI w .i64 A xs) := Lib.hid hx
  clear hx
  go_enter Try.func16, Try.ntmps16
  go_wp2
  go_loop [4, 7] (fun _ i => ∃ k : Nat, k ≤ xs.length ∧ i = .int .i64 k ∧ ((xs.take k).any fun x => decide (x < 0)) = false) (fun _ i => xs.length - (intOf i).toNat)
  case atStart => exact ⟨0, Nat.zero_le _, rfl, by simp⟩
  case round =>
    obtain ⟨k, hk, rfl, ha⟩ := hrel
    have HA := Lib.hid ha
    clear ha
    by_cases hlt : k < xs.length
    · obtain ⟨b, off, rfl, hc⟩ := HX.out k hlt
      have HT := Lib.hid (take_nth xs k hlt)
      have hm := nth_mem xs k hlt
      generalize nth xs k = x at hc HT hm
      have HM := Lib.hid hm
      clear hm
      by_cases h1 : x < 0
      · go_wp2
        go_ret
        exact ⟨ret_bool (by symm; rw [List.any_eq_true]; exact ⟨x, HM.out, by simp; omega⟩), rfl⟩
      · go_wp2
        go_round
        case rel => exact ⟨k + 1, by omega, by go_num, by rw [HT.out, List.any_append, HA.out]; simp; omega⟩
        case measure => simp [intOf]; omega
    · go_wp2
      go_ret
      exact ⟨ret_bool (by have := HA.out; rw [List.take_of_length_le (by omega)] at this; rw [this]), rfl⟩
end Go.Proofs.Ytkfoicfpchiflaa.Num
