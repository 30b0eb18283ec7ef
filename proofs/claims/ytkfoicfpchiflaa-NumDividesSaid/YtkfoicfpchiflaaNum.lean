/- Contracts of package num (rest, Div, Mod, Down) and of the document's answers Div, Mod, Down: what each call returns, the world left as it was, but for orders drawn. -/
import Derived.Test.YtkfoicfpchiflaaBase
import Derived.Test.YtkfoicfpchiflaaNumPure
namespace Go.Proofs.Ytkfoicfpchiflaa.Num
open Go.RowKit
set_option linter.unusedVariables false
set_option linter.unusedSimpArgs false

set_option maxHeartbeats 400000 in
theorem rest_calls (a b : Int) (w : World) (ha : fits a) (hb : fits b) (h0 : b ≠ 0) :
    Calls Try.prog 13 #[.int .i64 a, .int .i64 b] w fun e w' => e = .returned (.int .i64 (fm a b)) ∧ w = w' := by
  have hz : (b == 0) = false := by simpa using h0
  have hx := odd_xor a b hb h0
  have hs := fm_fits a b hb h0
  by_cases ho : odd a b
  · have h1 := (hx.1 ho).1
    have h2 := (hx.1 ho).2
    have e := fm_yes ho
    have H := Lib.hid e
    have HS := Lib.hid hs
    clear hx e hs
    go_enter Try.func13, Try.ntmps13
    go_wp2
    go_ret
    refine ⟨ret_int ?_, rfl⟩
    have hs := HS.out
    rw [H.out] at hs ⊢
    exact wrap_fits hs
  · have h2 : a.tmod b ≠ 0 → 0 ≤ Go.bits .xor .i64 (a.tmod b) b := fun h => by
      have := mt hx.2 ho
      simp only [not_and] at this
      have := this h
      omega
    have e := fm_no ho
    have H := Lib.hid e
    clear hx e hs
    by_cases h1 : a.tmod b = 0
    · go_enter Try.func13, Try.ntmps13
      go_wp2
      go_ret
      exact ⟨ret_int (by rw [H.out, h1]), rfl⟩
    · have h3 := h2 h1
      clear h2
      go_enter Try.func13, Try.ntmps13
      go_wp2
      go_ret
      exact ⟨ret_int H.out.symm, rfl⟩

def divV (a b : Int) : Value := if b = 0 then .tuple #[.int .i64 0, .bool false] else .tuple #[.int .i64 (wrap64 (fd a b)), .bool true]
def modV (a b : Int) : Value := if b = 0 then .tuple #[.int .i64 0, .bool false] else .tuple #[.int .i64 (fm a b), .bool true]

theorem divV_zero (a : Int) : divV a 0 = .tuple #[.int .i64 0, .bool false] := if_pos rfl
theorem divV_of (a b c : Int) (h0 : b ≠ 0) (h : c = wrap64 (fd a b)) : divV a b = .tuple #[.int .i64 c, .bool true] := by rw [h]; exact if_neg h0
theorem modV_zero (a : Int) : modV a 0 = .tuple #[.int .i64 0, .bool false] := if_pos rfl
theorem modV_of (a b c : Int) (h0 : b ≠ 0) (h : c = fm a b) : modV a b = .tuple #[.int .i64 c, .bool true] := by rw [h]; exact if_neg h0

set_option maxHeartbeats 400000 in
theorem div_calls (a b : Int) (w : World) (ha : fits a) (hb : fits b) :
    Calls Try.prog 5 #[.int .i64 a, .int .i64 b] w fun e w' => e = .returned (divV a b) ∧ ∃ n, w' = w.drewN n := by
  by_cases h0 : b = 0
  · subst h0
    go_enter Try.func5, Try.ntmps5
    go_wp2
    go_ret2
    exact ⟨congrArg Ending.returned (divV_zero a).symm, 0, rfl⟩
  · by_cases h1 : b = -1
    · subst h1
      go_enter Try.func5, Try.ntmps5
      go_wp2
      go_ret2
      exact ⟨congrArg Ending.returned (divV_of _ _ _ h0 (by rw [fd_neg_one])).symm, 0, rfl⟩
    · have b0 : (b == 0) = false := by simpa using h0
      have b1 : (b == -1) = false := by simpa using h1
      by_cases ho : odd a b
      · have e0 : fm a b ≠ a.tmod b := by rw [fm_yes ho]; omega
        have e1 : (fm a b != a.tmod b) = true := by simpa using e0
        have e2 : (fm a b == a.tmod b) = false := by simpa using e0
        have HF := Lib.hid (fd_yes ho)
        have hf := fd_fits a b ha hb h1 h0
        have ht := tdiv_fits a b ha h1
        have ew := wrap_fits ht
        have HE : Hid (_ = _) := Lib.hid ew
        clear ew
        go_enter Try.func5, Try.ntmps5
        go_wp2
        go_quiet ((go_at_call 13; exact quiet_eq (rest_calls a b _ ha hb h0)))
        go_wp2
        go_ret2
        exact ⟨congrArg Ending.returned (divV_of _ _ _ h0 (by rw [HF.out, HE.out])).symm, _, rfl⟩
      · have e0 : fm a b = a.tmod b := fm_no ho
        have e1 : (fm a b != a.tmod b) = false := by simpa using e0
        have e2 : (fm a b == a.tmod b) = true := by simpa using e0
        clear e0
        have HF := Lib.hid (fd_no ho)
        go_enter Try.func5, Try.ntmps5
        go_wp2
        go_quiet ((go_at_call 13; exact quiet_eq (rest_calls a b _ ha hb h0)))
        go_wp2
        go_ret2
        exact ⟨congrArg Ending.returned (divV_of _ _ _ h0 (by rw [HF.out])).symm, _, rfl⟩

set_option maxHeartbeats 400000 in
theorem mod_calls (a b : Int) (w : World) (ha : fits a) (hb : fits b) :
    Calls Try.prog 6 #[.int .i64 a, .int .i64 b] w fun e w' => e = .returned (modV a b) ∧ w = w' := by
  by_cases h0 : b = 0
  · subst h0
    go_enter Try.func6, Try.ntmps6
    go_wp2
    go_ret2
    exact ⟨congrArg Ending.returned (modV_zero a).symm, rfl⟩
  · by_cases h1 : b = -1
    · subst h1
      go_enter Try.func6, Try.ntmps6
      go_wp2
      go_ret2
      exact ⟨congrArg Ending.returned (modV_of _ _ _ h0 (by rw [fm_neg_one])).symm, rfl⟩
    · have b0 : (b == 0) = false := by simpa using h0
      have b1 : (b == -1) = false := by simpa using h1
      go_enter Try.func6, Try.ntmps6
      go_wp2_with (go_at_call 13; refine (rest_calls a b _ ha hb h0).mono ?_; rintro e w' ⟨rfl, rfl⟩)
      go_ret2
      exact ⟨congrArg Ending.returned (modV_of _ _ _ h0 rfl).symm, rfl⟩
end Go.Proofs.Ytkfoicfpchiflaa.Num
