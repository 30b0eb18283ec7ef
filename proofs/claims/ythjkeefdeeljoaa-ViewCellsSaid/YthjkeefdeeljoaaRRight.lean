/- The document's Right of a shape. -/
import Derived.Test.YthjkeefdeeljoaaPk1
import Derived.IntWalk
namespace Go.Proofs.Ythjkeefdeeljoaa.Shp
open Go.RowKit
set_option linter.unusedVariables false
set_option linter.unusedSimpArgs false

theorem rright_calls (xs : List Int) (A : Option Addr) (ca : Nat) (w : World) (hx : ReadsI w .i64 A xs) (hl : xs.length ≤ 9223372036854775807) :
    Calls Try.prog 61 #[.slice A xs.length ca] w fun e w' => e = .returned (.bool (rightB xs)) ∧ w = w' := by
  have HX := Lib.hid hx
  clear hx
  obtain ⟨R, hR⟩ : ∃ R, R = rightB xs := ⟨_, rfl⟩
  rw [← hR]
  have HR := Lib.hid hR
  clear hR
  go_enter Try.func61, Try.ntmps61
  go_wp2_with fail
  go_loopw [3] (fun i wr => ∃ k : Nat, i = .int .i64 k ∧ k ≤ xs.length ∧ wr = w ∧ Hid (∀ j, j < k → bad (nth xs j) = false)) (fun i _ => xs.length - (intOf i).toNat)
  case atStart => exact ⟨0, rfl, Nat.zero_le _, by first | trivial | rfl, Lib.hid (fun j hj => by omega)⟩
  case round =>
    obtain ⟨k, rfl, hk, rfl, HN⟩ := hrel
    by_cases hlt : k < xs.length
    · obtain ⟨b, off, rfl, hc⟩ := HX.out k hlt
      have hmem := nth_mem xs k hlt
      have HBAD : Hid (bad (nth xs k) = true → R = false) := Lib.hid (fun h => by
        rw [HR.out]
        unfold rightB
        have : xs.any bad = true := List.any_eq_true.2 ⟨_, hmem, h⟩
        rw [this]; simp)
      have HN2 : Hid (bad (nth xs k) = false → ∀ j, j < k + 1 → bad (nth xs j) = false) := Lib.hid (fun h j hj => by
        by_cases e : j = k
        · rw [e]; exact h
        · exact HN.out j (by omega))
      clear hmem
      generalize nth xs k = x at *
      by_cases h0 : x < 0
      · have HE := Lib.hid (HBAD.out (by unfold bad; simp [h0]))
        go_wp2_with fail
        go_ret
        exact ⟨ret_bool HE.out.symm, by first | trivial | rfl⟩
      · by_cases h1 : 1048576 < x
        · have HE := Lib.hid (HBAD.out (by unfold bad; simp [h1]))
          go_wp2_with fail
          go_ret
          exact ⟨ret_bool HE.out.symm, by first | trivial | rfl⟩
        · have HE := Lib.hid (HN2.out (by unfold bad; simp; omega))
          go_wp2_with fail
          go_roundw
          case measure => simp [intOf]; omega
          case rel => exact ⟨k + 1, by go_num, by omega, by first | trivial | rfl, HE⟩
    · obtain rfl : k = xs.length := by omega
      have HE : Hid (R = decide (xs.length ≤ 6)) := Lib.hid (by
        rw [HR.out]
        unfold rightB
        have : xs.any bad = false := by
          rw [List.any_eq_false]
          intro x hx
          obtain ⟨j, hj, rfl⟩ := List.getElem_of_mem hx
          have := HN.out j hj
          rw [nth_eq _ _ hj] at this
          simpa using this
        rw [this]; simp)
      go_wp2_with fail
      go_ret
      exact ⟨ret_bool (by rw [HE.out]; first | exact decide_eq_decide.2 (by omega) | rfl), by first | trivial | rfl⟩
end Go.Proofs.Ythjkeefdeeljoaa.Shp
