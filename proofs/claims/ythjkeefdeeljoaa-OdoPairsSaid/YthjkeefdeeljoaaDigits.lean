/- The digits of a count. -/
import Derived.Test.YthjkeefdeeljoaaPlace
namespace Go.Proofs.Ythjkeefdeeljoaa.Shp
open Go.RowKit Go.Proofs.Ythjkeefdeeljoaa.Num
set_option linter.unusedVariables false
set_option linter.unusedSimpArgs false

/-- The i-th digit of a count. -/
def dg (xs : List Int) (p i : Nat) : Nat := p / sp xs i % (nth xs i).toNat
def atL (xs : List Int) (p : Nat) : List Nat := (List.range xs.length).map (dg xs p)
theorem at_step (f : Nat → Nat) (k n : Nat) (h : k < n) : ((List.range k).map f ++ List.replicate (n - k) 0).set k (f k) = (List.range (k + 1)).map f ++ List.replicate (n - (k + 1)) 0 := by
  obtain ⟨m, rfl⟩ : ∃ m, n = k + 1 + m := ⟨n - (k + 1), by omega⟩
  rw [show k + 1 + m - k = m + 1 by omega, show k + 1 + m - (k + 1) = m by omega, List.replicate_succ, List.range_succ]
  rw [List.set_append_right _ _ (by simp)]
  simp
theorem prod_pos_mem (xs : List Int) (h0 : ∀ x ∈ xs, 0 ≤ x) (h : 0 < prod xs) : ∀ x ∈ xs, 1 ≤ x := fun x hx => by
  have := h0 x hx
  rcases Int.lt_or_eq_of_le this with h1 | h1
  · omega
  · rw [← h1] at hx
    rw [prod_zero xs hx] at h
    omega
theorem tl_pos (xs : List Int) : ∀ k, 1 ≤ tl xs k
  | 0 => Nat.le_refl _
  | k + 1 => by
    unfold tl
    split
    · exact Nat.mul_pos (tl_pos xs k) (by unfold mx; omega)
    · exact tl_pos xs k

end Go.Proofs.Ythjkeefdeeljoaa.Shp
