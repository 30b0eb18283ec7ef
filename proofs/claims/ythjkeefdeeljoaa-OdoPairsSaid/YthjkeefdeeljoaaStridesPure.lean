/- What Strides tells, without the loop: each axis counts for the product of those behind it. -/
import Derived.Test.YthjkeefdeeljoaaStrides
namespace Go.Proofs.Ythjkeefdeeljoaa.Shp
open Go.RowKit Go.Proofs.Ythjkeefdeeljoaa.Num
set_option linter.unusedVariables false
set_option linter.unusedSimpArgs false

/-- The product of the k last axes, each at least 1. -/
def tl (xs : List Int) : Nat → Nat
  | 0 => 1
  | k + 1 => if k < xs.length then tl xs k * mx xs (xs.length - 1 - k) else tl xs k
/-- By how much the i-th axis counts. -/
def sp (xs : List Int) (i : Nat) : Nat := tl xs (xs.length - 1 - i)
theorem tl_step (xs : List Int) (k : Nat) (h : k < xs.length) : tl xs (k + 1) = tl xs k * mx xs (xs.length - 1 - k) := by
  conv => lhs; unfold tl
  rw [if_pos h]
theorem foldS_downs (xs : List Int) : ∀ k, k < xs.length → (foldS xs (downs xs.length (k + 1))).1 = tl xs k ∧ ∀ j, xs.length - (k + 1) ≤ j → j < xs.length → nth (foldS xs (downs xs.length (k + 1))).2 j = sp xs j := by
  intro k
  induction k with
  | zero =>
    intro h
    have e : downs xs.length 1 = downs xs.length 0 ++ [⟨xs.length - 1 - 0, by omega⟩] := by conv => lhs; unfold downs; rw [dif_pos h]
    rw [e, foldS_snoc]
    have hn : nxt xs (foldS xs (downs xs.length 0)).1 (xs.length - 1 - 0) = 1 := by
      unfold nxt; rw [if_neg (by omega)]; rfl
    refine ⟨hn, fun j h1 h2 => ?_⟩
    obtain rfl : j = xs.length - 1 - 0 := by omega
    show nth ((foldS xs (downs xs.length 0)).2.set (xs.length - 1 - 0) (nxt xs (foldS xs (downs xs.length 0)).1 (xs.length - 1 - 0))) (xs.length - 1 - 0) = _
    rw [hn, nth_eq _ _ (by rw [List.length_set, foldS_length]; exact h2), List.getElem_set_self]
    unfold sp
    rw [show xs.length - 1 - (xs.length - 1 - 0) = 0 by omega]
    rfl
  | succ k ih =>
    intro h
    obtain ⟨i1, i2⟩ := ih (by omega)
    have e : downs xs.length (k + 1 + 1) = downs xs.length (k + 1) ++ [⟨xs.length - 1 - (k + 1), by omega⟩] := by conv => lhs; unfold downs; rw [dif_pos h]
    rw [e, foldS_snoc]
    have hn : nxt xs (foldS xs (downs xs.length (k + 1))).1 (xs.length - 1 - (k + 1)) = tl xs (k + 1) := by
      unfold nxt
      rw [if_pos (by omega), i1, tl_step xs k (by omega)]
      congr 2; omega
    refine ⟨hn, fun j h1 h2 => ?_⟩
    show nth ((foldS xs (downs xs.length (k + 1))).2.set (xs.length - 1 - (k + 1)) (nxt xs (foldS xs (downs xs.length (k + 1))).1 (xs.length - 1 - (k + 1)))) j = _
    rw [hn, nth_eq _ _ (by rw [List.length_set, foldS_length]; exact h2), List.getElem_set]
    by_cases hj : xs.length - 1 - (k + 1) = j
    · rw [if_pos hj]
      unfold sp
      congr 1; omega
    · rw [if_neg hj, ← nth_eq _ _ (by rw [foldS_length]; exact h2)]
      exact i2 j (by omega) h2
theorem foldS_all (xs : List Int) : (foldS xs (downs xs.length xs.length)).2.length = xs.length ∧ ∀ j, j < xs.length → nth (foldS xs (downs xs.length xs.length)).2 j = sp xs j := by
  refine ⟨foldS_length _ _, fun j hj => ?_⟩
  obtain ⟨n, hn⟩ : ∃ n, xs.length = n + 1 := ⟨xs.length - 1, by omega⟩
  have := (foldS_downs xs n (by omega)).2 j (by omega) hj
  rw [← hn] at this
  exact this

set_option maxHeartbeats 400000 in
/-- Strides of a shape whose axes, each at least 1, are not too many. -/
theorem strides_calls (xs : List Int) (A : Option Addr) (ca : Nat) (w : World) (hx : ReadsI w .i64 A xs) (hl : xs.length ≤ 1000000) (hr : rightB xs = true) (ht : ∀ k, k < xs.length → tl xs k ≤ 1048576) :
    Calls Try.prog 66 #[.slice A xs.length ca] w fun e w' => (∃ b S, w.heap.size ≤ b ∧ e = .returned (.slice (some ⟨b, 0, none⟩) xs.length xs.length) ∧ RowN w' b 0 S ∧ S.length = xs.length ∧ ∀ j, j < xs.length → nth S j = sp xs j) ∧ Below w.heap.size w w' := by
  refine (callsIn_wide.1 (strides_in xs A ca w hx hl hr)).mono ?_
  rintro e w' ⟨h, hB⟩
  refine ⟨?_, hB⟩
  rcases h with ⟨rfl, h⟩ | ⟨_, k, hk, h⟩
  · exact ⟨_, _, by omega, rfl, h, (foldS_all xs).1, (foldS_all xs).2⟩
  · have := ht k hk
    rw [(foldS_downs xs k hk).1] at h
    omega
end Go.Proofs.Ythjkeefdeeljoaa.Shp
