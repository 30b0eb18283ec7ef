/- ViewCells: the plain law of the lists. -/
import Derived.Test.YthjkeefdeeljoaaPk8
namespace Go.Proofs.Ythjkeefdeeljoaa.Shp
open Go.RowKit Go.Proofs.Ythjkeefdeeljoaa.Num
set_option linter.unusedVariables false
set_option linter.unusedSimpArgs false

/-- A window, and then its axis away: the axis as wide as the window. -/
theorem win_drop : ∀ (xs : List Int) (a : Nat) (v u : Int), a < xs.length →
    ((xs.set a v).take (a + 1) ++ u :: (xs.set a v).drop (a + 1)).take a ++ ((xs.set a v).take (a + 1) ++ u :: (xs.set a v).drop (a + 1)).drop (a + 1) = xs.set a u := by
  intro xs
  induction xs with
  | nil => intro a v u h; simp at h
  | cons x xs ih =>
    intro a v u h
    cases a with
    | zero => simp
    | succ a =>
      have h' : a < xs.length := by simpa using h
      have := ih a v u h'
      simpa using this
theorem set_twice (ys : List Int) (i : Nat) (a b : Int) : (ys.set i a).set i b = ys.set i b := List.set_set _
theorem set_same (ys : List Int) (i : Nat) (h : i < ys.length) : ys.set i (nth ys i) = ys := by
  rw [nth_eq _ _ h]; exact List.set_getElem_self h
theorem nth_set (ys : List Int) (i : Nat) (a : Int) (h : i < ys.length) : nth (ys.set i a) i = a := by
  rw [nth_eq _ _ (by simpa using h)]; simp
theorem nth_win (xs : List Int) (a : Nat) (v u : Int) (h : a < xs.length) : nth ((xs.set a v).take (a + 1) ++ u :: (xs.set a v).drop (a + 1)) a = v := by
  have e : nth ((xs.set a v).take (a + 1) ++ u :: (xs.set a v).drop (a + 1)) a = nth (xs.set a v) a := by
    rw [nth_eq _ _ (by simp; omega), nth_eq _ _ (by simpa using h), List.getElem_append_left (by simp; omega), List.getElem_take]
  rw [e, nth_set xs a v h]
theorem prod_cut (xs : List Int) (a : Nat) (h : a < xs.length) : prod xs = prod (xs.take a) * nth xs a * prod (xs.drop (a + 1)) := by
  have e : xs = (xs.take a ++ [nth xs a]) ++ xs.drop (a + 1) := by
    rw [← take_nth xs a h, List.take_append_drop]
  conv => lhs; rw [e]
  rw [prod_append2, prod_append]
theorem prod_win (xs : List Int) (a : Nat) (v u : Int) (h : a < xs.length) : prod ((xs.set a v).take (a + 1) ++ u :: (xs.set a v).drop (a + 1)) = prod (xs.take a) * v * (u * prod (xs.drop (a + 1))) := by
  rw [prod_append2, take_nth (xs.set a v) a (by simpa using h), nth_set xs a v h, prod_append, List.take_set_of_le (by omega), List.drop_set_of_lt (by omega)]
  rfl
/-- A window that is refused though it is not too wide: of a view of six axes. -/
theorem win_why {xs ys : List Int} {off : Int} (hv : vrB xs ys off = true) (hp : prod xs ≤ 300) (i : Nat) (hi : i < xs.length) (k : Nat) (h1 : 1 ≤ k) (hk : (k : Int) ≤ nth xs i)
    (hw : vrB ((xs.set i (nth xs i - k + 1)).take (i + 1) ++ (k : Int) :: (xs.set i (nth xs i - k + 1)).drop (i + 1)) ((ys.set i (nth ys i)).take (i + 1) ++ nth ys i :: (ys.set i (nth ys i)).drop (i + 1)) off = false) : 6 ≤ xs.length := by
  obtain ⟨v1, v2, v3, v4, v5⟩ := vrB_out hv
  have hr : rightB xs = true := by unfold sizeOk at v1; simp only [Bool.and_eq_true] at v1; exact v1.1
  obtain ⟨r1, r2⟩ := rightB_mem hr
  refine Nat.le_of_not_lt fun h6 => ?_
  have hxi := r2 _ (nth_mem xs i hi)
  have m1 : ∀ x ∈ xs.take i, 0 ≤ x ∧ x ≤ 1048576 := fun x hx => r2 x (List.mem_of_mem_take hx)
  have m2 : ∀ x ∈ xs.drop (i + 1), 0 ≤ x ∧ x ≤ 1048576 := fun x hx => r2 x (List.mem_of_mem_drop hx)
  have p1 := prod_nonneg (xs.take i) fun x hx => (m1 x hx).1
  have p2 := prod_nonneg (xs.drop (i + 1)) fun x hx => (m2 x hx).1
  have hc := prod_cut xs i hi
  have hww := prod_win xs i (nth xs i - k + 1) k hi
  rw [set_same ys i (by omega)] at hw
  have hmemy : ∀ y ∈ ys.take (i + 1) ++ nth ys i :: ys.drop (i + 1), -1048576 ≤ y ∧ y ≤ 1048576 := fun y hy => by
    refine near_mem v3 y ?_
    rcases List.mem_append.1 hy with hy | hy
    · exact List.mem_of_mem_take hy
    · rcases List.mem_cons.1 hy with rfl | hy
      · exact nth_mem ys i (by omega)
      · exact List.mem_of_mem_drop hy
  have hnear : nearB (ys.take (i + 1) ++ nth ys i :: ys.drop (i + 1)) = true := by
    unfold nearB
    rw [Bool.not_eq_true', List.any_eq_false]
    intro y hy
    have := hmemy y hy
    unfold farB
    simp
    omega
  have hlen : (ys.take (i + 1) ++ nth ys i :: ys.drop (i + 1)).length = ((xs.set i (nth xs i - k + 1)).take (i + 1) ++ (k : Int) :: (xs.set i (nth xs i - k + 1)).drop (i + 1)).length := by simp; omega
  have hmemx : ∀ x ∈ (xs.set i (nth xs i - k + 1)).take (i + 1) ++ (k : Int) :: (xs.set i (nth xs i - k + 1)).drop (i + 1), 0 ≤ x ∧ x ≤ 1048576 := fun x hx => by
    have hset : ∀ x ∈ xs.set i (nth xs i - k + 1), 0 ≤ x ∧ x ≤ 1048576 := fun x hx => by
      rcases List.mem_or_eq_of_mem_set hx with hx | rfl
      · exact r2 x hx
      · omega
    rcases List.mem_append.1 hx with hx | hx
    · exact hset x (List.mem_of_mem_take hx)
    · rcases List.mem_cons.1 hx with rfl | hx
      · omega
      · exact hset x (List.mem_of_mem_drop hx)
  have hrw : rightB ((xs.set i (nth xs i - k + 1)).take (i + 1) ++ (k : Int) :: (xs.set i (nth xs i - k + 1)).drop (i + 1)) = true := by
    unfold rightB
    have h1 : decide (((xs.set i (nth xs i - k + 1)).take (i + 1) ++ (k : Int) :: (xs.set i (nth xs i - k + 1)).drop (i + 1)).length ≤ 6) = true := by
      rw [decide_eq_true_eq]; simp; omega
    rw [h1, Bool.true_and, Bool.not_eq_true', List.any_eq_false]
    intro x hx
    have := hmemx x hx
    unfold bad
    simp
    omega
  have hsz : prod ((xs.set i (nth xs i - k + 1)).take (i + 1) ++ (k : Int) :: (xs.set i (nth xs i - k + 1)).drop (i + 1)) ≤ 1048576 := by
    rw [hww]
    generalize prod (xs.take i) = a at *
    generalize prod (xs.drop (i + 1)) = b at *
    generalize nth xs i = x at *
    have e1 : a * (x - k + 1) * (k * b) = (a * b) * ((x - k + 1) * k) := by ac_rfl
    have e2 : a * x * b = (a * b) * x := by ac_rfl
    rw [e1]
    rw [e2] at hc
    have hab : 0 ≤ a * b := Int.mul_nonneg p1 p2
    generalize a * b = c at *
    have h3 : c * (x - k + 1) ≤ 300 := by
      have := Int.mul_le_mul_of_nonneg_left (show x - k + 1 ≤ x by omega) hab
      omega
    have h4 : 0 ≤ c * (x - k + 1) := Int.mul_nonneg hab (by omega)
    rw [← Int.mul_assoc]
    by_cases hc0 : c = 0
    · subst hc0; simp
    · have hx300 : x ≤ 300 := by
        have := Int.mul_le_mul_of_nonneg_right (show 1 ≤ c by omega) (show 0 ≤ x by omega)
        omega
      have := Int.mul_le_mul h3 (show (k : Int) ≤ 300 by omega) (by omega) (by omega)
      omega
  have : vrB ((xs.set i (nth xs i - k + 1)).take (i + 1) ++ (k : Int) :: (xs.set i (nth xs i - k + 1)).drop (i + 1)) (ys.take (i + 1) ++ nth ys i :: ys.drop (i + 1)) off = true := by
    unfold vrB sizeOk
    rw [hrw, hnear, hlen, decide_eq_true hsz, decide_eq_true v4, decide_eq_true v5]
    simp
  rw [this] at hw
  exact absurd hw (by simp)
end Go.Proofs.Ythjkeefdeeljoaa.Shp
