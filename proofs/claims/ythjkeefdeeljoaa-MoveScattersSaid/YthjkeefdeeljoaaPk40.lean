/- Where the cells of a view that fits stand. -/
import Derived.Test.YthjkeefdeeljoaaPk30
import Derived.Test.YthjkeefdeeljoaaPk39
namespace Go.Proofs.Ythjkeefdeeljoaa.Shp
open Go.RowKit Go.Proofs.Ythjkeefdeeljoaa.Num
set_option linter.unusedVariables false

theorem dig_step (x y : Int) (d : Nat) (h : (d : Int) ≤ x - 1) : min (max (x - 1) 0 * y) 0 ≤ (d : Int) * y ∧ (d : Int) * y ≤ max (max (x - 1) 0 * y) 0 := by
  rw [show max (x - 1) 0 = x - 1 by omega]
  rcases Int.le_total 0 y with hy | hy
  · have h1 := Int.mul_le_mul_of_nonneg_right h hy
    have h2 : 0 ≤ (d : Int) * y := Int.mul_nonneg (by omega) hy
    omega
  · have h1 := Int.mul_le_mul_of_nonpos_right h hy
    have h2 : (d : Int) * y ≤ 0 := Int.mul_nonpos_of_nonneg_of_nonpos (by omega) hy
    omega
theorem pl_between {xs ys : List Int} {off : Int} (h1 : ∀ i, i < xs.length → 1 ≤ nth xs i) (p : Nat) : ∀ k, k ≤ xs.length → loK xs ys off k ≤ off + dotF (digF xs p) ys k ∧ off + dotF (digF xs p) ys k ≤ hiK xs ys off k
  | 0, _ => by simp [loK, hiK, dotF]
  | k + 1, h => by
    obtain ⟨i1, i2⟩ := pl_between (ys := ys) (off := off) h1 p k (by omega)
    have hx := h1 k (by omega)
    have hd : (digF xs p k : Int) ≤ nth xs k - 1 := by
      have e : digF xs p k = dg xs p k := if_pos (by omega)
      have : dg xs p k < (nth xs k).toNat := Nat.mod_lt _ (by omega)
      omega
    have hs := dig_step (nth xs k) (nth ys k) (digF xs p k) hd
    unfold loK hiK dotF stepI
    generalize max (nth xs k - 1) 0 * nth ys k = s at *
    generalize (digF xs p k : Int) * nth ys k = t at *
    omega
/-- Each cell of a view that fits stands in the row. -/
theorem fits_in {xs ys : List Int} {off : Int} {n : Nat} (hf : fitsB xs ys off n = true) (k : Nat) (hk : k < cellsN xs ys off) : 0 ≤ plO xs ys off k ∧ plO xs ys off k < n := by
  unfold fitsB at hf
  simp only [Bool.and_eq_true, Bool.or_eq_true, decide_eq_true_eq] at hf
  obtain ⟨hv, hf⟩ := hf
  have hp := cellsN_prod hv
  have hz : ¬ 0 ∈ xs := fun h => by rw [prod_zero xs h] at hp; omega
  rcases hf with hf | hf
  · exact absurd hf hz
  · obtain ⟨v6, vm, vx, vy, v0, v9⟩ := vr_each hv
    have hb := pl_between (xs := xs) (ys := ys) (off := off) (fun i hi => by
      have h1 := vx i hi
      have h3 : nth xs i ≠ 0 := fun e => hz (e ▸ nth_mem xs i hi)
      omega) k xs.length (Nat.le_refl _)
    have e : plO xs ys off k = off + dotF (digF xs k) ys xs.length := rfl
    rw [e]
    omega
theorem den_each (xs ys : List Int) (h1 : ∀ x ∈ xs, 1 ≤ x) : ∀ m, m ≤ xs.length → denK xs ys m (tl xs (xs.length - m) : Nat) = true → ∀ i, i < m → nth xs i = 1 ∨ nth ys i = (sp xs i : Nat)
  | 0, _, _, i, hi => by omega
  | m + 1, hm, h, i, hi => by
    unfold denK at h
    simp only [Bool.and_eq_true, Bool.or_eq_true, decide_eq_true_eq] at h
    have hk : xs.length - (m + 1) < xs.length := by omega
    have hx := h1 _ (nth_mem xs m (by omega))
    have e1 := tl_step xs (xs.length - (m + 1)) hk
    rw [show xs.length - (m + 1) + 1 = xs.length - m by omega, show xs.length - 1 - (xs.length - (m + 1)) = m by omega] at e1
    have e2 : ((tl xs (xs.length - (m + 1)) : Nat) : Int) * nth xs m = ((tl xs (xs.length - m) : Nat) : Int) := by
      rw [e1]
      unfold mx
      rw [show max (nth xs m) 1 = nth xs m by omega]
      push_cast
      rw [Int.toNat_of_nonneg (by omega)]
    rw [e2] at h
    by_cases e : i = m
    · subst e
      rcases h.1 with h | h
      · exact .inl h
      · right
        rw [h]
        unfold sp
        rw [show xs.length - 1 - i = xs.length - (i + 1) by omega]
    · exact den_each xs ys h1 m (by omega) h.2 i (by omega)
theorem den_dot (xs ys : List Int) (h1 : ∀ x ∈ xs, 1 ≤ x) (hd : denK xs ys xs.length 1 = true) (p : Nat) : ∀ k, k ≤ xs.length → dotF (digF xs p) ys k = plc xs ((atL xs p).map fun (x : Nat) => (x : Int)) k
  | 0, _ => rfl
  | k + 1, h => by
    have ih := den_dot xs ys h1 hd p k (by omega)
    have hy := den_each xs ys h1 xs.length (Nat.le_refl _) (by rw [Nat.sub_self]; exact hd) k (by omega)
    have e : digF xs p k = dg xs p k := if_pos (by omega)
    have e2 : nth ((atL xs p).map fun (x : Nat) => (x : Int)) k = (dg xs p k : Int) := by
      unfold atL
      rw [nth_eq _ _ (by simp; omega)]
      simp
    unfold dotF plc
    rw [ih, e, e2]
    rcases hy with hy | hy
    · have hz : dg xs p k = 0 := by unfold dg; rw [hy]; simp [Nat.mod_one]
      rw [hz]; simp
    · rw [hy]
      first | rfl | rw [Int.mul_comm]
/-- A dense view's cells stand one behind the other. -/
theorem den_pl {xs ys : List Int} {off : Int} (hv : vrB xs ys off = true) (hd : denB xs ys off = true) (p : Nat) (hp : p < cellsN xs ys off) : plO xs ys off p = off + p := by
  have hpr := cellsN_prod hv
  have hz : ¬ 0 ∈ xs := fun h => by rw [prod_zero xs h] at hpr; omega
  have h1 : ∀ x ∈ xs, 1 ≤ x := fun x hx => by
    have h1 := (vrB_out hv).1
    unfold sizeOk at h1
    simp only [Bool.and_eq_true] at h1
    have := (rightB_mem h1.1).2 x hx
    have h3 : x ≠ 0 := fun e => hz (e ▸ hx)
    omega
  unfold denB at hd
  rw [hv, decide_eq_false hz] at hd
  simp only [Bool.true_and, Bool.false_or] at hd
  have := plc_at xs h1 p (by omega)
  unfold plO
  rw [den_dot xs ys h1 hd p xs.length (Nat.le_refl _), this]
end Go.Proofs.Ythjkeefdeeljoaa.Shp
