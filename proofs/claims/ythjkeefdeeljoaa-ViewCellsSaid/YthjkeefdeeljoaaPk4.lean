/- Contracts and lemmas that the row of this claim stands on: Digits, Radix. -/
import Derived.Test.YthjkeefdeeljoaaPlace
/- The digits of a count. -/
namespace Go.Proofs.Ythjkeefdeeljoaa.Shp
open Go.RowKit Go.Proofs.Ythjkeefdeeljoaa.Num
set_option linter.unusedVariables false
set_option linter.unusedSimpArgs false

/-- The i-th digit of a count. -/
def dg (xs : List Int) (p i : Nat) : Nat := p / sp xs i % (nth xs i).toNat
def atL (xs : List Int) (p : Nat) : List Nat := (List.range xs.length).map (dg xs p)
theorem at_step (f : Nat → Nat) (k n : Nat) (h : k < n) : ((List.range k).map f ++ List.replicate (n - k) 0).set k (f k) = (List.range (k + 1)).map f ++ List.replicate (n - (k + 1)) 0 := by
  obtain ⟨m, rfl⟩ : ∃ m, n = k + 1 + m := ⟨n - (k + 1), by omega⟩
  rw [show k + 1 + m - k = m + 1 by omega, show k + 1 + m - (k + 1) = m by omega, List.replicate_succ, List.range_succ]
  rw [List.set_append_right _ _ (by simp)]
  simp
theorem prod_pos_mem (xs : List Int) (h0 : ∀ x ∈ xs, 0 ≤ x) (h : 0 < prod xs) : ∀ x ∈ xs, 1 ≤ x := fun x hx => by
  have := h0 x hx
  rcases Int.lt_or_eq_of_le this with h1 | h1
  · omega
  · rw [← h1] at hx
    rw [prod_zero xs hx] at h
    omega
theorem tl_pos (xs : List Int) : ∀ k, 1 ≤ tl xs k
  | 0 => Nat.le_refl _
  | k + 1 => by
    unfold tl
    split
    · exact Nat.mul_pos (tl_pos xs k) (by unfold mx; omega)
    · exact tl_pos xs k

end Go.Proofs.Ythjkeefdeeljoaa.Shp
/- Counts and places: one has the other. No program in sight. -/
namespace Go.Proofs.Ythjkeefdeeljoaa.Shp
open Go.RowKit Go.Proofs.Ythjkeefdeeljoaa.Num
set_option linter.unusedVariables false

theorem tl_zero (xs : List Int) : tl xs 0 = 1 := rfl
/-- sp of one axis is that of the next times the next axis. -/
theorem sp_step (xs : List Int) (h1 : ∀ x ∈ xs, 1 ≤ x) (i : Nat) (hi : i + 1 < xs.length) : sp xs i = sp xs (i + 1) * (nth xs (i + 1)).toNat := by
  unfold sp
  rw [show xs.length - 1 - i = (xs.length - 1 - (i + 1)) + 1 by omega, tl_step xs _ (by omega), show xs.length - 1 - (xs.length - 1 - (i + 1)) = i + 1 by omega]
  congr 1
  unfold mx
  have := h1 _ (nth_mem xs (i + 1) hi)
  omega
theorem sp_last (xs : List Int) : sp xs (xs.length - 1) = 1 := by unfold sp; rw [Nat.sub_self]; rfl
/-- The whole: the first axis times what it counts for. -/
theorem sp_whole (xs : List Int) (h1 : ∀ x ∈ xs, 1 ≤ x) (h0 : 0 < xs.length) : ((sp xs 0 * (nth xs 0).toNat : Nat) : Int) = prod xs := by
  have h := tl_prod xs h1 xs.length (Nat.le_refl _)
  rw [Nat.sub_self, List.drop_zero] at h
  rw [← h]
  obtain ⟨n, hn⟩ : ∃ n, xs.length = n + 1 := ⟨xs.length - 1, by omega⟩
  rw [hn, tl_step xs n (by omega), hn]
  unfold sp
  rw [hn, show n + 1 - 1 - 0 = n by omega, show n + 1 - 1 - n = 0 by omega]
  congr 2
  unfold mx
  have := h1 _ (nth_mem xs 0 h0)
  omega
/-- The digits of p give p: its part above the i-th axis. -/
theorem dg_sum (xs : List Int) (h1 : ∀ x ∈ xs, 1 ≤ x) (p : Nat) (hp : (p : Int) < prod xs) : ∀ k, k + 1 ≤ xs.length → plc xs ((atL xs p).map fun (x : Nat) => (x : Int)) (k + 1) = ((p / sp xs k * sp xs k : Nat) : Int) := by
  have hn : ∀ i, i < xs.length → nth ((atL xs p).map fun (x : Nat) => (x : Int)) i = (dg xs p i : Int) := fun i hi => by
    rw [nth_eq _ _ (by simp [atL]; exact hi)]
    simp [atL]
  intro k
  induction k with
  | zero =>
    intro hk
    have hw := sp_whole xs h1 hk
    have hlt : p / sp xs 0 < (nth xs 0).toNat := by
      have hpos : 0 < sp xs 0 := tl_pos _ _
      rw [Nat.div_lt_iff_lt_mul hpos, Nat.mul_comm]
      omega
    show plc xs _ 0 + _ = _
    rw [hn 0 hk]
    unfold dg
    rw [Nat.mod_eq_of_lt hlt]
    simp [plc, Int.mul_comm]
  | succ k ih =>
    intro hk
    have e := ih (by omega)
    show plc xs _ (k + 1) + _ = _
    rw [e, hn (k + 1) hk, sp_step xs h1 k hk]
    unfold dg
    have hd := Nat.div_add_mod (p / sp xs (k + 1)) (nth xs (k + 1)).toNat
    rw [Nat.div_div_eq_div_mul] at hd
    generalize sp xs (k + 1) = s at *
    generalize (nth xs (k + 1)).toNat = y at *
    generalize p / s % y = r at *
    generalize p / (s * y) = q at *
    rw [← hd, ← Int.natCast_mul, ← Int.natCast_add]
    congr 1
    rw [Nat.add_mul, Nat.mul_comm y q, Nat.mul_assoc, Nat.mul_comm y s, Nat.mul_comm s r]
theorem plc_at (xs : List Int) (h1 : ∀ x ∈ xs, 1 ≤ x) (p : Nat) (hp : (p : Int) < prod xs) : plc xs ((atL xs p).map fun (x : Nat) => (x : Int)) xs.length = (p : Int) := by
  rcases Nat.eq_zero_or_pos xs.length with h0 | h0
  · have : xs = [] := List.eq_nil_of_length_eq_zero h0
    subst this
    simp [prod] at hp
    obtain rfl : p = 0 := by omega
    rfl
  · have h := dg_sum xs h1 p hp (xs.length - 1) (by omega)
    rw [show xs.length - 1 + 1 = xs.length by omega, sp_last] at h
    rw [h]; simp
/-- What the digits from the k-th one on count. -/
def tsum (xs : List Int) (a : Nat → Nat) : Nat → Nat
  | 0 => 0
  | k + 1 => sp xs (xs.length - 1 - k) * a (xs.length - 1 - k) + tsum xs a k
/-- .. the first k. -/
def psum (xs : List Int) (a : Nat → Nat) : Nat → Nat
  | 0 => 0
  | k + 1 => psum xs a k + sp xs k * a k
theorem psum_tsum (xs : List Int) (a : Nat → Nat) : ∀ k, k ≤ xs.length → psum xs a xs.length = psum xs a (xs.length - k) + tsum xs a k
  | 0, _ => by simp [tsum]
  | k + 1, h => by
    rw [psum_tsum xs a k (by omega), show xs.length - k = (xs.length - 1 - k) + 1 by omega]
    show psum xs a (xs.length - 1 - k) + sp xs (xs.length - 1 - k) * a (xs.length - 1 - k) + tsum xs a k = _
    rw [show xs.length - (k + 1) = xs.length - 1 - k by omega]
    show _ = psum xs a (xs.length - 1 - k) + (sp xs (xs.length - 1 - k) * a (xs.length - 1 - k) + tsum xs a k)
    omega
theorem tsum_lt (xs : List Int) (a : Nat → Nat) (h1 : ∀ x ∈ xs, 1 ≤ x) (ha : ∀ i, i < xs.length → a i < (nth xs i).toNat) : ∀ k, k < xs.length → tsum xs a k < sp xs (xs.length - 1 - k)
  | 0, h => by rw [Nat.sub_zero, sp_last]; exact Nat.one_pos
  | k + 1, h => by
    have ih := tsum_lt xs a h1 ha k (by omega)
    have hs := sp_step xs h1 (xs.length - 1 - (k + 1)) (by omega)
    rw [show xs.length - 1 - (k + 1) + 1 = xs.length - 1 - k by omega] at hs
    have hai := ha (xs.length - 1 - k) (by omega)
    rw [hs]
    show sp xs (xs.length - 1 - k) * a (xs.length - 1 - k) + tsum xs a k < _
    have : sp xs (xs.length - 1 - k) * (a (xs.length - 1 - k) + 1) ≤ sp xs (xs.length - 1 - k) * (nth xs (xs.length - 1 - k)).toNat := Nat.mul_le_mul_left _ hai
    rw [Nat.mul_add, Nat.mul_one] at this
    omega
theorem psum_mul (xs : List Int) (a : Nat → Nat) (h1 : ∀ x ∈ xs, 1 ≤ x) : ∀ k, k < xs.length → ∃ m, psum xs a k = sp xs k * ((nth xs k).toNat * m)
  | 0, _ => ⟨0, by simp [psum]⟩
  | k + 1, h => by
    obtain ⟨m, hm⟩ := psum_mul xs a h1 k (by omega)
    refine ⟨(nth xs k).toNat * m + a k, ?_⟩
    show psum xs a k + sp xs k * a k = _
    rw [hm, ← Nat.mul_assoc (sp xs (k + 1)), ← sp_step xs h1 k h, Nat.mul_add]
/-- Each digit of the count is the place's. -/
theorem dg_psum (xs : List Int) (a : Nat → Nat) (h1 : ∀ x ∈ xs, 1 ≤ x) (ha : ∀ i, i < xs.length → a i < (nth xs i).toNat) (i : Nat) (hi : i < xs.length) : dg xs (psum xs a xs.length) i = a i := by
  have e := psum_tsum xs a (xs.length - 1 - i) (by omega)
  have hlt := tsum_lt xs a h1 ha (xs.length - 1 - i) (by omega)
  rw [show xs.length - 1 - (xs.length - 1 - i) = i by omega] at hlt
  rw [show xs.length - (xs.length - 1 - i) = i + 1 by omega] at e
  obtain ⟨m, hm⟩ := psum_mul xs a h1 i hi
  have e2 : psum xs a (i + 1) = sp xs i * ((nth xs i).toNat * m + a i) := by
    show psum xs a i + sp xs i * a i = _
    rw [hm, Nat.mul_add]
  unfold dg
  rw [e, e2, Nat.mul_add_div (by have := tl_pos xs (xs.length - 1 - i); unfold sp; omega), Nat.div_eq_of_lt hlt, Nat.add_zero, Nat.mul_add_mod, Nat.mod_eq_of_lt (ha i hi)]
theorem plc_psum (xs ps : List Int) (hh : hasB xs ps = true) : ∀ k, k ≤ xs.length → plc xs ps k = (psum xs (fun i => (nth ps i).toNat) k : Int)
  | 0, _ => rfl
  | k + 1, h => by
    have := ((has_mem hh).2.2 k h).1
    show plc xs ps k + (sp xs k : Int) * nth ps k = ((psum xs (fun i => (nth ps i).toNat) k + sp xs k * (nth ps k).toNat : Nat) : Int)
    rw [plc_psum xs ps hh k (by omega), Int.natCast_add, Int.natCast_mul, Int.toNat_of_nonneg this]
/-- A place's count is below the whole, and its digits are the place. -/
theorem at_plc (xs ps : List Int) (hh : hasB xs ps = true) : ∃ p : Nat, plc xs ps xs.length = (p : Int) ∧ (p : Int) < prod xs ∧ ((atL xs p).map fun (x : Nat) => (x : Int)) = ps := by
  obtain ⟨hr, hl, hm⟩ := has_mem hh
  have h1 := has_pos hh
  have ha : ∀ i, i < xs.length → (fun i => (nth ps i).toNat) i < (nth xs i).toNat := fun i hi => by have := hm i hi; show (nth ps i).toNat < _; omega
  refine ⟨_, plc_psum xs ps hh xs.length (Nat.le_refl _), ?_, ?_⟩
  · rcases Nat.eq_zero_or_pos xs.length with h0 | h0
    · have : xs = [] := List.eq_nil_of_length_eq_zero h0
      subst this
      simp [prod, psum]
    · rw [← sp_whole xs h1 h0]
      have e := psum_tsum xs (fun i => (nth ps i).toNat) (xs.length - 1) (by omega)
      have hlt := tsum_lt xs (fun i => (nth ps i).toNat) h1 ha (xs.length - 1) (by omega)
      rw [Nat.sub_self] at hlt
      rw [show xs.length - (xs.length - 1) = 0 + 1 by omega] at e
      have e2 : psum xs (fun i => (nth ps i).toNat) (0 + 1) = sp xs 0 * (nth ps 0).toNat := by simp [psum]
      rw [e2] at e
      have h3 := ha 0 h0
      have : sp xs 0 * ((nth ps 0).toNat + 1) ≤ sp xs 0 * (nth xs 0).toNat := Nat.mul_le_mul_left _ h3
      rw [Nat.mul_add, Nat.mul_one] at this
      omega
  · apply List.ext_getElem
    · simp [atL, hl]
    · intro i h2 h3
      have hi : i < xs.length := by omega
      have hd := dg_psum xs (fun i => (nth ps i).toNat) h1 ha i hi
      simp only [atL, List.map_map, List.getElem_map, List.getElem_range, Function.comp]
      rw [hd]
      have := (hm i hi).1
      rw [Int.toNat_of_nonneg this, nth_eq _ _ h3]
end Go.Proofs.Ythjkeefdeeljoaa.Shp
