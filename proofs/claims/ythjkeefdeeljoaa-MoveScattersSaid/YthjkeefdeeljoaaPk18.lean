/- Contracts and lemmas that the row of this claim stands on: Digits, Radix, OdoPure. -/
import Derived.Test.YthjkeefdeeljoaaPk17
/- The digits of a count. -/
namespace Go.Proofs.Ythjkeefdeeljoaa.Shp
open Go.RowKit Go.Proofs.Ythjkeefdeeljoaa.Num
set_option linter.unusedVariables false
set_option linter.unusedSimpArgs false

/-- The i-th digit of a count. -/
def dg (xs : List Int) (p i : Nat) : Nat := p / sp xs i % (nth xs i).toNat
def atL (xs : List Int) (p : Nat) : List Nat := (List.range xs.length).map (dg xs p)
theorem at_step (f : Nat → Nat) (k n : Nat) (h : k < n) : ((List.range k).map f ++ List.replicate (n - k) 0).set k (f k) = (List.range (k + 1)).map f ++ List.replicate (n - (k + 1)) 0 := by
  obtain ⟨m, rfl⟩ : ∃ m, n = k + 1 + m := ⟨n - (k + 1), by omega⟩
  rw [show k + 1 + m - k = m + 1 by omega, show k + 1 + m - (k + 1) = m by omega, List.replicate_succ, List.range_succ]
  rw [List.set_append_right _ _ (by simp)]
  simp
theorem prod_pos_mem (xs : List Int) (h0 : ∀ x ∈ xs, 0 ≤ x) (h : 0 < prod xs) : ∀ x ∈ xs, 1 ≤ x := fun x hx => by
  have := h0 x hx
  rcases Int.lt_or_eq_of_le this with h1 | h1
  · omega
  · rw [← h1] at hx
    rw [prod_zero xs hx] at h
    omega
theorem tl_pos (xs : List Int) : ∀ k, 1 ≤ tl xs k
  | 0 => Nat.le_refl _
  | k + 1 => by
    unfold tl
    split
    · exact Nat.mul_pos (tl_pos xs k) (by unfold mx; omega)
    · exact tl_pos xs k

end Go.Proofs.Ythjkeefdeeljoaa.Shp
/- Counts and places: one has the other. No program in sight. -/
namespace Go.Proofs.Ythjkeefdeeljoaa.Shp
open Go.RowKit Go.Proofs.Ythjkeefdeeljoaa.Num
set_option linter.unusedVariables false

theorem tl_zero (xs : List Int) : tl xs 0 = 1 := rfl
/-- sp of one axis is that of the next times the next axis. -/
theorem sp_step (xs : List Int) (h1 : ∀ x ∈ xs, 1 ≤ x) (i : Nat) (hi : i + 1 < xs.length) : sp xs i = sp xs (i + 1) * (nth xs (i + 1)).toNat := by
  unfold sp
  rw [show xs.length - 1 - i = (xs.length - 1 - (i + 1)) + 1 by omega, tl_step xs _ (by omega), show xs.length - 1 - (xs.length - 1 - (i + 1)) = i + 1 by omega]
  congr 1
  unfold mx
  have := h1 _ (nth_mem xs (i + 1) hi)
  omega
theorem sp_last (xs : List Int) : sp xs (xs.length - 1) = 1 := by unfold sp; rw [Nat.sub_self]; rfl
/-- The whole: the first axis times what it counts for. -/
theorem sp_whole (xs : List Int) (h1 : ∀ x ∈ xs, 1 ≤ x) (h0 : 0 < xs.length) : ((sp xs 0 * (nth xs 0).toNat : Nat) : Int) = prod xs := by
  have h := tl_prod xs h1 xs.length (Nat.le_refl _)
  rw [Nat.sub_self, List.drop_zero] at h
  rw [← h]
  obtain ⟨n, hn⟩ : ∃ n, xs.length = n + 1 := ⟨xs.length - 1, by omega⟩
  rw [hn, tl_step xs n (by omega), hn]
  unfold sp
  rw [hn, show n + 1 - 1 - 0 = n by omega, show n + 1 - 1 - n = 0 by omega]
  congr 2
  unfold mx
  have := h1 _ (nth_mem xs 0 h0)
  omega
/-- The digits of p give p: its part above the i-th axis. -/
theorem dg_sum (xs : List Int) (h1 : ∀ x ∈ xs, 1 ≤ x) (p : Nat) (hp : (p : Int) < prod xs) : ∀ k, k + 1 ≤ xs.length → plc xs ((atL xs p).map fun (x : Nat) => (x : Int)) (k + 1) = ((p / sp xs k * sp xs k : Nat) : Int) := by
  have hn : ∀ i, i < xs.length → nth ((atL xs p).map fun (x : Nat) => (x : Int)) i = (dg xs p i : Int) := fun i hi => by
    rw [nth_eq _ _ (by simp [atL]; exact hi)]
    simp [atL]
  intro k
  induction k with
  | zero =>
    intro hk
    have hw := sp_whole xs h1 hk
    have hlt : p / sp xs 0 < (nth xs 0).toNat := by
      have hpos : 0 < sp xs 0 := tl_pos _ _
      rw [Nat.div_lt_iff_lt_mul hpos, Nat.mul_comm]
      omega
    show plc xs _ 0 + _ = _
    rw [hn 0 hk]
    unfold dg
    rw [Nat.mod_eq_of_lt hlt]
    simp [plc, Int.mul_comm]
  | succ k ih =>
    intro hk
    have e := ih (by omega)
    show plc xs _ (k + 1) + _ = _
    rw [e, hn (k + 1) hk, sp_step xs h1 k hk]
    unfold dg
    have hd := Nat.div_add_mod (p / sp xs (k + 1)) (nth xs (k + 1)).toNat
    rw [Nat.div_div_eq_div_mul] at hd
    generalize sp xs (k + 1) = s at *
    generalize (nth xs (k + 1)).toNat = y at *
    generalize p / s % y = r at *
    generalize p / (s * y) = q at *
    rw [← hd, ← Int.natCast_mul, ← Int.natCast_add]
    congr 1
    rw [Nat.add_mul, Nat.mul_comm y q, Nat.mul_assoc, Nat.mul_comm y s, Nat.mul_comm s r]
theorem plc_at (xs : List Int) (h1 : ∀ x ∈ xs, 1 ≤ x) (p : Nat) (hp : (p : Int) < prod xs) : plc xs ((atL xs p).map fun (x : Nat) => (x : Int)) xs.length = (p : Int) := by
  rcases Nat.eq_zero_or_pos xs.length with h0 | h0
  · have : xs = [] := List.eq_nil_of_length_eq_zero h0
    subst this
    simp [prod] at hp
    obtain rfl : p = 0 := by omega
    rfl
  · have h := dg_sum xs h1 p hp (xs.length - 1) (by omega)
    rw [show xs.length - 1 + 1 = xs.length by omega, sp_last] at h
    rw [h]; simp
/-- What the digits from the k-th one on count. -/
def tsum (xs : List Int) (a : Nat → Nat) : Nat → Nat
  | 0 => 0
  | k + 1 => sp xs (xs.length - 1 - k) * a (xs.length - 1 - k) + tsum xs a k
/-- .. the first k. -/
def psum (xs : List Int) (a : Nat → Nat) : Nat → Nat
  | 0 => 0
  | k + 1 => psum xs a k + sp xs k * a k
theorem psum_tsum (xs : List Int) (a : Nat → Nat) : ∀ k, k ≤ xs.length → psum xs a xs.length = psum xs a (xs.length - k) + tsum xs a k
  | 0, _ => by simp [tsum]
  | k + 1, h => by
    rw [psum_tsum xs a k (by omega), show xs.length - k = (xs.length - 1 - k) + 1 by omega]
    show psum xs a (xs.length - 1 - k) + sp xs (xs.length - 1 - k) * a (xs.length - 1 - k) + tsum xs a k = _
    rw [show xs.length - (k + 1) = xs.length - 1 - k by omega]
    show _ = psum xs a (xs.length - 1 - k) + (sp xs (xs.length - 1 - k) * a (xs.length - 1 - k) + tsum xs a k)
    omega
theorem tsum_lt (xs : List Int) (a : Nat → Nat) (h1 : ∀ x ∈ xs, 1 ≤ x) (ha : ∀ i, i < xs.length → a i < (nth xs i).toNat) : ∀ k, k < xs.length → tsum xs a k < sp xs (xs.length - 1 - k)
  | 0, h => by rw [Nat.sub_zero, sp_last]; exact Nat.one_pos
  | k + 1, h => by
    have ih := tsum_lt xs a h1 ha k (by omega)
    have hs := sp_step xs h1 (xs.length - 1 - (k + 1)) (by omega)
    rw [show xs.length - 1 - (k + 1) + 1 = xs.length - 1 - k by omega] at hs
    have hai := ha (xs.length - 1 - k) (by omega)
    rw [hs]
    show sp xs (xs.length - 1 - k) * a (xs.length - 1 - k) + tsum xs a k < _
    have : sp xs (xs.length - 1 - k) * (a (xs.length - 1 - k) + 1) ≤ sp xs (xs.length - 1 - k) * (nth xs (xs.length - 1 - k)).toNat := Nat.mul_le_mul_left _ hai
    rw [Nat.mul_add, Nat.mul_one] at this
    omega
theorem psum_mul (xs : List Int) (a : Nat → Nat) (h1 : ∀ x ∈ xs, 1 ≤ x) : ∀ k, k < xs.length → ∃ m, psum xs a k = sp xs k * ((nth xs k).toNat * m)
  | 0, _ => ⟨0, by simp [psum]⟩
  | k + 1, h => by
    obtain ⟨m, hm⟩ := psum_mul xs a h1 k (by omega)
    refine ⟨(nth xs k).toNat * m + a k, ?_⟩
    show psum xs a k + sp xs k * a k = _
    rw [hm, ← Nat.mul_assoc (sp xs (k + 1)), ← sp_step xs h1 k h, Nat.mul_add]
/-- Each digit of the count is the place's. -/
theorem dg_psum (xs : List Int) (a : Nat → Nat) (h1 : ∀ x ∈ xs, 1 ≤ x) (ha : ∀ i, i < xs.length → a i < (nth xs i).toNat) (i : Nat) (hi : i < xs.length) : dg xs (psum xs a xs.length) i = a i := by
  have e := psum_tsum xs a (xs.length - 1 - i) (by omega)
  have hlt := tsum_lt xs a h1 ha (xs.length - 1 - i) (by omega)
  rw [show xs.length - 1 - (xs.length - 1 - i) = i by omega] at hlt
  rw [show xs.length - (xs.length - 1 - i) = i + 1 by omega] at e
  obtain ⟨m, hm⟩ := psum_mul xs a h1 i hi
  have e2 : psum xs a (i + 1) = sp xs i * ((nth xs i).toNat * m + a i) := by
    show psum xs a i + sp xs i * a i = _
    rw [hm, Nat.mul_add]
  unfold dg
  rw [e, e2, Nat.mul_add_div (by have := tl_pos xs (xs.length - 1 - i); unfold sp; omega), Nat.div_eq_of_lt hlt, Nat.add_zero, Nat.mul_add_mod, Nat.mod_eq_of_lt (ha i hi)]
theorem plc_psum (xs ps : List Int) (hh : hasB xs ps = true) : ∀ k, k ≤ xs.length → plc xs ps k = (psum xs (fun i => (nth ps i).toNat) k : Int)
  | 0, _ => rfl
  | k + 1, h => by
    have := ((has_mem hh).2.2 k h).1
    show plc xs ps k + (sp xs k : Int) * nth ps k = ((psum xs (fun i => (nth ps i).toNat) k + sp xs k * (nth ps k).toNat : Nat) : Int)
    rw [plc_psum xs ps hh k (by omega), Int.natCast_add, Int.natCast_mul, Int.toNat_of_nonneg this]
/-- A place's count is below the whole, and its digits are the place. -/
theorem at_plc (xs ps : List Int) (hh : hasB xs ps = true) : ∃ p : Nat, plc xs ps xs.length = (p : Int) ∧ (p : Int) < prod xs ∧ ((atL xs p).map fun (x : Nat) => (x : Int)) = ps := by
  obtain ⟨hr, hl, hm⟩ := has_mem hh
  have h1 := has_pos hh
  have ha : ∀ i, i < xs.length → (fun i => (nth ps i).toNat) i < (nth xs i).toNat := fun i hi => by have := hm i hi; show (nth ps i).toNat < _; omega
  refine ⟨_, plc_psum xs ps hh xs.length (Nat.le_refl _), ?_, ?_⟩
  · rcases Nat.eq_zero_or_pos xs.length with h0 | h0
    · have : xs = [] := List.eq_nil_of_length_eq_zero h0
      subst this
      simp [prod, psum]
    · rw [← sp_whole xs h1 h0]
      have e := psum_tsum xs (fun i => (nth ps i).toNat) (xs.length - 1) (by omega)
      have hlt := tsum_lt xs (fun i => (nth ps i).toNat) h1 ha (xs.length - 1) (by omega)
      rw [Nat.sub_self] at hlt
      rw [show xs.length - (xs.length - 1) = 0 + 1 by omega] at e
      have e2 : psum xs (fun i => (nth ps i).toNat) (0 + 1) = sp xs 0 * (nth ps 0).toNat := by simp [psum]
      rw [e2] at e
      have h3 := ha 0 h0
      have : sp xs 0 * ((nth ps 0).toNat + 1) ≤ sp xs 0 * (nth xs 0).toNat := Nat.mul_le_mul_left _ h3
      rw [Nat.mul_add, Nat.mul_one] at this
      omega
  · apply List.ext_getElem
    · simp [atL, hl]
    · intro i h2 h3
      have hi : i < xs.length := by omega
      have hd := dg_psum xs (fun i => (nth ps i).toNat) h1 ha i hi
      simp only [atL, List.map_map, List.getElem_map, List.getElem_range, Function.comp]
      rw [hd]
      have := (hm i hi).1
      rw [Int.toNat_of_nonneg this, nth_eq _ _ h3]
end Go.Proofs.Ythjkeefdeeljoaa.Shp
/- The odometer: its digits go on. No program in sight. -/
namespace Go.Proofs.Ythjkeefdeeljoaa.Shp
open Go.RowKit Go.Proofs.Ythjkeefdeeljoaa.Num
set_option linter.unusedVariables false

/-- What digits count, the first k of them. -/
def dotF (D : Nat → Nat) (ys : List Int) : Nat → Int
  | 0 => 0
  | k + 1 => dotF D ys k + (D k : Int) * nth ys k
theorem dotF_congr {D E : Nat → Nat} (ys : List Int) : ∀ k, (∀ i, i < k → D i = E i) → dotF D ys k = dotF E ys k
  | 0, _ => rfl
  | k + 1, h => by unfold dotF; rw [dotF_congr ys k (fun i hi => h i (by omega)), h k (by omega)]
def upd (D : Nat → Nat) (i v : Nat) : Nat → Nat := fun j => if j = i then v else D j
abbrev OS := (Nat → Nat) × Int
/-- One axis goes on, and is through. -/
def contO (xs ys : List Int) (s : OS) (i : Nat) : Option OS := if s.1 i + 1 < (nth xs i).toNat then none else some (upd s.1 i 0, s.2 + nth ys i - ((s.1 i + 1 : Nat) : Int) * nth ys i)
def foldO (xs ys : List Int) (s : OS) (pre : List (Fin xs.length)) : Option OS := pre.foldl (fun s x => s.bind fun s => contO xs ys s x.1) (some s)
theorem foldO_snoc (xs ys : List Int) (s : OS) (pre : List (Fin xs.length)) (x : Fin xs.length) : foldO xs ys s (pre ++ [x]) = (foldO xs ys s pre).bind fun t => contO xs ys t x.1 := by simp [foldO]
/-- Digits within their axes, and a place not too far. -/
structure BdO (xs : List Int) (s : OS) (k : Nat) : Prop where
  dig : ∀ i, i < xs.length → s.1 i + 1 ≤ (nth xs i).toNat
  lo : -(17592186044416 + (k : Int) * 4398046511104) ≤ s.2
  hi : s.2 ≤ 17592186044416 + (k : Int) * 4398046511104
theorem mul_bd {a y : Int} (h0 : 0 ≤ a) (h1 : a ≤ 1048576) (h2 : -1048576 ≤ y) (h3 : y ≤ 1048576) : -1099511627776 ≤ a * y ∧ a * y ≤ 1099511627776 := by
  have e1 : a * y ≤ a * 1048576 := Int.mul_le_mul_of_nonneg_left h3 h0
  have e2 : a * (-1048576) ≤ a * y := Int.mul_le_mul_of_nonneg_left h2 h0
  omega
theorem BdO.cont {xs ys : List Int} {s t : OS} {k i : Nat} (h : BdO xs s k) (hc : contO xs ys s i = some t) (hx : ∀ j, j < xs.length → 1 ≤ nth xs j ∧ nth xs j ≤ 1048576) (hy : ∀ j, j < xs.length → -1048576 ≤ nth ys j ∧ nth ys j ≤ 1048576) (hi : i < xs.length) : BdO xs t (k + 1) := by
  unfold contO at hc
  split at hc
  · cases hc
  · injection hc with hc
    subst hc
    have h1 := hx i hi
    have h2 := hy i hi
    have h3 := h.dig i hi
    have h4 := mul_bd (a := ((s.1 i + 1 : Nat) : Int)) (by omega) (by omega) h2.1 h2.2
    refine ⟨fun j hj => ?_, ?_, ?_⟩
    · show upd s.1 i 0 j + 1 ≤ _
      unfold upd
      split
      · have := hx j hj; omega
      · exact h.dig j hj
    · have := h.lo; show _ ≤ s.2 + nth ys i - _; omega
    · have := h.hi; show s.2 + nth ys i - _ ≤ _; omega

def digF (xs : List Int) (p : Nat) : Nat → Nat := fun i => if i < xs.length then dg xs p i else 0
/-- The last j axes are through. -/
def dgC (xs : List Int) (p j : Nat) : Nat → Nat := fun i => if i < xs.length - j then dg xs p i else 0
/-- Where the p-th cell stands. -/
def plO (xs ys : List Int) (off : Int) (p : Nat) : Int := off + dotF (digF xs p) ys xs.length
theorem dgC_zero (xs : List Int) (p : Nat) : dgC xs p 0 = digF xs p := rfl
theorem carried (xs ys : List Int) (h1 : ∀ x ∈ xs, 1 ≤ x) (off : Int) (p : Nat) : ∀ j, j ≤ xs.length → ∀ t, foldO xs ys (digF xs p, plO xs ys off p) (downs xs.length j) = some t →
    t = (dgC xs p j, off + dotF (digF xs p) ys (xs.length - j)) ∧ ∀ i, xs.length - j ≤ i → i < xs.length → dg xs p i + 1 = (nth xs i).toNat := by
  intro j
  induction j with
  | zero =>
    intro _ t ht
    simp only [downs, foldO, List.foldl_nil, Option.some.injEq] at ht
    subst ht
    exact ⟨rfl, fun i h2 h3 => by omega⟩
  | succ j ih =>
    intro hj t ht
    have e : downs xs.length (j + 1) = downs xs.length j ++ [⟨xs.length - 1 - j, by omega⟩] := by conv => lhs; unfold downs; rw [dif_pos (by omega)]
    rw [e, foldO_snoc] at ht
    cases hs : foldO xs ys (digF xs p, plO xs ys off p) (downs xs.length j) with
    | none => rw [hs] at ht; cases ht
    | some s =>
      obtain ⟨hs1, hs2⟩ := ih (by omega) s hs
      rw [hs, Option.bind_some] at ht
      subst hs1
      obtain ⟨i, hi⟩ : ∃ i, i = xs.length - 1 - j := ⟨_, rfl⟩
      have hin : i < xs.length := by omega
      have hd : dgC xs p j i = dg xs p i := if_pos (by omega)
      have hdl : dg xs p i < (nth xs i).toNat := Nat.mod_lt _ (by have := h1 _ (nth_mem xs i hin); omega)
      unfold contO at ht
      simp only [← hi, hd] at ht
      split at ht
      · cases ht
      · rename_i hge
        injection ht with ht
        refine ⟨?_, fun i' h2 h3 => ?_⟩
        · rw [← ht]
          refine Prod.ext ?_ ?_
          · funext i'
            show upd (dgC xs p j) i 0 i' = dgC xs p (j + 1) i'
            unfold upd dgC
            by_cases h4 : i' = i
            · rw [if_pos h4, if_neg (by omega)]
            · rw [if_neg h4]
              by_cases h5 : i' < xs.length - j
              · rw [if_pos h5, if_pos (by omega)]
              · rw [if_neg h5, if_neg (by omega)]
          · show off + dotF (digF xs p) ys (xs.length - j) + nth ys i - ((dg xs p i + 1 : Nat) : Int) * nth ys i = off + dotF (digF xs p) ys (xs.length - (j + 1))
            rw [show xs.length - j = i + 1 by omega, show xs.length - (j + 1) = i by omega]
            have e2 : digF xs p i = dg xs p i := if_pos hin
            show off + (dotF (digF xs p) ys i + (digF xs p i : Int) * nth ys i) + nth ys i - _ = _
            rw [e2, Int.natCast_add, Int.add_mul]
            omega
        · by_cases h4 : i' = i
          · subst h4; omega
          · exact hs2 i' (by omega) h3
theorem div_hit {p s m : Nat} (hs : 1 ≤ s) (h : p + 1 = s * m) : ∃ m', m = m' + 1 ∧ p / s = m' ∧ (p + 1) / s = m' + 1 := by
  cases m with
  | zero => simp at h
  | succ m' =>
    refine ⟨m', rfl, ?_, ?_⟩
    · rw [Nat.mul_succ] at h
      refine Nat.div_eq_of_lt_le ?_ ?_
      · rw [Nat.mul_comm]; omega
      · rw [Nat.succ_mul, Nat.mul_comm]; omega
    · rw [h]; exact Nat.mul_div_cancel_left _ (by omega)
theorem div_miss {p s : Nat} (hs : 1 ≤ s) (h : ¬ s ∣ p + 1) : (p + 1) / s = p / s := by
  have h1 := Nat.div_add_mod p s
  have h2 : p % s < s := Nat.mod_lt _ (by omega)
  have h3 : p % s + 1 ≠ s := fun e => h ⟨p / s + 1, by rw [Nat.mul_add, Nat.mul_one]; omega⟩
  refine Nat.div_eq_of_lt_le ?_ ?_
  · rw [Nat.mul_comm]; omega
  · rw [Nat.succ_mul, Nat.mul_comm]; omega
theorem mod_up {a x : Nat} (h : a % x + 1 < x) : (a + 1) % x = a % x + 1 := by
  conv => lhs; rw [← Nat.div_add_mod a x, Nat.add_assoc, Nat.mul_add_mod]
  exact Nat.mod_eq_of_lt h
theorem mod_through {a x : Nat} (h : a % x + 1 = x) : (a + 1) % x = 0 := by
  conv => lhs; rw [← Nat.div_add_mod a x, Nat.add_assoc, Nat.mul_add_mod, h]
  exact Nat.mod_self x
theorem sp_dvd (xs : List Int) (h1 : ∀ x ∈ xs, 1 ≤ x) (p : Nat) : ∀ j, j < xs.length → (∀ i, xs.length - j ≤ i → i < xs.length → dg xs p i + 1 = (nth xs i).toNat) → sp xs (xs.length - 1 - j) ∣ p + 1
  | 0, _, _ => by rw [Nat.sub_zero, sp_last]; exact Nat.one_dvd _
  | j + 1, h, hc => by
    obtain ⟨m, hm⟩ := sp_dvd xs h1 p j (by omega) (fun i h2 h3 => hc i (by omega) h3)
    obtain ⟨m', rfl, e1, e2⟩ := div_hit (tl_pos xs _) hm
    have h2 := hc (xs.length - 1 - j) (by omega) (by omega)
    unfold dg at h2
    have e1' : p / sp xs (xs.length - 1 - j) = m' := e1
    rw [e1'] at h2
    have h3 := mod_through h2
    have hs := sp_step xs h1 (xs.length - 1 - (j + 1)) (by omega)
    rw [show xs.length - 1 - (j + 1) + 1 = xs.length - 1 - j by omega] at hs
    rw [hs, hm]
    exact Nat.mul_dvd_mul_left _ (Nat.dvd_of_mod_eq_zero h3)
theorem sp_chain (xs : List Int) (h1 : ∀ x ∈ xs, 1 ≤ x) (i : Nat) (hi : i < xs.length) : ∀ d i', i' + d + 1 = i → sp xs i * (nth xs i).toNat ∣ sp xs i'
  | 0, i', h => by
    have := sp_step xs h1 i' (by omega)
    rw [this, show i' + 1 = i by omega]
    exact Nat.dvd_refl _
  | d + 1, i', h => by
    have := sp_step xs h1 i' (by omega)
    rw [this]
    exact Nat.dvd_trans (sp_chain xs h1 i hi d (i' + 1) (by omega)) (Nat.dvd_mul_right _ _)
/-- Where the turning stops. -/
theorem turn_stop (xs : List Int) (h1 : ∀ x ∈ xs, 1 ≤ x) (p j : Nat) (hj : j < xs.length) (hc : ∀ i, xs.length - j ≤ i → i < xs.length → dg xs p i + 1 = (nth xs i).toNat) (hlt : dg xs p (xs.length - 1 - j) + 1 < (nth xs (xs.length - 1 - j)).toNat) :
    dg xs (p + 1) (xs.length - 1 - j) = dg xs p (xs.length - 1 - j) + 1 ∧ (∀ i, xs.length - 1 - j < i → i < xs.length → dg xs (p + 1) i = 0) ∧ (∀ i, i < xs.length - 1 - j → dg xs (p + 1) i = dg xs p i) := by
  obtain ⟨m, hm⟩ := sp_dvd xs h1 p j hj hc
  obtain ⟨m', rfl, e1, e2⟩ := div_hit (tl_pos xs _) hm
  have e1' : p / sp xs (xs.length - 1 - j) = m' := e1
  have e2' : (p + 1) / sp xs (xs.length - 1 - j) = m' + 1 := e2
  have hlt' := hlt
  unfold dg at hlt'
  rw [e1'] at hlt'
  refine ⟨?_, fun i h2 h3 => ?_, fun i h2 => ?_⟩
  · unfold dg
    rw [e1', e2']
    exact mod_up hlt'
  · have h4 := sp_dvd xs h1 p (xs.length - 1 - i) (by omega) (fun i' h5 h6 => hc i' (by omega) h6)
    rw [show xs.length - 1 - (xs.length - 1 - i) = i by omega] at h4
    obtain ⟨k, hk⟩ := h4
    obtain ⟨k', rfl, f1, f2⟩ := div_hit (tl_pos xs _) hk
    have f1' : p / sp xs i = k' := f1
    have f2' : (p + 1) / sp xs i = k' + 1 := f2
    have h5 := hc i (by omega) h3
    unfold dg at h5 ⊢
    rw [f1'] at h5
    rw [f2']
    exact mod_through h5
  · have hno : ¬ sp xs i ∣ p + 1 := fun hd => by
      have h3 := Nat.dvd_trans (sp_chain xs h1 (xs.length - 1 - j) (by omega) (xs.length - 1 - j - i - 1) i (by omega)) hd
      rw [hm] at h3
      have h4 := Nat.dvd_of_mul_dvd_mul_left (tl_pos xs _) h3
      have h5 := mod_up hlt'
      have h6 := Nat.mod_eq_zero_of_dvd h4
      omega
    have h3 : (p + 1) / sp xs i = p / sp xs i := div_miss (tl_pos xs _) hno
    unfold dg
    rw [h3]
theorem turn_digits (xs ys : List Int) (h1 : ∀ x ∈ xs, 1 ≤ x) (off : Int) (p j : Nat) (hj : j < xs.length) (hc : ∀ i, xs.length - j ≤ i → i < xs.length → dg xs p i + 1 = (nth xs i).toNat) (hlt : dg xs p (xs.length - 1 - j) + 1 < (nth xs (xs.length - 1 - j)).toNat) :
    upd (dgC xs p j) (xs.length - 1 - j) (dg xs p (xs.length - 1 - j) + 1) = digF xs (p + 1) ∧ off + dotF (digF xs p) ys (xs.length - j) + nth ys (xs.length - 1 - j) = plO xs ys off (p + 1) := by
  obtain ⟨t1, t2, t3⟩ := turn_stop xs h1 p j hj hc hlt
  have hD : upd (dgC xs p j) (xs.length - 1 - j) (dg xs p (xs.length - 1 - j) + 1) = digF xs (p + 1) := by
    funext i
    unfold upd dgC digF
    by_cases h4 : i = xs.length - 1 - j
    · rw [if_pos h4, if_pos (by omega), h4, t1]
    · rw [if_neg h4]
      by_cases h5 : i < xs.length - 1 - j
      · rw [if_pos (by omega), if_pos (by omega), t3 i h5]
      · rw [if_neg (by omega)]
        by_cases h6 : i < xs.length
        · rw [if_pos h6, t2 i (by omega) h6]
        · rw [if_neg h6]
  refine ⟨hD, ?_⟩
  obtain ⟨i, hi⟩ : ∃ i, i = xs.length - 1 - j := ⟨_, rfl⟩
  have hz : ∀ d, i + 1 + d ≤ xs.length → dotF (digF xs (p + 1)) ys (i + 1 + d) = dotF (digF xs (p + 1)) ys (i + 1) := by
    intro d
    induction d with
    | zero => intro _; rfl
    | succ d ih =>
      intro hd
      have e : digF xs (p + 1) (i + 1 + d) = 0 := by unfold digF; rw [if_pos (by omega)]; exact t2 _ (by omega) (by omega)
      show dotF (digF xs (p + 1)) ys (i + 1 + d) + (digF xs (p + 1) (i + 1 + d) : Int) * _ = _
      rw [e, ih (by omega)]
      simp
  unfold plO
  have h7 := hz (xs.length - (i + 1)) (by omega)
  rw [show i + 1 + (xs.length - (i + 1)) = xs.length by omega] at h7
  rw [h7, ← hi, show xs.length - j = i + 1 by omega]
  have e3 : dotF (digF xs (p + 1)) ys i = dotF (digF xs p) ys i := dotF_congr ys i (fun i' hi' => by
    unfold digF
    rw [if_pos (by omega), if_pos (by omega)]
    exact t3 i' (by omega))
  have e4 : digF xs (p + 1) i = digF xs p i + 1 := by
    unfold digF
    rw [if_pos (by omega), if_pos (by omega), hi]
    exact t1
  show off + (dotF (digF xs p) ys i + (digF xs p i : Int) * nth ys i) + nth ys i = off + (dotF (digF xs (p + 1)) ys i + (digF xs (p + 1) i : Int) * nth ys i)
  rw [e3, e4, Int.natCast_add, Int.add_mul]
  omega
/-- Not all axes are through, as long as there is a next one. -/
theorem not_all (xs ys : List Int) (h1 : ∀ x ∈ xs, 1 ≤ x) (p : Nat) (hp : ((p + 1 : Nat) : Int) < prod xs) (hc : ∀ i, 0 ≤ i → i < xs.length → dg xs p i + 1 = (nth xs i).toNat) : False := by
  rcases Nat.eq_zero_or_pos xs.length with h0 | h0
  · have : xs = [] := List.eq_nil_of_length_eq_zero h0
    subst this
    simp [prod] at hp
    omega
  · have hw := sp_whole xs h1 h0
    obtain ⟨m, hm⟩ := sp_dvd xs h1 p (xs.length - 1) (by omega) (fun i _ h3 => hc i (by omega) h3)
    rw [show xs.length - 1 - (xs.length - 1) = 0 by omega] at hm
    obtain ⟨m', rfl, e1, e2⟩ := div_hit (tl_pos xs _) hm
    have e1' : p / sp xs 0 = m' := e1
    have h2 := hc 0 (by omega) h0
    unfold dg at h2
    rw [e1'] at h2
    have h3 := Nat.mul_dvd_mul_left (sp xs 0) (Nat.dvd_of_mod_eq_zero (mod_through h2))
    rw [← hm] at h3
    have h4 := Nat.le_of_dvd (by omega) h3
    omega
end Go.Proofs.Ythjkeefdeeljoaa.Shp
