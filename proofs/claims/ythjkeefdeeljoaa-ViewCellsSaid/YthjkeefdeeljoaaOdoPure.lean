/- The odometer: its digits go on. No program in sight. -/
import Derived.Test.YthjkeefdeeljoaaPk4
namespace Go.Proofs.Ythjkeefdeeljoaa.Shp
open Go.RowKit Go.Proofs.Ythjkeefdeeljoaa.Num
set_option linter.unusedVariables false

/-- What digits count, the first k of them. -/
def dotF (D : Nat → Nat) (ys : List Int) : Nat → Int
  | 0 => 0
  | k + 1 => dotF D ys k + (D k : Int) * nth ys k
theorem dotF_congr {D E : Nat → Nat} (ys : List Int) : ∀ k, (∀ i, i < k → D i = E i) → dotF D ys k = dotF E ys k
  | 0, _ => rfl
  | k + 1, h => by unfold dotF; rw [dotF_congr ys k (fun i hi => h i (by omega)), h k (by omega)]
def upd (D : Nat → Nat) (i v : Nat) : Nat → Nat := fun j => if j = i then v else D j
abbrev OS := (Nat → Nat) × Int
/-- One axis goes on, and is through. -/
def contO (xs ys : List Int) (s : OS) (i : Nat) : Option OS := if s.1 i + 1 < (nth xs i).toNat then none else some (upd s.1 i 0, s.2 + nth ys i - ((s.1 i + 1 : Nat) : Int) * nth ys i)
def foldO (xs ys : List Int) (s : OS) (pre : List (Fin xs.length)) : Option OS := pre.foldl (fun s x => s.bind fun s => contO xs ys s x.1) (some s)
theorem foldO_snoc (xs ys : List Int) (s : OS) (pre : List (Fin xs.length)) (x : Fin xs.length) : foldO xs ys s (pre ++ [x]) = (foldO xs ys s pre).bind fun t => contO xs ys t x.1 := by simp [foldO]
/-- Digits within their axes, and a place not too far. -/
structure BdO (xs : List Int) (s : OS) (k : Nat) : Prop where
  dig : ∀ i, i < xs.length → s.1 i + 1 ≤ (nth xs i).toNat
  lo : -(17592186044416 + (k : Int) * 4398046511104) ≤ s.2
  hi : s.2 ≤ 17592186044416 + (k : Int) * 4398046511104
theorem mul_bd {a y : Int} (h0 : 0 ≤ a) (h1 : a ≤ 1048576) (h2 : -1048576 ≤ y) (h3 : y ≤ 1048576) : -1099511627776 ≤ a * y ∧ a * y ≤ 1099511627776 := by
  have e1 : a * y ≤ a * 1048576 := Int.mul_le_mul_of_nonneg_left h3 h0
  have e2 : a * (-1048576) ≤ a * y := Int.mul_le_mul_of_nonneg_left h2 h0
  omega
theorem BdO.cont {xs ys : List Int} {s t : OS} {k i : Nat} (h : BdO xs s k) (hc : contO xs ys s i = some t) (hx : ∀ j, j < xs.length → 1 ≤ nth xs j ∧ nth xs j ≤ 1048576) (hy : ∀ j, j < xs.length → -1048576 ≤ nth ys j ∧ nth ys j ≤ 1048576) (hi : i < xs.length) : BdO xs t (k + 1) := by
  unfold contO at hc
  split at hc
  · cases hc
  · injection hc with hc
    subst hc
    have h1 := hx i hi
    have h2 := hy i hi
    have h3 := h.dig i hi
    have h4 := mul_bd (a := ((s.1 i + 1 : Nat) : Int)) (by omega) (by omega) h2.1 h2.2
    refine ⟨fun j hj => ?_, ?_, ?_⟩
    · show upd s.1 i 0 j + 1 ≤ _
      unfold upd
      split
      · have := hx j hj; omega
      · exact h.dig j hj
    · have := h.lo; show _ ≤ s.2 + nth ys i - _; omega
    · have := h.hi; show s.2 + nth ys i - _ ≤ _; omega

def digF (xs : List Int) (p : Nat) : Nat → Nat := fun i => if i < xs.length then dg xs p i else 0
/-- The last j axes are through. -/
def dgC (xs : List Int) (p j : Nat) : Nat → Nat := fun i => if i < xs.length - j then dg xs p i else 0
/-- Where the p-th cell stands. -/
def plO (xs ys : List Int) (off : Int) (p : Nat) : Int := off + dotF (digF xs p) ys xs.length
theorem dgC_zero (xs : List Int) (p : Nat) : dgC xs p 0 = digF xs p := rfl
theorem carried (xs ys : List Int) (h1 : ∀ x ∈ xs, 1 ≤ x) (off : Int) (p : Nat) : ∀ j, j ≤ xs.length → ∀ t, foldO xs ys (digF xs p, plO xs ys off p) (downs xs.length j) = some t →
    t = (dgC xs p j, off + dotF (digF xs p) ys (xs.length - j)) ∧ ∀ i, xs.length - j ≤ i → i < xs.length → dg xs p i + 1 = (nth xs i).toNat := by
  intro j
  induction j with
  | zero =>
    intro _ t ht
    simp only [downs, foldO, List.foldl_nil, Option.some.injEq] at ht
    subst ht
    exact ⟨rfl, fun i h2 h3 => by omega⟩
  | succ j ih =>
    intro hj t ht
    have e : downs xs.length (j + 1) = downs xs.length j ++ [⟨xs.length - 1 - j, by omega⟩] := by conv => lhs; unfold downs; rw [dif_pos (by omega)]
    rw [e, foldO_snoc] at ht
    cases hs : foldO xs ys (digF xs p, plO xs ys off p) (downs xs.length j) with
    | none => rw [hs] at ht; cases ht
    | some s =>
      obtain ⟨hs1, hs2⟩ := ih (by omega) s hs
      rw [hs, Option.bind_some] at ht
      subst hs1
      obtain ⟨i, hi⟩ : ∃ i, i = xs.length - 1 - j := ⟨_, rfl⟩
      have hin : i < xs.length := by omega
      have hd : dgC xs p j i = dg xs p i := if_pos (by omega)
      have hdl : dg xs p i < (nth xs i).toNat := Nat.mod_lt _ (by have := h1 _ (nth_mem xs i hin); omega)
      unfold contO at ht
      simp only [← hi, hd] at ht
      split at ht
      · cases ht
      · rename_i hge
        injection ht with ht
        refine ⟨?_, fun i' h2 h3 => ?_⟩
        · rw [← ht]
          refine Prod.ext ?_ ?_
          · funext i'
            show upd (dgC xs p j) i 0 i' = dgC xs p (j + 1) i'
            unfold upd dgC
            by_cases h4 : i' = i
            · rw [if_pos h4, if_neg (by omega)]
            · rw [if_neg h4]
              by_cases h5 : i' < xs.length - j
              · rw [if_pos h5, if_pos (by omega)]
              · rw [if_neg h5, if_neg (by omega)]
          · show off + dotF (digF xs p) ys (xs.length - j) + nth ys i - ((dg xs p i + 1 : Nat) : Int) * nth ys i = off + dotF (digF xs p) ys (xs.length - (j + 1))
            rw [show xs.length - j = i + 1 by omega, show xs.length - (j + 1) = i by omega]
            have e2 : digF xs p i = dg xs p i := if_pos hin
            show off + (dotF (digF xs p) ys i + (digF xs p i : Int) * nth ys i) + nth ys i - _ = _
            rw [e2, Int.natCast_add, Int.add_mul]
            omega
        · by_cases h4 : i' = i
          · subst h4; omega
          · exact hs2 i' (by omega) h3
theorem div_hit {p s m : Nat} (hs : 1 ≤ s) (h : p + 1 = s * m) : ∃ m', m = m' + 1 ∧ p / s = m' ∧ (p + 1) / s = m' + 1 := by
  cases m with
  | zero => simp at h
  | succ m' =>
    refine ⟨m', rfl, ?_, ?_⟩
    · rw [Nat.mul_succ] at h
      refine Nat.div_eq_of_lt_le ?_ ?_
      · rw [Nat.mul_comm]; omega
      · rw [Nat.succ_mul, Nat.mul_comm]; omega
    · rw [h]; exact Nat.mul_div_cancel_left _ (by omega)
theorem div_miss {p s : Nat} (hs : 1 ≤ s) (h : ¬ s ∣ p + 1) : (p + 1) / s = p / s := by
  have h1 := Nat.div_add_mod p s
  have h2 : p % s < s := Nat.mod_lt _ (by omega)
  have h3 : p % s + 1 ≠ s := fun e => h ⟨p / s + 1, by rw [Nat.mul_add, Nat.mul_one]; omega⟩
  refine Nat.div_eq_of_lt_le ?_ ?_
  · rw [Nat.mul_comm]; omega
  · rw [Nat.succ_mul, Nat.mul_comm]; omega
theorem mod_up {a x : Nat} (h : a % x + 1 < x) : (a + 1) % x = a % x + 1 := by
  conv => lhs; rw [← Nat.div_add_mod a x, Nat.add_assoc, Nat.mul_add_mod]
  exact Nat.mod_eq_of_lt h
theorem mod_through {a x : Nat} (h : a % x + 1 = x) : (a + 1) % x = 0 := by
  conv => lhs; rw [← Nat.div_add_mod a x, Nat.add_assoc, Nat.mul_add_mod, h]
  exact Nat.mod_self x
theorem sp_dvd (xs : List Int) (h1 : ∀ x ∈ xs, 1 ≤ x) (p : Nat) : ∀ j, j < xs.length → (∀ i, xs.length - j ≤ i → i < xs.length → dg xs p i + 1 = (nth xs i).toNat) → sp xs (xs.length - 1 - j) ∣ p + 1
  | 0, _, _ => by rw [Nat.sub_zero, sp_last]; exact Nat.one_dvd _
  | j + 1, h, hc => by
    obtain ⟨m, hm⟩ := sp_dvd xs h1 p j (by omega) (fun i h2 h3 => hc i (by omega) h3)
    obtain ⟨m', rfl, e1, e2⟩ := div_hit (tl_pos xs _) hm
    have h2 := hc (xs.length - 1 - j) (by omega) (by omega)
    unfold dg at h2
    have e1' : p / sp xs (xs.length - 1 - j) = m' := e1
    rw [e1'] at h2
    have h3 := mod_through h2
    have hs := sp_step xs h1 (xs.length - 1 - (j + 1)) (by omega)
    rw [show xs.length - 1 - (j + 1) + 1 = xs.length - 1 - j by omega] at hs
    rw [hs, hm]
    exact Nat.mul_dvd_mul_left _ (Nat.dvd_of_mod_eq_zero h3)
theorem sp_chain (xs : List Int) (h1 : ∀ x ∈ xs, 1 ≤ x) (i : Nat) (hi : i < xs.length) : ∀ d i', i' + d + 1 = i → sp xs i * (nth xs i).toNat ∣ sp xs i'
  | 0, i', h => by
    have := sp_step xs h1 i' (by omega)
    rw [this, show i' + 1 = i by omega]
    exact Nat.dvd_refl _
  | d + 1, i', h => by
    have := sp_step xs h1 i' (by omega)
    rw [this]
    exact Nat.dvd_trans (sp_chain xs h1 i hi d (i' + 1) (by omega)) (Nat.dvd_mul_right _ _)
/-- Where the turning stops. -/
theorem turn_stop (xs : List Int) (h1 : ∀ x ∈ xs, 1 ≤ x) (p j : Nat) (hj : j < xs.length) (hc : ∀ i, xs.length - j ≤ i → i < xs.length → dg xs p i + 1 = (nth xs i).toNat) (hlt : dg xs p (xs.length - 1 - j) + 1 < (nth xs (xs.length - 1 - j)).toNat) :
    dg xs (p + 1) (xs.length - 1 - j) = dg xs p (xs.length - 1 - j) + 1 ∧ (∀ i, xs.length - 1 - j < i → i < xs.length → dg xs (p + 1) i = 0) ∧ (∀ i, i < xs.length - 1 - j → dg xs (p + 1) i = dg xs p i) := by
  obtain ⟨m, hm⟩ := sp_dvd xs h1 p j hj hc
  obtain ⟨m', rfl, e1, e2⟩ := div_hit (tl_pos xs _) hm
  have e1' : p / sp xs (xs.length - 1 - j) = m' := e1
  have e2' : (p + 1) / sp xs (xs.length - 1 - j) = m' + 1 := e2
  have hlt' := hlt
  unfold dg at hlt'
  rw [e1'] at hlt'
  refine ⟨?_, fun i h2 h3 => ?_, fun i h2 => ?_⟩
  · unfold dg
    rw [e1', e2']
    exact mod_up hlt'
  · have h4 := sp_dvd xs h1 p (xs.length - 1 - i) (by omega) (fun i' h5 h6 => hc i' (by omega) h6)
    rw [show xs.length - 1 - (xs.length - 1 - i) = i by omega] at h4
    obtain ⟨k, hk⟩ := h4
    obtain ⟨k', rfl, f1, f2⟩ := div_hit (tl_pos xs _) hk
    have f1' : p / sp xs i = k' := f1
    have f2' : (p + 1) / sp xs i = k' + 1 := f2
    have h5 := hc i (by omega) h3
    unfold dg at h5 ⊢
    rw [f1'] at h5
    rw [f2']
    exact mod_through h5
  · have hno : ¬ sp xs i ∣ p + 1 := fun hd => by
      have h3 := Nat.dvd_trans (sp_chain xs h1 (xs.length - 1 - j) (by omega) (xs.length - 1 - j - i - 1) i (by omega)) hd
      rw [hm] at h3
      have h4 := Nat.dvd_of_mul_dvd_mul_left (tl_pos xs _) h3
      have h5 := mod_up hlt'
      have h6 := Nat.mod_eq_zero_of_dvd h4
      omega
    have h3 : (p + 1) / sp xs i = p / sp xs i := div_miss (tl_pos xs _) hno
    unfold dg
    rw [h3]
theorem turn_digits (xs ys : List Int) (h1 : ∀ x ∈ xs, 1 ≤ x) (off : Int) (p j : Nat) (hj : j < xs.length) (hc : ∀ i, xs.length - j ≤ i → i < xs.length → dg xs p i + 1 = (nth xs i).toNat) (hlt : dg xs p (xs.length - 1 - j) + 1 < (nth xs (xs.length - 1 - j)).toNat) :
    upd (dgC xs p j) (xs.length - 1 - j) (dg xs p (xs.length - 1 - j) + 1) = digF xs (p + 1) ∧ off + dotF (digF xs p) ys (xs.length - j) + nth ys (xs.length - 1 - j) = plO xs ys off (p + 1) := by
  obtain ⟨t1, t2, t3⟩ := turn_stop xs h1 p j hj hc hlt
  have hD : upd (dgC xs p j) (xs.length - 1 - j) (dg xs p (xs.length - 1 - j) + 1) = digF xs (p + 1) := by
    funext i
    unfold upd dgC digF
    by_cases h4 : i = xs.length - 1 - j
    · rw [if_pos h4, if_pos (by omega), h4, t1]
    · rw [if_neg h4]
      by_cases h5 : i < xs.length - 1 - j
      · rw [if_pos (by omega), if_pos (by omega), t3 i h5]
      · rw [if_neg (by omega)]
        by_cases h6 : i < xs.length
        · rw [if_pos h6, t2 i (by omega) h6]
        · rw [if_neg h6]
  refine ⟨hD, ?_⟩
  obtain ⟨i, hi⟩ : ∃ i, i = xs.length - 1 - j := ⟨_, rfl⟩
  have hz : ∀ d, i + 1 + d ≤ xs.length → dotF (digF xs (p + 1)) ys (i + 1 + d) = dotF (digF xs (p + 1)) ys (i + 1) := by
    intro d
    induction d with
    | zero => intro _; rfl
    | succ d ih =>
      intro hd
      have e : digF xs (p + 1) (i + 1 + d) = 0 := by unfold digF; rw [if_pos (by omega)]; exact t2 _ (by omega) (by omega)
      show dotF (digF xs (p + 1)) ys (i + 1 + d) + (digF xs (p + 1) (i + 1 + d) : Int) * _ = _
      rw [e, ih (by omega)]
      simp
  unfold plO
  have h7 := hz (xs.length - (i + 1)) (by omega)
  rw [show i + 1 + (xs.length - (i + 1)) = xs.length by omega] at h7
  rw [h7, ← hi, show xs.length - j = i + 1 by omega]
  have e3 : dotF (digF xs (p + 1)) ys i = dotF (digF xs p) ys i := dotF_congr ys i (fun i' hi' => by
    unfold digF
    rw [if_pos (by omega), if_pos (by omega)]
    exact t3 i' (by omega))
  have e4 : digF xs (p + 1) i = digF xs p i + 1 := by
    unfold digF
    rw [if_pos (by omega), if_pos (by omega), hi]
    exact t1
  show off + (dotF (digF xs p) ys i + (digF xs p i : Int) * nth ys i) + nth ys i = off + (dotF (digF xs (p + 1)) ys i + (digF xs (p + 1) i : Int) * nth ys i)
  rw [e3, e4, Int.natCast_add, Int.add_mul]
  omega
/-- Not all axes are through, as long as there is a next one. -/
theorem not_all (xs ys : List Int) (h1 : ∀ x ∈ xs, 1 ≤ x) (p : Nat) (hp : ((p + 1 : Nat) : Int) < prod xs) (hc : ∀ i, 0 ≤ i → i < xs.length → dg xs p i + 1 = (nth xs i).toNat) : False := by
  rcases Nat.eq_zero_or_pos xs.length with h0 | h0
  · have : xs = [] := List.eq_nil_of_length_eq_zero h0
    subst this
    simp [prod] at hp
    omega
  · have hw := sp_whole xs h1 h0
    obtain ⟨m, hm⟩ := sp_dvd xs h1 p (xs.length - 1) (by omega) (fun i _ h3 => hc i (by omega) h3)
    rw [show xs.length - 1 - (xs.length - 1) = 0 by omega] at hm
    obtain ⟨m', rfl, e1, e2⟩ := div_hit (tl_pos xs _) hm
    have e1' : p / sp xs 0 = m' := e1
    have h2 := hc 0 (by omega) h0
    unfold dg at h2
    rw [e1'] at h2
    have h3 := Nat.mul_dvd_mul_left (sp xs 0) (Nat.dvd_of_mod_eq_zero (mod_through h2))
    rw [← hm] at h3
    have h4 := Nat.le_of_dvd (by omega) h3
    omega
end Go.Proofs.Ythjkeefdeeljoaa.Shp
