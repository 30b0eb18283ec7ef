/- Rows of truths in words, in plain Lean. -/
import Derived.Test.YtnhieoeiiebjoaaDoorBitsPure
namespace Go.Proofs.YtnhieoeiiebjoaaDoor.Bt

/-- The j-th truth. -/
def tr (l : List Bool) (j : Nat) : Bool := l.getD j false
theorem tr_lt {l : List Bool} {j : Nat} (h : j < l.length) : tr l j = nth l j := by rw [nth_eq _ _ h]; unfold tr; simp [h]
theorem tr_ge {l : List Bool} {j : Nat} (h : l.length ≤ j) : tr l j = false := by unfold tr; simp [h]
theorem tr_set (l : List Bool) (j : Nat) (b : Bool) (i : Nat) (h : j < l.length) : tr (l.set j b) i = if i = j then b else tr l i := by
  unfold tr
  by_cases e : i = j
  · subst e; simp [h]
  · rw [if_neg e]; simp [Ne.symm e]
theorem list_ext (l m : List Bool) (hl : l.length = m.length) (h : ∀ j, tr l j = tr m j) : l = m := by
  apply List.ext_getElem hl
  intro i h1 h2
  have := h i
  rwa [tr_lt h1, tr_lt h2, nth_eq _ _ h1, nth_eq _ _ h2] at this

def spanW (lo hi : Nat) : Nat := if hi ≤ lo then 0 else (18446744073709551615 * 2 ^ lo % 18446744073709551616) &&& (18446744073709551615 / 2 ^ (64 - hi))
theorem full_bit (i : Nat) : Nat.testBit 18446744073709551615 i = decide (i < 64) := by
  rw [show (18446744073709551615 : Nat) = 2 ^ 64 - 1 by rfl, Nat.testBit_two_pow_sub_one]
theorem spanW_bit (lo hi i : Nat) (h : hi ≤ 64) : (spanW lo hi).testBit i = (decide (lo ≤ i) && decide (i < hi)) := by
  unfold spanW
  by_cases c : hi ≤ lo
  · rw [if_pos c, Nat.zero_testBit]
    by_cases c1 : lo ≤ i
    · simp [c1]; omega
    · simp [c1]
  · rw [if_neg c, Nat.testBit_and, show (18446744073709551616 : Nat) = 2 ^ 64 by rfl, Nat.testBit_mod_two_pow, Nat.testBit_mul_two_pow, Nat.testBit_div_two_pow, full_bit, full_bit]
    by_cases c1 : lo ≤ i
    · by_cases c2 : i < hi
      · simp [c1, c2]; omega
      · simp [c1, c2]; omega
    · simp [c1]
def spanN (k f t : Nat) : Nat := spanW (f - 64 * k) (min (t - 64 * k) 64)
theorem spanN_bit (k f t i : Nat) : (spanN k f t).testBit i = (decide (i < 64) && (decide (f ≤ 64 * k + i) && decide (64 * k + i < t))) := by
  unfold spanN
  rw [spanW_bit _ _ _ (by omega)]
  by_cases c1 : f ≤ 64 * k + i
  · have d1 : f - 64 * k ≤ i := by omega
    by_cases c2 : i < 64
    · by_cases c3 : 64 * k + i < t
      · have : i < min (t - 64 * k) 64 := by omega
        simp only [c1, d1, c2, c3, this, decide_true, Bool.and_self]
      · have : ¬ i < min (t - 64 * k) 64 := by omega
        simp only [c3, this, decide_false, Bool.and_false]
    · have : ¬ i < min (t - 64 * k) 64 := by omega
      simp only [c2, this, decide_false, Bool.and_false, Bool.false_and]
  · have d1 : ¬ f - 64 * k ≤ i := by omega
    simp only [c1, d1, decide_false, Bool.and_false, Bool.false_and]
theorem lt_of_bits (x : Nat) (h : ∀ i, 64 ≤ i → x.testBit i = false) : x < 18446744073709551616 := by
  have := Nat.lt_pow_two_of_testBit (n := 64) x fun i hi => h i hi
  exact this
theorem spanN_lt (k f t : Nat) : spanN k f t < 18446744073709551616 := lt_of_bits _ fun i hi => by
  rw [spanN_bit]
  have : ¬ i < 64 := by omega
  simp only [this, decide_false, Bool.false_and]

/-- Words that hold these truths. -/
structure Rep (W : List Nat) (l : List Bool) : Prop where
  len : W.length = (l.length + 63) / 64
  bit : ∀ k, k < W.length → ∀ i, (nth W k).testBit i = (decide (i < 64) && tr l (64 * k + i))
section
variable {W : List Nat} {l : List Bool}
theorem Rep.lt (h : Rep W l) (k : Nat) (hk : k < W.length) : nth W k < 18446744073709551616 := lt_of_bits _ fun i hi => by
  rw [h.bit k hk]
  have : ¬ i < 64 := by omega
  simp only [this, decide_false, Bool.false_and]
theorem Rep.put (h : Rep W l) (k x : Nat) (l2 : List Bool) (hk : k < W.length) (hl : l2.length = l.length) (hx : ∀ i, x.testBit i = (decide (i < 64) && tr l2 (64 * k + i))) (ho : ∀ j, j / 64 ≠ k → tr l2 j = tr l j) : Rep (W.set k x) l2 := by
  refine ⟨by rw [List.length_set, hl, h.len], fun k' hk' i => ?_⟩
  rw [List.length_set] at hk'
  have hk2 : k' < (W.set k x).length := by rw [List.length_set]; exact hk'
  by_cases e : k' = k
  · subst e
    rw [nth_eq _ _ hk2, List.getElem_set_self]
    exact hx i
  · rw [nth_eq _ _ hk2, List.getElem_set_ne (Ne.symm e), ← nth_eq _ _ hk', h.bit k' hk']
    by_cases c : i < 64
    · rw [ho _ (by omega)]
    · simp only [c, decide_false, Bool.false_and]
theorem Rep.set (h : Rep W l) (j : Nat) (b : Bool) (hj : j < l.length) (x : Nat) (hx : x = if b then nth W (j / 64) ||| 2 ^ (j % 64) else nth W (j / 64) &&& (18446744073709551615 - 2 ^ (j % 64))) : Rep (W.set (j / 64) x) (l.set j b) := by
  have hk : j / 64 < W.length := by rw [h.len]; omega
  refine h.put _ _ _ hk (by simp) (fun i => ?_) (fun i hi => ?_)
  · subst hx
    rw [tr_set _ _ _ _ hj]
    have e : (64 * (j / 64) + i = j) ↔ j % 64 = i := by omega
    cases b with
    | true =>
      rw [if_pos rfl, Nat.testBit_or, h.bit _ hk, Nat.testBit_two_pow]
      by_cases c : j % 64 = i
      · have : i < 64 := by omega
        simp only [c, e.2 c, this, if_true, decide_true, Bool.or_true, Bool.and_self]
      · rw [if_neg (fun k => c (e.1 k))]
        simp only [c, decide_false, Bool.or_false]
    | false =>
      have hp : 2 ^ (j % 64) < 2 ^ 64 := Nat.pow_lt_pow_right (by omega) (by omega)
      rw [if_neg (by simp), Nat.testBit_and, h.bit _ hk, show (18446744073709551615 - 2 ^ (j % 64) : Nat) = 2 ^ 64 - (2 ^ (j % 64) + 1) by omega, Nat.testBit_two_pow_sub_succ hp, Nat.testBit_two_pow]
      by_cases c : j % 64 = i
      · simp only [c, e.2 c, if_true, decide_true, Bool.not_true, Bool.and_false]
      · rw [if_neg (fun k => c (e.1 k))]
        simp only [c, decide_false, Bool.not_false, Bool.and_true]
        cases decide (i < 64) <;> simp
  · rw [tr_set _ _ _ _ hj, if_neg (fun e => hi (by rw [e]))]
theorem Rep.get (h : Rep W l) (j : Nat) (hj : j < l.length) : nth W (j / 64) / 2 ^ (j % 64) % 2 = if tr l j then 1 else 0 := by
  have hk : j / 64 < W.length := by rw [h.len]; omega
  have := h.bit _ hk (j % 64)
  rw [show 64 * (j / 64) + j % 64 = j by omega] at this
  have c : j % 64 < 64 := by omega
  simp only [c, decide_true, Bool.true_and] at this
  rw [← this, Nat.testBit_eq_decide_div_mod_eq]
  by_cases e : nth W (j / 64) / 2 ^ (j % 64) % 2 = 1
  · simp [e]
  · simp [e]; omega

/-- Some of them so. -/
def fillL (l : List Bool) (f t : Nat) (b : Bool) : List Bool := (List.range l.length).map fun j => if f ≤ j ∧ j < t then b else tr l j
theorem fillL_length (l : List Bool) (f t : Nat) (b : Bool) : (fillL l f t b).length = l.length := by simp [fillL]
theorem tr_fillL (l : List Bool) (f t : Nat) (b : Bool) (j : Nat) : tr (fillL l f t b) j = if f ≤ j ∧ j < t ∧ j < l.length then b else tr l j := by
  by_cases h : j < l.length
  · rw [tr_lt (by rw [fillL_length]; exact h), nth_eq _ _ (by rw [fillL_length]; exact h)]
    simp [fillL, h]
  · rw [tr_ge (by rw [fillL_length]; omega), if_neg (by omega), tr_ge (by omega)]
theorem fillL_none (l : List Bool) (f t : Nat) (b : Bool) (h : t ≤ f) : fillL l f t b = l :=
  list_ext _ _ (fillL_length _ _ _ _) fun j => by rw [tr_fillL, if_neg (by omega)]
theorem fillL_all (n : Nat) (b : Bool) : fillL (List.replicate n false) 0 n b = List.replicate n b :=
  list_ext _ _ (by rw [fillL_length]; simp) fun j => by
    rw [tr_fillL]
    unfold tr
    by_cases h : j < n <;> simp [h]
theorem fillL_snoc (l : List Bool) (f t : Nat) (b : Bool) (h1 : f ≤ t) (h2 : t < l.length) : (fillL l f t b).set t b = fillL l f (t + 1) b :=
  list_ext _ _ (by rw [List.length_set, fillL_length, fillL_length]) fun j => by
    rw [tr_set _ _ _ _ (by rw [fillL_length]; exact h2), tr_fillL, tr_fillL]
    by_cases e : j = t
    · subst e; rw [if_pos rfl, if_pos ⟨h1, by omega, h2⟩]
    · rw [if_neg e]
      by_cases c : f ≤ j ∧ j < t ∧ j < l.length
      · rw [if_pos c, if_pos ⟨c.1, by omega, c.2.2⟩]
      · rw [if_neg c, if_neg (by omega)]
theorem Rep.fill (k f t : Nat) (b : Bool) (h : Rep W (fillL l f (min t (64 * k)) b)) (hk : k < W.length) (ht : t ≤ l.length) (x : Nat) (hx : x = if b then nth W k ||| spanN k f t else nth W k &&& (18446744073709551615 - spanN k f t)) : Rep (W.set k x) (fillL l f (min t (64 * (k + 1))) b) := by
  refine h.put _ _ _ hk (by rw [fillL_length, fillL_length]) (fun i => ?_) (fun j hj => ?_)
  · subst hx
    have hb : (nth W k).testBit i = (decide (i < 64) && tr l (64 * k + i)) := by
      rw [h.bit k hk, tr_fillL, if_neg (by omega)]
    rw [tr_fillL]
    by_cases c : i < 64
    · have e : (f ≤ 64 * k + i ∧ 64 * k + i < min t (64 * (k + 1)) ∧ 64 * k + i < l.length) ↔ (f ≤ 64 * k + i ∧ 64 * k + i < t) := by omega
      cases b with
      | true =>
        rw [if_pos rfl, Nat.testBit_or, hb, spanN_bit]
        by_cases d : f ≤ 64 * k + i ∧ 64 * k + i < t
        · rw [if_pos (e.2 d)]; simp only [c, d.1, d.2, decide_true, Bool.and_self, Bool.or_true]
        · rw [if_neg (fun q => d (e.1 q))]
          have : (decide (f ≤ 64 * k + i) && decide (64 * k + i < t)) = false := by
            cases q : (decide (f ≤ 64 * k + i) && decide (64 * k + i < t)) with
            | false => rfl
            | true => simp only [Bool.and_eq_true, decide_eq_true_eq] at q; exact absurd q d
          simp only [this, Bool.and_false, Bool.or_false]
      | false =>
        have hp := spanN_lt k f t
        rw [if_neg (by simp), Nat.testBit_and, hb, show (18446744073709551615 - spanN k f t : Nat) = 2 ^ 64 - (spanN k f t + 1) by omega, Nat.testBit_two_pow_sub_succ hp, spanN_bit]
        by_cases d : f ≤ 64 * k + i ∧ 64 * k + i < t
        · rw [if_pos (e.2 d)]; simp only [c, d.1, d.2, decide_true, Bool.and_self, Bool.not_true, Bool.and_false]
        · rw [if_neg (fun q => d (e.1 q))]
          have : (decide (f ≤ 64 * k + i) && decide (64 * k + i < t)) = false := by
            cases q : (decide (f ≤ 64 * k + i) && decide (64 * k + i < t)) with
            | false => rfl
            | true => simp only [Bool.and_eq_true, decide_eq_true_eq] at q; exact absurd q d
          simp only [this, c, decide_true, Bool.and_false, Bool.not_false, Bool.and_true, Bool.true_and]
    · have hs : (spanN k f t).testBit i = false := by rw [spanN_bit]; simp only [c, decide_false, Bool.false_and]
      simp only [c, decide_false, Bool.false_and] at hb ⊢
      cases b with
      | true => rw [if_pos rfl, Nat.testBit_or, hb, hs]; rfl
      | false => rw [if_neg (by simp), Nat.testBit_and, hb]; rfl
  · rw [tr_fillL, tr_fillL]
    by_cases c : f ≤ j ∧ j < min t (64 * k) ∧ j < l.length
    · rw [if_pos c, if_pos (by omega)]
    · rw [if_neg c, if_neg (by omega)]

/-- How many are so. -/
def countL (l : List Bool) : Nat := cnt (tr l) l.length
theorem Rep.count (h : Rep W l) (k : Nat) (hk : k < W.length) : cnt (tr l) (64 * k) + cnt (nth W k).testBit 64 = cnt (tr l) (64 * (k + 1)) := by
  rw [show 64 * (k + 1) = 64 * k + 64 by omega, cnt_add]
  congr 1
  exact cnt_congr _ fun i hi => by rw [h.bit k hk]; simp only [hi, decide_true, Bool.true_and]
theorem Rep.count_end (h : Rep W l) : cnt (tr l) (64 * W.length) = countL l := by
  have hl := h.len
  obtain ⟨d, hd⟩ : ∃ d, 64 * W.length = l.length + d := ⟨64 * W.length - l.length, by omega⟩
  rw [hd, cnt_add, cnt_none (fun i => tr l (l.length + i)) d fun i _ => tr_ge (by omega)]
  rfl

/-- The first one from a place on that is so. -/
def IsNext (l : List Bool) (f : Nat) (b : Bool) (r : Nat) : Prop := r ≤ l.length ∧ (r < l.length → f ≤ r ∧ tr l r = b) ∧ ∀ i, f ≤ i → i < r → tr l i ≠ b
theorem IsNext.one {f : Nat} {b : Bool} {r r' : Nat} (h : IsNext l f b r) (h' : IsNext l f b r') : r = r' := by
  rcases Nat.lt_trichotomy r r' with c | c | c
  · have := h.2.1 (by have := h'.1; omega)
    exact absurd this.2 (h'.2.2 r this.1 c)
  · exact c
  · have := h'.2.1 (by have := h.1; omega)
    exact absurd this.2 (h.2.2 r' this.1 c)
theorem ctz_bits (x : Nat) (h0 : x ≠ 0) (h : x < 18446744073709551616) : Lib.ctz 64 x < 64 ∧ x.testBit (Lib.ctz 64 x) = true ∧ ∀ j, j < Lib.ctz 64 x → x.testBit j = false := by
  unfold Lib.ctz
  rw [if_neg h0]
  obtain ⟨m, hm, hc⟩ := Lib.ctzFrom_spec 64 x (by omega) h
  refine ⟨hc, ?_, fun j hj => ?_⟩
  · generalize Lib.ctzFrom 64 x = c at *
    rw [hm, Nat.mul_comm, Nat.testBit_mul_two_pow]
    simp [Nat.testBit_zero]
  · generalize Lib.ctzFrom 64 x = c at *
    rw [hm, Nat.mul_comm, Nat.testBit_mul_two_pow]
    have : ¬ c ≤ j := by omega
    simp only [this, decide_false, Bool.false_and]
/-- The word whose lowest bit is looked for. -/
theorem Rep.look (h : Rep W l) (k f : Nat) (b : Bool) (hk : k < W.length) (i : Nat) : (Nat.testBit ((if b then nth W k else 18446744073709551615 ^^^ nth W k) &&& spanN k f l.length) i) = (decide (i < 64) && (decide (f ≤ 64 * k + i) && (decide (64 * k + i < l.length) && (tr l (64 * k + i) == b)))) := by
  rw [Nat.testBit_and, spanN_bit]
  by_cases c : i < 64
  · cases b with
    | true => rw [if_pos rfl, h.bit k hk]; simp only [c, decide_true, Bool.true_and]; cases tr l (64 * k + i) <;> simp
    | false => rw [if_neg (by simp), Nat.testBit_xor, full_bit, h.bit k hk]; simp only [c, decide_true, Bool.true_and]; cases tr l (64 * k + i) <;> simp
  · simp only [c, decide_false, Bool.false_and, Bool.and_false]
theorem Rep.found (h : Rep W l) (k f : Nat) (b : Bool) (hk : k < W.length) (hf : ∀ i, f ≤ i → i < 64 * k → tr l i ≠ b) (x : Nat) (hx : x = (if b then nth W k else 18446744073709551615 ^^^ nth W k) &&& spanN k f l.length) (h0 : x ≠ 0) : x < 18446744073709551616 ∧ Lib.ctz 64 x < 64 ∧ IsNext l f b (64 * k + Lib.ctz 64 x) := by
  have hb := fun i => h.look k f b hk i
  rw [← hx] at hb
  have hlt : x < 18446744073709551616 := lt_of_bits _ fun i hi => by
    rw [hb]
    have : ¬ i < 64 := by omega
    simp only [this, decide_false, Bool.false_and]
  obtain ⟨h1, h2, h3⟩ := ctz_bits x h0 hlt
  have h4 := hb (Lib.ctz 64 x)
  rw [h2] at h4
  have h5 := h4.symm
  simp only [Bool.and_eq_true, decide_eq_true_eq, beq_iff_eq] at h5
  refine ⟨hlt, h1, by omega, fun _ => ⟨h5.2.1, h5.2.2.2⟩, fun i hi hir hb' => ?_⟩
  by_cases c : i < 64 * k
  · exact hf i hi c hb'
  · have h6 := h3 (i - 64 * k) (by omega)
    rw [hb, show 64 * k + (i - 64 * k) = i by omega] at h6
    have q1 : i - 64 * k < 64 := by omega
    have q2 : i < l.length := by omega
    rw [hb'] at h6
    simp [q1, q2, hi] at h6
theorem Rep.unfound (h : Rep W l) (k f : Nat) (b : Bool) (hk : k < W.length) (hf : ∀ i, f ≤ i → i < 64 * k → i < l.length → tr l i ≠ b) (h0 : ((if b then nth W k else 18446744073709551615 ^^^ nth W k) &&& spanN k f l.length) = 0) : ∀ i, f ≤ i → i < 64 * (k + 1) → i < l.length → tr l i ≠ b := fun i hi hik hil hb' => by
  by_cases c : i < 64 * k
  · exact hf i hi c hil hb'
  · have h6 := h.look k f b hk (i - 64 * k)
    rw [h0, Nat.zero_testBit, show 64 * k + (i - 64 * k) = i by omega, hb'] at h6
    have q1 : i - 64 * k < 64 := by omega
    simp [q1, hil, hi] at h6
theorem IsNext.end_ {f : Nat} {b : Bool} (h : ∀ i, f ≤ i → i < l.length → tr l i ≠ b) : IsNext l f b l.length := ⟨Nat.le_refl _, fun c => absurd c (Nat.lt_irrefl _), h⟩
theorem Rep.new (n : Nat) : Rep (List.replicate ((n + 63) / 64) 0) (List.replicate n false) := by
  refine ⟨by simp, fun k hk i => ?_⟩
  rw [List.length_replicate] at hk
  rw [nth_eq _ _ (by simpa using hk), List.getElem_replicate, Nat.zero_testBit]
  unfold tr
  by_cases h : 64 * k + i < n <;> simp [h]
end
end Go.Proofs.YtnhieoeiiebjoaaDoor.Bt
