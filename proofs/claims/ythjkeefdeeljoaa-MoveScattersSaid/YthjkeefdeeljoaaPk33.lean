/- Contracts and lemmas that the row of this claim stands on: BitsPure, BitsRep. -/
import Derived.Test.YthjkeefdeeljoaaPk1
import Derived.Lib.TrailingZeros
/- Words of bits, in plain Lean: spans, how many are so, the first one. -/
namespace Go.Proofs.Ythjkeefdeeljoaa.Bt

/-- How many of the first n are so. -/
def cnt (f : Nat → Bool) : Nat → Nat
  | 0 => 0
  | n + 1 => cnt f n + if f n = true then 1 else 0
theorem cnt_congr {f g : Nat → Bool} : ∀ n, (∀ i, i < n → f i = g i) → cnt f n = cnt g n
  | 0, _ => rfl
  | n + 1, h => by unfold cnt; rw [cnt_congr n fun i hi => h i (by omega), h n (by omega)]
theorem cnt_add (f : Nat → Bool) (a : Nat) : ∀ b, cnt f (a + b) = cnt f a + cnt (fun i => f (a + i)) b
  | 0 => rfl
  | b + 1 => by
    show cnt f (a + b) + (if f (a + b) = true then 1 else 0) = cnt f a + (cnt (fun i => f (a + i)) b + if f (a + b) = true then 1 else 0)
    rw [cnt_add f a b]; omega
theorem cnt_le (f : Nat → Bool) : ∀ n, cnt f n ≤ n
  | 0 => Nat.le_refl _
  | n + 1 => by unfold cnt; have := cnt_le f n; split <;> omega
theorem cnt_none (f : Nat → Bool) : ∀ n, (∀ i, i < n → f i = false) → cnt f n = 0
  | 0, _ => rfl
  | n + 1, h => by unfold cnt; rw [cnt_none f n fun i hi => h i (by omega), h n (by omega)]; rfl

/-- A byte m, n times. -/
def rep (m : Nat) : Nat → Nat
  | 0 => 0
  | n + 1 => 256 * rep m n + m
theorem and_split (u M m : Nat) (hm : m < 256) : u &&& (256 * M + m) = 256 * (u / 256 &&& M) + (u % 256 &&& m) := by
  have h1 : u % 2 ^ 8 &&& m < 2 ^ 8 := Nat.and_lt_two_pow _ (by omega)
  apply Nat.eq_of_testBit_eq
  intro i
  rw [show (256 : Nat) = 2 ^ 8 by rfl, Nat.testBit_and, Nat.testBit_two_pow_mul_add _ (by omega), Nat.testBit_two_pow_mul_add _ h1, Nat.testBit_and, Nat.testBit_and, Nat.testBit_div_two_pow, Nat.testBit_mod_two_pow]
  by_cases h : i < 8
  · simp [h]
  · simp only [h, if_false]
    rw [show i - 8 + 8 = i by omega]
def t1 (b : Nat) : Nat := (b / 2 &&& 85) + (b &&& 85)
def t2 (b : Nat) : Nat := (b / 4 &&& 51) + (b &&& 51)
def t3 (b : Nat) : Nat := (b / 16 + b) &&& 15
def s1 (n x : Nat) : Nat := (x / 2 &&& rep 85 n) + (x &&& rep 85 n)
def s2 (n x : Nat) : Nat := (x / 4 &&& rep 51 n) + (x &&& rep 51 n)
def s3 (n x : Nat) : Nat := (x / 16 + x) &&& rep 15 n
theorem t1_le : ∀ b, b < 256 → t1 b ≤ 170 := by decide +kernel
theorem t2_le : ∀ b, b < 256 → t2 b ≤ 102 ∧ t2 b % 16 ≤ 6 := by decide +kernel
theorem b1 : ∀ b, b < 256 → ∀ c, c < 2 → (b / 2 + 128 * c) &&& 85 = b / 2 &&& 85 := by decide +kernel
theorem b2 : ∀ b, b < 256 → ∀ c, c < 4 → (b / 4 + 64 * c) &&& 51 = b / 4 &&& 51 := by decide +kernel
theorem b3 : ∀ b, b ≤ 102 → ∀ c, c ≤ 6 → (b / 16 + b + 16 * c) &&& 15 = (b / 16 + b) &&& 15 := by decide +kernel
theorem s1_split (n x : Nat) : s1 (n + 1) x = 256 * s1 n (x / 256) + t1 (x % 256) := by
  unfold s1 t1
  simp only [rep]
  rw [and_split _ _ _ (by decide), and_split _ _ _ (by decide)]
  have e1 : x / 2 / 256 = x / 256 / 2 := by omega
  have e2 : x / 2 % 256 = (x % 256) / 2 + 128 * (x / 256 % 2) := by omega
  rw [e1, e2, b1 _ (by omega) _ (by omega)]
  omega
theorem s2_split (n x : Nat) : s2 (n + 1) x = 256 * s2 n (x / 256) + t2 (x % 256) := by
  unfold s2 t2
  simp only [rep]
  rw [and_split _ _ _ (by decide), and_split _ _ _ (by decide)]
  have e1 : x / 4 / 256 = x / 256 / 4 := by omega
  have e2 : x / 4 % 256 = (x % 256) / 4 + 64 * (x / 256 % 4) := by omega
  rw [e1, e2, b2 _ (by omega) _ (by omega)]
  omega
theorem s2_low (n x : Nat) : s2 n x % 16 ≤ 6 := by
  cases n with
  | zero => simp [s2, rep]
  | succ n =>
    rw [s2_split]
    have := (t2_le (x % 256) (by omega)).2
    omega
theorem s3_split (n Y B : Nat) (hB : B ≤ 102) (hY : Y % 16 ≤ 6) : s3 (n + 1) (256 * Y + B) = 256 * s3 n Y + t3 B := by
  unfold s3 t3
  simp only [rep]
  rw [and_split _ _ _ (by decide)]
  have e1 : ((256 * Y + B) / 16 + (256 * Y + B)) / 256 = Y / 16 + Y := by omega
  have e2 : ((256 * Y + B) / 16 + (256 * Y + B)) % 256 = B / 16 + B + 16 * (Y % 16) := by omega
  rw [e1, e2, b3 _ hB _ hY]
def pc (n x : Nat) : Nat := s3 n (s2 n (s1 n x))
def p8 (b : Nat) : Nat := t3 (t2 (t1 b))
theorem pc_split (n x : Nat) : pc (n + 1) x = 256 * pc n (x / 256) + p8 (x % 256) := by
  unfold pc p8
  have h1 := t1_le (x % 256) (by omega)
  have h2 := (t2_le (t1 (x % 256)) (by omega)).1
  rw [s1_split, s2_split]
  have e1 : (256 * s1 n (x / 256) + t1 (x % 256)) / 256 = s1 n (x / 256) := by omega
  have e2 : (256 * s1 n (x / 256) + t1 (x % 256)) % 256 = t1 (x % 256) := by omega
  rw [e1, e2, s3_split _ _ _ h2 (s2_low _ _)]
theorem p8_cnt : ∀ b, b < 256 → p8 b = cnt b.testBit 8 := by decide +kernel
theorem cnt_byte (n x : Nat) : cnt x.testBit (8 * (n + 1)) = p8 (x % 256) + cnt (x / 256).testBit (8 * n) := by
  rw [show 8 * (n + 1) = 8 + 8 * n by omega, cnt_add, p8_cnt _ (by omega)]
  congr 1
  · exact cnt_congr _ fun i hi => by rw [show (256 : Nat) = 2 ^ 8 by rfl, Nat.testBit_mod_two_pow]; simp [hi]
  · exact cnt_congr _ fun i hi => by rw [show (256 : Nat) = 2 ^ 8 by rfl, Nat.testBit_div_two_pow, Nat.add_comm]
/-- What math/bits.OnesCount64 reckons. -/
def ones (x : Nat) : Nat :=
  let y := pc 8 x
  let y1 := y + y / 256
  let y2 := y1 + y1 / 65536
  let y3 := y2 + y2 / 4294967296
  y3 % 128
theorem p8_le (b : Nat) (h : b < 256) : p8 b ≤ 8 := by rw [p8_cnt b h]; exact cnt_le _ _
theorem pc_zero (x : Nat) : pc 0 x = 0 := by unfold pc s3 rep; simp
theorem ones_eq (x : Nat) : ones x = cnt x.testBit 64 := by
  have hc : cnt x.testBit 64 = p8 (x % 256) + (p8 (x / 256 % 256) + (p8 (x / 256 / 256 % 256) + (p8 (x / 256 / 256 / 256 % 256) + (p8 (x / 256 / 256 / 256 / 256 % 256) + (p8 (x / 256 / 256 / 256 / 256 / 256 % 256) + (p8 (x / 256 / 256 / 256 / 256 / 256 / 256 % 256) + (p8 (x / 256 / 256 / 256 / 256 / 256 / 256 / 256 % 256) + 0))))))) := by
    rw [show 64 = 8 * (7 + 1) by rfl, cnt_byte, cnt_byte 6, cnt_byte 5, cnt_byte 4, cnt_byte 3, cnt_byte 2, cnt_byte 1, cnt_byte 0]
    rfl
  have hp : pc 8 x = 256 * (256 * (256 * (256 * (256 * (256 * (256 * (256 * 0 + p8 (x / 256 / 256 / 256 / 256 / 256 / 256 / 256 % 256)) + p8 (x / 256 / 256 / 256 / 256 / 256 / 256 % 256)) + p8 (x / 256 / 256 / 256 / 256 / 256 % 256)) + p8 (x / 256 / 256 / 256 / 256 % 256)) + p8 (x / 256 / 256 / 256 % 256)) + p8 (x / 256 / 256 % 256)) + p8 (x / 256 % 256)) + p8 (x % 256) := by
    rw [pc_split 7, pc_split 6, pc_split 5, pc_split 4, pc_split 3, pc_split 2, pc_split 1, pc_split 0, pc_zero]
  have q0 := p8_le (x % 256) (by omega)
  have q1 := p8_le (x / 256 % 256) (by omega)
  have q2 := p8_le (x / 256 / 256 % 256) (by omega)
  have q3 := p8_le (x / 256 / 256 / 256 % 256) (by omega)
  have q4 := p8_le (x / 256 / 256 / 256 / 256 % 256) (by omega)
  have q5 := p8_le (x / 256 / 256 / 256 / 256 / 256 % 256) (by omega)
  have q6 := p8_le (x / 256 / 256 / 256 / 256 / 256 / 256 % 256) (by omega)
  have q7 := p8_le (x / 256 / 256 / 256 / 256 / 256 / 256 / 256 % 256) (by omega)
  unfold ones
  rw [hc, hp]
  clear hc hp
  generalize p8 (x % 256) = a0 at *
  generalize p8 (x / 256 % 256) = a1 at *
  generalize p8 (x / 256 / 256 % 256) = a2 at *
  generalize p8 (x / 256 / 256 / 256 % 256) = a3 at *
  generalize p8 (x / 256 / 256 / 256 / 256 % 256) = a4 at *
  generalize p8 (x / 256 / 256 / 256 / 256 / 256 % 256) = a5 at *
  generalize p8 (x / 256 / 256 / 256 / 256 / 256 / 256 % 256) = a6 at *
  generalize p8 (x / 256 / 256 / 256 / 256 / 256 / 256 / 256 % 256) = a7 at *
  simp only
  have e1 : 256 * (256 * (256 * (256 * (256 * (256 * (256 * (256 * 0 + a7) + a6) + a5) + a4) + a3) + a2) + a1) + a0 + (256 * (256 * (256 * (256 * (256 * (256 * (256 * (256 * 0 + a7) + a6) + a5) + a4) + a3) + a2) + a1) + a0) / 256 = 256 * (256 * (256 * (256 * (256 * (256 * (256 * a7 + (a6 + a7)) + (a5 + a6)) + (a4 + a5)) + (a3 + a4)) + (a2 + a3)) + (a1 + a2)) + (a0 + a1) := by omega
  rw [e1]
  clear e1
  have e2 : 256 * (256 * (256 * (256 * (256 * (256 * (256 * a7 + (a6 + a7)) + (a5 + a6)) + (a4 + a5)) + (a3 + a4)) + (a2 + a3)) + (a1 + a2)) + (a0 + a1) + (256 * (256 * (256 * (256 * (256 * (256 * (256 * a7 + (a6 + a7)) + (a5 + a6)) + (a4 + a5)) + (a3 + a4)) + (a2 + a3)) + (a1 + a2)) + (a0 + a1)) / 65536 = 256 * (256 * (256 * (256 * (256 * (256 * (256 * a7 + (a6 + a7)) + (a5 + a6 + a7)) + (a4 + a5 + a6 + a7)) + (a3 + a4 + a5 + a6)) + (a2 + a3 + a4 + a5)) + (a1 + a2 + a3 + a4)) + (a0 + a1 + a2 + a3) := by omega
  rw [e2]
  clear e2
  obtain ⟨H, hH⟩ : ∃ H, H = 256 * (256 * (256 * a7 + (a6 + a7)) + (a5 + a6 + a7)) + (a4 + a5 + a6 + a7) := ⟨_, rfl⟩
  obtain ⟨L, hL⟩ : ∃ L, L = 256 * (256 * (256 * (a3 + a4 + a5 + a6) + (a2 + a3 + a4 + a5)) + (a1 + a2 + a3 + a4)) + (a0 + a1 + a2 + a3) := ⟨_, rfl⟩
  have e3 : 256 * (256 * (256 * (256 * (256 * (256 * (256 * a7 + (a6 + a7)) + (a5 + a6 + a7)) + (a4 + a5 + a6 + a7)) + (a3 + a4 + a5 + a6)) + (a2 + a3 + a4 + a5)) + (a1 + a2 + a3 + a4)) + (a0 + a1 + a2 + a3) = 4294967296 * H + L := by rw [hH, hL]; omega
  have hL1 : L < 4294967296 := by omega
  rw [e3, show (4294967296 * H + L) / 4294967296 = H by omega]
  have h1 : H % 128 = (a4 + a5 + a6 + a7) % 128 := by rw [hH]; omega
  have h2 : L % 128 = (a0 + a1 + a2 + a3) % 128 := by rw [hL]; omega
  clear e3 hH hL hL1
  omega
end Go.Proofs.Ythjkeefdeeljoaa.Bt
/- Rows of truths in words, in plain Lean. -/
namespace Go.Proofs.Ythjkeefdeeljoaa.Bt

/-- The j-th truth. -/
def tr (l : List Bool) (j : Nat) : Bool := l.getD j false
theorem tr_lt {l : List Bool} {j : Nat} (h : j < l.length) : tr l j = nth l j := by rw [nth_eq _ _ h]; unfold tr; simp [h]
theorem tr_ge {l : List Bool} {j : Nat} (h : l.length ≤ j) : tr l j = false := by unfold tr; simp [h]
theorem tr_set (l : List Bool) (j : Nat) (b : Bool) (i : Nat) (h : j < l.length) : tr (l.set j b) i = if i = j then b else tr l i := by
  unfold tr
  by_cases e : i = j
  · subst e; simp [h]
  · rw [if_neg e]; simp [Ne.symm e]
theorem list_ext (l m : List Bool) (hl : l.length = m.length) (h : ∀ j, tr l j = tr m j) : l = m := by
  apply List.ext_getElem hl
  intro i h1 h2
  have := h i
  rwa [tr_lt h1, tr_lt h2, nth_eq _ _ h1, nth_eq _ _ h2] at this

def spanW (lo hi : Nat) : Nat := if hi ≤ lo then 0 else (18446744073709551615 * 2 ^ lo % 18446744073709551616) &&& (18446744073709551615 / 2 ^ (64 - hi))
theorem full_bit (i : Nat) : Nat.testBit 18446744073709551615 i = decide (i < 64) := by
  rw [show (18446744073709551615 : Nat) = 2 ^ 64 - 1 by rfl, Nat.testBit_two_pow_sub_one]
theorem spanW_bit (lo hi i : Nat) (h : hi ≤ 64) : (spanW lo hi).testBit i = (decide (lo ≤ i) && decide (i < hi)) := by
  unfold spanW
  by_cases c : hi ≤ lo
  · rw [if_pos c, Nat.zero_testBit]
    by_cases c1 : lo ≤ i
    · simp [c1]; omega
    · simp [c1]
  · rw [if_neg c, Nat.testBit_and, show (18446744073709551616 : Nat) = 2 ^ 64 by rfl, Nat.testBit_mod_two_pow, Nat.testBit_mul_two_pow, Nat.testBit_div_two_pow, full_bit, full_bit]
    by_cases c1 : lo ≤ i
    · by_cases c2 : i < hi
      · simp [c1, c2]; omega
      · simp [c1, c2]; omega
    · simp [c1]
def spanN (k f t : Nat) : Nat := spanW (f - 64 * k) (min (t - 64 * k) 64)
theorem spanN_bit (k f t i : Nat) : (spanN k f t).testBit i = (decide (i < 64) && (decide (f ≤ 64 * k + i) && decide (64 * k + i < t))) := by
  unfold spanN
  rw [spanW_bit _ _ _ (by omega)]
  by_cases c1 : f ≤ 64 * k + i
  · have d1 : f - 64 * k ≤ i := by omega
    by_cases c2 : i < 64
    · by_cases c3 : 64 * k + i < t
      · have : i < min (t - 64 * k) 64 := by omega
        simp only [c1, d1, c2, c3, this, decide_true, Bool.and_self]
      · have : ¬ i < min (t - 64 * k) 64 := by omega
        simp only [c3, this, decide_false, Bool.and_false]
    · have : ¬ i < min (t - 64 * k) 64 := by omega
      simp only [c2, this, decide_false, Bool.and_false, Bool.false_and]
  · have d1 : ¬ f - 64 * k ≤ i := by omega
    simp only [c1, d1, decide_false, Bool.and_false, Bool.false_and]
theorem lt_of_bits (x : Nat) (h : ∀ i, 64 ≤ i → x.testBit i = false) : x < 18446744073709551616 := by
  have := Nat.lt_pow_two_of_testBit (n := 64) x fun i hi => h i hi
  exact this
theorem spanN_lt (k f t : Nat) : spanN k f t < 18446744073709551616 := lt_of_bits _ fun i hi => by
  rw [spanN_bit]
  have : ¬ i < 64 := by omega
  simp only [this, decide_false, Bool.false_and]

/-- Words that hold these truths. -/
structure Rep (W : List Nat) (l : List Bool) : Prop where
  len : W.length = (l.length + 63) / 64
  bit : ∀ k, k < W.length → ∀ i, (nth W k).testBit i = (decide (i < 64) && tr l (64 * k + i))
section
variable {W : List Nat} {l : List Bool}
theorem Rep.lt (h : Rep W l) (k : Nat) (hk : k < W.length) : nth W k < 18446744073709551616 := lt_of_bits _ fun i hi => by
  rw [h.bit k hk]
  have : ¬ i < 64 := by omega
  simp only [this, decide_false, Bool.false_and]
theorem Rep.put (h : Rep W l) (k x : Nat) (l2 : List Bool) (hk : k < W.length) (hl : l2.length = l.length) (hx : ∀ i, x.testBit i = (decide (i < 64) && tr l2 (64 * k + i))) (ho : ∀ j, j / 64 ≠ k → tr l2 j = tr l j) : Rep (W.set k x) l2 := by
  refine ⟨by rw [List.length_set, hl, h.len], fun k' hk' i => ?_⟩
  rw [List.length_set] at hk'
  have hk2 : k' < (W.set k x).length := by rw [List.length_set]; exact hk'
  by_cases e : k' = k
  · subst e
    rw [nth_eq _ _ hk2, List.getElem_set_self]
    exact hx i
  · rw [nth_eq _ _ hk2, List.getElem_set_ne (Ne.symm e), ← nth_eq _ _ hk', h.bit k' hk']
    by_cases c : i < 64
    · rw [ho _ (by omega)]
    · simp only [c, decide_false, Bool.false_and]
theorem Rep.set (h : Rep W l) (j : Nat) (b : Bool) (hj : j < l.length) (x : Nat) (hx : x = if b then nth W (j / 64) ||| 2 ^ (j % 64) else nth W (j / 64) &&& (18446744073709551615 - 2 ^ (j % 64))) : Rep (W.set (j / 64) x) (l.set j b) := by
  have hk : j / 64 < W.length := by rw [h.len]; omega
  refine h.put _ _ _ hk (by simp) (fun i => ?_) (fun i hi => ?_)
  · subst hx
    rw [tr_set _ _ _ _ hj]
    have e : (64 * (j / 64) + i = j) ↔ j % 64 = i := by omega
    cases b with
    | true =>
      rw [if_pos rfl, Nat.testBit_or, h.bit _ hk, Nat.testBit_two_pow]
      by_cases c : j % 64 = i
      · have : i < 64 := by omega
        simp only [c, e.2 c, this, if_true, decide_true, Bool.or_true, Bool.and_self]
      · rw [if_neg (fun k => c (e.1 k))]
        simp only [c, decide_false, Bool.or_false]
    | false =>
      have hp : 2 ^ (j % 64) < 2 ^ 64 := Nat.pow_lt_pow_right (by omega) (by omega)
      rw [if_neg (by simp), Nat.testBit_and, h.bit _ hk, show (18446744073709551615 - 2 ^ (j % 64) : Nat) = 2 ^ 64 - (2 ^ (j % 64) + 1) by omega, Nat.testBit_two_pow_sub_succ hp, Nat.testBit_two_pow]
      by_cases c : j % 64 = i
      · simp only [c, e.2 c, if_true, decide_true, Bool.not_true, Bool.and_false]
      · rw [if_neg (fun k => c (e.1 k))]
        simp only [c, decide_false, Bool.not_false, Bool.and_true]
        cases decide (i < 64) <;> simp
  · rw [tr_set _ _ _ _ hj, if_neg (fun e => hi (by rw [e]))]
theorem Rep.get (h : Rep W l) (j : Nat) (hj : j < l.length) : nth W (j / 64) / 2 ^ (j % 64) % 2 = if tr l j then 1 else 0 := by
  have hk : j / 64 < W.length := by rw [h.len]; omega
  have := h.bit _ hk (j % 64)
  rw [show 64 * (j / 64) + j % 64 = j by omega] at this
  have c : j % 64 < 64 := by omega
  simp only [c, decide_true, Bool.true_and] at this
  rw [← this, Nat.testBit_eq_decide_div_mod_eq]
  by_cases e : nth W (j / 64) / 2 ^ (j % 64) % 2 = 1
  · simp [e]
  · simp [e]; omega

/-- Some of them so. -/
def fillL (l : List Bool) (f t : Nat) (b : Bool) : List Bool := (List.range l.length).map fun j => if f ≤ j ∧ j < t then b else tr l j
theorem fillL_length (l : List Bool) (f t : Nat) (b : Bool) : (fillL l f t b).length = l.length := by simp [fillL]
theorem tr_fillL (l : List Bool) (f t : Nat) (b : Bool) (j : Nat) : tr (fillL l f t b) j = if f ≤ j ∧ j < t ∧ j < l.length then b else tr l j := by
  by_cases h : j < l.length
  · rw [tr_lt (by rw [fillL_length]; exact h), nth_eq _ _ (by rw [fillL_length]; exact h)]
    simp [fillL, h]
  · rw [tr_ge (by rw [fillL_length]; omega), if_neg (by omega), tr_ge (by omega)]
theorem fillL_none (l : List Bool) (f t : Nat) (b : Bool) (h : t ≤ f) : fillL l f t b = l :=
  list_ext _ _ (fillL_length _ _ _ _) fun j => by rw [tr_fillL, if_neg (by omega)]
theorem fillL_all (n : Nat) (b : Bool) : fillL (List.replicate n false) 0 n b = List.replicate n b :=
  list_ext _ _ (by rw [fillL_length]; simp) fun j => by
    rw [tr_fillL]
    unfold tr
    by_cases h : j < n <;> simp [h]
theorem fillL_snoc (l : List Bool) (f t : Nat) (b : Bool) (h1 : f ≤ t) (h2 : t < l.length) : (fillL l f t b).set t b = fillL l f (t + 1) b :=
  list_ext _ _ (by rw [List.length_set, fillL_length, fillL_length]) fun j => by
    rw [tr_set _ _ _ _ (by rw [fillL_length]; exact h2), tr_fillL, tr_fillL]
    by_cases e : j = t
    · subst e; rw [if_pos rfl, if_pos ⟨h1, by omega, h2⟩]
    · rw [if_neg e]
      by_cases c : f ≤ j ∧ j < t ∧ j < l.length
      · rw [if_pos c, if_pos ⟨c.1, by omega, c.2.2⟩]
      · rw [if_neg c, if_neg (by omega)]
theorem Rep.fill (k f t : Nat) (b : Bool) (h : Rep W (fillL l f (min t (64 * k)) b)) (hk : k < W.length) (ht : t ≤ l.length) (x : Nat) (hx : x = if b then nth W k ||| spanN k f t else nth W k &&& (18446744073709551615 - spanN k f t)) : Rep (W.set k x) (fillL l f (min t (64 * (k + 1))) b) := by
  refine h.put _ _ _ hk (by rw [fillL_length, fillL_length]) (fun i => ?_) (fun j hj => ?_)
  · subst hx
    have hb : (nth W k).testBit i = (decide (i < 64) && tr l (64 * k + i)) := by
      rw [h.bit k hk, tr_fillL, if_neg (by omega)]
    rw [tr_fillL]
    by_cases c : i < 64
    · have e : (f ≤ 64 * k + i ∧ 64 * k + i < min t (64 * (k + 1)) ∧ 64 * k + i < l.length) ↔ (f ≤ 64 * k + i ∧ 64 * k + i < t) := by omega
      cases b with
      | true =>
        rw [if_pos rfl, Nat.testBit_or, hb, spanN_bit]
        by_cases d : f ≤ 64 * k + i ∧ 64 * k + i < t
        · rw [if_pos (e.2 d)]; simp only [c, d.1, d.2, decide_true, Bool.and_self, Bool.or_true]
        · rw [if_neg (fun q => d (e.1 q))]
          have : (decide (f ≤ 64 * k + i) && decide (64 * k + i < t)) = false := by
            cases q : (decide (f ≤ 64 * k + i) && decide (64 * k + i < t)) with
            | false => rfl
            | true => simp only [Bool.and_eq_true, decide_eq_true_eq] at q; exact absurd q d
          simp only [this, Bool.and_false, Bool.or_false]
      | false =>
        have hp := spanN_lt k f t
        rw [if_neg (by simp), Nat.testBit_and, hb, show (18446744073709551615 - spanN k f t : Nat) = 2 ^ 64 - (spanN k f t + 1) by omega, Nat.testBit_two_pow_sub_succ hp, spanN_bit]
        by_cases d : f ≤ 64 * k + i ∧ 64 * k + i < t
        · rw [if_pos (e.2 d)]; simp only [c, d.1, d.2, decide_true, Bool.and_self, Bool.not_true, Bool.and_false]
        · rw [if_neg (fun q => d (e.1 q))]
          have : (decide (f ≤ 64 * k + i) && decide (64 * k + i < t)) = false := by
            cases q : (decide (f ≤ 64 * k + i) && decide (64 * k + i < t)) with
            | false => rfl
            | true => simp only [Bool.and_eq_true, decide_eq_true_eq] at q; exact absurd q d
          simp only [this, c, decide_true, Bool.and_false, Bool.not_false, Bool.and_true, Bool.true_and]
    · have hs : (spanN k f t).testBit i = false := by rw [spanN_bit]; simp only [c, decide_false, Bool.false_and]
      simp only [c, decide_false, Bool.false_and] at hb ⊢
      cases b with
      | true => rw [if_pos rfl, Nat.testBit_or, hb, hs]; rfl
      | false => rw [if_neg (by simp), Nat.testBit_and, hb]; rfl
  · rw [tr_fillL, tr_fillL]
    by_cases c : f ≤ j ∧ j < min t (64 * k) ∧ j < l.length
    · rw [if_pos c, if_pos (by omega)]
    · rw [if_neg c, if_neg (by omega)]

/-- How many are so. -/
def countL (l : List Bool) : Nat := cnt (tr l) l.length
theorem Rep.count (h : Rep W l) (k : Nat) (hk : k < W.length) : cnt (tr l) (64 * k) + cnt (nth W k).testBit 64 = cnt (tr l) (64 * (k + 1)) := by
  rw [show 64 * (k + 1) = 64 * k + 64 by omega, cnt_add]
  congr 1
  exact cnt_congr _ fun i hi => by rw [h.bit k hk]; simp only [hi, decide_true, Bool.true_and]
theorem Rep.count_end (h : Rep W l) : cnt (tr l) (64 * W.length) = countL l := by
  have hl := h.len
  obtain ⟨d, hd⟩ : ∃ d, 64 * W.length = l.length + d := ⟨64 * W.length - l.length, by omega⟩
  rw [hd, cnt_add, cnt_none (fun i => tr l (l.length + i)) d fun i _ => tr_ge (by omega)]
  rfl

/-- The first one from a place on that is so. -/
def IsNext (l : List Bool) (f : Nat) (b : Bool) (r : Nat) : Prop := r ≤ l.length ∧ (r < l.length → f ≤ r ∧ tr l r = b) ∧ ∀ i, f ≤ i → i < r → tr l i ≠ b
theorem IsNext.one {f : Nat} {b : Bool} {r r' : Nat} (h : IsNext l f b r) (h' : IsNext l f b r') : r = r' := by
  rcases Nat.lt_trichotomy r r' with c | c | c
  · have := h.2.1 (by have := h'.1; omega)
    exact absurd this.2 (h'.2.2 r this.1 c)
  · exact c
  · have := h'.2.1 (by have := h.1; omega)
    exact absurd this.2 (h.2.2 r' this.1 c)
theorem ctz_bits (x : Nat) (h0 : x ≠ 0) (h : x < 18446744073709551616) : Lib.ctz 64 x < 64 ∧ x.testBit (Lib.ctz 64 x) = true ∧ ∀ j, j < Lib.ctz 64 x → x.testBit j = false := by
  unfold Lib.ctz
  rw [if_neg h0]
  obtain ⟨m, hm, hc⟩ := Lib.ctzFrom_spec 64 x (by omega) h
  refine ⟨hc, ?_, fun j hj => ?_⟩
  · generalize Lib.ctzFrom 64 x = c at *
    rw [hm, Nat.mul_comm, Nat.testBit_mul_two_pow]
    simp [Nat.testBit_zero]
  · generalize Lib.ctzFrom 64 x = c at *
    rw [hm, Nat.mul_comm, Nat.testBit_mul_two_pow]
    have : ¬ c ≤ j := by omega
    simp only [this, decide_false, Bool.false_and]
/-- The word whose lowest bit is looked for. -/
theorem Rep.look (h : Rep W l) (k f : Nat) (b : Bool) (hk : k < W.length) (i : Nat) : (Nat.testBit ((if b then nth W k else 18446744073709551615 ^^^ nth W k) &&& spanN k f l.length) i) = (decide (i < 64) && (decide (f ≤ 64 * k + i) && (decide (64 * k + i < l.length) && (tr l (64 * k + i) == b)))) := by
  rw [Nat.testBit_and, spanN_bit]
  by_cases c : i < 64
  · cases b with
    | true => rw [if_pos rfl, h.bit k hk]; simp only [c, decide_true, Bool.true_and]; cases tr l (64 * k + i) <;> simp
    | false => rw [if_neg (by simp), Nat.testBit_xor, full_bit, h.bit k hk]; simp only [c, decide_true, Bool.true_and]; cases tr l (64 * k + i) <;> simp
  · simp only [c, decide_false, Bool.false_and, Bool.and_false]
theorem Rep.found (h : Rep W l) (k f : Nat) (b : Bool) (hk : k < W.length) (hf : ∀ i, f ≤ i → i < 64 * k → tr l i ≠ b) (x : Nat) (hx : x = (if b then nth W k else 18446744073709551615 ^^^ nth W k) &&& spanN k f l.length) (h0 : x ≠ 0) : x < 18446744073709551616 ∧ Lib.ctz 64 x < 64 ∧ IsNext l f b (64 * k + Lib.ctz 64 x) := by
  have hb := fun i => h.look k f b hk i
  rw [← hx] at hb
  have hlt : x < 18446744073709551616 := lt_of_bits _ fun i hi => by
    rw [hb]
    have : ¬ i < 64 := by omega
    simp only [this, decide_false, Bool.false_and]
  obtain ⟨h1, h2, h3⟩ := ctz_bits x h0 hlt
  have h4 := hb (Lib.ctz 64 x)
  rw [h2] at h4
  have h5 := h4.symm
  simp only [Bool.and_eq_true, decide_eq_true_eq, beq_iff_eq] at h5
  refine ⟨hlt, h1, by omega, fun _ => ⟨h5.2.1, h5.2.2.2⟩, fun i hi hir hb' => ?_⟩
  by_cases c : i < 64 * k
  · exact hf i hi c hb'
  · have h6 := h3 (i - 64 * k) (by omega)
    rw [hb, show 64 * k + (i - 64 * k) = i by omega] at h6
    have q1 : i - 64 * k < 64 := by omega
    have q2 : i < l.length := by omega
    rw [hb'] at h6
    simp [q1, q2, hi] at h6
theorem Rep.unfound (h : Rep W l) (k f : Nat) (b : Bool) (hk : k < W.length) (hf : ∀ i, f ≤ i → i < 64 * k → i < l.length → tr l i ≠ b) (h0 : ((if b then nth W k else 18446744073709551615 ^^^ nth W k) &&& spanN k f l.length) = 0) : ∀ i, f ≤ i → i < 64 * (k + 1) → i < l.length → tr l i ≠ b := fun i hi hik hil hb' => by
  by_cases c : i < 64 * k
  · exact hf i hi c hil hb'
  · have h6 := h.look k f b hk (i - 64 * k)
    rw [h0, Nat.zero_testBit, show 64 * k + (i - 64 * k) = i by omega, hb'] at h6
    have q1 : i - 64 * k < 64 := by omega
    simp [q1, hil, hi] at h6
theorem IsNext.end_ {f : Nat} {b : Bool} (h : ∀ i, f ≤ i → i < l.length → tr l i ≠ b) : IsNext l f b l.length := ⟨Nat.le_refl _, fun c => absurd c (Nat.lt_irrefl _), h⟩
theorem Rep.new (n : Nat) : Rep (List.replicate ((n + 63) / 64) 0) (List.replicate n false) := by
  refine ⟨by simp, fun k hk i => ?_⟩
  rw [List.length_replicate] at hk
  rw [nth_eq _ _ (by simpa using hk), List.getElem_replicate, Nat.zero_testBit]
  unfold tr
  by_cases h : 64 * k + i < n <;> simp [h]
end
end Go.Proofs.Ythjkeefdeeljoaa.Bt
