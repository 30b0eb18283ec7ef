/- Words of bits, in plain Lean: spans, how many are so, the first one. -/
import Derived.Test.YtnhieoeiiebjoaaDoorBase
import Derived.Lib.TrailingZeros
namespace Go.Proofs.YtnhieoeiiebjoaaDoor.Bt

/-- How many of the first n are so. -/
def cnt (f : Nat → Bool) : Nat → Nat
  | 0 => 0
  | n + 1 => cnt f n + if f n = true then 1 else 0
theorem cnt_congr {f g : Nat → Bool} : ∀ n, (∀ i, i < n → f i = g i) → cnt f n = cnt g n
  | 0, _ => rfl
  | n + 1, h => by unfold cnt; rw [cnt_congr n fun i hi => h i (by omega), h n (by omega)]
theorem cnt_add (f : Nat → Bool) (a : Nat) : ∀ b, cnt f (a + b) = cnt f a + cnt (fun i => f (a + i)) b
  | 0 => rfl
  | b + 1 => by
    show cnt f (a + b) + (if f (a + b) = true then 1 else 0) = cnt f a + (cnt (fun i => f (a + i)) b + if f (a + b) = true then 1 else 0)
    rw [cnt_add f a b]; omega
theorem cnt_le (f : Nat → Bool) : ∀ n, cnt f n ≤ n
  | 0 => Nat.le_refl _
  | n + 1 => by unfold cnt; have := cnt_le f n; split <;> omega
theorem cnt_none (f : Nat → Bool) : ∀ n, (∀ i, i < n → f i = false) → cnt f n = 0
  | 0, _ => rfl
  | n + 1, h => by unfold cnt; rw [cnt_none f n fun i hi => h i (by omega), h n (by omega)]; rfl

/-- A byte m, n times. -/
def rep (m : Nat) : Nat → Nat
  | 0 => 0
  | n + 1 => 256 * rep m n + m
theorem and_split (u M m : Nat) (hm : m < 256) : u &&& (256 * M + m) = 256 * (u / 256 &&& M) + (u % 256 &&& m) := by
  have h1 : u % 2 ^ 8 &&& m < 2 ^ 8 := Nat.and_lt_two_pow _ (by omega)
  apply Nat.eq_of_testBit_eq
  intro i
  rw [show (256 : Nat) = 2 ^ 8 by rfl, Nat.testBit_and, Nat.testBit_two_pow_mul_add _ (by omega), Nat.testBit_two_pow_mul_add _ h1, Nat.testBit_and, Nat.testBit_and, Nat.testBit_div_two_pow, Nat.testBit_mod_two_pow]
  by_cases h : i < 8
  · simp [h]
  · simp only [h, if_false]
    rw [show i - 8 + 8 = i by omega]
def t1 (b : Nat) : Nat := (b / 2 &&& 85) + (b &&& 85)
def t2 (b : Nat) : Nat := (b / 4 &&& 51) + (b &&& 51)
def t3 (b : Nat) : Nat := (b / 16 + b) &&& 15
def s1 (n x : Nat) : Nat := (x / 2 &&& rep 85 n) + (x &&& rep 85 n)
def s2 (n x : Nat) : Nat := (x / 4 &&& rep 51 n) + (x &&& rep 51 n)
def s3 (n x : Nat) : Nat := (x / 16 + x) &&& rep 15 n
theorem t1_le : ∀ b, b < 256 → t1 b ≤ 170 := by decide +kernel
theorem t2_le : ∀ b, b < 256 → t2 b ≤ 102 ∧ t2 b % 16 ≤ 6 := by decide +kernel
theorem b1 : ∀ b, b < 256 → ∀ c, c < 2 → (b / 2 + 128 * c) &&& 85 = b / 2 &&& 85 := by decide +kernel
theorem b2 : ∀ b, b < 256 → ∀ c, c < 4 → (b / 4 + 64 * c) &&& 51 = b / 4 &&& 51 := by decide +kernel
theorem b3 : ∀ b, b ≤ 102 → ∀ c, c ≤ 6 → (b / 16 + b + 16 * c) &&& 15 = (b / 16 + b) &&& 15 := by decide +kernel
theorem s1_split (n x : Nat) : s1 (n + 1) x = 256 * s1 n (x / 256) + t1 (x % 256) := by
  unfold s1 t1
  simp only [rep]
  rw [and_split _ _ _ (by decide), and_split _ _ _ (by decide)]
  have e1 : x / 2 / 256 = x / 256 / 2 := by omega
  have e2 : x / 2 % 256 = (x % 256) / 2 + 128 * (x / 256 % 2) := by omega
  rw [e1, e2, b1 _ (by omega) _ (by omega)]
  omega
theorem s2_split (n x : Nat) : s2 (n + 1) x = 256 * s2 n (x / 256) + t2 (x % 256) := by
  unfold s2 t2
  simp only [rep]
  rw [and_split _ _ _ (by decide), and_split _ _ _ (by decide)]
  have e1 : x / 4 / 256 = x / 256 / 4 := by omega
  have e2 : x / 4 % 256 = (x % 256) / 4 + 64 * (x / 256 % 4) := by omega
  rw [e1, e2, b2 _ (by omega) _ (by omega)]
  omega
theorem s2_low (n x : Nat) : s2 n x % 16 ≤ 6 := by
  cases n with
  | zero => simp [s2, rep]
  | succ n =>
    rw [s2_split]
    have := (t2_le (x % 256) (by omega)).2
    omega
theorem s3_split (n Y B : Nat) (hB : B ≤ 102) (hY : Y % 16 ≤ 6) : s3 (n + 1) (256 * Y + B) = 256 * s3 n Y + t3 B := by
  unfold s3 t3
  simp only [rep]
  rw [and_split _ _ _ (by decide)]
  have e1 : ((256 * Y + B) / 16 + (256 * Y + B)) / 256 = Y / 16 + Y := by omega
  have e2 : ((256 * Y + B) / 16 + (256 * Y + B)) % 256 = B / 16 + B + 16 * (Y % 16) := by omega
  rw [e1, e2, b3 _ hB _ hY]
def pc (n x : Nat) : Nat := s3 n (s2 n (s1 n x))
def p8 (b : Nat) : Nat := t3 (t2 (t1 b))
theorem pc_split (n x : Nat) : pc (n + 1) x = 256 * pc n (x / 256) + p8 (x % 256) := by
  unfold pc p8
  have h1 := t1_le (x % 256) (by omega)
  have h2 := (t2_le (t1 (x % 256)) (by omega)).1
  rw [s1_split, s2_split]
  have e1 : (256 * s1 n (x / 256) + t1 (x % 256)) / 256 = s1 n (x / 256) := by omega
  have e2 : (256 * s1 n (x / 256) + t1 (x % 256)) % 256 = t1 (x % 256) := by omega
  rw [e1, e2, s3_split _ _ _ h2 (s2_low _ _)]
theorem p8_cnt : ∀ b, b < 256 → p8 b = cnt b.testBit 8 := by decide +kernel
theorem cnt_byte (n x : Nat) : cnt x.testBit (8 * (n + 1)) = p8 (x % 256) + cnt (x / 256).testBit (8 * n) := by
  rw [show 8 * (n + 1) = 8 + 8 * n by omega, cnt_add, p8_cnt _ (by omega)]
  congr 1
  · exact cnt_congr _ fun i hi => by rw [show (256 : Nat) = 2 ^ 8 by rfl, Nat.testBit_mod_two_pow]; simp [hi]
  · exact cnt_congr _ fun i hi => by rw [show (256 : Nat) = 2 ^ 8 by rfl, Nat.testBit_div_two_pow, Nat.add_comm]
/-- What math/bits.OnesCount64 reckons. -/
def ones (x : Nat) : Nat :=
  let y := pc 8 x
  let y1 := y + y / 256
  let y2 := y1 + y1 / 65536
  let y3 := y2 + y2 / 4294967296
  y3 % 128
theorem p8_le (b : Nat) (h : b < 256) : p8 b ≤ 8 := by rw [p8_cnt b h]; exact cnt_le _ _
theorem pc_zero (x : Nat) : pc 0 x = 0 := by unfold pc s3 rep; simp
theorem ones_eq (x : Nat) : ones x = cnt x.testBit 64 := by
  have hc : cnt x.testBit 64 = p8 (x % 256) + (p8 (x / 256 % 256) + (p8 (x / 256 / 256 % 256) + (p8 (x / 256 / 256 / 256 % 256) + (p8 (x / 256 / 256 / 256 / 256 % 256) + (p8 (x / 256 / 256 / 256 / 256 / 256 % 256) + (p8 (x / 256 / 256 / 256 / 256 / 256 / 256 % 256) + (p8 (x / 256 / 256 / 256 / 256 / 256 / 256 / 256 % 256) + 0))))))) := by
    rw [show 64 = 8 * (7 + 1) by rfl, cnt_byte, cnt_byte 6, cnt_byte 5, cnt_byte 4, cnt_byte 3, cnt_byte 2, cnt_byte 1, cnt_byte 0]
    rfl
  have hp : pc 8 x = 256 * (256 * (256 * (256 * (256 * (256 * (256 * (256 * 0 + p8 (x / 256 / 256 / 256 / 256 / 256 / 256 / 256 % 256)) + p8 (x / 256 / 256 / 256 / 256 / 256 / 256 % 256)) + p8 (x / 256 / 256 / 256 / 256 / 256 % 256)) + p8 (x / 256 / 256 / 256 / 256 % 256)) + p8 (x / 256 / 256 / 256 % 256)) + p8 (x / 256 / 256 % 256)) + p8 (x / 256 % 256)) + p8 (x % 256) := by
    rw [pc_split 7, pc_split 6, pc_split 5, pc_split 4, pc_split 3, pc_split 2, pc_split 1, pc_split 0, pc_zero]
  have q0 := p8_le (x % 256) (by omega)
  have q1 := p8_le (x / 256 % 256) (by omega)
  have q2 := p8_le (x / 256 / 256 % 256) (by omega)
  have q3 := p8_le (x / 256 / 256 / 256 % 256) (by omega)
  have q4 := p8_le (x / 256 / 256 / 256 / 256 % 256) (by omega)
  have q5 := p8_le (x / 256 / 256 / 256 / 256 / 256 % 256) (by omega)
  have q6 := p8_le (x / 256 / 256 / 256 / 256 / 256 / 256 % 256) (by omega)
  have q7 := p8_le (x / 256 / 256 / 256 / 256 / 256 / 256 / 256 % 256) (by omega)
  unfold ones
  rw [hc, hp]
  clear hc hp
  generalize p8 (x % 256) = a0 at *
  generalize p8 (x / 256 % 256) = a1 at *
  generalize p8 (x / 256 / 256 % 256) = a2 at *
  generalize p8 (x / 256 / 256 / 256 % 256) = a3 at *
  generalize p8 (x / 256 / 256 / 256 / 256 % 256) = a4 at *
  generalize p8 (x / 256 / 256 / 256 / 256 / 256 % 256) = a5 at *
  generalize p8 (x / 256 / 256 / 256 / 256 / 256 / 256 % 256) = a6 at *
  generalize p8 (x / 256 / 256 / 256 / 256 / 256 / 256 / 256 % 256) = a7 at *
  simp only
  have e1 : 256 * (256 * (256 * (256 * (256 * (256 * (256 * (256 * 0 + a7) + a6) + a5) + a4) + a3) + a2) + a1) + a0 + (256 * (256 * (256 * (256 * (256 * (256 * (256 * (256 * 0 + a7) + a6) + a5) + a4) + a3) + a2) + a1) + a0) / 256 = 256 * (256 * (256 * (256 * (256 * (256 * (256 * a7 + (a6 + a7)) + (a5 + a6)) + (a4 + a5)) + (a3 + a4)) + (a2 + a3)) + (a1 + a2)) + (a0 + a1) := by omega
  rw [e1]
  clear e1
  have e2 : 256 * (256 * (256 * (256 * (256 * (256 * (256 * a7 + (a6 + a7)) + (a5 + a6)) + (a4 + a5)) + (a3 + a4)) + (a2 + a3)) + (a1 + a2)) + (a0 + a1) + (256 * (256 * (256 * (256 * (256 * (256 * (256 * a7 + (a6 + a7)) + (a5 + a6)) + (a4 + a5)) + (a3 + a4)) + (a2 + a3)) + (a1 + a2)) + (a0 + a1)) / 65536 = 256 * (256 * (256 * (256 * (256 * (256 * (256 * a7 + (a6 + a7)) + (a5 + a6 + a7)) + (a4 + a5 + a6 + a7)) + (a3 + a4 + a5 + a6)) + (a2 + a3 + a4 + a5)) + (a1 + a2 + a3 + a4)) + (a0 + a1 + a2 + a3) := by omega
  rw [e2]
  clear e2
  obtain ⟨H, hH⟩ : ∃ H, H = 256 * (256 * (256 * a7 + (a6 + a7)) + (a5 + a6 + a7)) + (a4 + a5 + a6 + a7) := ⟨_, rfl⟩
  obtain ⟨L, hL⟩ : ∃ L, L = 256 * (256 * (256 * (a3 + a4 + a5 + a6) + (a2 + a3 + a4 + a5)) + (a1 + a2 + a3 + a4)) + (a0 + a1 + a2 + a3) := ⟨_, rfl⟩
  have e3 : 256 * (256 * (256 * (256 * (256 * (256 * (256 * a7 + (a6 + a7)) + (a5 + a6 + a7)) + (a4 + a5 + a6 + a7)) + (a3 + a4 + a5 + a6)) + (a2 + a3 + a4 + a5)) + (a1 + a2 + a3 + a4)) + (a0 + a1 + a2 + a3) = 4294967296 * H + L := by rw [hH, hL]; omega
  have hL1 : L < 4294967296 := by omega
  rw [e3, show (4294967296 * H + L) / 4294967296 = H by omega]
  have h1 : H % 128 = (a4 + a5 + a6 + a7) % 128 := by rw [hH]; omega
  have h2 : L % 128 = (a0 + a1 + a2 + a3) % 128 := by rw [hL]; omega
  clear e3 hH hL hL1
  omega
end Go.Proofs.YtnhieoeiiebjoaaDoor.Bt
