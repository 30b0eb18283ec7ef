/- Plain laws of quotients: Go's own, and those rounded down. No program in sight. -/
import Derived.RowKit
import Derived.Laws.BitsLemmas
namespace Go.Proofs.Ythjkeefdeeljoaa.Num
open Go.RowKit
set_option linter.unusedVariables false

def fits (a : Int) : Prop := -9223372036854775808 ≤ a ∧ a ≤ 9223372036854775807

theorem bmod64 (a : Int) (h : fits a) : a.bmod (2 ^ 64) = a := by
  unfold fits at h
  have e : ((2 ^ 64 : Nat) : Int) = 18446744073709551616 := by decide
  simp only [Int.bmod, e]
  split <;> omega

theorem wrap_fits {a : Int} (h : fits a) : wrap64 a = a := by unfold fits at h; unfold wrap64; omega
theorem fits_wf {a : Int} (h : (Lit.int .i64 a).wf = true) : fits a := by
  simp [Lit.wf, IntKind.min, IntKind.max, IntKind.bits, IntKind.signed] at h
  exact h
theorem wrap_range (a : Int) : fits (wrap64 a) := by unfold fits wrap64; omega

theorem tmod_bd (a b : Int) (h0 : b ≠ 0) : (0 ≤ a → 0 ≤ a.tmod b) ∧ (a ≤ 0 → a.tmod b ≤ 0) ∧ (0 < b → -b < a.tmod b ∧ a.tmod b < b) ∧ (b < 0 → b < a.tmod b ∧ a.tmod b < -b) := by
  refine ⟨fun h => Int.tmod_nonneg b h, fun h => ?_, fun h => ⟨?_, Int.tmod_lt_of_pos a h⟩, fun h => ?_⟩
  · have := Int.tmod_nonneg b (a := -a) (by omega); rw [Int.neg_tmod] at this; omega
  · have := Int.tmod_lt_of_pos (-a) h; rw [Int.neg_tmod] at this; omega
  · have h1 := Int.tmod_lt_of_pos a (b := -b) (by omega)
    have h2 := Int.tmod_lt_of_pos (-a) (b := -b) (by omega)
    rw [Int.neg_tmod] at h2
    rw [Int.tmod_neg] at h1 h2
    omega

/-- Must the quotient go down? -/
def odd (a b : Int) : Prop := (a.tmod b < 0 ∧ 0 ≤ b) ∨ (0 < a.tmod b ∧ b < 0)
instance (a b : Int) : Decidable (odd a b) := by unfold odd; infer_instance
/-- What is left, with b's sign. -/
def fm (a b : Int) : Int := if odd a b then a.tmod b + b else a.tmod b
/-- The quotient, rounded down. -/
def fd (a b : Int) : Int := if odd a b then a.tdiv b - 1 else a.tdiv b

theorem fm_bd (a b : Int) (h0 : b ≠ 0) : (0 < b → 0 ≤ fm a b ∧ fm a b < b) ∧ (b < 0 → b < fm a b ∧ fm a b ≤ 0) := by
  obtain ⟨h1, h2, h3, h4⟩ := tmod_bd a b h0
  unfold fm
  by_cases ho : odd a b
  · rw [if_pos ho]
    unfold odd at ho
    omega
  · rw [if_neg ho]
    unfold odd at ho
    omega
theorem fm_fits (a b : Int) (hb : fits b) (h0 : b ≠ 0) : fits (fm a b) := by
  have := fm_bd a b h0
  unfold fits at *
  omega
theorem tmod_fits (a b : Int) (hb : fits b) (h0 : b ≠ 0) : fits (a.tmod b) := by
  have := tmod_bd a b h0
  unfold fits at *
  omega
theorem fd_fm (a b : Int) : fd a b * b + fm a b = a := by
  have e := Int.tdiv_mul_add_tmod a b
  unfold fd fm
  split
  · rw [Int.sub_mul]; omega
  · exact e
theorem tdiv_fits (a b : Int) (ha : fits a) (hn : b ≠ -1) : fits (a.tdiv b) := by
  unfold fits at *
  by_cases h0 : b = 0
  · subst h0; simp
  · have e : (a.tdiv b).natAbs = a.natAbs / b.natAbs := Int.natAbs_tdiv a b
    have l : a.natAbs / b.natAbs ≤ a.natAbs := Nat.div_le_self _ _
    by_cases h1 : b = 1
    · subst h1; simpa using ha
    · have l2 : a.natAbs / b.natAbs ≤ a.natAbs / 2 := Nat.div_le_div_left (by omega) (by omega)
      omega
theorem fd_fits (a b : Int) (ha : fits a) (hb : fits b) (hn : b ≠ -1) (h0 : b ≠ 0) : fits (fd a b) := by
  have h := tdiv_fits a b ha hn
  unfold fd
  split
  · rename_i ho
    have hb1 : b ≠ 1 := by
      rintro rfl
      unfold odd at ho
      simp at ho
    have e : (a.tdiv b).natAbs = a.natAbs / b.natAbs := Int.natAbs_tdiv a b
    have l2 : a.natAbs / b.natAbs ≤ a.natAbs / 2 := Nat.div_le_div_left (by omega) (by omega)
    unfold fits at *
    omega
  · exact h
theorem fm_neg_one (a : Int) : fm a (-1) = 0 := by
  have := fm_bd a (-1) (by decide)
  omega
theorem fd_neg_one (a : Int) : fd a (-1) = -a := by
  have := fd_fm a (-1)
  rw [fm_neg_one] at this
  omega

/-- The sign of xor. -/
theorem xor_neg (a b : Int) (ha : fits a) (hb : fits b) : (Go.bits .xor .i64 a b < 0) = ((a < 0) ≠ (b < 0)) := by
  unfold Go.bits
  have e : IntKind.i64.bits = 64 := rfl
  simp only [IntKind.wrap_i64]
  have hx : ((BitVec.ofInt 64 a ^^^ BitVec.ofInt 64 b).toNat + 9223372036854775808 : Int) % 18446744073709551616 - 9223372036854775808 = (BitVec.ofInt 64 a ^^^ BitVec.ofInt 64 b).toInt := by
    rw [BitVec.toInt_eq_toNat_cond]
    have := (BitVec.ofInt 64 a ^^^ BitVec.ofInt 64 b).isLt
    split <;> omega
  show (((BitVec.ofInt 64 a ^^^ BitVec.ofInt 64 b).toNat + 9223372036854775808 : Int) % 18446744073709551616 - 9223372036854775808 < 0) = _
  rw [hx]
  have h1 : (BitVec.ofInt 64 a).toInt = a := by rw [BitVec.toInt_ofInt]; exact bmod64 a ha
  have h2 : (BitVec.ofInt 64 b).toInt = b := by rw [BitVec.toInt_ofInt]; exact bmod64 b hb
  have m1 : (BitVec.ofInt 64 a).msb = decide (a < 0) := by rw [BitVec.msb_eq_toInt, h1]
  have m2 : (BitVec.ofInt 64 b).msb = decide (b < 0) := by rw [BitVec.msb_eq_toInt, h2]
  have m3 := BitVec.msb_eq_toInt (x := BitVec.ofInt 64 a ^^^ BitVec.ofInt 64 b)
  rw [BitVec.msb_xor, m1, m2] at m3
  have := congrArg (· = true) m3
  simp only [decide_eq_true_eq] at this
  rw [← this]
  by_cases p : a < 0 <;> by_cases q : b < 0 <;> simp [p, q]

theorem odd_xor (a b : Int) (hb : fits b) (h0 : b ≠ 0) : odd a b ↔ a.tmod b ≠ 0 ∧ Go.bits .xor .i64 (a.tmod b) b < 0 := by
  rw [xor_neg _ _ (tmod_fits a b hb h0) hb]
  unfold odd
  constructor
  · rintro (⟨h1, h2⟩ | ⟨h1, h2⟩)
    · refine ⟨by omega, ?_⟩; simp only [ne_eq, eq_iff_iff, h1, true_iff]; omega
    · refine ⟨by omega, ?_⟩; simp only [ne_eq, eq_iff_iff, h2, iff_true]; omega
  · rintro ⟨h1, h2⟩
    by_cases p : a.tmod b < 0
    · left; refine ⟨p, ?_⟩; simp only [ne_eq, eq_iff_iff, p, true_iff] at h2; omega
    · right; refine ⟨by omega, ?_⟩; simp only [ne_eq, eq_iff_iff, p, false_iff] at h2; omega
theorem fm_yes {a b : Int} (h : odd a b) : fm a b = a.tmod b + b := if_pos h
theorem fm_no {a b : Int} (h : ¬ odd a b) : fm a b = a.tmod b := if_neg h
theorem fd_yes {a b : Int} (h : odd a b) : fd a b = a.tdiv b - 1 := if_pos h
theorem fd_no {a b : Int} (h : ¬ odd a b) : fd a b = a.tdiv b := if_neg h
theorem odd_signs (a b : Int) (h0 : b ≠ 0) : odd a b ↔ (a.tmod b ≠ 0 ∧ decide (a < 0) ≠ decide (b < 0)) := by
  obtain ⟨h1, h2, h3, h4⟩ := tmod_bd a b h0
  unfold odd
  by_cases p : a < 0 <;> by_cases q : b < 0 <;> simp [p, q] <;> omega
theorem odd_signs2 (a b : Int) (h0 : b ≠ 0) : odd a b ↔ (a.tmod b ≠ 0 ∧ decide (a.tmod b < 0) ≠ decide (b < 0)) := by
  unfold odd
  by_cases p : a.tmod b < 0 <;> by_cases q : b < 0 <;> simp [p, q] <;> omega
end Go.Proofs.Ythjkeefdeeljoaa.Num
