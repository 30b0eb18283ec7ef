/- math/bits: OnesCount64, TrailingZeros64. -/
import Derived.Test.YtnhieoeiiebjoaaDoorBits
import Derived.Laws.Bits128
namespace Go.Proofs.YtnhieoeiiebjoaaDoor.Bt
open Go.RowKit
set_option linter.unusedVariables false
set_option linter.unusedSimpArgs false

theorem rep_vals : rep 85 8 = 6148914691236517205 ∧ rep 51 8 = 3689348814741910323 ∧ rep 15 8 = 1085102592571150095 := by decide +kernel
theorem and_le_right' (a b : Nat) : a &&& b ≤ b := Nat.and_le_right
set_option maxRecDepth 100000 in
theorem ones_calls (x : Nat) (hx : x < 18446744073709551616) (w : World) : Calls Tryd.prog 23 #[.int .u64 (x : Nat)] w fun e w' => e = .returned (.int .i64 (cnt x.testBit 64 : Nat)) ∧ w = w' := by
  obtain ⟨r1, r2, r3⟩ := rep_vals
  have ho := ones_eq x
  unfold ones pc s3 at ho
  have hA1 : x / 2 &&& 6148914691236517205 ≤ 6148914691236517205 := Nat.and_le_right
  have hA2 : x &&& 6148914691236517205 ≤ 6148914691236517205 := Nat.and_le_right
  have q1 : bits .and .u64 ((x : Int) / 2) 6148914691236517205 = ((x / 2 &&& 6148914691236517205 : Nat) : Int) := u64_and_nat (x / 2) 6148914691236517205 (by omega) (by omega)
  have q2 : bits .and .u64 (x : Int) 6148914691236517205 = ((x &&& 6148914691236517205 : Nat) : Int) := u64_and_nat x 6148914691236517205 (by omega) (by omega)
  have h1 : s1 8 x = (x / 2 &&& 6148914691236517205) + (x &&& 6148914691236517205) := by unfold s1; rw [r1]
  rw [h1] at ho
  clear h1
  obtain ⟨Y1, hY1⟩ : ∃ Y1, (x / 2 &&& 6148914691236517205) + (x &&& 6148914691236517205) = Y1 := ⟨_, rfl⟩
  rw [hY1] at ho
  generalize (x / 2 &&& 6148914691236517205) = A1 at *
  generalize (x &&& 6148914691236517205) = A2 at *
  have q3 : (A1 : Int) + (A2 : Int) = (Y1 : Int) := by omega
  have hY1b : Y1 ≤ 12297829382473034410 := by omega
  have hB1 : Y1 / 4 &&& 3689348814741910323 ≤ 3689348814741910323 := Nat.and_le_right
  have hB2 : Y1 &&& 3689348814741910323 ≤ 3689348814741910323 := Nat.and_le_right
  have q4 : bits .and .u64 ((Y1 : Int) / 4) 3689348814741910323 = ((Y1 / 4 &&& 3689348814741910323 : Nat) : Int) := u64_and_nat (Y1 / 4) 3689348814741910323 (by omega) (by omega)
  have q5 : bits .and .u64 (Y1 : Int) 3689348814741910323 = ((Y1 &&& 3689348814741910323 : Nat) : Int) := u64_and_nat Y1 3689348814741910323 (by omega) (by omega)
  have h2 : s2 8 Y1 = (Y1 / 4 &&& 3689348814741910323) + (Y1 &&& 3689348814741910323) := by unfold s2; rw [r2]
  rw [h2] at ho
  clear h2
  obtain ⟨Y2, hY2⟩ : ∃ Y2, (Y1 / 4 &&& 3689348814741910323) + (Y1 &&& 3689348814741910323) = Y2 := ⟨_, rfl⟩
  rw [hY2, r3] at ho
  generalize (Y1 / 4 &&& 3689348814741910323) = B1 at *
  generalize (Y1 &&& 3689348814741910323) = B2 at *
  have q6 : (B1 : Int) + (B2 : Int) = (Y2 : Int) := by omega
  have hY2b : Y2 ≤ 7378697629483820646 := by omega
  have hC : (Y2 / 16 + Y2) &&& 1085102592571150095 ≤ 1085102592571150095 := Nat.and_le_right
  have q7 : bits .and .u64 ((Y2 : Int) / 16 + (Y2 : Int)) 1085102592571150095 = (((Y2 / 16 + Y2) &&& 1085102592571150095 : Nat) : Int) := u64_and_nat (Y2 / 16 + Y2) 1085102592571150095 (by omega) (by omega)
  generalize ((Y2 / 16 + Y2) &&& 1085102592571150095) = Y3 at *
  simp only at ho
  have HO := Lib.hid ho
  clear ho r1 r2 r3 hY1 hY2
  go_enter Tryd.func23, Tryd.ntmps23
  go_wp2_with fail
  go_ret
  exact ⟨ret_int (by rw [i64_and127, ← HO.out]; omega), rfl⟩

/-- The library's table in its variable. -/
def TabAt (w : World) : Prop := ∀ j, j < Lib.deBruijn64tab.length → w.cell? ⟨0, j, none⟩ = some (.int .u8 (Lib.deBruijn64tab.getD j 0 : Nat))
theorem tz_key (x a : Nat) (hx : x < 18446744073709551616) (hx0 : x ≠ 0) (hlow : x &&& (18446744073709551616 - x) = a) :
    IntKind.u64.wrap (bits BinOp.and IntKind.u64 (x : Int) (IntKind.u64.wrap (-(x : Int))) * 285870213051353865) / 288230376151711744 = ((a * 285870213051353865 % 18446744073709551616 / 288230376151711744 : Nat) : Int) := by
  have e1 : IntKind.u64.wrap (-(x : Int)) = ((18446744073709551616 - x : Nat) : Int) := by rw [IntKind.wrap_u64]; omega
  rw [e1, u64_and_nat x _ hx (by omega), hlow, IntKind.wrap_u64]
  omega
theorem tz_core (x k idx : Nat) (w : World) (hx0 : ((x : Int) == 0) = false)
    (key : IntKind.u64.wrap (bits BinOp.and IntKind.u64 (x : Int) (IntKind.u64.wrap (-(x : Int))) * 285870213051353865) / 288230376151711744 = (idx : Int))
    (hi : idx < 64) (hk : k < 64) (hcell : w.cell? ⟨0, idx, none⟩ = some (.int .u8 k)) :
    Calls Tryd.prog 24 #[.int .u64 x] w fun e w' => e = .returned (.int .i64 k) ∧ w = w' := by
  go_enter Tryd.func24, Tryd.ntmps24
  go_wp2_with (simp only [key])
  go_ret
  exact ⟨rfl, rfl⟩
theorem tz_calls (x : Nat) (hx : x < 18446744073709551616) (hx0 : x ≠ 0) (w : World) (hT : TabAt w) : Calls Tryd.prog 24 #[.int .u64 x] w fun e w' => e = .returned (.int .i64 (Lib.ctz 64 x : Nat)) ∧ w = w' := by
  obtain ⟨hlow, hk⟩ := Lib.lowest_bit 64 x hx0 hx
  obtain ⟨hi, htab⟩ := Lib.deBruijn64_at _ hk
  have hcell := hT _ hi
  rw [htab] at hcell
  exact tz_core x _ _ w (by simp; omega) (tz_key x _ hx hx0 hlow) hi hk hcell
end Go.Proofs.YtnhieoeiiebjoaaDoor.Bt
