/- New, Count, Next, Clone. -/
import Derived.Test.YthjkeefdeeljoaaPk34
import Derived.Test.YthjkeefdeeljoaaPk5
import Derived.Shelf.Abstract
namespace Go.Proofs.Ythjkeefdeeljoaa.Bt
open Go.RowKit
set_option linter.unusedVariables false
set_option linter.unusedSimpArgs false

/-- What New is given, as a number of truths. -/
def newN (n : Int) : Nat := (min (max n 0) 2097152).toNat
theorem make_words (m : Nat) (hm : m ≤ 10000000) : ∀ W : World, (Instr.makeSlice 147 (.int .i64 (m : Int)) (.int .i64 (m : Int))).run Try.prog W = .ok (.slice (some ⟨W.heap.size, 0, none⟩) m m) (W.alloc (.cells (madeCells #[.int .u64 0] m) 151)) :=
  fun W => run_make_row' 147 151 (.int .u64 0) 8 Try.underlying147 (by kernel_rfl) rfl .i64 .i64 m (by omega) (by omega) W
/-- What New lays, ahead of Fill. -/
theorem made_mask (N : Nat) (hN : N ≤ 2097152) (w : World) : MaskW ((w.alloc (.cells (madeCells #[.int .u64 0] ((N + 63) / 64)) 151)).alloc (.cells #[.slice (some ⟨w.heap.size, 0, none⟩) ((N + 63) / 64) ((N + 63) / 64), .int .i64 (N : Nat)] 149)) (w.heap.size + 1) w.heap.size ((N + 63) / 64) (madeCells #[.int .u64 0] ((N + 63) / 64)) (List.replicate ((N + 63) / 64) 0) (List.replicate N false) := by
  refine ⟨Rep.new N, ?_, (Blk.new w _ _).alloc _, fun i hi => ?_, by simpa using hN⟩
  · have := Blk.new' (w := w.alloc (.cells (madeCells #[.int .u64 0] ((N + 63) / 64)) 151)) (H := w.heap.size + 1) (by simp) 149 #[.slice (some ⟨w.heap.size, 0, none⟩) ((N + 63) / 64) ((N + 63) / 64), .int .i64 (N : Nat)]
    simpa using this
  · have hi' : i < (N + 63) / 64 := by simpa using hi
    rw [nth_eq _ _ hi, List.getElem_replicate]
    have e : (madeCells #[Value.int .u64 0] ((N + 63) / 64))[i]? = (madeCells #[Value.int .u64 0] ((N + 63) / 64)).toList[i]? := by simp
    rw [e, toList_madeCells_one, List.getElem?_replicate, if_pos hi']
    rfl
theorem new_calls (n : Int) (hn : n ≤ 2097152) (b : Bool) (w : World) : Calls Try.prog 99 #[.int .i64 n, .bool b] w fun e w' => e = .returned (.pointer (some ⟨w.heap.size + 1, 0, none⟩)) ∧ Mask w.heap.size w' (w.heap.size + 1) (List.replicate n.toNat b) ∧ Below w.heap.size w w' := by
  obtain ⟨N, hN, hNb⟩ : ∃ N, n.toNat = N ∧ N ≤ 2097152 := ⟨_, rfl, by omega⟩
  rw [hN]
  have HN := Lib.hid hN
  have HWD := Lib.hid (fun w => words_calls N (by omega) w)
  have hmk := make_words ((N + 63) / 64) (by omega)
  have HMM := Lib.hid (made_mask N hNb w)
  have HB := Lib.hid (bl_alloc (bl_alloc (Below.refl w.heap.size w) (.cells (madeCells #[.int .u64 0] ((N + 63) / 64)) 151)) (.cells #[.slice (some ⟨w.heap.size, 0, none⟩) ((N + 63) / 64) ((N + 63) / 64), .int .i64 (N : Nat)] 149))
  have HF := Lib.hid (fun W cs hW => fill_yes (w.heap.size + 1) w.heap.size ((N + 63) / 64) cs (List.replicate ((N + 63) / 64) 0) (List.replicate N false) 0 N b W hW (by omega) (by simp))
  have hcase : (n < 0 ∧ N = 0) ∨ (0 ≤ n ∧ n = (N : Int)) := by omega
  clear hN
  rcases hcase with ⟨h1, rfl⟩ | ⟨h1, rfl⟩
  · simp at hmk
    go_enter Try.func99, Try.ntmps99
    go_wp2_with fail
    refine (HWD.out _).mono ?_
    rintro e w' ⟨rfl, rfl⟩
    go_wp2_with fail
    refine (HF.out _ _ HMM.out).mono ?_
    rintro e w' ⟨rfl, ⟨cs', W', hM⟩, hK, hO⟩
    go_wp2_with fail
    go_ret
    refine ⟨rfl, ⟨_, _, _, _, by have := hM; rwa [fillL_all] at this, by omega, by omega⟩, HB.out.trans (hO.below (by simp; omega) (by omega))⟩
  · rw [show (((N + 63) / 64 : Nat) : Int) = ((N : Int) + 63) / 64 by omega] at hmk
    go_enter Try.func99, Try.ntmps99
    go_wp2_with fail
    refine (HWD.out _).mono ?_
    rintro e w' ⟨rfl, rfl⟩
    go_wp2_with fail
    refine (HF.out _ _ HMM.out).mono ?_
    rintro e w' ⟨rfl, ⟨cs', W', hM⟩, hK, hO⟩
    go_wp2_with fail
    go_ret
    refine ⟨rfl, ⟨_, _, _, _, by have := hM; rwa [fillL_all] at this, by omega, by omega⟩, HB.out.trans (hO.below (by simp; omega) (by omega))⟩
end Go.Proofs.Ythjkeefdeeljoaa.Bt
