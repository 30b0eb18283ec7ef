/- The document's rows of truths; Same. -/
import Derived.Test.YtnhieoeiiebjoaaDoorClone
namespace Go.Proofs.YtnhieoeiiebjoaaDoor.Bt
open Go.RowKit
set_option linter.unusedVariables false
set_option linter.unusedSimpArgs false

def rowB (l : List Bool) : Array Value := (l.map Value.bool).toArray
theorem rowB_get (l : List Bool) (i : Nat) (h : i < l.length) : (rowB l)[i]? = some (.bool (tr l i)) := by
  rw [tr_lt h, nth_eq _ _ h]
  simp [rowB, h]
theorem rowB_set (l : List Bool) (i : Nat) (b : Bool) : (rowB l).setIfInBounds i (.bool b) = rowB (l.set i b) := by
  unfold rowB
  apply Array.toList_inj.1
  simp
theorem rowB_made (n : Nat) : madeCells #[Value.bool false] n = rowB (List.replicate n false) := by
  apply Array.toList_inj.1
  rw [toList_madeCells_one]
  simp [rowB]
/-- The document's row: block R. -/
def RowB (w : World) (R : Nat) (l : List Bool) : Prop := Blk w R 4 (rowB l)
section
variable {w w' : World} {R : Nat} {l : List Bool}
theorem RowB.at_ (h : RowB w R l) (i : Nat) (hi : i < l.length) : w.cell? ⟨R, i, none⟩ = some (.bool (tr l i)) := by rw [Blk.cell h, rowB_get l i hi]
theorem RowB.put (h : RowB w R l) (i : Nat) (b : Bool) : RowB (w.setCell ⟨R, i, none⟩ (.bool b)) R (l.set i b) := by
  have := Blk.set h i (.bool b)
  rwa [rowB_set] at this
end
theorem make_bools (m : Nat) (hm : m ≤ 10000000) : ∀ W : World, (Instr.makeSlice 26 (.int .i64 (m : Int)) (.int .i64 (m : Int))).run Tryd.prog W = .ok (.slice (some ⟨W.heap.size, 0, none⟩) m m) (W.alloc (.cells (madeCells #[.bool false] m) 4)) :=
  fun W => run_make_row' 26 4 (.bool false) 1 Tryd.underlying26 (by kernel_rfl) rfl .i64 .i64 m (by omega) (by omega) W
theorem rnew_calls (n : Int) (hn : n ≤ 2097152) (b : Bool) (w : World) : Calls Tryd.prog 6 #[.int .i64 n, .bool b] w fun e w' => e = .returned (.slice (some ⟨w.heap.size, 0, none⟩) n.toNat n.toNat) ∧ RowB w' w.heap.size (List.replicate n.toNat b) ∧ Below w.heap.size w w' := by
  obtain ⟨N, hN, hNb⟩ : ∃ N, n.toNat = N ∧ N ≤ 2097152 := ⟨_, rfl, by omega⟩
  rw [hN]
  have hmk := make_bools N (by omega)
  rw [rowB_made] at hmk
  have hcase : (n < 0 ∧ N = 0) ∨ (0 ≤ n ∧ n = (N : Int)) := by omega
  have hB0 := Lib.hid (bl_alloc (Below.refl w.heap.size w) (.cells (rowB (List.replicate N false)) 4))
  have hR0 := Lib.hid (Blk.new w 4 (rowB (List.replicate N false)))
  clear hN
  rcases hcase with ⟨h1, rfl⟩ | ⟨h1, rfl⟩
  · have hmk0 : ∀ W : World, (Instr.makeSlice 26 (.int .i64 0) (.int .i64 0)).run Tryd.prog W = .ok (.slice (some ⟨W.heap.size, 0, none⟩) 0 0) (W.alloc (.cells (rowB (List.replicate 0 false)) 4)) := hmk
    clear hmk
    go_enter Tryd.func6, Tryd.ntmps6
    go_wp2_with fail
    go_loopw [6] (fun i wr => i = .int .i64 0 ∧ wr = w.alloc (.cells (rowB (List.replicate 0 false)) 4)) (fun _ _ => 0)
    case atStart => exact ⟨rfl, rfl⟩
    case round =>
      obtain ⟨rfl, rfl⟩ := hrel
      go_wp2_with fail
      go_ret
      exact ⟨rfl, hR0.out, hB0.out⟩
  · go_enter Tryd.func6, Tryd.ntmps6
    go_wp2_with fail
    go_loopw [6] (fun i wr => ∃ k : Nat, i = .int .i64 k ∧ k ≤ N ∧ Hid (RowB wr w.heap.size (fillL (List.replicate N false) 0 k b)) ∧ Hid (Below w.heap.size w wr)) (fun i _ => N - (intOf i).toNat)
    case atStart => exact ⟨0, rfl, Nat.zero_le _, Lib.hid (by rw [fillL_none _ _ _ _ (by omega)]; exact hR0.out), hB0⟩
    case round =>
      obtain ⟨k, rfl, hk, HR, HB⟩ := hrel
      by_cases hlt : k < N
      · have hc := HR.out.at_ k (by rw [fillL_length]; simpa using hlt)
        have hf := Blk.frozen HR.out k
        have HR2 := Lib.hid (HR.out.put k b)
        have HB2 := Lib.hid (HB.out.setCell (p := ⟨w.heap.size, k, none⟩) (Nat.le_refl _) (.bool b))
        rw [fillL_snoc _ _ _ _ (by omega) (by simpa using hlt)] at HR2
        generalize tr (fillL (List.replicate N false) 0 k b) k = x at *
        go_wp2_with fail
        go_roundw
        case measure => simp [intOf]; omega
        case rel => exact ⟨k + 1, by go_num, by omega, HR2, HB2⟩
      · obtain rfl : k = N := by omega
        have HR2 := HR.out
        rw [fillL_all] at HR2
        have HR3 := Lib.hid HR2
        clear HR2
        go_wp2_with fail
        go_ret
        exact ⟨rfl, HR3.out, HB.out⟩
theorem rcount_calls (R : Nat) (l : List Bool) (hl : l.length ≤ 2097152) (w : World) (h : RowB w R l) : Calls Tryd.prog 11 #[.slice (some ⟨R, 0, none⟩) l.length l.length] w fun e w' => e = .returned (.int .i64 (countL l : Nat)) ∧ w = w' := by
  have HR := Lib.hid h
  clear h
  go_enter Tryd.func11, Tryd.ntmps11
  go_wp2_with fail
  go_loopw [3, 4] (fun n i wr => ∃ k : Nat, i = .int .i64 k ∧ n = .int .i64 (cnt (tr l) k : Nat) ∧ k ≤ l.length ∧ wr = w) (fun _ i _ => l.length - (intOf i).toNat)
  case atStart => exact ⟨0, rfl, rfl, Nat.zero_le _, by first | trivial | rfl⟩
  case round =>
    obtain ⟨k, rfl, rfl, hk, rfl⟩ := hrel
    by_cases hlt : k < l.length
    · have hc := HR.out.at_ k hlt
      have hb1 := cnt_le (tr l) k
      have hE : cnt (tr l) (k + 1) = cnt (tr l) k + if tr l k = true then 1 else 0 := rfl
      cases hx : tr l k
      · rw [hx] at hc hE
        have HE := Lib.hid hE
        clear hE hx
        generalize hcc : cnt (tr l) k = cc at *
        go_wp2_with fail
        go_roundw
        case measure => simp [intOf]; omega
        case rel => exact ⟨k + 1, by go_num, by rw [HE.out]; go_num, by omega, by first | trivial | rfl⟩
      · rw [hx] at hc hE
        have HE := Lib.hid hE
        clear hE hx
        generalize hcc : cnt (tr l) k = cc at *
        go_wp2_with fail
        go_roundw
        case measure => simp [intOf]; omega
        case rel => exact ⟨k + 1, by go_num, by rw [HE.out]; go_num, by omega, by first | trivial | rfl⟩
    · obtain rfl : k = l.length := by omega
      go_wp2_with fail
      go_ret
      exact ⟨rfl, by first | trivial | rfl⟩
theorem rnext_calls (R : Nat) (l : List Bool) (f : Int) (b : Bool) (hl : l.length ≤ 2097152) (w : World) (h : RowB w R l) (hf0 : -9223372036854775808 ≤ f) (hf1 : f ≤ 9223372036854775807) : Calls Tryd.prog 13 #[.slice (some ⟨R, 0, none⟩) l.length l.length, .int .i64 f, .bool b] w fun e w' => ∃ r : Nat, e = .returned (.int .i64 r) ∧ IsNext l f.toNat b r ∧ w = w' := by
  have HR := Lib.hid h
  clear h
  obtain ⟨F, hF, hcase⟩ : ∃ F : Nat, f.toNat = F ∧ ((f ≤ 0 ∧ F = 0) ∨ (0 < f ∧ f = (F : Int))) := ⟨_, rfl, by omega⟩
  rw [hF]
  clear hF
  have HF := Lib.hid hcase
  rcases hcase with ⟨h1, rfl⟩ | ⟨h1, rfl⟩
  · go_enter Tryd.func13, Tryd.ntmps13
    go_wp2_with fail
    go_loopw [7] (fun i wr => ∃ k : Nat, i = .int .i64 k ∧ 0 ≤ k ∧ (k ≤ l.length ∨ k = 0) ∧ wr = w ∧ Hid (∀ i, 0 ≤ i → i < k → tr l i ≠ b)) (fun i _ => l.length - (intOf i).toNat)
    case atStart => exact ⟨0, rfl, Nat.le_refl _, .inr rfl, by first | trivial | rfl, Lib.hid (fun i h1 h2 => by omega)⟩
    case round =>
      obtain ⟨k, rfl, hk0, hk1, rfl, HN⟩ := hrel
      by_cases hlt : k < l.length
      · have hc := HR.out.at_ k hlt
        by_cases hx : tr l k = b
        · have HX := Lib.hid hx
          rw [hx] at hc
          have hbb : (b == b) = true := by simp
          clear hx
          go_wp2_with fail
          go_ret
          exact ⟨k, rfl, ⟨by omega, fun _ => ⟨hk0, HX.out⟩, HN.out⟩, by first | trivial | rfl⟩
        · have hbb : (tr l k == b) = false := by simpa using hx
          have HN2 : Hid (∀ i, 0 ≤ i → i < k + 1 → tr l i ≠ b) := Lib.hid (fun i h1 h2 => by
            by_cases e : i = k
            · rw [e]; exact hx
            · exact HN.out i h1 (by omega))
          clear hx
          generalize tr l k = x at *
          go_wp2_with fail
          go_roundw
          case measure => simp [intOf]; omega
          case rel => exact ⟨k + 1, by go_num, by omega, .inl (by omega), by first | trivial | rfl, HN2⟩
      · go_wp2_with fail
        go_ret
        exact ⟨l.length, rfl, IsNext.end_ (fun i h1 h2 => HN.out i h1 (by omega)), by first | trivial | rfl⟩
  · go_enter Tryd.func13, Tryd.ntmps13
    go_wp2_with fail
    go_loopw [7] (fun i wr => ∃ k : Nat, i = .int .i64 k ∧ F ≤ k ∧ (k ≤ l.length ∨ k = F) ∧ wr = w ∧ Hid (∀ i, F ≤ i → i < k → tr l i ≠ b)) (fun i _ => l.length - (intOf i).toNat)
    case atStart => exact ⟨F, rfl, Nat.le_refl _, .inr rfl, by first | trivial | rfl, Lib.hid (fun i h1 h2 => by omega)⟩
    case round =>
      obtain ⟨k, rfl, hk0, hk1, rfl, HN⟩ := hrel
      by_cases hlt : k < l.length
      · have hc := HR.out.at_ k hlt
        by_cases hx : tr l k = b
        · have HX := Lib.hid hx
          rw [hx] at hc
          have hbb : (b == b) = true := by simp
          clear hx
          go_wp2_with fail
          go_ret
          exact ⟨k, rfl, ⟨by omega, fun _ => ⟨hk0, HX.out⟩, HN.out⟩, by first | trivial | rfl⟩
        · have hbb : (tr l k == b) = false := by simpa using hx
          have HN2 : Hid (∀ i, F ≤ i → i < k + 1 → tr l i ≠ b) := Lib.hid (fun i h1 h2 => by
            by_cases e : i = k
            · rw [e]; exact hx
            · exact HN.out i h1 (by omega))
          clear hx
          generalize tr l k = x at *
          go_wp2_with fail
          go_roundw
          case measure => simp [intOf]; omega
          case rel => exact ⟨k + 1, by go_num, by omega, .inl (by omega), by first | trivial | rfl, HN2⟩
      · go_wp2_with fail
        go_ret
        exact ⟨l.length, rfl, IsNext.end_ (fun i h1 h2 => HN.out i h1 (by omega)), by first | trivial | rfl⟩
end Go.Proofs.YtnhieoeiiebjoaaDoor.Bt
