/- ints of law09: two lists of numbers. -/
import Derived.Test.YthjkeefdeeljoaaProd
import Derived.IntWalk
namespace Go.Proofs.Ythjkeefdeeljoaa.Shp
open Go.RowKit Go.Proofs.Ythjkeefdeeljoaa.Num
set_option linter.unusedVariables false
set_option linter.unusedSimpArgs false

set_option maxHeartbeats 1000000 in
theorem ints_calls (A C : Option Addr) (ca cc : Nat) (xs ys : List Int) (w : World) (hx : ReadsI w .i64 A xs) (hy : ReadsI w .i64 C ys) (hlx : xs.length ≤ 9223372036854775807) (hly : ys.length ≤ 9223372036854775807) :
    Calls Try.prog 13 #[.slice A xs.length ca, .slice C ys.length cc] w fun e w' => e = .returned (.bool (decide (xs = ys))) ∧ ∃ m, w' = w.drewN m := by
  have HX := Lib.hid hx
  have HY := Lib.hid hy
  clear hx hy
  by_cases hl : xs.length = ys.length
  · have hle : ((xs.length : Int) != (ys.length : Int)) = false := by rw [hl]; simp
    have HL := Lib.hid hl
    clear hl
    go_enter Try.func13, Try.ntmps13
    go_wp2
    go_loopw [5] (fun i wr => ∃ (k m : Nat), i = .int .i64 k ∧ k ≤ xs.length ∧ Hid (xs.take k = ys.take k) ∧ Hid (wr = w.drewN m)) (fun i _ => xs.length - (intOf i).toNat)
    case atStart => exact ⟨0, 0, rfl, Nat.zero_le _, Lib.hid (by simp), Lib.hid rfl⟩
    case round =>
      obtain ⟨k, m, rfl, hk, HT, HW⟩ := hrel
      by_cases hlt : k < xs.length
      · have hlt' : k < ys.length := by rw [← HL.out]; exact hlt
        obtain ⟨b, off, rfl, hc⟩ := HX.out k hlt
        obtain ⟨b', off', rfl, hc'⟩ := HY.out k hlt'
        have h1 := take_nth xs k hlt
        have h2 := take_nth ys k hlt'
        have h3 : nth xs k ≠ nth ys k → xs ≠ ys := fun h e => h (by rw [e])
        have g1 : wr.cell? ⟨b, off + k, none⟩ = some (.int .i64 (nth xs k)) := by rw [HW.out]; exact hc
        have g2 : wr.cell? ⟨b', off' + k, none⟩ = some (.int .i64 (nth ys k)) := by rw [HW.out]; exact hc'
        have H1 := Lib.hid h1
        have H2 := Lib.hid h2
        have H3 := Lib.hid h3
        clear h1 h2 h3 hc hc'
        generalize nth xs k = x at *
        generalize nth ys k = y at *
        by_cases hxy : x = y
        · have e1 : (x != y) = false := by simpa using hxy
          have HXY := Lib.hid hxy
          clear hxy
          go_wp2_with fail
          go_quiet (fail)
          go_wp2_with fail
          go_roundw
          case measure => simp [intOf]; omega
          case rel => exact ⟨k + 1, m + nq, by go_num, by omega, Lib.hid (by rw [H1.out, H2.out, HT.out, HXY.out]), Lib.hid (by rw [HW.out, World.drewN_drewN])⟩
        · have e1 : (x != y) = true := by simpa using hxy
          have HXY := Lib.hid hxy
          clear hxy
          go_wp2_with fail
          go_quiet (fail)
          go_wp2_with fail
          go_ret
          exact ⟨ret_bool (decide_eq_false (H3.out HXY.out)).symm, m + nq, by rw [HW.out, World.drewN_drewN]⟩
      · go_wp2_with fail
        go_ret
        have hxy : xs = ys := by
          have := HT.out
          rwa [List.take_of_length_le (by omega), List.take_of_length_le (by rw [← HL.out]; omega)] at this
        exact ⟨ret_bool (decide_eq_true hxy).symm, m, HW.out⟩
  · have hle : ((xs.length : Int) != (ys.length : Int)) = true := by simp; omega
    have HL := Lib.hid hl
    clear hl
    go_enter Try.func13, Try.ntmps13
    go_wp2
    go_ret
    exact ⟨ret_bool (decide_eq_false (fun e => HL.out (by rw [e]))).symm, 0, rfl⟩
theorem ints_same (A C : Option Addr) (ca cc n : Nat) (xs : List Int) (w : World) (hn : xs.length = n) (hx : ReadsI w .i64 A xs) (hy : ReadsI w .i64 C xs) (hl : n ≤ 9223372036854775807) :
    Calls Try.prog 13 #[.slice A n ca, .slice C n cc] w fun e w' => e = .returned (.bool true) ∧ Below w.heap.size w w' := by
  subst hn
  refine (ints_calls A C ca cc xs xs w hx hy hl hl).mono ?_
  rintro e w' ⟨rfl, m, rfl⟩
  exact ⟨by simp, bl_drewN (Below.refl _ _) _⟩
end Go.Proofs.Ythjkeefdeeljoaa.Shp
