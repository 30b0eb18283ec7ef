/- Contract of ints of law07, and of knows. -/
import Derived.Test.YtilkijioocijcaaRadix
namespace Go.Proofs.Ytilkijioocijcaa.Shp
open Go.RowKit Go.Proofs.Ytilkijioocijcaa.Num
set_option linter.unusedVariables false
set_option linter.unusedSimpArgs false

set_option maxHeartbeats 1000000 in
theorem ints_calls (A C : Option Addr) (ca cc : Nat) (xs ys : List Int) (w : World) (hx : ReadsI w .i64 A xs) (hy : ReadsI w .i64 C ys) (hlx : xs.length ≤ 9223372036854775807) (hly : ys.length ≤ 9223372036854775807) :
    Calls Try.prog 10 #[.slice A xs.length ca, .slice C ys.length cc] w fun e w' => e = .returned (.bool (decide (xs = ys))) ∧ ∃ m, w' = w.drewN m := by
  have HX := Lib.hid hx
  have HY := Lib.hid hy
  clear hx hy
  by_cases hl : xs.length = ys.length
  · have hle : ((xs.length : Int) != (ys.length : Int)) = false := by rw [hl]; simp
    have HL := Lib.hid hl
    clear hl
    go_enter Try.func10, Try.ntmps10
    go_wp2
    go_loopw [5] (fun i wr => ∃ (k m : Nat), i = .int .i64 k ∧ k ≤ xs.length ∧ Hid (xs.take k = ys.take k) ∧ Hid (wr = w.drewN m)) (fun i _ => xs.length - (intOf i).toNat)
    case atStart => exact ⟨0, 0, rfl, Nat.zero_le _, Lib.hid (by simp), Lib.hid rfl⟩
    case round =>
      obtain ⟨k, m, rfl, hk, HT, HW⟩ := hrel
      by_cases hlt : k < xs.length
      · have hlt' : k < ys.length := by rw [← HL.out]; exact hlt
        obtain ⟨b, off, rfl, hc⟩ := HX.out k hlt
        obtain ⟨b', off', rfl, hc'⟩ := HY.out k hlt'
        have h1 := take_nth xs k hlt
        have h2 := take_nth ys k hlt'
        have h3 : nth xs k ≠ nth ys k → xs ≠ ys := fun h e => h (by rw [e])
        have g1 : wr.cell? ⟨b, off + k, none⟩ = some (.int .i64 (nth xs k)) := by rw [HW.out]; exact hc
        have g2 : wr.cell? ⟨b', off' + k, none⟩ = some (.int .i64 (nth ys k)) := by rw [HW.out]; exact hc'
        have H1 := Lib.hid h1
        have H2 := Lib.hid h2
        have H3 := Lib.hid h3
        clear h1 h2 h3 hc hc'
        generalize nth xs k = x at *
        generalize nth ys k = y at *
        by_cases hxy : x = y
        · have e1 : (x != y) = false := by simpa using hxy
          have HXY := Lib.hid hxy
          clear hxy
          go_wp2_with fail
          go_quiet (fail)
          go_wp2_with fail
          go_roundw
          case measure => simp [intOf]; omega
          case rel => exact ⟨k + 1, m + nq, by go_num, by omega, Lib.hid (by rw [H1.out, H2.out, HT.out, HXY.out]), Lib.hid (by rw [HW.out, World.drewN_drewN])⟩
        · have e1 : (x != y) = true := by simpa using hxy
          have HXY := Lib.hid hxy
          clear hxy
          go_wp2_with fail
          go_quiet (fail)
          go_wp2_with fail
          go_ret
          exact ⟨ret_bool (decide_eq_false (H3.out HXY.out)).symm, m + nq, by rw [HW.out, World.drewN_drewN]⟩
      · go_wp2_with fail
        go_ret
        have hxy : xs = ys := by
          have := HT.out
          rwa [List.take_of_length_le (by omega), List.take_of_length_le (by rw [← HL.out]; omega)] at this
        exact ⟨ret_bool (decide_eq_true hxy).symm, m, HW.out⟩
  · have hle : ((xs.length : Int) != (ys.length : Int)) = true := by simp; omega
    have HL := Lib.hid hl
    clear hl
    go_enter Try.func10, Try.ntmps10
    go_wp2
    go_ret
    exact ⟨ret_bool (decide_eq_false (fun e => HL.out (by rw [e]))).symm, 0, rfl⟩
theorem ints_same (A C : Option Addr) (ca cc n : Nat) (xs : List Int) (w : World) (hn : xs.length = n) (hx : ReadsI w .i64 A xs) (hy : ReadsI w .i64 C xs) (hl : n ≤ 9223372036854775807) :
    Calls Try.prog 10 #[.slice A n ca, .slice C n cc] w fun e w' => e = .returned (.bool true) ∧ Below w.heap.size w w' := by
  subst hn
  refine (ints_calls A C ca cc xs xs w hx hy hl hl).mono ?_
  rintro e w' ⟨rfl, m, rfl⟩
  exact ⟨by simp, bl_drewN (Below.refl _ _) _⟩
theorem row_shows {w : World} {b : Nat} {L : List Nat} (h : RowN w b 0 L) : ReadsI w .i64 (some ⟨b, 0, none⟩) (L.map fun (x : Nat) => (x : Int)) := fun i hi => by
  have hi' : i < L.length := by simpa using hi
  refine ⟨b, 0, rfl, ?_⟩
  rw [(h i hi').1, nth_eq _ _ hi, nth_eq _ _ hi']
  simp
theorem k1 : (sizeOk [2, 3] && hasB [2, 3] [1, 2]) = true := by decide
theorem k2 : plc [2, 3] [1, 2] [(2 : Int), 3].length = 5 := by decide
theorem k3 : fits 6 := by unfold fits; omega
theorem k4 : rightB [2, 3] = true := by decide
theorem k5 : ∀ k, k < [(2 : Int), 3].length → tl [2, 3] k ≤ 1048576 := by decide
theorem k6 : sizeV [2, 3] 6 = .tuple #[.int .i64 6, .bool true] := by
  unfold sizeV prodV
  rw [if_pos k4, if_pos (by decide)]; rfl
theorem k7 (A C : Option Addr) (w : World) (hx : ReadsI w .i64 A [2, 3]) (hy : ReadsI w .i64 C [1, 2]) : Calls Try.prog 8 #[.slice A 2 2, .slice C 2 2] w fun e w' => e = .returned (.tuple #[.int .i64 5, .bool true]) ∧ Below w.heap.size w w' := by
  refine (place_calls [2, 3] [1, 2] A C 2 2 w hx hy (by decide) (by decide)).mono ?_
  rintro e w' ⟨rfl, hB⟩
  rw [if_pos k1, k2]
  exact ⟨rfl, hB⟩
theorem k8 (A : Option Addr) (w : World) (hx : ReadsI w .i64 A [2, 3]) : Calls Try.prog 6 #[.slice A 2 2, .int .i64 6] w fun e w' => e = .returned (.tuple #[.int .i64 6, .bool true]) ∧ w = w' := by
  refine (size_calls [2, 3] 6 A 2 w hx (by decide) k3).mono ?_
  rintro e w' ⟨rfl, rfl⟩
  rw [k6]
  exact ⟨rfl, rfl⟩
theorem k9 (A : Option Addr) (w : World) (hx : ReadsI w .i64 A [2, 3]) : Calls Try.prog 19 #[.slice A 2 2] w fun e w' => (∃ b, e = .returned (.slice (some ⟨b, 0, none⟩) 2 2) ∧ ReadsI w' .i64 (some ⟨b, 0, none⟩) [3, 1]) ∧ Below w.heap.size w w' := by
  refine (strides_calls [2, 3] A 2 w hx (by decide) k4 k5).mono ?_
  rintro e w' ⟨⟨b, S, _, rfl, hr, hSl, hSj⟩, hB⟩
  refine ⟨⟨b, rfl, ?_⟩, hB⟩
  have h := row_shows hr
  have e : S = [3, 1] := by
    apply List.ext_getElem
    · rw [hSl]; rfl
    · intro i h1 h2
      rw [← nth_eq S i h1, hSj i (by rw [hSl] at h1; exact h1)]
      have : i = 0 ∨ i = 1 := by simp at h2; omega
      rcases this with rfl | rfl
      · show sp [2, 3] 0 = 3; decide
      · show sp [2, 3] 1 = 1; decide
  rw [e] at h
  exact h
end Go.Proofs.Ytilkijioocijcaa.Shp
