/- Contracts of the small functions of package order, and of the document's answers. -/
import Derived.Test.YteppcfikalonbaaOrdSort2
import Derived.Test.YteppcfikalonbaaOwn
namespace Go.Proofs.Yteppcfikalonbaa.Ord
open Go.RowKit
set_option linter.unusedVariables false
set_option linter.unusedSimpArgs false

set_option maxHeartbeats 1000000 in
theorem ints_calls (A C : Option Addr) (ca cc : Nat) (xs ys : List Int) (w : World) (hx : ReadsI w .i64 A xs) (hy : ReadsI w .i64 C ys) (hlx : xs.length ≤ 9223372036854775807) (hly : ys.length ≤ 9223372036854775807) :
    Calls Try.prog 11 #[.slice A xs.length ca, .slice C ys.length cc] w fun e w' => e = .returned (.bool (decide (xs = ys))) ∧ ∃ m, w' = w.drewN m := by
  have HX := Lib.hid hx
  have HY := Lib.hid hy
  clear hx hy
  by_cases hl : xs.length = ys.length
  · have hle : ((xs.length : Int) != (ys.length : Int)) = false := by rw [hl]; simp
    have HL := Lib.hid hl
    clear hl
    go_enter Try.func11, Try.ntmps11
    go_wp2
    go_loopw [5] (fun i wr => ∃ (k m : Nat), i = .int .i64 k ∧ k ≤ xs.length ∧ Hid (xs.take k = ys.take k) ∧ Hid (wr = w.drewN m)) (fun i _ => xs.length - (intOf i).toNat)
    case atStart => exact ⟨0, 0, rfl, Nat.zero_le _, Lib.hid (by simp), Lib.hid rfl⟩
    case round =>
      obtain ⟨k, m, rfl, hk, HT, HW⟩ := hrel
      by_cases hlt : k < xs.length
      · have hlt' : k < ys.length := by rw [← HL.out]; exact hlt
        obtain ⟨b, off, rfl, hc⟩ := HX.out k hlt
        obtain ⟨b', off', rfl, hc'⟩ := HY.out k hlt'
        have h1 := take_nth xs k hlt
        have h2 := take_nth ys k hlt'
        have h3 : nth xs k ≠ nth ys k → xs ≠ ys := fun h e => h (by rw [e])
        have g1 : wr.cell? ⟨b, off + k, none⟩ = some (.int .i64 (nth xs k)) := by rw [HW.out]; exact hc
        have g2 : wr.cell? ⟨b', off' + k, none⟩ = some (.int .i64 (nth ys k)) := by rw [HW.out]; exact hc'
        have H1 := Lib.hid h1
        have H2 := Lib.hid h2
        have H3 := Lib.hid h3
        clear h1 h2 h3 hc hc'
        generalize nth xs k = x at *
        generalize nth ys k = y at *
        by_cases hxy : x = y
        · have e1 : (x != y) = false := by simpa using hxy
          have HXY := Lib.hid hxy
          clear hxy
          go_wp2_with fail
          go_quiet (fail)
          go_wp2_with fail
          go_roundw
          case measure => simp [intOf]; omega
          case rel => exact ⟨k + 1, m + nq, by go_num, by omega, Lib.hid (by rw [H1.out, H2.out, HT.out, HXY.out]), Lib.hid (by rw [HW.out, World.drewN_drewN])⟩
        · have e1 : (x != y) = true := by simpa using hxy
          have HXY := Lib.hid hxy
          clear hxy
          go_wp2_with fail
          go_quiet (fail)
          go_wp2_with fail
          go_ret
          exact ⟨ret_bool (decide_eq_false (H3.out HXY.out)).symm, m + nq, by rw [HW.out, World.drewN_drewN]⟩
      · go_wp2_with fail
        go_ret
        have hxy : xs = ys := by
          have := HT.out
          rwa [List.take_of_length_le (by omega), List.take_of_length_le (by rw [← HL.out]; omega)] at this
        exact ⟨ret_bool (decide_eq_true hxy).symm, m, HW.out⟩
  · have hle : ((xs.length : Int) != (ys.length : Int)) = true := by simp; omega
    have HL := Lib.hid hl
    clear hl
    go_enter Try.func11, Try.ntmps11
    go_wp2
    go_ret
    exact ⟨ret_bool (decide_eq_false (fun e => HL.out (by rw [e]))).symm, 0, rfl⟩

def inRange (xs : List Int) (ps : List Int) : Bool := ps.all fun p => decide (0 ≤ p ∧ p < xs.length)
def picks (xs ps : List Int) : List Int := ps.map fun p => nth xs p.toNat
def takeL (xs ps : List Int) : List Int := if inRange xs ps = true then picks xs ps else []

set_option maxHeartbeats 1000000 in
theorem take_calls (A C : Option Addr) (ca cc : Nat) (xs ps : List Int) (w : World) (hx : ReadsI w .i64 A xs) (hy : ReadsI w .i64 C ps) (hlx : xs.length ≤ 10000000) (hly : ps.length ≤ 10000000) :
    Calls Try.prog 7 #[.slice A xs.length ca, .slice C ps.length cc] w fun e w' => (∃ v, e = .returned (.tuple #[v, .bool (inRange xs ps)]) ∧ ShowsI w' .i64 v (takeL xs ps)) ∧ Below w.heap.size w w' := by
  have HX := Lib.hid hx
  have HY := Lib.hid hy
  clear hx hy
  go_enter Try.func7, Try.ntmps7
  go_wp2_with fail
  go_loopw [6, 8, 11] (fun v _ i wr => ∃ (k : Nat), i = .int .i64 k ∧ k ≤ ps.length ∧ Hid (inRange xs (ps.take k) = true) ∧ Hid (OwnI wr w.heap.size 3 .i64 v (picks xs (ps.take k))) ∧ Below w.heap.size w wr ∧ w.heap.size ≤ wr.heap.size) (fun _ _ i _ => ps.length - (intOf i).toNat)
  case atStart => exact ⟨0, rfl, Nat.zero_le _, Lib.hid (by simp [inRange]), Lib.hid (by simpa [picks] using ownI_nil w _ _ _), Below.refl _ _, Nat.le_refl _⟩
  case round =>
    obtain ⟨k, rfl, hk, HR, HO, hB, hsz⟩ := hrel
    by_cases hlt : k < ps.length
    · obtain ⟨b', off', rfl, hc'⟩ := HY.out.below hB k hlt
      have H2 := Lib.hid (take_nth ps k hlt)
      generalize hpk : nth ps k = p at *
      by_cases hp : 0 ≤ p ∧ p < xs.length
      · obtain ⟨q, rfl⟩ := Int.eq_ofNat_of_zero_le hp.1
        have hq : q < xs.length := by omega
        obtain ⟨b, off, rfl, hc⟩ := HX.out.below hB q hq
        generalize hxq : nth xs q = x at *
        have hln : (picks xs (ps.take k)).length ≤ 10000000 := by simp [picks]; omega
        have HPK := Lib.hid hpk
        have HXQ := Lib.hid hxq
        clear hpk hxq
        go_wp2_with (at_builtin; refine app_row (w0 := w) w.heap.size rfl (.tmp 23) (.tmp 28) 22 3 (.int .i64 0) 1 8 rfl Try.underlying22 info_int rfl (by decide) u6 _ _ #[.int .i64 x] rfl rfl rfl (by simp [Value.oneCell']) HO.out hB hsz (by omega) (by omega) ?_; intro v1 w1 hown1 hB1 hg1 hsz1)
        go_roundw
        case measure => simp [intOf]; omega
        case rel =>
          refine ⟨k + 1, by go_num, by omega, Lib.hid ?_, Lib.hid ?_, hB1, hsz1⟩
          · have h := HR.out
            unfold inRange at h ⊢
            rw [H2.out, List.all_append, h]
            simpa using hq
          · rw [H2.out]
            unfold picks
            rw [List.map_append]
            simp only [List.map_cons, List.map_nil, Int.toNat_natCast, HXQ.out]
            exact OwnI.snoc (by simpa [picks] using hown1)
      · have hno : inRange xs ps = false := by
          have hm := nth_mem ps k hlt
          rw [hpk] at hm
          unfold inRange
          rw [List.all_eq_false]
          exact ⟨p, hm, by simpa using hp⟩
        have HNO := Lib.hid hno
        have HP := Lib.hid hp
        clear hno hp hpk
        by_cases h0 : p < 0
        all_goals try have h1 : (xs.length : Int) ≤ p := by have := HP.out; omega
        all_goals
          go_wp2_with fail
          go_ret2
          refine ⟨⟨.slice none 0 0, ?_, ?_⟩, hB⟩
          · rw [HNO.out]; rfl
          · unfold takeL; rw [HNO.out]; exact ⟨none, 0, rfl, Nat.le_refl _, fun i hi => by simp at hi⟩
    · go_wp2_with fail
      go_ret2
      have hyes : inRange xs ps = true := by have := HR.out; rwa [List.take_of_length_le (by omega)] at this
      have ho := HO.out
      rw [List.take_of_length_le (by omega)] at ho
      exact ⟨⟨u6, by rw [hyes]; rfl, by unfold takeL; rw [if_pos hyes]; exact ho.shows⟩, hB⟩
end Go.Proofs.Yteppcfikalonbaa.Ord
