/- Contract of shape.At. -/
import Derived.Test.YtilkijioocijcaaPlace
namespace Go.Proofs.Ytilkijioocijcaa.Shp
open Go.RowKit Go.Proofs.Ytilkijioocijcaa.Num
set_option linter.unusedVariables false
set_option linter.unusedSimpArgs false

/-- The i-th digit of a count. -/
def dg (xs : List Int) (p i : Nat) : Nat := p / sp xs i % (nth xs i).toNat
def atL (xs : List Int) (p : Nat) : List Nat := (List.range xs.length).map (dg xs p)
theorem at_step (f : Nat → Nat) (k n : Nat) (h : k < n) : ((List.range k).map f ++ List.replicate (n - k) 0).set k (f k) = (List.range (k + 1)).map f ++ List.replicate (n - (k + 1)) 0 := by
  obtain ⟨m, rfl⟩ : ∃ m, n = k + 1 + m := ⟨n - (k + 1), by omega⟩
  rw [show k + 1 + m - k = m + 1 by omega, show k + 1 + m - (k + 1) = m by omega, List.replicate_succ, List.range_succ]
  rw [List.set_append_right _ _ (by simp)]
  simp
theorem prod_pos_mem (xs : List Int) (h0 : ∀ x ∈ xs, 0 ≤ x) (h : 0 < prod xs) : ∀ x ∈ xs, 1 ≤ x := fun x hx => by
  have := h0 x hx
  rcases Int.lt_or_eq_of_le this with h1 | h1
  · omega
  · rw [← h1] at hx
    rw [prod_zero xs hx] at h
    omega
theorem tl_pos (xs : List Int) : ∀ k, 1 ≤ tl xs k
  | 0 => Nat.le_refl _
  | k + 1 => by
    unfold tl
    split
    · exact Nat.mul_pos (tl_pos xs k) (by unfold mx; omega)
    · exact tl_pos xs k

set_option maxHeartbeats 1000000 in
theorem at_no_calls (xs : List Int) (place : Int) (A : Option Addr) (ca : Nat) (w : World) (hx : ReadsI w .i64 A xs) (hl : xs.length ≤ 1000000) (hno : ¬ (sizeOk xs = true ∧ 0 ≤ place ∧ place < prod xs)) :
    Calls Try.prog 7 #[.slice A xs.length ca, .int .i64 place] w fun e w' => e = .returned (.tuple #[.slice none 0 0, .bool false]) ∧ w = w' := by
  have HS := size_calls xs 1048576 A ca w hx (by omega) (by unfold fits; omega)
  rw [size_full] at HS
  by_cases hok : sizeOk xs = true
  · rw [if_pos hok] at HS
    by_cases hp0 : place < 0
    · have HS := Lib.hid HS
      clear hx hok hno
      go_enter Try.func7, Try.ntmps7
      go_wp2_with fail
      refine HS.out.mono ?_
      rintro e w' ⟨rfl, rfl⟩
      go_wp2_with fail
      go_ret2
      exact ⟨rfl, rfl⟩
    · have hp1 : prod xs ≤ place := by
        rcases Int.lt_or_le place (prod xs) with h | h
        · exact absurd ⟨hok, by omega, h⟩ hno
        · exact h
      clear hx hok hno
      generalize prod xs = n at *
      have HS := Lib.hid HS
      go_enter Try.func7, Try.ntmps7
      go_wp2_with fail
      refine HS.out.mono ?_
      rintro e w' ⟨rfl, rfl⟩
      go_wp2_with fail
      go_ret2
      exact ⟨rfl, rfl⟩
  · rw [if_neg hok] at HS
    have HS := Lib.hid HS
    clear hx hok hno
    go_enter Try.func7, Try.ntmps7
    go_wp2_with fail
    refine HS.out.mono ?_
    rintro e w' ⟨rfl, rfl⟩
    go_wp2_with fail
    go_ret2
    exact ⟨rfl, rfl⟩

set_option maxHeartbeats 1000000 in
theorem at_yes_calls (xs : List Int) (p : Nat) (A : Option Addr) (ca : Nat) (w : World) (hx : ReadsI w .i64 A xs) (hl : xs.length ≤ 1000000) (hok : sizeOk xs = true) (hp : (p : Int) < prod xs) :
    Calls Try.prog 7 #[.slice A xs.length ca, .int .i64 (p : Int)] w fun e w' => (∃ b, e = .returned (.tuple #[.slice (some ⟨b, 0, none⟩) xs.length xs.length, .bool true]) ∧ RowN w' b 0 (atL xs p)) ∧ Below w.heap.size w w' := by
  have HS := size_calls xs 1048576 A ca w hx (by omega) (by unfold fits; omega)
  rw [size_full, if_pos hok] at HS
  have hmk := make_ints xs.length (by omega)
  have hok' := hok
  unfold sizeOk at hok'
  simp only [Bool.and_eq_true, decide_eq_true_eq] at hok'
  have hm1 := prod_pos_mem xs (fun x hx => ((rightB_mem hok'.1).2 x hx).1) (by omega)
  have htl := tl_le xs hm1 hok'.2
  have HSTR := Lib.hid (fun w' (h : Below w.heap.size w w') => strides_calls xs A ca w' (hx.below h) hl hok'.1 (fun k hk => htl k (by omega)))
  have HX := Lib.hid hx
  have HM1 := Lib.hid hm1
  have HRM := Lib.hid (rightB_mem hok'.1)
  have HSP := Lib.hid (fun j => tl_pos xs (xs.length - 1 - j))
  have hpn : (p : Int) ≤ 1048576 := by omega
  clear hx hok hm1 htl hok'
  generalize prod xs = n at *
  have HS := Lib.hid HS
  go_enter Try.func7, Try.ntmps7
  go_wp2_with fail
  refine HS.out.mono ?_
  rintro e w' ⟨rfl, rfl⟩
  go_wp2_with fail
  obtain ⟨W1, C, hW1, hC, hB1, hr1⟩ : ∃ (W : World) (C : Nat), W = w.alloc (.cells (madeCells #[.int .i64 0] xs.length) 3) ∧ C = w.heap.size ∧ Below C w W ∧ RowN W C 0 (List.replicate xs.length 0) := ⟨_, _, rfl, rfl, bl_alloc (Below.refl _ _) _, rowN_made w _ _⟩
  rw [← hW1, ← hC]
  have HB1 : Hid (Below w.heap.size w W1) := Lib.hid (by rw [← hC]; exact hB1)
  have hCW : C < W1.heap.size := by rw [hW1, hC]; simp
  have HR1 := Lib.hid hr1
  clear hW1 hB1 hr1 hmk
  refine (HSTR.out W1 HB1.out).mono ?_
  rintro e w2 ⟨⟨b, S, hb, rfl, hr, hSl, hSj⟩, hB⟩
  have HR := Lib.hid hr
  have HSL := Lib.hid hSl
  have HSJ := Lib.hid hSj
  have HB := Lib.hid (bl_then HB1.out hB)
  have HR2 := Lib.hid (HR1.out.below hB)
  have hbC : C ≠ b := by omega
  have HC := Lib.hid hC
  clear hr hSl hSj hB hb hC
  go_wp2_with fail
  go_loopw [9, 10, 33] (fun _ _ i wr => ∃ k : Nat, i = .int .i64 k ∧ k ≤ xs.length ∧ Hid (RowN wr C 0 ((List.range k).map (dg xs p) ++ List.replicate (xs.length - k) 0)) ∧ Wrote w2 wr C 0 xs.length) (fun _ _ i _ => xs.length - (intOf i).toNat)
  case atStart => exact ⟨0, rfl, Nat.zero_le _, Lib.hid (by simpa using HR2.out), Wrote.refl _ _ _ _⟩
  case round =>
    obtain ⟨k, rfl, hk, HW, hwr⟩ := hrel
    by_cases hlt : k < xs.length
    · obtain ⟨hc1, _⟩ := (HR.out.other hwr (Ne.symm hbC)) k (by rw [HSL.out]; exact hlt)
      rw [HSJ.out k hlt, Nat.zero_add] at hc1
      have hBr : Below w.heap.size w wr := HB.out.trans (hwr.below (by rw [HC.out]; exact Nat.le_refl _))
      obtain ⟨b2, off2, rfl, hc2⟩ := HX.out.below hBr k hlt
      obtain ⟨hc3, hf3⟩ := HW.out k (by simp; omega)
      rw [Nat.zero_add] at hc3 hf3
      have hx1 := HM1.out _ (nth_mem xs k hlt)
      have hs1 : 1 ≤ sp xs k := HSP.out k
      have hdg : dg xs p k = p / sp xs k % (nth xs k).toNat := rfl
      have HSET := Lib.hid (at_step (dg xs p) k xs.length hlt)
      have HDG := Lib.hid hdg
      clear hdg
      generalize nth ((List.range k).map (dg xs p) ++ List.replicate (xs.length - k) 0) k = old at *
      generalize hsk : sp xs k = s at *
      obtain ⟨y, hy⟩ := Int.eq_ofNat_of_zero_le (show 0 ≤ nth xs k by omega)
      rw [hy] at hc2 hx1 HDG
      rw [Int.toNat_natCast] at HDG
      obtain ⟨q, hq⟩ : ∃ q, q = p / s := ⟨_, rfl⟩
      obtain ⟨r, hr⟩ : ∃ r, r = q % y := ⟨_, rfl⟩
      have q1 : Int.tdiv (p : Int) (s : Int) = (q : Int) := by rw [hq]; rfl
      have q2 : Int.tmod (q : Int) (y : Int) = (r : Int) := by rw [hr]; rfl
      rw [← hq, ← hr] at HDG
      have hqp : (q : Int) ≤ 1048576 := by have := Nat.div_le_self p s; omega
      have hrq : r ≤ q := by rw [hr]; exact Nat.mod_le _ _
      have z1 : ((s : Int) == 0) = false := by simp; omega
      have z2 : ((y : Int) == 0) = false := by simp; omega
      have z3 : ¬ ((s : Int) = 0) := by omega
      have z4 : ¬ ((y : Int) = 0) := by omega
      have w1 : IntKind.i64.wrap (q : Int) = (q : Int) := by rw [IntKind.wrap_i64]; omega
      have w2 : IntKind.i64.wrap (r : Int) = (r : Int) := by rw [IntKind.wrap_i64]; omega
      have hlt' : (k : Int) < (xs.length : Int) := by omega
      clear hq hr hy hsk
      go_wp2_with fail
      go_region
      all_goals
        go_wp2_with fail
        go_roundw
        case measure => first | (simp [intOf]; done) | (simp [intOf]; omega)
        case rel =>
          refine ⟨k + 1, by go_num, by omega, Lib.hid ?_, hwr.drew.set k _ (by omega) (by omega)⟩
          rw [← HSET.out, HDG.out]
          have h := RowN.set (RowN.drewN HW.out 1) k r (by simp; omega)
          rw [Nat.zero_add] at h
          exact h
    · obtain rfl : k = xs.length := by omega
      go_wp2_with fail
      go_ret2
      refine ⟨⟨C, rfl, ?_⟩, HB.out.trans (hwr.below (by rw [HC.out]; exact Nat.le_refl _))⟩
      have h := HW.out
      rw [Nat.sub_self, List.replicate_zero, List.append_nil] at h
      exact h
end Go.Proofs.Ytilkijioocijcaa.Shp
