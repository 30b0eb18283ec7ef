/- The walk of HashMany. -/
import Derived.Test.YteilngkjoeaboaaKnows06
namespace Go.Proofs.Yteilngkjoeaboaa.Hs
open Go.RowKit Go.Proofs.Yteilngkjoeaboaa.Lb
set_option linter.unusedVariables false
set_option linter.unusedSimpArgs false

theorem findT_calls (a : Lab) (ha : a.Ok) (B T : Nat) (L : List Lab) (w : World) (ht : HasTab B w T L) :
    Calls Try.prog 11 #[.pointer (some ⟨T, 0, none⟩), a.v] w fun e w' => FindPost a L e ∧ Below w.heap.size w w' := by
  obtain ⟨S, LA, lc, sb, ht⟩ := ht
  exact find_calls a ha T L S LA lc sb S.length w ht.tab.read ht.inv (by have := ht.few; omega)
theorem lenT_calls (B T : Nat) (L : List Lab) (w : World) (ht : HasTab B w T L) :
    Calls Try.prog 12 #[.pointer (some ⟨T, 0, none⟩)] w fun e w' => e = .returned (.int .i64 (L.length : Nat)) ∧ w = w' := by
  obtain ⟨S, LA, lc, sb, ht⟩ := ht
  exact len_calls T L S LA lc sb S.length w ht.tab.read
/-- New without labels. -/
theorem new_nil (w : World) : Calls Try.prog 8 #[.slice none 0 0] w fun e w' => e = .returned (.tuple #[.pointer (some ⟨w.heap.size + 1, 0, none⟩), .int .i64 0]) ∧ HasTab w.heap.size w' (w.heap.size + 1) [] ∧ Below w.heap.size w w' := by
  refine (new_calls [] none 0 0 rfl (fun x hx => by simp at hx) (by omega) w (Shows.nil _ _)).mono ?_
  rintro e w' ⟨hp, hB⟩
  rcases hp with ⟨_, he, ht⟩ | ⟨h0, _⟩
  · exact ⟨he, ht, hB⟩
  · exact absurd rfl h0

/-- Numbers from f on. -/
def manyL (f : Int) (k : Nat) : List Lab := (List.range k).map fun (j : Nat) => intL (f + (j : Int))
theorem manyL_length (f : Int) (k : Nat) : (manyL f k).length = k := by simp [manyL]
theorem manyL_succ (f : Int) (k : Nat) : manyL f (k + 1) = manyL f k ++ [intL (f + (k : Int))] := by simp [manyL, List.range_succ]
theorem manyL_mem (f n : Int) (k : Nat) : intL n ∈ manyL f k ↔ f ≤ n ∧ n < f + k := by
  unfold manyL
  rw [List.mem_map]
  constructor
  · rintro ⟨j, hj, e⟩
    rw [intL_inj] at e
    have := List.mem_range.1 hj
    omega
  · rintro ⟨h1, h2⟩
    exact ⟨(n - f).toNat, List.mem_range.2 (by omega), by rw [intL_inj]; omega⟩
theorem manyL_nth (f : Int) (k j : Nat) (h : j < k) : nth (manyL f k) j = intL (f + (j : Int)) := by
  rw [nth_eq _ _ (by rw [manyL_length]; exact h)]; simp [manyL]
theorem manyE_yes (f : Int) (k : Nat) (h : k < 4096) : addE (manyL f k) (intL (f + (k : Int))) = 0 ∧ addL (manyL f k) (intL (f + (k : Int))) = manyL f (k + 1) ∧ addN (manyL f k) (intL (f + (k : Int))) = (k : Int) := by
  have h1 : addE (manyL f k) (intL (f + (k : Int))) = 0 := by
    unfold addE
    rw [intL_right, if_neg (by simp), if_neg (by rw [manyL_mem]; omega), if_neg (by rw [manyL_length]; omega)]
  exact ⟨h1, by unfold addL; rw [if_pos h1, manyL_succ], by unfold addN; rw [if_pos h1, manyL_length]⟩
theorem manyE_no (f : Int) (k : Nat) (h : 4096 ≤ k) : addE (manyL f 4096) (intL (f + (k : Int))) = 7 ∧ addL (manyL f 4096) (intL (f + (k : Int))) = manyL f 4096 := by
  have h1 : addE (manyL f 4096) (intL (f + (k : Int))) = 7 := by
    unfold addE
    rw [intL_right, if_neg (by simp), if_neg (by rw [manyL_mem]; omega), if_pos (by rw [manyL_length]; omega)]
  exact ⟨h1, by unfold addL; rw [if_neg (by rw [h1]; omega)]⟩
theorem many_mod (n : Int) : ∃ N : Nat, N < 4200 ∧ n.tmod 4200 % 4200 = (N : Int) ∧ -4200 < n.tmod 4200 ∧ n.tmod 4200 < 4200 := by
  have h1 : -4200 < n.tmod 4200 ∧ n.tmod 4200 < 4200 := by
    rcases Int.le_total 0 n with h | h
    · rw [Int.tmod_eq_emod_of_nonneg h]; omega
    · have : n.tmod 4200 = -((-n) % 4200) := by rw [← Int.tmod_eq_emod_of_nonneg (by omega), Int.neg_tmod, Int.neg_neg]
      omega
  exact ⟨(n.tmod 4200 % 4200).toNat, by omega, by omega, h1⟩

set_option maxRecDepth 100000 in
set_option maxHeartbeats 2000000 in
theorem hashMany_walk (f n : Int) (w : World) (hf0 : -9223372036854775808 ≤ f) (hf1 : f ≤ 9223372036854775807) (hn0 : -9223372036854775808 ≤ n) (hn1 : n ≤ 9223372036854775807) :
    Calls Try.prog 4 #[.int .i64 f, .int .i64 n] w fun e w' => e = .returned (.bool true) ∧ Below w.heap.size w w' := by
  obtain ⟨N, hN, hNe, hm0, hm1⟩ := many_mod n
  have HNE := Lib.hid hNe
  clear hNe
  by_cases hlo : f < -1099511627776
  · go_enter Try.func4, Try.ntmps4
    go_wp2_with fail
    refine (knows_calls _).mono ?_
    rintro e w1 ⟨rfl, hB⟩
    go_wp2_with fail
    go_ret
    exact ⟨rfl, hB⟩
  by_cases hhi : 1099511627776 < f
  · go_enter Try.func4, Try.ntmps4
    go_wp2_with fail
    refine (knows_calls _).mono ?_
    rintro e w1 ⟨rfl, hB⟩
    go_wp2_with fail
    go_ret
    exact ⟨rfl, hB⟩
  clear hf0 hf1 hn0 hn1
  go_enter Try.func4, Try.ntmps4
  go_wp2_with fail
  refine (knows_calls _).mono ?_
  rintro e w1 ⟨rfl, hB1⟩
  have HB1 := Lib.hid hB1
  clear hB1
  go_wp2_with fail
  refine (new_nil _).mono ?_
  rintro e w2 ⟨rfl, hT, hB2⟩
  have HB2 := Lib.hid (bl_then HB1.out hB2)
  have HT := Lib.hid hT
  have hBw : w1.heap.size ≤ w2.heap.size := hB2.size
  have hw1 : w.heap.size ≤ w1.heap.size := HB1.out.size
  clear hT hB2
  generalize w1.heap.size = B at *
  go_wp2_with fail
  rw [HNE.out]
  clear HNE hm0 hm1 HB1
  have HADD := Lib.hid (fun n (h : -9223372036854775808 ≤ n) (h' : n ≤ 9223372036854775807) L w ht hB => add_calls (intL n) (intL_ok n h h') B (B + 1) L w ht hB)
  have HFIND := Lib.hid (fun n (h : -9223372036854775808 ≤ n) (h' : n ≤ 9223372036854775807) L w ht => findT_calls (intL n) (intL_ok n h h') B (B + 1) L w ht)
  have HVI := Lib.hid intL_v
  go_loopw [7] (fun i wr => ∃ k : Nat, i = .int .i64 k ∧ k ≤ N ∧ Hid (HasTab B wr (B + 1) (manyL f (min k 4096))) ∧ Below w.heap.size w wr ∧ B ≤ wr.heap.size) (fun i _ => N - (intOf i).toNat)
  case atStart => exact ⟨0, rfl, Nat.zero_le _, HT, HB2.out, hBw⟩
  case round =>
    obtain ⟨k, rfl, hk, HTk, hBk, hzk⟩ := hrel
    have HBk := Lib.hid hBk
    clear hBk
    by_cases hlt : k < N
    · go_wp2_with fail
      refine (int_calls _ _).mono ?_
      rintro e w3 ⟨rfl, hB3⟩
      have HT3 := Lib.hid (HTk.out.below hB3)
      have HB3 := Lib.hid (bl_then HBk.out hB3)
      have hz3 := Nat.le_trans hzk hB3.size
      clear hB3
      by_cases h4 : k < 4096
      · obtain ⟨q1, q2, q3⟩ := manyE_yes f k h4
        have HTX := Lib.hid (show HasTab B w3 (B + 1) (manyL f k) by have := HT3.out; rwa [Nat.min_eq_left (by omega)] at this)
        have hadd := HADD.out (f + (k : Int)) (by omega) (by omega) _ _ HTX.out hz3
        rw [intL_v, q1, q2, q3] at hadd
        have HA := Lib.hid hadd
        clear hadd q1 q2 q3
        go_wp2_with fail
        refine HA.out.mono ?_
        rintro e w4 ⟨rfl, hT4, hB4, hz4, _⟩
        have HT4 := Lib.hid hT4
        have HB4 := Lib.hid (HB3.out.trans (hB4.mono hw1))
        clear hT4 hB4
        have z1 : ((k : Int) != (k : Int)) = false := by simp
        go_wp2_with fail
        refine (num_calls _ _).mono ?_
        rintro e w5 ⟨rfl, rfl⟩
        go_wp2_with fail
        go_roundw
        case measure => simp [intOf]; omega
        case rel => exact ⟨k + 1, by go_num, by omega, Lib.hid (by rw [Nat.min_eq_left (by omega)]; exact HT4.out), HB4.out, hz4⟩
      · obtain ⟨q1, q2⟩ := manyE_no f k (by omega)
        have HTX := Lib.hid (show HasTab B w3 (B + 1) (manyL f 4096) by have := HT3.out; rwa [Nat.min_eq_right (by omega)] at this)
        have hadd := HADD.out (f + (k : Int)) (by omega) (by omega) _ _ HTX.out hz3
        rw [intL_v, q1, q2] at hadd
        have HA := Lib.hid hadd
        clear hadd q1 q2
        generalize addN (manyL f 4096) (intL (f + (k : Int))) = an at *
        go_wp2_with fail
        refine HA.out.mono ?_
        rintro e w4 ⟨rfl, hT4, hB4, hz4, _⟩
        have HT4 := Lib.hid hT4
        have HB4 := Lib.hid (HB3.out.trans (hB4.mono hw1))
        clear hT4 hB4
        go_wp2_with fail
        refine (num_calls _ _).mono ?_
        rintro e w5 ⟨rfl, rfl⟩
        go_wp2_with fail
        refine (num_calls _ _).mono ?_
        rintro e w5 ⟨rfl, rfl⟩
        go_wp2_with fail
        go_roundw
        case measure => simp [intOf]; omega
        case rel => exact ⟨k + 1, by go_num, by omega, Lib.hid (by rw [Nat.min_eq_right (by omega)]; exact HT4.out), HB4.out, hz4⟩
    · obtain rfl : k = N := by omega
      have hLl := manyL_length f (min k 4096)
      have HLL := Lib.hid hLl
      have HMN := Lib.hid (fun j => manyL_nth f (min k 4096) j)
      have HMM := Lib.hid (fun n => manyL_mem f n (min k 4096))
      clear hLl
      generalize manyL f (min k 4096) = L at *
      go_wp2_with fail
      go_loopw [10] (fun i wr2 => ∃ j : Nat, i = .int .i64 j ∧ j ≤ 5000 ∧ Hid (HasTab B wr2 (B + 1) L) ∧ Below w.heap.size w wr2) (fun i _ => 5000 - (intOf i).toNat)
      case atStart => exact ⟨0, rfl, by omega, HTk, HBk.out⟩
      case round =>
        obtain ⟨j, rfl, hj, HTj, hBj⟩ := hrel
        have HBj := Lib.hid hBj
        clear hBj
        by_cases hjn : j < k ∧ j < 4096
        · obtain ⟨hj1, hj2⟩ := hjn
          go_wp2_with fail
          refine (int_calls _ _).mono ?_
          rintro e w3 ⟨rfl, hB3⟩
          have HT3 := Lib.hid (HTj.out.below hB3)
          have HB3 := Lib.hid (bl_then HBj.out hB3)
          clear hB3
          have hfind := HFIND.out (f + (j : Int)) (by omega) (by omega) _ _ HT3.out
          rw [intL_v] at hfind
          have HFI := Lib.hid hfind
          clear hfind
          go_wp2_with fail
          refine HFI.out.mono ?_
          rintro e w4 ⟨hp, hB4⟩
          have HT4 := Lib.hid (HT3.out.below hB4)
          have HB4 := Lib.hid (bl_then HB3.out hB4)
          clear hB4
          rcases hp with ⟨i, hi, hia, rfl⟩ | ⟨hno, _⟩
          rotate_left
          · exact absurd ((HMM.out _).2 ⟨by omega, by omega⟩) hno
          have hij : i = j := by
            rw [HMN.out i (by rw [HLL.out] at hi; exact hi), intL_inj] at hia
            omega
          subst hij
          clear hi hia
          have z1 : ((i : Int) != (i : Int)) = false := by simp
          go_wp2_with fail
          go_roundw
          case measure => simp [intOf]; omega
          case rel => exact ⟨i + 97, by go_num, by omega, HT4, HB4.out⟩
        · have hcase : (k ≤ j) ∨ (j < k ∧ 4096 ≤ j) := by omega
          clear hjn
          have HLEN := Lib.hid (fun w h => lenT_calls B (B + 1) L w h)
          rw [HLL.out] at HLEN
          rcases hcase with h1 | ⟨h1, h2⟩
          all_goals
            go_wp2_with fail
            refine (int_calls _ _).mono ?_
            rintro e w3 ⟨rfl, hB3⟩
            have HT3 := Lib.hid (HTj.out.below hB3)
            have HB3 := Lib.hid (bl_then HBj.out hB3)
            clear hB3
            have hfind := HFIND.out (f - 1) (by omega) (by omega) _ _ HT3.out
            rw [intL_v] at hfind
            have HFI := Lib.hid hfind
            clear hfind
            go_wp2_with fail
            refine HFI.out.mono ?_
            rintro e w4 ⟨hp, hB4⟩
            have HT4 := Lib.hid (HT3.out.below hB4)
            have HB4 := Lib.hid (bl_then HB3.out hB4)
            clear hB4
            rcases hp with ⟨i, hi, hia, rfl⟩ | ⟨_, rfl⟩
            · exfalso
              have := (HMM.out (f - 1)).1 (by rw [← hia]; exact nth_mem _ _ hi)
              omega
            go_wp2_with fail
            refine (HLEN.out _ HT4.out).mono ?_
            rintro e w5 ⟨rfl, rfl⟩
            by_cases h4 : k ≤ 4096
            · rw [Nat.min_eq_left h4]
              go_wp2_with fail
              go_ret
              exact ⟨ret_bool (by first | (simp; done) | (simp; omega)), HB4.out⟩
            · rw [Nat.min_eq_right (by omega)]
              go_wp2_with fail
              go_ret
              exact ⟨ret_bool (by first | (simp; done) | (simp; omega)), HB4.out⟩
end Go.Proofs.Yteilngkjoeaboaa.Hs
