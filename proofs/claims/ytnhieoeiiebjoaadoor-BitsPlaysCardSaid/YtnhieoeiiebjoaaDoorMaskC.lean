/- Count, Next. -/
import Derived.Test.YtnhieoeiiebjoaaDoorMaskB
import Derived.Test.YtnhieoeiiebjoaaDoorOnes
namespace Go.Proofs.YtnhieoeiiebjoaaDoor.Bt
open Go.RowKit
set_option linter.unusedVariables false
set_option linter.unusedSimpArgs false

theorem countL_le (l : List Bool) : countL l ≤ l.length := cnt_le _ _
set_option maxRecDepth 100000 in
theorem count_calls (T g c : Nat) (cs : Array Value) (W : List Nat) (l : List Bool) (w : World) (h : MaskW w T g c cs W l) : Calls Tryd.prog 10 #[.pointer (some ⟨T, 0, none⟩)] w fun e w' => e = .returned (.int .i64 (countL l : Nat)) ∧ w = w' := by
  have HL := Lib.hid (len_calls T g c cs W l w h)
  have HM := Lib.hid h
  have hsm := h.small
  have hlen := h.rep.len
  have c0 := h.hT.cell 0
  have HWD := Lib.hid (fun w => words_calls l.length (by omega) w)
  clear h
  go_enter Tryd.func10, Tryd.ntmps10
  go_wp2_with fail
  refine HL.out.mono ?_
  rintro e w' ⟨rfl, rfl⟩
  go_wp2_with fail
  refine (HWD.out _).mono ?_
  rintro e w' ⟨rfl, rfl⟩
  go_wp2_with fail
  go_loopw [3, 8] (fun n i wr => ∃ k : Nat, i = .int .i64 k ∧ n = .int .i64 (cnt (tr l) (64 * k) : Nat) ∧ k ≤ (l.length + 63) / 64 ∧ wr = w) (fun _ i _ => (l.length + 63) / 64 - (intOf i).toNat)
  case atStart => exact ⟨0, rfl, by first | trivial | rfl, Nat.zero_le _, rfl⟩
  case round =>
    obtain ⟨k, rfl, rfl, hk, rfl⟩ := hrel
    by_cases hlt : k < (l.length + 63) / 64
    · have hkW : k < W.length := by omega
      have hw := HM.out.word _ hkW
      have hlx := HM.out.rep.lt _ hkW
      have hcn := HM.out.rep.count k hkW
      generalize nth W k = x at *
      have HO := Lib.hid (ones_calls x hlx)
      have hb1 := cnt_le (tr l) (64 * k)
      have hb2 := cnt_le x.testBit 64
      have HC := Lib.hid hcn
      clear hcn
      generalize cnt x.testBit 64 = y at *
      generalize hcc : cnt (tr l) (64 * k) = cc at *
      go_wp2_with fail
      refine (HO.out _).mono ?_
      rintro e w' ⟨rfl, rfl⟩
      go_wp2_with fail
      go_roundw
      case measure => simp [intOf]; omega
      case rel => exact ⟨k + 1, by go_num, by rw [← HC.out]; go_num, by omega, by first | trivial | rfl⟩
    · have hE : cnt (tr l) (64 * k) = countL l := by rw [show k = W.length by omega]; exact HM.out.rep.count_end
      rw [hE]
      have hbd := countL_le l
      clear hE
      go_wp2_with fail
      go_ret
      exact ⟨rfl, rfl⟩

theorem xor_lt (x : Nat) (h : x < 18446744073709551616) : 18446744073709551615 ^^^ x < 18446744073709551616 := by
  have := Nat.xor_lt_two_pow (n := 64) (x := 18446744073709551615) (y := x) (by omega) (by omega)
  exact this
set_option maxRecDepth 100000 in
set_option maxHeartbeats 1000000 in
theorem next_calls (T g c : Nat) (cs : Array Value) (W : List Nat) (l : List Bool) (f : Int) (b : Bool) (w : World) (h : MaskW w T g c cs W l) (hf0 : -9223372036854775808 ≤ f) (hf1 : f ≤ 9223372036854775807) (hT : TabAt w) : Calls Tryd.prog 12 #[.pointer (some ⟨T, 0, none⟩), .int .i64 f, .bool b] w fun e w' => ∃ r : Nat, e = .returned (.int .i64 r) ∧ IsNext l f.toNat b r ∧ ∃ n, w' = w.drewN n := by
  have HL := Lib.hid (fun m => len_calls T g c cs W l (w.drewN m) (h.below (bl_drewN (Below.refl w.heap.size w) m)))
  have HM := Lib.hid h
  have hsm := h.small
  have hlen := h.rep.len
  have c0 := h.hT.cell 0
  have c1 := h.hT.cell 1
  have HT := Lib.hid hT
  have HWD := Lib.hid (fun w => words_calls l.length (by omega) w)
  clear h hT
  obtain ⟨F, hF, hcase⟩ : ∃ F : Nat, f.toNat = F ∧ ((f < 0 ∧ F = 0) ∨ (0 ≤ f ∧ f = (F : Int))) := ⟨_, rfl, by omega⟩
  rw [hF]
  have hFb : F ≤ 9223372036854775807 := by omega
  have HSP := Lib.hid (fun k (hk : k ≤ 1099511627776) w => span_calls k F l.length hk hFb (by omega) w)
  have e0 : (F : Int).tdiv 64 = ((F / 64 : Nat) : Int) := by rw [Int.tdiv_eq_ediv_of_nonneg (by omega)]; rfl
  clear hF
  rcases hcase with ⟨h1, rfl⟩ | ⟨h1, rfl⟩
  · have h1' := h1
    clear hf0 hf1
    go_enter Tryd.func12, Tryd.ntmps12
    go_wp2_with fail
    go_loopw [7] (fun i wr => ∃ k m : Nat, i = .int .i64 k ∧ k ≤ (l.length + 63) / 64 + 0 / 64 ∧ 0 / 64 ≤ k ∧ wr = w.drewN m ∧ Hid (∀ i, 0 ≤ i → i < 64 * k → i < l.length → tr l i ≠ b)) (fun i _ => (l.length + 63) / 64 + 0 / 64 - (intOf i).toNat)
    case atStart => exact ⟨0 / 64, 0, rfl, by omega, Nat.le_refl _, rfl, Lib.hid (fun i h1 h2 _ => by omega)⟩
    case round =>
      obtain ⟨k, m, rfl, hk, hk0, rfl, HN⟩ := hrel
      go_wp2_with fail
      refine (HL.out _).mono ?_
      rintro e w' ⟨rfl, rfl⟩
      go_wp2_with fail
      refine (HWD.out _).mono ?_
      rintro e w' ⟨rfl, rfl⟩
      by_cases hlt : k < (l.length + 63) / 64
      · have hkW : k < W.length := by omega
        have hw := HM.out.word _ hkW
        have hlx := HM.out.rep.lt _ hkW
        have hly := spanN_lt k 0 l.length
        have HFO := Lib.hid (fun z hz h0 => HM.out.rep.found k 0 b hkW (fun i h1 h2 => HN.out i h1 h2 (by omega)) z hz h0)
        have HUN := Lib.hid (fun h0 => HM.out.rep.unfound k 0 b hkW HN.out h0)
        generalize nth W k = x at *
        have HS := Lib.hid (fun w => HSP.out k (by omega) w)
        generalize spanN k 0 l.length = y at *
        have hxx := xor_lt x hlx
        have q0 : bits .xor .u64 IntKind.u64.max (x : Int) = ((18446744073709551615 ^^^ x : Nat) : Int) := u64_xor_nat 18446744073709551615 x (by omega) hlx
        have HXY := Lib.hid (fun (x' : Nat) (h : x' < 18446744073709551616) => u64_and_nat x' y h hly)
        cases b
        · have q1 := HXY.out _ hxx
          simp only [Bool.false_eq_true, if_false] at HFO HUN
          generalize 18446744073709551615 ^^^ x = x' at *
          generalize x' &&& y = z at *
          by_cases hz : z = 0
          · have q2 : ((z : Int) != 0) = false := by simp; omega
            have HU := Lib.hid (HUN.out hz)
            clear HFO HUN hz
            go_wp2_with fail
            refine (HS.out _).mono ?_
            rintro e w' ⟨rfl, n, rfl⟩
            go_wp2_with fail
            go_roundw
            case measure => simp [intOf]; omega
            case rel => exact ⟨k + 1, m + n, by go_num, by omega, by omega, rfl, HU⟩
          · have q2 : ((z : Int) != 0) = true := by simp; omega
            obtain ⟨hz1, hz2, hz3⟩ := HFO.out z rfl hz
            have HIN := Lib.hid hz3
            have HTZ := Lib.hid (fun n => tz_calls z hz1 hz (w.drewN n) HT.out)
            generalize Lib.ctz 64 z = cz at *
            clear HFO HUN hz hz3
            go_wp2_with fail
            refine (HS.out _).mono ?_
            rintro e w' ⟨rfl, n, rfl⟩
            go_wp2_with fail
            refine (HTZ.out _).mono ?_
            rintro e w' ⟨rfl, rfl⟩
            go_wp2_with fail
            go_ret
            exact ⟨64 * k + cz, ret_int (by push_cast; omega), HIN.out, m + n, rfl⟩
        · have q1 := HXY.out _ hlx
          simp only [if_true] at HFO HUN
          clear q0 hxx
          generalize x &&& y = z at *
          by_cases hz : z = 0
          · have q2 : ((z : Int) != 0) = false := by simp; omega
            have HU := Lib.hid (HUN.out hz)
            clear HFO HUN hz
            go_wp2_with fail
            refine (HS.out _).mono ?_
            rintro e w' ⟨rfl, n, rfl⟩
            go_wp2_with fail
            go_roundw
            case measure => simp [intOf]; omega
            case rel => exact ⟨k + 1, m + n, by go_num, by omega, by omega, rfl, HU⟩
          · have q2 : ((z : Int) != 0) = true := by simp; omega
            obtain ⟨hz1, hz2, hz3⟩ := HFO.out z rfl hz
            have HIN := Lib.hid hz3
            have HTZ := Lib.hid (fun n => tz_calls z hz1 hz (w.drewN n) HT.out)
            generalize Lib.ctz 64 z = cz at *
            clear HFO HUN hz hz3
            go_wp2_with fail
            refine (HS.out _).mono ?_
            rintro e w' ⟨rfl, n, rfl⟩
            go_wp2_with fail
            refine (HTZ.out _).mono ?_
            rintro e w' ⟨rfl, rfl⟩
            go_wp2_with fail
            go_ret
            exact ⟨64 * k + cz, ret_int (by push_cast; omega), HIN.out, m + n, rfl⟩
      · go_wp2_with fail
        refine (HL.out _).mono ?_
        rintro e w' ⟨rfl, rfl⟩
        go_wp2_with fail
        go_ret
        exact ⟨_, rfl, IsNext.end_ (fun i h1 h2 => HN.out i h1 (by omega) h2), m, rfl⟩
  · have h1' := h1
    clear hf0 hf1
    go_enter Tryd.func12, Tryd.ntmps12
    go_wp2_with fail
    go_loopw [7] (fun i wr => ∃ k m : Nat, i = .int .i64 k ∧ k ≤ (l.length + 63) / 64 + F / 64 ∧ F / 64 ≤ k ∧ wr = w.drewN m ∧ Hid (∀ i, F ≤ i → i < 64 * k → i < l.length → tr l i ≠ b)) (fun i _ => (l.length + 63) / 64 + F / 64 - (intOf i).toNat)
    case atStart => exact ⟨F / 64, 0, rfl, by omega, Nat.le_refl _, rfl, Lib.hid (fun i h1 h2 _ => by omega)⟩
    case round =>
      obtain ⟨k, m, rfl, hk, hk0, rfl, HN⟩ := hrel
      go_wp2_with fail
      refine (HL.out _).mono ?_
      rintro e w' ⟨rfl, rfl⟩
      go_wp2_with fail
      refine (HWD.out _).mono ?_
      rintro e w' ⟨rfl, rfl⟩
      by_cases hlt : k < (l.length + 63) / 64
      · have hkW : k < W.length := by omega
        have hw := HM.out.word _ hkW
        have hlx := HM.out.rep.lt _ hkW
        have hly := spanN_lt k F l.length
        have HFO := Lib.hid (fun z hz h0 => HM.out.rep.found k F b hkW (fun i h1 h2 => HN.out i h1 h2 (by omega)) z hz h0)
        have HUN := Lib.hid (fun h0 => HM.out.rep.unfound k F b hkW HN.out h0)
        generalize nth W k = x at *
        have HS := Lib.hid (fun w => HSP.out k (by omega) w)
        generalize spanN k F l.length = y at *
        have hxx := xor_lt x hlx
        have q0 : bits .xor .u64 IntKind.u64.max (x : Int) = ((18446744073709551615 ^^^ x : Nat) : Int) := u64_xor_nat 18446744073709551615 x (by omega) hlx
        have HXY := Lib.hid (fun (x' : Nat) (h : x' < 18446744073709551616) => u64_and_nat x' y h hly)
        cases b
        · have q1 := HXY.out _ hxx
          simp only [Bool.false_eq_true, if_false] at HFO HUN
          generalize 18446744073709551615 ^^^ x = x' at *
          generalize x' &&& y = z at *
          by_cases hz : z = 0
          · have q2 : ((z : Int) != 0) = false := by simp; omega
            have HU := Lib.hid (HUN.out hz)
            clear HFO HUN hz
            go_wp2_with fail
            refine (HS.out _).mono ?_
            rintro e w' ⟨rfl, n, rfl⟩
            go_wp2_with fail
            go_roundw
            case measure => simp [intOf]; omega
            case rel => exact ⟨k + 1, m + n, by go_num, by omega, by omega, rfl, HU⟩
          · have q2 : ((z : Int) != 0) = true := by simp; omega
            obtain ⟨hz1, hz2, hz3⟩ := HFO.out z rfl hz
            have HIN := Lib.hid hz3
            have HTZ := Lib.hid (fun n => tz_calls z hz1 hz (w.drewN n) HT.out)
            generalize Lib.ctz 64 z = cz at *
            clear HFO HUN hz hz3
            go_wp2_with fail
            refine (HS.out _).mono ?_
            rintro e w' ⟨rfl, n, rfl⟩
            go_wp2_with fail
            refine (HTZ.out _).mono ?_
            rintro e w' ⟨rfl, rfl⟩
            go_wp2_with fail
            go_ret
            exact ⟨64 * k + cz, ret_int (by push_cast; omega), HIN.out, m + n, rfl⟩
        · have q1 := HXY.out _ hlx
          simp only [if_true] at HFO HUN
          clear q0 hxx
          generalize x &&& y = z at *
          by_cases hz : z = 0
          · have q2 : ((z : Int) != 0) = false := by simp; omega
            have HU := Lib.hid (HUN.out hz)
            clear HFO HUN hz
            go_wp2_with fail
            refine (HS.out _).mono ?_
            rintro e w' ⟨rfl, n, rfl⟩
            go_wp2_with fail
            go_roundw
            case measure => simp [intOf]; omega
            case rel => exact ⟨k + 1, m + n, by go_num, by omega, by omega, rfl, HU⟩
          · have q2 : ((z : Int) != 0) = true := by simp; omega
            obtain ⟨hz1, hz2, hz3⟩ := HFO.out z rfl hz
            have HIN := Lib.hid hz3
            have HTZ := Lib.hid (fun n => tz_calls z hz1 hz (w.drewN n) HT.out)
            generalize Lib.ctz 64 z = cz at *
            clear HFO HUN hz hz3
            go_wp2_with fail
            refine (HS.out _).mono ?_
            rintro e w' ⟨rfl, n, rfl⟩
            go_wp2_with fail
            refine (HTZ.out _).mono ?_
            rintro e w' ⟨rfl, rfl⟩
            go_wp2_with fail
            go_ret
            exact ⟨64 * k + cz, ret_int (by push_cast; omega), HIN.out, m + n, rfl⟩
      · go_wp2_with fail
        refine (HL.out _).mono ?_
        rintro e w' ⟨rfl, rfl⟩
        go_wp2_with fail
        go_ret
        exact ⟨_, rfl, IsNext.end_ (fun i h1 h2 => HN.out i h1 (by omega) h2), m, rfl⟩
end Go.Proofs.YtnhieoeiiebjoaaDoor.Bt
