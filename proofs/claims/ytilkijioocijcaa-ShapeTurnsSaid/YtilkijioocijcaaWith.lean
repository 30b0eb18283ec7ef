/- Without. -/
import Derived.Test.YtilkijioocijcaaDel
namespace Go.Proofs.Ytilkijioocijcaa.Shp
open Go.RowKit
set_option linter.unusedVariables false
set_option linter.unusedSimpArgs false

set_option maxHeartbeats 1000000 in
theorem wo_calls (xs : List Int) (A : Option Addr) (ca : Nat) (i : Int) (w : World) (hx : ReadsI w .i64 A xs) (hla : xs.length ≤ 1000000) (hnil : A = none → xs = []) :
    Calls Try.prog 11 #[.slice A xs.length ca, .int .i64 i] w fun e w' => TurnPost (woL xs i) w' e ∧ Below w.heap.size w w' := by
  have HRA := Lib.hid (right_calls xs A ca w hx (by omega))
  have HAX := Lib.hid (axis_calls A xs.length ca i w)
  have HCL := Lib.hid (sclone_calls xs A ca w hx (by omega) hnil)
  obtain ⟨O, hO⟩ : ∃ O, O = woL xs i := ⟨_, rfl⟩
  rw [← hO]
  have HO := Lib.hid hO
  clear hx hO hnil
  by_cases hr : rightB xs = true
  rotate_left
  · have HN : Hid (O = none) := Lib.hid (by rw [HO.out]; unfold woL; rw [if_neg (fun h => hr h.1)])
    have hf : rightB xs = false := by simpa using hr
    rw [hf] at HRA
    clear hr HO hf
    go_enter Try.func11, Try.ntmps11
    go_wp2_with fail
    refine HRA.out.mono ?_
    rintro e w' ⟨rfl, rfl⟩
    go_wp2_with fail
    go_ret2
    exact ⟨.inl ⟨HN.out, rfl⟩, Below.refl _ _⟩
  rw [hr] at HRA
  by_cases hin : 0 ≤ i ∧ i < (xs.length : Int)
  rotate_left
  · have HN : Hid (O = none) := Lib.hid (by rw [HO.out]; unfold woL; rw [if_neg (fun h => hin h.2)])
    rw [decide_eq_false hin] at HAX
    clear hr hin HO
    go_enter Try.func11, Try.ntmps11
    go_wp2_with fail
    refine HRA.out.mono ?_
    rintro e w' ⟨rfl, rfl⟩
    go_wp2_with fail
    refine HAX.out.mono ?_
    rintro e w' ⟨rfl, rfl⟩
    go_wp2_with fail
    go_ret2
    exact ⟨.inl ⟨HN.out, rfl⟩, Below.refl _ _⟩
  rw [decide_eq_true hin] at HAX
  obtain ⟨k, rfl⟩ : ∃ k : Nat, i = (k : Int) := ⟨i.toNat, by omega⟩
  have hk : k < xs.length := by omega
  obtain ⟨q, hq⟩ : ∃ q, k + 1 = q := ⟨_, rfl⟩
  have HY : Hid (O = some (xs.take k ++ xs.drop q)) := Lib.hid (by rw [HO.out, ← hq]; unfold woL; rw [if_pos ⟨hr, hin.1, hin.2⟩, Int.toNat_natCast])
  have hadd : (k : Int) + 1 = (q : Int) := by omega
  have HDE := Lib.hid (fun base g cap w h => delete_calls base g cap k xs w h hk hla)
  rw [hq] at HDE
  have HQ := Lib.hid hq
  have hqb : q ≤ xs.length := by omega
  clear hr hin HO hq
  go_enter Try.func11, Try.ntmps11
  go_wp2_with fail
  refine HRA.out.mono ?_
  rintro e w' ⟨rfl, rfl⟩
  go_wp2_with fail
  refine HAX.out.mono ?_
  rintro e w' ⟨rfl, rfl⟩
  go_wp2_with fail
  refine HCL.out.mono ?_
  rintro e w1 ⟨v, rfl, hown, hv, hB1⟩
  obtain ⟨g, cap, rfl⟩ := hv (by intro h; rw [h] at hk; simp at hk)
  have HOW := Lib.hid hown
  have HB1 := Lib.hid hB1
  clear hown hv hB1
  go_wp2_with fail
  refine (HDE.out _ _ _ _ HOW.out).mono ?_
  rintro e w2 ⟨rfl, hr2, hB2⟩
  have HR2 := Lib.hid hr2
  have HB2 := Lib.hid (HB1.out.trans hB2)
  clear hr2 hB2
  go_wp2_with fail
  go_ret2
  refine ⟨.inr ⟨_, _, HY.out, rfl, ?_⟩, HB2.out⟩
  have hlen : (xs.take k ++ xs.drop q).length = xs.length - 1 := by have := HQ.out; simp; omega
  have hcap : xs.length ≤ cap := by
    rcases HOW.out.2 with ⟨h', _⟩ | ⟨g', cap', cur, h', hb, hh, hnc, _, _, _⟩
    · simp at h'
    · simp only [Value.slice.injEq, Option.some.injEq, Addr.mk.injEq, and_true, true_and] at h'
      omega
  exact ⟨some ⟨g, 0, none⟩, cap, by rw [hlen]; rfl, by rw [hlen]; omega, HR2.out⟩
end Go.Proofs.Ytilkijioocijcaa.Shp
