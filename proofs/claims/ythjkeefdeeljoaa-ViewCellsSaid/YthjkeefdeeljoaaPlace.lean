/- Contracts of shape.Place and shape.At. -/
import Derived.Test.YthjkeefdeeljoaaPk3
namespace Go.Proofs.Ythjkeefdeeljoaa.Shp
open Go.RowKit Go.Proofs.Ythjkeefdeeljoaa.Num
set_option linter.unusedVariables false
set_option linter.unusedSimpArgs false

def sizeOk (xs : List Int) : Bool := rightB xs && decide (prod xs ≤ 1048576)
theorem size_full (xs : List Int) : sizeV xs 1048576 = if sizeOk xs = true then .tuple #[.int .i64 (prod xs), .bool true] else .tuple #[.int .i64 0, .bool false] := by
  unfold sizeV sizeOk
  cases hr : rightB xs with
  | false => simp
  | true =>
    have h1 : (xs.any fun x => decide (x < 0)) = false := List.any_eq_false.2 fun x hx => by have := ((rightB_mem hr).2 x hx).1; simpa using this
    have h2 : prodOk (min 1048576 1048576) xs = decide (prod xs ≤ 1048576) := by unfold prodOk; rw [h1]; simp
    unfold prodV
    rw [if_pos rfl, h2]
    simp
/-- With axes of at least 1 the product of the last ones. -/
theorem tl_prod (xs : List Int) (h1 : ∀ x ∈ xs, 1 ≤ x) : ∀ k, k ≤ xs.length → (tl xs k : Int) = prod (xs.drop (xs.length - k))
  | 0, _ => by rw [Nat.sub_zero, List.drop_length]; rfl
  | k + 1, h => by
    rw [tl_step xs k h, Int.natCast_mul, tl_prod xs h1 k (by omega)]
    have hlt : xs.length - 1 - k < xs.length := by omega
    rw [show xs.length - (k + 1) = xs.length - 1 - k by omega, List.drop_eq_getElem_cons hlt, show xs.length - 1 - k + 1 = xs.length - k by omega]
    have hx := h1 _ (List.getElem_mem hlt)
    have hm : (mx xs (xs.length - 1 - k) : Int) = xs[xs.length - 1 - k] := by
      unfold mx; rw [nth_eq _ _ hlt]; omega
    rw [hm]
    simp [prod, Int.mul_comm]
theorem prod_ge (xs : List Int) (h1 : ∀ x ∈ xs, 1 ≤ x) : 1 ≤ prod xs := by
  have := prod_pos xs (fun x hx => by have := h1 x hx; omega)
  omega
theorem tl_le (xs : List Int) (h1 : ∀ x ∈ xs, 1 ≤ x) (hp : prod xs ≤ 1048576) : ∀ k, k ≤ xs.length → tl xs k ≤ 1048576 := by
  intro k hk
  have e := tl_prod xs h1 k hk
  have hs : prod xs = prod (xs.take (xs.length - k)) * prod (xs.drop (xs.length - k)) := by rw [← prod_append2, List.take_append_drop]
  have a := prod_ge (xs.take (xs.length - k)) (fun x hx => h1 x (List.mem_of_mem_take hx))
  have b := prod_ge (xs.drop (xs.length - k)) (fun x hx => h1 x (List.mem_of_mem_drop hx))
  have c : prod (xs.drop (xs.length - k)) ≤ prod (xs.take (xs.length - k)) * prod (xs.drop (xs.length - k)) := by
    have := Int.mul_le_mul_of_nonneg_right a (show 0 ≤ prod (xs.drop (xs.length - k)) by omega)
    omega
  omega
/-- The count of a place, its first k digits. -/
def plc (xs ps : List Int) : Nat → Int
  | 0 => 0
  | k + 1 => plc xs ps k + (sp xs k : Int) * nth ps k
theorem has_mem {xs ps : List Int} (h : hasB xs ps = true) : rightB xs = true ∧ ps.length = xs.length ∧ ∀ i, i < xs.length → 0 ≤ nth ps i ∧ nth ps i < nth xs i := by
  unfold hasB inTo at h
  simp only [Bool.and_eq_true, decide_eq_true_eq, List.all_eq_true, List.mem_range] at h
  exact ⟨h.1, h.2.1, h.2.2⟩
theorem has_pos {xs ps : List Int} (h : hasB xs ps = true) : ∀ x ∈ xs, 1 ≤ x := fun x hx => by
  obtain ⟨_, _, h3⟩ := has_mem h
  obtain ⟨i, hi, rfl⟩ := List.getElem_of_mem hx
  have := h3 i hi
  rw [nth_eq xs i hi] at this
  omega
theorem plc_bd (xs ps : List Int) (h : hasB xs ps = true) (hs : ∀ j, j < xs.length → sp xs j ≤ 1048576) : ∀ k, k ≤ xs.length → 0 ≤ plc xs ps k ∧ plc xs ps k ≤ k * 1099511627776
  | 0, _ => by simp [plc]
  | k + 1, hk => by
    obtain ⟨i1, i2⟩ := plc_bd xs ps h hs k (by omega)
    obtain ⟨hr, _, h3⟩ := has_mem h
    obtain ⟨a, b⟩ := h3 k (by omega)
    have c := ((rightB_mem hr).2 _ (nth_mem xs k (by omega))).2
    have d := hs k (by omega)
    have e0 : 0 ≤ (sp xs k : Int) * nth ps k := Int.mul_nonneg (by omega) a
    have e1 : (sp xs k : Int) * nth ps k ≤ 1048576 * 1048576 := Int.mul_le_mul (by omega) (by omega) a (by omega)
    unfold plc
    rw [show ((k + 1 : Nat) : Int) = (k : Int) + 1 from rfl]
    constructor
    · omega
    · omega

set_option maxHeartbeats 1000000 in
theorem place_calls (xs ps : List Int) (A C : Option Addr) (ca cc : Nat) (w : World) (hx : ReadsI w .i64 A xs) (hy : ReadsI w .i64 C ps) (hl : xs.length ≤ 1000000) (hly : ps.length ≤ 1000000) :
    Calls Try.prog 24 #[.slice A xs.length ca, .slice C ps.length cc] w fun e w' =>
      e = .returned (if (sizeOk xs && hasB xs ps) = true then .tuple #[.int .i64 (plc xs ps xs.length), .bool true] else .tuple #[.int .i64 0, .bool false]) ∧ Below w.heap.size w w' := by
  have HS := size_calls xs 1048576 A ca w hx (by omega) (by unfold fits; omega)
  have HH := Lib.hid (has_calls xs ps A C ca cc w hx hy (by omega) (by omega))
  rw [size_full] at HS
  by_cases hok : sizeOk xs = true
  · rw [if_pos hok] at HS
    have HS := Lib.hid HS
    by_cases hh : hasB xs ps = true
    · rw [if_pos (by rw [hok, hh]; rfl)]
      have hp1 := has_pos hh
      have hpr : prod xs ≤ 1048576 := by unfold sizeOk at hok; simp only [Bool.and_eq_true, decide_eq_true_eq] at hok; exact hok.2
      have htl := tl_le xs hp1 hpr
      have hsp : ∀ j, j < xs.length → sp xs j ≤ 1048576 := fun j hj => htl _ (by omega)
      have HSTR := Lib.hid (strides_calls xs A ca w hx hl (has_mem hh).1 (fun k hk => htl k (by omega)))
      have HPB := Lib.hid (plc_bd xs ps hh hsp)
      have HSP := Lib.hid hsp
      have HHM := Lib.hid (has_mem hh)
      have HHB := Lib.hid hh
      have HY := Lib.hid hy
      clear hx hy hok hp1 hpr htl hsp hh
      go_enter Try.func24, Try.ntmps24
      go_wp2_with fail
      refine HS.out.mono ?_
      rintro e w' ⟨rfl, rfl⟩
      go_wp2_with fail
      refine HH.out.mono ?_
      rintro e w' ⟨rfl, rfl⟩
      rw [HHB.out]
      go_wp2_with fail
      refine HSTR.out.mono ?_
      rintro e w1 ⟨⟨b, S, _, rfl, hr, hSl, hSj⟩, hB⟩
      have HR := Lib.hid hr
      have HSL := Lib.hid hSl
      have HSJ := Lib.hid hSj
      have HB := Lib.hid hB
      clear hr hSl hSj hB
      have HY1 := Lib.hid (HY.out.below HB.out)
      go_wp2_with fail
      go_loop [8, 9, 10, 27] (fun n _ _ i => ∃ k : Nat, i = .int .i64 k ∧ k ≤ xs.length ∧ n = .int .i64 (plc xs ps k)) (fun _ _ _ i => xs.length - (intOf i).toNat)
      case atStart => exact ⟨0, rfl, Nat.zero_le _, rfl⟩
      case round =>
        obtain ⟨k, rfl, hk, rfl⟩ := hrel
        by_cases hlt : k < xs.length
        · obtain ⟨b2, off2, rfl, hc2⟩ := HY1.out k (by rw [HHM.out.2.1]; exact hlt)
          obtain ⟨hc1, _⟩ := HR.out k (by rw [HSL.out]; exact hlt)
          rw [HSJ.out k hlt, Nat.zero_add] at hc1
          have hlp : k < ps.length := by rw [HHM.out.2.1]; exact hlt
          have hst : plc xs ps (k + 1) = plc xs ps k + (sp xs k : Int) * nth ps k := rfl
          obtain ⟨pa, pb⟩ := HPB.out k hk
          obtain ⟨qa, qb⟩ := HPB.out (k + 1) hlt
          rw [hst] at qa qb
          have hk6 := (rightB_mem HHM.out.1).1
          obtain ⟨m, hm⟩ : ∃ m, (sp xs k : Int) * nth ps k = m := ⟨_, rfl⟩
          rw [hm] at hst qa qb
          have hm0 : 0 ≤ m := by rw [← hm]; exact Int.mul_nonneg (by omega) (HHM.out.2.2 k hlt).1
          have HST := Lib.hid hst
          clear hst
          generalize sp xs k = s at *
          generalize nth ps k = a at *
          generalize plc xs ps k = n at *
          have qb' : n + m ≤ 7696581394432 := by omega
          clear qb pb
          have w1 : IntKind.i64.wrap m = m := by rw [IntKind.wrap_i64]; omega
          have w2 : IntKind.i64.wrap (n + m) = n + m := by rw [IntKind.wrap_i64]; omega
          go_wp2_with fail
          go_round
          case measure => first | (simp [intOf]; done) | (simp [intOf]; omega)
          case rel => exact ⟨k + 1, by go_num, by omega, by rw [HST.out]⟩
        · obtain rfl : k = xs.length := by omega
          go_wp2_with fail
          go_ret2
          exact ⟨rfl, HB.out⟩
    · have hh' : hasB xs ps = false := by simpa using hh
      rw [if_neg (by rw [hok, hh']; simp)]
      rw [hh'] at HH
      clear hx hy hok hh
      go_enter Try.func24, Try.ntmps24
      go_wp2_with fail
      refine HS.out.mono ?_
      rintro e w' ⟨rfl, rfl⟩
      go_wp2_with fail
      refine HH.out.mono ?_
      rintro e w' ⟨rfl, rfl⟩
      go_wp2_with fail
      go_ret2
      exact ⟨rfl, Below.refl _ _⟩
  · rw [if_neg hok] at HS
    have HS := Lib.hid HS
    rw [if_neg (by simp [hok])]
    clear hx hy hok HH
    go_enter Try.func24, Try.ntmps24
    go_wp2_with fail
    refine HS.out.mono ?_
    rintro e w' ⟨rfl, rfl⟩
    go_wp2_with fail
    go_ret2
    exact ⟨rfl, Below.refl _ _⟩
end Go.Proofs.Ythjkeefdeeljoaa.Shp
