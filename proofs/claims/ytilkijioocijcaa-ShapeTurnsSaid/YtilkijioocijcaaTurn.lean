/- Join, and the document's Right and Join. -/
import Derived.Test.YtilkijioocijcaaShape
import Derived.Test.YtilkijioocijcaaOwn
import Derived.BigQuiet
import Derived.IntWalk
namespace Go.Proofs.Ytilkijioocijcaa.Shp
open Go.RowKit
set_option linter.unusedVariables false
set_option linter.unusedSimpArgs false

/-- What a turn returns: a shape, or none. -/
def TurnPost (O : Option (List Int)) (w' : World) (e : Ending) : Prop := (O = none ∧ e = .returned (.tuple #[.slice none 0 0, .bool false])) ∨ ∃ ys v, O = some ys ∧ e = .returned (.tuple #[v, .bool true]) ∧ ShowsI w' .i64 v ys
theorem info_i (h : True) : (Try.prog.info? 3).map (fun i => (i.zero, i.size, i.bytes)) = some (some (.int .i64 0), 1, 8) := by kernel_rfl

/-- One axis of two as one. -/
def jn (x y : Int) : Option Int := if x = 1 then some y else if y = 1 ∨ y = x then some x else none
def joinK (a b : List Int) : Nat → Option (List Int)
  | 0 => some []
  | k + 1 => (joinK a b k).bind fun l => (jn (nth a k) (nth b k)).map fun x => l ++ [x]
def joinL (a b : List Int) : Option (List Int) := if rightB a = true ∧ rightB b = true ∧ a.length = b.length then joinK a b a.length else none
theorem joinK_none {a b : List Int} {k : Nat} (h : joinK a b k = none) : ∀ m, k ≤ m → joinK a b m = none := by
  intro m hm
  induction m with
  | zero => rw [show k = 0 by omega] at h; exact h
  | succ m ih =>
    by_cases e : k = m + 1
    · rw [← e]; exact h
    · unfold joinK; rw [ih (by omega)]; rfl
theorem joinK_length {a b : List Int} : ∀ {k : Nat} {l : List Int}, joinK a b k = some l → l.length = k
  | 0, l, h => by simp [joinK] at h; subst h; rfl
  | k + 1, l, h => by
    unfold joinK at h
    cases h1 : joinK a b k with
    | none => rw [h1] at h; cases h
    | some l1 =>
      rw [h1] at h
      have := joinK_length h1
      cases h2 : jn (nth a k) (nth b k) with
      | none => rw [Option.bind_some, h2] at h; cases h
      | some x =>
        rw [Option.bind_some, h2] at h
        simp at h
        subst h
        simp [this]

theorem rright_calls (xs : List Int) (A : Option Addr) (ca : Nat) (w : World) (hx : ReadsI w .i64 A xs) (hl : xs.length ≤ 9223372036854775807) :
    Calls Try.prog 25 #[.slice A xs.length ca] w fun e w' => e = .returned (.bool (rightB xs)) ∧ w = w' := by
  have HX := Lib.hid hx
  clear hx
  obtain ⟨R, hR⟩ : ∃ R, R = rightB xs := ⟨_, rfl⟩
  rw [← hR]
  have HR := Lib.hid hR
  clear hR
  go_enter Try.func25, Try.ntmps25
  go_wp2_with fail
  go_loopw [3] (fun i wr => ∃ k : Nat, i = .int .i64 k ∧ k ≤ xs.length ∧ wr = w ∧ Hid (∀ j, j < k → bad (nth xs j) = false)) (fun i _ => xs.length - (intOf i).toNat)
  case atStart => exact ⟨0, rfl, Nat.zero_le _, by first | trivial | rfl, Lib.hid (fun j hj => by omega)⟩
  case round =>
    obtain ⟨k, rfl, hk, rfl, HN⟩ := hrel
    by_cases hlt : k < xs.length
    · obtain ⟨b, off, rfl, hc⟩ := HX.out k hlt
      have hmem := nth_mem xs k hlt
      have HBAD : Hid (bad (nth xs k) = true → R = false) := Lib.hid (fun h => by
        rw [HR.out]
        unfold rightB
        have : xs.any bad = true := List.any_eq_true.2 ⟨_, hmem, h⟩
        rw [this]; simp)
      have HN2 : Hid (bad (nth xs k) = false → ∀ j, j < k + 1 → bad (nth xs j) = false) := Lib.hid (fun h j hj => by
        by_cases e : j = k
        · rw [e]; exact h
        · exact HN.out j (by omega))
      clear hmem
      generalize nth xs k = x at *
      by_cases h0 : x < 0
      · have HE := Lib.hid (HBAD.out (by unfold bad; simp [h0]))
        go_wp2_with fail
        go_ret
        exact ⟨ret_bool HE.out.symm, by first | trivial | rfl⟩
      · by_cases h1 : 1048576 < x
        · have HE := Lib.hid (HBAD.out (by unfold bad; simp [h1]))
          go_wp2_with fail
          go_ret
          exact ⟨ret_bool HE.out.symm, by first | trivial | rfl⟩
        · have HE := Lib.hid (HN2.out (by unfold bad; simp; omega))
          go_wp2_with fail
          go_roundw
          case measure => simp [intOf]; omega
          case rel => exact ⟨k + 1, by go_num, by omega, by first | trivial | rfl, HE⟩
    · obtain rfl : k = xs.length := by omega
      have HE : Hid (R = decide (xs.length ≤ 6)) := Lib.hid (by
        rw [HR.out]
        unfold rightB
        have : xs.any bad = false := by
          rw [List.any_eq_false]
          intro x hx
          obtain ⟨j, hj, rfl⟩ := List.getElem_of_mem hx
          have := HN.out j hj
          rw [nth_eq _ _ hj] at this
          simpa using this
        rw [this]; simp)
      go_wp2_with fail
      go_ret
      exact ⟨ret_bool (by rw [HE.out]; first | exact decide_eq_decide.2 (by omega) | rfl), by first | trivial | rfl⟩
theorem join_calls (a b : List Int) (A C : Option Addr) (ca cc : Nat) (w : World) (hx : ReadsI w .i64 A a) (hy : ReadsI w .i64 C b) (hla : a.length ≤ 1000000) (hlb : b.length ≤ 1000000) :
    Calls Try.prog 17 #[.slice A a.length ca, .slice C b.length cc] w fun e w' => TurnPost (joinL a b) w' e ∧ Below w.heap.size w w' := by
  have HRA := Lib.hid (right_calls a A ca w hx (by omega))
  have HRB := Lib.hid (right_calls b C cc w hy (by omega))
  have HX := Lib.hid hx
  have HY := Lib.hid hy
  obtain ⟨O, hO⟩ : ∃ O, O = joinL a b := ⟨_, rfl⟩
  rw [← hO]
  have HO := Lib.hid hO
  clear hx hy hO
  cases hra : rightB a with
  | false =>
    have HN : Hid (O = none) := Lib.hid (by rw [HO.out]; unfold joinL; rw [if_neg (by simp [hra])])
    rw [hra] at HRA
    clear hra HO
    go_enter Try.func17, Try.ntmps17
    go_wp2_with fail
    refine HRA.out.mono ?_
    rintro e w' ⟨rfl, rfl⟩
    go_wp2_with fail
    go_ret2
    exact ⟨.inl ⟨HN.out, rfl⟩, Below.refl _ _⟩
  | true =>
  rw [hra] at HRA
  cases hrb : rightB b with
  | false =>
    have HN : Hid (O = none) := Lib.hid (by rw [HO.out]; unfold joinL; rw [if_neg (by simp [hrb])])
    rw [hrb] at HRB
    clear hra hrb HO
    go_enter Try.func17, Try.ntmps17
    go_wp2_with fail
    refine HRA.out.mono ?_
    rintro e w' ⟨rfl, rfl⟩
    go_wp2_with fail
    refine HRB.out.mono ?_
    rintro e w' ⟨rfl, rfl⟩
    go_wp2_with fail
    go_ret2
    exact ⟨.inl ⟨HN.out, rfl⟩, Below.refl _ _⟩
  | true =>
  rw [hrb] at HRB
  by_cases hll : a.length = b.length
  rotate_left
  · have HN : Hid (O = none) := Lib.hid (by rw [HO.out]; unfold joinL; rw [if_neg (by simp [hll])])
    have hne : ((a.length : Int) != (b.length : Int)) = true := by simp; omega
    clear hra hrb HO
    go_enter Try.func17, Try.ntmps17
    go_wp2_with fail
    refine HRA.out.mono ?_
    rintro e w' ⟨rfl, rfl⟩
    go_wp2_with fail
    refine HRB.out.mono ?_
    rintro e w' ⟨rfl, rfl⟩
    go_wp2_with fail
    go_ret2
    exact ⟨.inl ⟨HN.out, rfl⟩, Below.refl _ _⟩
  have HJ : Hid (O = joinK a b a.length) := Lib.hid (by rw [HO.out]; unfold joinL; rw [if_pos ⟨hra, hrb, hll⟩])
  have hlen : Hid (a.length = b.length) := Lib.hid hll
  have heq : ((a.length : Int) != (b.length : Int)) = false := by simp; omega
  clear hra hrb HO hll
  go_enter Try.func17, Try.ntmps17
  go_wp2_with fail
  refine HRA.out.mono ?_
  rintro e w' ⟨rfl, rfl⟩
  go_wp2_with fail
  refine HRB.out.mono ?_
  rintro e w' ⟨rfl, rfl⟩
  go_wp2_with fail
  go_loopw [6, 27] (fun v i wr => ∃ (k : Nat) (out : List Int), i = .int .i64 k ∧ k ≤ a.length ∧ Hid (joinK a b k = some out) ∧ Hid (OwnI wr w.heap.size 3 .i64 v out) ∧ Below w.heap.size w wr) (fun _ i _ => a.length - (intOf i).toNat)
  case atStart => exact ⟨0, [], rfl, Nat.zero_le _, Lib.hid rfl, Lib.hid (ownI_nil _ _ _ _), Below.refl _ _⟩
  case round =>
    obtain ⟨k, out, rfl, hk, HK, HOW, hB⟩ := hrel
    have HB := Lib.hid hB
    have hsz := hB.size
    clear hB
    by_cases hlt : k < a.length
    · have hlt2 : k < b.length := by rw [← hlen.out]; exact hlt
      obtain ⟨b1, o1, rfl, hc1⟩ := (HX.out.below HB.out) k hlt
      obtain ⟨b2, o2, rfl, hc2⟩ := (HY.out.below HB.out) k hlt2
      have hK1 : joinK a b (k + 1) = (jn (nth a k) (nth b k)).map fun x => out ++ [x] := by
        show (joinK a b k).bind _ = _
        rw [HK.out]; rfl
      have HK1 := Lib.hid hK1
      have hol := joinK_length HK.out
      clear hK1
      generalize nth a k = x at *
      generalize nth b k = y at *
      by_cases hx1 : x = 1
      · subst hx1
        have HK2 : Hid (joinK a b (k + 1) = some (out ++ [y])) := Lib.hid (by rw [HK1.out]; simp [jn])
        go_wp2_with (at_builtin; go_must (refine app_row (w0 := w) w.heap.size rfl (.tmp 39) (.tmp 41) 24 3 (.int .i64 0) 1 8 rfl Try.underlying24 (info_i trivial) rfl (by decide) u6 _ _ #[.int .i64 y] rfl rfl rfl (by simp [Value.oneCell']) HOW.out HB.out hsz (by omega) (by omega) ?_); intro v1 w1 hown1 hB1 hg1 hsz1)
        go_roundw
        case measure => simp [intOf]; omega
        case rel => exact ⟨k + 1, out ++ [y], by go_num, by omega, HK2, Lib.hid (OwnI.snoc hown1), hB1⟩
      · by_cases hy1 : y = 1 ∨ y = x
        · have HK2 : Hid (joinK a b (k + 1) = some (out ++ [x])) := Lib.hid (by rw [HK1.out]; simp [jn, hx1, hy1])
          have hy2 : 1 = y ∨ x = y := hy1.imp Eq.symm Eq.symm
          clear hy1
          rcases hy2 with hy2 | hy2
          all_goals
            subst hy2
            have d1 : (x == 1) = false := by simpa using hx1
            go_wp2_with (at_builtin; go_must (refine app_row (w0 := w) w.heap.size rfl (.tmp 51) (.tmp 53) 24 3 (.int .i64 0) 1 8 rfl Try.underlying24 (info_i trivial) rfl (by decide) u6 _ _ #[.int .i64 x] rfl rfl rfl (by simp [Value.oneCell']) HOW.out HB.out hsz (by omega) (by omega) ?_); intro v1 w1 hown1 hB1 hg1 hsz1)
            go_roundw
            case measure => simp [intOf]; omega
            case rel => exact ⟨k + 1, out ++ [x], by go_num, by omega, HK2, Lib.hid (OwnI.snoc hown1), hB1⟩
        · have HN : Hid (O = none) := Lib.hid (by
            rw [HJ.out]
            exact joinK_none (by rw [HK1.out]; simp [jn, hx1, hy1]) _ (by omega))
          have d1 : (x == 1) = false := by simpa using hx1
          have d2 : (y == 1) = false := by simp; omega
          have d3 : (y == x) = false := by simp; omega
          go_wp2_with fail
          go_ret2
          exact ⟨.inl ⟨HN.out, rfl⟩, HB.out⟩
    · obtain rfl : k = a.length := by omega
      go_wp2_with fail
      go_ret2
      exact ⟨.inr ⟨out, _, by rw [HJ.out, HK.out], rfl, HOW.out.shows⟩, HB.out⟩
end Go.Proofs.Ytilkijioocijcaa.Shp
