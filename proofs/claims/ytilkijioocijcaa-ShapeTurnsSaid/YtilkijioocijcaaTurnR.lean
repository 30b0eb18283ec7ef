/- The document's Join. -/
import Derived.Test.YtilkijioocijcaaTurn
namespace Go.Proofs.Ytilkijioocijcaa.Shp
open Go.RowKit
set_option linter.unusedVariables false
set_option linter.unusedSimpArgs false
theorem OwnI.drewN {w : World} {base : Nat} {e : TypeId} {k : IntKind} {v : Value} {xs : List Int} (h : OwnI w base e k v xs) (n : Nat) : OwnI (w.drewN n) base e k v xs := h
theorem rjoin_calls (a b : List Int) (A C : Option Addr) (ca cc : Nat) (w : World) (hx : ReadsI w .i64 A a) (hy : ReadsI w .i64 C b) (hla : a.length ≤ 1000000) (hlb : b.length ≤ 1000000) :
    Calls Try.prog 18 #[.slice A a.length ca, .slice C b.length cc] w fun e w' => TurnPost (joinL a b) w' e ∧ Below w.heap.size w w' := by
  have HRA := Lib.hid (rright_calls a A ca w hx (by omega))
  have HRB := Lib.hid (rright_calls b C cc w hy (by omega))
  have HX := Lib.hid hx
  have HY := Lib.hid hy
  obtain ⟨O, hO⟩ : ∃ O, O = joinL a b := ⟨_, rfl⟩
  rw [← hO]
  have HO := Lib.hid hO
  clear hx hy hO
  cases hra : rightB a with
  | false =>
    have HN : Hid (O = none) := Lib.hid (by rw [HO.out]; unfold joinL; rw [if_neg (by simp [hra])])
    rw [hra] at HRA
    clear hra HO
    go_enter Try.func18, Try.ntmps18
    go_wp2_with fail
    refine HRA.out.mono ?_
    rintro e w' ⟨rfl, rfl⟩
    go_wp2_with fail
    go_ret2
    exact ⟨.inl ⟨HN.out, rfl⟩, Below.refl _ _⟩
  | true =>
  rw [hra] at HRA
  cases hrb : rightB b with
  | false =>
    have HN : Hid (O = none) := Lib.hid (by rw [HO.out]; unfold joinL; rw [if_neg (by simp [hrb])])
    rw [hrb] at HRB
    clear hra hrb HO
    go_enter Try.func18, Try.ntmps18
    go_wp2_with fail
    refine HRA.out.mono ?_
    rintro e w' ⟨rfl, rfl⟩
    go_wp2_with fail
    refine HRB.out.mono ?_
    rintro e w' ⟨rfl, rfl⟩
    go_wp2_with fail
    go_ret2
    exact ⟨.inl ⟨HN.out, rfl⟩, Below.refl _ _⟩
  | true =>
  rw [hrb] at HRB
  by_cases hll : a.length = b.length
  rotate_left
  · have HN : Hid (O = none) := Lib.hid (by rw [HO.out]; unfold joinL; rw [if_neg (by simp [hll])])
    have hne : ((a.length : Int) != (b.length : Int)) = true := by simp; omega
    clear hra hrb HO
    go_enter Try.func18, Try.ntmps18
    go_wp2_with fail
    refine HRA.out.mono ?_
    rintro e w' ⟨rfl, rfl⟩
    go_wp2_with fail
    refine HRB.out.mono ?_
    rintro e w' ⟨rfl, rfl⟩
    go_wp2_with fail
    go_ret2
    exact ⟨.inl ⟨HN.out, rfl⟩, Below.refl _ _⟩
  have HJ : Hid (O = joinK a b a.length) := Lib.hid (by rw [HO.out]; unfold joinL; rw [if_pos ⟨hra, hrb, hll⟩])
  have hlen : Hid (a.length = b.length) := Lib.hid hll
  have heq : ((a.length : Int) != (b.length : Int)) = false := by simp; omega
  clear hra hrb HO hll
  go_enter Try.func18, Try.ntmps18
  go_wp2_with fail
  refine HRA.out.mono ?_
  rintro e w' ⟨rfl, rfl⟩
  go_wp2_with fail
  refine HRB.out.mono ?_
  rintro e w' ⟨rfl, rfl⟩
  go_wp2_with fail
  go_loopw [6, 7] (fun v i wr => ∃ (k : Nat) (out : List Int), i = .int .i64 k ∧ k ≤ a.length ∧ Hid (joinK a b k = some out) ∧ Hid (OwnI wr w.heap.size 3 .i64 v out) ∧ Below w.heap.size w wr) (fun _ i _ => a.length - (intOf i).toNat)
  case atStart => exact ⟨0, [], rfl, Nat.zero_le _, Lib.hid rfl, Lib.hid (ownI_nil _ _ _ _), Below.refl _ _⟩
  case round =>
    obtain ⟨k, out, rfl, hk, HK, HOW, hB⟩ := hrel
    have HB := Lib.hid hB
    have hsz := hB.size
    clear hB
    by_cases hlt : k < a.length
    · have hlt2 : k < b.length := by rw [← hlen.out]; exact hlt
      obtain ⟨b1, o1, rfl, hc1⟩ := (HX.out.below HB.out) k hlt
      obtain ⟨b2, o2, rfl, hc2⟩ := (HY.out.below HB.out) k hlt2
      have hK1 : joinK a b (k + 1) = (jn (nth a k) (nth b k)).map fun x => out ++ [x] := by
        show (joinK a b k).bind _ = _
        rw [HK.out]; rfl
      have HK1 := Lib.hid hK1
      have hol := joinK_length HK.out
      clear hK1
      generalize nth a k = x at *
      generalize nth b k = y at *
      by_cases hxy : x = y
      · subst hxy
        have HK2 : Hid (joinK a b (k + 1) = some (out ++ [x])) := Lib.hid (by rw [HK1.out]; simp [jn])
        have d1 : (x == x) = true := by simp
        go_wp2_with fail
        go_quiet (fail)
        clear d1
        go_wp2_with (at_builtin; go_must (refine app_row (w0 := w) w.heap.size rfl (.tmp 46) (.tmp 51) 22 3 (.int .i64 0) 1 8 rfl Try.underlying22 (info_i trivial) rfl (by decide) u6 _ _ #[.int .i64 x] rfl rfl rfl (by simp [Value.oneCell']) (OwnI.drewN HOW.out _) (bl_drewN HB.out _) hsz (by omega) (by omega) ?_); intro v1 w1 hown1 hB1 hg1 hsz1)
        go_roundw
        case measure => simp [intOf]; omega
        case rel => exact ⟨k + 1, out ++ [x], by go_num, by omega, HK2, Lib.hid (OwnI.snoc hown1), hB1⟩
      · have d1 : (x == y) = false := by simpa using hxy
        by_cases hy1 : y = 1
        · have HK2 : Hid (joinK a b (k + 1) = some (out ++ [x])) := Lib.hid (by rw [HK1.out]; unfold jn; rw [if_neg (by omega), if_pos (.inl hy1)]; rfl)
          have d2 : (y == 1) = true := by simp [hy1]
          clear hxy hy1
          go_wp2_with fail
          go_quiet (fail)
          go_wp2_with (at_builtin; go_must (refine app_row (w0 := w) w.heap.size rfl (.tmp 46) (.tmp 51) 22 3 (.int .i64 0) 1 8 rfl Try.underlying22 (info_i trivial) rfl (by decide) u6 _ _ #[.int .i64 x] rfl rfl rfl (by simp [Value.oneCell']) (OwnI.drewN HOW.out _) (bl_drewN HB.out _) hsz (by omega) (by omega) ?_); intro v1 w1 hown1 hB1 hg1 hsz1)
          go_roundw
          case measure => simp [intOf]; omega
          case rel => exact ⟨k + 1, out ++ [x], by go_num, by omega, HK2, Lib.hid (OwnI.snoc hown1), hB1⟩
        · have d2 : (y == 1) = false := by simpa using hy1
          by_cases hx1 : x = 1
          · have HK2 : Hid (joinK a b (k + 1) = some (out ++ [y])) := Lib.hid (by rw [HK1.out]; unfold jn; rw [if_pos hx1]; rfl)
            have d3 : (x == 1) = true := by simp [hx1]
            clear hxy hy1 hx1
            go_wp2_with fail
            go_quiet (fail)
            go_wp2_with (at_builtin; go_must (refine app_row (w0 := w) w.heap.size rfl (.tmp 59) (.tmp 64) 22 3 (.int .i64 0) 1 8 rfl Try.underlying22 (info_i trivial) rfl (by decide) u6 _ _ #[.int .i64 y] rfl rfl rfl (by simp [Value.oneCell']) (OwnI.drewN HOW.out _) (bl_drewN HB.out _) hsz (by omega) (by omega) ?_); intro v1 w1 hown1 hB1 hg1 hsz1)
            go_roundw
            case measure => simp [intOf]; omega
            case rel => exact ⟨k + 1, out ++ [y], by go_num, by omega, HK2, Lib.hid (OwnI.snoc hown1), hB1⟩
          · have d3 : (x == 1) = false := by simpa using hx1
            have HN : Hid (O = none) := Lib.hid (by
              rw [HJ.out]
              exact joinK_none (by rw [HK1.out]; unfold jn; rw [if_neg hx1, if_neg (by omega)]; rfl) _ (by omega))
            clear hxy hy1 hx1
            go_wp2_with fail
            go_quiet (fail)
            go_wp2_with fail
            go_ret2
            exact ⟨.inl ⟨HN.out, rfl⟩, bl_drewN HB.out _⟩
    · obtain rfl : k = a.length := by omega
      go_wp2_with fail
      go_ret2
      exact ⟨.inr ⟨out, _, by rw [HJ.out, HK.out], rfl, HOW.out.shows⟩, HB.out⟩
end Go.Proofs.Ytilkijioocijcaa.Shp
