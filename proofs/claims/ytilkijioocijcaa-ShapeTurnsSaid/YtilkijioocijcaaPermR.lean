/- The document's Permute. -/
import Derived.Test.YtilkijioocijcaaPerm
namespace Go.Proofs.Ytilkijioocijcaa.Shp
open Go.RowKit
set_option linter.unusedVariables false
set_option linter.unusedSimpArgs false

theorem mem_take_nth (ps : List Int) (k : Nat) (hk : k ≤ ps.length) (x : Int) : x ∈ ps.take k ↔ ∃ j, j < k ∧ nth ps j = x := by
  induction k with
  | zero => simp
  | succ k ih =>
    rw [take_succ_nth ps k (by omega), ih (by omega)]
    constructor
    · rintro (⟨j, h1, h2⟩ | h)
      · exact ⟨j, by omega, h2⟩
      · exact ⟨k, by omega, h.symm⟩
    · rintro ⟨j, h1, h2⟩
      by_cases e : j = k
      · exact .inr (by rw [← h2, e])
      · exact .inl ⟨j, by omega, h2⟩
set_option maxHeartbeats 1000000 in
theorem rperm_calls (xs ps : List Int) (A C : Option Addr) (ca cc : Nat) (w : World) (hx : ReadsI w .i64 A xs) (hy : ReadsI w .i64 C ps) (hla : xs.length ≤ 1000000) (hlb : ps.length ≤ 1000000) :
    Calls Try.prog 16 #[.slice A xs.length ca, .slice C ps.length cc] w fun e w' => TurnPost (permL xs ps) w' e ∧ Below w.heap.size w w' := by
  have HRA := Lib.hid (rright_calls xs A ca w hx (by omega))
  have HX := Lib.hid hx
  have HY := Lib.hid hy
  obtain ⟨O, hO⟩ : ∃ O, O = permL xs ps := ⟨_, rfl⟩
  rw [← hO]
  have HO := Lib.hid hO
  clear hx hy hO
  cases hra : rightB xs with
  | false =>
    have HN : Hid (O = none) := Lib.hid (by rw [HO.out]; unfold permL; rw [if_neg (by simp [hra])])
    rw [hra] at HRA
    clear hra HO
    go_enter Try.func16, Try.ntmps16
    go_wp2_with fail
    refine HRA.out.mono ?_
    rintro e w' ⟨rfl, rfl⟩
    go_wp2_with fail
    go_ret2
    exact ⟨.inl ⟨HN.out, rfl⟩, Below.refl _ _⟩
  | true =>
  rw [hra] at HRA
  by_cases hll : ps.length = xs.length
  rotate_left
  · have HN : Hid (O = none) := Lib.hid (by rw [HO.out]; unfold permL; rw [if_neg (by simp [hll])])
    have hne : ((ps.length : Int) != (xs.length : Int)) = true := by simp; omega
    clear hra HO
    go_enter Try.func16, Try.ntmps16
    go_wp2_with fail
    refine HRA.out.mono ?_
    rintro e w' ⟨rfl, rfl⟩
    go_wp2_with fail
    go_ret2
    exact ⟨.inl ⟨HN.out, rfl⟩, Below.refl _ _⟩
  have h6 := (rightB_mem hra).1
  have HJ : Hid (O = permK xs ps ps.length) := Lib.hid (by rw [HO.out]; unfold permL; rw [if_pos ⟨hra, hll⟩])
  have hlen : Hid (ps.length = xs.length) := Lib.hid hll
  have heq : ((ps.length : Int) != (xs.length : Int)) = false := by simp; omega
  clear hra HO hll
  go_enter Try.func16, Try.ntmps16
  go_wp2_with fail
  refine HRA.out.mono ?_
  rintro e w' ⟨rfl, rfl⟩
  go_wp2_with fail
  go_loopw [6, 7] (fun v i wr => ∃ (k : Nat) (out : List Int), i = .int .i64 k ∧ k ≤ ps.length ∧ Hid (permK xs ps k = some out) ∧ Hid (OwnI wr w.heap.size 3 .i64 v out) ∧ Below w.heap.size w wr) (fun _ i _ => ps.length - (intOf i).toNat)
  case atStart => exact ⟨0, [], rfl, Nat.zero_le _, Lib.hid rfl, Lib.hid (ownI_nil _ _ _ _), Below.refl _ _⟩
  case round =>
    obtain ⟨k, out, rfl, hk, HK, HOW, hB⟩ := hrel
    have HB := Lib.hid hB
    have hsz := hB.size
    clear hB
    by_cases hlt : k < ps.length
    · obtain ⟨b2, o2, rfl, hc2⟩ := (HY.out.below HB.out) k hlt
      have hK1 : permK xs ps (k + 1) = pn xs ps k out := by
        show (permK xs ps k).bind _ = _
        rw [HK.out]; rfl
      have hol := permK_length HK.out
      by_cases hin : 0 ≤ nth ps k ∧ nth ps k < (xs.length : Int)
      · obtain ⟨p, hp⟩ : ∃ p : Nat, nth ps k = (p : Int) := ⟨(nth ps k).toNat, by omega⟩
        have hpl : p < xs.length := by omega
        obtain ⟨b1, o1, rfl, hc1⟩ := (HX.out.below HB.out) p hpl
        have HP := Lib.hid hp
        have HK1 := Lib.hid hK1
        have HYk := Lib.hid (HY.out.below HB.out)
        rw [hp] at hc2
        clear hin hK1 hp
        obtain ⟨x, hxe⟩ : ∃ x, nth xs p = x := ⟨_, rfl⟩
        rw [hxe] at hc1
        have HXE := Lib.hid hxe
        clear hxe
        go_wp2_with fail
        go_loopw [8] (fun i w2 => ∃ j m : Nat, i = .int .i64 j ∧ j ≤ k ∧ w2 = wr.drewN m ∧ Hid (∀ j', j' < j → nth ps j' ≠ (p : Int))) (fun i _ => k - (intOf i).toNat)
        case atStart => exact ⟨0, 0, rfl, Nat.zero_le _, rfl, Lib.hid (fun j' h => by omega)⟩
        case round =>
          obtain ⟨j, m, rfl, hj, rfl, HNE⟩ := hrel
          by_cases hjk : j < k
          · obtain ⟨b3, o3, he3, hc3⟩ := HYk.out j (by omega)
            simp only [Option.some.injEq, Addr.mk.injEq, and_true] at he3
            obtain ⟨rfl, rfl⟩ := he3
            by_cases hjp : nth ps j = (p : Int)
            · have HN : Hid (O = none) := Lib.hid (by
                rw [HJ.out]
                refine permK_none ?_ _ (by omega : k + 1 ≤ ps.length)
                rw [HK1.out]; unfold pn
                rw [HP.out, if_neg (fun h => h.2.2 ((mem_take_nth ps k (by omega) _).2 ⟨j, hjk, hjp⟩))])
              have d1 : ((p : Int) == (p : Int)) = true := by simp
              rw [hjp] at hc3
              clear hjp
              go_wp2_with fail
              go_quiet (fail)
              go_wp2_with fail
              go_ret2
              exact ⟨.inl ⟨HN.out, rfl⟩, bl_drewN (bl_drewN HB.out _) _⟩
            · have HNE2 : Hid (∀ j', j' < j + 1 → nth ps j' ≠ (p : Int)) := Lib.hid (fun j' h => by
                by_cases e : j' = j
                · rw [e]; exact hjp
                · exact HNE.out j' (by omega))
              have d1 : (nth ps j == (p : Int)) = false := by simpa using hjp
              clear hjp
              generalize nth ps j = y at *
              go_wp2_with fail
              go_quiet (fail)
              go_wp2_with fail
              go_roundw
              case measure => simp [intOf]; omega
              case rel => exact ⟨j + 1, m + nq, by go_num, by omega, rfl, HNE2⟩
          · obtain rfl : j = k := by omega
            have HK2 : Hid (permK xs ps (j + 1) = some (out ++ [x])) := Lib.hid (by
              rw [← HXE.out, HK1.out]; unfold pn
              rw [HP.out, if_pos ⟨by omega, by omega, fun h => by
                obtain ⟨j', h1, h2⟩ := (mem_take_nth ps j (by omega) _).1 h
                exact HNE.out j' h1 h2⟩, Int.toNat_natCast])
            go_wp2_with (at_builtin; go_must (refine app_row (w0 := w) w.heap.size rfl (.tmp 53) (.tmp 61) 22 3 (.int .i64 0) 1 8 rfl Try.underlying22 (info_i trivial) rfl (by decide) u6 _ _ #[.int .i64 x] rfl rfl rfl (by simp [Value.oneCell']) (OwnI.drewN HOW.out _) (bl_drewN HB.out _) hsz (by omega) (by omega) ?_); intro v1 w1 hown1 hB1 hg1 hsz1)
            go_roundw
            case measure => simp [intOf]; omega
            case rel => exact ⟨j + 1, out ++ [x], by go_num, by omega, HK2, Lib.hid (OwnI.snoc hown1), hB1⟩
      · have HN : Hid (O = none) := Lib.hid (by
          rw [HJ.out]
          exact permK_none (by rw [hK1]; unfold pn; rw [if_neg (fun h => hin ⟨h.1, h.2.1⟩)]) _ (by omega : k + 1 ≤ ps.length))
        clear hK1
        generalize nth ps k = x at *
        by_cases h0 : x < 0
        · go_wp2_with fail
          go_ret2
          exact ⟨.inl ⟨HN.out, rfl⟩, HB.out⟩
        · have h1 : (xs.length : Int) ≤ x := by omega
          go_wp2_with fail
          go_ret2
          exact ⟨.inl ⟨HN.out, rfl⟩, HB.out⟩
    · obtain rfl : k = ps.length := by omega
      go_wp2_with fail
      go_ret2
      exact ⟨.inr ⟨out, _, by rw [HJ.out, HK.out], rfl, HOW.out.shows⟩, HB.out⟩
end Go.Proofs.Ytilkijioocijcaa.Shp
