/- The law ShapeTurns: its walk. -/
import Derived.Test.YtilkijioocijcaaWithI
import Derived.Test.YtilkijioocijcaaPermR
import Derived.Test.YtilkijioocijcaaTurnR
import Derived.Test.YtilkijioocijcaaKnows07
namespace Go.Proofs.Ytilkijioocijcaa.Shp
open Go.RowKit
set_option linter.unusedVariables false
set_option linter.unusedSimpArgs false

/-- What a turn returns, in one form. -/
theorem turn_one {O : Option (List Int)} {w : World} {e : Ending} (h : TurnPost O w e) : ∃ A c, e = .returned (.tuple #[.slice A (O.getD []).length c, .bool O.isSome]) ∧ ReadsI w .i64 A (O.getD []) := by
  rcases h with ⟨rfl, rfl⟩ | ⟨ys, v, rfl, rfl, A, c, rfl, _, h⟩
  · exact ⟨none, 0, rfl, fun i hi => by simp at hi⟩
  · exact ⟨A, c, rfl, h⟩
theorem woL_len {xs : List Int} {i : Int} (h : xs.length ≤ 40) : ((woL xs i).getD []).length ≤ 1000000 := by unfold woL; split <;> simp <;> omega
theorem wiL_len {xs : List Int} {i n : Int} (h : xs.length ≤ 40) : ((wiL xs i n).getD []).length ≤ 1000000 := by unfold wiL; split <;> simp <;> omega
theorem permL_len {xs ps : List Int} (h : ps.length ≤ 40) : ((permL xs ps).getD []).length ≤ 1000000 := by
  unfold permL
  split
  · cases e : permK xs ps ps.length with
    | none => simp
    | some l => have := permK_length e; simp; omega
  · simp
theorem joinL_len {xs ps : List Int} (h : xs.length ≤ 40) : ((joinL xs ps).getD []).length ≤ 1000000 := by
  unfold joinL
  split
  · cases e : joinK xs ps xs.length with
    | none => simp
    | some l => have := joinK_length e; simp; omega
  · simp
/-- A turn's contract in its one form, over whatever answer. -/
def Turns (L : List Int) (b : Bool) (w w' : World) (e : Ending) : Prop := ∃ A c, e = .returned (.tuple #[.slice A L.length c, .bool b]) ∧ Hid (ReadsI w' .i64 A L) ∧ Hid (Below w.heap.size w w')
theorem turns_of {P : Program} {f : FuncId} {args : Array Value} {w : World} {O : Option (List Int)} {L : List Int} {b : Bool} (h : Calls P f args w fun e w' => TurnPost O w' e ∧ Below w.heap.size w w') (hL : O.getD [] = L) (hb : O.isSome = b) : Calls P f args w (fun e w' => Turns L b w w' e) :=
  h.mono fun e w' ⟨h1, h2⟩ => by
    obtain ⟨A, c, rfl, hr⟩ := turn_one h1
    subst hL
    subst hb
    exact ⟨A, c, rfl, Lib.hid hr, Lib.hid h2⟩

set_option maxRecDepth 100000 in
set_option maxHeartbeats 2000000 in
theorem turns_walk (xs : List Int) (A : Option Addr) (ca : Nat) (ys : List Int) (D : Option Addr) (cd : Nat) (i n : Int) (ps : List Int) (C : Option Addr) (cc : Nat) (w : World) (hx : ReadsI w .i64 A xs) (hca : xs.length ≤ ca) (hy : ReadsI w .i64 D ys) (hp : ReadsI w .i64 C ps) :
    Calls Try.prog 4 #[.slice A xs.length ca, .slice D ys.length cd, .int .i64 i, .int .i64 n, .slice C ps.length cc] w fun e w' => e = .returned (.bool true) ∧ Below w.heap.size w w' := by
  have hnil : A = none → xs = [] := fun h => by
    cases xs with
    | nil => rfl
    | cons x l => obtain ⟨b, off, e, _⟩ := hx 0 (by simp); rw [h] at e; cases e
  have HX := Lib.hid hx
  have HY := Lib.hid hy
  have HP := Lib.hid hp
  have HNIL := Lib.hid hnil
  clear hx hy hp hnil
  by_cases h0 : 40 < xs.length
  · go_enter Try.func4, Try.ntmps4
    go_wp2_with fail
    refine (knows_calls _).mono ?_
    rintro e w1 ⟨rfl, hB1⟩
    go_wp2_with fail
    go_ret
    exact ⟨rfl, hB1⟩
  by_cases h1 : 40 < ys.length
  · go_enter Try.func4, Try.ntmps4
    go_wp2_with fail
    refine (knows_calls _).mono ?_
    rintro e w1 ⟨rfl, hB1⟩
    go_wp2_with fail
    go_ret
    exact ⟨rfl, hB1⟩
  by_cases h2 : 40 < ps.length
  · go_enter Try.func4, Try.ntmps4
    go_wp2_with fail
    refine (knows_calls _).mono ?_
    rintro e w1 ⟨rfl, hB1⟩
    go_wp2_with fail
    go_ret
    exact ⟨rfl, hB1⟩
  obtain ⟨la, hla⟩ : ∃ l, (woL xs i).getD [] = l := ⟨_, rfl⟩
  obtain ⟨ba, hba⟩ : ∃ b, (woL xs i).isSome = b := ⟨_, rfl⟩
  have hna : la.length ≤ 1000000 := by rw [← hla]; exact woL_len (by omega)
  have HCa0 := Lib.hid (fun w h => turns_of (wo_calls xs A ca i w h (by omega) HNIL.out) hla hba)
  have HCa1 := Lib.hid (fun w h => turns_of (rwo_calls xs A ca i w h (by omega) hca) hla hba)
  clear hla hba
  obtain ⟨lb, hlb⟩ : ∃ l, (wiL xs i n).getD [] = l := ⟨_, rfl⟩
  obtain ⟨bb, hbb⟩ : ∃ b, (wiL xs i n).isSome = b := ⟨_, rfl⟩
  have hnb : lb.length ≤ 1000000 := by rw [← hlb]; exact wiL_len (by omega)
  have HCb0 := Lib.hid (fun w h => turns_of (wi_calls xs A ca i n w h (by omega) HNIL.out) hlb hbb)
  have HCb1 := Lib.hid (fun w h => turns_of (rwi_calls xs A ca i n w h (by omega) hca) hlb hbb)
  clear hlb hbb
  obtain ⟨lc, hlc⟩ : ∃ l, (permL xs ps).getD [] = l := ⟨_, rfl⟩
  obtain ⟨bc, hbc⟩ : ∃ b, (permL xs ps).isSome = b := ⟨_, rfl⟩
  have hnc : lc.length ≤ 1000000 := by rw [← hlc]; exact permL_len (by omega)
  have HCc0 := Lib.hid (fun w h h2 => turns_of (perm_calls xs ps A C ca cc w h h2 (by omega) (by omega)) hlc hbc)
  have HCc1 := Lib.hid (fun w h h2 => turns_of (rperm_calls xs ps A C ca cc w h h2 (by omega) (by omega)) hlc hbc)
  clear hlc hbc
  obtain ⟨ld, hld⟩ : ∃ l, (joinL xs ys).getD [] = l := ⟨_, rfl⟩
  obtain ⟨bd, hbd⟩ : ∃ b, (joinL xs ys).isSome = b := ⟨_, rfl⟩
  have hnd : ld.length ≤ 1000000 := by rw [← hld]; exact joinL_len (by omega)
  have HCd0 := Lib.hid (fun w h h2 => turns_of (join_calls xs ys A D ca cd w h h2 (by omega) (by omega)) hld hbd)
  have HCd1 := Lib.hid (fun w h h2 => turns_of (rjoin_calls xs ys A D ca cd w h h2 (by omega) (by omega)) hld hbd)
  clear hld hbd
  have HN1 := Lib.hid hna
  have HN2 := Lib.hid hnb
  have HN3 := Lib.hid hnc
  have HN4 := Lib.hid hnd
  clear hna hnb hnc hnd
  have HB0 : Hid (Below w.heap.size w w) := Lib.hid (Below.refl _ _)
  go_enter Try.func4, Try.ntmps4
  go_wp2_with fail
  refine (HCa0.out _ HX.out).mono ?_
  rintro e w1 ⟨R1, c1, rfl, HR1, HB1⟩
  replace HX := Lib.hid (HX.out.below HB1.out)
  replace HY := Lib.hid (HY.out.below HB1.out)
  replace HP := Lib.hid (HP.out.below HB1.out)
  replace HB0 := Lib.hid (bl_then HB0.out HB1.out)
  clear HB1
  go_wp2_with fail
  refine (HCa1.out _ HX.out).mono ?_
  rintro e w2 ⟨R2, c2, rfl, HR2, HB2⟩
  replace HX := Lib.hid (HX.out.below HB2.out)
  replace HY := Lib.hid (HY.out.below HB2.out)
  replace HP := Lib.hid (HP.out.below HB2.out)
  replace HB0 := Lib.hid (bl_then HB0.out HB2.out)
  replace HR1 := Lib.hid (HR1.out.below HB2.out)
  clear HB2
  go_wp2_with fail
  refine (HCb0.out _ HX.out).mono ?_
  rintro e w3 ⟨R3, c3, rfl, HR3, HB3⟩
  replace HX := Lib.hid (HX.out.below HB3.out)
  replace HY := Lib.hid (HY.out.below HB3.out)
  replace HP := Lib.hid (HP.out.below HB3.out)
  replace HB0 := Lib.hid (bl_then HB0.out HB3.out)
  replace HR1 := Lib.hid (HR1.out.below HB3.out)
  replace HR2 := Lib.hid (HR2.out.below HB3.out)
  clear HB3
  go_wp2_with fail
  refine (HCb1.out _ HX.out).mono ?_
  rintro e w4 ⟨R4, c4, rfl, HR4, HB4⟩
  replace HX := Lib.hid (HX.out.below HB4.out)
  replace HY := Lib.hid (HY.out.below HB4.out)
  replace HP := Lib.hid (HP.out.below HB4.out)
  replace HB0 := Lib.hid (bl_then HB0.out HB4.out)
  replace HR1 := Lib.hid (HR1.out.below HB4.out)
  replace HR2 := Lib.hid (HR2.out.below HB4.out)
  replace HR3 := Lib.hid (HR3.out.below HB4.out)
  clear HB4
  go_wp2_with fail
  refine (HCc0.out _ HX.out HP.out).mono ?_
  rintro e w5 ⟨R5, c5, rfl, HR5, HB5⟩
  replace HX := Lib.hid (HX.out.below HB5.out)
  replace HY := Lib.hid (HY.out.below HB5.out)
  replace HP := Lib.hid (HP.out.below HB5.out)
  replace HB0 := Lib.hid (bl_then HB0.out HB5.out)
  replace HR1 := Lib.hid (HR1.out.below HB5.out)
  replace HR2 := Lib.hid (HR2.out.below HB5.out)
  replace HR3 := Lib.hid (HR3.out.below HB5.out)
  replace HR4 := Lib.hid (HR4.out.below HB5.out)
  clear HB5
  go_wp2_with fail
  refine (HCc1.out _ HX.out HP.out).mono ?_
  rintro e w6 ⟨R6, c6, rfl, HR6, HB6⟩
  replace HX := Lib.hid (HX.out.below HB6.out)
  replace HY := Lib.hid (HY.out.below HB6.out)
  replace HP := Lib.hid (HP.out.below HB6.out)
  replace HB0 := Lib.hid (bl_then HB0.out HB6.out)
  replace HR1 := Lib.hid (HR1.out.below HB6.out)
  replace HR2 := Lib.hid (HR2.out.below HB6.out)
  replace HR3 := Lib.hid (HR3.out.below HB6.out)
  replace HR4 := Lib.hid (HR4.out.below HB6.out)
  replace HR5 := Lib.hid (HR5.out.below HB6.out)
  clear HB6
  go_wp2_with fail
  refine (HCd0.out _ HX.out HY.out).mono ?_
  rintro e w7 ⟨R7, c7, rfl, HR7, HB7⟩
  replace HX := Lib.hid (HX.out.below HB7.out)
  replace HY := Lib.hid (HY.out.below HB7.out)
  replace HP := Lib.hid (HP.out.below HB7.out)
  replace HB0 := Lib.hid (bl_then HB0.out HB7.out)
  replace HR1 := Lib.hid (HR1.out.below HB7.out)
  replace HR2 := Lib.hid (HR2.out.below HB7.out)
  replace HR3 := Lib.hid (HR3.out.below HB7.out)
  replace HR4 := Lib.hid (HR4.out.below HB7.out)
  replace HR5 := Lib.hid (HR5.out.below HB7.out)
  replace HR6 := Lib.hid (HR6.out.below HB7.out)
  clear HB7
  go_wp2_with fail
  refine (HCd1.out _ HX.out HY.out).mono ?_
  rintro e w8 ⟨R8, c8, rfl, HR8, HB8⟩
  replace HX := Lib.hid (HX.out.below HB8.out)
  replace HY := Lib.hid (HY.out.below HB8.out)
  replace HP := Lib.hid (HP.out.below HB8.out)
  replace HB0 := Lib.hid (bl_then HB0.out HB8.out)
  replace HR1 := Lib.hid (HR1.out.below HB8.out)
  replace HR2 := Lib.hid (HR2.out.below HB8.out)
  replace HR3 := Lib.hid (HR3.out.below HB8.out)
  replace HR4 := Lib.hid (HR4.out.below HB8.out)
  replace HR5 := Lib.hid (HR5.out.below HB8.out)
  replace HR6 := Lib.hid (HR6.out.below HB8.out)
  replace HR7 := Lib.hid (HR7.out.below HB8.out)
  clear HB8
  go_wp2_with fail
  refine (ints_same _ _ _ _ _ la _ rfl HR1.out HR2.out (Nat.le_trans HN1.out (by decide))).mono ?_
  rintro e w9 ⟨rfl, hB⟩
  have HB9 := Lib.hid hB
  clear hB
  replace HB0 := Lib.hid (bl_then HB0.out HB9.out)
  replace HR3 := Lib.hid (HR3.out.below HB9.out)
  replace HR4 := Lib.hid (HR4.out.below HB9.out)
  replace HR5 := Lib.hid (HR5.out.below HB9.out)
  replace HR6 := Lib.hid (HR6.out.below HB9.out)
  replace HR7 := Lib.hid (HR7.out.below HB9.out)
  replace HR8 := Lib.hid (HR8.out.below HB9.out)
  clear HB9
  go_wp2_with fail
  refine (ints_same _ _ _ _ _ lb _ rfl HR3.out HR4.out (Nat.le_trans HN2.out (by decide))).mono ?_
  rintro e w10 ⟨rfl, hB⟩
  have HB10 := Lib.hid hB
  clear hB
  replace HB0 := Lib.hid (bl_then HB0.out HB10.out)
  replace HR5 := Lib.hid (HR5.out.below HB10.out)
  replace HR6 := Lib.hid (HR6.out.below HB10.out)
  replace HR7 := Lib.hid (HR7.out.below HB10.out)
  replace HR8 := Lib.hid (HR8.out.below HB10.out)
  clear HB10
  go_wp2_with fail
  refine (ints_same _ _ _ _ _ lc _ rfl HR5.out HR6.out (Nat.le_trans HN3.out (by decide))).mono ?_
  rintro e w11 ⟨rfl, hB⟩
  have HB11 := Lib.hid hB
  clear hB
  replace HB0 := Lib.hid (bl_then HB0.out HB11.out)
  replace HR7 := Lib.hid (HR7.out.below HB11.out)
  replace HR8 := Lib.hid (HR8.out.below HB11.out)
  clear HB11
  go_wp2_with fail
  refine (ints_same _ _ _ _ _ ld _ rfl HR7.out HR8.out (Nat.le_trans HN4.out (by decide))).mono ?_
  rintro e w12 ⟨rfl, hB⟩
  have HB12 := Lib.hid hB
  clear hB
  replace HB0 := Lib.hid (bl_then HB0.out HB12.out)
  clear HB12
  go_wp2_with fail
  refine (knows_calls _).mono ?_
  rintro e w13 ⟨rfl, hB⟩
  have HB := Lib.hid (bl_then HB0.out hB)
  clear hB
  go_wp2_with fail
  go_ret
  exact ⟨rfl, HB.out⟩
end Go.Proofs.Ytilkijioocijcaa.Shp
