/- Contracts of the document's Rising, Merge, Ranks. -/
import Derived.Test.YteppcfikalonbaaOrdMerge2
namespace Go.Proofs.Yteppcfikalonbaa.Ord
open Go.RowKit
set_option linter.unusedVariables false
set_option linter.unusedSimpArgs false

/-- The law's cmp. -/
def cmpI (a b : Int) : Int := if a < b then -1 else if b < a then 1 else 0
theorem cmpI_calls (a b : Int) (W : World) : Calls Try.prog 13 (#[.int .i64 a, .int .i64 b] ++ #[]) W fun e W' => e = .returned (.int .i64 (cmpI a b)) ∧ W = W' := by
  show Calls Try.prog 13 #[.int .i64 a, .int .i64 b] W _
  by_cases h1 : a < b
  · have HV : Hid (cmpI a b = -1) := Lib.hid (if_pos h1)
    go_enter Try.func13, Try.ntmps13
    go_wp2
    go_ret
    exact ⟨ret_int HV.out.symm, rfl⟩
  · by_cases h2 : b < a
    · have HV : Hid (cmpI a b = 1) := Lib.hid (by unfold cmpI; rw [if_neg h1, if_pos h2])
      go_enter Try.func13, Try.ntmps13
      go_wp2
      go_ret
      exact ⟨ret_int HV.out.symm, rfl⟩
    · have HV : Hid (cmpI a b = 0) := Lib.hid (by unfold cmpI; rw [if_neg h1, if_neg h2])
      go_enter Try.func13, Try.ntmps13
      go_wp2
      go_ret
      exact ⟨ret_int HV.out.symm, rfl⟩
theorem cmpI_of : CmpOf 13 #[] cmpI := ⟨Try.call13, cmpI_calls⟩
theorem cmpI_pos (a b : Int) : (0 < cmpI a b) ↔ b < a := by unfold cmpI; split <;> (try split) <;> omega
theorem cmpI_nonneg (a b : Int) : (0 ≤ cmpI a b) ↔ b ≤ a := by unfold cmpI; split <;> (try split) <;> omega
theorem cmpI_zero (a b : Int) : (cmpI a b = 0) ↔ a = b := by unfold cmpI; split <;> (try split) <;> omega
theorem cmpI_le (a b : Int) : (cmpI a b ≤ 0) ↔ a ≤ b := by unfold cmpI; split <;> (try split) <;> omega
theorem cmpI_neg (a b : Int) : (cmpI a b < 0) ↔ a < b := by unfold cmpI; split <;> (try split) <;> omega
theorem cmpI_weak (xs : List Int) : Weak (bhOf cmpI xs) := by
  refine ⟨fun a => ?_, fun a b c h k => ?_, fun a b c h k => ?_⟩
  all_goals simp only [bhOf, decide_eq_true_eq, decide_eq_false_iff_not, cmpI_pos] at *
  all_goals omega
theorem zero_weak (xs : List Int) : Weak (bhOf (fun _ _ => 0) xs) := ⟨fun _ => by simp [bhOf], fun _ _ _ h => by simp [bhOf] at h, fun _ _ _ _ _ => by simp [bhOf]⟩

set_option maxHeartbeats 1000000 in
theorem refRising_calls (xs : List Int) (A : Option Addr) (ca : Nat) (w : World) (hx : ReadsI w .i64 A xs) (hl : xs.length ≤ 1000000) :
    Calls Try.prog 20 #[.slice A xs.length ca] w fun e w' => (∃ k : Nat, e = .returned (.int .i64 k) ∧ Rises cmpI xs k) ∧ ∃ m, w' = w.drewN m := by
  have HX := Lib.hid hx
  clear hx
  by_cases h0 : xs.length = 0
  · have h0' : ((xs.length : Int) == 0) = true := by rw [h0]; rfl
    have H0 := Lib.hid h0
    clear h0
    go_enter Try.func20, Try.ntmps20
    go_wp2
    go_ret
    exact ⟨⟨0, rfl, by omega, fun _ => rfl, fun h => absurd H0.out (by omega), fun i h1 h2 => by omega, fun h => by omega⟩, 0, rfl⟩
  · have h0' : ((xs.length : Int) == 0) = false := beq_eq_false_iff_ne.2 (by omega)
    have hpos : 1 ≤ xs.length := by omega
    clear h0
    go_enter Try.func20, Try.ntmps20
    go_wp2_with fail
    go_loopw [3] (fun i wr => ∃ (k m : Nat), i = .int .i64 k ∧ 1 ≤ k ∧ k ≤ xs.length ∧ Hid (∀ i, 1 ≤ i → i < k → cmpI (nth xs (i - 1)) (nth xs i) < 0) ∧ Hid (wr = w.drewN m)) (fun i _ => xs.length - (intOf i).toNat)
    case atStart => exact ⟨1, 0, rfl, Nat.le_refl _, by omega, Lib.hid (by omega), Lib.hid rfl⟩
    case round =>
      obtain ⟨k, m, rfl, hk1, hkn, HR, HW⟩ := hrel
      by_cases hlt : k < xs.length
      · obtain ⟨j, rfl⟩ : ∃ j, k = j + 1 := ⟨k - 1, by omega⟩
        obtain ⟨bb, off, rfl, hc1⟩ := HX.out (j + 1) hlt
        obtain ⟨bb', off', he', hc0⟩ := HX.out j (by omega)
        injection he' with he'
        injection he' with h3 h4
        subst h3
        subst h4
        have g1 : wr.cell? ⟨bb, off + (j + 1), none⟩ = some (.int .i64 (nth xs (j + 1))) := by rw [HW.out]; exact hc1
        have g0 : wr.cell? ⟨bb, off + j, none⟩ = some (.int .i64 (nth xs j)) := by rw [HW.out]; exact hc0
        clear hc1 hc0
        have HV : Hid (¬ nth xs j < nth xs (j + 1) → Rises cmpI xs (j + 1)) := Lib.hid (fun h => ⟨by omega, by omega, by omega, HR.out, fun _ _ => (cmpI_nonneg _ _).2 (by show nth xs (j + 1) ≤ nth xs (j + 1 - 1); rw [Nat.add_sub_cancel]; omega)⟩)
        have HN : Hid (nth xs j < nth xs (j + 1) → ∀ i, 1 ≤ i → i < j + 1 + 1 → cmpI (nth xs (i - 1)) (nth xs i) < 0) := Lib.hid (fun h i h1 h2 => by
          rcases Nat.lt_succ_iff_lt_or_eq.1 h2 with h2 | rfl
          · exact HR.out i h1 h2
          · exact (cmpI_neg _ _).2 h)
        have i1 : ((j : Int) + 1 < (xs.length : Int)) := by omega
        generalize nth xs (j + 1) = y at *
        generalize nth xs j = x at *
        by_cases hz : x < y
        · go_wp2_with fail
          go_quiet (fail)
          go_wp2_with fail
          go_roundw
          case measure => simp [intOf]; omega
          case rel => exact ⟨j + 1 + 1, m + nq, by go_num, by omega, by omega, Lib.hid (HN.out (by omega)), Lib.hid (by rw [HW.out, World.drewN_drewN])⟩
        · go_wp2_with fail
          go_quiet (fail)
          go_wp2_with fail
          go_ret
          exact ⟨⟨j + 1, rfl, HV.out (by omega)⟩, m + nq, by rw [HW.out, World.drewN_drewN]⟩
      · have d0 : decide ((k : Int) < (xs.length : Int)) = false := decide_eq_false (by omega)
        have d1 : decide (k < xs.length) = false := decide_eq_false (by omega)
        go_wp2_with fail
        go_quiet (fail)
        go_wp2_with fail
        go_ret
        exact ⟨⟨k, rfl, hkn, fun h => by omega, fun h => hk1, HR.out, fun _ h => by omega⟩, m + nq, by rw [HW.out, World.drewN_drewN]⟩

theorem mergeL_drop_left (xs ys : List Int) (i k : Nat) (hi : i < xs.length) (h : ys.length ≤ k ∨ ∃ hk : k < ys.length, nth xs i ≤ nth ys k) : mergeL cmpI (xs.drop i) (ys.drop k) = nth xs i :: mergeL cmpI (xs.drop (i + 1)) (ys.drop k) := by
  rw [List.drop_eq_getElem_cons hi, ← nth_eq xs i hi]
  rcases h with h | ⟨hk, h⟩
  · rw [List.drop_of_length_le h, mergeL_nil, mergeL_nil]
  · rw [List.drop_eq_getElem_cons hk, ← nth_eq ys k hk, mergeL_left _ _ _ _ _ ((cmpI_le _ _).2 h)]
theorem mergeL_drop_right (xs ys : List Int) (i k : Nat) (hk : k < ys.length) (h : xs.length ≤ i ∨ ∃ hi : i < xs.length, ¬ nth xs i ≤ nth ys k) : mergeL cmpI (xs.drop i) (ys.drop k) = nth ys k :: mergeL cmpI (xs.drop i) (ys.drop (k + 1)) := by
  rw [List.drop_eq_getElem_cons hk, ← nth_eq ys k hk]
  rcases h with h | ⟨hi, h⟩
  · rw [List.drop_of_length_le h]; simp [mergeL]
  · rw [List.drop_eq_getElem_cons hi, ← nth_eq xs i hi, mergeL_right _ _ _ _ _ (fun h' => h ((cmpI_le _ _).1 h'))]

set_option maxHeartbeats 1000000 in
theorem refMerge_calls (xs ys : List Int) (A C : Option Addr) (ca cc : Nat) (w : World) (hx : ReadsI w .i64 A xs) (hy : ReadsI w .i64 C ys) (hlx : xs.length ≤ 1000000) (hly : ys.length ≤ 1000000) :
    Calls Try.prog 22 #[.slice A xs.length ca, .slice C ys.length cc] w fun e w' => (∃ v, e = .returned v ∧ ShowsI w' .i64 v (mergeL cmpI xs ys)) ∧ Below w.heap.size w w' := by
  have HX := Lib.hid hx
  have HY := Lib.hid hy
  clear hx hy
  go_enter Try.func22, Try.ntmps22
  go_wp2_with fail
  go_loopw [5, 6, 7] (fun v i k wr => ∃ (a b : Nat) (os : List Int), i = .int .i64 a ∧ k = .int .i64 b ∧ a ≤ xs.length ∧ b ≤ ys.length ∧ Hid (OwnI wr w.heap.size 3 .i64 v os) ∧ os.length ≤ a + b ∧ Hid (mergeL cmpI xs ys = os ++ mergeL cmpI (xs.drop a) (ys.drop b)) ∧ Below w.heap.size w wr ∧ w.heap.size ≤ wr.heap.size) (fun _ i k _ => (xs.length - (intOf i).toNat) + (ys.length - (intOf k).toNat))
  case atStart => exact ⟨0, 0, [], rfl, rfl, Nat.zero_le _, Nat.zero_le _, Lib.hid (ownI_nil _ _ _ _), by simp, Lib.hid (by simp), Below.refl _ _, Nat.le_refl _⟩
  case round =>
    obtain ⟨a, b, os, rfl, rfl, ha, hb, HO, hln, HM, hB, hsz⟩ := hrel
    by_cases hla : a < xs.length
    · obtain ⟨bx, offx, rfl, hcx⟩ := HX.out.below hB a hla
      have ia : ((a : Int) < (xs.length : Int)) := by omega
      have da : decide ((a : Int) < (xs.length : Int)) = true := decide_eq_true ia
      by_cases hlb : b < ys.length
      · obtain ⟨by_, offy, rfl, hcy⟩ := HY.out.below hB b hlb
        have ib : ((b : Int) < (ys.length : Int)) := by omega
        have db : decide ((ys.length : Int) ≤ (b : Int)) = false := decide_eq_false (by omega)
        have db' : decide (ys.length ≤ b) = false := decide_eq_false (by omega)
        have HLe := Lib.hid (mergeL_drop_left xs ys a b hla)
        have HRi := Lib.hid (mergeL_drop_right xs ys a b hlb)
        generalize hx0 : nth xs a = x at hcx HLe HRi
        generalize hy0 : nth ys b = y at hcy HLe HRi
        have HX0 := Lib.hid hx0
        have HY0 := Lib.hid hy0
        clear hx0 hy0
        by_cases hxy : x ≤ y
        · go_wp2_with fail
          go_quiet (fail)
          go_wp2_with (at_builtin; refine app_row (w0 := w) w.heap.size rfl (.tmp 39) (.tmp 44) 22 3 (.int .i64 0) 1 8 rfl Try.underlying22 info_int rfl (by decide) u5 _ _ #[.int .i64 x] rfl rfl rfl (by simp [Value.oneCell']) (OwnI.drewN HO.out _) (bl_drewN hB _) hsz (by omega) (by omega) ?_; intro v1 w1 hown1 hB1 hg1 hsz1)
          go_roundw
          case measure => simp [intOf]; omega
          case rel => exact ⟨a + 1, b, os ++ [x], by go_num, rfl, by omega, hb, Lib.hid (OwnI.snoc hown1), by simp; omega, Lib.hid (by rw [HM.out, HLe.out (.inr ⟨hlb, hxy⟩)]; simp), hB1, hsz1⟩
        · go_wp2_with fail
          go_quiet (fail)
          go_wp2_with (at_builtin; refine app_row (w0 := w) w.heap.size rfl (.tmp 48) (.tmp 53) 22 3 (.int .i64 0) 1 8 rfl Try.underlying22 info_int rfl (by decide) u5 _ _ #[.int .i64 y] rfl rfl rfl (by simp [Value.oneCell']) (OwnI.drewN HO.out _) (bl_drewN hB _) hsz (by omega) (by omega) ?_; intro v1 w1 hown1 hB1 hg1 hsz1)
          go_roundw
          case measure => simp [intOf]; omega
          case rel => exact ⟨a, b + 1, os ++ [y], rfl, by go_num, ha, by omega, Lib.hid (OwnI.snoc hown1), by simp; omega, Lib.hid (by rw [HM.out, HRi.out (.inr ⟨hla, by omega⟩)]; simp), hB1, hsz1⟩
      · have db : decide ((ys.length : Int) ≤ (b : Int)) = true := decide_eq_true (by omega)
        have db' : decide (ys.length ≤ b) = true := decide_eq_true (by omega)
        have hle : ys.length ≤ b := by omega
        have HLe := Lib.hid (mergeL_drop_left xs ys a b hla (.inl (by omega)))
        generalize hx0 : nth xs a = x at hcx HLe
        have HX0 := Lib.hid hx0
        clear hx0
        go_wp2_with fail
        go_quiet (fail)
        go_wp2_with (at_builtin; refine app_row (w0 := w) w.heap.size rfl (.tmp 39) (.tmp 44) 22 3 (.int .i64 0) 1 8 rfl Try.underlying22 info_int rfl (by decide) u5 _ _ #[.int .i64 x] rfl rfl rfl (by simp [Value.oneCell']) (OwnI.drewN HO.out _) (bl_drewN hB _) hsz (by omega) (by omega) ?_; intro v1 w1 hown1 hB1 hg1 hsz1)
        go_roundw
        case measure => simp [intOf]; omega
        case rel => exact ⟨a + 1, b, os ++ [x], by go_num, rfl, by omega, hb, Lib.hid (OwnI.snoc hown1), by simp; omega, Lib.hid (by rw [HM.out, HLe.out]; simp), hB1, hsz1⟩
    · have da : decide ((a : Int) < (xs.length : Int)) = false := decide_eq_false (by omega)
      have da' : decide (a < xs.length) = false := decide_eq_false (by omega)
      by_cases hlb : b < ys.length
      · obtain ⟨by_, offy, rfl, hcy⟩ := HY.out.below hB b hlb
        have ib : ((b : Int) < (ys.length : Int)) := by omega
        have db : decide ((ys.length : Int) ≤ (b : Int)) = false := decide_eq_false (by omega)
        have db' : decide (ys.length ≤ b) = false := decide_eq_false (by omega)
        have HRi := Lib.hid (mergeL_drop_right xs ys a b hlb (.inl (by omega)))
        generalize hy0 : nth ys b = y at hcy HRi
        have HY0 := Lib.hid hy0
        clear hy0
        go_wp2_with fail
        go_quiet (fail)
        go_wp2_with (at_builtin; refine app_row (w0 := w) w.heap.size rfl (.tmp 48) (.tmp 53) 22 3 (.int .i64 0) 1 8 rfl Try.underlying22 info_int rfl (by decide) u5 _ _ #[.int .i64 y] rfl rfl rfl (by simp [Value.oneCell']) (OwnI.drewN HO.out _) (bl_drewN hB _) hsz (by omega) (by omega) ?_; intro v1 w1 hown1 hB1 hg1 hsz1)
        go_roundw
        case measure => simp [intOf]; omega
        case rel => exact ⟨a, b + 1, os ++ [y], rfl, by go_num, ha, by omega, Lib.hid (OwnI.snoc hown1), by simp; omega, Lib.hid (by rw [HM.out, HRi.out]; simp), hB1, hsz1⟩
      · go_wp2_with fail
        go_ret
        have hfin : mergeL cmpI xs ys = os := by rw [HM.out, List.drop_of_length_le (by omega), List.drop_of_length_le (by omega)]; simp [mergeL]
        exact ⟨⟨u5, rfl, by rw [hfin]; exact HO.out.shows⟩, hB⟩
end Go.Proofs.Yteppcfikalonbaa.Ord
