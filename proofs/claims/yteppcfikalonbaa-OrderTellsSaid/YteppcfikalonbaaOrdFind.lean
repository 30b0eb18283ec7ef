/- Contracts of order.Find and order.Rising. -/
import Derived.Test.YteppcfikalonbaaOrdRanks
namespace Go.Proofs.Yteppcfikalonbaa.Ord
open Go.RowKit
set_option linter.unusedVariables false
set_option linter.unusedSimpArgs false

set_option maxHeartbeats 1000000 in
theorem atLeast_calls (g : FuncId) (caps : Array Value) (c : Int → Int → Int) (hc : CmpOf g caps c) (xs : List Int) (x : Int) (A : Option Addr) (ca : Nat) (W : World) (bl bx bc : Nat)
    (h1 : W.cell? ⟨bl, 0, none⟩ = some (.slice A xs.length ca)) (h2 : W.cell? ⟨bc, 0, none⟩ = some (.func (.func g) #[] caps)) (h3 : W.cell? ⟨bx, 0, none⟩ = some (.int .i64 x)) (hx : ReadsI W .i64 A xs) (hl : xs.length ≤ 1000000) (a : Nat) (ha : a < xs.length) :
    Calls Try.prog 28 (#[.int .i64 a] ++ #[.pointer (some ⟨bc, 0, none⟩), .pointer (some ⟨bl, 0, none⟩), .pointer (some ⟨bx, 0, none⟩)]) W fun e W' => e = .returned (.bool (decide (0 ≤ c (nth xs a) x))) ∧ ∃ m, W' = W.drewN m := by
  have e := hc.1
  unfold Fun at e
  have HC := Lib.hid hc.2
  obtain ⟨bb, off, rfl, ca1⟩ := hx a ha
  clear hc hx
  generalize nth xs a = y at *
  show Calls Try.prog 28 #[.int .i64 a, .pointer (some ⟨bc, 0, none⟩), .pointer (some ⟨bl, 0, none⟩), .pointer (some ⟨bx, 0, none⟩)] W _
  go_enter Try.func28, Try.ntmps28
  go_wp2_with fail
  go_quiet ((go_at_fn g; exact quiet_eq (HC.out _ _ _)))
  go_wp2_with fail
  go_ret
  exact ⟨rfl, _, rfl⟩

theorem find_start (w : World) (A : Option Addr) (ca n : Nat) (x : Int) (g : FuncId) (caps : Array Value) (T0 T1 T2 : TypeId) :
    ∃ W : World, W = (((w.alloc (.cells #[.slice A n ca] T0)).alloc (.cells #[.int .i64 x] T1)).alloc (.cells #[.func (.func g) #[] caps] T2)) ∧ Below w.heap.size w W ∧
      W.cell? ⟨w.heap.size, 0, none⟩ = some (.slice A n ca) ∧ W.cell? ⟨w.heap.size + 1, 0, none⟩ = some (.int .i64 x) ∧ W.cell? ⟨w.heap.size + 1 + 1, 0, none⟩ = some (.func (.func g) #[] caps) := by
  refine ⟨_, rfl, bl_alloc (bl_alloc (bl_alloc (Below.refl _ _) _) _) _, ?_, ?_, ?_⟩
  · rw [World.cell?_alloc_past _ _ _ (by simp; omega), World.cell?_alloc_past _ _ _ (by simp), World.cell?_alloc_at _ _ _ _ rfl]; rfl
  · rw [World.cell?_alloc_past _ _ _ (by simp), World.cell?_alloc_at _ _ _ _ (by simp)]; rfl
  · rw [World.cell?_alloc_at _ _ _ _ (by simp)]; rfl

set_option maxHeartbeats 4000000 in
theorem find_calls (xs : List Int) (x : Int) (A : Option Addr) (ca : Nat) (F : Value) (c : Int → Int → Int) (hF : CmpVal F c) (w : World) (hx : ReadsI w .i64 A xs) (hl : xs.length ≤ 1000000) :
    Calls Try.prog 18 #[.slice A xs.length ca, .int .i64 x, F] w fun e w' => (∃ k : Nat, e = .returned (.tuple #[.int .i64 k, .bool (decide (k < xs.length ∧ c (nth xs k) x = 0))]) ∧ Stop (fun i => decide (0 ≤ c (nth xs i) x)) xs.length k) ∧ Below w.heap.size w w' := by
  have hmf : ∀ (fn : Fn) (first cap : Array Value) (w : World), (Instr.makeFunc fn first cap).run Try.prog w = .ok (.func fn first cap) w := fun _ _ _ _ => rfl
  have HX := Lib.hid hx
  have HF := Lib.hid hF
  clear hx
  rcases hF with ⟨rfl, hcc⟩ | ⟨g0, caps0, rfl, hcc⟩
  all_goals
    clear hcc
    go_enter Try.func18, Try.ntmps18
    go_wp2_with fail
    refine (alike_calls _ c HF.out _).mono ?_
    rintro e w' ⟨⟨g, caps, rfl, hc⟩, rfl⟩
    have HC := Lib.hid hc
    clear hc
    go_wp2_with fail
    obtain ⟨W, hW, hb, h0, h1, h2⟩ := find_start w A ca xs.length x g caps 22 3 29
    rw [← hW]
    have HB := Lib.hid hb
    have HXW := Lib.hid (HX.out.below hb)
    clear hW hb
    refine (search_calls xs.length 28 _ (fun i => decide (0 ≤ c (nth xs i) x)) Try.call28 W (by omega) (fun m i hi => atLeast_calls g caps c HC.out xs x A ca (W.drewN m) _ _ _ h0 h2 h1 HXW.out hl i hi)).mono ?_
    rintro e w2 ⟨⟨k, rfl, hk⟩, m, hm⟩
    have h0' : w2.cell? ⟨w.heap.size, 0, none⟩ = some (.slice A xs.length ca) := by rw [hm]; exact h0
    have h1' : w2.cell? ⟨w.heap.size + 1, 0, none⟩ = some (.int .i64 x) := by rw [hm]; exact h1
    have h2' : w2.cell? ⟨w.heap.size + 1 + 1, 0, none⟩ = some (.func (.func g) #[] caps) := by rw [hm]; exact h2
    have HB2 : Hid (Below w.heap.size w w2) := Lib.hid (by rw [hm]; exact bl_drewN HB.out _)
    have HX2 : Hid (ReadsI w2 .i64 A xs) := Lib.hid (by rw [hm]; exact HXW.out)
    clear h0 h1 h2 hm
    have HK := Lib.hid hk
    clear hk
    have e := HC.out.1
    unfold Fun at e
    have HCM := Lib.hid HC.out.2
    by_cases hlt : k < xs.length
    · obtain ⟨bb, off, rfl, hcx⟩ := HX2.out k hlt
      generalize hyy : nth xs k = y at hcx
      have HYY := Lib.hid hyy
      clear hyy
      by_cases hz : c y x = 0
      · have e0 : (c y x == 0) = true := by simpa using hz
        have HZ := Lib.hid hz
        clear hz
        go_wp2_with fail
        go_quiet ((go_at_fn g; exact quiet_eq (HCM.out _ _ _)))
        go_wp2_with fail
        go_ret2
        exact ⟨⟨k, by rw [show decide (k < xs.length ∧ c (nth xs k) x = 0) = true from decide_eq_true ⟨hlt, by rw [HYY.out]; exact HZ.out⟩]; rfl, HK.out⟩, bl_drewN HB2.out _⟩
      · have e0 : (c y x == 0) = false := by simpa using hz
        have HZ := Lib.hid hz
        clear hz
        go_wp2_with fail
        go_quiet ((go_at_fn g; exact quiet_eq (HCM.out _ _ _)))
        go_wp2_with fail
        go_ret2
        exact ⟨⟨k, by rw [show decide (k < xs.length ∧ c (nth xs k) x = 0) = false from decide_eq_false (fun h => HZ.out (by rw [← HYY.out]; exact h.2))]; rfl, HK.out⟩, bl_drewN HB2.out _⟩
    · have HD : Hid (decide (k < xs.length ∧ c (nth xs k) x = 0) = false) := Lib.hid (by simp [hlt])
      have d0 : decide ((k : Int) < (xs.length : Int)) = false := by simp; omega
      have d1 : decide (k < xs.length) = false := by simp; omega
      go_wp2_with fail
      go_quiet (fail)
      go_wp2_with fail
      go_ret2
      exact ⟨⟨k, by rw [HD.out]; rfl, HK.out⟩, bl_drewN HB2.out _⟩

/-- How many rise: up to the first that does not come behind the one ahead. -/
def Rises (c : Int → Int → Int) (xs : List Int) (k : Nat) : Prop := (k ≤ xs.length) ∧ (xs.length = 0 → k = 0) ∧ (0 < xs.length → 1 ≤ k) ∧ (∀ i, 1 ≤ i → i < k → c (nth xs (i - 1)) (nth xs i) < 0) ∧ (1 ≤ k → k < xs.length → 0 ≤ c (nth xs (k - 1)) (nth xs k))

set_option maxHeartbeats 4000000 in
theorem rising_calls (xs : List Int) (A : Option Addr) (ca : Nat) (F : Value) (c : Int → Int → Int) (hF : CmpVal F c) (w : World) (hx : ReadsI w .i64 A xs) (hl : xs.length ≤ 1000000) :
    Calls Try.prog 19 #[.slice A xs.length ca, F] w fun e w' => (∃ k : Nat, e = .returned (.int .i64 k) ∧ Rises c xs k) ∧ ∃ m, w' = w.drewN m := by
  have HX := Lib.hid hx
  have HF := Lib.hid hF
  clear hx
  rcases hF with ⟨rfl, hcc⟩ | ⟨g0, caps0, rfl, hcc⟩
  all_goals
    clear hcc
    go_enter Try.func19, Try.ntmps19
    go_wp2_with fail
    refine (alike_calls _ c HF.out _).mono ?_
    rintro e w' ⟨⟨g, caps, rfl, hc⟩, rfl⟩
    have e := hc.1
    unfold Fun at e
    have HCM := Lib.hid hc.2
    clear hc
    go_wp2_with fail
    go_loopw [5] (fun i wr => ∃ (k m : Nat), i = .int .i64 k ∧ 1 ≤ k ∧ Hid (k ≤ max 1 xs.length) ∧ Hid (∀ i, 1 ≤ i → i < k → c (nth xs (i - 1)) (nth xs i) < 0) ∧ Hid (wr = w.drewN m)) (fun i _ => xs.length - (intOf i).toNat)
    case atStart => exact ⟨1, 0, rfl, Nat.le_refl _, Lib.hid (by omega), Lib.hid (by omega), Lib.hid rfl⟩
    case round =>
      obtain ⟨k, m, rfl, hk1, HKM, HR, HW⟩ := hrel
      by_cases hlt : k < xs.length
      · obtain ⟨j, rfl⟩ : ∃ j, k = j + 1 := ⟨k - 1, by omega⟩
        obtain ⟨bb, off, rfl, hc1⟩ := HX.out (j + 1) hlt
        obtain ⟨bb', off', he', hc0⟩ := HX.out j (by omega)
        injection he' with he'
        injection he' with h3 h4
        subst h3
        subst h4
        have g1 : wr.cell? ⟨bb, off + (j + 1), none⟩ = some (.int .i64 (nth xs (j + 1))) := by rw [HW.out]; exact hc1
        have g0 : wr.cell? ⟨bb, off + j, none⟩ = some (.int .i64 (nth xs j)) := by rw [HW.out]; exact hc0
        clear hc1 hc0
        have HV : Hid (0 ≤ c (nth xs j) (nth xs (j + 1)) → Rises c xs (j + 1)) := Lib.hid (fun h => ⟨by omega, by omega, by omega, HR.out, fun _ _ => h⟩)
        have HN : Hid (c (nth xs j) (nth xs (j + 1)) < 0 → ∀ i, 1 ≤ i → i < j + 1 + 1 → c (nth xs (i - 1)) (nth xs i) < 0) := Lib.hid (fun h i h1 h2 => by
          rcases Nat.lt_succ_iff_lt_or_eq.1 h2 with h2 | rfl
          · exact HR.out i h1 h2
          · exact h)
        generalize nth xs (j + 1) = y at *
        generalize nth xs j = x at *
        by_cases hz : 0 ≤ c x y
        · go_wp2_with fail
          go_quiet ((go_at_fn g; exact quiet_eq (HCM.out _ _ _)))
          go_wp2_with fail
          go_ret
          exact ⟨⟨j + 1, rfl, HV.out hz⟩, m + nq, by rw [HW.out, World.drewN_drewN]⟩
        · go_wp2_with fail
          go_quiet ((go_at_fn g; exact quiet_eq (HCM.out _ _ _)))
          go_wp2_with fail
          go_roundw
          case measure => simp [intOf]; omega
          case rel => exact ⟨j + 1 + 1, m + nq, by go_num, by omega, Lib.hid (by omega), Lib.hid (HN.out (by omega)), Lib.hid (by rw [HW.out, World.drewN_drewN])⟩
      · go_wp2_with fail
        go_ret
        have hkm := HKM.out
        refine ⟨⟨xs.length, rfl, Nat.le_refl _, fun h => h, fun h => h, fun i h1 h2 => HR.out i h1 (by omega), fun _ h => absurd h (Nat.lt_irrefl _)⟩, m, HW.out⟩
end Go.Proofs.Yteppcfikalonbaa.Ord
