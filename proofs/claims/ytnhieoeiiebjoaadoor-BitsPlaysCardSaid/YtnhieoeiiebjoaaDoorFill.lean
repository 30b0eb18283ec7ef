/- Fill. -/
import Derived.Test.YtnhieoeiiebjoaaDoorMask
import Derived.Deep.RegionWith
namespace Go.Proofs.YtnhieoeiiebjoaaDoor.Bt
open Go.RowKit
set_option linter.unusedVariables false
set_option linter.unusedSimpArgs false

theorem Keeps.drewN {w w' : World} (h : Keeps w w') (n : Nat) : Keeps w (w'.drewN n) := fun g t cs hb ht => (h g t cs hb ht).drewN n
theorem Only.drewN {T : Nat} {w w' : World} (h : Only T w w') (n : Nat) : Only T w (w'.drewN n) := ⟨h.os, h.tape, h.output, h.size, h.other⟩
theorem or_nat (x y : Nat) (hx : x < 18446744073709551616) (hy : y < 18446744073709551616) : bits .or .u64 (x : Int) (y : Int) = ((x ||| y : Nat) : Int) := u64_or_nat _ _ hx hy
theorem andNot_nat (x y : Nat) (hx : x < 18446744073709551616) (hy : y < 18446744073709551616) : bits .andNot .u64 (x : Int) (y : Int) = ((x &&& (18446744073709551615 - y) : Nat) : Int) := u64_andNot_nat _ _ hx hy

set_option maxHeartbeats 2000000 in
theorem fill_yes (T g c : Nat) (cs : Array Value) (W : List Nat) (l : List Bool) (f t : Nat) (b : Bool) (w : World) (h : MaskW w T g c cs W l) (h1 : f ≤ t) (h2 : t ≤ l.length) : Calls Tryd.prog 8 #[.pointer (some ⟨T, 0, none⟩), .int .i64 (f : Nat), .int .i64 (t : Nat), .bool b] w fun e w' => e = .returned (.bool true) ∧ (∃ cs' W', MaskW w' T g c cs' W' (fillL l f t b)) ∧ Keeps w w' ∧ Only g w w' := by
  have hsm := h.small
  have HL := Lib.hid (len_calls T g c cs W l w h)
  have HM := Lib.hid h
  have hlen := h.rep.len
  have e0 : (f : Int).tdiv 64 = ((f / 64 : Nat) : Int) := by rw [Int.tdiv_eq_ediv_of_nonneg (by omega)]; rfl
  have HWD := Lib.hid (fun w => words_calls t (by omega) w)
  have HSP := Lib.hid (fun k (hk : k ≤ 1099511627776) w => span_calls k f t hk (by omega) (by omega) w)
  clear h
  go_enter Tryd.func8, Tryd.ntmps8
  go_wp2_with fail
  refine HL.out.mono ?_
  rintro e w' ⟨rfl, rfl⟩
  go_wp2_with fail
  simp only [show decide (t < f) = false by simp; omega, show decide (l.length < t) = false by simp; omega, show decide ((f : Int) < 0) = false by simp, Bool.or_false]
  go_loopw [9] (fun i wr => ∃ (k : Nat) (cs' : Array Value) (W' : List Nat), i = .int .i64 k ∧ f / 64 ≤ k ∧ k ≤ (t + 63) / 64 + f / 64 ∧ Hid (MaskW wr T g c cs' W' (fillL l f (min t (64 * k)) b)) ∧ Hid (Keeps w wr) ∧ Hid (Only g w wr)) (fun i _ => (t + 63) / 64 + f / 64 - (intOf i).toNat)
  case atStart => exact ⟨f / 64, cs, W, rfl, Nat.le_refl _, by omega, Lib.hid (by rw [fillL_none _ _ _ _ (by omega)]; exact HM.out), Lib.hid (Keeps.refl _), Lib.hid (Only.refl _ _)⟩
  case round =>
    obtain ⟨k, cs', W', rfl, hk0, hk1, HM', HK, HO⟩ := hrel
    go_wp2_with fail
    refine (HWD.out _).mono ?_
    rintro e w' ⟨rfl, rfl⟩
    by_cases hlt : k < (t + 63) / 64
    · have hlen' := HM'.out.rep.len
      rw [fillL_length] at hlen'
      have hkW : k < W'.length := by omega
      have hw := HM'.out.word _ hkW
      have c0 := HM'.out.hT.cell 0
      have hf := HM'.out.hg.frozen k
      have hlx := HM'.out.rep.lt _ hkW
      have hly := spanN_lt k f t
      have HMD := Lib.hid (fun m => HM'.out.below (bl_drewN (Below.refl wr.heap.size wr) m))
      have HP := Lib.hid (fun m x hx => (HM'.out.below (bl_drewN (Below.refl wr.heap.size wr) m)).put k x hkW (HM'.out.rep.fill k f t b hkW h2 x hx) (by rw [fillL_length, fillL_length]))
      generalize nth W' k = x at *
      have HS := Lib.hid (fun w => HSP.out k (by omega) w)
      generalize spanN k f t = y at *
      cases b
      · go_wp2_with fail
        go_region_with (go_at_call 21; refine (HS.out _).mono ?_; rintro e w' ⟨rfl, n, rfl⟩)
        all_goals
          rw [andNot_nat _ _ hlx hly]
          have HM2 := Lib.hid (HP.out (1 + n) _ rfl)
          have HK2 := Lib.hid ((HK.out.drewN (1 + n)).trans (Keeps.set (HMD.out (1 + n)) k (.int .u64 ((x &&& (18446744073709551615 - y) : Nat) : Int))))
          have HO2 := Lib.hid (Only.set (p := ⟨g, k, none⟩) (Only.drewN HO.out (1 + n)) (.inl rfl) (.int .u64 ((x &&& (18446744073709551615 - y) : Nat) : Int)))
          go_wp2_with fail
          go_roundw
          case measure => simp [intOf]; omega
          case rel => exact ⟨k + 1, _, _, by go_num, by omega, by omega, HM2, HK2, HO2⟩
      · go_wp2_with fail
        go_region_with (go_at_call 21; refine (HS.out _).mono ?_; rintro e w' ⟨rfl, n, rfl⟩)
        all_goals
          rw [or_nat _ _ hlx hly]
          have HM2 := Lib.hid (HP.out (1 + n) _ rfl)
          have HK2 := Lib.hid ((HK.out.drewN (1 + n)).trans (Keeps.set (HMD.out (1 + n)) k (.int .u64 ((x ||| y : Nat) : Int))))
          have HO2 := Lib.hid (Only.set (p := ⟨g, k, none⟩) (Only.drewN HO.out (1 + n)) (.inl rfl) (.int .u64 ((x ||| y : Nat) : Int)))
          go_wp2_with fail
          go_roundw
          case measure => simp [intOf]; omega
          case rel => exact ⟨k + 1, _, _, by go_num, by omega, by omega, HM2, HK2, HO2⟩
    · have HE : Hid (fillL l f (min t (64 * k)) b = fillL l f t b) := Lib.hid (by rw [Nat.min_eq_left (by omega)])
      go_wp2_with fail
      go_ret
      exact ⟨rfl, ⟨_, _, by rw [← HE.out]; exact HM'.out⟩, HK.out, HO.out⟩
theorem fill_no (T g c : Nat) (cs : Array Value) (W : List Nat) (l : List Bool) (f t : Int) (b : Bool) (w : World) (h : MaskW w T g c cs W l) (h1 : ¬ (0 ≤ f ∧ f ≤ t ∧ t ≤ (l.length : Int))) : Calls Tryd.prog 8 #[.pointer (some ⟨T, 0, none⟩), .int .i64 f, .int .i64 t, .bool b] w fun e w' => e = .returned (.bool false) ∧ w = w' := by
  have HL := Lib.hid (len_calls T g c cs W l w h)
  have hsm := h.small
  clear h
  by_cases c1 : f < 0
  · clear h1
    go_enter Tryd.func8, Tryd.ntmps8
    go_wp2_with fail
    go_ret
    exact ⟨rfl, rfl⟩
  by_cases c2 : t < f
  · clear h1
    go_enter Tryd.func8, Tryd.ntmps8
    go_wp2_with fail
    go_ret
    exact ⟨rfl, rfl⟩
  have c3 : (l.length : Int) < t := by omega
  clear h1
  go_enter Tryd.func8, Tryd.ntmps8
  go_wp2_with fail
  refine HL.out.mono ?_
  rintro e w' ⟨rfl, rfl⟩
  go_wp2_with fail
  go_ret
  exact ⟨rfl, rfl⟩
end Go.Proofs.YtnhieoeiiebjoaaDoor.Bt
