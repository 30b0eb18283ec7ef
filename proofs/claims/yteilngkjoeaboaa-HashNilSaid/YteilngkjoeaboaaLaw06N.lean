/- The walk of HashNil. -/
import Derived.Test.YteilngkjoeaboaaKnows06
namespace Go.Proofs.Yteilngkjoeaboaa.Hs
open Go.RowKit Go.Proofs.Yteilngkjoeaboaa.Lb
set_option linter.unusedVariables false
set_option linter.unusedSimpArgs false

theorem labels_none (T : Option Addr) (w : World) (hn : Calls Try.prog 17 #[.pointer T] w fun e w' => e = .returned (.bool true) ∧ w = w') :
    Calls Try.prog 16 #[.pointer T] w fun e w' => e = .returned (.slice none 0 0) ∧ w = w' := by
  have HN := Lib.hid hn
  clear hn
  go_enter Try.func16, Try.ntmps16
  go_wp2_with fail
  refine HN.out.mono ?_
  rintro e w' ⟨rfl, rfl⟩
  go_wp2_with fail
  go_ret
  exact ⟨rfl, rfl⟩
theorem longest_none (T : Option Addr) (w : World) (hn : Calls Try.prog 17 #[.pointer T] w fun e w' => e = .returned (.bool true) ∧ w = w') :
    Calls Try.prog 15 #[.pointer T] w fun e w' => e = .returned (.int .i64 0) ∧ w = w' := by
  have HN := Lib.hid (labels_none T w hn)
  clear hn
  go_enter Try.func15, Try.ntmps15
  go_wp2_with fail
  refine HN.out.mono ?_
  rintro e w' ⟨rfl, rfl⟩
  go_wp2_with fail
  go_loop [3, 11] (fun m i => m = .int .i64 0 ∧ i = .int .i64 0) (fun _ _ => 0)
  case atStart => exact ⟨rfl, rfl⟩
  case round =>
    obtain ⟨rfl, rfl⟩ := hrel
    go_wp2_with fail
    go_ret
    exact ⟨rfl, rfl⟩
/-- Nobody's table. -/
def Nobody (T : Option Addr) (w : World) : Prop := ∀ W, Below w.heap.size w W → Calls Try.prog 17 #[.pointer T] W fun e w' => e = .returned (.bool true) ∧ W = w'
theorem Nobody.below {T : Option Addr} {w w' : World} (h : Nobody T w) (hb : Below w.heap.size w w') : Nobody T w' := fun W hW => h W (bl_then hb hW)
theorem Nobody.now {T : Option Addr} {w : World} (h : Nobody T w) : Calls Try.prog 17 #[.pointer T] w fun e w' => e = .returned (.bool true) ∧ w = w' := h w (Below.refl _ _)
set_option maxRecDepth 100000 in
set_option maxHeartbeats 2000000 in
theorem hashNil_walk (a : Lab) (w : World) :
    Calls Try.prog 5 #[a.v] w fun e w' => e = .returned (.bool true) ∧ Below w.heap.size w w' := by
  have HF := Lib.hid (fun T w (h : Nobody T w) => find_none T a w h)
  have HA := Lib.hid (fun T w (h : Nobody T w) => add_none T a w h)
  have hv : a.v = .agg #[.int .u8 a.k, .int .i64 a.n, .string a.s] := rfl
  rw [hv] at HF HA ⊢
  have HBX := Lib.hid (Blk.new w 24 #[.int .u8 a.k, .int .i64 a.n, .string a.s])
  have HB1 := Lib.hid (bl_alloc (Below.refl w.heap.size w) (.cells #[.int .u8 a.k, .int .i64 a.n, .string a.s] 24))
  clear hv
  by_cases h300 : 300 < a.s.size
  · go_enter Try.func5, Try.ntmps5
    go_wp2_with fail
    refine (knows_calls _).mono ?_
    rintro e w1 ⟨rfl, hB⟩
    go_wp2_with fail
    go_ret
    exact ⟨rfl, bl_then HB1.out hB⟩
  · go_enter Try.func5, Try.ntmps5
    go_wp2_with fail
    generalize w.alloc (.cells #[.int .u8 a.k, .int .i64 a.n, .string a.s] 24) = W0 at *
    go_loopw [3, 4] (fun t i wr => ∃ (k : Nat) (T : Option Addr), i = .int .i64 k ∧ t = .pointer T ∧ k ≤ 2 ∧ Hid (Nobody T wr) ∧ Hid (Blk wr w.heap.size 24 #[.int .u8 a.k, .int .i64 a.n, .string a.s]) ∧ Below w.heap.size w wr) (fun _ i _ => 2 - (intOf i).toNat)
    case atStart => exact ⟨0, none, rfl, rfl, by omega, Lib.hid (fun W _ => none_nil W), HBX, HB1.out⟩
    case round =>
      obtain ⟨k, T, rfl, rfl, hk, HN, HX, hB⟩ := hrel
      have HB := Lib.hid hB
      clear hB
      by_cases hlt : k < 2
      · have c0 := HX.out.cell 0
        have c1 := HX.out.cell 1
        have c2 := HX.out.cell 2
        go_wp2_with fail
        refine (HF.out _ _ HN.out).mono ?_
        rintro e w1 ⟨rfl, hB⟩
        have HN1 := Lib.hid (HN.out.below hB)
        have HX1 := Lib.hid (HX.out.below' hB)
        have HB1' := Lib.hid (bl_then HB.out hB)
        clear hB c0 c1 c2
        have c0 := HX1.out.cell 0
        have c1 := HX1.out.cell 1
        have c2 := HX1.out.cell 2
        go_wp2_with fail
        refine (HA.out _ _ HN1.out).mono ?_
        rintro e w2 ⟨rfl, hB⟩
        have HN2 := Lib.hid (HN1.out.below hB)
        have HX2 := Lib.hid (HX1.out.below' hB)
        have HB2 := Lib.hid (bl_then HB1'.out hB)
        clear hB c0 c1 c2
        go_wp2_with fail
        refine (len_none _ _ HN2.out.now).mono ?_
        rintro e w3 ⟨rfl, rfl⟩
        go_wp2_with fail
        refine (room_none _ _ HN2.out.now).mono ?_
        rintro e w3 ⟨rfl, rfl⟩
        go_wp2_with fail
        refine (longest_none _ _ HN2.out.now).mono ?_
        rintro e w3 ⟨rfl, rfl⟩
        go_wp2_with fail
        refine (labels_none _ _ HN2.out.now).mono ?_
        rintro e w3 ⟨rfl, rfl⟩
        go_wp2_with fail
        refine (num_calls _ _).mono ?_
        rintro e w3 ⟨rfl, rfl⟩
        go_wp2_with fail
        go_roundw
        case measure => simp [intOf]; omega
        case rel => exact ⟨k + 1, _, by go_num, rfl, by omega, Lib.hid (fun W hW => none_zero _ W (bl_seen hW ((Blk.new w2 45 #[.slice none 0 0, .slice none 0 0]).cell 1))), Lib.hid (HX2.out.alloc _), bl_alloc HB2.out _⟩
      · go_wp2_with fail
        refine (knows_calls _).mono ?_
        rintro e w1 ⟨rfl, hB⟩
        go_wp2_with fail
        go_ret
        exact ⟨rfl, bl_then HB.out hB⟩
end Go.Proofs.Yteilngkjoeaboaa.Hs
