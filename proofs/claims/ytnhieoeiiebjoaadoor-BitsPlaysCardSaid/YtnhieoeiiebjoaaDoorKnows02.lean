/- Of, Bytes (of three truths), Same, knows. -/
import Derived.Test.YtnhieoeiiebjoaaDoorRef02
import Derived.Laws.BytesArg
namespace Go.Proofs.YtnhieoeiiebjoaaDoor.Bt
open Go.RowKit
set_option linter.unusedVariables false
set_option linter.unusedSimpArgs false

def tft : List Bool := [true, false, true]
def ofL (k : Nat) : List Bool := tft.take k ++ List.replicate (3 - k) false
theorem ofL_step (k : Nat) (h : k < 3) : (ofL k).set k (tr tft k) = ofL (k + 1) ∧ (ofL k).length = 3 := by
  have : k = 0 ∨ k = 1 ∨ k = 2 := by omega
  rcases this with rfl | rfl | rfl <;> decide
theorem rep_tft {W : List Nat} (h : Rep W tft) : W = [5] := by
  have hl : W.length = 1 := h.len
  have hb := h.bit 0 (by omega)
  match W, hl with
  | [x], _ =>
    have : x = 5 := by
      apply Nat.eq_of_testBit_eq
      intro i
      have h1 : x.testBit i = (decide (i < 64) && tr tft (64 * 0 + i)) := hb i
      rw [h1]
      by_cases c : i < 3
      · have : i = 0 ∨ i = 1 ∨ i = 2 := by omega
        rcases this with rfl | rfl | rfl <;> decide
      · have h5 : Nat.testBit 5 i = false := Nat.testBit_lt_two_pow (Nat.lt_of_lt_of_le (by decide : 5 < 2 ^ 3) (Nat.pow_le_pow_right (by omega) (by omega)))
        rw [h5, tr_ge (by show 3 ≤ 64 * 0 + i; omega)]
        simp
    rw [this]
theorem of_calls (R : Nat) (w : World) (h : Blk w R 4 #[.bool true, .bool false, .bool true]) : Calls Tryd.prog 15 #[.slice (some ⟨R, 0, none⟩) 3 3] w fun e w' => ∃ T, e = .returned (.pointer (some ⟨T, 0, none⟩)) ∧ Mask w.heap.size w' T tft ∧ Below w.heap.size w w' := by
  have HR := Lib.hid h
  clear h
  have HN := Lib.hid (new_calls 3 (by omega) false w)
  go_enter Tryd.func15, Tryd.ntmps15
  go_wp2_with fail
  refine HN.out.mono ?_
  rintro e w1 ⟨rfl, ⟨g, c, cs, W, hM, hT, hg⟩, hB⟩
  have HM := Lib.hid hM
  have HB := Lib.hid hB
  have c1 := hM.hT.cell 1
  have hRT : w.heap.size ≤ w1.heap.size := hB.size
  simp at c1
  clear hM hB
  go_wp2_with fail
  go_loopw [16] (fun i wr => ∃ k : Nat, i = .int .i64 k ∧ k ≤ 3 ∧ Hid (∃ cs' W', MaskW wr (w.heap.size + 1) g c cs' W' (ofL k)) ∧ Hid (Below w.heap.size w wr)) (fun i _ => 3 - (intOf i).toNat)
  case atStart => exact ⟨0, rfl, by omega, Lib.hid ⟨_, _, HM.out⟩, HB⟩
  case round =>
    obtain ⟨k, rfl, hk, HM', HB'⟩ := hrel
    by_cases hlt : k < 3
    · have hc : wr.cell? ⟨R, k, none⟩ = some (.bool (tr tft k)) := by
        rw [(HR.out.below' HB'.out).cell]
        have : k = 0 ∨ k = 1 ∨ k = 2 := by omega
        rcases this with rfl | rfl | rfl <;> rfl
      obtain ⟨cs', W', hM'⟩ := HM'.out
      obtain ⟨hs1, hs2⟩ := ofL_step k hlt
      have hset := set_calls (w.heap.size + 1) g c cs' W' (ofL k) (k : Int) (tr tft k) wr hM'
      rw [hs2, Int.toNat_natCast, hs1] at hset
      have HS := Lib.hid hset
      clear hset hM' HM' hs1 hs2
      generalize tr tft k = x at *
      go_wp2_with fail
      refine HS.out.mono ?_
      rintro e w2 ⟨rfl, h1, _, hK, hO⟩
      have HM2 := Lib.hid (h1 ⟨by omega, by omega⟩)
      have HB2 := Lib.hid (HB'.out.trans (hO.below HB'.out.size hg))
      clear h1 hK hO
      go_wp2_with fail
      go_roundw
      case measure => simp [intOf]; omega
      case rel => exact ⟨k + 1, by go_num, by omega, HM2, HB2⟩
    · obtain rfl : k = 3 := by omega
      obtain ⟨cs', W', hM'⟩ := HM'.out
      have HM2 := Lib.hid hM'
      clear hM' HM'
      go_wp2_with fail
      go_ret
      exact ⟨_, rfl, ⟨g, c, cs', W', HM2.out, hT, hg⟩, HB'.out⟩
theorem make_bytes (m : Nat) (hm : m ≤ 10000000) : ∀ W : World, (Instr.makeSlice 40 (.int .i64 (m : Int)) (.int .i64 (m : Int))).run Tryd.prog W = .ok (.slice (some ⟨W.heap.size, 0, none⟩) m m) (W.alloc (.cells (madeCells #[.int .u8 0] m) 5)) :=
  fun W => run_make_row' 40 5 (.int .u8 0) 1 Tryd.underlying40 (by kernel_rfl) rfl .i64 .i64 m (by omega) (by omega) W
theorem bytes_calls (T g c : Nat) (cs : Array Value) (W : List Nat) (w : World) (h : MaskW w T g c cs W tft) : Calls Tryd.prog 16 #[.pointer (some ⟨T, 0, none⟩)] w fun e w' => e = .returned (.slice (some ⟨w.heap.size, 0, none⟩) 1 1) ∧ Blk w' w.heap.size 5 #[.int .u8 5] ∧ Below w.heap.size w w' := by
  obtain rfl := rep_tft h.rep
  have HL : Hid (Calls Tryd.prog 20 #[.pointer (some ⟨T, 0, none⟩)] w fun e w' => e = .returned (.int .i64 3) ∧ w = w') := Lib.hid (len_calls T g c cs [5] tft w h)
  have HM := Lib.hid h
  have hmk : ∀ W : World, (Instr.makeSlice 40 (.int .i64 1) (.int .i64 1)).run Tryd.prog W = .ok (.slice (some ⟨W.heap.size, 0, none⟩) 1 1) (W.alloc (.cells #[.int .u8 0] 5)) := fun W => by
    have := make_bytes 1 (by omega) W
    rwa [show madeCells #[Value.int .u8 0] 1 = #[Value.int .u8 0] by apply Array.toList_inj.1; rw [toList_madeCells_one]; rfl] at this
  have HR0 := Lib.hid (Blk.new w 5 #[.int .u8 0])
  have HB0 := Lib.hid (bl_alloc (Below.refl w.heap.size w) (.cells #[.int .u8 0] 5))
  clear h
  go_enter Tryd.func16, Tryd.ntmps16
  go_wp2_with fail
  refine HL.out.mono ?_
  rintro e w1 ⟨rfl, rfl⟩
  go_wp2_with fail
  have c0 : w.cell? ⟨T, 0, none⟩ = some (.slice (some ⟨g, 0, none⟩) 1 c) := by rw [HM.out.hT.cell]; rfl
  have cw : w.cell? ⟨g, 0, none⟩ = some (.int .u64 5) := HM.out.word 0 (by simp)
  have c0' := bl_seen HB0.out c0
  have cw' := bl_seen HB0.out cw
  have hz : (w.alloc (.cells #[.int .u8 0] 5)).cell? ⟨w.heap.size, 0, none⟩ = some (.int .u8 0) := HR0.out.cell 0
  have hf := HR0.out.frozen 0
  have HR1 := Lib.hid (HR0.out.one (.int .u8 5))
  have HB1 := Lib.hid (HB0.out.setCell (p := ⟨w.heap.size, 0, none⟩) (Nat.le_refl _) (.int .u8 5))
  clear c0 cw hmk
  generalize w.alloc (.cells #[.int .u8 0] 5) = w2 at *
  go_loopw [12] (fun i wr => (i = .int .i64 0 ∧ wr = w2) ∨ (i = .int .i64 1 ∧ wr = w2.setCell ⟨w.heap.size, 0, none⟩ (.int .u8 5))) (fun i _ => 1 - (intOf i).toNat)
  case atStart => exact .inl ⟨rfl, rfl⟩
  case round =>
    rcases hrel with ⟨rfl, rfl⟩ | ⟨rfl, rfl⟩
    · go_wp2_with fail
      go_roundw
      case measure => simp [intOf]
      case rel => exact .inr ⟨by go_num, by first | trivial | rfl⟩
    · go_wp2_with fail
      go_ret
      exact ⟨rfl, HR1.out, HB1.out⟩

theorem same_calls (T g c : Nat) (cs : Array Value) (W : List Nat) (l : List Bool) (R : Nat) (w : World) (h : MaskW w T g c cs W l) (hR : RowB w R l) : Calls Tryd.prog 14 #[.pointer (some ⟨T, 0, none⟩), .slice (some ⟨R, 0, none⟩) l.length l.length] w fun e w' => e = .returned (.bool true) ∧ ∃ n, w' = w.drewN n := by
  have HM := Lib.hid (fun n => h.below (bl_drewN (Below.refl w.heap.size w) n))
  have HR := Lib.hid hR
  have HL := Lib.hid (len_calls T g c cs W l w h)
  have HG := Lib.hid (fun n j => get_calls T g c cs W l j (w.drewN n) (h.below (bl_drewN (Below.refl w.heap.size w) n)))
  have hsm := h.small
  have z0 : ((l.length : Int) != (l.length : Int)) = false := by simp
  clear h hR
  go_enter Tryd.func14, Tryd.ntmps14
  go_wp2_with fail
  refine HL.out.mono ?_
  rintro e w1 ⟨rfl, rfl⟩
  go_wp2_with fail
  go_loopw [5] (fun i wr => ∃ k m : Nat, i = .int .i64 k ∧ k ≤ l.length ∧ wr = w.drewN m) (fun i _ => l.length - (intOf i).toNat)
  case atStart => exact ⟨0, 0, rfl, by omega, rfl⟩
  case round =>
    obtain ⟨k, m, rfl, hk, rfl⟩ := hrel
    by_cases hlt : k < l.length
    · have hc := HR.out.at_ k hlt
      have hg := fun n => HG.out n (k : Int)
      rw [show decide (0 ≤ (k : Int) ∧ (k : Int) < (l.length : Int)) = true by simp; omega, Bool.true_and, Int.toNat_natCast] at hg
      have HGK := Lib.hid hg
      clear hg
      generalize tr l k = x at *
      have hxx : (x != x) = false := by simp
      have hadd : IntKind.i64.wrap ((k : Int) + 1) = (k : Int) + 1 := IntWalk.i64_in _ (by omega)
      go_wp2_with fail
      go_quiet ((go_at_call 17; refine (HGK.out _).mono ?_; rintro e w1 ⟨rfl, rfl⟩; exact ⟨rfl, _, rfl⟩))
      clear hadd
      go_wp2_with fail
      go_roundw
      case measure => simp [intOf]; omega
      case rel => exact ⟨k + 1, m + nq, by go_num, by omega, by first | exact World.drewN_drewN _ _ _ | rfl | trivial⟩
    · obtain rfl : k = l.length := by omega
      have HG1 := Lib.hid (HG.out m (-1))
      have HG2 := Lib.hid (HG.out m (l.length : Int))
      rw [show decide (0 ≤ (-1 : Int) ∧ (-1 : Int) < (l.length : Int)) = false by simp, Bool.false_and] at HG1
      rw [show decide (0 ≤ (l.length : Int) ∧ (l.length : Int) < (l.length : Int)) = false by simp, Bool.false_and] at HG2
      go_wp2_with fail
      refine HG1.out.mono ?_
      rintro e w1 ⟨rfl, rfl⟩
      go_wp2_with fail
      refine HG2.out.mono ?_
      rintro e w1 ⟨rfl, rfl⟩
      go_wp2_with fail
      go_ret
      exact ⟨rfl, m, rfl⟩
theorem TabAt.below {w w' : World} (h : TabAt w) (hb : Below w.heap.size w w') : TabAt w' := fun j hj => bl_seen hb (h j hj)
theorem TabAt.drewN {w : World} (h : TabAt w) (n : Nat) : TabAt (w.drewN n) := h
theorem next_tft (r : Nat) (h : IsNext tft (0 : Int).toNat false r) : r = 1 :=
  h.one ⟨by decide, fun _ => by decide, fun i _ hi => by
    have : i = 0 := by omega
    subst this
    decide⟩
theorem knows_calls (w : World) (hT : TabAt w) : Calls Tryd.prog 4 #[] w fun e w' => e = .returned (.bool true) ∧ Below w.heap.size w w' := by
  have HT := Lib.hid hT
  clear hT
  have hlit := Blk.new w 4 #[.bool true, .bool false, .bool true]
  have HO := Lib.hid (of_calls w.heap.size _ hlit)
  have HB0 := Lib.hid (bl_alloc (Below.refl w.heap.size w) (.cells #[.bool true, .bool false, .bool true] 4))
  clear hlit
  go_enter Tryd.func4, Tryd.ntmps4
  go_wp2_with fail
  refine HO.out.mono ?_
  rintro e w1 ⟨T, rfl, ⟨g, c, cs, W, hM, _, _⟩, hB⟩
  have HM := Lib.hid hM
  have HB1 := Lib.hid (bl_then HB0.out hB)
  clear hM hB
  go_wp2_with fail
  refine (bytes_calls T g c cs W _ HM.out).mono ?_
  rintro e w2 ⟨rfl, hR, hB⟩
  have c0 := hR.cell 0
  have HM2 := Lib.hid (HM.out.below hB)
  have HB2 := Lib.hid (bl_then HB1.out hB)
  have HT2 := Lib.hid (HT.out.below HB2.out)
  have HR := Lib.hid hR
  clear hB hR
  have hconv : (convert 40 9 (.slice (some ⟨w1.heap.size, 0, none⟩) 1 1)).run Tryd.prog w2 = .ok (.string ⟨#[5]⟩) w2 :=
    run_convert_bytes_arg w2 40 5 Tryd.underlying40 Tryd.underlying5 w1.heap.size 0 1 1 [5] rfl (fun i hi => by
      obtain rfl : i = 0 := by omega
      exact HR.out.cell 0) 9 Tryd.underlying9
  have HC := Lib.hid (count_calls T g c cs W tft w2 HM2.out)
  have HC2 : Hid (countL tft = 2) := Lib.hid (by decide)
  rw [HC2.out] at HC
  have HG : Hid (Calls Tryd.prog 17 #[.pointer (some ⟨T, 0, none⟩), .int .i64 2] w2 fun e w' => e = .returned (.bool true) ∧ w2 = w') := Lib.hid (get_calls T g c cs W tft 2 w2 HM2.out)
  have HN := Lib.hid (next_calls T g c cs W tft 0 false w2 HM2.out (by omega) (by omega) HT2.out)
  clear c0
  go_wp2_with fail
  refine HC.out.mono ?_
  rintro e w3 ⟨rfl, rfl⟩
  go_wp2_with fail
  refine HG.out.mono ?_
  rintro e w3 ⟨rfl, rfl⟩
  go_wp2_with fail
  refine HN.out.mono ?_
  rintro e w3 ⟨r, rfl, hr, n, rfl⟩
  have hr1 := next_tft r hr
  subst hr1
  clear hr
  go_wp2_with fail
  go_ret
  exact ⟨rfl, bl_drewN HB2.out n⟩
end Go.Proofs.YtnhieoeiiebjoaaDoor.Bt
