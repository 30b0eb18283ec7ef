/- Contract of the document's Ranks. -/
import Derived.Test.YteppcfikalonbaaOrdRef
namespace Go.Proofs.Yteppcfikalonbaa.Ord
open Go.RowKit
set_option linter.unusedVariables false
set_option linter.unusedSimpArgs false

/-- Is the k-th the first of its kind? -/
def firstTo (xs : List Int) (k m : Nat) : Bool := (List.range m).all fun j => nth xs j != nth xs k
def isFirst (xs : List Int) (k : Nat) : Bool := firstTo xs k k
theorem firstTo_succ (xs : List Int) (k m : Nat) : firstTo xs k (m + 1) = (firstTo xs k m && (nth xs m != nth xs k)) := by simp [firstTo, List.range_succ]
/-- How many kinds among the first m are less than the i-th. -/
def kinds (xs : List Int) (i m : Nat) : Nat := ((List.range m).filter fun k => isFirst xs k && decide (nth xs k < nth xs i)).length
theorem kinds_succ (xs : List Int) (i m : Nat) : kinds xs i (m + 1) = kinds xs i m + if (isFirst xs m && decide (nth xs m < nth xs i)) = true then 1 else 0 := by
  unfold kinds
  rw [List.range_succ, List.filter_append, List.length_append]
  congr 1
  simp only [List.filter_cons, List.filter_nil]
  split <;> rfl
theorem kinds_le (xs : List Int) (i m : Nat) : kinds xs i m ≤ m := by
  unfold kinds
  have := List.length_filter_le (fun k => isFirst xs k && decide (nth xs k < nth xs i)) (List.range m)
  simpa using this
def ranksR (xs : List Int) : List Int := (List.range xs.length).map fun i => (kinds xs i xs.length : Int)

set_option maxHeartbeats 2000000 in
theorem refRanks_calls (xs : List Int) (A : Option Addr) (ca : Nat) (w : World) (hx : ReadsI w .i64 A xs) (hl : xs.length ≤ 1000000) :
    Calls Try.prog 16 #[.slice A xs.length ca] w fun e w' => (∃ v, e = .returned v ∧ ShowsI w' .i64 v (ranksR xs)) ∧ Below w.heap.size w w' := by
  have HX := Lib.hid hx
  clear hx
  go_enter Try.func16, Try.ntmps16
  go_wp2_with fail
  go_loopw [3, 4, 5, 6, 7, 8] (fun v i _ _ _ _ wr => ∃ (a : Nat), i = .int .i64 a ∧ a ≤ xs.length ∧ Hid (OwnI wr w.heap.size 3 .i64 v ((List.range a).map fun i => (kinds xs i xs.length : Int))) ∧ Below w.heap.size w wr ∧ w.heap.size ≤ wr.heap.size) (fun _ i _ _ _ _ _ => xs.length - (intOf i).toNat)
  case atStart => exact ⟨0, rfl, Nat.zero_le _, Lib.hid (by simpa using ownI_nil w _ _ _), Below.refl _ _, Nat.le_refl _⟩
  case round =>
    obtain ⟨a, rfl, ha, HO, hB, hsz⟩ := hrel
    by_cases hla : a < xs.length
    · go_wp2_with fail
      obtain ⟨wo, hwo⟩ : ∃ wo : World, wo = wr := ⟨_, rfl⟩
      rw [← hwo] at HO hB hsz ⊢
      clear hwo
      have HXo := Lib.hid (HX.out.below hB)
      go_loopw [5, 6, 7, 8] (fun n k _ _ wq => ∃ (m q : Nat), k = .int .i64 m ∧ m ≤ xs.length ∧ n = .int .i64 (kinds xs a m : Nat) ∧ Hid (wq = wo.drewN q)) (fun _ k _ _ _ => xs.length - (intOf k).toNat)
      case atStart => exact ⟨0, 0, rfl, Nat.zero_le _, rfl, Lib.hid rfl⟩
      case round =>
        obtain ⟨m, q, rfl, hm, rfl, HW⟩ := hrel
        by_cases hlm : m < xs.length
        · go_wp2_with fail
          obtain ⟨wz, hwz⟩ : ∃ wz : World, wz = wr := ⟨_, rfl⟩
          rw [← hwz] at HW ⊢
          clear hwz
          go_loopw [7, 8] (fun f j wq => ∃ (p q2 : Nat), j = .int .i64 p ∧ p ≤ m ∧ f = .bool (firstTo xs m p) ∧ Hid (wq = wz.drewN q2)) (fun _ j _ => m - (intOf j).toNat)
          case atStart => exact ⟨0, 0, rfl, Nat.zero_le _, rfl, Lib.hid rfl⟩
          case round =>
            obtain ⟨p, q2, rfl, hp, rfl, HW2⟩ := hrel
            by_cases hlp : p < m
            · obtain ⟨bb, off, rfl, hc1⟩ := HXo.out m hlm
              obtain ⟨bb', off', he', hc0⟩ := HXo.out p (by omega)
              injection he' with he'
              injection he' with h3 h4
              subst h3
              subst h4
              have g1 : wr.cell? ⟨bb, off + m, none⟩ = some (.int .i64 (nth xs m)) := by rw [HW2.out, HW.out]; exact hc1
              have g0 : wr.cell? ⟨bb, off + p, none⟩ = some (.int .i64 (nth xs p)) := by rw [HW2.out, HW.out]; exact hc0
              have hlp' : p < xs.length := by omega
              have i1 : ((p : Int) < (xs.length : Int)) := by omega
              have i2 : ((m : Int) < (xs.length : Int)) := by omega
              clear hc1 hc0
              have HF := Lib.hid (firstTo_succ xs m p)
              generalize hxm : nth xs m = y at *
              generalize hxp : nth xs p = x at *
              have HXM := Lib.hid hxm
              have HXP := Lib.hid hxp
              clear hxm hxp
              cases hb : firstTo xs m p with
              | false =>
                have HB := Lib.hid hb
                clear hb
                go_wp2_with fail
                go_quiet (fail)
                go_wp2_with fail
                go_roundw
                case measure => simp [intOf]; omega
                case rel => exact ⟨p + 1, q2 + nq, by go_num, by omega, by rw [HF.out, HB.out]; rfl, Lib.hid (by rw [HW2.out, World.drewN_drewN])⟩
              | true =>
                have HB := Lib.hid hb
                clear hb
                go_wp2_with fail
                go_quiet (fail)
                go_wp2_with fail
                go_roundw
                case measure => simp [intOf]; omega
                case rel => exact ⟨p + 1, q2 + nq, by go_num, by omega, by rw [HF.out, HB.out]; simp, Lib.hid (by rw [HW2.out, World.drewN_drewN])⟩
            · have hpm : p = m := by omega
              have HPM := Lib.hid hpm
              clear hpm
              have HK := Lib.hid (kinds_succ xs a m)
              obtain ⟨bb, off, rfl, hc1⟩ := HXo.out m hlm
              obtain ⟨bb', off', he', hc0⟩ := HXo.out a hla
              injection he' with he'
              injection he' with h3 h4
              subst h3
              subst h4
              have g1 : wr.cell? ⟨bb, off + m, none⟩ = some (.int .i64 (nth xs m)) := by rw [HW2.out, HW.out]; exact hc1
              have g0 : wr.cell? ⟨bb, off + a, none⟩ = some (.int .i64 (nth xs a)) := by rw [HW2.out, HW.out]; exact hc0
              have i1 : ((a : Int) < (xs.length : Int)) := by omega
              have i2 : ((m : Int) < (xs.length : Int)) := by omega
              have hkl := kinds_le xs a m
              clear hc1 hc0
              have HFF : Hid (isFirst xs m = firstTo xs m p) := Lib.hid (by rw [HPM.out]; rfl)
              generalize hxm : nth xs m = y at *
              generalize hxa : nth xs a = x at *
              generalize kinds xs a m = n0 at *
              cases hb : firstTo xs m p with
              | false =>
                have HB := Lib.hid hb
                clear hb hxm hxa
                go_wp2_with fail
                go_quiet (fail)
                go_wp2_with fail
                go_roundw
                case measure => simp [intOf]; omega
                case rel => exact ⟨m + 1, q + (q2 + nq), by go_num, by omega, by rw [HK.out, HFF.out, HB.out]; simp, Lib.hid (by rw [HW2.out, HW.out, World.drewN_drewN, World.drewN_drewN])⟩
              | true =>
                have HB := Lib.hid hb
                clear hb hxm hxa
                by_cases hyx : y < x
                · go_wp2_with fail
                  go_quiet (fail)
                  go_wp2_with fail
                  go_roundw
                  case measure => simp [intOf]; omega
                  case rel => exact ⟨m + 1, q + (q2 + nq), by go_num, by omega, by rw [HK.out, HFF.out, HB.out, if_pos (by simpa using hyx)]; go_num, Lib.hid (by rw [HW2.out, HW.out, World.drewN_drewN, World.drewN_drewN])⟩
                · go_wp2_with fail
                  go_quiet (fail)
                  go_wp2_with fail
                  go_roundw
                  case measure => simp [intOf]; omega
                  case rel => exact ⟨m + 1, q + (q2 + nq), by go_num, by omega, by rw [HK.out, HFF.out, HB.out, if_neg (by simp; omega)]; go_num, Lib.hid (by rw [HW2.out, HW.out, World.drewN_drewN, World.drewN_drewN])⟩
        · have hmn : m = xs.length := by omega
          have HMN := Lib.hid hmn
          clear hmn
          have hO : OwnI wr w.heap.size 3 .i64 u3 ((List.range a).map fun i => (kinds xs i xs.length : Int)) := by rw [HW.out]; exact HO.out
          have hBr : Below w.heap.size w wr := by rw [HW.out]; exact bl_drewN hB _
          have hszr : w.heap.size ≤ wr.heap.size := by rw [HW.out]; exact hsz
          have HOr := Lib.hid hO
          have hll : ((List.range a).map fun i => (kinds xs i xs.length : Int)).length ≤ 1000000 := by simp; omega
          clear hO
          go_wp2_with (at_builtin; refine app_row (w0 := w) w.heap.size rfl (.tmp 52) (.tmp 54) 22 3 (.int .i64 0) 1 8 rfl Try.underlying22 info_int rfl (by decide) u3 _ _ #[.int .i64 (kinds xs a m : Nat)] rfl rfl rfl (by simp [Value.oneCell']) HOr.out hBr hszr (by omega) (by omega) ?_; intro v1 w1 hown1 hB1 hg1 hsz1)
          go_roundw
          case measure => simp [intOf]; omega
          case rel => exact ⟨a + 1, by go_num, by omega, Lib.hid (by have h := OwnI.snoc hown1; rw [List.range_succ, List.map_append]; rw [HMN.out] at h; exact h), hB1, hsz1⟩
    · go_wp2_with fail
      go_ret
      have han : a = xs.length := by omega
      have ho := HO.out
      rw [han] at ho
      exact ⟨⟨u3, rfl, ho.shows⟩, hB⟩
end Go.Proofs.Yteppcfikalonbaa.Ord
