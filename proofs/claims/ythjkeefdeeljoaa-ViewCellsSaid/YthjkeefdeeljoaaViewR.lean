/- The document's view: whether one is right. -/
import Derived.Test.YthjkeefdeeljoaaView
namespace Go.Proofs.Ythjkeefdeeljoaa.Shp
open Go.RowKit Go.Proofs.Ythjkeefdeeljoaa.Num
set_option linter.unusedVariables false
set_option linter.unusedSimpArgs false

set_option maxHeartbeats 1000000 in
theorem rvright_calls (xs ys : List Int) (off : Int) (A B : Option Addr) (ca cb n m : Nat) (w : World) (hx : ReadsI w .i64 A xs) (hy : ReadsI w .i64 B ys) (hn : xs.length = n) (hm : ys.length = m) (hl : n ≤ 1000000) (hl2 : m ≤ 1000000) :
    Calls Try.prog 12 #[.agg #[.slice A n ca, .slice B m cb, .int .i64 off]] w fun e w' => e = .returned (.bool (vrB xs ys off)) ∧ Below w.heap.size w w' := by
  subst hn
  subst hm
  have HB0 : Hid (Below w.heap.size w (w.alloc (.cells #[.slice A xs.length ca, .slice B ys.length cb, .int .i64 off] 24))) := Lib.hid (bl_alloc (Below.refl _ _) _)
  have HS := Lib.hid (rsize2_calls xs A ca _ (hx.below HB0.out) hl)
  have HY := Lib.hid (hy.below HB0.out)
  have hbox : (w.alloc (.cells #[.slice A xs.length ca, .slice B ys.length cb, .int .i64 off] 24)).heap.size = w.heap.size + 1 := by simp
  obtain ⟨R, hR⟩ : ∃ R, R = vrB xs ys off := ⟨_, rfl⟩
  rw [← hR]
  have HR := Lib.hid hR
  clear hx hy hR
  have HBX := Lib.hid hbox
  clear hbox
  cases h1 : sizeOk xs with
  | false =>
    have HF : Hid (R = false) := Lib.hid (by rw [HR.out]; unfold vrB; rw [h1]; rfl)
    rw [h1] at HS
    clear h1 HR
    go_enter Try.func12, Try.ntmps12
    go_wp2_with fail
    refine HS.out.mono ?_
    rintro e w1 ⟨rfl, hB⟩
    have HB := Lib.hid (bl_then HB0.out hB)
    clear hB
    go_wp2_with fail
    go_ret
    exact ⟨ret_bool HF.out.symm, HB.out⟩
  | true =>
    rw [h1] at HS
    by_cases h2 : ys.length = xs.length
    rotate_left
    · have HF : Hid (R = false) := Lib.hid (by rw [HR.out]; unfold vrB; rw [decide_eq_false h2]; simp)
      have h2' : ((ys.length : Int) != (xs.length : Int)) = true := by simp; omega
      clear h1 HR h2
      go_enter Try.func12, Try.ntmps12
      go_wp2_with fail
      refine HS.out.mono ?_
      rintro e w1 ⟨rfl, hB⟩
      obtain ⟨hc, hf⟩ := bcell hB
      have HB := Lib.hid (bl_then HB0.out hB)
      clear hB
      go_wp2_with fail
      go_ret
      exact ⟨ret_bool HF.out.symm, HB.out⟩
    have h2' : ((ys.length : Int) != (xs.length : Int)) = false := by simp; omega
    have HF : Hid (R = (nearB ys && (decide (0 ≤ off) && decide (off ≤ 16777216)))) := Lib.hid (by rw [HR.out]; unfold vrB; rw [h1, decide_eq_true h2]; rfl)
    clear h1 HR h2
    by_cases h4 : off < 0
    · have HF' : Hid (R = false) := Lib.hid (by rw [HF.out, decide_eq_false (by omega)]; simp)
      clear HF
      go_enter Try.func12, Try.ntmps12
      go_wp2_with fail
      refine HS.out.mono ?_
      rintro e w1 ⟨rfl, hB⟩
      obtain ⟨hc, hf⟩ := bcell hB
      have HB := Lib.hid (bl_then HB0.out hB)
      clear hB
      go_wp2_with fail
      go_ret
      exact ⟨ret_bool HF'.out.symm, HB.out⟩
    by_cases h5 : 16777216 < off
    · have HF' : Hid (R = false) := Lib.hid (by rw [HF.out, decide_eq_false (p := off ≤ 16777216) (by omega)]; simp)
      clear HF
      go_enter Try.func12, Try.ntmps12
      go_wp2_with fail
      refine HS.out.mono ?_
      rintro e w1 ⟨rfl, hB⟩
      obtain ⟨hc, hf⟩ := bcell hB
      have HB := Lib.hid (bl_then HB0.out hB)
      clear hB
      go_wp2_with fail
      go_ret
      exact ⟨ret_bool HF'.out.symm, HB.out⟩
    have HF' : Hid (R = nearB ys) := Lib.hid (by rw [HF.out, decide_eq_true (p := off ≤ 16777216) (by omega), decide_eq_true (p := 0 ≤ off) (by omega)]; simp)
    clear HF
    go_enter Try.func12, Try.ntmps12
    go_wp2_with fail
    refine HS.out.mono ?_
    rintro e w1 ⟨rfl, hB⟩
    obtain ⟨hc, hf⟩ := bcell hB
    have HY1 := Lib.hid (HY.out.below hB)
    have hbx : w1.cell? ⟨w.heap.size, 1, none⟩ = some (.slice B ys.length cb) := by rw [hc _ _ (by rw [HBX.out]; omega)]; rw [World.cell?_alloc_at _ _ _ _ rfl]; rfl
    have HB := Lib.hid (bl_then HB0.out hB)
    clear hB
    go_wp2_with fail
    go_loop [5] (fun i => ∃ k : Nat, i = .int .i64 k ∧ k ≤ ys.length ∧ Hid ((ys.take k).any farB = false)) (fun i => ys.length - (intOf i).toNat)
    case atStart => exact ⟨0, rfl, Nat.zero_le _, Lib.hid (by simp)⟩
    case round =>
      obtain ⟨k, rfl, hk, HA⟩ := hrel
      by_cases hlt : k < ys.length
      · obtain ⟨b, o, rfl, hcy⟩ := HY1.out k hlt
        have HT := Lib.hid (take_nth ys k hlt)
        have HM := Lib.hid (nth_mem ys k hlt)
        generalize nth ys k = x at *
        by_cases h6 : x < -1048576
        · have HN : Hid (R = false) := Lib.hid (by
            rw [HF'.out]; unfold nearB
            rw [List.any_eq_true.2 ⟨x, HM.out, by unfold farB; simp; omega⟩]; rfl)
          go_wp2_with fail
          go_ret
          exact ⟨ret_bool HN.out.symm, HB.out⟩
        · by_cases h7 : 1048576 < x
          · have HN : Hid (R = false) := Lib.hid (by
              rw [HF'.out]; unfold nearB
              rw [List.any_eq_true.2 ⟨x, HM.out, by unfold farB; simp; omega⟩]; rfl)
            go_wp2_with fail
            go_ret
            exact ⟨ret_bool HN.out.symm, HB.out⟩
          · have HN : Hid (farB x = false) := Lib.hid (by unfold farB; simp; omega)
            go_wp2_with fail
            go_round
            case measure => first | (simp [intOf]; done) | (simp [intOf]; omega)
            case rel => exact ⟨k + 1, by go_num, by omega, Lib.hid (by rw [HT.out, List.any_append, HA.out]; simp [HN.out])⟩
      · have hall : ys.take k = ys := List.take_of_length_le (by omega)
        rw [hall] at HA
        clear hall
        have HN : Hid (R = true) := Lib.hid (by rw [HF'.out]; unfold nearB; rw [HA.out]; rfl)
        go_wp2_with fail
        go_ret
        exact ⟨ret_bool HN.out.symm, HB.out⟩
/-- The program's view of the document's: nothing else. -/
theorem own_calls (A B : Option Addr) (ca cb n m : Nat) (off : Int) (w : World) :
    Calls Try.prog 15 #[.agg #[.slice A n ca, .slice B m cb, .int .i64 off]] w fun e w' => e = .returned (.agg #[.slice A n ca, .slice B m cb, .int .i64 off]) ∧ Below w.heap.size w w' := by
  go_enter Try.func15, Try.ntmps15
  go_wp2
  exact bodyPost_ret (v := .agg #[.slice A n ca, .slice B m cb, .int .i64 off]) (by simp [results, Try.results15, go_sem]) rfl ⟨rfl, bl_alloc (bl_alloc (Below.refl _ _) _) _⟩
end Go.Proofs.Ythjkeefdeeljoaa.Shp
