/- Contracts and lemmas that the row of this claim stands on: View, ViewR. -/
import Derived.Test.YthjkeefdeeljoaaPk17
import Derived.Test.YthjkeefdeeljoaaPk5
/- Views: whether one is right. -/
namespace Go.Proofs.Ythjkeefdeeljoaa.Shp
open Go.RowKit Go.Proofs.Ythjkeefdeeljoaa.Num
set_option linter.unusedVariables false
set_option linter.unusedSimpArgs false

/-- Is this too far? -/
def farB (n : Int) : Bool := decide (n < -1048576 ∨ 1048576 < n)
def nearB (ys : List Int) : Bool := !(ys.any farB)
/-- Is a view right? -/
def vrB (xs ys : List Int) (off : Int) : Bool := sizeOk xs && (decide (ys.length = xs.length) && (nearB ys && (decide (0 ≤ off) && decide (off ≤ 16777216))))
theorem vrB_out {xs ys : List Int} {off : Int} (h : vrB xs ys off = true) : sizeOk xs = true ∧ ys.length = xs.length ∧ nearB ys = true ∧ 0 ≤ off ∧ off ≤ 16777216 := by
  unfold vrB at h
  simpa using h
theorem near_mem {ys : List Int} (h : nearB ys = true) : ∀ y ∈ ys, -1048576 ≤ y ∧ y ≤ 1048576 := fun y hy => by
  unfold nearB at h
  have h1 : ys.any farB = false := by simpa using h
  have := List.any_eq_false.1 h1 y hy
  unfold farB at this
  simp at this
  omega
theorem size2_calls (xs : List Int) (A : Option Addr) (ca : Nat) (w : World) (hx : ReadsI w .i64 A xs) (hl : xs.length ≤ 1000000) :
    Calls Try.prog 60 #[.slice A xs.length ca, .int .i64 1048576] w fun e w' => e = .returned (.tuple #[.int .i64 (if sizeOk xs = true then prod xs else 0), .bool (sizeOk xs)]) ∧ w = w' := by
  have := size_calls xs 1048576 A ca w hx (by omega) (by unfold fits; omega)
  rw [size_full] at this
  refine this.mono ?_
  rintro e w' ⟨rfl, rfl⟩
  refine ⟨?_, rfl⟩
  cases sizeOk xs <;> rfl
theorem rsize2_calls (xs : List Int) (A : Option Addr) (ca : Nat) (w : World) (hx : ReadsI w .i64 A xs) (hl : xs.length ≤ 1000000) :
    Calls Try.prog 19 #[.slice A xs.length ca, .int .i64 1048576] w fun e w' => e = .returned (.tuple #[.int .i64 (if sizeOk xs = true then prod xs else 0), .bool (sizeOk xs)]) ∧ Below w.heap.size w w' := by
  refine (rsize_calls xs A ca w hx hl).mono ?_
  rintro e w' ⟨rfl, h⟩
  refine ⟨?_, h⟩
  unfold sizV
  cases sizeOk xs <;> rfl
theorem far1_calls (x : Int) (w : World) : Calls Try.prog 108 #[.int .i64 x] w fun e w' => e = .returned (.bool (farB x)) ∧ w = w' := by
  by_cases h : x < -1048576
  · have h1 : farB x = true := by simp [farB, h]
    rw [h1]
    go_enter Try.func108, Try.ntmps108
    go_wp2
    go_ret
    exact ⟨rfl, rfl⟩
  · have h1 : farB x = decide (1048576 < x) := by simp [farB, h]
    rw [h1]
    clear h1
    go_enter Try.func108, Try.ntmps108
    go_wp2
    go_ret
    exact ⟨rfl, rfl⟩
theorem indexN_calls (xs : List Int) (A : Option Addr) (ca : Nat) (w : World) (hx : ReadsI w .i64 A xs) (hl : xs.length ≤ 9223372036854775807) :
    Calls Try.prog 123 #[.slice A xs.length ca, .func (.func 108) #[] #[]] w fun e w' => (∃ k : Int, e = .returned (.int .i64 k) ∧ decide (0 ≤ k) = xs.any farB) ∧ w = w' := by
  have HX := Lib.hid hx
  clear hx
  have HB : ∀ x w, Calls Try.prog 108 #[.int .i64 x] w fun e w' => e = .returned (.bool (farB x)) ∧ w = w' := far1_calls
  go_enter Try.func123, Try.ntmps123
  go_wp2_with fail
  go_loop [5, 8] (fun _ i => ∃ k : Nat, i = .int .i64 k ∧ k ≤ xs.length ∧ Hid ((xs.take k).any farB = false)) (fun _ i => xs.length - (intOf i).toNat)
  case atStart => exact ⟨0, rfl, Nat.zero_le _, Lib.hid (by simp)⟩
  case round =>
    obtain ⟨k, rfl, hk, HA⟩ := hrel
    by_cases hlt : k < xs.length
    · obtain ⟨b, off, rfl, hc⟩ := HX.out k hlt
      have HT := Lib.hid (take_nth xs k hlt)
      have HM := Lib.hid (nth_mem xs k hlt)
      generalize nth xs k = x at *
      have HB' := Lib.hid (HB x w)
      clear HB
      go_wp2_with fail
      refine HB'.out.mono ?_
      rintro e w' ⟨rfl, rfl⟩
      cases hb : farB x with
      | true =>
        have HBX := Lib.hid hb
        clear hb
        go_wp2_with fail
        go_ret
        refine ⟨⟨k, rfl, ?_⟩, rfl⟩
        have h1 : xs.any farB = true := List.any_eq_true.2 ⟨x, HM.out, HBX.out⟩
        rw [h1]; simp
      | false =>
        have HBX := Lib.hid hb
        clear hb
        go_wp2_with fail
        go_round
        case measure => first | (simp [intOf]; done) | (simp [intOf]; omega)
        case rel => exact ⟨k + 1, by go_num, by omega, Lib.hid (by rw [HT.out, List.any_append, HA.out]; simp [HBX.out])⟩
    · go_wp2_with fail
      go_ret
      have := HA.out
      rw [List.take_of_length_le (by omega)] at this
      exact ⟨⟨-1, rfl, by rw [this]; rfl⟩, rfl⟩
theorem containsN_calls (xs : List Int) (A : Option Addr) (ca : Nat) (w : World) (hx : ReadsI w .i64 A xs) (hl : xs.length ≤ 9223372036854775807) :
    Calls Try.prog 90 #[.slice A xs.length ca, .func (.func 108) #[] #[]] w fun e w' => e = .returned (.bool (xs.any farB)) ∧ w = w' := by
  have HI := Lib.hid (indexN_calls xs A ca w hx hl)
  clear hx
  go_enter Try.func90, Try.ntmps90
  go_wp2_with fail
  refine HI.out.mono ?_
  rintro e w' ⟨⟨k, rfl, hk⟩, rfl⟩
  have HK := Lib.hid hk
  clear hk
  go_wp2_with fail
  go_ret
  exact ⟨ret_bool HK.out, rfl⟩
theorem within_calls (ys : List Int) (A : Option Addr) (ca : Nat) (w : World) (hx : ReadsI w .i64 A ys) (hl : ys.length ≤ 9223372036854775807) :
    Calls Try.prog 63 #[.slice A ys.length ca] w fun e w' => e = .returned (.bool (nearB ys)) ∧ w = w' := by
  have HC := Lib.hid (containsN_calls ys A ca w hx hl)
  clear hx
  go_enter Try.func63, Try.ntmps63
  go_wp2_with fail
  refine HC.out.mono ?_
  rintro e w' ⟨rfl, rfl⟩
  obtain ⟨b, hb⟩ : ∃ b, b = ys.any farB := ⟨_, rfl⟩
  rw [← hb]
  have HB := Lib.hid hb
  clear hb
  go_wp2_with fail
  go_ret
  exact ⟨ret_bool (by unfold nearB; rw [HB.out]), rfl⟩

set_option maxHeartbeats 1000000 in
theorem vright_calls (xs ys : List Int) (off : Int) (A B : Option Addr) (ca cb n m : Nat) (w : World) (hx : ReadsI w .i64 A xs) (hy : ReadsI w .i64 B ys) (hn : xs.length = n) (hm : ys.length = m) (hl : n ≤ 1000000) (hl2 : m ≤ 1000000) :
    Calls Try.prog 20 #[.agg #[.slice A n ca, .slice B m cb, .int .i64 off]] w fun e w' => e = .returned (.bool (vrB xs ys off)) ∧ Below w.heap.size w w' := by
  subst hn
  subst hm
  have HB0 : Hid (Below w.heap.size w (w.alloc (.cells #[.slice A xs.length ca, .slice B ys.length cb, .int .i64 off] 34))) := Lib.hid (bl_alloc (Below.refl _ _) _)
  have HS := Lib.hid (size2_calls xs A ca _ (hx.below HB0.out) hl)
  have HW := Lib.hid (within_calls ys B cb _ (hy.below HB0.out) (by omega))
  obtain ⟨R, hR⟩ : ∃ R, R = vrB xs ys off := ⟨_, rfl⟩
  rw [← hR]
  have HR := Lib.hid hR
  clear hx hy hR
  cases h1 : sizeOk xs with
  | false =>
    have HF : Hid (R = false) := Lib.hid (by rw [HR.out]; unfold vrB; rw [h1]; rfl)
    rw [h1] at HS
    clear h1 HR
    go_enter Try.func20, Try.ntmps20
    go_wp2_with fail
    refine HS.out.mono ?_
    rintro e w' ⟨rfl, rfl⟩
    go_wp2_with fail
    go_ret
    exact ⟨ret_bool HF.out.symm, HB0.out⟩
  | true =>
    rw [h1] at HS
    by_cases h2 : ys.length = xs.length
    rotate_left
    · have HF : Hid (R = false) := Lib.hid (by rw [HR.out]; unfold vrB; rw [decide_eq_false h2]; simp)
      have h2' : ((ys.length : Int) == (xs.length : Int)) = false := by simp; omega
      clear h1 HR h2
      go_enter Try.func20, Try.ntmps20
      go_wp2_with fail
      refine HS.out.mono ?_
      rintro e w' ⟨rfl, rfl⟩
      go_wp2_with fail
      go_ret
      exact ⟨ret_bool HF.out.symm, HB0.out⟩
    have h2' : ((ys.length : Int) == (xs.length : Int)) = true := by simp; omega
    cases h3 : nearB ys with
    | false =>
      have HF : Hid (R = false) := Lib.hid (by rw [HR.out]; unfold vrB; rw [h3]; simp)
      rw [h3] at HW
      clear h1 HR h2 h3
      go_enter Try.func20, Try.ntmps20
      go_wp2_with fail
      refine HS.out.mono ?_
      rintro e w' ⟨rfl, rfl⟩
      go_wp2_with fail
      refine HW.out.mono ?_
      rintro e w' ⟨rfl, rfl⟩
      go_wp2_with fail
      go_ret
      exact ⟨ret_bool HF.out.symm, HB0.out⟩
    | true =>
      have HF : Hid (R = (decide (0 ≤ off) && decide (off ≤ 16777216))) := Lib.hid (by rw [HR.out]; unfold vrB; rw [h1, h3, decide_eq_true h2]; rfl)
      rw [h3] at HW
      clear h1 HR h2 h3
      by_cases h4 : off < 0
      · have HF' : Hid (R = false) := Lib.hid (by rw [HF.out, decide_eq_false (by omega)]; rfl)
        clear HF
        go_enter Try.func20, Try.ntmps20
        go_wp2_with fail
        refine HS.out.mono ?_
        rintro e w' ⟨rfl, rfl⟩
        go_wp2_with fail
        refine HW.out.mono ?_
        rintro e w' ⟨rfl, rfl⟩
        go_wp2_with fail
        go_ret
        exact ⟨ret_bool HF'.out.symm, HB0.out⟩
      · have h4' : 0 ≤ off := by omega
        rw [decide_eq_true h4', Bool.true_and] at HF
        go_enter Try.func20, Try.ntmps20
        go_wp2_with fail
        refine HS.out.mono ?_
        rintro e w' ⟨rfl, rfl⟩
        go_wp2_with fail
        refine HW.out.mono ?_
        rintro e w' ⟨rfl, rfl⟩
        go_wp2_with fail
        go_ret
        exact ⟨ret_bool HF.out.symm, HB0.out⟩
end Go.Proofs.Ythjkeefdeeljoaa.Shp
/- The document's view: whether one is right. -/
namespace Go.Proofs.Ythjkeefdeeljoaa.Shp
open Go.RowKit Go.Proofs.Ythjkeefdeeljoaa.Num
set_option linter.unusedVariables false
set_option linter.unusedSimpArgs false

set_option maxHeartbeats 1000000 in
theorem rvright_calls (xs ys : List Int) (off : Int) (A B : Option Addr) (ca cb n m : Nat) (w : World) (hx : ReadsI w .i64 A xs) (hy : ReadsI w .i64 B ys) (hn : xs.length = n) (hm : ys.length = m) (hl : n ≤ 1000000) (hl2 : m ≤ 1000000) :
    Calls Try.prog 12 #[.agg #[.slice A n ca, .slice B m cb, .int .i64 off]] w fun e w' => e = .returned (.bool (vrB xs ys off)) ∧ Below w.heap.size w w' := by
  subst hn
  subst hm
  have HB0 : Hid (Below w.heap.size w (w.alloc (.cells #[.slice A xs.length ca, .slice B ys.length cb, .int .i64 off] 24))) := Lib.hid (bl_alloc (Below.refl _ _) _)
  have HS := Lib.hid (rsize2_calls xs A ca _ (hx.below HB0.out) hl)
  have HY := Lib.hid (hy.below HB0.out)
  have hbox : (w.alloc (.cells #[.slice A xs.length ca, .slice B ys.length cb, .int .i64 off] 24)).heap.size = w.heap.size + 1 := by simp
  obtain ⟨R, hR⟩ : ∃ R, R = vrB xs ys off := ⟨_, rfl⟩
  rw [← hR]
  have HR := Lib.hid hR
  clear hx hy hR
  have HBX := Lib.hid hbox
  clear hbox
  cases h1 : sizeOk xs with
  | false =>
    have HF : Hid (R = false) := Lib.hid (by rw [HR.out]; unfold vrB; rw [h1]; rfl)
    rw [h1] at HS
    clear h1 HR
    go_enter Try.func12, Try.ntmps12
    go_wp2_with fail
    refine HS.out.mono ?_
    rintro e w1 ⟨rfl, hB⟩
    have HB := Lib.hid (bl_then HB0.out hB)
    clear hB
    go_wp2_with fail
    go_ret
    exact ⟨ret_bool HF.out.symm, HB.out⟩
  | true =>
    rw [h1] at HS
    by_cases h2 : ys.length = xs.length
    rotate_left
    · have HF : Hid (R = false) := Lib.hid (by rw [HR.out]; unfold vrB; rw [decide_eq_false h2]; simp)
      have h2' : ((ys.length : Int) != (xs.length : Int)) = true := by simp; omega
      clear h1 HR h2
      go_enter Try.func12, Try.ntmps12
      go_wp2_with fail
      refine HS.out.mono ?_
      rintro e w1 ⟨rfl, hB⟩
      obtain ⟨hc, hf⟩ := bcell hB
      have HB := Lib.hid (bl_then HB0.out hB)
      clear hB
      go_wp2_with fail
      go_ret
      exact ⟨ret_bool HF.out.symm, HB.out⟩
    have h2' : ((ys.length : Int) != (xs.length : Int)) = false := by simp; omega
    have HF : Hid (R = (nearB ys && (decide (0 ≤ off) && decide (off ≤ 16777216)))) := Lib.hid (by rw [HR.out]; unfold vrB; rw [h1, decide_eq_true h2]; rfl)
    clear h1 HR h2
    by_cases h4 : off < 0
    · have HF' : Hid (R = false) := Lib.hid (by rw [HF.out, decide_eq_false (by omega)]; simp)
      clear HF
      go_enter Try.func12, Try.ntmps12
      go_wp2_with fail
      refine HS.out.mono ?_
      rintro e w1 ⟨rfl, hB⟩
      obtain ⟨hc, hf⟩ := bcell hB
      have HB := Lib.hid (bl_then HB0.out hB)
      clear hB
      go_wp2_with fail
      go_ret
      exact ⟨ret_bool HF'.out.symm, HB.out⟩
    by_cases h5 : 16777216 < off
    · have HF' : Hid (R = false) := Lib.hid (by rw [HF.out, decide_eq_false (p := off ≤ 16777216) (by omega)]; simp)
      clear HF
      go_enter Try.func12, Try.ntmps12
      go_wp2_with fail
      refine HS.out.mono ?_
      rintro e w1 ⟨rfl, hB⟩
      obtain ⟨hc, hf⟩ := bcell hB
      have HB := Lib.hid (bl_then HB0.out hB)
      clear hB
      go_wp2_with fail
      go_ret
      exact ⟨ret_bool HF'.out.symm, HB.out⟩
    have HF' : Hid (R = nearB ys) := Lib.hid (by rw [HF.out, decide_eq_true (p := off ≤ 16777216) (by omega), decide_eq_true (p := 0 ≤ off) (by omega)]; simp)
    clear HF
    go_enter Try.func12, Try.ntmps12
    go_wp2_with fail
    refine HS.out.mono ?_
    rintro e w1 ⟨rfl, hB⟩
    obtain ⟨hc, hf⟩ := bcell hB
    have HY1 := Lib.hid (HY.out.below hB)
    have hbx : w1.cell? ⟨w.heap.size, 1, none⟩ = some (.slice B ys.length cb) := by rw [hc _ _ (by rw [HBX.out]; omega)]; rw [World.cell?_alloc_at _ _ _ _ rfl]; rfl
    have HB := Lib.hid (bl_then HB0.out hB)
    clear hB
    go_wp2_with fail
    go_loop [5] (fun i => ∃ k : Nat, i = .int .i64 k ∧ k ≤ ys.length ∧ Hid ((ys.take k).any farB = false)) (fun i => ys.length - (intOf i).toNat)
    case atStart => exact ⟨0, rfl, Nat.zero_le _, Lib.hid (by simp)⟩
    case round =>
      obtain ⟨k, rfl, hk, HA⟩ := hrel
      by_cases hlt : k < ys.length
      · obtain ⟨b, o, rfl, hcy⟩ := HY1.out k hlt
        have HT := Lib.hid (take_nth ys k hlt)
        have HM := Lib.hid (nth_mem ys k hlt)
        generalize nth ys k = x at *
        by_cases h6 : x < -1048576
        · have HN : Hid (R = false) := Lib.hid (by
            rw [HF'.out]; unfold nearB
            rw [List.any_eq_true.2 ⟨x, HM.out, by unfold farB; simp; omega⟩]; rfl)
          go_wp2_with fail
          go_ret
          exact ⟨ret_bool HN.out.symm, HB.out⟩
        · by_cases h7 : 1048576 < x
          · have HN : Hid (R = false) := Lib.hid (by
              rw [HF'.out]; unfold nearB
              rw [List.any_eq_true.2 ⟨x, HM.out, by unfold farB; simp; omega⟩]; rfl)
            go_wp2_with fail
            go_ret
            exact ⟨ret_bool HN.out.symm, HB.out⟩
          · have HN : Hid (farB x = false) := Lib.hid (by unfold farB; simp; omega)
            go_wp2_with fail
            go_round
            case measure => first | (simp [intOf]; done) | (simp [intOf]; omega)
            case rel => exact ⟨k + 1, by go_num, by omega, Lib.hid (by rw [HT.out, List.any_append, HA.out]; simp [HN.out])⟩
      · have hall : ys.take k = ys := List.take_of_length_le (by omega)
        rw [hall] at HA
        clear hall
        have HN : Hid (R = true) := Lib.hid (by rw [HF'.out]; unfold nearB; rw [HA.out]; rfl)
        go_wp2_with fail
        go_ret
        exact ⟨ret_bool HN.out.symm, HB.out⟩
/-- The program's view of the document's: nothing else. -/
theorem own_calls (A B : Option Addr) (ca cb n m : Nat) (off : Int) (w : World) :
    Calls Try.prog 15 #[.agg #[.slice A n ca, .slice B m cb, .int .i64 off]] w fun e w' => e = .returned (.agg #[.slice A n ca, .slice B m cb, .int .i64 off]) ∧ Below w.heap.size w w' := by
  go_enter Try.func15, Try.ntmps15
  go_wp2
  exact bodyPost_ret (v := .agg #[.slice A n ca, .slice B m cb, .int .i64 off]) (by simp [results, Try.results15, go_sem]) rfl ⟨rfl, bl_alloc (bl_alloc (Below.refl _ _) _) _⟩
end Go.Proofs.Ythjkeefdeeljoaa.Shp
