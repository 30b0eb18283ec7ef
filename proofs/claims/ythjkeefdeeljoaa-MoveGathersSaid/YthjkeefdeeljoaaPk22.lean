/- The document's Product and Size. -/
import Derived.Test.YthjkeefdeeljoaaPk11
import Derived.Test.YthjkeefdeeljoaaPk18
namespace Go.Proofs.Ythjkeefdeeljoaa.Shp
open Go.RowKit Go.Proofs.Ythjkeefdeeljoaa.Num
set_option linter.unusedVariables false
set_option linter.unusedSimpArgs false

theorem drewN_two (w : World) (a b : Nat) : (w.drewN a).drewN b = w.drewN (a + b) := by simp [World.drewN, Nat.add_assoc]
theorem prod_ge_part (xs : List Int) (h1 : ∀ x ∈ xs, 1 ≤ x) (k : Nat) : prod (xs.take k) ≤ prod xs ∧ 1 ≤ prod (xs.take k) := by
  have hs : prod xs = prod (xs.take k) * prod (xs.drop k) := by rw [← prod_append2, List.take_append_drop]
  have a := prod_ge (xs.take k) (fun x hx => h1 x (List.mem_of_mem_take hx))
  have b := prod_ge (xs.drop k) (fun x hx => h1 x (List.mem_of_mem_drop hx))
  have := Int.mul_le_mul_of_nonneg_left b (show 0 ≤ prod (xs.take k) by omega)
  omega
def sizeR (xs : List Int) : Value := if prod xs ≤ 1048576 then .tuple #[.int .i64 (prod xs), .bool true] else .tuple #[.int .i64 0, .bool false]
set_option maxHeartbeats 1000000 in
theorem rprod_calls (A : Option Addr) (c : Nat) (xs : List Int) (w : World) (hx : ReadsI w .i64 A xs) (hr : rightB xs = true) :
    Calls Try.prog 62 #[.int .i64 1048576, .slice A xs.length c] w fun e w' => e = .returned (sizeR xs) ∧ Below w.heap.size w w' := by
  have hm := rightB_mem hr
  have HX := Lib.hid hx
  have HM := Lib.hid hm.2
  have hl6 := hm.1
  obtain ⟨R, hR⟩ : ∃ R, R = sizeR xs := ⟨_, rfl⟩
  rw [← hR]
  have HR := Lib.hid hR
  clear hx hm hr hR
  go_enter Try.func62, Try.ntmps62
  go_wp2_with fail
  go_loop [6, 7] (fun z i => ∃ k : Nat, i = .int .i64 k ∧ k ≤ xs.length ∧ ∃ b : Bool, z = .bool b ∧ Hid (b = (xs.take k).any fun x => decide (x = 0))) (fun _ i => xs.length - (intOf i).toNat)
  case atStart => exact ⟨0, rfl, Nat.zero_le _, false, rfl, Lib.hid (by simp)⟩
  case round =>
    obtain ⟨k, rfl, hk, z, rfl, HZ⟩ := hrel
    by_cases hlt : k < xs.length
    · obtain ⟨b, off, rfl, hc⟩ := HX.out k hlt
      have hmem := HM.out _ (nth_mem xs k hlt)
      have HT := Lib.hid (take_nth xs k hlt)
      generalize nth xs k = x at *
      cases z with
      | true =>
        go_wp2_with fail
        go_round
        case measure => simp [intOf]; omega
        case rel => exact ⟨k + 1, by go_num, by omega, true, rfl, Lib.hid (by rw [HT.out, List.any_append, ← HZ.out]; simp)⟩
      | false =>
        by_cases h0 : x = 0
        · subst h0
          go_wp2_with fail
          go_round
          case measure => simp [intOf]; omega
          case rel => exact ⟨k + 1, by go_num, by omega, true, rfl, Lib.hid (by rw [HT.out, List.any_append, ← HZ.out]; simp)⟩
        · have h0' : (x == 0) = false := by simpa using h0
          go_wp2_with fail
          go_round
          case measure => simp [intOf]; omega
          case rel => exact ⟨k + 1, by go_num, by omega, false, rfl, Lib.hid (by rw [HT.out, List.any_append, ← HZ.out]; simp [h0])⟩
    · have hall : xs.take k = xs := List.take_of_length_le (by omega)
      rw [hall] at HZ
      clear hall
      cases z with
      | true =>
        have HV : Hid (R = .tuple #[.int .i64 0, .bool true]) := Lib.hid (by
          have h1 := HZ.out.symm
          obtain ⟨x, hx, h2⟩ := List.any_eq_true.1 h1
          have h3 : x = 0 := by simpa using h2
          rw [h3] at hx
          have h4 := prod_zero xs hx
          rw [HR.out]
          unfold sizeR
          rw [h4]; rfl)
        clear HR HZ HM
        go_wp2_with fail
        go_ret2
        exact ⟨congrArg Ending.returned HV.out.symm, Below.refl _ _⟩
      | false =>
        have H1 : Hid (∀ x ∈ xs, 1 ≤ x) := Lib.hid fun x hx => by
          have h1 := HZ.out.symm
          have h2 := List.any_eq_false.1 h1 x hx
          have h3 : x ≠ 0 := by simpa using h2
          have := HM.out x hx
          omega
        clear HZ
        go_wp2_with fail
        go_loopw [8, 9] (fun n i wr => ∃ k m : Nat, i = .int .i64 k ∧ k ≤ xs.length ∧ n = .int .i64 m ∧ 1 ≤ m ∧ m ≤ 1048576 ∧ Hid ((m : Int) = prod (xs.take k)) ∧ Hid (∃ d, wr = w.drewN d)) (fun _ i _ => xs.length - (intOf i).toNat)
        case atStart => exact ⟨0, 1, rfl, Nat.zero_le _, rfl, by omega, by omega, Lib.hid (by simp [prod]), Lib.hid ⟨0, rfl⟩⟩
        case round =>
          obtain ⟨k, m, rfl, hk, rfl, hm1, hm2, HP, HW⟩ := hrel
          by_cases hlt : k < xs.length
          · obtain ⟨b, off, rfl, hc⟩ := HX.out k hlt
            have hc' : wr.cell? ⟨b, off + k, none⟩ = some (.int .i64 (nth xs k)) := by obtain ⟨d, rfl⟩ := HW.out; exact hc
            have hx1 := H1.out _ (nth_mem xs k hlt)
            have hx2 := (HM.out _ (nth_mem xs k hlt)).2
            have hp1 := prod_append (xs.take k) (nth xs k)
            rw [← take_nth xs k hlt, ← HP.out] at hp1
            have HG := Lib.hid (prod_ge_part xs H1.out (k + 1)).1
            have HP1 := Lib.hid hp1
            clear hp1 hc
            generalize nth xs k = x at *
            obtain ⟨y, rfl⟩ := Int.eq_ofNat_of_zero_le (show 0 ≤ x by omega)
            obtain ⟨q, hq⟩ : ∃ q, q = 1048576 / m := ⟨_, rfl⟩
            have q1 : Int.tdiv (1048576 : Int) (m : Int) = (q : Int) := by rw [hq]; rfl
            have z1 : ((m : Int) == 0) = false := by simp; omega
            have z3 : ¬ ((m : Int) = 0) := by omega
            have hqb : q ≤ 1048576 := by rw [hq]; exact Nat.div_le_self _ _
            have w1 : IntKind.i64.wrap (q : Int) = (q : Int) := by rw [IntKind.wrap_i64]; omega
            have hmy : m * y ≤ 1099511627776 := by
              have := Nat.mul_le_mul hm2 (show y ≤ 1048576 by omega)
              omega
            have hyes : y ≤ q → m * y ≤ 1048576 := fun h => by
              rw [hq] at h
              have := Nat.mul_le_mul_left m h
              have h2 := Nat.mul_div_le 1048576 m
              omega
            have hno : q < y → 1048576 < m * y := fun h => by
              rw [hq] at h
              have := (Nat.div_lt_iff_lt_mul (by omega)).1 h
              rw [Nat.mul_comm] at this
              exact this
            have HYES := Lib.hid hyes
            have HNO := Lib.hid hno
            clear hyes hno
            obtain ⟨my, hmyy⟩ : ∃ my, m * y = my := ⟨_, rfl⟩
            rw [hmyy] at hmy HYES HNO
            have hmi : (m : Int) * (y : Int) = (my : Int) := by rw [← hmyy]; rfl
            have w2 : IntKind.i64.wrap (my : Int) = (my : Int) := by rw [IntKind.wrap_i64]; omega
            have hmpos : 1 ≤ my := by
              have h := Nat.mul_le_mul hm1 (show 1 ≤ y by omega)
              rw [hmyy] at h
              omega
            rw [hmi] at HP1
            clear hq hmyy
            by_cases hgt : q < y
            · have hgt' : (q : Int) < (y : Int) := by omega
              have HV : Hid (R = .tuple #[.int .i64 0, .bool false]) := Lib.hid (by
                rw [HR.out]
                unfold sizeR
                rw [if_neg]
                have h1 := HNO.out hgt
                have h2 := HG.out
                rw [HP1.out] at h2
                omega)
              go_wp2_with fail
              go_quiet (fail)
              all_goals
                go_wp2_with fail
                go_ret2
                refine ⟨congrArg Ending.returned HV.out.symm, ?_⟩
                obtain ⟨d, rfl⟩ := HW.out
                exact bl_drewN (bl_drewN (Below.refl _ _) _) _
            · have hgt' : ¬ ((q : Int) < (y : Int)) := by omega
              have hmy2 : my ≤ 1048576 := HYES.out (by omega)
              go_wp2_with fail
              go_quiet (fail)
              all_goals
                go_wp2_with fail
                go_roundw
                case measure => simp [intOf]; omega
                case rel => exact ⟨k + 1, my, by go_num, by omega, rfl, hmpos, hmy2, Lib.hid HP1.out.symm, Lib.hid (by obtain ⟨d, rfl⟩ := HW.out; exact ⟨_, drewN_two _ _ _⟩)⟩
          · have hall : xs.take k = xs := List.take_of_length_le (by omega)
            rw [hall] at HP
            clear hall
            have HV : Hid (R = .tuple #[.int .i64 m, .bool true]) := Lib.hid (by
              rw [HR.out]
              unfold sizeR
              rw [if_pos (by rw [← HP.out]; omega), HP.out])
            have hdm : decide ((m : Int) ≤ 1048576) = true := by simp; omega
            go_wp2_with fail
            go_ret2
            refine ⟨congrArg Ending.returned HV.out.symm, ?_⟩
            obtain ⟨d, rfl⟩ := HW.out
            exact bl_drewN (Below.refl _ _) _
/-- How many cells: the document's. -/
def sizV (xs : List Int) : Value := if sizeOk xs = true then .tuple #[.int .i64 (prod xs), .bool true] else .tuple #[.int .i64 0, .bool false]
theorem rsize_calls (xs : List Int) (A : Option Addr) (ca : Nat) (w : World) (hx : ReadsI w .i64 A xs) (hl : xs.length ≤ 1000000) :
    Calls Try.prog 19 #[.slice A xs.length ca, .int .i64 1048576] w fun e w' => e = .returned (sizV xs) ∧ Below w.heap.size w w' := by
  have HRA := Lib.hid (rright_calls xs A ca w hx (by omega))
  cases hr : rightB xs with
  | false =>
    have HV : Hid (sizV xs = .tuple #[.int .i64 0, .bool false]) := Lib.hid (if_neg (by unfold sizeOk; rw [hr]; simp))
    rw [hr] at HRA
    rw [HV.out]
    clear hx hr HV
    go_enter Try.func19, Try.ntmps19
    go_wp2_with fail
    refine HRA.out.mono ?_
    rintro e w' ⟨rfl, rfl⟩
    go_wp2_with fail
    go_ret2
    exact ⟨rfl, Below.refl _ _⟩
  | true =>
    have HP := rprod_calls A ca xs w hx hr
    rw [hr] at HRA
    have hs : sizeOk xs = decide (prod xs ≤ 1048576) := by unfold sizeOk; rw [hr]; rfl
    by_cases hp : prod xs ≤ 1048576
    · have HV : Hid (sizV xs = .tuple #[.int .i64 (prod xs), .bool true]) := Lib.hid (if_pos (by rw [hs]; simpa using hp))
      unfold sizeR at HP
      rw [if_pos hp] at HP
      rw [HV.out]
      generalize prod xs = p at *
      have HP := Lib.hid HP
      clear hx hr HV hs hp
      go_enter Try.func19, Try.ntmps19
      go_wp2_with fail
      refine HRA.out.mono ?_
      rintro e w' ⟨rfl, rfl⟩
      go_wp2_with fail
      refine HP.out.mono ?_
      rintro e w' ⟨rfl, hB⟩
      have HB := Lib.hid hB
      clear hB
      go_wp2_with fail
      go_ret2
      exact ⟨rfl, HB.out⟩
    · have HV : Hid (sizV xs = .tuple #[.int .i64 0, .bool false]) := Lib.hid (if_neg (by rw [hs]; simpa using hp))
      unfold sizeR at HP
      rw [if_neg hp] at HP
      rw [HV.out]
      have HP := Lib.hid HP
      clear hx hr HV hs hp
      go_enter Try.func19, Try.ntmps19
      go_wp2_with fail
      refine HRA.out.mono ?_
      rintro e w' ⟨rfl, rfl⟩
      go_wp2_with fail
      refine HP.out.mono ?_
      rintro e w' ⟨rfl, hB⟩
      have HB := Lib.hid hB
      clear hB
      go_wp2_with fail
      go_ret2
      exact ⟨rfl, HB.out⟩
end Go.Proofs.Ythjkeefdeeljoaa.Shp
