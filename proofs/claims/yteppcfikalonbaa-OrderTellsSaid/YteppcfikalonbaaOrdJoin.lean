/- Contract of order.join: two rows of places in order, us one, into a third. -/
import Derived.Test.YteppcfikalonbaaOrdIns
namespace Go.Proofs.Yteppcfikalonbaa.Ord
open Go.RowKit
set_option linter.unusedVariables false
set_option linter.unusedSimpArgs false

theorem set_mid (ms : List Nat) (x z : Nat) (R : List Nat) : (ms ++ z :: R).set ms.length x = (ms ++ [x]) ++ R := by simp

set_option maxHeartbeats 2000000 in
theorem join_calls (W0 : World) (B n : Nat) (g : FuncId) (caps : Array Value) (bh : Nat → Nat → Bool) (hg : Fun Try.prog g) (hB : Behind W0 B g caps n bh) (H : Weak bh)
    (bt offt capt : Nat) (hbt : B ≤ bt) (ba : Nat) (hba : ba ≠ bt) (A0 A1 : Option Addr) (ca cb : Nat) (zs xs ys : List Nat) (w : World) (hW : Below B W0 w)
    (hz : RowN w bt offt zs) (hxv : ViewN w ba A0 xs) (hyv : ViewN w ba A1 ys) (hlz : zs.length = xs.length + ys.length) (hlen : zs.length ≤ 1000000) (hca : xs.length ≤ ca) (hcb : ys.length ≤ cb) (hcz : zs.length ≤ capt)
    (hxn : ∀ r ∈ xs ++ ys, r < n) (hn : n ≤ 1000000000000) (hxs : xs.Pairwise (Ahead bh)) (hys : ys.Pairwise (Ahead bh)) (hfirst : ∀ x ∈ xs, ∀ y ∈ ys, x < y) :
    Calls Try.prog 26 #[.slice (some ⟨bt, offt, none⟩) zs.length capt, .slice A0 xs.length ca, .slice A1 ys.length cb, .func (.func g) #[] caps] w fun e w' => e = .returned (.tuple #[]) ∧ Wrote w w' bt offt (offt + zs.length) ∧
      ∃ ms, RowN w' bt offt ms ∧ ms.Perm (xs ++ ys) ∧ ms.Pairwise (Ahead bh) := by
  have e := hg
  unfold Fun at e
  have HB := Lib.hid hB
  have HJ : Hid (Joining bh (xs ++ ys) [] xs ys) := Lib.hid ⟨List.Perm.refl _, List.Pairwise.nil, hxs, hys, by simp, hfirst⟩
  have HXN : Hid (∀ r ∈ xs ++ ys, r < n) := Lib.hid hxn
  have HZ : Hid (RowN w bt offt zs) := Lib.hid hz
  have HL := Lib.hid hlz
  clear hB hxn hz hxs hys hfirst hlz
  go_enter Try.func26, Try.ntmps26
  go_wp2
  go_loopw [1, 2, 8, 11] (fun va vb _ i wr => ∃ (k : Nat) (ms us vs R : List Nat) (A C : Option Addr) (na nb ca cb : Nat), i = .int .i64 k ∧ va = .slice A na ca ∧ vb = .slice C nb cb ∧ na ≤ ca ∧ nb ≤ cb ∧ k + (na + nb) ≤ zs.length ∧ zs.length ≤ k + (na + nb) ∧ Hid (us.length = na) ∧ Hid (vs.length = nb) ∧ Hid (ms.length = k) ∧ Hid (R.length = na + nb)
      ∧ Hid (Joining bh (xs ++ ys) ms us vs) ∧ Hid (ViewN wr ba A us) ∧ Hid (ViewN wr ba C vs) ∧ Hid (RowN wr bt offt (ms ++ R)) ∧ Wrote w wr bt offt (offt + zs.length)) (fun _ _ _ i _ => zs.length - (intOf i).toNat)
  case atStart =>
    have := HL.out
    exact ⟨0, [], xs, ys, zs, A0, A1, _, _, ca, cb, rfl, rfl, rfl, hca, hcb, by omega, by omega, Lib.hid rfl, Lib.hid rfl, Lib.hid rfl, HL, HJ, Lib.hid hxv, Lib.hid hyv, HZ, Wrote.refl _ _ _ _⟩
  case round =>
    obtain ⟨k, ms, us, vs, R, A, C, na, nb, ca, cb, rfl, rfl, rfl, hna, hnb, hk1, hk2, HLA, HLB, HLM, HLR, HJ', HVA, HVB, HC, hwr⟩ := hrel
    clear hxv hyv HZ HJ
    by_cases hlt : k < zs.length
    · -- where the next one comes from
      have hwhich : (nb = 0 ∧ ∃ x us', us = x :: us') ∨ (na = 0 ∧ ∃ y vs', vs = y :: vs') ∨ (∃ x us' y vs', us = x :: us' ∧ vs = y :: vs') := by
        have h1 := HLA.out
        have h2 := HLB.out
        cases us with
        | nil =>
          cases vs with
          | nil => simp at h1 h2; omega
          | cons y vs' => simp at h1; exact .inr (.inl ⟨h1.symm, y, vs', rfl⟩)
        | cons x us' =>
          cases vs with
          | nil => simp at h2; exact .inl ⟨h2.symm, x, us', rfl⟩
          | cons y vs' => exact .inr (.inr ⟨x, us', y, vs', rfl, rfl⟩)
      rcases hwhich with ⟨rfl, x, us', rfl⟩ | ⟨rfl, y, vs', rfl⟩ | ⟨x, us', y, vs', rfl, rfl⟩
      · obtain ⟨na', rfl⟩ : ∃ m, na = m + 1 := ⟨us'.length, by have := HLA.out; simp at this; omega⟩
        have HLA' : Hid (us'.length = na') := Lib.hid (by have := HLA.out; simp at this; omega)
        obtain ⟨off1, rfl, cx, _⟩ := HVA.out.at_
        obtain ⟨A', c', hsl, hc', hA'⟩ := run_tail (P := Try.prog) (T := 22) (E := 3) Try.underlying22 Try.sizeOf3 (some ⟨ba, off1, none⟩) na' ca hna
        have HV' : Hid (ViewN wr ba A' us') := Lib.hid (HVA.out.tail (fun b off e h => hA' b off e (by rw [← HLA'.out]; exact h)))
        obtain ⟨r, R', hR⟩ : ∃ r R', R = r :: R' := by
          cases R with
          | nil => have := HLR.out; simp at this
          | cons r R' => exact ⟨r, R', rfl⟩
        have hC := HC.out
        rw [hR] at hC
        have ct := hC ms.length (by simp)
        rw [nth_here, HLM.out] at ct
        obtain ⟨ct, ft⟩ := ct
        have HC3 := Lib.hid hC
        have HR := Lib.hid hR
        clear hC hR HC hA'
        go_wp2_with fail
        go_quiet (fail)
        go_wp2_with fail
        generalize hwz : wr.drewN nq = wz
        have cv' : wz.cell? ⟨ba, off1, none⟩ = some (.int .i64 x) := by rw [← hwz]; exact cx
        have ct' : wz.cell? ⟨bt, offt + k, none⟩ = some (.int .i64 r) := by rw [← hwz]; exact ct
        have ft' : wz.frozen? ⟨bt, offt + k, none⟩ = false := by rw [← hwz]; exact ft
        have HWZ := Lib.hid hwz
        clear hwz ct ft cx
        go_region
        go_wp2
        go_roundw
        case measure => simp [intOf]; omega
        case rel =>
          have hC : RowN wz bt offt (ms ++ r :: R') := by rw [← HWZ.out]; exact HC3.out
          have hW2 : Wrote w wz bt offt (offt + zs.length) := by rw [← HWZ.out]; exact hwr.drewN _
          have hS := hC.set ms.length x (by simp)
          rw [set_mid, HLM.out] at hS
          have hwv : Wrote wr ((wz.setCell ⟨bt, offt + k, none⟩ (.int .i64 x)).drew) bt offt (offt + zs.length) := by rw [← HWZ.out]; exact (((Wrote.refl _ _ _ _).drewN _).set _ _ (by omega) (by omega)).drew
          have hlR : R'.length = na' + 0 := by have := HLR.out; rw [HR.out] at this; simp at this; omega
          exact ⟨k + 1, ms ++ [x], us', vs, R', A', _, na', 0, c', cb, by go_num, rfl, rfl, hc', hnb, by omega, by omega, HLA', HLB, Lib.hid (by simp [HLM.out]), Lib.hid hlR, Lib.hid (HJ'.out.takeLeft H (.inl (List.eq_nil_of_length_eq_zero HLB.out))), Lib.hid (HV'.out.other hwv hba), Lib.hid (HVB.out.other hwv hba), Lib.hid hS, (hW2.set _ _ (by omega) (by omega)).drew⟩
      · obtain ⟨nb', rfl⟩ : ∃ m, nb = m + 1 := ⟨vs'.length, by have := HLB.out; simp at this; omega⟩
        have HLB' : Hid (vs'.length = nb') := Lib.hid (by have := HLB.out; simp at this; omega)
        have b0 : ((nb' : Int) + 1 == 0) = false := by simp; omega
        obtain ⟨off1, rfl, cy, _⟩ := HVB.out.at_
        obtain ⟨A', c', hsl, hc', hA'⟩ := run_tail (P := Try.prog) (T := 22) (E := 3) Try.underlying22 Try.sizeOf3 (some ⟨ba, off1, none⟩) nb' cb hnb
        have HV' : Hid (ViewN wr ba A' vs') := Lib.hid (HVB.out.tail (fun b off e h => hA' b off e (by rw [← HLB'.out]; exact h)))
        obtain ⟨r, R', hR⟩ : ∃ r R', R = r :: R' := by
          cases R with
          | nil => have := HLR.out; simp at this
          | cons r R' => exact ⟨r, R', rfl⟩
        have hC := HC.out
        rw [hR] at hC
        have ct := hC ms.length (by simp)
        rw [nth_here, HLM.out] at ct
        obtain ⟨ct, ft⟩ := ct
        have HC3 := Lib.hid hC
        have HR := Lib.hid hR
        clear hC hR HC hA'
        go_wp2_with fail
        go_quiet (fail)
        go_wp2_with fail
        generalize hwz : wr.drewN nq = wz
        have cv' : wz.cell? ⟨ba, off1, none⟩ = some (.int .i64 y) := by rw [← hwz]; exact cy
        have ct' : wz.cell? ⟨bt, offt + k, none⟩ = some (.int .i64 r) := by rw [← hwz]; exact ct
        have ft' : wz.frozen? ⟨bt, offt + k, none⟩ = false := by rw [← hwz]; exact ft
        have HWZ := Lib.hid hwz
        clear hwz ct ft cy
        go_region
        go_wp2
        go_roundw
        case measure => simp [intOf]; omega
        case rel =>
          have hC : RowN wz bt offt (ms ++ r :: R') := by rw [← HWZ.out]; exact HC3.out
          have hW2 : Wrote w wz bt offt (offt + zs.length) := by rw [← HWZ.out]; exact hwr.drewN _
          have hS := hC.set ms.length y (by simp)
          rw [set_mid, HLM.out] at hS
          have hwv : Wrote wr ((wz.setCell ⟨bt, offt + k, none⟩ (.int .i64 y)).drew) bt offt (offt + zs.length) := by rw [← HWZ.out]; exact (((Wrote.refl _ _ _ _).drewN _).set _ _ (by omega) (by omega)).drew
          have hlR : R'.length = 0 + nb' := by have := HLR.out; rw [HR.out] at this; simp at this; omega
          exact ⟨k + 1, ms ++ [y], us, vs', R', _, A', 0, nb', ca, c', by go_num, rfl, rfl, hna, hc', by omega, by omega, HLA, HLB', Lib.hid (by simp [HLM.out]), Lib.hid hlR, Lib.hid (HJ'.out.takeRight H (.inl (List.eq_nil_of_length_eq_zero HLA.out))), Lib.hid (HVA.out.other hwv hba), Lib.hid (HV'.out.other hwv hba), Lib.hid hS, (hW2.set _ _ (by omega) (by omega)).drew⟩
      · cases hbh : bh x y with
        | false =>
          obtain ⟨na', rfl⟩ : ∃ m, na = m + 1 := ⟨us'.length, by have := HLA.out; simp at this; omega⟩
          obtain ⟨nb', rfl⟩ : ∃ m, nb = m + 1 := ⟨vs'.length, by have := HLB.out; simp at this; omega⟩
          have HLA' : Hid (us'.length = na') := Lib.hid (by have := HLA.out; simp at this; omega)
          have HLB' : Hid (vs'.length = nb') := Lib.hid (by have := HLB.out; simp at this; omega)
          have b0 : ((nb' : Int) + 1 == 0) = false := by simp; omega
          have b1 : decide ((0 : Int) < (na' : Int) + 1) = true := decide_eq_true (by omega)
          obtain ⟨offa, rfl, cx, _⟩ := HVA.out.at_
          obtain ⟨offb, rfl, cy, _⟩ := HVB.out.at_
          obtain ⟨A', c', hsl, hc', hA'⟩ := run_tail (P := Try.prog) (T := 22) (E := 3) Try.underlying22 Try.sizeOf3 (some ⟨ba, offa, none⟩) na' ca hna
          have HV' : Hid (ViewN wr ba A' us') := Lib.hid (HVA.out.tail (fun b off e h => hA' b off e (by rw [← HLA'.out]; exact h)))
          obtain ⟨r, R', hR⟩ : ∃ r R', R = r :: R' := by
            cases R with
            | nil => have := HLR.out; simp at this
            | cons r R' => exact ⟨r, R', rfl⟩
          have hC := HC.out
          rw [hR] at hC
          have ct := hC ms.length (by simp)
          rw [nth_here, HLM.out] at ct
          obtain ⟨ct, ft⟩ := ct
          have HC3 := Lib.hid hC
          have HR := Lib.hid hR
          clear hC hR HC hA'
          have hBw : Below B W0 wr := hW.trans (hwr.below hbt)
          have hxn : x < n := HXN.out x (HJ'.out.perm.subset (by simp))
          have hyn : y < n := HXN.out y (HJ'.out.perm.subset (by simp))
          have hcall : ∀ nq, Calls Try.prog g (#[.int .i64 x, .int .i64 y] ++ caps) (wr.drewN nq) fun e W' => e = .returned (.bool false) ∧ ∃ m, W' = (wr.drewN nq).drewN m := fun nq => by
            have := HB.out (wr.drewN nq) ⟨hBw.os, hBw.tape, hBw.output, hBw.size, hBw.block⟩ x y hxn hyn
            rwa [hbh] at this
          have HCALL := Lib.hid hcall
          have HBH := Lib.hid hbh
          clear hcall hbh
          go_wp2_with fail
          go_quiet ((go_at_fn g; exact Calls.quiet_of (HCALL.out _)))
          go_wp2_with fail
          generalize hwz : wr.drewN nq = wz
          have cv' : wz.cell? ⟨ba, offa, none⟩ = some (.int .i64 x) := by rw [← hwz]; exact cx
          have ct' : wz.cell? ⟨bt, offt + k, none⟩ = some (.int .i64 r) := by rw [← hwz]; exact ct
          have ft' : wz.frozen? ⟨bt, offt + k, none⟩ = false := by rw [← hwz]; exact ft
          have HWZ := Lib.hid hwz
          clear hwz ct ft cx cy
          go_region
          go_wp2
          go_roundw
          case measure => simp [intOf]; omega
          case rel =>
            have hC : RowN wz bt offt (ms ++ r :: R') := by rw [← HWZ.out]; exact HC3.out
            have hW2 : Wrote w wz bt offt (offt + zs.length) := by rw [← HWZ.out]; exact hwr.drewN _
            have hS := hC.set ms.length x (by simp)
            rw [set_mid, HLM.out] at hS
            have hwv : Wrote wr ((wz.setCell ⟨bt, offt + k, none⟩ (.int .i64 x)).drew) bt offt (offt + zs.length) := by rw [← HWZ.out]; exact (((Wrote.refl _ _ _ _).drewN _).set _ _ (by omega) (by omega)).drew
            have hlR : R'.length = na' + (nb' + 1) := by have := HLR.out; rw [HR.out] at this; simp at this; omega
            exact ⟨k + 1, ms ++ [x], us', y :: vs', R', A', _, na', nb' + 1, c', cb, by go_num, rfl, rfl, hc', hnb, by omega, by omega, HLA', HLB, Lib.hid (by simp [HLM.out]), Lib.hid hlR, Lib.hid (HJ'.out.takeLeft H (.inr ⟨y, vs', rfl, HBH.out⟩)), Lib.hid (HV'.out.other hwv hba), Lib.hid (HVB.out.other hwv hba), Lib.hid hS, (hW2.set _ _ (by omega) (by omega)).drew⟩
        | true =>
          obtain ⟨na', rfl⟩ : ∃ m, na = m + 1 := ⟨us'.length, by have := HLA.out; simp at this; omega⟩
          obtain ⟨nb', rfl⟩ : ∃ m, nb = m + 1 := ⟨vs'.length, by have := HLB.out; simp at this; omega⟩
          have HLA' : Hid (us'.length = na') := Lib.hid (by have := HLA.out; simp at this; omega)
          have HLB' : Hid (vs'.length = nb') := Lib.hid (by have := HLB.out; simp at this; omega)
          have b0 : ((nb' : Int) + 1 == 0) = false := by simp; omega
          have b1 : decide ((0 : Int) < (na' : Int) + 1) = true := decide_eq_true (by omega)
          obtain ⟨offa, rfl, cx, _⟩ := HVA.out.at_
          obtain ⟨offb, rfl, cy, _⟩ := HVB.out.at_
          obtain ⟨A', c', hsl, hc', hA'⟩ := run_tail (P := Try.prog) (T := 22) (E := 3) Try.underlying22 Try.sizeOf3 (some ⟨ba, offb, none⟩) nb' cb hnb
          have HV' : Hid (ViewN wr ba A' vs') := Lib.hid (HVB.out.tail (fun b off e h => hA' b off e (by rw [← HLB'.out]; exact h)))
          obtain ⟨r, R', hR⟩ : ∃ r R', R = r :: R' := by
            cases R with
            | nil => have := HLR.out; simp at this
            | cons r R' => exact ⟨r, R', rfl⟩
          have hC := HC.out
          rw [hR] at hC
          have ct := hC ms.length (by simp)
          rw [nth_here, HLM.out] at ct
          obtain ⟨ct, ft⟩ := ct
          have HC3 := Lib.hid hC
          have HR := Lib.hid hR
          clear hC hR HC hA'
          have hBw : Below B W0 wr := hW.trans (hwr.below hbt)
          have hxn : x < n := HXN.out x (HJ'.out.perm.subset (by simp))
          have hyn : y < n := HXN.out y (HJ'.out.perm.subset (by simp))
          have hcall : ∀ nq, Calls Try.prog g (#[.int .i64 x, .int .i64 y] ++ caps) (wr.drewN nq) fun e W' => e = .returned (.bool true) ∧ ∃ m, W' = (wr.drewN nq).drewN m := fun nq => by
            have := HB.out (wr.drewN nq) ⟨hBw.os, hBw.tape, hBw.output, hBw.size, hBw.block⟩ x y hxn hyn
            rwa [hbh] at this
          have HCALL := Lib.hid hcall
          have HBH := Lib.hid hbh
          clear hcall hbh
          go_wp2_with fail
          go_quiet ((go_at_fn g; exact Calls.quiet_of (HCALL.out _)))
          go_wp2_with fail
          generalize hwz : wr.drewN nq = wz
          have cv' : wz.cell? ⟨ba, offb, none⟩ = some (.int .i64 y) := by rw [← hwz]; exact cy
          have ct' : wz.cell? ⟨bt, offt + k, none⟩ = some (.int .i64 r) := by rw [← hwz]; exact ct
          have ft' : wz.frozen? ⟨bt, offt + k, none⟩ = false := by rw [← hwz]; exact ft
          have HWZ := Lib.hid hwz
          clear hwz ct ft cx cy
          go_region
          go_wp2
          go_roundw
          case measure => simp [intOf]; omega
          case rel =>
            have hC : RowN wz bt offt (ms ++ r :: R') := by rw [← HWZ.out]; exact HC3.out
            have hW2 : Wrote w wz bt offt (offt + zs.length) := by rw [← HWZ.out]; exact hwr.drewN _
            have hS := hC.set ms.length y (by simp)
            rw [set_mid, HLM.out] at hS
            have hwv : Wrote wr ((wz.setCell ⟨bt, offt + k, none⟩ (.int .i64 y)).drew) bt offt (offt + zs.length) := by rw [← HWZ.out]; exact (((Wrote.refl _ _ _ _).drewN _).set _ _ (by omega) (by omega)).drew
            have hlR : R'.length = (na' + 1) + nb' := by have := HLR.out; rw [HR.out] at this; simp at this; omega
            exact ⟨k + 1, ms ++ [y], x :: us', vs', R', _, A', na' + 1, nb', ca, c', by go_num, rfl, rfl, hna, hc', by omega, by omega, HLA, HLB', Lib.hid (by simp [HLM.out]), Lib.hid hlR, Lib.hid (HJ'.out.takeRight H (.inr ⟨x, us', rfl, HBH.out⟩)), Lib.hid (HVA.out.other hwv hba), Lib.hid (HV'.out.other hwv hba), Lib.hid hS, (hW2.set _ _ (by omega) (by omega)).drew⟩
    · go_wp2
      go_end0
      have h1 := HLA.out
      have h2 := HLB.out
      obtain rfl : us = [] := List.eq_nil_of_length_eq_zero (by omega)
      obtain rfl : vs = [] := List.eq_nil_of_length_eq_zero (by omega)
      exact ⟨rfl, hwr, ms, RowN.left HC.out, by have := HJ'.out.perm; simpa using this, HJ'.out.out⟩
end Go.Proofs.Yteppcfikalonbaa.Ord
