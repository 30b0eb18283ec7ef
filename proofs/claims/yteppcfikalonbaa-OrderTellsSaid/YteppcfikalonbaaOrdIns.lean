/- Contract of order.insert: a row of places, sorted one by one. -/
import Derived.Test.YteppcfikalonbaaMem
import Derived.Test.YteppcfikalonbaaOrdPure
namespace Go.Proofs.Yteppcfikalonbaa.Ord
open Go.RowKit
set_option linter.unusedVariables false
set_option linter.unusedSimpArgs false

/-- What 'behind' must answer, in every world that is W0 below B. -/
def Behind (W0 : World) (B : Nat) (g : FuncId) (caps : Array Value) (n : Nat) (bh : Nat → Nat → Bool) : Prop :=
  ∀ W, Below B W0 W → ∀ a b : Nat, a < n → b < n → Calls Try.prog g (#[.int .i64 a, .int .i64 b] ++ caps) W fun e W' => e = .returned (.bool (bh a b)) ∧ ∃ m, W' = W.drewN m

theorem nth_here (A : List Nat) (x : Nat) (R : List Nat) : nth (A ++ x :: R) A.length = x := by rw [nth_eq _ _ (by simp)]; simp
theorem nth_next (A : List Nat) (p x : Nat) (R : List Nat) : nth (A ++ p :: x :: R) (A.length + 1) = x := by rw [nth_eq _ _ (by simp)]; simp
theorem swap_mid (A : List Nat) (p x : Nat) (R : List Nat) : ((A ++ p :: x :: R).set A.length x).set (A.length + 1) p = A ++ x :: p :: R := by simp
theorem swap_mid' (A : List Nat) (p x : Nat) (R : List Nat) : ((A ++ p :: x :: R).set (A.length + 1) p).set A.length x = A ++ x :: p :: R := by simp

theorem ins_fin {bh : Nat → Nat → Bool} (H : Weak bh) (P : List Nat) (x : Nat) (A D : List Nat) (hP : P = A ++ D) (hs : P.Pairwise (Ahead bh)) (hx : ∀ p ∈ P, p < x) (hd : ∀ p ∈ D, bh p x = true)
    (ha : A = [] ∨ ∃ A' p, A = A' ++ [p] ∧ bh p x = false) (T : List Nat) (hT : P.Perm T) : (A ++ x :: D).Perm (T ++ [x]) ∧ (A ++ x :: D).Pairwise (Ahead bh) := by
  subst hP
  have e1 : (A ++ D).take A.length = A := by simp
  have e2 : (A ++ D).drop A.length = D := by simp
  have h1 := ins_perm (A ++ D) x A.length
  have h2 := ins_ok H (A ++ D) x A.length hs hx (by simp) (by rw [e2]; exact hd) (by
    rcases ha with rfl | ⟨A', p, rfl, h⟩
    · exact .inl rfl
    · right; exact ⟨by simp, by simpa using h⟩)
  rw [e1, e2] at h1 h2
  exact ⟨h1.trans (hT.append_right [x]), h2⟩

set_option maxHeartbeats 1000000 in
theorem insert_calls (W0 : World) (B n : Nat) (g : FuncId) (caps : Array Value) (bh : Nat → Nat → Bool) (hg : Fun Try.prog g) (hB : Behind W0 B g caps n bh) (H : Weak bh)
    (b off cap : Nat) (hb : B ≤ b) (xs : List Nat) (w : World) (hW : Below B W0 w) (hr : RowN w b off xs) (hx : ∀ x ∈ xs, x < n) (hinc : xs.Pairwise (· < ·)) (hlen : xs.length ≤ 1000000) (hcap : xs.length ≤ cap) (hn : n ≤ 1000000000000) :
    Calls Try.prog 25 #[.slice (some ⟨b, off, none⟩) xs.length cap, .func (.func g) #[] caps] w fun e w' => e = .returned (.tuple #[]) ∧ Wrote w w' b off (off + xs.length) ∧ ∃ ys, RowN w' b off ys ∧ ys.Perm xs ∧ ys.Pairwise (Ahead bh) := by
  have e := hg
  unfold Fun at e
  have HB := Lib.hid hB
  have HX : Hid (∀ x ∈ xs, x < n) := Lib.hid hx
  have HI : Hid (xs.Pairwise (· < ·)) := Lib.hid hinc
  have HR : Hid (RowN w b off xs) := Lib.hid hr
  clear hB hx hinc hr
  go_enter Try.func25, Try.ntmps25
  go_wp2
  go_loopw [4, 5] (fun i _ wr => ∃ (k : Nat) (P : List Nat), i = .int .i64 k ∧ 1 ≤ k ∧ Hid (P.Perm (xs.take k)) ∧ Hid (P.Pairwise (Ahead bh)) ∧ Hid (RowN wr b off (P ++ xs.drop k)) ∧ Wrote w wr b off (off + xs.length)) (fun i _ _ => xs.length - (intOf i).toNat)
  case atStart =>
    refine ⟨1, xs.take 1, rfl, Nat.le_refl _, Lib.hid (List.Perm.refl _), Lib.hid ?_, Lib.hid ?_, Wrote.refl _ _ _ _⟩
    · cases xs with
      | nil => simp
      | cons x xs => simp
    · rw [List.take_append_drop]; exact HR.out
  case round =>
    obtain ⟨i, P, rfl, hi, HP, HS, HC, hwr⟩ := hrel
    by_cases hlt : i < xs.length
    · have hPl : P.length = i := by have := HP.out.length_eq; simp at this; omega
      have HPL := Lib.hid hPl
      clear hPl
      have hx := nth_mem xs i hlt
      have hxn := HX.out _ hx
      have hPx : ∀ p ∈ P, p < nth xs i := by
        intro p hp
        have h1 := HP.out.subset hp
        rw [List.mem_take_iff_getElem] at h1
        obtain ⟨j, hj, rfl⟩ := h1
        rw [nth_eq _ _ hlt]
        exact List.pairwise_iff_getElem.1 HI.out j i (by omega) hlt (by omega)
      have HD : Hid (xs.drop i = nth xs i :: xs.drop (i + 1)) := Lib.hid (by rw [nth_eq _ _ hlt]; exact List.drop_eq_getElem_cons hlt)
      have HT := Lib.hid (take_nth xs i hlt)
      have HPX : Hid (∀ p ∈ P, p < nth xs i) := Lib.hid hPx
      clear hx hPx
      generalize hxx : nth xs i = x at hxn HD HT HPX
      clear hxx
      go_wp2
      obtain ⟨wo, hwo⟩ : ∃ wo : World, wo = wr := ⟨_, rfl⟩
      rw [← hwo] at hwr HC ⊢
      clear hwo
      go_loopw [5] (fun kk wq => ∃ (m : Nat) (A D : List Nat), kk = .int .i64 m ∧ m ≤ i ∧ Hid (A.length = m) ∧ Hid (P = A ++ D) ∧ Hid (RowN wq b off (A ++ x :: (D ++ xs.drop (i + 1)))) ∧ Wrote w wq b off (off + xs.length) ∧ Hid (∀ p ∈ D, bh p x = true)) (fun kk _ => (intOf kk).toNat)
      case atStart =>
        exact ⟨i, P, [], rfl, Nat.le_refl _, HPL, Lib.hid (by simp), Lib.hid (by rw [List.nil_append, ← HD.out]; exact HC.out), hwr, Lib.hid (by simp)⟩
      case round =>
        obtain ⟨m, A, D, rfl, hmi, HAl, HPA, HC2, hwq, HA⟩ := hrel
        clear HC
        rcases List.eq_nil_or_concat A with hA | ⟨A', p, hA⟩
        · have hm0 : m = 0 := by rw [← HAl.out, hA]; rfl
          subst hm0
          have HA0 := Lib.hid hA
          clear hA
          rw [show ((0 : Nat) : Int) = 0 from rfl]
          go_wp2_with fail
          go_quiet (fail)
          go_wp2_with fail
          have hfin := ins_fin H P x [] D (by rw [HPA.out, HA0.out]) HS.out HPX.out HA.out (.inl rfl) (xs.take i) HP.out
          go_roundw
          case rel => exact ⟨i + 1, [] ++ x :: D, by go_num, by omega, Lib.hid (by rw [HT.out]; exact hfin.1), Lib.hid hfin.2, Lib.hid (show RowN wr b off _ by have := HC2.out; rw [HA0.out] at this; simpa using this), hwq.drewN _⟩
          case measure => simp [intOf]; omega
        · have hm1 : A'.length + 1 = m := by rw [← HAl.out, hA]; simp
          obtain ⟨m', rfl⟩ : ∃ m', m = m' + 1 := ⟨A'.length, hm1.symm⟩
          have HAl' : Hid (A'.length = m') := Lib.hid (by omega)
          have hC : RowN wr b off (A' ++ p :: x :: (D ++ xs.drop (i + 1))) := by have := HC2.out; rw [hA] at this; simpa using this
          have hlen2 : A'.length + 1 < (A' ++ p :: x :: (D ++ xs.drop (i + 1))).length := by simp
          have c0 := hC A'.length (by omega)
          have c1 := hC (A'.length + 1) hlen2
          rw [nth_here, HAl'.out] at c0
          rw [nth_next, HAl'.out] at c1
          obtain ⟨c0, f0⟩ := c0
          obtain ⟨c1, f1⟩ := c1
          have hpn : p < n := HX.out p (List.mem_of_mem_take ((HP.out.subset (by rw [HPA.out, hA]; simp))))
          have hBw : Below B W0 wr := hW.trans (hwq.below hb)
          have hb1 := HB.out
          have HA1 := Lib.hid hA
          have HC3 := Lib.hid hC
          clear hA hm1 hC hlen2 HC2
          cases hbh : bh p x with
          | false =>
            have hcall : ∀ nq, Calls Try.prog g (#[.int .i64 p, .int .i64 x] ++ caps) (wr.drewN nq) fun e W' => e = .returned (.bool false) ∧ ∃ m, W' = (wr.drewN nq).drewN m := fun nq => by
              have := hb1 (wr.drewN nq) ⟨hBw.os, hBw.tape, hBw.output, hBw.size, hBw.block⟩ p x hpn hxn
              rwa [hbh] at this
            have HCALL := Lib.hid hcall
            have HBH := Lib.hid hbh
            clear hcall hbh hb1
            go_wp2_with fail
            go_quiet ((go_at_fn g; exact Calls.quiet_of (HCALL.out _)))
            go_wp2_with fail
            have hfin := ins_fin H P x (A' ++ [p]) D (by rw [HPA.out, HA1.out]; simp) HS.out HPX.out HA.out (.inr ⟨A', p, rfl, HBH.out⟩) (xs.take i) HP.out
            go_roundw
            case rel => exact ⟨i + 1, (A' ++ [p]) ++ x :: D, by go_num, by omega, Lib.hid (by rw [HT.out]; exact hfin.1), Lib.hid hfin.2, Lib.hid (show RowN wr b off _ by have := HC3.out; simpa using this), hwq.drewN _⟩
            case measure => simp [intOf]; omega
          | true =>
            have hcall : ∀ nq, Calls Try.prog g (#[.int .i64 p, .int .i64 x] ++ caps) (wr.drewN nq) fun e W' => e = .returned (.bool true) ∧ ∃ m, W' = (wr.drewN nq).drewN m := fun nq => by
              have := hb1 (wr.drewN nq) ⟨hBw.os, hBw.tape, hBw.output, hBw.size, hBw.block⟩ p x hpn hxn
              rwa [hbh] at this
            have HCALL := Lib.hid hcall
            have HBH := Lib.hid hbh
            clear hcall hbh hb1
            go_wp2_with fail
            go_quiet ((go_at_fn g; exact Calls.quiet_of (HCALL.out _)))
            go_wp2_with fail
            generalize hwz : wr.drewN nq = wz
            have c0' : wz.cell? ⟨b, off + m', none⟩ = some (.int .i64 p) := by rw [← hwz]; exact c0
            have c1' : wz.cell? ⟨b, off + (m' + 1), none⟩ = some (.int .i64 x) := by rw [← hwz]; exact c1
            have f0' : wz.frozen? ⟨b, off + m', none⟩ = false := by rw [← hwz]; exact f0
            have f1' : wz.frozen? ⟨b, off + (m' + 1), none⟩ = false := by rw [← hwz]; exact f1
            have HWZ := Lib.hid hwz
            clear hwz c0 c1 f0 f1
            go_region
            go_wp2
            go_roundw
            case measure => simp [intOf]
            case rel =>
              have hil := hlt
              have hC : RowN wz b off (A' ++ p :: x :: (D ++ xs.drop (i + 1))) := by rw [← HWZ.out]; exact HC3.out
              have hW2 : Wrote w wz b off (off + xs.length) := by rw [← HWZ.out]; exact hwq.drewN _
              have hS : RowN ((wz.setCell ⟨b, off + m', none⟩ (.int .i64 x)).setCell ⟨b, off + (m' + 1), none⟩ (.int .i64 p)) b off (A' ++ x :: p :: (D ++ xs.drop (i + 1))) := by
                have h1 := (hC.set A'.length x (by simp)).set (A'.length + 1) p (by simp)
                rw [swap_mid, HAl'.out] at h1
                exact h1
              refine ⟨m', A', p :: D, rfl, by omega, HAl', Lib.hid (by rw [HPA.out, HA1.out]; simp), Lib.hid hS, ((hW2.set _ _ (by omega) (by omega)).set _ _ (by omega) (by omega)).drew, Lib.hid ?_⟩
              intro q hq
              rcases List.mem_cons.1 hq with rfl | hq
              · exact HBH.out
              · exact HA.out q hq
    · go_wp2
      go_end0
      have hd : xs.drop i = [] := List.drop_of_length_le (by omega)
      have ht : xs.take i = xs := List.take_of_length_le (by omega)
      exact ⟨rfl, hwr, P, by have := HC.out; rwa [hd, List.append_nil] at this, by have := HP.out; rwa [ht] at this, HS.out⟩
end Go.Proofs.Yteppcfikalonbaa.Ord
