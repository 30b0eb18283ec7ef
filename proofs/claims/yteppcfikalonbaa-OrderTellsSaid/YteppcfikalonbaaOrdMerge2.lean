/- Contract of order.Merge. -/
import Derived.Test.YteppcfikalonbaaOrdMerge
namespace Go.Proofs.Yteppcfikalonbaa.Ord
open Go.RowKit
set_option linter.unusedVariables false
set_option linter.unusedSimpArgs false

/-- Two lists as one: the next from the first, where it is not behind the next of the second. -/
def mergeL (c : Int → Int → Int) : List Int → List Int → List Int
  | [], ys => ys
  | x :: xs, [] => x :: xs
  | x :: xs, y :: ys => if c x y ≤ 0 then x :: mergeL c xs (y :: ys) else y :: mergeL c (x :: xs) ys
termination_by xs ys => xs.length + ys.length
theorem mergeL_nil (c : Int → Int → Int) (xs : List Int) : mergeL c xs [] = xs := by
  cases xs <;> simp [mergeL]
theorem mergeL_left (c : Int → Int → Int) (x y : Int) (xs ys : List Int) (h : c x y ≤ 0) : mergeL c (x :: xs) (y :: ys) = x :: mergeL c xs (y :: ys) := by rw [mergeL, if_pos h]
theorem mergeL_right (c : Int → Int → Int) (x y : Int) (xs ys : List Int) (h : ¬ c x y ≤ 0) : mergeL c (x :: xs) (y :: ys) = y :: mergeL c (x :: xs) ys := by rw [mergeL, if_neg h]

theorem merge_start (w : World) (A C : Option Addr) (ca cb na nb : Nat) (T : TypeId) :
    ∃ W : World, W = (((w.alloc (.cells #[.slice A na ca] T)).alloc (.cells #[.slice C nb cb] T)).alloc (.cells #[.slice none 0 0] T)) ∧ W.heap.size = w.heap.size + 3 ∧ Below w.heap.size w W ∧
      W.cell? ⟨w.heap.size, 0, none⟩ = some (.slice A na ca) ∧ W.cell? ⟨w.heap.size + 1, 0, none⟩ = some (.slice C nb cb) ∧ W.cell? ⟨w.heap.size + 1 + 1, 0, none⟩ = some (.slice none 0 0) ∧
      W.frozen? ⟨w.heap.size, 0, none⟩ = false ∧ W.frozen? ⟨w.heap.size + 1, 0, none⟩ = false ∧ W.frozen? ⟨w.heap.size + 1 + 1, 0, none⟩ = false := by
  refine ⟨_, rfl, by simp, bl_alloc (bl_alloc (bl_alloc (Below.refl _ _) _) _) _, ?_, ?_, ?_, ?_, ?_, ?_⟩
  · rw [World.cell?_alloc_past _ _ _ (by simp; omega), World.cell?_alloc_past _ _ _ (by simp), World.cell?_alloc_at _ _ _ _ rfl]; rfl
  · rw [World.cell?_alloc_past _ _ _ (by simp), World.cell?_alloc_at _ _ _ _ (by simp)]; rfl
  · rw [World.cell?_alloc_at _ _ _ _ (by simp)]; rfl
  · rw [World.frozen?_alloc_past _ _ _ (by simp; omega), World.frozen?_alloc_past _ _ _ (by simp), World.frozen?_alloc_at _ _ _ _ rfl]
  · rw [World.frozen?_alloc_past _ _ _ (by simp), World.frozen?_alloc_at _ _ _ _ (by simp)]
  · rw [World.frozen?_alloc_at _ _ _ _ (by simp)]

theorem ReadsI.drewN {w : World} {k : IntKind} {A : Option Addr} {xs : List Int} (h : ReadsI w k A xs) (n : Nat) : ReadsI (w.drewN n) k A xs := h
theorem OwnI.drewN {w : World} {base : Nat} {e : TypeId} {k : IntKind} {v : Value} {xs : List Int} (h : OwnI w base e k v xs) (n : Nat) : OwnI (w.drewN n) base e k v xs := h

set_option maxHeartbeats 8000000 in
theorem merge_calls (xs ys : List Int) (A C : Option Addr) (ca cb : Nat) (F : Value) (c : Int → Int → Int) (hF : CmpVal F c) (w : World) (hx : ReadsI w .i64 A xs) (hy : ReadsI w .i64 C ys) (hlx : xs.length ≤ 1000000) (hly : ys.length ≤ 1000000) (hca : xs.length ≤ ca) (hcb : ys.length ≤ cb) :
    Calls Try.prog 21 #[.slice A xs.length ca, .slice C ys.length cb, F] w fun e w' => (∃ v, e = .returned v ∧ ShowsI w' .i64 v (mergeL c xs ys)) ∧ Below w.heap.size w w' := by
  have hmf : ∀ (fn : Fn) (first cap : Array Value) (w : World), (Instr.makeFunc fn first cap).run Try.prog w = .ok (.func fn first cap) w := fun _ _ _ _ => rfl
  have HX := Lib.hid hx
  have HY := Lib.hid hy
  have HF := Lib.hid hF
  clear hx hy
  rcases hF with ⟨rfl, hcc⟩ | ⟨g0, caps0, rfl, hcc⟩
  all_goals
    clear hcc
    go_enter Try.func21, Try.ntmps21
    go_wp2_with fail
    refine (alike_calls _ c HF.out _).mono ?_
    rintro e w' ⟨⟨g, caps, rfl, hc⟩, rfl⟩
    have e := hc.1
    unfold Fun at e
    have HCM := Lib.hid hc.2
    clear hc
    go_wp2_with fail
    obtain ⟨W, hW, hsz, hb, c0, c1, c2, f0, f1, f2⟩ := merge_start w A C ca cb xs.length ys.length 22
    rw [← hW]
    have hWs : w.heap.size + 3 ≤ W.heap.size := by omega
    clear hW hsz
    have H0 := Lib.hid c0
    have H1 := Lib.hid c1
    have H2 := Lib.hid c2
    clear c0 c1 c2
    go_loopg [12] (xs.length + ys.length) (fun gg _ wr => ∃ (us vs os : List Int) (D E : Option Addr) (nd ne cd ce : Nat) (ov : Value), Hid (wr.cell? ⟨w.heap.size, 0, none⟩ = some (.slice D nd cd)) ∧ Hid (wr.cell? ⟨w.heap.size + 1, 0, none⟩ = some (.slice E ne ce)) ∧ Hid (wr.cell? ⟨w.heap.size + 1 + 1, 0, none⟩ = some ov)
      ∧ wr.frozen? ⟨w.heap.size, 0, none⟩ = false ∧ wr.frozen? ⟨w.heap.size + 1, 0, none⟩ = false ∧ wr.frozen? ⟨w.heap.size + 1 + 1, 0, none⟩ = false ∧ nd ≤ cd ∧ ne ≤ ce ∧ Hid (us.length = nd) ∧ Hid (vs.length = ne) ∧ Hid (ReadsI w .i64 D us) ∧ Hid (ReadsI w .i64 E vs)
      ∧ Hid (OwnI wr (w.heap.size + 3) 3 .i64 ov os) ∧ Hid (mergeL c xs ys = os ++ mergeL c us vs) ∧ os.length + (nd + ne) ≤ 2000000 ∧ gg = nd + ne ∧ Below w.heap.size w wr ∧ w.heap.size + 3 ≤ wr.heap.size)
    case atStart => exact ⟨xs, ys, [], A, C, xs.length, ys.length, ca, cb, .slice none 0 0, H0, H1, H2, f0, f1, f2, hca, hcb, Lib.hid rfl, Lib.hid rfl, HX, HY, Lib.hid (ownI_nil _ _ _ _), Lib.hid rfl, by simp; omega, rfl, hb, hWs⟩
    case round =>
      obtain ⟨us, vs, os, D, E, nd, ne, cd, ce, ov, K0, K1, K2, f0, f1, f2, hd2, he2, HD, HE, HRD, HRE, HO, HM, hln, rfl, hB, hsz⟩ := hrel
      clear hb hWs H0 H1 H2
      have hwhich : (nd = 0 ∧ ne = 0) ∨ (ne = 0 ∧ ∃ x us', us = x :: us') ∨ (nd = 0 ∧ ∃ y vs', vs = y :: vs') ∨ (∃ x us' y vs', us = x :: us' ∧ vs = y :: vs') := by
        have h1 := HD.out
        have h2 := HE.out
        cases us with
        | nil =>
          cases vs with
          | nil => simp at h1 h2; exact .inl ⟨h1.symm, h2.symm⟩
          | cons y vs' => simp at h1; exact .inr (.inr (.inl ⟨h1.symm, y, vs', rfl⟩))
        | cons x us' =>
          cases vs with
          | nil => simp at h2; exact .inr (.inl ⟨h2.symm, x, us', rfl⟩)
          | cons y vs' => exact .inr (.inr (.inr ⟨x, us', y, vs', rfl, rfl⟩))
      rcases hwhich with ⟨rfl, rfl⟩ | ⟨rfl, x, us', rfl⟩ | ⟨rfl, y, vs', rfl⟩ | ⟨x, us', y, vs', rfl, rfl⟩
      · have c0 := K0.out
        have c1 := K1.out
        have c2 := K2.out
        have hfin : mergeL c xs ys = os := by rw [HM.out, List.eq_nil_of_length_eq_zero HD.out, List.eq_nil_of_length_eq_zero HE.out]; simp [mergeL]
        have HFIN := Lib.hid hfin
        clear hfin
        go_wp2_with fail
        go_ret
        exact ⟨⟨ov, rfl, by rw [HFIN.out]; exact HO.out.shows⟩, hB⟩
      · obtain ⟨nd', rfl⟩ : ∃ m, nd = m + 1 := ⟨us'.length, by have := HD.out; simp at this; omega⟩
        have HD' : us'.length = nd' := by have := HD.out; simp at this; omega
        have c0 := K0.out
        have c1 := K1.out
        have c2 := K2.out
        have hblk : ∀ b off, D = some ⟨b, off, none⟩ → b < w.heap.size + 3 ∧ b ≠ w.heap.size ∧ b ≠ w.heap.size + 1 + 1 := fun b off h => by
          obtain ⟨b2, off2, h2, hc2⟩ := HRD.out 0 (by simp)
          have h3 := World.block_lt_of_cell? w _ hc2
          rw [h] at h2
          injection h2 with h2
          injection h2 with h4 h5
          subst h4
          simp at h3
          omega
        have hcall : ∀ nq, Calls Try.prog 29 #[.pointer (some ⟨w.heap.size, 0, none⟩), .pointer (some ⟨w.heap.size + 1 + 1, 0, none⟩)] (wr.drewN nq) _ := fun nq => next_calls x us' os D cd (wr.drewN nq) (w.heap.size + 3) (w.heap.size) (w.heap.size + 1 + 1) ov (by rw [HD']; exact c0) c2 f0 f2 (ReadsI.drewN (HRD.out.below hB) nq) (OwnI.drewN HO.out nq) hblk (by omega) (by omega) (by omega) hsz (by rw [HD']; omega) (by omega) (by rw [HD']; omega)
        have HCALL := Lib.hid hcall
        have HN := Lib.hid HD'
        clear hcall hblk HD'
        go_wp2_with fail
        go_quiet (fail)
        go_wp2_with fail
        refine (HCALL.out _).mono ?_
        rintro e1 w1 ⟨rfl, hk, ⟨A', ca', hA1, hA2, hA3⟩, ⟨ov', ho1, ho2⟩, g0', g2'⟩
        have HK := Lib.hid hk
        have HA3 := Lib.hid hA3
        have HA1 := Lib.hid hA1
        have HO1 := Lib.hid ho1
        have HO2 := Lib.hid ho2
        clear hk hA3 hA1 ho1 ho2 c0 c1 c2
        have hoth := HK.out.block (w.heap.size + 1) (by omega) (by omega) (by omega)
        have HOTH := Lib.hid hoth
        clear hoth
        go_wp2_with fail
        go_roundg (nd' + (0))
        case measure => omega
        case rel => exact ⟨us', vs, os ++ [x], A', E, nd', 0, ca', ce, ov', Lib.hid (by have := HA1.out; rwa [HN.out] at this), Lib.hid (by rw [World.cell?_of_block HOTH.out]; exact K1.out), HO1, g0', by rw [World.frozen?_of_block HOTH.out]; exact f1, g2', by have := hA2; rw [HN.out] at this; exact this, he2, HN, HE, Lib.hid (ReadsI.tail HRD.out HA3.out), Lib.hid (HRE.out), HO2, Lib.hid (by rw [HM.out, List.eq_nil_of_length_eq_zero HE.out, mergeL_nil, mergeL_nil]; simp), by simp; omega, rfl, HK.out.below (bl_drewN hB _) (by omega) (by omega) (by omega), Nat.le_trans hsz HK.out.size⟩
      · obtain ⟨ne', rfl⟩ : ∃ m, ne = m + 1 := ⟨vs'.length, by have := HE.out; simp at this; omega⟩
        have HE' : vs'.length = ne' := by have := HE.out; simp at this; omega
        have b0 : ((ne' : Int) + 1 == 0) = false := by simp; omega
        have c0 := K0.out
        have c1 := K1.out
        have c2 := K2.out
        have hblk : ∀ b off, E = some ⟨b, off, none⟩ → b < w.heap.size + 3 ∧ b ≠ w.heap.size + 1 ∧ b ≠ w.heap.size + 1 + 1 := fun b off h => by
          obtain ⟨b2, off2, h2, hc2⟩ := HRE.out 0 (by simp)
          have h3 := World.block_lt_of_cell? w _ hc2
          rw [h] at h2
          injection h2 with h2
          injection h2 with h4 h5
          subst h4
          simp at h3
          omega
        have hcall : ∀ nq, Calls Try.prog 29 #[.pointer (some ⟨w.heap.size + 1, 0, none⟩), .pointer (some ⟨w.heap.size + 1 + 1, 0, none⟩)] (wr.drewN nq) _ := fun nq => next_calls y vs' os E ce (wr.drewN nq) (w.heap.size + 3) (w.heap.size + 1) (w.heap.size + 1 + 1) ov (by rw [HE']; exact c1) c2 f1 f2 (ReadsI.drewN (HRE.out.below hB) nq) (OwnI.drewN HO.out nq) hblk (by omega) (by omega) (by omega) hsz (by rw [HE']; omega) (by omega) (by rw [HE']; omega)
        have HCALL := Lib.hid hcall
        have HN := Lib.hid HE'
        clear hcall hblk HE'
        go_wp2_with fail
        go_quiet (fail)
        go_wp2_with fail
        refine (HCALL.out _).mono ?_
        rintro e1 w1 ⟨rfl, hk, ⟨A', ca', hA1, hA2, hA3⟩, ⟨ov', ho1, ho2⟩, g0', g2'⟩
        have HK := Lib.hid hk
        have HA3 := Lib.hid hA3
        have HA1 := Lib.hid hA1
        have HO1 := Lib.hid ho1
        have HO2 := Lib.hid ho2
        clear hk hA3 hA1 ho1 ho2 c0 c1 c2
        have hoth := HK.out.block (w.heap.size) (by omega) (by omega) (by omega)
        have HOTH := Lib.hid hoth
        clear hoth
        go_wp2_with fail
        go_roundg (0 + (ne'))
        case measure => omega
        case rel => exact ⟨us, vs', os ++ [y], D, A', 0, ne', cd, ca', ov', Lib.hid (by rw [World.cell?_of_block HOTH.out]; exact K0.out), Lib.hid (by have := HA1.out; rwa [HN.out] at this), HO1, by rw [World.frozen?_of_block HOTH.out]; exact f0, g0', g2', hd2, by have := hA2; rw [HN.out] at this; exact this, HD, HN, Lib.hid (HRD.out), Lib.hid (ReadsI.tail HRE.out HA3.out), HO2, Lib.hid (by rw [HM.out, List.eq_nil_of_length_eq_zero HD.out]; simp [mergeL]), by simp; omega, rfl, HK.out.below (bl_drewN hB _) (by omega) (by omega) (by omega), Nat.le_trans hsz HK.out.size⟩
      · by_cases hxy : c x y ≤ 0
        · have HXY := Lib.hid hxy
          obtain ⟨nd', rfl⟩ : ∃ m, nd = m + 1 := ⟨us'.length, by have := HD.out; simp at this; omega⟩
          obtain ⟨ne', rfl⟩ : ∃ m, ne = m + 1 := ⟨vs'.length, by have := HE.out; simp at this; omega⟩
          have HD' : us'.length = nd' := by have := HD.out; simp at this; omega
          have HE' : vs'.length = ne' := by have := HE.out; simp at this; omega
          have b0 : ((ne' : Int) + 1 == 0) = false := by simp; omega
          have b1 : decide ((0 : Int) < (nd' : Int) + 1) = true := decide_eq_true (by omega)
          obtain ⟨bx, offx, hDa, hcx⟩ := (HRD.out.below hB) 0 (by simp)
          obtain ⟨by_, offy, hEa, hcy⟩ := (HRE.out.below hB) 0 (by simp)
          rw [Nat.add_zero, nth_cons_zero] at hcx hcy
          subst hDa
          subst hEa
          have c0 := K0.out
          have c1 := K1.out
          have c2 := K2.out
          have hblk : ∀ b off, (some ⟨bx, offx, none⟩ : Option Addr) = some ⟨b, off, none⟩ → b < w.heap.size + 3 ∧ b ≠ w.heap.size ∧ b ≠ w.heap.size + 1 + 1 := fun b off h => by
            obtain ⟨b2, off2, h2, hc2⟩ := HRD.out 0 (by simp)
            have h3 := World.block_lt_of_cell? w _ hc2
            rw [h] at h2
            injection h2 with h2
            injection h2 with h4 h5
            subst h4
            simp at h3
            omega
          have hcall : ∀ nq, Calls Try.prog 29 #[.pointer (some ⟨w.heap.size, 0, none⟩), .pointer (some ⟨w.heap.size + 1 + 1, 0, none⟩)] (wr.drewN nq) _ := fun nq => next_calls x us' os (some ⟨bx, offx, none⟩) cd (wr.drewN nq) (w.heap.size + 3) (w.heap.size) (w.heap.size + 1 + 1) ov (by rw [HD']; exact c0) c2 f0 f2 (ReadsI.drewN (HRD.out.below hB) nq) (OwnI.drewN HO.out nq) hblk (by omega) (by omega) (by omega) hsz (by rw [HD']; omega) (by omega) (by rw [HD']; omega)
          have HCALL := Lib.hid hcall
          have HN := Lib.hid HD'
          have HOT := Lib.hid HE'
          clear hcall hblk HD' HE'
          go_wp2_with fail
          go_quiet ((go_at_fn g; exact quiet_eq (HCM.out _ _ _)))
          go_wp2_with fail
          refine (HCALL.out _).mono ?_
          rintro e1 w1 ⟨rfl, hk, ⟨A', ca', hA1, hA2, hA3⟩, ⟨ov', ho1, ho2⟩, g0', g2'⟩
          have HK := Lib.hid hk
          have HA3 := Lib.hid hA3
          have HA1 := Lib.hid hA1
          have HO1 := Lib.hid ho1
          have HO2 := Lib.hid ho2
          clear hk hA3 hA1 ho1 ho2 c0 c1 c2
          have hoth := HK.out.block (w.heap.size + 1) (by omega) (by omega) (by omega)
          have HOTH := Lib.hid hoth
          clear hoth
          go_wp2_with fail
          go_roundg (nd' + (ne' + 1))
          case measure => omega
          case rel => exact ⟨us', y :: vs', os ++ [x], A', (some ⟨by_, offy, none⟩), nd', ne' + 1, ca', ce, ov', Lib.hid (by have := HA1.out; rwa [HN.out] at this), Lib.hid (by rw [World.cell?_of_block HOTH.out]; exact K1.out), HO1, g0', by rw [World.frozen?_of_block HOTH.out]; exact f1, g2', by have := hA2; rw [HN.out] at this; exact this, he2, HN, HE, Lib.hid (ReadsI.tail HRD.out HA3.out), Lib.hid (HRE.out), HO2, Lib.hid (by rw [HM.out, mergeL_left c x y us' vs' HXY.out]; simp), by simp; omega, rfl, HK.out.below (bl_drewN hB _) (by omega) (by omega) (by omega), Nat.le_trans hsz HK.out.size⟩
        · have HXY := Lib.hid hxy
          obtain ⟨nd', rfl⟩ : ∃ m, nd = m + 1 := ⟨us'.length, by have := HD.out; simp at this; omega⟩
          obtain ⟨ne', rfl⟩ : ∃ m, ne = m + 1 := ⟨vs'.length, by have := HE.out; simp at this; omega⟩
          have HD' : us'.length = nd' := by have := HD.out; simp at this; omega
          have HE' : vs'.length = ne' := by have := HE.out; simp at this; omega
          have b0 : ((ne' : Int) + 1 == 0) = false := by simp; omega
          have b1 : decide ((0 : Int) < (nd' : Int) + 1) = true := decide_eq_true (by omega)
          obtain ⟨bx, offx, hDa, hcx⟩ := (HRD.out.below hB) 0 (by simp)
          obtain ⟨by_, offy, hEa, hcy⟩ := (HRE.out.below hB) 0 (by simp)
          rw [Nat.add_zero, nth_cons_zero] at hcx hcy
          subst hDa
          subst hEa
          have c0 := K0.out
          have c1 := K1.out
          have c2 := K2.out
          have hblk : ∀ b off, (some ⟨by_, offy, none⟩ : Option Addr) = some ⟨b, off, none⟩ → b < w.heap.size + 3 ∧ b ≠ w.heap.size + 1 ∧ b ≠ w.heap.size + 1 + 1 := fun b off h => by
            obtain ⟨b2, off2, h2, hc2⟩ := HRE.out 0 (by simp)
            have h3 := World.block_lt_of_cell? w _ hc2
            rw [h] at h2
            injection h2 with h2
            injection h2 with h4 h5
            subst h4
            simp at h3
            omega
          have hcall : ∀ nq, Calls Try.prog 29 #[.pointer (some ⟨w.heap.size + 1, 0, none⟩), .pointer (some ⟨w.heap.size + 1 + 1, 0, none⟩)] (wr.drewN nq) _ := fun nq => next_calls y vs' os (some ⟨by_, offy, none⟩) ce (wr.drewN nq) (w.heap.size + 3) (w.heap.size + 1) (w.heap.size + 1 + 1) ov (by rw [HE']; exact c1) c2 f1 f2 (ReadsI.drewN (HRE.out.below hB) nq) (OwnI.drewN HO.out nq) hblk (by omega) (by omega) (by omega) hsz (by rw [HE']; omega) (by omega) (by rw [HE']; omega)
          have HCALL := Lib.hid hcall
          have HN := Lib.hid HE'
          have HOT := Lib.hid HD'
          clear hcall hblk HD' HE'
          go_wp2_with fail
          go_quiet ((go_at_fn g; exact quiet_eq (HCM.out _ _ _)))
          go_wp2_with fail
          refine (HCALL.out _).mono ?_
          rintro e1 w1 ⟨rfl, hk, ⟨A', ca', hA1, hA2, hA3⟩, ⟨ov', ho1, ho2⟩, g0', g2'⟩
          have HK := Lib.hid hk
          have HA3 := Lib.hid hA3
          have HA1 := Lib.hid hA1
          have HO1 := Lib.hid ho1
          have HO2 := Lib.hid ho2
          clear hk hA3 hA1 ho1 ho2 c0 c1 c2
          have hoth := HK.out.block (w.heap.size) (by omega) (by omega) (by omega)
          have HOTH := Lib.hid hoth
          clear hoth
          go_wp2_with fail
          go_roundg (nd' + 1 + (ne'))
          case measure => omega
          case rel => exact ⟨x :: us', vs', os ++ [y], (some ⟨bx, offx, none⟩), A', nd' + 1, ne', cd, ca', ov', Lib.hid (by rw [World.cell?_of_block HOTH.out]; exact K0.out), Lib.hid (by have := HA1.out; rwa [HN.out] at this), HO1, by rw [World.frozen?_of_block HOTH.out]; exact f0, g0', g2', hd2, by have := hA2; rw [HN.out] at this; exact this, HD, HN, Lib.hid (HRD.out), Lib.hid (ReadsI.tail HRE.out HA3.out), HO2, Lib.hid (by rw [HM.out, mergeL_right c x y us' vs' (by have := HXY.out; omega)]; simp), by simp; omega, rfl, HK.out.below (bl_drewN hB _) (by omega) (by omega) (by omega), Nat.le_trans hsz HK.out.size⟩
end Go.Proofs.Yteppcfikalonbaa.Ord
