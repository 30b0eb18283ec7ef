/- The odometer: At and New. -/
import Derived.Test.YthjkeefdeeljoaaPk22
import Derived.StillTailTactics
import Derived.Deep.RegionHeld3
namespace Go.Proofs.Ythjkeefdeeljoaa.Shp
open Go.RowKit Go.Shelf Go.Proofs.Ythjkeefdeeljoaa.Num
set_option linter.unusedVariables false
set_option linter.unusedSimpArgs false

/-- The digits of the p-th cell. -/
def digL (xs : List Int) (p : Nat) : List Int := (atL xs p).map fun (x : Nat) => (x : Int)
theorem digL_length (xs : List Int) (p : Nat) : (digL xs p).length = xs.length := by simp [digL, atL]
theorem digL_nth (xs : List Int) (p i : Nat) (hi : i < xs.length) : nth (digL xs p) i = (digF xs p i : Int) := by
  rw [nth_eq _ _ (by rw [digL_length]; exact hi)]
  have e : digF xs p i = dg xs p i := if_pos hi
  rw [e]
  simp [digL, atL]
theorem oat_not {g hi : Nat} {xs ys : List Int} {off0 : Int} {n m : Nat} (w : World) (h : OdoN g hi xs ys off0 n m false w) : Calls Try.prog 21 #[.pointer (some ⟨g, 0, none⟩)] w fun e w' => e = .returned (.slice none 0 0) ∧ w = w' := by
  obtain ⟨A, ca, B, cb, p, h1, _⟩ := h
  have e1 : w.cell? ⟨g, 11, none⟩ = some (.bool false) := h1.cell 11
  clear h1
  go_enter Try.func21, Try.ntmps21
  go_wp2
  go_ret
  exact ⟨rfl, rfl⟩
set_option maxHeartbeats 1000000 in
set_option maxRecDepth 100000 in
theorem oat_calls {g hi : Nat} {xs ys : List Int} {off0 : Int} {n m : Nat} (w : World) (h : OdoN g hi xs ys off0 n m true w) (hl : xs.length ≤ 6) : Calls Try.prog 21 #[.pointer (some ⟨g, 0, none⟩)] w fun e w' => (∃ A c, e = .returned (.slice A xs.length c) ∧ ReadsI w' .i64 A (digL xs (m - 1))) ∧ Below w.heap.size w w' := by
  obtain ⟨A, ca, B, cb, p, h1, h2, h3, h4, h5, h6, h7, h8, h9⟩ := h
  have hp : m - 1 = p := by have := h8 rfl; omega
  rw [hp]
  have e1 : w.cell? ⟨g, 11, none⟩ = some (.bool true) := h1.cell 11
  have e2 : w.cell? ⟨g, 0, none⟩ = some (.slice A xs.length ca) := h1.cell 0
  have hr : ReadsI w .i64 (some ⟨g, 3, none⟩) (digL xs p) := fun i hi' => by
    have hi2 : i < xs.length := by rw [digL_length] at hi'; exact hi'
    exact ⟨g, 3, rfl, by rw [h1.cell, odoC_dig i (by omega), digL_nth xs p i hi2]⟩
  have HCL := Lib.hid (iclone_calls (digL xs p) (some ⟨g, 3, none⟩) 6 (w.drew) hr (by rw [digL_length]; omega) (fun h => by cases h))
  rw [digL_length] at HCL
  have hl6 : (xs.length : Int) ≤ 6 := by omega
  clear h1 h2 h3 h4 h5 h6 h7 h8 h9 hr hp
  go_enter Try.func21, Try.ntmps21
  go_wp2_with fail
  go_still_tail 10, (by kernel_rfl)
  change wpList _ _ _ _ _ w.drew
  go_wp2_with fail
  refine HCL.out.mono ?_
  rintro e w1 ⟨v, rfl, hown, _, hB1⟩
  have HSH := Lib.hid hown.shows
  have HB1 := Lib.hid hB1
  clear hown hB1
  go_wp2_with fail
  go_ret
  obtain ⟨A', c', rfl, _, hr⟩ := HSH.out
  rw [digL_length]
  exact ⟨⟨A', c', rfl, hr⟩, bl_then (bl_drew (Below.refl _ _)) HB1.out⟩
/-- Clones, in one form. -/
theorem sclone2 (xs : List Int) (A : Option Addr) (ca n : Nat) (w : World) (hn : xs.length = n) (hx : ReadsI w .i64 A xs) (hl : n ≤ 1000000) : Calls Try.prog 58 #[.slice A n ca] w fun e w' => ∃ A' c', e = .returned (.slice A' n c') ∧ Hid (ReadsI w' .i64 A' xs) ∧ Hid (∀ b off, A' = some ⟨b, off, none⟩ → w.heap.size ≤ b ∧ b < w'.heap.size) ∧ Hid (Below w.heap.size w w') := by
  subst hn
  refine (sclone_calls xs A ca w hx hl (fun h => by
    cases xs with
    | nil => rfl
    | cons x l => obtain ⟨b, off, e, _⟩ := hx 0 (by simp); rw [h] at e; cases e)).mono ?_
  rintro e w' ⟨v, rfl, hown, _, hB⟩
  obtain ⟨A', c', rfl, hc, hr⟩ := hown.shows
  exact ⟨A', c', rfl, Lib.hid hr, Lib.hid (fun b off e => own_lt hown b (by rw [e]; rfl)), Lib.hid hB⟩
theorem iclone2 (xs : List Int) (A : Option Addr) (ca n : Nat) (w : World) (hn : xs.length = n) (hx : ReadsI w .i64 A xs) (hl : n ≤ 1000000) : Calls Try.prog 59 #[.slice A n ca] w fun e w' => ∃ A' c', e = .returned (.slice A' n c') ∧ Hid (ReadsI w' .i64 A' xs) ∧ Hid (∀ b off, A' = some ⟨b, off, none⟩ → w.heap.size ≤ b ∧ b < w'.heap.size) ∧ Hid (Below w.heap.size w w') := by
  subst hn
  refine (iclone_calls xs A ca w hx hl (fun h => by
    cases xs with
    | nil => rfl
    | cons x l => obtain ⟨b, off, e, _⟩ := hx 0 (by simp); rw [h] at e; cases e)).mono ?_
  rintro e w' ⟨v, rfl, hown, _, hB⟩
  obtain ⟨A', c', rfl, hc, hr⟩ := hown.shows
  exact ⟨A', c', rfl, Lib.hid hr, Lib.hid (fun b off e => own_lt hown b (by rw [e]; rfl)), Lib.hid hB⟩
def odoZ : Array Value := #[.slice none 0 0, .slice none 0 0, .int .i64 0, .int .i64 0, .int .i64 0, .int .i64 0, .int .i64 0, .int .i64 0, .int .i64 0, .int .i64 0, .int .i64 0, .bool false]
/-- How many cells of a view there are to come. -/
def cellsN (xs ys : List Int) (off : Int) : Nat := if vrB xs ys off = true then (prod xs).toNat else 0
def shpN (xs ys : List Int) (off : Int) : List Int := if vrB xs ys off = true then xs else []
def strN (xs ys : List Int) (off : Int) : List Int := if vrB xs ys off = true then ys else []
def offN (xs ys : List Int) (off : Int) : Int := if vrB xs ys off = true then off else 0
theorem held_cells {H : Nat} {W : World} {A B : Option Addr} {n ca m cb : Nat} {off : Int} (h1 : Blk W H 34 #[.slice A n ca, .slice B m cb, .int .i64 off]) :
    W.cell? ⟨H, 0, none⟩ = some (.slice A n ca) ∧ W.cell? ⟨H, 1, none⟩ = some (.slice B m cb) ∧ W.cell? ⟨H, 2, none⟩ = some (.int .i64 off) := ⟨h1.cell 0, h1.cell 1, h1.cell 2⟩
theorem held_odo {H : Nat} {W : World} (h2 : Blk W H 90 odoZ) :
    W.cell? ⟨H, 0, none⟩ = some (.slice none 0 0) ∧ W.cell? ⟨H, 1, none⟩ = some (.slice none 0 0) ∧ W.cell? ⟨H, 2, none⟩ = some (.int .i64 0) ∧ W.frozen? ⟨H, 0, none⟩ = false ∧ W.frozen? ⟨H, 1, none⟩ = false ∧ W.frozen? ⟨H, 2, none⟩ = false := ⟨h2.cell 0, h2.cell 1, h2.cell 2, h2.frozen 0, h2.frozen 1, h2.frozen 2⟩
set_option maxRecDepth 100000 in
set_option maxHeartbeats 2000000 in
theorem onew_calls (xs ys : List Int) (off : Int) (A B : Option Addr) (ca cb n m : Nat) (w : World) (hx : ReadsI w .i64 A xs) (hy : ReadsI w .i64 B ys) (hn : xs.length = n) (hm : ys.length = m) (hl : n ≤ 1000000) (hl2 : m ≤ 1000000) :
    Calls Try.prog 17 #[.agg #[.slice A n ca, .slice B m cb, .int .i64 off]] w fun e w' => e = .returned (.pointer (some ⟨w.heap.size + 1, 0, none⟩)) ∧ OdoN (w.heap.size + 1) w'.heap.size (shpN xs ys off) (strN xs ys off) (offN xs ys off) (cellsN xs ys off) 0 false w' ∧ Below w.heap.size w w' := by
  obtain ⟨W0, hW0⟩ : ∃ W0, W0 = (w.alloc (.cells #[.slice A n ca, .slice B m cb, .int .i64 off] 34)).alloc (.cells odoZ 90) := ⟨_, rfl⟩
  have hb0 : Below w.heap.size w W0 := by rw [hW0]; exact bl_alloc (bl_alloc (Below.refl _ _) _) _
  have hz0 : W0.heap.size = w.heap.size + 1 + 1 := by rw [hW0]; simp
  have hblk : Blk W0 (w.heap.size + 1) 90 odoZ := by rw [hW0]; exact Blk.new' (by simp) _ _
  have hbox : Blk W0 w.heap.size 34 #[.slice A n ca, .slice B m cb, .int .i64 off] := by rw [hW0]; exact (Blk.new _ _ _).alloc _
  have HR := Lib.hid (vright_calls xs ys off A B ca cb n m W0 (hx.below hb0) (hy.below hb0) hn hm hl hl2)
  have HXW := Lib.hid hx
  have HX := Lib.hid (hx.below hb0)
  have HY := Lib.hid (hy.below hb0)
  have HB0 := Lib.hid hb0
  have HZ0 := Lib.hid hz0
  have HBLK := Lib.hid hblk
  have HBOX := Lib.hid hbox
  have HN := Lib.hid hn
  have HM := Lib.hid hm
  have HW0 := Lib.hid hW0
  have HR2 := HR.out
  rw [hW0] at HR2
  unfold odoZ at HR2
  have HR3 := Lib.hid HR2
  clear hx hy hb0 hz0 hblk hbox hW0 hn hm HR2 HR
  cases hv : vrB xs ys off with
  | false =>
    rw [hv] at HR3
    have HV := Lib.hid hv
    clear hv
    go_enter Try.func17, Try.ntmps17
    go_wp2_with fail
    refine HR3.out.mono ?_
    rintro e w1 ⟨rfl, hB⟩
    have HB : Hid (Below W0.heap.size W0 w1) := Lib.hid (by rw [HW0.out]; exact hB)
    clear hB
    go_wp2_with fail
    go_ret
    refine ⟨rfl, ?_, HB0.out.trans (HB.out.mono HB0.out.size)⟩
    have hb1 := HBLK.out.below' HB.out
    have hsz := HB.out.size
    rw [HZ0.out] at hsz
    have e1 : shpN xs ys off = [] := by unfold shpN; rw [HV.out]; rfl
    have e2 : strN xs ys off = [] := by unfold strN; rw [HV.out]; rfl
    have e3 : offN xs ys off = 0 := by unfold offN; rw [HV.out]; rfl
    have e4 : cellsN xs ys off = 0 := by unfold cellsN; rw [HV.out]; rfl
    rw [e1, e2, e3, e4]
    refine ⟨none, 0, none, 0, 0, ?_, (fun i hi => by simp at hi), (fun i hi => by simp at hi), (fun b off e => by cases e), (fun b off e => by cases e), by omega, Nat.le_refl _, (fun h => by cases h), fun _ => .inl rfl⟩
    rw [digF_zero, plO_zero]
    exact hb1
  | true =>
    rw [hv] at HR3
    have HV := Lib.hid hv
    have hsz : sizeOk xs = true := (vrB_out hv).1
    clear hv
    go_enter Try.func17, Try.ntmps17
    go_wp2_with fail
    refine HR3.out.mono ?_
    rintro e w1 ⟨rfl, hB⟩
    have HB : Hid (Below W0.heap.size W0 w1) := Lib.hid (by rw [HW0.out]; exact hB)
    clear hB HR3 HW0
    have g0 : w1.cell? ⟨w.heap.size, 0, none⟩ = some (.slice A n ca) := (HBOX.out.below' HB.out).cell 0
    have g1 : w1.cell? ⟨w.heap.size, 1, none⟩ = some (.slice B m cb) := (HBOX.out.below' HB.out).cell 1
    have g2 : w1.cell? ⟨w.heap.size, 2, none⟩ = some (.int .i64 off) := (HBOX.out.below' HB.out).cell 2
    have HX1 := Lib.hid (HX.out.below HB.out)
    have HY1 := Lib.hid (HY.out.below HB.out)
    have HBLK1 := Lib.hid (HBLK.out.below' HB.out)
    have HBOX1 := Lib.hid (HBOX.out.below' HB.out)
    have HZ1 : Hid (w.heap.size + 1 + 1 ≤ w1.heap.size) := Lib.hid (by have := HB.out.size; have := HZ0.out; omega)
    have HB1 : Hid (Below w.heap.size w w1) := Lib.hid (HB0.out.trans (HB.out.mono HB0.out.size))
    have HSO := Lib.hid hsz
    clear HX HY HBLK HBOX HB HZ0 HB0 hsz
    go_wp2_with fail
    go_region_held3 (fun W => W.cell? ⟨w.heap.size, 0, none⟩ = some (.slice A n ca) ∧ W.cell? ⟨w.heap.size, 1, none⟩ = some (.slice B m cb) ∧ W.cell? ⟨w.heap.size, 2, none⟩ = some (.int .i64 off))
      (first | exact ⟨g0, g1, g2⟩ | exact held_cells (HBOX1.out.drew.below' HBA.out) | exact held_cells ((HBOX1.out.drew.below' HBA.out).below' HBB.out) | exact held_cells ((((HBOX1.out.drew.below' HBA.out).below' HBB.out).far (by simp) _).far (by simp) _ |>.far (by simp) _))
      (first
      | (go_at_call 58; refine (sclone2 xs A ca n _ HN.out (by first | exact HX1.out.below (bl_drew (Below.refl _ _)) | exact HX1.out) hl).mono ?_; rintro e w2 ⟨A2, c2, rfl, HRA, HSA, HBA⟩)
      | (go_at_call 59; refine (iclone2 ys B cb m _ HM.out (ReadsI.below (ReadsI.below HY1.out (bl_drew (Below.refl _ _))) HBA.out) hl2).mono ?_; rintro e w3 ⟨B3, c3, rfl, HRB, HSB, HBB⟩; obtain ⟨k0, k1, k2, k0f, k1f, k2f⟩ := held_odo ((HBLK1.out.drew.below' HBA.out).below' HBB.out)))
    have hmn : m = n := by rw [← HM.out, ← HN.out]; exact (vrB_out HV.out).2.1
    have hBV := (((((HBLK1.out.drew.below' HBA.out).below' HBB.out).set 0 (.slice A2 n c2)).set 1 (.slice B3 m c3)).set 2 (.int .i64 off))
    have hXV := ((((HBOX1.out.drew.below' HBA.out).below' HBB.out).far (p := ⟨w.heap.size + 1, 0, none⟩) (by simp) (.slice A2 n c2)).far (p := ⟨w.heap.size + 1, 1, none⟩) (by simp) (.slice B3 m c3)).far (p := ⟨w.heap.size + 1, 2, none⟩) (by simp) (.int .i64 off)
    have hs12 := HBA.out.size
    have hs23 := HBB.out.size
    have hs1 := HZ1.out
    have hs12' : w1.heap.size ≤ w2.heap.size := hs12
    have hBel := bl_set (p := ⟨w.heap.size + 1, 2, none⟩) (bl_set (p := ⟨w.heap.size + 1, 1, none⟩) (bl_set (p := ⟨w.heap.size + 1, 0, none⟩) (bl_then (bl_then (bl_drew HB1.out) HBA.out) HBB.out) (by simp) (.slice A2 n c2)) (by simp) (.slice B3 m c3)) (by simp) (.int .i64 off)
    have hRA := (((HRA.out.below HBB.out).far (p := ⟨w.heap.size + 1, 0, none⟩) (fun b off e => by have := (HSA.out b off e).1; show b ≠ w.heap.size + 1; have h : w1.heap.size ≤ b := this; omega) (.slice A2 n c2)).far (p := ⟨w.heap.size + 1, 1, none⟩) (fun b off e => by have := (HSA.out b off e).1; show b ≠ w.heap.size + 1; have h : w1.heap.size ≤ b := this; omega) (.slice B3 m c3)).far (p := ⟨w.heap.size + 1, 2, none⟩) (fun b off e => by have := (HSA.out b off e).1; show b ≠ w.heap.size + 1; have h : w1.heap.size ≤ b := this; omega) (.int .i64 off)
    have hRB := ((HRB.out.far (p := ⟨w.heap.size + 1, 0, none⟩) (fun b off e => by have := (HSB.out b off e).1; show b ≠ w.heap.size + 1; omega) (.slice A2 n c2)).far (p := ⟨w.heap.size + 1, 1, none⟩) (fun b off e => by have := (HSB.out b off e).1; show b ≠ w.heap.size + 1; omega) (.slice B3 m c3)).far (p := ⟨w.heap.size + 1, 2, none⟩) (fun b off e => by have := (HSB.out b off e).1; show b ≠ w.heap.size + 1; omega) (.int .i64 off)
    obtain ⟨V, hV⟩ : ∃ V, V = ((w3.setCell ⟨w.heap.size + 1, 0, none⟩ (.slice A2 n c2)).setCell ⟨w.heap.size + 1, 1, none⟩ (.slice B3 m c3)).setCell ⟨w.heap.size + 1, 2, none⟩ (.int .i64 off) := ⟨_, rfl⟩
    rw [← hV] at hBV hXV hBel hRA hRB
    rw [← hV]
    have hszV : V.heap.size = w3.heap.size := by rw [hV]; simp [World.setCell]
    have HSB2 : Hid (∀ b off, B3 = some ⟨b, off, none⟩ → w.heap.size + 1 < b ∧ b < V.heap.size) := Lib.hid (fun b off e => by have := HSB.out b off e; omega)
    have HSA2 : Hid (∀ b off, A2 = some ⟨b, off, none⟩ → w.heap.size + 1 < b ∧ b < V.heap.size) := Lib.hid (fun b off e => by have := HSA.out b off e; have h : w1.heap.size ≤ b := this.1; omega)
    have HVZ : Hid (w.heap.size + 1 < V.heap.size) := Lib.hid (by omega)
    have g0 : V.cell? ⟨w.heap.size, 0, none⟩ = some (.slice A n ca) := hXV.cell 0
    have g2 : V.cell? ⟨w.heap.size, 2, none⟩ = some (.int .i64 off) := hXV.cell 2
    have g9 : V.cell? ⟨w.heap.size + 1, 9, none⟩ = some (.int .i64 0) := hBV.cell 9
    have g9f := hBV.frozen 9
    have g10 : V.cell? ⟨w.heap.size + 1, 10, none⟩ = some (.int .i64 0) := hBV.cell 10
    have g10f := hBV.frozen 10
    have HB2 := Lib.hid (bl_set (p := ⟨w.heap.size + 1, 9, none⟩) hBel (by simp) (.int .i64 off))
    have hS := size2_calls xs A ca _ (HXW.out.below HB2.out) (by rw [HN.out]; exact hl)
    rw [HSO.out, HN.out, if_pos rfl] at hS
    have HBV := Lib.hid hBV
    have HRA2 := Lib.hid hRA
    have HRB2 := Lib.hid hRB
    have HMN := Lib.hid hmn
    obtain ⟨P, hP⟩ : ∃ P, prod xs = P := ⟨_, rfl⟩
    rw [hP] at hS
    have HPP := Lib.hid hP
    have HS := Lib.hid hS
    clear hV hBV hXV hBel hRA hRB hs12 hs23 hs1 hs12' hszV hmn hP hS k0 k1 k2 k0f k1f k2f HRA HSA HBA HRB HSB HBB HBLK1 HBOX1 HX1 HY1 HB1 HZ1
    rename_i hHeld
    clear hHeld
    go_wp2_with fail
    refine HS.out.mono ?_
    rintro e w4 ⟨rfl, rfl⟩
    go_wp2_with fail
    go_ret
    have e1 : shpN xs ys off = xs := by unfold shpN; rw [HV.out]; rfl
    have e2 : strN xs ys off = ys := by unfold strN; rw [HV.out]; rfl
    have e3 : offN xs ys off = off := by unfold offN; rw [HV.out]; rfl
    have e4 : cellsN xs ys off = (prod xs).toNat := by unfold cellsN; rw [HV.out]; rfl
    rw [e1, e2, e3, e4]
    refine ⟨rfl, ⟨A2, c2, B3, c3, 0, ?_, ?_, ?_, ?_, ?_, ?_, Nat.zero_le _, (fun h => by cases h), fun _ => .inr ⟨rfl, rfl⟩⟩, ?_⟩
    · have h0 : 0 ≤ prod xs := by
        have h := HSO.out
        unfold sizeOk at h
        simp only [Bool.and_eq_true] at h
        exact prod_nonneg xs (fun x hx => ((rightB_mem h.1).2 x hx).1)
      have h1 : (((prod xs).toNat - 0 : Nat) : Int) = P := by rw [← HPP.out]; omega
      rw [h1, digF_zero, plO_zero, HN.out]
      have h := (HBV.out.set 9 (.int .i64 off)).set 10 (.int .i64 P)
      rw [HMN.out] at h
      exact h
    · exact (HRA2.out.far (p := ⟨w.heap.size + 1, 9, none⟩) (fun b off e => by have := (HSA2.out b off e).1; show b ≠ w.heap.size + 1; omega) _).far (p := ⟨w.heap.size + 1, 10, none⟩) (fun b off e => by have := (HSA2.out b off e).1; show b ≠ w.heap.size + 1; omega) _
    · exact (HRB2.out.far (p := ⟨w.heap.size + 1, 9, none⟩) (fun b off e => by have := (HSB2.out b off e).1; show b ≠ w.heap.size + 1; omega) _).far (p := ⟨w.heap.size + 1, 10, none⟩) (fun b off e => by have := (HSB2.out b off e).1; show b ≠ w.heap.size + 1; omega) _
    · simpa [World.setCell] using HSA2.out
    · simpa [World.setCell] using HSB2.out
    · simpa [World.setCell] using HVZ.out
    · exact bl_set HB2.out (by simp) _
end Go.Proofs.Ythjkeefdeeljoaa.Shp
