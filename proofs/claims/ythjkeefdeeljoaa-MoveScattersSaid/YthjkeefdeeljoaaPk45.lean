/- Contracts and lemmas that the row of this claim stands on: Scatter, MFill. -/
import Derived.Test.YthjkeefdeeljoaaPk44
/- move.Scatter. -/
namespace Go.Proofs.Ythjkeefdeeljoaa.Shp
open Go.RowKit Go.Shelf Go.Proofs.Ythjkeefdeeljoaa.Num Go.Proofs.Ythjkeefdeeljoaa.Cl
set_option linter.unusedVariables false
set_option linter.unusedSimpArgs false

set_option maxRecDepth 100000 in
set_option maxHeartbeats 2000000 in
theorem scatter_out (xs ys : List Int) (off : Int) (A B : Option Addr) (ca cb n m : Nat) (T : Nat) (l : List Cell) (bl : Nat) (V : Nat) (w : World) (hx : ReadsI w .i64 A xs) (hy : ReadsI w .i64 B ys) (hn : xs.length = n) (hm : ys.length = m) (hl : n ≤ 1000000) (hl2 : m ≤ 1000000) (hT : Buf bl w T l)
    (hf : fitsB xs ys off l.length = false) :
    Calls Try.prog 46 #[.pointer (some ⟨T, 0, none⟩), .agg #[.slice A n ca, .slice B m cb, .int .i64 off], .pointer (some ⟨V, 0, none⟩)] w fun e w' => e = .returned (.int .i64 2) ∧ Below w.heap.size w w' := by
  obtain ⟨W0, hW0⟩ : ∃ W0, W0 = (w.alloc (.cells #[.pointer (some ⟨T, 0, none⟩)] 57)).alloc (.cells #[.slice A n ca, .slice B m cb, .int .i64 off] 34) := ⟨_, rfl⟩
  have hb0 : Below w.heap.size w W0 := by rw [hW0]; exact bl_alloc (bl_alloc (Below.refl _ _) _) _
  have hb : Blk W0 w.heap.size 57 #[.pointer (some ⟨T, 0, none⟩)] := by rw [hW0]; exact (Blk.new _ _ _).alloc _
  have hv : Blk W0 (w.heap.size + 1) 34 #[.slice A n ca, .slice B m cb, .int .i64 off] := by rw [hW0]; exact Blk.new' (by simp) _ _
  have HLEN := Lib.hid (fun W (h : Below w.heap.size w W) => buf_len (hT.below h))
  have HFIT := Lib.hid (fun W (h : Below w.heap.size w W) => fits_calls xs ys off A B ca cb n m (l.length : Int) W (hx.below h) (hy.below h) hn hm hl hl2)
  rw [hf] at HFIT
  have HB0 := Lib.hid hb0
  have HB := Lib.hid hb
  have HV := Lib.hid hv
  have HW0 := Lib.hid hW0
  clear hx hy hb0 hb hv hW0 hf hn hm hT
  go_enter Try.func46, Try.ntmps46
  go_upto_region 1 with fail
  rw [← HW0.out]
  obtain ⟨k3, k0, k1, k2⟩ := held_g HB.out HV.out
  go_region_held3 (fun W => W.cell? ⟨w.heap.size, 0, none⟩ = some (.pointer (some ⟨T, 0, none⟩)) ∧ W.cell? ⟨w.heap.size + 1, 0, none⟩ = some (.slice A n ca) ∧ W.cell? ⟨w.heap.size + 1, 1, none⟩ = some (.slice B m cb) ∧ W.cell? ⟨w.heap.size + 1, 2, none⟩ = some (.int .i64 off))
    (first | exact ⟨k3, k0, k1, k2⟩ | exact held_g (HB.out.drew.below' HBF.out) (HV.out.drew.below' HBF.out))
    (first
    | (go_at_call 83; refine (HLEN.out _ (bl_drew HB0.out)).mono ?_; rintro e wA ⟨rfl, rfl⟩)
    | (go_at_call 82; refine (HFIT.out _ (bl_drew HB0.out)).mono ?_; rintro e wF ⟨rfl, hBF⟩; have HBF := Lib.hid hBF; clear hBF))
  go_wp2_with fail
  go_ret
  exact ⟨rfl, bl_then (bl_drew HB0.out) HBF.out⟩
set_option maxRecDepth 100000 in
set_option maxHeartbeats 2000000 in
theorem scatter_size (xs ys : List Int) (off : Int) (A B : Option Addr) (ca cb n m : Nat) (T : Nat) (l : List Cell) (bl : Nat) (V : Nat) (o : List Cell) (bt : Nat) (w : World) (hx : ReadsI w .i64 A xs) (hy : ReadsI w .i64 B ys) (hn : xs.length = n) (hm : ys.length = m) (hl : n ≤ 1000000) (hl2 : m ≤ 1000000) (hT : Buf bl w T l) (hV : Buf bt w V o)
    (hf : fitsB xs ys off l.length = true) (hsz : cellsN xs ys off ≠ o.length) :
    Calls Try.prog 46 #[.pointer (some ⟨T, 0, none⟩), .agg #[.slice A n ca, .slice B m cb, .int .i64 off], .pointer (some ⟨V, 0, none⟩)] w fun e w' => e = .returned (.int .i64 5) ∧ Below w.heap.size w w' := by
  obtain ⟨W0, hW0⟩ : ∃ W0, W0 = (w.alloc (.cells #[.pointer (some ⟨T, 0, none⟩)] 57)).alloc (.cells #[.slice A n ca, .slice B m cb, .int .i64 off] 34) := ⟨_, rfl⟩
  have hb0 : Below w.heap.size w W0 := by rw [hW0]; exact bl_alloc (bl_alloc (Below.refl _ _) _) _
  have hb : Blk W0 w.heap.size 57 #[.pointer (some ⟨T, 0, none⟩)] := by rw [hW0]; exact (Blk.new _ _ _).alloc _
  have hv : Blk W0 (w.heap.size + 1) 34 #[.slice A n ca, .slice B m cb, .int .i64 off] := by rw [hW0]; exact Blk.new' (by simp) _ _
  have hvr := fits_vr hf
  have HLEN := Lib.hid (fun W (h : Below w.heap.size w W) => buf_len (hT.below h))
  have HFIT := Lib.hid (fun W (h : Below w.heap.size w W) => fits_calls xs ys off A B ca cb n m (l.length : Int) W (hx.below h) (hy.below h) hn hm hl hl2)
  rw [hf] at HFIT
  have HLV := Lib.hid (fun W (h : Below w.heap.size w W) => buf_len (hV.below h))
  have HSZ := Lib.hid (fun W (h : Below w.heap.size w W) => msize_calls xs ys off A B ca cb n m W (hx.below h) hn hl (cellsN xs ys off) (vrB_out hvr).1 (cellsN_prod hvr))
  have HB0 := Lib.hid hb0
  have HB := Lib.hid hb
  have HV := Lib.hid hv
  have HW0 := Lib.hid hW0
  generalize cellsN xs ys off = N at *
  obtain ⟨q, hq⟩ : ∃ q, o.length = q := ⟨_, rfl⟩
  rw [hq] at HLV hsz
  have hne : ¬ (N : Int) = (q : Int) := by omega
  clear hx hy hb0 hb hv hW0 hf hn hm hT hvr hV hq hsz
  go_enter Try.func46, Try.ntmps46
  go_upto_region 1 with fail
  rw [← HW0.out]
  obtain ⟨k3, k0, k1, k2⟩ := held_g HB.out HV.out
  go_region_held3 (fun W => W.cell? ⟨w.heap.size, 0, none⟩ = some (.pointer (some ⟨T, 0, none⟩)) ∧ W.cell? ⟨w.heap.size + 1, 0, none⟩ = some (.slice A n ca) ∧ W.cell? ⟨w.heap.size + 1, 1, none⟩ = some (.slice B m cb) ∧ W.cell? ⟨w.heap.size + 1, 2, none⟩ = some (.int .i64 off))
    (first | exact ⟨k3, k0, k1, k2⟩ | exact held_g (HB.out.drew.below' HBF.out) (HV.out.drew.below' HBF.out))
    (first
    | (go_at_call 83; refine (HLEN.out _ (bl_drew HB0.out)).mono ?_; rintro e wA ⟨rfl, rfl⟩)
    | (go_at_call 82; refine (HFIT.out _ (bl_drew HB0.out)).mono ?_; rintro e wF ⟨rfl, hBF⟩; have HBF := Lib.hid hBF; clear hBF))
  have HB1 := Lib.hid (bl_then (bl_drew HB0.out) HBF.out)
  have HV1 := Lib.hid (HV.out.drew.below' HBF.out)
  clear k0 k1 k2 k3
  obtain ⟨k0, k1, k2⟩ := seen_view HV1.out
  go_wp2_with fail
  refine (HSZ.out _ HB1.out).mono ?_
  rintro e w2 ⟨rfl, hB2⟩
  have HB2 := Lib.hid (bl_then HB1.out hB2)
  clear hB2 k0 k1 k2
  go_wp2_with fail
  refine (HLV.out _ HB2.out).mono ?_
  rintro e w3 ⟨rfl, rfl⟩
  go_wp2_with fail
  go_ret
  exact ⟨rfl, HB2.out⟩
/-- Between two rounds of the stores. -/
structure ScR (vc : Array Value) (F : Nat → List Cell) (o : List Cell) (w : World) (bl base T U X : Nat) (k : Nat) (W : World) : Prop where
  b : BufR bl w.heap.size W U (F k)
  t : BufR w.heap.size base W T o
  bb : Blk W w.heap.size 57 #[.pointer (some ⟨U, 0, none⟩)]
  tb : Blk W X 57 #[.pointer (some ⟨T, 0, none⟩)]
  vb : Blk W (w.heap.size + 1) 34 vc
  below : Below bl w W
theorem scR_low (vc : Array Value) (F : Nat → List Cell) (o : List Cell) (w : World) (bl base T U X : Nat) (h0 : bl ≤ w.heap.size) (h1 : w.heap.size + 1 < base) (h2 : X < base) : LowOnly base (ScR vc F o w bl base T U X) := fun k W W' h hos htp hout hsz hlow =>
  ⟨h.b.low (fun b hb => hlow b (by omega)), h.t.low hlow, (hlow _ (by omega)).trans h.bb, (hlow _ h2).trans h.tb, (hlow _ h1).trans h.vb, ⟨hos.trans h.below.os, htp.trans h.below.tape, hout.trans h.below.output, Nat.le_trans h.below.size hsz, fun b hb => (hlow b (by omega)).trans (h.below.block b hb)⟩⟩
set_option maxRecDepth 100000 in
set_option maxHeartbeats 2000000 in
theorem scatter_yes (xs ys : List Int) (off : Int) (A B : Option Addr) (ca cb n m : Nat) (U : Nat) (l : List Cell) (bl : Nat) (V : Nat) (o : List Cell) (bt : Nat) (w : World) (hx : ReadsI w .i64 A xs) (hy : ReadsI w .i64 B ys) (hn : xs.length = n) (hm : ys.length = m) (hl : n ≤ 1000000) (hl2 : m ≤ 1000000) (hU : Buf bl w U l) (hV : Buf bt w V o) (hbl : bl ≤ w.heap.size)
    (hf : fitsB xs ys off l.length = true) (hsz : cellsN xs ys off = o.length) :
    Calls Try.prog 46 #[.pointer (some ⟨U, 0, none⟩), .agg #[.slice A n ca, .slice B m cb, .int .i64 off], .pointer (some ⟨V, 0, none⟩)] w fun e w' => e = .returned (.int .i64 0) ∧ Buf bl w' U (scatL xs ys off l o (cellsN xs ys off)) ∧ Below bl w w' := by
  obtain ⟨W0, hW0⟩ : ∃ W0, W0 = (w.alloc (.cells #[.pointer (some ⟨U, 0, none⟩)] 57)).alloc (.cells #[.slice A n ca, .slice B m cb, .int .i64 off] 34) := ⟨_, rfl⟩
  have hb0 : Below w.heap.size w W0 := by rw [hW0]; exact bl_alloc (bl_alloc (Below.refl _ _) _) _
  have hb : Blk W0 w.heap.size 57 #[.pointer (some ⟨U, 0, none⟩)] := by rw [hW0]; exact (Blk.new _ _ _).alloc _
  have hv : Blk W0 (w.heap.size + 1) 34 #[.slice A n ca, .slice B m cb, .int .i64 off] := by rw [hW0]; exact Blk.new' (by simp) _ _
  have hvr := fits_vr hf
  have HLEN := Lib.hid (fun W (h : Below w.heap.size w W) => buf_len (hU.below h))
  have HFIT := Lib.hid (fun W (h : Below w.heap.size w W) => fits_calls xs ys off A B ca cb n m (l.length : Int) W (hx.below h) (hy.below h) hn hm hl hl2)
  rw [hf] at HFIT
  have HLV := Lib.hid (fun W (h : Below w.heap.size w W) => buf_len (hV.below h))
  have HSZ := Lib.hid (fun W (h : Below w.heap.size w W) => msize_calls xs ys off A B ca cb n m W (hx.below h) hn hl (cellsN xs ys off) (vrB_out hvr).1 (cellsN_prod hvr))
  have HPL := Lib.hid (fun W (h : Below w.heap.size w W) => plain_calls xs ys off A B ca cb n m W (hx.below h) (hy.below h) hn hm hvr (cellsN xs ys off) (cellsN_prod hvr))
  have HCL := Lib.hid (fun W (h : Below w.heap.size w W) => bclone_calls V o W (hV.below h))
  have HB0 := Lib.hid hb0
  have HB := Lib.hid hb
  have HVV := Lib.hid hv
  have HW0 := Lib.hid hW0
  have HX := Lib.hid hx
  have HY := Lib.hid hy
  have HNN := Lib.hid hn
  have HMM := Lib.hid hm
  have HU := Lib.hid hU
  have HV := Lib.hid hV
  have HF := Lib.hid hf
  have HSO := Lib.hid hsz
  rw [← hsz] at HLV
  clear hx hy hb0 hb hv hW0 hf hn hm hU hV hvr hsz
  go_enter Try.func46, Try.ntmps46
  go_upto_region 1 with fail
  rw [← HW0.out]
  obtain ⟨k3, k0, k1, k2⟩ := held_g HB.out HVV.out
  go_region_held3 (fun W => W.cell? ⟨w.heap.size, 0, none⟩ = some (.pointer (some ⟨U, 0, none⟩)) ∧ W.cell? ⟨w.heap.size + 1, 0, none⟩ = some (.slice A n ca) ∧ W.cell? ⟨w.heap.size + 1, 1, none⟩ = some (.slice B m cb) ∧ W.cell? ⟨w.heap.size + 1, 2, none⟩ = some (.int .i64 off))
    (first | exact ⟨k3, k0, k1, k2⟩ | exact held_g (HB.out.drew.below' HBF.out) (HVV.out.drew.below' HBF.out))
    (first
    | (go_at_call 83; refine (HLEN.out _ (bl_drew HB0.out)).mono ?_; rintro e wA ⟨rfl, rfl⟩)
    | (go_at_call 82; refine (HFIT.out _ (bl_drew HB0.out)).mono ?_; rintro e wF ⟨rfl, hBF⟩; have HBF := Lib.hid hBF; clear hBF))
  have HB1 := Lib.hid (bl_then (bl_drew HB0.out) HBF.out)
  have HV1 := Lib.hid (HVV.out.drew.below' HBF.out)
  have HBB1 := Lib.hid (HB.out.drew.below' HBF.out)
  clear k0 k1 k2 k3
  obtain ⟨k0, k1, k2⟩ := seen_view HV1.out
  go_wp2_with fail
  refine (HSZ.out _ HB1.out).mono ?_
  rintro e w2 ⟨rfl, hB2⟩
  have HB2 := Lib.hid (bl_then HB1.out hB2)
  have HV2 := Lib.hid (HV1.out.below' hB2)
  have HBB2 := Lib.hid (HBB1.out.below' hB2)
  clear hB2 k0 k1 k2
  go_wp2_with fail
  refine (HLV.out _ HB2.out).mono ?_
  rintro e w3 ⟨rfl, rfl⟩
  obtain ⟨k0, k1, k2⟩ := seen_view HV2.out
  go_wp2_with fail
  refine (HPL.out _ HB2.out).mono ?_
  rintro e w5 ⟨rfl, hB5⟩
  have HB5 := Lib.hid (bl_then HB2.out hB5)
  have HV5 := Lib.hid (HV2.out.below' hB5)
  have HBB5 := Lib.hid (HBB2.out.below' hB5)
  clear hB5 k0 k1 k2
  cases hpl : (denB xs ys off && decide (0 < cellsN xs ys off)) with
  | true =>
    simp only [Bool.and_eq_true, decide_eq_true_eq] at hpl
    obtain ⟨f, hf⟩ := Int.eq_ofNat_of_zero_le (show 0 ≤ off from (vrB_out (fits_vr HF.out)).2.2.2.1)
    have hlast := (fits_in HF.out (cellsN xs ys off - 1) (by omega)).2
    rw [den_pl (fits_vr HF.out) hpl.1 _ (by omega)] at hlast
    have hfl : f + cellsN xs ys off ≤ l.length := by omega
    have hgl := scat_den (fits_vr HF.out) hpl.1 l o f hf (cellsN xs ys off) (Nat.le_refl _) (by rw [HSO.out]; exact Nat.le_refl _) hfl
    obtain ⟨gU, cU, vU, MU, mgU, mcU, mcsU, WU, hbU, hU1, hU2, hU3, hU4⟩ := HU.out.below HB5.out
    obtain ⟨gT, cT, vT, MT, mgT, mcT, mcsT, WT, hbT, _⟩ := HV.out.below HB5.out
    have hCP := bcopy_calls U gU cU vU MU mgU mcU mcsU WU _ V gT cT vT MT mgT mcT mcsT WT o f 0 (cellsN xs ys off) w5.drew (hbU.below (bl_drew (Below.refl _ _))) (hbT.below (bl_drew (Below.refl _ _))) hfl (by rw [HSO.out]; omega) (by omega)
    rw [← hgl] at hCP
    have HCP := Lib.hid hCP
    have HAP := Lib.hid (show bl ≤ U ∧ bl ≤ gU ∧ bl ≤ MU ∧ bl ≤ mgU from ⟨hU1, hU2, hU3, hU4⟩)
    have HROW := Lib.hid hbU.row
    have HMG := Lib.hid hbU.mask.hg
    obtain ⟨k3, k0, k1, k2⟩ := held_g HBB5.out HV5.out
    rw [hf] at k2
    have HFO := Lib.hid hf
    clear hlast hfl hgl hbU hbT hU1 hU2 hU3 hU4 hCP hpl hf
    obtain ⟨L, hL⟩ : ∃ L, L = scatL xs ys off l o (cellsN xs ys off) := ⟨_, rfl⟩
    rw [← hL] at HCP
    have HLL := Lib.hid hL
    clear hL
    go_upto_region 6 with fail
    go_region_held3 (fun W => W.cell? ⟨w.heap.size, 0, none⟩ = some (.pointer (some ⟨U, 0, none⟩)) ∧ W.cell? ⟨w.heap.size + 1, 2, none⟩ = some (.int .i64 (f : Nat)))
      (first | exact ⟨k3, k2⟩ | exact HHE.out)
      (first
      | (go_at_call 83; refine (HLV.out _ (bl_drew HB5.out)).mono ?_; rintro e wA ⟨rfl, rfl⟩)
      | (go_at_call 87; refine HCP.out.mono ?_; rintro e wC ⟨rfl, hbC, hOC⟩; have HBC := Lib.hid hbC; have HOC := Lib.hid hOC; have hq : ∀ q t cs, Blk w5 q t cs → t ≠ 2 → t ≠ 151 → Blk wC q t cs := fun q t cs hb h1 h2 => hOC.blk hb.drew (Blk.ne_ hb HROW.out h1) (Blk.ne_ hb HMG.out h2); have HHE := Lib.hid (show wC.cell? ⟨w.heap.size, 0, none⟩ = some (.pointer (some ⟨U, 0, none⟩)) ∧ wC.cell? ⟨w.heap.size + 1, 2, none⟩ = some (.int .i64 (f : Nat)) from ⟨(hq _ _ _ HBB5.out (by decide) (by decide)).cell 0, ((hq _ _ _ HV5.out (by decide) (by decide)).cell 2).trans (by rw [HFO.out]; rfl)⟩); clear hbC hOC hq))
    go_wp2_with fail
    go_ret
    obtain ⟨vs', mcs', W', hB⟩ := HBC.out
    rw [HLL.out] at hB
    exact ⟨rfl, ⟨gU, cU, vs', MU, mgU, mcU, mcs', W', hB, HAP.out.1, HAP.out.2.1, HAP.out.2.2.1, HAP.out.2.2.2⟩, ((bl_drew HB5.out).mono hbl).trans (HOC.out.below (Nat.le_trans hbl (bl_drew HB5.out).size) HAP.out.2.1 HAP.out.2.2.2)⟩
  | false =>
    clear hpl
    go_wp2_with fail
    refine (HCL.out _ HB5.out).mono ?_
    rintro e w6 ⟨T, rfl, hT, hB6⟩
    obtain ⟨W7, hW7⟩ : ∃ W7, W7 = w6.alloc (.cells #[.pointer (some ⟨T, 0, none⟩)] 57) := ⟨_, rfl⟩
    obtain ⟨X, hX⟩ : ∃ X, X = w6.heap.size := ⟨_, rfl⟩
    have hb67 : Below w6.heap.size w6 W7 := by rw [hW7]; exact bl_alloc (Below.refl _ _) _
    have HB7 := Lib.hid (bl_then (bl_then HB5.out hB6) hb67)
    have HV7 := Lib.hid ((HV5.out.below' hB6).below' hb67)
    have HBB7 := Lib.hid ((HBB5.out.below' hB6).below' hb67)
    have HT7 := Lib.hid ((hT.wide HB5.out.size).below hb67)
    have HTB7 : Hid (Blk W7 X 57 #[.pointer (some ⟨T, 0, none⟩)]) := Lib.hid (by rw [hW7, hX]; exact Blk.new _ _ _)
    have HS7 : Hid (W7.heap.size = X + 1) := Lib.hid (by rw [hW7, hX]; simp)
    have HXW : Hid (w.heap.size + 1 < X) := Lib.hid (by have h1 := HV5.out.lt; have h2 := hB6.size; omega)
    have HU7 := Lib.hid (HU.out.below HB7.out)
    have hUR : BufR bl w.heap.size w U l := buf_toR HU.out (Nat.le_refl _)
    have hU7 : BufR bl w.heap.size W7 U l := hUR.low (fun b hb => HB7.out.block b hb)
    have hT7 : BufR w.heap.size W7.heap.size W7 T o := buf_toR HT7.out (Nat.le_refl _)
    have hR0 : ScR #[.slice A n ca, .slice B m cb, .int .i64 off] (scatL xs ys off l o) o w bl W7.heap.size T U X 0 W7 := ⟨hU7, hT7, HBB7.out, HTB7.out, HV7.out, HB7.out.mono hbl⟩
    have HEA := Lib.hid (each_calls xs ys off A B ca cb n m U l bl 94 #[.pointer (some ⟨X, 0, none⟩), .pointer (some ⟨w.heap.size, 0, none⟩)] W7 (HX.out.below HB7.out) (HY.out.below HB7.out) HNN.out HMM.out hl hl2 HU7.out HF.out (fun _ _ => rfl) (ScR #[.slice A n ca, .slice B m cb, .int .i64 off] (scatL xs ys off l o) o w bl W7.heap.size T U X) (scR_low _ _ o w bl _ T U X hbl (by have := HS7.out; have := HXW.out; omega) (by have := HS7.out; omega)) hR0
      (fun k W hk hsz hr => by
        have hin := fits_in HF.out k hk
        obtain ⟨p, hp⟩ := Int.eq_ofNat_of_zero_le hin.1
        have hset := scatL_succ xs ys off l o k
        rw [hp, Int.toNat_natCast] at hset
        have hs7 := HS7.out
        have hxw := HXW.out
        have h := scat1_calls T U X w.heap.size (scatL xs ys off l o k) o k p W hr.t hr.b hr.tb hr.bb (by rw [← HSO.out]; exact hk) (by rw [scatL_length]; omega) (Nat.le_trans hbl (by omega)) (by omega)
        rw [← hset] at h
        rw [hp]
        refine h.mono ?_
        rintro e W' ⟨rfl, h1, h2, h3⟩
        exact ⟨rfl, ⟨h1, bufR_hi hr.t (Nat.le_refl _) h2, h2.blk hr.bb (Nat.le_refl _), h2.blk hr.tb (by omega), h2.blk hr.vb (by omega), hr.below.trans h3⟩, h2.up (by omega)⟩))
    have HW7 := Lib.hid hW7
    have HX7 := Lib.hid hX
    clear hT hB6 hb67 hW7 hX hUR hU7 hT7 hR0
    go_upto_region 9 with fail
    rw [← HW7.out, ← HX7.out]
    obtain ⟨k3, k0, k1, k2⟩ := held_g HBB7.out HV7.out
    go_wp2_with fail
    refine HEA.out.mono ?_
    rintro e w8 ⟨rfl, hRE, hSE⟩
    have HRE := Lib.hid hRE
    clear hRE hSE k0 k1 k2 k3
    go_wp2_with fail
    go_ret
    exact ⟨rfl, HRE.out.b.buf, HRE.out.below⟩
end Go.Proofs.Ythjkeefdeeljoaa.Shp
/- move.Fill. -/
namespace Go.Proofs.Ythjkeefdeeljoaa.Shp
open Go.RowKit Go.Shelf Go.Proofs.Ythjkeefdeeljoaa.Num Go.Proofs.Ythjkeefdeeljoaa.Cl
set_option linter.unusedVariables false
set_option linter.unusedSimpArgs false

set_option maxHeartbeats 1000000 in
theorem fil1_calls {bl hi : Nat} (U H1 H2 : Nat) (l : List Cell) (x : Cell) (k p : Nat) (W : World) (hU : BufR bl hi W U l) (h1 : Blk W H1 57 #[.pointer (some ⟨U, 0, none⟩)]) (h2 : Blk W H2 78 #[.int .i64 x.1, .bool x.2]) (hp : p < l.length) (hlo : bl ≤ W.heap.size) :
    Calls Try.prog 95 #[.int .i64 (k : Nat), .int .i64 (p : Nat), .pointer (some ⟨H1, 0, none⟩), .pointer (some ⟨H2, 0, none⟩)] W fun e W' => e = .returned (.tuple #[]) ∧ BufR bl hi W' U (l.set p (normC x)) ∧ Hi hi W W' ∧ Below bl W W' := by
  have c0 : W.cell? ⟨H1, 0, none⟩ = some (.pointer (some ⟨U, 0, none⟩)) := h1.cell 0
  have c1 : W.cell? ⟨H2, 0, none⟩ = some (.int .i64 x.1) := h2.cell 0
  have c2 : W.cell? ⟨H2, 1, none⟩ = some (.bool x.2) := h2.cell 1
  have HP := Lib.hid (bufR_put hU hlo p hp x)
  clear hU h1 h2
  go_enter Try.func95, Try.ntmps95
  go_wp2_with fail
  refine HP.out.mono ?_
  rintro e w2 ⟨rfl, hU2, hHi, hB2, hK2⟩
  have HU2 := Lib.hid hU2
  have HHI := Lib.hid hHi
  have HB3 := Lib.hid hB2
  clear hU2 hHi hB2 hK2
  go_wp2_with fail
  go_end0
  exact ⟨rfl, HU2.out, HHI.out, HB3.out⟩
/-- Between two rounds of a filling. -/
structure FiR (F : Nat → List Cell) (w : World) (bl hi U : Nat) (x : Cell) (k : Nat) (W : World) : Prop where
  b : BufR bl hi W U (F k)
  bb : Blk W w.heap.size 57 #[.pointer (some ⟨U, 0, none⟩)]
  cb : Blk W (w.heap.size + 2) 78 #[.int .i64 x.1, .bool x.2]
  below : Below bl w W
  high : Hi hi w W
theorem fiR_low (F : Nat → List Cell) (w : World) (bl hi base U : Nat) (x : Cell) (h0 : bl ≤ w.heap.size) (h2 : hi ≤ w.heap.size) (h1 : w.heap.size + 2 < base) : LowOnly base (FiR F w bl hi U x) := fun k W W' h hos htp hout hsz hlow =>
  ⟨h.b.low (fun b hb => hlow b (by omega)), (hlow _ (by omega)).trans h.bb, (hlow _ h1).trans h.cb, ⟨hos.trans h.below.os, htp.trans h.below.tape, hout.trans h.below.output, Nat.le_trans h.below.size hsz, fun b hb => (hlow b (by omega)).trans (h.below.block b hb)⟩, ⟨hos.trans h.below.os, htp.trans h.below.tape, hout.trans h.below.output, Nat.le_trans h.below.size hsz, fun b h1 hb => (hlow b (by omega)).trans (h.high.high b h1 hb)⟩⟩
set_option maxHeartbeats 1000000 in
theorem fill_no (xs ys : List Int) (off : Int) (A B : Option Addr) (ca cb n m : Nat) (U : Nat) (l : List Cell) (bl : Nat) (x : Cell) (w : World) (hx : ReadsI w .i64 A xs) (hy : ReadsI w .i64 B ys) (hn : xs.length = n) (hm : ys.length = m) (hl : n ≤ 1000000) (hl2 : m ≤ 1000000) (hU : Buf bl w U l)
    (hf : fitsB xs ys off l.length = false) :
    Calls Try.prog 48 #[.pointer (some ⟨U, 0, none⟩), .agg #[.slice A n ca, .slice B m cb, .int .i64 off], .agg #[.int .i64 x.1, .bool x.2]] w fun e w' => e = .returned (.int .i64 2) ∧ Below w.heap.size w w' := by
  obtain ⟨W0, hW0⟩ : ∃ W0, W0 = ((w.alloc (.cells #[.pointer (some ⟨U, 0, none⟩)] 57)).alloc (.cells #[.slice A n ca, .slice B m cb, .int .i64 off] 34)).alloc (.cells #[.int .i64 x.1, .bool x.2] 78) := ⟨_, rfl⟩
  have hb0 : Below w.heap.size w W0 := by rw [hW0]; exact bl_alloc (bl_alloc (bl_alloc (Below.refl _ _) _) _) _
  have hb : Blk W0 w.heap.size 57 #[.pointer (some ⟨U, 0, none⟩)] := by rw [hW0]; exact ((Blk.new _ _ _).alloc _).alloc _
  have hv : Blk W0 (w.heap.size + 1) 34 #[.slice A n ca, .slice B m cb, .int .i64 off] := by rw [hW0]; exact (Blk.new' (by simp) _ _).alloc _
  have HE := Lib.hid (fun lb => each_no xs ys off A B ca cb n m U l bl (.func (.func 95) #[] lb) rfl W0 (hx.below hb0) (hy.below hb0) hn hm hl hl2 (hU.below hb0) hf 95 lb rfl)
  have HB0 := Lib.hid hb0
  have HW0 := Lib.hid hW0
  obtain ⟨k3, k0, k1, k2⟩ := held_g hb hv
  rw [hW0] at k0 k1 k2 k3
  clear hx hy hb0 hb hv hW0 hf hn hm hU
  go_enter Try.func48, Try.ntmps48
  go_wp2_with fail
  rw [← HW0.out]
  refine (HE.out _).mono ?_
  rintro e w2 ⟨rfl, hB2⟩
  have HB2 := Lib.hid (bl_then HB0.out hB2)
  clear hB2 k0 k1 k2 k3
  go_wp2_with fail
  go_ret
  exact ⟨rfl, HB2.out⟩
set_option maxRecDepth 100000 in
set_option maxHeartbeats 1000000 in
theorem fill_yes (xs ys : List Int) (off : Int) (A B : Option Addr) (ca cb n m : Nat) (U : Nat) (l : List Cell) (bl : Nat) (x : Cell) (w : World) (hx : ReadsI w .i64 A xs) (hy : ReadsI w .i64 B ys) (hn : xs.length = n) (hm : ys.length = m) (hl : n ≤ 1000000) (hl2 : m ≤ 1000000) (hi : Nat) (hU : BufR bl hi w U l) (hbl : bl ≤ w.heap.size) (hhi : hi ≤ w.heap.size)
    (hf : fitsB xs ys off l.length = true) :
    Calls Try.prog 48 #[.pointer (some ⟨U, 0, none⟩), .agg #[.slice A n ca, .slice B m cb, .int .i64 off], .agg #[.int .i64 x.1, .bool x.2]] w fun e w' => e = .returned (.int .i64 0) ∧ BufR bl hi w' U (scatL xs ys off l (List.replicate (cellsN xs ys off) (normC x)) (cellsN xs ys off)) ∧ Below bl w w' ∧ Hi hi w w' := by
  obtain ⟨W0, hW0⟩ : ∃ W0, W0 = ((w.alloc (.cells #[.pointer (some ⟨U, 0, none⟩)] 57)).alloc (.cells #[.slice A n ca, .slice B m cb, .int .i64 off] 34)).alloc (.cells #[.int .i64 x.1, .bool x.2] 78) := ⟨_, rfl⟩
  have hb0 : Below w.heap.size w W0 := by rw [hW0]; exact bl_alloc (bl_alloc (bl_alloc (Below.refl _ _) _) _) _
  have hb : Blk W0 w.heap.size 57 #[.pointer (some ⟨U, 0, none⟩)] := by rw [hW0]; exact ((Blk.new _ _ _).alloc _).alloc _
  have hv : Blk W0 (w.heap.size + 1) 34 #[.slice A n ca, .slice B m cb, .int .i64 off] := by rw [hW0]; exact (Blk.new' (by simp) _ _).alloc _
  have hc : Blk W0 (w.heap.size + 2) 78 #[.int .i64 x.1, .bool x.2] := by rw [hW0]; exact Blk.new' (by simp) _ _
  have hsW : W0.heap.size = w.heap.size + 3 := by rw [hW0]; simp
  have hUR : BufR bl hi W0 U l := hU.low (fun b hb => hb0.block b (by omega))
  have hR0 : FiR (scatL xs ys off l (List.replicate (cellsN xs ys off) (normC x))) w bl hi U x 0 W0 := ⟨hUR, hb, hc, hb0.mono hbl, Hi.of_below hb0⟩
  have HEA := Lib.hid (each_calls xs ys off A B ca cb n m U l bl 95 #[.pointer (some ⟨w.heap.size, 0, none⟩), .pointer (some ⟨w.heap.size + 2, 0, none⟩)] W0 (hx.below hb0) (hy.below hb0) hn hm hl hl2 hUR.buf hf (fun _ _ => rfl) (FiR (scatL xs ys off l (List.replicate (cellsN xs ys off) (normC x))) w bl hi U x) (fiR_low _ w bl hi _ U x hbl hhi (by omega)) hR0
      (fun k W hk hsz hr => by
        have hin := fits_in hf k hk
        obtain ⟨p, hp⟩ := Int.eq_ofNat_of_zero_le hin.1
        have hset := scatL_succ xs ys off l (List.replicate (cellsN xs ys off) (normC x)) k
        rw [hp, Int.toNat_natCast, nth_replicate _ _ _ hk] at hset
        have h := fil1_calls U w.heap.size (w.heap.size + 2) (scatL xs ys off l (List.replicate (cellsN xs ys off) (normC x)) k) x k p W hr.b hr.bb hr.cb (by rw [scatL_length]; omega) (Nat.le_trans hbl (by omega))
        rw [← hset] at h
        rw [hp]
        refine h.mono ?_
        rintro e W' ⟨rfl, h1, h2, h3⟩
        exact ⟨rfl, ⟨h1, h2.blk hr.bb hhi, h2.blk hr.cb (by omega), hr.below.trans h3, hr.high.trans h2⟩, h2.up (by omega)⟩))
  have HW0 := Lib.hid hW0
  obtain ⟨k3, k0, k1, k2⟩ := held_g hb hv
  rw [hW0] at k0 k1 k2 k3
  clear hx hy hb0 hb hv hW0 hf hn hm hU hc hsW hUR hR0
  go_enter Try.func48, Try.ntmps48
  go_wp2_with fail
  rw [← HW0.out]
  refine HEA.out.mono ?_
  rintro e w2 ⟨rfl, hRE, hSE⟩
  have HRE := Lib.hid hRE
  clear hRE hSE k0 k1 k2 k3
  go_wp2_with fail
  go_ret
  exact ⟨rfl, HRE.out.b, HRE.out.below, HRE.out.high⟩
end Go.Proofs.Ythjkeefdeeljoaa.Shp
