/- view.Slice, step by step. -/
import Derived.Test.YthjkeefdeeljoaaPk8
namespace Go.Proofs.Ythjkeefdeeljoaa.Shp
open Go.RowKit
set_option linter.unusedVariables false
set_option linter.unusedSimpArgs false

set_option maxHeartbeats 1000000 in
theorem shas_calls {n ca m cb i bA oA : Nat} {B : Option Addr} {off x : Int} {T T' : TypeId} (H H2 : Nat) (k : Int) (W : World) (hb : Blk W H T #[.slice (some ⟨bA, oA, none⟩) n ca, .slice B m cb, .int .i64 off]) (hi : Blk W H2 T' #[.int .i64 (i : Nat)]) (cA : W.cell? ⟨bA, oA + i, none⟩ = some (.int .i64 x)) (hin : i < n) (h0 : 0 ≤ k) (h1 : k < x) :
    Calls Try.prog 77 #[.int .i64 k, .pointer (some ⟨H, 0, none⟩), .pointer (some ⟨H2, 0, none⟩)] W fun e W' => e = .returned (.bool true) ∧ W' = W := by
  have c0 : W.cell? ⟨H, 0, none⟩ = some (.slice (some ⟨bA, oA, none⟩) n ca) := hb.cell 0
  have c1 : W.cell? ⟨H2, 0, none⟩ = some (.int .i64 (i : Nat)) := hi.cell 0
  have hi1 : (i : Int) < (n : Int) := by omega
  clear hb hi
  go_enter Try.func77, Try.ntmps77
  go_wp2_with fail
  go_ret
  first | exact ⟨rfl, rfl⟩ | trivial
theorem within1_calls (y : Int) (H : Nat) (W : World) (hb : Blk W H 3 #[.int .i64 y]) (hy : nearB [y] = true) :
    Calls Try.prog 63 #[.slice (some ⟨H, 0, none⟩) 1 1] W fun e W' => e = .returned (.bool true) ∧ W' = W := by
  refine (within_calls [y] (some ⟨H, 0, none⟩) 1 W (fun i hi => ⟨H, 0, rfl, ?_⟩) (by simp)).mono ?_
  · have : i = 0 := by simpa using hi
    subst this
    exact hb.cell 0
  · rintro e W' ⟨rfl, rfl⟩
    exact ⟨by rw [hy], rfl⟩
set_option maxRecDepth 100000 in
set_option maxHeartbeats 4000000 in
theorem slice_calls (xs ys : List Int) (off : Int) (A B : Option Addr) (ca cb n m i k q : Nat) (w : World) (hx : ReadsI w .i64 A xs) (hy : ReadsI w .i64 B ys) (hn : xs.length = n) (hm : ys.length = m) (hl : n ≤ 100000) (hl2 : m ≤ 100000) (hv : vrB xs ys off = true) (hin : i < n) (hq : 1 ≤ q) (hk : (k : Int) + q ≤ nth xs i) (o2 : Int) (ho : IntKind.i64.wrap (off + (k : Int) * nth ys i) = o2) :
    Calls Try.prog 32 #[.agg #[.slice A n ca, .slice B m cb, .int .i64 off], .int .i64 (i : Nat), .int .i64 (k : Nat), .int .i64 (q : Nat), .int .i64 1] w (ChgPost (xs.set i (q : Int)) (ys.set i (nth ys i)) o2 n m w) := by
  obtain ⟨W0, hW0⟩ : ∃ W0, W0 = ((w.alloc (.cells #[.slice A n ca, .slice B m cb, .int .i64 off] 34)).alloc (.cells #[.int .i64 (i : Nat)] 3)).alloc (.cells #[.slice none 0 0, .slice none 0 0, .int .i64 0] 34) := ⟨_, rfl⟩
  have hb0 : Below w.heap.size w W0 := by rw [hW0]; exact bl_alloc (bl_alloc (bl_alloc (Below.refl _ _) _) _) _
  have hbox : Blk W0 w.heap.size 34 #[.slice A n ca, .slice B m cb, .int .i64 off] := by rw [hW0]; exact ((Blk.new _ _ _).alloc _).alloc _
  have hbi : Blk W0 (w.heap.size + 1) 3 #[.int .i64 (i : Nat)] := by rw [hW0]; exact (Blk.new' (by simp) _ _).alloc _
  have HBI := Lib.hid hbi
  have hres : Blk W0 (w.heap.size + 1 + 1) 34 #[.slice none 0 0, .slice none 0 0, .int .i64 0] := by rw [hW0]; exact Blk.new' (by simp) _ _
  have hs0 : W0.heap.size = w.heap.size + 3 := by rw [hW0]; simp
  have HH := Lib.hid (vhas_calls xs ys off A B ca cb n m (i : Nat) W0 (hx.below hb0) (hy.below hb0) hn hm (by omega) (by omega) true (by rw [hv]; simp; omega))
  have HB0 := Lib.hid hb0
  have HBOX := Lib.hid hbox
  have HRES := Lib.hid hres
  have HS0 := Lib.hid hs0
  have HN := Lib.hid hn
  have HM := Lib.hid hm
  have HX := Lib.hid hx
  have HY := Lib.hid hy
  have HV := Lib.hid hv
  have HO := Lib.hid ho
  have HW0 := Lib.hid hW0
  clear hb0 hbox hbi hres hs0 hx hy hn hm hW0 hv ho
  go_enter Try.func32, Try.ntmps32
  go_wp2_with fail
  rw [← HW0.out]
  refine HH.out.mono ?_
  rintro e w1 ⟨rfl, hBel⟩
  have HB1 := Lib.hid hBel
  have HBX1 := Lib.hid (HBOX.out.below' hBel)
  have HBI1 := Lib.hid (HBI.out.below' hBel)
  clear hBel HH HW0
  obtain ⟨v1, v2, v3, v4, v5⟩ := vrB_out HV.out
  have him : i < m := by have h1 := HN.out; have h2 := HM.out; omega
  have hxi : 0 ≤ nth xs i ∧ nth xs i ≤ 1048576 := by
    have h1 := v1
    unfold sizeOk at h1
    simp only [Bool.and_eq_true] at h1
    have hi' : i < xs.length := by have := HN.out; omega
    exact (rightB_mem h1.1).2 _ (by rw [nth_eq _ _ hi']; exact List.getElem_mem _)
  have hyi : -1048576 ≤ nth ys i ∧ nth ys i ≤ 1048576 := by
    have hi' : i < ys.length := by have := HM.out; omega
    exact near_mem v3 _ (by rw [nth_eq _ _ hi']; exact List.getElem_mem _)
  have hBw1 : Below w.heap.size w w1 := bl_then HB0.out HB1.out
  have HBW1 := Lib.hid hBw1
  have HRS1 := Lib.hid (HRES.out.below' HB1.out)
  have HCH := Lib.hid (fun W' (h : Below w.heap.size w W') D Di Dn Ds D4 T h1 h2 h3 h4 h5 => toby_change xs ys off A B ca cb n m i W' (HX.out.below h) (HY.out.below h) HN.out HM.out hl hl2 D Di Dn Ds D4 T (q : Int) (nth ys i) ((k : Int) * nth ys i) o2 hin him h1 h2 h3 h4 h5 HO.out)
  obtain ⟨bA, oA, eA, cA⟩ := HX.out i (by have := HN.out; omega)
  obtain ⟨bB, oB, eB, cB⟩ := HY.out i (by have := HM.out; omega)
  have HCA := Lib.hid cA
  have HCB := Lib.hid cB
  obtain ⟨f0, f1, f2, f3, f4, f5⟩ := heldD hBw1 HBX1.out HBI1.out cA cB
  subst eA
  subst eB
  obtain ⟨p, hp⟩ : ∃ p, (k : Int) * nth ys i = p := ⟨_, rfl⟩
  have hpb := mul_bd (a := (k : Int)) (y := nth ys i) (by omega) (by omega) hyi.1 hyi.2
  rw [hp] at HCH hpb
  have hwp : IntKind.i64.wrap p = p := by rw [IntKind.wrap_i64]; omega
  clear HO hpb
  generalize nth xs i = x at *
  generalize hyy : nth ys i = y at *
  have hi1 : (i : Int) < (n : Int) := by omega
  have hi2 : (i : Int) < (m : Int) := by omega
  have hq1 : ¬ ((q : Int) < 0) := by omega
  have hq2 : ¬ (1048576 < (q : Int)) := by omega
  have hq3 : ¬ ((q : Int) = 0) := by omega
  have hwy : IntKind.i64.wrap y = y := by rw [IntKind.wrap_i64]; omega
  have hw1 : IntKind.i64.wrap ((q : Int) - 1) = (q : Int) - 1 := by rw [IntKind.wrap_i64]; omega
  have hw2 : IntKind.i64.wrap ((k : Int) + ((q : Int) - 1)) = (k : Int) + ((q : Int) - 1) := by rw [IntKind.wrap_i64]; omega
  have HNB : Hid (nearB [y] = true) := Lib.hid (by unfold nearB farB; simp; omega)
  clear cA cB hBw1 v1 v2 v3 v4 v5 hxi hyy
  go_wp2_with fail
  refine (within1_calls 1 _ _ (Blk.new _ _ _) (by decide)).mono ?_
  rintro e w2 ⟨rfl, hw2⟩
  have hB2 : Below w1.heap.size w1 w2 := by rw [hw2]; exact bl_alloc (Below.refl _ _) _
  have HW2 := Lib.hid (bl_then HBW1.out hB2)
  have HX2 := Lib.hid (HBX1.out.below' hB2)
  have HI2 := Lib.hid (HBI1.out.below' hB2)
  have HR2 := Lib.hid (HRS1.out.below' hB2)
  clear hw2 hB2 f0 f1 f2 f3 f4 f5
  obtain ⟨f0, f1, f2, f3, f4, f5⟩ := heldD HW2.out HX2.out HI2.out HCA.out HCB.out
  go_wp2_with fail
  refine (within1_calls y _ _ (Blk.new _ _ _) HNB.out).mono ?_
  rintro e w3 ⟨rfl, hw3⟩
  have hB3 : Below w2.heap.size w2 w3 := by rw [hw3]; exact bl_alloc (Below.refl _ _) _
  have HW3 := Lib.hid (bl_then HW2.out hB3)
  have HX3 := Lib.hid (HX2.out.below' hB3)
  have HI3 := Lib.hid (HI2.out.below' hB3)
  have HR3 := Lib.hid (HR2.out.below' hB3)
  clear hw3 hB3 f0 f1 f2 f3 f4 f5
  obtain ⟨f0, f1, f2, f3, f4, f5⟩ := heldD HW3.out HX3.out HI3.out HCA.out HCB.out
  go_wp2_with fail
  refine (shas_calls _ _ (k : Int) _ HX3.out HI3.out f4 hin (by omega) (by omega)).mono ?_
  rintro e w4 ⟨rfl, rfl⟩
  go_wp2_with fail
  refine (shas_calls _ _ _ _ HX3.out HI3.out f4 hin (by omega) (by omega)).mono ?_
  rintro e w4 ⟨rfl, rfl⟩
  have hne1 : w.heap.size ≠ w.heap.size + 1 + 1 := by omega
  have hne2 : w.heap.size + 1 ≠ w.heap.size + 1 + 1 := by omega
  go_wp2_with fail
  go_region_held3 (fun W => W.cell? ⟨w.heap.size, 0, none⟩ = some (.slice (some ⟨bA, oA, none⟩) n ca) ∧ W.cell? ⟨w.heap.size, 1, none⟩ = some (.slice (some ⟨bB, oB, none⟩) m cb) ∧ W.cell? ⟨w.heap.size, 2, none⟩ = some (.int .i64 off) ∧ W.cell? ⟨w.heap.size + 1, 0, none⟩ = some (.int .i64 (i : Nat)) ∧ W.cell? ⟨bA, oA + i, none⟩ = some (.int .i64 x) ∧ W.cell? ⟨bB, oB + i, none⟩ = some (.int .i64 y))
    (first | exact ⟨f0, f1, f2, f3, f4, f5⟩ | exact heldD (bl_then (bl_drew HW3.out) HT.out) (HX3.out.drew.below' HT.out) (HI3.out.drew.below' HT.out) HCA.out HCB.out | exact heldD (bl_then (bl_then (bl_drew HW3.out) HT.out) HBY.out) ((HX3.out.drew.below' HT.out).below' HBY.out) ((HI3.out.drew.below' HT.out).below' HBY.out) HCA.out HCB.out | exact heldD (bl_alloc (bl_then (bl_then (bl_drew HW3.out) HT.out) HBY.out) _) (((HX3.out.drew.below' HT.out).below' HBY.out).alloc _) (((HI3.out.drew.below' HT.out).below' HBY.out).alloc _) HCA.out HCB.out | exact HHF.out | exact HHG.out)
    (first
    | (go_at_call 70; refine (to_calls _ _ _ _).mono ?_; rintro e wT ⟨Di, Dn, Ds, rfl, hDi, hDn, hDs, hT⟩; have HDI := Lib.hid hDi; have HDN := Lib.hid hDn; have HDS := Lib.hid hDs; have HT := Lib.hid hT; clear hDi hDn hDs hT)
    | (go_at_call 71; refine (by_calls _ _).mono ?_; rintro e wB ⟨D4, rfl, hD4, hBY⟩; have HD4 := Lib.hid hD4; have HBY := Lib.hid hBY; clear hD4 hBY)
    | (go_at_call 69; refine (HCH.out _ (bl_alloc (bl_then (bl_then (bl_drew HW3.out) HT.out) HBY.out) _) _ Di Dn Ds D4 _ ((HDI.out.below' HBY.out).alloc _) ((HDN.out.below' HBY.out).alloc _) ((HDS.out.below' HBY.out).alloc _) (HD4.out.alloc _) (Blk.new _ _ _)).mono ?_; rintro e wC ⟨P, n1, c1, Q, m1, d1, o1, b, rfl, HPQ, HCC⟩; have hbc := bl_then (bl_alloc (bl_then (bl_then (bl_drew HW3.out) HT.out) HBY.out) (.cells #[.func (.func 112) #[] #[.pointer (some ⟨Dn, 0, none⟩), .pointer (some ⟨Ds, 0, none⟩), .pointer (some ⟨Di, 0, none⟩)], .func (.func 113) #[] #[.pointer (some ⟨D4, 0, none⟩)]] _)) HCC.out; have hbb := (((HX3.out.drew.below' HT.out).below' HBY.out).alloc (.cells #[.func (.func 112) #[] #[.pointer (some ⟨Dn, 0, none⟩), .pointer (some ⟨Ds, 0, none⟩), .pointer (some ⟨Di, 0, none⟩)], .func (.func 113) #[] #[.pointer (some ⟨D4, 0, none⟩)]] _)).below' HCC.out; have hbi := (((HI3.out.drew.below' HT.out).below' HBY.out).alloc (.cells #[.func (.func 112) #[] #[.pointer (some ⟨Dn, 0, none⟩), .pointer (some ⟨Ds, 0, none⟩), .pointer (some ⟨Di, 0, none⟩)], .func (.func 113) #[] #[.pointer (some ⟨D4, 0, none⟩)]] _)).below' HCC.out; have HRC := Lib.hid ((((HR3.out.drew.below' HT.out).below' HBY.out).alloc (.cells #[.func (.func 112) #[] #[.pointer (some ⟨Dn, 0, none⟩), .pointer (some ⟨Ds, 0, none⟩), .pointer (some ⟨Di, 0, none⟩)], .func (.func 113) #[] #[.pointer (some ⟨D4, 0, none⟩)]] _)).below' HCC.out); have HHF := Lib.hid (heldD hbc hbb hbi HCA.out HCB.out); have hbd := bl_set (p := ⟨w.heap.size + 1 + 1, 2, none⟩) (bl_set (p := ⟨w.heap.size + 1 + 1, 1, none⟩) (bl_set (p := ⟨w.heap.size + 1 + 1, 0, none⟩) hbc (by show w.heap.size ≤ w.heap.size + 1 + 1; omega) (.slice P n1 c1)) (by show w.heap.size ≤ w.heap.size + 1 + 1; omega) (.slice Q m1 d1)) (by show w.heap.size ≤ w.heap.size + 1 + 1; omega) (.int .i64 o1); have HHG := Lib.hid (heldD hbd (((hbb.far (p := ⟨w.heap.size + 1 + 1, 0, none⟩) hne1 (.slice P n1 c1)).far (p := ⟨w.heap.size + 1 + 1, 1, none⟩) hne1 (.slice Q m1 d1)).far (p := ⟨w.heap.size + 1 + 1, 2, none⟩) hne1 (.int .i64 o1)) (((hbi.far (p := ⟨w.heap.size + 1 + 1, 0, none⟩) hne2 (.slice P n1 c1)).far (p := ⟨w.heap.size + 1 + 1, 1, none⟩) hne2 (.slice Q m1 d1)).far (p := ⟨w.heap.size + 1 + 1, 2, none⟩) hne2 (.int .i64 o1)) HCA.out HCB.out); have HBD := Lib.hid hbd; clear hbc hbb hbi hbd; obtain ⟨k0, k1, k2, k0f, k1f, k2f⟩ := held_view HRC.out))
  all_goals
    have hsz : w.heap.size + 3 ≤ (wB.alloc (.cells #[.func (.func 112) #[] #[.pointer (some ⟨Dn, 0, none⟩), .pointer (some ⟨Ds, 0, none⟩), .pointer (some ⟨Di, 0, none⟩)], .func (.func 113) #[] #[.pointer (some ⟨D4, 0, none⟩)]] 98)).heap.size := by
      have e1 := HR3.out.drew.lt
      have e2 := HT.out.size
      have e4 := HBY.out.size
      simp
      omega
    have HFIN := Lib.hid (chg_out (x := o1) (k := b) HPQ.out HRC.out (fun b' h => by omega) (.slice P n1 c1) (.slice Q m1 d1) (.int .i64 o1))
    have HSZ := Lib.hid (Nat.le_trans (Nat.le_add_right _ 3) hsz)
    clear HPQ hsz
    go_wp2_with fail
    exact bodyPost_ret (v := .tuple #[.agg #[.slice P n1 c1, .slice Q m1 d1, .int .i64 o1], .bool b]) (by simp [results, Try.results32, go_sem, k0, k1, k2]) rfl ⟨P, n1, c1, Q, m1, d1, o1, b, rfl, Lib.hid ⟨HFIN.out.1, HFIN.out.2.1, HFIN.out.2.2.1 w.heap.size HSZ.out, HFIN.out.2.2.2 w.heap.size HSZ.out⟩, HBD⟩
end Go.Proofs.Ythjkeefdeeljoaa.Shp
