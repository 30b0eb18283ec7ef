/- Contracts and lemmas that the row of this claim stands on: Drop, Refuse, Window. -/
import Derived.Test.YthjkeefdeeljoaaFlip2
/- view.Drop. -/
namespace Go.Proofs.Ythjkeefdeeljoaa.Shp
open Go.RowKit
set_option linter.unusedVariables false
set_option linter.unusedSimpArgs false

theorem heldD {w W : World} {H H2 bA oA bB oB i n ca m cb : Nat} {T T' : TypeId} {off x y : Int} {A B : Option Addr} (hB : Below w.heap.size w W) (hb : Blk W H T #[.slice A n ca, .slice B m cb, .int .i64 off]) (hi : Blk W H2 T' #[.int .i64 (i : Nat)]) (cA : w.cell? ⟨bA, oA + i, none⟩ = some (.int .i64 x)) (cB : w.cell? ⟨bB, oB + i, none⟩ = some (.int .i64 y)) :
    W.cell? ⟨H, 0, none⟩ = some (.slice A n ca) ∧ W.cell? ⟨H, 1, none⟩ = some (.slice B m cb) ∧ W.cell? ⟨H, 2, none⟩ = some (.int .i64 off) ∧ W.cell? ⟨H2, 0, none⟩ = some (.int .i64 (i : Nat)) ∧ W.cell? ⟨bA, oA + i, none⟩ = some (.int .i64 x) ∧ W.cell? ⟨bB, oB + i, none⟩ = some (.int .i64 y) :=
  ⟨hb.cell 0, hb.cell 1, hb.cell 2, hi.cell 0, (hB.cell (World.block_lt_of_cell? w _ cA)).trans cA, (hB.cell (World.block_lt_of_cell? w _ cB)).trans cB⟩
set_option maxRecDepth 100000 in
set_option maxHeartbeats 4000000 in
theorem drop_calls (xs ys : List Int) (off : Int) (A B : Option Addr) (ca cb n m i k : Nat) (w : World) (hx : ReadsI w .i64 A xs) (hy : ReadsI w .i64 B ys) (hn : xs.length = n) (hm : ys.length = m) (hl : n ≤ 100000) (hl2 : m ≤ 100000) (hv : vrB xs ys off = true) (hin : i < n) (hk : (k : Int) < nth xs i) (o2 : Int) (ho : IntKind.i64.wrap (off + (k : Int) * nth ys i) = o2) :
    Calls Try.prog 31 #[.agg #[.slice A n ca, .slice B m cb, .int .i64 off], .int .i64 (i : Nat), .int .i64 (k : Nat)] w (ChgPost (xs.take i ++ xs.drop (i + 1)) (ys.take i ++ ys.drop (i + 1)) o2 (n - 1) (m - 1) w) := by
  obtain ⟨W0, hW0⟩ : ∃ W0, W0 = ((w.alloc (.cells #[.slice A n ca, .slice B m cb, .int .i64 off] 34)).alloc (.cells #[.int .i64 (i : Nat)] 3)).alloc (.cells #[.slice none 0 0, .slice none 0 0, .int .i64 0] 34) := ⟨_, rfl⟩
  have hb0 : Below w.heap.size w W0 := by rw [hW0]; exact bl_alloc (bl_alloc (bl_alloc (Below.refl _ _) _) _) _
  have hbox : Blk W0 w.heap.size 34 #[.slice A n ca, .slice B m cb, .int .i64 off] := by rw [hW0]; exact ((Blk.new _ _ _).alloc _).alloc _
  have hbi : Blk W0 (w.heap.size + 1) 3 #[.int .i64 (i : Nat)] := by rw [hW0]; exact (Blk.new' (by simp) _ _).alloc _
  have HBI := Lib.hid hbi
  have hres : Blk W0 (w.heap.size + 1 + 1) 34 #[.slice none 0 0, .slice none 0 0, .int .i64 0] := by rw [hW0]; exact Blk.new' (by simp) _ _
  have hs0 : W0.heap.size = w.heap.size + 3 := by rw [hW0]; simp
  have HH := Lib.hid (vhas_calls xs ys off A B ca cb n m (i : Nat) W0 (hx.below hb0) (hy.below hb0) hn hm (by omega) (by omega) true (by rw [hv]; simp; omega))
  have HB0 := Lib.hid hb0
  have HBOX := Lib.hid hbox
  have HRES := Lib.hid hres
  have HS0 := Lib.hid hs0
  have HN := Lib.hid hn
  have HM := Lib.hid hm
  have HX := Lib.hid hx
  have HY := Lib.hid hy
  have HV := Lib.hid hv
  have HO := Lib.hid ho
  have HW0 := Lib.hid hW0
  clear hb0 hbox hbi hres hs0 hx hy hn hm hW0 hv ho
  go_enter Try.func31, Try.ntmps31
  go_wp2_with fail
  rw [← HW0.out]
  refine HH.out.mono ?_
  rintro e w1 ⟨rfl, hBel⟩
  have HB1 := Lib.hid hBel
  have HBX1 := Lib.hid (HBOX.out.below' hBel)
  have HBI1 := Lib.hid (HBI.out.below' hBel)
  clear hBel HH HW0
  obtain ⟨v1, v2, v3, v4, v5⟩ := vrB_out HV.out
  have him : i < m := by have h1 := HN.out; have h2 := HM.out; omega
  have hxi : 0 ≤ nth xs i ∧ nth xs i ≤ 1048576 := by
    have h1 := v1
    unfold sizeOk at h1
    simp only [Bool.and_eq_true] at h1
    have hi' : i < xs.length := by have := HN.out; omega
    exact (rightB_mem h1.1).2 _ (by rw [nth_eq _ _ hi']; exact List.getElem_mem _)
  have hyi : -1048576 ≤ nth ys i ∧ nth ys i ≤ 1048576 := by
    have hi' : i < ys.length := by have := HM.out; omega
    exact near_mem v3 _ (by rw [nth_eq _ _ hi']; exact List.getElem_mem _)
  have hBw1 : Below w.heap.size w w1 := bl_then HB0.out HB1.out
  have HBW1 := Lib.hid hBw1
  have HRS1 := Lib.hid (HRES.out.below' HB1.out)
  have HCH := Lib.hid (fun W' (h : Below w.heap.size w W') D Di D4 T h1 h2 h3 => bydrop_change xs ys off A B ca cb n m i W' (HX.out.below h) (HY.out.below h) HN.out HM.out hl hl2 D Di D4 T ((k : Int) * nth ys i) o2 hin him h1 h2 h3 HO.out)
  obtain ⟨bA, oA, eA, cA⟩ := HX.out i (by have := HN.out; omega)
  obtain ⟨bB, oB, eB, cB⟩ := HY.out i (by have := HM.out; omega)
  have HCA := Lib.hid cA
  have HCB := Lib.hid cB
  obtain ⟨f0, f1, f2, f3, f4, f5⟩ := heldD hBw1 HBX1.out HBI1.out cA cB
  subst eA
  subst eB
  obtain ⟨p, hp⟩ : ∃ p, (k : Int) * nth ys i = p := ⟨_, rfl⟩
  have hpb := mul_bd (a := (k : Int)) (y := nth ys i) (by omega) (by omega) hyi.1 hyi.2
  rw [hp] at HCH hpb
  have hwp : IntKind.i64.wrap p = p := by rw [IntKind.wrap_i64]; omega
  clear HO hpb
  generalize nth xs i = x at *
  generalize hyy : nth ys i = y at *
  have hi1 : (i : Int) < (n : Int) := by omega
  have hi2 : (i : Int) < (m : Int) := by omega
  have hk2 : ¬ (x ≤ (k : Int)) := by omega
  clear cA cB hBw1 v1 v2 v3 v4 v5 hxi hyy
  have hne1 : w.heap.size ≠ w.heap.size + 1 + 1 := by omega
  have hne2 : w.heap.size + 1 ≠ w.heap.size + 1 + 1 := by omega
  go_wp2_with fail
  go_region_held3 (fun W => W.cell? ⟨w.heap.size, 0, none⟩ = some (.slice (some ⟨bA, oA, none⟩) n ca) ∧ W.cell? ⟨w.heap.size, 1, none⟩ = some (.slice (some ⟨bB, oB, none⟩) m cb) ∧ W.cell? ⟨w.heap.size, 2, none⟩ = some (.int .i64 off) ∧ W.cell? ⟨w.heap.size + 1, 0, none⟩ = some (.int .i64 (i : Nat)) ∧ W.cell? ⟨bA, oA + i, none⟩ = some (.int .i64 x) ∧ W.cell? ⟨bB, oB + i, none⟩ = some (.int .i64 y))
    (first | exact ⟨f0, f1, f2, f3, f4, f5⟩ | exact heldD (bl_then (bl_drew HBW1.out) HBY.out) (HBX1.out.drew.below' HBY.out) (HBI1.out.drew.below' HBY.out) HCA.out HCB.out | exact heldD (bl_alloc (bl_then (bl_drew HBW1.out) HBY.out) _) ((HBX1.out.drew.below' HBY.out).alloc _) ((HBI1.out.drew.below' HBY.out).alloc _) HCA.out HCB.out | exact HHF.out | exact HHG.out)
    (first
    | (go_at_call 71; refine (by_calls _ _).mono ?_; rintro e wB ⟨D4, rfl, hD4, hBY⟩; have HD4 := Lib.hid hD4; have HBY := Lib.hid hBY; clear hD4 hBY)
    | (go_at_call 69; refine (HCH.out _ (bl_alloc (bl_then (bl_drew HBW1.out) HBY.out) _) _ _ D4 _ ((HBI1.out.drew.below' HBY.out).alloc _) (HD4.out.alloc _) (Blk.new _ _ _)).mono ?_; rintro e wC ⟨P, n1, c1, Q, m1, d1, o1, b, rfl, HPQ, HCC⟩; have hbc := bl_then (bl_alloc (bl_then (bl_drew HBW1.out) HBY.out) (.cells #[.func (.func 113) #[] #[.pointer (some ⟨D4, 0, none⟩)], .func (.func 74) #[] #[.pointer (some ⟨w.heap.size + 1, 0, none⟩)]] _)) HCC.out; have hbb := ((HBX1.out.drew.below' HBY.out).alloc (.cells #[.func (.func 113) #[] #[.pointer (some ⟨D4, 0, none⟩)], .func (.func 74) #[] #[.pointer (some ⟨w.heap.size + 1, 0, none⟩)]] _)).below' HCC.out; have hbi := ((HBI1.out.drew.below' HBY.out).alloc (.cells #[.func (.func 113) #[] #[.pointer (some ⟨D4, 0, none⟩)], .func (.func 74) #[] #[.pointer (some ⟨w.heap.size + 1, 0, none⟩)]] _)).below' HCC.out; have HRC := Lib.hid (((HRS1.out.drew.below' HBY.out).alloc (.cells #[.func (.func 113) #[] #[.pointer (some ⟨D4, 0, none⟩)], .func (.func 74) #[] #[.pointer (some ⟨w.heap.size + 1, 0, none⟩)]] _)).below' HCC.out); have HHF := Lib.hid (heldD hbc hbb hbi HCA.out HCB.out); have hbd := bl_set (p := ⟨w.heap.size + 1 + 1, 2, none⟩) (bl_set (p := ⟨w.heap.size + 1 + 1, 1, none⟩) (bl_set (p := ⟨w.heap.size + 1 + 1, 0, none⟩) hbc (by show w.heap.size ≤ w.heap.size + 1 + 1; omega) (.slice P n1 c1)) (by show w.heap.size ≤ w.heap.size + 1 + 1; omega) (.slice Q m1 d1)) (by show w.heap.size ≤ w.heap.size + 1 + 1; omega) (.int .i64 o1); have HHG := Lib.hid (heldD hbd (((hbb.far (p := ⟨w.heap.size + 1 + 1, 0, none⟩) hne1 (.slice P n1 c1)).far (p := ⟨w.heap.size + 1 + 1, 1, none⟩) hne1 (.slice Q m1 d1)).far (p := ⟨w.heap.size + 1 + 1, 2, none⟩) hne1 (.int .i64 o1)) (((hbi.far (p := ⟨w.heap.size + 1 + 1, 0, none⟩) hne2 (.slice P n1 c1)).far (p := ⟨w.heap.size + 1 + 1, 1, none⟩) hne2 (.slice Q m1 d1)).far (p := ⟨w.heap.size + 1 + 1, 2, none⟩) hne2 (.int .i64 o1)) HCA.out HCB.out); have HBD := Lib.hid hbd; clear hbc hbb hbi hbd; obtain ⟨k0, k1, k2, k0f, k1f, k2f⟩ := held_view HRC.out))
  all_goals
    have hsz : w.heap.size + 3 ≤ (wB.alloc (.cells #[.func (.func 113) #[] #[.pointer (some ⟨D4, 0, none⟩)], .func (.func 74) #[] #[.pointer (some ⟨w.heap.size + 1, 0, none⟩)]] 98)).heap.size := by
      have e1 := HB1.out.size
      have e4 := HBY.out.size
      have e5 := HS0.out
      have e6 : w1.drew.heap.size = w1.heap.size := rfl
      simp
      omega
    have HFIN := Lib.hid (chg_out (x := o1) (k := b) HPQ.out HRC.out (fun b' h => by omega) (.slice P n1 c1) (.slice Q m1 d1) (.int .i64 o1))
    have HSZ := Lib.hid (Nat.le_trans (Nat.le_add_right _ 3) hsz)
    clear HPQ hsz
    go_wp2_with fail
    exact bodyPost_ret (v := .tuple #[.agg #[.slice P n1 c1, .slice Q m1 d1, .int .i64 o1], .bool b]) (by simp [results, Try.results31, go_sem, k0, k1, k2]) rfl ⟨P, n1, c1, Q, m1, d1, o1, b, rfl, Lib.hid ⟨HFIN.out.1, HFIN.out.2.1, HFIN.out.2.2.1 w.heap.size HSZ.out, HFIN.out.2.2.2 w.heap.size HSZ.out⟩, HBD⟩
end Go.Proofs.Ythjkeefdeeljoaa.Shp
/- view.Flip, Window where they are refused. -/
namespace Go.Proofs.Ythjkeefdeeljoaa.Shp
open Go.RowKit
set_option linter.unusedVariables false
set_option linter.unusedSimpArgs false

set_option maxHeartbeats 1000000 in
theorem flip_no (xs ys : List Int) (off : Int) (A B : Option Addr) (ca cb n m : Nat) (i : Int) (w : World) (hx : ReadsI w .i64 A xs) (hy : ReadsI w .i64 B ys) (hn : xs.length = n) (hm : ys.length = m) (hl : n ≤ 100000) (hl2 : m ≤ 100000) (hin : ¬ (0 ≤ i ∧ i < n)) :
    Calls Try.prog 27 #[.agg #[.slice A n ca, .slice B m cb, .int .i64 off], .int .i64 i] w fun e w' => e = .returned (.tuple #[.agg #[.slice none 0 0, .slice none 0 0, .int .i64 0], .bool false]) ∧ Below w.heap.size w w' := by
  obtain ⟨W0, hW0⟩ : ∃ W0, W0 = (w.alloc (.cells #[.slice A n ca, .slice B m cb, .int .i64 off] 34)).alloc (.cells #[.slice none 0 0, .slice none 0 0, .int .i64 0] 34) := ⟨_, rfl⟩
  have hb0 : Below w.heap.size w W0 := by rw [hW0]; exact bl_alloc (bl_alloc (Below.refl _ _) _) _
  have hres : Blk W0 (w.heap.size + 1) 34 #[.slice none 0 0, .slice none 0 0, .int .i64 0] := by rw [hW0]; exact Blk.new' (by simp) _ _
  have HH := Lib.hid (vhas_calls xs ys off A B ca cb n m i W0 (hx.below hb0) (hy.below hb0) hn hm (by omega) (by omega) false (by rw [decide_eq_false hin]; simp))
  have HB0 := Lib.hid hb0
  have HRES := Lib.hid hres
  have HW0 := Lib.hid hW0
  clear hb0 hres hx hy hn hm hW0 hin
  go_enter Try.func27, Try.ntmps27
  go_wp2_with fail
  rw [← HW0.out]
  refine HH.out.mono ?_
  rintro e w1 ⟨rfl, hBel⟩
  obtain ⟨k0, k1, k2, k0f, k1f, k2f⟩ := held_view (HRES.out.below' hBel)
  have hBw := bl_then HB0.out hBel
  have HBF := Lib.hid (bl_set (p := ⟨w.heap.size + 1, 2, none⟩) (bl_set (p := ⟨w.heap.size + 1, 1, none⟩) (bl_set (p := ⟨w.heap.size + 1, 0, none⟩) hBw (by simp) (.slice none 0 0)) (by simp) (.slice none 0 0)) (by simp) (.int .i64 0))
  clear hBel hBw HH HW0 HB0 HRES
  go_wp2_with fail
  exact bodyPost_ret (v := .tuple #[.agg #[.slice none 0 0, .slice none 0 0, .int .i64 0], .bool false]) (by simp [results, Try.results27, go_sem, k0, k1, k2]) rfl ⟨rfl, HBF.out⟩
set_option maxHeartbeats 1000000 in
theorem window_no (xs ys : List Int) (off : Int) (A B : Option Addr) (ca cb n m i : Nat) (k : Int) (w : World) (hx : ReadsI w .i64 A xs) (hy : ReadsI w .i64 B ys) (hn : xs.length = n) (hm : ys.length = m) (hl : n ≤ 100000) (hl2 : m ≤ 100000) (hv : vrB xs ys off = true) (hin : i < n) (hk : k < 1 ∨ nth xs i < k) :
    Calls Try.prog 30 #[.agg #[.slice A n ca, .slice B m cb, .int .i64 off], .int .i64 (i : Nat), .int .i64 k] w fun e w' => e = .returned (.tuple #[.agg #[.slice none 0 0, .slice none 0 0, .int .i64 0], .bool false]) ∧ Below w.heap.size w w' := by
  obtain ⟨W0, hW0⟩ : ∃ W0, W0 = (w.alloc (.cells #[.slice A n ca, .slice B m cb, .int .i64 off] 34)).alloc (.cells #[.slice none 0 0, .slice none 0 0, .int .i64 0] 34) := ⟨_, rfl⟩
  have hb0 : Below w.heap.size w W0 := by rw [hW0]; exact bl_alloc (bl_alloc (Below.refl _ _) _) _
  have hres : Blk W0 (w.heap.size + 1) 34 #[.slice none 0 0, .slice none 0 0, .int .i64 0] := by rw [hW0]; exact Blk.new' (by simp) _ _
  have hbox : Blk W0 w.heap.size 34 #[.slice A n ca, .slice B m cb, .int .i64 off] := by rw [hW0]; exact (Blk.new _ _ _).alloc _
  have HBOX := Lib.hid hbox
  have HX := Lib.hid (hx.below hb0)
  have HN := Lib.hid hn
  have HH := Lib.hid (vhas_calls xs ys off A B ca cb n m (i : Nat) W0 (hx.below hb0) (hy.below hb0) hn hm (by omega) (by omega) true (by rw [hv]; simp; omega))
  have HB0 := Lib.hid hb0
  have HRES := Lib.hid hres
  have HW0 := Lib.hid hW0
  clear hb0 hres hbox hx hy hn hm hW0 hv
  go_enter Try.func30, Try.ntmps30
  go_wp2_with fail
  rw [← HW0.out]
  refine HH.out.mono ?_
  rintro e w1 ⟨rfl, hBel⟩
  obtain ⟨k0, k1, k2, k0f, k1f, k2f⟩ := held_view (HRES.out.below' hBel)
  have hBw := bl_then HB0.out hBel
  have HBF := Lib.hid (bl_set (p := ⟨w.heap.size + 1, 2, none⟩) (bl_set (p := ⟨w.heap.size + 1, 1, none⟩) (bl_set (p := ⟨w.heap.size + 1, 0, none⟩) hBw (by simp) (.slice none 0 0)) (by simp) (.slice none 0 0)) (by simp) (.int .i64 0))
  obtain ⟨c0, c1, c2⟩ := held_cells (HBOX.out.below' hBel)
  obtain ⟨bA, oA, eA, cA⟩ := (HX.out.below hBel) i (by have := HN.out; omega)
  rw [eA] at c0
  generalize nth xs i = x at *
  have hi1 : (i : Int) < (n : Int) := by omega
  clear hBel hBw HH HW0 HB0 HRES HBOX HX eA
  by_cases h1 : k < 1
  · clear hk
    go_wp2_with fail
    exact bodyPost_ret (v := .tuple #[.agg #[.slice none 0 0, .slice none 0 0, .int .i64 0], .bool false]) (by simp [results, Try.results30, go_sem, k0, k1, k2]) rfl ⟨rfl, HBF.out⟩
  · have h2 : x < k := by omega
    clear hk
    go_wp2_with fail
    exact bodyPost_ret (v := .tuple #[.agg #[.slice none 0 0, .slice none 0 0, .int .i64 0], .bool false]) (by simp [results, Try.results30, go_sem, k0, k1, k2]) rfl ⟨rfl, HBF.out⟩
end Go.Proofs.Ythjkeefdeeljoaa.Shp
/- view.Window. -/
namespace Go.Proofs.Ythjkeefdeeljoaa.Shp
open Go.RowKit
set_option linter.unusedVariables false
set_option linter.unusedSimpArgs false

set_option maxRecDepth 100000 in
set_option maxHeartbeats 4000000 in
theorem window_calls (xs ys : List Int) (off : Int) (A B : Option Addr) (ca cb n m i k : Nat) (w : World) (hx : ReadsI w .i64 A xs) (hy : ReadsI w .i64 B ys) (hn : xs.length = n) (hm : ys.length = m) (hl : n ≤ 100000) (hl2 : m ≤ 100000) (hv : vrB xs ys off = true) (hin : i < n) (hk0 : 1 ≤ k) (hk : (k : Int) ≤ nth xs i) :
    Calls Try.prog 30 #[.agg #[.slice A n ca, .slice B m cb, .int .i64 off], .int .i64 (i : Nat), .int .i64 (k : Nat)] w (ChgPost ((xs.set i (nth xs i - k + 1)).take (i + 1) ++ (k : Int) :: (xs.set i (nth xs i - k + 1)).drop (i + 1)) ((ys.set i (nth ys i)).take (i + 1) ++ nth ys i :: (ys.set i (nth ys i)).drop (i + 1)) off (n + 1) (m + 1) w) := by
  obtain ⟨W0, hW0⟩ : ∃ W0, W0 = (w.alloc (.cells #[.slice A n ca, .slice B m cb, .int .i64 off] 34)).alloc (.cells #[.slice none 0 0, .slice none 0 0, .int .i64 0] 34) := ⟨_, rfl⟩
  have hb0 : Below w.heap.size w W0 := by rw [hW0]; exact bl_alloc (bl_alloc (Below.refl _ _) _) _
  have hbox : Blk W0 w.heap.size 34 #[.slice A n ca, .slice B m cb, .int .i64 off] := by rw [hW0]; exact (Blk.new _ _ _).alloc _
  have hres : Blk W0 (w.heap.size + 1) 34 #[.slice none 0 0, .slice none 0 0, .int .i64 0] := by rw [hW0]; exact Blk.new' (by simp) _ _
  have hs0 : W0.heap.size = w.heap.size + 2 := by rw [hW0]; simp
  have HH := Lib.hid (vhas_calls xs ys off A B ca cb n m (i : Nat) W0 (hx.below hb0) (hy.below hb0) hn hm (by omega) (by omega) true (by rw [hv]; simp; omega))
  have HB0 := Lib.hid hb0
  have HBOX := Lib.hid hbox
  have HRES := Lib.hid hres
  have HS0 := Lib.hid hs0
  have HN := Lib.hid hn
  have HM := Lib.hid hm
  have HX := Lib.hid hx
  have HY := Lib.hid hy
  have HV := Lib.hid hv
  have HW0 := Lib.hid hW0
  clear hb0 hbox hres hs0 hx hy hn hm hW0 hv
  go_enter Try.func30, Try.ntmps30
  go_wp2_with fail
  rw [← HW0.out]
  refine HH.out.mono ?_
  rintro e w1 ⟨rfl, hBel⟩
  have HB1 := Lib.hid hBel
  have HBX1 := Lib.hid (HBOX.out.below' hBel)
  clear hBel HH HW0
  obtain ⟨v1, v2, v3, v4, v5⟩ := vrB_out HV.out
  have him : i < m := by have h1 := HN.out; have h2 := HM.out; omega
  have hxi : 0 ≤ nth xs i ∧ nth xs i ≤ 1048576 := by
    have h1 := v1
    unfold sizeOk at h1
    simp only [Bool.and_eq_true] at h1
    have hi' : i < xs.length := by have := HN.out; omega
    exact (rightB_mem h1.1).2 _ (by rw [nth_eq _ _ hi']; exact List.getElem_mem _)
  have hyi : -1048576 ≤ nth ys i ∧ nth ys i ≤ 1048576 := by
    have hi' : i < ys.length := by have := HM.out; omega
    exact near_mem v3 _ (by rw [nth_eq _ _ hi']; exact List.getElem_mem _)
  have hBw1 : Below w.heap.size w w1 := bl_then HB0.out HB1.out
  have HBW1 := Lib.hid hBw1
  have HRS1 := Lib.hid (HRES.out.below' HB1.out)
  have HCH := Lib.hid (fun W' (h : Below w.heap.size w W') D Di Dn Ds Ei En Es T h1 h2 h3 h4 h5 h6 h7 => toadd_change xs ys off A B ca cb n m i W' (HX.out.below h) (HY.out.below h) HN.out HM.out hl hl2 D Di Dn Ds Ei En Es (i + 1) T (nth xs i - k + 1) (nth ys i) (k : Int) (nth ys i) hin him (by omega) (by omega) h1 h2 h3 h4 h5 h6 h7)
  obtain ⟨bA, oA, eA, cA⟩ := HX.out i (by have := HN.out; omega)
  obtain ⟨bB, oB, eB, cB⟩ := HY.out i (by have := HM.out; omega)
  have HCA := Lib.hid cA
  have HCB := Lib.hid cB
  obtain ⟨f0, f1, f2, f3, f4⟩ := heldF hBw1 HBX1.out cA cB
  subst eA
  subst eB
  have hw1 : IntKind.i64.wrap (nth xs i - k) = nth xs i - k := by rw [IntKind.wrap_i64]; omega
  have hw2 : IntKind.i64.wrap (nth xs i - k + 1) = nth xs i - k + 1 := by rw [IntKind.wrap_i64]; omega
  have hw3 : IntKind.i64.wrap ((i : Int) + 1) = (i : Int) + 1 := by rw [IntKind.wrap_i64]; omega
  generalize nth xs i = x at *
  generalize hyy : nth ys i = y at *
  have hi1 : (i : Int) < (n : Int) := by omega
  have hi2 : (i : Int) < (m : Int) := by omega
  have hk2 : ¬ ((x : Int) < (k : Int)) := by omega
  have hk3 : ¬ ((k : Int) < 1) := by omega
  clear cA cB hBw1 v1 v2 v3 v4 v5 hyy
  go_wp2_with fail
  go_region_held3 (fun W => W.cell? ⟨w.heap.size, 0, none⟩ = some (.slice (some ⟨bA, oA, none⟩) n ca) ∧ W.cell? ⟨w.heap.size, 1, none⟩ = some (.slice (some ⟨bB, oB, none⟩) m cb) ∧ W.cell? ⟨w.heap.size, 2, none⟩ = some (.int .i64 off) ∧ W.cell? ⟨bA, oA + i, none⟩ = some (.int .i64 x) ∧ W.cell? ⟨bB, oB + i, none⟩ = some (.int .i64 y))
    (first | exact ⟨f0, f1, f2, f3, f4⟩ | exact heldF (bl_then (bl_drew HBW1.out) HT.out) (HBX1.out.drew.below' HT.out) HCA.out HCB.out | exact heldF (bl_then (bl_then (bl_drew HBW1.out) HT.out) HBY.out) ((HBX1.out.drew.below' HT.out).below' HBY.out) HCA.out HCB.out | exact heldF (bl_alloc (bl_then (bl_then (bl_drew HBW1.out) HT.out) HBY.out) _) (((HBX1.out.drew.below' HT.out).below' HBY.out).alloc _) HCA.out HCB.out | exact HHF.out | exact HHG.out)
    (first
    | (go_at_call 70; refine (to_calls _ _ _ _).mono ?_; rintro e wT ⟨Di, Dn, Ds, rfl, hDi, hDn, hDs, hT⟩; have HDI := Lib.hid hDi; have HDN := Lib.hid hDn; have HDS := Lib.hid hDs; have HT := Lib.hid hT; clear hDi hDn hDs hT)
    | (go_at_call 73; refine (add_calls _ _ _ _).mono ?_; rintro e wB ⟨Ei, En, Es, rfl, hEi, hEn, hEs, hBY⟩; have HEI := Lib.hid hEi; have HEN := Lib.hid hEn; have HES := Lib.hid hEs; have HBY := Lib.hid hBY; clear hEi hEn hEs hBY)
    | (go_at_call 69; refine (HCH.out _ (bl_alloc (bl_then (bl_then (bl_drew HBW1.out) HT.out) HBY.out) _) _ Di Dn Ds Ei En Es _ ((HDI.out.below' HBY.out).alloc _) ((HDN.out.below' HBY.out).alloc _) ((HDS.out.below' HBY.out).alloc _) (HEI.out.alloc _) (HEN.out.alloc _) (HES.out.alloc _) (Blk.new _ _ _)).mono ?_; rintro e wC ⟨P, n1, c1, Q, m1, d1, o1, b, rfl, HPQ, HCC⟩; have hbc := bl_then (bl_alloc (bl_then (bl_then (bl_drew HBW1.out) HT.out) HBY.out) (.cells #[.func (.func 112) #[] #[.pointer (some ⟨Dn, 0, none⟩), .pointer (some ⟨Ds, 0, none⟩), .pointer (some ⟨Di, 0, none⟩)], .func (.func 114) #[] #[.pointer (some ⟨Ei, 0, none⟩), .pointer (some ⟨En, 0, none⟩), .pointer (some ⟨Es, 0, none⟩)]] _)) HCC.out; have hbb := (((HBX1.out.drew.below' HT.out).below' HBY.out).alloc (.cells #[.func (.func 112) #[] #[.pointer (some ⟨Dn, 0, none⟩), .pointer (some ⟨Ds, 0, none⟩), .pointer (some ⟨Di, 0, none⟩)], .func (.func 114) #[] #[.pointer (some ⟨Ei, 0, none⟩), .pointer (some ⟨En, 0, none⟩), .pointer (some ⟨Es, 0, none⟩)]] _)).below' HCC.out; have HRC := Lib.hid ((((HRS1.out.drew.below' HT.out).below' HBY.out).alloc (.cells #[.func (.func 112) #[] #[.pointer (some ⟨Dn, 0, none⟩), .pointer (some ⟨Ds, 0, none⟩), .pointer (some ⟨Di, 0, none⟩)], .func (.func 114) #[] #[.pointer (some ⟨Ei, 0, none⟩), .pointer (some ⟨En, 0, none⟩), .pointer (some ⟨Es, 0, none⟩)]] _)).below' HCC.out); have HHF := Lib.hid (heldF hbc hbb HCA.out HCB.out); have hbd := bl_set (p := ⟨w.heap.size + 1, 2, none⟩) (bl_set (p := ⟨w.heap.size + 1, 1, none⟩) (bl_set (p := ⟨w.heap.size + 1, 0, none⟩) hbc (by simp) (.slice P n1 c1)) (by simp) (.slice Q m1 d1)) (by simp) (.int .i64 o1); have HHG := Lib.hid (heldF hbd (((hbb.far (p := ⟨w.heap.size + 1, 0, none⟩) (by simp) (.slice P n1 c1)).far (p := ⟨w.heap.size + 1, 1, none⟩) (by simp) (.slice Q m1 d1)).far (p := ⟨w.heap.size + 1, 2, none⟩) (by simp) (.int .i64 o1)) HCA.out HCB.out); have HBD := Lib.hid hbd; clear hbc hbb hbd; obtain ⟨k0, k1, k2, k0f, k1f, k2f⟩ := held_view HRC.out))
  all_goals
    have hsz : w.heap.size + 2 ≤ (wB.alloc (.cells #[.func (.func 112) #[] #[.pointer (some ⟨Dn, 0, none⟩), .pointer (some ⟨Ds, 0, none⟩), .pointer (some ⟨Di, 0, none⟩)], .func (.func 114) #[] #[.pointer (some ⟨Ei, 0, none⟩), .pointer (some ⟨En, 0, none⟩), .pointer (some ⟨Es, 0, none⟩)]] 98)).heap.size := by
      have e1 := HB1.out.size
      have e2 := HT.out.size
      have e4 := HBY.out.size
      have e5 := HS0.out
      have e6 : w1.drew.heap.size = w1.heap.size := rfl
      simp
      omega
    have HFIN := Lib.hid (chg_out (x := o1) (k := b) HPQ.out HRC.out (fun b' h => by omega) (.slice P n1 c1) (.slice Q m1 d1) (.int .i64 o1))
    have HSZ := Lib.hid (Nat.le_trans (Nat.le_add_right _ 2) hsz)
    clear HPQ hsz
    go_wp2_with fail
    exact bodyPost_ret (v := .tuple #[.agg #[.slice P n1 c1, .slice Q m1 d1, .int .i64 o1], .bool b]) (by simp [results, Try.results30, go_sem, k0, k1, k2]) rfl ⟨P, n1, c1, Q, m1, d1, o1, b, rfl, Lib.hid ⟨HFIN.out.1, HFIN.out.2.1, HFIN.out.2.2.1 w.heap.size HSZ.out, HFIN.out.2.2.2 w.heap.size HSZ.out⟩, HBD⟩
end Go.Proofs.Ythjkeefdeeljoaa.Shp
