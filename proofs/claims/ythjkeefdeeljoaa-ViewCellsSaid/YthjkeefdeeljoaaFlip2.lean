/- view.Flip. -/
import Derived.Test.YthjkeefdeeljoaaFlip
import Derived.Deep.RegionHeld3
namespace Go.Proofs.Ythjkeefdeeljoaa.Shp
open Go.RowKit
set_option linter.unusedVariables false
set_option linter.unusedSimpArgs false

theorem chg_out {w' : World} {xs ys : List Int} {off x : Int} {n m n1 m1 z H : Nat} {k : Bool} {P Q : Option Addr} {a b : Option Addr} {n' c' m' d' : Nat} {o : Int} (h : k = vrB xs ys off ∧ (k = true → n1 = n ∧ m1 = m ∧ x = off ∧ ReadsI w' .i64 P xs ∧ ReadsI w' .i64 Q ys) ∧ (∀ b o, P = some ⟨b, o, none⟩ → z ≤ b) ∧ (∀ b o, Q = some ⟨b, o, none⟩ → z ≤ b))
    (hb : Blk w' H 34 #[.slice a n' c', .slice b m' d', .int .i64 o]) (hz : ∀ b, z ≤ b → b ≠ H) (u v t : Value) :
    k = vrB xs ys off ∧ (k = true → n1 = n ∧ m1 = m ∧ x = off ∧ ReadsI (((w'.setCell ⟨H, 0, none⟩ u).setCell ⟨H, 1, none⟩ v).setCell ⟨H, 2, none⟩ t) .i64 P xs ∧ ReadsI (((w'.setCell ⟨H, 0, none⟩ u).setCell ⟨H, 1, none⟩ v).setCell ⟨H, 2, none⟩ t) .i64 Q ys) ∧ (∀ y, y ≤ z → ∀ b o, P = some ⟨b, o, none⟩ → y ≤ b) ∧ (∀ y, y ≤ z → ∀ b o, Q = some ⟨b, o, none⟩ → y ≤ b) :=
  ⟨h.1, fun hk => ⟨(h.2.1 hk).1, (h.2.1 hk).2.1, (h.2.1 hk).2.2.1, reads3 (h.2.1 hk).2.2.2.1 hb u v t (fun b o e => hz b (h.2.2.1 b o e)), reads3 (h.2.1 hk).2.2.2.2 hb u v t (fun b o e => hz b (h.2.2.2 b o e))⟩, fun y hy b o e => Nat.le_trans hy (h.2.2.1 b o e), fun y hy b o e => Nat.le_trans hy (h.2.2.2 b o e)⟩
theorem heldF {w W : World} {H bA oA bB oB i n ca m cb : Nat} {T : TypeId} {off x y : Int} {A B : Option Addr} (hB : Below w.heap.size w W) (hb : Blk W H T #[.slice A n ca, .slice B m cb, .int .i64 off]) (cA : w.cell? ⟨bA, oA + i, none⟩ = some (.int .i64 x)) (cB : w.cell? ⟨bB, oB + i, none⟩ = some (.int .i64 y)) :
    W.cell? ⟨H, 0, none⟩ = some (.slice A n ca) ∧ W.cell? ⟨H, 1, none⟩ = some (.slice B m cb) ∧ W.cell? ⟨H, 2, none⟩ = some (.int .i64 off) ∧ W.cell? ⟨bA, oA + i, none⟩ = some (.int .i64 x) ∧ W.cell? ⟨bB, oB + i, none⟩ = some (.int .i64 y) :=
  ⟨hb.cell 0, hb.cell 1, hb.cell 2, (hB.cell (World.block_lt_of_cell? w _ cA)).trans cA, (hB.cell (World.block_lt_of_cell? w _ cB)).trans cB⟩
set_option maxRecDepth 100000 in
set_option maxHeartbeats 4000000 in
theorem flip_calls (xs ys : List Int) (off : Int) (A B : Option Addr) (ca cb n m i : Nat) (w : World) (hx : ReadsI w .i64 A xs) (hy : ReadsI w .i64 B ys) (hn : xs.length = n) (hm : ys.length = m) (hl : n ≤ 100000) (hl2 : m ≤ 100000) (hv : vrB xs ys off = true) (hin : i < n) (o2 : Int) (ho : IntKind.i64.wrap (off + max (nth xs i - 1) 0 * nth ys i) = o2) :
    Calls Try.prog 27 #[.agg #[.slice A n ca, .slice B m cb, .int .i64 off], .int .i64 (i : Nat)] w (ChgPost xs (ys.set i (- nth ys i)) o2 n m w) := by
  obtain ⟨W0, hW0⟩ : ∃ W0, W0 = (w.alloc (.cells #[.slice A n ca, .slice B m cb, .int .i64 off] 34)).alloc (.cells #[.slice none 0 0, .slice none 0 0, .int .i64 0] 34) := ⟨_, rfl⟩
  have hb0 : Below w.heap.size w W0 := by rw [hW0]; exact bl_alloc (bl_alloc (Below.refl _ _) _) _
  have hbox : Blk W0 w.heap.size 34 #[.slice A n ca, .slice B m cb, .int .i64 off] := by rw [hW0]; exact (Blk.new _ _ _).alloc _
  have hres : Blk W0 (w.heap.size + 1) 34 #[.slice none 0 0, .slice none 0 0, .int .i64 0] := by rw [hW0]; exact Blk.new' (by simp) _ _
  have hs0 : W0.heap.size = w.heap.size + 2 := by rw [hW0]; simp
  have HH := Lib.hid (vhas_calls xs ys off A B ca cb n m (i : Nat) W0 (hx.below hb0) (hy.below hb0) hn hm (by omega) (by omega) true (by rw [hv]; simp; omega))
  have HB0 := Lib.hid hb0
  have HBOX := Lib.hid hbox
  have HRES := Lib.hid hres
  have HS0 := Lib.hid hs0
  have HN := Lib.hid hn
  have HM := Lib.hid hm
  have HX := Lib.hid hx
  have HY := Lib.hid hy
  have HV := Lib.hid hv
  have HO := Lib.hid ho
  have HW0 := Lib.hid hW0
  clear hb0 hbox hres hs0 hx hy hn hm hW0 hv ho
  go_enter Try.func27, Try.ntmps27
  go_wp2_with fail
  rw [← HW0.out]
  refine HH.out.mono ?_
  rintro e w1 ⟨rfl, hBel⟩
  have HB1 := Lib.hid hBel
  have HBX1 := Lib.hid (HBOX.out.below' hBel)
  clear hBel HH HW0
  go_wp2_with fail
  obtain ⟨v1, v2, v3, v4, v5⟩ := vrB_out HV.out
  have him : i < m := by have h1 := HN.out; have h2 := HM.out; omega
  have hxi : 0 ≤ nth xs i ∧ nth xs i ≤ 1048576 := by
    have h1 := v1
    unfold sizeOk at h1
    simp only [Bool.and_eq_true] at h1
    have hi' : i < xs.length := by have := HN.out; omega
    exact (rightB_mem h1.1).2 _ (by rw [nth_eq _ _ hi']; exact List.getElem_mem _)
  have hyi : -1048576 ≤ nth ys i ∧ nth ys i ≤ 1048576 := by
    have hi' : i < ys.length := by have := HM.out; omega
    exact near_mem v3 _ (by rw [nth_eq _ _ hi']; exact List.getElem_mem _)
  have hBw1 : Below w.heap.size w w1 := bl_then HB0.out HB1.out
  have HBW1 := Lib.hid hBw1
  have HRS1 := Lib.hid (HRES.out.below' HB1.out)
  have HST := Lib.hid (fun W' (h : Below w.heap.size w W') => step_calls xs ys off A B ca cb n m i W' (HX.out.below h) (HY.out.below h) HN.out HM.out hin him hxi hyi)
  have HCH := Lib.hid (fun W' (h : Below w.heap.size w W') D Di Dn Ds D4 T h1 h2 h3 h4 h5 => toby_change xs ys off A B ca cb n m i W' (HX.out.below h) (HY.out.below h) HN.out HM.out hl hl2 D Di Dn Ds D4 T (nth xs i) (- nth ys i) (max (nth xs i - 1) 0 * nth ys i) o2 hin him h1 h2 h3 h4 h5 HO.out)
  have hset : xs.set i (nth xs i) = xs := by
    have hi' : i < xs.length := by have := HN.out; omega
    rw [nth_eq _ _ hi']; exact List.set_getElem_self hi'
  rw [hset] at HCH
  obtain ⟨bA, oA, eA, cA⟩ := HX.out i (by have := HN.out; omega)
  obtain ⟨bB, oB, eB, cB⟩ := HY.out i (by have := HM.out; omega)
  have HCA := Lib.hid cA
  have HCB := Lib.hid cB
  obtain ⟨f0, f1, f2, f3, f4⟩ := heldF hBw1 HBX1.out cA cB
  subst eA
  subst eB
  have hwn : IntKind.i64.wrap (- nth ys i) = - nth ys i := by rw [IntKind.wrap_i64]; omega
  obtain ⟨p, hp⟩ : ∃ p, max (nth xs i - 1) 0 * nth ys i = p := ⟨_, rfl⟩
  rw [hp] at HST HCH
  clear HO hp hset
  generalize nth xs i = x at *
  generalize hyy : nth ys i = y at *
  have hi1 : (i : Int) < (n : Int) := by omega
  have hi2 : (i : Int) < (m : Int) := by omega
  clear cA cB hBw1 v1 v2 v3 v4 v5 hxi hyy
  go_region_held3 (fun W => W.cell? ⟨w.heap.size, 0, none⟩ = some (.slice (some ⟨bA, oA, none⟩) n ca) ∧ W.cell? ⟨w.heap.size, 1, none⟩ = some (.slice (some ⟨bB, oB, none⟩) m cb) ∧ W.cell? ⟨w.heap.size, 2, none⟩ = some (.int .i64 off) ∧ W.cell? ⟨bA, oA + i, none⟩ = some (.int .i64 x) ∧ W.cell? ⟨bB, oB + i, none⟩ = some (.int .i64 y))
    (first | exact ⟨f0, f1, f2, f3, f4⟩ | exact heldF (bl_then (bl_drew HBW1.out) HT.out) (HBX1.out.drew.below' HT.out) HCA.out HCB.out | exact heldF (bl_then (bl_then (bl_drew HBW1.out) HT.out) HSS.out) ((HBX1.out.drew.below' HT.out).below' HSS.out) HCA.out HCB.out | exact heldF (bl_then (bl_then (bl_then (bl_drew HBW1.out) HT.out) HSS.out) HBY.out) (((HBX1.out.drew.below' HT.out).below' HSS.out).below' HBY.out) HCA.out HCB.out | exact heldF (bl_alloc (bl_then (bl_then (bl_then (bl_drew HBW1.out) HT.out) HSS.out) HBY.out) _) ((((HBX1.out.drew.below' HT.out).below' HSS.out).below' HBY.out).alloc _) HCA.out HCB.out | exact HHF.out | exact HHG.out)
    (first
    | (go_at_call 70; refine (to_calls _ _ _ _).mono ?_; rintro e wT ⟨Di, Dn, Ds, rfl, hDi, hDn, hDs, hT⟩; have HDI := Lib.hid hDi; have HDN := Lib.hid hDn; have HDS := Lib.hid hDs; have HT := Lib.hid hT; clear hDi hDn hDs hT)
    | (go_at_call 72; refine (HST.out _ (bl_then (bl_drew HBW1.out) HT.out)).mono ?_; rintro e wS ⟨rfl, hS⟩; have HSS := Lib.hid hS; clear hS)
    | (go_at_call 71; refine (by_calls _ _).mono ?_; rintro e wB ⟨D4, rfl, hD4, hBY⟩; have HD4 := Lib.hid hD4; have HBY := Lib.hid hBY; clear hD4 hBY)
    | (go_at_call 69; refine (HCH.out _ (bl_alloc (bl_then (bl_then (bl_then (bl_drew HBW1.out) HT.out) HSS.out) HBY.out) _) _ Di Dn Ds D4 _ (((HDI.out.below' HSS.out).below' HBY.out).alloc _) (((HDN.out.below' HSS.out).below' HBY.out).alloc _) (((HDS.out.below' HSS.out).below' HBY.out).alloc _) (HD4.out.alloc _) (Blk.new _ _ _)).mono ?_; rintro e wC ⟨P, n1, c1, Q, m1, d1, o1, b, rfl, HPQ, HCC⟩; have hbc := bl_then (bl_alloc (bl_then (bl_then (bl_then (bl_drew HBW1.out) HT.out) HSS.out) HBY.out) (.cells #[.func (.func 112) #[] #[.pointer (some ⟨Dn, 0, none⟩), .pointer (some ⟨Ds, 0, none⟩), .pointer (some ⟨Di, 0, none⟩)], .func (.func 113) #[] #[.pointer (some ⟨D4, 0, none⟩)]] _)) HCC.out; have hbb := ((((HBX1.out.drew.below' HT.out).below' HSS.out).below' HBY.out).alloc (.cells #[.func (.func 112) #[] #[.pointer (some ⟨Dn, 0, none⟩), .pointer (some ⟨Ds, 0, none⟩), .pointer (some ⟨Di, 0, none⟩)], .func (.func 113) #[] #[.pointer (some ⟨D4, 0, none⟩)]] _)).below' HCC.out; have HRC := Lib.hid (((((HRS1.out.drew.below' HT.out).below' HSS.out).below' HBY.out).alloc (.cells #[.func (.func 112) #[] #[.pointer (some ⟨Dn, 0, none⟩), .pointer (some ⟨Ds, 0, none⟩), .pointer (some ⟨Di, 0, none⟩)], .func (.func 113) #[] #[.pointer (some ⟨D4, 0, none⟩)]] _)).below' HCC.out); have HHF := Lib.hid (heldF hbc hbb HCA.out HCB.out); have hbd := bl_set (p := ⟨w.heap.size + 1, 2, none⟩) (bl_set (p := ⟨w.heap.size + 1, 1, none⟩) (bl_set (p := ⟨w.heap.size + 1, 0, none⟩) hbc (by simp) (.slice P n1 c1)) (by simp) (.slice Q m1 d1)) (by simp) (.int .i64 o1); have HHG := Lib.hid (heldF hbd (((hbb.far (p := ⟨w.heap.size + 1, 0, none⟩) (by simp) (.slice P n1 c1)).far (p := ⟨w.heap.size + 1, 1, none⟩) (by simp) (.slice Q m1 d1)).far (p := ⟨w.heap.size + 1, 2, none⟩) (by simp) (.int .i64 o1)) HCA.out HCB.out); have HBD := Lib.hid hbd; clear hbc hbb hbd; obtain ⟨k0, k1, k2, k0f, k1f, k2f⟩ := held_view HRC.out))
  have hsz : w.heap.size + 2 ≤ (wB.alloc (.cells #[.func (.func 112) #[] #[.pointer (some ⟨Dn, 0, none⟩), .pointer (some ⟨Ds, 0, none⟩), .pointer (some ⟨Di, 0, none⟩)], .func (.func 113) #[] #[.pointer (some ⟨D4, 0, none⟩)]] 98)).heap.size := by
    have e1 := HB1.out.size
    have e2 := HT.out.size
    have e3 := HSS.out.size
    have e4 := HBY.out.size
    have e5 := HS0.out
    have e6 : w1.drew.heap.size = w1.heap.size := rfl
    simp
    omega
  have HFIN := Lib.hid (chg_out (x := o1) (k := b) HPQ.out HRC.out (fun b' h => by omega) (.slice P n1 c1) (.slice Q m1 d1) (.int .i64 o1))
  have HSZ := Lib.hid (Nat.le_trans (Nat.le_add_right _ 2) hsz)
  clear HPQ hsz
  go_wp2_with fail
  exact bodyPost_ret (v := .tuple #[.agg #[.slice P n1 c1, .slice Q m1 d1, .int .i64 o1], .bool b]) (by simp [results, Try.results27, go_sem, k0, k1, k2]) rfl ⟨P, n1, c1, Q, m1, d1, o1, b, rfl, Lib.hid ⟨HFIN.out.1, HFIN.out.2.1, HFIN.out.2.2.1 w.heap.size HSZ.out, HFIN.out.2.2.2 w.heap.size HSZ.out⟩, HBD⟩
end Go.Proofs.Ythjkeefdeeljoaa.Shp
