/- Contracts and lemmas that the row of this claim stands on: RAt, ROffs. -/
import Derived.Test.YthjkeefdeeljoaaPk21
import Derived.Test.YthjkeefdeeljoaaPk25
import Derived.Test.YthjkeefdeeljoaaPk6
import Derived.Test.YthjkeefdeeljoaaPk31
/- The document's At, Offsets and Collect. -/
namespace Go.Proofs.Ythjkeefdeeljoaa
open Go.RowKit
set_option linter.unusedVariables false
/-- A row of whole numbers, those from the k-th on written. -/
def intsD (f : Nat → Int) (n k : Nat) : Array Value := ((List.range n).map fun i => Value.int .i64 (if k ≤ i then f i else 0)).toArray
theorem intsD_size (f : Nat → Int) (n k : Nat) : (intsD f n k).size = n := by simp [intsD]
theorem intsD_at (f : Nat → Int) (n k i : Nat) (h : i < n) : (intsD f n k)[i]? = some (.int .i64 (if k ≤ i then f i else 0)) := by
  simp [intsD, h]
theorem intsD_set (f : Nat → Int) (n k : Nat) (h : k < n) : (intsD f n (k + 1)).setIfInBounds k (.int .i64 (f k)) = intsD f n k := by
  apply Array.ext
  · simp [intsD]
  · intro i h1 h2
    have hi : i < n := by rw [intsD_size] at h2; exact h2
    rw [Array.getElem_setIfInBounds (by rw [intsD_size]; exact hi)]
    by_cases e : k = i
    · subst e
      rw [if_pos rfl]
      simp [intsD]
    · rw [if_neg e]
      simp only [intsD, List.getElem_toArray, List.getElem_map, List.getElem_range]
      by_cases h3 : k + 1 ≤ i
      · rw [if_pos h3, if_pos (by omega)]
      · rw [if_neg h3, if_neg (by omega)]
theorem intsD_made (f : Nat → Int) (n : Nat) : madeCells #[Value.int .i64 0] n = intsD f n n := by
  apply Array.toList_inj.1
  rw [toList_madeCells_one]
  unfold intsD
  simp
  apply List.ext_getElem
  · simp
  · intro i h1 h2
    simp at h1 ⊢
    omega
theorem ReadsI.of_intsD {W : World} {C : Nat} {T : TypeId} {f : Nat → Int} {n : Nat} {L : List Int} (h : Blk W C T (intsD f n 0)) (hl : L.length = n) (hf : ∀ i, i < n → nth L i = f i) : ReadsI W .i64 (some ⟨C, 0, none⟩) L := fun i hi => by
  refine ⟨C, 0, rfl, ?_⟩
  rw [Nat.zero_add, h.cell, intsD_at f n 0 i (by omega), if_pos (by omega), hf i (by omega)]
end Go.Proofs.Ythjkeefdeeljoaa
namespace Go.Proofs.Ythjkeefdeeljoaa.Shp
open Go.RowKit Go.Proofs.Ythjkeefdeeljoaa.Num
set_option linter.unusedVariables false
set_option linter.unusedSimpArgs false

set_option maxRecDepth 100000 in
set_option maxHeartbeats 1000000 in
theorem rat_calls (xs : List Int) (A : Option Addr) (ca n p : Nat) (w : World) (hx : ReadsI w .i64 A xs) (hn : xs.length = n) (hok : sizeOk xs = true) (hp : (p : Int) < prod xs) :
    Calls Try.prog 98 #[.slice A n ca, .int .i64 (p : Int)] w fun e w' => ∃ D, e = .returned (.tuple #[.slice (some ⟨D, 0, none⟩) n n, .bool true]) ∧ Hid (ReadsI w' .i64 (some ⟨D, 0, none⟩) (digL xs p)) ∧ Hid (Below w.heap.size w w') := by
  have hok' := hok
  unfold sizeOk at hok'
  simp only [Bool.and_eq_true, decide_eq_true_eq] at hok'
  have hm := rightB_mem hok'.1
  have h1 := prod_pos_mem xs (fun x hx => (hm.2 x hx).1) (by omega)
  have hS := rsize2_calls xs A ca w hx (by omega)
  rw [hok, if_pos rfl, hn] at hS
  have HS := Lib.hid hS
  have HX := Lib.hid hx
  have H1 := Lib.hid h1
  have HNN := Lib.hid hn
  have HM := Lib.hid hm.2
  have hn6 : n ≤ 6 := by omega
  have hpb : (p : Int) ≤ 1048576 := by omega
  have HP6 := Lib.hid (show n ≤ 6 from hn6)
  obtain ⟨f, hf⟩ : ∃ f : Nat → Int, f = fun i => (dg xs p i : Int) := ⟨_, rfl⟩
  have HF := Lib.hid hf
  have hmk := make_ints n (by omega)
  rw [intsD_made f n] at hmk
  generalize prod xs = P at *
  have hp0 : decide ((p : Int) < 0) = false := by simp
  have hp1 : decide (P ≤ (p : Int)) = false := by simp; omega
  clear hx hn hok hok' hm h1 hS hf
  go_enter Try.func98, Try.ntmps98
  go_wp2_with fail
  refine HS.out.mono ?_
  rintro e w1 ⟨rfl, hB⟩
  have HX1 := Lib.hid (HX.out.below hB)
  have HB1 := Lib.hid hB
  clear hB HX HS
  go_wp2_with fail
  obtain ⟨W3, D, hW3, hD, hB3, hr3⟩ : ∃ (W : World) (D : Nat), W = w1.alloc (.cells (intsD f n n) 3) ∧ D = w1.heap.size ∧ Below D w1 W ∧ Blk W D 3 (intsD f n n) := ⟨_, _, rfl, rfl, bl_alloc (Below.refl _ _) _, Blk.new _ _ _⟩
  rw [← hW3, ← hD]
  have hB3' : Below w1.heap.size w1 W3 := by rw [← hD]; exact hB3
  have HXR : Hid (∀ wr, Wrote W3 wr D 0 n → ReadsI wr .i64 A xs) := Lib.hid (fun wr h => readsI_wrote HX1.out hD hB3 h)
  have HAD : Hid (∀ i, i < xs.length → ∀ b off, A = some ⟨b, off, none⟩ → b ≠ D) := Lib.hid (fun i hi b off e => by
    obtain ⟨b', off', e', hc⟩ := HX1.out i hi
    rw [e] at e'
    injection e' with e'
    injection e' with e1 e2
    have h := World.block_lt_of_cell? _ _ hc
    have h2 : b' < w1.heap.size := h
    omega)
  have HB3 := Lib.hid (bl_then HB1.out hB3')
  have HDW : Hid (w.heap.size ≤ D) := Lib.hid (by rw [hD]; exact HB1.out.size)
  have HR3 := Lib.hid hr3
  clear hW3 hD hB3 hr3 hB3' HX1 HB1 hmk
  go_wp2_with fail
  go_loopw [1, 9] (fun pl i wr => ∃ m q : Nat, i = .int .i64 ((m : Int) - 1) ∧ m ≤ n ∧ pl = .int .i64 (q : Int) ∧ q ≤ p ∧ Hid (0 < m → q = p / sp xs (m - 1)) ∧ Hid (Blk wr D 3 (intsD f n m)) ∧ Hid (Wrote W3 wr D 0 n)) (fun pl i _ => (intOf i + 1).toNat)
  case atStart => exact ⟨n, p, rfl, Nat.le_refl _, rfl, Nat.le_refl _, Lib.hid (fun h => by
    have e : sp xs (n - 1) = 1 := by rw [← HNN.out]; exact sp_last xs
    rw [e, Nat.div_one]), HR3, Lib.hid (Wrote.refl _ _ _ _)⟩
  case round =>
    obtain ⟨m, q, rfl, hm, rfl, hqp, HQ, HBK, HWR⟩ := hrel
    cases m with
    | zero =>
      rw [show (((0 : Nat) : Int) - 1) = -1 from rfl]
      go_wp2_with fail
      go_ret2
      refine ⟨D, rfl, Lib.hid (ReadsI.of_intsD HBK.out (by rw [digL_length, HNN.out]) (fun i hi => ?_)), Lib.hid (HB3.out.trans (HWR.out.below HDW.out))⟩
      rw [HF.out]
      have hi' : i < xs.length := by rw [HNN.out]; exact hi
      rw [nth_eq _ _ (by rw [digL_length]; exact hi')]
      simp [digL, atL]
    | succ k =>
      rw [show (((k + 1 : Nat) : Int) - 1) = (k : Int) by omega]
      have hkn : k < n := by omega
      have hkn' : k < xs.length := by rw [HNN.out]; exact hkn
      obtain ⟨bA, oA, eA, cA⟩ := HXR.out wr HWR.out k hkn'
      have hx1 := H1.out _ (nth_mem xs k hkn')
      have hx2 := (HM.out _ (nth_mem xs k hkn')).2
      have hqe : q = p / sp xs k := HQ.out (by omega)
      obtain ⟨y, hy⟩ := Int.eq_ofNat_of_zero_le (show 0 ≤ nth xs k by omega)
      obtain ⟨r, hr⟩ : ∃ r, q % y = r := ⟨_, rfl⟩
      obtain ⟨s, hs⟩ : ∃ s, q / y = s := ⟨_, rfl⟩
      have hfk : f k = (r : Int) := by
        rw [HF.out]
        show ((p / sp xs k % (nth xs k).toNat : Nat) : Int) = _
        rw [← hqe, hy, Int.toNat_natCast, hr]
      have HS2 : Hid (0 < k → s = p / sp xs (k - 1)) := Lib.hid (fun h0 => by
        have e := sp_step xs H1.out (k - 1) (by omega)
        rw [show k - 1 + 1 = k by omega, hy, Int.toNat_natCast] at e
        rw [e, ← Nat.div_div_eq_div_mul, ← hqe, hs])
      have cD : wr.cell? ⟨D, k, none⟩ = some (.int .i64 0) := by rw [HBK.out.cell, intsD_at f n (k + 1) k hkn, if_neg (by omega)]
      have cDf := HBK.out.frozen k
      have HSET := Lib.hid (intsD_set f n k hkn)
      rw [hfk] at HSET
      rw [hy] at cA hx1 hx2
      have hne := HAD.out k hkn' bA oA eA
      have cA2 : (wr.setCell ⟨D, k, none⟩ (.int .i64 (r : Int))).cell? ⟨bA, oA + k, none⟩ = some (.int .i64 (y : Int)) := (World.cell?_setCell_other _ _ _ _ (by intro e; injection e; omega)).trans cA
      have q1 : Int.tmod (q : Int) (y : Int) = (r : Int) := by rw [← hr]; rfl
      have q2 : Int.tdiv (q : Int) (y : Int) = (s : Int) := by rw [← hs]; rfl
      have hrq : r ≤ q := by rw [← hr]; exact Nat.mod_le _ _
      have hsq : s ≤ q := by rw [← hs]; exact Nat.div_le_self _ _
      have z1 : ((y : Int) == 0) = false := by simp; omega
      have z2 : ¬ ((y : Int) = 0) := by omega
      have w1' : IntKind.i64.wrap (r : Int) = (r : Int) := by rw [IntKind.wrap_i64]; omega
      have w2' : IntKind.i64.wrap (s : Int) = (s : Int) := by rw [IntKind.wrap_i64]; omega
      have hki : (k : Int) < (n : Int) := by omega
      have HSP : Hid (s ≤ p) := Lib.hid (by omega)
      rw [eA] at *
      clear hx1 hx2 hqe hy hr hs hfk eA hrq hsq hkn'
      go_wp2_with fail
      go_roundw
      case measure => first | (simp [intOf]; done) | (simp [intOf]; omega)
      case rel =>
        refine ⟨k, s, rfl, by omega, rfl, HSP.out, HS2, Lib.hid ?_, Lib.hid (HWR.out.set k _ (by omega) (by omega))⟩
        rw [← HSET.out]
        exact HBK.out.set k _
end Go.Proofs.Ythjkeefdeeljoaa.Shp
/- The document's Offsets and Collect. -/
namespace Go.Proofs.Ythjkeefdeeljoaa.Shp
open Go.RowKit Go.Proofs.Ythjkeefdeeljoaa.Num
set_option linter.unusedVariables false
set_option linter.unusedSimpArgs false

theorem rsz_calls (xs : List Int) (A B : Option Addr) (ca cb n m : Nat) (off : Int) (w : World) (hx : ReadsI w .i64 A xs) (hn : xs.length = n) (hl : n ≤ 1000000) (P : Int) (hok : sizeOk xs = true) (hP : prod xs = P) :
    Calls Try.prog 97 #[.agg #[.slice A n ca, .slice B m cb, .int .i64 off]] w fun e w' => e = .returned (.int .i64 P) ∧ Below w.heap.size w w' := by
  have HB0 : Hid (Below w.heap.size w (w.alloc (.cells #[.slice A n ca, .slice B m cb, .int .i64 off] 24))) := Lib.hid (bl_alloc (Below.refl _ _) _)
  have hS := rsize2_calls xs A ca _ (hx.below HB0.out) (by omega)
  rw [hok, if_pos rfl, hn, hP] at hS
  have HS := Lib.hid hS
  clear hx hn hok hP hS
  go_enter Try.func97, Try.ntmps97
  go_wp2_with fail
  refine HS.out.mono ?_
  rintro e w1 ⟨rfl, hB⟩
  have HB := Lib.hid (bl_then HB0.out hB)
  clear hB
  go_wp2_with fail
  go_ret
  exact ⟨rfl, HB.out⟩
/-- What stays, k places having been told. -/
structure RofI (A B : Option Addr) (ca cb n m : Nat) (off : Int) (L : List Int) (v : Value) (w W : World) : Prop where
  own : OwnI W (w.heap.size + 1) 3 .i64 v L
  box : Blk W w.heap.size 24 #[.slice A n ca, .slice B m cb, .int .i64 off]
  below : Below w.heap.size w W
  sz : w.heap.size + 1 ≤ W.heap.size
theorem RofI.later {A B : Option Addr} {ca cb n m : Nat} {off : Int} {L : List Int} {v : Value} {w W W' : World} (h : RofI A B ca cb n m off L v w W) (hb : Below W.heap.size W W') : RofI A B ca cb n m off L v w W' :=
  ⟨own_below h.own hb, h.box.below' hb, bl_then h.below hb, Nat.le_trans h.sz hb.size⟩
set_option maxRecDepth 100000 in
set_option maxHeartbeats 2000000 in
theorem roffs_calls (xs ys : List Int) (off : Int) (A B : Option Addr) (ca cb n m N : Nat) (w : World) (hx : ReadsI w .i64 A xs) (hy : ReadsI w .i64 B ys) (hn : xs.length = n) (hm : ys.length = m) (hv : vrB xs ys off = true) (hN : prod xs = (N : Int)) :
    Calls Try.prog 50 #[.agg #[.slice A n ca, .slice B m cb, .int .i64 off]] w fun e w' => (∃ v, e = .returned v ∧ ShowsI w' .i64 v ((List.range N).map (plO xs ys off))) ∧ Below w.heap.size w w' := by
  obtain ⟨v1, v2, v3, v4, v5⟩ := vrB_out hv
  have hok' := v1
  unfold sizeOk at hok'
  simp only [Bool.and_eq_true, decide_eq_true_eq] at hok'
  have hl6 := (rightB_mem hok'.1).1
  have HX := Lib.hid hx
  have HY := Lib.hid hy
  have HNN := Lib.hid hn
  have HMM := Lib.hid hm
  have HOK := Lib.hid v1
  have HV := Lib.hid hv
  have HPN := Lib.hid hN
  have hn6 : n ≤ 6 := by omega
  obtain rfl : m = n := by omega
  have hN20 : N ≤ 1048576 := by have := hok'.2; omega
  have hI0 : RofI A B ca cb m m off [] (.slice none 0 0) w (w.alloc (.cells #[.slice A m ca, .slice B m cb, .int .i64 off] 24)) := ⟨ownI_nil _ _ _ _, Blk.new _ _ _, bl_alloc (Below.refl _ _) _, by simp⟩
  have HI0 := Lib.hid hI0
  clear hx hy hn hm hv hN v1 v2 v3 v4 v5 hok' hl6 hI0
  go_enter Try.func50, Try.ntmps50
  go_wp2_with fail
  go_loopw [3, 4] (fun t3 t4 wr => ∃ (k : Nat) (v : Value), v = t3 ∧ t4 = .int .i64 k ∧ k ≤ N ∧ Hid (RofI A B ca cb m m off ((List.range k).map (plO xs ys off)) v w wr)) (fun _ i _ => N - (intOf i).toNat)
  case atStart => exact ⟨0, _, rfl, rfl, Nat.zero_le _, HI0⟩
  case round =>
    obtain ⟨k, v, rfl, rfl, hk, HI⟩ := hrel
    have c0 : wr.cell? ⟨w.heap.size, 0, none⟩ = some (.slice A m ca) := HI.out.box.cell 0
    have c1 : wr.cell? ⟨w.heap.size, 1, none⟩ = some (.slice B m cb) := HI.out.box.cell 1
    have c2 : wr.cell? ⟨w.heap.size, 2, none⟩ = some (.int .i64 off) := HI.out.box.cell 2
    have HSZ := Lib.hid (rsz_calls xs A B ca cb m m off wr (HX.out.below HI.out.below) HNN.out (by omega) (N : Int) HOK.out HPN.out)
    by_cases hlt : k < N
    · go_wp2_with fail
      refine HSZ.out.mono ?_
      rintro e w1 ⟨rfl, hB⟩
      have HI1 := Lib.hid (HI.out.later hB)
      clear hB HI HSZ c0 c1 c2
      have c0 : w1.cell? ⟨w.heap.size, 0, none⟩ = some (.slice A m ca) := HI1.out.box.cell 0
      have hpk : (k : Int) < prod xs := by rw [HPN.out]; omega
      have HAT := Lib.hid (rat_calls xs A ca m k w1 (HX.out.below HI1.out.below) HNN.out HOK.out hpk)
      clear hpk
      go_wp2_with fail
      refine HAT.out.mono ?_
      rintro e w2 ⟨D, rfl, HRD, HBD⟩
      have HI2 := Lib.hid (HI1.out.later HBD.out)
      clear HI1 HAT c0 HBD
      have c2 : w2.cell? ⟨w.heap.size, 2, none⟩ = some (.int .i64 off) := HI2.out.box.cell 2
      go_wp2_with fail
      go_loopw [7, 8] (fun t7 t8 w3 => ∃ i : Nat, t8 = .int .i64 i ∧ i ≤ m ∧ t7 = .int .i64 (off + dotI (digL xs k) ys i) ∧ Hid (RofI A B ca cb m m off ((List.range k).map (plO xs ys off)) v w w3) ∧ Hid (ReadsI w3 .i64 (some ⟨D, 0, none⟩) (digL xs k))) (fun _ i _ => m - (intOf i).toNat)
      case atStart => exact ⟨0, rfl, Nat.zero_le _, by simp [dotI], HI2, HRD⟩
      case round =>
        clear HI2 HRD c2
        obtain ⟨i, rfl, hi, rfl, HI3, HR3⟩ := hrel
        by_cases hli : i < m
        · obtain ⟨bD, oD, eD, cD⟩ := HR3.out i (by rw [digL_length, HNN.out]; exact hli)
          obtain ⟨bB, oB, eB, cB⟩ := (HY.out.below HI3.out.below) i (by rw [HMM.out]; exact hli)
          injection eD with eD
          injection eD with e1 e2
          subst e1
          subst e2
          rw [Nat.zero_add] at cD
          have c1 : wr.cell? ⟨w.heap.size, 1, none⟩ = some (.slice B m cb) := HI3.out.box.cell 1
          rw [eB] at c1
          obtain ⟨b1, b2, b3, b4, b5, b6, b7, b8, b9⟩ := view_bounds HV.out (by rw [HPN.out]; omega)
          have hbd := dotI_bd xs (digL xs k) ys (fun j hj => by
            rw [digL_nth xs k j hj]
            have e : digF xs k j = dg xs k j := if_pos hj
            have hd : dg xs k j < (nth xs j).toNat := Nat.mod_lt _ (by have := b3 j hj; omega)
            have := b3 j hj
            omega) b4
          have q1 := hbd i (by rw [HNN.out]; exact hi)
          have q2 := hbd (i + 1) (by rw [HNN.out]; exact hli)
          have hst : dotI (digL xs k) ys (i + 1) = dotI (digL xs k) ys i + nth (digL xs k) i * nth ys i := rfl
          rw [hst] at q2
          have a1 := b4 i (by rw [HNN.out]; exact hli)
          have a2 : 0 ≤ nth (digL xs k) i ∧ nth (digL xs k) i ≤ 1048576 := by
            have hj : i < xs.length := by rw [HNN.out]; exact hli
            rw [digL_nth xs k i hj]
            have e : digF xs k i = dg xs k i := if_pos hj
            have hd : dg xs k i < (nth xs i).toNat := Nat.mod_lt _ (by have := b3 i hj; omega)
            have := b3 i hj
            omega
          have mb := mul_bd a2.1 a2.2 a1.1 a1.2
          have HST := Lib.hid hst
          clear hst a1 a2 b1 b2 b3 b4 b5 b6 b7 hbd
          generalize dotI (digL xs k) ys i = s at *
          generalize nth (digL xs k) i = a at *
          generalize nth ys i = b at *
          obtain ⟨t, ht⟩ : ∃ t, a * b = t := ⟨_, rfl⟩
          rw [ht] at mb q2 HST
          have w1' : IntKind.i64.wrap t = t := by rw [IntKind.wrap_i64]; omega
          have w2' : IntKind.i64.wrap (off + s + t) = off + s + t := by rw [IntKind.wrap_i64]; omega
          have hlii : (i : Int) < (m : Int) := by omega
          clear mb q1 q2 eB
          go_wp2_with fail
          go_quiet (fail)
          all_goals
            go_wp2_with fail
            go_roundw
            case measure => first | (simp [intOf]; done) | (simp [intOf]; omega)
            case rel => exact ⟨i + 1, by go_num, by omega, by rw [HST.out, ← Int.add_assoc], Lib.hid (HI3.out.later (bl_drewN (Below.refl _ _) _)), Lib.hid HR3.out⟩
        · obtain rfl : i = m := by omega
          obtain ⟨P, hP⟩ : ∃ P, off + dotI (digL xs k) ys i = P := ⟨_, rfl⟩
          have HPP : Hid (P = plO xs ys off k) := Lib.hid (by
            rw [← hP]
            unfold plO
            rw [← HNN.out, dotI_dig xs ys k xs.length (Nat.le_refl _)])
          rw [hP]
          have hlen : ((List.range k).map (plO xs ys off)).length = k := by simp
          have hown : (wr.alloc (.cells #[.int .i64 P] 3)).ownsRow (w.heap.size + 1) 3 1 v k (((List.range k).map (plO xs ys off)).map (Value.int .i64)) := by
            have h := HI3.out.own.alloc (.cells #[.int .i64 P] 3)
            rwa [hlen] at h
          have hsh : Shows (wr.alloc (.cells #[.int .i64 P] 3)) (some ⟨wr.heap.size, 0, none⟩) [.int .i64 P] := Shows.of_blk (Blk.new wr 3 #[.int .i64 P])
          have HOWN := Lib.hid hown
          have HSH := Lib.hid hsh
          have hsz3 := HI3.out.sz
          clear hown hsh hP hlen HR3
          go_wp2_with (at_builtin; go_must (refine wpList_app rfl (.tmp 42) (.tmp 44) 22 rfl 3 (w.heap.size + 1) (.int .i64 0) 1 8 Try.underlying22 (info_i trivial) rfl (by decide) v k _ rfl HOWN.out (some ⟨wr.heap.size, 0, none⟩) 1 1 [.int .i64 P] rfl rfl HSH.out (by simp [Value.oneCell']) (by simp only [maxLen]; omega) (by omega) (by simp; omega) ?_); intro v1 w4 hown1 hg1 hb1; have HOWN1 := Lib.hid hown1; have HG1 := Lib.hid hg1; clear hown1 hg1 hb1)
          go_roundw
          case measure => first | (simp [intOf]; done) | (simp [intOf]; omega)
          case rel =>
            have hlen : ((List.range k).map (plO xs ys off)).length = k := by simp
            have hne : some w.heap.size ≠ v.ownBlock := fun e => by have := (own_lt HOWN.out _ e.symm).1; omega
            refine ⟨k + 1, v1, rfl, by go_num, by omega, Lib.hid ⟨?_, (HI3.out.box.alloc _).grown HG1.out hne, bl_grown (bl_alloc HI3.out.below _) HG1.out (fun r hr => by have := (own_lt HOWN.out r hr).1; omega), by have := HG1.out.size; simp at this; omega⟩⟩
            have e1 : (List.range (k + 1)).map (plO xs ys off) = (List.range k).map (plO xs ys off) ++ [P] := by rw [List.range_succ, List.map_append, HPP.out]; rfl
            rw [e1]
            refine OwnI.snoc ?_
            rw [hlen]
            exact HOWN1.out
    · obtain rfl : k = N := by omega
      go_wp2_with fail
      refine HSZ.out.mono ?_
      rintro e w1 ⟨rfl, hB⟩
      have HI1 := Lib.hid (HI.out.later hB)
      clear hB
      go_wp2_with fail
      go_ret
      exact ⟨⟨v, rfl, HI1.out.own.shows⟩, HI1.out.below⟩
end Go.Proofs.Ythjkeefdeeljoaa.Shp
