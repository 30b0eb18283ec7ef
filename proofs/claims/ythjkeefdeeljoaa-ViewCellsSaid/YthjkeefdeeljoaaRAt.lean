/- The document's At, Offsets and Collect. -/
import Derived.Test.YthjkeefdeeljoaaViewR
import Derived.Test.YthjkeefdeeljoaaVNew
import Derived.Test.YthjkeefdeeljoaaApp
namespace Go.Proofs.Ythjkeefdeeljoaa
open Go.RowKit
set_option linter.unusedVariables false
/-- A row of whole numbers, those from the k-th on written. -/
def intsD (f : Nat → Int) (n k : Nat) : Array Value := ((List.range n).map fun i => Value.int .i64 (if k ≤ i then f i else 0)).toArray
theorem intsD_size (f : Nat → Int) (n k : Nat) : (intsD f n k).size = n := by simp [intsD]
theorem intsD_at (f : Nat → Int) (n k i : Nat) (h : i < n) : (intsD f n k)[i]? = some (.int .i64 (if k ≤ i then f i else 0)) := by
  simp [intsD, h]
theorem intsD_set (f : Nat → Int) (n k : Nat) (h : k < n) : (intsD f n (k + 1)).setIfInBounds k (.int .i64 (f k)) = intsD f n k := by
  apply Array.ext
  · simp [intsD]
  · intro i h1 h2
    have hi : i < n := by rw [intsD_size] at h2; exact h2
    rw [Array.getElem_setIfInBounds (by rw [intsD_size]; exact hi)]
    by_cases e : k = i
    · subst e
      rw [if_pos rfl]
      simp [intsD]
    · rw [if_neg e]
      simp only [intsD, List.getElem_toArray, List.getElem_map, List.getElem_range]
      by_cases h3 : k + 1 ≤ i
      · rw [if_pos h3, if_pos (by omega)]
      · rw [if_neg h3, if_neg (by omega)]
theorem intsD_made (f : Nat → Int) (n : Nat) : madeCells #[Value.int .i64 0] n = intsD f n n := by
  apply Array.toList_inj.1
  rw [toList_madeCells_one]
  unfold intsD
  simp
  apply List.ext_getElem
  · simp
  · intro i h1 h2
    simp at h1 ⊢
    omega
theorem ReadsI.of_intsD {W : World} {C : Nat} {T : TypeId} {f : Nat → Int} {n : Nat} {L : List Int} (h : Blk W C T (intsD f n 0)) (hl : L.length = n) (hf : ∀ i, i < n → nth L i = f i) : ReadsI W .i64 (some ⟨C, 0, none⟩) L := fun i hi => by
  refine ⟨C, 0, rfl, ?_⟩
  rw [Nat.zero_add, h.cell, intsD_at f n 0 i (by omega), if_pos (by omega), hf i (by omega)]
end Go.Proofs.Ythjkeefdeeljoaa
namespace Go.Proofs.Ythjkeefdeeljoaa.Shp
open Go.RowKit Go.Proofs.Ythjkeefdeeljoaa.Num
set_option linter.unusedVariables false
set_option linter.unusedSimpArgs false

set_option maxRecDepth 100000 in
set_option maxHeartbeats 1000000 in
theorem rat_calls (xs : List Int) (A : Option Addr) (ca n p : Nat) (w : World) (hx : ReadsI w .i64 A xs) (hn : xs.length = n) (hok : sizeOk xs = true) (hp : (p : Int) < prod xs) :
    Calls Try.prog 98 #[.slice A n ca, .int .i64 (p : Int)] w fun e w' => ∃ D, e = .returned (.tuple #[.slice (some ⟨D, 0, none⟩) n n, .bool true]) ∧ Hid (ReadsI w' .i64 (some ⟨D, 0, none⟩) (digL xs p)) ∧ Hid (Below w.heap.size w w') := by
  have hok' := hok
  unfold sizeOk at hok'
  simp only [Bool.and_eq_true, decide_eq_true_eq] at hok'
  have hm := rightB_mem hok'.1
  have h1 := prod_pos_mem xs (fun x hx => (hm.2 x hx).1) (by omega)
  have hS := rsize2_calls xs A ca w hx (by omega)
  rw [hok, if_pos rfl, hn] at hS
  have HS := Lib.hid hS
  have HX := Lib.hid hx
  have H1 := Lib.hid h1
  have HNN := Lib.hid hn
  have HM := Lib.hid hm.2
  have hn6 : n ≤ 6 := by omega
  have hpb : (p : Int) ≤ 1048576 := by omega
  have HP6 := Lib.hid (show n ≤ 6 from hn6)
  obtain ⟨f, hf⟩ : ∃ f : Nat → Int, f = fun i => (dg xs p i : Int) := ⟨_, rfl⟩
  have HF := Lib.hid hf
  have hmk := make_ints n (by omega)
  rw [intsD_made f n] at hmk
  generalize prod xs = P at *
  have hp0 : decide ((p : Int) < 0) = false := by simp
  have hp1 : decide (P ≤ (p : Int)) = false := by simp; omega
  clear hx hn hok hok' hm h1 hS hf
  go_enter Try.func98, Try.ntmps98
  go_wp2_with fail
  refine HS.out.mono ?_
  rintro e w1 ⟨rfl, hB⟩
  have HX1 := Lib.hid (HX.out.below hB)
  have HB1 := Lib.hid hB
  clear hB HX HS
  go_wp2_with fail
  obtain ⟨W3, D, hW3, hD, hB3, hr3⟩ : ∃ (W : World) (D : Nat), W = w1.alloc (.cells (intsD f n n) 3) ∧ D = w1.heap.size ∧ Below D w1 W ∧ Blk W D 3 (intsD f n n) := ⟨_, _, rfl, rfl, bl_alloc (Below.refl _ _) _, Blk.new _ _ _⟩
  rw [← hW3, ← hD]
  have hB3' : Below w1.heap.size w1 W3 := by rw [← hD]; exact hB3
  have HXR : Hid (∀ wr, Wrote W3 wr D 0 n → ReadsI wr .i64 A xs) := Lib.hid (fun wr h => readsI_wrote HX1.out hD hB3 h)
  have HAD : Hid (∀ i, i < xs.length → ∀ b off, A = some ⟨b, off, none⟩ → b ≠ D) := Lib.hid (fun i hi b off e => by
    obtain ⟨b', off', e', hc⟩ := HX1.out i hi
    rw [e] at e'
    injection e' with e'
    injection e' with e1 e2
    have h := World.block_lt_of_cell? _ _ hc
    have h2 : b' < w1.heap.size := h
    omega)
  have HB3 := Lib.hid (bl_then HB1.out hB3')
  have HDW : Hid (w.heap.size ≤ D) := Lib.hid (by rw [hD]; exact HB1.out.size)
  have HR3 := Lib.hid hr3
  clear hW3 hD hB3 hr3 hB3' HX1 HB1 hmk
  go_wp2_with fail
  go_loopw [1, 9] (fun pl i wr => ∃ m q : Nat, i = .int .i64 ((m : Int) - 1) ∧ m ≤ n ∧ pl = .int .i64 (q : Int) ∧ q ≤ p ∧ Hid (0 < m → q = p / sp xs (m - 1)) ∧ Hid (Blk wr D 3 (intsD f n m)) ∧ Hid (Wrote W3 wr D 0 n)) (fun pl i _ => (intOf i + 1).toNat)
  case atStart => exact ⟨n, p, rfl, Nat.le_refl _, rfl, Nat.le_refl _, Lib.hid (fun h => by
    have e : sp xs (n - 1) = 1 := by rw [← HNN.out]; exact sp_last xs
    rw [e, Nat.div_one]), HR3, Lib.hid (Wrote.refl _ _ _ _)⟩
  case round =>
    obtain ⟨m, q, rfl, hm, rfl, hqp, HQ, HBK, HWR⟩ := hrel
    cases m with
    | zero =>
      rw [show (((0 : Nat) : Int) - 1) = -1 from rfl]
      go_wp2_with fail
      go_ret2
      refine ⟨D, rfl, Lib.hid (ReadsI.of_intsD HBK.out (by rw [digL_length, HNN.out]) (fun i hi => ?_)), Lib.hid (HB3.out.trans (HWR.out.below HDW.out))⟩
      rw [HF.out]
      have hi' : i < xs.length := by rw [HNN.out]; exact hi
      rw [nth_eq _ _ (by rw [digL_length]; exact hi')]
      simp [digL, atL]
    | succ k =>
      rw [show (((k + 1 : Nat) : Int) - 1) = (k : Int) by omega]
      have hkn : k < n := by omega
      have hkn' : k < xs.length := by rw [HNN.out]; exact hkn
      obtain ⟨bA, oA, eA, cA⟩ := HXR.out wr HWR.out k hkn'
      have hx1 := H1.out _ (nth_mem xs k hkn')
      have hx2 := (HM.out _ (nth_mem xs k hkn')).2
      have hqe : q = p / sp xs k := HQ.out (by omega)
      obtain ⟨y, hy⟩ := Int.eq_ofNat_of_zero_le (show 0 ≤ nth xs k by omega)
      obtain ⟨r, hr⟩ : ∃ r, q % y = r := ⟨_, rfl⟩
      obtain ⟨s, hs⟩ : ∃ s, q / y = s := ⟨_, rfl⟩
      have hfk : f k = (r : Int) := by
        rw [HF.out]
        show ((p / sp xs k % (nth xs k).toNat : Nat) : Int) = _
        rw [← hqe, hy, Int.toNat_natCast, hr]
      have HS2 : Hid (0 < k → s = p / sp xs (k - 1)) := Lib.hid (fun h0 => by
        have e := sp_step xs H1.out (k - 1) (by omega)
        rw [show k - 1 + 1 = k by omega, hy, Int.toNat_natCast] at e
        rw [e, ← Nat.div_div_eq_div_mul, ← hqe, hs])
      have cD : wr.cell? ⟨D, k, none⟩ = some (.int .i64 0) := by rw [HBK.out.cell, intsD_at f n (k + 1) k hkn, if_neg (by omega)]
      have cDf := HBK.out.frozen k
      have HSET := Lib.hid (intsD_set f n k hkn)
      rw [hfk] at HSET
      rw [hy] at cA hx1 hx2
      have hne := HAD.out k hkn' bA oA eA
      have cA2 : (wr.setCell ⟨D, k, none⟩ (.int .i64 (r : Int))).cell? ⟨bA, oA + k, none⟩ = some (.int .i64 (y : Int)) := (World.cell?_setCell_other _ _ _ _ (by intro e; injection e; omega)).trans cA
      have q1 : Int.tmod (q : Int) (y : Int) = (r : Int) := by rw [← hr]; rfl
      have q2 : Int.tdiv (q : Int) (y : Int) = (s : Int) := by rw [← hs]; rfl
      have hrq : r ≤ q := by rw [← hr]; exact Nat.mod_le _ _
      have hsq : s ≤ q := by rw [← hs]; exact Nat.div_le_self _ _
      have z1 : ((y : Int) == 0) = false := by simp; omega
      have z2 : ¬ ((y : Int) = 0) := by omega
      have w1' : IntKind.i64.wrap (r : Int) = (r : Int) := by rw [IntKind.wrap_i64]; omega
      have w2' : IntKind.i64.wrap (s : Int) = (s : Int) := by rw [IntKind.wrap_i64]; omega
      have hki : (k : Int) < (n : Int) := by omega
      have HSP : Hid (s ≤ p) := Lib.hid (by omega)
      rw [eA] at *
      clear hx1 hx2 hqe hy hr hs hfk eA hrq hsq hkn'
      go_wp2_with fail
      go_roundw
      case measure => first | (simp [intOf]; done) | (simp [intOf]; omega)
      case rel =>
        refine ⟨k, s, rfl, by omega, rfl, HSP.out, HS2, Lib.hid ?_, Lib.hid (HWR.out.set k _ (by omega) (by omega))⟩
        rw [← HSET.out]
        exact HBK.out.set k _
end Go.Proofs.Ythjkeefdeeljoaa.Shp
