/- The document's Offsets and Collect. -/
import Derived.Test.YthjkeefdeeljoaaRAt
import Derived.Test.YthjkeefdeeljoaaOffset
namespace Go.Proofs.Ythjkeefdeeljoaa.Shp
open Go.RowKit Go.Proofs.Ythjkeefdeeljoaa.Num
set_option linter.unusedVariables false
set_option linter.unusedSimpArgs false

theorem rsz_calls (xs : List Int) (A B : Option Addr) (ca cb n m : Nat) (off : Int) (w : World) (hx : ReadsI w .i64 A xs) (hn : xs.length = n) (hl : n ≤ 1000000) (P : Int) (hok : sizeOk xs = true) (hP : prod xs = P) :
    Calls Try.prog 97 #[.agg #[.slice A n ca, .slice B m cb, .int .i64 off]] w fun e w' => e = .returned (.int .i64 P) ∧ Below w.heap.size w w' := by
  have HB0 : Hid (Below w.heap.size w (w.alloc (.cells #[.slice A n ca, .slice B m cb, .int .i64 off] 24))) := Lib.hid (bl_alloc (Below.refl _ _) _)
  have hS := rsize2_calls xs A ca _ (hx.below HB0.out) (by omega)
  rw [hok, if_pos rfl, hn, hP] at hS
  have HS := Lib.hid hS
  clear hx hn hok hP hS
  go_enter Try.func97, Try.ntmps97
  go_wp2_with fail
  refine HS.out.mono ?_
  rintro e w1 ⟨rfl, hB⟩
  have HB := Lib.hid (bl_then HB0.out hB)
  clear hB
  go_wp2_with fail
  go_ret
  exact ⟨rfl, HB.out⟩
/-- What stays, k places having been told. -/
structure RofI (A B : Option Addr) (ca cb n m : Nat) (off : Int) (L : List Int) (v : Value) (w W : World) : Prop where
  own : OwnI W (w.heap.size + 1) 3 .i64 v L
  box : Blk W w.heap.size 24 #[.slice A n ca, .slice B m cb, .int .i64 off]
  below : Below w.heap.size w W
  sz : w.heap.size + 1 ≤ W.heap.size
theorem RofI.later {A B : Option Addr} {ca cb n m : Nat} {off : Int} {L : List Int} {v : Value} {w W W' : World} (h : RofI A B ca cb n m off L v w W) (hb : Below W.heap.size W W') : RofI A B ca cb n m off L v w W' :=
  ⟨own_below h.own hb, h.box.below' hb, bl_then h.below hb, Nat.le_trans h.sz hb.size⟩
set_option maxRecDepth 100000 in
set_option maxHeartbeats 2000000 in
theorem roffs_calls (xs ys : List Int) (off : Int) (A B : Option Addr) (ca cb n m N : Nat) (w : World) (hx : ReadsI w .i64 A xs) (hy : ReadsI w .i64 B ys) (hn : xs.length = n) (hm : ys.length = m) (hv : vrB xs ys off = true) (hN : prod xs = (N : Int)) :
    Calls Try.prog 50 #[.agg #[.slice A n ca, .slice B m cb, .int .i64 off]] w fun e w' => (∃ v, e = .returned v ∧ ShowsI w' .i64 v ((List.range N).map (plO xs ys off))) ∧ Below w.heap.size w w' := by
  obtain ⟨v1, v2, v3, v4, v5⟩ := vrB_out hv
  have hok' := v1
  unfold sizeOk at hok'
  simp only [Bool.and_eq_true, decide_eq_true_eq] at hok'
  have hl6 := (rightB_mem hok'.1).1
  have HX := Lib.hid hx
  have HY := Lib.hid hy
  have HNN := Lib.hid hn
  have HMM := Lib.hid hm
  have HOK := Lib.hid v1
  have HV := Lib.hid hv
  have HPN := Lib.hid hN
  have hn6 : n ≤ 6 := by omega
  obtain rfl : m = n := by omega
  have hN20 : N ≤ 1048576 := by have := hok'.2; omega
  have hI0 : RofI A B ca cb m m off [] (.slice none 0 0) w (w.alloc (.cells #[.slice A m ca, .slice B m cb, .int .i64 off] 24)) := ⟨ownI_nil _ _ _ _, Blk.new _ _ _, bl_alloc (Below.refl _ _) _, by simp⟩
  have HI0 := Lib.hid hI0
  clear hx hy hn hm hv hN v1 v2 v3 v4 v5 hok' hl6 hI0
  go_enter Try.func50, Try.ntmps50
  go_wp2_with fail
  go_loopw [3, 4] (fun t3 t4 wr => ∃ (k : Nat) (v : Value), v = t3 ∧ t4 = .int .i64 k ∧ k ≤ N ∧ Hid (RofI A B ca cb m m off ((List.range k).map (plO xs ys off)) v w wr)) (fun _ i _ => N - (intOf i).toNat)
  case atStart => exact ⟨0, _, rfl, rfl, Nat.zero_le _, HI0⟩
  case round =>
    obtain ⟨k, v, rfl, rfl, hk, HI⟩ := hrel
    have c0 : wr.cell? ⟨w.heap.size, 0, none⟩ = some (.slice A m ca) := HI.out.box.cell 0
    have c1 : wr.cell? ⟨w.heap.size, 1, none⟩ = some (.slice B m cb) := HI.out.box.cell 1
    have c2 : wr.cell? ⟨w.heap.size, 2, none⟩ = some (.int .i64 off) := HI.out.box.cell 2
    have HSZ := Lib.hid (rsz_calls xs A B ca cb m m off wr (HX.out.below HI.out.below) HNN.out (by omega) (N : Int) HOK.out HPN.out)
    by_cases hlt : k < N
    · go_wp2_with fail
      refine HSZ.out.mono ?_
      rintro e w1 ⟨rfl, hB⟩
      have HI1 := Lib.hid (HI.out.later hB)
      clear hB HI HSZ c0 c1 c2
      have c0 : w1.cell? ⟨w.heap.size, 0, none⟩ = some (.slice A m ca) := HI1.out.box.cell 0
      have hpk : (k : Int) < prod xs := by rw [HPN.out]; omega
      have HAT := Lib.hid (rat_calls xs A ca m k w1 (HX.out.below HI1.out.below) HNN.out HOK.out hpk)
      clear hpk
      go_wp2_with fail
      refine HAT.out.mono ?_
      rintro e w2 ⟨D, rfl, HRD, HBD⟩
      have HI2 := Lib.hid (HI1.out.later HBD.out)
      clear HI1 HAT c0 HBD
      have c2 : w2.cell? ⟨w.heap.size, 2, none⟩ = some (.int .i64 off) := HI2.out.box.cell 2
      go_wp2_with fail
      go_loopw [7, 8] (fun t7 t8 w3 => ∃ i : Nat, t8 = .int .i64 i ∧ i ≤ m ∧ t7 = .int .i64 (off + dotI (digL xs k) ys i) ∧ Hid (RofI A B ca cb m m off ((List.range k).map (plO xs ys off)) v w w3) ∧ Hid (ReadsI w3 .i64 (some ⟨D, 0, none⟩) (digL xs k))) (fun _ i _ => m - (intOf i).toNat)
      case atStart => exact ⟨0, rfl, Nat.zero_le _, by simp [dotI], HI2, HRD⟩
      case round =>
        clear HI2 HRD c2
        obtain ⟨i, rfl, hi, rfl, HI3, HR3⟩ := hrel
        by_cases hli : i < m
        · obtain ⟨bD, oD, eD, cD⟩ := HR3.out i (by rw [digL_length, HNN.out]; exact hli)
          obtain ⟨bB, oB, eB, cB⟩ := (HY.out.below HI3.out.below) i (by rw [HMM.out]; exact hli)
          injection eD with eD
          injection eD with e1 e2
          subst e1
          subst e2
          rw [Nat.zero_add] at cD
          have c1 : wr.cell? ⟨w.heap.size, 1, none⟩ = some (.slice B m cb) := HI3.out.box.cell 1
          rw [eB] at c1
          obtain ⟨b1, b2, b3, b4, b5, b6, b7, b8, b9⟩ := view_bounds HV.out (by rw [HPN.out]; omega)
          have hbd := dotI_bd xs (digL xs k) ys (fun j hj => by
            rw [digL_nth xs k j hj]
            have e : digF xs k j = dg xs k j := if_pos hj
            have hd : dg xs k j < (nth xs j).toNat := Nat.mod_lt _ (by have := b3 j hj; omega)
            have := b3 j hj
            omega) b4
          have q1 := hbd i (by rw [HNN.out]; exact hi)
          have q2 := hbd (i + 1) (by rw [HNN.out]; exact hli)
          have hst : dotI (digL xs k) ys (i + 1) = dotI (digL xs k) ys i + nth (digL xs k) i * nth ys i := rfl
          rw [hst] at q2
          have a1 := b4 i (by rw [HNN.out]; exact hli)
          have a2 : 0 ≤ nth (digL xs k) i ∧ nth (digL xs k) i ≤ 1048576 := by
            have hj : i < xs.length := by rw [HNN.out]; exact hli
            rw [digL_nth xs k i hj]
            have e : digF xs k i = dg xs k i := if_pos hj
            have hd : dg xs k i < (nth xs i).toNat := Nat.mod_lt _ (by have := b3 i hj; omega)
            have := b3 i hj
            omega
          have mb := mul_bd a2.1 a2.2 a1.1 a1.2
          have HST := Lib.hid hst
          clear hst a1 a2 b1 b2 b3 b4 b5 b6 b7 hbd
          generalize dotI (digL xs k) ys i = s at *
          generalize nth (digL xs k) i = a at *
          generalize nth ys i = b at *
          obtain ⟨t, ht⟩ : ∃ t, a * b = t := ⟨_, rfl⟩
          rw [ht] at mb q2 HST
          have w1' : IntKind.i64.wrap t = t := by rw [IntKind.wrap_i64]; omega
          have w2' : IntKind.i64.wrap (off + s + t) = off + s + t := by rw [IntKind.wrap_i64]; omega
          have hlii : (i : Int) < (m : Int) := by omega
          clear mb q1 q2 eB
          go_wp2_with fail
          go_quiet (fail)
          all_goals
            go_wp2_with fail
            go_roundw
            case measure => first | (simp [intOf]; done) | (simp [intOf]; omega)
            case rel => exact ⟨i + 1, by go_num, by omega, by rw [HST.out, ← Int.add_assoc], Lib.hid (HI3.out.later (bl_drewN (Below.refl _ _) _)), Lib.hid HR3.out⟩
        · obtain rfl : i = m := by omega
          obtain ⟨P, hP⟩ : ∃ P, off + dotI (digL xs k) ys i = P := ⟨_, rfl⟩
          have HPP : Hid (P = plO xs ys off k) := Lib.hid (by
            rw [← hP]
            unfold plO
            rw [← HNN.out, dotI_dig xs ys k xs.length (Nat.le_refl _)])
          rw [hP]
          have hlen : ((List.range k).map (plO xs ys off)).length = k := by simp
          have hown : (wr.alloc (.cells #[.int .i64 P] 3)).ownsRow (w.heap.size + 1) 3 1 v k (((List.range k).map (plO xs ys off)).map (Value.int .i64)) := by
            have h := HI3.out.own.alloc (.cells #[.int .i64 P] 3)
            rwa [hlen] at h
          have hsh : Shows (wr.alloc (.cells #[.int .i64 P] 3)) (some ⟨wr.heap.size, 0, none⟩) [.int .i64 P] := Shows.of_blk (Blk.new wr 3 #[.int .i64 P])
          have HOWN := Lib.hid hown
          have HSH := Lib.hid hsh
          have hsz3 := HI3.out.sz
          clear hown hsh hP hlen HR3
          go_wp2_with (at_builtin; go_must (refine wpList_app rfl (.tmp 42) (.tmp 44) 22 rfl 3 (w.heap.size + 1) (.int .i64 0) 1 8 Try.underlying22 (info_i trivial) rfl (by decide) v k _ rfl HOWN.out (some ⟨wr.heap.size, 0, none⟩) 1 1 [.int .i64 P] rfl rfl HSH.out (by simp [Value.oneCell']) (by simp only [maxLen]; omega) (by omega) (by simp; omega) ?_); intro v1 w4 hown1 hg1 hb1; have HOWN1 := Lib.hid hown1; have HG1 := Lib.hid hg1; clear hown1 hg1 hb1)
          go_roundw
          case measure => first | (simp [intOf]; done) | (simp [intOf]; omega)
          case rel =>
            have hlen : ((List.range k).map (plO xs ys off)).length = k := by simp
            have hne : some w.heap.size ≠ v.ownBlock := fun e => by have := (own_lt HOWN.out _ e.symm).1; omega
            refine ⟨k + 1, v1, rfl, by go_num, by omega, Lib.hid ⟨?_, (HI3.out.box.alloc _).grown HG1.out hne, bl_grown (bl_alloc HI3.out.below _) HG1.out (fun r hr => by have := (own_lt HOWN.out r hr).1; omega), by have := HG1.out.size; simp at this; omega⟩⟩
            have e1 : (List.range (k + 1)).map (plO xs ys off) = (List.range k).map (plO xs ys off) ++ [P] := by rw [List.range_succ, List.map_append, HPP.out]; rfl
            rw [e1]
            refine OwnI.snoc ?_
            rw [hlen]
            exact HOWN1.out
    · obtain rfl : k = N := by omega
      go_wp2_with fail
      refine HSZ.out.mono ?_
      rintro e w1 ⟨rfl, hB⟩
      have HI1 := Lib.hid (HI.out.later hB)
      clear hB
      go_wp2_with fail
      go_ret
      exact ⟨⟨v, rfl, HI1.out.own.shows⟩, HI1.out.below⟩
end Go.Proofs.Ythjkeefdeeljoaa.Shp
