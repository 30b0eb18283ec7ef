/- odo.Collect; what law09 knows. -/
import Derived.Test.YthjkeefdeeljoaaPk31
import Derived.Test.YthjkeefdeeljoaaPk25
import Derived.Test.YthjkeefdeeljoaaPk10
namespace Go.Proofs.Ythjkeefdeeljoaa.Shp
open Go.RowKit Go.Shelf Go.Proofs.Ythjkeefdeeljoaa.Num
set_option linter.unusedVariables false
set_option linter.unusedSimpArgs false

theorem offsets_calls (v : Array Value) (w : World) : Calls Try.prog 16 #[.agg v] w fun e w' => e = .returned (.func (.func 57) #[] #[.pointer (some ⟨w.heap.size, 0, none⟩)]) ∧ w' = w.alloc (.cells (Value.agg v).cells 34) := by
  go_enter Try.func16, Try.ntmps16
  go_wp2
  go_ret
  exact ⟨rfl, rfl⟩
theorem collect_calls (f : Nat → Int) (N : Nat) (hN : N ≤ 1048576) (gf : FuncId) (lb : Array Value) (w : World) (hgf : Fun Try.prog gf)
    (hseq : SeqAt Fence.wide 4 Try.prog gf lb (fun k => #[.int .i64 (f k)]) N KpG w) :
    Calls Try.prog 105 #[.func (.func gf) #[] lb] w fun e w' => (∃ v, e = .returned v ∧ OwnI w' w.heap.size 3 .i64 v ((List.range N).map f)) ∧ Below w.heap.size w w' := by
  have HA := Lib.hid (appendSeq_calls f N hN gf lb w hgf hseq)
  clear hseq
  go_enter Try.func105, Try.ntmps105
  go_wp2_with fail
  refine HA.out.mono ?_
  rintro e w' ⟨⟨v, rfl, ho⟩, hB⟩
  have HO := Lib.hid ho
  have HB := Lib.hid hB
  clear ho hB
  go_wp2_with fail
  go_ret
  exact ⟨⟨v, rfl, HO.out⟩, HB.out⟩
theorem cellsN_le (xs ys : List Int) (off : Int) : cellsN xs ys off ≤ 1048576 := by
  unfold cellsN
  split
  · rename_i h
    have h1 := (vrB_out h).1
    unfold sizeOk at h1
    simp only [Bool.and_eq_true, decide_eq_true_eq] at h1
    omega
  · omega
theorem ocollect_calls (xs ys : List Int) (off : Int) (A B : Option Addr) (ca cb q q2 : Nat) (w : World) (hx : ReadsI w .i64 A xs) (hy : ReadsI w .i64 B ys) (hq : xs.length = q) (hq2 : ys.length = q2) (hl : q ≤ 1000000) (hl2 : q2 ≤ 1000000) :
    Calls Try.prog 54 #[.agg #[.slice A q ca, .slice B q2 cb, .int .i64 off]] w fun e w' => (∃ v, e = .returned v ∧ ShowsI w' .i64 v ((List.range (cellsN xs ys off)).map (plO (shpN xs ys off) (strN xs ys off) (offN xs ys off)))) ∧ Below w.heap.size w w' := by
  obtain ⟨w1, hw1⟩ : ∃ w1, w1 = (w.alloc (.cells #[.slice A q ca, .slice B q2 cb, .int .i64 off] 34)).alloc (.cells #[.slice A q ca, .slice B q2 cb, .int .i64 off] 34) := ⟨_, rfl⟩
  have hb1 : Below w.heap.size w w1 := by rw [hw1]; exact bl_alloc (bl_alloc (Below.refl _ _) _) _
  have hbk : Blk w1 (w.heap.size + 1) 34 #[.slice A q ca, .slice B q2 cb, .int .i64 off] := by rw [hw1]; exact Blk.new' (by simp) _ _
  have hC := collect_calls (plO (shpN xs ys off) (strN xs ys off) (offN xs ys off)) (cellsN xs ys off) (cellsN_le _ _ _) 57 #[.pointer (some ⟨w.heap.size + 1, 0, none⟩)] w1 Try.call57
    (offsets_seq 4 (by omega) xs ys off A B ca cb q q2 (w.heap.size + 1) hq hq2 hl hl2 w1 hbk (hx.below hb1) (hy.below hb1))
  have HB1 := Lib.hid hb1
  have HW1 := Lib.hid hw1
  rw [hw1] at hC
  have HC := Lib.hid hC
  clear hx hy hq hq2 hb1 hbk hC hw1
  go_enter Try.func54, Try.ntmps54
  go_wp2_with fail
  refine (offsets_calls _ _).mono ?_
  rintro e w' ⟨rfl, rfl⟩
  go_wp2_with fail
  refine HC.out.mono ?_
  rintro e w2 ⟨⟨v, rfl, ho⟩, hB⟩
  have HO := Lib.hid ho.shows
  have HB : Hid (Below w1.heap.size w1 w2) := Lib.hid (by rw [HW1.out]; exact hB)
  clear ho hB
  go_wp2_with fail
  go_ret
  exact ⟨⟨v, rfl, HO.out⟩, bl_then HB1.out HB.out⟩
theorem readsI_at {w : World} {H : Nat} (h : w.heap.size = H) (k : IntKind) (t : TypeId) (xs : List Int) : ReadsI (w.alloc (.cells (xs.map (Value.int k)).toArray t)) k (some ⟨H, 0, none⟩) xs := by
  subst h; exact readsI_new w k t xs
set_option maxRecDepth 100000 in
set_option maxHeartbeats 1000000 in
theorem knows_calls (w : World) : Calls Try.prog 10 #[] w fun e w' => e = .returned (.bool true) ∧ Below w.heap.size w w' := by
  have hv1 : ∀ (A : Option Addr) (w : World), ReadsI w .i64 A [2, 2] → Calls Try.prog 52 #[.slice A 2 2] w fun e w' => (∃ A2 c2 B2 c3, e = .returned (.tuple #[.agg #[.slice A2 2 c2, .slice B2 2 c3, .int .i64 0], .bool true]) ∧ Hid (ReadsI w' .i64 A2 [2, 2]) ∧ Hid (ReadsI w' .i64 B2 [2, 1])) ∧ Below w.heap.size w w' := fun A w h =>
    vnew_yes [2, 2] A 2 2 w h rfl (by decide) (by decide) [2, 1] (by decide) (by decide)
  have hv2 : ∀ (A B C : Option Addr) (ca cb : Nat) (w : World), ReadsI w .i64 A [2, 2] → ReadsI w .i64 B [2, 1] → ReadsI w .i64 C [1, 0] → Calls Try.prog 53 #[.agg #[.slice A 2 ca, .slice B 2 cb, .int .i64 0], .slice C 2 2] w fun e w' => (∃ A2 c2 B2 c3, e = .returned (.tuple #[.agg #[.slice A2 2 c2, .slice B2 2 c3, .int .i64 0], .bool true]) ∧ Hid (ReadsI w' .i64 A2 [2, 2]) ∧ Hid (ReadsI w' .i64 B2 [1, 2])) ∧ Below w.heap.size w w' := fun A B C ca cb w h1 h2 h3 =>
    vperm_yes [2, 2] [2, 1] [1, 0] [2, 2] 0 A B C ca cb 2 2 2 2 w h1 h2 h3 rfl rfl rfl (by decide) (by decide) [1, 2] (by decide)
  have hv3 : ∀ (A B : Option Addr) (ca cb : Nat) (w : World), ReadsI w .i64 A [2, 2] → ReadsI w .i64 B [1, 2] → Calls Try.prog 54 #[.agg #[.slice A 2 ca, .slice B 2 cb, .int .i64 0]] w fun e w' => (∃ v, e = .returned v ∧ ShowsI w' .i64 v [0, 2, 1, 3]) ∧ Below w.heap.size w w' := fun A B ca cb w h1 h2 => by
    have h := ocollect_calls [2, 2] [1, 2] 0 A B ca cb 2 2 w h1 h2 rfl rfl (by omega) (by omega)
    have e : (List.range (cellsN [2, 2] [1, 2] 0)).map (plO (shpN [2, 2] [1, 2] 0) (strN [2, 2] [1, 2] 0) (offN [2, 2] [1, 2] 0)) = [0, 2, 1, 3] := by decide
    rwa [e] at h
  have HV1 := Lib.hid hv1
  have HV2 := Lib.hid hv2
  have HV3 := Lib.hid hv3
  have HR0 := Lib.hid (show ReadsI (w.alloc (.cells #[.int .i64 2, .int .i64 2] 3)) .i64 (some ⟨w.heap.size, 0, none⟩) [2, 2] from readsI_at rfl .i64 3 [2, 2])
  clear hv1 hv2 hv3
  go_enter Try.func10, Try.ntmps10
  go_wp2_with fail
  refine (HV1.out _ _ HR0.out).mono ?_
  rintro e w1 ⟨⟨A2, c2, B2, c3, rfl, HA, HB⟩, hB1⟩
  have HB1 := Lib.hid (bl_then (bl_alloc (Below.refl w.heap.size w) _) hB1)
  clear hB1
  go_wp2_with fail
  have h2 := bl_alloc (bl_alloc (Below.refl w1.heap.size w1) (.cells #[.slice A2 2 c2, .slice B2 2 c3, .int .i64 0] 34)) (.cells #[.int .i64 1, .int .i64 0] 3)
  have HB2 := Lib.hid (bl_then HB1.out h2)
  refine (HV2.out _ _ _ _ _ _ (HA.out.below h2) (HB.out.below h2) (readsI_at (by simp) .i64 3 [1, 0])).mono ?_
  rintro e w2 ⟨⟨A3, c4, B3, c5, rfl, HA3, HB3⟩, hB2⟩
  have HB4 := Lib.hid (bl_then HB2.out hB2)
  clear hB2 h2 HA HB HB1 HB2 HV2 HV1 HR0
  go_wp2_with fail
  have h3 := bl_alloc (Below.refl w2.heap.size w2) (.cells #[.slice A3 2 c4, .slice B3 2 c5, .int .i64 0] 34)
  have HB5 := Lib.hid (bl_then HB4.out h3)
  refine (HV3.out _ _ _ _ _ (HA3.out.below h3) (HB3.out.below h3)).mono ?_
  rintro e w3 ⟨⟨v, rfl, hsh⟩, hB3⟩
  obtain ⟨A4, c6, rfl, _, hr4⟩ := hsh
  have HB6 := Lib.hid (bl_then HB5.out hB3)
  have HR4 := Lib.hid (hr4.below (bl_alloc (Below.refl w3.heap.size w3) (.cells #[.int .i64 0, .int .i64 2, .int .i64 1, .int .i64 3] 3)))
  clear hB3 h3 hr4 HA3 HB3 HB4 HB5 HV3
  go_wp2_with fail
  refine (ints_same _ _ _ _ 4 [0, 2, 1, 3] _ rfl HR4.out (readsI_at rfl .i64 3 [0, 2, 1, 3]) (by decide)).mono ?_
  rintro e w4 ⟨rfl, hB4⟩
  have HB7 := Lib.hid (bl_then (bl_then HB6.out (bl_alloc (Below.refl w3.heap.size w3) _)) hB4)
  clear hB4
  go_wp2_with fail
  go_ret
  exact ⟨rfl, HB7.out⟩
/-- Has a view few axes and cells, or is it not right? -/
def lightB (most : Int) (xs ys : List Int) : Bool := decide (xs.length ≤ 20) && (decide (ys.length ≤ 20) && (!sizeOk xs || decide (prod xs ≤ most)))
set_option maxHeartbeats 400000 in
theorem light_calls (xs ys : List Int) (off : Int) (A B : Option Addr) (ca cb : Nat) (w : World) (hx : ReadsI w .i64 A xs) :
    Calls Try.prog 9 #[.agg #[.slice A xs.length ca, .slice B ys.length cb, .int .i64 off]] w fun e w' => e = .returned (.bool (lightB 400 xs ys)) ∧ Below w.heap.size w w' := by
  have HB0 : Hid (Below w.heap.size w (w.alloc (.cells #[.slice A xs.length ca, .slice B ys.length cb, .int .i64 off] 24))) := Lib.hid (bl_alloc (Below.refl _ _) _)
  obtain ⟨R, hR⟩ : ∃ R, R = lightB 400 xs ys := ⟨_, rfl⟩
  rw [← hR]
  have HR := Lib.hid hR
  clear hR
  by_cases h1 : 20 < xs.length
  · have HF : Hid (R = false) := Lib.hid (by rw [HR.out]; unfold lightB; rw [decide_eq_false (by omega)]; rfl)
    have h1' : (20 : Int) < (xs.length : Int) := by omega
    clear hx HR
    go_enter Try.func9, Try.ntmps9
    go_wp2_with fail
    go_ret
    exact ⟨ret_bool HF.out.symm, HB0.out⟩
  have h1' : ¬ ((20 : Int) < (xs.length : Int)) := by omega
  by_cases h2 : 20 < ys.length
  · have HF : Hid (R = false) := Lib.hid (by rw [HR.out]; unfold lightB; rw [decide_eq_false (p := ys.length ≤ 20) (by omega)]; simp)
    have h2' : (20 : Int) < (ys.length : Int) := by omega
    clear hx HR
    go_enter Try.func9, Try.ntmps9
    go_wp2_with fail
    go_ret
    exact ⟨ret_bool HF.out.symm, HB0.out⟩
  have h2' : ¬ ((20 : Int) < (ys.length : Int)) := by omega
  have hS := rsize2_calls xs A ca _ (hx.below HB0.out) (by omega)
  have HF : Hid (R = (!sizeOk xs || decide (prod xs ≤ 400))) := Lib.hid (by rw [HR.out]; unfold lightB; rw [decide_eq_true (p := xs.length ≤ 20) (by omega), decide_eq_true (p := ys.length ≤ 20) (by omega)]; rfl)
  cases hok : sizeOk xs with
  | false =>
    rw [hok] at hS HF
    have HS := Lib.hid hS
    clear hx HR hS hok h1 h2
    go_enter Try.func9, Try.ntmps9
    go_wp2_with fail
    refine HS.out.mono ?_
    rintro e w1 ⟨rfl, hB⟩
    have HB1 := Lib.hid (bl_then HB0.out hB)
    clear hB
    go_wp2_with fail
    go_ret
    exact ⟨ret_bool (by rw [HF.out]; rfl), HB1.out⟩
  | true =>
    rw [hok, if_pos rfl] at hS
    rw [hok] at HF
    generalize prod xs = p at *
    have HS := Lib.hid hS
    clear hx HR hS hok h1 h2
    go_enter Try.func9, Try.ntmps9
    go_wp2_with fail
    refine HS.out.mono ?_
    rintro e w1 ⟨rfl, hB⟩
    have HB1 := Lib.hid (bl_then HB0.out hB)
    clear hB
    go_wp2_with fail
    go_ret
    exact ⟨ret_bool (by rw [HF.out]; rfl), HB1.out⟩
end Go.Proofs.Ythjkeefdeeljoaa.Shp
