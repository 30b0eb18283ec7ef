/- New views, and views with the axes in another order. -/
import Derived.Test.YthjkeefdeeljoaaPk23
import Derived.Test.YthjkeefdeeljoaaPk24
namespace Go.Proofs.Ythjkeefdeeljoaa
open Go.RowKit
set_option linter.unusedVariables false
/-- A row of whole numbers, k of n of them written. -/
def intsA (f : Nat → Int) (n k : Nat) : Array Value := ((List.range n).map fun i => Value.int .i64 (if i < k then f i else 0)).toArray
theorem intsA_size (f : Nat → Int) (n k : Nat) : (intsA f n k).size = n := by simp [intsA]
theorem intsA_at (f : Nat → Int) (n k i : Nat) (h : i < n) : (intsA f n k)[i]? = some (.int .i64 (if i < k then f i else 0)) := by
  simp [intsA, h]
theorem intsA_set (f : Nat → Int) (n k : Nat) (h : k < n) : (intsA f n k).setIfInBounds k (.int .i64 (f k)) = intsA f n (k + 1) := by
  apply Array.ext
  · simp [intsA]
  · intro i h1 h2
    have hi : i < n := by rw [intsA_size] at h2; exact h2
    rw [Array.getElem_setIfInBounds (by rw [intsA_size]; exact hi)]
    by_cases e : k = i
    · subst e
      rw [if_pos rfl]
      simp [intsA]
    · rw [if_neg e]
      simp only [intsA, List.getElem_toArray, List.getElem_map, List.getElem_range]
      by_cases h3 : i < k
      · rw [if_pos h3, if_pos (by omega)]
      · rw [if_neg h3, if_neg (by omega)]
theorem intsA_made (f : Nat → Int) (n : Nat) : madeCells #[Value.int .i64 0] n = intsA f n 0 := by
  apply Array.toList_inj.1
  rw [toList_madeCells_one]
  unfold intsA
  simp
  apply List.ext_getElem
  · simp
  · intro i h1 h2
    simp
theorem readsI_wrote {w W wr : World} {k : IntKind} {A : Option Addr} {xs : List Int} {D lo hi : Nat} (h : ReadsI w k A xs) (hD : D = w.heap.size) (hB : Below D w W) (hw : Wrote W wr D lo hi) : ReadsI wr k A xs := fun i hi => by
  obtain ⟨b, off, e, hc⟩ := h i hi
  have hlt := World.block_lt_of_cell? _ _ hc
  refine ⟨b, off, e, ?_⟩
  rw [hw.cell_other (show b ≠ D by have h2 : b < w.heap.size := hlt; omega), hB.cell (p := ⟨b, off + i, none⟩) (by show b < D; rw [hD]; exact hlt)]
  exact hc
theorem blk_wrote {W wr : World} {D lo hi g : Nat} {t : TypeId} {cs : Array Value} (h : Blk W g t cs) (hw : Wrote W wr D lo hi) (hne : g ≠ D) : Blk wr g t cs := (hw.other g hne).trans h
theorem ReadsI.of_intsA {W : World} {C : Nat} {T : TypeId} {f : Nat → Int} {n : Nat} {L : List Int} (h : Blk W C T (intsA f n n)) (hl : L.length = n) (hf : ∀ i, i < n → nth L i = f i) : ReadsI W .i64 (some ⟨C, 0, none⟩) L := fun i hi => by
  refine ⟨C, 0, rfl, ?_⟩
  rw [Nat.zero_add, h.cell, intsA_at f n n i (by omega), if_pos (by omega), hf i (by omega)]
end Go.Proofs.Ythjkeefdeeljoaa
namespace Go.Proofs.Ythjkeefdeeljoaa.Shp
open Go.RowKit Go.Proofs.Ythjkeefdeeljoaa.Num
set_option linter.unusedVariables false
set_option linter.unusedSimpArgs false

set_option maxHeartbeats 400000 in
theorem fine_calls (xs ys : List Int) (off : Int) (A B : Option Addr) (ca cb n m : Nat) (w : World) (hx : ReadsI w .i64 A xs) (hy : ReadsI w .i64 B ys) (hn : xs.length = n) (hm : ys.length = m) (hl : n ≤ 1000000) (hl2 : m ≤ 1000000) :
    Calls Try.prog 103 #[.agg #[.slice A n ca, .slice B m cb, .int .i64 off]] w fun e w' => e = .returned (if vrB xs ys off = true then .tuple #[.agg #[.slice A n ca, .slice B m cb, .int .i64 off], .bool true] else .tuple #[.agg #[.slice none 0 0, .slice none 0 0, .int .i64 0], .bool false]) ∧ Below w.heap.size w w' := by
  obtain ⟨W0, hW0⟩ : ∃ W0, W0 = (w.alloc (.cells #[.slice A n ca, .slice B m cb, .int .i64 off] 34)).alloc (.cells #[.slice none 0 0, .slice none 0 0, .int .i64 0] 34) := ⟨_, rfl⟩
  have hb0 : Below w.heap.size w W0 := by rw [hW0]; exact bl_alloc (bl_alloc (Below.refl _ _) _) _
  have hbox : Blk W0 w.heap.size 34 #[.slice A n ca, .slice B m cb, .int .i64 off] := by rw [hW0]; exact (Blk.new _ _ _).alloc _
  have hres : Blk W0 (w.heap.size + 1) 34 #[.slice none 0 0, .slice none 0 0, .int .i64 0] := by rw [hW0]; exact Blk.new' (by simp) _ _
  have hR := vright_calls xs ys off A B ca cb n m W0 (hx.below hb0) (hy.below hb0) hn hm hl hl2
  have HW0 := Lib.hid hW0
  rw [hW0] at hR
  have HB0 := Lib.hid hb0
  have HBOX := Lib.hid hbox
  have HRES := Lib.hid hres
  clear hx hy hn hm hW0 hb0 hbox hres
  cases hv : vrB xs ys off with
  | false =>
    rw [hv] at hR
    have HR := Lib.hid hR
    clear hR hv
    go_enter Try.func103, Try.ntmps103
    go_wp2_with fail
    refine HR.out.mono ?_
    rintro e w1 ⟨rfl, hB⟩
    have HB : Hid (Below W0.heap.size W0 w1) := Lib.hid (by rw [HW0.out]; exact hB)
    clear hB HR HW0
    have k0 : w1.cell? ⟨w.heap.size + 1, 0, none⟩ = some (.slice none 0 0) := (HRES.out.below' HB.out).cell 0
    have k1 : w1.cell? ⟨w.heap.size + 1, 1, none⟩ = some (.slice none 0 0) := (HRES.out.below' HB.out).cell 1
    have k2 : w1.cell? ⟨w.heap.size + 1, 2, none⟩ = some (.int .i64 0) := (HRES.out.below' HB.out).cell 2
    have k0f := (HRES.out.below' HB.out).frozen 0
    have k1f := (HRES.out.below' HB.out).frozen 1
    have k2f := (HRES.out.below' HB.out).frozen 2
    have HB1 : Hid (Below w.heap.size w w1) := Lib.hid (HB0.out.trans (HB.out.mono HB0.out.size))
    clear HB HB0 HBOX HRES
    go_wp2_with fail
    exact bodyPost_ret (v := .tuple #[.agg #[.slice none 0 0, .slice none 0 0, .int .i64 0], .bool false]) (by simp [results, Try.results103, go_sem, k0, k1, k2]) rfl ⟨rfl, bl_set (p := ⟨w.heap.size + 1, 2, none⟩) (bl_set (p := ⟨w.heap.size + 1, 1, none⟩) (bl_set (p := ⟨w.heap.size + 1, 0, none⟩) HB1.out (by simp) _) (by simp) _) (by simp) _⟩
  | true =>
    rw [hv] at hR
    have HR := Lib.hid hR
    clear hR hv
    go_enter Try.func103, Try.ntmps103
    go_wp2_with fail
    refine HR.out.mono ?_
    rintro e w1 ⟨rfl, hB⟩
    have HB : Hid (Below W0.heap.size W0 w1) := Lib.hid (by rw [HW0.out]; exact hB)
    clear hB HR HW0
    have k0 : w1.cell? ⟨w.heap.size + 1, 0, none⟩ = some (.slice none 0 0) := (HRES.out.below' HB.out).cell 0
    have k1 : w1.cell? ⟨w.heap.size + 1, 1, none⟩ = some (.slice none 0 0) := (HRES.out.below' HB.out).cell 1
    have k2 : w1.cell? ⟨w.heap.size + 1, 2, none⟩ = some (.int .i64 0) := (HRES.out.below' HB.out).cell 2
    have k0f := (HRES.out.below' HB.out).frozen 0
    have k1f := (HRES.out.below' HB.out).frozen 1
    have k2f := (HRES.out.below' HB.out).frozen 2
    have b0 : w1.cell? ⟨w.heap.size, 0, none⟩ = some (.slice A n ca) := (HBOX.out.below' HB.out).cell 0
    have b1 : w1.cell? ⟨w.heap.size, 1, none⟩ = some (.slice B m cb) := (HBOX.out.below' HB.out).cell 1
    have b2 : w1.cell? ⟨w.heap.size, 2, none⟩ = some (.int .i64 off) := (HBOX.out.below' HB.out).cell 2
    have HB1 : Hid (Below w.heap.size w w1) := Lib.hid (HB0.out.trans (HB.out.mono HB0.out.size))
    clear HB HB0 HBOX HRES
    go_wp2_with fail
    exact bodyPost_ret (v := .tuple #[.agg #[.slice A n ca, .slice B m cb, .int .i64 off], .bool true]) (by simp [results, Try.results103, go_sem, k0, k1, k2]) rfl ⟨rfl, bl_set (p := ⟨w.heap.size + 1, 2, none⟩) (bl_set (p := ⟨w.heap.size + 1, 1, none⟩) (bl_set (p := ⟨w.heap.size + 1, 0, none⟩) HB1.out (by simp) _) (by simp) _) (by simp) _⟩
set_option maxRecDepth 100000 in
set_option maxHeartbeats 400000 in
theorem vnew_yes (xs : List Int) (A : Option Addr) (ca n : Nat) (w : World) (hx : ReadsI w .i64 A xs) (hn : xs.length = n) (hr : rightB xs = true) (ht : ∀ k, k < xs.length → tl xs k ≤ 1048576) (S : List Int) (hS : S = (List.range xs.length).map fun j => (sp xs j : Int)) (hv : vrB xs S 0 = true) :
    Calls Try.prog 52 #[.slice A n ca] w fun e w' => (∃ A2 c2 B2 c3, e = .returned (.tuple #[.agg #[.slice A2 n c2, .slice B2 n c3, .int .i64 0], .bool true]) ∧ Hid (ReadsI w' .i64 A2 xs) ∧ Hid (ReadsI w' .i64 B2 S)) ∧ Below w.heap.size w w' := by
  subst hn
  have hl6 := (rightB_mem hr).1
  obtain ⟨W0, hW0⟩ : ∃ W0, W0 = w.alloc (.cells #[.slice none 0 0, .slice none 0 0, .int .i64 0] 34) := ⟨_, rfl⟩
  have hb0 : Below w.heap.size w W0 := by rw [hW0]; exact bl_alloc (Below.refl _ _) _
  have hres : Blk W0 w.heap.size 34 #[.slice none 0 0, .slice none 0 0, .int .i64 0] := by rw [hW0]; exact Blk.new _ _ _
  have hST := strides_calls xs A ca W0 (hx.below hb0) (by omega) hr ht
  have HF := Lib.hid (fun A2 B2 c2 c3 w h h' => fine_calls xs S 0 A2 B2 c2 c3 xs.length xs.length w h h' rfl (by rw [hS]; simp) (by omega) (by omega))
  rw [hv] at HF
  have HCL := Lib.hid (fun w h => sclone2 xs A ca xs.length w rfl h (by omega))
  have HW0 := Lib.hid hW0
  rw [hW0] at hST
  have HST := Lib.hid hST
  have HX := Lib.hid (hx.below hb0)
  have HB0 := Lib.hid hb0
  have HRES := Lib.hid hres
  have HS := Lib.hid hS
  clear hx hr ht hS hv hb0 hres hST hW0
  go_enter Try.func52, Try.ntmps52
  go_wp2_with fail
  refine HST.out.mono ?_
  rintro e w1 ⟨⟨b, SN, hb, rfl, hrow, hl, hsp⟩, hB⟩
  have HB : Hid (Below W0.heap.size W0 w1) := Lib.hid (by rw [HW0.out]; exact hB)
  have HRS : Hid (ReadsI w1 .i64 (some ⟨b, 0, none⟩) S) := Lib.hid (by
    have h := hrow.shows
    have e : SN.map (fun (x : Nat) => (x : Int)) = S := by
      rw [HS.out]
      apply List.ext_getElem
      · simp [hl]
      · intro i h1 h2
        have hi : i < xs.length := by simpa using h2
        have := hsp i hi
        rw [nth_eq _ _ (by omega)] at this
        simp [this]
    rwa [e] at h)
  have HX1 := Lib.hid (HX.out.below HB.out)
  have HB1 : Hid (Below w.heap.size w w1) := Lib.hid (HB0.out.trans (HB.out.mono HB0.out.size))
  have HRES1 := Lib.hid (HRES.out.below' HB.out)
  have HBB : Hid (b ≠ w.heap.size) := Lib.hid (by simp at hb; omega)
  have HW1 : Hid (w.heap.size < w1.heap.size) := Lib.hid HRES1.out.lt
  have hq : ∀ w, (binOp .eql 22 (.slice (some ⟨b, 0, none⟩) xs.length xs.length) (.slice none 0 0)).run Try.prog w = .ok (.bool false) w := fun w => Lib.run_eql_slice_nil (P := Try.prog) w 22 3 (some ⟨b, 0, none⟩) xs.length xs.length 0 0 Try.underlying22
  clear hrow hl hsp hB HST HW0 hb
  go_wp2_with fail
  refine (HCL.out _ HX1.out).mono ?_
  rintro e w2 ⟨A2, c2, rfl, HRA, HSA, HBA⟩
  have HRS2 := Lib.hid (HRS.out.below HBA.out)
  go_wp2_with fail
  refine (HF.out _ _ _ _ _ HRA.out HRS2.out).mono ?_
  rintro e w3 ⟨rfl, hB3⟩
  have k0 : w3.cell? ⟨w.heap.size, 0, none⟩ = some (.slice none 0 0) := ((HRES1.out.below' HBA.out).below' hB3).cell 0
  have k1 : w3.cell? ⟨w.heap.size, 1, none⟩ = some (.slice none 0 0) := ((HRES1.out.below' HBA.out).below' hB3).cell 1
  have k2 : w3.cell? ⟨w.heap.size, 2, none⟩ = some (.int .i64 0) := ((HRES1.out.below' HBA.out).below' hB3).cell 2
  have k0f := ((HRES1.out.below' HBA.out).below' hB3).frozen 0
  have k1f := ((HRES1.out.below' HBA.out).below' hB3).frozen 1
  have k2f := ((HRES1.out.below' HBA.out).below' hB3).frozen 2
  have HBF := Lib.hid (bl_set (p := ⟨w.heap.size, 2, none⟩) (bl_set (p := ⟨w.heap.size, 1, none⟩) (bl_set (p := ⟨w.heap.size, 0, none⟩) (bl_then (bl_then HB1.out HBA.out) hB3) (by simp) (.slice A2 xs.length c2)) (by simp) (.slice (some ⟨b, 0, none⟩) xs.length xs.length)) (by simp) (.int .i64 0))
  have HRA3 := Lib.hid ((((HRA.out.below hB3).far (p := ⟨w.heap.size, 0, none⟩) (fun b off e => by have := (HSA.out b off e).1; have := HW1.out; show b ≠ w.heap.size; omega) (.slice A2 xs.length c2)).far (p := ⟨w.heap.size, 1, none⟩) (fun b off e => by have := (HSA.out b off e).1; have := HW1.out; show b ≠ w.heap.size; omega) (.slice (some ⟨b, 0, none⟩) xs.length xs.length)).far (p := ⟨w.heap.size, 2, none⟩) (fun b off e => by have := (HSA.out b off e).1; have := HW1.out; show b ≠ w.heap.size; omega) (.int .i64 0))
  have HRS3 := Lib.hid ((((HRS2.out.below hB3).far (p := ⟨w.heap.size, 0, none⟩) (fun b' off e => by injection e with e; injection e with e1 e2; have := HBB.out; show b' ≠ w.heap.size; omega) (.slice A2 xs.length c2)).far (p := ⟨w.heap.size, 1, none⟩) (fun b' off e => by injection e with e; injection e with e1 e2; have := HBB.out; show b' ≠ w.heap.size; omega) (.slice (some ⟨b, 0, none⟩) xs.length xs.length)).far (p := ⟨w.heap.size, 2, none⟩) (fun b' off e => by injection e with e; injection e with e1 e2; have := HBB.out; show b' ≠ w.heap.size; omega) (.int .i64 0))
  clear HRA HSA HBA HRS2 hB3 HB1 HRES1 HF
  go_wp2_with fail
  exact bodyPost_ret (v := .tuple #[.agg #[.slice A2 xs.length c2, .slice (some ⟨b, 0, none⟩) xs.length xs.length, .int .i64 0], .bool true]) (by simp [results, Try.results52, go_sem, k0, k1, k2]) rfl ⟨⟨A2, c2, some ⟨b, 0, none⟩, xs.length, rfl, HRA3, HRS3⟩, HBF.out⟩
theorem permK_in {xs ps : List Int} : ∀ {k : Nat} {l : List Int}, permK xs ps k = some l → ∀ i, i < k → 0 ≤ nth ps i ∧ nth ps i < xs.length
  | 0, l, h, i, hi => by omega
  | k + 1, l, h, i, hi => by
    unfold permK at h
    cases h1 : permK xs ps k with
    | none => rw [h1] at h; cases h
    | some l1 =>
      rw [h1, Option.bind_some] at h
      unfold pn at h
      split at h
      · rename_i hc
        by_cases e : i = k
        · subst e; exact ⟨hc.1, hc.2.1⟩
        · exact permK_in h1 i (by omega)
      · cases h
set_option maxRecDepth 100000 in
set_option maxHeartbeats 1000000 in
theorem vperm_yes (xs ys ps zs : List Int) (off : Int) (A B C : Option Addr) (ca cb cc n m q : Nat) (w : World) (hx : ReadsI w .i64 A xs) (hy : ReadsI w .i64 B ys) (hp : ReadsI w .i64 C ps) (hn : xs.length = n) (hm : ys.length = m) (hq : ps.length = q) (hv : vrB xs ys off = true) (hz : permL xs ps = some zs) (S : List Int) (hS : S = ps.map fun a => nth ys a.toNat) :
    Calls Try.prog 53 #[.agg #[.slice A n ca, .slice B m cb, .int .i64 off], .slice C q cc] w fun e w' => (∃ A2 c2 B2 c3, e = .returned (.tuple #[.agg #[.slice A2 q c2, .slice B2 q c3, .int .i64 off], .bool true]) ∧ Hid (ReadsI w' .i64 A2 zs) ∧ Hid (ReadsI w' .i64 B2 S)) ∧ Below w.heap.size w w' := by
  obtain ⟨v1, v2, v3, v4, v5⟩ := vrB_out hv
  have hr6 : rightB xs = true := by unfold sizeOk at v1; simp only [Bool.and_eq_true] at v1; exact v1.1
  have hl6 := (rightB_mem hr6).1
  have hperm : permL xs ps = some zs := hz
  unfold permL at hperm
  split at hperm
  rotate_left
  · cases hperm
  rename_i hcond
  have hin := permK_in hperm
  have hzl := permK_length hperm
  obtain ⟨W0, hW0⟩ : ∃ W0, W0 = (w.alloc (.cells #[.slice A n ca, .slice B m cb, .int .i64 off] 34)).alloc (.cells #[.slice none 0 0, .slice none 0 0, .int .i64 0] 34) := ⟨_, rfl⟩
  have hb0 : Below w.heap.size w W0 := by rw [hW0]; exact bl_alloc (bl_alloc (Below.refl _ _) _) _
  have hbox : Blk W0 w.heap.size 34 #[.slice A n ca, .slice B m cb, .int .i64 off] := by rw [hW0]; exact (Blk.new _ _ _).alloc _
  have hres : Blk W0 (w.heap.size + 1) 34 #[.slice none 0 0, .slice none 0 0, .int .i64 0] := by rw [hW0]; exact Blk.new' (by simp) _ _
  have hP := perm_own xs ps A C ca cc W0 (hx.below hb0) (hp.below hb0) (by omega) (by omega)
  rw [hz, hn, hq] at hP
  have hR := fun w h h' => vright_calls xs ys off A B ca cb n m w h h' hn hm (by omega) (by omega)
  rw [hv] at hR
  have HR := Lib.hid hR
  have HW0 := Lib.hid hW0
  rw [hW0] at hP
  have HP := Lib.hid hP
  have HX := Lib.hid (hx.below hb0)
  have HY := Lib.hid (hy.below hb0)
  have HC := Lib.hid (hp.below hb0)
  have HB0 := Lib.hid hb0
  have HBOX := Lib.hid hbox
  have HRES := Lib.hid hres
  have HS := Lib.hid hS
  have HIN := Lib.hid hin
  have HQ := Lib.hid hq
  have HMM := Lib.hid (show ys.length = xs.length from v2)
  have HM := Lib.hid hm
  have hq6 : q ≤ 6 := by omega
  have HZL := Lib.hid (show zs.length = q by omega)
  have hmk := make_ints q (by omega)
  clear hx hy hp hn hm hq hv hz hS v1 v2 v3 v4 v5 hr6 hl6 hperm hcond hin hzl hb0 hbox hres hP hR hW0
  go_enter Try.func53, Try.ntmps53
  go_wp2_with fail
  refine HP.out.mono ?_
  rintro e w1 ⟨hT, hB⟩
  have HB : Hid (Below W0.heap.size W0 w1) := Lib.hid (by rw [HW0.out]; exact hB)
  rcases hT with ⟨hno, _⟩ | ⟨zs', v, hzs, rfl, hsh⟩
  · cases hno
  injection hzs with hzs
  subst hzs
  have hown := hsh
  obtain ⟨A2, c2, rfl, hc2, hrz⟩ := hsh.shows
  have HZB : Hid (∀ b off, A2 = some ⟨b, off, none⟩ → b ≠ w.heap.size + 1) := Lib.hid (fun b off e => by
    have h := (own_lt hown b (by rw [e]; rfl)).1
    simp at h
    omega)
  clear hown
  rw [HZL.out]
  have HRZ := Lib.hid hrz
  have HX1 := Lib.hid (HX.out.below HB.out)
  have HY1 := Lib.hid (HY.out.below HB.out)
  have HC1 := Lib.hid (HC.out.below HB.out)
  have hbx1 := HBOX.out.below' HB.out
  have HBX1 := Lib.hid hbx1
  have HRES1 := Lib.hid (HRES.out.below' HB.out)
  have HB1 : Hid (Below w.heap.size w w1) := Lib.hid (HB0.out.trans (HB.out.mono HB0.out.size))
  have b0 : w1.cell? ⟨w.heap.size, 0, none⟩ = some (.slice A n ca) := hbx1.cell 0
  have b1 : w1.cell? ⟨w.heap.size, 1, none⟩ = some (.slice B m cb) := hbx1.cell 1
  have b2 : w1.cell? ⟨w.heap.size, 2, none⟩ = some (.int .i64 off) := hbx1.cell 2
  clear hB hrz hc2 hbx1 HP HW0 HX HY HC HBOX HRES HB HB0
  go_wp2_with fail
  refine (HR.out _ HX1.out HY1.out).mono ?_
  rintro e w2 ⟨rfl, hB2⟩
  have HY2 := Lib.hid (HY1.out.below hB2)
  have HC2 := Lib.hid (HC1.out.below hB2)
  have HRZ2 := Lib.hid (HRZ.out.below hB2)
  have HBX2 := Lib.hid (HBX1.out.below' hB2)
  have HRES2 := Lib.hid (HRES1.out.below' hB2)
  have HB2 := Lib.hid (bl_then HB1.out hB2)
  clear hB2 HX1 HY1 HC1 HRZ HBX1 HRES1 HB1 b0 b1 b2
  have hf : ∀ i, i < q → nth S i = (fun i => nth ys (nth ps i).toNat) i := fun i hi => by
    rw [HS.out, nth_eq _ _ (by rw [List.length_map, HQ.out]; exact hi)]
    simp [nth_eq ps i (by rw [HQ.out]; exact hi)]
  have HF := Lib.hid hf
  obtain ⟨f, hff⟩ : ∃ f : Nat → Int, f = fun i => nth ys (nth ps i).toNat := ⟨_, rfl⟩
  rw [← hff] at HF
  have HFF := Lib.hid hff
  clear hf hff
  rw [intsA_made f q] at hmk
  go_wp2_with fail
  obtain ⟨W3, D, hW3, hD, hB3, hr3⟩ : ∃ (W : World) (D : Nat), W = w2.alloc (.cells (intsA f q 0) 3) ∧ D = w2.heap.size ∧ Below D w2 W ∧ Blk W D 3 (intsA f q 0) := ⟨_, _, rfl, rfl, bl_alloc (Below.refl _ _) _, Blk.new _ _ _⟩
  rw [← hW3, ← hD]
  have hB3' : Below w2.heap.size w2 W3 := by rw [← hD]; exact hB3
  have HYR : Hid (∀ wr, Wrote W3 wr D 0 q → ReadsI wr .i64 B ys) := Lib.hid (fun wr h => readsI_wrote HY2.out hD hB3 h)
  have HCR : Hid (∀ wr, Wrote W3 wr D 0 q → ReadsI wr .i64 C ps) := Lib.hid (fun wr h => readsI_wrote HC2.out hD hB3 h)
  have HZR : Hid (∀ wr, Wrote W3 wr D 0 q → ReadsI wr .i64 A2 zs) := Lib.hid (fun wr h => readsI_wrote HRZ2.out hD hB3 h)
  have HBR : Hid (∀ wr, Wrote W3 wr D 0 q → Blk wr w.heap.size 34 #[.slice A n ca, .slice B m cb, .int .i64 off]) := Lib.hid (fun wr h => blk_wrote (HBX2.out.below' hB3') h (by have := HBX2.out.lt; omega))
  have HRR : Hid (∀ wr, Wrote W3 wr D 0 q → Blk wr (w.heap.size + 1) 34 #[.slice none 0 0, .slice none 0 0, .int .i64 0]) := Lib.hid (fun wr h => blk_wrote (HRES2.out.below' hB3') h (by have := HRES2.out.lt; omega))
  have HB3 := Lib.hid (bl_then HB2.out hB3')
  have HDG : Hid (w.heap.size + 1 < D) := Lib.hid (by have := HRES2.out.lt; omega)
  have HR3 := Lib.hid hr3
  have HDD := Lib.hid hD
  clear hW3 hD hB3 hr3 hB3' HY2 HC2 HRZ2 HBX2 HRES2 HB2 hmk
  go_wp2_with fail
  go_loopw [9, 10, 31] (fun _ _ i wr => ∃ k : Nat, i = .int .i64 k ∧ k ≤ q ∧ Hid (Blk wr D 3 (intsA f q k)) ∧ Hid (Wrote W3 wr D 0 q)) (fun _ _ i _ => q - (intOf i).toNat)
  case atStart => exact ⟨0, rfl, Nat.zero_le _, HR3, Lib.hid (Wrote.refl _ _ _ _)⟩
  case round =>
    obtain ⟨k, rfl, hk, HBK, HWR⟩ := hrel
    by_cases hlt : k < q
    · obtain ⟨hi0, hi1⟩ := HIN.out k (by rw [HQ.out]; exact hlt)
      obtain ⟨a, ha⟩ := Int.eq_ofNat_of_zero_le hi0
      have hyl := HMM.out
      obtain ⟨bC, oC, eC, cC⟩ := HCR.out wr HWR.out k (by rw [HQ.out]; exact hlt)
      obtain ⟨bB, oB, eB, cB⟩ := HYR.out wr HWR.out a (by omega)
      have c1 : wr.cell? ⟨w.heap.size, 1, none⟩ = some (.slice B m cb) := (HBR.out wr HWR.out).cell 1
      have cD : wr.cell? ⟨D, k, none⟩ = some (.int .i64 0) := by rw [HBK.out.cell, intsA_at f q k k hlt, if_neg (by omega)]
      have cDf := HBK.out.frozen k
      have hfk : f k = nth ys a := by rw [HFF.out]; show nth ys (nth ps k).toNat = _; rw [ha, Int.toNat_natCast]
      have ham : (a : Int) < (m : Int) := by rw [← HM.out]; omega
      have HSET := Lib.hid (intsA_set f q k hlt)
      rw [hfk] at HSET
      rw [ha] at cC
      rw [eC] at *
      rw [eB] at c1
      have hki : (k : Int) < (q : Int) := by omega
      generalize nth ys a = y at *
      clear hi0 hi1 ha hyl eC hfk
      go_wp2_with fail
      go_roundw
      case measure => first | (simp [intOf]; done) | (simp [intOf]; omega)
      case rel =>
        refine ⟨k + 1, by go_num, by omega, Lib.hid ?_, Lib.hid (HWR.out.set k _ (by omega) (by omega))⟩
        rw [← HSET.out]
        exact HBK.out.set k _
    · obtain rfl : k = q := by omega
      have c2' : wr.cell? ⟨w.heap.size, 2, none⟩ = some (.int .i64 off) := (HBR.out wr HWR.out).cell 2
      have hRR := HRR.out wr HWR.out
      have k0 : wr.cell? ⟨w.heap.size + 1, 0, none⟩ = some (.slice none 0 0) := hRR.cell 0
      have k1 : wr.cell? ⟨w.heap.size + 1, 1, none⟩ = some (.slice none 0 0) := hRR.cell 1
      have k2 : wr.cell? ⟨w.heap.size + 1, 2, none⟩ = some (.int .i64 0) := hRR.cell 2
      have k0f := hRR.frozen 0
      have k1f := hRR.frozen 1
      have k2f := hRR.frozen 2
      have HZZ := Lib.hid (HZR.out wr HWR.out)
      have HBW : Hid (Below w.heap.size w wr) := Lib.hid (HB3.out.trans (HWR.out.below (by have := HDG.out; omega)))
      have HBF := Lib.hid (bl_set (p := ⟨w.heap.size + 1, 2, none⟩) (bl_set (p := ⟨w.heap.size + 1, 1, none⟩) (bl_set (p := ⟨w.heap.size + 1, 0, none⟩) HBW.out (by simp) (.slice A2 k c2)) (by simp) (.slice (some ⟨D, 0, none⟩) k k)) (by simp) (.int .i64 off))
      have hSS : ReadsI wr .i64 (some ⟨D, 0, none⟩) S := ReadsI.of_intsA HBK.out (by rw [HS.out, List.length_map, HQ.out]) HF.out
      have HSF := Lib.hid (((hSS.far (p := ⟨w.heap.size + 1, 0, none⟩) (fun b' off e => by injection e with e; injection e with e1 e2; have := HDG.out; show b' ≠ w.heap.size + 1; omega) (.slice A2 k c2)).far (p := ⟨w.heap.size + 1, 1, none⟩) (fun b' off e => by injection e with e; injection e with e1 e2; have := HDG.out; show b' ≠ w.heap.size + 1; omega) (.slice (some ⟨D, 0, none⟩) k k)).far (p := ⟨w.heap.size + 1, 2, none⟩) (fun b' off e => by injection e with e; injection e with e1 e2; have := HDG.out; show b' ≠ w.heap.size + 1; omega) (.int .i64 off))
      have HZF := Lib.hid (((HZZ.out.far (p := ⟨w.heap.size + 1, 0, none⟩) HZB.out (.slice A2 k c2)).far (p := ⟨w.heap.size + 1, 1, none⟩) HZB.out (.slice (some ⟨D, 0, none⟩) k k)).far (p := ⟨w.heap.size + 1, 2, none⟩) HZB.out (.int .i64 off))
      clear hRR hSS HZZ HBW
      go_wp2_with fail
      exact bodyPost_ret (v := .tuple #[.agg #[.slice A2 k c2, .slice (some ⟨D, 0, none⟩) k k, .int .i64 off], .bool true]) (by simp [results, Try.results53, go_sem, k0, k1, k2]) rfl ⟨⟨A2, c2, some ⟨D, 0, none⟩, k, rfl, HZF, HSF⟩, HBF.out⟩
end Go.Proofs.Ythjkeefdeeljoaa.Shp
