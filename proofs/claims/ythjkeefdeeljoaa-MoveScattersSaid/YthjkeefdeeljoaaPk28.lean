/- Contracts and lemmas that the row of this claim stands on: Chg6, Chg7, Flip. -/
import Derived.Test.YthjkeefdeeljoaaPk27
/- The closures are made; has, step. -/
namespace Go.Proofs.Ythjkeefdeeljoaa.Shp
open Go.RowKit
set_option linter.unusedVariables false
set_option linter.unusedSimpArgs false

theorem to_calls (i v s : Int) (w : World) : Calls Try.prog 70 #[.int .i64 i, .int .i64 v, .int .i64 s] w fun e w' => ∃ Di Dn Ds, e = .returned (.func (.func 112) #[] #[.pointer (some ⟨Dn, 0, none⟩), .pointer (some ⟨Ds, 0, none⟩), .pointer (some ⟨Di, 0, none⟩)]) ∧ Blk w' Di 3 #[.int .i64 i] ∧ Blk w' Dn 3 #[.int .i64 v] ∧ Blk w' Ds 3 #[.int .i64 s] ∧ Below w.heap.size w w' := by
  go_enter Try.func70, Try.ntmps70
  go_wp2
  go_ret
  exact ⟨w.heap.size, w.heap.size + 1, w.heap.size + 1 + 1, rfl, ((Blk.new _ _ _).alloc _).alloc _, (Blk.new' (by simp) _ _).alloc _, Blk.new' (by simp) _ _, bl_alloc (bl_alloc (bl_alloc (Below.refl _ _) _) _) _⟩
theorem add_calls (i v s : Int) (w : World) : Calls Try.prog 73 #[.int .i64 i, .int .i64 v, .int .i64 s] w fun e w' => ∃ Di Dn Ds, e = .returned (.func (.func 114) #[] #[.pointer (some ⟨Di, 0, none⟩), .pointer (some ⟨Dn, 0, none⟩), .pointer (some ⟨Ds, 0, none⟩)]) ∧ Blk w' Di 3 #[.int .i64 i] ∧ Blk w' Dn 3 #[.int .i64 v] ∧ Blk w' Ds 3 #[.int .i64 s] ∧ Below w.heap.size w w' := by
  go_enter Try.func73, Try.ntmps73
  go_wp2
  go_ret
  exact ⟨w.heap.size, w.heap.size + 1, w.heap.size + 1 + 1, rfl, ((Blk.new _ _ _).alloc _).alloc _, (Blk.new' (by simp) _ _).alloc _, Blk.new' (by simp) _ _, bl_alloc (bl_alloc (bl_alloc (Below.refl _ _) _) _) _⟩
theorem by_calls (d : Int) (w : World) : Calls Try.prog 71 #[.int .i64 d] w fun e w' => ∃ D, e = .returned (.func (.func 113) #[] #[.pointer (some ⟨D, 0, none⟩)]) ∧ Blk w' D 3 #[.int .i64 d] ∧ Below w.heap.size w w' := by
  go_enter Try.func71, Try.ntmps71
  go_wp2
  go_ret
  exact ⟨_, rfl, Blk.new _ _ _, bl_alloc (Below.refl _ _) _⟩
set_option maxHeartbeats 1000000 in
theorem vhas_calls (xs ys : List Int) (off : Int) (A B : Option Addr) (ca cb n m : Nat) (i : Int) (w : World) (hx : ReadsI w .i64 A xs) (hy : ReadsI w .i64 B ys) (hn : xs.length = n) (hm : ys.length = m) (hl : n ≤ 1000000) (hl2 : m ≤ 1000000) (b : Bool) (hb : b = (vrB xs ys off && decide (0 ≤ i ∧ i < n))) :
    Calls Try.prog 68 #[.agg #[.slice A n ca, .slice B m cb, .int .i64 off], .int .i64 i] w fun e w' => e = .returned (.bool b) ∧ Below w.heap.size w w' := by
  obtain ⟨W0, hW0⟩ : ∃ W0, W0 = w.alloc (.cells #[.slice A n ca, .slice B m cb, .int .i64 off] 34) := ⟨_, rfl⟩
  have hb0 : Below w.heap.size w W0 := by rw [hW0]; exact bl_alloc (Below.refl _ _) _
  have hbox : Blk W0 w.heap.size 34 #[.slice A n ca, .slice B m cb, .int .i64 off] := by rw [hW0]; exact Blk.new _ _ _
  have hR := vright_calls xs ys off A B ca cb n m W0 (hx.below hb0) (hy.below hb0) hn hm hl hl2
  have HB0 := Lib.hid hb0
  have HBOX := Lib.hid hbox
  rw [hW0] at hR
  have HW0 := Lib.hid hW0
  cases hv : vrB xs ys off with
  | false =>
    rw [hv] at hR hb
    have HR := Lib.hid hR
    have HBB := Lib.hid hb
    clear hb0 hbox hR hx hy hn hm hv hb hW0
    go_enter Try.func68, Try.ntmps68
    go_wp2_with fail
    refine HR.out.mono ?_
    rintro e w1 ⟨rfl, hB⟩
    rw [← HW0.out] at hB
    have HB1 := Lib.hid (bl_then HB0.out hB)
    clear hB
    go_wp2_with fail
    go_ret
    exact ⟨ret_bool (by rw [HBB.out]; rfl), HB1.out⟩
  | true =>
    rw [hv] at hR hb
    have HR := Lib.hid hR
    have HBB := Lib.hid hb
    clear hb0 hbox hR hx hy hn hm hv hb hW0
    by_cases h1 : 0 ≤ i
    · have HC : Hid (b = decide (i < (n : Int))) := Lib.hid (by rw [HBB.out]; simp [h1])
      go_enter Try.func68, Try.ntmps68
      go_wp2_with fail
      refine HR.out.mono ?_
      rintro e w1 ⟨rfl, hB⟩
      rw [← HW0.out] at hB
      have c0 : w1.cell? ⟨w.heap.size, 0, none⟩ = some (.slice A n ca) := (HBOX.out.below' hB).cell 0
      have HB1 := Lib.hid (bl_then HB0.out hB)
      clear hB
      go_wp2_with fail
      go_ret
      exact ⟨ret_bool (by rw [HC.out]), HB1.out⟩
    · have HC : Hid (b = false) := Lib.hid (by rw [HBB.out]; simp; omega)
      go_enter Try.func68, Try.ntmps68
      go_wp2_with fail
      refine HR.out.mono ?_
      rintro e w1 ⟨rfl, hB⟩
      rw [← HW0.out] at hB
      have c0 : w1.cell? ⟨w.heap.size, 0, none⟩ = some (.slice A n ca) := (HBOX.out.below' hB).cell 0
      have HB1 := Lib.hid (bl_then HB0.out hB)
      clear hB
      go_wp2_with fail
      go_ret
      exact ⟨ret_bool (by rw [HC.out]), HB1.out⟩
end Go.Proofs.Ythjkeefdeeljoaa.Shp
/- A view's change: any closures. -/
namespace Go.Proofs.Ythjkeefdeeljoaa.Shp
open Go.RowKit
set_option linter.unusedVariables false
set_option linter.unusedSimpArgs false

theorem reads3 {w : World} {A : Option Addr} {xs : List Int} (h : ReadsI w .i64 A xs) {H : Nat} {a b : Option Addr} {n c m d : Nat} {o : Int} (hb : Blk w H 34 #[.slice a n c, .slice b m d, .int .i64 o]) (u v x : Value) (hne : ∀ b off, A = some ⟨b, off, none⟩ → b ≠ H) : ReadsI (((w.setCell ⟨H, 0, none⟩ u).setCell ⟨H, 1, none⟩ v).setCell ⟨H, 2, none⟩ x) .i64 A xs :=
  ((h.far (p := ⟨H, 0, none⟩) hne u).far (p := ⟨H, 1, none⟩) hne v).far (p := ⟨H, 2, none⟩) hne x
/-- What comes of a change: the view, if it is right. -/
def ChgPost (xs ys : List Int) (off : Int) (n m : Nat) (w : World) (e : Ending) (w' : World) : Prop :=
  ∃ (P : Option Addr) (n1 c1 : Nat) (Q : Option Addr) (m1 d1 : Nat) (o1 : Int) (b : Bool), e = .returned (.tuple #[.agg #[.slice P n1 c1, .slice Q m1 d1, .int .i64 o1], .bool b]) ∧
    Hid (b = vrB xs ys off ∧ (b = true → n1 = n ∧ m1 = m ∧ o1 = off ∧ ReadsI w' .i64 P xs ∧ ReadsI w' .i64 Q ys) ∧ (∀ b o, P = some ⟨b, o, none⟩ → w.heap.size ≤ b) ∧ (∀ b o, Q = some ⟨b, o, none⟩ → w.heap.size ≤ b)) ∧ Hid (Below w.heap.size w w')
set_option maxHeartbeats 4000000 in
theorem change_calls (xs ys : List Int) (off : Int) (A B : Option Addr) (ca cb n m : Nat) (w : World) (hx : ReadsI w .i64 A xs) (hy : ReadsI w .i64 B ys) (hn : xs.length = n) (hm : ys.length = m) (hl : n ≤ 1000000) (hl2 : m ≤ 1000000) (h0 : 0 < n) (h1 : 0 < m)
    (D k : Nat) (T : TypeId) (fs : Array Value) (hD : Blk w D T fs) (hk : k ≤ 1000) (gf : Nat → FuncId) (lb : Nat → Array Value) (hf : ∀ j, j < k → fs[j]? = some (.func (.func (gf j)) #[] (lb j))) (hg : ∀ j, j < k → Fun Try.prog (gf j))
    (I : Nat → Nat → Nat → World → Prop)
    (hI0 : ∀ base X W, w.heap.size ≤ base → Below w.heap.size w W → VW base X n m xs ys off W → I base X 0 W)
    (hIs : ∀ base X j W, j < k → w.heap.size ≤ base → Below w.heap.size w W → I base X j W → Calls Try.prog (gf j) (#[.pointer (some ⟨X, 0, none⟩)] ++ lb j) W fun e W' => e = .returned (.tuple #[]) ∧ I base X (j + 1) W' ∧ Below base W W')
    (xs' ys' : List Int) (off' : Int) (n' m' : Nat) (hIe : ∀ base X W, I base X k W → VR base X n' m' xs' ys' off' W) (hl' : n' ≤ 1000000) (hl2' : m' ≤ 1000000) :
    Calls Try.prog 69 #[.agg #[.slice A n ca, .slice B m cb, .int .i64 off], .slice (some ⟨D, 0, none⟩) k k] w (ChgPost xs' ys' off' n' m' w) := by
  obtain ⟨W0, hW0⟩ : ∃ W0, W0 = (w.alloc (.cells #[.slice A n ca, .slice B m cb, .int .i64 off] 34)).alloc (.cells #[.slice none 0 0, .slice none 0 0, .int .i64 0] 34) := ⟨_, rfl⟩
  have hb0 : Below w.heap.size w W0 := by rw [hW0]; exact bl_alloc (bl_alloc (Below.refl _ _) _) _
  have hbox : Blk W0 w.heap.size 34 #[.slice A n ca, .slice B m cb, .int .i64 off] := by rw [hW0]; exact (Blk.new _ _ _).alloc _
  have hres : Blk W0 (w.heap.size + 1) 34 #[.slice none 0 0, .slice none 0 0, .int .i64 0] := by rw [hW0]; exact Blk.new' (by simp) _ _
  have hs0 : W0.heap.size = w.heap.size + 2 := by rw [hW0]; simp
  have HC := Lib.hid (vclone_calls xs ys off A B ca cb n m W0 (hx.below hb0) (hy.below hb0) hn hm hl hl2 h0 h1)
  have HB0 := Lib.hid hb0
  have HBOX := Lib.hid hbox
  have HRES := Lib.hid hres
  have HS0 := Lib.hid hs0
  have HN := Lib.hid hn
  have HM := Lib.hid hm
  have HW0 := Lib.hid hW0
  have HD := Lib.hid hD
  have HF := Lib.hid hf
  have HG := Lib.hid hg
  have HI0 := Lib.hid hI0
  have HIS := Lib.hid hIs
  have HIE := Lib.hid hIe
  clear hb0 hbox hres hs0 hx hy hn hm hW0 hD hf hg hI0 hIs hIe
  go_enter Try.func69, Try.ntmps69
  go_wp2_with fail
  rw [← HW0.out]
  refine HC.out.mono ?_
  rintro e w1 ⟨gA, c, gB, d, rfl, hA, hB, hne, hBel⟩
  have HA := Lib.hid hA
  have HB := Lib.hid hB
  have HB1 := Lib.hid hBel
  clear hA hB hBel HC HW0
  go_wp2_with fail
  obtain ⟨W2, hW2⟩ : ∃ W2, w1.alloc (.cells #[.slice (some ⟨gA, 0, none⟩) n c, .slice (some ⟨gB, 0, none⟩) m d, .int .i64 off] 34) = W2 := ⟨_, rfl⟩
  obtain ⟨X, hX⟩ : ∃ X, w1.heap.size = X := ⟨_, rfl⟩
  obtain ⟨base, hbs⟩ : ∃ base, W0.heap.size = base := ⟨_, rfl⟩
  have hB2 : Below w1.heap.size w1 W2 := by rw [← hW2]; exact bl_alloc (Below.refl _ _) _
  have hbX : Blk W2 X 34 #[.slice (some ⟨gA, 0, none⟩) n c, .slice (some ⟨gB, 0, none⟩) m d, .int .i64 off] := by rw [← hW2, ← hX]; exact Blk.new _ _ _
  have hvw : VW base X n m xs ys off W2 := ⟨gA, c, gB, d, hbX, by rw [← hbs]; exact own_below HA.out hB2, by rw [← hbs]; exact own_below HB.out hB2, hne, by rw [← hbs, ← hX]; exact HB1.out.size, HN.out, HM.out⟩
  have hB02 : Below base W0 W2 := by rw [← hbs]; exact bl_then HB1.out hB2
  rw [hbs] at HS0
  have hwb : w.heap.size ≤ base := by have := HS0.out; omega
  have hBw2 : Below w.heap.size w W2 := HB0.out.trans (hB02.mono hwb)
  have HST := Lib.hid (HI0.out base X W2 hwb hBw2 hvw)
  have HB02 := Lib.hid hB02
  have HWB := Lib.hid hwb
  have HBS := Lib.hid hbs
  rw [hW2, hX]
  clear hW2 hX hB2 hbX hvw hB02 hwb hBw2 hbs HA HB HB1 HI0
  go_loopw [8, 13] (fun _ i wr => ∃ j : Nat, i = .int .i64 j ∧ j ≤ k ∧ Hid (I base X j wr) ∧ Hid (Below base W0 wr)) (fun _ i _ => k - (intOf i).toNat)
  case atStart => exact ⟨0, rfl, Nat.zero_le _, HST, HB02⟩
  case round =>
    obtain ⟨j, rfl, hj, HJ, HBJ⟩ := hrel
    have HBW : Hid (Below w.heap.size w wr) := Lib.hid (HB0.out.trans (HBJ.out.mono HWB.out))
    by_cases hlt : j < k
    · have hDr := HD.out.below' HBW.out
      have q : wr.cell? ⟨D, j, none⟩ = some (.func (.func (gf j)) #[] (lb j)) := by rw [hDr.cell, HF.out j hlt]
      have hcall := Lib.hid (HIS.out base X j wr hlt HWB.out HBW.out HJ.out)
      have e := HG.out j hlt
      unfold Fun at e
      have hki : (j : Int) < (k : Int) := by omega
      clear hDr
      go_wp2_with fail
      refine hcall.out.mono ?_
      rintro e' w3 ⟨rfl, hI3, hB3⟩
      have HI3 := Lib.hid hI3
      have HB3 := Lib.hid (HBJ.out.trans hB3)
      clear hI3 hB3
      go_wp2_with fail
      go_roundw
      case measure => first | (simp [intOf]; done) | (simp [intOf]; omega)
      case rel => exact ⟨j + 1, by go_num, by omega, HI3, HB3⟩
    · obtain rfl : j = k := by omega
      obtain ⟨A1, c1, B1, d1, hX1, hr1, hr2, hn1, hm1, hbX, hz1, hz2⟩ := HIE.out base X wr HJ.out
      obtain ⟨x0, x1, x2⟩ := held_cells hX1
      have HFN := Lib.hid (fine_calls xs' ys' off' A1 B1 c1 d1 n' m' wr hr1 hr2 hn1 hm1 hl' hl2')
      have HR1 := Lib.hid hr1
      have HR2 := Lib.hid hr2
      have HX1 := Lib.hid hX1
      have hres := HRES.out.below' (HBJ.out.mono (show W0.heap.size ≤ base by rw [HBS.out]; exact Nat.le_refl _) |> fun h => h)
      clear hX1 hr1 hr2 hn1 hm1
      have hr1 := HR1.out
      have hr2 := HR2.out
      have HLA : Hid (∀ b o, A1 = some ⟨b, o, none⟩ → b ≠ w.heap.size + 1) := Lib.hid (fun b o e1 => by have := hz1 b o e1; have := HS0.out; omega)
      have HLB : Hid (∀ b o, B1 = some ⟨b, o, none⟩ → b ≠ w.heap.size + 1) := Lib.hid (fun b o e1 => by have := hz2 b o e1; have := HS0.out; omega)
      have HZ1 : Hid (∀ b o, A1 = some ⟨b, o, none⟩ → w.heap.size ≤ b) := Lib.hid (fun b o e1 => Nat.le_trans HWB.out (hz1 b o e1))
      have HZ2 : Hid (∀ b o, B1 = some ⟨b, o, none⟩ → w.heap.size ≤ b) := Lib.hid (fun b o e1 => Nat.le_trans HWB.out (hz2 b o e1))
      clear hz1 hz2
      unfold ChgPost
      cases hv : vrB xs' ys' off' with
      | false =>
        rw [hv] at HFN
        have hFN := HFN
        have HV := Lib.hid hv
        clear HFN hv
        go_wp2_with fail
        refine hFN.out.mono ?_
        rintro e w4 ⟨rfl, hB4⟩
        have hBf := bl_then HBW.out hB4
        have hR4 := hr1.below hB4
        have hS4 := hr2.below hB4
        obtain ⟨k0, k1, k2, k0f, k1f, k2f⟩ := held_view (hres.below' hB4)
        have HBF := Lib.hid (bl_set (p := ⟨w.heap.size + 1, 2, none⟩) (bl_set (p := ⟨w.heap.size + 1, 1, none⟩) (bl_set (p := ⟨w.heap.size + 1, 0, none⟩) hBf (by simp) (.slice none 0 0)) (by simp) (.slice none 0 0)) (by simp) (.int .i64 0))
        have HRF := Lib.hid (reads3 hR4 (hres.below' hB4) (.slice none 0 0) (.slice none 0 0) (.int .i64 0) HLA.out)
        have HSF := Lib.hid (reads3 hS4 (hres.below' hB4) (.slice none 0 0) (.slice none 0 0) (.int .i64 0) HLB.out)
        clear hB4 hBf hR4 hS4 hFN hr1 hr2 hres
        go_wp2_with fail
        exact bodyPost_ret (v := .tuple #[.agg #[.slice none 0 0, .slice none 0 0, .int .i64 0], .bool false]) (by simp [results, Try.results69, go_sem, k0, k1, k2]) rfl ⟨none, 0, 0, none, 0, 0, 0, false, rfl, Lib.hid ⟨HV.out.symm, (fun h => by cases h), (fun b o e => by cases e), (fun b o e => by cases e)⟩, HBF⟩
      | true =>
        rw [hv] at HFN
        have hFN := HFN
        have HV := Lib.hid hv
        clear HFN hv
        go_wp2_with fail
        refine hFN.out.mono ?_
        rintro e w4 ⟨rfl, hB4⟩
        have hBf := bl_then HBW.out hB4
        have hR4 := hr1.below hB4
        have hS4 := hr2.below hB4
        obtain ⟨k0, k1, k2, k0f, k1f, k2f⟩ := held_view (hres.below' hB4)
        have HBF := Lib.hid (bl_set (p := ⟨w.heap.size + 1, 2, none⟩) (bl_set (p := ⟨w.heap.size + 1, 1, none⟩) (bl_set (p := ⟨w.heap.size + 1, 0, none⟩) hBf (by simp) (.slice A1 n' c1)) (by simp) (.slice B1 m' d1)) (by simp) (.int .i64 off'))
        have HRF := Lib.hid (reads3 hR4 (hres.below' hB4) (.slice A1 n' c1) (.slice B1 m' d1) (.int .i64 off') HLA.out)
        have HSF := Lib.hid (reads3 hS4 (hres.below' hB4) (.slice A1 n' c1) (.slice B1 m' d1) (.int .i64 off') HLB.out)
        clear hB4 hBf hR4 hS4 hFN hr1 hr2 hres
        go_wp2_with fail
        exact bodyPost_ret (v := .tuple #[.agg #[.slice A1 n' c1, .slice B1 m' d1, .int .i64 off'], .bool true]) (by simp [results, Try.results69, go_sem, k0, k1, k2]) rfl ⟨A1, n', c1, B1, m', d1, off', true, rfl, Lib.hid ⟨HV.out.symm, fun _ => ⟨rfl, rfl, rfl, HRF.out, HSF.out⟩, HZ1.out, HZ2.out⟩, HBF⟩
end Go.Proofs.Ythjkeefdeeljoaa.Shp
/- view: step, Flip. -/
namespace Go.Proofs.Ythjkeefdeeljoaa.Shp
open Go.RowKit
set_option linter.unusedVariables false
set_option linter.unusedSimpArgs false

set_option maxHeartbeats 2000000 in
theorem step_calls (xs ys : List Int) (off : Int) (A B : Option Addr) (ca cb n m i : Nat) (w : World) (hx : ReadsI w .i64 A xs) (hy : ReadsI w .i64 B ys) (hn : xs.length = n) (hm : ys.length = m) (hin : i < n) (him : i < m) (h1 : 0 ≤ nth xs i ∧ nth xs i ≤ 1048576) (h2 : -1048576 ≤ nth ys i ∧ nth ys i ≤ 1048576) :
    Calls Try.prog 72 #[.agg #[.slice A n ca, .slice B m cb, .int .i64 off], .int .i64 (i : Nat)] w fun e w' => e = .returned (.int .i64 (max (nth xs i - 1) 0 * nth ys i)) ∧ Below w.heap.size w w' := by
  obtain ⟨W0, hW0⟩ : ∃ W0, W0 = w.alloc (.cells #[.slice A n ca, .slice B m cb, .int .i64 off] 34) := ⟨_, rfl⟩
  have hb0 : Below w.heap.size w W0 := by rw [hW0]; exact bl_alloc (Below.refl _ _) _
  have hbox : Blk W0 w.heap.size 34 #[.slice A n ca, .slice B m cb, .int .i64 off] := by rw [hW0]; exact Blk.new _ _ _
  obtain ⟨bA, oA, eA, cA⟩ := (hx.below hb0) i (by omega)
  obtain ⟨bB, oB, eB, cB⟩ := (hy.below hb0) i (by omega)
  obtain ⟨c0, c1, c2⟩ := held_cells hbox
  rw [eA] at c0
  rw [eB] at c1
  generalize nth xs i = x at *
  generalize nth ys i = y at *
  obtain ⟨z, hz⟩ : ∃ z, max (x - 1) 0 = z := ⟨_, rfl⟩
  have hz2 : 0 ≤ z ∧ z ≤ 1048576 := by omega
  obtain ⟨p, hp⟩ : ∃ p, z * y = p := ⟨_, rfl⟩
  have hpb := mul_bd (a := z) (y := y) hz2.1 (by omega) h2.1 h2.2
  rw [hp] at hpb
  have hwp : IntKind.i64.wrap p = p := by rw [IntKind.wrap_i64]; omega
  have hwx : IntKind.i64.wrap (x - 1) = x - 1 := by rw [IntKind.wrap_i64]; omega
  have HB0 := Lib.hid hb0
  rw [hz, hp]
  have hi1 : (i : Int) < (n : Int) := by omega
  have hi2 : (i : Int) < (m : Int) := by omega
  have HW0 := Lib.hid hW0
  clear hb0 hbox hx hy hn hm eA eB c2 h1 h2 hz2 hW0
  go_enter Try.func72, Try.ntmps72
  go_wp2
  rw [← HW0.out]
  go_quiet (fail)
  go_wp2
  go_ret
  refine ⟨?_, bl_drewN HB0.out _⟩
  congr 1
/-- Two closures in a row of their own. -/
theorem two_funs (g1 g2 : Nat) (l1 l2 : Array Value) (P : Nat → Prop) (gf : Nat → Nat) (lb : Nat → Array Value) (h0 : gf 0 = g1 ∧ lb 0 = l1) (h1 : gf 1 = g2 ∧ lb 1 = l2) : ∀ j, j < 2 → (#[Value.func (.func g1) #[] l1, Value.func (.func g2) #[] l2])[j]? = some (.func (.func (gf j)) #[] (lb j)) := fun j hj => by
  match j, hj with
  | 0, _ => rw [h0.1, h0.2]; rfl
  | 1, _ => rw [h1.1, h1.2]; rfl
set_option maxRecDepth 100000 in
theorem toby_change (xs ys : List Int) (off : Int) (A B : Option Addr) (ca cb n m i : Nat) (w : World) (hx : ReadsI w .i64 A xs) (hy : ReadsI w .i64 B ys) (hn : xs.length = n) (hm : ys.length = m) (hl : n ≤ 100000) (hl2 : m ≤ 100000) (D Di Dn Ds D4 : Nat) (T : TypeId) (v s d o2 : Int) (hin : i < n) (him : i < m) (hDi : Blk w Di 3 #[.int .i64 (i : Nat)]) (hDn : Blk w Dn 3 #[.int .i64 v]) (hDs : Blk w Ds 3 #[.int .i64 s]) (hD4 : Blk w D4 3 #[.int .i64 d]) (hD : Blk w D T #[.func (.func 112) #[] #[.pointer (some ⟨Dn, 0, none⟩), .pointer (some ⟨Ds, 0, none⟩), .pointer (some ⟨Di, 0, none⟩)], .func (.func 113) #[] #[.pointer (some ⟨D4, 0, none⟩)]]) (ho : IntKind.i64.wrap (off + d) = o2) :
    Calls Try.prog 69 #[.agg #[.slice A n ca, .slice B m cb, .int .i64 off], .slice (some ⟨D, 0, none⟩) 2 2] w (ChgPost (xs.set i v) (ys.set i s) o2 n m w) := by
  refine change_calls xs ys off A B ca cb n m w hx hy hn hm (by omega) (by omega) (by omega) (by omega) D 2 T _ hD (by omega)
    (fun j => match j with | 0 => 112 | _ => 113) (fun j => match j with | 0 => #[.pointer (some ⟨Dn, 0, none⟩), .pointer (some ⟨Ds, 0, none⟩), .pointer (some ⟨Di, 0, none⟩)] | _ => #[.pointer (some ⟨D4, 0, none⟩)]) (two_funs _ _ _ _ (fun _ => True) _ _ ⟨rfl, rfl⟩ ⟨rfl, rfl⟩)
    (fun j hj => match j, hj with | 0, _ => fun _ _ => rfl | 1, _ => fun _ _ => rfl)
    (fun base X j W => match j with | 0 => VW base X n m xs ys off W ∧ Below w.heap.size w W ∧ w.heap.size ≤ base | 1 => VW base X n m (xs.set i v) (ys.set i s) off W | _ => VW base X n m (xs.set i v) (ys.set i s) o2 W)
    (fun base X W h1 h2 h3 => ⟨h3, h2, h1⟩) ?_ _ _ _ _ _ (fun base X W h => VW.vr h) (by omega) (by omega)
  intro base X j W hj hb hB hI
  match j, hj, hI with
  | 0, _, hI =>
    refine (to1_calls base X Di Dn Ds n m i xs ys off v s W hI.1 (hDi.below' hB) (hDn.below' hB) (hDs.below' hB) hin him (Nat.lt_of_lt_of_le hDi.lt hb) (Nat.lt_of_lt_of_le hDn.lt hb) (Nat.lt_of_lt_of_le hDs.lt hb)).mono ?_
    rintro e W' ⟨rfl, h1, h2⟩
    exact ⟨rfl, h1, h2⟩
  | 1, _, hI =>
    refine (by1_calls base X D4 n m _ _ off d o2 W hI (hD4.below' hB) ho).mono ?_
    rintro e W' ⟨rfl, h1, h2⟩
    exact ⟨rfl, h1, h2⟩
set_option maxRecDepth 100000 in
theorem toadd_change (xs ys : List Int) (off : Int) (A B : Option Addr) (ca cb n m i : Nat) (w : World) (hx : ReadsI w .i64 A xs) (hy : ReadsI w .i64 B ys) (hn : xs.length = n) (hm : ys.length = m) (hl : n ≤ 100000) (hl2 : m ≤ 100000) (D Di Dn Ds Ei En Es i2 : Nat) (T : TypeId) (v s v2 s2 : Int) (hin : i < n) (him : i < m) (hi2 : i2 ≤ n) (hi3 : i2 ≤ m) (hDi : Blk w Di 3 #[.int .i64 (i : Nat)]) (hDn : Blk w Dn 3 #[.int .i64 v]) (hDs : Blk w Ds 3 #[.int .i64 s]) (hEi : Blk w Ei 3 #[.int .i64 (i2 : Nat)]) (hEn : Blk w En 3 #[.int .i64 v2]) (hEs : Blk w Es 3 #[.int .i64 s2]) (hD : Blk w D T #[.func (.func 112) #[] #[.pointer (some ⟨Dn, 0, none⟩), .pointer (some ⟨Ds, 0, none⟩), .pointer (some ⟨Di, 0, none⟩)], .func (.func 114) #[] #[.pointer (some ⟨Ei, 0, none⟩), .pointer (some ⟨En, 0, none⟩), .pointer (some ⟨Es, 0, none⟩)]]) :
    Calls Try.prog 69 #[.agg #[.slice A n ca, .slice B m cb, .int .i64 off], .slice (some ⟨D, 0, none⟩) 2 2] w (ChgPost ((xs.set i v).take i2 ++ v2 :: (xs.set i v).drop i2) ((ys.set i s).take i2 ++ s2 :: (ys.set i s).drop i2) off (n + 1) (m + 1) w) := by
  refine change_calls xs ys off A B ca cb n m w hx hy hn hm (by omega) (by omega) (by omega) (by omega) D 2 T _ hD (by omega)
    (fun j => match j with | 0 => 112 | _ => 114) (fun j => match j with | 0 => #[.pointer (some ⟨Dn, 0, none⟩), .pointer (some ⟨Ds, 0, none⟩), .pointer (some ⟨Di, 0, none⟩)] | _ => #[.pointer (some ⟨Ei, 0, none⟩), .pointer (some ⟨En, 0, none⟩), .pointer (some ⟨Es, 0, none⟩)]) (two_funs _ _ _ _ (fun _ => True) _ _ ⟨rfl, rfl⟩ ⟨rfl, rfl⟩)
    (fun j hj => match j, hj with | 0, _ => fun _ _ => rfl | 1, _ => fun _ _ => rfl)
    (fun base X j W => match j with | 0 => VW base X n m xs ys off W ∧ Below w.heap.size w W ∧ w.heap.size ≤ base | 1 => VW base X n m (xs.set i v) (ys.set i s) off W | _ => VR base X (n + 1) (m + 1) ((xs.set i v).take i2 ++ v2 :: (xs.set i v).drop i2) ((ys.set i s).take i2 ++ s2 :: (ys.set i s).drop i2) off W)
    (fun base X W h1 h2 h3 => ⟨h3, h2, h1⟩) ?_ _ _ _ _ _ (fun base X W h => h) (by omega) (by omega)
  intro base X j W hj hb hB hI
  match j, hj, hI with
  | 0, _, hI =>
    refine (to1_calls base X Di Dn Ds n m i xs ys off v s W hI.1 (hDi.below' hB) (hDn.below' hB) (hDs.below' hB) hin him (Nat.lt_of_lt_of_le hDi.lt hb) (Nat.lt_of_lt_of_le hDn.lt hb) (Nat.lt_of_lt_of_le hDs.lt hb)).mono ?_
    rintro e W' ⟨rfl, h1, h2⟩
    exact ⟨rfl, h1, h2⟩
  | 1, _, hI =>
    refine (add1_calls base X Ei En Es n m i2 _ _ off v2 s2 W hI (hEi.below' hB) (hEn.below' hB) (hEs.below' hB) hi2 hi3 (by omega) (by omega) (Nat.lt_of_lt_of_le hEi.lt hb) (Nat.lt_of_lt_of_le hEn.lt hb) (Nat.lt_of_lt_of_le hEs.lt hb)).mono ?_
    rintro e W' ⟨rfl, h1, h2⟩
    exact ⟨rfl, h1, h2⟩
set_option maxRecDepth 100000 in
theorem bydrop_change (xs ys : List Int) (off : Int) (A B : Option Addr) (ca cb n m i : Nat) (w : World) (hx : ReadsI w .i64 A xs) (hy : ReadsI w .i64 B ys) (hn : xs.length = n) (hm : ys.length = m) (hl : n ≤ 100000) (hl2 : m ≤ 100000) (D Di D4 : Nat) (T : TypeId) (d o2 : Int) (hin : i < n) (him : i < m) (hDi : Blk w Di 3 #[.int .i64 (i : Nat)]) (hD4 : Blk w D4 3 #[.int .i64 d]) (hD : Blk w D T #[.func (.func 113) #[] #[.pointer (some ⟨D4, 0, none⟩)], .func (.func 74) #[] #[.pointer (some ⟨Di, 0, none⟩)]]) (ho : IntKind.i64.wrap (off + d) = o2) :
    Calls Try.prog 69 #[.agg #[.slice A n ca, .slice B m cb, .int .i64 off], .slice (some ⟨D, 0, none⟩) 2 2] w (ChgPost (xs.take i ++ xs.drop (i + 1)) (ys.take i ++ ys.drop (i + 1)) o2 (n - 1) (m - 1) w) := by
  refine change_calls xs ys off A B ca cb n m w hx hy hn hm (by omega) (by omega) (by omega) (by omega) D 2 T _ hD (by omega)
    (fun j => match j with | 0 => 113 | _ => 74) (fun j => match j with | 0 => #[.pointer (some ⟨D4, 0, none⟩)] | _ => #[.pointer (some ⟨Di, 0, none⟩)]) (two_funs _ _ _ _ (fun _ => True) _ _ ⟨rfl, rfl⟩ ⟨rfl, rfl⟩)
    (fun j hj => match j, hj with | 0, _ => fun _ _ => rfl | 1, _ => fun _ _ => rfl)
    (fun base X j W => match j with | 0 => VW base X n m xs ys off W ∧ Below w.heap.size w W ∧ w.heap.size ≤ base | 1 => VW base X n m xs ys o2 W | _ => VR base X (n - 1) (m - 1) (xs.take i ++ xs.drop (i + 1)) (ys.take i ++ ys.drop (i + 1)) o2 W)
    (fun base X W h1 h2 h3 => ⟨h3, h2, h1⟩) ?_ _ _ _ _ _ (fun base X W h => h) (by omega) (by omega)
  intro base X j W hj hb hB hI
  match j, hj, hI with
  | 0, _, hI =>
    refine (by1_calls base X D4 n m _ _ off d o2 W hI.1 (hD4.below' hB) ho).mono ?_
    rintro e W' ⟨rfl, h1, h2⟩
    exact ⟨rfl, h1, h2⟩
  | 1, _, hI =>
    refine (drop1_calls base X Di n m i xs ys o2 W hI (hDi.below' hB) hin him (by omega) (by omega) (Nat.lt_of_lt_of_le hDi.lt hb)).mono ?_
    rintro e W' ⟨rfl, h1, h2⟩
    exact ⟨rfl, h1, h2⟩
end Go.Proofs.Ythjkeefdeeljoaa.Shp
