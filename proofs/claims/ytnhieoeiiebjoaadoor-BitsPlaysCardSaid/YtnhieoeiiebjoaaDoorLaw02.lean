/- The walk of BitsPlays. -/
import Derived.Test.YtnhieoeiiebjoaaDoorKnows02
import Derived.Deep.Cut
namespace Go.Proofs.YtnhieoeiiebjoaaDoor.Bt
open Go.RowKit
set_option linter.unusedVariables false
set_option linter.unusedSimpArgs false

/-- An act: Kind, A, Z, B. -/
structure ActV where
  k : Int
  a : Int
  z : Int
  b : Bool
deriving Inhabited
def ActV.cs (a : ActV) : List Value := [.int .i64 a.k, .int .i64 a.a, .int .i64 a.z, .bool a.b]
structure ActV.Ok (a : ActV) : Prop where
  k0 : -9223372036854775808 ≤ a.k
  k1 : a.k ≤ 9223372036854775807
  a0 : -9223372036854775808 ≤ a.a
  a1 : a.a ≤ 9223372036854775807
  z0 : -9223372036854775808 ≤ a.z
  z1 : a.z ≤ 9223372036854775807
theorem acs_get (L : List ActV) (j : Nat) (h : j < L.length) : (L.flatMap ActV.cs)[j * 4]? = some (.int .i64 (nth L j).k) ∧ (L.flatMap ActV.cs)[j * 4 + 1]? = some (.int .i64 (nth L j).a) ∧ (L.flatMap ActV.cs)[j * 4 + 2]? = some (.int .i64 (nth L j).z) ∧ (L.flatMap ActV.cs)[j * 4 + 3]? = some (.bool (nth L j).b) := by
  induction L generalizing j with
  | nil => simp at h
  | cons a L ih =>
    have e : (a :: L).flatMap ActV.cs = Value.int .i64 a.k :: Value.int .i64 a.a :: Value.int .i64 a.z :: Value.bool a.b :: L.flatMap ActV.cs := rfl
    rw [e]
    cases j with
    | zero => exact ⟨rfl, rfl, rfl, rfl⟩
    | succ j =>
      obtain ⟨h1, h2, h3, h4⟩ := ih j (by simpa using h)
      rw [nth_cons_succ]
      exact ⟨by rw [show (j + 1) * 4 = j * 4 + 4 by omega]; simpa using h1, by rw [show (j + 1) * 4 + 1 = j * 4 + 1 + 4 by omega]; simpa using h2, by rw [show (j + 1) * 4 + 2 = j * 4 + 2 + 4 by omega]; simpa using h3, by rw [show (j + 1) * 4 + 3 = j * 4 + 3 + 4 by omega]; simpa using h4⟩
theorem act_at {w : World} {A : Option Addr} {L : List ActV} (h : Shows w A (L.flatMap ActV.cs)) (j : Nat) (hj : j < L.length) : ∃ b off, A = some ⟨b, off, none⟩ ∧ w.cell? ⟨b, off + j * 4, none⟩ = some (.int .i64 (nth L j).k) ∧ w.cell? ⟨b, off + j * 4 + 1, none⟩ = some (.int .i64 (nth L j).a) ∧ w.cell? ⟨b, off + j * 4 + 2, none⟩ = some (.int .i64 (nth L j).z) ∧ w.cell? ⟨b, off + j * 4 + 3, none⟩ = some (.bool (nth L j).b) := by
  obtain ⟨h1, h2, h3, h4⟩ := acs_get L j hj
  obtain ⟨b, off, e, c1⟩ := h _ _ h1
  obtain ⟨b2, off2, e2, c2⟩ := h _ _ h2
  obtain ⟨b3, off3, e3, c3⟩ := h _ _ h3
  obtain ⟨b4, off4, e4, c4⟩ := h _ _ h4
  rw [e] at e2 e3 e4
  simp only [Option.some.injEq, Addr.mk.injEq, and_true] at e2 e3 e4
  obtain ⟨rfl, rfl⟩ := e2
  obtain ⟨rfl, rfl⟩ := e3
  obtain ⟨rfl, rfl⟩ := e4
  exact ⟨b, off, e, c1, by rw [Nat.add_assoc]; exact c2, by rw [Nat.add_assoc]; exact c3, by rw [Nat.add_assoc]; exact c4⟩
theorem next_ex (l : List Bool) (f : Nat) (b : Bool) : ∃ r, IsNext l f b r := by
  have key : ∀ d f, l.length - f = d → ∃ r, IsNext l f b r := by
    intro d
    induction d with
    | zero => intro f h; exact ⟨l.length, IsNext.end_ fun i h1 h2 => by omega⟩
    | succ d ih =>
      intro f h
      by_cases hx : tr l f = b
      · exact ⟨f, by omega, fun _ => ⟨Nat.le_refl _, hx⟩, fun i h1 h2 => by omega⟩
      · obtain ⟨r, h1, h2, h3⟩ := ih (f + 1) (by omega)
        refine ⟨r, h1, fun c => ⟨by have := (h2 c).1; omega, (h2 c).2⟩, fun i hi hir => ?_⟩
        by_cases e : i = f
        · rw [e]; exact hx
        · exact h3 i (by omega) hir
  exact key _ f rfl
theorem next_at (T g c : Nat) (cs : Array Value) (W : List Nat) (l : List Bool) (f : Int) (b : Bool) (w : World) (r : Nat) (hr : IsNext l f.toNat b r) (h : ∀ n, MaskW (w.drewN n) T g c cs W l) (hf0 : -9223372036854775808 ≤ f) (hf1 : f ≤ 9223372036854775807) (hT : TabAt w) (n : Nat) : Calls Tryd.prog 12 #[.pointer (some ⟨T, 0, none⟩), .int .i64 f, .bool b] (w.drewN n) fun e w' => e = .returned (.int .i64 r) ∧ ∃ m, w' = w.drewN m :=
  (next_calls T g c cs W l f b (w.drewN n) (h n) hf0 hf1 hT).mono fun e w' ⟨r', he, hr', m, hw⟩ => ⟨by rw [he, hr'.one hr], n + m, by rw [hw, World.drewN_drewN]⟩
theorem rnext_at (R : Nat) (l : List Bool) (f : Int) (b : Bool) (hl : l.length ≤ 2097152) (w : World) (r : Nat) (hr : IsNext l f.toNat b r) (h : RowB w R l) (hf0 : -9223372036854775808 ≤ f) (hf1 : f ≤ 9223372036854775807) (n : Nat) : Calls Tryd.prog 13 #[.slice (some ⟨R, 0, none⟩) l.length l.length, .int .i64 f, .bool b] (w.drewN n) fun e w' => e = .returned (.int .i64 r) ∧ ∃ m, w' = w.drewN m :=
  (rnext_calls R l f b hl (w.drewN n) (Blk.drewN h n) hf0 hf1).mono fun e w' ⟨r', he, hr', hw⟩ => ⟨by rw [he, hr'.one hr], n, by rw [hw]⟩
theorem hidMap {p q : Prop} (h : Hid p) (f : p → q) : Hid q := Lib.hid (f h.out)
theorem Mask.keep {B : Nat} {w w' : World} {T : Nat} {l : List Bool} (h : RowB w T l) (hk : Keeps w w') : RowB w' T l := hk _ _ _ h (by decide)
theorem set_no (T g c : Nat) (cs : Array Value) (W : List Nat) (l : List Bool) (j : Int) (b : Bool) (w : World) (h : MaskW w T g c cs W l) (hj : ¬ (0 ≤ j ∧ j < (l.length : Int))) : Calls Tryd.prog 7 #[.pointer (some ⟨T, 0, none⟩), .int .i64 j, .bool b] w fun e w' => e = .returned (.bool false) ∧ w = w' := by
  have := set_calls T g c cs W l j b w h
  rw [decide_eq_false hj] at this
  exact this.mono fun e w' ⟨h1, _, h2, _⟩ => ⟨h1, h2 hj⟩
theorem set_yes (T g c : Nat) (cs : Array Value) (W : List Nat) (l : List Bool) (j : Nat) (b : Bool) (w : World) (h : MaskW w T g c cs W l) (hj : j < l.length) : Calls Tryd.prog 7 #[.pointer (some ⟨T, 0, none⟩), .int .i64 (j : Nat), .bool b] w fun e w' => e = .returned (.bool true) ∧ (∃ cs' W', MaskW w' T g c cs' W' (l.set j b)) ∧ Keeps w w' ∧ Only g w w' := by
  have := set_calls T g c cs W l (j : Int) b w h
  rw [decide_eq_true (⟨by omega, by omega⟩ : 0 ≤ (j : Int) ∧ (j : Int) < (l.length : Int)), Int.toNat_natCast] at this
  exact this.mono fun e w' ⟨h1, h2, _, h3, h4⟩ => ⟨h1, h2 ⟨by omega, by omega⟩, h3, h4⟩

set_option maxRecDepth 100000 in
set_option maxHeartbeats 4000000 in
theorem bitsPlays_walk (n : Int) (all : Bool) (xs : List ActV) (A : Option Addr) (c0 : Nat) (w : World) (hn0 : -9223372036854775808 ≤ n) (hn1 : n ≤ 9223372036854775807) (hx : Shows w A (xs.flatMap ActV.cs)) (hl : xs.length ≤ 9223372036854775807) (hok : ∀ a ∈ xs, a.Ok) (hT : TabAt w) :
    Calls Tryd.prog 3 #[.int .i64 n, .bool all, .slice A xs.length c0] w fun e w' => e = .returned (.bool true) ∧ Below w.heap.size w w' := by
  have HX := Lib.hid hx
  have HT := Lib.hid hT
  have HOK := Lib.hid hok
  clear hx hT hok
  have HKN := Lib.hid (fun w' hB => knows_calls w' (HT.out.below hB))
  by_cases h1 : 1000 < n
  · go_enter Tryd.func3, Tryd.ntmps3
    go_wp2_with fail
    refine (HKN.out _ (Below.refl _ _)).mono ?_
    rintro e w1 ⟨rfl, hB⟩
    go_wp2_with fail
    go_ret
    exact ⟨rfl, hB⟩
  by_cases h2 : 100 < xs.length
  · go_enter Tryd.func3, Tryd.ntmps3
    go_wp2_with fail
    refine (HKN.out _ (Below.refl _ _)).mono ?_
    rintro e w1 ⟨rfl, hB⟩
    go_wp2_with fail
    go_ret
    exact ⟨rfl, hB⟩
  have HNW := Lib.hid (fun w => new_calls n (by omega) all w)
  have HRW := Lib.hid (fun w => rnew_calls n (by omega) all w)
  obtain ⟨N, hN, hNb⟩ : ∃ N, n.toNat = N ∧ N ≤ 1000 := ⟨_, rfl, by omega⟩
  rw [hN] at HNW HRW
  clear hN
  go_enter Tryd.func3, Tryd.ntmps3
  go_wp2_with fail
  refine (HKN.out _ (Below.refl _ _)).mono ?_
  rintro e w1 ⟨rfl, hB1⟩
  have HB1 := Lib.hid hB1
  clear hB1
  go_wp2_with fail
  refine (HNW.out _).mono ?_
  rintro e w2 ⟨rfl, hM2, hB2⟩
  have HB2 := Lib.hid (bl_then HB1.out hB2)
  have HM2 := Lib.hid hM2
  have hz1 : w.heap.size ≤ w1.heap.size := HB1.out.size
  clear hB2 hM2
  go_wp2_with fail
  refine (HRW.out _).mono ?_
  rintro e w3 ⟨rfl, hR3, hB3⟩
  have HB3 := Lib.hid (bl_then HB2.out hB3)
  have HM3 := Lib.hid (HM2.out.below hB3)
  have HR3 := Lib.hid hR3
  have hz2 : w.heap.size ≤ w2.heap.size := HB2.out.size
  clear hB3 hR3
  generalize hRR : w2.heap.size = R at *
  generalize w1.heap.size + 1 = T0 at *
  generalize w1.heap.size = B at *
  clear hRR HNW HRW HKN HB1 HB2 HM2
  go_wp2_with fail
  go_loopw [7, 9] (fun m i wr => ∃ (k T : Nat) (lo : List Bool), m = .pointer (some ⟨T, 0, none⟩) ∧ i = .int .i64 k ∧ k ≤ xs.length ∧ Hid (lo.length = N) ∧ Hid (Mask w.heap.size wr T lo) ∧ Hid (RowB wr R lo) ∧ Hid (Below w.heap.size w wr)) (fun _ i _ => xs.length - (intOf i).toNat)
  case atStart => exact ⟨0, T0, List.replicate N all, rfl, rfl, Nat.zero_le _, Lib.hid (by simp), Lib.hid (by obtain ⟨g, c, cs, W, hm, q1, q2⟩ := HM3.out; exact ⟨g, c, cs, W, hm, by omega, by omega⟩), HR3, HB3⟩
  case round =>
    obtain ⟨k, T, lo, rfl, rfl, hk, HLo, HMo, HRo, HBo⟩ := hrel
    by_cases hlt : k < xs.length
    · have HXk := Lib.hid (HX.out.below HBo.out)
      obtain ⟨xb, xo, rfl, g0, g1, g2, g3⟩ := act_at HXk.out k hlt
      have ha := HOK.out _ (nth_mem xs k hlt)
      generalize nth xs k = a at *
      obtain ⟨ak, aa, az, ab⟩ := a
      obtain ⟨q1, q2, q3, q4, q5, q6⟩ := ha
      simp only at g0 g1 g2 g3 q1 q2 q3 q4 q5 q6
      have hlt2 : wr.heap.size < (wr.alloc (.cells #[.int .i64 ak, .int .i64 aa, .int .i64 az, .bool ab] 29)).heap.size := by simp
      have HBOX := Lib.hid (Blk.new wr 29 #[.int .i64 ak, .int .i64 aa, .int .i64 az, .bool ab])
      have hbn := bl_alloc (Below.refl wr.heap.size wr) (.cells #[.int .i64 ak, .int .i64 aa, .int .i64 az, .bool ab] 29)
      have HMb := Lib.hid (HMo.out.below hbn)
      have HRb : Hid (RowB (wr.alloc (.cells #[.int .i64 ak, .int .i64 aa, .int .i64 az, .bool ab] 29)) R lo) := Lib.hid (Blk.below' HRo.out hbn)
      have HBb := Lib.hid (bl_then HBo.out hbn)
      have hzr : w.heap.size ≤ wr.heap.size := HBo.out.size
      clear hbn HMo HRo HBo HXk
      go_upto_region 9 with (fail)
      clear g0 g1 g2 g3
      generalize wr.alloc (.cells #[.int .i64 ak, .int .i64 aa, .int .i64 az, .bool ab] 29) = wb at *
      generalize wr.heap.size = H at *
      by_cases k0 : ak = 0
      · subst k0
        by_cases c1 : aa < 0
        · have b0 := HBOX.out.cell 0
          have b1 := HBOX.out.cell 1
          have b2 := HBOX.out.cell 2
          have b3 := HBOX.out.cell 3
          obtain ⟨g, c, cs, W, hMM, hTT, hgg⟩ := HMb.out
          have HS := Lib.hid (set_no T g c cs W lo aa ab wb hMM (by rw [HLo.out]; omega))
          clear hMM hTT hgg
          go_wp2_with fail
          refine HS.out.mono ?_
          rintro e w4 ⟨rfl, rfl⟩
          go_wp2_with fail
          clear b0 b1 b2 b3
          have HMq := HMb
          have HRq := HRb
          have HBq := HBb
          have HLq := HLo
          have HBOXq := HBOX
          have HTq := Lib.hid (HT.out.below HBq.out)
          obtain ⟨g, c, cs, W, hMq, hTq, hgq⟩ := HMq.out
          have HCC := Lib.hid (fun n => count_calls T g c cs W lo (wb.drewN n) (hMq.below (bl_drewN (Below.refl wb.heap.size wb) n)))
          have HRC := Lib.hid (fun n => rcount_calls R lo (by rw [HLq.out]; omega) (wb.drewN n) (HRq.out.drewN n))
          obtain ⟨nx, hnx⟩ := next_ex lo (aa).toNat ab
          have HNX := Lib.hid (fun n => next_at T g c cs W lo (aa) ab wb nx hnx (fun m => hMq.below (bl_drewN (Below.refl wb.heap.size wb) m)) (by omega) (by omega) HTq.out n)
          have HRN := Lib.hid (fun n => rnext_at R lo (aa) ab (by rw [HLq.out]; omega) wb nx hnx HRq.out (by omega) (by omega) n)
          rw [HLq.out] at HRC HRN
          have hcl : countL lo ≤ 2097152 := Nat.le_trans (countL_le _) (by rw [HLq.out]; omega)
          have b0 := HBOXq.out.cell 0
          have b1 := HBOXq.out.cell 1
          have b2 := HBOXq.out.cell 2
          have b3 := HBOXq.out.cell 3
          clear hMq hTq hgq hnx
          generalize countL lo = cv at *
          have hq1 : ((cv : Int) != (cv : Int)) = false := by simp
          have hq2 : ((nx : Int) != (nx : Int)) = false := by simp
          go_quiet ((first
            | (go_at_call 10; refine (HCC.out _).mono ?_; rintro e w1 ⟨rfl, rfl⟩; exact ⟨rfl, _, rfl⟩)
            | (go_at_call 11; refine (HRC.out _).mono ?_; rintro e w1 ⟨rfl, rfl⟩; exact ⟨rfl, _, rfl⟩)
            | (go_at_call 12; exact HNX.out _)
            | (go_at_call 13; exact HRN.out _)))
          go_wp2_with fail
          go_roundw
          case measure => simp [intOf]; omega
          case rel => exact ⟨k + 1, T, lo, rfl, by go_num, by omega, HLq, hidMap HMq (fun h => h.drewN _), hidMap HRq (fun h => Blk.drewN h _), hidMap HBq (fun h => bl_drewN h _)⟩
        by_cases c2 : (N : Int) ≤ aa
        · have b0 := HBOX.out.cell 0
          have b1 := HBOX.out.cell 1
          have b2 := HBOX.out.cell 2
          have b3 := HBOX.out.cell 3
          obtain ⟨g, c, cs, W, hMM, hTT, hgg⟩ := HMb.out
          have HS := Lib.hid (set_no T g c cs W lo aa ab wb hMM (by rw [HLo.out]; omega))
          clear hMM hTT hgg
          go_wp2_with fail
          refine HS.out.mono ?_
          rintro e w4 ⟨rfl, rfl⟩
          go_wp2_with fail
          clear b0 b1 b2 b3
          have HMq := HMb
          have HRq := HRb
          have HBq := HBb
          have HLq := HLo
          have HBOXq := HBOX
          have HTq := Lib.hid (HT.out.below HBq.out)
          obtain ⟨g, c, cs, W, hMq, hTq, hgq⟩ := HMq.out
          have HCC := Lib.hid (fun n => count_calls T g c cs W lo (wb.drewN n) (hMq.below (bl_drewN (Below.refl wb.heap.size wb) n)))
          have HRC := Lib.hid (fun n => rcount_calls R lo (by rw [HLq.out]; omega) (wb.drewN n) (HRq.out.drewN n))
          obtain ⟨nx, hnx⟩ := next_ex lo (aa).toNat ab
          have HNX := Lib.hid (fun n => next_at T g c cs W lo (aa) ab wb nx hnx (fun m => hMq.below (bl_drewN (Below.refl wb.heap.size wb) m)) (by omega) (by omega) HTq.out n)
          have HRN := Lib.hid (fun n => rnext_at R lo (aa) ab (by rw [HLq.out]; omega) wb nx hnx HRq.out (by omega) (by omega) n)
          rw [HLq.out] at HRC HRN
          have hcl : countL lo ≤ 2097152 := Nat.le_trans (countL_le _) (by rw [HLq.out]; omega)
          have b0 := HBOXq.out.cell 0
          have b1 := HBOXq.out.cell 1
          have b2 := HBOXq.out.cell 2
          have b3 := HBOXq.out.cell 3
          clear hMq hTq hgq hnx
          generalize countL lo = cv at *
          have hq1 : ((cv : Int) != (cv : Int)) = false := by simp
          have hq2 : ((nx : Int) != (nx : Int)) = false := by simp
          go_quiet ((first
            | (go_at_call 10; refine (HCC.out _).mono ?_; rintro e w1 ⟨rfl, rfl⟩; exact ⟨rfl, _, rfl⟩)
            | (go_at_call 11; refine (HRC.out _).mono ?_; rintro e w1 ⟨rfl, rfl⟩; exact ⟨rfl, _, rfl⟩)
            | (go_at_call 12; exact HNX.out _)
            | (go_at_call 13; exact HRN.out _)))
          go_wp2_with fail
          go_roundw
          case measure => simp [intOf]; omega
          case rel => exact ⟨k + 1, T, lo, rfl, by go_num, by omega, HLq, hidMap HMq (fun h => h.drewN _), hidMap HRq (fun h => Blk.drewN h _), hidMap HBq (fun h => bl_drewN h _)⟩
        · obtain ⟨J, rfl⟩ : ∃ J : Nat, aa = (J : Int) := ⟨aa.toNat, by omega⟩
          have dJ : decide ((J : Int) < (N : Int)) = true := by simp; omega
          have dJ' : decide (J < N) = true := by simp; omega
          have b0 := HBOX.out.cell 0
          have b1 := HBOX.out.cell 1
          have b2 := HBOX.out.cell 2
          have b3 := HBOX.out.cell 3
          obtain ⟨g, c, cs, W, hMM, hTT, hgg⟩ := HMb.out
          have hJl : J < lo.length := by rw [HLo.out]; omega
          have HS := Lib.hid (set_yes T g c cs W lo J ab wb hMM hJl)
          clear hMM
          go_wp2_with fail
          refine HS.out.mono ?_
          rintro e w4 ⟨rfl, ⟨cs', W', hM4⟩, hK, hO⟩
          clear b0 b1 b2 b3
          have HR4 : Hid (RowB w4 R lo) := Lib.hid (hK _ _ _ HRb.out (by decide))
          have HX4 := Lib.hid (hK _ _ _ HBOX.out (by decide))
          have HB4 := Lib.hid (HBb.out.trans (hO.below HBb.out.size hgg))
          have HM4 : Hid (Mask w.heap.size w4 T (lo.set J ab)) := Lib.hid ⟨g, c, cs', W', hM4, hTT, hgg⟩
          have hrc := HR4.out.at_ J hJl
          have hrf := Blk.frozen HR4.out J
          generalize tr lo J = x at *
          have hHR : H ≠ R := Blk.ne_ HX4.out HR4.out (by decide)
          have HMq := Lib.hid (Mask.far HM4.out (p := ⟨R, J, none⟩) HR4.out (by decide) (by decide) (.bool ab))
          have HRq : Hid (RowB (w4.setCell ⟨R, J, none⟩ (.bool ab)) R (lo.set J ab)) := Lib.hid (HR4.out.put J ab)
          have HBOXq := Lib.hid (HX4.out.far (p := ⟨R, J, none⟩) hHR (.bool ab))
          have HBq := Lib.hid (bl_set HB4.out (p := ⟨R, J, none⟩) hz2 (.bool ab))
          have HLq : Hid ((lo.set J ab).length = N) := Lib.hid (by rw [List.length_set]; exact HLo.out)
          have b0 := HX4.out.cell 0
          have b1 := HX4.out.cell 1
          have b2 := HX4.out.cell 2
          have b3 := HX4.out.cell 3
          clear hM4 hK hO hTT hgg
          go_wp2_with fail
          clear b0 b1 b2 b3 hrc hrf
          generalize w4.setCell ⟨R, J, none⟩ (.bool ab) = wq at *
          generalize lo.set J ab = lq at *
          have HTq := Lib.hid (HT.out.below HBq.out)
          obtain ⟨g, c, cs, W, hMq, hTq, hgq⟩ := HMq.out
          have HCC := Lib.hid (fun n => count_calls T g c cs W lq (wq.drewN n) (hMq.below (bl_drewN (Below.refl wq.heap.size wq) n)))
          have HRC := Lib.hid (fun n => rcount_calls R lq (by rw [HLq.out]; omega) (wq.drewN n) (HRq.out.drewN n))
          obtain ⟨nx, hnx⟩ := next_ex lq ((J : Int)).toNat ab
          have HNX := Lib.hid (fun n => next_at T g c cs W lq ((J : Int)) ab wq nx hnx (fun m => hMq.below (bl_drewN (Below.refl wq.heap.size wq) m)) (by omega) (by omega) HTq.out n)
          have HRN := Lib.hid (fun n => rnext_at R lq ((J : Int)) ab (by rw [HLq.out]; omega) wq nx hnx HRq.out (by omega) (by omega) n)
          rw [HLq.out] at HRC HRN
          have hcl : countL lq ≤ 2097152 := Nat.le_trans (countL_le _) (by rw [HLq.out]; omega)
          have b0 := HBOXq.out.cell 0
          have b1 := HBOXq.out.cell 1
          have b2 := HBOXq.out.cell 2
          have b3 := HBOXq.out.cell 3
          clear hMq hTq hgq hnx
          generalize countL lq = cv at *
          have hq1 : ((cv : Int) != (cv : Int)) = false := by simp
          have hq2 : ((nx : Int) != (nx : Int)) = false := by simp
          go_quiet ((first
            | (go_at_call 10; refine (HCC.out _).mono ?_; rintro e w1 ⟨rfl, rfl⟩; exact ⟨rfl, _, rfl⟩)
            | (go_at_call 11; refine (HRC.out _).mono ?_; rintro e w1 ⟨rfl, rfl⟩; exact ⟨rfl, _, rfl⟩)
            | (go_at_call 12; exact HNX.out _)
            | (go_at_call 13; exact HRN.out _)))
          go_wp2_with fail
          go_roundw
          case measure => simp [intOf]; omega
          case rel => exact ⟨k + 1, T, lq, rfl, by go_num, by omega, HLq, hidMap HMq (fun h => h.drewN _), hidMap HRq (fun h => Blk.drewN h _), hidMap HBq (fun h => bl_drewN h _)⟩
      by_cases k1 : ak = 1
      · subst k1
        by_cases c1 : aa < 0
        · have b0 := HBOX.out.cell 0
          have b1 := HBOX.out.cell 1
          have b2 := HBOX.out.cell 2
          have b3 := HBOX.out.cell 3
          obtain ⟨g, c, cs, W, hMM, hTT, hgg⟩ := HMb.out
          have HS := Lib.hid (set_no T g c cs W lo aa ab wb hMM (by rw [HLo.out]; omega))
          clear hMM hTT hgg
          go_wp2_with fail
          refine HS.out.mono ?_
          rintro e w4 ⟨rfl, rfl⟩
          go_wp2_with fail
          clear b0 b1 b2 b3
          have HMq := HMb
          have HRq := HRb
          have HBq := HBb
          have HLq := HLo
          have HBOXq := HBOX
          have HTq := Lib.hid (HT.out.below HBq.out)
          obtain ⟨g, c, cs, W, hMq, hTq, hgq⟩ := HMq.out
          have HCC := Lib.hid (fun n => count_calls T g c cs W lo (wb.drewN n) (hMq.below (bl_drewN (Below.refl wb.heap.size wb) n)))
          have HRC := Lib.hid (fun n => rcount_calls R lo (by rw [HLq.out]; omega) (wb.drewN n) (HRq.out.drewN n))
          obtain ⟨nx, hnx⟩ := next_ex lo (aa).toNat ab
          have HNX := Lib.hid (fun n => next_at T g c cs W lo (aa) ab wb nx hnx (fun m => hMq.below (bl_drewN (Below.refl wb.heap.size wb) m)) (by omega) (by omega) HTq.out n)
          have HRN := Lib.hid (fun n => rnext_at R lo (aa) ab (by rw [HLq.out]; omega) wb nx hnx HRq.out (by omega) (by omega) n)
          rw [HLq.out] at HRC HRN
          have hcl : countL lo ≤ 2097152 := Nat.le_trans (countL_le _) (by rw [HLq.out]; omega)
          have b0 := HBOXq.out.cell 0
          have b1 := HBOXq.out.cell 1
          have b2 := HBOXq.out.cell 2
          have b3 := HBOXq.out.cell 3
          clear hMq hTq hgq hnx
          generalize countL lo = cv at *
          have hq1 : ((cv : Int) != (cv : Int)) = false := by simp
          have hq2 : ((nx : Int) != (nx : Int)) = false := by simp
          go_quiet ((first
            | (go_at_call 10; refine (HCC.out _).mono ?_; rintro e w1 ⟨rfl, rfl⟩; exact ⟨rfl, _, rfl⟩)
            | (go_at_call 11; refine (HRC.out _).mono ?_; rintro e w1 ⟨rfl, rfl⟩; exact ⟨rfl, _, rfl⟩)
            | (go_at_call 12; exact HNX.out _)
            | (go_at_call 13; exact HRN.out _)))
          go_wp2_with fail
          go_roundw
          case measure => simp [intOf]; omega
          case rel => exact ⟨k + 1, T, lo, rfl, by go_num, by omega, HLq, hidMap HMq (fun h => h.drewN _), hidMap HRq (fun h => Blk.drewN h _), hidMap HBq (fun h => bl_drewN h _)⟩
        by_cases c2 : (N : Int) ≤ aa
        · have b0 := HBOX.out.cell 0
          have b1 := HBOX.out.cell 1
          have b2 := HBOX.out.cell 2
          have b3 := HBOX.out.cell 3
          obtain ⟨g, c, cs, W, hMM, hTT, hgg⟩ := HMb.out
          have HS := Lib.hid (set_no T g c cs W lo aa ab wb hMM (by rw [HLo.out]; omega))
          clear hMM hTT hgg
          go_wp2_with fail
          refine HS.out.mono ?_
          rintro e w4 ⟨rfl, rfl⟩
          go_wp2_with fail
          clear b0 b1 b2 b3
          have HMq := HMb
          have HRq := HRb
          have HBq := HBb
          have HLq := HLo
          have HBOXq := HBOX
          have HTq := Lib.hid (HT.out.below HBq.out)
          obtain ⟨g, c, cs, W, hMq, hTq, hgq⟩ := HMq.out
          have HCC := Lib.hid (fun n => count_calls T g c cs W lo (wb.drewN n) (hMq.below (bl_drewN (Below.refl wb.heap.size wb) n)))
          have HRC := Lib.hid (fun n => rcount_calls R lo (by rw [HLq.out]; omega) (wb.drewN n) (HRq.out.drewN n))
          obtain ⟨nx, hnx⟩ := next_ex lo (aa).toNat ab
          have HNX := Lib.hid (fun n => next_at T g c cs W lo (aa) ab wb nx hnx (fun m => hMq.below (bl_drewN (Below.refl wb.heap.size wb) m)) (by omega) (by omega) HTq.out n)
          have HRN := Lib.hid (fun n => rnext_at R lo (aa) ab (by rw [HLq.out]; omega) wb nx hnx HRq.out (by omega) (by omega) n)
          rw [HLq.out] at HRC HRN
          have hcl : countL lo ≤ 2097152 := Nat.le_trans (countL_le _) (by rw [HLq.out]; omega)
          have b0 := HBOXq.out.cell 0
          have b1 := HBOXq.out.cell 1
          have b2 := HBOXq.out.cell 2
          have b3 := HBOXq.out.cell 3
          clear hMq hTq hgq hnx
          generalize countL lo = cv at *
          have hq1 : ((cv : Int) != (cv : Int)) = false := by simp
          have hq2 : ((nx : Int) != (nx : Int)) = false := by simp
          go_quiet ((first
            | (go_at_call 10; refine (HCC.out _).mono ?_; rintro e w1 ⟨rfl, rfl⟩; exact ⟨rfl, _, rfl⟩)
            | (go_at_call 11; refine (HRC.out _).mono ?_; rintro e w1 ⟨rfl, rfl⟩; exact ⟨rfl, _, rfl⟩)
            | (go_at_call 12; exact HNX.out _)
            | (go_at_call 13; exact HRN.out _)))
          go_wp2_with fail
          go_roundw
          case measure => simp [intOf]; omega
          case rel => exact ⟨k + 1, T, lo, rfl, by go_num, by omega, HLq, hidMap HMq (fun h => h.drewN _), hidMap HRq (fun h => Blk.drewN h _), hidMap HBq (fun h => bl_drewN h _)⟩
        · obtain ⟨J, rfl⟩ : ∃ J : Nat, aa = (J : Int) := ⟨aa.toNat, by omega⟩
          have dJ : decide ((J : Int) < (N : Int)) = true := by simp; omega
          have dJ' : decide (J < N) = true := by simp; omega
          have b0 := HBOX.out.cell 0
          have b1 := HBOX.out.cell 1
          have b2 := HBOX.out.cell 2
          have b3 := HBOX.out.cell 3
          obtain ⟨g, c, cs, W, hMM, hTT, hgg⟩ := HMb.out
          have hJl : J < lo.length := by rw [HLo.out]; omega
          have HS := Lib.hid (set_yes T g c cs W lo J ab wb hMM hJl)
          clear hMM
          go_wp2_with fail
          refine HS.out.mono ?_
          rintro e w4 ⟨rfl, ⟨cs', W', hM4⟩, hK, hO⟩
          clear b0 b1 b2 b3
          have HR4 : Hid (RowB w4 R lo) := Lib.hid (hK _ _ _ HRb.out (by decide))
          have HX4 := Lib.hid (hK _ _ _ HBOX.out (by decide))
          have HB4 := Lib.hid (HBb.out.trans (hO.below HBb.out.size hgg))
          have HM4 : Hid (Mask w.heap.size w4 T (lo.set J ab)) := Lib.hid ⟨g, c, cs', W', hM4, hTT, hgg⟩
          have hrc := HR4.out.at_ J hJl
          have hrf := Blk.frozen HR4.out J
          generalize tr lo J = x at *
          have hHR : H ≠ R := Blk.ne_ HX4.out HR4.out (by decide)
          have HMq := Lib.hid (Mask.far HM4.out (p := ⟨R, J, none⟩) HR4.out (by decide) (by decide) (.bool ab))
          have HRq : Hid (RowB (w4.setCell ⟨R, J, none⟩ (.bool ab)) R (lo.set J ab)) := Lib.hid (HR4.out.put J ab)
          have HBOXq := Lib.hid (HX4.out.far (p := ⟨R, J, none⟩) hHR (.bool ab))
          have HBq := Lib.hid (bl_set HB4.out (p := ⟨R, J, none⟩) hz2 (.bool ab))
          have HLq : Hid ((lo.set J ab).length = N) := Lib.hid (by rw [List.length_set]; exact HLo.out)
          have b0 := HX4.out.cell 0
          have b1 := HX4.out.cell 1
          have b2 := HX4.out.cell 2
          have b3 := HX4.out.cell 3
          clear hM4 hK hO hTT hgg
          go_wp2_with fail
          clear b0 b1 b2 b3 hrc hrf
          generalize w4.setCell ⟨R, J, none⟩ (.bool ab) = wq at *
          generalize lo.set J ab = lq at *
          have HTq := Lib.hid (HT.out.below HBq.out)
          obtain ⟨g, c, cs, W, hMq, hTq, hgq⟩ := HMq.out
          have HCC := Lib.hid (fun n => count_calls T g c cs W lq (wq.drewN n) (hMq.below (bl_drewN (Below.refl wq.heap.size wq) n)))
          have HRC := Lib.hid (fun n => rcount_calls R lq (by rw [HLq.out]; omega) (wq.drewN n) (HRq.out.drewN n))
          obtain ⟨nx, hnx⟩ := next_ex lq ((J : Int)).toNat ab
          have HNX := Lib.hid (fun n => next_at T g c cs W lq ((J : Int)) ab wq nx hnx (fun m => hMq.below (bl_drewN (Below.refl wq.heap.size wq) m)) (by omega) (by omega) HTq.out n)
          have HRN := Lib.hid (fun n => rnext_at R lq ((J : Int)) ab (by rw [HLq.out]; omega) wq nx hnx HRq.out (by omega) (by omega) n)
          rw [HLq.out] at HRC HRN
          have hcl : countL lq ≤ 2097152 := Nat.le_trans (countL_le _) (by rw [HLq.out]; omega)
          have b0 := HBOXq.out.cell 0
          have b1 := HBOXq.out.cell 1
          have b2 := HBOXq.out.cell 2
          have b3 := HBOXq.out.cell 3
          clear hMq hTq hgq hnx
          generalize countL lq = cv at *
          have hq1 : ((cv : Int) != (cv : Int)) = false := by simp
          have hq2 : ((nx : Int) != (nx : Int)) = false := by simp
          go_quiet ((first
            | (go_at_call 10; refine (HCC.out _).mono ?_; rintro e w1 ⟨rfl, rfl⟩; exact ⟨rfl, _, rfl⟩)
            | (go_at_call 11; refine (HRC.out _).mono ?_; rintro e w1 ⟨rfl, rfl⟩; exact ⟨rfl, _, rfl⟩)
            | (go_at_call 12; exact HNX.out _)
            | (go_at_call 13; exact HRN.out _)))
          go_wp2_with fail
          go_roundw
          case measure => simp [intOf]; omega
          case rel => exact ⟨k + 1, T, lq, rfl, by go_num, by omega, HLq, hidMap HMq (fun h => h.drewN _), hidMap HRq (fun h => Blk.drewN h _), hidMap HBq (fun h => bl_drewN h _)⟩
      by_cases k2 : ak = 2
      · subst k2
        by_cases c1 : aa < 0
        · have b0 := HBOX.out.cell 0
          have b1 := HBOX.out.cell 1
          have b2 := HBOX.out.cell 2
          have b3 := HBOX.out.cell 3
          obtain ⟨g, c, cs, W, hMM, hTT, hgg⟩ := HMb.out
          have HF := Lib.hid (fill_no T g c cs W lo aa az ab wb hMM (by rw [HLo.out]; omega))
          clear hMM hTT hgg
          go_wp2_with fail
          refine HF.out.mono ?_
          rintro e w4 ⟨rfl, rfl⟩
          go_wp2_with fail
          clear b0 b1 b2 b3
          go_loopw [13] (fun v w5 => v = .int .i64 aa ∧ Hid (Mask w.heap.size w5 T lo) ∧ Hid (RowB w5 R lo) ∧ Hid (Below w.heap.size w w5) ∧ Hid (Blk w5 H 29 #[.int .i64 2, .int .i64 aa, .int .i64 az, .bool ab])) (fun _ _ => 0)
          case atStart => exact ⟨rfl, HMb, HRb, HBb, HBOX⟩
          case round =>
            obtain ⟨rfl, HMq, HRq, HBq, HBOXq⟩ := hrel
            have HLq := HLo
            go_wp2_with fail
            have HTq := Lib.hid (HT.out.below HBq.out)
            obtain ⟨g, c, cs, W, hMq, hTq, hgq⟩ := HMq.out
            have HCC := Lib.hid (fun n => count_calls T g c cs W lo (wr.drewN n) (hMq.below (bl_drewN (Below.refl wr.heap.size wr) n)))
            have HRC := Lib.hid (fun n => rcount_calls R lo (by rw [HLq.out]; omega) (wr.drewN n) (HRq.out.drewN n))
            obtain ⟨nx, hnx⟩ := next_ex lo (aa).toNat ab
            have HNX := Lib.hid (fun n => next_at T g c cs W lo (aa) ab wr nx hnx (fun m => hMq.below (bl_drewN (Below.refl wr.heap.size wr) m)) (by omega) (by omega) HTq.out n)
            have HRN := Lib.hid (fun n => rnext_at R lo (aa) ab (by rw [HLq.out]; omega) wr nx hnx HRq.out (by omega) (by omega) n)
            rw [HLq.out] at HRC HRN
            have hcl : countL lo ≤ 2097152 := Nat.le_trans (countL_le _) (by rw [HLq.out]; omega)
            have b0 := HBOXq.out.cell 0
            have b1 := HBOXq.out.cell 1
            have b2 := HBOXq.out.cell 2
            have b3 := HBOXq.out.cell 3
            clear hMq hTq hgq hnx
            generalize countL lo = cv at *
            have hq1 : ((cv : Int) != (cv : Int)) = false := by simp
            have hq2 : ((nx : Int) != (nx : Int)) = false := by simp
            go_quiet ((first
              | (go_at_call 10; refine (HCC.out _).mono ?_; rintro e w1 ⟨rfl, rfl⟩; exact ⟨rfl, _, rfl⟩)
              | (go_at_call 11; refine (HRC.out _).mono ?_; rintro e w1 ⟨rfl, rfl⟩; exact ⟨rfl, _, rfl⟩)
              | (go_at_call 12; exact HNX.out _)
              | (go_at_call 13; exact HRN.out _)))
            go_wp2_with fail
            go_roundw
            case measure => simp [intOf]; omega
            case rel => exact ⟨k + 1, T, lo, rfl, by go_num, by omega, HLq, hidMap HMq (fun h => h.drewN _), hidMap HRq (fun h => Blk.drewN h _), hidMap HBq (fun h => bl_drewN h _)⟩
        by_cases c2 : az < aa
        · have b0 := HBOX.out.cell 0
          have b1 := HBOX.out.cell 1
          have b2 := HBOX.out.cell 2
          have b3 := HBOX.out.cell 3
          obtain ⟨g, c, cs, W, hMM, hTT, hgg⟩ := HMb.out
          have HF := Lib.hid (fill_no T g c cs W lo aa az ab wb hMM (by rw [HLo.out]; omega))
          clear hMM hTT hgg
          go_wp2_with fail
          refine HF.out.mono ?_
          rintro e w4 ⟨rfl, rfl⟩
          go_wp2_with fail
          clear b0 b1 b2 b3
          go_loopw [13] (fun v w5 => v = .int .i64 aa ∧ Hid (Mask w.heap.size w5 T lo) ∧ Hid (RowB w5 R lo) ∧ Hid (Below w.heap.size w w5) ∧ Hid (Blk w5 H 29 #[.int .i64 2, .int .i64 aa, .int .i64 az, .bool ab])) (fun _ _ => 0)
          case atStart => exact ⟨rfl, HMb, HRb, HBb, HBOX⟩
          case round =>
            obtain ⟨rfl, HMq, HRq, HBq, HBOXq⟩ := hrel
            have HLq := HLo
            go_wp2_with fail
            have HTq := Lib.hid (HT.out.below HBq.out)
            obtain ⟨g, c, cs, W, hMq, hTq, hgq⟩ := HMq.out
            have HCC := Lib.hid (fun n => count_calls T g c cs W lo (wr.drewN n) (hMq.below (bl_drewN (Below.refl wr.heap.size wr) n)))
            have HRC := Lib.hid (fun n => rcount_calls R lo (by rw [HLq.out]; omega) (wr.drewN n) (HRq.out.drewN n))
            obtain ⟨nx, hnx⟩ := next_ex lo (aa).toNat ab
            have HNX := Lib.hid (fun n => next_at T g c cs W lo (aa) ab wr nx hnx (fun m => hMq.below (bl_drewN (Below.refl wr.heap.size wr) m)) (by omega) (by omega) HTq.out n)
            have HRN := Lib.hid (fun n => rnext_at R lo (aa) ab (by rw [HLq.out]; omega) wr nx hnx HRq.out (by omega) (by omega) n)
            rw [HLq.out] at HRC HRN
            have hcl : countL lo ≤ 2097152 := Nat.le_trans (countL_le _) (by rw [HLq.out]; omega)
            have b0 := HBOXq.out.cell 0
            have b1 := HBOXq.out.cell 1
            have b2 := HBOXq.out.cell 2
            have b3 := HBOXq.out.cell 3
            clear hMq hTq hgq hnx
            generalize countL lo = cv at *
            have hq1 : ((cv : Int) != (cv : Int)) = false := by simp
            have hq2 : ((nx : Int) != (nx : Int)) = false := by simp
            go_quiet ((first
              | (go_at_call 10; refine (HCC.out _).mono ?_; rintro e w1 ⟨rfl, rfl⟩; exact ⟨rfl, _, rfl⟩)
              | (go_at_call 11; refine (HRC.out _).mono ?_; rintro e w1 ⟨rfl, rfl⟩; exact ⟨rfl, _, rfl⟩)
              | (go_at_call 12; exact HNX.out _)
              | (go_at_call 13; exact HRN.out _)))
            go_wp2_with fail
            go_roundw
            case measure => simp [intOf]; omega
            case rel => exact ⟨k + 1, T, lo, rfl, by go_num, by omega, HLq, hidMap HMq (fun h => h.drewN _), hidMap HRq (fun h => Blk.drewN h _), hidMap HBq (fun h => bl_drewN h _)⟩
        by_cases c3 : (N : Int) < az
        · have b0 := HBOX.out.cell 0
          have b1 := HBOX.out.cell 1
          have b2 := HBOX.out.cell 2
          have b3 := HBOX.out.cell 3
          obtain ⟨g, c, cs, W, hMM, hTT, hgg⟩ := HMb.out
          have HF := Lib.hid (fill_no T g c cs W lo aa az ab wb hMM (by rw [HLo.out]; omega))
          clear hMM hTT hgg
          go_wp2_with fail
          refine HF.out.mono ?_
          rintro e w4 ⟨rfl, rfl⟩
          go_wp2_with fail
          clear b0 b1 b2 b3
          go_loopw [13] (fun v w5 => v = .int .i64 aa ∧ Hid (Mask w.heap.size w5 T lo) ∧ Hid (RowB w5 R lo) ∧ Hid (Below w.heap.size w w5) ∧ Hid (Blk w5 H 29 #[.int .i64 2, .int .i64 aa, .int .i64 az, .bool ab])) (fun _ _ => 0)
          case atStart => exact ⟨rfl, HMb, HRb, HBb, HBOX⟩
          case round =>
            obtain ⟨rfl, HMq, HRq, HBq, HBOXq⟩ := hrel
            have HLq := HLo
            go_wp2_with fail
            have HTq := Lib.hid (HT.out.below HBq.out)
            obtain ⟨g, c, cs, W, hMq, hTq, hgq⟩ := HMq.out
            have HCC := Lib.hid (fun n => count_calls T g c cs W lo (wr.drewN n) (hMq.below (bl_drewN (Below.refl wr.heap.size wr) n)))
            have HRC := Lib.hid (fun n => rcount_calls R lo (by rw [HLq.out]; omega) (wr.drewN n) (HRq.out.drewN n))
            obtain ⟨nx, hnx⟩ := next_ex lo (aa).toNat ab
            have HNX := Lib.hid (fun n => next_at T g c cs W lo (aa) ab wr nx hnx (fun m => hMq.below (bl_drewN (Below.refl wr.heap.size wr) m)) (by omega) (by omega) HTq.out n)
            have HRN := Lib.hid (fun n => rnext_at R lo (aa) ab (by rw [HLq.out]; omega) wr nx hnx HRq.out (by omega) (by omega) n)
            rw [HLq.out] at HRC HRN
            have hcl : countL lo ≤ 2097152 := Nat.le_trans (countL_le _) (by rw [HLq.out]; omega)
            have b0 := HBOXq.out.cell 0
            have b1 := HBOXq.out.cell 1
            have b2 := HBOXq.out.cell 2
            have b3 := HBOXq.out.cell 3
            clear hMq hTq hgq hnx
            generalize countL lo = cv at *
            have hq1 : ((cv : Int) != (cv : Int)) = false := by simp
            have hq2 : ((nx : Int) != (nx : Int)) = false := by simp
            go_quiet ((first
              | (go_at_call 10; refine (HCC.out _).mono ?_; rintro e w1 ⟨rfl, rfl⟩; exact ⟨rfl, _, rfl⟩)
              | (go_at_call 11; refine (HRC.out _).mono ?_; rintro e w1 ⟨rfl, rfl⟩; exact ⟨rfl, _, rfl⟩)
              | (go_at_call 12; exact HNX.out _)
              | (go_at_call 13; exact HRN.out _)))
            go_wp2_with fail
            go_roundw
            case measure => simp [intOf]; omega
            case rel => exact ⟨k + 1, T, lo, rfl, by go_num, by omega, HLq, hidMap HMq (fun h => h.drewN _), hidMap HRq (fun h => Blk.drewN h _), hidMap HBq (fun h => bl_drewN h _)⟩
        · obtain ⟨J, rfl⟩ : ∃ J : Nat, aa = (J : Int) := ⟨aa.toNat, by omega⟩
          obtain ⟨Z, rfl⟩ : ∃ Z : Nat, az = (Z : Int) := ⟨az.toNat, by omega⟩
          have dJ : decide ((J : Int) ≤ (Z : Int)) = true := by simp; omega
          have dJ' : decide (J ≤ Z) = true := by simp; omega
          have dZ : decide ((Z : Int) ≤ (N : Int)) = true := by simp; omega
          have dZ' : decide (Z ≤ N) = true := by simp; omega
          have b0 := HBOX.out.cell 0
          have b1 := HBOX.out.cell 1
          have b2 := HBOX.out.cell 2
          have b3 := HBOX.out.cell 3
          obtain ⟨g, c, cs, W, hMM, hTT, hgg⟩ := HMb.out
          have HF := Lib.hid (fill_yes T g c cs W lo J Z ab wb hMM (by omega) (by rw [HLo.out]; omega))
          clear hMM
          go_wp2_with fail
          refine HF.out.mono ?_
          rintro e w4 ⟨rfl, ⟨cs', W', hM4⟩, hK, hO⟩
          clear b0 b1 b2 b3
          have HR4 : Hid (RowB w4 R (fillL lo J J ab)) := Lib.hid (by rw [fillL_none _ _ _ _ (Nat.le_refl _)]; exact hK _ _ _ HRb.out (by decide))
          have HX4 := Lib.hid (hK _ _ _ HBOX.out (by decide))
          have HB4 := Lib.hid (HBb.out.trans (hO.below HBb.out.size hgg))
          have HM4 : Hid (Mask w.heap.size w4 T (fillL lo J Z ab)) := Lib.hid ⟨g, c, cs', W', hM4, hTT, hgg⟩
          have hJZ : J ≤ Z := by omega
          have hZN : Z ≤ N := by omega
          have b1 := HX4.out.cell 1
          clear hM4 hK hO hTT hgg
          go_wp2_with fail
          clear b1
          go_loopw [13] (fun v w5 => ∃ j : Nat, v = .int .i64 j ∧ J ≤ j ∧ j ≤ Z ∧ Hid (Mask w.heap.size w5 T (fillL lo J Z ab)) ∧ Hid (RowB w5 R (fillL lo J j ab)) ∧ Hid (Below w.heap.size w w5) ∧ Hid (Blk w5 H 29 #[.int .i64 2, .int .i64 (J : Int), .int .i64 (Z : Int), .bool ab])) (fun v _ => Z - (intOf v).toNat)
          case atStart => exact ⟨J, rfl, Nat.le_refl _, hJZ, HM4, HR4, HB4, HX4⟩
          case round =>
            obtain ⟨j, rfl, hj0, hj1, HM5, HR5, HB5, HX5⟩ := hrel
            have b0 := HX5.out.cell 0
            have b1 := HX5.out.cell 1
            have b2 := HX5.out.cell 2
            have b3 := HX5.out.cell 3
            by_cases hjz : j < Z
            · have hjl : j < (fillL lo J j ab).length := by rw [fillL_length, HLo.out]; omega
              have hrc := HR5.out.at_ j hjl
              have hrf := Blk.frozen HR5.out j
              have hHR : H ≠ R := Blk.ne_ HX5.out HR5.out (by decide)
              have HM6 := Lib.hid (Mask.far HM5.out (p := ⟨R, j, none⟩) HR5.out (by decide) (by decide) (.bool ab))
              have HR6 := Lib.hid (HR5.out.put j ab)
              rw [fillL_snoc _ _ _ _ hj0 (by rw [HLo.out]; omega)] at HR6
              have HX6 := Lib.hid (HX5.out.far (p := ⟨R, j, none⟩) hHR (.bool ab))
              have HB6 := Lib.hid (bl_set HB5.out (p := ⟨R, j, none⟩) hz2 (.bool ab))
              generalize tr (fillL lo J j ab) j = x at *
              go_wp2_with fail
              go_roundw
              case measure => simp [intOf]; omega
              case rel => exact ⟨j + 1, by go_num, by omega, by omega, HM6, HR6, HB6, HX6⟩
            · obtain rfl : j = Z := by omega
              go_wp2_with fail
              clear b0 b1 b2 b3
              have HMq := HM5
              have HRq := HR5
              have HBq := HB5
              have HBOXq := HX5
              have HLq : Hid ((fillL lo J j ab).length = N) := Lib.hid (by rw [fillL_length]; exact HLo.out)
              generalize fillL lo J j ab = lq at *
              have HTq := Lib.hid (HT.out.below HBq.out)
              obtain ⟨g, c, cs, W, hMq, hTq, hgq⟩ := HMq.out
              have HCC := Lib.hid (fun n => count_calls T g c cs W lq (wr.drewN n) (hMq.below (bl_drewN (Below.refl wr.heap.size wr) n)))
              have HRC := Lib.hid (fun n => rcount_calls R lq (by rw [HLq.out]; omega) (wr.drewN n) (HRq.out.drewN n))
              obtain ⟨nx, hnx⟩ := next_ex lq ((J : Int)).toNat ab
              have HNX := Lib.hid (fun n => next_at T g c cs W lq ((J : Int)) ab wr nx hnx (fun m => hMq.below (bl_drewN (Below.refl wr.heap.size wr) m)) (by omega) (by omega) HTq.out n)
              have HRN := Lib.hid (fun n => rnext_at R lq ((J : Int)) ab (by rw [HLq.out]; omega) wr nx hnx HRq.out (by omega) (by omega) n)
              rw [HLq.out] at HRC HRN
              have hcl : countL lq ≤ 2097152 := Nat.le_trans (countL_le _) (by rw [HLq.out]; omega)
              have b0 := HBOXq.out.cell 0
              have b1 := HBOXq.out.cell 1
              have b2 := HBOXq.out.cell 2
              have b3 := HBOXq.out.cell 3
              clear hMq hTq hgq hnx
              generalize countL lq = cv at *
              have hq1 : ((cv : Int) != (cv : Int)) = false := by simp
              have hq2 : ((nx : Int) != (nx : Int)) = false := by simp
              go_quiet ((first
                | (go_at_call 10; refine (HCC.out _).mono ?_; rintro e w1 ⟨rfl, rfl⟩; exact ⟨rfl, _, rfl⟩)
                | (go_at_call 11; refine (HRC.out _).mono ?_; rintro e w1 ⟨rfl, rfl⟩; exact ⟨rfl, _, rfl⟩)
                | (go_at_call 12; exact HNX.out _)
                | (go_at_call 13; exact HRN.out _)))
              go_wp2_with fail
              go_roundw
              case measure => simp [intOf]; omega
              case rel => exact ⟨k + 1, T, lq, rfl, by go_num, by omega, HLq, hidMap HMq (fun h => h.drewN _), hidMap HRq (fun h => Blk.drewN h _), hidMap HBq (fun h => bl_drewN h _)⟩
      by_cases k3 : ak = 3
      · subst k3
        by_cases c1 : aa < 0
        · have b0 := HBOX.out.cell 0
          have b1 := HBOX.out.cell 1
          have b2 := HBOX.out.cell 2
          have b3 := HBOX.out.cell 3
          obtain ⟨g, c, cs, W, hMM, hTT, hgg⟩ := HMb.out
          have HF := Lib.hid (fill_no T g c cs W lo aa az ab wb hMM (by rw [HLo.out]; omega))
          clear hMM hTT hgg
          go_wp2_with fail
          refine HF.out.mono ?_
          rintro e w4 ⟨rfl, rfl⟩
          go_wp2_with fail
          clear b0 b1 b2 b3
          go_loopw [13] (fun v w5 => v = .int .i64 aa ∧ Hid (Mask w.heap.size w5 T lo) ∧ Hid (RowB w5 R lo) ∧ Hid (Below w.heap.size w w5) ∧ Hid (Blk w5 H 29 #[.int .i64 3, .int .i64 aa, .int .i64 az, .bool ab])) (fun _ _ => 0)
          case atStart => exact ⟨rfl, HMb, HRb, HBb, HBOX⟩
          case round =>
            obtain ⟨rfl, HMq, HRq, HBq, HBOXq⟩ := hrel
            have HLq := HLo
            go_wp2_with fail
            have HTq := Lib.hid (HT.out.below HBq.out)
            obtain ⟨g, c, cs, W, hMq, hTq, hgq⟩ := HMq.out
            have HCC := Lib.hid (fun n => count_calls T g c cs W lo (wr.drewN n) (hMq.below (bl_drewN (Below.refl wr.heap.size wr) n)))
            have HRC := Lib.hid (fun n => rcount_calls R lo (by rw [HLq.out]; omega) (wr.drewN n) (HRq.out.drewN n))
            obtain ⟨nx, hnx⟩ := next_ex lo (aa).toNat ab
            have HNX := Lib.hid (fun n => next_at T g c cs W lo (aa) ab wr nx hnx (fun m => hMq.below (bl_drewN (Below.refl wr.heap.size wr) m)) (by omega) (by omega) HTq.out n)
            have HRN := Lib.hid (fun n => rnext_at R lo (aa) ab (by rw [HLq.out]; omega) wr nx hnx HRq.out (by omega) (by omega) n)
            rw [HLq.out] at HRC HRN
            have hcl : countL lo ≤ 2097152 := Nat.le_trans (countL_le _) (by rw [HLq.out]; omega)
            have b0 := HBOXq.out.cell 0
            have b1 := HBOXq.out.cell 1
            have b2 := HBOXq.out.cell 2
            have b3 := HBOXq.out.cell 3
            clear hMq hTq hgq hnx
            generalize countL lo = cv at *
            have hq1 : ((cv : Int) != (cv : Int)) = false := by simp
            have hq2 : ((nx : Int) != (nx : Int)) = false := by simp
            go_quiet ((first
              | (go_at_call 10; refine (HCC.out _).mono ?_; rintro e w1 ⟨rfl, rfl⟩; exact ⟨rfl, _, rfl⟩)
              | (go_at_call 11; refine (HRC.out _).mono ?_; rintro e w1 ⟨rfl, rfl⟩; exact ⟨rfl, _, rfl⟩)
              | (go_at_call 12; exact HNX.out _)
              | (go_at_call 13; exact HRN.out _)))
            go_wp2_with fail
            go_roundw
            case measure => simp [intOf]; omega
            case rel => exact ⟨k + 1, T, lo, rfl, by go_num, by omega, HLq, hidMap HMq (fun h => h.drewN _), hidMap HRq (fun h => Blk.drewN h _), hidMap HBq (fun h => bl_drewN h _)⟩
        by_cases c2 : az < aa
        · have b0 := HBOX.out.cell 0
          have b1 := HBOX.out.cell 1
          have b2 := HBOX.out.cell 2
          have b3 := HBOX.out.cell 3
          obtain ⟨g, c, cs, W, hMM, hTT, hgg⟩ := HMb.out
          have HF := Lib.hid (fill_no T g c cs W lo aa az ab wb hMM (by rw [HLo.out]; omega))
          clear hMM hTT hgg
          go_wp2_with fail
          refine HF.out.mono ?_
          rintro e w4 ⟨rfl, rfl⟩
          go_wp2_with fail
          clear b0 b1 b2 b3
          go_loopw [13] (fun v w5 => v = .int .i64 aa ∧ Hid (Mask w.heap.size w5 T lo) ∧ Hid (RowB w5 R lo) ∧ Hid (Below w.heap.size w w5) ∧ Hid (Blk w5 H 29 #[.int .i64 3, .int .i64 aa, .int .i64 az, .bool ab])) (fun _ _ => 0)
          case atStart => exact ⟨rfl, HMb, HRb, HBb, HBOX⟩
          case round =>
            obtain ⟨rfl, HMq, HRq, HBq, HBOXq⟩ := hrel
            have HLq := HLo
            go_wp2_with fail
            have HTq := Lib.hid (HT.out.below HBq.out)
            obtain ⟨g, c, cs, W, hMq, hTq, hgq⟩ := HMq.out
            have HCC := Lib.hid (fun n => count_calls T g c cs W lo (wr.drewN n) (hMq.below (bl_drewN (Below.refl wr.heap.size wr) n)))
            have HRC := Lib.hid (fun n => rcount_calls R lo (by rw [HLq.out]; omega) (wr.drewN n) (HRq.out.drewN n))
            obtain ⟨nx, hnx⟩ := next_ex lo (aa).toNat ab
            have HNX := Lib.hid (fun n => next_at T g c cs W lo (aa) ab wr nx hnx (fun m => hMq.below (bl_drewN (Below.refl wr.heap.size wr) m)) (by omega) (by omega) HTq.out n)
            have HRN := Lib.hid (fun n => rnext_at R lo (aa) ab (by rw [HLq.out]; omega) wr nx hnx HRq.out (by omega) (by omega) n)
            rw [HLq.out] at HRC HRN
            have hcl : countL lo ≤ 2097152 := Nat.le_trans (countL_le _) (by rw [HLq.out]; omega)
            have b0 := HBOXq.out.cell 0
            have b1 := HBOXq.out.cell 1
            have b2 := HBOXq.out.cell 2
            have b3 := HBOXq.out.cell 3
            clear hMq hTq hgq hnx
            generalize countL lo = cv at *
            have hq1 : ((cv : Int) != (cv : Int)) = false := by simp
            have hq2 : ((nx : Int) != (nx : Int)) = false := by simp
            go_quiet ((first
              | (go_at_call 10; refine (HCC.out _).mono ?_; rintro e w1 ⟨rfl, rfl⟩; exact ⟨rfl, _, rfl⟩)
              | (go_at_call 11; refine (HRC.out _).mono ?_; rintro e w1 ⟨rfl, rfl⟩; exact ⟨rfl, _, rfl⟩)
              | (go_at_call 12; exact HNX.out _)
              | (go_at_call 13; exact HRN.out _)))
            go_wp2_with fail
            go_roundw
            case measure => simp [intOf]; omega
            case rel => exact ⟨k + 1, T, lo, rfl, by go_num, by omega, HLq, hidMap HMq (fun h => h.drewN _), hidMap HRq (fun h => Blk.drewN h _), hidMap HBq (fun h => bl_drewN h _)⟩
        by_cases c3 : (N : Int) < az
        · have b0 := HBOX.out.cell 0
          have b1 := HBOX.out.cell 1
          have b2 := HBOX.out.cell 2
          have b3 := HBOX.out.cell 3
          obtain ⟨g, c, cs, W, hMM, hTT, hgg⟩ := HMb.out
          have HF := Lib.hid (fill_no T g c cs W lo aa az ab wb hMM (by rw [HLo.out]; omega))
          clear hMM hTT hgg
          go_wp2_with fail
          refine HF.out.mono ?_
          rintro e w4 ⟨rfl, rfl⟩
          go_wp2_with fail
          clear b0 b1 b2 b3
          go_loopw [13] (fun v w5 => v = .int .i64 aa ∧ Hid (Mask w.heap.size w5 T lo) ∧ Hid (RowB w5 R lo) ∧ Hid (Below w.heap.size w w5) ∧ Hid (Blk w5 H 29 #[.int .i64 3, .int .i64 aa, .int .i64 az, .bool ab])) (fun _ _ => 0)
          case atStart => exact ⟨rfl, HMb, HRb, HBb, HBOX⟩
          case round =>
            obtain ⟨rfl, HMq, HRq, HBq, HBOXq⟩ := hrel
            have HLq := HLo
            go_wp2_with fail
            have HTq := Lib.hid (HT.out.below HBq.out)
            obtain ⟨g, c, cs, W, hMq, hTq, hgq⟩ := HMq.out
            have HCC := Lib.hid (fun n => count_calls T g c cs W lo (wr.drewN n) (hMq.below (bl_drewN (Below.refl wr.heap.size wr) n)))
            have HRC := Lib.hid (fun n => rcount_calls R lo (by rw [HLq.out]; omega) (wr.drewN n) (HRq.out.drewN n))
            obtain ⟨nx, hnx⟩ := next_ex lo (aa).toNat ab
            have HNX := Lib.hid (fun n => next_at T g c cs W lo (aa) ab wr nx hnx (fun m => hMq.below (bl_drewN (Below.refl wr.heap.size wr) m)) (by omega) (by omega) HTq.out n)
            have HRN := Lib.hid (fun n => rnext_at R lo (aa) ab (by rw [HLq.out]; omega) wr nx hnx HRq.out (by omega) (by omega) n)
            rw [HLq.out] at HRC HRN
            have hcl : countL lo ≤ 2097152 := Nat.le_trans (countL_le _) (by rw [HLq.out]; omega)
            have b0 := HBOXq.out.cell 0
            have b1 := HBOXq.out.cell 1
            have b2 := HBOXq.out.cell 2
            have b3 := HBOXq.out.cell 3
            clear hMq hTq hgq hnx
            generalize countL lo = cv at *
            have hq1 : ((cv : Int) != (cv : Int)) = false := by simp
            have hq2 : ((nx : Int) != (nx : Int)) = false := by simp
            go_quiet ((first
              | (go_at_call 10; refine (HCC.out _).mono ?_; rintro e w1 ⟨rfl, rfl⟩; exact ⟨rfl, _, rfl⟩)
              | (go_at_call 11; refine (HRC.out _).mono ?_; rintro e w1 ⟨rfl, rfl⟩; exact ⟨rfl, _, rfl⟩)
              | (go_at_call 12; exact HNX.out _)
              | (go_at_call 13; exact HRN.out _)))
            go_wp2_with fail
            go_roundw
            case measure => simp [intOf]; omega
            case rel => exact ⟨k + 1, T, lo, rfl, by go_num, by omega, HLq, hidMap HMq (fun h => h.drewN _), hidMap HRq (fun h => Blk.drewN h _), hidMap HBq (fun h => bl_drewN h _)⟩
        · obtain ⟨J, rfl⟩ : ∃ J : Nat, aa = (J : Int) := ⟨aa.toNat, by omega⟩
          obtain ⟨Z, rfl⟩ : ∃ Z : Nat, az = (Z : Int) := ⟨az.toNat, by omega⟩
          have dJ : decide ((J : Int) ≤ (Z : Int)) = true := by simp; omega
          have dJ' : decide (J ≤ Z) = true := by simp; omega
          have dZ : decide ((Z : Int) ≤ (N : Int)) = true := by simp; omega
          have dZ' : decide (Z ≤ N) = true := by simp; omega
          have b0 := HBOX.out.cell 0
          have b1 := HBOX.out.cell 1
          have b2 := HBOX.out.cell 2
          have b3 := HBOX.out.cell 3
          obtain ⟨g, c, cs, W, hMM, hTT, hgg⟩ := HMb.out
          have HF := Lib.hid (fill_yes T g c cs W lo J Z ab wb hMM (by omega) (by rw [HLo.out]; omega))
          clear hMM
          go_wp2_with fail
          refine HF.out.mono ?_
          rintro e w4 ⟨rfl, ⟨cs', W', hM4⟩, hK, hO⟩
          clear b0 b1 b2 b3
          have HR4 : Hid (RowB w4 R (fillL lo J J ab)) := Lib.hid (by rw [fillL_none _ _ _ _ (Nat.le_refl _)]; exact hK _ _ _ HRb.out (by decide))
          have HX4 := Lib.hid (hK _ _ _ HBOX.out (by decide))
          have HB4 := Lib.hid (HBb.out.trans (hO.below HBb.out.size hgg))
          have HM4 : Hid (Mask w.heap.size w4 T (fillL lo J Z ab)) := Lib.hid ⟨g, c, cs', W', hM4, hTT, hgg⟩
          have hJZ : J ≤ Z := by omega
          have hZN : Z ≤ N := by omega
          have b1 := HX4.out.cell 1
          clear hM4 hK hO hTT hgg
          go_wp2_with fail
          clear b1
          go_loopw [13] (fun v w5 => ∃ j : Nat, v = .int .i64 j ∧ J ≤ j ∧ j ≤ Z ∧ Hid (Mask w.heap.size w5 T (fillL lo J Z ab)) ∧ Hid (RowB w5 R (fillL lo J j ab)) ∧ Hid (Below w.heap.size w w5) ∧ Hid (Blk w5 H 29 #[.int .i64 3, .int .i64 (J : Int), .int .i64 (Z : Int), .bool ab])) (fun v _ => Z - (intOf v).toNat)
          case atStart => exact ⟨J, rfl, Nat.le_refl _, hJZ, HM4, HR4, HB4, HX4⟩
          case round =>
            obtain ⟨j, rfl, hj0, hj1, HM5, HR5, HB5, HX5⟩ := hrel
            have b0 := HX5.out.cell 0
            have b1 := HX5.out.cell 1
            have b2 := HX5.out.cell 2
            have b3 := HX5.out.cell 3
            by_cases hjz : j < Z
            · have hjl : j < (fillL lo J j ab).length := by rw [fillL_length, HLo.out]; omega
              have hrc := HR5.out.at_ j hjl
              have hrf := Blk.frozen HR5.out j
              have hHR : H ≠ R := Blk.ne_ HX5.out HR5.out (by decide)
              have HM6 := Lib.hid (Mask.far HM5.out (p := ⟨R, j, none⟩) HR5.out (by decide) (by decide) (.bool ab))
              have HR6 := Lib.hid (HR5.out.put j ab)
              rw [fillL_snoc _ _ _ _ hj0 (by rw [HLo.out]; omega)] at HR6
              have HX6 := Lib.hid (HX5.out.far (p := ⟨R, j, none⟩) hHR (.bool ab))
              have HB6 := Lib.hid (bl_set HB5.out (p := ⟨R, j, none⟩) hz2 (.bool ab))
              generalize tr (fillL lo J j ab) j = x at *
              go_wp2_with fail
              go_roundw
              case measure => simp [intOf]; omega
              case rel => exact ⟨j + 1, by go_num, by omega, by omega, HM6, HR6, HB6, HX6⟩
            · obtain rfl : j = Z := by omega
              go_wp2_with fail
              clear b0 b1 b2 b3
              have HMq := HM5
              have HRq := HR5
              have HBq := HB5
              have HBOXq := HX5
              have HLq : Hid ((fillL lo J j ab).length = N) := Lib.hid (by rw [fillL_length]; exact HLo.out)
              generalize fillL lo J j ab = lq at *
              have HTq := Lib.hid (HT.out.below HBq.out)
              obtain ⟨g, c, cs, W, hMq, hTq, hgq⟩ := HMq.out
              have HCC := Lib.hid (fun n => count_calls T g c cs W lq (wr.drewN n) (hMq.below (bl_drewN (Below.refl wr.heap.size wr) n)))
              have HRC := Lib.hid (fun n => rcount_calls R lq (by rw [HLq.out]; omega) (wr.drewN n) (HRq.out.drewN n))
              obtain ⟨nx, hnx⟩ := next_ex lq ((J : Int)).toNat ab
              have HNX := Lib.hid (fun n => next_at T g c cs W lq ((J : Int)) ab wr nx hnx (fun m => hMq.below (bl_drewN (Below.refl wr.heap.size wr) m)) (by omega) (by omega) HTq.out n)
              have HRN := Lib.hid (fun n => rnext_at R lq ((J : Int)) ab (by rw [HLq.out]; omega) wr nx hnx HRq.out (by omega) (by omega) n)
              rw [HLq.out] at HRC HRN
              have hcl : countL lq ≤ 2097152 := Nat.le_trans (countL_le _) (by rw [HLq.out]; omega)
              have b0 := HBOXq.out.cell 0
              have b1 := HBOXq.out.cell 1
              have b2 := HBOXq.out.cell 2
              have b3 := HBOXq.out.cell 3
              clear hMq hTq hgq hnx
              generalize countL lq = cv at *
              have hq1 : ((cv : Int) != (cv : Int)) = false := by simp
              have hq2 : ((nx : Int) != (nx : Int)) = false := by simp
              go_quiet ((first
                | (go_at_call 10; refine (HCC.out _).mono ?_; rintro e w1 ⟨rfl, rfl⟩; exact ⟨rfl, _, rfl⟩)
                | (go_at_call 11; refine (HRC.out _).mono ?_; rintro e w1 ⟨rfl, rfl⟩; exact ⟨rfl, _, rfl⟩)
                | (go_at_call 12; exact HNX.out _)
                | (go_at_call 13; exact HRN.out _)))
              go_wp2_with fail
              go_roundw
              case measure => simp [intOf]; omega
              case rel => exact ⟨k + 1, T, lq, rfl, by go_num, by omega, HLq, hidMap HMq (fun h => h.drewN _), hidMap HRq (fun h => Blk.drewN h _), hidMap HBq (fun h => bl_drewN h _)⟩
      by_cases k4 : ak = 4
      · subst k4
        have b0 := HBOX.out.cell 0
        have b1 := HBOX.out.cell 1
        have b2 := HBOX.out.cell 2
        have b3 := HBOX.out.cell 3
        obtain ⟨g, c, cs, W, hMM, hTT, hgg⟩ := HMb.out
        have HCL := Lib.hid (clone_calls T g c cs W lo wb hMM)
        have hzb : w.heap.size ≤ wb.heap.size := HBb.out.size
        clear hMM hTT hgg
        go_wp2_with fail
        refine HCL.out.mono ?_
        rintro e w4 ⟨T', rfl, hM4, hB4⟩
        have HMq : Hid (Mask w.heap.size w4 T' lo) := Lib.hid (by obtain ⟨g', c', cs', W', h, p, q⟩ := hM4; exact ⟨g', c', cs', W', h, by omega, by omega⟩)
        have HRq : Hid (RowB w4 R lo) := Lib.hid (Blk.below' HRb.out hB4)
        have HBOXq := Lib.hid (HBOX.out.below' hB4)
        have HBq := Lib.hid (bl_then HBb.out hB4)
        have HLq := HLo
        clear hM4 hB4 b0 b1 b2 b3
        go_wp2_with fail
        have HTq := Lib.hid (HT.out.below HBq.out)
        obtain ⟨g, c, cs, W, hMq, hTq, hgq⟩ := HMq.out
        have HCC := Lib.hid (fun n => count_calls T' g c cs W lo (w4.drewN n) (hMq.below (bl_drewN (Below.refl w4.heap.size w4) n)))
        have HRC := Lib.hid (fun n => rcount_calls R lo (by rw [HLq.out]; omega) (w4.drewN n) (HRq.out.drewN n))
        obtain ⟨nx, hnx⟩ := next_ex lo (aa).toNat ab
        have HNX := Lib.hid (fun n => next_at T' g c cs W lo (aa) ab w4 nx hnx (fun m => hMq.below (bl_drewN (Below.refl w4.heap.size w4) m)) (by omega) (by omega) HTq.out n)
        have HRN := Lib.hid (fun n => rnext_at R lo (aa) ab (by rw [HLq.out]; omega) w4 nx hnx HRq.out (by omega) (by omega) n)
        rw [HLq.out] at HRC HRN
        have hcl : countL lo ≤ 2097152 := Nat.le_trans (countL_le _) (by rw [HLq.out]; omega)
        have b0 := HBOXq.out.cell 0
        have b1 := HBOXq.out.cell 1
        have b2 := HBOXq.out.cell 2
        have b3 := HBOXq.out.cell 3
        clear hMq hTq hgq hnx
        generalize countL lo = cv at *
        have hq1 : ((cv : Int) != (cv : Int)) = false := by simp
        have hq2 : ((nx : Int) != (nx : Int)) = false := by simp
        go_quiet ((first
          | (go_at_call 10; refine (HCC.out _).mono ?_; rintro e w1 ⟨rfl, rfl⟩; exact ⟨rfl, _, rfl⟩)
          | (go_at_call 11; refine (HRC.out _).mono ?_; rintro e w1 ⟨rfl, rfl⟩; exact ⟨rfl, _, rfl⟩)
          | (go_at_call 12; exact HNX.out _)
          | (go_at_call 13; exact HRN.out _)))
        go_wp2_with fail
        go_roundw
        case measure => simp [intOf]; omega
        case rel => exact ⟨k + 1, T', lo, rfl, by go_num, by omega, HLq, hidMap HMq (fun h => h.drewN _), hidMap HRq (fun h => Blk.drewN h _), hidMap HBq (fun h => bl_drewN h _)⟩
      ·
        have d0 : (ak == 0) = false := by simp; omega
        have d1 : (ak == 1) = false := by simp; omega
        have d2 : (ak == 2) = false := by simp; omega
        have d3 : (ak == 3) = false := by simp; omega
        have d4 : (ak == 4) = false := by simp; omega
        have b0 := HBOX.out.cell 0
        have b1 := HBOX.out.cell 1
        have b2 := HBOX.out.cell 2
        have b3 := HBOX.out.cell 3
        go_wp2_with fail
        clear b0 b1 b2 b3
        have HMq := HMb
        have HRq := HRb
        have HBq := HBb
        have HLq := HLo
        have HBOXq := HBOX
        have HTq := Lib.hid (HT.out.below HBq.out)
        obtain ⟨g, c, cs, W, hMq, hTq, hgq⟩ := HMq.out
        have HCC := Lib.hid (fun n => count_calls T g c cs W lo (wb.drewN n) (hMq.below (bl_drewN (Below.refl wb.heap.size wb) n)))
        have HRC := Lib.hid (fun n => rcount_calls R lo (by rw [HLq.out]; omega) (wb.drewN n) (HRq.out.drewN n))
        obtain ⟨nx, hnx⟩ := next_ex lo (aa).toNat ab
        have HNX := Lib.hid (fun n => next_at T g c cs W lo (aa) ab wb nx hnx (fun m => hMq.below (bl_drewN (Below.refl wb.heap.size wb) m)) (by omega) (by omega) HTq.out n)
        have HRN := Lib.hid (fun n => rnext_at R lo (aa) ab (by rw [HLq.out]; omega) wb nx hnx HRq.out (by omega) (by omega) n)
        rw [HLq.out] at HRC HRN
        have hcl : countL lo ≤ 2097152 := Nat.le_trans (countL_le _) (by rw [HLq.out]; omega)
        have b0 := HBOXq.out.cell 0
        have b1 := HBOXq.out.cell 1
        have b2 := HBOXq.out.cell 2
        have b3 := HBOXq.out.cell 3
        clear hMq hTq hgq hnx
        generalize countL lo = cv at *
        have hq1 : ((cv : Int) != (cv : Int)) = false := by simp
        have hq2 : ((nx : Int) != (nx : Int)) = false := by simp
        go_quiet ((first
          | (go_at_call 10; refine (HCC.out _).mono ?_; rintro e w1 ⟨rfl, rfl⟩; exact ⟨rfl, _, rfl⟩)
          | (go_at_call 11; refine (HRC.out _).mono ?_; rintro e w1 ⟨rfl, rfl⟩; exact ⟨rfl, _, rfl⟩)
          | (go_at_call 12; exact HNX.out _)
          | (go_at_call 13; exact HRN.out _)))
        go_wp2_with fail
        go_roundw
        case measure => simp [intOf]; omega
        case rel => exact ⟨k + 1, T, lo, rfl, by go_num, by omega, HLq, hidMap HMq (fun h => h.drewN _), hidMap HRq (fun h => Blk.drewN h _), hidMap HBq (fun h => bl_drewN h _)⟩
    ·
      obtain rfl : k = xs.length := by omega
      obtain ⟨g, c, cs, W, hMM, hTT, hgg⟩ := HMo.out
      have hsm := same_calls T g c cs W lo R wr hMM HRo.out
      rw [HLo.out] at hsm
      have HSM := Lib.hid hsm
      clear hsm hMM
      go_wp2_with fail
      refine HSM.out.mono ?_
      rintro e w4 ⟨rfl, m, rfl⟩
      go_wp2_with fail
      go_ret
      exact ⟨rfl, bl_drewN HBo.out m⟩
end Go.Proofs.YtnhieoeiiebjoaaDoor.Bt
