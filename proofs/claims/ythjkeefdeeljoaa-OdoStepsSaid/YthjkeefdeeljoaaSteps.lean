/- The law OdoSteps: its walk. -/
import Derived.Test.YthjkeefdeeljoaaKnows09
import Derived.Test.YthjkeefdeeljoaaOffset
import Derived.Test.YthjkeefdeeljoaaViewR
namespace Go.Proofs.Ythjkeefdeeljoaa.Shp
open Go.RowKit Go.Shelf Go.Proofs.Ythjkeefdeeljoaa.Num
set_option linter.unusedVariables false
set_option linter.unusedSimpArgs false

theorem has_dig (xs : List Int) (p : Nat) (hr : rightB xs = true) (h1 : ∀ x ∈ xs, 1 ≤ x) : hasB xs (digL xs p) = true := by
  have hall : inTo xs (digL xs p) xs.length = true := by
    unfold inTo
    rw [List.all_eq_true]
    intro i hi
    have hi' : i < xs.length := by simpa using hi
    have hx := h1 _ (nth_mem xs i hi')
    have e : nth (digL xs p) i = ((dg xs p i : Nat) : Int) := by
      rw [nth_eq _ _ (by rw [digL_length]; exact hi')]; simp [digL, atL]
    rw [e]
    have : dg xs p i < (nth xs i).toNat := Nat.mod_lt _ (by omega)
    rw [decide_eq_true_eq]
    omega
  unfold hasB
  rw [hr, hall]
  simp [digL_length]
theorem place_dig (xs : List Int) (A C : Option Addr) (ca cc n p : Nat) (w : World) (hn : xs.length = n) (hx : ReadsI w .i64 A xs) (hy : ReadsI w .i64 C (digL xs p)) (hl : n ≤ 1000000) (hok : sizeOk xs = true) (hp : (p : Int) < prod xs) :
    Calls Try.prog 24 #[.slice A n ca, .slice C n cc] w fun e w' => e = .returned (.tuple #[.int .i64 (p : Int), .bool true]) ∧ Below w.heap.size w w' := by
  subst hn
  have hok' := hok
  unfold sizeOk at hok'
  simp only [Bool.and_eq_true, decide_eq_true_eq] at hok'
  have h1 := prod_pos_mem xs (fun x hx => ((rightB_mem hok'.1).2 x hx).1) (by omega)
  have h := place_calls xs (digL xs p) A C ca cc w hx hy hl (by rw [digL_length]; omega)
  rw [digL_length, if_pos (by rw [hok, has_dig xs p hok'.1 h1]; rfl), show plc xs (digL xs p) xs.length = (p : Int) from plc_at xs h1 p hp] at h
  exact h
theorem offset_dig (xs ys : List Int) (off : Int) (A B C : Option Addr) (ca cb cc n m p : Nat) (w : World) (hx : ReadsI w .i64 A xs) (hy : ReadsI w .i64 B ys) (hp : ReadsI w .i64 C (digL xs p)) (hn : xs.length = n) (hm : ys.length = m) (hv : vrB xs ys off = true) (hpp : (p : Int) < prod xs) :
    Calls Try.prog 23 #[.agg #[.slice A n ca, .slice B m cb, .int .i64 off], .slice C n cc] w fun e w' => e = .returned (.tuple #[.int .i64 (plO xs ys off p), .bool true]) ∧ Below w.heap.size w w' := by
  obtain ⟨b1, b2, _⟩ := view_bounds hv (by omega)
  have h := offset_yes xs ys (digL xs p) off A B C ca cb cc n m n w hx hy hp hn hm (by rw [digL_length, hn]) hv (has_dig xs p b1 b2)
  rw [← hn, dotI_dig xs ys p xs.length (Nat.le_refl _)] at h
  rw [← hn]
  exact h

/-- What stays through the law's rounds. -/
structure StpI (A B : Option Addr) (ca cb n m : Nat) (off : Int) (xs ys : List Int) (X5 g hi : Nat) (w : World) (W : World) : Prop where
  bx : Blk W X5 34 #[.slice A n ca, .slice B m cb, .int .i64 off]
  below : Below w.heap.size w W
  g1 : w.heap.size ≤ g
  g2 : X5 < g
theorem StpI.later {A B : Option Addr} {ca cb n m : Nat} {off : Int} {xs ys : List Int} {X5 g hi : Nat} {w W W' : World} (h : StpI A B ca cb n m off xs ys X5 g hi w W) (hb : Below W.heap.size W W') : StpI A B ca cb n m off xs ys X5 g hi w W' :=
  ⟨h.bx.below' hb, bl_then h.below hb, h.g1, h.g2⟩
theorem StpI.next {A B : Option Addr} {ca cb n m : Nat} {off : Int} {xs ys : List Int} {X5 g hi : Nat} {w W W' : World} (h : StpI A B ca cb n m off xs ys X5 g hi w W) (hb : Only g W W') : StpI A B ca cb n m off xs ys X5 g hi w W' :=
  ⟨hb.blk h.bx (by have := h.g2; omega), h.below.trans (hb.below h.below.size h.g1), h.g1, h.g2⟩

set_option maxRecDepth 100000 in
set_option maxHeartbeats 4000000 in
theorem steps_walk (xs ys : List Int) (off more : Int) (A B : Option Addr) (ca cb : Nat) (w : World) (hx : ReadsI w .i64 A xs) (hy : ReadsI w .i64 B ys) (hmore : fits more) :
    Calls Try.prog 4 #[.agg #[.slice A xs.length ca, .slice B ys.length cb, .int .i64 off], .int .i64 more] w fun e w' => e = .returned (.bool true) ∧ Below w.heap.size w w' := by
  have HB0 : Hid (Below w.heap.size w (w.alloc (.cells #[.slice A xs.length ca, .slice B ys.length cb, .int .i64 off] 24))) := Lib.hid (bl_alloc (Below.refl _ _) _)
  have hL := light_calls xs ys off A B ca cb _ (hx.below HB0.out)
  cases hlt : lightB 400 xs ys with
  | false =>
    rw [hlt] at hL
    have HL := Lib.hid hL
    clear hx hy hL hlt
    go_enter Try.func4, Try.ntmps4
    go_wp2_with fail
    refine HL.out.mono ?_
    rintro e w1 ⟨rfl, hB⟩
    have HB1 := Lib.hid (bl_then HB0.out hB)
    clear hB
    go_wp2_with fail
    refine (knows_calls _).mono ?_
    rintro e w2 ⟨rfl, hB⟩
    have HB2 := Lib.hid (bl_then HB1.out hB)
    clear hB
    go_wp2_with fail
    go_ret
    exact ⟨rfl, HB2.out⟩
  | true =>
    rw [hlt] at hL
    have HL := Lib.hid hL
    have HXY : Hid (xs.length ≤ 20 ∧ ys.length ≤ 20 ∧ (sizeOk xs = true → prod xs ≤ 400)) := Lib.hid (by
      unfold lightB at hlt
      simp only [Bool.and_eq_true, decide_eq_true_eq, Bool.or_eq_true, Bool.not_eq_true'] at hlt
      exact ⟨hlt.1, hlt.2.1, fun h => by rcases hlt.2.2 with h2 | h2; · rw [h] at h2; cases h2
                                         · exact h2⟩)
    obtain ⟨n, hn⟩ : ∃ n, xs.length = n := ⟨_, rfl⟩
    obtain ⟨m, hm⟩ : ∃ m, ys.length = m := ⟨_, rfl⟩
    have HNN := Lib.hid hn
    have HMM := Lib.hid hm
    rw [hn, hm] at HL HB0 HXY
    rw [hn, hm]
    have hn20 : n ≤ 20 := HXY.out.1
    have hm20 : m ≤ 20 := HXY.out.2.1
    have HX := Lib.hid hx
    have HY := Lib.hid hy
    have HMO := Lib.hid hmore
    clear hx hy hL hlt hn hm hmore
    go_enter Try.func4, Try.ntmps4
    go_wp2_with fail
    refine HL.out.mono ?_
    rintro e w1 ⟨rfl, hB⟩
    have hbx := (Blk.new w 24 #[.slice A n ca, .slice B m cb, .int .i64 off]).below' hB
    have HBX := Lib.hid hbx
    have HB1 := Lib.hid (bl_then HB0.out hB)
    clear hB hbx
    go_wp2_with fail
    refine (knows_calls _).mono ?_
    rintro e w2 ⟨rfl, hB⟩
    have hbx := HBX.out.below' hB
    have c0 : w2.cell? ⟨w.heap.size, 0, none⟩ = some (.slice A n ca) := hbx.cell 0
    have c1 : w2.cell? ⟨w.heap.size, 1, none⟩ = some (.slice B m cb) := hbx.cell 1
    have c2 : w2.cell? ⟨w.heap.size, 2, none⟩ = some (.int .i64 off) := hbx.cell 2
    have HBX2 := Lib.hid hbx
    have HB2 := Lib.hid (bl_then HB1.out hB)
    clear hB hbx HBX HB1 HL HB0
    go_wp2_with fail
    refine (own_calls A B ca cb n m off _).mono ?_
    rintro e w3 ⟨rfl, hB⟩
    have HBX3 := Lib.hid (HBX2.out.below' hB)
    have HB3 := Lib.hid (bl_then HB2.out hB)
    clear hB HBX2 HB2 c0 c1 c2
    go_wp2_with fail
    obtain ⟨X5, hX5⟩ : ∃ X5, w3.heap.size = X5 := ⟨_, rfl⟩
    obtain ⟨W3, hW3⟩ : ∃ W3, w3.alloc (.cells #[.slice A n ca, .slice B m cb, .int .i64 off] 34) = W3 := ⟨_, rfl⟩
    have hs3 : W3.heap.size = X5 + 1 := by rw [← hW3, ← hX5]; simp
    have hb3 : Below w.heap.size w W3 := by rw [← hW3]; exact bl_alloc HB3.out _
    have hbx3 : Blk W3 X5 34 #[.slice A n ca, .slice B m cb, .int .i64 off] := by rw [← hW3, ← hX5]; exact Blk.new _ _ _
    have hrx3 : Blk W3 w.heap.size 24 #[.slice A n ca, .slice B m cb, .int .i64 off] := by rw [← hW3]; exact HBX3.out.alloc _
    have hNW := onew_calls xs ys off A B ca cb n m W3 (HX.out.below hb3) (HY.out.below hb3) HNN.out HMM.out (by omega) (by omega)
    have hX5w : w.heap.size ≤ X5 := by rw [← hX5]; exact HB3.out.size
    rw [hs3] at hNW
    have HNW := Lib.hid hNW
    have HS3 := Lib.hid hs3
    have HB4 := Lib.hid hb3
    have HBV := Lib.hid hbx3
    have HBR := Lib.hid hrx3
    have HX5 := Lib.hid hX5w
    rw [hX5, hW3]
    clear hX5 hW3 hs3 hb3 hbx3 hrx3 hNW hX5w HB3 HBX3
    refine HNW.out.mono ?_
    rintro e w4 ⟨rfl, hO, hB⟩
    obtain ⟨g, hg⟩ : ∃ g, X5 + 1 + 1 = g := ⟨_, rfl⟩
    obtain ⟨hi, hhi⟩ : ∃ hi, w4.heap.size = hi := ⟨_, rfl⟩
    obtain ⟨N, hN⟩ : ∃ N, cellsN xs ys off = N := ⟨_, rfl⟩
    obtain ⟨XS, hXS⟩ : ∃ XS, shpN xs ys off = XS := ⟨_, rfl⟩
    obtain ⟨YS, hYS⟩ : ∃ YS, strN xs ys off = YS := ⟨_, rfl⟩
    obtain ⟨OF, hOF⟩ : ∃ OF, offN xs ys off = OF := ⟨_, rfl⟩
    rw [hg, hhi, hN, hXS, hYS, hOF] at hO
    rw [hg]
    have hB' : Below W3.heap.size W3 w4 := by rw [HS3.out]; exact hB
    have HI : Hid (StpI A B ca cb n m off xs ys X5 g hi w w4) := Lib.hid ⟨HBV.out.below' hB', bl_then HB4.out hB', by have := HX5.out; omega, by omega⟩
    have HO := Lib.hid hO
    have hbr := HBR.out.below' hB'
    have HBR4 := Lib.hid hbr
    have c0 : w4.cell? ⟨w.heap.size, 0, none⟩ = some (.slice A n ca) := hbr.cell 0
    have hv0 : w4.cell? ⟨X5, 0, none⟩ = some (.slice A n ca) := HI.out.bx.cell 0
    have hv1 : w4.cell? ⟨X5, 1, none⟩ = some (.slice B m cb) := HI.out.bx.cell 1
    have hv2 : w4.cell? ⟨X5, 2, none⟩ = some (.int .i64 off) := HI.out.bx.cell 2
    have HLF := Lib.hid (left_calls w4 hO)
    have HXS := Lib.hid hXS
    have HYS := Lib.hid hYS
    have HOF := Lib.hid hOF
    have HN := Lib.hid hN
    have HGX : Hid (X5 + 1 + 1 = g) := Lib.hid hg
    clear hO hB hB' hbr hg hhi hN hXS hYS hOF HNW HBV HB4 HBR
    go_wp2_with fail
    refine HLF.out.mono ?_
    rintro e w' ⟨rfl, rfl⟩
    rw [Nat.sub_zero]
    have HX4 := Lib.hid (HX.out.below HI.out.below)
    have hS := rsize2_calls xs A ca w4 HX4.out (by rw [HNN.out]; omega)
    rw [HNN.out] at hS
    have hVR := fun W h => vright_calls xs ys off A B ca cb n m W (HX.out.below h) (HY.out.below h) HNN.out HMM.out (by omega) (by omega)
    have hRR := fun W h => rvright_calls xs ys off A B ca cb n m W (HX.out.below h) (HY.out.below h) HNN.out HMM.out (by omega) (by omega)
    have hc : ∃ (ok b : Bool) (sz : Int), sizeOk xs = ok ∧ vrB xs ys off = b ∧ (if sizeOk xs = true then prod xs else 0) = sz ∧ ((b = true ∧ ok = true ∧ sz = N) ∨ (b = false ∧ N = 0 ∧ ok = true) ∨ (b = false ∧ N = 0 ∧ ok = false ∧ sz = 0)) := by
      refine ⟨_, _, _, rfl, rfl, rfl, ?_⟩
      have h := HN.out
      unfold cellsN at h
      cases hb : vrB xs ys off with
      | true =>
        have h1 := (vrB_out hb).1
        rw [if_pos hb] at h
        refine .inl ⟨rfl, h1, ?_⟩
        rw [if_pos h1]
        have h2 := h1
        unfold sizeOk at h2
        simp only [Bool.and_eq_true] at h2
        have := prod_nonneg xs (fun x hx => ((rightB_mem h2.1).2 x hx).1)
        omega
      | false =>
        rw [if_neg (by rw [hb]; simp)] at h
        cases ho : sizeOk xs with
        | true => exact .inr (.inl ⟨rfl, h.symm, rfl⟩)
        | false => exact .inr (.inr ⟨rfl, h.symm, rfl, if_neg (by simp)⟩)
    have HPOS : Hid (0 < N → vrB xs ys off = true ∧ XS = xs ∧ YS = ys ∧ OF = off ∧ (N : Int) = prod xs) := Lib.hid (fun h0 => by
      have h := HN.out
      unfold cellsN at h
      cases hb : vrB xs ys off with
      | true =>
        rw [if_pos hb] at h
        refine ⟨rfl, ?_, ?_, ?_, by omega⟩
        · rw [← HXS.out]; unfold shpN; rw [if_pos hb]
        · rw [← HYS.out]; unfold strN; rw [if_pos hb]
        · rw [← HOF.out]; unfold offN; rw [if_pos hb]
      | false =>
        rw [if_neg (by rw [hb]; simp)] at h
        omega)
    have hN400 : N ≤ 400 := by
      rcases Nat.eq_zero_or_pos N with h | h
      · omega
      · obtain ⟨h1, _, _, _, h2⟩ := HPOS.out h
        have := HXY.out.2.2 (vrB_out h1).1
        omega
    have HAT := Lib.hid (fun W h => oat_not (g := g) (hi := hi) (xs := XS) (ys := YS) (off0 := OF) (n := N) (m := 0) W h)
    obtain ⟨ok, b, sz, h1, h2, h3, hcase⟩ := hc
    rw [h3, h1] at hS
    rw [h2] at hVR hRR
    have HS := Lib.hid hS
    have HVR := Lib.hid hVR
    have HRR := Lib.hid hRR
    clear hS hVR hRR h1 h2 h3 HLF HN HXS HYS HOF
    rcases hcase with ⟨rfl, rfl, rfl⟩ | ⟨rfl, rfl, rfl⟩ | ⟨rfl, rfl, rfl, rfl⟩
    · go_wp2_with fail
      refine HS.out.mono ?_
      rintro e w5 ⟨rfl, hB5⟩
      have HI5 := Lib.hid (HI.out.later hB5)
      have HO5 := Lib.hid (HO.out.below hB5)
      have hbr5 := HBR4.out.below' hB5
      clear hB5 c0 hv0 hv1 hv2 HI HO HBR4 HX4 HS
      have hv0 : w5.cell? ⟨X5, 0, none⟩ = some (.slice A n ca) := HI5.out.bx.cell 0
      have hv1 : w5.cell? ⟨X5, 1, none⟩ = some (.slice B m cb) := HI5.out.bx.cell 1
      have hv2 : w5.cell? ⟨X5, 2, none⟩ = some (.int .i64 off) := HI5.out.bx.cell 2
      have HBR5 := Lib.hid hbr5
      clear hbr5
      go_wp2_with fail
      refine (HVR.out w5 HI5.out.below).mono ?_
      rintro e w6 ⟨rfl, hB6⟩
      have HI6 := Lib.hid (HI5.out.later hB6)
      have HO6 := Lib.hid (HO5.out.below hB6)
      have hbr6 := HBR5.out.below' hB6
      clear hB6 hv0 hv1 hv2 HI5 HO5 HBR5
      have hv0 : w6.cell? ⟨X5, 0, none⟩ = some (.slice A n ca) := HI6.out.bx.cell 0
      have hv1 : w6.cell? ⟨X5, 1, none⟩ = some (.slice B m cb) := HI6.out.bx.cell 1
      have hv2 : w6.cell? ⟨X5, 2, none⟩ = some (.int .i64 off) := HI6.out.bx.cell 2
      have r0 : w6.cell? ⟨w.heap.size, 0, none⟩ = some (.slice A n ca) := hbr6.cell 0
      have r1 : w6.cell? ⟨w.heap.size, 1, none⟩ = some (.slice B m cb) := hbr6.cell 1
      have r2 : w6.cell? ⟨w.heap.size, 2, none⟩ = some (.int .i64 off) := hbr6.cell 2
      have HBR6 := Lib.hid hbr6
      clear hbr6
      go_wp2_with fail
      refine (HVR.out w6 HI6.out.below).mono ?_
      rintro e w7 ⟨rfl, hB7⟩
      have HI7 := Lib.hid (HI6.out.later hB7)
      have HO7 := Lib.hid (HO6.out.below hB7)
      have hbr7 := HBR6.out.below' hB7
      clear hB7 hv0 hv1 hv2 r0 r1 r2 HI6 HO6 HBR6
      have r0 : w7.cell? ⟨w.heap.size, 0, none⟩ = some (.slice A n ca) := hbr7.cell 0
      have r1 : w7.cell? ⟨w.heap.size, 1, none⟩ = some (.slice B m cb) := hbr7.cell 1
      have r2 : w7.cell? ⟨w.heap.size, 2, none⟩ = some (.int .i64 off) := hbr7.cell 2
      clear hbr7
      go_wp2_with fail
      refine (HRR.out w7 HI7.out.below).mono ?_
      rintro e w8 ⟨rfl, hB8⟩
      have HI8 := Lib.hid (HI7.out.later hB8)
      have HO8 := Lib.hid (HO7.out.below hB8)
      clear hB8 r0 r1 r2 HI7 HO7
      go_wp2_with fail
      refine (HAT.out w8 HO8.out).mono ?_
      rintro e w' ⟨rfl, rfl⟩
      have HI9 := HI8
      have HO9 := HO8
      clear HI8 HO8 HAT
      go_wp2_with fail
      go_loopw [10] (fun i wr => ∃ (k : Nat) (st : Bool), i = .int .i64 k ∧ k ≤ N ∧ Hid (OdoN g hi XS YS OF N k st wr) ∧ Hid (StpI A B ca cb n m off xs ys X5 g hi w wr)) (fun i _ => N - (intOf i).toNat)
      case atStart => exact ⟨0, false, rfl, Nat.zero_le _, HO9, HI9⟩
      case round =>
        obtain ⟨k, st, rfl, hk, HO, HI⟩ := hrel
        by_cases hlt : k < N
        · obtain ⟨hv, e1, e2, e3, e4⟩ := HPOS.out (by omega)
          have hO := HO.out
          rw [e1, e2, e3] at hO
          have hl6 := (view_bounds hv (by omega)).2.2.2.2.2.1
          have hok := (vrB_out hv).1
          have HE1 := Lib.hid e1
          have HE2 := Lib.hid e2
          have HE3 := Lib.hid e3
          have HV := Lib.hid hv
          have HOK := Lib.hid hok
          have hpk : (k : Int) < prod xs := by omega
          have HPK := Lib.hid hpk
          have HNX := Lib.hid (next_yes wr hO hlt hv (by omega))
          have HL6 := Lib.hid hl6
          obtain ⟨l1, hl1⟩ : ∃ l1, N - k = l1 := ⟨_, rfl⟩
          obtain ⟨l2, hl2⟩ : ∃ l2, N - (k + 1) = l2 := ⟨_, rfl⟩
          have a1 : (N : Int) - (k : Int) = (l1 : Int) := by omega
          have a2 : (l1 : Int) - 1 = (l2 : Int) := by omega
          have a3 : IntKind.i64.wrap (l1 : Int) = (l1 : Int) := by rw [IntKind.wrap_i64]; omega
          have a4 : IntKind.i64.wrap (l2 : Int) = (l2 : Int) := by rw [IntKind.wrap_i64]; omega
          have HLE := Lib.hid hl2
          have hki : (k : Int) < (N : Int) := by omega
          clear hO hv hok hpk hl6 e1 e2 e3 e4 HO hl1 hl2
          obtain ⟨P, hP⟩ : ∃ P, plO xs ys off k = P := ⟨_, rfl⟩
          rw [hP] at HNX
          have HP := Lib.hid hP
          clear hP
          go_wp2_with fail
          refine HNX.out.mono ?_
          rintro e v1 ⟨rfl, hO1, ho1⟩
          have HI1 := Lib.hid (HI.out.next ho1)
          have HO1 := Lib.hid hO1
          clear hO1 ho1 HNX HI
          go_wp2_with fail
          refine (oat_calls v1 HO1.out HL6.out).mono ?_
          rintro e v2 ⟨⟨C, cc, rfl, hrC⟩, hB2⟩
          rw [HNN.out]
          have HRC := Lib.hid (show ReadsI v2 .i64 C (digL xs k) from hrC)
          have HI2 := Lib.hid (HI1.out.later hB2)
          have HO2 := Lib.hid (HO1.out.below hB2)
          clear hrC hB2 HI1 HO1
          have hv0 : v2.cell? ⟨X5, 0, none⟩ = some (.slice A n ca) := HI2.out.bx.cell 0
          have hv1 : v2.cell? ⟨X5, 1, none⟩ = some (.slice B m cb) := HI2.out.bx.cell 1
          have hv2 : v2.cell? ⟨X5, 2, none⟩ = some (.int .i64 off) := HI2.out.bx.cell 2
          go_wp2_with fail
          refine (offset_dig xs ys off A B C ca cb cc n m k v2 (HX.out.below HI2.out.below) (HY.out.below HI2.out.below) HRC.out HNN.out HMM.out HV.out HPK.out).mono ?_
          rintro e v3 ⟨rfl, hB3⟩
          rw [HP.out]
          have HRC3 := Lib.hid (HRC.out.below hB3)
          have HI3 := Lib.hid (HI2.out.later hB3)
          have HO3 := Lib.hid (HO2.out.below hB3)
          clear hB3 HRC HI2 HO2 hv0 hv1 hv2
          have hv0 : v3.cell? ⟨X5, 0, none⟩ = some (.slice A n ca) := HI3.out.bx.cell 0
          go_wp2_with fail
          refine (place_dig xs A C ca cc n k v3 HNN.out (HX.out.below HI3.out.below) HRC3.out (by omega) HOK.out HPK.out).mono ?_
          rintro e v4 ⟨rfl, hB4⟩
          have HI4 := Lib.hid (HI3.out.later hB4)
          have HO4 := Lib.hid (HO3.out.below hB4)
          have HLF := Lib.hid (left_calls v4 (HO3.out.below hB4))
          rw [HLE.out] at HLF
          clear hB4 HRC3 HI3 HO3 hv0
          go_wp2_with fail
          refine HLF.out.mono ?_
          rintro e v' ⟨rfl, rfl⟩
          go_wp2_with fail
          go_roundw
          case measure => first | (simp [intOf]; done) | (simp [intOf]; omega)
          case rel => exact ⟨k + 1, true, by go_num, by omega, Lib.hid (by rw [HE1.out, HE2.out, HE3.out]; exact HO4.out), HI4⟩
        · obtain rfl : k = N := by omega
          obtain ⟨r, hr⟩ : ∃ r, more.tmod 3 = r := ⟨_, rfl⟩
          have hr1 : -2 ≤ r ∧ r ≤ 2 := by
            have q1 := Int.tmod_lt_of_pos more (show (0 : Int) < 3 by omega)
            have q2 := Int.lt_tmod_of_pos more (show (0 : Int) < 3 by omega)
            rw [hr] at q1 q2
            omega
          have hwr : IntKind.i64.wrap r = r := by rw [IntKind.wrap_i64]; omega
          have HSTB := HO
          clear HO
          go_wp2_with fail
          go_loopw [18] (fun i wr => ∃ (j : Nat) (st : Bool), i = .int .i64 j ∧ j ≤ 2 ∧ Hid (OdoN g hi XS YS OF k k st wr) ∧ Hid (StpI A B ca cb n m off xs ys X5 g hi w wr)) (fun i _ => 3 - (intOf i).toNat)
          case atStart => exact ⟨0, st, rfl, by omega, HSTB, HI⟩
          case round =>
            clear HSTB HI
            obtain ⟨j, st', rfl, hj, HO, HI⟩ := hrel
            by_cases hlt2 : (j : Int) < r
            · have HNX := Lib.hid (next_no _ HO.out rfl)
              go_wp2_with fail
              refine HNX.out.mono ?_
              rintro e v1 ⟨rfl, hO1, ho1⟩
              have HI1 := Lib.hid (HI.out.next ho1)
              have HO1 := Lib.hid hO1
              have HLF := left_calls v1 hO1
              rw [Nat.sub_self] at HLF
              have HLF := Lib.hid HLF
              clear hO1 ho1 HNX HI HO
              go_wp2_with fail
              refine (oat_not v1 HO1.out).mono ?_
              rintro e v' ⟨rfl, rfl⟩
              go_wp2_with fail
              refine HLF.out.mono ?_
              rintro e v' ⟨rfl, rfl⟩
              go_wp2_with fail
              go_roundw
              case measure => first | (simp [intOf]; done) | (simp [intOf]; omega)
              case rel => exact ⟨j + 1, false, by go_num, by omega, HO1, HI1⟩
            · go_wp2_with fail
              refine (next_nil _).mono ?_
              rintro e v' ⟨rfl, rfl⟩
              go_wp2_with fail
              refine (oat_nil _).mono ?_
              rintro e v' ⟨rfl, rfl⟩
              go_wp2_with fail
              refine (left_nil _).mono ?_
              rintro e v' ⟨rfl, rfl⟩
              go_wp2_with fail
              go_ret
              exact ⟨rfl, HI.out.below⟩
    · rw [show ((0 : Nat) : Int) = 0 from rfl]
      go_wp2_with fail
      refine HS.out.mono ?_
      rintro e w5 ⟨rfl, hB5⟩
      have HI5 := Lib.hid (HI.out.later hB5)
      have HO5 := Lib.hid (HO.out.below hB5)
      have hbr5 := HBR4.out.below' hB5
      clear hB5 c0 hv0 hv1 hv2 HI HO HBR4 HX4 HS
      have hv0 : w5.cell? ⟨X5, 0, none⟩ = some (.slice A n ca) := HI5.out.bx.cell 0
      have hv1 : w5.cell? ⟨X5, 1, none⟩ = some (.slice B m cb) := HI5.out.bx.cell 1
      have hv2 : w5.cell? ⟨X5, 2, none⟩ = some (.int .i64 off) := HI5.out.bx.cell 2
      have HBR5 := Lib.hid hbr5
      clear hbr5
      go_wp2_with fail
      refine (HVR.out w5 HI5.out.below).mono ?_
      rintro e w6 ⟨rfl, hB6⟩
      have HI6 := Lib.hid (HI5.out.later hB6)
      have HO6 := Lib.hid (HO5.out.below hB6)
      have hbr6 := HBR5.out.below' hB6
      clear hB6 hv0 hv1 hv2 HI5 HO5 HBR5
      have hv0 : w6.cell? ⟨X5, 0, none⟩ = some (.slice A n ca) := HI6.out.bx.cell 0
      have hv1 : w6.cell? ⟨X5, 1, none⟩ = some (.slice B m cb) := HI6.out.bx.cell 1
      have hv2 : w6.cell? ⟨X5, 2, none⟩ = some (.int .i64 off) := HI6.out.bx.cell 2
      have r0 : w6.cell? ⟨w.heap.size, 0, none⟩ = some (.slice A n ca) := hbr6.cell 0
      have r1 : w6.cell? ⟨w.heap.size, 1, none⟩ = some (.slice B m cb) := hbr6.cell 1
      have r2 : w6.cell? ⟨w.heap.size, 2, none⟩ = some (.int .i64 off) := hbr6.cell 2
      have HBR6 := Lib.hid hbr6
      clear hbr6
      go_wp2_with fail
      refine (HVR.out w6 HI6.out.below).mono ?_
      rintro e w7 ⟨rfl, hB7⟩
      have HI7 := Lib.hid (HI6.out.later hB7)
      have HO7 := Lib.hid (HO6.out.below hB7)
      have hbr7 := HBR6.out.below' hB7
      clear hB7 hv0 hv1 hv2 r0 r1 r2 HI6 HO6 HBR6
      have r0 : w7.cell? ⟨w.heap.size, 0, none⟩ = some (.slice A n ca) := hbr7.cell 0
      have r1 : w7.cell? ⟨w.heap.size, 1, none⟩ = some (.slice B m cb) := hbr7.cell 1
      have r2 : w7.cell? ⟨w.heap.size, 2, none⟩ = some (.int .i64 off) := hbr7.cell 2
      clear hbr7
      go_wp2_with fail
      refine (HRR.out w7 HI7.out.below).mono ?_
      rintro e w8 ⟨rfl, hB8⟩
      have HI8 := Lib.hid (HI7.out.later hB8)
      have HO8 := Lib.hid (HO7.out.below hB8)
      clear hB8 r0 r1 r2 HI7 HO7
      go_wp2_with fail
      refine (HAT.out w8 HO8.out).mono ?_
      rintro e w' ⟨rfl, rfl⟩
      have HI9 := HI8
      have HO9 := HO8
      clear HI8 HO8 HAT
      go_wp2_with fail
      go_loopw [10] (fun i wr => ∃ (k : Nat) (st : Bool), i = .int .i64 k ∧ k ≤ 0 ∧ Hid (OdoN g hi XS YS OF 0 k st wr) ∧ Hid (StpI A B ca cb n m off xs ys X5 g hi w wr)) (fun i _ => 0 - (intOf i).toNat)
      case atStart => exact ⟨0, false, rfl, Nat.zero_le _, HO9, HI9⟩
      case round =>
        obtain ⟨k, st, rfl, hk, HO, HI⟩ := hrel
        by_cases hlt : k < 0
        · exact absurd hlt (Nat.not_lt_zero k)
        · obtain rfl : k = 0 := by omega
          rw [show ((0 : Nat) : Int) = 0 from rfl]
          obtain ⟨r, hr⟩ : ∃ r, more.tmod 3 = r := ⟨_, rfl⟩
          have hr1 : -2 ≤ r ∧ r ≤ 2 := by
            have q1 := Int.tmod_lt_of_pos more (show (0 : Int) < 3 by omega)
            have q2 := Int.lt_tmod_of_pos more (show (0 : Int) < 3 by omega)
            rw [hr] at q1 q2
            omega
          have hwr : IntKind.i64.wrap r = r := by rw [IntKind.wrap_i64]; omega
          have HSTB := HO
          clear HO
          go_wp2_with fail
          go_loopw [18] (fun i wr => ∃ (j : Nat) (st : Bool), i = .int .i64 j ∧ j ≤ 2 ∧ Hid (OdoN g hi XS YS OF 0 0 st wr) ∧ Hid (StpI A B ca cb n m off xs ys X5 g hi w wr)) (fun i _ => 3 - (intOf i).toNat)
          case atStart => exact ⟨0, st, rfl, by omega, HSTB, HI⟩
          case round =>
            clear HSTB HI
            obtain ⟨j, st', rfl, hj, HO, HI⟩ := hrel
            by_cases hlt2 : (j : Int) < r
            · have HNX := Lib.hid (next_no _ HO.out rfl)
              go_wp2_with fail
              refine HNX.out.mono ?_
              rintro e v1 ⟨rfl, hO1, ho1⟩
              have HI1 := Lib.hid (HI.out.next ho1)
              have HO1 := Lib.hid hO1
              have HLF := left_calls v1 hO1
              rw [Nat.sub_self] at HLF
              have HLF := Lib.hid HLF
              clear hO1 ho1 HNX HI HO
              go_wp2_with fail
              refine (oat_not v1 HO1.out).mono ?_
              rintro e v' ⟨rfl, rfl⟩
              go_wp2_with fail
              refine HLF.out.mono ?_
              rintro e v' ⟨rfl, rfl⟩
              go_wp2_with fail
              go_roundw
              case measure => first | (simp [intOf]; done) | (simp [intOf]; omega)
              case rel => exact ⟨j + 1, false, by go_num, by omega, HO1, HI1⟩
            · go_wp2_with fail
              refine (next_nil _).mono ?_
              rintro e v' ⟨rfl, rfl⟩
              go_wp2_with fail
              refine (oat_nil _).mono ?_
              rintro e v' ⟨rfl, rfl⟩
              go_wp2_with fail
              refine (left_nil _).mono ?_
              rintro e v' ⟨rfl, rfl⟩
              go_wp2_with fail
              go_ret
              exact ⟨rfl, HI.out.below⟩
    · rw [show ((0 : Nat) : Int) = 0 from rfl]
      go_wp2_with fail
      refine HS.out.mono ?_
      rintro e w5 ⟨rfl, hB5⟩
      have HI5 := Lib.hid (HI.out.later hB5)
      have HO5 := Lib.hid (HO.out.below hB5)
      have hbr5 := HBR4.out.below' hB5
      clear hB5 c0 hv0 hv1 hv2 HI HO HBR4 HX4 HS
      have hv0 : w5.cell? ⟨X5, 0, none⟩ = some (.slice A n ca) := HI5.out.bx.cell 0
      have hv1 : w5.cell? ⟨X5, 1, none⟩ = some (.slice B m cb) := HI5.out.bx.cell 1
      have hv2 : w5.cell? ⟨X5, 2, none⟩ = some (.int .i64 off) := HI5.out.bx.cell 2
      have HBR5 := Lib.hid hbr5
      clear hbr5
      go_wp2_with fail
      refine (HVR.out w5 HI5.out.below).mono ?_
      rintro e w6 ⟨rfl, hB6⟩
      have HI6 := Lib.hid (HI5.out.later hB6)
      have HO6 := Lib.hid (HO5.out.below hB6)
      have hbr6 := HBR5.out.below' hB6
      clear hB6 hv0 hv1 hv2 HI5 HO5 HBR5
      have hv0 : w6.cell? ⟨X5, 0, none⟩ = some (.slice A n ca) := HI6.out.bx.cell 0
      have hv1 : w6.cell? ⟨X5, 1, none⟩ = some (.slice B m cb) := HI6.out.bx.cell 1
      have hv2 : w6.cell? ⟨X5, 2, none⟩ = some (.int .i64 off) := HI6.out.bx.cell 2
      have r0 : w6.cell? ⟨w.heap.size, 0, none⟩ = some (.slice A n ca) := hbr6.cell 0
      have r1 : w6.cell? ⟨w.heap.size, 1, none⟩ = some (.slice B m cb) := hbr6.cell 1
      have r2 : w6.cell? ⟨w.heap.size, 2, none⟩ = some (.int .i64 off) := hbr6.cell 2
      have HBR6 := Lib.hid hbr6
      clear hbr6
      have HI8 := HI6
      have HO8 := HO6
      clear HI6 HO6 HBR6 hv0 hv1 hv2 r0 r1 r2
      go_wp2_with fail
      refine (HAT.out w6 HO8.out).mono ?_
      rintro e w' ⟨rfl, rfl⟩
      have HI9 := HI8
      have HO9 := HO8
      clear HI8 HO8 HAT
      go_wp2_with fail
      go_loopw [10] (fun i wr => ∃ (k : Nat) (st : Bool), i = .int .i64 k ∧ k ≤ 0 ∧ Hid (OdoN g hi XS YS OF 0 k st wr) ∧ Hid (StpI A B ca cb n m off xs ys X5 g hi w wr)) (fun i _ => 0 - (intOf i).toNat)
      case atStart => exact ⟨0, false, rfl, Nat.zero_le _, HO9, HI9⟩
      case round =>
        obtain ⟨k, st, rfl, hk, HO, HI⟩ := hrel
        by_cases hlt : k < 0
        · exact absurd hlt (Nat.not_lt_zero k)
        · obtain rfl : k = 0 := by omega
          rw [show ((0 : Nat) : Int) = 0 from rfl]
          obtain ⟨r, hr⟩ : ∃ r, more.tmod 3 = r := ⟨_, rfl⟩
          have hr1 : -2 ≤ r ∧ r ≤ 2 := by
            have q1 := Int.tmod_lt_of_pos more (show (0 : Int) < 3 by omega)
            have q2 := Int.lt_tmod_of_pos more (show (0 : Int) < 3 by omega)
            rw [hr] at q1 q2
            omega
          have hwr : IntKind.i64.wrap r = r := by rw [IntKind.wrap_i64]; omega
          have HSTB := HO
          clear HO
          go_wp2_with fail
          go_loopw [18] (fun i wr => ∃ (j : Nat) (st : Bool), i = .int .i64 j ∧ j ≤ 2 ∧ Hid (OdoN g hi XS YS OF 0 0 st wr) ∧ Hid (StpI A B ca cb n m off xs ys X5 g hi w wr)) (fun i _ => 3 - (intOf i).toNat)
          case atStart => exact ⟨0, st, rfl, by omega, HSTB, HI⟩
          case round =>
            clear HSTB HI
            obtain ⟨j, st', rfl, hj, HO, HI⟩ := hrel
            by_cases hlt2 : (j : Int) < r
            · have HNX := Lib.hid (next_no _ HO.out rfl)
              go_wp2_with fail
              refine HNX.out.mono ?_
              rintro e v1 ⟨rfl, hO1, ho1⟩
              have HI1 := Lib.hid (HI.out.next ho1)
              have HO1 := Lib.hid hO1
              have HLF := left_calls v1 hO1
              rw [Nat.sub_self] at HLF
              have HLF := Lib.hid HLF
              clear hO1 ho1 HNX HI HO
              go_wp2_with fail
              refine (oat_not v1 HO1.out).mono ?_
              rintro e v' ⟨rfl, rfl⟩
              go_wp2_with fail
              refine HLF.out.mono ?_
              rintro e v' ⟨rfl, rfl⟩
              go_wp2_with fail
              go_roundw
              case measure => first | (simp [intOf]; done) | (simp [intOf]; omega)
              case rel => exact ⟨j + 1, false, by go_num, by omega, HO1, HI1⟩
            · go_wp2_with fail
              refine (next_nil _).mono ?_
              rintro e v' ⟨rfl, rfl⟩
              go_wp2_with fail
              refine (oat_nil _).mono ?_
              rintro e v' ⟨rfl, rfl⟩
              go_wp2_with fail
              refine (left_nil _).mono ?_
              rintro e v' ⟨rfl, rfl⟩
              go_wp2_with fail
              go_ret
              exact ⟨rfl, HI.out.below⟩
end Go.Proofs.Ythjkeefdeeljoaa.Shp
