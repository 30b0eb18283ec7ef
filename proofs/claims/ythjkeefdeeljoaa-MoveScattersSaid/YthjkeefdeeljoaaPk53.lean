/- MoveGathers: the walk. -/
import Derived.Test.YthjkeefdeeljoaaPk49
import Derived.Test.YthjkeefdeeljoaaPk52
namespace Go.Proofs.Ythjkeefdeeljoaa.Shp
open Go.RowKit Go.Shelf Go.Proofs.Ythjkeefdeeljoaa.Num Go.Proofs.Ythjkeefdeeljoaa.Cl
set_option linter.unusedVariables false
set_option linter.unusedSimpArgs false

theorem light4_out {xs ys : List Int} (h1 : lightB 400 xs ys = true) : xs.length ≤ 1000000 ∧ ys.length ≤ 1000000 := by
  unfold lightB at h1
  simp only [Bool.and_eq_true, decide_eq_true_eq] at h1
  omega
theorem flat_len (L : List Cell) : (L.map normC).length = L.length := by simp
/-- What stays in sight to the end. -/
structure GsI (B : Nat) (T : Nat) (L : List Cell) (D : Option Addr) (x : Option Addr) (LX : List Cell) (y : Value) (LY : List Cell) (p : Option Addr) (LP : List Cell) (q : Value) (LQ : List Cell) (w W : World) : Prop where
  b : Buf B W T (L.map normC)
  l : Shows W D (L.flatMap ce)
  x : RowV B W x LX
  y : ShowsC W y LY
  p : RowV B W p LP
  q : ShowsC W q LQ
  below : Below w.heap.size w W
theorem showsC_below {w w' : World} {v : Value} {L : List Cell} (h : ShowsC w v L) (hb : Below w.heap.size w w') : ShowsC w' v L := by
  obtain ⟨A, c, h1, h2, h3⟩ := h
  exact ⟨A, c, h1, h2, h3.below hb⟩
theorem GsI.later {B T : Nat} {L : List Cell} {D x : Option Addr} {LX : List Cell} {y : Value} {LY : List Cell} {p : Option Addr} {LP : List Cell} {q : Value} {LQ : List Cell} {w W W' : World} (h : GsI B T L D x LX y LY p LP q LQ w W) (hb : Below W.heap.size W W') : GsI B T L D x LX y LY p LP q LQ w W' :=
  ⟨h.b.below hb, h.l.below hb, h.x.below hb, showsC_below h.y hb, h.p.below hb, showsC_below h.q hb, bl_then h.below hb⟩
theorem RowV.wide {B B' : Nat} {w : World} {a : Option Addr} {l : List Cell} (h : RowV B w a l) (hb : B' ≤ B) : RowV B' w a l := by
  rcases h with h | ⟨T, h1, h2⟩
  · exact .inl h
  · exact .inr ⟨T, h1, h2.wide hb⟩
set_option maxRecDepth 100000 in
set_option maxHeartbeats 2000000 in
theorem gathers_walk (L : List Cell) (D : Option Addr) (cd : Nat) (xs ys : List Int) (off : Int) (A B : Option Addr) (ca cb : Nat) (ps : List Int) (E : Option Addr) (c3 : Nat) (most : Int) (w : World) (hs : Shows w D (L.flatMap ce)) (hx : ReadsI w .i64 A xs) (hy : ReadsI w .i64 B ys) (hp : ReadsI w .i64 E ps) :
    Calls Try.prog 6 #[.slice D L.length cd, .agg #[.slice A xs.length ca, .slice B ys.length cb, .int .i64 off], .slice E ps.length c3, .int .i64 most] w fun e w' => e = .returned (.bool true) ∧ Below w.heap.size w w' := by
  have HB0 : Hid (Below w.heap.size w (w.alloc (.cells #[.slice A xs.length ca, .slice B ys.length cb, .int .i64 off] 24))) := Lib.hid (bl_alloc (Below.refl _ _) _)
  have hbk : Blk (w.alloc (.cells #[.slice A xs.length ca, .slice B ys.length cb, .int .i64 off] 24)) w.heap.size 24 #[.slice A xs.length ca, .slice B ys.length cb, .int .i64 off] := Blk.new _ _ _
  have HBK := Lib.hid hbk
  have HFW := Lib.hid (fun W => few_calls L D cd W)
  have HLI := Lib.hid (light10_calls xs ys off A B ca cb _ (hx.below HB0.out))
  by_cases h1 : L.length ≤ 300
  · rw [decide_eq_true h1] at HFW
    by_cases h2 : lightB 400 xs ys = true
    · rw [h2] at HLI
      by_cases h3 : ps.length ≤ 300
      · have hn3 : ¬ (300 : Int) < (ps.length : Int) := by omega
        obtain ⟨q1, q2⟩ := light4_out h2
        have HCE := Lib.hid (fun W (h : Below w.heap.size w W) => lcells_calls L D cd W (hs.below h) (by omega))
        have HG := Lib.hid (fun W T bl (h : Below w.heap.size w W) (hT : Buf bl W T (L.map normC)) => gather_any xs ys off A B ca cb xs.length ys.length T (L.map normC) bl most W (hx.below h) (hy.below h) rfl rfl q1 q2 hT)
        rw [flat_len] at HG
        have HRG := Lib.hid (fun W (h : Below w.heap.size w W) => rgather_any xs ys off A B ca cb xs.length ys.length L D cd most W (hx.below h) (hy.below h) (hs.below h) rfl rfl q1 q2)
        have HPK := Lib.hid (fun W T bl (h : Below w.heap.size w W) (hT : Buf bl W T (L.map normC)) => pick_any ps E c3 T (L.map normC) bl most W (hp.below h) (by omega) hT)
        rw [flat_len] at HPK
        have HRP := Lib.hid (fun W (h : Below w.heap.size w W) => rpick_any ps E c3 L D cd most W (hp.below h) (hs.below h) (by omega))
        have HA1 := Lib.hid (gath_alike xs ys off L.length most L)
        have HA2 := Lib.hid (pick_alike ps L.length most L)
        have HLX : Hid ((gres xs ys off L.length most (gathL xs ys off (L.map normC))).length ≤ 2000000) := Lib.hid (by
          unfold gres; split
          · rw [gathL_length]; have := cellsN_le xs ys off; omega
          · simp)
        have HLP : Hid ((pres ps L.length most ((pickL ps (L.map normC)).map normC)).length ≤ 2000000) := Lib.hid (by
          unfold pres; split
          · rw [List.length_map, pickL_length]; omega
          · simp)
        have HLL := Lib.hid (show L.length ≤ 300 from h1)
        have HSH := Lib.hid hs
        generalize gres xs ys off L.length most (gathL xs ys off (L.map normC)) = LX at *
        generalize gres xs ys off L.length most (gathL xs ys off L) = LY at *
        generalize pres ps L.length most ((pickL ps (L.map normC)).map normC) = LP at *
        generalize pres ps L.length most (pickL ps L) = LQ at *
        generalize gcode xs ys off L.length most = gc at *
        generalize pcode ps L.length most = pc at *
        clear hs hx hy hp hbk h1 h2 h3 q1 q2
        go_enter Try.func6, Try.ntmps6
        go_wp2_with fail
        refine (HFW.out _).mono ?_
        rintro e w1 ⟨rfl, rfl⟩
        obtain ⟨k0, k1, k2⟩ := seen_view HBK.out
        go_wp2_with fail
        refine HLI.out.mono ?_
        rintro e w1 ⟨rfl, hB1⟩
        have HB1 := Lib.hid (bl_then HB0.out hB1)
        have HBK1 := Lib.hid (HBK.out.below' hB1)
        clear hB1 k0 k1 k2
        go_wp2_with fail
        refine (HCE.out _ HB1.out).mono ?_
        rintro e w2 ⟨⟨v, rfl, hv⟩, hB2⟩
        obtain ⟨A1, c1, rfl, hc1, hs1⟩ := hv.shows
        have HOF := Lib.hid (of_calls L A1 c1 w2 hs1 (by have := HLL.out; omega) hc1)
        have HB2 := Lib.hid (bl_then HB1.out hB2)
        have HBK2 := Lib.hid (HBK1.out.below' hB2)
        clear hv hs1 hB2
        go_wp2_with fail
        refine HOF.out.mono ?_
        rintro e w3 ⟨T, rfl, hT, hB3⟩
        have HT3 := Lib.hid (hT.wide HB2.out.size)
        have HB3 := Lib.hid (bl_then HB2.out hB3)
        have HBK3 := Lib.hid (HBK2.out.below' hB3)
        obtain ⟨k0, k1, k2⟩ := seen_view HBK3.out
        clear hT hB3
        go_wp2_with fail
        refine (own_calls A B ca cb xs.length ys.length off _).mono ?_
        rintro e w4 ⟨rfl, hB4⟩
        have HT4 := Lib.hid (HT3.out.below hB4)
        have HB4 := Lib.hid (bl_then HB3.out hB4)
        have HBK4 := Lib.hid (HBK3.out.below' hB4)
        clear hB4 k0 k1 k2
        go_wp2_with fail
        refine (HG.out _ T _ HB4.out HT4.out).mono ?_
        rintro e w5 ⟨⟨xa, rfl, hxa⟩, hB5⟩
        have HX5 := Lib.hid (hxa.wide HB4.out.size)
        have HT5 := Lib.hid (HT4.out.below hB5)
        have HB5 := Lib.hid (bl_then HB4.out hB5)
        have HBK5 := Lib.hid (HBK4.out.below' hB5)
        obtain ⟨k0, k1, k2⟩ := seen_view HBK5.out
        clear hxa hB5
        go_wp2_with fail
        refine (HRG.out _ HB5.out).mono ?_
        rintro e w6 ⟨⟨yv, rfl, hyv⟩, hB6⟩
        obtain ⟨Ay, cy, rfl, hcy, hsy⟩ := hyv
        have HY6 := Lib.hid (⟨Ay, cy, rfl, hcy, hsy⟩ : ShowsC w6 (.slice Ay LY.length cy) LY)
        have HX6 := Lib.hid (HX5.out.below hB6)
        have HT6 := Lib.hid (HT5.out.below hB6)
        have HB6 := Lib.hid (bl_then HB5.out hB6)
        clear hcy hsy hB6 k0 k1 k2
        go_wp2_with fail
        refine (HPK.out _ T _ HB6.out HT6.out).mono ?_
        rintro e w7 ⟨⟨pa, rfl, hpa⟩, hB7⟩
        have HP7 := Lib.hid (hpa.wide HB6.out.size)
        have HY7 := Lib.hid (showsC_below HY6.out hB7)
        have HX7 := Lib.hid (HX6.out.below hB7)
        have HT7 := Lib.hid (HT6.out.below hB7)
        have HB7 := Lib.hid (bl_then HB6.out hB7)
        clear hpa hB7
        go_wp2_with fail
        refine (HRP.out _ HB7.out).mono ?_
        rintro e w8 ⟨⟨qv, rfl, hqv⟩, hB8⟩
        obtain ⟨Aq, cq, rfl, hcq, hsq⟩ := hqv
        have HI8 : Hid (GsI w.heap.size T L D xa LX (.slice Ay LY.length cy) LY pa LP (.slice Aq LQ.length cq) LQ w w8) := Lib.hid ⟨HT7.out.below hB8, HSH.out.below (bl_then HB7.out hB8), HX7.out.below hB8, showsC_below HY7.out hB8, HP7.out.below hB8, ⟨Aq, cq, rfl, hcq, hsq⟩, bl_then HB7.out hB8⟩
        clear hcq hsq hB8 HBK HBK1 HBK2 HBK3 HBK4 HBK5 HT3 HT4 HT5 HT6 HT7 HX5 HX6 HX7 HY6 HY7 HP7 HB1 HB2 HB3 HB4 HB5 HB6 HB7 HCE HG HRG HPK HRP HOF HFW HLI HB0
        go_wp2_with fail
        refine (cells_any xa LX _ HI8.out.x).mono ?_
        rintro e w9 ⟨⟨v9, rfl, A9, c9, rfl, hc9, hs9⟩, hB9⟩
        have HI9 := Lib.hid (HI8.out.later hB9)
        have HRF := Lib.hid (refs_calls LX A9 c9 w9 hs9 HLX.out)
        clear hs9 hB9 HI8
        go_wp2_with fail
        refine HRF.out.mono ?_
        rintro e w10 ⟨⟨v10, rfl, ho10⟩, hB10⟩
        obtain ⟨A10, c10, rfl, hc10, hs10⟩ := ho10.shows
        have HI10 := Lib.hid (HI9.out.later hB10)
        have HSM : Hid _ := Lib.hid (rsame_yes LX LY A10 Ay c10 cy w10 hs10 (by obtain ⟨_, _, e, _, h⟩ := HI10.out.y; injection e with e1 e2 e3; subst e1; exact h) HA1.out HLX.out)
        clear ho10 hs10 hB10 HI9 HRF
        go_wp2_with fail
        refine HSM.out.mono ?_
        rintro e w11 ⟨rfl, hB11⟩
        have HI11 := Lib.hid (HI10.out.later hB11)
        clear hB11 HI10 HSM
        go_wp2_with fail
        refine (num10_calls _ _).mono ?_
        rintro e w12 ⟨rfl, rfl⟩
        go_wp2_with fail
        refine (cells_any pa LP _ HI11.out.p).mono ?_
        rintro e w12 ⟨⟨v12, rfl, A12, c12, rfl, hc12, hs12⟩, hB12⟩
        have HI12 := Lib.hid (HI11.out.later hB12)
        have HRF := Lib.hid (refs_calls LP A12 c12 w12 hs12 HLP.out)
        clear hs12 hB12 HI11
        go_wp2_with fail
        refine HRF.out.mono ?_
        rintro e w13 ⟨⟨v13, rfl, ho13⟩, hB13⟩
        obtain ⟨A13, c13, rfl, hc13, hs13⟩ := ho13.shows
        have HI13 := Lib.hid (HI12.out.later hB13)
        have HSM : Hid _ := Lib.hid (rsame_yes LP LQ A13 Aq c13 cq w13 hs13 (by obtain ⟨_, _, e, _, h⟩ := HI13.out.q; injection e with e1 e2 e3; subst e1; exact h) HA2.out HLP.out)
        clear ho13 hs13 hB13 HI12 HRF
        go_wp2_with fail
        refine HSM.out.mono ?_
        rintro e w14 ⟨rfl, hB14⟩
        have HI14 := Lib.hid (HI13.out.later hB14)
        clear hB14 HI13 HSM
        go_wp2_with fail
        refine (num10_calls _ _).mono ?_
        rintro e w15 ⟨rfl, rfl⟩
        go_wp2_with fail
        refine (cells_calls T (L.map normC) _ HI14.out.b).mono ?_
        rintro e w15 ⟨⟨v15, rfl, ho15⟩, hB15⟩
        obtain ⟨A15, c15, rfl, hc15, hs15⟩ := ho15.shows
        have HI15 := Lib.hid (HI14.out.later hB15)
        have hRF := refs_calls (L.map normC) A15 c15 w15 hs15 (by have := HLL.out; simp; omega)
        rw [flat_len] at hRF
        have HRF := Lib.hid hRF
        clear ho15 hs15 hB15 HI14 hRF
        go_wp2_with fail
        refine HRF.out.mono ?_
        rintro e w16 ⟨⟨v16, rfl, ho16⟩, hB16⟩
        obtain ⟨A16, c16, rfl, hc16, hs16⟩ := ho16.shows
        have HI16 := Lib.hid (HI15.out.later hB16)
        have hSM := rsame_yes (L.map normC) L A16 D c16 cd w16 hs16 HI16.out.l (norm_twice L) (by have := HLL.out; simp; omega)
        rw [flat_len] at hSM
        have HSM := Lib.hid hSM
        clear ho16 hs16 hB16 HI15 HRF hSM
        go_wp2_with fail
        refine HSM.out.mono ?_
        rintro e w17 ⟨rfl, hB17⟩
        have HI17 := Lib.hid (HI16.out.later hB17)
        clear hB17 HI16 HSM
        go_wp2_with fail
        refine (knows10_calls _).mono ?_
        rintro e w18 ⟨rfl, hB18⟩
        have HI18 := Lib.hid (bl_then HI17.out.below hB18)
        clear hB18
        go_wp2_with fail
        go_ret
        exact ⟨rfl, HI18.out⟩
      · have hn3 : (300 : Int) < (ps.length : Int) := by omega
        clear hs hx hy hp hbk h1 h2 h3
        go_enter Try.func6, Try.ntmps6
        go_wp2_with fail
        refine (HFW.out _).mono ?_
        rintro e w1 ⟨rfl, rfl⟩
        obtain ⟨k0, k1, k2⟩ := seen_view HBK.out
        go_wp2_with fail
        refine HLI.out.mono ?_
        rintro e w1 ⟨rfl, hB1⟩
        have HB1 := Lib.hid (bl_then HB0.out hB1)
        clear hB1 k0 k1 k2
        go_wp2_with fail
        refine (knows10_calls _).mono ?_
        rintro e w3 ⟨rfl, hB3⟩
        have HB3 := Lib.hid (bl_then HB1.out hB3)
        clear hB3
        go_wp2_with fail
        go_ret
        exact ⟨rfl, HB3.out⟩
    · have h2 : lightB 400 xs ys = false := by simpa using h2
      rw [h2] at HLI
      clear hs hx hy hp hbk h1 h2
      go_enter Try.func6, Try.ntmps6
      go_wp2_with fail
      refine (HFW.out _).mono ?_
      rintro e w1 ⟨rfl, rfl⟩
      obtain ⟨k0, k1, k2⟩ := seen_view HBK.out
      go_wp2_with fail
      refine HLI.out.mono ?_
      rintro e w1 ⟨rfl, hB1⟩
      have HB1 := Lib.hid (bl_then HB0.out hB1)
      clear hB1 k0 k1 k2
      go_wp2_with fail
      refine (knows10_calls _).mono ?_
      rintro e w3 ⟨rfl, hB3⟩
      have HB3 := Lib.hid (bl_then HB1.out hB3)
      clear hB3
      go_wp2_with fail
      go_ret
      exact ⟨rfl, HB3.out⟩
  · rw [decide_eq_false h1] at HFW
    clear hs hx hy hp hbk h1
    go_enter Try.func6, Try.ntmps6
    go_wp2_with fail
    refine (HFW.out _).mono ?_
    rintro e w1 ⟨rfl, rfl⟩
    go_wp2_with fail
    refine (knows10_calls _).mono ?_
    rintro e w3 ⟨rfl, hB3⟩
    have HB3 := Lib.hid (bl_then HB0.out hB3)
    clear hB3
    go_wp2_with fail
    go_ret
    exact ⟨rfl, HB3.out⟩
end Go.Proofs.Ythjkeefdeeljoaa.Shp
