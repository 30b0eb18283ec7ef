/- Contracts and lemmas that the row of this claim stands on: ScAny, Scatters. -/
import Derived.Test.YthjkeefdeeljoaaPk48
import Derived.Test.YthjkeefdeeljoaaPk49
import Derived.Test.YthjkeefdeeljoaaPk52
import Derived.Test.YthjkeefdeeljoaaPk53
/- Scatter and Fill, the program's and the document's, whatever comes. -/
namespace Go.Proofs.Ythjkeefdeeljoaa.Shp
open Go.RowKit Go.Shelf Go.Proofs.Ythjkeefdeeljoaa.Num Go.Proofs.Ythjkeefdeeljoaa.Cl
set_option linter.unusedVariables false
set_option linter.unusedSimpArgs false

/-- The error of a scattering of k cells into n. -/
def scode (xs ys : List Int) (off : Int) (n k : Nat) : Int := if fitsB xs ys off n = true then (if cellsN xs ys off = k then 0 else 5) else 2
def scres (xs ys : List Int) (off : Int) (l o : List Cell) : List Cell := if scode xs ys off l.length o.length = 0 then scatL xs ys off l o (cellsN xs ys off) else l
/-- One cell for every place. -/
def allL (xs ys : List Int) (off : Int) (n : Nat) (x : Cell) : List Cell := if fitsB xs ys off n = true then List.replicate (cellsN xs ys off) x else []
theorem scres_length (xs ys : List Int) (off : Int) (l o : List Cell) : (scres xs ys off l o).length = l.length := by
  unfold scres; split
  · rw [scatL_length]
  · rfl
theorem allL_length (xs ys : List Int) (off : Int) (n : Nat) (x : Cell) : (allL xs ys off n x).length = if fitsB xs ys off n = true then cellsN xs ys off else 0 := by
  unfold allL; split <;> simp
theorem scatL_norm (xs ys : List Int) (off : Int) (l o : List Cell) (k : Nat) : (scatL xs ys off l o k).map normC = scatL xs ys off (l.map normC) (o.map normC) k := by
  induction k with
  | zero => rfl
  | succ k ih => rw [scatL_succ, scatL_succ, List.map_set, ih, nth_norm]
theorem scres_norm (xs ys : List Int) (off : Int) (l o : List Cell) : (scres xs ys off l o).map normC = scres xs ys off (l.map normC) (o.map normC) := by
  unfold scres
  rw [List.length_map, List.length_map]
  split
  · exact scatL_norm xs ys off l o _
  · rfl
theorem allL_norm (xs ys : List Int) (off : Int) (n : Nat) (x : Cell) : (allL xs ys off n x).map normC = allL xs ys off n (normC x) := by
  unfold allL
  split
  · rw [List.map_replicate]
  · rfl
theorem scat_alike (xs ys : List Int) (off : Int) (L O : List Cell) : (scres xs ys off (L.map normC) (O.map normC)).map normC = (scres xs ys off L O).map normC := by
  rw [scres_norm, scres_norm, norm_twice, norm_twice]
theorem fill_alike (xs ys : List Int) (off : Int) (n : Nat) (l L : List Cell) (x : Cell) (h : l.map normC = L.map normC) : (scres xs ys off l (allL xs ys off n (normC x))).map normC = (scres xs ys off L (allL xs ys off n x)).map normC := by
  rw [scres_norm, scres_norm, h, allL_norm, allL_norm, normC_norm]
theorem scatter_any (xs ys : List Int) (off : Int) (A B : Option Addr) (ca cb n m : Nat) (U : Nat) (l : List Cell) (bl : Nat) (V : Nat) (o : List Cell) (bt : Nat) (w : World) (hx : ReadsI w .i64 A xs) (hy : ReadsI w .i64 B ys) (hn : xs.length = n) (hm : ys.length = m) (hl : n ≤ 1000000) (hl2 : m ≤ 1000000) (hU : Buf bl w U l) (hV : Buf bt w V o) (hbl : bl ≤ w.heap.size) :
    Calls Try.prog 46 #[.pointer (some ⟨U, 0, none⟩), .agg #[.slice A n ca, .slice B m cb, .int .i64 off], .pointer (some ⟨V, 0, none⟩)] w fun e w' => e = .returned (.int .i64 (scode xs ys off l.length o.length)) ∧ Buf bl w' U (scres xs ys off l o) ∧ Below bl w w' := by
  unfold scres scode
  cases hf : fitsB xs ys off l.length with
  | false =>
    rw [if_neg (by simp)]
    refine (scatter_out xs ys off A B ca cb n m U l bl V w hx hy hn hm hl hl2 hU hf).mono ?_
    rintro e w' ⟨rfl, h⟩
    exact ⟨rfl, by rw [if_neg (by decide)]; exact hU.below h, h.mono hbl⟩
  | true =>
    rw [if_pos rfl]
    by_cases hsz : cellsN xs ys off = o.length
    · rw [if_pos hsz, if_pos rfl]
      exact scatter_yes xs ys off A B ca cb n m U l bl V o bt w hx hy hn hm hl hl2 hU hV hbl hf hsz
    · rw [if_neg hsz]
      refine (scatter_size xs ys off A B ca cb n m U l bl V o bt w hx hy hn hm hl hl2 hU hV hf hsz).mono ?_
      rintro e w' ⟨rfl, h⟩
      exact ⟨rfl, by rw [if_neg (by decide)]; exact hU.below h, h.mono hbl⟩
/-- Where what the document hands back lies: in what came in, or in a block from hi on. -/
def YAt (hi : Nat) (w W : World) (A : Option Addr) (L : List Cell) : Prop := Shows w A (L.flatMap ce) ∨ ∃ g cs, A = some ⟨g, 0, none⟩ ∧ hi ≤ g ∧ Blk W g 74 cs ∧ CellsAt cs L
theorem YAt.shows {hi : Nat} {w W : World} {A : Option Addr} {L : List Cell} (h : YAt hi w W A L) (hb : Below w.heap.size w W) : Shows W A (L.flatMap ce) := by
  rcases h with h | ⟨g, cs, rfl, h1, h2, h3⟩
  · exact h.below hb
  · exact cellsAt_shows h2 h3
theorem YAt.below {hi : Nat} {w W W' : World} {A : Option Addr} {L : List Cell} (h : YAt hi w W A L) (hb : Below W.heap.size W W') : YAt hi w W' A L := by
  rcases h with h | ⟨g, cs, h0, h1, h2, h3⟩
  · exact .inl h
  · exact .inr ⟨g, cs, h0, h1, h2.below' hb, h3⟩
theorem YAt.high {hi : Nat} {w W W' : World} {A : Option Addr} {L : List Cell} (h : YAt hi w W A L) (hb : Hi hi W W') : YAt hi w W' A L := by
  rcases h with h | ⟨g, cs, h0, h1, h2, h3⟩
  · exact .inl h
  · exact .inr ⟨g, cs, h0, h1, hb.blk h2 h1, h3⟩
theorem rscat_any (w0 : World) (xs ys : List Int) (off : Int) (A B : Option Addr) (ca cb n m : Nat) (L : List Cell) (C : Option Addr) (cc : Nat) (O : List Cell) (D : Option Addr) (cd : Nat) (hi : Nat) (w : World) (hx : ReadsI w .i64 A xs) (hy : ReadsI w .i64 B ys) (hs : YAt hi w0 w C L) (hcc : L.length ≤ cc) (ho : Shows w D (O.flatMap ce)) (hn : xs.length = n) (hm : ys.length = m) (hl : n ≤ 1000000) (hl2 : m ≤ 1000000) (hL : L.length ≤ 1000000) (hw : Below w0.heap.size w0 w) (hhi : hi ≤ w.heap.size) :
    Calls Try.prog 47 #[.slice C L.length cc, .agg #[.slice A n ca, .slice B m cb, .int .i64 off], .slice D O.length cd] w fun e w' => (∃ Ay cy, e = .returned (.tuple #[.slice Ay L.length cy, .int .i64 (scode xs ys off L.length O.length)]) ∧ L.length ≤ cy ∧ YAt hi w0 w' Ay (scres xs ys off L O)) ∧ Below w.heap.size w w' := by
  have hs1 := hs.shows hw
  unfold scres scode
  cases hf : fitsB xs ys off L.length with
  | false =>
    rw [if_neg (by simp)]
    refine (rscat_out xs ys off A B ca cb n m L.length C cc D O.length cd w hx hy hn hm hl hl2 hf).mono ?_
    rintro e w' ⟨rfl, h⟩
    exact ⟨⟨C, cc, rfl, hcc, by rw [if_neg (by decide)]; exact hs.below h⟩, h⟩
  | true =>
    rw [if_pos rfl]
    by_cases hsz : cellsN xs ys off = O.length
    · rw [if_pos hsz, if_pos rfl]
      refine (rscat_yes xs ys off A B ca cb n m L C cc O D cd w hx hy hs1 ho hn hm hl hl2 hL hf hsz).mono ?_
      rintro e w' ⟨⟨g, cap, cs, rfl, h1, h2, h3, h4⟩, h⟩
      exact ⟨⟨_, cap, rfl, h1, .inr ⟨g, cs, rfl, by omega, h3, h4⟩⟩, h⟩
    · rw [if_neg hsz]
      refine (rscat_size xs ys off A B ca cb n m L.length C cc D O.length cd w hx hy hn hm hl hl2 hf hsz).mono ?_
      rintro e w' ⟨rfl, h⟩
      exact ⟨⟨C, cc, rfl, hcc, by rw [if_neg (by decide)]; exact hs.below h⟩, h⟩
theorem fill_any (xs ys : List Int) (off : Int) (A B : Option Addr) (ca cb n m : Nat) (U : Nat) (l : List Cell) (bl hi : Nat) (x : Cell) (w : World) (hx : ReadsI w .i64 A xs) (hy : ReadsI w .i64 B ys) (hn : xs.length = n) (hm : ys.length = m) (hl : n ≤ 1000000) (hl2 : m ≤ 1000000) (hU : BufR bl hi w U l) (hbl : bl ≤ w.heap.size) (hhi : hi ≤ w.heap.size) :
    Calls Try.prog 48 #[.pointer (some ⟨U, 0, none⟩), .agg #[.slice A n ca, .slice B m cb, .int .i64 off], .agg #[.int .i64 x.1, .bool x.2]] w fun e w' => e = .returned (.int .i64 (scode xs ys off l.length (allL xs ys off l.length x).length)) ∧ BufR bl hi w' U (scres xs ys off l (allL xs ys off l.length (normC x))) ∧ Below bl w w' ∧ Hi hi w w' := by
  unfold scres scode
  rw [allL_length, allL_length]
  unfold allL
  cases hf : fitsB xs ys off l.length with
  | false =>
    rw [if_neg (by simp)]
    refine (fill_no xs ys off A B ca cb n m U l bl x w hx hy hn hm hl hl2 hU.buf hf).mono ?_
    rintro e w' ⟨rfl, h⟩
    exact ⟨rfl, by rw [if_neg (by simp)]; exact hU.low (fun b hb => h.block b (by omega)), h.mono hbl, Hi.of_below h⟩
  | true =>
    simp only [if_true]
    exact fill_yes xs ys off A B ca cb n m U l bl x w hx hy hn hm hl hl2 hi hU hbl hhi hf
end Go.Proofs.Ythjkeefdeeljoaa.Shp
/- MoveScatters: the walk. -/
namespace Go.Proofs.Ythjkeefdeeljoaa.Shp
open Go.RowKit Go.Shelf Go.Proofs.Ythjkeefdeeljoaa.Num Go.Proofs.Ythjkeefdeeljoaa.Cl
set_option linter.unusedVariables false
set_option linter.unusedSimpArgs false

theorem blk_lo {B g : Nat} {t : TypeId} {cs : Array Value} {w w' : World} (h : Blk w g t cs) (hb : Below B w w') (hg : g < B) : Blk w' g t cs := (hb.block g hg).trans h
theorem below_lo {B B2 : Nat} {w w1 w' : World} (h : Below B w w1) (k : Below B2 w1 w') (hB : B ≤ B2) : Below B w w' := h.trans (k.mono hB)
theorem seen_c {w : World} {g : Nat} {t : TypeId} {x y : Value} (h : Blk w g t #[x, y]) : w.cell? ⟨g, 0, none⟩ = some x ∧ w.cell? ⟨g, 1, none⟩ = some y := ⟨h.cell 0, h.cell 1⟩
theorem make_rcells0 : ∀ W : World, (Instr.makeSlice 55 (.int .i64 0) (.int .i64 0)).run Try.prog W = .ok (.slice (some ⟨W.heap.size, 0, none⟩) 0 0) (W.alloc (.cells #[] 74)) := fun W => by
  obtain ⟨i, hi, hzz⟩ := Option.map_eq_some_iff.1 info_rcell
  simp only [Prod.mk.injEq] at hzz
  obtain ⟨hz, hs, hb⟩ := hzz
  have hr := run_make (P := Try.prog) W 55 74 i _ Try.underlying55 hi hz .i64 .i64 0 0 (by omega) (Int.le_refl _) (by omega) (by omega)
  simp [madeCells] at hr
  rw [show Array.range 0 = #[] from rfl] at hr
  simpa using hr
/-- What stays in sight from the document's first answer on. -/
structure SsI (B hi T : Nat) (LP : List Cell) (Ay : Option Addr) (LY : List Cell) (g : Nat) (vc cc : Array Value) (w W : World) : Prop where
  b : BufR B hi W T LP
  y : YAt hi w W Ay LY
  v : Blk W g 24 vc
  c : Blk W (g + 1) 74 cc
  below : Below w.heap.size w W
  low : B ≤ W.heap.size
  size : hi ≤ W.heap.size
theorem SsI.later {B hi T : Nat} {LP : List Cell} {Ay : Option Addr} {LY : List Cell} {g : Nat} {vc cc : Array Value} {w W W' : World} (h : SsI B hi T LP Ay LY g vc cc w W) (hb : Below W.heap.size W W') : SsI B hi T LP Ay LY g vc cc w W' :=
  ⟨h.b.low (fun b h1 => hb.block b (Nat.lt_of_lt_of_le h1 h.size)), h.y.below hb, h.v.below' hb, h.c.below' hb, bl_then h.below hb, Nat.le_trans h.low hb.size, Nat.le_trans h.size hb.size⟩
theorem SsI.cells {B hi T : Nat} {LP : List Cell} {Ay : Option Addr} {LY : List Cell} {g : Nat} {a b : Value} {p q r : Value} {w W : World} (h : SsI B hi T LP Ay LY g #[p, q, r] #[a, b] w W) : W.cell? ⟨g, 0, none⟩ = some p ∧ W.cell? ⟨g, 1, none⟩ = some q ∧ W.cell? ⟨g, 2, none⟩ = some r ∧ W.cell? ⟨g + 1, 0, none⟩ = some a ∧ W.cell? ⟨g + 1, 1, none⟩ = some b := ⟨h.v.cell 0, h.v.cell 1, h.v.cell 2, h.c.cell 0, h.c.cell 1⟩
set_option maxRecDepth 100000 in
set_option maxHeartbeats 4000000 in
theorem scatters_walk (L : List Cell) (D : Option Addr) (cd : Nat) (xs ys : List Int) (off : Int) (A B : Option Addr) (ca cb : Nat) (O : List Cell) (E : Option Addr) (c3 : Nat) (x : Cell) (w : World) (hs : Shows w D (L.flatMap ce)) (hcd : L.length ≤ cd) (hx : ReadsI w .i64 A xs) (hy : ReadsI w .i64 B ys) (ho : Shows w E (O.flatMap ce)) :
    Calls Try.prog 7 #[.slice D L.length cd, .agg #[.slice A xs.length ca, .slice B ys.length cb, .int .i64 off], .slice E O.length c3, .agg #[.int .i64 x.1, .bool x.2]] w fun e w' => e = .returned (.bool true) ∧ Below w.heap.size w w' := by
  obtain ⟨W0, hW0⟩ : ∃ W0, W0 = (w.alloc (.cells #[.slice A xs.length ca, .slice B ys.length cb, .int .i64 off] 24)).alloc (.cells #[.int .i64 x.1, .bool x.2] 74) := ⟨_, rfl⟩
  have hb0 : Below w.heap.size w W0 := by rw [hW0]; exact bl_alloc (bl_alloc (Below.refl _ _) _) _
  have hbk : Blk W0 w.heap.size 24 #[.slice A xs.length ca, .slice B ys.length cb, .int .i64 off] := by rw [hW0]; exact (Blk.new _ _ _).alloc _
  have hck : Blk W0 (w.heap.size + 1) 74 #[.int .i64 x.1, .bool x.2] := by rw [hW0]; exact Blk.new' (by simp) _ _
  have HB0 := Lib.hid hb0
  have HBK := Lib.hid hbk
  have HCK := Lib.hid hck
  have HFW := Lib.hid (fun W => few_calls L D cd W)
  have HFO := Lib.hid (fun W => few_calls O E c3 W)
  have HLI := Lib.hid (light10_calls xs ys off A B ca cb W0 (hx.below hb0))
  have HW0 := Lib.hid hW0
  clear hb0 hbk hck hW0
  by_cases h1 : L.length ≤ 300
  · rw [decide_eq_true h1] at HFW
    by_cases h2 : O.length ≤ 300
    · rw [decide_eq_true h2] at HFO
      by_cases h3 : lightB 400 xs ys = true
      · rw [h3] at HLI
        obtain ⟨q1, q2⟩ := light4_out h3
        have HCE := Lib.hid (fun W (h : Below w.heap.size w W) => lcells_calls L D cd W (hs.below h) (by omega))
        have HCO := Lib.hid (fun W (h : Below w.heap.size w W) => lcells_calls O E c3 W (ho.below h) (by omega))
        have hSC := fun W T V bl bt (h : Below w.heap.size w W) (hT : Buf bl W T (L.map normC)) (hV : Buf bt W V (O.map normC)) (hbl : bl ≤ W.heap.size) => scatter_any xs ys off A B ca cb xs.length ys.length T (L.map normC) bl V (O.map normC) bt W (hx.below h) (hy.below h) rfl rfl q1 q2 hT hV hbl
        rw [flat_len, flat_len] at hSC
        have HRS := Lib.hid (fun W (h : Below w.heap.size w W) => rscat_any w xs ys off A B ca cb xs.length ys.length L D cd O E c3 W.heap.size W (hx.below h) (hy.below h) (.inl hs) hcd (ho.below h) rfl rfl q1 q2 (by omega) h (Nat.le_refl _))
        have HA1 := Lib.hid (scat_alike xs ys off L O)
        have HLP : Hid ((scres xs ys off (L.map normC) (O.map normC)).length = L.length) := Lib.hid (by rw [scres_length, flat_len])
        have HLY : Hid ((scres xs ys off L O).length = L.length) := Lib.hid (scres_length _ _ _ _ _)
        have hFI := fun W T bl hi (h : Below w.heap.size w W) (hT : BufR bl hi W T (scres xs ys off (L.map normC) (O.map normC))) (hbl : bl ≤ W.heap.size) (hhi : hi ≤ W.heap.size) => fill_any xs ys off A B ca cb xs.length ys.length T (scres xs ys off (L.map normC) (O.map normC)) bl hi x W (hx.below h) (hy.below h) rfl rfl q1 q2 hT hbl hhi
        rw [HLP.out] at hFI
        have hRS2 := fun W hi (C : Option Addr) (cc : Nat) (D2 : Option Addr) (cd2 : Nat) (h : Below w.heap.size w W) (h1 : YAt hi w W C (scres xs ys off L O)) (hcc : (scres xs ys off L O).length ≤ cc) (h2 : Shows W D2 ((allL xs ys off L.length x).flatMap ce)) (hhi : hi ≤ W.heap.size) => rscat_any w xs ys off A B ca cb xs.length ys.length (scres xs ys off L O) C cc (allL xs ys off L.length x) D2 cd2 hi W (hx.below h) (hy.below h) h1 hcc h2 rfl rfl q1 q2 (by rw [HLY.out]; omega) h hhi
        rw [HLY.out] at hRS2
        have HLZ : Hid ((scres xs ys off (scres xs ys off L O) (allL xs ys off L.length x)).length = L.length) := Lib.hid (by rw [scres_length, HLY.out])
        have HA2 := Lib.hid (fill_alike xs ys off L.length (scres xs ys off (L.map normC) (O.map normC)) (scres xs ys off L O) x HA1.out)
        have HFT := Lib.hid (fun W (h : Below w.heap.size w W) => rfits_calls xs ys off A B ca cb xs.length ys.length (L.length : Int) W (hx.below h) (hy.below h) rfl rfl q1 q2)
        have HRO := Lib.hid (fun W (h : Below w.heap.size w W) (hf : fitsB xs ys off L.length = true) => roffs_calls xs ys off A B ca cb xs.length ys.length (cellsN xs ys off) W (hx.below h) (hy.below h) rfl rfl (fits_vr hf) (cellsN_prod (fits_vr hf)))
        have HLQ : Hid ((scres xs ys off (scres xs ys off (L.map normC) (O.map normC)) (allL xs ys off L.length (normC x))).length ≤ 2000000) := Lib.hid (by rw [scres_length, HLP.out]; omega)
        have HLPS : Hid ((scres xs ys off (L.map normC) (O.map normC)).length ≤ 2000000) := Lib.hid (by rw [HLP.out]; omega)
        obtain ⟨AL, hAL⟩ : ∃ AL, AL = allL xs ys off L.length x := ⟨_, rfl⟩
        rw [← hAL] at hRS2 hFI HA2 HLZ
        have HAL := Lib.hid hAL
        generalize scres xs ys off (scres xs ys off (L.map normC) (O.map normC)) (allL xs ys off L.length (normC x)) = LQ at *
        generalize scres xs ys off (L.map normC) (O.map normC) = LP at *
        generalize hLYe : scres xs ys off L O = LY at *
        generalize scres xs ys off LY AL = LZ at *
        generalize scode xs ys off L.length O.length = qc at *
        generalize scode xs ys off L.length AL.length = qd at *
        have HSC := Lib.hid hSC
        have HFI := Lib.hid hFI
        have HRS2 := Lib.hid hRS2
        have HLL := Lib.hid (show L.length ≤ 300 from h1)
        have HLO := Lib.hid (show O.length ≤ 300 from h2)
        clear hs hx hy ho h1 h2 h3 q1 q2 hSC hFI hRS2 hAL hLYe hcd
        go_enter Try.func7, Try.ntmps7
        go_upto_region 1 with fail
        rw [← HW0.out]
        go_wp2_with fail
        refine (HFW.out _).mono ?_
        rintro e w1 ⟨rfl, rfl⟩
        go_wp2_with fail
        refine (HFO.out _).mono ?_
        rintro e w1 ⟨rfl, rfl⟩
        obtain ⟨k0, k1, k2⟩ := seen_view HBK.out
        go_wp2_with fail
        refine HLI.out.mono ?_
        rintro e w1 ⟨rfl, hB1⟩
        have HB1 := Lib.hid (bl_then HB0.out hB1)
        have HBK1 := Lib.hid (HBK.out.below' hB1)
        have HCK1 := Lib.hid (HCK.out.below' hB1)
        clear hB1 k0 k1 k2
        go_wp2_with fail
        refine (HCE.out _ HB1.out).mono ?_
        rintro e w2 ⟨⟨v, rfl, hv⟩, hB2⟩
        obtain ⟨A1, c1, rfl, hc1, hs1⟩ := hv.shows
        have HOF := Lib.hid (of_calls L A1 c1 w2 hs1 (by have := HLL.out; omega) hc1)
        have HB2 := Lib.hid (bl_then HB1.out hB2)
        have HBK2 := Lib.hid (HBK1.out.below' hB2)
        have HCK2 := Lib.hid (HCK1.out.below' hB2)
        clear hv hs1 hB2
        go_wp2_with fail
        refine HOF.out.mono ?_
        rintro e w3 ⟨T, rfl, hT, hB3⟩
        have HT3 := Lib.hid hT
        have HB3 := Lib.hid (bl_then HB2.out hB3)
        have HBK3 := Lib.hid (HBK2.out.below' hB3)
        have HCK3 := Lib.hid (HCK2.out.below' hB3)
        have HS3 := Lib.hid hB3.size
        obtain ⟨k0, k1, k2⟩ := seen_view HBK3.out
        clear hT hB3
        go_wp2_with fail
        refine (own_calls A B ca cb xs.length ys.length off _).mono ?_
        rintro e w4 ⟨rfl, hB4⟩
        have HT4 := Lib.hid (HT3.out.below hB4)
        have HB4 := Lib.hid (bl_then HB3.out hB4)
        have HBK4 := Lib.hid (HBK3.out.below' hB4)
        have HCK4 := Lib.hid (HCK3.out.below' hB4)
        have HS4 := Lib.hid (Nat.le_trans HS3.out hB4.size)
        clear hB4 k0 k1 k2
        go_wp2_with fail
        refine (HCO.out _ HB4.out).mono ?_
        rintro e w5 ⟨⟨v, rfl, hv⟩, hB5⟩
        obtain ⟨A5, c5, rfl, hc5, hs5⟩ := hv.shows
        have HOF5 := Lib.hid (of_calls O A5 c5 w5 hs5 (by have := HLO.out; omega) hc5)
        have HT5 := Lib.hid (HT4.out.below hB5)
        have HB5 := Lib.hid (bl_then HB4.out hB5)
        have HBK5 := Lib.hid (HBK4.out.below' hB5)
        have HCK5 := Lib.hid (HCK4.out.below' hB5)
        have HS5 := Lib.hid (Nat.le_trans HS4.out hB5.size)
        clear hv hs5 hB5
        go_wp2_with fail
        refine HOF5.out.mono ?_
        rintro e w6 ⟨V, rfl, hV, hB6⟩
        have HV6 := Lib.hid hV
        have HT6 := Lib.hid (HT5.out.below hB6)
        have HB6 := Lib.hid (bl_then HB5.out hB6)
        have HBK6 := Lib.hid (HBK5.out.below' hB6)
        have HCK6 := Lib.hid (HCK5.out.below' hB6)
        have HS6 := Lib.hid (Nat.le_trans HS5.out hB6.size)
        clear hV hB6
        go_wp2_with fail
        refine (HSC.out _ T V _ _ HB6.out HT6.out HV6.out HS6.out).mono ?_
        rintro e w7 ⟨rfl, hT7, hB7⟩
        have HT7 := Lib.hid hT7
        have HB7 := Lib.hid (below_lo HB6.out hB7 HB2.out.size)
        have HBK7 := Lib.hid (blk_lo HBK6.out hB7 HBK2.out.lt)
        have HCK7 := Lib.hid (blk_lo HCK6.out hB7 HCK2.out.lt)
        have HS7 := Lib.hid (Nat.le_trans HS6.out hB7.size)
        obtain ⟨k0, k1, k2⟩ := seen_view HBK7.out
        clear hT7 hB7
        go_wp2_with fail
        refine (HRS.out _ HB7.out).mono ?_
        rintro e w8 ⟨⟨Ay, cy, rfl, hcy, hsy⟩, hB8⟩
        have HI8 : Hid (SsI w2.heap.size w7.heap.size T LP Ay LY w.heap.size #[.slice A xs.length ca, .slice B ys.length cb, .int .i64 off] #[.int .i64 x.1, .bool x.2] w w8) := Lib.hid ⟨(buf_toR HT7.out (Nat.le_refl _)).low (fun b hb => hB8.block b hb), hsy, HBK7.out.below' hB8, HCK7.out.below' hB8, bl_then HB7.out hB8, Nat.le_trans HS7.out hB8.size, hB8.size⟩
        have HCY := Lib.hid hcy
        have HG2 := Lib.hid HBK2.out.lt
        have HG3 := Lib.hid HCK2.out.lt
        have HS2 := Lib.hid HB2.out.size
        clear hcy hsy hB8 k0 k1 k2 HBK1 HBK2 HBK3 HBK4 HBK5 HBK6 HBK7 HCK1 HCK2 HCK3 HCK4 HCK5 HCK6 HCK7 HT3 HT4 HT5 HT6 HT7 HB1 HB2 HB3 HB4 HB5 HB6 HB7 HCE HCO HSC HRS HOF HOF5 HV6 HFW HFO HLI
        go_wp2_with fail
        refine (num10_calls _ _).mono ?_
        rintro e w9 ⟨rfl, rfl⟩
        go_wp2_with fail
        refine (cells_calls T LP _ HI8.out.b.buf).mono ?_
        rintro e w9 ⟨⟨v9, rfl, ho9⟩, hB9⟩
        obtain ⟨A9, c9, rfl, hc9, hs9⟩ := ho9.shows
        have HI9 := Lib.hid (HI8.out.later hB9)
        have HRF := Lib.hid (refs_calls LP A9 c9 w9 hs9 HLPS.out)
        clear ho9 hs9 hB9 HI8
        go_wp2_with fail
        refine HRF.out.mono ?_
        rintro e w10 ⟨⟨v10, rfl, ho10⟩, hB10⟩
        obtain ⟨A10, c10, rfl, hc10, hs10⟩ := ho10.shows
        have HI10 := Lib.hid (HI9.out.later hB10)
        have hSM := rsame_yes LP LY A10 Ay c10 cy w10 hs10 (HI10.out.y.shows HI10.out.below) HA1.out HLPS.out
        rw [HLY.out] at hSM
        have HSM := Lib.hid hSM
        clear ho10 hs10 hB10 HI9 HRF hSM
        go_wp2_with fail
        refine HSM.out.mono ?_
        rintro e w11 ⟨rfl, hB11⟩
        have HI11 := Lib.hid (HI10.out.later hB11)
        clear hB11 HI10 HSM
        go_upto_region 8 with fail
        obtain ⟨k0, k1, k2, k3, k4⟩ := HI11.out.cells
        go_region_held3 (fun W => W.cell? ⟨w.heap.size, 0, none⟩ = some (.slice A xs.length ca) ∧ W.cell? ⟨w.heap.size, 1, none⟩ = some (.slice B ys.length cb) ∧ W.cell? ⟨w.heap.size, 2, none⟩ = some (.int .i64 off) ∧ W.cell? ⟨w.heap.size + 1, 0, none⟩ = some (.int .i64 x.1) ∧ W.cell? ⟨w.heap.size + 1, 1, none⟩ = some (.bool x.2))
          (first | exact ⟨k0, k1, k2, k3, k4⟩ | exact HI12.out.cells | exact HI13.out.cells)
          (first
          | (go_at_call 15; refine (own_calls A B ca cb xs.length ys.length off _).mono ?_; rintro e w12 ⟨rfl, hB12⟩; have HI12 := Lib.hid ((HI11.out.later (bl_drew (Below.refl _ _))).later hB12); clear hB12)
          | (go_at_call 48; refine (HFI.out _ T _ _ HI12.out.below HI12.out.b HI12.out.low HI12.out.size).mono ?_; rintro e w13 ⟨rfl, hT13, hB13, hH13⟩; have HI13 : Hid (SsI w2.heap.size w7.heap.size T LQ Ay LY w.heap.size #[.slice A xs.length ca, .slice B ys.length cb, .int .i64 off] #[.int .i64 x.1, .bool x.2] w w13) := Lib.hid ⟨hT13, HI12.out.y.high hH13, blk_lo HI12.out.v hB13 HG2.out, blk_lo HI12.out.c hB13 HG3.out, below_lo HI12.out.below hB13 HS2.out, Nat.le_trans HI12.out.low hB13.size, Nat.le_trans HI12.out.size hB13.size⟩; clear hT13 hB13 hH13))
        have hmk := make_rcells0
        have HI14 := Lib.hid (HI13.out.later (bl_alloc (Below.refl _ _) (.cells #[] 74)))
        obtain ⟨j0, j1, j2⟩ := seen_view HI14.out.v
        clear k0 k1 k2 k3 k4
        go_wp2_with fail
        refine (HFT.out _ HI14.out.below).mono ?_
        rintro e w15 ⟨rfl, hB15⟩
        have HI15 := Lib.hid (HI14.out.later hB15)
        have HB15 := Lib.hid (bl_then (bl_alloc (Below.refl w13.heap.size w13) (.cells #[] 74)) hB15)
        have hown : (w13.alloc (.cells #[] 74)).ownsRow w13.heap.size 74 2 (.slice (some ⟨w13.heap.size, 0, none⟩) 0 0) 0 [] := World.ownsRow_lit w13 #[] 0 (Nat.le_refl _) (by simp) (by simp)
        have HOW15 : Hid (OwnC w15 w13.heap.size 74 (.slice (some ⟨w13.heap.size, 0, none⟩) 0 0) []) := Lib.hid (own_below hown hB15)
        clear hB15 j0 j1 j2 hown
        cases hfb : fitsB xs ys off L.length with
        | true =>
          have hal : AL = List.replicate (cellsN xs ys off) x := by rw [HAL.out]; unfold allL; rw [if_pos hfb]
          have HALR := Lib.hid hal
          have hRO2 : ∀ W, Below w.heap.size w W → Calls Try.prog 50 #[.agg #[.slice A xs.length ca, .slice B ys.length cb, .int .i64 off]] W fun e w' => (∃ Av cv, e = .returned (.slice Av (cellsN xs ys off) cv)) ∧ Below W.heap.size W w' := fun W h => by
            refine (HRO.out W h hfb).mono ?_
            rintro e w' ⟨⟨v, rfl, Av, cv, rfl, _, _⟩, hb⟩
            exact ⟨⟨Av, cv, by simp⟩, hb⟩
          have HRO2 := Lib.hid hRO2
          have hN9 := cellsN_le xs ys off
          rw [hal, List.length_replicate] at HRS2
          clear hal hfb hRO2 HRO HAL
          generalize cellsN xs ys off = N at *
          go_wp2_with fail
          go_loopw [14, 15] (fun t14 t15 wr => ∃ (k : Nat) (v : Value), v = t14 ∧ t15 = .int .i64 k ∧ k ≤ N ∧ Hid (OwnC wr w13.heap.size 74 v (List.replicate k x)) ∧ Hid (Below w13.heap.size w13 wr)) (fun _ i _ => N - (intOf i).toNat)
          case atStart => exact ⟨0, _, rfl, rfl, Nat.zero_le _, HOW15, HB15⟩
          case round =>
            obtain ⟨k, v, rfl, rfl, hk, HO, HB⟩ := hrel
            have HI16 := Lib.hid (HI13.out.later HB.out)
            obtain ⟨j0, j1, j2⟩ := seen_view HI16.out.v
            go_wp2_with fail
            refine (HRO2.out _ HI16.out.below).mono ?_
            rintro e wv ⟨⟨Av, cv, rfl⟩, hBv⟩
            have HI17 := Lib.hid (HI16.out.later hBv)
            have HB17 := Lib.hid (bl_then HB.out hBv)
            have HO17 := Lib.hid (HO.out.below hBv)
            clear hBv j0 j1 j2 HI16 HO HB
            by_cases hlt : k < N
            · have hkN : (k : Int) < (N : Int) := by omega
              obtain ⟨j0, j1, j2, j3, j4⟩ := HI17.out.cells
              have hown : wv.ownsRow w13.heap.size 74 2 v k ((List.replicate k x).flatMap ce) := by
                have h := HO17.out
                unfold OwnC at h
                rwa [List.length_replicate] at h
              have HOWN := Lib.hid hown
              have hsz := HB17.out.size
              clear hown
              go_wp2_with (at_builtin; go_must (refine app_row (w0 := w13) w13.heap.size rfl (.tmp 78) (.tmp 80) 55 74 (.agg #[.int .i64 0, .bool false]) 2 16 rfl Try.underlying55 info_rcell rfl (by decide) v k _ #[.int .i64 x.1, .bool x.2] rfl rfl rfl (ce_one x) HOWN.out HB17.out hsz (by omega) (by omega) ?_); intro v1 w1 hown1 hB1 hg1 hsz1; have HOWN1 := Lib.hid hown1; have HB1 := Lib.hid hB1; clear hown1 hB1 hg1 hsz1)
              go_roundw
              case measure => first | (simp [intOf]; done) | (simp [intOf]; omega)
              case rel =>
                refine ⟨k + 1, v1, rfl, by go_num, by omega, Lib.hid ?_, HB1⟩
                rw [List.replicate_succ']
                refine OwnC.snoc ?_
                rw [List.length_replicate]
                exact HOWN1.out
            · obtain rfl : k = N := by omega
              obtain ⟨A2, c2, rfl, hc2, hs2⟩ := HO17.out.shows
              have HSA := Lib.hid hs2
              clear hc2 hs2
              obtain ⟨k0, k1, k2⟩ := seen_view HI17.out.v
              go_wp2_with fail
              refine (HRS2.out _ _ _ _ _ _ HI17.out.below HI17.out.y HCY.out HSA.out HI17.out.size).mono ?_
              rintro e w20 ⟨⟨Az, cz, rfl, hcz, hsz⟩, hB20⟩
              have HI20 := Lib.hid (HI17.out.later hB20)
              have HZ20 := Lib.hid hsz
              clear hB20 hsz k0 k1 k2
              go_wp2_with fail
              refine (num10_calls _ _).mono ?_
              rintro e w21 ⟨rfl, rfl⟩
              go_wp2_with fail
              refine (cells_calls T LQ _ HI20.out.b.buf).mono ?_
              rintro e w21 ⟨⟨v21, rfl, ho21⟩, hB21⟩
              obtain ⟨A21, c21, rfl, hc21, hs21⟩ := ho21.shows
              have HI21 := Lib.hid (HI20.out.later hB21)
              have HZ21 := Lib.hid (HZ20.out.below hB21)
              have HRF := Lib.hid (refs_calls LQ A21 c21 w21 hs21 HLQ.out)
              clear ho21 hs21 hB21 HI20 HZ20
              go_wp2_with fail
              refine HRF.out.mono ?_
              rintro e w22 ⟨⟨v22, rfl, ho22⟩, hB22⟩
              obtain ⟨A22, c22, rfl, hc22, hs22⟩ := ho22.shows
              have HI22 := Lib.hid (HI21.out.later hB22)
              have hSM := rsame_yes LQ LZ A22 Az c22 cz w22 hs22 ((HZ21.out.below hB22).shows HI22.out.below) HA2.out HLQ.out
              rw [HLZ.out] at hSM
              have HSM := Lib.hid hSM
              clear hSM ho22 hs22 hB22 HI21 HRF HZ21
              go_wp2_with fail
              refine HSM.out.mono ?_
              rintro e w23 ⟨rfl, hB23⟩
              have HI23 := Lib.hid (HI22.out.later hB23)
              clear hB23 HI22 HSM
              go_wp2_with fail
              refine (knows10_calls _).mono ?_
              rintro e w24 ⟨rfl, hB24⟩
              have HB24 := Lib.hid (bl_then HI23.out.below hB24)
              clear hB24
              go_wp2_with fail
              go_ret
              exact ⟨rfl, HB24.out⟩
        | false =>
          have hal : AL = [] := by rw [HAL.out]; unfold allL; rw [hfb]; rfl
          have HSA : Hid (Shows w15 (some ⟨w13.heap.size, 0, none⟩) (AL.flatMap ce)) := Lib.hid (by rw [hal]; exact Shows.nil _ _)
          have hal0 : AL.length = 0 := by rw [hal]; rfl
          rw [hal0] at HRS2
          clear hal hal0 hfb
          obtain ⟨k0, k1, k2⟩ := seen_view HI15.out.v
          go_wp2_with fail
          refine (HRS2.out _ _ _ _ _ _ HI15.out.below HI15.out.y HCY.out HSA.out HI15.out.size).mono ?_
          rintro e w20 ⟨⟨Az, cz, rfl, hcz, hsz⟩, hB20⟩
          have HI20 := Lib.hid (HI15.out.later hB20)
          have HZ20 := Lib.hid hsz
          clear hB20 hsz k0 k1 k2
          go_wp2_with fail
          refine (num10_calls _ _).mono ?_
          rintro e w21 ⟨rfl, rfl⟩
          go_wp2_with fail
          refine (cells_calls T LQ _ HI20.out.b.buf).mono ?_
          rintro e w21 ⟨⟨v21, rfl, ho21⟩, hB21⟩
          obtain ⟨A21, c21, rfl, hc21, hs21⟩ := ho21.shows
          have HI21 := Lib.hid (HI20.out.later hB21)
          have HZ21 := Lib.hid (HZ20.out.below hB21)
          have HRF := Lib.hid (refs_calls LQ A21 c21 w21 hs21 HLQ.out)
          clear ho21 hs21 hB21 HI20 HZ20
          go_wp2_with fail
          refine HRF.out.mono ?_
          rintro e w22 ⟨⟨v22, rfl, ho22⟩, hB22⟩
          obtain ⟨A22, c22, rfl, hc22, hs22⟩ := ho22.shows
          have HI22 := Lib.hid (HI21.out.later hB22)
          have hSM := rsame_yes LQ LZ A22 Az c22 cz w22 hs22 ((HZ21.out.below hB22).shows HI22.out.below) HA2.out HLQ.out
          rw [HLZ.out] at hSM
          have HSM := Lib.hid hSM
          clear hSM ho22 hs22 hB22 HI21 HRF HZ21
          go_wp2_with fail
          refine HSM.out.mono ?_
          rintro e w23 ⟨rfl, hB23⟩
          have HI23 := Lib.hid (HI22.out.later hB23)
          clear hB23 HI22 HSM
          go_wp2_with fail
          refine (knows10_calls _).mono ?_
          rintro e w24 ⟨rfl, hB24⟩
          have HB24 := Lib.hid (bl_then HI23.out.below hB24)
          clear hB24
          go_wp2_with fail
          go_ret
          exact ⟨rfl, HB24.out⟩
      · have h3 : lightB 400 xs ys = false := by simpa using h3
        rw [h3] at HLI
        clear hs hx hy ho h1 h2 h3
        go_enter Try.func7, Try.ntmps7
        go_upto_region 1 with fail
        rw [← HW0.out]
        go_wp2_with fail
        refine (HFW.out _).mono ?_
        rintro e w1 ⟨rfl, rfl⟩
        go_wp2_with fail
        refine (HFO.out _).mono ?_
        rintro e w1 ⟨rfl, rfl⟩
        obtain ⟨k0, k1, k2⟩ := seen_view HBK.out
        go_wp2_with fail
        refine HLI.out.mono ?_
        rintro e w1 ⟨rfl, hB1⟩
        have HB1 := Lib.hid (bl_then HB0.out hB1)
        have HBK1 := Lib.hid (HBK.out.below' hB1)
        have HCK1 := Lib.hid (HCK.out.below' hB1)
        clear hB1 k0 k1 k2
        go_wp2_with fail
        refine (knows10_calls _).mono ?_
        rintro e w3 ⟨rfl, hB3⟩
        have HB3 := Lib.hid (bl_then HB1.out hB3)
        clear hB3
        go_wp2_with fail
        go_ret
        exact ⟨rfl, HB3.out⟩
    · rw [decide_eq_false h2] at HFO
      clear hs hx hy ho h1 h2
      go_enter Try.func7, Try.ntmps7
      go_upto_region 1 with fail
      rw [← HW0.out]
      go_wp2_with fail
      refine (HFW.out _).mono ?_
      rintro e w1 ⟨rfl, rfl⟩
      go_wp2_with fail
      refine (HFO.out _).mono ?_
      rintro e w1 ⟨rfl, rfl⟩
      go_wp2_with fail
      refine (knows10_calls _).mono ?_
      rintro e w3 ⟨rfl, hB3⟩
      have HB3 := Lib.hid (bl_then HB0.out hB3)
      clear hB3
      go_wp2_with fail
      go_ret
      exact ⟨rfl, HB3.out⟩
  · rw [decide_eq_false h1] at HFW
    clear hs hx hy ho h1
    go_enter Try.func7, Try.ntmps7
    go_upto_region 1 with fail
    rw [← HW0.out]
    go_wp2_with fail
    refine (HFW.out _).mono ?_
    rintro e w1 ⟨rfl, rfl⟩
    go_wp2_with fail
    refine (knows10_calls _).mono ?_
    rintro e w3 ⟨rfl, hB3⟩
    have HB3 := Lib.hid (bl_then HB0.out hB3)
    clear hB3
    go_wp2_with fail
    go_ret
    exact ⟨rfl, HB3.out⟩
end Go.Proofs.Ythjkeefdeeljoaa.Shp
