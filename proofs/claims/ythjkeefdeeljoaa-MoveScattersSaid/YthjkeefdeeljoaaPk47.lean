/- Contracts and lemmas that the row of this claim stands on: Ref10, RGather. -/
import Derived.Test.YthjkeefdeeljoaaPk43
import Derived.Test.YthjkeefdeeljoaaPk46
import Derived.Laws.StructEq
/- The document's cells: Norm, Same, Gather, Pick; law10's few and light. -/
namespace Go.Proofs.Ythjkeefdeeljoaa.Shp
open Go.RowKit Go.Shelf Go.Proofs.Ythjkeefdeeljoaa.Num Go.Proofs.Ythjkeefdeeljoaa.Cl
set_option linter.unusedVariables false
set_option linter.unusedSimpArgs false

set_option maxHeartbeats 400000 in
theorem light10_calls (xs ys : List Int) (off : Int) (A B : Option Addr) (ca cb : Nat) (w : World) (hx : ReadsI w .i64 A xs) :
    Calls Try.prog 34 #[.agg #[.slice A xs.length ca, .slice B ys.length cb, .int .i64 off]] w fun e w' => e = .returned (.bool (lightB 400 xs ys)) ∧ Below w.heap.size w w' := by
  have HB0 : Hid (Below w.heap.size w (w.alloc (.cells #[.slice A xs.length ca, .slice B ys.length cb, .int .i64 off] 24))) := Lib.hid (bl_alloc (Below.refl _ _) _)
  obtain ⟨R, hR⟩ : ∃ R, R = lightB 400 xs ys := ⟨_, rfl⟩
  rw [← hR]
  have HR := Lib.hid hR
  clear hR
  by_cases h1 : 20 < xs.length
  · have HF : Hid (R = false) := Lib.hid (by rw [HR.out]; unfold lightB; rw [decide_eq_false (by omega)]; rfl)
    have h1' : (20 : Int) < (xs.length : Int) := by omega
    clear hx HR
    go_enter Try.func34, Try.ntmps34
    go_wp2_with fail
    go_ret
    exact ⟨ret_bool HF.out.symm, HB0.out⟩
  have h1' : ¬ ((20 : Int) < (xs.length : Int)) := by omega
  by_cases h2 : 20 < ys.length
  · have HF : Hid (R = false) := Lib.hid (by rw [HR.out]; unfold lightB; rw [decide_eq_false (p := ys.length ≤ 20) (by omega)]; simp)
    have h2' : (20 : Int) < (ys.length : Int) := by omega
    clear hx HR
    go_enter Try.func34, Try.ntmps34
    go_wp2_with fail
    go_ret
    exact ⟨ret_bool HF.out.symm, HB0.out⟩
  have h2' : ¬ ((20 : Int) < (ys.length : Int)) := by omega
  have hS := rsize2_calls xs A ca _ (hx.below HB0.out) (by omega)
  have HF : Hid (R = (!sizeOk xs || decide (prod xs ≤ 400))) := Lib.hid (by rw [HR.out]; unfold lightB; rw [decide_eq_true (p := xs.length ≤ 20) (by omega), decide_eq_true (p := ys.length ≤ 20) (by omega)]; rfl)
  cases hok : sizeOk xs with
  | false =>
    rw [hok] at hS HF
    have HS := Lib.hid hS
    clear hx HR hS hok h1 h2
    go_enter Try.func34, Try.ntmps34
    go_wp2_with fail
    refine HS.out.mono ?_
    rintro e w1 ⟨rfl, hB⟩
    have HB1 := Lib.hid (bl_then HB0.out hB)
    clear hB
    go_wp2_with fail
    go_ret
    exact ⟨ret_bool (by rw [HF.out]; rfl), HB1.out⟩
  | true =>
    rw [hok, if_pos rfl] at hS
    rw [hok] at HF
    generalize prod xs = p at *
    have HS := Lib.hid hS
    clear hx HR hS hok h1 h2
    go_enter Try.func34, Try.ntmps34
    go_wp2_with fail
    refine HS.out.mono ?_
    rintro e w1 ⟨rfl, hB⟩
    have HB1 := Lib.hid (bl_then HB0.out hB)
    clear hB
    go_wp2_with fail
    go_ret
    exact ⟨ret_bool (by rw [HF.out]; rfl), HB1.out⟩
theorem few_calls (L : List Cell) (A : Option Addr) (c : Nat) (w : World) : Calls Try.prog 33 #[.slice A L.length c] w fun e w' => e = .returned (.bool (decide (L.length ≤ 300))) ∧ w = w' := by
  go_enter Try.func33, Try.ntmps33
  go_wp2
  go_ret
  refine ⟨ret_bool ?_, rfl⟩
  congr 1
  rw [eq_iff_iff]
  omega
theorem num10_calls (k : Int) (w : World) : Calls Try.prog 45 #[.int .i64 k] w fun e w' => e = .returned (.int .i64 k) ∧ w = w' := by
  go_enter Try.func45, Try.ntmps45
  go_wp2
  go_ret
  exact ⟨rfl, rfl⟩
theorem rnorm_calls (x : Cell) (w : World) : Calls Try.prog 92 #[.agg #[.int .i64 x.1, .bool x.2]] w fun e w' => e = .returned (.agg #[.int .i64 (normC x).1, .bool (normC x).2]) ∧ Below w.heap.size w w' := by
  obtain ⟨n, b⟩ := x
  have HB := Lib.hid (bl_alloc (bl_alloc (Below.refl w.heap.size w) (.cells #[.int .i64 n, .bool b] 74)) (.cells #[.int .i64 0, .bool false] 74))
  cases b with
  | true =>
    go_enter Try.func92, Try.ntmps92
    go_wp2_with fail
    exact bodyPost_ret (v := .agg #[.int .i64 n, .bool true]) (by simp [results, Try.results92, go_sem]) rfl ⟨rfl, bl_alloc (bl_alloc (Below.refl _ _) _) _⟩
  | false =>
    go_enter Try.func92, Try.ntmps92
    go_wp2_with fail
    exact bodyPost_ret (v := .agg #[.int .i64 0, .bool false]) (by simp [results, Try.results92, go_sem]) rfl ⟨rfl, HB.out⟩
theorem eql_rcell (x y : Cell) (w : World) : (binOp .eql 74 (.agg #[.int .i64 x.1, .bool x.2]) (.agg #[.int .i64 y.1, .bool y.2])).run Try.prog w = .ok (.bool (decide (x = y))) w := by
  have a1 := Try.isAgg2
  have a2 := Try.isAgg4
  have z1 := Try.sizeOf2
  have z2 := Try.sizeOf4
  have u1 := Try.underlying2
  have u2 := Try.underlying4
  have hS : Try.prog.underlying 74 = some (.struct (Try.prog.fieldsOf 74)) := by kernel_rfl
  have hp : Try.prog.stoodInHeld 74 = false := by kernel_rfl
  obtain ⟨xn, xb⟩ := x
  obtain ⟨yn, yb⟩ := y
  rw [run_eql_struct, show (10000 : Nat) = 9999 + 1 from rfl, run_equalIn_agg w 9999 74 _ _ hS hp]
  simp only [Program.fieldsOf, Try.underlying74]
  go_simp
  by_cases h1 : xn = yn <;> by_cases h2 : xb = yb <;> simp [h1, h2]
theorem guard_rcell : Try.prog.eqGuardType Try.prog.depth 74 = false := by kernel_rfl
theorem neq_rcell (x y : Cell) (w : World) : (binOp .neq 74 (.agg #[.int .i64 x.1, .bool x.2]) (.agg #[.int .i64 y.1, .bool y.2])).run Try.prog w = .ok (.bool (!(decide (x = y)))) w := by
  have h := eql_rcell x y w
  rw [run_eql_struct] at h
  rw [run_neq_struct]
  generalize (Op.equalIn 10000 74 (.agg #[.int .i64 x.1, .bool x.2]) (.agg #[.int .i64 y.1, .bool y.2])).run Try.prog w = r at *
  cases r with
  | ok b w' =>
    simp [Result.andThen] at h ⊢
    obtain ⟨h1, h2⟩ := h
    exact ⟨by rw [h1], h2⟩
  | halt e w' => simp [Result.andThen] at h
set_option maxRecDepth 100000 in
set_option maxHeartbeats 1000000 in
theorem rsame_yes (L1 L2 : List Cell) (A B : Option Addr) (ca cb : Nat) (w : World) (h1 : Shows w A (L1.flatMap ce)) (h2 : Shows w B (L2.flatMap ce)) (he : L1.map normC = L2.map normC) (hl : L1.length ≤ 2000000) :
    Calls Try.prog 42 #[.slice A L1.length ca, .slice B L2.length cb] w fun e w' => e = .returned (.bool true) ∧ Below w.heap.size w w' := by
  have hlen : L1.length = L2.length := by simpa using congrArg List.length he
  have H1 := Lib.hid h1
  have H2 := Lib.hid h2
  have HE := Lib.hid he
  obtain ⟨N, hN⟩ : ∃ N, L1.length = N := ⟨_, rfl⟩
  rw [← hlen, hN]
  have HL1 := Lib.hid hN
  have HL2 := Lib.hid (hlen.symm.trans hN)
  rw [hN] at hl
  clear h1 h2 he hlen hN
  go_enter Try.func42, Try.ntmps42
  go_wp2_with fail
  go_loopw [5] (fun i wr => ∃ k : Nat, i = .int .i64 k ∧ k ≤ N ∧ Hid (Below w.heap.size w wr)) (fun i _ => N - (intOf i).toNat)
  case atStart => exact ⟨0, rfl, Nat.zero_le _, Lib.hid (Below.refl _ _)⟩
  case round =>
    obtain ⟨k, rfl, hk, HB⟩ := hrel
    by_cases hlt : k < N
    · have hkN : (k : Int) < (N : Int) := by omega
      obtain ⟨b1, o1, e1, c0, c1⟩ := cell_at (H1.out.below HB.out) k (by have := HL1.out; omega)
      obtain ⟨b2, o2, e2, d0, d1⟩ := cell_at (H2.out.below HB.out) k (by have := HL2.out; omega)
      subst e1
      subst e2
      have hxy : normC (nth L1 k) = normC (nth L2 k) := by
        have h := congrArg (fun l => nth l k) HE.out
        rw [nth_eq _ _ (by simp; have := HL1.out; omega), nth_eq _ _ (by simp; have := HL2.out; omega), List.getElem_map, List.getElem_map] at h
        rw [nth_eq _ _ (by have := HL1.out; omega), nth_eq _ _ (by have := HL2.out; omega)]
        exact h
      have HN1 := Lib.hid (fun W => rnorm_calls (nth L1 k) W)
      have HN2 := Lib.hid (fun W => rnorm_calls (nth L2 k) W)
      rw [hxy] at HN1
      have hne := fun W => neq_rcell (normC (nth L2 k)) (normC (nth L2 k)) W
      simp only [decide_true, Bool.not_true] at hne
      have hgu := guard_rcell
      obtain ⟨z, hz⟩ : ∃ z, normC (nth L2 k) = z := ⟨_, rfl⟩
      rw [hz] at HN1 HN2 hne
      obtain ⟨x, hx⟩ : ∃ x, nth L1 k = x := ⟨_, rfl⟩
      obtain ⟨y, hy⟩ : ∃ y, nth L2 k = y := ⟨_, rfl⟩
      rw [hx] at HN1 c0 c1
      rw [hy] at HN2 d0 d1
      have HC := Lib.hid (⟨c0, c1, d0, d1⟩ : wr.cell? ⟨b1, o1 + k * 2, none⟩ = some (.int .i64 x.1) ∧ wr.cell? ⟨b1, o1 + k * 2 + 1, none⟩ = some (.bool x.2) ∧ wr.cell? ⟨b2, o2 + k * 2, none⟩ = some (.int .i64 y.1) ∧ wr.cell? ⟨b2, o2 + k * 2 + 1, none⟩ = some (.bool y.2))
      have HK := Lib.hid (fun W (h : Below wr.heap.size wr W) => (⟨bl_seen h c0, bl_seen h c1, bl_seen h d0, bl_seen h d1⟩ : W.cell? ⟨b1, o1 + k * 2, none⟩ = some (.int .i64 x.1) ∧ W.cell? ⟨b1, o1 + k * 2 + 1, none⟩ = some (.bool x.2) ∧ W.cell? ⟨b2, o2 + k * 2, none⟩ = some (.int .i64 y.1) ∧ W.cell? ⟨b2, o2 + k * 2 + 1, none⟩ = some (.bool y.2)))
      clear hxy hz hx hy
      go_upto_region 6 with fail
      go_region_held3 (fun W => W.cell? ⟨b1, o1 + k * 2, none⟩ = some (.int .i64 x.1) ∧ W.cell? ⟨b1, o1 + k * 2 + 1, none⟩ = some (.bool x.2) ∧ W.cell? ⟨b2, o2 + k * 2, none⟩ = some (.int .i64 y.1) ∧ W.cell? ⟨b2, o2 + k * 2 + 1, none⟩ = some (.bool y.2))
        (first | exact HC.out | exact HK.out _ HA1.out | exact HK.out _ HA2.out)
        (first
        | (go_at_call 92; first
          | ((with_reducible refine (HN1.out _).mono ?_); rintro e wA ⟨rfl, hA⟩; have HA1 := Lib.hid (bl_then (bl_drew (Below.refl wr.heap.size wr)) hA); clear hA)
          | ((with_reducible refine (HN2.out _).mono ?_); rintro e wB ⟨rfl, hA⟩; have HA2 := Lib.hid (bl_then HA1.out hA); clear hA)))
      go_wp2_with fail
      exact ⟨⟨k + 1, by go_num, by omega, Lib.hid (bl_then HB.out HA2.out)⟩, by simp [intOf]; omega⟩
    · obtain rfl : k = N := by omega
      go_wp2_with fail
      go_ret
      exact ⟨rfl, HB.out⟩
end Go.Proofs.Ythjkeefdeeljoaa.Shp
/- The document's Gather. -/
namespace Go.Proofs.Ythjkeefdeeljoaa.Shp
open Go.RowKit Go.Shelf Go.Proofs.Ythjkeefdeeljoaa.Num Go.Proofs.Ythjkeefdeeljoaa.Cl
set_option linter.unusedVariables false
set_option linter.unusedSimpArgs false

theorem offsL_nth {xs ys : List Int} {off : Int} (hv : vrB xs ys off = true) (k : Nat) (h : k < cellsN xs ys off) : nth (offsL xs ys off) k = plO xs ys off k := by
  rw [nth_eq _ _ (by rw [offsL_length]; exact h)]
  unfold offsL
  rw [List.getElem_map, List.getElem_range]
theorem ownC_lower {w : World} {b b' : Nat} {e : TypeId} {v : Value} {L : List Cell} (h : OwnC w b e v L) (hb : b' ≤ b) : OwnC w b' e v L := by
  refine ⟨h.1, ?_⟩
  rcases h.2 with hn | ⟨g, cap, cur, h1, h2, h3⟩
  · exact .inl hn
  · exact .inr ⟨g, cap, cur, h1, Nat.le_trans hb h2, h3⟩
theorem rgather_out (xs ys : List Int) (off : Int) (A B : Option Addr) (ca cb n m : Nat) (L : List Cell) (C : Option Addr) (cc : Nat) (most : Int) (w : World) (hx : ReadsI w .i64 A xs) (hy : ReadsI w .i64 B ys) (hn : xs.length = n) (hm : ys.length = m) (hl : n ≤ 1000000) (hl2 : m ≤ 1000000)
    (hf : fitsB xs ys off L.length = false) :
    Calls Try.prog 39 #[.slice C L.length cc, .agg #[.slice A n ca, .slice B m cb, .int .i64 off], .int .i64 most] w fun e w' => e = .returned (.tuple #[.slice none 0 0, .int .i64 2]) ∧ Below w.heap.size w w' := by
  have HB0 : Hid (Below w.heap.size w (w.alloc (.cells #[.slice A n ca, .slice B m cb, .int .i64 off] 24))) := Lib.hid (bl_alloc (Below.refl _ _) _)
  have hF := rfits_calls xs ys off A B ca cb n m (L.length : Int) _ (hx.below HB0.out) (hy.below HB0.out) hn hm hl hl2
  rw [hf] at hF
  have HF := Lib.hid hF
  clear hF hx hy hn hm hf
  go_enter Try.func39, Try.ntmps39
  go_wp2_with fail
  refine HF.out.mono ?_
  rintro e w1 ⟨rfl, hB1⟩
  have HB1 := Lib.hid (bl_then HB0.out hB1)
  clear hB1
  go_wp2_with fail
  go_ret2
  exact ⟨rfl, HB1.out⟩
theorem rgather_limit (xs ys : List Int) (off : Int) (A B : Option Addr) (ca cb n m : Nat) (L : List Cell) (C : Option Addr) (cc : Nat) (most : Int) (w : World) (hx : ReadsI w .i64 A xs) (hy : ReadsI w .i64 B ys) (hn : xs.length = n) (hm : ys.length = m) (hl : n ≤ 1000000) (hl2 : m ≤ 1000000)
    (hf : fitsB xs ys off L.length = true) (hmo : min (max most 0) 1048576 < (cellsN xs ys off : Int)) :
    Calls Try.prog 39 #[.slice C L.length cc, .agg #[.slice A n ca, .slice B m cb, .int .i64 off], .int .i64 most] w fun e w' => e = .returned (.tuple #[.slice none 0 0, .int .i64 7]) ∧ Below w.heap.size w w' := by
  have HB0 : Hid (Below w.heap.size w (w.alloc (.cells #[.slice A n ca, .slice B m cb, .int .i64 off] 24))) := Lib.hid (bl_alloc (Below.refl _ _) _)
  have hbk : Blk (w.alloc (.cells #[.slice A n ca, .slice B m cb, .int .i64 off] 24)) w.heap.size 24 #[.slice A n ca, .slice B m cb, .int .i64 off] := Blk.new _ _ _
  have hF := rfits_calls xs ys off A B ca cb n m (L.length : Int) _ (hx.below HB0.out) (hy.below HB0.out) hn hm hl hl2
  rw [hf] at hF
  have HF := Lib.hid hF
  have HC := Lib.hid (fun W (h : Below w.heap.size w W) => rcoll_calls xs ys off A B ca cb n m W (hx.below h) (hy.below h) hn hm hl hl2)
  have HLN := Lib.hid (offsL_length xs ys off)
  have HBK := Lib.hid hbk
  obtain ⟨q, hq⟩ : ∃ q, min (max most 0) 1048576 = q := ⟨_, rfl⟩
  rw [hq] at hmo
  have hlt : q < ((offsL xs ys off).length : Int) := by rw [HLN.out]; exact hmo
  generalize (offsL xs ys off) = OL at *
  clear hF hx hy hn hm hf hbk hmo
  go_enter Try.func39, Try.ntmps39
  go_wp2_with fail
  refine HF.out.mono ?_
  rintro e w1 ⟨rfl, hB1⟩
  obtain ⟨k0, k1, k2⟩ := seen_view (HBK.out.below' hB1)
  have HB1 := Lib.hid (bl_then HB0.out hB1)
  clear hB1
  go_wp2_with fail
  refine (HC.out _ HB1.out).mono ?_
  rintro e w2 ⟨⟨A', c', rfl, _⟩, hB2⟩
  have HB2 := Lib.hid (bl_then HB1.out hB2)
  clear hB2 k0 k1 k2
  go_wp2_with fail
  all_goals
    go_ret2
    exact ⟨rfl, HB2.out⟩
set_option maxRecDepth 100000 in
set_option maxHeartbeats 1000000 in
theorem rgather_yes (xs ys : List Int) (off : Int) (A B : Option Addr) (ca cb n m : Nat) (L : List Cell) (C : Option Addr) (cc : Nat) (most : Int) (w : World) (hx : ReadsI w .i64 A xs) (hy : ReadsI w .i64 B ys) (hs : Shows w C (L.flatMap ce)) (hn : xs.length = n) (hm : ys.length = m) (hl : n ≤ 1000000) (hl2 : m ≤ 1000000)
    (hf : fitsB xs ys off L.length = true) (hmo : (cellsN xs ys off : Int) ≤ min (max most 0) 1048576) :
    Calls Try.prog 39 #[.slice C L.length cc, .agg #[.slice A n ca, .slice B m cb, .int .i64 off], .int .i64 most] w fun e w' => (∃ v, e = .returned (.tuple #[v, .int .i64 0]) ∧ OwnC w' w.heap.size 74 v (gathL xs ys off L)) ∧ Below w.heap.size w w' := by
  have HB0 : Hid (Below w.heap.size w (w.alloc (.cells #[.slice A n ca, .slice B m cb, .int .i64 off] 24))) := Lib.hid (bl_alloc (Below.refl _ _) _)
  have hbk : Blk (w.alloc (.cells #[.slice A n ca, .slice B m cb, .int .i64 off] 24)) w.heap.size 24 #[.slice A n ca, .slice B m cb, .int .i64 off] := Blk.new _ _ _
  have hF := rfits_calls xs ys off A B ca cb n m (L.length : Int) _ (hx.below HB0.out) (hy.below HB0.out) hn hm hl hl2
  rw [hf] at hF
  have HF := Lib.hid hF
  have HC := Lib.hid (fun W (h : Below w.heap.size w W) => rcoll_calls xs ys off A B ca cb n m W (hx.below h) (hy.below h) hn hm hl hl2)
  have HOL := Lib.hid (fun k (hk : k < cellsN xs ys off) => offsL_nth (fits_vr hf) k hk)
  have HIN := Lib.hid (fun k (hk : k < cellsN xs ys off) => fits_in hf k hk)
  have HLN := Lib.hid (offsL_length xs ys off)
  have HGN := Lib.hid (fun k (hk : k < cellsN xs ys off) => gathL_nth xs ys off L k hk)
  have HGL := Lib.hid (gathL_length xs ys off L)
  have HBK := Lib.hid hbk
  have HSH := Lib.hid hs
  have hN9 := cellsN_le xs ys off
  obtain ⟨GL, hGL⟩ : ∃ GL, GL = gathL xs ys off L := ⟨_, rfl⟩
  rw [← hGL] at HGN HGL
  have HGG := Lib.hid hGL
  rw [HLN.out] at HC
  generalize (offsL xs ys off) = OL at *
  generalize cellsN xs ys off = N at *
  generalize plO xs ys off = pf at *
  have hnot : ¬ min (max most 0) 1048576 < (N : Int) := by omega
  clear hF hx hy hn hm hf hbk hmo hs hGL
  go_enter Try.func39, Try.ntmps39
  go_wp2_with fail
  refine HF.out.mono ?_
  rintro e w1 ⟨rfl, hB1⟩
  obtain ⟨k0, k1, k2⟩ := seen_view (HBK.out.below' hB1)
  have HB1 := Lib.hid (bl_then HB0.out hB1)
  clear hB1
  go_wp2_with fail
  refine (HC.out _ HB1.out).mono ?_
  rintro e w2 ⟨⟨A', c', rfl, ha'⟩, hB2⟩
  have HA' := Lib.hid ha'
  have HB2 := Lib.hid (bl_then HB1.out hB2)
  clear hB2 k0 k1 k2 ha'
  go_upto_if 23 with fail
  obtain ⟨q, hq⟩ : ∃ q, min (max most 0) 1048576 = q := ⟨_, rfl⟩
  rw [hq] at hnot ⊢
  clear hq
  go_wp2_with fail
  go_loopw [9, 10] (fun t9 t10 wr => ∃ (k : Nat) (v : Value), v = t9 ∧ t10 = .int .i64 k ∧ k ≤ N ∧ Hid (OwnC wr w2.heap.size 74 v (GL.take k)) ∧ Hid (Below w2.heap.size w2 wr)) (fun _ i _ => N - (intOf i).toNat)
  case atStart => exact ⟨0, _, rfl, rfl, Nat.zero_le _, Lib.hid (ownC_nil _ _ _), Lib.hid (Below.refl _ _)⟩
  case round =>
    obtain ⟨k, v, rfl, rfl, hk, HO, HB⟩ := hrel
    by_cases hlt : k < N
    · have hkN : (k : Int) < (N : Int) := by omega
      obtain ⟨bA, oA, eA, cA⟩ := (HA'.out.below HB.out) k (by rw [HLN.out]; exact hlt)
      rw [HOL.out k hlt] at cA
      subst eA
      obtain ⟨p, hp⟩ := Int.eq_ofNat_of_zero_le (HIN.out k hlt).1
      have hpl := (HIN.out k hlt).2
      have hgn := HGN.out k hlt
      rw [hp] at cA hpl hgn
      rw [Int.toNat_natCast] at hgn
      have hwB := bl_then HB2.out HB.out
      obtain ⟨b, off', eC, c0, c1⟩ := cell_at (HSH.out.below hwB) p (by omega)
      subst eC
      have HT := Lib.hid (take_nth GL k (by rw [HGL.out]; exact hlt))
      rw [hgn] at HT
      have hlen : (GL.take k).length = k := by have := HGL.out; simp; omega
      have hown : wr.ownsRow w2.heap.size 74 2 v k ((GL.take k).flatMap ce) := by
        have h := HO.out
        unfold OwnC at h
        rwa [hlen] at h
      have HOWN := Lib.hid hown
      have HLEN := Lib.hid hlen
      have hsz := HB.out.size
      have HWB := Lib.hid hwB
      obtain ⟨⟨xn, xb⟩, hx⟩ : ∃ x, nth L p = x := ⟨_, rfl⟩
      rw [hx] at c0 c1 HT
      dsimp only at c0 c1
      clear hx hown hlen hgn hp hwB
      go_wp2_with (at_builtin; go_must (refine app_row (w0 := w2) w2.heap.size rfl (.tmp 30) (.tmp 38) 55 74 (.agg #[.int .i64 0, .bool false]) 2 16 rfl Try.underlying55 info_rcell rfl (by decide) v k _ #[.int .i64 xn, .bool xb] rfl rfl rfl (ce_one (xn, xb)) HOWN.out HB.out hsz (by omega) (by omega) ?_); intro v1 w1 hown1 hB1 hg1 hsz1; have HOWN1 := Lib.hid hown1; have HB3 := Lib.hid hB1; have HG1 := Lib.hid hg1; clear hown1 hB1 hg1 hsz1)
      go_roundw
      case measure => first | (simp [intOf]; done) | (simp [intOf]; omega)
      case rel =>
        refine ⟨k + 1, v1, rfl, by go_num, by omega, Lib.hid ?_, HB3⟩
        rw [HT.out]
        refine OwnC.snoc ?_
        rw [HLEN.out]
        exact HOWN1.out
    · obtain rfl : k = N := by omega
      go_wp2_with fail
      go_ret2
      have h := HO.out
      rw [List.take_of_length_le (by rw [HGL.out]; exact Nat.le_refl _), HGG.out] at h
      exact ⟨⟨v, rfl, ownC_lower h HB2.out.size⟩, bl_then HB2.out HB.out⟩
end Go.Proofs.Ythjkeefdeeljoaa.Shp
