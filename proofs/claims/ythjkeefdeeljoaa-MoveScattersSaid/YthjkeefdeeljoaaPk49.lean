/- Contracts and lemmas that the row of this claim stands on: RPick, MvAny. -/
import Derived.Test.YthjkeefdeeljoaaPk44
import Derived.Test.YthjkeefdeeljoaaPk47
/- The document's Pick. -/
namespace Go.Proofs.Ythjkeefdeeljoaa.Shp
open Go.RowKit Go.Shelf Go.Proofs.Ythjkeefdeeljoaa.Num Go.Proofs.Ythjkeefdeeljoaa.Cl
set_option linter.unusedVariables false
set_option linter.unusedSimpArgs false

theorem pickB_first {ps : List Int} {n : Nat} (h : pickB ps n = true) : ∃ j, j < ps.length ∧ (n : Int) ≤ nth ps j := by
  unfold pickB at h
  obtain ⟨x, hx, h2⟩ := List.any_eq_true.1 h
  obtain ⟨j, hj, rfl⟩ := List.getElem_of_mem hx
  exact ⟨j, hj, by rw [nth_eq _ _ hj]; simpa using h2⟩
set_option maxRecDepth 100000 in
set_option maxHeartbeats 1000000 in
theorem rpick_out (ps : List Int) (C : Option Addr) (cc : Nat) (L : List Cell) (D : Option Addr) (cd : Nat) (most : Int) (w : World) (hp : ReadsI w .i64 C ps) (hl : ps.length ≤ 1000000) (hb : pickB ps L.length = true) :
    Calls Try.prog 41 #[.slice D L.length cd, .slice C ps.length cc, .int .i64 most] w fun e w' => e = .returned (.tuple #[.slice none 0 0, .int .i64 2]) ∧ Below w.heap.size w w' := by
  have HP := Lib.hid hp
  obtain ⟨j, hj, hjx⟩ := pickB_first hb
  have HJ := Lib.hid hjx
  clear hp hb hjx
  go_enter Try.func41, Try.ntmps41
  go_wp2_with fail
  go_loop [8] (fun i => ∃ k : Nat, i = .int .i64 k ∧ k ≤ j) (fun i => ps.length - (intOf i).toNat)
  case atStart => exact ⟨0, rfl, Nat.zero_le _⟩
  case round =>
    obtain ⟨k, rfl, hk⟩ := hrel
    have hkN : (k : Int) < (ps.length : Int) := by omega
    obtain ⟨bC, oC, eC, cC⟩ := HP.out k (by omega)
    subst eC
    by_cases hge : (L.length : Int) ≤ nth ps k
    · generalize nth ps k = x at *
      go_wp2_with fail
      go_ret2
      exact ⟨rfl, Below.refl _ _⟩
    · have hne : k ≠ j := fun e => hge (e ▸ HJ.out)
      generalize nth ps k = x at *
      go_wp2_with fail
      go_round
      case measure => first | (simp [intOf]; done) | (simp [intOf]; omega)
      case rel => exact ⟨k + 1, by go_num, by omega⟩
set_option maxRecDepth 100000 in
set_option maxHeartbeats 1000000 in
theorem rpick_limit (ps : List Int) (C : Option Addr) (cc : Nat) (L : List Cell) (D : Option Addr) (cd : Nat) (most : Int) (w : World) (hp : ReadsI w .i64 C ps) (hl : ps.length ≤ 1000000) (hb : pickB ps L.length = false) (hmo : min (max most 0) 1048576 < (ps.length : Int)) :
    Calls Try.prog 41 #[.slice D L.length cd, .slice C ps.length cc, .int .i64 most] w fun e w' => e = .returned (.tuple #[.slice none 0 0, .int .i64 7]) ∧ Below w.heap.size w w' := by
  have HP := Lib.hid hp
  have HNO := Lib.hid (fun k hk => pickB_no hb k hk)
  obtain ⟨q, hq⟩ : ∃ q, min (max most 0) 1048576 = q := ⟨_, rfl⟩
  rw [hq] at hmo
  clear hp hb
  go_enter Try.func41, Try.ntmps41
  go_wp2_with fail
  go_loop [8] (fun i => ∃ k : Nat, i = .int .i64 k ∧ k ≤ ps.length) (fun i => ps.length - (intOf i).toNat)
  case atStart => exact ⟨0, rfl, Nat.zero_le _⟩
  case round =>
    obtain ⟨k, rfl, hk⟩ := hrel
    by_cases hlt : k < ps.length
    · have hkN : (k : Int) < (ps.length : Int) := by omega
      obtain ⟨bC, oC, eC, cC⟩ := HP.out k hlt
      subst eC
      have hge : ¬ (L.length : Int) ≤ nth ps k := by have := HNO.out k hlt; omega
      generalize nth ps k = x at *
      go_wp2_with fail
      go_round
      case measure => first | (simp [intOf]; done) | (simp [intOf]; omega)
      case rel => exact ⟨k + 1, by go_num, by omega⟩
    · obtain rfl : k = ps.length := by omega
      go_wp2_with fail
      all_goals
        go_ret2
        exact ⟨rfl, Below.refl _ _⟩
set_option maxRecDepth 100000 in
set_option maxHeartbeats 1000000 in
theorem rpick_yes (ps : List Int) (C : Option Addr) (cc : Nat) (L : List Cell) (D : Option Addr) (cd : Nat) (most : Int) (w : World) (hp : ReadsI w .i64 C ps) (hs : Shows w D (L.flatMap ce)) (hl : ps.length ≤ 1000000) (hb : pickB ps L.length = false) (hmo : (ps.length : Int) ≤ min (max most 0) 1048576) :
    Calls Try.prog 41 #[.slice D L.length cd, .slice C ps.length cc, .int .i64 most] w fun e w' => (∃ v, e = .returned (.tuple #[v, .int .i64 0]) ∧ OwnC w' w.heap.size 74 v (pickL ps L)) ∧ Below w.heap.size w w' := by
  have HP := Lib.hid hp
  have HS := Lib.hid hs
  have HNO := Lib.hid (fun k hk => pickB_no hb k hk)
  have HPN := Lib.hid (fun k hk => pickL_nth ps L k hk)
  obtain ⟨PL, hPL⟩ : ∃ PL, PL = pickL ps L := ⟨_, rfl⟩
  have hPLl : PL.length = ps.length := by rw [hPL, pickL_length]
  rw [← hPL] at HPN
  have HPL := Lib.hid hPL
  have HPLL := Lib.hid hPLl
  obtain ⟨q, hq⟩ : ∃ q, min (max most 0) 1048576 = q := ⟨_, rfl⟩
  have hnot : ¬ q < (ps.length : Int) := by omega
  have HQ := Lib.hid hq
  clear hp hb hs hPL hPLl hq hmo
  go_enter Try.func41, Try.ntmps41
  go_wp2_with fail
  go_loop [8] (fun i => ∃ k : Nat, i = .int .i64 k ∧ k ≤ ps.length) (fun i => ps.length - (intOf i).toNat)
  case atStart => exact ⟨0, rfl, Nat.zero_le _⟩
  case round =>
    obtain ⟨k, rfl, hk⟩ := hrel
    by_cases hlt : k < ps.length
    · have hkN : (k : Int) < (ps.length : Int) := by omega
      obtain ⟨bC, oC, eC, cC⟩ := HP.out k hlt
      subst eC
      have hge : ¬ (L.length : Int) ≤ nth ps k := by have := HNO.out k hlt; omega
      generalize nth ps k = x at *
      go_wp2_with fail
      go_round
      case measure => first | (simp [intOf]; done) | (simp [intOf]; omega)
      case rel => exact ⟨k + 1, by go_num, by omega⟩
    · obtain rfl : k = ps.length := by omega
      go_upto_if 29 with fail
      rw [HQ.out]
      go_wp2_with fail
      go_loopw [9, 10] (fun t9 t10 wr => ∃ (k : Nat) (v : Value), v = t9 ∧ t10 = .int .i64 k ∧ k ≤ ps.length ∧ Hid (OwnC wr w.heap.size 74 v (PL.take k)) ∧ Hid (Below w.heap.size w wr)) (fun _ i _ => ps.length - (intOf i).toNat)
      case atStart => exact ⟨0, _, rfl, rfl, Nat.zero_le _, Lib.hid (ownC_nil _ _ _), Lib.hid (Below.refl _ _)⟩
      case round =>
        obtain ⟨k, v, rfl, rfl, hk, HO, HB⟩ := hrel
        by_cases hlt : k < ps.length
        · have hkN : (k : Int) < (ps.length : Int) := by omega
          obtain ⟨bC, oC, eC, cC⟩ := (HP.out.below HB.out) k hlt
          subst eC
          have hno := HNO.out k hlt
          have hpn := HPN.out k hlt
          have HT := Lib.hid (take_nth PL k (by rw [HPLL.out]; exact hlt))
          have hlen : (PL.take k).length = k := by have := HPLL.out; simp; omega
          have hown : wr.ownsRow w.heap.size 74 2 v k ((PL.take k).flatMap ce) := by
            have h := HO.out
            unfold OwnC at h
            rwa [hlen] at h
          have HOWN := Lib.hid hown
          have HLEN := Lib.hid hlen
          have hsz := HB.out.size
          obtain ⟨p, hpp⟩ : ∃ p, nth ps k = p := ⟨_, rfl⟩
          rw [hpp] at cC hno hpn
          by_cases hneg : p < 0
          · rw [if_pos hneg] at hpn
            rw [hpn] at HT
            clear hown hlen hpn hpp hno
            go_wp2_with (at_builtin; go_must (refine app_row (w0 := w) w.heap.size rfl (.tmp 41) (.tmp 43) 55 74 (.agg #[.int .i64 0, .bool false]) 2 16 rfl Try.underlying55 info_rcell rfl (by decide) v k _ #[.int .i64 0, .bool false] rfl rfl rfl (ce_one (0, false)) HOWN.out HB.out hsz (by omega) (by omega) ?_); intro v1 w1 hown1 hB1 hg1 hsz1; have HOWN1 := Lib.hid hown1; have HB3 := Lib.hid hB1; clear hown1 hB1 hg1 hsz1)
            go_roundw
            case measure => first | (simp [intOf]; done) | (simp [intOf]; omega)
            case rel =>
              refine ⟨k + 1, v1, rfl, by go_num, by omega, Lib.hid ?_, HB3⟩
              rw [HT.out]
              refine OwnC.snoc ?_
              rw [HLEN.out]
              exact HOWN1.out
          · obtain ⟨j, rfl⟩ := Int.eq_ofNat_of_zero_le (show 0 ≤ p by omega)
            rw [if_neg hneg, Int.toNat_natCast] at hpn
            obtain ⟨b, off', eC, c0, c1⟩ := cell_at (HS.out.below HB.out) j (by omega)
            subst eC
            rw [hpn] at HT
            obtain ⟨⟨xn, xb⟩, hx⟩ : ∃ x, nth L j = x := ⟨_, rfl⟩
            rw [hx] at c0 c1 HT
            dsimp only at c0 c1
            clear hx hown hlen hpn hpp
            go_wp2_with (at_builtin; go_must (refine app_row (w0 := w) w.heap.size rfl (.tmp 45) (.tmp 53) 55 74 (.agg #[.int .i64 0, .bool false]) 2 16 rfl Try.underlying55 info_rcell rfl (by decide) v k _ #[.int .i64 xn, .bool xb] rfl rfl rfl (ce_one (xn, xb)) HOWN.out HB.out hsz (by omega) (by omega) ?_); intro v1 w1 hown1 hB1 hg1 hsz1; have HOWN1 := Lib.hid hown1; have HB3 := Lib.hid hB1; clear hown1 hB1 hg1 hsz1)
            go_roundw
            case measure => first | (simp [intOf]; done) | (simp [intOf]; omega)
            case rel =>
              refine ⟨k + 1, v1, rfl, by go_num, by omega, Lib.hid ?_, HB3⟩
              rw [HT.out]
              refine OwnC.snoc ?_
              rw [HLEN.out]
              exact HOWN1.out
        · obtain rfl : k = ps.length := by omega
          go_wp2_with fail
          go_ret2
          have h := HO.out
          rw [List.take_of_length_le (by rw [HPLL.out]; exact Nat.le_refl _), HPL.out] at h
          exact ⟨⟨v, rfl, h⟩, HB.out⟩
end Go.Proofs.Ythjkeefdeeljoaa.Shp
/- Gather and Pick, the program's and the document's, whatever comes. -/
namespace Go.Proofs.Ythjkeefdeeljoaa.Shp
open Go.RowKit Go.Shelf Go.Proofs.Ythjkeefdeeljoaa.Num Go.Proofs.Ythjkeefdeeljoaa.Cl
set_option linter.unusedVariables false
set_option linter.unusedSimpArgs false

/-- A row, or none: of no cells. -/
def RowV (B : Nat) (w : World) (a : Option Addr) (l : List Cell) : Prop := (a = none ∧ l = []) ∨ ∃ T, a = some ⟨T, 0, none⟩ ∧ Buf B w T l
theorem RowV.below {B : Nat} {w w' : World} {a : Option Addr} {l : List Cell} (h : RowV B w a l) (hb : Below w.heap.size w w') : RowV B w' a l := by
  rcases h with h | ⟨T, h1, h2⟩
  · exact .inl h
  · exact .inr ⟨T, h1, h2.below hb⟩
theorem cells_any {B : Nat} (a : Option Addr) (l : List Cell) (w : World) (h : RowV B w a l) :
    Calls Try.prog 44 #[.pointer a] w fun e w' => (∃ v, e = .returned v ∧ ShowsC w' v l) ∧ Below w.heap.size w w' := by
  rcases h with ⟨rfl, rfl⟩ | ⟨T, rfl, h⟩
  · refine (cells_nil w).mono ?_
    rintro e w' ⟨rfl, rfl⟩
    exact ⟨⟨_, rfl, none, 0, rfl, Nat.le_refl _, Shows.nil _ _⟩, Below.refl _ _⟩
  · refine (cells_calls T l w h).mono ?_
    rintro e w' ⟨⟨v, rfl, ho⟩, hb⟩
    exact ⟨⟨v, rfl, ho.shows⟩, hb⟩
theorem nth_norm (L : List Cell) (p : Nat) : nth (L.map normC) p = normC (nth L p) := by
  by_cases h : p < L.length
  · rw [nth_eq _ _ (by simpa using h), nth_eq _ _ h]; simp
  · have e1 : nth L p = (0, false) := by unfold nth; rw [List.getD_eq_getElem?_getD, List.getElem?_eq_none (by omega)]; rfl
    have e2 : nth (L.map normC) p = (0, false) := by unfold nth; rw [List.getD_eq_getElem?_getD, List.getElem?_eq_none (by simp; omega)]; rfl
    rw [e1, e2]; rfl
theorem norm_twice (L : List Cell) : (L.map normC).map normC = L.map normC := by
  rw [List.map_map]
  exact List.map_congr_left fun x _ => normC_norm x
/-- The error of a gathering. -/
def gcode (xs ys : List Int) (off : Int) (n : Nat) (most : Int) : Int := if fitsB xs ys off n = true then (if min (max most 0) 1048576 < (cellsN xs ys off : Int) then 7 else 0) else 2
def gres (xs ys : List Int) (off : Int) (n : Nat) (most : Int) (L : List Cell) : List Cell := if gcode xs ys off n most = 0 then L else []
theorem gather_any (xs ys : List Int) (off : Int) (A B : Option Addr) (ca cb n m : Nat) (T : Nat) (l : List Cell) (bl : Nat) (most : Int) (w : World) (hx : ReadsI w .i64 A xs) (hy : ReadsI w .i64 B ys) (hn : xs.length = n) (hm : ys.length = m) (hl : n ≤ 1000000) (hl2 : m ≤ 1000000) (hT : Buf bl w T l) :
    Calls Try.prog 38 #[.pointer (some ⟨T, 0, none⟩), .agg #[.slice A n ca, .slice B m cb, .int .i64 off], .int .i64 most] w fun e w' => (∃ a, e = .returned (.tuple #[.pointer a, .int .i64 (gcode xs ys off l.length most)]) ∧ RowV w.heap.size w' a (gres xs ys off l.length most (gathL xs ys off l))) ∧ Below w.heap.size w w' := by
  unfold gres gcode
  cases hf : fitsB xs ys off l.length with
  | false =>
    rw [if_neg (by simp)]
    refine (gather_out xs ys off A B ca cb n m T l bl most w hx hy hn hm hl hl2 hT hf).mono ?_
    rintro e w' ⟨rfl, h⟩
    exact ⟨⟨none, rfl, .inl ⟨rfl, if_neg (by decide)⟩⟩, h⟩
  | true =>
    rw [if_pos rfl]
    by_cases hlim : min (max most 0) 1048576 < (cellsN xs ys off : Int)
    · rw [if_pos hlim]
      refine (gather_limit xs ys off A B ca cb n m T l bl most w hx hy hn hm hl hl2 hT hf hlim).mono ?_
      rintro e w' ⟨rfl, h⟩
      exact ⟨⟨none, rfl, .inl ⟨rfl, if_neg (by decide)⟩⟩, h⟩
    · rw [if_neg hlim]
      refine (gather_yes xs ys off A B ca cb n m T l bl most w hx hy hn hm hl hl2 hT hf (by omega)).mono ?_
      rintro e w' ⟨U, rfl, hU, h⟩
      exact ⟨⟨some ⟨U, 0, none⟩, rfl, .inr ⟨U, rfl, by rw [if_pos rfl]; exact hU⟩⟩, h⟩
theorem rgather_any (xs ys : List Int) (off : Int) (A B : Option Addr) (ca cb n m : Nat) (L : List Cell) (C : Option Addr) (cc : Nat) (most : Int) (w : World) (hx : ReadsI w .i64 A xs) (hy : ReadsI w .i64 B ys) (hs : Shows w C (L.flatMap ce)) (hn : xs.length = n) (hm : ys.length = m) (hl : n ≤ 1000000) (hl2 : m ≤ 1000000) :
    Calls Try.prog 39 #[.slice C L.length cc, .agg #[.slice A n ca, .slice B m cb, .int .i64 off], .int .i64 most] w fun e w' => (∃ v, e = .returned (.tuple #[v, .int .i64 (gcode xs ys off L.length most)]) ∧ ShowsC w' v (gres xs ys off L.length most (gathL xs ys off L))) ∧ Below w.heap.size w w' := by
  unfold gres gcode
  cases hf : fitsB xs ys off L.length with
  | false =>
    rw [if_neg (by simp)]
    refine (rgather_out xs ys off A B ca cb n m L C cc most w hx hy hn hm hl hl2 hf).mono ?_
    rintro e w' ⟨rfl, h⟩
    exact ⟨⟨_, rfl, by rw [if_neg (by decide)]; exact ⟨none, 0, rfl, Nat.le_refl _, Shows.nil _ _⟩⟩, h⟩
  | true =>
    rw [if_pos rfl]
    by_cases hlim : min (max most 0) 1048576 < (cellsN xs ys off : Int)
    · rw [if_pos hlim]
      refine (rgather_limit xs ys off A B ca cb n m L C cc most w hx hy hn hm hl hl2 hf hlim).mono ?_
      rintro e w' ⟨rfl, h⟩
      exact ⟨⟨_, rfl, by rw [if_neg (by decide)]; exact ⟨none, 0, rfl, Nat.le_refl _, Shows.nil _ _⟩⟩, h⟩
    · rw [if_neg hlim]
      refine (rgather_yes xs ys off A B ca cb n m L C cc most w hx hy hs hn hm hl hl2 hf (by omega)).mono ?_
      rintro e w' ⟨⟨v, rfl, ho⟩, h⟩
      exact ⟨⟨v, rfl, by rw [if_pos rfl]; exact ho.shows⟩, h⟩
theorem gath_alike (xs ys : List Int) (off : Int) (n : Nat) (most : Int) (L : List Cell) : (gres xs ys off n most (gathL xs ys off (L.map normC))).map normC = (gres xs ys off n most (gathL xs ys off L)).map normC := by
  unfold gres
  split
  · unfold gathL
    rw [List.map_map, List.map_map]
    refine List.map_congr_left fun k _ => ?_
    simp only [Function.comp]
    rw [nth_norm, normC_norm]
  · rfl
/-- The error of a picking. -/
def pcode (ps : List Int) (n : Nat) (most : Int) : Int := if pickB ps n = true then 2 else (if min (max most 0) 1048576 < (ps.length : Int) then 7 else 0)
def pres (ps : List Int) (n : Nat) (most : Int) (L : List Cell) : List Cell := if pcode ps n most = 0 then L else []
theorem pick_any (ps : List Int) (C : Option Addr) (cc : Nat) (T : Nat) (l : List Cell) (bl : Nat) (most : Int) (w : World) (hp : ReadsI w .i64 C ps) (hl : ps.length ≤ 1000000) (hT : Buf bl w T l) :
    Calls Try.prog 40 #[.pointer (some ⟨T, 0, none⟩), .slice C ps.length cc, .int .i64 most] w fun e w' => (∃ a, e = .returned (.tuple #[.pointer a, .int .i64 (pcode ps l.length most)]) ∧ RowV w.heap.size w' a (pres ps l.length most ((pickL ps l).map normC))) ∧ Below w.heap.size w w' := by
  unfold pres pcode
  cases hf : pickB ps l.length with
  | true =>
    rw [if_pos rfl]
    refine (mpick_out ps C cc T l bl most w hp hl hT hf).mono ?_
    rintro e w' ⟨rfl, h⟩
    exact ⟨⟨none, rfl, .inl ⟨rfl, if_neg (by decide)⟩⟩, h⟩
  | false =>
    rw [if_neg (by simp)]
    by_cases hlim : min (max most 0) 1048576 < (ps.length : Int)
    · rw [if_pos hlim]
      refine (mpick_limit ps C cc T l bl most w hp hl hT hf hlim).mono ?_
      rintro e w' ⟨rfl, h⟩
      exact ⟨⟨none, rfl, .inl ⟨rfl, if_neg (by decide)⟩⟩, h⟩
    · rw [if_neg hlim]
      refine (mpick_yes ps C cc T l bl most w hp hl hT hf (by omega)).mono ?_
      rintro e w' ⟨U, rfl, hU, h⟩
      exact ⟨⟨some ⟨U, 0, none⟩, rfl, .inr ⟨U, rfl, by rw [if_pos rfl]; exact hU⟩⟩, h⟩
theorem rpick_any (ps : List Int) (C : Option Addr) (cc : Nat) (L : List Cell) (D : Option Addr) (cd : Nat) (most : Int) (w : World) (hp : ReadsI w .i64 C ps) (hs : Shows w D (L.flatMap ce)) (hl : ps.length ≤ 1000000) :
    Calls Try.prog 41 #[.slice D L.length cd, .slice C ps.length cc, .int .i64 most] w fun e w' => (∃ v, e = .returned (.tuple #[v, .int .i64 (pcode ps L.length most)]) ∧ ShowsC w' v (pres ps L.length most (pickL ps L))) ∧ Below w.heap.size w w' := by
  unfold pres pcode
  cases hf : pickB ps L.length with
  | true =>
    rw [if_pos rfl]
    refine (rpick_out ps C cc L D cd most w hp hl hf).mono ?_
    rintro e w' ⟨rfl, h⟩
    exact ⟨⟨_, rfl, by rw [if_neg (by decide)]; exact ⟨none, 0, rfl, Nat.le_refl _, Shows.nil _ _⟩⟩, h⟩
  | false =>
    rw [if_neg (by simp)]
    by_cases hlim : min (max most 0) 1048576 < (ps.length : Int)
    · rw [if_pos hlim]
      refine (rpick_limit ps C cc L D cd most w hp hl hf hlim).mono ?_
      rintro e w' ⟨rfl, h⟩
      exact ⟨⟨_, rfl, by rw [if_neg (by decide)]; exact ⟨none, 0, rfl, Nat.le_refl _, Shows.nil _ _⟩⟩, h⟩
    · rw [if_neg hlim]
      refine (rpick_yes ps C cc L D cd most w hp hs hl hf (by omega)).mono ?_
      rintro e w' ⟨⟨v, rfl, ho⟩, h⟩
      exact ⟨⟨v, rfl, by rw [if_pos rfl]; exact ho.shows⟩, h⟩
theorem pick_alike (ps : List Int) (n : Nat) (most : Int) (L : List Cell) : (pres ps n most ((pickL ps (L.map normC)).map normC)).map normC = (pres ps n most (pickL ps L)).map normC := by
  unfold pres
  split
  · rw [norm_twice]
    unfold pickL
    rw [List.map_map, List.map_map]
    refine List.map_congr_left fun p _ => ?_
    simp only [Function.comp]
    split
    · rfl
    · rw [nth_norm, normC_norm]
  · rfl
end Go.Proofs.Ythjkeefdeeljoaa.Shp
