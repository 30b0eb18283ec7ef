/- Contracts and lemmas that the row of this claim stands on: Scat1, Pick. -/
import Derived.Test.YthjkeefdeeljoaaPk43
/- What is scattered; move.Scatter's closure. -/
namespace Go.Proofs.Ythjkeefdeeljoaa.Shp
open Go.RowKit Go.Shelf Go.Proofs.Ythjkeefdeeljoaa.Num Go.Proofs.Ythjkeefdeeljoaa.Cl
set_option linter.unusedVariables false
set_option linter.unusedSimpArgs false

theorem buf_hi {B hi : Nat} {W W' : World} {T : Nat} {l : List Cell} (h : Buf B W T l) (hB : hi ≤ B) (hH : Hi hi W W') : Buf B W' T l := by
  obtain ⟨g, c, vs, M, mg, mc, mcs, V, h, h1, h2, h3, h4⟩ := h
  exact ⟨g, c, vs, M, mg, mc, mcs, V, ⟨hH.blk h.box (by omega), hH.blk h.row (by omega), h.cell, ⟨h.mask.rep, hH.blk h.mask.hT (by omega), hH.blk h.mask.hg (by omega), h.mask.hc, h.mask.small⟩, h.norm, h.small, h.cap⟩, h1, h2, h3, h4⟩
theorem bufR_hi {B B2 hi : Nat} {W W' : World} {T : Nat} {l : List Cell} (h : BufR B B2 W T l) (hB : hi ≤ B) (hH : Hi hi W W') : BufR B B2 W' T l := by
  obtain ⟨g, c, vs, M, mg, mc, mcs, V, h, ⟨h1, h2, h3, h4⟩, h5⟩ := h
  exact ⟨g, c, vs, M, mg, mc, mcs, V, ⟨hH.blk h.box (by omega), hH.blk h.row (by omega), h.cell, ⟨h.mask.rep, hH.blk h.mask.hT (by omega), hH.blk h.mask.hg (by omega), h.mask.hc, h.mask.small⟩, h.norm, h.small, h.cap⟩, ⟨h1, h2, h3, h4⟩, h5⟩
theorem Hi.up {B B' : Nat} {W W' : World} (h : Hi B W W') (hB : B ≤ B') : Hi B' W W' := ⟨h.os, h.tape, h.output, h.size, fun k h1 h2 => h.high k (by omega) h2⟩
theorem BufR.normed {lo hi : Nat} {W : World} {T : Nat} {l : List Cell} (h : BufR lo hi W T l) (i : Nat) (hi' : i < l.length) : normC (nth l i) = nth l i := by
  obtain ⟨g, c, vs, M, mg, mc, mcs, V, h, _⟩ := h
  exact h.norm i hi'
/-- What stands after k stores. -/
def scatL (xs ys : List Int) (off : Int) (l o : List Cell) (k : Nat) : List Cell := (List.range k).foldl (fun l i => l.set (plO xs ys off i).toNat (nth o i)) l
theorem scatL_zero (xs ys : List Int) (off : Int) (l o : List Cell) : scatL xs ys off l o 0 = l := rfl
theorem scatL_succ (xs ys : List Int) (off : Int) (l o : List Cell) (k : Nat) : scatL xs ys off l o (k + 1) = (scatL xs ys off l o k).set (plO xs ys off k).toNat (nth o k) := by
  unfold scatL
  rw [List.range_succ, List.foldl_append]
  rfl
theorem scatL_length (xs ys : List Int) (off : Int) (l o : List Cell) (k : Nat) : (scatL xs ys off l o k).length = l.length := by
  induction k with
  | zero => rfl
  | succ k ih => rw [scatL_succ, List.length_set, ih]
theorem copyC_zero (l o : List Cell) (p f : Nat) : copyC l o p f 0 = l := by simp [copyC]
theorem copyC_succ (l o : List Cell) (p f k : Nat) (hp : p + k < l.length) (hf : f + k < o.length) : copyC l o p f (k + 1) = (copyC l o p f k).set (p + k) (nth o (f + k)) := by
  have e1 := copyC_length l o p f (k + 1) (by omega) (by omega)
  have e2 := copyC_length l o p f k (by omega) (by omega)
  apply List.ext_getElem (by rw [List.length_set, e1, e2])
  intro i h1 h2
  have hi : i < l.length := by omega
  rw [← nth_eq _ i h1, ← nth_eq _ i h2, nth_setC _ _ _ _ (by omega), copyC_nth l o p f (k + 1) i (by omega) (by omega) hi, copyC_nth l o p f k i (by omega) (by omega) hi]
  by_cases c1 : i = p + k
  · subst c1
    rw [if_pos (by omega), if_pos rfl]
    congr 1
    omega
  · rw [if_neg c1]
    by_cases c2 : p ≤ i ∧ i < p + k
    · rw [if_pos (by omega), if_pos c2]
    · rw [if_neg (by omega), if_neg c2]
theorem scat_den {xs ys : List Int} {off : Int} (hv : vrB xs ys off = true) (hd : denB xs ys off = true) (l o : List Cell) (f : Nat) (hf : off = f) (k : Nat) (hk : k ≤ cellsN xs ys off) (ho : k ≤ o.length) (hl : f + k ≤ l.length) : scatL xs ys off l o k = copyC l o f 0 k := by
  induction k with
  | zero => rw [scatL_zero, copyC_zero]
  | succ k ih =>
    rw [scatL_succ, ih (by omega) (by omega) (by omega), copyC_succ _ _ _ _ _ (by omega) (by omega), den_pl hv hd k (by omega), hf]
    congr 1
    simp
set_option maxHeartbeats 1000000 in
theorem scat1_calls {bl bt hi ht : Nat} (T U H1 H2 : Nat) (l o : List Cell) (k p : Nat) (W : World) (hT : BufR bt ht W T o) (hU : BufR bl hi W U l) (h1 : Blk W H1 57 #[.pointer (some ⟨T, 0, none⟩)]) (h2 : Blk W H2 57 #[.pointer (some ⟨U, 0, none⟩)]) (hk : k < o.length) (hp : p < l.length) (hlo : bl ≤ W.heap.size) (hh : hi ≤ W.heap.size) :
    Calls Try.prog 94 #[.int .i64 (k : Nat), .int .i64 (p : Nat), .pointer (some ⟨H1, 0, none⟩), .pointer (some ⟨H2, 0, none⟩)] W fun e W' => e = .returned (.tuple #[]) ∧ BufR bl hi W' U (l.set p (nth o k)) ∧ Hi hi W W' ∧ Below bl W W' := by
  have c0 : W.cell? ⟨H1, 0, none⟩ = some (.pointer (some ⟨T, 0, none⟩)) := h1.cell 0
  have HG := Lib.hid (buf_get hT.buf k hk)
  have hnx := hT.normed k hk
  obtain ⟨x, hx⟩ : ∃ x, nth o k = x := ⟨_, rfl⟩
  rw [hx] at HG hnx ⊢
  have HNX := Lib.hid hnx
  have HU := Lib.hid hU
  have HH2 := Lib.hid h2
  clear hT hU h1 h2 hx hnx
  go_enter Try.func94, Try.ntmps94
  go_wp2_with fail
  refine HG.out.mono ?_
  rintro e w1 ⟨rfl, hB1⟩
  have hb2 := bl_alloc hB1 (.cells #[.int .i64 x.1, .bool x.2] 78)
  have k0 : (w1.alloc (.cells #[.int .i64 x.1, .bool x.2] 78)).cell? ⟨H2, 0, none⟩ = some (.pointer (some ⟨U, 0, none⟩)) := (HH2.out.below' hb2).cell 0
  have hP := bufR_put (HU.out.low (fun b hb => hb2.block b (by omega))) (Nat.le_trans hlo hb2.size) p hp x
  rw [HNX.out] at hP
  have HP := Lib.hid hP
  have HB2 := Lib.hid hb2
  clear hB1 hb2 c0 hP
  go_wp2_with fail
  refine HP.out.mono ?_
  rintro e w2 ⟨rfl, hU2, hHi, hB2, hK2⟩
  have HU2 := Lib.hid hU2
  have HHI := Lib.hid hHi
  have HB3 := Lib.hid hB2
  clear hU2 hHi hB2 k0 hK2
  go_wp2_with fail
  go_end0
  exact ⟨rfl, HU2.out, (Hi.of_below HB2.out).trans HHI.out, (HB2.out.mono hlo).trans HB3.out⟩
end Go.Proofs.Ythjkeefdeeljoaa.Shp
/- move.Pick. -/
namespace Go.Proofs.Ythjkeefdeeljoaa.Shp
open Go.RowKit Go.Shelf Go.Proofs.Ythjkeefdeeljoaa.Num Go.Proofs.Ythjkeefdeeljoaa.Cl
set_option linter.unusedVariables false
set_option linter.unusedSimpArgs false

theorem indexP_calls (xs : List Int) (pr : Int → Bool) (A : Option Addr) (ca : Nat) (gf : FuncId) (lb : Array Value) (w : World) (hx : ReadsI w .i64 A xs) (hl : xs.length ≤ 9223372036854775807) (hg : Fun Try.prog gf)
    (hc : ∀ x, Calls Try.prog gf (#[.int .i64 x] ++ lb) w fun e w' => e = .returned (.bool (pr x)) ∧ w = w') :
    Calls Try.prog 123 #[.slice A xs.length ca, .func (.func gf) #[] lb] w fun e w' => (∃ k : Int, e = .returned (.int .i64 k) ∧ decide (0 ≤ k) = xs.any pr) ∧ w = w' := by
  have HX := Lib.hid hx
  have HC := Lib.hid hc
  have hfun := hg
  unfold Fun at hfun
  clear hx hc
  go_enter Try.func123, Try.ntmps123
  go_wp2_with fail
  go_loop [5, 8] (fun _ i => ∃ k : Nat, i = .int .i64 k ∧ k ≤ xs.length ∧ Hid ((xs.take k).any pr = false)) (fun _ i => xs.length - (intOf i).toNat)
  case atStart => exact ⟨0, rfl, Nat.zero_le _, Lib.hid (by simp)⟩
  case round =>
    obtain ⟨k, rfl, hk, HA⟩ := hrel
    by_cases hlt : k < xs.length
    · obtain ⟨b, off, rfl, hcc⟩ := HX.out k hlt
      have HT := Lib.hid (take_nth xs k hlt)
      have HM := Lib.hid (nth_mem xs k hlt)
      generalize nth xs k = x at *
      have HB' := Lib.hid (HC.out x)
      clear HC
      go_wp2_with fail
      refine HB'.out.mono ?_
      rintro e w' ⟨rfl, rfl⟩
      cases hb : pr x with
      | true =>
        have HBX := Lib.hid hb
        clear hb
        go_wp2_with fail
        go_ret
        refine ⟨⟨k, rfl, ?_⟩, rfl⟩
        have h1 : xs.any pr = true := List.any_eq_true.2 ⟨x, HM.out, HBX.out⟩
        rw [h1]; simp
      | false =>
        have HBX := Lib.hid hb
        clear hb
        go_wp2_with fail
        go_round
        case measure => first | (simp [intOf]; done) | (simp [intOf]; omega)
        case rel => exact ⟨k + 1, by go_num, by omega, Lib.hid (by rw [HT.out, List.any_append, HA.out]; simp [HBX.out])⟩
    · go_wp2_with fail
      go_ret
      have := HA.out
      rw [List.take_of_length_le (by omega)] at this
      exact ⟨⟨-1, rfl, by rw [this]; rfl⟩, rfl⟩
theorem containsP_calls (xs : List Int) (pr : Int → Bool) (A : Option Addr) (ca : Nat) (gf : FuncId) (lb : Array Value) (w : World) (hx : ReadsI w .i64 A xs) (hl : xs.length ≤ 9223372036854775807) (hg : Fun Try.prog gf)
    (hc : ∀ x, Calls Try.prog gf (#[.int .i64 x] ++ lb) w fun e w' => e = .returned (.bool (pr x)) ∧ w = w') :
    Calls Try.prog 90 #[.slice A xs.length ca, .func (.func gf) #[] lb] w fun e w' => e = .returned (.bool (xs.any pr)) ∧ w = w' := by
  have HI := Lib.hid (indexP_calls xs pr A ca gf lb w hx hl hg hc)
  clear hx hc
  go_enter Try.func90, Try.ntmps90
  go_wp2_with fail
  refine HI.out.mono ?_
  rintro e w' ⟨⟨k, rfl, hk⟩, rfl⟩
  have HK := Lib.hid hk
  clear hk
  go_wp2_with fail
  go_ret
  exact ⟨ret_bool HK.out, rfl⟩
theorem pick1_calls {bl : Nat} (T H : Nat) (l : List Cell) (x : Int) (w : World) (hT : Buf bl w T l) (hb : Blk w H 57 #[.pointer (some ⟨T, 0, none⟩)]) : Calls Try.prog 91 #[.int .i64 x, .pointer (some ⟨H, 0, none⟩)] w fun e w' => e = .returned (.bool (decide ((l.length : Int) ≤ x))) ∧ w = w' := by
  have HL := Lib.hid (buf_len hT)
  have c0 : w.cell? ⟨H, 0, none⟩ = some (.pointer (some ⟨T, 0, none⟩)) := hb.cell 0
  clear hT hb
  go_enter Try.func91, Try.ntmps91
  go_wp2_with fail
  refine HL.out.mono ?_
  rintro e w' ⟨rfl, rfl⟩
  go_wp2_with fail
  go_ret
  exact ⟨rfl, rfl⟩
/-- The cells at some places. -/
def pickL (ps : List Int) (l : List Cell) : List Cell := ps.map fun p => if p < 0 then (0, false) else nth l p.toNat
theorem pickL_length (ps : List Int) (l : List Cell) : (pickL ps l).length = ps.length := by simp [pickL]
theorem pickL_nth (ps : List Int) (l : List Cell) (k : Nat) (h : k < ps.length) : nth (pickL ps l) k = if nth ps k < 0 then (0, false) else nth l (nth ps k).toNat := by
  rw [nth_eq _ _ (by rw [pickL_length]; exact h), nth_eq _ _ h]
  simp [pickL]
def pickB (ps : List Int) (n : Nat) : Bool := ps.any fun x => decide ((n : Int) ≤ x)
theorem pickB_no {ps : List Int} {n : Nat} (h : pickB ps n = false) (k : Nat) (hk : k < ps.length) : nth ps k < n := by
  unfold pickB at h
  rw [List.any_eq_false] at h
  have := h _ (nth_mem ps k hk)
  simp at this
  omega
set_option maxRecDepth 100000 in
set_option maxHeartbeats 1000000 in
theorem mpick_out (ps : List Int) (C : Option Addr) (cc : Nat) (T : Nat) (l : List Cell) (bl : Nat) (most : Int) (w : World) (hp : ReadsI w .i64 C ps) (hl : ps.length ≤ 1000000) (hT : Buf bl w T l) (hb : pickB ps l.length = true) :
    Calls Try.prog 40 #[.pointer (some ⟨T, 0, none⟩), .slice C ps.length cc, .int .i64 most] w fun e w' => e = .returned (.tuple #[.pointer none, .int .i64 2]) ∧ Below w.heap.size w w' := by
  have hb0 : Below w.heap.size w (w.alloc (.cells #[.pointer (some ⟨T, 0, none⟩)] 57)) := bl_alloc (Below.refl _ _) _
  have hbk : Blk (w.alloc (.cells #[.pointer (some ⟨T, 0, none⟩)] 57)) w.heap.size 57 #[.pointer (some ⟨T, 0, none⟩)] := Blk.new _ _ _
  have hC := containsP_calls ps (fun x => decide ((l.length : Int) ≤ x)) C cc 91 #[.pointer (some ⟨w.heap.size, 0, none⟩)] _ (hp.below hb0) (by omega) (fun _ _ => rfl) (fun x => pick1_calls T w.heap.size l x _ (hT.below hb0) hbk)
  have e : (ps.any fun x => decide ((l.length : Int) ≤ x)) = true := hb
  rw [e] at hC
  have HC := Lib.hid hC
  have HB0 := Lib.hid hb0
  clear hp hT hb0 hbk hC e hb
  go_enter Try.func40, Try.ntmps40
  go_wp2_with fail
  refine HC.out.mono ?_
  rintro e w1 ⟨rfl, rfl⟩
  go_wp2_with fail
  go_ret2
  exact ⟨rfl, HB0.out⟩
set_option maxRecDepth 100000 in
set_option maxHeartbeats 1000000 in
theorem mpick_limit (ps : List Int) (C : Option Addr) (cc : Nat) (T : Nat) (l : List Cell) (bl : Nat) (most : Int) (w : World) (hp : ReadsI w .i64 C ps) (hl : ps.length ≤ 1000000) (hT : Buf bl w T l) (hb : pickB ps l.length = false) (hmo : min (max most 0) 1048576 < (ps.length : Int)) :
    Calls Try.prog 40 #[.pointer (some ⟨T, 0, none⟩), .slice C ps.length cc, .int .i64 most] w fun e w' => e = .returned (.tuple #[.pointer none, .int .i64 7]) ∧ Below w.heap.size w w' := by
  have hb0 : Below w.heap.size w (w.alloc (.cells #[.pointer (some ⟨T, 0, none⟩)] 57)) := bl_alloc (Below.refl _ _) _
  have hbk : Blk (w.alloc (.cells #[.pointer (some ⟨T, 0, none⟩)] 57)) w.heap.size 57 #[.pointer (some ⟨T, 0, none⟩)] := Blk.new _ _ _
  have hC := containsP_calls ps (fun x => decide ((l.length : Int) ≤ x)) C cc 91 #[.pointer (some ⟨w.heap.size, 0, none⟩)] _ (hp.below hb0) (by omega) (fun _ _ => rfl) (fun x => pick1_calls T w.heap.size l x _ (hT.below hb0) hbk)
  have e : (ps.any fun x => decide ((l.length : Int) ≤ x)) = false := hb
  rw [e] at hC
  have HC := Lib.hid hC
  have HB0 := Lib.hid hb0
  have HRM := Lib.hid (fun W => mroom_no ps.length most W hmo)
  clear hp hT hb0 hbk hC e hb hmo
  go_enter Try.func40, Try.ntmps40
  go_wp2_with fail
  refine HC.out.mono ?_
  rintro e w1 ⟨rfl, rfl⟩
  go_wp2_with fail
  refine (HRM.out _).mono ?_
  rintro e w1 ⟨rfl, rfl⟩
  go_wp2_with fail
  go_ret2
  exact ⟨rfl, HB0.out⟩
set_option maxRecDepth 100000 in
set_option maxHeartbeats 1000000 in
theorem mpick_yes (ps : List Int) (C : Option Addr) (cc : Nat) (T : Nat) (l : List Cell) (bl : Nat) (most : Int) (w : World) (hp : ReadsI w .i64 C ps) (hl : ps.length ≤ 1000000) (hT : Buf bl w T l) (hb : pickB ps l.length = false) (hmo : (ps.length : Int) ≤ min (max most 0) 1048576) :
    Calls Try.prog 40 #[.pointer (some ⟨T, 0, none⟩), .slice C ps.length cc, .int .i64 most] w fun e w' => ∃ U, e = .returned (.tuple #[.pointer (some ⟨U, 0, none⟩), .int .i64 0]) ∧ Buf w.heap.size w' U ((pickL ps l).map normC) ∧ Below w.heap.size w w' := by
  have hb0 : Below w.heap.size w (w.alloc (.cells #[.pointer (some ⟨T, 0, none⟩)] 57)) := bl_alloc (Below.refl _ _) _
  have hbk : Blk (w.alloc (.cells #[.pointer (some ⟨T, 0, none⟩)] 57)) w.heap.size 57 #[.pointer (some ⟨T, 0, none⟩)] := Blk.new _ _ _
  have hC := containsP_calls ps (fun x => decide ((l.length : Int) ≤ x)) C cc 91 #[.pointer (some ⟨w.heap.size, 0, none⟩)] _ (hp.below hb0) (by omega) (fun _ _ => rfl) (fun x => pick1_calls T w.heap.size l x _ (hT.below hb0) hbk)
  have e : (ps.any fun x => decide ((l.length : Int) ≤ x)) = false := hb
  rw [e] at hC
  have HC := Lib.hid hC
  have HB0 := Lib.hid hb0
  have HRM := Lib.hid (fun W => mroom_yes ps.length most W hmo)
  have HNO := Lib.hid (fun k hk => pickB_no hb k hk)
  have HBK := Lib.hid hbk
  have HP := Lib.hid hp
  have HT := Lib.hid hT
  have HPN := Lib.hid (fun k hk => pickL_nth ps l k hk)
  obtain ⟨PL, hPL⟩ : ∃ PL, PL = pickL ps l := ⟨_, rfl⟩
  have hPLl : PL.length = ps.length := by rw [hPL, pickL_length]
  rw [← hPL] at HPN
  have HPL := Lib.hid hPL
  have HPLL := Lib.hid hPLl
  clear hp hT hb0 hbk hC e hb hmo hPL hPLl
  go_enter Try.func40, Try.ntmps40
  go_wp2_with fail
  refine HC.out.mono ?_
  rintro e w1 ⟨rfl, rfl⟩
  go_wp2_with fail
  refine (HRM.out _).mono ?_
  rintro e w2 ⟨U, rfl, hU, hB2⟩
  have hU0 : Buf (w.heap.size + 1) w2 U (laidC PL 0) := by
    have e : laidC PL 0 = List.replicate ps.length (0, false) := by simp [laidC, HPLL.out]
    rw [e]
    exact hU.wide (by simp)
  have HU := Lib.hid hU0
  have hB2' : Below (w.heap.size + 1) w w2 ∨ True := .inr trivial
  have HB2 := Lib.hid (bl_then HB0.out hB2)
  have HBK2 := Lib.hid (HBK.out.below' hB2)
  have HSZ : Hid (w.heap.size + 1 ≤ w2.heap.size) := Lib.hid (by have := hB2.size; simp at this; omega)
  clear hU hB2 hU0 hB2'
  go_wp2_with fail
  go_loopw [10, 11, 12, 13, 29] (fun _ _ _ _ t29 wr => ∃ k : Nat, t29 = .int .i64 k ∧ k ≤ ps.length ∧ Hid (Buf (w.heap.size + 1) wr U (laidC PL k)) ∧ Hid (Below (w.heap.size + 1) w2 wr)) (fun _ _ _ _ i _ => ps.length - (intOf i).toNat)
  case atStart => exact ⟨0, rfl, Nat.zero_le _, HU, Lib.hid (Below.refl _ _)⟩
  case round =>
    obtain ⟨k, rfl, hk, HUR, HBR⟩ := hrel
    have hbw : Below w.heap.size w wr := HB2.out.trans (HBR.out.mono (by omega))
    have HBW := Lib.hid hbw
    have hsz : w.heap.size + 1 ≤ wr.heap.size := Nat.le_trans HSZ.out HBR.out.size
    have k0 : wr.cell? ⟨w.heap.size, 0, none⟩ = some (.pointer (some ⟨T, 0, none⟩)) := (HBK2.out.below HBR.out (by omega)).cell 0
    by_cases hlt : k < ps.length
    · have hkN : (k : Int) < (ps.length : Int) := by omega
      obtain ⟨bC, oC, eC, cC⟩ := (HP.out.below hbw) k hlt
      subst eC
      have hno := HNO.out k hlt
      have hpn := HPN.out k hlt
      have hset := laidC_set PL k (by rw [HPLL.out]; exact hlt)
      have hlen := laidC_length PL k (by rw [HPLL.out]; omega)
      obtain ⟨p, hp⟩ : ∃ p, nth ps k = p := ⟨_, rfl⟩
      rw [hp] at cC hno hpn
      obtain ⟨gT, cT, vT, MT, mgT, mcT, mcsT, WT, hbT, _⟩ := HT.out.below hbw
      obtain ⟨x, hx, hG⟩ : ∃ x : Cell, nth PL k = x ∧ ∃ ok : Bool, Calls Try.prog 78 #[.pointer (some ⟨T, 0, none⟩), .int .i64 p] wr fun e w' => e = .returned (.tuple #[.agg #[.int .i64 x.1, .bool x.2], .bool ok]) ∧ Below wr.heap.size wr w' := by
        by_cases hneg : p < 0
        · exact ⟨(0, false), by rw [hpn, if_pos hneg], false, bget_no T gT cT vT MT mgT mcT mcsT WT l p wr hbT (by omega)⟩
        · obtain ⟨q, rfl⟩ := Int.eq_ofNat_of_zero_le (show 0 ≤ p by omega)
          exact ⟨nth l q, by rw [hpn, if_neg hneg, Int.toNat_natCast], true, bget_yes T gT cT vT MT mgT mcT mcsT WT l q wr hbT (by omega)⟩
      obtain ⟨ok, hG⟩ := hG
      rw [hx] at hset
      have HG := Lib.hid hG
      have HST := Lib.hid hset
      have HLE := Lib.hid hlen
      clear hbT hG hset hlen hpn hno hx hp hbw
      go_wp2_with fail
      refine HG.out.mono ?_
      rintro e w3 ⟨rfl, hB3⟩
      have hb3 := bl_alloc hB3 (.cells #[.int .i64 x.1, .bool x.2] 78)
      have HPT := Lib.hid (buf_put (HUR.out.below hb3) (Nat.le_trans hsz hb3.size) k (by rw [HLE.out, HPLL.out]; exact hlt) x)
      have HB3 := Lib.hid (HBR.out.trans (hb3.mono hsz))
      clear hB3 hb3 k0
      go_wp2_with fail
      refine HPT.out.mono ?_
      rintro e w4 ⟨rfl, hU4, hB4⟩
      have HU4 := Lib.hid hU4
      have HB4 := Lib.hid (HB3.out.trans hB4)
      clear hU4 hB4
      go_wp2_with fail
      go_roundw
      case measure => first | (simp [intOf]; done) | (simp [intOf]; omega)
      case rel => exact ⟨k + 1, by go_num, by omega, Lib.hid (by rw [← HST.out]; exact HU4.out), HB4⟩
    · obtain rfl : k = ps.length := by omega
      go_wp2_with fail
      go_ret2
      have h := HUR.out
      rw [← HPLL.out, laidC_all, HPL.out] at h
      exact ⟨U, rfl, h.wide (by omega), HBW.out⟩
end Go.Proofs.Ythjkeefdeeljoaa.Shp
