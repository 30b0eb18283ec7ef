/- Contracts and lemmas that the row of this claim stands on: StridesPure, Place, Back2, RSize. -/
import Derived.Test.YthjkeefdeeljoaaPk16
import Derived.Test.YthjkeefdeeljoaaPk10
/- What Strides tells, without the loop: each axis counts for the product of those behind it. -/
namespace Go.Proofs.Ythjkeefdeeljoaa.Shp
open Go.RowKit Go.Proofs.Ythjkeefdeeljoaa.Num
set_option linter.unusedVariables false
set_option linter.unusedSimpArgs false

/-- The product of the k last axes, each at least 1. -/
def tl (xs : List Int) : Nat → Nat
  | 0 => 1
  | k + 1 => if k < xs.length then tl xs k * mx xs (xs.length - 1 - k) else tl xs k
/-- By how much the i-th axis counts. -/
def sp (xs : List Int) (i : Nat) : Nat := tl xs (xs.length - 1 - i)
theorem tl_step (xs : List Int) (k : Nat) (h : k < xs.length) : tl xs (k + 1) = tl xs k * mx xs (xs.length - 1 - k) := by
  conv => lhs; unfold tl
  rw [if_pos h]
theorem foldS_downs (xs : List Int) : ∀ k, k < xs.length → (foldS xs (downs xs.length (k + 1))).1 = tl xs k ∧ ∀ j, xs.length - (k + 1) ≤ j → j < xs.length → nth (foldS xs (downs xs.length (k + 1))).2 j = sp xs j := by
  intro k
  induction k with
  | zero =>
    intro h
    have e : downs xs.length 1 = downs xs.length 0 ++ [⟨xs.length - 1 - 0, by omega⟩] := by conv => lhs; unfold downs; rw [dif_pos h]
    rw [e, foldS_snoc]
    have hn : nxt xs (foldS xs (downs xs.length 0)).1 (xs.length - 1 - 0) = 1 := by
      unfold nxt; rw [if_neg (by omega)]; rfl
    refine ⟨hn, fun j h1 h2 => ?_⟩
    obtain rfl : j = xs.length - 1 - 0 := by omega
    show nth ((foldS xs (downs xs.length 0)).2.set (xs.length - 1 - 0) (nxt xs (foldS xs (downs xs.length 0)).1 (xs.length - 1 - 0))) (xs.length - 1 - 0) = _
    rw [hn, nth_eq _ _ (by rw [List.length_set, foldS_length]; exact h2), List.getElem_set_self]
    unfold sp
    rw [show xs.length - 1 - (xs.length - 1 - 0) = 0 by omega]
    rfl
  | succ k ih =>
    intro h
    obtain ⟨i1, i2⟩ := ih (by omega)
    have e : downs xs.length (k + 1 + 1) = downs xs.length (k + 1) ++ [⟨xs.length - 1 - (k + 1), by omega⟩] := by conv => lhs; unfold downs; rw [dif_pos h]
    rw [e, foldS_snoc]
    have hn : nxt xs (foldS xs (downs xs.length (k + 1))).1 (xs.length - 1 - (k + 1)) = tl xs (k + 1) := by
      unfold nxt
      rw [if_pos (by omega), i1, tl_step xs k (by omega)]
      congr 2; omega
    refine ⟨hn, fun j h1 h2 => ?_⟩
    show nth ((foldS xs (downs xs.length (k + 1))).2.set (xs.length - 1 - (k + 1)) (nxt xs (foldS xs (downs xs.length (k + 1))).1 (xs.length - 1 - (k + 1)))) j = _
    rw [hn, nth_eq _ _ (by rw [List.length_set, foldS_length]; exact h2), List.getElem_set]
    by_cases hj : xs.length - 1 - (k + 1) = j
    · rw [if_pos hj]
      unfold sp
      congr 1; omega
    · rw [if_neg hj, ← nth_eq _ _ (by rw [foldS_length]; exact h2)]
      exact i2 j (by omega) h2
theorem foldS_all (xs : List Int) : (foldS xs (downs xs.length xs.length)).2.length = xs.length ∧ ∀ j, j < xs.length → nth (foldS xs (downs xs.length xs.length)).2 j = sp xs j := by
  refine ⟨foldS_length _ _, fun j hj => ?_⟩
  obtain ⟨n, hn⟩ : ∃ n, xs.length = n + 1 := ⟨xs.length - 1, by omega⟩
  have := (foldS_downs xs n (by omega)).2 j (by omega) hj
  rw [← hn] at this
  exact this

set_option maxHeartbeats 400000 in
/-- Strides of a shape whose axes, each at least 1, are not too many. -/
theorem strides_calls (xs : List Int) (A : Option Addr) (ca : Nat) (w : World) (hx : ReadsI w .i64 A xs) (hl : xs.length ≤ 1000000) (hr : rightB xs = true) (ht : ∀ k, k < xs.length → tl xs k ≤ 1048576) :
    Calls Try.prog 66 #[.slice A xs.length ca] w fun e w' => (∃ b S, w.heap.size ≤ b ∧ e = .returned (.slice (some ⟨b, 0, none⟩) xs.length xs.length) ∧ RowN w' b 0 S ∧ S.length = xs.length ∧ ∀ j, j < xs.length → nth S j = sp xs j) ∧ Below w.heap.size w w' := by
  refine (callsIn_wide.1 (strides_in xs A ca w hx hl hr)).mono ?_
  rintro e w' ⟨h, hB⟩
  refine ⟨?_, hB⟩
  rcases h with ⟨rfl, h⟩ | ⟨_, k, hk, h⟩
  · exact ⟨_, _, by omega, rfl, h, (foldS_all xs).1, (foldS_all xs).2⟩
  · have := ht k hk
    rw [(foldS_downs xs k hk).1] at h
    omega
end Go.Proofs.Ythjkeefdeeljoaa.Shp
/- Contracts of shape.Place and shape.At. -/
namespace Go.Proofs.Ythjkeefdeeljoaa.Shp
open Go.RowKit Go.Proofs.Ythjkeefdeeljoaa.Num
set_option linter.unusedVariables false
set_option linter.unusedSimpArgs false

def sizeOk (xs : List Int) : Bool := rightB xs && decide (prod xs ≤ 1048576)
theorem size_full (xs : List Int) : sizeV xs 1048576 = if sizeOk xs = true then .tuple #[.int .i64 (prod xs), .bool true] else .tuple #[.int .i64 0, .bool false] := by
  unfold sizeV sizeOk
  cases hr : rightB xs with
  | false => simp
  | true =>
    have h1 : (xs.any fun x => decide (x < 0)) = false := List.any_eq_false.2 fun x hx => by have := ((rightB_mem hr).2 x hx).1; simpa using this
    have h2 : prodOk (min 1048576 1048576) xs = decide (prod xs ≤ 1048576) := by unfold prodOk; rw [h1]; simp
    unfold prodV
    rw [if_pos rfl, h2]
    simp
/-- With axes of at least 1 the product of the last ones. -/
theorem tl_prod (xs : List Int) (h1 : ∀ x ∈ xs, 1 ≤ x) : ∀ k, k ≤ xs.length → (tl xs k : Int) = prod (xs.drop (xs.length - k))
  | 0, _ => by rw [Nat.sub_zero, List.drop_length]; rfl
  | k + 1, h => by
    rw [tl_step xs k h, Int.natCast_mul, tl_prod xs h1 k (by omega)]
    have hlt : xs.length - 1 - k < xs.length := by omega
    rw [show xs.length - (k + 1) = xs.length - 1 - k by omega, List.drop_eq_getElem_cons hlt, show xs.length - 1 - k + 1 = xs.length - k by omega]
    have hx := h1 _ (List.getElem_mem hlt)
    have hm : (mx xs (xs.length - 1 - k) : Int) = xs[xs.length - 1 - k] := by
      unfold mx; rw [nth_eq _ _ hlt]; omega
    rw [hm]
    simp [prod, Int.mul_comm]
theorem prod_ge (xs : List Int) (h1 : ∀ x ∈ xs, 1 ≤ x) : 1 ≤ prod xs := by
  have := prod_pos xs (fun x hx => by have := h1 x hx; omega)
  omega
theorem tl_le (xs : List Int) (h1 : ∀ x ∈ xs, 1 ≤ x) (hp : prod xs ≤ 1048576) : ∀ k, k ≤ xs.length → tl xs k ≤ 1048576 := by
  intro k hk
  have e := tl_prod xs h1 k hk
  have hs : prod xs = prod (xs.take (xs.length - k)) * prod (xs.drop (xs.length - k)) := by rw [← prod_append2, List.take_append_drop]
  have a := prod_ge (xs.take (xs.length - k)) (fun x hx => h1 x (List.mem_of_mem_take hx))
  have b := prod_ge (xs.drop (xs.length - k)) (fun x hx => h1 x (List.mem_of_mem_drop hx))
  have c : prod (xs.drop (xs.length - k)) ≤ prod (xs.take (xs.length - k)) * prod (xs.drop (xs.length - k)) := by
    have := Int.mul_le_mul_of_nonneg_right a (show 0 ≤ prod (xs.drop (xs.length - k)) by omega)
    omega
  omega
/-- The count of a place, its first k digits. -/
def plc (xs ps : List Int) : Nat → Int
  | 0 => 0
  | k + 1 => plc xs ps k + (sp xs k : Int) * nth ps k
theorem has_mem {xs ps : List Int} (h : hasB xs ps = true) : rightB xs = true ∧ ps.length = xs.length ∧ ∀ i, i < xs.length → 0 ≤ nth ps i ∧ nth ps i < nth xs i := by
  unfold hasB inTo at h
  simp only [Bool.and_eq_true, decide_eq_true_eq, List.all_eq_true, List.mem_range] at h
  exact ⟨h.1, h.2.1, h.2.2⟩
theorem has_pos {xs ps : List Int} (h : hasB xs ps = true) : ∀ x ∈ xs, 1 ≤ x := fun x hx => by
  obtain ⟨_, _, h3⟩ := has_mem h
  obtain ⟨i, hi, rfl⟩ := List.getElem_of_mem hx
  have := h3 i hi
  rw [nth_eq xs i hi] at this
  omega
theorem plc_bd (xs ps : List Int) (h : hasB xs ps = true) (hs : ∀ j, j < xs.length → sp xs j ≤ 1048576) : ∀ k, k ≤ xs.length → 0 ≤ plc xs ps k ∧ plc xs ps k ≤ k * 1099511627776
  | 0, _ => by simp [plc]
  | k + 1, hk => by
    obtain ⟨i1, i2⟩ := plc_bd xs ps h hs k (by omega)
    obtain ⟨hr, _, h3⟩ := has_mem h
    obtain ⟨a, b⟩ := h3 k (by omega)
    have c := ((rightB_mem hr).2 _ (nth_mem xs k (by omega))).2
    have d := hs k (by omega)
    have e0 : 0 ≤ (sp xs k : Int) * nth ps k := Int.mul_nonneg (by omega) a
    have e1 : (sp xs k : Int) * nth ps k ≤ 1048576 * 1048576 := Int.mul_le_mul (by omega) (by omega) a (by omega)
    unfold plc
    rw [show ((k + 1 : Nat) : Int) = (k : Int) + 1 from rfl]
    constructor
    · omega
    · omega

set_option maxHeartbeats 1000000 in
theorem place_calls (xs ps : List Int) (A C : Option Addr) (ca cc : Nat) (w : World) (hx : ReadsI w .i64 A xs) (hy : ReadsI w .i64 C ps) (hl : xs.length ≤ 1000000) (hly : ps.length ≤ 1000000) :
    Calls Try.prog 24 #[.slice A xs.length ca, .slice C ps.length cc] w fun e w' =>
      e = .returned (if (sizeOk xs && hasB xs ps) = true then .tuple #[.int .i64 (plc xs ps xs.length), .bool true] else .tuple #[.int .i64 0, .bool false]) ∧ Below w.heap.size w w' := by
  have HS := size_calls xs 1048576 A ca w hx (by omega) (by unfold fits; omega)
  have HH := Lib.hid (has_calls xs ps A C ca cc w hx hy (by omega) (by omega))
  rw [size_full] at HS
  by_cases hok : sizeOk xs = true
  · rw [if_pos hok] at HS
    have HS := Lib.hid HS
    by_cases hh : hasB xs ps = true
    · rw [if_pos (by rw [hok, hh]; rfl)]
      have hp1 := has_pos hh
      have hpr : prod xs ≤ 1048576 := by unfold sizeOk at hok; simp only [Bool.and_eq_true, decide_eq_true_eq] at hok; exact hok.2
      have htl := tl_le xs hp1 hpr
      have hsp : ∀ j, j < xs.length → sp xs j ≤ 1048576 := fun j hj => htl _ (by omega)
      have HSTR := Lib.hid (strides_calls xs A ca w hx hl (has_mem hh).1 (fun k hk => htl k (by omega)))
      have HPB := Lib.hid (plc_bd xs ps hh hsp)
      have HSP := Lib.hid hsp
      have HHM := Lib.hid (has_mem hh)
      have HHB := Lib.hid hh
      have HY := Lib.hid hy
      clear hx hy hok hp1 hpr htl hsp hh
      go_enter Try.func24, Try.ntmps24
      go_wp2_with fail
      refine HS.out.mono ?_
      rintro e w' ⟨rfl, rfl⟩
      go_wp2_with fail
      refine HH.out.mono ?_
      rintro e w' ⟨rfl, rfl⟩
      rw [HHB.out]
      go_wp2_with fail
      refine HSTR.out.mono ?_
      rintro e w1 ⟨⟨b, S, _, rfl, hr, hSl, hSj⟩, hB⟩
      have HR := Lib.hid hr
      have HSL := Lib.hid hSl
      have HSJ := Lib.hid hSj
      have HB := Lib.hid hB
      clear hr hSl hSj hB
      have HY1 := Lib.hid (HY.out.below HB.out)
      go_wp2_with fail
      go_loop [8, 9, 10, 27] (fun n _ _ i => ∃ k : Nat, i = .int .i64 k ∧ k ≤ xs.length ∧ n = .int .i64 (plc xs ps k)) (fun _ _ _ i => xs.length - (intOf i).toNat)
      case atStart => exact ⟨0, rfl, Nat.zero_le _, rfl⟩
      case round =>
        obtain ⟨k, rfl, hk, rfl⟩ := hrel
        by_cases hlt : k < xs.length
        · obtain ⟨b2, off2, rfl, hc2⟩ := HY1.out k (by rw [HHM.out.2.1]; exact hlt)
          obtain ⟨hc1, _⟩ := HR.out k (by rw [HSL.out]; exact hlt)
          rw [HSJ.out k hlt, Nat.zero_add] at hc1
          have hlp : k < ps.length := by rw [HHM.out.2.1]; exact hlt
          have hst : plc xs ps (k + 1) = plc xs ps k + (sp xs k : Int) * nth ps k := rfl
          obtain ⟨pa, pb⟩ := HPB.out k hk
          obtain ⟨qa, qb⟩ := HPB.out (k + 1) hlt
          rw [hst] at qa qb
          have hk6 := (rightB_mem HHM.out.1).1
          obtain ⟨m, hm⟩ : ∃ m, (sp xs k : Int) * nth ps k = m := ⟨_, rfl⟩
          rw [hm] at hst qa qb
          have hm0 : 0 ≤ m := by rw [← hm]; exact Int.mul_nonneg (by omega) (HHM.out.2.2 k hlt).1
          have HST := Lib.hid hst
          clear hst
          generalize sp xs k = s at *
          generalize nth ps k = a at *
          generalize plc xs ps k = n at *
          have qb' : n + m ≤ 7696581394432 := by omega
          clear qb pb
          have w1 : IntKind.i64.wrap m = m := by rw [IntKind.wrap_i64]; omega
          have w2 : IntKind.i64.wrap (n + m) = n + m := by rw [IntKind.wrap_i64]; omega
          go_wp2_with fail
          go_round
          case measure => first | (simp [intOf]; done) | (simp [intOf]; omega)
          case rel => exact ⟨k + 1, by go_num, by omega, by rw [HST.out]⟩
        · obtain rfl : k = xs.length := by omega
          go_wp2_with fail
          go_ret2
          exact ⟨rfl, HB.out⟩
    · have hh' : hasB xs ps = false := by simpa using hh
      rw [if_neg (by rw [hok, hh']; simp)]
      rw [hh'] at HH
      clear hx hy hok hh
      go_enter Try.func24, Try.ntmps24
      go_wp2_with fail
      refine HS.out.mono ?_
      rintro e w' ⟨rfl, rfl⟩
      go_wp2_with fail
      refine HH.out.mono ?_
      rintro e w' ⟨rfl, rfl⟩
      go_wp2_with fail
      go_ret2
      exact ⟨rfl, Below.refl _ _⟩
  · rw [if_neg hok] at HS
    have HS := Lib.hid HS
    rw [if_neg (by simp [hok])]
    clear hx hy hok HH
    go_enter Try.func24, Try.ntmps24
    go_wp2_with fail
    refine HS.out.mono ?_
    rintro e w' ⟨rfl, rfl⟩
    go_wp2_with fail
    go_ret2
    exact ⟨rfl, Below.refl _ _⟩
end Go.Proofs.Ythjkeefdeeljoaa.Shp
/- slices.Backward of a shape, whatever a round keeps, as long as the slice's box and its numbers stay. -/
namespace Go.Proofs.Ythjkeefdeeljoaa.Shp
open Go.RowKit Go.Shelf Go.Proofs.Ythjkeefdeeljoaa.Num
set_option linter.unusedVariables false
set_option linter.unusedSimpArgs false
attribute [local go_sem] Oper.semAt_some

/-- What a round keeps: the box of the slice, and the numbers. -/
def KpS (Bs : Nat) (A : Option Addr) (xs : List Int) (W W' : World) : Prop := W'.heap[Bs]? = W.heap[Bs]? ∧ (ReadsI W .i64 A xs → ReadsI W' .i64 A xs)
theorem KpS.refl (Bs : Nat) (A : Option Addr) (xs : List Int) (W : World) : KpS Bs A xs W W := ⟨rfl, id⟩
theorem KpS.trans {Bs : Nat} {A : Option Addr} {xs : List Int} {X Y Z : World} (h : KpS Bs A xs X Y) (k : KpS Bs A xs Y Z) : KpS Bs A xs X Z := ⟨k.1.trans h.1, fun r => k.2 (h.2 r)⟩
theorem KpS.put {n Bs : Nat} {A : Option Addr} {xs : List Int} (hb : Bs < n) (W : World) (l : Nat) (o o' : Obj) (hl : n ≤ l) (h : W.heap[l]? = some o) (h1 : o.isCells = false) (h2 : o.isWalk = false) : KpS Bs A xs W (W.putObj l o') :=
  ⟨World.putObj_heap_other (by omega), fun hr i hi => by
    obtain ⟨b, off, e, hc⟩ := hr i hi
    exact ⟨b, off, e, cell_kept hc (grownBy_putObj' W l o') (fun r e => by cases e; exact ⟨o, h, h1⟩)⟩⟩
theorem KpS.below {Bs : Nat} {A : Option Addr} {xs : List Int} {W W' : World} (h : Below W.heap.size W W') (hb : Bs < W.heap.size) : KpS Bs A xs W W' := ⟨h.block _ hb, fun r => r.below h⟩

set_option maxRecDepth 100000 in
set_option maxHeartbeats 2000000 in
theorem backwardS_in (F : Fence) (n : Nat) (hf : F.fn 134) (hro : F.round = none) (hn : 1 ≤ n) (l Bs : Nat) (xs : List Int) (A : Option Addr) (ca : Nat) (hl : xs.length ≤ 1000000)
    (J Jx : List (Fin xs.length) → World → Prop)
    (hY : ∀ pre x W, J pre W → pre.length < xs.length → YieldAt F (n - 1) Try.prog l #[.int .i64 (x.1 : Int), .int .i64 (nth xs x.1)] W fun e W' =>
      (e = .returned (.bool true) ∧ J (pre ++ [x]) W' ∧ KpS Bs A xs W W') ∨ (e = .returned (.bool false) ∧ Jx (pre ++ [x]) W'))
    (W : World) (hBs : W.cell? ⟨Bs, 0, none⟩ = some (.slice A xs.length ca)) (hX : ReadsI W .i64 A xs) (h0 : J [] W) :
    CallsIn F n Try.prog 134 #[.func (.yield l) #[] #[], .pointer (some ⟨Bs, 0, none⟩)] W fun e W' => (∃ v, e = .returned v) ∧
      ((∃ ys, ys = downs xs.length xs.length ∧ J ys W') ∨ (∃ pre, (∃ k, k < xs.length ∧ pre = downs xs.length (k + 1)) ∧ Jx pre W')) := by
  have HX := Lib.hid hX
  clear hX
  refine callsIn_of_wp Try.func134 rfl hf ?_ hro
  simp only [Try.ntmps134, List.size_toArray, List.length_cons, List.length_nil, Nat.reduceAdd, Nat.reduceSub, Array.replicate_succ, Array.replicate_zero, List.push_toArray, List.append_toArray, List.nil_append, List.cons_append]
  gi_wp2
  gi_loopw [3] (fun i wr => ∃ m : Nat, m ≤ xs.length ∧ i = .int .i64 ((m : Int) - 1) ∧ J (downs xs.length (xs.length - m)) wr ∧ KpS Bs A xs W wr) (fun i _ => (intOf i + 1).toNat)
  case atStart => exact ⟨xs.length, Nat.le_refl _, rfl, by rw [Nat.sub_self]; exact h0, KpS.refl _ _ _ _⟩
  case round =>
    obtain ⟨m, hm, rfl, hJs, hk⟩ := hrel
    have hbx : wr.cell? ⟨Bs, 0, none⟩ = some (.slice A xs.length ca) := (World.cell?_of_block hk.1).trans hBs
    cases m with
    | zero =>
      rw [show (((0 : Nat) : Int) - 1) = -1 from rfl]
      gi_wp2
      go_end0
      exact ⟨⟨_, rfl⟩, .inl ⟨_, rfl, by simpa using hJs⟩⟩
    | succ j =>
      rw [show (((j + 1 : Nat) : Int) - 1) = (j : Int) by omega]
      obtain ⟨b, off, hA, hc⟩ := (hk.2 HX.out) j (by omega)
      subst hA
      obtain ⟨fn, tmps, assign, body, hy, hR⟩ := hY _ ⟨j, by omega⟩ wr hJs (by rw [downs_length _ _ (by omega)]; omega)
      dsimp only at hy
      have HJ2 := Lib.hid (downs_succ xs.length j (by omega))
      have hlt : (j : Int) < (xs.length : Int) := by omega
      have HK := Lib.hid hk
      clear hk
      gi_wp2
      refine hR.mono ?_
      rintro e W3 (⟨rfl, hJ3, hk3⟩ | ⟨rfl, hJx3⟩)
      · gi_wp2
        go_roundw
        case rel => exact ⟨j, by omega, rfl, by rw [HJ2.out]; exact hJ3, HK.out.trans hk3⟩
        case measure => simp [intOf]
      · gi_wp2
        refine bodyPost_ret (results_none rfl _ _ _) rfl ?_
        exact ⟨⟨_, rfl⟩, .inr ⟨_, ⟨xs.length - (j + 1), by omega, by rw [show xs.length - (j + 1) + 1 = xs.length - j by omega]; exact HJ2.out.symm⟩, hJx3⟩⟩
theorem backwardS_stops (F : Fence) (n : Nat) (hf : F.fn 134) (hro : F.round = none) (hn : 1 ≤ n) (Bs : Nat) (xs : List Int) (A : Option Addr) (ca : Nat) (hl : xs.length ≤ 1000000) (w : World)
    (hBs : w.cell? ⟨Bs, 0, none⟩ = some (.slice A xs.length ca)) (hX : ReadsI w .i64 A xs) :
    SeqStopsK F n Try.prog 134 #[.pointer (some ⟨Bs, 0, none⟩)] (fun x : Fin xs.length => #[Value.int .i64 (x.1 : Int), Value.int .i64 (nth xs x.1)]) (KpS Bs A xs) (fun ys => ys = downs xs.length xs.length)
      (fun pre => ∃ k, k < xs.length ∧ pre = downs xs.length (k + 1)) xs.length w := fun l J Jx W hW _ _ hY h0 =>
  backwardS_in F n hf hro hn l Bs xs A ca hl J Jx hY W ((hW.cell (p := ⟨Bs, 0, none⟩) (World.block_lt_of_cell? _ _ hBs)).trans hBs) (hX.below hW) h0
end Go.Proofs.Ythjkeefdeeljoaa.Shp
/- The document's Product and Size. -/
namespace Go.Proofs.Ythjkeefdeeljoaa.Shp
open Go.RowKit Go.Proofs.Ythjkeefdeeljoaa.Num
set_option linter.unusedVariables false
set_option linter.unusedSimpArgs false

theorem drewN_two (w : World) (a b : Nat) : (w.drewN a).drewN b = w.drewN (a + b) := by simp [World.drewN, Nat.add_assoc]
theorem prod_ge_part (xs : List Int) (h1 : ∀ x ∈ xs, 1 ≤ x) (k : Nat) : prod (xs.take k) ≤ prod xs ∧ 1 ≤ prod (xs.take k) := by
  have hs : prod xs = prod (xs.take k) * prod (xs.drop k) := by rw [← prod_append2, List.take_append_drop]
  have a := prod_ge (xs.take k) (fun x hx => h1 x (List.mem_of_mem_take hx))
  have b := prod_ge (xs.drop k) (fun x hx => h1 x (List.mem_of_mem_drop hx))
  have := Int.mul_le_mul_of_nonneg_left b (show 0 ≤ prod (xs.take k) by omega)
  omega
def sizeR (xs : List Int) : Value := if prod xs ≤ 1048576 then .tuple #[.int .i64 (prod xs), .bool true] else .tuple #[.int .i64 0, .bool false]
set_option maxHeartbeats 1000000 in
theorem rprod_calls (A : Option Addr) (c : Nat) (xs : List Int) (w : World) (hx : ReadsI w .i64 A xs) (hr : rightB xs = true) :
    Calls Try.prog 62 #[.int .i64 1048576, .slice A xs.length c] w fun e w' => e = .returned (sizeR xs) ∧ Below w.heap.size w w' := by
  have hm := rightB_mem hr
  have HX := Lib.hid hx
  have HM := Lib.hid hm.2
  have hl6 := hm.1
  obtain ⟨R, hR⟩ : ∃ R, R = sizeR xs := ⟨_, rfl⟩
  rw [← hR]
  have HR := Lib.hid hR
  clear hx hm hr hR
  go_enter Try.func62, Try.ntmps62
  go_wp2_with fail
  go_loop [6, 7] (fun z i => ∃ k : Nat, i = .int .i64 k ∧ k ≤ xs.length ∧ ∃ b : Bool, z = .bool b ∧ Hid (b = (xs.take k).any fun x => decide (x = 0))) (fun _ i => xs.length - (intOf i).toNat)
  case atStart => exact ⟨0, rfl, Nat.zero_le _, false, rfl, Lib.hid (by simp)⟩
  case round =>
    obtain ⟨k, rfl, hk, z, rfl, HZ⟩ := hrel
    by_cases hlt : k < xs.length
    · obtain ⟨b, off, rfl, hc⟩ := HX.out k hlt
      have hmem := HM.out _ (nth_mem xs k hlt)
      have HT := Lib.hid (take_nth xs k hlt)
      generalize nth xs k = x at *
      cases z with
      | true =>
        go_wp2_with fail
        go_round
        case measure => simp [intOf]; omega
        case rel => exact ⟨k + 1, by go_num, by omega, true, rfl, Lib.hid (by rw [HT.out, List.any_append, ← HZ.out]; simp)⟩
      | false =>
        by_cases h0 : x = 0
        · subst h0
          go_wp2_with fail
          go_round
          case measure => simp [intOf]; omega
          case rel => exact ⟨k + 1, by go_num, by omega, true, rfl, Lib.hid (by rw [HT.out, List.any_append, ← HZ.out]; simp)⟩
        · have h0' : (x == 0) = false := by simpa using h0
          go_wp2_with fail
          go_round
          case measure => simp [intOf]; omega
          case rel => exact ⟨k + 1, by go_num, by omega, false, rfl, Lib.hid (by rw [HT.out, List.any_append, ← HZ.out]; simp [h0])⟩
    · have hall : xs.take k = xs := List.take_of_length_le (by omega)
      rw [hall] at HZ
      clear hall
      cases z with
      | true =>
        have HV : Hid (R = .tuple #[.int .i64 0, .bool true]) := Lib.hid (by
          have h1 := HZ.out.symm
          obtain ⟨x, hx, h2⟩ := List.any_eq_true.1 h1
          have h3 : x = 0 := by simpa using h2
          rw [h3] at hx
          have h4 := prod_zero xs hx
          rw [HR.out]
          unfold sizeR
          rw [h4]; rfl)
        clear HR HZ HM
        go_wp2_with fail
        go_ret2
        exact ⟨congrArg Ending.returned HV.out.symm, Below.refl _ _⟩
      | false =>
        have H1 : Hid (∀ x ∈ xs, 1 ≤ x) := Lib.hid fun x hx => by
          have h1 := HZ.out.symm
          have h2 := List.any_eq_false.1 h1 x hx
          have h3 : x ≠ 0 := by simpa using h2
          have := HM.out x hx
          omega
        clear HZ
        go_wp2_with fail
        go_loopw [8, 9] (fun n i wr => ∃ k m : Nat, i = .int .i64 k ∧ k ≤ xs.length ∧ n = .int .i64 m ∧ 1 ≤ m ∧ m ≤ 1048576 ∧ Hid ((m : Int) = prod (xs.take k)) ∧ Hid (∃ d, wr = w.drewN d)) (fun _ i _ => xs.length - (intOf i).toNat)
        case atStart => exact ⟨0, 1, rfl, Nat.zero_le _, rfl, by omega, by omega, Lib.hid (by simp [prod]), Lib.hid ⟨0, rfl⟩⟩
        case round =>
          obtain ⟨k, m, rfl, hk, rfl, hm1, hm2, HP, HW⟩ := hrel
          by_cases hlt : k < xs.length
          · obtain ⟨b, off, rfl, hc⟩ := HX.out k hlt
            have hc' : wr.cell? ⟨b, off + k, none⟩ = some (.int .i64 (nth xs k)) := by obtain ⟨d, rfl⟩ := HW.out; exact hc
            have hx1 := H1.out _ (nth_mem xs k hlt)
            have hx2 := (HM.out _ (nth_mem xs k hlt)).2
            have hp1 := prod_append (xs.take k) (nth xs k)
            rw [← take_nth xs k hlt, ← HP.out] at hp1
            have HG := Lib.hid (prod_ge_part xs H1.out (k + 1)).1
            have HP1 := Lib.hid hp1
            clear hp1 hc
            generalize nth xs k = x at *
            obtain ⟨y, rfl⟩ := Int.eq_ofNat_of_zero_le (show 0 ≤ x by omega)
            obtain ⟨q, hq⟩ : ∃ q, q = 1048576 / m := ⟨_, rfl⟩
            have q1 : Int.tdiv (1048576 : Int) (m : Int) = (q : Int) := by rw [hq]; rfl
            have z1 : ((m : Int) == 0) = false := by simp; omega
            have z3 : ¬ ((m : Int) = 0) := by omega
            have hqb : q ≤ 1048576 := by rw [hq]; exact Nat.div_le_self _ _
            have w1 : IntKind.i64.wrap (q : Int) = (q : Int) := by rw [IntKind.wrap_i64]; omega
            have hmy : m * y ≤ 1099511627776 := by
              have := Nat.mul_le_mul hm2 (show y ≤ 1048576 by omega)
              omega
            have hyes : y ≤ q → m * y ≤ 1048576 := fun h => by
              rw [hq] at h
              have := Nat.mul_le_mul_left m h
              have h2 := Nat.mul_div_le 1048576 m
              omega
            have hno : q < y → 1048576 < m * y := fun h => by
              rw [hq] at h
              have := (Nat.div_lt_iff_lt_mul (by omega)).1 h
              rw [Nat.mul_comm] at this
              exact this
            have HYES := Lib.hid hyes
            have HNO := Lib.hid hno
            clear hyes hno
            obtain ⟨my, hmyy⟩ : ∃ my, m * y = my := ⟨_, rfl⟩
            rw [hmyy] at hmy HYES HNO
            have hmi : (m : Int) * (y : Int) = (my : Int) := by rw [← hmyy]; rfl
            have w2 : IntKind.i64.wrap (my : Int) = (my : Int) := by rw [IntKind.wrap_i64]; omega
            have hmpos : 1 ≤ my := by
              have h := Nat.mul_le_mul hm1 (show 1 ≤ y by omega)
              rw [hmyy] at h
              omega
            rw [hmi] at HP1
            clear hq hmyy
            by_cases hgt : q < y
            · have hgt' : (q : Int) < (y : Int) := by omega
              have HV : Hid (R = .tuple #[.int .i64 0, .bool false]) := Lib.hid (by
                rw [HR.out]
                unfold sizeR
                rw [if_neg]
                have h1 := HNO.out hgt
                have h2 := HG.out
                rw [HP1.out] at h2
                omega)
              go_wp2_with fail
              go_quiet (fail)
              all_goals
                go_wp2_with fail
                go_ret2
                refine ⟨congrArg Ending.returned HV.out.symm, ?_⟩
                obtain ⟨d, rfl⟩ := HW.out
                exact bl_drewN (bl_drewN (Below.refl _ _) _) _
            · have hgt' : ¬ ((q : Int) < (y : Int)) := by omega
              have hmy2 : my ≤ 1048576 := HYES.out (by omega)
              go_wp2_with fail
              go_quiet (fail)
              all_goals
                go_wp2_with fail
                go_roundw
                case measure => simp [intOf]; omega
                case rel => exact ⟨k + 1, my, by go_num, by omega, rfl, hmpos, hmy2, Lib.hid HP1.out.symm, Lib.hid (by obtain ⟨d, rfl⟩ := HW.out; exact ⟨_, drewN_two _ _ _⟩)⟩
          · have hall : xs.take k = xs := List.take_of_length_le (by omega)
            rw [hall] at HP
            clear hall
            have HV : Hid (R = .tuple #[.int .i64 m, .bool true]) := Lib.hid (by
              rw [HR.out]
              unfold sizeR
              rw [if_pos (by rw [← HP.out]; omega), HP.out])
            have hdm : decide ((m : Int) ≤ 1048576) = true := by simp; omega
            go_wp2_with fail
            go_ret2
            refine ⟨congrArg Ending.returned HV.out.symm, ?_⟩
            obtain ⟨d, rfl⟩ := HW.out
            exact bl_drewN (Below.refl _ _) _
/-- How many cells: the document's. -/
def sizV (xs : List Int) : Value := if sizeOk xs = true then .tuple #[.int .i64 (prod xs), .bool true] else .tuple #[.int .i64 0, .bool false]
theorem rsize_calls (xs : List Int) (A : Option Addr) (ca : Nat) (w : World) (hx : ReadsI w .i64 A xs) (hl : xs.length ≤ 1000000) :
    Calls Try.prog 19 #[.slice A xs.length ca, .int .i64 1048576] w fun e w' => e = .returned (sizV xs) ∧ Below w.heap.size w w' := by
  have HRA := Lib.hid (rright_calls xs A ca w hx (by omega))
  cases hr : rightB xs with
  | false =>
    have HV : Hid (sizV xs = .tuple #[.int .i64 0, .bool false]) := Lib.hid (if_neg (by unfold sizeOk; rw [hr]; simp))
    rw [hr] at HRA
    rw [HV.out]
    clear hx hr HV
    go_enter Try.func19, Try.ntmps19
    go_wp2_with fail
    refine HRA.out.mono ?_
    rintro e w' ⟨rfl, rfl⟩
    go_wp2_with fail
    go_ret2
    exact ⟨rfl, Below.refl _ _⟩
  | true =>
    have HP := rprod_calls A ca xs w hx hr
    rw [hr] at HRA
    have hs : sizeOk xs = decide (prod xs ≤ 1048576) := by unfold sizeOk; rw [hr]; rfl
    by_cases hp : prod xs ≤ 1048576
    · have HV : Hid (sizV xs = .tuple #[.int .i64 (prod xs), .bool true]) := Lib.hid (if_pos (by rw [hs]; simpa using hp))
      unfold sizeR at HP
      rw [if_pos hp] at HP
      rw [HV.out]
      generalize prod xs = p at *
      have HP := Lib.hid HP
      clear hx hr HV hs hp
      go_enter Try.func19, Try.ntmps19
      go_wp2_with fail
      refine HRA.out.mono ?_
      rintro e w' ⟨rfl, rfl⟩
      go_wp2_with fail
      refine HP.out.mono ?_
      rintro e w' ⟨rfl, hB⟩
      have HB := Lib.hid hB
      clear hB
      go_wp2_with fail
      go_ret2
      exact ⟨rfl, HB.out⟩
    · have HV : Hid (sizV xs = .tuple #[.int .i64 0, .bool false]) := Lib.hid (if_neg (by rw [hs]; simpa using hp))
      unfold sizeR at HP
      rw [if_neg hp] at HP
      rw [HV.out]
      have HP := Lib.hid HP
      clear hx hr HV hs hp
      go_enter Try.func19, Try.ntmps19
      go_wp2_with fail
      refine HRA.out.mono ?_
      rintro e w' ⟨rfl, rfl⟩
      go_wp2_with fail
      refine HP.out.mono ?_
      rintro e w' ⟨rfl, hB⟩
      have HB := Lib.hid hB
      clear hB
      go_wp2_with fail
      go_ret2
      exact ⟨rfl, HB.out⟩
end Go.Proofs.Ythjkeefdeeljoaa.Shp
