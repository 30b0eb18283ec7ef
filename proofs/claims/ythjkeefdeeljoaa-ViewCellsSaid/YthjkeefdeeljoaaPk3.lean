/- Contracts and lemmas that the row of this claim stands on: StridesPure, Back2. -/
import Derived.Test.YthjkeefdeeljoaaStrides
/- What Strides tells, without the loop: each axis counts for the product of those behind it. -/
namespace Go.Proofs.Ythjkeefdeeljoaa.Shp
open Go.RowKit Go.Proofs.Ythjkeefdeeljoaa.Num
set_option linter.unusedVariables false
set_option linter.unusedSimpArgs false

/-- The product of the k last axes, each at least 1. -/
def tl (xs : List Int) : Nat → Nat
  | 0 => 1
  | k + 1 => if k < xs.length then tl xs k * mx xs (xs.length - 1 - k) else tl xs k
/-- By how much the i-th axis counts. -/
def sp (xs : List Int) (i : Nat) : Nat := tl xs (xs.length - 1 - i)
theorem tl_step (xs : List Int) (k : Nat) (h : k < xs.length) : tl xs (k + 1) = tl xs k * mx xs (xs.length - 1 - k) := by
  conv => lhs; unfold tl
  rw [if_pos h]
theorem foldS_downs (xs : List Int) : ∀ k, k < xs.length → (foldS xs (downs xs.length (k + 1))).1 = tl xs k ∧ ∀ j, xs.length - (k + 1) ≤ j → j < xs.length → nth (foldS xs (downs xs.length (k + 1))).2 j = sp xs j := by
  intro k
  induction k with
  | zero =>
    intro h
    have e : downs xs.length 1 = downs xs.length 0 ++ [⟨xs.length - 1 - 0, by omega⟩] := by conv => lhs; unfold downs; rw [dif_pos h]
    rw [e, foldS_snoc]
    have hn : nxt xs (foldS xs (downs xs.length 0)).1 (xs.length - 1 - 0) = 1 := by
      unfold nxt; rw [if_neg (by omega)]; rfl
    refine ⟨hn, fun j h1 h2 => ?_⟩
    obtain rfl : j = xs.length - 1 - 0 := by omega
    show nth ((foldS xs (downs xs.length 0)).2.set (xs.length - 1 - 0) (nxt xs (foldS xs (downs xs.length 0)).1 (xs.length - 1 - 0))) (xs.length - 1 - 0) = _
    rw [hn, nth_eq _ _ (by rw [List.length_set, foldS_length]; exact h2), List.getElem_set_self]
    unfold sp
    rw [show xs.length - 1 - (xs.length - 1 - 0) = 0 by omega]
    rfl
  | succ k ih =>
    intro h
    obtain ⟨i1, i2⟩ := ih (by omega)
    have e : downs xs.length (k + 1 + 1) = downs xs.length (k + 1) ++ [⟨xs.length - 1 - (k + 1), by omega⟩] := by conv => lhs; unfold downs; rw [dif_pos h]
    rw [e, foldS_snoc]
    have hn : nxt xs (foldS xs (downs xs.length (k + 1))).1 (xs.length - 1 - (k + 1)) = tl xs (k + 1) := by
      unfold nxt
      rw [if_pos (by omega), i1, tl_step xs k (by omega)]
      congr 2; omega
    refine ⟨hn, fun j h1 h2 => ?_⟩
    show nth ((foldS xs (downs xs.length (k + 1))).2.set (xs.length - 1 - (k + 1)) (nxt xs (foldS xs (downs xs.length (k + 1))).1 (xs.length - 1 - (k + 1)))) j = _
    rw [hn, nth_eq _ _ (by rw [List.length_set, foldS_length]; exact h2), List.getElem_set]
    by_cases hj : xs.length - 1 - (k + 1) = j
    · rw [if_pos hj]
      unfold sp
      congr 1; omega
    · rw [if_neg hj, ← nth_eq _ _ (by rw [foldS_length]; exact h2)]
      exact i2 j (by omega) h2
theorem foldS_all (xs : List Int) : (foldS xs (downs xs.length xs.length)).2.length = xs.length ∧ ∀ j, j < xs.length → nth (foldS xs (downs xs.length xs.length)).2 j = sp xs j := by
  refine ⟨foldS_length _ _, fun j hj => ?_⟩
  obtain ⟨n, hn⟩ : ∃ n, xs.length = n + 1 := ⟨xs.length - 1, by omega⟩
  have := (foldS_downs xs n (by omega)).2 j (by omega) hj
  rw [← hn] at this
  exact this

set_option maxHeartbeats 400000 in
/-- Strides of a shape whose axes, each at least 1, are not too many. -/
theorem strides_calls (xs : List Int) (A : Option Addr) (ca : Nat) (w : World) (hx : ReadsI w .i64 A xs) (hl : xs.length ≤ 1000000) (hr : rightB xs = true) (ht : ∀ k, k < xs.length → tl xs k ≤ 1048576) :
    Calls Try.prog 66 #[.slice A xs.length ca] w fun e w' => (∃ b S, w.heap.size ≤ b ∧ e = .returned (.slice (some ⟨b, 0, none⟩) xs.length xs.length) ∧ RowN w' b 0 S ∧ S.length = xs.length ∧ ∀ j, j < xs.length → nth S j = sp xs j) ∧ Below w.heap.size w w' := by
  refine (callsIn_wide.1 (strides_in xs A ca w hx hl hr)).mono ?_
  rintro e w' ⟨h, hB⟩
  refine ⟨?_, hB⟩
  rcases h with ⟨rfl, h⟩ | ⟨_, k, hk, h⟩
  · exact ⟨_, _, by omega, rfl, h, (foldS_all xs).1, (foldS_all xs).2⟩
  · have := ht k hk
    rw [(foldS_downs xs k hk).1] at h
    omega
end Go.Proofs.Ythjkeefdeeljoaa.Shp
/- slices.Backward of a shape, whatever a round keeps, as long as the slice's box and its numbers stay. -/
namespace Go.Proofs.Ythjkeefdeeljoaa.Shp
open Go.RowKit Go.Shelf Go.Proofs.Ythjkeefdeeljoaa.Num
set_option linter.unusedVariables false
set_option linter.unusedSimpArgs false
attribute [local go_sem] Oper.semAt_some

/-- What a round keeps: the box of the slice, and the numbers. -/
def KpS (Bs : Nat) (A : Option Addr) (xs : List Int) (W W' : World) : Prop := W'.heap[Bs]? = W.heap[Bs]? ∧ (ReadsI W .i64 A xs → ReadsI W' .i64 A xs)
theorem KpS.refl (Bs : Nat) (A : Option Addr) (xs : List Int) (W : World) : KpS Bs A xs W W := ⟨rfl, id⟩
theorem KpS.trans {Bs : Nat} {A : Option Addr} {xs : List Int} {X Y Z : World} (h : KpS Bs A xs X Y) (k : KpS Bs A xs Y Z) : KpS Bs A xs X Z := ⟨k.1.trans h.1, fun r => k.2 (h.2 r)⟩
theorem KpS.put {n Bs : Nat} {A : Option Addr} {xs : List Int} (hb : Bs < n) (W : World) (l : Nat) (o o' : Obj) (hl : n ≤ l) (h : W.heap[l]? = some o) (h1 : o.isCells = false) (h2 : o.isWalk = false) : KpS Bs A xs W (W.putObj l o') :=
  ⟨World.putObj_heap_other (by omega), fun hr i hi => by
    obtain ⟨b, off, e, hc⟩ := hr i hi
    exact ⟨b, off, e, cell_kept hc (grownBy_putObj' W l o') (fun r e => by cases e; exact ⟨o, h, h1⟩)⟩⟩
theorem KpS.below {Bs : Nat} {A : Option Addr} {xs : List Int} {W W' : World} (h : Below W.heap.size W W') (hb : Bs < W.heap.size) : KpS Bs A xs W W' := ⟨h.block _ hb, fun r => r.below h⟩

set_option maxRecDepth 100000 in
set_option maxHeartbeats 2000000 in
theorem backwardS_in (F : Fence) (n : Nat) (hf : F.fn 134) (hro : F.round = none) (hn : 1 ≤ n) (l Bs : Nat) (xs : List Int) (A : Option Addr) (ca : Nat) (hl : xs.length ≤ 1000000)
    (J Jx : List (Fin xs.length) → World → Prop)
    (hY : ∀ pre x W, J pre W → pre.length < xs.length → YieldAt F (n - 1) Try.prog l #[.int .i64 (x.1 : Int), .int .i64 (nth xs x.1)] W fun e W' =>
      (e = .returned (.bool true) ∧ J (pre ++ [x]) W' ∧ KpS Bs A xs W W') ∨ (e = .returned (.bool false) ∧ Jx (pre ++ [x]) W'))
    (W : World) (hBs : W.cell? ⟨Bs, 0, none⟩ = some (.slice A xs.length ca)) (hX : ReadsI W .i64 A xs) (h0 : J [] W) :
    CallsIn F n Try.prog 134 #[.func (.yield l) #[] #[], .pointer (some ⟨Bs, 0, none⟩)] W fun e W' => (∃ v, e = .returned v) ∧
      ((∃ ys, ys = downs xs.length xs.length ∧ J ys W') ∨ (∃ pre, (∃ k, k < xs.length ∧ pre = downs xs.length (k + 1)) ∧ Jx pre W')) := by
  have HX := Lib.hid hX
  clear hX
  refine callsIn_of_wp Try.func134 rfl hf ?_ hro
  simp only [Try.ntmps134, List.size_toArray, List.length_cons, List.length_nil, Nat.reduceAdd, Nat.reduceSub, Array.replicate_succ, Array.replicate_zero, List.push_toArray, List.append_toArray, List.nil_append, List.cons_append]
  gi_wp2
  gi_loopw [3] (fun i wr => ∃ m : Nat, m ≤ xs.length ∧ i = .int .i64 ((m : Int) - 1) ∧ J (downs xs.length (xs.length - m)) wr ∧ KpS Bs A xs W wr) (fun i _ => (intOf i + 1).toNat)
  case atStart => exact ⟨xs.length, Nat.le_refl _, rfl, by rw [Nat.sub_self]; exact h0, KpS.refl _ _ _ _⟩
  case round =>
    obtain ⟨m, hm, rfl, hJs, hk⟩ := hrel
    have hbx : wr.cell? ⟨Bs, 0, none⟩ = some (.slice A xs.length ca) := (World.cell?_of_block hk.1).trans hBs
    cases m with
    | zero =>
      rw [show (((0 : Nat) : Int) - 1) = -1 from rfl]
      gi_wp2
      go_end0
      exact ⟨⟨_, rfl⟩, .inl ⟨_, rfl, by simpa using hJs⟩⟩
    | succ j =>
      rw [show (((j + 1 : Nat) : Int) - 1) = (j : Int) by omega]
      obtain ⟨b, off, hA, hc⟩ := (hk.2 HX.out) j (by omega)
      subst hA
      obtain ⟨fn, tmps, assign, body, hy, hR⟩ := hY _ ⟨j, by omega⟩ wr hJs (by rw [downs_length _ _ (by omega)]; omega)
      dsimp only at hy
      have HJ2 := Lib.hid (downs_succ xs.length j (by omega))
      have hlt : (j : Int) < (xs.length : Int) := by omega
      have HK := Lib.hid hk
      clear hk
      gi_wp2
      refine hR.mono ?_
      rintro e W3 (⟨rfl, hJ3, hk3⟩ | ⟨rfl, hJx3⟩)
      · gi_wp2
        go_roundw
        case rel => exact ⟨j, by omega, rfl, by rw [HJ2.out]; exact hJ3, HK.out.trans hk3⟩
        case measure => simp [intOf]
      · gi_wp2
        refine bodyPost_ret (results_none rfl _ _ _) rfl ?_
        exact ⟨⟨_, rfl⟩, .inr ⟨_, ⟨xs.length - (j + 1), by omega, by rw [show xs.length - (j + 1) + 1 = xs.length - j by omega]; exact HJ2.out.symm⟩, hJx3⟩⟩
theorem backwardS_stops (F : Fence) (n : Nat) (hf : F.fn 134) (hro : F.round = none) (hn : 1 ≤ n) (Bs : Nat) (xs : List Int) (A : Option Addr) (ca : Nat) (hl : xs.length ≤ 1000000) (w : World)
    (hBs : w.cell? ⟨Bs, 0, none⟩ = some (.slice A xs.length ca)) (hX : ReadsI w .i64 A xs) :
    SeqStopsK F n Try.prog 134 #[.pointer (some ⟨Bs, 0, none⟩)] (fun x : Fin xs.length => #[Value.int .i64 (x.1 : Int), Value.int .i64 (nth xs x.1)]) (KpS Bs A xs) (fun ys => ys = downs xs.length xs.length)
      (fun pre => ∃ k, k < xs.length ∧ pre = downs xs.length (k + 1)) xs.length w := fun l J Jx W hW _ _ hY h0 =>
  backwardS_in F n hf hro hn l Bs xs A ca hl J Jx hY W ((hW.cell (p := ⟨Bs, 0, none⟩) (World.block_lt_of_cell? _ _ hBs)).trans hBs) (hX.below hW) h0
end Go.Proofs.Ythjkeefdeeljoaa.Shp
