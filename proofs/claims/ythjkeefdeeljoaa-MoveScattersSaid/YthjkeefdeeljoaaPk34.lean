/- Contracts and lemmas that the row of this claim stands on: Bits, Mask, Fill. -/
import Derived.Test.YthjkeefdeeljoaaPk33
import Derived.Test.YthjkeefdeeljoaaPk3
import Derived.BigQuiet
import Derived.IntWalk
import Derived.Laws.BitsAllLaws
import Derived.Deep.RegionWith
/- The functions of bits. -/
namespace Go.Proofs.Ythjkeefdeeljoaa.Bt
open Go.RowKit
set_option linter.unusedVariables false
set_option linter.unusedSimpArgs false

theorem words_calls (n : Nat) (hn : n ≤ 1099511627776) (w : World) : Calls Try.prog 125 #[.int .i64 (n : Nat)] w fun e w' => e = .returned (.int .i64 ((n + 63) / 64 : Nat)) ∧ w = w' := by
  have e1 : (((n : Int) + 64 - 1).tdiv 64) = (((n + 63) / 64 : Nat) : Int) := by rw [Int.tdiv_eq_ediv_of_nonneg (by omega)]; omega
  go_enter Try.func125, Try.ntmps125
  go_wp2_with fail
  go_ret
  exact ⟨by simp, rfl⟩

theorem ret_u64 {a b : Int} (h : a = b) : Ending.returned (.int .u64 a) = Ending.returned (.int .u64 b) := by rw [h]
theorem ret_i64 {a b : Int} (h : a = b) : Ending.returned (.int .i64 a) = Ending.returned (.int .i64 b) := by rw [h]
theorem span_val (lo hi : Nat) (h : lo < hi) : bits .and .u64 (IntKind.u64.wrap (18446744073709551615 * 2 ^ lo)) (18446744073709551615 / 2 ^ (64 - hi)) = ((spanW lo hi : Nat) : Int) := by
  have e1 : IntKind.u64.wrap (18446744073709551615 * 2 ^ lo) = ((18446744073709551615 * 2 ^ lo % 18446744073709551616 : Nat) : Int) := by
    show IntKind.u64.wrap (((18446744073709551615 : Nat) : Int) * ((2 : Nat) : Int) ^ lo) = _
    rw [IntKind.wrap_u64, ← Int.natCast_pow, ← Int.natCast_mul]; rfl
  have e2 : ((18446744073709551615 : Int) / 2 ^ (64 - hi)) = ((18446744073709551615 / 2 ^ (64 - hi) : Nat) : Int) := by
    show (((18446744073709551615 : Nat) : Int) / ((2 : Nat) : Int) ^ (64 - hi)) = _
    rw [← Int.natCast_pow]; rfl
  have h2 : 18446744073709551615 / 2 ^ (64 - hi) ≤ 18446744073709551615 := Nat.div_le_self _ _
  rw [e1, e2, u64_and_nat _ _ (Nat.mod_lt _ (by omega)) (by omega)]
  unfold spanW
  rw [if_neg (by omega)]
theorem span_val0 (hi : Nat) (h : 0 < hi) : bits .and .u64 18446744073709551615 (18446744073709551615 / 2 ^ (64 - hi)) = ((spanW 0 hi : Nat) : Int) := by
  have := span_val 0 hi h
  rwa [show IntKind.u64.wrap (18446744073709551615 * 2 ^ 0) = 18446744073709551615 by rw [IntKind.wrap_u64]; rfl] at this
theorem span_val1 (lo : Nat) (h : lo < 64) : bits .and .u64 (IntKind.u64.wrap (18446744073709551615 * 2 ^ lo)) 18446744073709551615 = ((spanW lo 64 : Nat) : Int) := by
  have := span_val lo 64 h
  rwa [show ((18446744073709551615 : Int) / 2 ^ (64 - 64)) = 18446744073709551615 by rfl] at this
theorem span_val2 : bits .and .u64 18446744073709551615 18446744073709551615 = ((spanW 0 64 : Nat) : Int) := by
  have := span_val1 0 (by omega)
  rwa [show IntKind.u64.wrap (18446744073709551615 * 2 ^ 0) = 18446744073709551615 by rw [IntKind.wrap_u64]; rfl] at this
theorem span_calls (k f t : Nat) (hk : k ≤ 1099511627776) (hf : f ≤ 9223372036854775807) (ht : t ≤ 1099511627776) (w : World) : Calls Try.prog 140 #[.int .i64 (k : Nat), .int .i64 (f : Nat), .int .i64 (t : Nat)] w fun e w' => e = .returned (.int .u64 (spanN k f t : Nat)) ∧ ∃ n, w' = w.drewN n := by
  by_cases c0 : min (t - 64 * k) 64 ≤ f - 64 * k
  · have h0 : spanN k f t = 0 := by unfold spanN spanW; rw [if_pos c0]
    rw [h0]
    by_cases c1 : f < 64 * k <;> by_cases c2 : t ≤ 64 * k + 64
    all_goals
      go_enter Try.func140, Try.ntmps140
      go_wp2_with fail
      try (go_ret; exact ⟨rfl, 0, rfl⟩)
  · by_cases c1 : f < 64 * k <;> by_cases c2 : t ≤ 64 * k + 64
    all_goals
      go_enter Try.func140, Try.ntmps140
      go_wp2_with fail
      go_quiet (fail)
      all_goals
        go_wp2_with fail
        go_ret
        refine ⟨ret_u64 ?_, nq, rfl⟩
        first
          | (rw [span_val0 _ (by omega)]; unfold spanN; congr 2 <;> omega)
          | (rw [span_val1 _ (by omega)]; unfold spanN; congr 2 <;> omega)
          | (rw [span_val2]; unfold spanN; congr 2 <;> omega)
          | (rw [span_val _ _ (by omega)]; unfold spanN; congr 2 <;> omega)
end Go.Proofs.Ythjkeefdeeljoaa.Bt
/- Masks in memory: Len, is, Get, Set. -/
namespace Go.Proofs.Ythjkeefdeeljoaa.Bt
open Go.RowKit
set_option linter.unusedVariables false
set_option linter.unusedSimpArgs false

/-- A mask at T: its words in block g. -/
structure MaskW (w : World) (T g c : Nat) (cs : Array Value) (W : List Nat) (l : List Bool) : Prop where
  rep : Rep W l
  hT : Blk w T 149 #[.slice (some ⟨g, 0, none⟩) W.length c, .int .i64 (l.length : Nat)]
  hg : Blk w g 151 cs
  hc : ∀ i, i < W.length → cs[i]? = some (.int .u64 (nth W i : Nat))
  small : l.length ≤ 2097152
/-- .. whose blocks lie from B on. -/
def Mask (B : Nat) (w : World) (T : Nat) (l : List Bool) : Prop := ∃ g c cs W, MaskW w T g c cs W l ∧ B ≤ T ∧ B ≤ g
section
variable {w w' : World} {T g c B : Nat} {cs : Array Value} {W : List Nat} {l : List Bool}
theorem MaskW.below (h : MaskW w T g c cs W l) (hb : Below w.heap.size w w') : MaskW w' T g c cs W l := ⟨h.rep, h.hT.below' hb, h.hg.below' hb, h.hc, h.small⟩
theorem Mask.below (h : Mask B w T l) (hb : Below w.heap.size w w') : Mask B w' T l := by
  obtain ⟨g, c, cs, W, h, h1, h2⟩ := h
  exact ⟨g, c, cs, W, h.below hb, h1, h2⟩
theorem Mask.drewN (h : Mask B w T l) (n : Nat) : Mask B (w.drewN n) T l := h.below (bl_drewN (Below.refl _ _) n)
theorem MaskW.far (h : MaskW w T g c cs W l) {p : Addr} {t : TypeId} {ds : Array Value} (hp : Blk w p.block t ds) (h1 : 149 ≠ t) (h2 : 151 ≠ t) (u : Value) : MaskW (w.setCell p u) T g c cs W l :=
  ⟨h.rep, h.hT.far (Blk.ne_ h.hT hp h1) u, h.hg.far (Blk.ne_ h.hg hp h2) u, h.hc, h.small⟩
theorem Mask.far (h : Mask B w T l) {p : Addr} {t : TypeId} {ds : Array Value} (hp : Blk w p.block t ds) (h1 : 149 ≠ t) (h2 : 151 ≠ t) (u : Value) : Mask B (w.setCell p u) T l := by
  obtain ⟨g, c, cs, W, h, h3, h4⟩ := h
  exact ⟨g, c, cs, W, h.far hp h1 h2 u, h3, h4⟩
theorem MaskW.word (h : MaskW w T g c cs W l) (i : Nat) (hi : i < W.length) : w.cell? ⟨g, i, none⟩ = some (.int .u64 (nth W i : Nat)) := by rw [h.hg.cell, h.hc i hi]
/-- One word more written. -/
theorem MaskW.put (h : MaskW w T g c cs W l) (i x : Nat) {l2 : List Bool} (hi : i < W.length) (hr : Rep (W.set i x) l2) (hl : l2.length = l.length) : MaskW (w.setCell ⟨g, i, none⟩ (.int .u64 x)) T g c (cs.setIfInBounds i (.int .u64 x)) (W.set i x) l2 := by
  refine ⟨hr, ?_, h.hg.set i _, fun j hj => ?_, by rw [hl]; exact h.small⟩
  · rw [List.length_set, hl]
    exact h.hT.far (Blk.ne_ h.hT h.hg (by decide)) _
  · have hj' : j < W.length := by simpa using hj
    have hci := h.hc i hi
    have hlt : i < cs.size := (Array.getElem?_eq_some_iff.1 hci).1
    rw [nth_eq _ _ hj]
    by_cases e : i = j
    · subst e
      rw [Array.getElem?_setIfInBounds_self_of_lt hlt, List.getElem_set_self]
    · rw [Array.getElem?_setIfInBounds_ne e, h.hc j hj', List.getElem_set_ne e, ← nth_eq _ _ hj']
/-- All blocks but those of words are as they were. -/
def Keeps (w w' : World) : Prop := ∀ g t cs, Blk w g t cs → t ≠ 151 → Blk w' g t cs
theorem Keeps.refl (w : World) : Keeps w w := fun _ _ _ h _ => h
theorem Keeps.trans {w'' : World} (h : Keeps w w') (k : Keeps w' w'') : Keeps w w'' := fun g t cs hb ht => k g t cs (h g t cs hb ht) ht
theorem Keeps.below (h : Below w.heap.size w w') : Keeps w w' := fun g t cs hb _ => hb.below' h
theorem Keeps.set (h : MaskW w T g c cs W l) (i : Nat) (u : Value) : Keeps w (w.setCell ⟨g, i, none⟩ u) := fun g' t cs' hb ht => hb.far (Blk.ne_ hb h.hg ht) u
end

theorem len_calls (T g c : Nat) (cs : Array Value) (W : List Nat) (l : List Bool) (w : World) (h : MaskW w T g c cs W l) : Calls Try.prog 139 #[.pointer (some ⟨T, 0, none⟩)] w fun e w' => e = .returned (.int .i64 (l.length : Nat)) ∧ w = w' := by
  have c1 := h.hT.cell 1
  clear h
  go_enter Try.func139, Try.ntmps139
  go_wp2_with fail
  go_ret
  exact ⟨rfl, rfl⟩
theorem is_calls (T g c : Nat) (cs : Array Value) (W : List Nat) (l : List Bool) (j : Int) (w : World) (h : MaskW w T g c cs W l) : Calls Try.prog 127 #[.pointer (some ⟨T, 0, none⟩), .int .i64 j] w fun e w' => e = .returned (.bool (decide (0 ≤ j ∧ j < (l.length : Int)))) ∧ w = w' := by
  have HL := Lib.hid (len_calls T g c cs W l w h)
  clear h
  by_cases h0 : 0 ≤ j
  · go_enter Try.func127, Try.ntmps127
    go_wp2_with fail
    refine HL.out.mono ?_
    rintro e w' ⟨rfl, rfl⟩
    go_wp2_with fail
    go_ret
    exact ⟨ret_bool (by simp [h0]), rfl⟩
  · go_enter Try.func127, Try.ntmps127
    go_wp2_with fail
    go_ret
    exact ⟨ret_bool (by simp; omega), rfl⟩
theorem and_one (x s : Nat) (hx : x < 18446744073709551616) : bits .and .u64 ((x : Int) / 2 ^ s) 1 = ((x / 2 ^ s % 2 : Nat) : Int) := by
  have e : ((x : Int) / 2 ^ s) = ((x / 2 ^ s : Nat) : Int) := by
    show ((x : Int) / ((2 : Nat) : Int) ^ s) = _
    rw [← Int.natCast_pow]; rfl
  have h2 : x / 2 ^ s ≤ x := Nat.div_le_self _ _
  have := u64_and_nat (x / 2 ^ s) 1 (by omega) (by omega)
  rw [nat_mask1] at this
  rw [e]
  exact this
theorem get_calls (T g c : Nat) (cs : Array Value) (W : List Nat) (l : List Bool) (j : Int) (w : World) (h : MaskW w T g c cs W l) : Calls Try.prog 101 #[.pointer (some ⟨T, 0, none⟩), .int .i64 j] w fun e w' => e = .returned (.bool (decide (0 ≤ j ∧ j < (l.length : Int)) && tr l j.toNat)) ∧ w = w' := by
  have HI := is_calls T g c cs W l j w h
  by_cases hj : 0 ≤ j ∧ j < (l.length : Int)
  · rw [decide_eq_true hj] at HI ⊢
    have HI := Lib.hid HI
    obtain ⟨J, rfl⟩ : ∃ J : Nat, j = (J : Int) := ⟨j.toNat, by omega⟩
    have hJ : J < l.length := by omega
    have hk : J / 64 < W.length := by rw [h.rep.len]; omega
    have hw := h.word _ hk
    have c0 := h.hT.cell 0
    have hg := h.rep.get J hJ
    have HG := Lib.hid hg
    have hlt := h.rep.lt _ hk
    have hlen := h.rep.len
    have hsm := h.small
    rw [Int.toNat_natCast]
    generalize nth W (J / 64) = x at *
    have e1 : (J : Int).tdiv 64 = ((J / 64 : Nat) : Int) := by rw [Int.tdiv_eq_ediv_of_nonneg (by omega)]; rfl
    have e2 : (J : Int).tmod 64 = ((J % 64 : Nat) : Int) := by rw [Int.tmod_eq_emod_of_nonneg (by omega)]; rfl
    generalize J / 64 = q at *
    generalize W.length = n at *
    clear h hg
    go_enter Try.func101, Try.ntmps101
    go_wp2_with fail
    refine HI.out.mono ?_
    rintro e w' ⟨rfl, rfl⟩
    go_wp2_with fail
    go_ret
    exact ⟨ret_bool (by rw [and_one _ _ hlt, HG.out]; cases tr l J <;> rfl), rfl⟩
  · rw [decide_eq_false hj] at HI ⊢
    have HI := Lib.hid HI
    clear h hj
    go_enter Try.func101, Try.ntmps101
    go_wp2_with fail
    refine HI.out.mono ?_
    rintro e w' ⟨rfl, rfl⟩
    go_wp2_with fail
    go_ret
    exact ⟨rfl, rfl⟩
theorem pow_wrap (s : Nat) (hs : s < 64) : IntKind.u64.wrap (2 ^ s) = ((2 ^ s : Nat) : Int) := by
  have h : 2 ^ s < 2 ^ 64 := Nat.pow_lt_pow_right (by omega) hs
  show IntKind.u64.wrap (((2 : Nat) : Int) ^ s) = _
  rw [← Int.natCast_pow, IntKind.wrap_u64]
  generalize 2 ^ s = p at *
  omega
theorem or_pow (x s : Nat) (hx : x < 18446744073709551616) (hs : s < 64) : bits .or .u64 (x : Int) (IntKind.u64.wrap (2 ^ s)) = ((x ||| 2 ^ s : Nat) : Int) := by
  have h : 2 ^ s < 2 ^ 64 := Nat.pow_lt_pow_right (by omega) hs
  rw [pow_wrap s hs, u64_or_nat _ _ hx (by omega)]
theorem andNot_pow (x s : Nat) (hx : x < 18446744073709551616) (hs : s < 64) : bits .andNot .u64 (x : Int) (IntKind.u64.wrap (2 ^ s)) = ((x &&& (18446744073709551615 - 2 ^ s) : Nat) : Int) := by
  have h : 2 ^ s < 2 ^ 64 := Nat.pow_lt_pow_right (by omega) hs
  rw [pow_wrap s hs, u64_andNot_nat _ _ hx (by omega)]
theorem set_calls (T g c : Nat) (cs : Array Value) (W : List Nat) (l : List Bool) (j : Int) (b : Bool) (w : World) (h : MaskW w T g c cs W l) : Calls Try.prog 102 #[.pointer (some ⟨T, 0, none⟩), .int .i64 j, .bool b] w fun e w' => e = .returned (.bool (decide (0 ≤ j ∧ j < (l.length : Int)))) ∧ (0 ≤ j ∧ j < (l.length : Int) → ∃ cs' W', MaskW w' T g c cs' W' (l.set j.toNat b)) ∧ (¬ (0 ≤ j ∧ j < (l.length : Int)) → w = w') ∧ Keeps w w' ∧ Only g w w' := by
  have HI := is_calls T g c cs W l j w h
  by_cases hj : 0 ≤ j ∧ j < (l.length : Int)
  · rw [decide_eq_true hj] at HI ⊢
    have HI := Lib.hid HI
    obtain ⟨J, rfl⟩ : ∃ J : Nat, j = (J : Int) := ⟨j.toNat, by omega⟩
    have hJ : J < l.length := by omega
    have hk : J / 64 < W.length := by rw [h.rep.len]; omega
    have hw := h.word _ hk
    have c0 := h.hT.cell 0
    have hf := h.hg.frozen (J / 64)
    have hlt := h.rep.lt _ hk
    have hlen := h.rep.len
    have hsm := h.small
    have HM := Lib.hid h
    have HP := Lib.hid (fun x hx => h.put (J / 64) x hk (h.rep.set J b hJ x hx) (by simp))
    rw [Int.toNat_natCast]
    generalize nth W (J / 64) = x at *
    have e1 : (J : Int).tdiv 64 = ((J / 64 : Nat) : Int) := by rw [Int.tdiv_eq_ediv_of_nonneg (by omega)]; rfl
    have e2 : (J : Int).tmod 64 = ((J % 64 : Nat) : Int) := by rw [Int.tmod_eq_emod_of_nonneg (by omega)]; rfl
    generalize J / 64 = q at *
    clear h
    cases b
    all_goals
      go_enter Try.func102, Try.ntmps102
      go_wp2_with fail
      refine HI.out.mono ?_
      rintro e w' ⟨rfl, rfl⟩
      go_wp2_with fail
      go_ret
      first
        | (rw [or_pow _ _ hlt (by omega)]; exact ⟨rfl, fun _ => ⟨_, _, HP.out _ rfl⟩, fun k => absurd ⟨by omega, by omega⟩ k, Keeps.set HM.out _ _, Only.set (p := ⟨g, q, none⟩) (Only.refl g _) (.inl rfl) _⟩)
        | (rw [andNot_pow _ _ hlt (by omega)]; exact ⟨rfl, fun _ => ⟨_, _, HP.out _ rfl⟩, fun k => absurd ⟨by omega, by omega⟩ k, Keeps.set HM.out _ _, Only.set (p := ⟨g, q, none⟩) (Only.refl g _) (.inl rfl) _⟩)
  · rw [decide_eq_false hj] at HI ⊢
    have HI := Lib.hid HI
    have HJ := Lib.hid hj
    clear h hj
    go_enter Try.func102, Try.ntmps102
    go_wp2_with fail
    refine HI.out.mono ?_
    rintro e w' ⟨rfl, rfl⟩
    go_wp2_with fail
    go_ret
    exact ⟨rfl, fun k => absurd k HJ.out, fun _ => rfl, Keeps.refl _, Only.refl _ _⟩
end Go.Proofs.Ythjkeefdeeljoaa.Bt
/- Fill. -/
namespace Go.Proofs.Ythjkeefdeeljoaa.Bt
open Go.RowKit
set_option linter.unusedVariables false
set_option linter.unusedSimpArgs false

theorem Keeps.drewN {w w' : World} (h : Keeps w w') (n : Nat) : Keeps w (w'.drewN n) := fun g t cs hb ht => (h g t cs hb ht).drewN n
theorem Only.drewN {T : Nat} {w w' : World} (h : Only T w w') (n : Nat) : Only T w (w'.drewN n) := ⟨h.os, h.tape, h.output, h.size, h.other⟩
theorem or_nat (x y : Nat) (hx : x < 18446744073709551616) (hy : y < 18446744073709551616) : bits .or .u64 (x : Int) (y : Int) = ((x ||| y : Nat) : Int) := u64_or_nat _ _ hx hy
theorem andNot_nat (x y : Nat) (hx : x < 18446744073709551616) (hy : y < 18446744073709551616) : bits .andNot .u64 (x : Int) (y : Int) = ((x &&& (18446744073709551615 - y) : Nat) : Int) := u64_andNot_nat _ _ hx hy

set_option maxHeartbeats 2000000 in
theorem fill_yes (T g c : Nat) (cs : Array Value) (W : List Nat) (l : List Bool) (f t : Nat) (b : Bool) (w : World) (h : MaskW w T g c cs W l) (h1 : f ≤ t) (h2 : t ≤ l.length) : Calls Try.prog 126 #[.pointer (some ⟨T, 0, none⟩), .int .i64 (f : Nat), .int .i64 (t : Nat), .bool b] w fun e w' => e = .returned (.bool true) ∧ (∃ cs' W', MaskW w' T g c cs' W' (fillL l f t b)) ∧ Keeps w w' ∧ Only g w w' := by
  have hsm := h.small
  have HL := Lib.hid (len_calls T g c cs W l w h)
  have HM := Lib.hid h
  have hlen := h.rep.len
  have e0 : (f : Int).tdiv 64 = ((f / 64 : Nat) : Int) := by rw [Int.tdiv_eq_ediv_of_nonneg (by omega)]; rfl
  have HWD := Lib.hid (fun w => words_calls t (by omega) w)
  have HSP := Lib.hid (fun k (hk : k ≤ 1099511627776) w => span_calls k f t hk (by omega) (by omega) w)
  clear h
  go_enter Try.func126, Try.ntmps126
  go_wp2_with fail
  refine HL.out.mono ?_
  rintro e w' ⟨rfl, rfl⟩
  go_wp2_with fail
  simp only [show decide (t < f) = false by simp; omega, show decide (l.length < t) = false by simp; omega, show decide ((f : Int) < 0) = false by simp, Bool.or_false]
  go_loopw [9] (fun i wr => ∃ (k : Nat) (cs' : Array Value) (W' : List Nat), i = .int .i64 k ∧ f / 64 ≤ k ∧ k ≤ (t + 63) / 64 + f / 64 ∧ Hid (MaskW wr T g c cs' W' (fillL l f (min t (64 * k)) b)) ∧ Hid (Keeps w wr) ∧ Hid (Only g w wr)) (fun i _ => (t + 63) / 64 + f / 64 - (intOf i).toNat)
  case atStart => exact ⟨f / 64, cs, W, rfl, Nat.le_refl _, by omega, Lib.hid (by rw [fillL_none _ _ _ _ (by omega)]; exact HM.out), Lib.hid (Keeps.refl _), Lib.hid (Only.refl _ _)⟩
  case round =>
    obtain ⟨k, cs', W', rfl, hk0, hk1, HM', HK, HO⟩ := hrel
    go_wp2_with fail
    refine (HWD.out _).mono ?_
    rintro e w' ⟨rfl, rfl⟩
    by_cases hlt : k < (t + 63) / 64
    · have hlen' := HM'.out.rep.len
      rw [fillL_length] at hlen'
      have hkW : k < W'.length := by omega
      have hw := HM'.out.word _ hkW
      have c0 := HM'.out.hT.cell 0
      have hf := HM'.out.hg.frozen k
      have hlx := HM'.out.rep.lt _ hkW
      have hly := spanN_lt k f t
      have HMD := Lib.hid (fun m => HM'.out.below (bl_drewN (Below.refl wr.heap.size wr) m))
      have HP := Lib.hid (fun m x hx => (HM'.out.below (bl_drewN (Below.refl wr.heap.size wr) m)).put k x hkW (HM'.out.rep.fill k f t b hkW h2 x hx) (by rw [fillL_length, fillL_length]))
      generalize nth W' k = x at *
      have HS := Lib.hid (fun w => HSP.out k (by omega) w)
      generalize spanN k f t = y at *
      cases b
      · go_wp2_with fail
        go_region_with (go_at_call 140; refine (HS.out _).mono ?_; rintro e w' ⟨rfl, n, rfl⟩)
        all_goals
          rw [andNot_nat _ _ hlx hly]
          have HM2 := Lib.hid (HP.out (1 + n) _ rfl)
          have HK2 := Lib.hid ((HK.out.drewN (1 + n)).trans (Keeps.set (HMD.out (1 + n)) k (.int .u64 ((x &&& (18446744073709551615 - y) : Nat) : Int))))
          have HO2 := Lib.hid (Only.set (p := ⟨g, k, none⟩) (Only.drewN HO.out (1 + n)) (.inl rfl) (.int .u64 ((x &&& (18446744073709551615 - y) : Nat) : Int)))
          go_wp2_with fail
          go_roundw
          case measure => simp [intOf]; omega
          case rel => exact ⟨k + 1, _, _, by go_num, by omega, by omega, HM2, HK2, HO2⟩
      · go_wp2_with fail
        go_region_with (go_at_call 140; refine (HS.out _).mono ?_; rintro e w' ⟨rfl, n, rfl⟩)
        all_goals
          rw [or_nat _ _ hlx hly]
          have HM2 := Lib.hid (HP.out (1 + n) _ rfl)
          have HK2 := Lib.hid ((HK.out.drewN (1 + n)).trans (Keeps.set (HMD.out (1 + n)) k (.int .u64 ((x ||| y : Nat) : Int))))
          have HO2 := Lib.hid (Only.set (p := ⟨g, k, none⟩) (Only.drewN HO.out (1 + n)) (.inl rfl) (.int .u64 ((x ||| y : Nat) : Int)))
          go_wp2_with fail
          go_roundw
          case measure => simp [intOf]; omega
          case rel => exact ⟨k + 1, _, _, by go_num, by omega, by omega, HM2, HK2, HO2⟩
    · have HE : Hid (fillL l f (min t (64 * k)) b = fillL l f t b) := Lib.hid (by rw [Nat.min_eq_left (by omega)])
      go_wp2_with fail
      go_ret
      exact ⟨rfl, ⟨_, _, by rw [← HE.out]; exact HM'.out⟩, HK.out, HO.out⟩
theorem fill_no (T g c : Nat) (cs : Array Value) (W : List Nat) (l : List Bool) (f t : Int) (b : Bool) (w : World) (h : MaskW w T g c cs W l) (h1 : ¬ (0 ≤ f ∧ f ≤ t ∧ t ≤ (l.length : Int))) : Calls Try.prog 126 #[.pointer (some ⟨T, 0, none⟩), .int .i64 f, .int .i64 t, .bool b] w fun e w' => e = .returned (.bool false) ∧ w = w' := by
  have HL := Lib.hid (len_calls T g c cs W l w h)
  have hsm := h.small
  clear h
  by_cases c1 : f < 0
  · clear h1
    go_enter Try.func126, Try.ntmps126
    go_wp2_with fail
    go_ret
    exact ⟨rfl, rfl⟩
  by_cases c2 : t < f
  · clear h1
    go_enter Try.func126, Try.ntmps126
    go_wp2_with fail
    go_ret
    exact ⟨rfl, rfl⟩
  have c3 : (l.length : Int) < t := by omega
  clear h1
  go_enter Try.func126, Try.ntmps126
  go_wp2_with fail
  refine HL.out.mono ?_
  rintro e w' ⟨rfl, rfl⟩
  go_wp2_with fail
  go_ret
  exact ⟨rfl, rfl⟩
end Go.Proofs.Ythjkeefdeeljoaa.Bt
