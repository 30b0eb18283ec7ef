/- Masks in memory: Len, is, Get, Set. -/
import Derived.Test.YtnhieoeiiebjoaaDoorBits
namespace Go.Proofs.YtnhieoeiiebjoaaDoor.Bt
open Go.RowKit
set_option linter.unusedVariables false
set_option linter.unusedSimpArgs false

/-- A mask at T: its words in block g. -/
structure MaskW (w : World) (T g c : Nat) (cs : Array Value) (W : List Nat) (l : List Bool) : Prop where
  rep : Rep W l
  hT : Blk w T 46 #[.slice (some ⟨g, 0, none⟩) W.length c, .int .i64 (l.length : Nat)]
  hg : Blk w g 47 cs
  hc : ∀ i, i < W.length → cs[i]? = some (.int .u64 (nth W i : Nat))
  small : l.length ≤ 2097152
/-- .. whose blocks lie from B on. -/
def Mask (B : Nat) (w : World) (T : Nat) (l : List Bool) : Prop := ∃ g c cs W, MaskW w T g c cs W l ∧ B ≤ T ∧ B ≤ g
section
variable {w w' : World} {T g c B : Nat} {cs : Array Value} {W : List Nat} {l : List Bool}
theorem MaskW.below (h : MaskW w T g c cs W l) (hb : Below w.heap.size w w') : MaskW w' T g c cs W l := ⟨h.rep, h.hT.below' hb, h.hg.below' hb, h.hc, h.small⟩
theorem Mask.below (h : Mask B w T l) (hb : Below w.heap.size w w') : Mask B w' T l := by
  obtain ⟨g, c, cs, W, h, h1, h2⟩ := h
  exact ⟨g, c, cs, W, h.below hb, h1, h2⟩
theorem Mask.drewN (h : Mask B w T l) (n : Nat) : Mask B (w.drewN n) T l := h.below (bl_drewN (Below.refl _ _) n)
theorem MaskW.far (h : MaskW w T g c cs W l) {p : Addr} {t : TypeId} {ds : Array Value} (hp : Blk w p.block t ds) (h1 : 46 ≠ t) (h2 : 47 ≠ t) (u : Value) : MaskW (w.setCell p u) T g c cs W l :=
  ⟨h.rep, h.hT.far (Blk.ne_ h.hT hp h1) u, h.hg.far (Blk.ne_ h.hg hp h2) u, h.hc, h.small⟩
theorem Mask.far (h : Mask B w T l) {p : Addr} {t : TypeId} {ds : Array Value} (hp : Blk w p.block t ds) (h1 : 46 ≠ t) (h2 : 47 ≠ t) (u : Value) : Mask B (w.setCell p u) T l := by
  obtain ⟨g, c, cs, W, h, h3, h4⟩ := h
  exact ⟨g, c, cs, W, h.far hp h1 h2 u, h3, h4⟩
theorem MaskW.word (h : MaskW w T g c cs W l) (i : Nat) (hi : i < W.length) : w.cell? ⟨g, i, none⟩ = some (.int .u64 (nth W i : Nat)) := by rw [h.hg.cell, h.hc i hi]
/-- One word more written. -/
theorem MaskW.put (h : MaskW w T g c cs W l) (i x : Nat) {l2 : List Bool} (hi : i < W.length) (hr : Rep (W.set i x) l2) (hl : l2.length = l.length) : MaskW (w.setCell ⟨g, i, none⟩ (.int .u64 x)) T g c (cs.setIfInBounds i (.int .u64 x)) (W.set i x) l2 := by
  refine ⟨hr, ?_, h.hg.set i _, fun j hj => ?_, by rw [hl]; exact h.small⟩
  · rw [List.length_set, hl]
    exact h.hT.far (Blk.ne_ h.hT h.hg (by decide)) _
  · have hj' : j < W.length := by simpa using hj
    have hci := h.hc i hi
    have hlt : i < cs.size := (Array.getElem?_eq_some_iff.1 hci).1
    rw [nth_eq _ _ hj]
    by_cases e : i = j
    · subst e
      rw [Array.getElem?_setIfInBounds_self_of_lt hlt, List.getElem_set_self]
    · rw [Array.getElem?_setIfInBounds_ne e, h.hc j hj', List.getElem_set_ne e, ← nth_eq _ _ hj']
/-- All blocks but those of words are as they were. -/
def Keeps (w w' : World) : Prop := ∀ g t cs, Blk w g t cs → t ≠ 47 → Blk w' g t cs
theorem Keeps.refl (w : World) : Keeps w w := fun _ _ _ h _ => h
theorem Keeps.trans {w'' : World} (h : Keeps w w') (k : Keeps w' w'') : Keeps w w'' := fun g t cs hb ht => k g t cs (h g t cs hb ht) ht
theorem Keeps.below (h : Below w.heap.size w w') : Keeps w w' := fun g t cs hb _ => hb.below' h
theorem Keeps.set (h : MaskW w T g c cs W l) (i : Nat) (u : Value) : Keeps w (w.setCell ⟨g, i, none⟩ u) := fun g' t cs' hb ht => hb.far (Blk.ne_ hb h.hg ht) u
end

theorem len_calls (T g c : Nat) (cs : Array Value) (W : List Nat) (l : List Bool) (w : World) (h : MaskW w T g c cs W l) : Calls Tryd.prog 20 #[.pointer (some ⟨T, 0, none⟩)] w fun e w' => e = .returned (.int .i64 (l.length : Nat)) ∧ w = w' := by
  have c1 := h.hT.cell 1
  clear h
  go_enter Tryd.func20, Tryd.ntmps20
  go_wp2_with fail
  go_ret
  exact ⟨rfl, rfl⟩
theorem is_calls (T g c : Nat) (cs : Array Value) (W : List Nat) (l : List Bool) (j : Int) (w : World) (h : MaskW w T g c cs W l) : Calls Tryd.prog 19 #[.pointer (some ⟨T, 0, none⟩), .int .i64 j] w fun e w' => e = .returned (.bool (decide (0 ≤ j ∧ j < (l.length : Int)))) ∧ w = w' := by
  have HL := Lib.hid (len_calls T g c cs W l w h)
  clear h
  by_cases h0 : 0 ≤ j
  · go_enter Tryd.func19, Tryd.ntmps19
    go_wp2_with fail
    refine HL.out.mono ?_
    rintro e w' ⟨rfl, rfl⟩
    go_wp2_with fail
    go_ret
    exact ⟨ret_bool (by simp [h0]), rfl⟩
  · go_enter Tryd.func19, Tryd.ntmps19
    go_wp2_with fail
    go_ret
    exact ⟨ret_bool (by simp; omega), rfl⟩
theorem and_one (x s : Nat) (hx : x < 18446744073709551616) : bits .and .u64 ((x : Int) / 2 ^ s) 1 = ((x / 2 ^ s % 2 : Nat) : Int) := by
  have e : ((x : Int) / 2 ^ s) = ((x / 2 ^ s : Nat) : Int) := by
    show ((x : Int) / ((2 : Nat) : Int) ^ s) = _
    rw [← Int.natCast_pow]; rfl
  have h2 : x / 2 ^ s ≤ x := Nat.div_le_self _ _
  have := u64_and_nat (x / 2 ^ s) 1 (by omega) (by omega)
  rw [nat_mask1] at this
  rw [e]
  exact this
theorem get_calls (T g c : Nat) (cs : Array Value) (W : List Nat) (l : List Bool) (j : Int) (w : World) (h : MaskW w T g c cs W l) : Calls Tryd.prog 17 #[.pointer (some ⟨T, 0, none⟩), .int .i64 j] w fun e w' => e = .returned (.bool (decide (0 ≤ j ∧ j < (l.length : Int)) && tr l j.toNat)) ∧ w = w' := by
  have HI := is_calls T g c cs W l j w h
  by_cases hj : 0 ≤ j ∧ j < (l.length : Int)
  · rw [decide_eq_true hj] at HI ⊢
    have HI := Lib.hid HI
    obtain ⟨J, rfl⟩ : ∃ J : Nat, j = (J : Int) := ⟨j.toNat, by omega⟩
    have hJ : J < l.length := by omega
    have hk : J / 64 < W.length := by rw [h.rep.len]; omega
    have hw := h.word _ hk
    have c0 := h.hT.cell 0
    have hg := h.rep.get J hJ
    have HG := Lib.hid hg
    have hlt := h.rep.lt _ hk
    have hlen := h.rep.len
    have hsm := h.small
    rw [Int.toNat_natCast]
    generalize nth W (J / 64) = x at *
    have e1 : (J : Int).tdiv 64 = ((J / 64 : Nat) : Int) := by rw [Int.tdiv_eq_ediv_of_nonneg (by omega)]; rfl
    have e2 : (J : Int).tmod 64 = ((J % 64 : Nat) : Int) := by rw [Int.tmod_eq_emod_of_nonneg (by omega)]; rfl
    generalize J / 64 = q at *
    generalize W.length = n at *
    clear h hg
    go_enter Tryd.func17, Tryd.ntmps17
    go_wp2_with fail
    refine HI.out.mono ?_
    rintro e w' ⟨rfl, rfl⟩
    go_wp2_with fail
    go_ret
    exact ⟨ret_bool (by rw [and_one _ _ hlt, HG.out]; cases tr l J <;> rfl), rfl⟩
  · rw [decide_eq_false hj] at HI ⊢
    have HI := Lib.hid HI
    clear h hj
    go_enter Tryd.func17, Tryd.ntmps17
    go_wp2_with fail
    refine HI.out.mono ?_
    rintro e w' ⟨rfl, rfl⟩
    go_wp2_with fail
    go_ret
    exact ⟨rfl, rfl⟩
theorem pow_wrap (s : Nat) (hs : s < 64) : IntKind.u64.wrap (2 ^ s) = ((2 ^ s : Nat) : Int) := by
  have h : 2 ^ s < 2 ^ 64 := Nat.pow_lt_pow_right (by omega) hs
  show IntKind.u64.wrap (((2 : Nat) : Int) ^ s) = _
  rw [← Int.natCast_pow, IntKind.wrap_u64]
  generalize 2 ^ s = p at *
  omega
theorem or_pow (x s : Nat) (hx : x < 18446744073709551616) (hs : s < 64) : bits .or .u64 (x : Int) (IntKind.u64.wrap (2 ^ s)) = ((x ||| 2 ^ s : Nat) : Int) := by
  have h : 2 ^ s < 2 ^ 64 := Nat.pow_lt_pow_right (by omega) hs
  rw [pow_wrap s hs, u64_or_nat _ _ hx (by omega)]
theorem andNot_pow (x s : Nat) (hx : x < 18446744073709551616) (hs : s < 64) : bits .andNot .u64 (x : Int) (IntKind.u64.wrap (2 ^ s)) = ((x &&& (18446744073709551615 - 2 ^ s) : Nat) : Int) := by
  have h : 2 ^ s < 2 ^ 64 := Nat.pow_lt_pow_right (by omega) hs
  rw [pow_wrap s hs, u64_andNot_nat _ _ hx (by omega)]
theorem set_calls (T g c : Nat) (cs : Array Value) (W : List Nat) (l : List Bool) (j : Int) (b : Bool) (w : World) (h : MaskW w T g c cs W l) : Calls Tryd.prog 7 #[.pointer (some ⟨T, 0, none⟩), .int .i64 j, .bool b] w fun e w' => e = .returned (.bool (decide (0 ≤ j ∧ j < (l.length : Int)))) ∧ (0 ≤ j ∧ j < (l.length : Int) → ∃ cs' W', MaskW w' T g c cs' W' (l.set j.toNat b)) ∧ (¬ (0 ≤ j ∧ j < (l.length : Int)) → w = w') ∧ Keeps w w' ∧ Only g w w' := by
  have HI := is_calls T g c cs W l j w h
  by_cases hj : 0 ≤ j ∧ j < (l.length : Int)
  · rw [decide_eq_true hj] at HI ⊢
    have HI := Lib.hid HI
    obtain ⟨J, rfl⟩ : ∃ J : Nat, j = (J : Int) := ⟨j.toNat, by omega⟩
    have hJ : J < l.length := by omega
    have hk : J / 64 < W.length := by rw [h.rep.len]; omega
    have hw := h.word _ hk
    have c0 := h.hT.cell 0
    have hf := h.hg.frozen (J / 64)
    have hlt := h.rep.lt _ hk
    have hlen := h.rep.len
    have hsm := h.small
    have HM := Lib.hid h
    have HP := Lib.hid (fun x hx => h.put (J / 64) x hk (h.rep.set J b hJ x hx) (by simp))
    rw [Int.toNat_natCast]
    generalize nth W (J / 64) = x at *
    have e1 : (J : Int).tdiv 64 = ((J / 64 : Nat) : Int) := by rw [Int.tdiv_eq_ediv_of_nonneg (by omega)]; rfl
    have e2 : (J : Int).tmod 64 = ((J % 64 : Nat) : Int) := by rw [Int.tmod_eq_emod_of_nonneg (by omega)]; rfl
    generalize J / 64 = q at *
    clear h
    cases b
    all_goals
      go_enter Tryd.func7, Tryd.ntmps7
      go_wp2_with fail
      refine HI.out.mono ?_
      rintro e w' ⟨rfl, rfl⟩
      go_wp2_with fail
      go_ret
      first
        | (rw [or_pow _ _ hlt (by omega)]; exact ⟨rfl, fun _ => ⟨_, _, HP.out _ rfl⟩, fun k => absurd ⟨by omega, by omega⟩ k, Keeps.set HM.out _ _, Only.set (p := ⟨g, q, none⟩) (Only.refl g _) (.inl rfl) _⟩)
        | (rw [andNot_pow _ _ hlt (by omega)]; exact ⟨rfl, fun _ => ⟨_, _, HP.out _ rfl⟩, fun k => absurd ⟨by omega, by omega⟩ k, Keeps.set HM.out _ _, Only.set (p := ⟨g, q, none⟩) (Only.refl g _) (.inl rfl) _⟩)
  · rw [decide_eq_false hj] at HI ⊢
    have HI := Lib.hid HI
    have HJ := Lib.hid hj
    clear h hj
    go_enter Tryd.func7, Tryd.ntmps7
    go_wp2_with fail
    refine HI.out.mono ?_
    rintro e w' ⟨rfl, rfl⟩
    go_wp2_with fail
    go_ret
    exact ⟨rfl, fun k => absurd k HJ.out, fun _ => rfl, Keeps.refl _, Only.refl _ _⟩
end Go.Proofs.YtnhieoeiiebjoaaDoor.Bt
