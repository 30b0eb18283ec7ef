/- Contracts and lemmas that the row of this claim stands on: Chg, Chg2, Chg3. -/
import Derived.Test.YthjkeefdeeljoaaPk13
import Derived.Test.YthjkeefdeeljoaaPk25
import Derived.Test.YthjkeefdeeljoaaPk23
import Derived.Deep.RegionHeld3
/- view.clone: rows of its own. -/
namespace Go.Proofs.Ythjkeefdeeljoaa.Shp
open Go.RowKit
set_option linter.unusedVariables false
set_option linter.unusedSimpArgs false

theorem sclone3 (xs : List Int) (A : Option Addr) (ca n : Nat) (w : World) (hn : xs.length = n) (hx : ReadsI w .i64 A xs) (hl : n ≤ 1000000) (h0 : 0 < n) : Calls Try.prog 58 #[.slice A n ca] w fun e w' => ∃ g c', e = .returned (.slice (some ⟨g, 0, none⟩) n c') ∧ Hid (OwnI w' w.heap.size 3 .i64 (.slice (some ⟨g, 0, none⟩) n c') xs) ∧ Hid (Below w.heap.size w w') := by
  subst hn
  refine (sclone_calls xs A ca w hx hl (fun h => by
    obtain ⟨b, off, e, _⟩ := hx 0 h0
    rw [h] at e; cases e)).mono ?_
  rintro e w' ⟨v, rfl, ho, hs, hB⟩
  obtain ⟨g, cap, rfl⟩ := hs (fun h => by rw [h] at h0; simp at h0)
  exact ⟨g, cap, rfl, Lib.hid ho, Lib.hid hB⟩
theorem iclone3 (xs : List Int) (A : Option Addr) (ca n : Nat) (w : World) (hn : xs.length = n) (hx : ReadsI w .i64 A xs) (hl : n ≤ 1000000) (h0 : 0 < n) : Calls Try.prog 59 #[.slice A n ca] w fun e w' => ∃ g c', e = .returned (.slice (some ⟨g, 0, none⟩) n c') ∧ Hid (OwnI w' w.heap.size 3 .i64 (.slice (some ⟨g, 0, none⟩) n c') xs) ∧ Hid (Below w.heap.size w w') := by
  subst hn
  refine (iclone_calls xs A ca w hx hl (fun h => by
    obtain ⟨b, off, e, _⟩ := hx 0 h0
    rw [h] at e; cases e)).mono ?_
  rintro e w' ⟨v, rfl, ho, hs, hB⟩
  obtain ⟨g, cap, rfl⟩ := hs (fun h => by rw [h] at h0; simp at h0)
  exact ⟨g, cap, rfl, Lib.hid ho, Lib.hid hB⟩
theorem own_ge {w : World} {base g n cap : Nat} {e : TypeId} {k : IntKind} {xs : List Int} (h : OwnI w base e k (.slice (some ⟨g, 0, none⟩) n cap) xs) : base ≤ g ∧ g < w.heap.size := own_lt h g rfl
theorem own_set {w : World} {base g n cap : Nat} {e : TypeId} {k : IntKind} {xs : List Int} (h : OwnI w base e k (.slice (some ⟨g, 0, none⟩) n cap) xs) (p : Addr) (u : Value) (hp : p.block ≠ g) : OwnI (w.setCell p u) base e k (.slice (some ⟨g, 0, none⟩) n cap) xs := by
  refine ⟨h.1, ?_⟩
  rcases h.2 with hn | ⟨g', cap', cur, h1, h2, h3, h4⟩
  · exact .inl hn
  · refine .inr ⟨g', cap', cur, h1, h2, ?_, h4⟩
    simp only [Value.slice.injEq, Option.some.injEq, Addr.mk.injEq, and_true, true_and] at h1
    exact (Below.heap_setCell _ _ _ _ (fun e => hp (by rw [← e, h1.1]))).trans h3
theorem own_only {w w' : World} {T base g n cap : Nat} {e : TypeId} {k : IntKind} {xs : List Int} (h : OwnI w base e k (.slice (some ⟨g, 0, none⟩) n cap) xs) (ho : Only T w w') (hne : g ≠ T) : OwnI w' base e k (.slice (some ⟨g, 0, none⟩) n cap) xs := by
  refine ⟨h.1, ?_⟩
  rcases h.2 with hn | ⟨g', cap', cur, h1, h2, h3, h4⟩
  · exact .inl hn
  · refine .inr ⟨g', cap', cur, h1, h2, ?_, h4⟩
    simp only [Value.slice.injEq, Option.some.injEq, Addr.mk.injEq, and_true, true_and] at h1
    exact (ho.other _ (Array.getElem?_eq_some_iff.1 h3).1 (by rw [← h1.1]; exact hne)).trans h3

theorem held_view {H : Nat} {W : World} {T : TypeId} (h2 : Blk W H T #[.slice none 0 0, .slice none 0 0, .int .i64 0]) :
    W.cell? ⟨H, 0, none⟩ = some (.slice none 0 0) ∧ W.cell? ⟨H, 1, none⟩ = some (.slice none 0 0) ∧ W.cell? ⟨H, 2, none⟩ = some (.int .i64 0) ∧ W.frozen? ⟨H, 0, none⟩ = false ∧ W.frozen? ⟨H, 1, none⟩ = false ∧ W.frozen? ⟨H, 2, none⟩ = false := ⟨h2.cell 0, h2.cell 1, h2.cell 2, h2.frozen 0, h2.frozen 1, h2.frozen 2⟩
set_option maxHeartbeats 2000000 in
theorem vclone_calls (xs ys : List Int) (off : Int) (A B : Option Addr) (ca cb n m : Nat) (w : World) (hx : ReadsI w .i64 A xs) (hy : ReadsI w .i64 B ys) (hn : xs.length = n) (hm : ys.length = m) (hl : n ≤ 1000000) (hl2 : m ≤ 1000000) (h0 : 0 < n) (h1 : 0 < m) :
    Calls Try.prog 111 #[.agg #[.slice A n ca, .slice B m cb, .int .i64 off]] w fun e w' => ∃ gA c gB d, e = .returned (.agg #[.slice (some ⟨gA, 0, none⟩) n c, .slice (some ⟨gB, 0, none⟩) m d, .int .i64 off]) ∧ OwnI w' w.heap.size 3 .i64 (.slice (some ⟨gA, 0, none⟩) n c) xs ∧ OwnI w' w.heap.size 3 .i64 (.slice (some ⟨gB, 0, none⟩) m d) ys ∧ gA ≠ gB ∧ Below w.heap.size w w' := by
  obtain ⟨W0, hW0⟩ : ∃ W0, W0 = (w.alloc (.cells #[.slice A n ca, .slice B m cb, .int .i64 off] 34)).alloc (.cells #[.slice none 0 0, .slice none 0 0, .int .i64 0] 34) := ⟨_, rfl⟩
  have hb0 : Below w.heap.size w W0 := by rw [hW0]; exact bl_alloc (bl_alloc (Below.refl _ _) _) _
  have hbox : Blk W0 w.heap.size 34 #[.slice A n ca, .slice B m cb, .int .i64 off] := by rw [hW0]; exact (Blk.new _ _ _).alloc _
  have hres : Blk W0 (w.heap.size + 1) 34 #[.slice none 0 0, .slice none 0 0, .int .i64 0] := by rw [hW0]; exact Blk.new' (by simp) _ _
  have hs0 : W0.heap.size = w.heap.size + 2 := by rw [hW0]; simp
  have HB0 := Lib.hid hb0
  have HBOX := Lib.hid hbox
  have HRES := Lib.hid hres
  have HS0 := Lib.hid hs0
  have HX := Lib.hid (hx.below hb0)
  have HY := Lib.hid (hy.below hb0)
  have HN := Lib.hid hn
  have HM := Lib.hid hm
  have HW0 := Lib.hid hW0
  clear hb0 hbox hres hs0 hx hy hn hm hW0
  go_enter Try.func111, Try.ntmps111
  go_wp2_with fail
  rw [← HW0.out]
  have c0 : W0.cell? ⟨w.heap.size, 0, none⟩ = some (.slice A n ca) := HBOX.out.cell 0
  have c1 : W0.cell? ⟨w.heap.size, 1, none⟩ = some (.slice B m cb) := HBOX.out.cell 1
  have c2 : W0.cell? ⟨w.heap.size, 2, none⟩ = some (.int .i64 off) := HBOX.out.cell 2
  go_region_held3 (fun W => W.cell? ⟨w.heap.size, 0, none⟩ = some (.slice A n ca) ∧ W.cell? ⟨w.heap.size, 1, none⟩ = some (.slice B m cb) ∧ W.cell? ⟨w.heap.size, 2, none⟩ = some (.int .i64 off))
    (first | exact ⟨c0, c1, c2⟩ | exact held_cells (HBOX.out.drew.below' HBA.out) | exact held_cells ((HBOX.out.drew.below' HBA.out).below' HBB.out) | exact held_cells ((((HBOX.out.drew.below' HBA.out).below' HBB.out).far (by simp) _).far (by simp) _ |>.far (by simp) _))
    (first
    | (go_at_call 58; refine (sclone3 xs A ca n _ HN.out (HX.out.below (bl_drew (Below.refl _ _))) hl h0).mono ?_; rintro e w2 ⟨gA, cA, rfl, HOA, HBA⟩)
    | (go_at_call 59; refine (iclone3 ys B cb m _ HM.out (ReadsI.below (ReadsI.below HY.out (bl_drew (Below.refl _ _))) HBA.out) hl2 h1).mono ?_; rintro e w3 ⟨gB, cB, rfl, HOB, HBB⟩; obtain ⟨k0, k1, k2, k0f, k1f, k2f⟩ := held_view ((HRES.out.drew.below' HBA.out).below' HBB.out)))
  have hA := own_ge HOA.out
  have hB := own_ge HOB.out
  have hA1 : w.heap.size + 2 ≤ gA := by have := hA.1; rw [← HS0.out]; exact this
  have hB1 : gA < gB := Nat.lt_of_lt_of_le hA.2 hB.1
  have hOA := own_set (own_set (own_set (own_below HOA.out HBB.out) ⟨w.heap.size + 1, 0, none⟩ (.slice (some ⟨gA, 0, none⟩) n cA) (by show w.heap.size + 1 ≠ gA; omega)) ⟨w.heap.size + 1, 1, none⟩ (.slice (some ⟨gB, 0, none⟩) m cB) (by show w.heap.size + 1 ≠ gA; omega)) ⟨w.heap.size + 1, 2, none⟩ (.int .i64 off) (by show w.heap.size + 1 ≠ gA; omega)
  have hOB := own_set (own_set (own_set HOB.out ⟨w.heap.size + 1, 0, none⟩ (.slice (some ⟨gA, 0, none⟩) n cA) (by show w.heap.size + 1 ≠ gB; omega)) ⟨w.heap.size + 1, 1, none⟩ (.slice (some ⟨gB, 0, none⟩) m cB) (by show w.heap.size + 1 ≠ gB; omega)) ⟨w.heap.size + 1, 2, none⟩ (.int .i64 off) (by show w.heap.size + 1 ≠ gB; omega)
  have HOA1 := Lib.hid (ownI_lower (base' := w.heap.size) hOA (by show w.heap.size ≤ W0.heap.size; rw [HS0.out]; omega))
  have HOB1 := Lib.hid (ownI_lower (base' := w.heap.size) hOB (by have h1 := HBA.out.size; have h2 : W0.heap.size ≤ w2.heap.size := h1; rw [HS0.out] at h2; omega))
  have HBF := Lib.hid (bl_set (p := ⟨w.heap.size + 1, 2, none⟩) (bl_set (p := ⟨w.heap.size + 1, 1, none⟩) (bl_set (p := ⟨w.heap.size + 1, 0, none⟩) (bl_then (bl_then (bl_drew HB0.out) HBA.out) HBB.out) (by simp) (.slice (some ⟨gA, 0, none⟩) n cA)) (by simp) (.slice (some ⟨gB, 0, none⟩) m cB)) (by simp) (.int .i64 off))
  clear hA hB hA1 hOA hOB
  go_wp2_with fail
  exact bodyPost_ret (v := .agg #[.slice (some ⟨gA, 0, none⟩) n cA, .slice (some ⟨gB, 0, none⟩) m cB, .int .i64 off]) (by simp [results, Try.results111, go_sem, k0, k1, k2]) rfl ⟨gA, cA, gB, cB, rfl, HOA1.out, HOB1.out, by omega, HBF.out⟩
end Go.Proofs.Ythjkeefdeeljoaa.Shp
/- What the closures of a view's change do to it. -/
namespace Go.Proofs.Ythjkeefdeeljoaa.Shp
open Go.RowKit
set_option linter.unusedVariables false
set_option linter.unusedSimpArgs false

theorem own_store {w : World} {base g n cap : Nat} {e : TypeId} {k : IntKind} {xs : List Int} (h : OwnI w base e k (.slice (some ⟨g, 0, none⟩) n cap) xs) (i : Nat) (v : Int) : OwnI (w.setCell ⟨g, i, none⟩ (.int k v)) base e k (.slice (some ⟨g, 0, none⟩) n cap) (xs.set i v) := by
  have hl := h.1
  refine ⟨by simp, ?_⟩
  rcases h.2 with ⟨h', _⟩ | ⟨g', cap', cur, h1, h2, h3, h4, h5, h6, h7⟩
  · simp at h'
  · simp only [Value.slice.injEq, Option.some.injEq, Addr.mk.injEq, and_true, true_and] at h1
    obtain ⟨rfl, rfl, rfl⟩ := h1
    have hb : Blk w g e cur := h3
    refine .inr ⟨g, cap, cur.setIfInBounds i (.int k v), by simp, h2, hb.set i _, by simpa using h4, h5, by simpa using h6, ?_⟩
    rw [Array.toList_setIfInBounds, List.take_set, List.length_set, h7, List.map_set]
theorem below_drew (base : Nat) (W : World) : Below base W W.drew := ⟨rfl, rfl, rfl, Nat.le_refl _, fun _ _ => rfl⟩
/-- A view in a block, its lists in rows of its own. -/
def VW (base X n m : Nat) (xs ys : List Int) (off : Int) (W : World) : Prop :=
  ∃ gA c gB d, Blk W X 34 #[.slice (some ⟨gA, 0, none⟩) n c, .slice (some ⟨gB, 0, none⟩) m d, .int .i64 off] ∧ OwnI W base 3 .i64 (.slice (some ⟨gA, 0, none⟩) n c) xs ∧ OwnI W base 3 .i64 (.slice (some ⟨gB, 0, none⟩) m d) ys ∧ gA ≠ gB ∧ base ≤ X ∧ xs.length = n ∧ ys.length = m
theorem own_ne {W : World} {base g n c X : Nat} {xs : List Int} {cs : Array Value} (h : OwnI W base 3 .i64 (.slice (some ⟨g, 0, none⟩) n c) xs) (hb : Blk W X 34 cs) : X ≠ g := by
  rcases h.2 with ⟨h', _⟩ | ⟨g', cap', cur, h1, h2, h3, _⟩
  · simp at h'
  · simp only [Value.slice.injEq, Option.some.injEq, Addr.mk.injEq, and_true, true_and] at h1
    obtain ⟨rfl, _⟩ := h1
    have hB : Blk W g 3 cur := h3
    exact hb.ne_ hB (by decide)
theorem own_blk3 {w : World} {base g n cap : Nat} {e : TypeId} {k : IntKind} {xs : List Int} (h : OwnI w base e k (.slice (some ⟨g, 0, none⟩) n cap) xs) (hn : xs.length = n) : base ≤ g ∧ n ≤ cap ∧ cap ≤ maxLen ∧ ∃ cur, Blk w g e cur ∧ cur.size = cap ∧ ∀ j, j < n → cur[j]? = some (.int k (nth xs j)) := by
  subst hn
  obtain ⟨h1, h2, h3, cur, h4, h5, h6⟩ := Edit.own_blk h
  exact ⟨h1, h2, h3, cur, h4, h5, fun j hj => by rw [h6 j hj, List.getElem?_map, List.getElem?_eq_getElem hj, nth_eq _ _ hj]; rfl⟩
theorem own_ne1 {W : World} {base g n c D : Nat} {xs : List Int} {t : TypeId} {v : Value} (h : OwnI W base 3 .i64 (.slice (some ⟨g, 0, none⟩) n c) xs) (hb : Blk W D t #[v]) (hD : D < base) : D ≠ g := by
  have := (own_ge h).1
  omega
set_option maxHeartbeats 1000000 in
theorem by1_calls (base X D n m : Nat) (xs ys : List Int) (off d o2 : Int) (W : World) (h : VW base X n m xs ys off W) (hd : Blk W D 3 #[.int .i64 d]) (ho : IntKind.i64.wrap (off + d) = o2) :
    Calls Try.prog 113 #[.pointer (some ⟨X, 0, none⟩), .pointer (some ⟨D, 0, none⟩)] W fun e W' => e = .returned (.tuple #[]) ∧ VW base X n m xs ys o2 W' ∧ Below base W W' := by
  obtain ⟨gA, c, gB, e, hX, hA, hB, hne, hbX, hn, hm⟩ := h
  have x2 : W.cell? ⟨X, 2, none⟩ = some (.int .i64 off) := hX.cell 2
  have x2f := hX.frozen 2
  have d0 : W.cell? ⟨D, 0, none⟩ = some (.int .i64 d) := hd.cell 0
  have hXA := own_ne hA hX
  have hXB := own_ne hB hX
  have HF : Hid (VW base X n m xs ys o2 (W.drew.setCell ⟨X, 2, none⟩ (.int .i64 o2))) := Lib.hid ⟨gA, c, gB, e, hX.drew.set 2 _, own_set (w := W.drew) hA ⟨X, 2, none⟩ _ hXA, own_set (w := W.drew) hB ⟨X, 2, none⟩ _ hXB, hne, hbX, hn, hm⟩
  have HB : Hid (Below base W (W.drew.setCell ⟨X, 2, none⟩ (.int .i64 o2))) := Lib.hid ((below_drew base W).setCell (p := ⟨X, 2, none⟩) hbX _)
  clear hX hA hB hne hbX hn hm hd hXA hXB
  go_enter Try.func113, Try.ntmps113
  go_wp2
  go_region
  all_goals
    go_wp2
    go_end0
    exact ⟨rfl, HF.out, HB.out⟩
set_option maxHeartbeats 2000000 in
theorem to1_calls (base X Di Dn Ds n m i : Nat) (xs ys : List Int) (off v s : Int) (W : World) (h : VW base X n m xs ys off W) (hi : Blk W Di 3 #[.int .i64 (i : Nat)]) (hn : Blk W Dn 3 #[.int .i64 v]) (hs : Blk W Ds 3 #[.int .i64 s]) (hin : i < n) (him : i < m) (hDi : Di < base) (hDn : Dn < base) (hDs : Ds < base) :
    Calls Try.prog 112 #[.pointer (some ⟨X, 0, none⟩), .pointer (some ⟨Dn, 0, none⟩), .pointer (some ⟨Ds, 0, none⟩), .pointer (some ⟨Di, 0, none⟩)] W fun e W' => e = .returned (.tuple #[]) ∧ VW base X n m (xs.set i v) (ys.set i s) off W' ∧ Below base W W' := by
  obtain ⟨gA, c, gB, e, hX, hA, hB, hne, hbX, hnn, hmm⟩ := h
  have x0 : W.cell? ⟨X, 0, none⟩ = some (.slice (some ⟨gA, 0, none⟩) n c) := hX.cell 0
  have x1 : W.cell? ⟨X, 1, none⟩ = some (.slice (some ⟨gB, 0, none⟩) m e) := hX.cell 1
  have di : W.cell? ⟨Di, 0, none⟩ = some (.int .i64 (i : Nat)) := hi.cell 0
  have dn : W.cell? ⟨Dn, 0, none⟩ = some (.int .i64 v) := hn.cell 0
  have ds : W.cell? ⟨Ds, 0, none⟩ = some (.int .i64 s) := hs.cell 0
  have hXA := own_ne hA hX
  have hXB := own_ne hB hX
  obtain ⟨hbA, _, _, curA, hBA, _, hcA⟩ := own_blk3 hA hnn
  obtain ⟨hbB, _, _, curB, hBB, _, hcB⟩ := own_blk3 hB hmm
  have a0 : W.cell? ⟨gA, i, none⟩ = some (.int .i64 (nth xs i)) := by rw [hBA.cell, hcA i hin]
  have a0f := hBA.frozen i
  have b0 : W.cell? ⟨gB, i, none⟩ = some (.int .i64 (nth ys i)) := by rw [hBB.cell, hcB i him]
  have b0f := hBB.frozen i
  have HF : Hid (VW base X n m (xs.set i v) (ys.set i s) off ((W.drew.setCell ⟨gA, i, none⟩ (.int .i64 v)).setCell ⟨gB, i, none⟩ (.int .i64 s))) := Lib.hid ⟨gA, c, gB, e, (hX.drew.far (p := ⟨gA, i, none⟩) hXA _).far (p := ⟨gB, i, none⟩) hXB _, own_set (own_store (w := W.drew) hA i v) ⟨gB, i, none⟩ _ (Ne.symm hne), own_store (own_set (w := W.drew) hB ⟨gA, i, none⟩ _ hne) i s, hne, hbX, by simpa using hnn, by simpa using hmm⟩
  have HB : Hid (Below base W ((W.drew.setCell ⟨gA, i, none⟩ (.int .i64 v)).setCell ⟨gB, i, none⟩ (.int .i64 s))) := Lib.hid (((below_drew base W).setCell (p := ⟨gA, i, none⟩) hbA _).setCell (p := ⟨gB, i, none⟩) hbB _)
  generalize nth xs i = y1 at *
  generalize nth ys i = y2 at *
  have hi1 : (i : Int) < (n : Int) := by omega
  have hi2 : (i : Int) < (m : Int) := by omega
  have n1 : Di ≠ gA := by omega
  have n2 : Di ≠ gB := by omega
  have n3 : Dn ≠ gA := by omega
  have n4 : Dn ≠ gB := by omega
  have n5 : Ds ≠ gA := by omega
  have n6 : Ds ≠ gB := by omega
  have n7 : gB ≠ gA := Ne.symm hne
  clear hX hA hB hbX hnn hmm hi hn hs hBA hBB hcA hcB hbA hbB hDi hDn hDs
  go_enter Try.func112, Try.ntmps112
  go_wp2
  go_region
  all_goals
    go_wp2
    go_end0
    exact ⟨rfl, HF.out, HB.out⟩
end Go.Proofs.Ythjkeefdeeljoaa.Shp
/- What the closures that insert, and delete, do to a view. -/
namespace Go.Proofs.Ythjkeefdeeljoaa.Shp
open Go.RowKit
set_option linter.unusedVariables false
set_option linter.unusedSimpArgs false

/-- A view in a block. -/
def VR (base X n m : Nat) (xs ys : List Int) (off : Int) (W : World) : Prop :=
  ∃ A c B d, Blk W X 34 #[.slice A n c, .slice B m d, .int .i64 off] ∧ ReadsI W .i64 A xs ∧ ReadsI W .i64 B ys ∧ xs.length = n ∧ ys.length = m ∧ base ≤ X ∧ (∀ b o, A = some ⟨b, o, none⟩ → base ≤ b) ∧ (∀ b o, B = some ⟨b, o, none⟩ → base ≤ b)
theorem VW.vr {base X n m : Nat} {xs ys : List Int} {off : Int} {W : World} (h : VW base X n m xs ys off W) : VR base X n m xs ys off W := by
  obtain ⟨gA, c, gB, d, h1, h2, h3, _, h5, h6, h7⟩ := h
  have hA := own_ge h2
  have hB := own_ge h3
  obtain ⟨A, c2, e1, _, r1⟩ := h2.shows
  obtain ⟨B, d2, e2, _, r2⟩ := h3.shows
  simp only [Value.slice.injEq] at e1 e2
  obtain ⟨rfl, _, rfl⟩ := e1
  obtain ⟨rfl, _, rfl⟩ := e2
  exact ⟨_, _, _, _, h1, r1, r2, h6, h7, h5, fun b o e => by injection e with e; injection e with e; omega, fun b o e => by injection e with e; injection e with e; omega⟩
theorem insS (base g cap k n : Nat) (L : List Int) (v : Int) (H : Nat) (w : World) (h : OwnI w base 3 .i64 (.slice (some ⟨g, 0, none⟩) n cap) L) (hn : L.length = n) (hb : Blk w H 3 #[.int .i64 v]) (hne : H ≠ g) (hl : n ≤ 1000000) (hk : k ≤ n) (hbs : base ≤ w.heap.size) :
    Calls Try.prog 115 #[.slice (some ⟨g, 0, none⟩) n cap, .int .i64 (k : Nat), .slice (some ⟨H, 0, none⟩) 1 1] w fun e w' => ∃ A' c', e = .returned (.slice A' (n + 1) c') ∧ Hid (ReadsI w' .i64 A' (L.take k ++ v :: L.drop k)) ∧ Hid (∃ b, A' = some ⟨b, 0, none⟩ ∧ (b = g ∨ w.heap.size ≤ b) ∧ b < w'.heap.size) ∧ Hid (Only g w w') := by
  subst hn
  refine (EdS.insert_any base g cap k L v H w h hb hne hl hk hbs).mono ?_
  rintro e w' ⟨A', c', rfl, h1, h2, h3⟩
  exact ⟨A', c', rfl, Lib.hid h1, Lib.hid h2, Lib.hid h3⟩
theorem insI (base g cap k n : Nat) (L : List Int) (v : Int) (H : Nat) (w : World) (h : OwnI w base 3 .i64 (.slice (some ⟨g, 0, none⟩) n cap) L) (hn : L.length = n) (hb : Blk w H 3 #[.int .i64 v]) (hne : H ≠ g) (hl : n ≤ 1000000) (hk : k ≤ n) (hbs : base ≤ w.heap.size) :
    Calls Try.prog 116 #[.slice (some ⟨g, 0, none⟩) n cap, .int .i64 (k : Nat), .slice (some ⟨H, 0, none⟩) 1 1] w fun e w' => ∃ A' c', e = .returned (.slice A' (n + 1) c') ∧ Hid (ReadsI w' .i64 A' (L.take k ++ v :: L.drop k)) ∧ Hid (∃ b, A' = some ⟨b, 0, none⟩ ∧ (b = g ∨ w.heap.size ≤ b) ∧ b < w'.heap.size) ∧ Hid (Only g w w') := by
  subst hn
  refine (EdI.insert_any base g cap k L v H w h hb hne hl hk hbs).mono ?_
  rintro e w' ⟨A', c', rfl, h1, h2, h3⟩
  exact ⟨A', c', rfl, Lib.hid h1, Lib.hid h2, Lib.hid h3⟩
theorem bel_of {W V w1 : World} {T : Nat} (h : Only T V w1) (hb : Below W.heap.size W V) : Below W.heap.size W V := hb
theorem held5 {X Di Dn Ds : Nat} {W : World} {T T' : TypeId} {A B : Option Addr} {n c m e i : Nat} {off v s : Int} (hX : Blk W X T #[.slice A n c, .slice B m e, .int .i64 off]) (hi : Blk W Di T' #[.int .i64 (i : Nat)]) (hn : Blk W Dn T' #[.int .i64 v]) (hs : Blk W Ds T' #[.int .i64 s]) :
    W.cell? ⟨X, 0, none⟩ = some (.slice A n c) ∧ W.cell? ⟨X, 1, none⟩ = some (.slice B m e) ∧ W.cell? ⟨Di, 0, none⟩ = some (.int .i64 (i : Nat)) ∧ W.cell? ⟨Dn, 0, none⟩ = some (.int .i64 v) ∧ W.cell? ⟨Ds, 0, none⟩ = some (.int .i64 s) := ⟨hX.cell 0, hX.cell 1, hi.cell 0, hn.cell 0, hs.cell 0⟩
end Go.Proofs.Ythjkeefdeeljoaa.Shp
