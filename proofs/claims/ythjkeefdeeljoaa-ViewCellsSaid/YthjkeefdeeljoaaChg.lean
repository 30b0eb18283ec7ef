/- view.clone: rows of its own. -/
import Derived.Test.YthjkeefdeeljoaaPk2
import Derived.Test.YthjkeefdeeljoaaVNew
import Derived.Test.YthjkeefdeeljoaaOdo2
import Derived.Deep.RegionHeld3
namespace Go.Proofs.Ythjkeefdeeljoaa.Shp
open Go.RowKit
set_option linter.unusedVariables false
set_option linter.unusedSimpArgs false

theorem sclone3 (xs : List Int) (A : Option Addr) (ca n : Nat) (w : World) (hn : xs.length = n) (hx : ReadsI w .i64 A xs) (hl : n ≤ 1000000) (h0 : 0 < n) : Calls Try.prog 58 #[.slice A n ca] w fun e w' => ∃ g c', e = .returned (.slice (some ⟨g, 0, none⟩) n c') ∧ Hid (OwnI w' w.heap.size 3 .i64 (.slice (some ⟨g, 0, none⟩) n c') xs) ∧ Hid (Below w.heap.size w w') := by
  subst hn
  refine (sclone_calls xs A ca w hx hl (fun h => by
    obtain ⟨b, off, e, _⟩ := hx 0 h0
    rw [h] at e; cases e)).mono ?_
  rintro e w' ⟨v, rfl, ho, hs, hB⟩
  obtain ⟨g, cap, rfl⟩ := hs (fun h => by rw [h] at h0; simp at h0)
  exact ⟨g, cap, rfl, Lib.hid ho, Lib.hid hB⟩
theorem iclone3 (xs : List Int) (A : Option Addr) (ca n : Nat) (w : World) (hn : xs.length = n) (hx : ReadsI w .i64 A xs) (hl : n ≤ 1000000) (h0 : 0 < n) : Calls Try.prog 59 #[.slice A n ca] w fun e w' => ∃ g c', e = .returned (.slice (some ⟨g, 0, none⟩) n c') ∧ Hid (OwnI w' w.heap.size 3 .i64 (.slice (some ⟨g, 0, none⟩) n c') xs) ∧ Hid (Below w.heap.size w w') := by
  subst hn
  refine (iclone_calls xs A ca w hx hl (fun h => by
    obtain ⟨b, off, e, _⟩ := hx 0 h0
    rw [h] at e; cases e)).mono ?_
  rintro e w' ⟨v, rfl, ho, hs, hB⟩
  obtain ⟨g, cap, rfl⟩ := hs (fun h => by rw [h] at h0; simp at h0)
  exact ⟨g, cap, rfl, Lib.hid ho, Lib.hid hB⟩
theorem own_ge {w : World} {base g n cap : Nat} {e : TypeId} {k : IntKind} {xs : List Int} (h : OwnI w base e k (.slice (some ⟨g, 0, none⟩) n cap) xs) : base ≤ g ∧ g < w.heap.size := own_lt h g rfl
theorem own_set {w : World} {base g n cap : Nat} {e : TypeId} {k : IntKind} {xs : List Int} (h : OwnI w base e k (.slice (some ⟨g, 0, none⟩) n cap) xs) (p : Addr) (u : Value) (hp : p.block ≠ g) : OwnI (w.setCell p u) base e k (.slice (some ⟨g, 0, none⟩) n cap) xs := by
  refine ⟨h.1, ?_⟩
  rcases h.2 with hn | ⟨g', cap', cur, h1, h2, h3, h4⟩
  · exact .inl hn
  · refine .inr ⟨g', cap', cur, h1, h2, ?_, h4⟩
    simp only [Value.slice.injEq, Option.some.injEq, Addr.mk.injEq, and_true, true_and] at h1
    exact (Below.heap_setCell _ _ _ _ (fun e => hp (by rw [← e, h1.1]))).trans h3
theorem own_only {w w' : World} {T base g n cap : Nat} {e : TypeId} {k : IntKind} {xs : List Int} (h : OwnI w base e k (.slice (some ⟨g, 0, none⟩) n cap) xs) (ho : Only T w w') (hne : g ≠ T) : OwnI w' base e k (.slice (some ⟨g, 0, none⟩) n cap) xs := by
  refine ⟨h.1, ?_⟩
  rcases h.2 with hn | ⟨g', cap', cur, h1, h2, h3, h4⟩
  · exact .inl hn
  · refine .inr ⟨g', cap', cur, h1, h2, ?_, h4⟩
    simp only [Value.slice.injEq, Option.some.injEq, Addr.mk.injEq, and_true, true_and] at h1
    exact (ho.other _ (Array.getElem?_eq_some_iff.1 h3).1 (by rw [← h1.1]; exact hne)).trans h3

theorem held_view {H : Nat} {W : World} {T : TypeId} (h2 : Blk W H T #[.slice none 0 0, .slice none 0 0, .int .i64 0]) :
    W.cell? ⟨H, 0, none⟩ = some (.slice none 0 0) ∧ W.cell? ⟨H, 1, none⟩ = some (.slice none 0 0) ∧ W.cell? ⟨H, 2, none⟩ = some (.int .i64 0) ∧ W.frozen? ⟨H, 0, none⟩ = false ∧ W.frozen? ⟨H, 1, none⟩ = false ∧ W.frozen? ⟨H, 2, none⟩ = false := ⟨h2.cell 0, h2.cell 1, h2.cell 2, h2.frozen 0, h2.frozen 1, h2.frozen 2⟩
set_option maxHeartbeats 2000000 in
theorem vclone_calls (xs ys : List Int) (off : Int) (A B : Option Addr) (ca cb n m : Nat) (w : World) (hx : ReadsI w .i64 A xs) (hy : ReadsI w .i64 B ys) (hn : xs.length = n) (hm : ys.length = m) (hl : n ≤ 1000000) (hl2 : m ≤ 1000000) (h0 : 0 < n) (h1 : 0 < m) :
    Calls Try.prog 111 #[.agg #[.slice A n ca, .slice B m cb, .int .i64 off]] w fun e w' => ∃ gA c gB d, e = .returned (.agg #[.slice (some ⟨gA, 0, none⟩) n c, .slice (some ⟨gB, 0, none⟩) m d, .int .i64 off]) ∧ OwnI w' w.heap.size 3 .i64 (.slice (some ⟨gA, 0, none⟩) n c) xs ∧ OwnI w' w.heap.size 3 .i64 (.slice (some ⟨gB, 0, none⟩) m d) ys ∧ gA ≠ gB ∧ Below w.heap.size w w' := by
  obtain ⟨W0, hW0⟩ : ∃ W0, W0 = (w.alloc (.cells #[.slice A n ca, .slice B m cb, .int .i64 off] 34)).alloc (.cells #[.slice none 0 0, .slice none 0 0, .int .i64 0] 34) := ⟨_, rfl⟩
  have hb0 : Below w.heap.size w W0 := by rw [hW0]; exact bl_alloc (bl_alloc (Below.refl _ _) _) _
  have hbox : Blk W0 w.heap.size 34 #[.slice A n ca, .slice B m cb, .int .i64 off] := by rw [hW0]; exact (Blk.new _ _ _).alloc _
  have hres : Blk W0 (w.heap.size + 1) 34 #[.slice none 0 0, .slice none 0 0, .int .i64 0] := by rw [hW0]; exact Blk.new' (by simp) _ _
  have hs0 : W0.heap.size = w.heap.size + 2 := by rw [hW0]; simp
  have HB0 := Lib.hid hb0
  have HBOX := Lib.hid hbox
  have HRES := Lib.hid hres
  have HS0 := Lib.hid hs0
  have HX := Lib.hid (hx.below hb0)
  have HY := Lib.hid (hy.below hb0)
  have HN := Lib.hid hn
  have HM := Lib.hid hm
  have HW0 := Lib.hid hW0
  clear hb0 hbox hres hs0 hx hy hn hm hW0
  go_enter Try.func111, Try.ntmps111
  go_wp2_with fail
  rw [← HW0.out]
  have c0 : W0.cell? ⟨w.heap.size, 0, none⟩ = some (.slice A n ca) := HBOX.out.cell 0
  have c1 : W0.cell? ⟨w.heap.size, 1, none⟩ = some (.slice B m cb) := HBOX.out.cell 1
  have c2 : W0.cell? ⟨w.heap.size, 2, none⟩ = some (.int .i64 off) := HBOX.out.cell 2
  go_region_held3 (fun W => W.cell? ⟨w.heap.size, 0, none⟩ = some (.slice A n ca) ∧ W.cell? ⟨w.heap.size, 1, none⟩ = some (.slice B m cb) ∧ W.cell? ⟨w.heap.size, 2, none⟩ = some (.int .i64 off))
    (first | exact ⟨c0, c1, c2⟩ | exact held_cells (HBOX.out.drew.below' HBA.out) | exact held_cells ((HBOX.out.drew.below' HBA.out).below' HBB.out) | exact held_cells ((((HBOX.out.drew.below' HBA.out).below' HBB.out).far (by simp) _).far (by simp) _ |>.far (by simp) _))
    (first
    | (go_at_call 58; refine (sclone3 xs A ca n _ HN.out (HX.out.below (bl_drew (Below.refl _ _))) hl h0).mono ?_; rintro e w2 ⟨gA, cA, rfl, HOA, HBA⟩)
    | (go_at_call 59; refine (iclone3 ys B cb m _ HM.out (ReadsI.below (ReadsI.below HY.out (bl_drew (Below.refl _ _))) HBA.out) hl2 h1).mono ?_; rintro e w3 ⟨gB, cB, rfl, HOB, HBB⟩; obtain ⟨k0, k1, k2, k0f, k1f, k2f⟩ := held_view ((HRES.out.drew.below' HBA.out).below' HBB.out)))
  have hA := own_ge HOA.out
  have hB := own_ge HOB.out
  have hA1 : w.heap.size + 2 ≤ gA := by have := hA.1; rw [← HS0.out]; exact this
  have hB1 : gA < gB := Nat.lt_of_lt_of_le hA.2 hB.1
  have hOA := own_set (own_set (own_set (own_below HOA.out HBB.out) ⟨w.heap.size + 1, 0, none⟩ (.slice (some ⟨gA, 0, none⟩) n cA) (by show w.heap.size + 1 ≠ gA; omega)) ⟨w.heap.size + 1, 1, none⟩ (.slice (some ⟨gB, 0, none⟩) m cB) (by show w.heap.size + 1 ≠ gA; omega)) ⟨w.heap.size + 1, 2, none⟩ (.int .i64 off) (by show w.heap.size + 1 ≠ gA; omega)
  have hOB := own_set (own_set (own_set HOB.out ⟨w.heap.size + 1, 0, none⟩ (.slice (some ⟨gA, 0, none⟩) n cA) (by show w.heap.size + 1 ≠ gB; omega)) ⟨w.heap.size + 1, 1, none⟩ (.slice (some ⟨gB, 0, none⟩) m cB) (by show w.heap.size + 1 ≠ gB; omega)) ⟨w.heap.size + 1, 2, none⟩ (.int .i64 off) (by show w.heap.size + 1 ≠ gB; omega)
  have HOA1 := Lib.hid (ownI_lower (base' := w.heap.size) hOA (by show w.heap.size ≤ W0.heap.size; rw [HS0.out]; omega))
  have HOB1 := Lib.hid (ownI_lower (base' := w.heap.size) hOB (by have h1 := HBA.out.size; have h2 : W0.heap.size ≤ w2.heap.size := h1; rw [HS0.out] at h2; omega))
  have HBF := Lib.hid (bl_set (p := ⟨w.heap.size + 1, 2, none⟩) (bl_set (p := ⟨w.heap.size + 1, 1, none⟩) (bl_set (p := ⟨w.heap.size + 1, 0, none⟩) (bl_then (bl_then (bl_drew HB0.out) HBA.out) HBB.out) (by simp) (.slice (some ⟨gA, 0, none⟩) n cA)) (by simp) (.slice (some ⟨gB, 0, none⟩) m cB)) (by simp) (.int .i64 off))
  clear hA hB hA1 hOA hOB
  go_wp2_with fail
  exact bodyPost_ret (v := .agg #[.slice (some ⟨gA, 0, none⟩) n cA, .slice (some ⟨gB, 0, none⟩) m cB, .int .i64 off]) (by simp [results, Try.results111, go_sem, k0, k1, k2]) rfl ⟨gA, cA, gB, cB, rfl, HOA1.out, HOB1.out, by omega, HBF.out⟩
end Go.Proofs.Ythjkeefdeeljoaa.Shp
