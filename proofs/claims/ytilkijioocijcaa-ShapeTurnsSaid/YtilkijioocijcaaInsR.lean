/- slices.Insert of one number at a shape: within, where there is room. -/
import Derived.Test.YtilkijioocijcaaIns
import Derived.Shelf.Spec.SlicesInsert
namespace Go.Proofs.Ytilkijioocijcaa.Shp
open Go.RowKit
set_option linter.unusedVariables false
set_option linter.unusedSimpArgs false

theorem int_size : (Try.prog.info? 3).map (·.size) = some 1 := by kernel_rfl
theorem blk_shape {w : World} {g : Nat} {t : TypeId} {cs : Array Value} (h : Blk w g t cs) : w.shape? g = some (t, cs.size) := by
  unfold Blk at h
  simp [World.shape?, h]
theorem overlaps_no (H g o lb cb : Nat) (t t' : TypeId) (cs cs' : Array Value) (w : World) (h : Blk w H t cs) (h' : Blk w g t' cs') (hne : H ≠ g) (hc : cs'.size ≠ 0) : (callFunc 32 #[.slice (some ⟨H, 0, none⟩) 1 1, .slice (some ⟨g, o, none⟩) lb cb]).run Try.prog w = .ok (.value (.bool false)) w := by
  rw [run_callFunc_extern Try.func32 (by kernel_rfl) (by kernel_rfl) (by kernel_rfl) (e := Extern.SlicesOverlaps.overlaps #[22, 22] #[4]) (by kernel_rfl),
    Lib.run_overlaps_apart w 22 4 3 Try.underlying22 1 size_int ⟨H, 0, none⟩ ⟨g, o, none⟩ 1 1 lb cb hne t t' cs.size cs'.size (blk_shape h) (blk_shape h') hc (h.frozen 0) (h.frozen _)]
  rfl
theorem own_blk {w : World} {base g n cap : Nat} {e : TypeId} {xs : List Value} (h : w.ownsRow base e 1 (.slice (some ⟨g, 0, none⟩) n cap) n xs) : base ≤ g ∧ n ≤ cap ∧ cap ≤ maxLen ∧ ∃ cur, Blk w g e cur ∧ cur.size = cap ∧ ∀ j, j < n → cur[j]? = xs[j]? := by
  rcases h.2 with ⟨h', _⟩ | ⟨g', cap', cur, h', hb, hh, hnc, hm, hs, ht⟩
  · simp at h'
  · simp only [Value.slice.injEq, Option.some.injEq, Addr.mk.injEq, and_true, true_and] at h'
    obtain ⟨rfl, rfl⟩ := h'
    refine ⟨hb, hnc, hm, cur, hh, by omega, fun j hj => ?_⟩
    rw [← ht, List.getElem?_take, if_pos (by omega), Array.getElem?_toList]
set_option maxRecDepth 100000 in
set_option maxHeartbeats 2000000 in
theorem insert_room (base g cap k : Nat) (L : List Int) (n : Int) (H : Nat) (w : World) (h : OwnI w base 3 .i64 (.slice (some ⟨g, 0, none⟩) L.length cap) L) (hn : Blk w H 3 #[.int .i64 n]) (hne : H ≠ g) (hl : L.length ≤ 1000000) (hk : k < L.length) (hroom : L.length + 1 ≤ cap) :
    Calls Try.prog 26 #[.slice (some ⟨g, 0, none⟩) L.length cap, .int .i64 (k : Nat), .slice (some ⟨H, 0, none⟩) 1 1] w fun e w' => e = .returned (.slice (some ⟨g, 0, none⟩) (L.length + 1) cap) ∧ ReadsI w' .i64 (some ⟨g, 0, none⟩) (L.take k ++ n :: L.drop k) ∧ Below base w w' := by
  obtain ⟨hbase, hcap, hmax, cur, hB, hcs, hcur⟩ := own_blk h
  have hcell : ∀ j, j < L.length → w.cell? ⟨g, j, none⟩ = some (.int .i64 (nth L j)) := fun j hj => by
    rw [hB.cell, hcur j hj, List.getElem?_map, List.getElem?_eq_getElem hj, nth_eq _ _ hj]; rfl
  have hsome : ∀ j, j < cap → (w.cell? ⟨g, j, none⟩).isSome = true := fun j hj => by
    rw [hB.cell, Array.getElem?_eq_getElem (by omega)]; rfl
  have hfz : ∀ j, w.frozen? ⟨g, j, none⟩ = false := hB.frozen
  obtain ⟨N, hN⟩ : ∃ N, L.length = N := ⟨_, rfl⟩
  obtain ⟨q, hq⟩ : ∃ q, k + 1 = q := ⟨_, rfl⟩
  obtain ⟨m, hm⟩ : ∃ m, N - k = m := ⟨_, rfl⟩
  obtain ⟨N1, hN1⟩ : ∃ N1, N + 1 = N1 := ⟨_, rfl⟩
  have hov := fun lb cb => overlaps_no H g q lb cb 3 3 _ _ w hn hB hne (by omega)
  have hdl : ((L.drop k).map (Value.int .i64)).length = m := by simp; omega
  rw [hN] at hl hk hcap hroom hcell ⊢
  rw [hN1] at hroom ⊢
  have hcp1 : ∀ ty dc sc, (Builtin.copy_ #[24, 24] ty #[.slice (some ⟨g, q, none⟩) m dc, .slice (some ⟨g, k, none⟩) (N1 - k) sc]).run Try.prog w.drew = .ok (goInt m) (w.drew.setCells g q ((L.drop k).map (Value.int .i64))) := fun ty dc sc => by
    have := run_copy_cells (P := Try.prog) w.drew 24 24 ty 3 g q m dc ⟨g, k, none⟩ (N1 - k) sc ((L.drop k).map (Value.int .i64)) Try.underlying24 int_size (by rw [hdl]; simp only [Nat.min_def]; split <;> omega)
      (fun j v hj => by
        have hj' : j < m := by have := (List.getElem?_eq_some_iff.1 hj).1; omega
        rw [List.getElem?_map, List.getElem?_drop, List.getElem?_eq_getElem (by omega)] at hj
        rw [show (⟨g, k, none⟩ : Addr).add j = ⟨g, k + j, none⟩ by unfold Addr.add; split <;> simp_all]
        show w.cell? _ = _
        rw [hcell (k + j) (by omega), nth_eq _ _ (by omega)]
        simpa using hj)
      (fun j hj => hsome (q + j) (by omega)) (fun j hj => hfz _) (int_one _)
    rwa [hdl] at this
  obtain ⟨W1, hW1⟩ : ∃ W1, W1 = w.drew.setCells g q ((L.drop k).map (Value.int .i64)) := ⟨_, rfl⟩
  have hout : ∀ j, (j < q ∨ q + m ≤ j) → W1.cell? ⟨g, j, none⟩ = w.cell? ⟨g, j, none⟩ := fun j hj => by
    rw [hW1, World.cell?_setCells_out g _ q w.drew ⟨g, j, none⟩ (fun _ _ => by show j < q ∨ q + _ ≤ j; omega)]; rfl
  have hinn : ∀ t, t < m → W1.cell? ⟨g, q + t, none⟩ = some (.int .i64 (nth L (k + t))) := fun t ht => by
    rw [hW1, World.cell?_setCells_in g _ q w.drew (fun j hj => hsome (q + j) (by omega)) t (by omega)]
    rw [List.getElem_map, List.getElem_drop, nth_eq _ _ (by omega)]
  have hfar : W1.cell? ⟨H, 0, none⟩ = some (.int .i64 n) := by
    rw [hW1, World.cell?_setCells_out g _ q w.drew ⟨H, 0, none⟩ (fun h _ => absurd h hne)]
    exact hn.cell 0
  have hfz1 : ∀ j, W1.frozen? ⟨g, j, none⟩ = false := fun j => by rw [hW1, World.frozen?_setCells]; exact hfz j
  have hcp2 : ∀ ty dc, (Builtin.copy_ #[24, 22] ty #[.slice (some ⟨g, k, none⟩) (N1 - k) dc, .slice (some ⟨H, 0, none⟩) 1 1]).run Try.prog W1 = .ok (goInt 1) (W1.setCells g k [.int .i64 n]) := fun ty dc =>
    run_copy_cells (P := Try.prog) W1 24 22 ty 3 g k (N1 - k) dc ⟨H, 0, none⟩ 1 1 [.int .i64 n] Try.underlying24 int_size (by simp only [List.length_singleton, Nat.min_def]; split <;> omega)
      (fun j v hj => by
        have hj' : j < 1 := (List.getElem?_eq_some_iff.1 hj).1
        obtain rfl : j = 0 := by omega
        simp at hj
        subst hj
        exact hfar)
      (fun j hj => by
        have hj' : j < 1 := hj
        obtain rfl : j = 0 := by omega
        rw [Nat.add_zero, hout k (.inl (by omega))]
        exact hsome k (by omega)) (fun j hj => hfz1 _) (by intro u hu; simp at hu; subst hu; rfl)
  have HFIN : Hid (ReadsI (W1.setCells g k [.int .i64 n]) .i64 (some ⟨g, 0, none⟩) (L.take k ++ n :: L.drop k)) := Lib.hid (fun j hj => by
    have hj' : j < N1 := by simp at hj; omega
    refine ⟨g, 0, rfl, ?_⟩
    rw [Nat.zero_add, nth_eq _ _ hj]
    by_cases c : j < k
    · rw [World.cell?_setCells_out g _ k W1 ⟨g, j, none⟩ (fun _ _ => .inl c), hout j (.inl (by omega)), hcell j (by omega), List.getElem_append_left (by simp; omega), List.getElem_take, nth_eq _ _ (by omega)]
    · by_cases c2 : j = k
      · subst c2
        have h1 := World.cell?_setCells_in g [Value.int .i64 n] j W1 (fun t ht => by
          have ht' : t < 1 := ht
          obtain rfl : t = 0 := by omega
          rw [Nat.add_zero, hout j (.inl (by omega))]
          exact hsome j (by omega)) 0 (by simp)
        rw [Nat.add_zero] at h1
        rw [h1, List.getElem_append_right (by simp; omega)]
        simp [show j - min j L.length = 0 by omega]
      · rw [World.cell?_setCells_out g _ k W1 ⟨g, j, none⟩ (fun _ _ => .inr (by show k + 1 ≤ j; omega))]
        have h1 := hinn (j - q) (by omega)
        rw [show q + (j - q) = j by omega] at h1
        rw [h1, List.getElem_append_right (by simp; omega)]
        obtain ⟨d, hd⟩ : ∃ d, j - (L.take k).length = d + 1 := ⟨j - (L.take k).length - 1, by simp; omega⟩
        simp only [hd, List.getElem_cons_succ, List.getElem_drop, nth_eq L _ (show k + (j - q) < L.length by omega)]
        congr 3
        simp at hd
        omega)
  have HB2 : Hid (Below base w (W1.setCells g k [.int .i64 n])) := Lib.hid (by rw [hW1]; exact below_setCells (below_setCells (⟨rfl, rfl, rfl, Nat.le_refl _, fun _ _ => rfl⟩ : Below base w w.drew) g hbase _ _) g hbase _ _)
  rw [← hW1] at hcp1
  have a1 : (k : Int) + 1 = (q : Int) := by omega
  have a2 : (N : Int) + 1 = (N1 : Int) := by omega
  have a3 : IntKind.i64.wrap (q : Int) = (q : Int) := by rw [IntKind.wrap_i64]; omega
  have a4 : IntKind.i64.wrap (N1 : Int) = (N1 : Int) := by rw [IntKind.wrap_i64]; omega
  have a5 : ¬ ((k : Int) = (N : Int)) := by omega
  have a6 : k ≤ N := by omega
  have a7 : q ≤ N1 := by omega
  have a8 : k ≤ N1 := by omega
  have a9 : N1 - q = m := by omega
  have b1 : ¬ (cap = q) ∨ m = 0 := by omega
  have b2 : ¬ (cap = k) := by omega
  have b3 : ¬ (cap = q) := by omega
  have hmx : cap ≤ 9223372036854775807 := by unfold maxLen at hmax; exact hmax
  clear h hn hB hcs hcur hcell hsome hfz hN hq hm hN1 hdl hW1 hout hinn hfar hfz1 hmax b1
  go_enter Try.func26, Try.ntmps26
  go_wp2_with (simp only [hov])
  go_region_law (refine Go.Proofs.step_copy_runI rfl _ _ 24 24 rfl _ _ (by simp [Act.eval, Act.put]) (by simp [Act.eval, Act.put]) (hcp1 _ _ _) ?_)
  all_goals
    go_wp2_with (at_builtin; go_must (refine Go.Proofs.wpList_copy_runI _ rfl _ _ 24 22 rfl _ _ rfl rfl (hcp2 _ _) ?_))
    go_ret
    exact ⟨rfl, HFIN.out, HB2.out⟩
end Go.Proofs.Ytilkijioocijcaa.Shp
