/- slices.Insert of one number at a shape: within, where there is no room. -/
import Derived.Test.YtilkijioocijcaaInsR
import Derived.Shelf.Spec.SlicesInsertGrow
namespace Go.Proofs.Ytilkijioocijcaa.Shp
open Go.RowKit
set_option linter.unusedVariables false
set_option linter.unusedSimpArgs false

theorem wpList_app_run {P : Program} (w : World) {ops : Array Oper} {rest : List Oper} {o : Oper} {a : Act} {Q : Exit → Act → World → Prop} (hgd : o.guard = none) (d s : Operand) (t t' : TypeId)
    (ho : o.op = .call { callee := .builtin .append, args := #[d, s], argTypes := #[t, t'] }) (v u : Value) (hd : a.eval d = v) (hs : a.eval s = u) {v' : Value} {w' : World}
    (hr : (Builtin.append_ #[t, t'] o.type #[v, u]).run P w = .ok v' w') (h : wpList P ops Q rest (a.put o.dst v') w') : wpList P ops Q (o :: rest) a w :=
  wpList_plain hgd fun K hK => by
    unfold Oper.wp execOp
    simp only [ho, resolve, invoke, builtin, Sem.run_bind, Sem.run_pure, Result.andThen_ok, List.map_toArray, List.map_cons, List.map_nil, hd, hs, hr]
    exact hK _ _ h
set_option maxRecDepth 100000 in
set_option maxHeartbeats 2000000 in
theorem insert_grow (base g cap k : Nat) (L : List Int) (n : Int) (H : Nat) (w : World) (h : OwnI w base 3 .i64 (.slice (some ⟨g, 0, none⟩) L.length cap) L) (hn : Blk w H 3 #[.int .i64 n]) (hl : L.length ≤ 1000000) (hk : k < L.length) (hroom : cap < L.length + 1) (hbs : base ≤ w.heap.size) :
    Calls Try.prog 26 #[.slice (some ⟨g, 0, none⟩) L.length cap, .int .i64 (k : Nat), .slice (some ⟨H, 0, none⟩) 1 1] w fun e w' => ∃ G, e = .returned (.slice (some ⟨w.heap.size, 0, none⟩) (L.length + 1) G) ∧ L.length + 1 ≤ G ∧ ReadsI w' .i64 (some ⟨w.heap.size, 0, none⟩) (L.take k ++ n :: L.drop k) ∧ Below base w w' := by
  obtain ⟨hbase, hcap, hmax, cur, hB, hcs, hcur⟩ := own_blk h
  have hcell : ∀ j, j < L.length → w.cell? ⟨g, j, none⟩ = some (.int .i64 (nth L j)) := fun j hj => by
    rw [hB.cell, hcur j hj, List.getElem?_map, List.getElem?_eq_getElem hj, nth_eq _ _ hj]; rfl
  obtain ⟨N, hN⟩ : ∃ N, L.length = N := ⟨_, rfl⟩
  obtain ⟨q, hq⟩ : ∃ q, k + 1 = q := ⟨_, rfl⟩
  obtain ⟨m, hm⟩ : ∃ m, N - k = m := ⟨_, rfl⟩
  obtain ⟨N1, hN1⟩ : ∃ N1, N + 1 = N1 := ⟨_, rfl⟩
  obtain ⟨m1, hm1⟩ : ∃ m1, N1 - k = m1 := ⟨_, rfl⟩
  have hdl : ((L.drop k).map (Value.int .i64)).length = m := by simp; omega
  rw [hN] at hl hk hcap hroom hcell ⊢
  rw [hN1] at hroom ⊢
  have i0' := Option.map_eq_some_iff.1 (info_i trivial)
  obtain ⟨i0, hi0, hzz⟩ := i0'
  simp only [Prod.mk.injEq] at hzz
  obtain ⟨hz0, hzs, hzb⟩ := hzz
  have hold : (Builtin.firstCells i0.size k (.slice (some ⟨g, 0, none⟩) k cap)).run Try.prog w.drew = .ok ((L.take k).map (Value.int .i64)).toArray w.drew := by
    rw [hzs]
    exact run_firstCells_some w.drew 1 k ⟨g, 0, none⟩ k cap ((L.take k).map (Value.int .i64)) (by simp; omega) (fun j v hj => by
      have hj' : j < k := by have := (List.getElem?_eq_some_iff.1 hj).1; simp at this; omega
      rw [List.getElem?_map, List.getElem?_take, if_pos hj', List.getElem?_eq_getElem (by omega)] at hj
      rw [show (⟨g, 0, none⟩ : Addr).add j = ⟨g, 0 + j, none⟩ by unfold Addr.add; split <;> simp_all, Nat.zero_add]
      show w.cell? _ = _
      rw [hcell j (by omega), nth_eq _ _ (by omega)]
      simpa using hj)
  obtain ⟨G, hG⟩ : ∃ G, G = grownCap w N1 cap 3 := ⟨_, rfl⟩
  have hGn : N1 ≤ G := by rw [hG]; exact grownCap_ge w _ _ _
  have hrz : ∃ ROW : Array Value, N1 ≤ ROW.size ∧ (∀ j, j < k → ROW[j]? = some (.int .i64 (nth L j))) ∧ ∀ ty, (Builtin.append_ #[24, 3] ty #[.slice (some ⟨g, 0, none⟩) k cap, .int .i64 (m1 : Int)]).run Try.prog w = .ok (.slice (some ⟨w.heap.size, 0, none⟩) N1 G) (w.drew.alloc (.cells ROW 3)) := by
    refine ⟨((L.take k).map (Value.int .i64)).toArray ++ Builtin.zeroCells (Value.int .i64 0).cells m1 ++ Builtin.zeroCells (Value.int .i64 0).cells (G - N1), ?_, fun j hj => ?_, fun ty => ?_⟩
    · simp [Builtin.zeroCells, Value.cells]
      omega
    · rw [Array.append_assoc, Array.getElem?_append_left (by simp; omega)]
      simp only [List.getElem?_toArray, List.getElem?_map, List.getElem?_take, if_pos hj]
      rw [List.getElem?_eq_getElem (by omega), nth_eq _ _ (by omega)]
      rfl
    · have h := Lib.run_append_grow_zeros w 24 3 ty 3 i0 _ .i64 .i64 Try.underlying24 Try.underlying3 hi0 hz0 (some ⟨g, 0, none⟩) k cap ((L.take k).map (Value.int .i64)) hold m1 (by omega) (by omega) (by omega) (by omega) (by rw [hzb]; omega) (by rw [hzb, show k + m1 = N1 by omega]; exact growslice_fits hroom (by omega))
      rw [show k + m1 = N1 by omega, ← hG] at h
      exact h
  obtain ⟨ROW, hR1, hR2, hrz⟩ := hrz
  have hgw := hB.lt
  have hHw := hn.lt
  obtain ⟨H0, hH0⟩ : ∃ H0, H0 = w.heap.size := ⟨_, rfl⟩
  rw [← hH0] at hrz hgw hHw hbs ⊢
  obtain ⟨W1, hW1⟩ : ∃ W1, W1 = w.drew.alloc (.cells ROW 3) := ⟨_, rfl⟩
  have hBR : Blk W1 H0 3 ROW := by rw [hW1]; exact Blk.new' (w := w.drew) hH0.symm _ _
  have hBg : Blk W1 g 3 cur := by rw [hW1]; exact hB.drew.alloc _
  have hBH : Blk W1 H 3 #[.int .i64 n] := by rw [hW1]; exact hn.drew.alloc _
  have hBel : Below H0 w W1 := by rw [hW1, hH0]; exact bl_alloc (bl_drew (Below.refl _ _)) _
  rw [← hW1] at hrz
  have hsome : ∀ j, j < N1 → (W1.cell? ⟨H0, j, none⟩).isSome = true := fun j hj => by rw [hBR.cell, Array.getElem?_eq_getElem (by omega)]; rfl
  have hcA : ∀ ty dc, (Builtin.copy_ #[24, 22] ty #[.slice (some ⟨H0, k, none⟩) m1 dc, .slice (some ⟨H, 0, none⟩) 1 1]).run Try.prog W1 = .ok (goInt 1) (W1.setCells H0 k [.int .i64 n]) := fun ty dc =>
    run_copy_cells (P := Try.prog) W1 24 22 ty 3 H0 k m1 dc ⟨H, 0, none⟩ 1 1 [.int .i64 n] Try.underlying24 int_size (by simp only [List.length_singleton, Nat.min_def]; split <;> omega)
      (fun j v hj => by
        have hj' : j < 1 := (List.getElem?_eq_some_iff.1 hj).1
        obtain rfl : j = 0 := by omega
        simp at hj
        subst hj
        exact hBH.cell 0)
      (fun j hj => by
        have hj' : j < 1 := hj
        obtain rfl : j = 0 := by omega
        exact hsome k (by omega)) (fun j hj => hBR.frozen _) (by intro u hu; simp at hu; subst hu; rfl)
  obtain ⟨W2, hW2⟩ : ∃ W2, W2 = W1.setCells H0 k [.int .i64 n] := ⟨_, rfl⟩
  rw [← hW2] at hcA
  have hf2 : ∀ j, W2.frozen? ⟨H0, j, none⟩ = false := fun j => by rw [hW2, World.frozen?_setCells]; exact hBR.frozen j
  have hk2 : W2.cell? ⟨H0, k, none⟩ = some (.int .i64 n) := by
    have h1 := World.cell?_setCells_in H0 [Value.int .i64 n] k W1 (fun t ht => by
      have ht' : t < 1 := ht
      obtain rfl : t = 0 := by omega
      exact hsome k (by omega)) 0 (by simp)
    rw [hW2]; exact h1
  have ho2 : ∀ j, j ≠ k → W2.cell? ⟨H0, j, none⟩ = W1.cell? ⟨H0, j, none⟩ := fun j hj => by
    rw [hW2, World.cell?_setCells_out H0 _ k W1 ⟨H0, j, none⟩ (fun _ _ => by show j < k ∨ k + 1 ≤ j; omega)]
  have hs2 : ∀ j, j < N1 → (W2.cell? ⟨H0, j, none⟩).isSome = true := fun j hj => by
    by_cases c : j = k
    · rw [c, hk2]; rfl
    · rw [ho2 j c]; exact hsome j hj
  have hg2 : ∀ j, j < N → W2.cell? ⟨g, j, none⟩ = some (.int .i64 (nth L j)) := fun j hj => by
    rw [hW2, World.cell?_setCells_out H0 _ k W1 ⟨g, j, none⟩ (fun h _ => absurd h (by show g ≠ H0; omega)), hBg.cell, ← hB.cell]
    exact hcell j hj
  have hcB : ∀ ty dc sc, (Builtin.copy_ #[24, 24] ty #[.slice (some ⟨H0, q, none⟩) m dc, .slice (some ⟨g, k, none⟩) m sc]).run Try.prog W2.drew = .ok (goInt m) (W2.drew.setCells H0 q ((L.drop k).map (Value.int .i64))) := fun ty dc sc => by
    have := run_copy_cells (P := Try.prog) W2.drew 24 24 ty 3 H0 q m dc ⟨g, k, none⟩ m sc ((L.drop k).map (Value.int .i64)) Try.underlying24 int_size (by rw [hdl]; simp only [Nat.min_def]; split <;> omega)
      (fun j v hj => by
        have hj' : j < m := by have := (List.getElem?_eq_some_iff.1 hj).1; omega
        rw [List.getElem?_map, List.getElem?_drop, List.getElem?_eq_getElem (by omega)] at hj
        rw [show (⟨g, k, none⟩ : Addr).add j = ⟨g, k + j, none⟩ by unfold Addr.add; split <;> simp_all]
        show W2.cell? _ = _
        rw [hg2 (k + j) (by omega), nth_eq _ _ (by omega)]
        simpa using hj)
      (fun j hj => hs2 (q + j) (by omega)) (fun j hj => hf2 _) (int_one _)
    rwa [hdl] at this
  obtain ⟨W3, hW3⟩ : ∃ W3, W3 = W2.drew.setCells H0 q ((L.drop k).map (Value.int .i64)) := ⟨_, rfl⟩
  rw [← hW3] at hcB
  have HFIN : Hid (ReadsI W3 .i64 (some ⟨H0, 0, none⟩) (L.take k ++ n :: L.drop k)) := Lib.hid (fun j hj => by
    have hj' : j < N1 := by simp at hj; omega
    refine ⟨H0, 0, rfl, ?_⟩
    rw [Nat.zero_add, nth_eq _ _ hj]
    by_cases c : j ≤ k
    · rw [hW3, World.cell?_setCells_out H0 _ q W2.drew ⟨H0, j, none⟩ (fun _ _ => .inl (by show j < q; omega))]
      show W2.cell? _ = _
      by_cases c2 : j = k
      · subst c2
        rw [hk2, List.getElem_append_right (by simp; omega)]
        simp [show j - min j L.length = 0 by omega]
      · rw [ho2 j c2, hBR.cell, hR2 j (by omega), List.getElem_append_left (by simp; omega), List.getElem_take, nth_eq _ _ (by omega)]
    · have h1 := World.cell?_setCells_in H0 ((L.drop k).map (Value.int .i64)) q W2.drew (fun t ht => hs2 (q + t) (by omega)) (j - q) (by omega)
      rw [show q + (j - q) = j by omega] at h1
      rw [hW3, h1, List.getElem_append_right (by simp; omega)]
      obtain ⟨d, hd⟩ : ∃ d, j - (L.take k).length = d + 1 := ⟨j - (L.take k).length - 1, by simp; omega⟩
      simp only [hd, List.getElem_cons_succ, List.getElem_map, List.getElem_drop]
      congr 3
      simp at hd
      omega)
  have HB3 : Hid (Below base w W3) := Lib.hid (by
    have hb1 : Below base w W1 := hBel.mono hbs
    have hb2 : Below base w W2 := by rw [hW2]; exact below_setCells hb1 H0 hbs _ _
    rw [hW3]
    exact below_setCells (⟨hb2.os, hb2.tape, hb2.output, hb2.size, hb2.block⟩ : Below base w W2.drew) H0 hbs _ _)
  have a1 : (k : Int) + 1 = (q : Int) := by omega
  have a2 : (N : Int) + 1 = (N1 : Int) := by omega
  have a2' : (N1 : Int) - (k : Int) = (m1 : Int) := by omega
  have a3 : IntKind.i64.wrap (q : Int) = (q : Int) := by rw [IntKind.wrap_i64]; omega
  have a4 : IntKind.i64.wrap (N1 : Int) = (N1 : Int) := by rw [IntKind.wrap_i64]; omega
  have a4' : IntKind.i64.wrap (m1 : Int) = (m1 : Int) := by rw [IntKind.wrap_i64]; omega
  have a5 : ¬ ((k : Int) = (N : Int)) := by omega
  have a6 : k ≤ N := by omega
  have a7 : q ≤ N1 := by omega
  have a8 : k ≤ N1 := by omega
  have a9 : N1 - q = m := by omega
  have b2 : ¬ (cap = k) := by omega
  have b3 : ¬ (G = k) := by omega
  have hG63 : G ≤ 9223372036854775807 := by
    have := grownCap_le_maxLen w N1 cap 3 (by unfold maxLen; omega)
    rw [← hG] at this
    unfold maxLen at this
    omega
  have b4 : ¬ (G = q) := by omega
  have hmx : cap ≤ 9223372036854775807 := by unfold maxLen at hmax; exact hmax
  clear h hn hB hcs hcur hcell hN hq hN1 hdl hW1 hW2 hW3 hf2 hk2 ho2 hs2 hg2 hBR hBg hBH hBel hsome hold hi0 hz0 hzs hzb hG hR1 hR2 hmax hgw hHw hH0
  go_enter Try.func26, Try.ntmps26
  go_wp2_with (at_builtin; first | (refine wpList_app_run _ rfl (.tmp 34) (.tmp 39) 24 3 rfl (.slice (some ⟨g, 0, none⟩) k cap) (.int .i64 (m1 : Int)) rfl rfl (hrz _) ?_) | (go_loud (refine Go.Proofs.wpList_copy_runI _ rfl (.tmp 43) (.tmp 44) 24 22 rfl _ _ rfl rfl (hcA _ _) ?_)))
  go_region_law (refine Go.Proofs.step_copy_runI rfl _ _ 24 24 rfl _ _ (by simp [Act.eval, Act.put]) (by simp [Act.eval, Act.put]) (hcB _ _ _) ?_)
  all_goals
    go_wp2_with fail
    go_ret
    exact ⟨G, rfl, hGn, HFIN.out, HB3.out⟩
end Go.Proofs.Ytilkijioocijcaa.Shp
