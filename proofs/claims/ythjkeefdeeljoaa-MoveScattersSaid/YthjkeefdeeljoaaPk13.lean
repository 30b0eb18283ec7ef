/- Contracts and lemmas that the row of this claim stands on: Edit0, EditS, EditI. -/
import Derived.Test.YthjkeefdeeljoaaPk12
import Derived.Test.YthjkeefdeeljoaaPk3
import Derived.Shelf.Spec.SlicesInsert
import Derived.Shelf.Spec.SlicesInsertGrow
/- slices.Insert and Delete: what both types share. -/
namespace Go.Proofs.Ythjkeefdeeljoaa.Shp
open Go.RowKit
set_option linter.unusedVariables false
set_option linter.unusedSimpArgs false

namespace Edit
theorem append_two (P : Program) (t t' e e' ty : TypeId) (ht : P.underlying t = some (.slice e)) (ht' : P.underlying t' = some (.slice e')) (v x : Value) (w : World) : (Builtin.append_ #[t, t'] ty #[v, x]).run P w = (Builtin.append_ #[t, t] ty #[v, x]).run P w := by
  cases v <;> simp [Builtin.append_, run_underlying ht, run_underlying ht']
section
variable {P : Program} {w : World} {ops : Array Oper} {rest : List Oper} {o : Oper} {a : Act} {Q : Exit → Act → World → Prop}
theorem wpList_app2 (hgd : o.guard = none) (s x : Operand) (t t' : TypeId) (ho : o.op = .call { callee := .builtin .append, args := #[s, x], argTypes := #[t, t'] })
    (e e' : TypeId) (base : Nat) (z : Value) (size bytes : Nat) (ht : P.underlying t = some (.slice e)) (ht' : P.underlying t' = some (.slice e')) (hinfo : (P.info? e).map (fun i => (i.zero, i.size, i.bytes)) = some (some z, size, bytes)) (hzs : z.cells.size = size) (hsz : 0 < size)
    (v : Value) (n : Nat) (xs : List Value) (hs : a.eval s = v) (hown : w.ownsRow base e size v n xs)
    (X : Option Addr) (m c : Nat) (news : List Value) (hx : a.eval x = .slice X m c) (hl : news.length = m * size) (hnews : Shows w X news) (h1 : ∀ u ∈ news, u.oneCell' = true)
    (h63 : n + m ≤ maxLen) (hbytes : (n + m) * bytes ≤ 140737488355328) (hbase : base ≤ w.heap.size)
    (h : ∀ v' w', w'.ownsRow base e size v' (n + m) (xs ++ news) → w.grownBy w' v.ownBlock → (v'.ownBlock = v.ownBlock ∨ v'.ownBlock = some w.heap.size) → wpList P ops Q rest (a.put o.dst v') w') : wpList P ops Q (o :: rest) a w :=
  wpList_plain hgd fun K hK => by
    obtain ⟨v', w', hrun, h2, h3, h4⟩ := run_app (P := P) t o.type e base z size bytes ht hinfo hzs hsz v n xs hown X m c news hl hnews h1 h63 hbytes hbase
    unfold Oper.wp execOp
    simp only [ho, resolve, invoke, builtin, Sem.run_bind, Sem.run_pure, Result.andThen_ok, List.map_toArray, List.map_cons, List.map_nil, hs, hx, append_two P t t' e e' o.type ht ht', hrun]
    exact hK _ _ (h v' w' h2 h3 h4)
end
theorem size_int : ∀ w, (sizeOf 3).run Try.prog w = .ok 1 w := by
  intro w
  obtain ⟨i0, hi, hzz⟩ := Option.map_eq_some_iff.1 (info_i trivial)
  simp only [Prod.mk.injEq] at hzz
  simp [sizeOf, typeInfo, hi, hzz.2.1]
theorem int_size : (Try.prog.info? 3).map (·.size) = some 1 := by kernel_rfl
theorem blk_shape {w : World} {g : Nat} {t : TypeId} {cs : Array Value} (h : Blk w g t cs) : w.shape? g = some (t, cs.size) := by
  unfold Blk at h
  simp [World.shape?, h]
theorem overlaps_no (H g o lb cb : Nat) (t t' : TypeId) (cs cs' : Array Value) (w : World) (h : Blk w H t cs) (h' : Blk w g t' cs') (hne : H ≠ g) (hc : cs'.size ≠ 0) : (callFunc 136 #[.slice (some ⟨H, 0, none⟩) 1 1, .slice (some ⟨g, o, none⟩) lb cb]).run Try.prog w = .ok (.value (.bool false)) w := by
  rw [run_callFunc_extern Try.func136 (by kernel_rfl) (by kernel_rfl) (by kernel_rfl) (e := Extern.SlicesOverlaps.overlaps #[22, 22] #[4]) (by kernel_rfl),
    Lib.run_overlaps_apart w 22 4 3 Try.underlying22 1 size_int ⟨H, 0, none⟩ ⟨g, o, none⟩ 1 1 lb cb hne t t' cs.size cs'.size (blk_shape h) (blk_shape h') hc (h.frozen 0) (h.frozen _)]
  rfl
theorem own_blk {w : World} {base g n cap : Nat} {e : TypeId} {xs : List Value} (h : w.ownsRow base e 1 (.slice (some ⟨g, 0, none⟩) n cap) n xs) : base ≤ g ∧ n ≤ cap ∧ cap ≤ maxLen ∧ ∃ cur, Blk w g e cur ∧ cur.size = cap ∧ ∀ j, j < n → cur[j]? = xs[j]? := by
  rcases h.2 with ⟨h', _⟩ | ⟨g', cap', cur, h', hb, hh, hnc, hm, hs, ht⟩
  · simp at h'
  · simp only [Value.slice.injEq, Option.some.injEq, Addr.mk.injEq, and_true, true_and] at h'
    obtain ⟨rfl, rfl⟩ := h'
    refine ⟨hb, hnc, hm, cur, hh, by omega, fun j hj => ?_⟩
    rw [← ht, List.getElem?_take, if_pos (by omega), Array.getElem?_toList]
theorem wpList_app_run {P : Program} (w : World) {ops : Array Oper} {rest : List Oper} {o : Oper} {a : Act} {Q : Exit → Act → World → Prop} (hgd : o.guard = none) (d s : Operand) (t t' : TypeId)
    (ho : o.op = .call { callee := .builtin .append, args := #[d, s], argTypes := #[t, t'] }) (v u : Value) (hd : a.eval d = v) (hs : a.eval s = u) {v' : Value} {w' : World}
    (hr : (Builtin.append_ #[t, t'] o.type #[v, u]).run P w = .ok v' w') (h : wpList P ops Q rest (a.put o.dst v') w') : wpList P ops Q (o :: rest) a w :=
  wpList_plain hgd fun K hK => by
    unfold Oper.wp execOp
    simp only [ho, resolve, invoke, builtin, Sem.run_bind, Sem.run_pure, Result.andThen_ok, List.map_toArray, List.map_cons, List.map_nil, hd, hs, hr]
    exact hK _ _ h
theorem Only.setCells {T : Nat} {w W : World} (h : Only T w W) (b : Nat) (hb : b = T ∨ w.heap.size ≤ b) : ∀ (vs : List Value) (o : Nat), Only T w (W.setCells b o vs) := by
  intro vs
  induction vs generalizing W with
  | nil => intro o; exact h
  | cons v vs ih => intro o; exact ih (h.set (p := ⟨b, o, none⟩) hb v) (o + 1)
end Edit
end Go.Proofs.Ythjkeefdeeljoaa.Shp
/- slices.Insert and Delete of one number at a shape. -/
namespace Go.Proofs.Ythjkeefdeeljoaa.Shp
open Go.RowKit
set_option linter.unusedVariables false
set_option linter.unusedSimpArgs false

namespace EdS
open Edit
set_option maxRecDepth 100000 in
set_option maxHeartbeats 2000000 in
theorem insert_end (base g cap : Nat) (L : List Int) (n : Int) (H : Nat) (w : World) (h : OwnI w base 3 .i64 (.slice (some ⟨g, 0, none⟩) L.length cap) L) (hn : Blk w H 3 #[.int .i64 n]) (hl : L.length ≤ 1000000) (hbase : base ≤ w.heap.size) :
    Calls Try.prog 115 #[.slice (some ⟨g, 0, none⟩) L.length cap, .int .i64 (L.length : Nat), .slice (some ⟨H, 0, none⟩) 1 1] w fun e w' => ∃ A' c', e = .returned (.slice A' (L.length + 1) c') ∧ ReadsI w' .i64 A' (L ++ [n]) ∧ (∃ b, A' = some ⟨b, 0, none⟩ ∧ (b = g ∨ w.heap.size ≤ b) ∧ b < w'.heap.size) ∧ Only g w w' := by
  have HOW := Lib.hid h
  have HS : Hid (Shows w (some ⟨H, 0, none⟩) [Value.int .i64 n]) := Lib.hid (Shows.of_blk hn)
  have hcap : L.length ≤ cap := by
    rcases h.2 with ⟨h', h0⟩ | ⟨g, cap', cur, h', _, _, hnc, _⟩
    · omega
    · simp only [Value.slice.injEq, Option.some.injEq, Addr.mk.injEq, and_true, true_and] at h'
      omega
  clear h hn
  go_enter Try.func115, Try.ntmps115
  go_wp2_with (at_builtin; go_must (refine wpList_app2 rfl (.tmp 23) (.tmp 24) 32 22 rfl 3 3 base (.int .i64 0) 1 8 Try.underlying32 Try.underlying22 (info_i trivial) rfl (by decide) (.slice (some ⟨g, 0, none⟩) L.length cap) L.length (L.map (Value.int .i64)) rfl HOW.out (some ⟨H, 0, none⟩) 1 1 [Value.int .i64 n] rfl rfl HS.out (by simp [Value.oneCell']) (by simp only [maxLen]; omega) (by omega) hbase ?_); intro v1 w1 hown1 hg1 hat1)
  all_goals
    go_ret
    have ho : OwnI w1 base 3 .i64 v1 (L ++ [n]) := OwnI.snoc hown1
    rcases ho.2 with ⟨_, h0⟩ | ⟨b, c', cur, rfl, _, hh, _⟩
    · simp at h0
    have hlt := (Array.getElem?_eq_some_iff.1 hh).1
    have hsh := ho.shows
    obtain ⟨A', c2, hv, _, hr⟩ := hsh
    simp only [Value.slice.injEq] at hv
    obtain ⟨rfl, _, rfl⟩ := hv
    refine ⟨some ⟨b, 0, none⟩, ⟨c', by simp⟩, hr, ⟨b, rfl, ?_, hlt⟩, (Only.refl g w).grown hg1 (fun k hk => .inl (by simpa [Value.ownBlock] using hk.symm))⟩
    rcases hat1 with h | h
    · exact .inl (by simpa [Value.ownBlock] using h)
    · exact .inr (by simp [Value.ownBlock] at h; omega)
set_option maxRecDepth 100000 in
set_option maxHeartbeats 2000000 in
theorem insert_room (base g cap k : Nat) (L : List Int) (n : Int) (H : Nat) (w : World) (h : OwnI w base 3 .i64 (.slice (some ⟨g, 0, none⟩) L.length cap) L) (hn : Blk w H 3 #[.int .i64 n]) (hne : H ≠ g) (hl : L.length ≤ 1000000) (hk : k < L.length) (hroom : L.length + 1 ≤ cap) :
    Calls Try.prog 115 #[.slice (some ⟨g, 0, none⟩) L.length cap, .int .i64 (k : Nat), .slice (some ⟨H, 0, none⟩) 1 1] w fun e w' => e = .returned (.slice (some ⟨g, 0, none⟩) (L.length + 1) cap) ∧ ReadsI w' .i64 (some ⟨g, 0, none⟩) (L.take k ++ n :: L.drop k) ∧ Only g w w' := by
  obtain ⟨hbase, hcap, hmax, cur, hB, hcs, hcur⟩ := own_blk h
  have hcell : ∀ j, j < L.length → w.cell? ⟨g, j, none⟩ = some (.int .i64 (nth L j)) := fun j hj => by
    rw [hB.cell, hcur j hj, List.getElem?_map, List.getElem?_eq_getElem hj, nth_eq _ _ hj]; rfl
  have hsome : ∀ j, j < cap → (w.cell? ⟨g, j, none⟩).isSome = true := fun j hj => by
    rw [hB.cell, Array.getElem?_eq_getElem (by omega)]; rfl
  have hfz : ∀ j, w.frozen? ⟨g, j, none⟩ = false := hB.frozen
  obtain ⟨N, hN⟩ : ∃ N, L.length = N := ⟨_, rfl⟩
  obtain ⟨q, hq⟩ : ∃ q, k + 1 = q := ⟨_, rfl⟩
  obtain ⟨m, hm⟩ : ∃ m, N - k = m := ⟨_, rfl⟩
  obtain ⟨N1, hN1⟩ : ∃ N1, N + 1 = N1 := ⟨_, rfl⟩
  have hov := fun lb cb => overlaps_no H g q lb cb 3 3 _ _ w hn hB hne (by omega)
  have hdl : ((L.drop k).map (Value.int .i64)).length = m := by simp; omega
  rw [hN] at hl hk hcap hroom hcell ⊢
  rw [hN1] at hroom ⊢
  have hcp1 : ∀ ty dc sc, (Builtin.copy_ #[32, 32] ty #[.slice (some ⟨g, q, none⟩) m dc, .slice (some ⟨g, k, none⟩) (N1 - k) sc]).run Try.prog w.drew = .ok (goInt m) (w.drew.setCells g q ((L.drop k).map (Value.int .i64))) := fun ty dc sc => by
    have := run_copy_cells (P := Try.prog) w.drew 32 32 ty 3 g q m dc ⟨g, k, none⟩ (N1 - k) sc ((L.drop k).map (Value.int .i64)) Try.underlying32 int_size (by rw [hdl]; simp only [Nat.min_def]; split <;> omega)
      (fun j v hj => by
        have hj' : j < m := by have := (List.getElem?_eq_some_iff.1 hj).1; omega
        rw [List.getElem?_map, List.getElem?_drop, List.getElem?_eq_getElem (by omega)] at hj
        rw [show (⟨g, k, none⟩ : Addr).add j = ⟨g, k + j, none⟩ by unfold Addr.add; split <;> simp_all]
        show w.cell? _ = _
        rw [hcell (k + j) (by omega), nth_eq _ _ (by omega)]
        simpa using hj)
      (fun j hj => hsome (q + j) (by omega)) (fun j hj => hfz _) (int_one _)
    rwa [hdl] at this
  obtain ⟨W1, hW1⟩ : ∃ W1, W1 = w.drew.setCells g q ((L.drop k).map (Value.int .i64)) := ⟨_, rfl⟩
  have hout : ∀ j, (j < q ∨ q + m ≤ j) → W1.cell? ⟨g, j, none⟩ = w.cell? ⟨g, j, none⟩ := fun j hj => by
    rw [hW1, World.cell?_setCells_out g _ q w.drew ⟨g, j, none⟩ (fun _ _ => by show j < q ∨ q + _ ≤ j; omega)]; rfl
  have hinn : ∀ t, t < m → W1.cell? ⟨g, q + t, none⟩ = some (.int .i64 (nth L (k + t))) := fun t ht => by
    rw [hW1, World.cell?_setCells_in g _ q w.drew (fun j hj => hsome (q + j) (by omega)) t (by omega)]
    rw [List.getElem_map, List.getElem_drop, nth_eq _ _ (by omega)]
  have hfar : W1.cell? ⟨H, 0, none⟩ = some (.int .i64 n) := by
    rw [hW1, World.cell?_setCells_out g _ q w.drew ⟨H, 0, none⟩ (fun h _ => absurd h hne)]
    exact hn.cell 0
  have hfz1 : ∀ j, W1.frozen? ⟨g, j, none⟩ = false := fun j => by rw [hW1, World.frozen?_setCells]; exact hfz j
  have hcp2 : ∀ ty dc, (Builtin.copy_ #[32, 22] ty #[.slice (some ⟨g, k, none⟩) (N1 - k) dc, .slice (some ⟨H, 0, none⟩) 1 1]).run Try.prog W1 = .ok (goInt 1) (W1.setCells g k [.int .i64 n]) := fun ty dc =>
    run_copy_cells (P := Try.prog) W1 32 22 ty 3 g k (N1 - k) dc ⟨H, 0, none⟩ 1 1 [.int .i64 n] Try.underlying32 int_size (by simp only [List.length_singleton, Nat.min_def]; split <;> omega)
      (fun j v hj => by
        have hj' : j < 1 := (List.getElem?_eq_some_iff.1 hj).1
        obtain rfl : j = 0 := by omega
        simp at hj
        subst hj
        exact hfar)
      (fun j hj => by
        have hj' : j < 1 := hj
        obtain rfl : j = 0 := by omega
        rw [Nat.add_zero, hout k (.inl (by omega))]
        exact hsome k (by omega)) (fun j hj => hfz1 _) (by intro u hu; simp at hu; subst hu; rfl)
  have HFIN : Hid (ReadsI (W1.setCells g k [.int .i64 n]) .i64 (some ⟨g, 0, none⟩) (L.take k ++ n :: L.drop k)) := Lib.hid (fun j hj => by
    have hj' : j < N1 := by simp at hj; omega
    refine ⟨g, 0, rfl, ?_⟩
    rw [Nat.zero_add, nth_eq _ _ hj]
    by_cases c : j < k
    · rw [World.cell?_setCells_out g _ k W1 ⟨g, j, none⟩ (fun _ _ => .inl c), hout j (.inl (by omega)), hcell j (by omega), List.getElem_append_left (by simp; omega), List.getElem_take, nth_eq _ _ (by omega)]
    · by_cases c2 : j = k
      · subst c2
        have h1 := World.cell?_setCells_in g [Value.int .i64 n] j W1 (fun t ht => by
          have ht' : t < 1 := ht
          obtain rfl : t = 0 := by omega
          rw [Nat.add_zero, hout j (.inl (by omega))]
          exact hsome j (by omega)) 0 (by simp)
        rw [Nat.add_zero] at h1
        rw [h1, List.getElem_append_right (by simp; omega)]
        simp [show j - min j L.length = 0 by omega]
      · rw [World.cell?_setCells_out g _ k W1 ⟨g, j, none⟩ (fun _ _ => .inr (by show k + 1 ≤ j; omega))]
        have h1 := hinn (j - q) (by omega)
        rw [show q + (j - q) = j by omega] at h1
        rw [h1, List.getElem_append_right (by simp; omega)]
        obtain ⟨d, hd⟩ : ∃ d, j - (L.take k).length = d + 1 := ⟨j - (L.take k).length - 1, by simp; omega⟩
        simp only [hd, List.getElem_cons_succ, List.getElem_drop, nth_eq L _ (show k + (j - q) < L.length by omega)]
        congr 3
        simp at hd
        omega)
  have HB2 : Hid (Only g w (W1.setCells g k [.int .i64 n])) := Lib.hid (by rw [hW1]; exact Edit.Only.setCells (Edit.Only.setCells (Only.refl g w).drew g (.inl rfl) _ _) g (.inl rfl) _ _)
  rw [← hW1] at hcp1
  have a1 : (k : Int) + 1 = (q : Int) := by omega
  have a2 : (N : Int) + 1 = (N1 : Int) := by omega
  have a3 : IntKind.i64.wrap (q : Int) = (q : Int) := by rw [IntKind.wrap_i64]; omega
  have a4 : IntKind.i64.wrap (N1 : Int) = (N1 : Int) := by rw [IntKind.wrap_i64]; omega
  have a5 : ¬ ((k : Int) = (N : Int)) := by omega
  have a6 : k ≤ N := by omega
  have a7 : q ≤ N1 := by omega
  have a8 : k ≤ N1 := by omega
  have a9 : N1 - q = m := by omega
  have b1 : ¬ (cap = q) ∨ m = 0 := by omega
  have b2 : ¬ (cap = k) := by omega
  have b3 : ¬ (cap = q) := by omega
  have hmx : cap ≤ 9223372036854775807 := by unfold maxLen at hmax; exact hmax
  clear h hn hB hcs hcur hcell hsome hfz hN hq hm hN1 hdl hW1 hout hinn hfar hfz1 hmax b1
  go_enter Try.func115, Try.ntmps115
  go_wp2_with (simp only [hov])
  go_region_law (refine Go.Proofs.step_copy_runI rfl _ _ 32 32 rfl _ _ (by simp [Act.eval, Act.put]) (by simp [Act.eval, Act.put]) (hcp1 _ _ _) ?_)
  all_goals
    go_wp2_with (at_builtin; go_must (refine Go.Proofs.wpList_copy_runI _ rfl _ _ 32 22 rfl _ _ rfl rfl (hcp2 _ _) ?_))
    go_ret
    exact ⟨rfl, HFIN.out, HB2.out⟩
set_option maxRecDepth 100000 in
set_option maxHeartbeats 2000000 in
theorem insert_grow (base g cap k : Nat) (L : List Int) (n : Int) (H : Nat) (w : World) (h : OwnI w base 3 .i64 (.slice (some ⟨g, 0, none⟩) L.length cap) L) (hn : Blk w H 3 #[.int .i64 n]) (hl : L.length ≤ 1000000) (hk : k < L.length) (hroom : cap < L.length + 1) (hbs : base ≤ w.heap.size) :
    Calls Try.prog 115 #[.slice (some ⟨g, 0, none⟩) L.length cap, .int .i64 (k : Nat), .slice (some ⟨H, 0, none⟩) 1 1] w fun e w' => ∃ G, e = .returned (.slice (some ⟨w.heap.size, 0, none⟩) (L.length + 1) G) ∧ L.length + 1 ≤ G ∧ ReadsI w' .i64 (some ⟨w.heap.size, 0, none⟩) (L.take k ++ n :: L.drop k) ∧ w.heap.size < w'.heap.size ∧ Only g w w' := by
  obtain ⟨hbase, hcap, hmax, cur, hB, hcs, hcur⟩ := own_blk h
  have hcell : ∀ j, j < L.length → w.cell? ⟨g, j, none⟩ = some (.int .i64 (nth L j)) := fun j hj => by
    rw [hB.cell, hcur j hj, List.getElem?_map, List.getElem?_eq_getElem hj, nth_eq _ _ hj]; rfl
  obtain ⟨N, hN⟩ : ∃ N, L.length = N := ⟨_, rfl⟩
  obtain ⟨q, hq⟩ : ∃ q, k + 1 = q := ⟨_, rfl⟩
  obtain ⟨m, hm⟩ : ∃ m, N - k = m := ⟨_, rfl⟩
  obtain ⟨N1, hN1⟩ : ∃ N1, N + 1 = N1 := ⟨_, rfl⟩
  obtain ⟨m1, hm1⟩ : ∃ m1, N1 - k = m1 := ⟨_, rfl⟩
  have hdl : ((L.drop k).map (Value.int .i64)).length = m := by simp; omega
  rw [hN] at hl hk hcap hroom hcell ⊢
  rw [hN1] at hroom ⊢
  have i0' := Option.map_eq_some_iff.1 (info_i trivial)
  obtain ⟨i0, hi0, hzz⟩ := i0'
  simp only [Prod.mk.injEq] at hzz
  obtain ⟨hz0, hzs, hzb⟩ := hzz
  have hold : (Builtin.firstCells i0.size k (.slice (some ⟨g, 0, none⟩) k cap)).run Try.prog w.drew = .ok ((L.take k).map (Value.int .i64)).toArray w.drew := by
    rw [hzs]
    exact run_firstCells_some w.drew 1 k ⟨g, 0, none⟩ k cap ((L.take k).map (Value.int .i64)) (by simp; omega) (fun j v hj => by
      have hj' : j < k := by have := (List.getElem?_eq_some_iff.1 hj).1; simp at this; omega
      rw [List.getElem?_map, List.getElem?_take, if_pos hj', List.getElem?_eq_getElem (by omega)] at hj
      rw [show (⟨g, 0, none⟩ : Addr).add j = ⟨g, 0 + j, none⟩ by unfold Addr.add; split <;> simp_all, Nat.zero_add]
      show w.cell? _ = _
      rw [hcell j (by omega), nth_eq _ _ (by omega)]
      simpa using hj)
  obtain ⟨G, hG⟩ : ∃ G, G = grownCap w N1 cap 3 := ⟨_, rfl⟩
  have hGn : N1 ≤ G := by rw [hG]; exact grownCap_ge w _ _ _
  have hrz : ∃ ROW : Array Value, N1 ≤ ROW.size ∧ (∀ j, j < k → ROW[j]? = some (.int .i64 (nth L j))) ∧ ∀ ty, (Builtin.append_ #[32, 3] ty #[.slice (some ⟨g, 0, none⟩) k cap, .int .i64 (m1 : Int)]).run Try.prog w = .ok (.slice (some ⟨w.heap.size, 0, none⟩) N1 G) (w.drew.alloc (.cells ROW 3)) := by
    refine ⟨((L.take k).map (Value.int .i64)).toArray ++ Builtin.zeroCells (Value.int .i64 0).cells m1 ++ Builtin.zeroCells (Value.int .i64 0).cells (G - N1), ?_, fun j hj => ?_, fun ty => ?_⟩
    · simp [Builtin.zeroCells, Value.cells]
      omega
    · rw [Array.append_assoc, Array.getElem?_append_left (by simp; omega)]
      simp only [List.getElem?_toArray, List.getElem?_map, List.getElem?_take, if_pos hj]
      rw [List.getElem?_eq_getElem (by omega), nth_eq _ _ (by omega)]
      rfl
    · have h := Lib.run_append_grow_zeros w 32 3 ty 3 i0 _ .i64 .i64 Try.underlying32 Try.underlying3 hi0 hz0 (some ⟨g, 0, none⟩) k cap ((L.take k).map (Value.int .i64)) hold m1 (by omega) (by omega) (by omega) (by omega) (by rw [hzb]; omega) (by rw [hzb, show k + m1 = N1 by omega]; exact growslice_fits hroom (by omega))
      rw [show k + m1 = N1 by omega, ← hG] at h
      exact h
  obtain ⟨ROW, hR1, hR2, hrz⟩ := hrz
  have hgw := hB.lt
  have hHw := hn.lt
  obtain ⟨H0, hH0⟩ : ∃ H0, H0 = w.heap.size := ⟨_, rfl⟩
  rw [← hH0] at hrz hgw hHw hbs ⊢
  obtain ⟨W1, hW1⟩ : ∃ W1, W1 = w.drew.alloc (.cells ROW 3) := ⟨_, rfl⟩
  have hBR : Blk W1 H0 3 ROW := by rw [hW1]; exact Blk.new' (w := w.drew) hH0.symm _ _
  have hBg : Blk W1 g 3 cur := by rw [hW1]; exact hB.drew.alloc _
  have hBH : Blk W1 H 3 #[.int .i64 n] := by rw [hW1]; exact hn.drew.alloc _
  have hBel : Below H0 w W1 := by rw [hW1, hH0]; exact bl_alloc (bl_drew (Below.refl _ _)) _
  rw [← hW1] at hrz
  have hsome : ∀ j, j < N1 → (W1.cell? ⟨H0, j, none⟩).isSome = true := fun j hj => by rw [hBR.cell, Array.getElem?_eq_getElem (by omega)]; rfl
  have hcA : ∀ ty dc, (Builtin.copy_ #[32, 22] ty #[.slice (some ⟨H0, k, none⟩) m1 dc, .slice (some ⟨H, 0, none⟩) 1 1]).run Try.prog W1 = .ok (goInt 1) (W1.setCells H0 k [.int .i64 n]) := fun ty dc =>
    run_copy_cells (P := Try.prog) W1 32 22 ty 3 H0 k m1 dc ⟨H, 0, none⟩ 1 1 [.int .i64 n] Try.underlying32 int_size (by simp only [List.length_singleton, Nat.min_def]; split <;> omega)
      (fun j v hj => by
        have hj' : j < 1 := (List.getElem?_eq_some_iff.1 hj).1
        obtain rfl : j = 0 := by omega
        simp at hj
        subst hj
        exact hBH.cell 0)
      (fun j hj => by
        have hj' : j < 1 := hj
        obtain rfl : j = 0 := by omega
        exact hsome k (by omega)) (fun j hj => hBR.frozen _) (by intro u hu; simp at hu; subst hu; rfl)
  obtain ⟨W2, hW2⟩ : ∃ W2, W2 = W1.setCells H0 k [.int .i64 n] := ⟨_, rfl⟩
  rw [← hW2] at hcA
  have hf2 : ∀ j, W2.frozen? ⟨H0, j, none⟩ = false := fun j => by rw [hW2, World.frozen?_setCells]; exact hBR.frozen j
  have hk2 : W2.cell? ⟨H0, k, none⟩ = some (.int .i64 n) := by
    have h1 := World.cell?_setCells_in H0 [Value.int .i64 n] k W1 (fun t ht => by
      have ht' : t < 1 := ht
      obtain rfl : t = 0 := by omega
      exact hsome k (by omega)) 0 (by simp)
    rw [hW2]; exact h1
  have ho2 : ∀ j, j ≠ k → W2.cell? ⟨H0, j, none⟩ = W1.cell? ⟨H0, j, none⟩ := fun j hj => by
    rw [hW2, World.cell?_setCells_out H0 _ k W1 ⟨H0, j, none⟩ (fun _ _ => by show j < k ∨ k + 1 ≤ j; omega)]
  have hs2 : ∀ j, j < N1 → (W2.cell? ⟨H0, j, none⟩).isSome = true := fun j hj => by
    by_cases c : j = k
    · rw [c, hk2]; rfl
    · rw [ho2 j c]; exact hsome j hj
  have hg2 : ∀ j, j < N → W2.cell? ⟨g, j, none⟩ = some (.int .i64 (nth L j)) := fun j hj => by
    rw [hW2, World.cell?_setCells_out H0 _ k W1 ⟨g, j, none⟩ (fun h _ => absurd h (by show g ≠ H0; omega)), hBg.cell, ← hB.cell]
    exact hcell j hj
  have hcB : ∀ ty dc sc, (Builtin.copy_ #[32, 32] ty #[.slice (some ⟨H0, q, none⟩) m dc, .slice (some ⟨g, k, none⟩) m sc]).run Try.prog W2.drew = .ok (goInt m) (W2.drew.setCells H0 q ((L.drop k).map (Value.int .i64))) := fun ty dc sc => by
    have := run_copy_cells (P := Try.prog) W2.drew 32 32 ty 3 H0 q m dc ⟨g, k, none⟩ m sc ((L.drop k).map (Value.int .i64)) Try.underlying32 int_size (by rw [hdl]; simp only [Nat.min_def]; split <;> omega)
      (fun j v hj => by
        have hj' : j < m := by have := (List.getElem?_eq_some_iff.1 hj).1; omega
        rw [List.getElem?_map, List.getElem?_drop, List.getElem?_eq_getElem (by omega)] at hj
        rw [show (⟨g, k, none⟩ : Addr).add j = ⟨g, k + j, none⟩ by unfold Addr.add; split <;> simp_all]
        show W2.cell? _ = _
        rw [hg2 (k + j) (by omega), nth_eq _ _ (by omega)]
        simpa using hj)
      (fun j hj => hs2 (q + j) (by omega)) (fun j hj => hf2 _) (int_one _)
    rwa [hdl] at this
  obtain ⟨W3, hW3⟩ : ∃ W3, W3 = W2.drew.setCells H0 q ((L.drop k).map (Value.int .i64)) := ⟨_, rfl⟩
  rw [← hW3] at hcB
  have HFIN : Hid (ReadsI W3 .i64 (some ⟨H0, 0, none⟩) (L.take k ++ n :: L.drop k)) := Lib.hid (fun j hj => by
    have hj' : j < N1 := by simp at hj; omega
    refine ⟨H0, 0, rfl, ?_⟩
    rw [Nat.zero_add, nth_eq _ _ hj]
    by_cases c : j ≤ k
    · rw [hW3, World.cell?_setCells_out H0 _ q W2.drew ⟨H0, j, none⟩ (fun _ _ => .inl (by show j < q; omega))]
      show W2.cell? _ = _
      by_cases c2 : j = k
      · subst c2
        rw [hk2, List.getElem_append_right (by simp; omega)]
        simp [show j - min j L.length = 0 by omega]
      · rw [ho2 j c2, hBR.cell, hR2 j (by omega), List.getElem_append_left (by simp; omega), List.getElem_take, nth_eq _ _ (by omega)]
    · have h1 := World.cell?_setCells_in H0 ((L.drop k).map (Value.int .i64)) q W2.drew (fun t ht => hs2 (q + t) (by omega)) (j - q) (by omega)
      rw [show q + (j - q) = j by omega] at h1
      rw [hW3, h1, List.getElem_append_right (by simp; omega)]
      obtain ⟨d, hd⟩ : ∃ d, j - (L.take k).length = d + 1 := ⟨j - (L.take k).length - 1, by simp; omega⟩
      simp only [hd, List.getElem_cons_succ, List.getElem_map, List.getElem_drop]
      congr 3
      simp at hd
      omega)
  have HSZ : Hid (H0 < W3.heap.size) := Lib.hid (by
    have h1 : H0 < W1.heap.size := hBR.lt
    have h2 : W1.heap.size ≤ W2.heap.size := by rw [hW2]; exact (Edit.Only.setCells (Only.refl H0 W1) H0 (.inl rfl) _ _).size
    have h3 : W2.heap.size ≤ W3.heap.size := by rw [hW3]; exact (Edit.Only.setCells (Only.refl H0 W2).drew H0 (.inl rfl) _ _).size
    omega)
  have HB3 : Hid (Only g w W3) := Lib.hid (by
    have hb1 : Only g w W1 := by rw [hW1]; exact (Only.refl g w).drew.alloc _
    have hb2 : Only g w W2 := by rw [hW2]; exact Edit.Only.setCells hb1 H0 (.inr (by omega)) _ _
    rw [hW3]
    exact Edit.Only.setCells hb2.drew H0 (.inr (by omega)) _ _)
  have a1 : (k : Int) + 1 = (q : Int) := by omega
  have a2 : (N : Int) + 1 = (N1 : Int) := by omega
  have a2' : (N1 : Int) - (k : Int) = (m1 : Int) := by omega
  have a3 : IntKind.i64.wrap (q : Int) = (q : Int) := by rw [IntKind.wrap_i64]; omega
  have a4 : IntKind.i64.wrap (N1 : Int) = (N1 : Int) := by rw [IntKind.wrap_i64]; omega
  have a4' : IntKind.i64.wrap (m1 : Int) = (m1 : Int) := by rw [IntKind.wrap_i64]; omega
  have a5 : ¬ ((k : Int) = (N : Int)) := by omega
  have a6 : k ≤ N := by omega
  have a7 : q ≤ N1 := by omega
  have a8 : k ≤ N1 := by omega
  have a9 : N1 - q = m := by omega
  have b2 : ¬ (cap = k) := by omega
  have b3 : ¬ (G = k) := by omega
  have hG63 : G ≤ 9223372036854775807 := by
    have := grownCap_le_maxLen w N1 cap 3 (by unfold maxLen; omega)
    rw [← hG] at this
    unfold maxLen at this
    omega
  have b4 : ¬ (G = q) := by omega
  have hmx : cap ≤ 9223372036854775807 := by unfold maxLen at hmax; exact hmax
  clear h hn hB hcs hcur hcell hN hq hN1 hdl hW1 hW2 hW3 hf2 hk2 ho2 hs2 hg2 hBR hBg hBH hBel hsome hold hi0 hz0 hzs hzb hG hR1 hR2 hmax hgw hHw hH0
  go_enter Try.func115, Try.ntmps115
  go_wp2_with (at_builtin; first | (refine wpList_app_run _ rfl (.tmp 34) (.tmp 39) 32 3 rfl (.slice (some ⟨g, 0, none⟩) k cap) (.int .i64 (m1 : Int)) rfl rfl (hrz _) ?_) | (go_loud (refine Go.Proofs.wpList_copy_runI _ rfl (.tmp 43) (.tmp 44) 32 22 rfl _ _ rfl rfl (hcA _ _) ?_)))
  go_region_law (refine Go.Proofs.step_copy_runI rfl _ _ 32 32 rfl _ _ (by simp [Act.eval, Act.put]) (by simp [Act.eval, Act.put]) (hcB _ _ _) ?_)
  all_goals
    go_wp2_with fail
    go_ret
    exact ⟨G, rfl, hGn, HFIN.out, HSZ.out, HB3.out⟩
set_option maxRecDepth 100000 in
set_option maxHeartbeats 2000000 in
theorem delete_calls (base g cap k : Nat) (L : List Int) (w : World) (h : OwnI w base 3 .i64 (.slice (some ⟨g, 0, none⟩) L.length cap) L) (hk : k < L.length) (hl : L.length ≤ 1000000) : Calls Try.prog 75 #[.slice (some ⟨g, 0, none⟩) L.length cap, .int .i64 (k : Nat), .int .i64 ((k + 1 : Nat) : Int)] w fun e w' => e = .returned (.slice (some ⟨g, 0, none⟩) (L.length - 1) cap) ∧ ReadsI w' .i64 (some ⟨g, 0, none⟩) (L.take k ++ L.drop (k + 1)) ∧ Only g w w' := by
  obtain ⟨hbase, hcap, hrow⟩ : base ≤ g ∧ L.length ≤ cap ∧ ∀ j, w.cell? ⟨g, j, none⟩ = if j < L.length then some (.int .i64 (nth L j)) else w.cell? ⟨g, j, none⟩ := by
    rcases h.2 with ⟨h', _⟩ | ⟨g', cap', cur, h', hb, hh, hnc, _, _, _⟩
    · simp at h'
    · simp only [Value.slice.injEq, Option.some.injEq, Addr.mk.injEq, and_true, true_and] at h'
      obtain ⟨rfl, rfl⟩ := h'
      refine ⟨hb, hnc, fun j => ?_⟩
      split
      · rename_i hj
        have := World.ownsRow.cellAt h j (by omega)
        rw [this, List.getElem?_map, List.getElem?_eq_getElem hj, nth_eq _ _ hj]; rfl
      · rfl
  have hfz : ∀ j, w.frozen? ⟨g, j, none⟩ = false := fun j => World.ownsRow.frozenAt h j
  have hcell : ∀ j, j < L.length → w.cell? ⟨g, j, none⟩ = some (.int .i64 (nth L j)) := fun j hj => by rw [hrow j, if_pos hj]
  obtain ⟨N, hN⟩ : ∃ N, L.length = N := ⟨_, rfl⟩
  obtain ⟨n1, hn1⟩ : ∃ n1, N - 1 = n1 := ⟨_, rfl⟩
  obtain ⟨q, hq⟩ : ∃ q, k + 1 = q := ⟨_, rfl⟩
  obtain ⟨m, hm⟩ : ∃ m, N - q = m := ⟨_, rfl⟩
  have hkm : k + m = n1 := by omega
  rw [hN] at hl hk hcap ⊢
  rw [hn1, hq]
  obtain ⟨news, hnews⟩ : ∃ news, news = (L.drop q).map (Value.int .i64) := ⟨_, rfl⟩
  have hnl : news.length = m := by rw [hnews]; simp; omega
  have hget : ∀ t, t < m → news[t]? = some (.int .i64 (nth L (q + t))) := fun t ht => by
    rw [hnews, List.getElem?_map, List.getElem?_drop, List.getElem?_eq_getElem (by omega), nth_eq _ _ (by omega)]; rfl
  obtain ⟨ad, hA, hsrc⟩ : ∃ ad : Addr, (if cap = q then some (⟨g, 0, none⟩ : Addr) else some ⟨g, q, none⟩) = some ad ∧ Hid (∀ t u, news[t]? = some u → w.drew.cell? (ad.add t) = some u) := by
    by_cases hc : cap = q
    · refine ⟨⟨g, 0, none⟩, by simp [hc], fun t u hu => ?_⟩
      have h0 : news.length = 0 := by omega
      rw [List.length_eq_zero_iff.1 h0] at hu
      simp at hu
    · refine ⟨⟨g, q, none⟩, by simp [hc], fun t u hu => ?_⟩
      have ht : t < m := by have := (List.getElem?_eq_some_iff.1 hu).1; omega
      rw [hget t ht] at hu
      rw [show (⟨g, q, none⟩ : Addr).add t = ⟨g, q + t, none⟩ by unfold Addr.add; split <;> simp_all]
      exact (hcell (q + t) (by omega)).trans hu
  have s1 : Hid (news.length = m * 1) := Lib.hid (by omega)
  have s2 : Hid (∀ u ∈ news, u.oneCell' = true) := Lib.hid (by rw [hnews]; exact int_one _)
  have s3 : Hid (∀ t, t < news.length → (w.drew.cell? ⟨g, 0 + k * 1 + t, none⟩).isSome = true ∧ w.drew.frozen? ⟨g, 0 + k * 1 + t, none⟩ = false) := Lib.hid (fun t ht => by
    rw [Nat.mul_one, Nat.zero_add]
    exact ⟨by show (w.cell? _).isSome = true; rw [hcell (k + t) (by omega)]; rfl, hfz _⟩)
  obtain ⟨W1, hW1⟩ : ∃ W1, W1 = w.drew.setCells g (0 + k * 1) news := ⟨_, rfl⟩
  have hW := Lib.hid hW1
  rw [Nat.zero_add, Nat.mul_one] at hW1
  have hout : ∀ j, (j < k ∨ k + m ≤ j) → W1.cell? ⟨g, j, none⟩ = w.cell? ⟨g, j, none⟩ := fun j hj => by
    rw [hW1, World.cell?_setCells_out g news k w.drew ⟨g, j, none⟩ (fun _ _ => by show j < k ∨ k + news.length ≤ j; omega)]; rfl
  have hinn : ∀ t, t < m → W1.cell? ⟨g, k + t, none⟩ = some (.int .i64 (nth L (q + t))) := fun t ht => by
    have h1 := World.cell?_setCells_in g news k w.drew (fun j hj => by show (w.cell? _).isSome = true; rw [hcell (k + j) (by omega)]; rfl) t (by omega)
    rw [hW1, h1]
    have h2 := hget t ht
    rw [List.getElem?_eq_getElem (by omega)] at h2
    exact h2
  have hfz1 : ∀ j, W1.frozen? ⟨g, j, none⟩ = false := fun j => by rw [hW1, World.frozen?_setCells]; exact hfz j
  have hlast : (W1.cell? ⟨g, n1, none⟩).isSome = true := by rw [hout n1 (.inr (by omega)), hcell n1 (by omega)]; rfl
  have hlast1 : ∀ j, j < 1 → (W1.cell? ⟨g, n1 + j, none⟩).isSome = true := fun j hj => by
    obtain rfl : j = 0 := by omega
    exact hlast
  have z3 : ∀ w, (zeroValue 3).run Try.prog w = .ok (.int .i64 0) w := fun w => by kernel_rfl
  have hcl : ∀ ty c, (Builtin.clear_ #[32] ty #[.slice (some ⟨g, n1, none⟩) 1 c]).run Try.prog W1 = .ok (.tuple #[]) (W1.setCells g n1 [.int .i64 0]) := fun ty c =>
    Lib.run_clear_slice W1 32 3 ty (.int .i64 0) Try.underlying32 z3 rfl rfl g n1 1 c (by omega) hlast1 (fun j hj => hfz1 _)
  have HFIN : Hid (ReadsI (W1.setCells g n1 [.int .i64 0]) .i64 (some ⟨g, 0, none⟩) (L.take k ++ L.drop q)) := Lib.hid (fun j hj => by
    have hj' : j < n1 := by simp at hj; omega
    refine ⟨g, 0, rfl, ?_⟩
    rw [Nat.zero_add, World.cell?_setCells_out g _ n1 W1 ⟨g, j, none⟩ (fun _ _ => .inl hj'), nth_eq _ _ hj]
    by_cases c : j < k
    · rw [hout j (.inl c), hcell j (by omega), List.getElem_append_left (by simp; omega), List.getElem_take, nth_eq _ _ (by omega)]
    · have h1 := hinn (j - k) (by omega)
      rw [show k + (j - k) = j by omega] at h1
      rw [h1, List.getElem_append_right (by simp; omega), List.getElem_drop, nth_eq _ _ (by omega)]
      congr 3
      simp; omega)
  have HB1 : Hid (Only g w W1) := Lib.hid (by rw [hW1]; exact Edit.Only.setCells (Only.refl g w).drew g (.inl rfl) _ _)
  have HB2 : Hid (Only g w (W1.setCells g n1 [.int .i64 0])) := Lib.hid (Edit.Only.setCells HB1.out g (.inl rfl) _ _)
  have i0 := Option.map_eq_some_iff.1 (info_i trivial)
  obtain ⟨i0, hi0, hzz⟩ := i0
  simp only [Prod.mk.injEq] at hzz
  have hz1 := hzz.2.1
  have hic : k ≤ cap := by omega
  have hjc : q ≤ cap := by omega
  have hqN : q ≤ N := by omega
  have hn1N : n1 ≤ N := by omega
  have hd1 : N - n1 = 1 := by omega
  have hkq : ¬ ((k : Int) = (q : Int)) := by omega
  have hNEW := Lib.hid hnews
  clear hW1 hout hinn hget hnews hcell hrow hfz hfz1 hlast hlast1 hzz h hnl hn1 hq
  go_enter Try.func75, Try.ntmps75
  go_wp2_with fail
  go_region_law (refine step_append_room rfl (.tmp 22) (.tmp 25) 32 rfl 3 i0 1 Try.underlying32 hi0 hz1 g 0 k cap (by simp [Act.eval, Act.put]) ad m (cap - q) news (by simp [Act.eval, Act.put]) s1.out hsrc.out s2.out (by omega) s3.out ?_; rw [← hW.out])
  all_goals
    go_wp2_with fail
    go_ret
    exact ⟨rfl, HFIN.out, HB2.out⟩
/-- One number more, anywhere. -/
theorem insert_any (base g cap k : Nat) (L : List Int) (n : Int) (H : Nat) (w : World) (h : OwnI w base 3 .i64 (.slice (some ⟨g, 0, none⟩) L.length cap) L) (hn : Blk w H 3 #[.int .i64 n]) (hne : H ≠ g) (hl : L.length ≤ 1000000) (hk : k ≤ L.length) (hbs : base ≤ w.heap.size) :
    Calls Try.prog 115 #[.slice (some ⟨g, 0, none⟩) L.length cap, .int .i64 (k : Nat), .slice (some ⟨H, 0, none⟩) 1 1] w fun e w' => ∃ A' c', e = .returned (.slice A' (L.length + 1) c') ∧ ReadsI w' .i64 A' (L.take k ++ n :: L.drop k) ∧ (∃ b, A' = some ⟨b, 0, none⟩ ∧ (b = g ∨ w.heap.size ≤ b) ∧ b < w'.heap.size) ∧ Only g w w' := by
  by_cases h1 : k = L.length
  · subst h1
    refine (insert_end base g cap L n H w h hn hl hbs).mono ?_
    rintro e w' ⟨A', c', rfl, hr, hb, ho⟩
    exact ⟨A', c', rfl, by rw [List.take_length, List.drop_length]; exact hr, hb, ho⟩
  · have hgw := (Edit.own_blk h).2.2.2
    obtain ⟨cur, hB, _⟩ := hgw
    by_cases h2 : L.length + 1 ≤ cap
    · refine (insert_room base g cap k L n H w h hn hne hl (by omega) h2).mono ?_
      rintro e w' ⟨rfl, hr, ho⟩
      exact ⟨_, _, rfl, hr, ⟨g, rfl, .inl rfl, Nat.lt_of_lt_of_le hB.lt ho.size⟩, ho⟩
    · refine (insert_grow base g cap k L n H w h hn hl (by omega) (by omega) hbs).mono ?_
      rintro e w' ⟨G, rfl, _, hr, hs, ho⟩
      exact ⟨_, _, rfl, hr, ⟨_, rfl, .inr (Nat.le_refl _), hs⟩, ho⟩
end EdS
end Go.Proofs.Ythjkeefdeeljoaa.Shp
/- slices.Insert and Delete of one number at []int. -/
namespace Go.Proofs.Ythjkeefdeeljoaa.Shp
open Go.RowKit
set_option linter.unusedVariables false
set_option linter.unusedSimpArgs false

namespace EdI
open Edit
set_option maxRecDepth 100000 in
set_option maxHeartbeats 2000000 in
theorem insert_end (base g cap : Nat) (L : List Int) (n : Int) (H : Nat) (w : World) (h : OwnI w base 3 .i64 (.slice (some ⟨g, 0, none⟩) L.length cap) L) (hn : Blk w H 3 #[.int .i64 n]) (hl : L.length ≤ 1000000) (hbase : base ≤ w.heap.size) :
    Calls Try.prog 116 #[.slice (some ⟨g, 0, none⟩) L.length cap, .int .i64 (L.length : Nat), .slice (some ⟨H, 0, none⟩) 1 1] w fun e w' => ∃ A' c', e = .returned (.slice A' (L.length + 1) c') ∧ ReadsI w' .i64 A' (L ++ [n]) ∧ (∃ b, A' = some ⟨b, 0, none⟩ ∧ (b = g ∨ w.heap.size ≤ b) ∧ b < w'.heap.size) ∧ Only g w w' := by
  have HOW := Lib.hid h
  have HS : Hid (Shows w (some ⟨H, 0, none⟩) [Value.int .i64 n]) := Lib.hid (Shows.of_blk hn)
  have hcap : L.length ≤ cap := by
    rcases h.2 with ⟨h', h0⟩ | ⟨g, cap', cur, h', _, _, hnc, _⟩
    · omega
    · simp only [Value.slice.injEq, Option.some.injEq, Addr.mk.injEq, and_true, true_and] at h'
      omega
  clear h hn
  go_enter Try.func116, Try.ntmps116
  go_wp2_with (at_builtin; go_must (refine wpList_app2 rfl (.tmp 23) (.tmp 24) 22 22 rfl 3 3 base (.int .i64 0) 1 8 Try.underlying22 Try.underlying22 (info_i trivial) rfl (by decide) (.slice (some ⟨g, 0, none⟩) L.length cap) L.length (L.map (Value.int .i64)) rfl HOW.out (some ⟨H, 0, none⟩) 1 1 [Value.int .i64 n] rfl rfl HS.out (by simp [Value.oneCell']) (by simp only [maxLen]; omega) (by omega) hbase ?_); intro v1 w1 hown1 hg1 hat1)
  all_goals
    go_ret
    have ho : OwnI w1 base 3 .i64 v1 (L ++ [n]) := OwnI.snoc hown1
    rcases ho.2 with ⟨_, h0⟩ | ⟨b, c', cur, rfl, _, hh, _⟩
    · simp at h0
    have hlt := (Array.getElem?_eq_some_iff.1 hh).1
    have hsh := ho.shows
    obtain ⟨A', c2, hv, _, hr⟩ := hsh
    simp only [Value.slice.injEq] at hv
    obtain ⟨rfl, _, rfl⟩ := hv
    refine ⟨some ⟨b, 0, none⟩, ⟨c', by simp⟩, hr, ⟨b, rfl, ?_, hlt⟩, (Only.refl g w).grown hg1 (fun k hk => .inl (by simpa [Value.ownBlock] using hk.symm))⟩
    rcases hat1 with h | h
    · exact .inl (by simpa [Value.ownBlock] using h)
    · exact .inr (by simp [Value.ownBlock] at h; omega)
set_option maxRecDepth 100000 in
set_option maxHeartbeats 2000000 in
theorem insert_room (base g cap k : Nat) (L : List Int) (n : Int) (H : Nat) (w : World) (h : OwnI w base 3 .i64 (.slice (some ⟨g, 0, none⟩) L.length cap) L) (hn : Blk w H 3 #[.int .i64 n]) (hne : H ≠ g) (hl : L.length ≤ 1000000) (hk : k < L.length) (hroom : L.length + 1 ≤ cap) :
    Calls Try.prog 116 #[.slice (some ⟨g, 0, none⟩) L.length cap, .int .i64 (k : Nat), .slice (some ⟨H, 0, none⟩) 1 1] w fun e w' => e = .returned (.slice (some ⟨g, 0, none⟩) (L.length + 1) cap) ∧ ReadsI w' .i64 (some ⟨g, 0, none⟩) (L.take k ++ n :: L.drop k) ∧ Only g w w' := by
  obtain ⟨hbase, hcap, hmax, cur, hB, hcs, hcur⟩ := own_blk h
  have hcell : ∀ j, j < L.length → w.cell? ⟨g, j, none⟩ = some (.int .i64 (nth L j)) := fun j hj => by
    rw [hB.cell, hcur j hj, List.getElem?_map, List.getElem?_eq_getElem hj, nth_eq _ _ hj]; rfl
  have hsome : ∀ j, j < cap → (w.cell? ⟨g, j, none⟩).isSome = true := fun j hj => by
    rw [hB.cell, Array.getElem?_eq_getElem (by omega)]; rfl
  have hfz : ∀ j, w.frozen? ⟨g, j, none⟩ = false := hB.frozen
  obtain ⟨N, hN⟩ : ∃ N, L.length = N := ⟨_, rfl⟩
  obtain ⟨q, hq⟩ : ∃ q, k + 1 = q := ⟨_, rfl⟩
  obtain ⟨m, hm⟩ : ∃ m, N - k = m := ⟨_, rfl⟩
  obtain ⟨N1, hN1⟩ : ∃ N1, N + 1 = N1 := ⟨_, rfl⟩
  have hov := fun lb cb => overlaps_no H g q lb cb 3 3 _ _ w hn hB hne (by omega)
  have hdl : ((L.drop k).map (Value.int .i64)).length = m := by simp; omega
  rw [hN] at hl hk hcap hroom hcell ⊢
  rw [hN1] at hroom ⊢
  have hcp1 : ∀ ty dc sc, (Builtin.copy_ #[22, 22] ty #[.slice (some ⟨g, q, none⟩) m dc, .slice (some ⟨g, k, none⟩) (N1 - k) sc]).run Try.prog w.drew = .ok (goInt m) (w.drew.setCells g q ((L.drop k).map (Value.int .i64))) := fun ty dc sc => by
    have := run_copy_cells (P := Try.prog) w.drew 22 22 ty 3 g q m dc ⟨g, k, none⟩ (N1 - k) sc ((L.drop k).map (Value.int .i64)) Try.underlying22 int_size (by rw [hdl]; simp only [Nat.min_def]; split <;> omega)
      (fun j v hj => by
        have hj' : j < m := by have := (List.getElem?_eq_some_iff.1 hj).1; omega
        rw [List.getElem?_map, List.getElem?_drop, List.getElem?_eq_getElem (by omega)] at hj
        rw [show (⟨g, k, none⟩ : Addr).add j = ⟨g, k + j, none⟩ by unfold Addr.add; split <;> simp_all]
        show w.cell? _ = _
        rw [hcell (k + j) (by omega), nth_eq _ _ (by omega)]
        simpa using hj)
      (fun j hj => hsome (q + j) (by omega)) (fun j hj => hfz _) (int_one _)
    rwa [hdl] at this
  obtain ⟨W1, hW1⟩ : ∃ W1, W1 = w.drew.setCells g q ((L.drop k).map (Value.int .i64)) := ⟨_, rfl⟩
  have hout : ∀ j, (j < q ∨ q + m ≤ j) → W1.cell? ⟨g, j, none⟩ = w.cell? ⟨g, j, none⟩ := fun j hj => by
    rw [hW1, World.cell?_setCells_out g _ q w.drew ⟨g, j, none⟩ (fun _ _ => by show j < q ∨ q + _ ≤ j; omega)]; rfl
  have hinn : ∀ t, t < m → W1.cell? ⟨g, q + t, none⟩ = some (.int .i64 (nth L (k + t))) := fun t ht => by
    rw [hW1, World.cell?_setCells_in g _ q w.drew (fun j hj => hsome (q + j) (by omega)) t (by omega)]
    rw [List.getElem_map, List.getElem_drop, nth_eq _ _ (by omega)]
  have hfar : W1.cell? ⟨H, 0, none⟩ = some (.int .i64 n) := by
    rw [hW1, World.cell?_setCells_out g _ q w.drew ⟨H, 0, none⟩ (fun h _ => absurd h hne)]
    exact hn.cell 0
  have hfz1 : ∀ j, W1.frozen? ⟨g, j, none⟩ = false := fun j => by rw [hW1, World.frozen?_setCells]; exact hfz j
  have hcp2 : ∀ ty dc, (Builtin.copy_ #[22, 22] ty #[.slice (some ⟨g, k, none⟩) (N1 - k) dc, .slice (some ⟨H, 0, none⟩) 1 1]).run Try.prog W1 = .ok (goInt 1) (W1.setCells g k [.int .i64 n]) := fun ty dc =>
    run_copy_cells (P := Try.prog) W1 22 22 ty 3 g k (N1 - k) dc ⟨H, 0, none⟩ 1 1 [.int .i64 n] Try.underlying22 int_size (by simp only [List.length_singleton, Nat.min_def]; split <;> omega)
      (fun j v hj => by
        have hj' : j < 1 := (List.getElem?_eq_some_iff.1 hj).1
        obtain rfl : j = 0 := by omega
        simp at hj
        subst hj
        exact hfar)
      (fun j hj => by
        have hj' : j < 1 := hj
        obtain rfl : j = 0 := by omega
        rw [Nat.add_zero, hout k (.inl (by omega))]
        exact hsome k (by omega)) (fun j hj => hfz1 _) (by intro u hu; simp at hu; subst hu; rfl)
  have HFIN : Hid (ReadsI (W1.setCells g k [.int .i64 n]) .i64 (some ⟨g, 0, none⟩) (L.take k ++ n :: L.drop k)) := Lib.hid (fun j hj => by
    have hj' : j < N1 := by simp at hj; omega
    refine ⟨g, 0, rfl, ?_⟩
    rw [Nat.zero_add, nth_eq _ _ hj]
    by_cases c : j < k
    · rw [World.cell?_setCells_out g _ k W1 ⟨g, j, none⟩ (fun _ _ => .inl c), hout j (.inl (by omega)), hcell j (by omega), List.getElem_append_left (by simp; omega), List.getElem_take, nth_eq _ _ (by omega)]
    · by_cases c2 : j = k
      · subst c2
        have h1 := World.cell?_setCells_in g [Value.int .i64 n] j W1 (fun t ht => by
          have ht' : t < 1 := ht
          obtain rfl : t = 0 := by omega
          rw [Nat.add_zero, hout j (.inl (by omega))]
          exact hsome j (by omega)) 0 (by simp)
        rw [Nat.add_zero] at h1
        rw [h1, List.getElem_append_right (by simp; omega)]
        simp [show j - min j L.length = 0 by omega]
      · rw [World.cell?_setCells_out g _ k W1 ⟨g, j, none⟩ (fun _ _ => .inr (by show k + 1 ≤ j; omega))]
        have h1 := hinn (j - q) (by omega)
        rw [show q + (j - q) = j by omega] at h1
        rw [h1, List.getElem_append_right (by simp; omega)]
        obtain ⟨d, hd⟩ : ∃ d, j - (L.take k).length = d + 1 := ⟨j - (L.take k).length - 1, by simp; omega⟩
        simp only [hd, List.getElem_cons_succ, List.getElem_drop, nth_eq L _ (show k + (j - q) < L.length by omega)]
        congr 3
        simp at hd
        omega)
  have HB2 : Hid (Only g w (W1.setCells g k [.int .i64 n])) := Lib.hid (by rw [hW1]; exact Edit.Only.setCells (Edit.Only.setCells (Only.refl g w).drew g (.inl rfl) _ _) g (.inl rfl) _ _)
  rw [← hW1] at hcp1
  have a1 : (k : Int) + 1 = (q : Int) := by omega
  have a2 : (N : Int) + 1 = (N1 : Int) := by omega
  have a3 : IntKind.i64.wrap (q : Int) = (q : Int) := by rw [IntKind.wrap_i64]; omega
  have a4 : IntKind.i64.wrap (N1 : Int) = (N1 : Int) := by rw [IntKind.wrap_i64]; omega
  have a5 : ¬ ((k : Int) = (N : Int)) := by omega
  have a6 : k ≤ N := by omega
  have a7 : q ≤ N1 := by omega
  have a8 : k ≤ N1 := by omega
  have a9 : N1 - q = m := by omega
  have b1 : ¬ (cap = q) ∨ m = 0 := by omega
  have b2 : ¬ (cap = k) := by omega
  have b3 : ¬ (cap = q) := by omega
  have hmx : cap ≤ 9223372036854775807 := by unfold maxLen at hmax; exact hmax
  clear h hn hB hcs hcur hcell hsome hfz hN hq hm hN1 hdl hW1 hout hinn hfar hfz1 hmax b1
  go_enter Try.func116, Try.ntmps116
  go_wp2_with (simp only [hov])
  go_region_law (refine Go.Proofs.step_copy_runI rfl _ _ 22 22 rfl _ _ (by simp [Act.eval, Act.put]) (by simp [Act.eval, Act.put]) (hcp1 _ _ _) ?_)
  all_goals
    go_wp2_with (at_builtin; go_must (refine Go.Proofs.wpList_copy_runI _ rfl _ _ 22 22 rfl _ _ rfl rfl (hcp2 _ _) ?_))
    go_ret
    exact ⟨rfl, HFIN.out, HB2.out⟩
set_option maxRecDepth 100000 in
set_option maxHeartbeats 2000000 in
theorem insert_grow (base g cap k : Nat) (L : List Int) (n : Int) (H : Nat) (w : World) (h : OwnI w base 3 .i64 (.slice (some ⟨g, 0, none⟩) L.length cap) L) (hn : Blk w H 3 #[.int .i64 n]) (hl : L.length ≤ 1000000) (hk : k < L.length) (hroom : cap < L.length + 1) (hbs : base ≤ w.heap.size) :
    Calls Try.prog 116 #[.slice (some ⟨g, 0, none⟩) L.length cap, .int .i64 (k : Nat), .slice (some ⟨H, 0, none⟩) 1 1] w fun e w' => ∃ G, e = .returned (.slice (some ⟨w.heap.size, 0, none⟩) (L.length + 1) G) ∧ L.length + 1 ≤ G ∧ ReadsI w' .i64 (some ⟨w.heap.size, 0, none⟩) (L.take k ++ n :: L.drop k) ∧ w.heap.size < w'.heap.size ∧ Only g w w' := by
  obtain ⟨hbase, hcap, hmax, cur, hB, hcs, hcur⟩ := own_blk h
  have hcell : ∀ j, j < L.length → w.cell? ⟨g, j, none⟩ = some (.int .i64 (nth L j)) := fun j hj => by
    rw [hB.cell, hcur j hj, List.getElem?_map, List.getElem?_eq_getElem hj, nth_eq _ _ hj]; rfl
  obtain ⟨N, hN⟩ : ∃ N, L.length = N := ⟨_, rfl⟩
  obtain ⟨q, hq⟩ : ∃ q, k + 1 = q := ⟨_, rfl⟩
  obtain ⟨m, hm⟩ : ∃ m, N - k = m := ⟨_, rfl⟩
  obtain ⟨N1, hN1⟩ : ∃ N1, N + 1 = N1 := ⟨_, rfl⟩
  obtain ⟨m1, hm1⟩ : ∃ m1, N1 - k = m1 := ⟨_, rfl⟩
  have hdl : ((L.drop k).map (Value.int .i64)).length = m := by simp; omega
  rw [hN] at hl hk hcap hroom hcell ⊢
  rw [hN1] at hroom ⊢
  have i0' := Option.map_eq_some_iff.1 (info_i trivial)
  obtain ⟨i0, hi0, hzz⟩ := i0'
  simp only [Prod.mk.injEq] at hzz
  obtain ⟨hz0, hzs, hzb⟩ := hzz
  have hold : (Builtin.firstCells i0.size k (.slice (some ⟨g, 0, none⟩) k cap)).run Try.prog w.drew = .ok ((L.take k).map (Value.int .i64)).toArray w.drew := by
    rw [hzs]
    exact run_firstCells_some w.drew 1 k ⟨g, 0, none⟩ k cap ((L.take k).map (Value.int .i64)) (by simp; omega) (fun j v hj => by
      have hj' : j < k := by have := (List.getElem?_eq_some_iff.1 hj).1; simp at this; omega
      rw [List.getElem?_map, List.getElem?_take, if_pos hj', List.getElem?_eq_getElem (by omega)] at hj
      rw [show (⟨g, 0, none⟩ : Addr).add j = ⟨g, 0 + j, none⟩ by unfold Addr.add; split <;> simp_all, Nat.zero_add]
      show w.cell? _ = _
      rw [hcell j (by omega), nth_eq _ _ (by omega)]
      simpa using hj)
  obtain ⟨G, hG⟩ : ∃ G, G = grownCap w N1 cap 3 := ⟨_, rfl⟩
  have hGn : N1 ≤ G := by rw [hG]; exact grownCap_ge w _ _ _
  have hrz : ∃ ROW : Array Value, N1 ≤ ROW.size ∧ (∀ j, j < k → ROW[j]? = some (.int .i64 (nth L j))) ∧ ∀ ty, (Builtin.append_ #[22, 3] ty #[.slice (some ⟨g, 0, none⟩) k cap, .int .i64 (m1 : Int)]).run Try.prog w = .ok (.slice (some ⟨w.heap.size, 0, none⟩) N1 G) (w.drew.alloc (.cells ROW 3)) := by
    refine ⟨((L.take k).map (Value.int .i64)).toArray ++ Builtin.zeroCells (Value.int .i64 0).cells m1 ++ Builtin.zeroCells (Value.int .i64 0).cells (G - N1), ?_, fun j hj => ?_, fun ty => ?_⟩
    · simp [Builtin.zeroCells, Value.cells]
      omega
    · rw [Array.append_assoc, Array.getElem?_append_left (by simp; omega)]
      simp only [List.getElem?_toArray, List.getElem?_map, List.getElem?_take, if_pos hj]
      rw [List.getElem?_eq_getElem (by omega), nth_eq _ _ (by omega)]
      rfl
    · have h := Lib.run_append_grow_zeros w 22 3 ty 3 i0 _ .i64 .i64 Try.underlying22 Try.underlying3 hi0 hz0 (some ⟨g, 0, none⟩) k cap ((L.take k).map (Value.int .i64)) hold m1 (by omega) (by omega) (by omega) (by omega) (by rw [hzb]; omega) (by rw [hzb, show k + m1 = N1 by omega]; exact growslice_fits hroom (by omega))
      rw [show k + m1 = N1 by omega, ← hG] at h
      exact h
  obtain ⟨ROW, hR1, hR2, hrz⟩ := hrz
  have hgw := hB.lt
  have hHw := hn.lt
  obtain ⟨H0, hH0⟩ : ∃ H0, H0 = w.heap.size := ⟨_, rfl⟩
  rw [← hH0] at hrz hgw hHw hbs ⊢
  obtain ⟨W1, hW1⟩ : ∃ W1, W1 = w.drew.alloc (.cells ROW 3) := ⟨_, rfl⟩
  have hBR : Blk W1 H0 3 ROW := by rw [hW1]; exact Blk.new' (w := w.drew) hH0.symm _ _
  have hBg : Blk W1 g 3 cur := by rw [hW1]; exact hB.drew.alloc _
  have hBH : Blk W1 H 3 #[.int .i64 n] := by rw [hW1]; exact hn.drew.alloc _
  have hBel : Below H0 w W1 := by rw [hW1, hH0]; exact bl_alloc (bl_drew (Below.refl _ _)) _
  rw [← hW1] at hrz
  have hsome : ∀ j, j < N1 → (W1.cell? ⟨H0, j, none⟩).isSome = true := fun j hj => by rw [hBR.cell, Array.getElem?_eq_getElem (by omega)]; rfl
  have hcA : ∀ ty dc, (Builtin.copy_ #[22, 22] ty #[.slice (some ⟨H0, k, none⟩) m1 dc, .slice (some ⟨H, 0, none⟩) 1 1]).run Try.prog W1 = .ok (goInt 1) (W1.setCells H0 k [.int .i64 n]) := fun ty dc =>
    run_copy_cells (P := Try.prog) W1 22 22 ty 3 H0 k m1 dc ⟨H, 0, none⟩ 1 1 [.int .i64 n] Try.underlying22 int_size (by simp only [List.length_singleton, Nat.min_def]; split <;> omega)
      (fun j v hj => by
        have hj' : j < 1 := (List.getElem?_eq_some_iff.1 hj).1
        obtain rfl : j = 0 := by omega
        simp at hj
        subst hj
        exact hBH.cell 0)
      (fun j hj => by
        have hj' : j < 1 := hj
        obtain rfl : j = 0 := by omega
        exact hsome k (by omega)) (fun j hj => hBR.frozen _) (by intro u hu; simp at hu; subst hu; rfl)
  obtain ⟨W2, hW2⟩ : ∃ W2, W2 = W1.setCells H0 k [.int .i64 n] := ⟨_, rfl⟩
  rw [← hW2] at hcA
  have hf2 : ∀ j, W2.frozen? ⟨H0, j, none⟩ = false := fun j => by rw [hW2, World.frozen?_setCells]; exact hBR.frozen j
  have hk2 : W2.cell? ⟨H0, k, none⟩ = some (.int .i64 n) := by
    have h1 := World.cell?_setCells_in H0 [Value.int .i64 n] k W1 (fun t ht => by
      have ht' : t < 1 := ht
      obtain rfl : t = 0 := by omega
      exact hsome k (by omega)) 0 (by simp)
    rw [hW2]; exact h1
  have ho2 : ∀ j, j ≠ k → W2.cell? ⟨H0, j, none⟩ = W1.cell? ⟨H0, j, none⟩ := fun j hj => by
    rw [hW2, World.cell?_setCells_out H0 _ k W1 ⟨H0, j, none⟩ (fun _ _ => by show j < k ∨ k + 1 ≤ j; omega)]
  have hs2 : ∀ j, j < N1 → (W2.cell? ⟨H0, j, none⟩).isSome = true := fun j hj => by
    by_cases c : j = k
    · rw [c, hk2]; rfl
    · rw [ho2 j c]; exact hsome j hj
  have hg2 : ∀ j, j < N → W2.cell? ⟨g, j, none⟩ = some (.int .i64 (nth L j)) := fun j hj => by
    rw [hW2, World.cell?_setCells_out H0 _ k W1 ⟨g, j, none⟩ (fun h _ => absurd h (by show g ≠ H0; omega)), hBg.cell, ← hB.cell]
    exact hcell j hj
  have hcB : ∀ ty dc sc, (Builtin.copy_ #[22, 22] ty #[.slice (some ⟨H0, q, none⟩) m dc, .slice (some ⟨g, k, none⟩) m sc]).run Try.prog W2.drew = .ok (goInt m) (W2.drew.setCells H0 q ((L.drop k).map (Value.int .i64))) := fun ty dc sc => by
    have := run_copy_cells (P := Try.prog) W2.drew 22 22 ty 3 H0 q m dc ⟨g, k, none⟩ m sc ((L.drop k).map (Value.int .i64)) Try.underlying22 int_size (by rw [hdl]; simp only [Nat.min_def]; split <;> omega)
      (fun j v hj => by
        have hj' : j < m := by have := (List.getElem?_eq_some_iff.1 hj).1; omega
        rw [List.getElem?_map, List.getElem?_drop, List.getElem?_eq_getElem (by omega)] at hj
        rw [show (⟨g, k, none⟩ : Addr).add j = ⟨g, k + j, none⟩ by unfold Addr.add; split <;> simp_all]
        show W2.cell? _ = _
        rw [hg2 (k + j) (by omega), nth_eq _ _ (by omega)]
        simpa using hj)
      (fun j hj => hs2 (q + j) (by omega)) (fun j hj => hf2 _) (int_one _)
    rwa [hdl] at this
  obtain ⟨W3, hW3⟩ : ∃ W3, W3 = W2.drew.setCells H0 q ((L.drop k).map (Value.int .i64)) := ⟨_, rfl⟩
  rw [← hW3] at hcB
  have HFIN : Hid (ReadsI W3 .i64 (some ⟨H0, 0, none⟩) (L.take k ++ n :: L.drop k)) := Lib.hid (fun j hj => by
    have hj' : j < N1 := by simp at hj; omega
    refine ⟨H0, 0, rfl, ?_⟩
    rw [Nat.zero_add, nth_eq _ _ hj]
    by_cases c : j ≤ k
    · rw [hW3, World.cell?_setCells_out H0 _ q W2.drew ⟨H0, j, none⟩ (fun _ _ => .inl (by show j < q; omega))]
      show W2.cell? _ = _
      by_cases c2 : j = k
      · subst c2
        rw [hk2, List.getElem_append_right (by simp; omega)]
        simp [show j - min j L.length = 0 by omega]
      · rw [ho2 j c2, hBR.cell, hR2 j (by omega), List.getElem_append_left (by simp; omega), List.getElem_take, nth_eq _ _ (by omega)]
    · have h1 := World.cell?_setCells_in H0 ((L.drop k).map (Value.int .i64)) q W2.drew (fun t ht => hs2 (q + t) (by omega)) (j - q) (by omega)
      rw [show q + (j - q) = j by omega] at h1
      rw [hW3, h1, List.getElem_append_right (by simp; omega)]
      obtain ⟨d, hd⟩ : ∃ d, j - (L.take k).length = d + 1 := ⟨j - (L.take k).length - 1, by simp; omega⟩
      simp only [hd, List.getElem_cons_succ, List.getElem_map, List.getElem_drop]
      congr 3
      simp at hd
      omega)
  have HSZ : Hid (H0 < W3.heap.size) := Lib.hid (by
    have h1 : H0 < W1.heap.size := hBR.lt
    have h2 : W1.heap.size ≤ W2.heap.size := by rw [hW2]; exact (Edit.Only.setCells (Only.refl H0 W1) H0 (.inl rfl) _ _).size
    have h3 : W2.heap.size ≤ W3.heap.size := by rw [hW3]; exact (Edit.Only.setCells (Only.refl H0 W2).drew H0 (.inl rfl) _ _).size
    omega)
  have HB3 : Hid (Only g w W3) := Lib.hid (by
    have hb1 : Only g w W1 := by rw [hW1]; exact (Only.refl g w).drew.alloc _
    have hb2 : Only g w W2 := by rw [hW2]; exact Edit.Only.setCells hb1 H0 (.inr (by omega)) _ _
    rw [hW3]
    exact Edit.Only.setCells hb2.drew H0 (.inr (by omega)) _ _)
  have a1 : (k : Int) + 1 = (q : Int) := by omega
  have a2 : (N : Int) + 1 = (N1 : Int) := by omega
  have a2' : (N1 : Int) - (k : Int) = (m1 : Int) := by omega
  have a3 : IntKind.i64.wrap (q : Int) = (q : Int) := by rw [IntKind.wrap_i64]; omega
  have a4 : IntKind.i64.wrap (N1 : Int) = (N1 : Int) := by rw [IntKind.wrap_i64]; omega
  have a4' : IntKind.i64.wrap (m1 : Int) = (m1 : Int) := by rw [IntKind.wrap_i64]; omega
  have a5 : ¬ ((k : Int) = (N : Int)) := by omega
  have a6 : k ≤ N := by omega
  have a7 : q ≤ N1 := by omega
  have a8 : k ≤ N1 := by omega
  have a9 : N1 - q = m := by omega
  have b2 : ¬ (cap = k) := by omega
  have b3 : ¬ (G = k) := by omega
  have hG63 : G ≤ 9223372036854775807 := by
    have := grownCap_le_maxLen w N1 cap 3 (by unfold maxLen; omega)
    rw [← hG] at this
    unfold maxLen at this
    omega
  have b4 : ¬ (G = q) := by omega
  have hmx : cap ≤ 9223372036854775807 := by unfold maxLen at hmax; exact hmax
  clear h hn hB hcs hcur hcell hN hq hN1 hdl hW1 hW2 hW3 hf2 hk2 ho2 hs2 hg2 hBR hBg hBH hBel hsome hold hi0 hz0 hzs hzb hG hR1 hR2 hmax hgw hHw hH0
  go_enter Try.func116, Try.ntmps116
  go_wp2_with (at_builtin; first | (refine wpList_app_run _ rfl (.tmp 34) (.tmp 39) 22 3 rfl (.slice (some ⟨g, 0, none⟩) k cap) (.int .i64 (m1 : Int)) rfl rfl (hrz _) ?_) | (go_loud (refine Go.Proofs.wpList_copy_runI _ rfl (.tmp 43) (.tmp 44) 22 22 rfl _ _ rfl rfl (hcA _ _) ?_)))
  go_region_law (refine Go.Proofs.step_copy_runI rfl _ _ 22 22 rfl _ _ (by simp [Act.eval, Act.put]) (by simp [Act.eval, Act.put]) (hcB _ _ _) ?_)
  all_goals
    go_wp2_with fail
    go_ret
    exact ⟨G, rfl, hGn, HFIN.out, HSZ.out, HB3.out⟩
set_option maxRecDepth 100000 in
set_option maxHeartbeats 2000000 in
theorem delete_calls (base g cap k : Nat) (L : List Int) (w : World) (h : OwnI w base 3 .i64 (.slice (some ⟨g, 0, none⟩) L.length cap) L) (hk : k < L.length) (hl : L.length ≤ 1000000) : Calls Try.prog 76 #[.slice (some ⟨g, 0, none⟩) L.length cap, .int .i64 (k : Nat), .int .i64 ((k + 1 : Nat) : Int)] w fun e w' => e = .returned (.slice (some ⟨g, 0, none⟩) (L.length - 1) cap) ∧ ReadsI w' .i64 (some ⟨g, 0, none⟩) (L.take k ++ L.drop (k + 1)) ∧ Only g w w' := by
  obtain ⟨hbase, hcap, hrow⟩ : base ≤ g ∧ L.length ≤ cap ∧ ∀ j, w.cell? ⟨g, j, none⟩ = if j < L.length then some (.int .i64 (nth L j)) else w.cell? ⟨g, j, none⟩ := by
    rcases h.2 with ⟨h', _⟩ | ⟨g', cap', cur, h', hb, hh, hnc, _, _, _⟩
    · simp at h'
    · simp only [Value.slice.injEq, Option.some.injEq, Addr.mk.injEq, and_true, true_and] at h'
      obtain ⟨rfl, rfl⟩ := h'
      refine ⟨hb, hnc, fun j => ?_⟩
      split
      · rename_i hj
        have := World.ownsRow.cellAt h j (by omega)
        rw [this, List.getElem?_map, List.getElem?_eq_getElem hj, nth_eq _ _ hj]; rfl
      · rfl
  have hfz : ∀ j, w.frozen? ⟨g, j, none⟩ = false := fun j => World.ownsRow.frozenAt h j
  have hcell : ∀ j, j < L.length → w.cell? ⟨g, j, none⟩ = some (.int .i64 (nth L j)) := fun j hj => by rw [hrow j, if_pos hj]
  obtain ⟨N, hN⟩ : ∃ N, L.length = N := ⟨_, rfl⟩
  obtain ⟨n1, hn1⟩ : ∃ n1, N - 1 = n1 := ⟨_, rfl⟩
  obtain ⟨q, hq⟩ : ∃ q, k + 1 = q := ⟨_, rfl⟩
  obtain ⟨m, hm⟩ : ∃ m, N - q = m := ⟨_, rfl⟩
  have hkm : k + m = n1 := by omega
  rw [hN] at hl hk hcap ⊢
  rw [hn1, hq]
  obtain ⟨news, hnews⟩ : ∃ news, news = (L.drop q).map (Value.int .i64) := ⟨_, rfl⟩
  have hnl : news.length = m := by rw [hnews]; simp; omega
  have hget : ∀ t, t < m → news[t]? = some (.int .i64 (nth L (q + t))) := fun t ht => by
    rw [hnews, List.getElem?_map, List.getElem?_drop, List.getElem?_eq_getElem (by omega), nth_eq _ _ (by omega)]; rfl
  obtain ⟨ad, hA, hsrc⟩ : ∃ ad : Addr, (if cap = q then some (⟨g, 0, none⟩ : Addr) else some ⟨g, q, none⟩) = some ad ∧ Hid (∀ t u, news[t]? = some u → w.drew.cell? (ad.add t) = some u) := by
    by_cases hc : cap = q
    · refine ⟨⟨g, 0, none⟩, by simp [hc], fun t u hu => ?_⟩
      have h0 : news.length = 0 := by omega
      rw [List.length_eq_zero_iff.1 h0] at hu
      simp at hu
    · refine ⟨⟨g, q, none⟩, by simp [hc], fun t u hu => ?_⟩
      have ht : t < m := by have := (List.getElem?_eq_some_iff.1 hu).1; omega
      rw [hget t ht] at hu
      rw [show (⟨g, q, none⟩ : Addr).add t = ⟨g, q + t, none⟩ by unfold Addr.add; split <;> simp_all]
      exact (hcell (q + t) (by omega)).trans hu
  have s1 : Hid (news.length = m * 1) := Lib.hid (by omega)
  have s2 : Hid (∀ u ∈ news, u.oneCell' = true) := Lib.hid (by rw [hnews]; exact int_one _)
  have s3 : Hid (∀ t, t < news.length → (w.drew.cell? ⟨g, 0 + k * 1 + t, none⟩).isSome = true ∧ w.drew.frozen? ⟨g, 0 + k * 1 + t, none⟩ = false) := Lib.hid (fun t ht => by
    rw [Nat.mul_one, Nat.zero_add]
    exact ⟨by show (w.cell? _).isSome = true; rw [hcell (k + t) (by omega)]; rfl, hfz _⟩)
  obtain ⟨W1, hW1⟩ : ∃ W1, W1 = w.drew.setCells g (0 + k * 1) news := ⟨_, rfl⟩
  have hW := Lib.hid hW1
  rw [Nat.zero_add, Nat.mul_one] at hW1
  have hout : ∀ j, (j < k ∨ k + m ≤ j) → W1.cell? ⟨g, j, none⟩ = w.cell? ⟨g, j, none⟩ := fun j hj => by
    rw [hW1, World.cell?_setCells_out g news k w.drew ⟨g, j, none⟩ (fun _ _ => by show j < k ∨ k + news.length ≤ j; omega)]; rfl
  have hinn : ∀ t, t < m → W1.cell? ⟨g, k + t, none⟩ = some (.int .i64 (nth L (q + t))) := fun t ht => by
    have h1 := World.cell?_setCells_in g news k w.drew (fun j hj => by show (w.cell? _).isSome = true; rw [hcell (k + j) (by omega)]; rfl) t (by omega)
    rw [hW1, h1]
    have h2 := hget t ht
    rw [List.getElem?_eq_getElem (by omega)] at h2
    exact h2
  have hfz1 : ∀ j, W1.frozen? ⟨g, j, none⟩ = false := fun j => by rw [hW1, World.frozen?_setCells]; exact hfz j
  have hlast : (W1.cell? ⟨g, n1, none⟩).isSome = true := by rw [hout n1 (.inr (by omega)), hcell n1 (by omega)]; rfl
  have hlast1 : ∀ j, j < 1 → (W1.cell? ⟨g, n1 + j, none⟩).isSome = true := fun j hj => by
    obtain rfl : j = 0 := by omega
    exact hlast
  have z3 : ∀ w, (zeroValue 3).run Try.prog w = .ok (.int .i64 0) w := fun w => by kernel_rfl
  have hcl : ∀ ty c, (Builtin.clear_ #[22] ty #[.slice (some ⟨g, n1, none⟩) 1 c]).run Try.prog W1 = .ok (.tuple #[]) (W1.setCells g n1 [.int .i64 0]) := fun ty c =>
    Lib.run_clear_slice W1 22 3 ty (.int .i64 0) Try.underlying22 z3 rfl rfl g n1 1 c (by omega) hlast1 (fun j hj => hfz1 _)
  have HFIN : Hid (ReadsI (W1.setCells g n1 [.int .i64 0]) .i64 (some ⟨g, 0, none⟩) (L.take k ++ L.drop q)) := Lib.hid (fun j hj => by
    have hj' : j < n1 := by simp at hj; omega
    refine ⟨g, 0, rfl, ?_⟩
    rw [Nat.zero_add, World.cell?_setCells_out g _ n1 W1 ⟨g, j, none⟩ (fun _ _ => .inl hj'), nth_eq _ _ hj]
    by_cases c : j < k
    · rw [hout j (.inl c), hcell j (by omega), List.getElem_append_left (by simp; omega), List.getElem_take, nth_eq _ _ (by omega)]
    · have h1 := hinn (j - k) (by omega)
      rw [show k + (j - k) = j by omega] at h1
      rw [h1, List.getElem_append_right (by simp; omega), List.getElem_drop, nth_eq _ _ (by omega)]
      congr 3
      simp; omega)
  have HB1 : Hid (Only g w W1) := Lib.hid (by rw [hW1]; exact Edit.Only.setCells (Only.refl g w).drew g (.inl rfl) _ _)
  have HB2 : Hid (Only g w (W1.setCells g n1 [.int .i64 0])) := Lib.hid (Edit.Only.setCells HB1.out g (.inl rfl) _ _)
  have i0 := Option.map_eq_some_iff.1 (info_i trivial)
  obtain ⟨i0, hi0, hzz⟩ := i0
  simp only [Prod.mk.injEq] at hzz
  have hz1 := hzz.2.1
  have hic : k ≤ cap := by omega
  have hjc : q ≤ cap := by omega
  have hqN : q ≤ N := by omega
  have hn1N : n1 ≤ N := by omega
  have hd1 : N - n1 = 1 := by omega
  have hkq : ¬ ((k : Int) = (q : Int)) := by omega
  have hNEW := Lib.hid hnews
  clear hW1 hout hinn hget hnews hcell hrow hfz hfz1 hlast hlast1 hzz h hnl hn1 hq
  go_enter Try.func76, Try.ntmps76
  go_wp2_with fail
  go_region_law (refine step_append_room rfl (.tmp 22) (.tmp 25) 22 rfl 3 i0 1 Try.underlying22 hi0 hz1 g 0 k cap (by simp [Act.eval, Act.put]) ad m (cap - q) news (by simp [Act.eval, Act.put]) s1.out hsrc.out s2.out (by omega) s3.out ?_; rw [← hW.out])
  all_goals
    go_wp2_with fail
    go_ret
    exact ⟨rfl, HFIN.out, HB2.out⟩
/-- One number more, anywhere. -/
theorem insert_any (base g cap k : Nat) (L : List Int) (n : Int) (H : Nat) (w : World) (h : OwnI w base 3 .i64 (.slice (some ⟨g, 0, none⟩) L.length cap) L) (hn : Blk w H 3 #[.int .i64 n]) (hne : H ≠ g) (hl : L.length ≤ 1000000) (hk : k ≤ L.length) (hbs : base ≤ w.heap.size) :
    Calls Try.prog 116 #[.slice (some ⟨g, 0, none⟩) L.length cap, .int .i64 (k : Nat), .slice (some ⟨H, 0, none⟩) 1 1] w fun e w' => ∃ A' c', e = .returned (.slice A' (L.length + 1) c') ∧ ReadsI w' .i64 A' (L.take k ++ n :: L.drop k) ∧ (∃ b, A' = some ⟨b, 0, none⟩ ∧ (b = g ∨ w.heap.size ≤ b) ∧ b < w'.heap.size) ∧ Only g w w' := by
  by_cases h1 : k = L.length
  · subst h1
    refine (insert_end base g cap L n H w h hn hl hbs).mono ?_
    rintro e w' ⟨A', c', rfl, hr, hb, ho⟩
    exact ⟨A', c', rfl, by rw [List.take_length, List.drop_length]; exact hr, hb, ho⟩
  · have hgw := (Edit.own_blk h).2.2.2
    obtain ⟨cur, hB, _⟩ := hgw
    by_cases h2 : L.length + 1 ≤ cap
    · refine (insert_room base g cap k L n H w h hn hne hl (by omega) h2).mono ?_
      rintro e w' ⟨rfl, hr, ho⟩
      exact ⟨_, _, rfl, hr, ⟨g, rfl, .inl rfl, Nat.lt_of_lt_of_le hB.lt ho.size⟩, ho⟩
    · refine (insert_grow base g cap k L n H w h hn hl (by omega) (by omega) hbs).mono ?_
      rintro e w' ⟨G, rfl, _, hr, hs, ho⟩
      exact ⟨_, _, rfl, hr, ⟨_, rfl, .inr (Nat.le_refl _), hs⟩, ho⟩
end EdI
end Go.Proofs.Ythjkeefdeeljoaa.Shp
