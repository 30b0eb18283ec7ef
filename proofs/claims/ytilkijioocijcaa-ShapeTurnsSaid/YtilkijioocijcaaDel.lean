/- slices.Clone and Delete at a shape; Without. -/
import Derived.Test.YtilkijioocijcaaWi
import Derived.Test.YtilkijioocijcaaApp
import Derived.Lib.SliceRun
import Derived.Laws.IdiomCopy
namespace Go.Proofs.Ytilkijioocijcaa.Shp
open Go.RowKit
set_option linter.unusedVariables false
set_option linter.unusedSimpArgs false

theorem below_setCells {B : Nat} {w W : World} (h : Below B w W) (b : Nat) (hb : B ≤ b) : ∀ (vs : List Value) (o : Nat), Below B w (W.setCells b o vs) := by
  intro vs
  induction vs generalizing W with
  | nil => intro o; exact h
  | cons v vs ih => intro o; exact ih (h.setCell hb v) (o + 1)
theorem int_one (L : List Int) : ∀ u ∈ L.map (Value.int .i64), u.oneCell' = true := fun u hu => by
  obtain ⟨x, _, rfl⟩ := List.mem_map.1 hu
  rfl
/-- A clone: a row of the call's own. -/
theorem sclone_calls (xs : List Int) (A : Option Addr) (ca : Nat) (w : World) (hx : ReadsI w .i64 A xs) (hl : xs.length ≤ 1000000) (hnil : A = none → xs = []) : Calls Try.prog 24 #[.slice A xs.length ca] w fun e w' => ∃ v, e = .returned v ∧ OwnI w' w.heap.size 3 .i64 v xs ∧ (xs ≠ [] → ∃ g cap, v = .slice (some ⟨g, 0, none⟩) xs.length cap) ∧ Below w.heap.size w w' := by
  have hq := fun w => Lib.run_eql_slice_nil (P := Try.prog) w 24 3 A xs.length ca 0 0 Try.underlying24
  cases A with
  | none =>
    have h0 := hnil rfl
    subst h0
    have hq0 : ∀ w, (binOp .eql 24 (.slice none 0 ca) (.slice none 0 0)).run Try.prog w = .ok (.bool true) w := hq
    clear hx hq
    go_enter Try.func24, Try.ntmps24
    go_wp2_with fail
    go_ret
    refine ⟨_, rfl, ownI_nil _ _ _ _, ?_⟩
    first | exact Below.refl _ _ | exact ⟨fun h => absurd rfl h, Below.refl _ _⟩
  | some ad =>
    have HSH := Lib.hid (ReadsI.lays (hx.below (bl_alloc (Below.refl w.heap.size w) (.cells #[] 3))) xs.length)
    rw [List.take_length] at HSH
    have hshow : Shows (w.alloc (.cells #[] 3)) (some ad) (xs.map (Value.int .i64)) := fun i v hi => by
      rw [List.getElem?_map, Option.map_eq_some_iff] at hi
      obtain ⟨x, hx1, rfl⟩ := hi
      obtain ⟨hlt, he⟩ := List.getElem?_eq_some_iff.1 hx1
      obtain ⟨b, off, e1, hc⟩ := (hx.below (bl_alloc (Below.refl w.heap.size w) (.cells #[] 3))) i hlt
      exact ⟨b, off, e1, by rw [hc, nth_eq _ _ hlt, he]⟩
    have HS := Lib.hid hshow
    have HOW := Lib.hid (own_empty w w.heap.size 3 (Nat.le_refl _))
    have HB := Lib.hid (bl_alloc (Below.refl w.heap.size w) (.cells #[] 3))
    have hz : w.heap.size ≤ (w.alloc (.cells #[] 3)).heap.size := by simp
    clear hx hshow HSH hnil
    go_enter Try.func24, Try.ntmps24
    go_wp2_with (at_builtin; go_must (refine wpList_app rfl (.tmp 5) (.tmp 6) 24 rfl 3 w.heap.size (.int .i64 0) 1 8 Try.underlying24 (info_i trivial) rfl (by decide) (.slice (some ⟨w.heap.size, 0, none⟩) 0 0) 0 [] rfl HOW.out (some ad) xs.length ca (xs.map (Value.int .i64)) rfl (by simp) HS.out (int_one xs) (by simp only [maxLen]; omega) (by omega) hz ?_); intro v1 w1 hown1 hg1 hb1)
    go_ret
    rw [Nat.zero_add, List.nil_append] at hown1
    refine ⟨v1, rfl, hown1, fun hne => ?_, bl_grown HB.out hg1 (fun k hk => by simp [Value.ownBlock] at hk; omega)⟩
    rcases hown1.2 with ⟨rfl, h0⟩ | ⟨g', cap, cur, rfl, _⟩
    · rcases hb1 with h | h <;> simp [Value.ownBlock] at h
    · exact ⟨g', cap, rfl⟩

set_option maxRecDepth 100000 in
set_option maxHeartbeats 2000000 in
theorem delete_calls (base g cap k : Nat) (L : List Int) (w : World) (h : OwnI w base 3 .i64 (.slice (some ⟨g, 0, none⟩) L.length cap) L) (hk : k < L.length) (hl : L.length ≤ 1000000) : Calls Try.prog 23 #[.slice (some ⟨g, 0, none⟩) L.length cap, .int .i64 (k : Nat), .int .i64 ((k + 1 : Nat) : Int)] w fun e w' => e = .returned (.slice (some ⟨g, 0, none⟩) (L.length - 1) cap) ∧ ReadsI w' .i64 (some ⟨g, 0, none⟩) (L.take k ++ L.drop (k + 1)) ∧ Below base w w' := by
  obtain ⟨hbase, hcap, hrow⟩ : base ≤ g ∧ L.length ≤ cap ∧ ∀ j, w.cell? ⟨g, j, none⟩ = if j < L.length then some (.int .i64 (nth L j)) else w.cell? ⟨g, j, none⟩ := by
    rcases h.2 with ⟨h', _⟩ | ⟨g', cap', cur, h', hb, hh, hnc, _, _, _⟩
    · simp at h'
    · simp only [Value.slice.injEq, Option.some.injEq, Addr.mk.injEq, and_true, true_and] at h'
      obtain ⟨rfl, rfl⟩ := h'
      refine ⟨hb, hnc, fun j => ?_⟩
      split
      · rename_i hj
        have := World.ownsRow.cellAt h j (by omega)
        rw [this, List.getElem?_map, List.getElem?_eq_getElem hj, nth_eq _ _ hj]; rfl
      · rfl
  have hfz : ∀ j, w.frozen? ⟨g, j, none⟩ = false := fun j => World.ownsRow.frozenAt h j
  have hcell : ∀ j, j < L.length → w.cell? ⟨g, j, none⟩ = some (.int .i64 (nth L j)) := fun j hj => by rw [hrow j, if_pos hj]
  obtain ⟨N, hN⟩ : ∃ N, L.length = N := ⟨_, rfl⟩
  obtain ⟨n1, hn1⟩ : ∃ n1, N - 1 = n1 := ⟨_, rfl⟩
  obtain ⟨q, hq⟩ : ∃ q, k + 1 = q := ⟨_, rfl⟩
  obtain ⟨m, hm⟩ : ∃ m, N - q = m := ⟨_, rfl⟩
  have hkm : k + m = n1 := by omega
  rw [hN] at hl hk hcap ⊢
  rw [hn1, hq]
  obtain ⟨news, hnews⟩ : ∃ news, news = (L.drop q).map (Value.int .i64) := ⟨_, rfl⟩
  have hnl : news.length = m := by rw [hnews]; simp; omega
  have hget : ∀ t, t < m → news[t]? = some (.int .i64 (nth L (q + t))) := fun t ht => by
    rw [hnews, List.getElem?_map, List.getElem?_drop, List.getElem?_eq_getElem (by omega), nth_eq _ _ (by omega)]; rfl
  obtain ⟨ad, hA, hsrc⟩ : ∃ ad : Addr, (if cap = q then some (⟨g, 0, none⟩ : Addr) else some ⟨g, q, none⟩) = some ad ∧ Hid (∀ t u, news[t]? = some u → w.drew.cell? (ad.add t) = some u) := by
    by_cases hc : cap = q
    · refine ⟨⟨g, 0, none⟩, by simp [hc], fun t u hu => ?_⟩
      have h0 : news.length = 0 := by omega
      rw [List.length_eq_zero_iff.1 h0] at hu
      simp at hu
    · refine ⟨⟨g, q, none⟩, by simp [hc], fun t u hu => ?_⟩
      have ht : t < m := by have := (List.getElem?_eq_some_iff.1 hu).1; omega
      rw [hget t ht] at hu
      rw [show (⟨g, q, none⟩ : Addr).add t = ⟨g, q + t, none⟩ by unfold Addr.add; split <;> simp_all]
      exact (hcell (q + t) (by omega)).trans hu
  have s1 : Hid (news.length = m * 1) := Lib.hid (by omega)
  have s2 : Hid (∀ u ∈ news, u.oneCell' = true) := Lib.hid (by rw [hnews]; exact int_one _)
  have s3 : Hid (∀ t, t < news.length → (w.drew.cell? ⟨g, 0 + k * 1 + t, none⟩).isSome = true ∧ w.drew.frozen? ⟨g, 0 + k * 1 + t, none⟩ = false) := Lib.hid (fun t ht => by
    rw [Nat.mul_one, Nat.zero_add]
    exact ⟨by show (w.cell? _).isSome = true; rw [hcell (k + t) (by omega)]; rfl, hfz _⟩)
  obtain ⟨W1, hW1⟩ : ∃ W1, W1 = w.drew.setCells g (0 + k * 1) news := ⟨_, rfl⟩
  have hW := Lib.hid hW1
  rw [Nat.zero_add, Nat.mul_one] at hW1
  have hout : ∀ j, (j < k ∨ k + m ≤ j) → W1.cell? ⟨g, j, none⟩ = w.cell? ⟨g, j, none⟩ := fun j hj => by
    rw [hW1, World.cell?_setCells_out g news k w.drew ⟨g, j, none⟩ (fun _ _ => by show j < k ∨ k + news.length ≤ j; omega)]; rfl
  have hinn : ∀ t, t < m → W1.cell? ⟨g, k + t, none⟩ = some (.int .i64 (nth L (q + t))) := fun t ht => by
    have h1 := World.cell?_setCells_in g news k w.drew (fun j hj => by show (w.cell? _).isSome = true; rw [hcell (k + j) (by omega)]; rfl) t (by omega)
    rw [hW1, h1]
    have h2 := hget t ht
    rw [List.getElem?_eq_getElem (by omega)] at h2
    exact h2
  have hfz1 : ∀ j, W1.frozen? ⟨g, j, none⟩ = false := fun j => by rw [hW1, World.frozen?_setCells]; exact hfz j
  have hlast : (W1.cell? ⟨g, n1, none⟩).isSome = true := by rw [hout n1 (.inr (by omega)), hcell n1 (by omega)]; rfl
  have hlast1 : ∀ j, j < 1 → (W1.cell? ⟨g, n1 + j, none⟩).isSome = true := fun j hj => by
    obtain rfl : j = 0 := by omega
    exact hlast
  have z3 : ∀ w, (zeroValue 3).run Try.prog w = .ok (.int .i64 0) w := fun w => by kernel_rfl
  have hcl : ∀ ty c, (Builtin.clear_ #[24] ty #[.slice (some ⟨g, n1, none⟩) 1 c]).run Try.prog W1 = .ok (.tuple #[]) (W1.setCells g n1 [.int .i64 0]) := fun ty c =>
    Lib.run_clear_slice W1 24 3 ty (.int .i64 0) Try.underlying24 z3 rfl rfl g n1 1 c (by omega) hlast1 (fun j hj => hfz1 _)
  have HFIN : Hid (ReadsI (W1.setCells g n1 [.int .i64 0]) .i64 (some ⟨g, 0, none⟩) (L.take k ++ L.drop q)) := Lib.hid (fun j hj => by
    have hj' : j < n1 := by simp at hj; omega
    refine ⟨g, 0, rfl, ?_⟩
    rw [Nat.zero_add, World.cell?_setCells_out g _ n1 W1 ⟨g, j, none⟩ (fun _ _ => .inl hj'), nth_eq _ _ hj]
    by_cases c : j < k
    · rw [hout j (.inl c), hcell j (by omega), List.getElem_append_left (by simp; omega), List.getElem_take, nth_eq _ _ (by omega)]
    · have h1 := hinn (j - k) (by omega)
      rw [show k + (j - k) = j by omega] at h1
      rw [h1, List.getElem_append_right (by simp; omega), List.getElem_drop, nth_eq _ _ (by omega)]
      congr 3
      simp; omega)
  have HB1 : Hid (Below base w W1) := Lib.hid (by rw [hW1]; exact below_setCells (⟨rfl, rfl, rfl, Nat.le_refl _, fun _ _ => rfl⟩ : Below base w w.drew) g hbase _ _)
  have HB2 : Hid (Below base w (W1.setCells g n1 [.int .i64 0])) := Lib.hid (below_setCells HB1.out g hbase _ _)
  have i0 := Option.map_eq_some_iff.1 (info_i trivial)
  obtain ⟨i0, hi0, hzz⟩ := i0
  simp only [Prod.mk.injEq] at hzz
  have hz1 := hzz.2.1
  have hic : k ≤ cap := by omega
  have hjc : q ≤ cap := by omega
  have hqN : q ≤ N := by omega
  have hn1N : n1 ≤ N := by omega
  have hd1 : N - n1 = 1 := by omega
  have hkq : ¬ ((k : Int) = (q : Int)) := by omega
  have hNEW := Lib.hid hnews
  clear hW1 hout hinn hget hnews hcell hrow hfz hfz1 hlast hlast1 hzz h hnl hn1 hq
  go_enter Try.func23, Try.ntmps23
  go_wp2_with fail
  go_region_law (refine step_append_room rfl (.tmp 22) (.tmp 25) 24 rfl 3 i0 1 Try.underlying24 hi0 hz1 g 0 k cap (by simp [Act.eval, Act.put]) ad m (cap - q) news (by simp [Act.eval, Act.put]) s1.out hsrc.out s2.out (by omega) s3.out ?_; rw [← hW.out])
  all_goals
    go_wp2_with fail
    go_ret
    exact ⟨rfl, HFIN.out, HB2.out⟩
end Go.Proofs.Ytilkijioocijcaa.Shp
