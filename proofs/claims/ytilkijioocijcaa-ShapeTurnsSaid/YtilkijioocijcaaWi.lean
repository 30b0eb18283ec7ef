/- The document's With. -/
import Derived.Test.YtilkijioocijcaaWo
namespace Go.Proofs.Ytilkijioocijcaa.Shp
open Go.RowKit
set_option linter.unusedVariables false
set_option linter.unusedSimpArgs false


theorem lays_lit (w W : World) (H : Nat) (hH : W.heap.size = H) (e : TypeId) (x : Value) : Lays (W.alloc (.cells #[x] e)) (some ⟨H, 0, none⟩) [x] := by subst hH; exact lays_one W e x
set_option maxRecDepth 100000 in
set_option maxHeartbeats 4000000 in
theorem rwi_calls (xs : List Int) (A : Option Addr) (ca : Nat) (i n : Int) (w : World) (hx : ReadsI w .i64 A xs) (hla : xs.length ≤ 1000000) (hca : xs.length ≤ ca) :
    Calls Try.prog 14 #[.slice A xs.length ca, .int .i64 i, .int .i64 n] w fun e w' => TurnPost (wiL xs i n) w' e ∧ Below w.heap.size w w' := by
  have HRA := Lib.hid (rright_calls xs A ca w hx (by omega))
  have HX := Lib.hid hx
  obtain ⟨O, hO⟩ : ∃ O, O = wiL xs i n := ⟨_, rfl⟩
  rw [← hO]
  have HO := Lib.hid hO
  clear hx hO
  by_cases hin : rightB xs = true ∧ 0 ≤ i ∧ i ≤ xs.length ∧ 0 ≤ n ∧ n ≤ 1048576 ∧ xs.length < 6
  rotate_left
  · have HN : Hid (O = none) := Lib.hid (by rw [HO.out]; unfold wiL; rw [if_neg hin])
    by_cases hr : rightB xs = true
    · rw [hr] at HRA
      have hcase : i < 0 ∨ (0 ≤ i ∧ (xs.length : Int) < i) ∨ (0 ≤ i ∧ i ≤ xs.length ∧ n < 0) ∨ (0 ≤ i ∧ i ≤ xs.length ∧ 0 ≤ n ∧ 1048576 < n) ∨ (0 ≤ i ∧ i ≤ xs.length ∧ 0 ≤ n ∧ n ≤ 1048576 ∧ 6 ≤ xs.length) := by
        by_cases a1 : i < 0
        · exact .inl a1
        by_cases a2 : (xs.length : Int) < i
        · exact .inr (.inl ⟨by omega, a2⟩)
        by_cases a3 : n < 0
        · exact .inr (.inr (.inl ⟨by omega, by omega, a3⟩))
        by_cases a4 : 1048576 < n
        · exact .inr (.inr (.inr (.inl ⟨by omega, by omega, by omega, a4⟩)))
        by_cases a5 : 6 ≤ xs.length
        · exact .inr (.inr (.inr (.inr ⟨by omega, by omega, by omega, by omega, a5⟩)))
        exact absurd ⟨hr, by omega, by omega, by omega, by omega, by omega⟩ hin
      clear hr hin HO
      rcases hcase with h | ⟨h0, h⟩ | ⟨h0, h1, h⟩ | ⟨h0, h1, h2, h⟩ | ⟨h0, h1, h2, h3, h⟩
      all_goals
        go_enter Try.func14, Try.ntmps14
        go_wp2_with fail
        refine HRA.out.mono ?_
        rintro e w' ⟨rfl, rfl⟩
        go_wp2_with fail
        go_ret2
        exact ⟨.inl ⟨HN.out, rfl⟩, Below.refl _ _⟩
    · have hf : rightB xs = false := by simpa using hr
      rw [hf] at HRA
      clear hr hin HO hf
      go_enter Try.func14, Try.ntmps14
      go_wp2_with fail
      refine HRA.out.mono ?_
      rintro e w' ⟨rfl, rfl⟩
      go_wp2_with fail
      go_ret2
      exact ⟨.inl ⟨HN.out, rfl⟩, Below.refl _ _⟩
  obtain ⟨hr, h0, h1, h2, h3, h4⟩ := hin
  obtain ⟨k, rfl⟩ : ∃ k : Nat, i = (k : Int) := ⟨i.toNat, by omega⟩
  have hk : k ≤ xs.length := by omega
  have HY : Hid (O = some (xs.take k ++ n :: xs.drop k)) := Lib.hid (by rw [HO.out]; unfold wiL; rw [if_pos ⟨hr, h0, h1, h2, h3, h4⟩, Int.toNat_natCast])
  rw [hr] at HRA
  have s1 := run_upto (P := Try.prog) (T := 22) Try.underlying22 size_int A xs.length ca k (by omega)
  obtain ⟨A2, s2, hA2⟩ := run_from (P := Try.prog) (T := 22) Try.underlying22 size_int A xs.length ca k (by omega) hca
  have HA2 := Lib.hid hA2
  have HNL : Hid (((xs.take k).map (Value.int .i64)).length = k * 1) := Lib.hid (by rw [List.length_map, List.length_take]; omega)
  have HND : Hid (((xs.drop k).map (Value.int .i64)).length = (xs.length - k) * 1) := Lib.hid (by rw [List.length_map, List.length_drop]; omega)
  clear hr h0 HO hA2
  go_enter Try.func14, Try.ntmps14
  go_wp2_with fail
  refine HRA.out.mono ?_
  rintro e w' ⟨rfl, rfl⟩
  go_wp2_with fail
  go_region_law (first
    | (refine step_append_own rfl (.tmp 34) (.tmp 37) 22 rfl w.heap.size 3 (.int .i64 0) 1 8 Try.underlying22 (info_i trivial) rfl (by decide) (.slice (some ⟨w.heap.size, 0, none⟩) 0 0) 0 [] rfl (by first | exact own_empty w.drew w.heap.size _ (Nat.le_refl _) | exact (own_empty w.drew w.heap.size _ (Nat.le_refl _)).alloc _) A k ca ((xs.take k).map (Value.int .i64)) rfl HNL.out (ReadsI.lays (ReadsI.below HX.out (by first | exact bl_drew (bl_alloc (Below.refl _ _) _) | exact bl_drew (bl_alloc (bl_alloc (Below.refl _ _) _) _))) k) (by intro u hu; simp only [List.mem_map] at hu; obtain ⟨x, _, rfl⟩ := hu; rfl) (by simp only [maxLen]; omega) (by omega) (by first | (simp; done) | (simp; omega)) ?_
       intro v1 w1 hown1 hg1
       have hB1 : Below w.heap.size w w1 := bl_grown (by first | exact bl_drew (bl_alloc (Below.refl _ _) _) | exact bl_drew (bl_alloc (bl_alloc (Below.refl _ _) _) _)) hg1 (fun k hk => by simp only [Value.ownBlock, Option.some.injEq] at hk; omega)
       first | (have hlit : Lays w1 (some ⟨w.heap.size + 1, 0, none⟩) [Value.int .i64 n] := Lays.far (W := ((w.alloc (.cells #[] 3)).alloc (.cells #[.int .i64 n] 3)).drew) (by have h := lays_one (w.alloc (.cells #[] 3)) 3 (Value.int .i64 n); rw [show (w.alloc (.cells #[] 3)).heap.size = w.heap.size + 1 by simp] at h; exact h) hg1 (by simp [Value.ownBlock])) | skip)
    | (refine step_append_own rfl (.tmp 34) (.tmp 37) 22 rfl w.heap.size 3 (.int .i64 0) 1 8 Try.underlying22 (info_i trivial) rfl (by decide) (.slice (some ⟨w.heap.size + 1, 0, none⟩) 0 0) 0 [] rfl (by have h := own_empty (w.drew.alloc (.cells #[.int .i64 n] 3)) w.heap.size 3 (by simp); rw [show (w.drew.alloc (.cells #[.int .i64 n] 3)).heap.size = w.heap.size + 1 by simp] at h; exact h) A k ca ((xs.take k).map (Value.int .i64)) rfl HNL.out (ReadsI.lays (ReadsI.below HX.out (by first | exact bl_drew (bl_alloc (Below.refl _ _) _) | exact bl_drew (bl_alloc (bl_alloc (Below.refl _ _) _) _))) k) (by intro u hu; simp only [List.mem_map] at hu; obtain ⟨x, _, rfl⟩ := hu; rfl) (by simp only [maxLen]; omega) (by omega) (by first | (simp; done) | (simp; omega)) ?_
       intro v1 w1 hown1 hg1
       have hB1 : Below w.heap.size w w1 := bl_grown (by first | exact bl_drew (bl_alloc (Below.refl _ _) _) | exact bl_drew (bl_alloc (bl_alloc (Below.refl _ _) _) _)) hg1 (fun k hk => by simp only [Value.ownBlock, Option.some.injEq] at hk; omega)
       have hlit : Lays w1 (some ⟨w.heap.size, 0, none⟩) [Value.int .i64 n] := Lays.far (W := ((w.alloc (.cells #[.int .i64 n] 3)).alloc (.cells #[] 3)).drew) (Lays.below (lays_one w 3 (Value.int .i64 n)) (bl_drew (bl_alloc (Below.refl _ _) _))) hg1 (by simp [Value.ownBlock]))
    | (refine step_append_own rfl (.tmp 38) (.tmp 40) 22 rfl w.heap.size 3 (.int .i64 0) 1 8 Try.underlying22 (info_i trivial) rfl (by decide) _ (0 + k) _ rfl (by first | exact hown1 | exact hown1.alloc _) _ 1 1 [Value.int .i64 n] rfl rfl (by first | exact hlit | exact lays_one w1 _ _) (by intro u hu; simp only [List.mem_singleton] at hu; subst hu; rfl) (by simp only [maxLen]; omega) (by omega) (by first | exact hB1.size | exact (bl_alloc hB1 _).size) ?_
       intro v2 w2 hown2 hg2
       have hB2 : Below w.heap.size w w2 := bl_grown (by first | exact hB1 | exact bl_alloc hB1 _) hg2 (fun k hk => (own_lt hown1 k hk).1))
    | (refine step_append_own rfl (.tmp 41) (.tmp 44) 22 rfl w.heap.size 3 (.int .i64 0) 1 8 Try.underlying22 (info_i trivial) rfl (by decide) _ (0 + k + 1) _ rfl hown2 A2 (xs.length - k) (ca - k) ((xs.drop k).map (Value.int .i64)) rfl HND.out (ReadsI.lays_from (ReadsI.below HX.out hB2) k ca hca HA2.out) (by intro u hu; simp only [List.mem_map] at hu; obtain ⟨x, _, rfl⟩ := hu; rfl) (by simp only [maxLen]; omega) (by omega) hB2.size ?_
       intro v3 w3 hown3 hg3
       have hB3 : Below w.heap.size w w3 := bl_grown hB2 hg3 (fun k hk => (own_lt hown2 k hk).1)))
  all_goals
    go_wp2_with fail
    go_ret2
    refine ⟨.inr ⟨_, v3, HY.out, rfl, ?_⟩, hB3⟩
    have h : OwnI w3 w.heap.size 3 .i64 v3 (xs.take k ++ n :: xs.drop k) := by
      unfold OwnI
      have e1 : (xs.take k ++ n :: xs.drop k).length = 0 + k + 1 + (xs.length - k) := by simp; omega
      rw [e1]
      have e2 : (xs.take k ++ n :: xs.drop k).map (Value.int .i64) = [] ++ (xs.take k).map (Value.int .i64) ++ [Value.int .i64 n] ++ (xs.drop k).map (Value.int .i64) := by simp
      rw [e2]
      exact hown3
    exact h.shows
end Go.Proofs.Ytilkijioocijcaa.Shp
