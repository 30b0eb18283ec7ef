/- The document's Without and With. -/
import Derived.Test.YtilkijioocijcaaPermR
import Derived.Test.YtilkijioocijcaaLays
namespace Go.Proofs.Ytilkijioocijcaa.Shp
open Go.RowKit
set_option linter.unusedVariables false
set_option linter.unusedSimpArgs false

def woL (xs : List Int) (i : Int) : Option (List Int) := if rightB xs = true ∧ 0 ≤ i ∧ i < xs.length then some (xs.take i.toNat ++ xs.drop (i.toNat + 1)) else none
def wiL (xs : List Int) (i n : Int) : Option (List Int) := if rightB xs = true ∧ 0 ≤ i ∧ i ≤ xs.length ∧ 0 ≤ n ∧ n ≤ 1048576 ∧ xs.length < 6 then some (xs.take i.toNat ++ n :: xs.drop i.toNat) else none
theorem size_int : ∀ w, (sizeOf 3).run Try.prog w = .ok 1 w := by
  intro w
  obtain ⟨i0, hi, hzz⟩ := Option.map_eq_some_iff.1 (info_i trivial)
  simp only [Prod.mk.injEq] at hzz
  simp [sizeOf, typeInfo, hi, hzz.2.1]
set_option maxRecDepth 100000 in
set_option maxHeartbeats 2000000 in
theorem rwo_calls (xs : List Int) (A : Option Addr) (ca : Nat) (i : Int) (w : World) (hx : ReadsI w .i64 A xs) (hla : xs.length ≤ 1000000) (hca : xs.length ≤ ca) :
    Calls Try.prog 12 #[.slice A xs.length ca, .int .i64 i] w fun e w' => TurnPost (woL xs i) w' e ∧ Below w.heap.size w w' := by
  have HRA := Lib.hid (rright_calls xs A ca w hx (by omega))
  have HX := Lib.hid hx
  obtain ⟨O, hO⟩ : ∃ O, O = woL xs i := ⟨_, rfl⟩
  rw [← hO]
  have HO := Lib.hid hO
  clear hx hO
  by_cases hin : rightB xs = true ∧ 0 ≤ i ∧ i < xs.length
  rotate_left
  · have HN : Hid (O = none) := Lib.hid (by rw [HO.out]; unfold woL; rw [if_neg hin])
    by_cases hr : rightB xs = true
    · rw [hr] at HRA
      by_cases h0 : i < 0
      · clear hr hin HO
        go_enter Try.func12, Try.ntmps12
        go_wp2_with fail
        refine HRA.out.mono ?_
        rintro e w' ⟨rfl, rfl⟩
        go_wp2_with fail
        go_ret2
        exact ⟨.inl ⟨HN.out, rfl⟩, Below.refl _ _⟩
      · have h1 : (xs.length : Int) ≤ i := Int.not_lt.1 (fun c => hin ⟨hr, by omega, c⟩)
        clear hr hin HO
        go_enter Try.func12, Try.ntmps12
        go_wp2_with fail
        refine HRA.out.mono ?_
        rintro e w' ⟨rfl, rfl⟩
        go_wp2_with fail
        go_ret2
        exact ⟨.inl ⟨HN.out, rfl⟩, Below.refl _ _⟩
    · have hf : rightB xs = false := by simpa using hr
      rw [hf] at HRA
      clear hr hin HO hf
      go_enter Try.func12, Try.ntmps12
      go_wp2_with fail
      refine HRA.out.mono ?_
      rintro e w' ⟨rfl, rfl⟩
      go_wp2_with fail
      go_ret2
      exact ⟨.inl ⟨HN.out, rfl⟩, Below.refl _ _⟩
  obtain ⟨hr, h0, h1⟩ := hin
  obtain ⟨k, rfl⟩ : ∃ k : Nat, i = (k : Int) := ⟨i.toNat, by omega⟩
  have hk : k < xs.length := by omega
  rw [hr] at HRA
  obtain ⟨q, hq⟩ : ∃ q, k + 1 = q := ⟨_, rfl⟩
  have HY : Hid (O = some (xs.take k ++ xs.drop q)) := Lib.hid (by rw [HO.out, ← hq]; unfold woL; rw [if_pos ⟨hr, h0, h1⟩, Int.toNat_natCast])
  have hadd : (k : Int) + 1 = (q : Int) := by omega
  have hwq : IntKind.i64.wrap (q : Int) = (q : Int) := by rw [IntKind.wrap_i64]; omega
  have s1 := run_upto (P := Try.prog) (T := 22) Try.underlying22 size_int A xs.length ca k (by omega)
  obtain ⟨A2, s2, hA2⟩ := run_from (P := Try.prog) (T := 22) Try.underlying22 size_int A xs.length ca q (by omega) hca
  have HA2 := Lib.hid hA2
  have HNL : Hid (((xs.take k).map (Value.int .i64)).length = k * 1) := Lib.hid (by rw [List.length_map, List.length_take]; omega)
  have HND : Hid (((xs.drop q).map (Value.int .i64)).length = (xs.length - q) * 1) := Lib.hid (by rw [List.length_map, List.length_drop]; omega)
  have HQ := Lib.hid hq
  clear hr h0 h1 HO hA2 hq
  go_enter Try.func12, Try.ntmps12
  go_wp2_with fail
  refine HRA.out.mono ?_
  rintro e w' ⟨rfl, rfl⟩
  go_wp2_with fail
  go_region_law (first
    | (refine step_append_own rfl (.tmp 19) (.tmp 22) 22 rfl w.heap.size 3 (.int .i64 0) 1 8 Try.underlying22 (info_i trivial) rfl (by decide) (.slice (some ⟨w.heap.size, 0, none⟩) 0 0) 0 [] rfl (by first | exact own_empty w.drew w.heap.size _ (Nat.le_refl _) | exact own_empty w w.heap.size _ (Nat.le_refl _)) A k ca ((xs.take k).map (Value.int .i64)) rfl HNL.out (ReadsI.lays (ReadsI.below HX.out (by first | exact bl_drew (bl_alloc (Below.refl _ _) _) | exact bl_alloc (bl_drew (Below.refl _ _)) _)) k) (by intro u hu; simp only [List.mem_map] at hu; obtain ⟨x, _, rfl⟩ := hu; rfl) (by simp only [maxLen]; omega) (by omega) (by first | (simp; done) | (simp; omega)) ?_
       intro v1 w1 hown1 hg1
       have hB1 : Below w.heap.size w w1 := bl_grown (by first | exact bl_drew (bl_alloc (Below.refl _ _) _) | exact bl_alloc (bl_drew (Below.refl _ _)) _) hg1 (fun k hk => by simp only [Value.ownBlock, Option.some.injEq] at hk; omega))
    | (refine step_append_own rfl (.tmp 23) (.tmp 27) 22 rfl w.heap.size 3 (.int .i64 0) 1 8 Try.underlying22 (info_i trivial) rfl (by decide) _ (0 + k) _ rfl hown1 A2 (xs.length - q) (ca - q) ((xs.drop q).map (Value.int .i64)) rfl HND.out (ReadsI.lays_from (ReadsI.below HX.out hB1) q ca hca HA2.out) (by intro u hu; simp only [List.mem_map] at hu; obtain ⟨x, _, rfl⟩ := hu; rfl) (by simp only [maxLen]; omega) (by omega) hB1.size ?_
       intro v2 w2 hown2 hg2
       have hB2 : Below w.heap.size w w2 := bl_grown hB1 hg2 (fun k hk => (own_lt hown1 k hk).1)))
  all_goals
    go_wp2_with fail
    go_ret2
    refine ⟨.inr ⟨_, v2, HY.out, rfl, ?_⟩, hB2⟩
    have h : OwnI w2 w.heap.size 3 .i64 v2 (xs.take k ++ xs.drop q) := by
      unfold OwnI
      have e1 : (xs.take k ++ xs.drop q).length = 0 + k + (xs.length - q) := by simp; omega
      rw [e1, List.map_append]
      simpa using hown2
    exact h.shows
end Go.Proofs.Ytilkijioocijcaa.Shp
