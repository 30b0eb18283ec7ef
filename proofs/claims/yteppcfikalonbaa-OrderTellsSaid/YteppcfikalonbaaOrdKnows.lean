/- Contract of knows. -/
import Derived.Test.YteppcfikalonbaaOrdRef2
namespace Go.Proofs.Yteppcfikalonbaa.Ord
open Go.RowKit
set_option linter.unusedVariables false
set_option linter.unusedSimpArgs false

theorem knows_one (L : List Nat) (hp : L.Perm (List.range 4)) (hs : L.Pairwise (Ahead (bhOf cmpI [3, 1, 3, 2]))) : L = [1, 3, 0, 2] := by
  refine sorted_unique (cmpI_weak [3, 1, 3, 2]) (hp.trans (by decide)) hs ?_
  simp [Ahead, bhOf, cmpI, nth]

set_option maxHeartbeats 1000000 in
theorem knows_calls (w : World) : Calls Try.prog 6 #[] w fun e w' => e = .returned (.bool true) ∧ Below w.heap.size w w' := by
  go_enter Try.func6, Try.ntmps6
  go_wp2_with fail
  have h1 := readsI_new w .i64 3 [3, 1, 3, 2]
  refine (sort_calls [3, 1, 3, 2] _ 4 _ cmpI cmpI_of.val (cmpI_weak _) _ h1 (by decide)).mono ?_
  rintro e w1 ⟨b, L, hb, rfl, hr, hp, hs, hB⟩
  obtain rfl := knows_one L hp hs
  have HR := Lib.hid hr.shows
  have HB := Lib.hid (bl_then (bl_alloc (Below.refl _ _) _) hB)
  clear hr hp hs hB h1
  go_wp2_with fail
  have h2 := readsI_new w1 .i64 3 [1, 3, 0, 2]
  refine (ints_calls _ _ 4 4 [1, 3, 0, 2] [1, 3, 0, 2] _ (HR.out.below (bl_alloc (Below.refl _ _) _)) h2 (by decide) (by decide)).mono ?_
  rintro e w2 ⟨rfl, m, rfl⟩
  go_wp2_with fail
  go_ret
  exact ⟨rfl, bl_drewN (bl_then HB.out (bl_alloc (Below.refl _ _) _)) _⟩
end Go.Proofs.Yteppcfikalonbaa.Ord
