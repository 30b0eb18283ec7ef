/- slices.Clone at a shape, and at whole numbers. -/
import Derived.Test.YthjkeefdeeljoaaPk6
import Derived.Test.YthjkeefdeeljoaaPk8
import Derived.Test.YthjkeefdeeljoaaPk11
import Derived.Lib.SliceRun
import Derived.Laws.IdiomCopy
namespace Go.Proofs.Ythjkeefdeeljoaa.Shp
open Go.RowKit
set_option linter.unusedVariables false
set_option linter.unusedSimpArgs false

theorem below_setCells {B : Nat} {w W : World} (h : Below B w W) (b : Nat) (hb : B ≤ b) : ∀ (vs : List Value) (o : Nat), Below B w (W.setCells b o vs) := by
  intro vs
  induction vs generalizing W with
  | nil => intro o; exact h
  | cons v vs ih => intro o; exact ih (h.setCell hb v) (o + 1)
theorem int_one (L : List Int) : ∀ u ∈ L.map (Value.int .i64), u.oneCell' = true := fun u hu => by
  obtain ⟨x, _, rfl⟩ := List.mem_map.1 hu
  rfl
/-- A clone: a row of the call's own. -/
theorem sclone_calls (xs : List Int) (A : Option Addr) (ca : Nat) (w : World) (hx : ReadsI w .i64 A xs) (hl : xs.length ≤ 1000000) (hnil : A = none → xs = []) : Calls Try.prog 58 #[.slice A xs.length ca] w fun e w' => ∃ v, e = .returned v ∧ OwnI w' w.heap.size 3 .i64 v xs ∧ (xs ≠ [] → ∃ g cap, v = .slice (some ⟨g, 0, none⟩) xs.length cap) ∧ Below w.heap.size w w' := by
  have hq := fun w => Lib.run_eql_slice_nil (P := Try.prog) w 32 3 A xs.length ca 0 0 Try.underlying32
  cases A with
  | none =>
    have h0 := hnil rfl
    subst h0
    have hq0 : ∀ w, (binOp .eql 32 (.slice none 0 ca) (.slice none 0 0)).run Try.prog w = .ok (.bool true) w := hq
    clear hx hq
    go_enter Try.func58, Try.ntmps58
    go_wp2_with fail
    go_ret
    refine ⟨_, rfl, ownI_nil _ _ _ _, ?_⟩
    first | exact Below.refl _ _ | exact ⟨fun h => absurd rfl h, Below.refl _ _⟩
  | some ad =>
    have HSH := Lib.hid (ReadsI.lays (hx.below (bl_alloc (Below.refl w.heap.size w) (.cells #[] 3))) xs.length)
    rw [List.take_length] at HSH
    have hshow : Shows (w.alloc (.cells #[] 3)) (some ad) (xs.map (Value.int .i64)) := fun i v hi => by
      rw [List.getElem?_map, Option.map_eq_some_iff] at hi
      obtain ⟨x, hx1, rfl⟩ := hi
      obtain ⟨hlt, he⟩ := List.getElem?_eq_some_iff.1 hx1
      obtain ⟨b, off, e1, hc⟩ := (hx.below (bl_alloc (Below.refl w.heap.size w) (.cells #[] 3))) i hlt
      exact ⟨b, off, e1, by rw [hc, nth_eq _ _ hlt, he]⟩
    have HS := Lib.hid hshow
    have HOW := Lib.hid (own_empty w w.heap.size 3 (Nat.le_refl _))
    have HB := Lib.hid (bl_alloc (Below.refl w.heap.size w) (.cells #[] 3))
    have hz : w.heap.size ≤ (w.alloc (.cells #[] 3)).heap.size := by simp
    clear hx hshow HSH hnil
    go_enter Try.func58, Try.ntmps58
    go_wp2_with (at_builtin; go_must (refine wpList_app rfl (.tmp 5) (.tmp 6) 32 rfl 3 w.heap.size (.int .i64 0) 1 8 Try.underlying32 (info_i trivial) rfl (by decide) (.slice (some ⟨w.heap.size, 0, none⟩) 0 0) 0 [] rfl HOW.out (some ad) xs.length ca (xs.map (Value.int .i64)) rfl (by simp) HS.out (int_one xs) (by simp only [maxLen]; omega) (by omega) hz ?_); intro v1 w1 hown1 hg1 hb1)
    go_ret
    rw [Nat.zero_add, List.nil_append] at hown1
    refine ⟨v1, rfl, hown1, fun hne => ?_, bl_grown HB.out hg1 (fun k hk => by simp [Value.ownBlock] at hk; omega)⟩
    rcases hown1.2 with ⟨rfl, h0⟩ | ⟨g', cap, cur, rfl, _⟩
    · rcases hb1 with h | h <;> simp [Value.ownBlock] at h
    · exact ⟨g', cap, rfl⟩

/-- A clone of numbers: a row of the call's own. -/
theorem iclone_calls (xs : List Int) (A : Option Addr) (ca : Nat) (w : World) (hx : ReadsI w .i64 A xs) (hl : xs.length ≤ 1000000) (hnil : A = none → xs = []) : Calls Try.prog 59 #[.slice A xs.length ca] w fun e w' => ∃ v, e = .returned v ∧ OwnI w' w.heap.size 3 .i64 v xs ∧ (xs ≠ [] → ∃ g cap, v = .slice (some ⟨g, 0, none⟩) xs.length cap) ∧ Below w.heap.size w w' := by
  have hq := fun w => Lib.run_eql_slice_nil (P := Try.prog) w 22 3 A xs.length ca 0 0 Try.underlying22
  cases A with
  | none =>
    have h0 := hnil rfl
    subst h0
    have hq0 : ∀ w, (binOp .eql 22 (.slice none 0 ca) (.slice none 0 0)).run Try.prog w = .ok (.bool true) w := hq
    clear hx hq
    go_enter Try.func59, Try.ntmps59
    go_wp2_with fail
    go_ret
    refine ⟨_, rfl, ownI_nil _ _ _ _, ?_⟩
    first | exact Below.refl _ _ | exact ⟨fun h => absurd rfl h, Below.refl _ _⟩
  | some ad =>
    have HSH := Lib.hid (ReadsI.lays (hx.below (bl_alloc (Below.refl w.heap.size w) (.cells #[] 3))) xs.length)
    rw [List.take_length] at HSH
    have hshow : Shows (w.alloc (.cells #[] 3)) (some ad) (xs.map (Value.int .i64)) := fun i v hi => by
      rw [List.getElem?_map, Option.map_eq_some_iff] at hi
      obtain ⟨x, hx1, rfl⟩ := hi
      obtain ⟨hlt, he⟩ := List.getElem?_eq_some_iff.1 hx1
      obtain ⟨b, off, e1, hc⟩ := (hx.below (bl_alloc (Below.refl w.heap.size w) (.cells #[] 3))) i hlt
      exact ⟨b, off, e1, by rw [hc, nth_eq _ _ hlt, he]⟩
    have HS := Lib.hid hshow
    have HOW := Lib.hid (own_empty w w.heap.size 3 (Nat.le_refl _))
    have HB := Lib.hid (bl_alloc (Below.refl w.heap.size w) (.cells #[] 3))
    have hz : w.heap.size ≤ (w.alloc (.cells #[] 3)).heap.size := by simp
    clear hx hshow HSH hnil
    go_enter Try.func59, Try.ntmps59
    go_wp2_with (at_builtin; go_must (refine wpList_app rfl (.tmp 5) (.tmp 6) 22 rfl 3 w.heap.size (.int .i64 0) 1 8 Try.underlying22 (info_i trivial) rfl (by decide) (.slice (some ⟨w.heap.size, 0, none⟩) 0 0) 0 [] rfl HOW.out (some ad) xs.length ca (xs.map (Value.int .i64)) rfl (by simp) HS.out (int_one xs) (by simp only [maxLen]; omega) (by omega) hz ?_); intro v1 w1 hown1 hg1 hb1)
    go_ret
    rw [Nat.zero_add, List.nil_append] at hown1
    refine ⟨v1, rfl, hown1, fun hne => ?_, bl_grown HB.out hg1 (fun k hk => by simp [Value.ownBlock] at hk; omega)⟩
    rcases hown1.2 with ⟨rfl, h0⟩ | ⟨g', cap, cur, rfl, _⟩
    · rcases hb1 with h | h <;> simp [Value.ownBlock] at h
    · exact ⟨g', cap, rfl⟩

end Go.Proofs.Ythjkeefdeeljoaa.Shp
