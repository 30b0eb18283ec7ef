/- slices.Clone, Clone. -/
import Derived.Test.YthjkeefdeeljoaaPk35
import Derived.Test.YthjkeefdeeljoaaPk6
namespace Go.Proofs.Ythjkeefdeeljoaa.Bt
open Go.RowKit
set_option linter.unusedVariables false
set_option linter.unusedSimpArgs false

theorem info_u64 : (Try.prog.info? 151).map (fun i => (i.zero, i.size, i.bytes)) = some (some (.int .u64 0), 1, 8) := by kernel_rfl
theorem u64_one (W : List Nat) : ∀ u ∈ W.map (fun (x : Nat) => Value.int .u64 x), u.oneCell' = true := fun u hu => by
  obtain ⟨x, _, rfl⟩ := List.mem_map.1 hu
  rfl
theorem sclone_calls (g c : Nat) (W : List Nat) (w : World) (hs : Shows w (some ⟨g, 0, none⟩) (W.map fun (x : Nat) => Value.int .u64 x)) (hl : W.length ≤ 10000000) : Calls Try.prog 138 #[.slice (some ⟨g, 0, none⟩) W.length c] w fun e w' => ∃ g' c' cs', e = .returned (.slice (some ⟨g', 0, none⟩) W.length c') ∧ Blk w' g' 151 cs' ∧ (∀ i, i < W.length → cs'[i]? = some (.int .u64 (nth W i : Nat))) ∧ w.heap.size ≤ g' ∧ Below w.heap.size w w' := by
  have hq := fun w => Lib.run_eql_slice_nil (P := Try.prog) w 147 151 (some ⟨g, 0, none⟩) W.length c 0 0 Try.underlying147
  have hown : (w.alloc (.cells #[] 151)).ownsRow w.heap.size 151 1 (.slice (some ⟨w.heap.size, 0, none⟩) 0 0) 0 [] := World.ownsRow_lit w #[] 0 (Nat.le_refl _) (by simp) (by simp)
  have HOW := Lib.hid hown
  have HSH := Lib.hid (hs.below (bl_alloc (Below.refl w.heap.size w) (.cells #[] 151)))
  have HB := Lib.hid (bl_alloc (Below.refl w.heap.size w) (.cells #[] 151))
  have hz : w.heap.size ≤ (w.alloc (.cells #[] 151)).heap.size := by simp
  clear hs hown
  go_enter Try.func138, Try.ntmps138
  go_wp2_with (at_builtin; go_must (refine wpList_app rfl (.tmp 5) (.tmp 6) 147 rfl 151 w.heap.size (.int .u64 0) 1 8 Try.underlying147 info_u64 rfl (by decide) (.slice (some ⟨w.heap.size, 0, none⟩) 0 0) 0 [] rfl HOW.out (some ⟨g, 0, none⟩) W.length c (W.map fun (x : Nat) => Value.int .u64 x) rfl (by simp) HSH.out (u64_one W) (by simp only [maxLen]; omega) (by omega) hz ?_); intro v1 w1 hown1 hg1 hb1)
  go_ret
  rw [Nat.zero_add, List.nil_append] at hown1
  rcases hown1.2 with ⟨rfl, h0⟩ | ⟨g', cap, cur, rfl, hbase, hh, hnc, hcm, hcs, htk⟩
  · rcases hb1 with h | h <;> simp [Value.ownBlock] at h
  · refine ⟨g', cap, cur, rfl, hh, fun i hi => ?_, hbase, bl_grown HB.out hg1 (fun k hk => by simp [Value.ownBlock] at hk; omega)⟩
    have h1 := congrArg (fun l => l[i]?) htk
    simp only [Nat.mul_one, List.getElem?_take, if_pos hi, List.getElem?_map, Array.getElem?_toList] at h1
    rw [h1, List.getElem?_eq_getElem hi, nth_eq _ _ hi]
    rfl
theorem MaskW.shows {w : World} {T g c : Nat} {cs : Array Value} {W : List Nat} {l : List Bool} (h : MaskW w T g c cs W l) : Shows w (some ⟨g, 0, none⟩) (W.map fun (x : Nat) => Value.int .u64 x) := fun i v hi => by
  rw [List.getElem?_map, Option.map_eq_some_iff] at hi
  obtain ⟨x, hx, rfl⟩ := hi
  obtain ⟨hlt, he⟩ := List.getElem?_eq_some_iff.1 hx
  exact ⟨g, 0, rfl, by rw [Nat.zero_add, h.word i hlt, nth_eq _ _ hlt, he]⟩
set_option maxRecDepth 100000 in
set_option maxHeartbeats 4000000 in
theorem clone_calls (T g c : Nat) (cs : Array Value) (W : List Nat) (l : List Bool) (w : World) (h : MaskW w T g c cs W l) : Calls Try.prog 124 #[.pointer (some ⟨T, 0, none⟩)] w fun e w' => ∃ T', e = .returned (.pointer (some ⟨T', 0, none⟩)) ∧ Mask w.heap.size w' T' l ∧ Below w.heap.size w w' := by
  have HM := Lib.hid h
  have hsm := h.small
  have hlen : W.length ≤ 32768 := by rw [h.rep.len]; omega
  have c0 := h.hT.cell 0
  have c1 := h.hT.cell 1
  have HSC := Lib.hid (fun w hs => sclone_calls g c W w hs (by omega))
  clear h
  go_enter Try.func124, Try.ntmps124
  go_wp2_with fail
  go_region_with (go_at_call 138; refine (HSC.out _ (HM.out.shows.below (by first | exact Below.refl _ _ | exact bl_drew (Below.refl _ _) | exact bl_drewN (Below.refl _ _) _))).mono ?_; rintro e w' ⟨g', c', cs', rfl, hB, hC, hge, hb⟩; have hb2 := Blk.below' (Blk.drew HM.out.hT) hb; have c0 := hb2.cell 0; have c1 := hb2.cell 1; have HB3 := Lib.hid hb2; have HBL := Lib.hid hB; have HC := Lib.hid hC; have HGE := Lib.hid hge; have HBB := Lib.hid hb; clear hb2 hB hC hb hge)
  all_goals
    go_wp2_with fail
    go_ret
    have hTT := Blk.new w' 149 #[.slice (some ⟨g', 0, none⟩) W.length c', .int .i64 (l.length : Nat)]
    have hge : w.heap.size ≤ g' := HGE.out
    have hsz : w.heap.size ≤ w'.heap.size := HBB.out.size
    exact ⟨w'.heap.size, rfl, ⟨g', c', cs', W, ⟨HM.out.rep, hTT, HBL.out.alloc _, HC.out, hsm⟩, hsz, hge⟩, bl_alloc (bl_then (bl_drew (Below.refl w.heap.size w)) HBB.out) _⟩
end Go.Proofs.Ythjkeefdeeljoaa.Bt
