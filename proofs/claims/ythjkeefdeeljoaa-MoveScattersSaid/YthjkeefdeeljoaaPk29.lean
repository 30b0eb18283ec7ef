/- view.Dense and what it asks: is a nought among the lengths; does each stride count what stands behind it. -/
import Derived.Test.YthjkeefdeeljoaaPk21
import Derived.Test.YthjkeefdeeljoaaPk17
import Derived.Test.YthjkeefdeeljoaaPk19
namespace Go.Proofs.Ythjkeefdeeljoaa.Shp
open Go.RowKit Go.Shelf Go.Proofs.Ythjkeefdeeljoaa.Num
set_option linter.unusedVariables false
set_option linter.unusedSimpArgs false
attribute [local go_sem] Oper.semAt_some

theorem indexS_calls (xs : List Int) (A : Option Addr) (ca : Nat) (y : Int) (w : World) (hx : ReadsI w .i64 A xs) (hl : xs.length ≤ 9223372036854775807) :
    Calls Try.prog 142 #[.slice A xs.length ca, .int .i64 y] w fun e w' => (∃ k : Int, e = .returned (.int .i64 k) ∧ decide (0 ≤ k) = decide (y ∈ xs)) ∧ w = w' := by
  have HX := Lib.hid hx
  clear hx
  go_enter Try.func142, Try.ntmps142
  go_wp2_with fail
  go_loop [5, 8] (fun _ i => ∃ k : Nat, i = .int .i64 k ∧ k ≤ xs.length ∧ Hid (¬ y ∈ xs.take k)) (fun _ i => xs.length - (intOf i).toNat)
  case atStart => exact ⟨0, rfl, Nat.zero_le _, Lib.hid (by simp)⟩
  case round =>
    obtain ⟨k, rfl, hk, HA⟩ := hrel
    by_cases hlt : k < xs.length
    · obtain ⟨b, off, rfl, hc⟩ := HX.out k hlt
      have HT := Lib.hid (take_nth xs k hlt)
      have HM := Lib.hid (nth_mem xs k hlt)
      generalize nth xs k = x at *
      by_cases hb : y = x
      · subst hb
        go_wp2_with fail
        go_ret
        exact ⟨⟨k, rfl, by simp [HM.out]⟩, rfl⟩
      · have HBX := Lib.hid hb
        go_wp2_with fail
        go_round
        case measure => first | (simp [intOf]; done) | (simp [intOf]; omega)
        case rel => exact ⟨k + 1, by go_num, by omega, Lib.hid (by rw [HT.out]; have := HA.out; simp; exact ⟨this, HBX.out⟩)⟩
    · go_wp2_with fail
      go_ret
      have := HA.out
      rw [List.take_of_length_le (by omega)] at this
      exact ⟨⟨-1, rfl, by simp [this]⟩, rfl⟩
theorem containsS_calls (xs : List Int) (A : Option Addr) (ca : Nat) (y : Int) (w : World) (hx : ReadsI w .i64 A xs) (hl : xs.length ≤ 9223372036854775807) :
    Calls Try.prog 135 #[.slice A xs.length ca, .int .i64 y] w fun e w' => e = .returned (.bool (decide (y ∈ xs))) ∧ w = w' := by
  have HI := Lib.hid (indexS_calls xs A ca y w hx hl)
  clear hx
  go_enter Try.func135, Try.ntmps135
  go_wp2_with fail
  refine HI.out.mono ?_
  rintro e w' ⟨⟨k, rfl, hk⟩, rfl⟩
  have HK := Lib.hid hk
  clear hk
  go_wp2_with fail
  go_ret
  exact ⟨ret_bool HK.out, rfl⟩
/-- view.empty. -/
theorem empty_calls (xs ys : List Int) (off : Int) (A B : Option Addr) (ca cb n m : Nat) (w : World) (hx : ReadsI w .i64 A xs) (hn : xs.length = n) (hl : n ≤ 1000000) :
    Calls Try.prog 110 #[.agg #[.slice A n ca, .slice B m cb, .int .i64 off]] w fun e w' => e = .returned (.bool (decide (0 ∈ xs))) ∧ Below w.heap.size w w' := by
  subst hn
  have HB0 : Hid (Below w.heap.size w (w.alloc (.cells #[.slice A xs.length ca, .slice B m cb, .int .i64 off] 34))) := Lib.hid (bl_alloc (Below.refl _ _) _)
  have HC := Lib.hid (containsS_calls xs A ca 0 _ (hx.below HB0.out) (by omega))
  clear hx
  go_enter Try.func110, Try.ntmps110
  go_wp2_with fail
  refine HC.out.mono ?_
  rintro e w' ⟨rfl, rfl⟩
  go_wp2_with fail
  go_ret
  exact ⟨rfl, HB0.out⟩

/-- One axis more: does it count what stands behind it? -/
def stepD (xs ys : List Int) (N : Int) (i : Nat) : Option Int := if nth xs i = 1 ∨ nth ys i = N then some (IntKind.i64.wrap (N * nth xs i)) else none
def foldD (xs ys : List Int) (pre : List (Fin xs.length)) : Option Int := pre.foldl (fun s x => s.bind fun N => stepD xs ys N x.1) (some 1)
theorem foldD_snoc (xs ys : List Int) (pre : List (Fin xs.length)) (x : Fin xs.length) : foldD xs ys (pre ++ [x]) = (foldD xs ys pre).bind fun N => stepD xs ys N x.1 := by simp [foldD]
def denK (xs ys : List Int) : Nat → Int → Bool
  | 0, _ => true
  | m + 1, N => (decide (nth xs m = 1) || decide (nth ys m = N)) && denK xs ys m (N * nth xs m)
/-- Is a view dense? -/
def denB (xs ys : List Int) (off : Int) : Bool := vrB xs ys off && (decide (0 ∈ xs) || denK xs ys xs.length 1)
theorem denK_step (xs ys : List Int) (h1 : ∀ x ∈ xs, 1 ≤ x) (hp : prod xs ≤ 1048576) (k : Nat) : k ≤ xs.length → ∀ N, foldD xs ys (downs xs.length k) = some N →
    denK xs ys xs.length 1 = denK xs ys (xs.length - k) N ∧ N * prod (xs.take (xs.length - k)) = prod xs ∧ 1 ≤ N := by
  induction k with
  | zero => intro _ N h; simp [foldD, downs] at h; subst h; simp
  | succ k ih =>
    intro hk N h
    have e : downs xs.length (k + 1) = downs xs.length k ++ [⟨xs.length - 1 - k, by omega⟩] := by conv => lhs; unfold downs; rw [dif_pos (by omega)]
    rw [e, foldD_snoc] at h
    cases hf : foldD xs ys (downs xs.length k) with
    | none => rw [hf] at h; simp at h
    | some M =>
      rw [hf] at h
      obtain ⟨i1, i2, i3⟩ := ih (by omega) M hf
      obtain ⟨j, hj⟩ : ∃ j, xs.length - (k + 1) = j := ⟨_, rfl⟩
      have hj1 : xs.length - k = j + 1 := by omega
      have hj2 : xs.length - 1 - k = j := by omega
      have hjl : j < xs.length := by omega
      rw [hj]
      rw [hj1] at i1 i2
      simp only [Option.bind_some, hj2] at h
      unfold stepD at h
      split at h
      · rename_i hc
        have hx := h1 _ (nth_mem xs j hjl)
        have hpt := (prod_ge_part xs h1 j).2
        rw [take_nth xs j hjl, prod_append] at i2
        have e3 : M * nth xs j * prod (xs.take j) = prod xs := by rw [← i2, Int.mul_assoc, Int.mul_comm (nth xs j)]
        have hpos : 1 ≤ M * nth xs j := by
          have := Int.mul_le_mul i3 hx (by omega) (by omega)
          omega
        have hle : M * nth xs j ≤ prod xs := by
          rw [← e3]
          have := Int.mul_le_mul_of_nonneg_left hpt (show 0 ≤ M * nth xs j by omega)
          omega
        have hw : IntKind.i64.wrap (M * nth xs j) = M * nth xs j := by rw [IntKind.wrap_i64]; omega
        rw [hw] at h
        injection h with h
        subst h
        refine ⟨?_, e3, hpos⟩
        rw [i1]
        conv => lhs; unfold denK
        rcases hc with hc | hc <;> simp [hc]
      · simp at h
theorem denK_stop (xs ys : List Int) (h1 : ∀ x ∈ xs, 1 ≤ x) (hp : prod xs ≤ 1048576) (k : Nat) (hk : k < xs.length) (N : Int) (h : foldD xs ys (downs xs.length k) = some N) (hs : stepD xs ys N (xs.length - 1 - k) = none) : denK xs ys xs.length 1 = false := by
  obtain ⟨i1, _, _⟩ := denK_step xs ys h1 hp k (by omega) N h
  obtain ⟨j, hj⟩ : ∃ j, xs.length - 1 - k = j := ⟨_, rfl⟩
  rw [i1, show xs.length - k = j + 1 by omega]
  rw [hj] at hs
  unfold stepD at hs
  split at hs
  · simp at hs
  · rename_i hc
    unfold denK
    simp only [not_or] at hc
    simp [hc.1, hc.2]
theorem denK_done (xs ys : List Int) (h1 : ∀ x ∈ xs, 1 ≤ x) (hp : prod xs ≤ 1048576) (N : Int) (h : foldD xs ys (downs xs.length xs.length) = some N) : denK xs ys xs.length 1 = true := by
  obtain ⟨i1, _, _⟩ := denK_step xs ys h1 hp _ (Nat.le_refl _) N h
  rw [i1, Nat.sub_self]
  rfl
/-- Between two rounds. -/
structure DenI (A : Option Addr) (n ca : Nat) (B : Option Addr) (m cb : Nat) (off : Int) (ys : List Int) (w : World) (G : Nat) (N : Int) (W : World) : Prop where
  blk : Blk W w.heap.size 34 #[.slice A n ca, .slice B m cb, .int .i64 off]
  res : Blk W (w.heap.size + 1) 4 #[.bool false]
  num : Blk W G 3 #[.int .i64 N]
  ry : ReadsI W .i64 B ys
  below : Below w.heap.size w W
theorem DenI.drew {A : Option Addr} {n ca : Nat} {B : Option Addr} {m cb : Nat} {off : Int} {ys : List Int} {w : World} {G : Nat} {N : Int} {W : World} (h : DenI A n ca B m cb off ys w G N W) : DenI A n ca B m cb off ys w G N W.drew := ⟨h.blk.drew, h.res.drew, h.num.drew, h.ry, bl_drew h.below⟩
theorem DenI.set {A : Option Addr} {n ca : Nat} {B : Option Addr} {m cb : Nat} {off : Int} {ys : List Int} {w : World} {G : Nat} {N : Int} {W : World} (h : DenI A n ca B m cb off ys w G N W) (hG : w.heap.size + 2 ≤ G) (hB : ∀ b o, B = some ⟨b, o, none⟩ → b ≠ G) (M : Int) : DenI A n ca B m cb off ys w G M (W.setCell ⟨G, 0, none⟩ (.int .i64 M)) :=
  ⟨h.blk.far (p := ⟨G, 0, none⟩) (by show w.heap.size ≠ G; omega) _, h.res.far (p := ⟨G, 0, none⟩) (by show w.heap.size + 1 ≠ G; omega) _, h.num.one _, h.ry.far (p := ⟨G, 0, none⟩) hB _, bl_set h.below (by show w.heap.size ≤ G; omega) _⟩
def DenJ (xs ys : List Int) (A : Option Addr) (n ca : Nat) (B : Option Addr) (m cb : Nat) (off : Int) (w : World) (G : Nat) (pre : List (Fin xs.length)) (W : World) : Prop := ∃ N, foldD xs ys pre = some N ∧ DenI A n ca B m cb off ys w G N W
def DenX (xs ys : List Int) (w : World) (c : Code) (pre : List (Fin xs.length)) (W : World) : Prop :=
  c = .ret ∧ (∃ pre' x N, pre = pre' ++ [x] ∧ foldD xs ys pre' = some N ∧ stepD xs ys N x.1 = none) ∧ Blk W (w.heap.size + 1) 4 #[.bool false] ∧ Below w.heap.size w W
theorem denJ_own {xs ys : List Int} {A : Option Addr} {n ca : Nat} {B : Option Addr} {m cb : Nat} {off : Int} {w : World} {G : Nat} {b0 : Nat} (hB : w.heap.size ≤ b0) : OwnFrom b0 (DenJ xs ys A n ca B m cb off w G) := fun pre W W' row hs hg hr => by
  obtain ⟨N, h1, h⟩ := hs
  have h2 : ∀ r, row = some r → ∃ o : Obj, W.heap[r]? = some o ∧ o.isCells = false := fun r e => (hr r e).2
  exact ⟨N, h1, blk_kept h.blk hg h2, blk_kept h.res hg h2, blk_kept h.num hg h2, h.ry.kept hg h2, h.below.grown hg h.below.size (fun k e => Nat.le_trans hB (hr k e).1)⟩
theorem denX_own {xs ys : List Int} {w : World} {b0 : Nat} (hB : w.heap.size ≤ b0) (c : Code) : OwnFrom b0 (DenX xs ys w c) := fun pre W W' row hs hg hr => by
  obtain ⟨h0, h1, h2, h3⟩ := hs
  exact ⟨h0, h1, blk_kept h2 hg (fun r e => (hr r e).2), h3.grown hg h3.size (fun k e => Nat.le_trans hB (hr k e).1)⟩
theorem seen_view {H : Nat} {W : World} {T : TypeId} {x y z : Value} (h2 : Blk W H T #[x, y, z]) : W.cell? ⟨H, 0, none⟩ = some x ∧ W.cell? ⟨H, 1, none⟩ = some y ∧ W.cell? ⟨H, 2, none⟩ = some z := ⟨h2.cell 0, h2.cell 1, h2.cell 2⟩
theorem dense_results (tmps : Array Value) (W : World) (H : Nat) (v : Value) (h4 : tmps[2]? = some (.pointer (some ⟨H, 0, none⟩))) (hc : W.cell? ⟨H, 0, none⟩ = some v) : (results Try.f67 tmps).run Try.prog W = .ok v W := by
  simp [results, Try.f67, go_sem, h4, hc]
theorem dense_end0 {tmps : Array Value} {W : World} {H : Nat} {v : Value} {R : Ending → World → Prop} (h4 : tmps[2]? = some (.pointer (some ⟨H, 0, none⟩))) (hc : W.cell? ⟨H, 0, none⟩ = some v) (hR : R (.returned v) W) :
    bodyPostM Fence.wide 5 Try.prog Try.f67 R .ret { tmps := tmps, defers := [] } W := ⟨v, dense_results _ _ _ _ h4 hc, hR⟩
theorem dense_end1 {tmps : Array Value} {W : World} {D H : Nat} {v : Value} {R : Ending → World → Prop} (z : W.heap[D]? = some (.deferred (some []))) (h4 : tmps[2]? = some (.pointer (some ⟨H, 0, none⟩))) (hc : (W.putObj D (.deferred none)).cell? ⟨H, 0, none⟩ = some v) (hR : R (.returned v) (W.putObj D (.deferred none))) :
    bodyPostM Fence.wide 5 Try.prog Try.f67 R .ret { tmps := tmps, defers := [{ target := .collected D, args := #[] }] } W := by
  refine ⟨by simp, .inl ⟨_, _, rfl, run_takeDeferred z, ?_⟩⟩
  exact ⟨v, dense_results _ _ _ _ h4 hc, hR⟩
set_option maxRecDepth 100000 in
set_option maxHeartbeats 2000000 in
theorem dense_in (xs ys : List Int) (off : Int) (A B : Option Addr) (ca cb n m : Nat) (w : World) (hx : ReadsI w .i64 A xs) (hy : ReadsI w .i64 B ys) (hn : xs.length = n) (hm : ys.length = m) (hl : n ≤ 1000000) (hl2 : m ≤ 1000000) :
    CallsIn Fence.wide 5 Try.prog 67 #[.agg #[.slice A n ca, .slice B m cb, .int .i64 off]] w fun e w' => e = .returned (.bool (denB xs ys off)) ∧ Below w.heap.size w w' := by
  subst hn
  subst hm
  have HR := Lib.hid (fun W (h : Below w.heap.size w W) => vright_calls xs ys off A B ca cb xs.length ys.length W (hx.below h) (hy.below h) rfl rfl hl hl2)
  have HE := Lib.hid (fun W (h : Below w.heap.size w W) => empty_calls xs ys off A B ca cb xs.length ys.length W (hx.below h) rfl hl)
  have HX := Lib.hid hx
  have HY := Lib.hid hy
  obtain ⟨W0, hW0⟩ : ∃ W0, W0 = (w.alloc (.cells #[.slice A xs.length ca, .slice B ys.length cb, .int .i64 off] 34)).alloc (.cells #[.bool false] 4) := ⟨_, rfl⟩
  have hb0 : Below w.heap.size w W0 := by rw [hW0]; exact bl_alloc (bl_alloc (Below.refl _ _) _) _
  have hbox : Blk W0 w.heap.size 34 #[.slice A xs.length ca, .slice B ys.length cb, .int .i64 off] := by rw [hW0]; exact (Blk.new _ _ _).alloc _
  have hres : Blk W0 (w.heap.size + 1) 4 #[.bool false] := by rw [hW0]; exact Blk.new' (by simp) _ _
  have hs0 : W0.heap.size = w.heap.size + 2 := by rw [hW0]; simp
  have HB0 := Lib.hid hb0
  have HBOX := Lib.hid hbox
  have HRES := Lib.hid hres
  have HS0 := Lib.hid hs0
  have HW0 := Lib.hid hW0
  clear hx hy hb0 hbox hres hs0 hW0
  refine callsIn_of_wp_marks Try.func67 rfl trivial ?_ rfl
  simp only [Try.ntmps67, List.size_toArray, List.length_cons, List.length_nil, Nat.reduceAdd, Nat.reduceSub, Array.replicate_succ, Array.replicate_zero, List.push_toArray, List.append_toArray, List.nil_append, List.cons_append]
  cases hv : vrB xs ys off with
  | false =>
    rw [hv] at HR
    have HD : Hid (denB xs ys off = false) := Lib.hid (by unfold denB; rw [hv]; rfl)
    gi_wp2
    rw [← HW0.out]
    refine ⟨trivial, ?_⟩; gi_at_call 20; refine (callsIn_wide.2 (HR.out _ HB0.out)).mono ?_; rintro e w1 ⟨rfl, hB1⟩
    obtain ⟨k0, k1, k2⟩ := seen_view (HBOX.out.below' hB1)
    have HRS1 := Lib.hid (HRES.out.below' hB1)
    have HB1 := Lib.hid (bl_then HB0.out hB1)
    clear hB1 HW0
    gi_wp2
    rename_i hK
    refine ⟨trivial, hK _ _ ?_⟩
    clear hK
    gi_wp2
    refine ⟨trivial, ?_⟩; gi_at_call 20; refine (callsIn_wide.2 (HR.out _ HB1.out)).mono ?_; rintro e w2 ⟨rfl, hB2⟩
    have r0 := (HRS1.out.below' hB2).cell 0
    have r0f := (HRS1.out.below' hB2).frozen 0
    have HRS2 := Lib.hid (HRS1.out.below' hB2)
    have HB2 := Lib.hid (bl_then HB1.out hB2)
    clear hB2
    gi_wp2
    exact dense_end0 rfl ((HRS2.out.one _).cell 0) ⟨ret_bool HD.out.symm, bl_set HB2.out (by simp) _⟩
  | true =>
    rw [hv] at HR
    by_cases hz : 0 ∈ xs
    · have HD : Hid (denB xs ys off = true) := Lib.hid (by unfold denB; rw [hv, decide_eq_true hz]; rfl)
      rw [decide_eq_true hz] at HE
      clear hz hv
      gi_wp2
      rw [← HW0.out]
      refine ⟨trivial, ?_⟩; gi_at_call 20; refine (callsIn_wide.2 (HR.out _ HB0.out)).mono ?_; rintro e w1 ⟨rfl, hB1⟩
      obtain ⟨k0, k1, k2⟩ := seen_view (HBOX.out.below' hB1)
      have HRS1 := Lib.hid (HRES.out.below' hB1)
      have HBX1 := Lib.hid (HBOX.out.below' hB1)
      have HS1 : Hid (w.heap.size + 2 ≤ w1.heap.size) := Lib.hid (by have h1 := hB1.size; have h2 := HS0.out; omega)
      have HB1 := Lib.hid (bl_then HB0.out hB1)
      clear hB1 HW0
      gi_wp2
      refine ⟨trivial, ?_⟩; gi_at_call 110; refine (callsIn_wide.2 (HE.out _ HB1.out)).mono ?_; rintro e w2 ⟨rfl, hB2⟩
      clear k0 k1 k2
      obtain ⟨k0, k1, k2⟩ := seen_view (HBX1.out.below' hB2)
      have HRS2 := Lib.hid (HRS1.out.below' hB2)
      have HB2 := Lib.hid (bl_then HB1.out hB2)
      clear hB2
      gi_wp2
      refine ⟨trivial, ?_⟩; gi_at_call 20; refine (callsIn_wide.2 (HR.out _ HB2.out)).mono ?_; rintro e w3 ⟨rfl, hB3⟩
      have r0 := (HRS2.out.below' hB3).cell 0
      have r0f := (HRS2.out.below' hB3).frozen 0
      have HRS3 := Lib.hid (HRS2.out.below' hB3)
      have HB3 := Lib.hid (bl_then HB2.out hB3)
      clear hB3
      gi_wp2
      exact dense_end0 rfl ((HRS3.out.one _).cell 0) ⟨ret_bool HD.out.symm, bl_set HB3.out (by simp) _⟩
    · rw [decide_eq_false hz] at HE
      gi_wp2
      rw [← HW0.out]
      refine ⟨trivial, ?_⟩; gi_at_call 20; refine (callsIn_wide.2 (HR.out _ HB0.out)).mono ?_; rintro e w1 ⟨rfl, hB1⟩
      obtain ⟨k0, k1, k2⟩ := seen_view (HBOX.out.below' hB1)
      have HRS1 := Lib.hid (HRES.out.below' hB1)
      have HBX1 := Lib.hid (HBOX.out.below' hB1)
      have HS1 : Hid (w.heap.size + 2 ≤ w1.heap.size) := Lib.hid (by have h1 := hB1.size; have h2 := HS0.out; omega)
      have HB1 := Lib.hid (bl_then HB0.out hB1)
      clear hB1 HW0
      gi_wp2
      refine ⟨trivial, ?_⟩; gi_at_call 110; refine (callsIn_wide.2 (HE.out _ HB1.out)).mono ?_; rintro e w2 ⟨rfl, hB2⟩
      clear k0 k1 k2
      obtain ⟨k0, k1, k2⟩ := seen_view (HBX1.out.below' hB2)
      have HRS2 := Lib.hid (HRS1.out.below' hB2)
      have HBX2 := Lib.hid (HBX1.out.below' hB2)
      have HS2 : Hid (w.heap.size + 2 ≤ w2.heap.size) := Lib.hid (by have h1 := hB2.size; have h2 := HS1.out; omega)
      have HB2 := Lib.hid (bl_then HB1.out hB2)
      clear hB2
      have f0 : (w2.alloc (.cells #[.int .i64 1] 3)).cell? ⟨w.heap.size, 0, none⟩ = some (.slice A xs.length ca) := (HBX2.out.alloc _).cell 0
      gi_wp2
      refine ⟨trivial, ?_⟩; gi_at_call 109; refine (callsIn_wide.2 (backward_calls _ _ _ _)).mono ?_; rintro e w' ⟨rfl, rfl⟩
      gi_wp2
      have h1x : ∀ x ∈ xs, 1 ≤ x := fun x hx => by
        have h1 := (vrB_out hv).1
        unfold sizeOk at h1
        simp only [Bool.and_eq_true] at h1
        have := (rightB_mem h1.1).2 x hx
        have h3 : x ≠ 0 := fun e => hz (e ▸ hx)
        omega
      have hpx : prod xs ≤ 1048576 := by
        have h1 := (vrB_out hv).1
        unfold sizeOk at h1
        simp only [Bool.and_eq_true, decide_eq_true_eq] at h1
        omega
      have hle6 : ys.length = xs.length := (vrB_out hv).2.1
      have hDB : denB xs ys off = denK xs ys xs.length 1 := by unfold denB; rw [hv, decide_eq_false hz]; rfl
      have HDB := Lib.hid hDB
      have H1X := Lib.hid h1x
      have HPX := Lib.hid hpx
      have HL6 := Lib.hid hle6
      clear h1x hpx hDB hle6 hv hz HR HE k0 k1 k2 f0
      obtain ⟨G, hG⟩ : ∃ G, G = w2.heap.size := ⟨_, rfl⟩
      obtain ⟨W0, hW0⟩ : ∃ W0, W0 = (w2.alloc (.cells #[.int .i64 1] 3)).alloc (.cells #[.slice A xs.length ca] 32) := ⟨_, rfl⟩
      have hsz : W0.heap.size = G + 2 := by rw [hW0, hG]; simp
      have hbx : W0.cell? ⟨G + 1, 0, none⟩ = some (.slice A xs.length ca) := by rw [hW0, hG]; exact (Blk.new' (by simp) _ _).cell 0
      have hB0 : Below w.heap.size w W0 := by rw [hW0]; exact bl_alloc (bl_alloc HB2.out _) _
      have hI0 : DenI A xs.length ca B ys.length cb off ys w G 1 W0 := by
        rw [hW0, hG]
        exact ⟨(HBX2.out.alloc _).alloc _, (HRS2.out.alloc _).alloc _, (Blk.new _ _ _).alloc _, HY.out.below (bl_alloc (bl_alloc HB2.out _) _), bl_alloc (bl_alloc HB2.out _) _⟩
      have hG2 : w.heap.size + 2 ≤ G := by have := HS2.out; omega
      have hBG : ∀ b o, B = some ⟨b, o, none⟩ → 0 < ys.length → b ≠ G := fun b o e h0 => by
        obtain ⟨b', o', e', hc⟩ := HY.out 0 h0
        rw [e] at e'
        injection e' with e'
        injection e' with e1
        have := World.block_lt_of_cell? _ _ hc
        dsimp only at this
        omega
      have hAG : ∀ b o, A = some ⟨b, o, none⟩ → 0 < xs.length → b ≠ G := fun b o e h0 => by
        obtain ⟨b', o', e', hc⟩ := HX.out 0 h0
        rw [e] at e'
        injection e' with e'
        injection e' with e1
        have := World.block_lt_of_cell? _ _ hc
        dsimp only at this
        omega
      have HAG := Lib.hid hAG
      clear hAG
      rw [← hG, ← hW0]
      clear hW0 hG HB2 HBX2 HRS2 HB1 HBX1 HRS1 HS1 HS2 HB0 HBOX HRES HS0
      have HI0 := Lib.hid hI0
      have HBX := Lib.hid hbx
      have HBB := Lib.hid hB0
      have HBG := Lib.hid hBG
      clear hI0 hbx hB0 hBG
      refine wpIn_rangeFunc_ownG rfl (by omega) (gf := 134) (lb := #[.pointer (some ⟨G + 1, 0, none⟩)]) rfl trivial (enters_of Try.func134 (by kernel_rfl) rfl)
        (backwardS_stops Fence.wide 4 trivial rfl (by omega) (G + 1) xs A ca hl W0 HBX.out (HX.out.below HBB.out)) (fun h k => h.trans k) (KpS.put (by omega)) (Below.refl _ _) (fun _ => rfl)
        (DenJ xs ys A xs.length ca B ys.length cb off w G) (DenX xs ys w) (denJ_own (by omega)) (denX_own (by omega)) ⟨_, rfl, HI0.out⟩
        (fun x => { tmps := #[.agg #[.slice A xs.length ca, .slice B ys.length cb, .int .i64 off], .pointer (some ⟨w.heap.size, 0, none⟩), .pointer (some ⟨w.heap.size + 1, 0, none⟩), .pointer (some ⟨G, 0, none⟩), .int .i64 (x.1 : Int), .int .i64 (nth xs x.1),
          .agg #[.slice A xs.length ca, .slice B ys.length cb, .int .i64 off], .bool true, .bool false, .bool false, .agg #[.slice A xs.length ca, .slice B ys.length cb, .int .i64 off], .bool false, .bool false, undef, undef, .pointer (some ⟨w.heap.size, 0, none⟩), .slice A xs.length ca,
          .func (.func 134) #[] #[.pointer (some ⟨G + 1, 0, none⟩)], .int .i64 (x.1 : Int), .int .i64 (nth xs x.1), undef, undef, undef, undef, undef, undef, undef, undef, undef, undef, undef, undef, undef, undef], defers := [] }) ?assign ?body ?done ?stop
      case assign =>
        intro l x W K hK
        gi_wp2
        exact hK
      case body =>
        rintro l pre ⟨i, hi⟩ W ⟨N, hs, hI⟩ _
        obtain ⟨bB, oB, eB, cB⟩ := hI.ry i (by rw [HL6.out]; exact hi)
        have hil : (i : Int) < (ys.length : Int) := by rw [HL6.out]; omega
        obtain ⟨e0, e1, e2⟩ := seen_view hI.blk
        have e3 := hI.num.cell 0
        have e3f := hI.num.frozen 0
        have e4 := hI.res.cell 0
        have e4f := hI.res.frozen 0
        rw [eB] at e1
        have HI := Lib.hid hI
        have HS := Lib.hid hs
        clear hI hs
        dsimp only
        obtain ⟨x, hxx⟩ : ∃ x, nth xs i = x := ⟨_, rfl⟩
        obtain ⟨y, hyy⟩ : ∃ y, nth ys i = y := ⟨_, rfl⟩
        rw [hyy] at cB
        rw [hxx]
        have HXX := Lib.hid hxx
        have HYY := Lib.hid hyy
        clear hxx hyy
        by_cases hx1 : x = 1
        · subst hx1
          gi_wp2
          refine wpIn_region_head (g := 1) 10 #[true, true, true, true, true, true, true, true, true, true, false] (by kernel_rfl) (by kernel_rfl) rfl ?_
          simp only [List.take_succ_cons, List.take_zero]
          change wpStill _ _ W.drew _ _ _
          iterate 10 still_step
          refine wpStill_nil ?_
          refine wpAnyIn_ready (rs := [10]) (by kernel_rfl) (by simp) ?_
          refine AllReadyIn.cons rfl (fun K hK => ?_) AllReadyIn.nil
          go_simp
          refine hK _ _ ?_
          clear hK K
          refine wpAnyIn_done (by kernel_rfl) ?_ _
          obtain ⟨V, hV⟩ : ∃ V, V = W.drew := ⟨_, rfl⟩
          rw [← hV]
          have hI : DenI A xs.length ca B ys.length cb off ys w G N V := by rw [hV]; exact HI.out.drew
          have HKO : Hid (KeepsOthers W V) := Lib.hid (by rw [hV]; exact KeepsOthers.drew _)
          have HP : Hid (V.heap[G + 1]? = W.heap[G + 1]?) := Lib.hid (by rw [hV]; rfl)
          have HRR : Hid (ReadsI W .i64 A xs → ReadsI V .i64 A xs) := Lib.hid (by rw [hV]; exact id)
          clear hV e0 e1 e2 e3 e3f e4 e4f cB HI
          have e3 := hI.num.cell 0
          have e3f := hI.num.frozen 0
          have HI := Lib.hid hI
          clear hI
          gi_wp2
          refine ⟨(HKO.out.trans (KeepsOthers.setCell _ _ _)).from _, ⟨(Below.heap_setCell _ _ _ _ (by show G + 1 ≠ G; omega)).trans HP.out, fun h => (HRR.out h).far (p := ⟨G, 0, none⟩) (fun b o e => HAG.out b o e (by omega)) _⟩, _, ?_, HI.out.set hG2 (fun b o e => HBG.out b o e (by rw [HL6.out]; omega)) _⟩
          rw [foldD_snoc, HS.out]
          show stepD xs ys N i = _
          unfold stepD
          rw [HXX.out, if_pos (.inl rfl), Int.mul_one, Go.IntWalk.i64_left]
        · by_cases hyN : y = N
          · subst hyN
            gi_wp2
            refine wpIn_region_head (g := 1) 10 #[true, true, true, true, true, true, true, true, true, true, false] (by kernel_rfl) (by kernel_rfl) rfl ?_
            simp only [List.take_succ_cons, List.take_zero]
            change wpStill _ _ W.drew _ _ _
            iterate 10 still_step
            refine wpStill_nil ?_
            refine wpAnyIn_ready (rs := [10]) (by kernel_rfl) (by simp) ?_
            refine AllReadyIn.cons rfl (fun K hK => ?_) AllReadyIn.nil
            go_simp
            refine hK _ _ ?_
            clear hK K
            refine wpAnyIn_done (by kernel_rfl) ?_ _
            obtain ⟨V, hV⟩ : ∃ V, V = W.drew := ⟨_, rfl⟩
            rw [← hV]
            have hI : DenI A xs.length ca B ys.length cb off ys w G y V := by rw [hV]; exact HI.out.drew
            have HKO : Hid (KeepsOthers W V) := Lib.hid (by rw [hV]; exact KeepsOthers.drew _)
            have HP : Hid (V.heap[G + 1]? = W.heap[G + 1]?) := Lib.hid (by rw [hV]; rfl)
            have HRR : Hid (ReadsI W .i64 A xs → ReadsI V .i64 A xs) := Lib.hid (by rw [hV]; exact id)
            clear hV e0 e1 e2 e3 e3f e4 e4f cB HI
            have e3 := hI.num.cell 0
            have e3f := hI.num.frozen 0
            have HI := Lib.hid hI
            clear hI
            gi_wp2
            refine ⟨(HKO.out.trans (KeepsOthers.setCell _ _ _)).from _, ⟨(Below.heap_setCell _ _ _ _ (by show G + 1 ≠ G; omega)).trans HP.out, fun h => (HRR.out h).far (p := ⟨G, 0, none⟩) (fun b o e => HAG.out b o e (by omega)) _⟩, _, ?_, HI.out.set hG2 (fun b o e => HBG.out b o e (by rw [HL6.out]; omega)) _⟩
            rw [foldD_snoc, HS.out]
            show stepD xs ys y i = _
            unfold stepD
            rw [HXX.out, HYY.out, if_pos (.inr rfl), Go.IntWalk.i64_left]
          · have hb1 : (x != 1) = true := by simp [hx1]
            have hb2 : (y != N) = true := by simp [hyN]
            gi_wp2
            refine wpIn_region_head (g := 1) 10 #[true, true, true, true, true, true, true, true, true, true, false] (by kernel_rfl) (by kernel_rfl) rfl ?_
            simp only [List.take_succ_cons, List.take_zero]
            change wpStill _ _ W.drew _ _ _
            iterate 10 still_step
            refine wpStill_nil ?_
            refine wpAnyIn_ready (rs := [10]) (by kernel_rfl) (by simp) ?_
            refine AllReadyIn.cons rfl (fun K hK => ?_) AllReadyIn.nil
            go_simp
            refine hK _ _ ?_
            clear hK K
            refine wpAnyIn_done (by kernel_rfl) ?_ _
            gi_wp2
            refine ⟨((KeepsOthers.setCell _ _ _).trans (KeepsOthers.drew _)).from _, rfl, ⟨pre, ⟨i, hi⟩, N, rfl, HS.out, ?_⟩, (HI.out.res.one _).drew, bl_drew (bl_set HI.out.below (by simp) _)⟩
            show stepD xs ys N i = none
            unfold stepD
            rw [HXX.out, HYY.out, if_neg (fun h => h.elim hx1 hyN)]
      case done =>
        rintro D ys' W hD rfl ⟨N, hs, hI⟩ hK
        have HT : Hid (denB xs ys off = true) := Lib.hid (by rw [HDB.out]; exact denK_done xs ys H1X.out HPX.out N hs)
        have e4 := hI.res.cell 0
        have e4f := hI.res.frozen 0
        have HI := Lib.hid hI
        clear hI
        gi_wp2
        have hK' := (KeepsOthers.setCell W ⟨w.heap.size + 1, 0, none⟩ (.bool true)).same D _ hK rfl
        have hb := blk_kept (HI.out.res.one (.bool true)) (grownBy_putObj' _ D (.deferred none)) (fun r e => by cases e; exact ⟨_, hK', rfl⟩)
        exact dense_end1 hK' rfl (hb.cell 0) ⟨ret_bool HT.out.symm, (bl_set HI.out.below (by simp) _).trans (belowK_b (w := w) (Nat.le_refl _) _ D _ _ (by omega) hK' rfl rfl)⟩
      case stop =>
        rintro D c pre W hD ⟨k, hk, rfl⟩ ⟨rfl, ⟨pre', x, N, he, hs, hst⟩, hres, hB⟩ hK
        have hkk : xs.length - 1 - k < xs.length := by omega
        have e : downs xs.length (k + 1) = downs xs.length k ++ [⟨xs.length - 1 - k, hkk⟩] := by conv => lhs; unfold downs; rw [dif_pos (by omega)]
        rw [e] at he
        obtain ⟨rfl, hx⟩ := List.append_inj' he rfl
        injection hx with hx _
        subst hx
        have HT : Hid (denB xs ys off = false) := Lib.hid (by rw [HDB.out]; exact denK_stop xs ys H1X.out HPX.out k hk N hs hst)
        clear he e
        gi_wp2
        have hb := blk_kept hres (grownBy_putObj' _ D (.deferred none)) (fun r e => by cases e; exact ⟨_, hK, rfl⟩)
        exact dense_end1 hK rfl (hb.cell 0) ⟨ret_bool HT.out.symm, hB.trans (belowK_b (w := w) (Nat.le_refl _) _ D _ _ (by omega) hK rfl rfl)⟩
theorem dense_calls (xs ys : List Int) (off : Int) (A B : Option Addr) (ca cb n m : Nat) (w : World) (hx : ReadsI w .i64 A xs) (hy : ReadsI w .i64 B ys) (hn : xs.length = n) (hm : ys.length = m) (hl : n ≤ 1000000) (hl2 : m ≤ 1000000) :
    Calls Try.prog 67 #[.agg #[.slice A n ca, .slice B m cb, .int .i64 off]] w fun e w' => e = .returned (.bool (denB xs ys off)) ∧ Below w.heap.size w w' :=
  callsIn_wide.1 (dense_in xs ys off A B ca cb n m w hx hy hn hm hl hl2)
end Go.Proofs.Ythjkeefdeeljoaa.Shp
