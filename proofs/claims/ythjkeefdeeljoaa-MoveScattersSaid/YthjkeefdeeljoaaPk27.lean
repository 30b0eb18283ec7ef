/- Contracts and lemmas that the row of this claim stands on: Chg4, Chg5. -/
import Derived.Test.YthjkeefdeeljoaaPk26
import Derived.Test.YthjkeefdeeljoaaPk3
/- The walk of the closure that lays one axis more into a view. -/
namespace Go.Proofs.Ythjkeefdeeljoaa.Shp
open Go.RowKit
set_option linter.unusedVariables false
set_option linter.unusedSimpArgs false

theorem reads_only {w w' : World} {T : Nat} {k : IntKind} {A : Option Addr} {xs : List Int} (h : ReadsI w k A xs) (ho : Only T w w') (hA : ∀ b, A = some ⟨b, 0, none⟩ → b ≠ T) (h0 : ∃ b, A = some ⟨b, 0, none⟩) : ReadsI w' k A xs := fun i hi => by
  obtain ⟨b, off, e, hc⟩ := h i hi
  obtain ⟨b', e'⟩ := h0
  rw [e] at e'
  injection e' with e'
  injection e' with e1 e2
  subst e1; subst e2
  refine ⟨b, 0, e, ?_⟩
  have hlt : b < w.heap.size := by
    cases hb : w.heap[b]? with
    | none => simp [World.cell?, hb] at hc
    | some ob => exact (Array.getElem?_eq_some_iff.1 hb).1
  rw [World.cell?_of_block (a := ⟨b, 0 + i, none⟩) (ho.other b hlt (hA b e))]
  exact hc
theorem reads_set {w : World} {k : IntKind} {A : Option Addr} {xs : List Int} (h : ReadsI w k A xs) {X o : Nat} {t : TypeId} {cs : Array Value} (u : Value) (hA : ∃ b, A = some ⟨b, 0, none⟩ ∧ b ≠ X) : ReadsI (w.setCell ⟨X, o, none⟩ u) k A xs := fun i hi => by
  obtain ⟨b, off, e, hc⟩ := h i hi
  obtain ⟨b', e', hne⟩ := hA
  rw [e] at e'
  injection e' with e'
  injection e' with e1 e2
  subst e1; subst e2
  refine ⟨b, 0, e, ?_⟩
  exact (World.cell?_setCell_other _ _ _ _ (fun e' => hne (by injection e' with e1; first | exact e1 | exact e1.symm))).trans hc
structure AddI (base X Di Dn Ds n m i : Nat) (xs ys : List Int) (off v s : Int) (gA c gB e : Nat) (W0 : World) (L : Nat → Bool) (v5 v6 v7 v8 v9 v10 v11 v12 v13 v14 v15 v16 v17 v18 v19 v20 v21 v22 v23 v24 v25 v26 : Value) (H1 H2 : Nat) (A1 A2 : Option Addr) (c1 c2 : Nat) (W : World) : Prop where
  below : Below base W0 W
  bi : Blk W Di 3 #[.int .i64 (i : Nat)]
  bn : Blk W Dn 3 #[.int .i64 v]
  bs : Blk W Ds 3 #[.int .i64 s]
  bx : Blk W X 34 #[if L 20 = true then .slice A1 (n + 1) c1 else .slice (some ⟨gA, 0, none⟩) n c, if L 23 = true then .slice A2 (m + 1) c2 else .slice (some ⟨gB, 0, none⟩) m e, .int .i64 off]
  k0 : L 0 = true → v5 = .pointer (some ⟨X, 0, none⟩)
  k1 : L 1 = true → v6 = .pointer (some ⟨X, 0, none⟩)
  k2 : L 2 = true → v7 = .pointer (some ⟨X, 0, none⟩)
  k3 : L 3 = true → v8 = .pointer (some ⟨X, 0, none⟩)
  k4 : L 4 = true → v9 = .pointer (some ⟨X, 0, none⟩)
  k5 : L 5 = true → v10 = .slice (some ⟨gA, 0, none⟩) n c
  k6 : L 6 = true → v11 = .int .i64 (i : Nat)
  k7 : L 7 = true → v12 = .int .i64 v
  k10 : L 10 = true → v15 = .pointer (some ⟨X, 0, none⟩)
  k11 : L 11 = true → v16 = .pointer (some ⟨X, 0, none⟩)
  k12 : L 12 = true → v17 = .pointer (some ⟨X, 1, none⟩)
  k13 : L 13 = true → v18 = .slice (some ⟨gB, 0, none⟩) m e
  k14 : L 14 = true → v19 = .int .i64 (i : Nat)
  k15 : L 15 = true → v20 = .int .i64 s
  k18 : L 18 = true → v23 = .pointer (some ⟨X, 0, none⟩)
  k19 : L 19 = true → v24 = .pointer (some ⟨X, 0, none⟩)
  k21 : L 21 = true → v25 = .pointer (some ⟨X, 0, none⟩)
  k22 : L 22 = true → v26 = .pointer (some ⟨X, 1, none⟩)
  k8 : L 8 = true → v13 = .slice (some ⟨H1, 0, none⟩) 1 1 ∧ Blk W H1 3 #[.int .i64 v] ∧ W0.heap.size ≤ H1
  k16 : L 16 = true → v21 = .slice (some ⟨H2, 0, none⟩) 1 1 ∧ Blk W H2 3 #[.int .i64 s] ∧ W0.heap.size ≤ H2
  k9 : L 9 = true → v14 = .slice A1 (n + 1) c1 ∧ ReadsI W .i64 A1 (xs.take i ++ v :: xs.drop i) ∧ ∃ b, A1 = some ⟨b, 0, none⟩ ∧ (b = gA ∨ W0.heap.size ≤ b)
  k17 : L 17 = true → v22 = .slice A2 (m + 1) c2 ∧ ReadsI W .i64 A2 (ys.take i ++ s :: ys.drop i) ∧ ∃ b, A2 = some ⟨b, 0, none⟩ ∧ (b = gB ∨ W0.heap.size ≤ b)
  o9 : L 9 = false → OwnI W base 3 .i64 (.slice (some ⟨gA, 0, none⟩) n c) xs
  o17 : L 17 = false → OwnI W base 3 .i64 (.slice (some ⟨gB, 0, none⟩) m e) ys
  d20 : L 20 = true → L 5 = true ∧ L 9 = true
  d23 : L 23 = true → L 13 = true ∧ L 17 = true
def AddR (base X Di Dn Ds n m i : Nat) (xs ys : List Int) (off v s : Int) (gA c gB e : Nat) (W0 : World) (L : Nat → Bool) (a : Act) (W : World) : Prop :=
  ∃ (v5 v6 v7 v8 v9 v10 v11 v12 v13 v14 v15 v16 v17 v18 v19 v20 v21 v22 v23 v24 v25 v26 : Value) (H1 H2 : Nat) (A1 A2 : Option Addr) (c1 c2 : Nat), a = { tmps := #[.pointer (some ⟨X, 0, none⟩), .pointer (some ⟨Di, 0, none⟩), .pointer (some ⟨Dn, 0, none⟩), .pointer (some ⟨Ds, 0, none⟩), undef, v5, v6, v7, v8, v9, v10, v11, v12, v13, v14, v15, v16, v17, v18, v19, v20, v21, v22, v23, v24, v25, v26], defers := [] } ∧ AddI base X Di Dn Ds n m i xs ys off v s gA c gB e W0 L v5 v6 v7 v8 v9 v10 v11 v12 v13 v14 v15 v16 v17 v18 v19 v20 v21 v22 v23 v24 v25 v26 H1 H2 A1 A2 c1 c2 W
set_option maxRecDepth 100000 in
set_option maxHeartbeats 8000000 in
theorem add1_calls (base X Di Dn Ds n m i : Nat) (xs ys : List Int) (off v s : Int) (W0 : World) (h : VW base X n m xs ys off W0) (hi : Blk W0 Di 3 #[.int .i64 (i : Nat)]) (hn : Blk W0 Dn 3 #[.int .i64 v]) (hs : Blk W0 Ds 3 #[.int .i64 s]) (hin : i ≤ n) (him : i ≤ m) (hl : n ≤ 1000000) (hl2 : m ≤ 1000000) (hDi : Di < base) (hDn : Dn < base) (hDs : Ds < base) :
    Calls Try.prog 114 #[.pointer (some ⟨X, 0, none⟩), .pointer (some ⟨Di, 0, none⟩), .pointer (some ⟨Dn, 0, none⟩), .pointer (some ⟨Ds, 0, none⟩)] W0 fun e W' => e = .returned (.tuple #[]) ∧ VR base X (n + 1) (m + 1) (xs.take i ++ v :: xs.drop i) (ys.take i ++ s :: ys.drop i) off W' ∧ Below base W0 W' := by
  obtain ⟨gA, c, gB, e, hX, hA, hB, hne, hbX, hnn, hmm⟩ := h
  have hXA := own_ne hA hX
  have hXB := own_ne hB hX
  have hgA := own_ge hA
  have hgB := own_ge hB
  have hlX := hX.lt
  have hbW : base ≤ W0.heap.size := by omega
  have HX := Lib.hid hX
  have HA := Lib.hid hA
  have HB := Lib.hid hB
  have HI := Lib.hid hi
  have HN := Lib.hid hn
  have HS := Lib.hid hs
  clear hX hA hB hi hn hs
  go_enter Try.func114, Try.ntmps114
  go_wp2_with fail
  refine wp_region_inv (fun L a W => AddR base X Di Dn Ds n m i xs ys off v s gA c gB e W0 L a W) rfl (by kernel_rfl) ?_ ?_ ?_
  · intro L a W j o hio hLi hdep hR K hK
    match j, hio with
    | 0, hio =>
      obtain rfl : _ = o := by simpa using hio
      obtain ⟨v5, v6, v7, v8, v9, v10, v11, v12, v13, v14, v15, v16, v17, v18, v19, v20, v21, v22, v23, v24, v25, v26, H1, H2, A1, A2, c1, c2, rfl, hR⟩ := hR
      rw [if_pos (show Region.wanted _ _ = true from rfl)]
      go_simp
      refine hK _ _ ?_
      exact ⟨_, _, _, _, _, _, _, _, _, _, _, _, _, _, _, _, _, _, _, _, _, _, H1, H2, A1, A2, c1, c2, rfl, { hR with k0 := fun _ => rfl }⟩
    | 1, hio =>
      obtain rfl : _ = o := by simpa using hio
      obtain ⟨v5, v6, v7, v8, v9, v10, v11, v12, v13, v14, v15, v16, v17, v18, v19, v20, v21, v22, v23, v24, v25, v26, H1, H2, A1, A2, c1, c2, rfl, hR⟩ := hR
      rw [if_pos (show Region.wanted _ _ = true from rfl)]
      go_simp
      refine hK _ _ ?_
      exact ⟨_, _, _, _, _, _, _, _, _, _, _, _, _, _, _, _, _, _, _, _, _, _, H1, H2, A1, A2, c1, c2, rfl, { hR with k1 := fun _ => rfl }⟩
    | 2, hio =>
      obtain rfl : _ = o := by simpa using hio
      obtain ⟨v5, v6, v7, v8, v9, v10, v11, v12, v13, v14, v15, v16, v17, v18, v19, v20, v21, v22, v23, v24, v25, v26, H1, H2, A1, A2, c1, c2, rfl, hR⟩ := hR
      rw [if_pos (show Region.wanted _ _ = true from rfl)]
      go_simp
      refine hK _ _ ?_
      exact ⟨_, _, _, _, _, _, _, _, _, _, _, _, _, _, _, _, _, _, _, _, _, _, H1, H2, A1, A2, c1, c2, rfl, { hR with k2 := fun _ => rfl }⟩
    | 3, hio =>
      obtain rfl : _ = o := by simpa using hio
      obtain ⟨v5, v6, v7, v8, v9, v10, v11, v12, v13, v14, v15, v16, v17, v18, v19, v20, v21, v22, v23, v24, v25, v26, H1, H2, A1, A2, c1, c2, rfl, hR⟩ := hR
      rw [if_pos (show Region.wanted _ _ = true from rfl)]
      have e0 := hR.k2 (hdep { on := 2, ground := Ground.data } (by simp) rfl)
      subst e0
      go_simp
      refine hK _ _ ?_
      exact ⟨_, _, _, _, _, _, _, _, _, _, _, _, _, _, _, _, _, _, _, _, _, _, H1, H2, A1, A2, c1, c2, rfl, { hR with k3 := fun _ => rfl }⟩
    | 4, hio =>
      obtain rfl : _ = o := by simpa using hio
      obtain ⟨v5, v6, v7, v8, v9, v10, v11, v12, v13, v14, v15, v16, v17, v18, v19, v20, v21, v22, v23, v24, v25, v26, H1, H2, A1, A2, c1, c2, rfl, hR⟩ := hR
      rw [if_pos (show Region.wanted _ _ = true from rfl)]
      have e0 := hR.k3 (hdep { on := 3, ground := Ground.data } (by simp) rfl)
      subst e0
      go_simp
      refine hK _ _ ?_
      exact ⟨_, _, _, _, _, _, _, _, _, _, _, _, _, _, _, _, _, _, _, _, _, _, H1, H2, A1, A2, c1, c2, rfl, { hR with k4 := fun _ => rfl }⟩
    | 5, hio =>
      obtain rfl : _ = o := by simpa using hio
      obtain ⟨v5, v6, v7, v8, v9, v10, v11, v12, v13, v14, v15, v16, v17, v18, v19, v20, v21, v22, v23, v24, v25, v26, H1, H2, A1, A2, c1, c2, rfl, hR⟩ := hR
      rw [if_pos (show Region.wanted _ _ = true from rfl)]
      have e0 := hR.k4 (hdep { on := 4, ground := Ground.data } (by simp) rfl)
      subst e0
      have ht : L 20 = false := by
        cases h : L 20 with
        | false => rfl
        | true => have := (hR.d20 h).1; rw [hLi] at this; cases this
      have q : W.cell? ⟨X, 0, none⟩ = some (.slice (some ⟨gA, 0, none⟩) n c) := by have q := hR.bx.cell 0; rw [ht] at q; exact q
      go_simp
      refine hK _ _ ?_
      exact ⟨_, _, _, _, _, _, _, _, _, _, _, _, _, _, _, _, _, _, _, _, _, _, H1, H2, A1, A2, c1, c2, rfl, { hR with k5 := fun _ => rfl, d20 := fun h => ⟨rfl, (hR.d20 h).2⟩ }⟩
    | 6, hio =>
      obtain rfl : _ = o := by simpa using hio
      obtain ⟨v5, v6, v7, v8, v9, v10, v11, v12, v13, v14, v15, v16, v17, v18, v19, v20, v21, v22, v23, v24, v25, v26, H1, H2, A1, A2, c1, c2, rfl, hR⟩ := hR
      rw [if_pos (show Region.wanted _ _ = true from rfl)]
      have q : W.cell? ⟨Di, 0, none⟩ = some (.int .i64 (i : Nat)) := hR.bi.cell 0
      go_simp
      refine hK _ _ ?_
      exact ⟨_, _, _, _, _, _, _, _, _, _, _, _, _, _, _, _, _, _, _, _, _, _, H1, H2, A1, A2, c1, c2, rfl, { hR with k6 := fun _ => rfl }⟩
    | 7, hio =>
      obtain rfl : _ = o := by simpa using hio
      obtain ⟨v5, v6, v7, v8, v9, v10, v11, v12, v13, v14, v15, v16, v17, v18, v19, v20, v21, v22, v23, v24, v25, v26, H1, H2, A1, A2, c1, c2, rfl, hR⟩ := hR
      rw [if_pos (show Region.wanted _ _ = true from rfl)]
      have q : W.cell? ⟨Dn, 0, none⟩ = some (.int .i64 v) := hR.bn.cell 0
      go_simp
      refine hK _ _ ?_
      exact ⟨_, _, _, _, _, _, _, _, _, _, _, _, _, _, _, _, _, _, _, _, _, _, H1, H2, A1, A2, c1, c2, rfl, { hR with k7 := fun _ => rfl }⟩
    | 8, hio =>
      obtain rfl : _ = o := by simpa using hio
      obtain ⟨v5, v6, v7, v8, v9, v10, v11, v12, v13, v14, v15, v16, v17, v18, v19, v20, v21, v22, v23, v24, v25, v26, H1, H2, A1, A2, c1, c2, rfl, hR⟩ := hR
      rw [if_pos (show Region.wanted _ _ = true from rfl)]
      have e0 := hR.k7 (hdep { on := 7, ground := Ground.data } (by simp) rfl)
      subst e0
      have hBA := bl_alloc (Below.refl W.heap.size W) (.cells #[.int .i64 v] 3)
      have hbl := hR.below.size
      have hBB : Below base W (W.alloc (.cells #[.int .i64 v] 3)) := hBA.mono (by omega)
      go_simp
      refine hK _ _ ?_
      exact ⟨_, _, _, _, _, _, _, _, _, _, _, _, _, _, _, _, _, _, _, _, _, _, W.heap.size, H2, A1, A2, c1, c2, rfl, { hR with below := hR.below.trans hBB, bi := hR.bi.below' hBA, bn := hR.bn.below' hBA, bs := hR.bs.below' hBA, bx := hR.bx.below' hBA, k8 := fun _ => ⟨rfl, Blk.new _ _ _, hbl⟩, k16 := fun h => ⟨(hR.k16 h).1, (hR.k16 h).2.1.below' hBA, (hR.k16 h).2.2⟩, k9 := fun h => ⟨(hR.k9 h).1, (hR.k9 h).2.1.below hBA, (hR.k9 h).2.2⟩, k17 := fun h => ⟨(hR.k17 h).1, (hR.k17 h).2.1.below hBA, (hR.k17 h).2.2⟩, o9 := fun h => own_below (hR.o9 h) hBA, o17 := fun h => own_below (hR.o17 h) hBA }⟩
    | 9, hio =>
      obtain rfl : _ = o := by simpa using hio
      obtain ⟨v5, v6, v7, v8, v9, v10, v11, v12, v13, v14, v15, v16, v17, v18, v19, v20, v21, v22, v23, v24, v25, v26, H1, H2, A1, A2, c1, c2, rfl, hR⟩ := hR
      rw [if_pos (show Region.wanted _ _ = true from rfl)]
      have e0 := hR.k5 (hdep { on := 5, ground := Ground.data } (by simp) rfl)
      subst e0
      have e1 := hR.k6 (hdep { on := 6, ground := Ground.data } (by simp) rfl)
      subst e1
      obtain ⟨e8, b8, l8⟩ := hR.k8 (hdep { on := 8, ground := Ground.data } (by simp) rfl)
      subst e8
      have ht : L 20 = false := by
        cases h : L 20 with
        | false => rfl
        | true => have := (hR.d20 h).2; rw [hLi] at this; cases this
      have hbl := hR.below.size
      go_simp
      refine (insS base gA c i n xs v H1 W (hR.o9 hLi) hnn b8 (by omega) hl hin (by omega)).mono ?_
      rintro e' W' ⟨A1', c1', rfl, HRA, HBA, HOA⟩
      obtain ⟨b, eb, hb, hb2⟩ := HBA.out
      have ho := HOA.out
      refine hK _ _ ?_
      exact ⟨_, _, _, _, _, _, _, _, _, _, _, _, _, _, _, _, _, _, _, _, _, _, H1, H2, A1', A2, c1', c2, rfl, { hR with below := hR.below.trans (ho.below (by omega) (by omega)), bi := ho.blk hR.bi (by omega), bn := ho.blk hR.bn (by omega), bs := ho.blk hR.bs (by omega), bx := by have q := ho.blk hR.bx hXA; simp only [ht] at q; exact (show Blk W' X 34 #[if L 20 = true then _ else _, if L 23 = true then _ else _, _] from by simp only [ht]; exact q), k16 := fun h => ⟨(hR.k16 h).1, ho.blk (hR.k16 h).2.1 (by have := (hR.k16 h).2.2; omega), (hR.k16 h).2.2⟩, k8 := fun _ => ⟨rfl, ho.blk b8 (by omega), l8⟩, k9 := fun _ => ⟨rfl, HRA.out, b, eb, by omega⟩, k17 := fun h => ⟨(hR.k17 h).1, reads_only (hR.k17 h).2.1 ho (fun b2 e2 => by obtain ⟨b3, e3, h3⟩ := (hR.k17 h).2.2; rw [e2] at e3; injection e3 with e3; injection e3 with e3; omega) (by obtain ⟨b3, e3, h3⟩ := (hR.k17 h).2.2; exact ⟨b3, e3⟩), (hR.k17 h).2.2⟩, o9 := fun h => (by simp at h), o17 := fun h => own_only (hR.o17 h) ho (Ne.symm hne), d20 := fun h => (by have h : L 20 = true := h; rw [ht] at h; cases h) }⟩
    | 10, hio =>
      obtain rfl : _ = o := by simpa using hio
      obtain ⟨v5, v6, v7, v8, v9, v10, v11, v12, v13, v14, v15, v16, v17, v18, v19, v20, v21, v22, v23, v24, v25, v26, H1, H2, A1, A2, c1, c2, rfl, hR⟩ := hR
      rw [if_pos (show Region.wanted _ _ = true from rfl)]
      go_simp
      refine hK _ _ ?_
      exact ⟨_, _, _, _, _, _, _, _, _, _, _, _, _, _, _, _, _, _, _, _, _, _, H1, H2, A1, A2, c1, c2, rfl, { hR with k10 := fun _ => rfl }⟩
    | 11, hio =>
      obtain rfl : _ = o := by simpa using hio
      obtain ⟨v5, v6, v7, v8, v9, v10, v11, v12, v13, v14, v15, v16, v17, v18, v19, v20, v21, v22, v23, v24, v25, v26, H1, H2, A1, A2, c1, c2, rfl, hR⟩ := hR
      rw [if_pos (show Region.wanted _ _ = true from rfl)]
      have e0 := hR.k10 (hdep { on := 10, ground := Ground.data } (by simp) rfl)
      subst e0
      go_simp
      refine hK _ _ ?_
      exact ⟨_, _, _, _, _, _, _, _, _, _, _, _, _, _, _, _, _, _, _, _, _, _, H1, H2, A1, A2, c1, c2, rfl, { hR with k11 := fun _ => rfl }⟩
    | 12, hio =>
      obtain rfl : _ = o := by simpa using hio
      obtain ⟨v5, v6, v7, v8, v9, v10, v11, v12, v13, v14, v15, v16, v17, v18, v19, v20, v21, v22, v23, v24, v25, v26, H1, H2, A1, A2, c1, c2, rfl, hR⟩ := hR
      rw [if_pos (show Region.wanted _ _ = true from rfl)]
      have e0 := hR.k11 (hdep { on := 11, ground := Ground.data } (by simp) rfl)
      subst e0
      go_simp
      refine hK _ _ ?_
      exact ⟨_, _, _, _, _, _, _, _, _, _, _, _, _, _, _, _, _, _, _, _, _, _, H1, H2, A1, A2, c1, c2, rfl, { hR with k12 := fun _ => rfl }⟩
    | 13, hio =>
      obtain rfl : _ = o := by simpa using hio
      obtain ⟨v5, v6, v7, v8, v9, v10, v11, v12, v13, v14, v15, v16, v17, v18, v19, v20, v21, v22, v23, v24, v25, v26, H1, H2, A1, A2, c1, c2, rfl, hR⟩ := hR
      rw [if_pos (show Region.wanted _ _ = true from rfl)]
      have e0 := hR.k12 (hdep { on := 12, ground := Ground.data } (by simp) rfl)
      subst e0
      have ht : L 23 = false := by
        cases h : L 23 with
        | false => rfl
        | true => have := (hR.d23 h).1; rw [hLi] at this; cases this
      have q : W.cell? ⟨X, 1, none⟩ = some (.slice (some ⟨gB, 0, none⟩) m e) := by have q := hR.bx.cell 1; rw [ht] at q; exact q
      go_simp
      refine hK _ _ ?_
      exact ⟨_, _, _, _, _, _, _, _, _, _, _, _, _, _, _, _, _, _, _, _, _, _, H1, H2, A1, A2, c1, c2, rfl, { hR with k13 := fun _ => rfl, d23 := fun h => ⟨rfl, (hR.d23 h).2⟩ }⟩
    | 14, hio =>
      obtain rfl : _ = o := by simpa using hio
      obtain ⟨v5, v6, v7, v8, v9, v10, v11, v12, v13, v14, v15, v16, v17, v18, v19, v20, v21, v22, v23, v24, v25, v26, H1, H2, A1, A2, c1, c2, rfl, hR⟩ := hR
      rw [if_pos (show Region.wanted _ _ = true from rfl)]
      have q : W.cell? ⟨Di, 0, none⟩ = some (.int .i64 (i : Nat)) := hR.bi.cell 0
      go_simp
      refine hK _ _ ?_
      exact ⟨_, _, _, _, _, _, _, _, _, _, _, _, _, _, _, _, _, _, _, _, _, _, H1, H2, A1, A2, c1, c2, rfl, { hR with k14 := fun _ => rfl }⟩
    | 15, hio =>
      obtain rfl : _ = o := by simpa using hio
      obtain ⟨v5, v6, v7, v8, v9, v10, v11, v12, v13, v14, v15, v16, v17, v18, v19, v20, v21, v22, v23, v24, v25, v26, H1, H2, A1, A2, c1, c2, rfl, hR⟩ := hR
      rw [if_pos (show Region.wanted _ _ = true from rfl)]
      have q : W.cell? ⟨Ds, 0, none⟩ = some (.int .i64 s) := hR.bs.cell 0
      go_simp
      refine hK _ _ ?_
      exact ⟨_, _, _, _, _, _, _, _, _, _, _, _, _, _, _, _, _, _, _, _, _, _, H1, H2, A1, A2, c1, c2, rfl, { hR with k15 := fun _ => rfl }⟩
    | 16, hio =>
      obtain rfl : _ = o := by simpa using hio
      obtain ⟨v5, v6, v7, v8, v9, v10, v11, v12, v13, v14, v15, v16, v17, v18, v19, v20, v21, v22, v23, v24, v25, v26, H1, H2, A1, A2, c1, c2, rfl, hR⟩ := hR
      rw [if_pos (show Region.wanted _ _ = true from rfl)]
      have e0 := hR.k15 (hdep { on := 15, ground := Ground.data } (by simp) rfl)
      subst e0
      have hBA := bl_alloc (Below.refl W.heap.size W) (.cells #[.int .i64 s] 3)
      have hbl := hR.below.size
      have hBB : Below base W (W.alloc (.cells #[.int .i64 s] 3)) := hBA.mono (by omega)
      go_simp
      refine hK _ _ ?_
      exact ⟨_, _, _, _, _, _, _, _, _, _, _, _, _, _, _, _, _, _, _, _, _, _, H1, W.heap.size, A1, A2, c1, c2, rfl, { hR with below := hR.below.trans hBB, bi := hR.bi.below' hBA, bn := hR.bn.below' hBA, bs := hR.bs.below' hBA, bx := hR.bx.below' hBA, k16 := fun _ => ⟨rfl, Blk.new _ _ _, hbl⟩, k8 := fun h => ⟨(hR.k8 h).1, (hR.k8 h).2.1.below' hBA, (hR.k8 h).2.2⟩, k9 := fun h => ⟨(hR.k9 h).1, (hR.k9 h).2.1.below hBA, (hR.k9 h).2.2⟩, k17 := fun h => ⟨(hR.k17 h).1, (hR.k17 h).2.1.below hBA, (hR.k17 h).2.2⟩, o9 := fun h => own_below (hR.o9 h) hBA, o17 := fun h => own_below (hR.o17 h) hBA }⟩
    | 17, hio =>
      obtain rfl : _ = o := by simpa using hio
      obtain ⟨v5, v6, v7, v8, v9, v10, v11, v12, v13, v14, v15, v16, v17, v18, v19, v20, v21, v22, v23, v24, v25, v26, H1, H2, A1, A2, c1, c2, rfl, hR⟩ := hR
      rw [if_pos (show Region.wanted _ _ = true from rfl)]
      have e0 := hR.k13 (hdep { on := 13, ground := Ground.data } (by simp) rfl)
      subst e0
      have e1 := hR.k14 (hdep { on := 14, ground := Ground.data } (by simp) rfl)
      subst e1
      obtain ⟨e8, b8, l8⟩ := hR.k16 (hdep { on := 16, ground := Ground.data } (by simp) rfl)
      subst e8
      have ht : L 23 = false := by
        cases h : L 23 with
        | false => rfl
        | true => have := (hR.d23 h).2; rw [hLi] at this; cases this
      have hbl := hR.below.size
      go_simp
      refine (insI base gB e i m ys s H2 W (hR.o17 hLi) hmm b8 (by omega) hl2 him (by omega)).mono ?_
      rintro e' W' ⟨A1', c1', rfl, HRA, HBA, HOA⟩
      obtain ⟨b, eb, hb, hb2⟩ := HBA.out
      have ho := HOA.out
      refine hK _ _ ?_
      exact ⟨_, _, _, _, _, _, _, _, _, _, _, _, _, _, _, _, _, _, _, _, _, _, H1, H2, A1, A1', c1, c1', rfl, { hR with below := hR.below.trans (ho.below (by omega) (by omega)), bi := ho.blk hR.bi (by omega), bn := ho.blk hR.bn (by omega), bs := ho.blk hR.bs (by omega), bx := by have q := ho.blk hR.bx hXB; simp only [ht] at q; exact (show Blk W' X 34 #[if L 20 = true then _ else _, if L 23 = true then _ else _, _] from by simp only [ht]; exact q), k8 := fun h => ⟨(hR.k8 h).1, ho.blk (hR.k8 h).2.1 (by have := (hR.k8 h).2.2; omega), (hR.k8 h).2.2⟩, k16 := fun _ => ⟨rfl, ho.blk b8 (by omega), l8⟩, k17 := fun _ => ⟨rfl, HRA.out, b, eb, by omega⟩, k9 := fun h => ⟨(hR.k9 h).1, reads_only (hR.k9 h).2.1 ho (fun b2 e2 => by obtain ⟨b3, e3, h3⟩ := (hR.k9 h).2.2; rw [e2] at e3; injection e3 with e3; injection e3 with e3; omega) (by obtain ⟨b3, e3, h3⟩ := (hR.k9 h).2.2; exact ⟨b3, e3⟩), (hR.k9 h).2.2⟩, o17 := fun h => (by simp at h), o9 := fun h => own_only (hR.o9 h) ho hne, d23 := fun h => (by have h : L 23 = true := h; rw [ht] at h; cases h) }⟩
    | 18, hio =>
      obtain rfl : _ = o := by simpa using hio
      obtain ⟨v5, v6, v7, v8, v9, v10, v11, v12, v13, v14, v15, v16, v17, v18, v19, v20, v21, v22, v23, v24, v25, v26, H1, H2, A1, A2, c1, c2, rfl, hR⟩ := hR
      rw [if_pos (show Region.wanted _ _ = true from rfl)]
      have e0 := hR.k0 (hdep { on := 0, ground := Ground.data } (by simp) rfl)
      subst e0
      go_simp
      refine hK _ _ ?_
      exact ⟨_, _, _, _, _, _, _, _, _, _, _, _, _, _, _, _, _, _, _, _, _, _, H1, H2, A1, A2, c1, c2, rfl, { hR with k18 := fun _ => rfl }⟩
    | 19, hio =>
      obtain rfl : _ = o := by simpa using hio
      obtain ⟨v5, v6, v7, v8, v9, v10, v11, v12, v13, v14, v15, v16, v17, v18, v19, v20, v21, v22, v23, v24, v25, v26, H1, H2, A1, A2, c1, c2, rfl, hR⟩ := hR
      rw [if_pos (show Region.wanted _ _ = true from rfl)]
      have e0 := hR.k18 (hdep { on := 18, ground := Ground.data } (by simp) rfl)
      subst e0
      go_simp
      refine hK _ _ ?_
      exact ⟨_, _, _, _, _, _, _, _, _, _, _, _, _, _, _, _, _, _, _, _, _, _, H1, H2, A1, A2, c1, c2, rfl, { hR with k19 := fun _ => rfl }⟩
    | 20, hio =>
      obtain rfl : _ = o := by simpa using hio
      obtain ⟨v5, v6, v7, v8, v9, v10, v11, v12, v13, v14, v15, v16, v17, v18, v19, v20, v21, v22, v23, v24, v25, v26, H1, H2, A1, A2, c1, c2, rfl, hR⟩ := hR
      rw [if_pos (show Region.wanted _ _ = true from rfl)]
      have e0 := hR.k19 (hdep { on := 19, ground := Ground.data } (by simp) rfl)
      subst e0
      have g9 := hdep { on := 9, ground := Ground.data } (by simp) rfl
      have g5 := hdep { on := 5, ground := Ground.phase } (by simp) rfl
      obtain ⟨e1, r1, _⟩ := hR.k9 g9
      subst e1
      have q := hR.bx.cell 0
      have qf := hR.bx.frozen 0
      rw [hLi] at q
      simp only [List.getElem?_toArray, List.getElem?_cons_zero, List.getElem?_cons_succ, Bool.false_eq_true, if_false] at q
      go_simp
      refine hK _ _ ?_
      exact ⟨_, _, _, _, _, _, _, _, _, _, _, _, _, _, _, _, _, _, _, _, _, _, H1, H2, A1, A2, c1, c2, rfl, { hR with below := hR.below.setCell (p := ⟨X, 0, none⟩) hbX _, bi := hR.bi.far (show Di ≠ X by omega) _, bn := hR.bn.far (show Dn ≠ X by omega) _, bs := hR.bs.far (show Ds ≠ X by omega) _, bx := by have q2 := hR.bx.set 0 (.slice A1 (n + 1) c1); rw [hLi] at q2; exact q2, k8 := fun h => ⟨(hR.k8 h).1, (hR.k8 h).2.1.far (by have := (hR.k8 h).2.2; show _ ≠ X; omega) _, (hR.k8 h).2.2⟩, k16 := fun h => ⟨(hR.k16 h).1, (hR.k16 h).2.1.far (by have := (hR.k16 h).2.2; show _ ≠ X; omega) _, (hR.k16 h).2.2⟩, k9 := fun h => ⟨(hR.k9 h).1, reads_set (t := 0) (cs := #[]) (hR.k9 h).2.1 _ (by obtain ⟨b3, e3, h3⟩ := (hR.k9 h).2.2; exact ⟨b3, e3, by omega⟩), (hR.k9 h).2.2⟩, k17 := fun h => ⟨(hR.k17 h).1, reads_set (t := 0) (cs := #[]) (hR.k17 h).2.1 _ (by obtain ⟨b3, e3, h3⟩ := (hR.k17 h).2.2; exact ⟨b3, e3, by omega⟩), (hR.k17 h).2.2⟩, o9 := fun h => own_set (hR.o9 h) _ _ hXA, o17 := fun h => own_set (hR.o17 h) _ _ hXB, d20 := fun _ => ⟨g5, g9⟩ }⟩
    | 21, hio =>
      obtain rfl : _ = o := by simpa using hio
      obtain ⟨v5, v6, v7, v8, v9, v10, v11, v12, v13, v14, v15, v16, v17, v18, v19, v20, v21, v22, v23, v24, v25, v26, H1, H2, A1, A2, c1, c2, rfl, hR⟩ := hR
      rw [if_pos (show Region.wanted _ _ = true from rfl)]
      have e0 := hR.k1 (hdep { on := 1, ground := Ground.data } (by simp) rfl)
      subst e0
      go_simp
      refine hK _ _ ?_
      exact ⟨_, _, _, _, _, _, _, _, _, _, _, _, _, _, _, _, _, _, _, _, _, _, H1, H2, A1, A2, c1, c2, rfl, { hR with k21 := fun _ => rfl }⟩
    | 22, hio =>
      obtain rfl : _ = o := by simpa using hio
      obtain ⟨v5, v6, v7, v8, v9, v10, v11, v12, v13, v14, v15, v16, v17, v18, v19, v20, v21, v22, v23, v24, v25, v26, H1, H2, A1, A2, c1, c2, rfl, hR⟩ := hR
      rw [if_pos (show Region.wanted _ _ = true from rfl)]
      have e0 := hR.k21 (hdep { on := 21, ground := Ground.data } (by simp) rfl)
      subst e0
      go_simp
      refine hK _ _ ?_
      exact ⟨_, _, _, _, _, _, _, _, _, _, _, _, _, _, _, _, _, _, _, _, _, _, H1, H2, A1, A2, c1, c2, rfl, { hR with k22 := fun _ => rfl }⟩
    | 23, hio =>
      obtain rfl : _ = o := by simpa using hio
      obtain ⟨v5, v6, v7, v8, v9, v10, v11, v12, v13, v14, v15, v16, v17, v18, v19, v20, v21, v22, v23, v24, v25, v26, H1, H2, A1, A2, c1, c2, rfl, hR⟩ := hR
      rw [if_pos (show Region.wanted _ _ = true from rfl)]
      have e0 := hR.k22 (hdep { on := 22, ground := Ground.data } (by simp) rfl)
      subst e0
      have g9 := hdep { on := 17, ground := Ground.data } (by simp) rfl
      have g5 := hdep { on := 13, ground := Ground.phase } (by simp) rfl
      obtain ⟨e1, r1, _⟩ := hR.k17 g9
      subst e1
      have q := hR.bx.cell 1
      have qf := hR.bx.frozen 1
      rw [hLi] at q
      simp only [List.getElem?_toArray, List.getElem?_cons_zero, List.getElem?_cons_succ, Bool.false_eq_true, if_false] at q
      go_simp
      refine hK _ _ ?_
      exact ⟨_, _, _, _, _, _, _, _, _, _, _, _, _, _, _, _, _, _, _, _, _, _, H1, H2, A1, A2, c1, c2, rfl, { hR with below := hR.below.setCell (p := ⟨X, 1, none⟩) hbX _, bi := hR.bi.far (show Di ≠ X by omega) _, bn := hR.bn.far (show Dn ≠ X by omega) _, bs := hR.bs.far (show Ds ≠ X by omega) _, bx := by have q2 := hR.bx.set 1 (.slice A2 (m + 1) c2); rw [hLi] at q2; exact q2, k8 := fun h => ⟨(hR.k8 h).1, (hR.k8 h).2.1.far (by have := (hR.k8 h).2.2; show _ ≠ X; omega) _, (hR.k8 h).2.2⟩, k16 := fun h => ⟨(hR.k16 h).1, (hR.k16 h).2.1.far (by have := (hR.k16 h).2.2; show _ ≠ X; omega) _, (hR.k16 h).2.2⟩, k9 := fun h => ⟨(hR.k9 h).1, reads_set (t := 0) (cs := #[]) (hR.k9 h).2.1 _ (by obtain ⟨b3, e3, h3⟩ := (hR.k9 h).2.2; exact ⟨b3, e3, by omega⟩), (hR.k9 h).2.2⟩, k17 := fun h => ⟨(hR.k17 h).1, reads_set (t := 0) (cs := #[]) (hR.k17 h).2.1 _ (by obtain ⟨b3, e3, h3⟩ := (hR.k17 h).2.2; exact ⟨b3, e3, by omega⟩), (hR.k17 h).2.2⟩, o9 := fun h => own_set (hR.o9 h) _ _ hXA, o17 := fun h => own_set (hR.o17 h) _ _ hXB, d23 := fun _ => ⟨g5, g9⟩ }⟩
    | k + 24, hio => simp at hio
  · intro L a W hall hR
    obtain ⟨v5, v6, v7, v8, v9, v10, v11, v12, v13, v14, v15, v16, v17, v18, v19, v20, v21, v22, v23, v24, v25, v26, H1, H2, A1, A2, c1, c2, rfl, hR⟩ := hR
    obtain ⟨_, r9, b9, f9, s9⟩ := hR.k9 (hall 9 (by simp))
    obtain ⟨_, r17, b17, f17, s17⟩ := hR.k17 (hall 17 (by simp))
    have hb9 : Hid (∀ b o, A1 = some ⟨b, o, none⟩ → base ≤ b) := Lib.hid (fun b o e1 => by rw [f9] at e1; injection e1 with e1; injection e1 with e1; omega)
    have hb17 : Hid (∀ b o, A2 = some ⟨b, o, none⟩ → base ≤ b) := Lib.hid (fun b o e1 => by rw [f17] at e1; injection e1 with e1; injection e1 with e1; omega)
    clear f9 s9 f17 s17
    have q := hR.bx
    rw [hall 20 (by simp), hall 23 (by simp)] at q
    have hbel := hR.below
    clear hall hR
    go_end0
    exact ⟨rfl, ⟨A1, c1, A2, c2, q, r9, r17, by simp; omega, by simp; omega, hbX, hb9.out, hb17.out⟩, hbel⟩
  · exact ⟨undef, undef, undef, undef, undef, undef, undef, undef, undef, undef, undef, undef, undef, undef, undef, undef, undef, undef, undef, undef, undef, undef, 0, 0, none, none, 0, 0, rfl, { below := below_drew base W0, bi := HI.out.drew, bn := HN.out.drew, bs := HS.out.drew, bx := HX.out.drew, k0 := fun h => (by cases h), k1 := fun h => (by cases h), k2 := fun h => (by cases h), k3 := fun h => (by cases h), k4 := fun h => (by cases h), k5 := fun h => (by cases h), k6 := fun h => (by cases h), k7 := fun h => (by cases h), k10 := fun h => (by cases h), k11 := fun h => (by cases h), k12 := fun h => (by cases h), k13 := fun h => (by cases h), k14 := fun h => (by cases h), k15 := fun h => (by cases h), k18 := fun h => (by cases h), k19 := fun h => (by cases h), k21 := fun h => (by cases h), k22 := fun h => (by cases h), k8 := fun h => (by cases h), k16 := fun h => (by cases h), k9 := fun h => (by cases h), k17 := fun h => (by cases h), o9 := fun _ => HA.out, o17 := fun _ => HB.out, d20 := fun h => (by cases h), d23 := fun h => (by cases h) }⟩
end Go.Proofs.Ythjkeefdeeljoaa.Shp
/- The walk of the closure that takes an axis out of a view. -/
namespace Go.Proofs.Ythjkeefdeeljoaa.Shp
open Go.RowKit
set_option linter.unusedVariables false
set_option linter.unusedSimpArgs false

theorem delS (base g cap k n : Nat) (L : List Int) (w : World) (h : OwnI w base 3 .i64 (.slice (some ⟨g, 0, none⟩) n cap) L) (hn : L.length = n) (hl : n ≤ 1000000) (hk : k < n) :
    Calls Try.prog 75 #[.slice (some ⟨g, 0, none⟩) n cap, .int .i64 (k : Nat), .int .i64 ((k : Int) + 1)] w fun e w' => ∃ A' c', e = .returned (.slice A' (n - 1) c') ∧ Hid (ReadsI w' .i64 A' (L.take k ++ L.drop (k + 1))) ∧ Hid (∃ b, A' = some ⟨b, 0, none⟩ ∧ (b = g ∨ w.heap.size ≤ b) ∧ b < w'.heap.size) ∧ Hid (Only g w w') := by
  subst hn
  refine (EdS.delete_calls base g cap k L w h hk hl).mono ?_
  rintro e w' ⟨rfl, h1, h3⟩
  exact ⟨_, _, rfl, Lib.hid h1, Lib.hid ⟨g, rfl, .inl rfl, Nat.lt_of_lt_of_le (own_ge h).2 h3.size⟩, Lib.hid h3⟩
theorem delI (base g cap k n : Nat) (L : List Int) (w : World) (h : OwnI w base 3 .i64 (.slice (some ⟨g, 0, none⟩) n cap) L) (hn : L.length = n) (hl : n ≤ 1000000) (hk : k < n) :
    Calls Try.prog 76 #[.slice (some ⟨g, 0, none⟩) n cap, .int .i64 (k : Nat), .int .i64 ((k : Int) + 1)] w fun e w' => ∃ A' c', e = .returned (.slice A' (n - 1) c') ∧ Hid (ReadsI w' .i64 A' (L.take k ++ L.drop (k + 1))) ∧ Hid (∃ b, A' = some ⟨b, 0, none⟩ ∧ (b = g ∨ w.heap.size ≤ b) ∧ b < w'.heap.size) ∧ Hid (Only g w w') := by
  subst hn
  refine (EdI.delete_calls base g cap k L w h hk hl).mono ?_
  rintro e w' ⟨rfl, h1, h3⟩
  exact ⟨_, _, rfl, Lib.hid h1, Lib.hid ⟨g, rfl, .inl rfl, Nat.lt_of_lt_of_le (own_ge h).2 h3.size⟩, Lib.hid h3⟩
structure DelVI (base X Di n m i : Nat) (xs ys : List Int) (off : Int) (gA c gB e : Nat) (W0 : World) (L : Nat → Bool) (v3 v4 v5 v6 v7 v8 v9 v10 v11 v12 v13 v14 v15 v16 v17 v18 v19 v20 v21 v22 v23 v24 : Value) (A1 A2 : Option Addr) (c1 c2 : Nat) (W : World) : Prop where
  below : Below base W0 W
  bi : Blk W Di 3 #[.int .i64 (i : Nat)]
  bx : Blk W X 34 #[if L 20 = true then .slice A1 (n - 1) c1 else .slice (some ⟨gA, 0, none⟩) n c, if L 23 = true then .slice A2 (m - 1) c2 else .slice (some ⟨gB, 0, none⟩) m e, .int .i64 off]
  k0 : L 0 = true → v3 = .pointer (some ⟨X, 0, none⟩)
  k1 : L 1 = true → v4 = .pointer (some ⟨X, 0, none⟩)
  k2 : L 2 = true → v5 = .pointer (some ⟨X, 0, none⟩)
  k3 : L 3 = true → v6 = .pointer (some ⟨X, 0, none⟩)
  k4 : L 4 = true → v7 = .pointer (some ⟨X, 0, none⟩)
  k5 : L 5 = true → v8 = .slice (some ⟨gA, 0, none⟩) n c
  k6 : L 6 = true → v9 = .int .i64 (i : Nat)
  k7 : L 7 = true → v10 = .int .i64 (i : Nat)
  k8 : L 8 = true → v11 = .int .i64 ((i : Int) + 1)
  k10 : L 10 = true → v13 = .pointer (some ⟨X, 0, none⟩)
  k11 : L 11 = true → v14 = .pointer (some ⟨X, 0, none⟩)
  k12 : L 12 = true → v15 = .pointer (some ⟨X, 1, none⟩)
  k13 : L 13 = true → v16 = .slice (some ⟨gB, 0, none⟩) m e
  k14 : L 14 = true → v17 = .int .i64 (i : Nat)
  k15 : L 15 = true → v18 = .int .i64 (i : Nat)
  k16 : L 16 = true → v19 = .int .i64 ((i : Int) + 1)
  k18 : L 18 = true → v21 = .pointer (some ⟨X, 0, none⟩)
  k19 : L 19 = true → v22 = .pointer (some ⟨X, 0, none⟩)
  k21 : L 21 = true → v23 = .pointer (some ⟨X, 0, none⟩)
  k22 : L 22 = true → v24 = .pointer (some ⟨X, 1, none⟩)
  k9 : L 9 = true → v12 = .slice A1 (n - 1) c1 ∧ ReadsI W .i64 A1 (xs.take i ++ xs.drop (i + 1)) ∧ ∃ b, A1 = some ⟨b, 0, none⟩ ∧ (b = gA ∨ W0.heap.size ≤ b)
  k17 : L 17 = true → v20 = .slice A2 (m - 1) c2 ∧ ReadsI W .i64 A2 (ys.take i ++ ys.drop (i + 1)) ∧ ∃ b, A2 = some ⟨b, 0, none⟩ ∧ (b = gB ∨ W0.heap.size ≤ b)
  o9 : L 9 = false → OwnI W base 3 .i64 (.slice (some ⟨gA, 0, none⟩) n c) xs
  o17 : L 17 = false → OwnI W base 3 .i64 (.slice (some ⟨gB, 0, none⟩) m e) ys
  d20 : L 20 = true → L 5 = true ∧ L 9 = true
  d23 : L 23 = true → L 13 = true ∧ L 17 = true
def DelVR (base X Di n m i : Nat) (xs ys : List Int) (off : Int) (gA c gB e : Nat) (W0 : World) (L : Nat → Bool) (a : Act) (W : World) : Prop :=
  ∃ (v3 v4 v5 v6 v7 v8 v9 v10 v11 v12 v13 v14 v15 v16 v17 v18 v19 v20 v21 v22 v23 v24 : Value) (A1 A2 : Option Addr) (c1 c2 : Nat), a = { tmps := #[.pointer (some ⟨X, 0, none⟩), .pointer (some ⟨Di, 0, none⟩), undef, v3, v4, v5, v6, v7, v8, v9, v10, v11, v12, v13, v14, v15, v16, v17, v18, v19, v20, v21, v22, v23, v24], defers := [] } ∧ DelVI base X Di n m i xs ys off gA c gB e W0 L v3 v4 v5 v6 v7 v8 v9 v10 v11 v12 v13 v14 v15 v16 v17 v18 v19 v20 v21 v22 v23 v24 A1 A2 c1 c2 W
set_option maxRecDepth 100000 in
set_option maxHeartbeats 8000000 in
theorem drop1_calls (base X Di n m i : Nat) (xs ys : List Int) (off : Int) (W0 : World) (h : VW base X n m xs ys off W0) (hi : Blk W0 Di 3 #[.int .i64 (i : Nat)]) (hin : i < n) (him : i < m) (hl : n ≤ 1000000) (hl2 : m ≤ 1000000) (hDi : Di < base) :
    Calls Try.prog 74 #[.pointer (some ⟨X, 0, none⟩), .pointer (some ⟨Di, 0, none⟩)] W0 fun e W' => e = .returned (.tuple #[]) ∧ VR base X (n - 1) (m - 1) (xs.take i ++ xs.drop (i + 1)) (ys.take i ++ ys.drop (i + 1)) off W' ∧ Below base W0 W' := by
  obtain ⟨gA, c, gB, e, hX, hA, hB, hne, hbX, hnn, hmm⟩ := h
  have hXA := own_ne hA hX
  have hXB := own_ne hB hX
  have hgA := own_ge hA
  have hgB := own_ge hB
  have hlX := hX.lt
  have hbW : base ≤ W0.heap.size := by omega
  have HX := Lib.hid hX
  have HA := Lib.hid hA
  have HB := Lib.hid hB
  have HI := Lib.hid hi
  have hwi : IntKind.i64.wrap ((i : Int) + 1) = (i : Int) + 1 := by rw [IntKind.wrap_i64]; omega
  clear hX hA hB hi
  go_enter Try.func74, Try.ntmps74
  go_wp2_with fail
  refine wp_region_inv (fun L a W => DelVR base X Di n m i xs ys off gA c gB e W0 L a W) rfl (by kernel_rfl) ?_ ?_ ?_
  · intro L a W j o hio hLi hdep hR K hK
    match j, hio with
    | 0, hio =>
      obtain rfl : _ = o := by simpa using hio
      obtain ⟨v3, v4, v5, v6, v7, v8, v9, v10, v11, v12, v13, v14, v15, v16, v17, v18, v19, v20, v21, v22, v23, v24, A1, A2, c1, c2, rfl, hR⟩ := hR
      rw [if_pos (show Region.wanted _ _ = true from rfl)]
      go_simp
      refine hK _ _ ?_
      exact ⟨_, _, _, _, _, _, _, _, _, _, _, _, _, _, _, _, _, _, _, _, _, _, A1, A2, c1, c2, rfl, { hR with k0 := fun _ => rfl }⟩
    | 1, hio =>
      obtain rfl : _ = o := by simpa using hio
      obtain ⟨v3, v4, v5, v6, v7, v8, v9, v10, v11, v12, v13, v14, v15, v16, v17, v18, v19, v20, v21, v22, v23, v24, A1, A2, c1, c2, rfl, hR⟩ := hR
      rw [if_pos (show Region.wanted _ _ = true from rfl)]
      go_simp
      refine hK _ _ ?_
      exact ⟨_, _, _, _, _, _, _, _, _, _, _, _, _, _, _, _, _, _, _, _, _, _, A1, A2, c1, c2, rfl, { hR with k1 := fun _ => rfl }⟩
    | 2, hio =>
      obtain rfl : _ = o := by simpa using hio
      obtain ⟨v3, v4, v5, v6, v7, v8, v9, v10, v11, v12, v13, v14, v15, v16, v17, v18, v19, v20, v21, v22, v23, v24, A1, A2, c1, c2, rfl, hR⟩ := hR
      rw [if_pos (show Region.wanted _ _ = true from rfl)]
      go_simp
      refine hK _ _ ?_
      exact ⟨_, _, _, _, _, _, _, _, _, _, _, _, _, _, _, _, _, _, _, _, _, _, A1, A2, c1, c2, rfl, { hR with k2 := fun _ => rfl }⟩
    | 3, hio =>
      obtain rfl : _ = o := by simpa using hio
      obtain ⟨v3, v4, v5, v6, v7, v8, v9, v10, v11, v12, v13, v14, v15, v16, v17, v18, v19, v20, v21, v22, v23, v24, A1, A2, c1, c2, rfl, hR⟩ := hR
      rw [if_pos (show Region.wanted _ _ = true from rfl)]
      have e0 := hR.k2 (hdep { on := 2, ground := Ground.data } (by simp) rfl)
      subst e0
      go_simp
      refine hK _ _ ?_
      exact ⟨_, _, _, _, _, _, _, _, _, _, _, _, _, _, _, _, _, _, _, _, _, _, A1, A2, c1, c2, rfl, { hR with k3 := fun _ => rfl }⟩
    | 4, hio =>
      obtain rfl : _ = o := by simpa using hio
      obtain ⟨v3, v4, v5, v6, v7, v8, v9, v10, v11, v12, v13, v14, v15, v16, v17, v18, v19, v20, v21, v22, v23, v24, A1, A2, c1, c2, rfl, hR⟩ := hR
      rw [if_pos (show Region.wanted _ _ = true from rfl)]
      have e0 := hR.k3 (hdep { on := 3, ground := Ground.data } (by simp) rfl)
      subst e0
      go_simp
      refine hK _ _ ?_
      exact ⟨_, _, _, _, _, _, _, _, _, _, _, _, _, _, _, _, _, _, _, _, _, _, A1, A2, c1, c2, rfl, { hR with k4 := fun _ => rfl }⟩
    | 5, hio =>
      obtain rfl : _ = o := by simpa using hio
      obtain ⟨v3, v4, v5, v6, v7, v8, v9, v10, v11, v12, v13, v14, v15, v16, v17, v18, v19, v20, v21, v22, v23, v24, A1, A2, c1, c2, rfl, hR⟩ := hR
      rw [if_pos (show Region.wanted _ _ = true from rfl)]
      have e0 := hR.k4 (hdep { on := 4, ground := Ground.data } (by simp) rfl)
      subst e0
      have ht : L 20 = false := by
        cases h : L 20 with
        | false => rfl
        | true => have := (hR.d20 h).1; rw [hLi] at this; cases this
      have q : W.cell? ⟨X, 0, none⟩ = some (.slice (some ⟨gA, 0, none⟩) n c) := by have q := hR.bx.cell 0; rw [ht] at q; exact q
      go_simp
      refine hK _ _ ?_
      exact ⟨_, _, _, _, _, _, _, _, _, _, _, _, _, _, _, _, _, _, _, _, _, _, A1, A2, c1, c2, rfl, { hR with k5 := fun _ => rfl, d20 := fun h => ⟨rfl, (hR.d20 h).2⟩ }⟩
    | 6, hio =>
      obtain rfl : _ = o := by simpa using hio
      obtain ⟨v3, v4, v5, v6, v7, v8, v9, v10, v11, v12, v13, v14, v15, v16, v17, v18, v19, v20, v21, v22, v23, v24, A1, A2, c1, c2, rfl, hR⟩ := hR
      rw [if_pos (show Region.wanted _ _ = true from rfl)]
      have q : W.cell? ⟨Di, 0, none⟩ = some (.int .i64 (i : Nat)) := hR.bi.cell 0
      go_simp
      refine hK _ _ ?_
      exact ⟨_, _, _, _, _, _, _, _, _, _, _, _, _, _, _, _, _, _, _, _, _, _, A1, A2, c1, c2, rfl, { hR with k6 := fun _ => rfl }⟩
    | 7, hio =>
      obtain rfl : _ = o := by simpa using hio
      obtain ⟨v3, v4, v5, v6, v7, v8, v9, v10, v11, v12, v13, v14, v15, v16, v17, v18, v19, v20, v21, v22, v23, v24, A1, A2, c1, c2, rfl, hR⟩ := hR
      rw [if_pos (show Region.wanted _ _ = true from rfl)]
      have q : W.cell? ⟨Di, 0, none⟩ = some (.int .i64 (i : Nat)) := hR.bi.cell 0
      go_simp
      refine hK _ _ ?_
      exact ⟨_, _, _, _, _, _, _, _, _, _, _, _, _, _, _, _, _, _, _, _, _, _, A1, A2, c1, c2, rfl, { hR with k7 := fun _ => rfl }⟩
    | 8, hio =>
      obtain rfl : _ = o := by simpa using hio
      obtain ⟨v3, v4, v5, v6, v7, v8, v9, v10, v11, v12, v13, v14, v15, v16, v17, v18, v19, v20, v21, v22, v23, v24, A1, A2, c1, c2, rfl, hR⟩ := hR
      rw [if_pos (show Region.wanted _ _ = true from rfl)]
      have e0 := hR.k7 (hdep { on := 7, ground := Ground.data } (by simp) rfl)
      subst e0
      go_simp
      refine hK _ _ ?_
      exact ⟨_, _, _, _, _, _, _, _, _, _, _, _, _, _, _, _, _, _, _, _, _, _, A1, A2, c1, c2, rfl, { hR with k8 := fun _ => rfl }⟩
    | 9, hio =>
      obtain rfl : _ = o := by simpa using hio
      obtain ⟨v3, v4, v5, v6, v7, v8, v9, v10, v11, v12, v13, v14, v15, v16, v17, v18, v19, v20, v21, v22, v23, v24, A1, A2, c1, c2, rfl, hR⟩ := hR
      rw [if_pos (show Region.wanted _ _ = true from rfl)]
      have e0 := hR.k5 (hdep { on := 5, ground := Ground.data } (by simp) rfl)
      subst e0
      have e1 := hR.k6 (hdep { on := 6, ground := Ground.data } (by simp) rfl)
      subst e1
      have e2 := hR.k8 (hdep { on := 8, ground := Ground.data } (by simp) rfl)
      subst e2
      have ht : L 20 = false := by
        cases h : L 20 with
        | false => rfl
        | true => have := (hR.d20 h).2; rw [hLi] at this; cases this
      have hbl := hR.below.size
      go_simp
      refine (delS base gA c i n xs W (hR.o9 hLi) hnn hl hin).mono ?_
      rintro e' W' ⟨A1', c1', rfl, HRA, HBA, HOA⟩
      obtain ⟨b, eb, hb, hb2⟩ := HBA.out
      have ho := HOA.out
      refine hK _ _ ?_
      exact ⟨_, _, _, _, _, _, _, _, _, _, _, _, _, _, _, _, _, _, _, _, _, _, A1', A2, c1', c2, rfl, { hR with below := hR.below.trans (ho.below (by omega) (by omega)), bi := ho.blk hR.bi (by omega), bx := by have q := ho.blk hR.bx hXA; simp only [ht] at q; exact (show Blk W' X 34 #[if L 20 = true then _ else _, if L 23 = true then _ else _, _] from by simp only [ht]; exact q), k9 := fun _ => ⟨rfl, HRA.out, b, eb, by omega⟩, k17 := fun h => ⟨(hR.k17 h).1, reads_only (hR.k17 h).2.1 ho (fun b2 e2 => by obtain ⟨b3, e3, h3⟩ := (hR.k17 h).2.2; rw [e2] at e3; injection e3 with e3; injection e3 with e3; omega) (by obtain ⟨b3, e3, h3⟩ := (hR.k17 h).2.2; exact ⟨b3, e3⟩), (hR.k17 h).2.2⟩, o9 := fun h => (by simp at h), o17 := fun h => own_only (hR.o17 h) ho (Ne.symm hne), d20 := fun h => (by have h : L 20 = true := h; rw [ht] at h; cases h) }⟩
    | 10, hio =>
      obtain rfl : _ = o := by simpa using hio
      obtain ⟨v3, v4, v5, v6, v7, v8, v9, v10, v11, v12, v13, v14, v15, v16, v17, v18, v19, v20, v21, v22, v23, v24, A1, A2, c1, c2, rfl, hR⟩ := hR
      rw [if_pos (show Region.wanted _ _ = true from rfl)]
      go_simp
      refine hK _ _ ?_
      exact ⟨_, _, _, _, _, _, _, _, _, _, _, _, _, _, _, _, _, _, _, _, _, _, A1, A2, c1, c2, rfl, { hR with k10 := fun _ => rfl }⟩
    | 11, hio =>
      obtain rfl : _ = o := by simpa using hio
      obtain ⟨v3, v4, v5, v6, v7, v8, v9, v10, v11, v12, v13, v14, v15, v16, v17, v18, v19, v20, v21, v22, v23, v24, A1, A2, c1, c2, rfl, hR⟩ := hR
      rw [if_pos (show Region.wanted _ _ = true from rfl)]
      have e0 := hR.k10 (hdep { on := 10, ground := Ground.data } (by simp) rfl)
      subst e0
      go_simp
      refine hK _ _ ?_
      exact ⟨_, _, _, _, _, _, _, _, _, _, _, _, _, _, _, _, _, _, _, _, _, _, A1, A2, c1, c2, rfl, { hR with k11 := fun _ => rfl }⟩
    | 12, hio =>
      obtain rfl : _ = o := by simpa using hio
      obtain ⟨v3, v4, v5, v6, v7, v8, v9, v10, v11, v12, v13, v14, v15, v16, v17, v18, v19, v20, v21, v22, v23, v24, A1, A2, c1, c2, rfl, hR⟩ := hR
      rw [if_pos (show Region.wanted _ _ = true from rfl)]
      have e0 := hR.k11 (hdep { on := 11, ground := Ground.data } (by simp) rfl)
      subst e0
      go_simp
      refine hK _ _ ?_
      exact ⟨_, _, _, _, _, _, _, _, _, _, _, _, _, _, _, _, _, _, _, _, _, _, A1, A2, c1, c2, rfl, { hR with k12 := fun _ => rfl }⟩
    | 13, hio =>
      obtain rfl : _ = o := by simpa using hio
      obtain ⟨v3, v4, v5, v6, v7, v8, v9, v10, v11, v12, v13, v14, v15, v16, v17, v18, v19, v20, v21, v22, v23, v24, A1, A2, c1, c2, rfl, hR⟩ := hR
      rw [if_pos (show Region.wanted _ _ = true from rfl)]
      have e0 := hR.k12 (hdep { on := 12, ground := Ground.data } (by simp) rfl)
      subst e0
      have ht : L 23 = false := by
        cases h : L 23 with
        | false => rfl
        | true => have := (hR.d23 h).1; rw [hLi] at this; cases this
      have q : W.cell? ⟨X, 1, none⟩ = some (.slice (some ⟨gB, 0, none⟩) m e) := by have q := hR.bx.cell 1; rw [ht] at q; exact q
      go_simp
      refine hK _ _ ?_
      exact ⟨_, _, _, _, _, _, _, _, _, _, _, _, _, _, _, _, _, _, _, _, _, _, A1, A2, c1, c2, rfl, { hR with k13 := fun _ => rfl, d23 := fun h => ⟨rfl, (hR.d23 h).2⟩ }⟩
    | 14, hio =>
      obtain rfl : _ = o := by simpa using hio
      obtain ⟨v3, v4, v5, v6, v7, v8, v9, v10, v11, v12, v13, v14, v15, v16, v17, v18, v19, v20, v21, v22, v23, v24, A1, A2, c1, c2, rfl, hR⟩ := hR
      rw [if_pos (show Region.wanted _ _ = true from rfl)]
      have q : W.cell? ⟨Di, 0, none⟩ = some (.int .i64 (i : Nat)) := hR.bi.cell 0
      go_simp
      refine hK _ _ ?_
      exact ⟨_, _, _, _, _, _, _, _, _, _, _, _, _, _, _, _, _, _, _, _, _, _, A1, A2, c1, c2, rfl, { hR with k14 := fun _ => rfl }⟩
    | 15, hio =>
      obtain rfl : _ = o := by simpa using hio
      obtain ⟨v3, v4, v5, v6, v7, v8, v9, v10, v11, v12, v13, v14, v15, v16, v17, v18, v19, v20, v21, v22, v23, v24, A1, A2, c1, c2, rfl, hR⟩ := hR
      rw [if_pos (show Region.wanted _ _ = true from rfl)]
      have q : W.cell? ⟨Di, 0, none⟩ = some (.int .i64 (i : Nat)) := hR.bi.cell 0
      go_simp
      refine hK _ _ ?_
      exact ⟨_, _, _, _, _, _, _, _, _, _, _, _, _, _, _, _, _, _, _, _, _, _, A1, A2, c1, c2, rfl, { hR with k15 := fun _ => rfl }⟩
    | 16, hio =>
      obtain rfl : _ = o := by simpa using hio
      obtain ⟨v3, v4, v5, v6, v7, v8, v9, v10, v11, v12, v13, v14, v15, v16, v17, v18, v19, v20, v21, v22, v23, v24, A1, A2, c1, c2, rfl, hR⟩ := hR
      rw [if_pos (show Region.wanted _ _ = true from rfl)]
      have e0 := hR.k15 (hdep { on := 15, ground := Ground.data } (by simp) rfl)
      subst e0
      go_simp
      refine hK _ _ ?_
      exact ⟨_, _, _, _, _, _, _, _, _, _, _, _, _, _, _, _, _, _, _, _, _, _, A1, A2, c1, c2, rfl, { hR with k16 := fun _ => rfl }⟩
    | 17, hio =>
      obtain rfl : _ = o := by simpa using hio
      obtain ⟨v3, v4, v5, v6, v7, v8, v9, v10, v11, v12, v13, v14, v15, v16, v17, v18, v19, v20, v21, v22, v23, v24, A1, A2, c1, c2, rfl, hR⟩ := hR
      rw [if_pos (show Region.wanted _ _ = true from rfl)]
      have e0 := hR.k13 (hdep { on := 13, ground := Ground.data } (by simp) rfl)
      subst e0
      have e1 := hR.k14 (hdep { on := 14, ground := Ground.data } (by simp) rfl)
      subst e1
      have e2 := hR.k16 (hdep { on := 16, ground := Ground.data } (by simp) rfl)
      subst e2
      have ht : L 23 = false := by
        cases h : L 23 with
        | false => rfl
        | true => have := (hR.d23 h).2; rw [hLi] at this; cases this
      have hbl := hR.below.size
      go_simp
      refine (delI base gB e i m ys W (hR.o17 hLi) hmm hl2 him).mono ?_
      rintro e' W' ⟨A1', c1', rfl, HRA, HBA, HOA⟩
      obtain ⟨b, eb, hb, hb2⟩ := HBA.out
      have ho := HOA.out
      refine hK _ _ ?_
      exact ⟨_, _, _, _, _, _, _, _, _, _, _, _, _, _, _, _, _, _, _, _, _, _, A1, A1', c1, c1', rfl, { hR with below := hR.below.trans (ho.below (by omega) (by omega)), bi := ho.blk hR.bi (by omega), bx := by have q := ho.blk hR.bx hXB; simp only [ht] at q; exact (show Blk W' X 34 #[if L 20 = true then _ else _, if L 23 = true then _ else _, _] from by simp only [ht]; exact q), k17 := fun _ => ⟨rfl, HRA.out, b, eb, by omega⟩, k9 := fun h => ⟨(hR.k9 h).1, reads_only (hR.k9 h).2.1 ho (fun b2 e2 => by obtain ⟨b3, e3, h3⟩ := (hR.k9 h).2.2; rw [e2] at e3; injection e3 with e3; injection e3 with e3; omega) (by obtain ⟨b3, e3, h3⟩ := (hR.k9 h).2.2; exact ⟨b3, e3⟩), (hR.k9 h).2.2⟩, o17 := fun h => (by simp at h), o9 := fun h => own_only (hR.o9 h) ho hne, d23 := fun h => (by have h : L 23 = true := h; rw [ht] at h; cases h) }⟩
    | 18, hio =>
      obtain rfl : _ = o := by simpa using hio
      obtain ⟨v3, v4, v5, v6, v7, v8, v9, v10, v11, v12, v13, v14, v15, v16, v17, v18, v19, v20, v21, v22, v23, v24, A1, A2, c1, c2, rfl, hR⟩ := hR
      rw [if_pos (show Region.wanted _ _ = true from rfl)]
      have e0 := hR.k0 (hdep { on := 0, ground := Ground.data } (by simp) rfl)
      subst e0
      go_simp
      refine hK _ _ ?_
      exact ⟨_, _, _, _, _, _, _, _, _, _, _, _, _, _, _, _, _, _, _, _, _, _, A1, A2, c1, c2, rfl, { hR with k18 := fun _ => rfl }⟩
    | 19, hio =>
      obtain rfl : _ = o := by simpa using hio
      obtain ⟨v3, v4, v5, v6, v7, v8, v9, v10, v11, v12, v13, v14, v15, v16, v17, v18, v19, v20, v21, v22, v23, v24, A1, A2, c1, c2, rfl, hR⟩ := hR
      rw [if_pos (show Region.wanted _ _ = true from rfl)]
      have e0 := hR.k18 (hdep { on := 18, ground := Ground.data } (by simp) rfl)
      subst e0
      go_simp
      refine hK _ _ ?_
      exact ⟨_, _, _, _, _, _, _, _, _, _, _, _, _, _, _, _, _, _, _, _, _, _, A1, A2, c1, c2, rfl, { hR with k19 := fun _ => rfl }⟩
    | 20, hio =>
      obtain rfl : _ = o := by simpa using hio
      obtain ⟨v3, v4, v5, v6, v7, v8, v9, v10, v11, v12, v13, v14, v15, v16, v17, v18, v19, v20, v21, v22, v23, v24, A1, A2, c1, c2, rfl, hR⟩ := hR
      rw [if_pos (show Region.wanted _ _ = true from rfl)]
      have e0 := hR.k19 (hdep { on := 19, ground := Ground.data } (by simp) rfl)
      subst e0
      have g9 := hdep { on := 9, ground := Ground.data } (by simp) rfl
      have g5 := hdep { on := 5, ground := Ground.phase } (by simp) rfl
      obtain ⟨e1, r1, _⟩ := hR.k9 g9
      subst e1
      have q := hR.bx.cell 0
      have qf := hR.bx.frozen 0
      rw [hLi] at q
      simp only [List.getElem?_toArray, List.getElem?_cons_zero, List.getElem?_cons_succ, Bool.false_eq_true, if_false] at q
      go_simp
      refine hK _ _ ?_
      exact ⟨_, _, _, _, _, _, _, _, _, _, _, _, _, _, _, _, _, _, _, _, _, _, A1, A2, c1, c2, rfl, { hR with below := hR.below.setCell (p := ⟨X, 0, none⟩) hbX _, bi := hR.bi.far (show Di ≠ X by omega) _, bx := by have q2 := hR.bx.set 0 (.slice A1 (n - 1) c1); rw [hLi] at q2; exact q2, k9 := fun h => ⟨(hR.k9 h).1, reads_set (t := 0) (cs := #[]) (hR.k9 h).2.1 _ (by obtain ⟨b3, e3, h3⟩ := (hR.k9 h).2.2; exact ⟨b3, e3, by omega⟩), (hR.k9 h).2.2⟩, k17 := fun h => ⟨(hR.k17 h).1, reads_set (t := 0) (cs := #[]) (hR.k17 h).2.1 _ (by obtain ⟨b3, e3, h3⟩ := (hR.k17 h).2.2; exact ⟨b3, e3, by omega⟩), (hR.k17 h).2.2⟩, o9 := fun h => own_set (hR.o9 h) _ _ hXA, o17 := fun h => own_set (hR.o17 h) _ _ hXB, d20 := fun _ => ⟨g5, g9⟩ }⟩
    | 21, hio =>
      obtain rfl : _ = o := by simpa using hio
      obtain ⟨v3, v4, v5, v6, v7, v8, v9, v10, v11, v12, v13, v14, v15, v16, v17, v18, v19, v20, v21, v22, v23, v24, A1, A2, c1, c2, rfl, hR⟩ := hR
      rw [if_pos (show Region.wanted _ _ = true from rfl)]
      have e0 := hR.k1 (hdep { on := 1, ground := Ground.data } (by simp) rfl)
      subst e0
      go_simp
      refine hK _ _ ?_
      exact ⟨_, _, _, _, _, _, _, _, _, _, _, _, _, _, _, _, _, _, _, _, _, _, A1, A2, c1, c2, rfl, { hR with k21 := fun _ => rfl }⟩
    | 22, hio =>
      obtain rfl : _ = o := by simpa using hio
      obtain ⟨v3, v4, v5, v6, v7, v8, v9, v10, v11, v12, v13, v14, v15, v16, v17, v18, v19, v20, v21, v22, v23, v24, A1, A2, c1, c2, rfl, hR⟩ := hR
      rw [if_pos (show Region.wanted _ _ = true from rfl)]
      have e0 := hR.k21 (hdep { on := 21, ground := Ground.data } (by simp) rfl)
      subst e0
      go_simp
      refine hK _ _ ?_
      exact ⟨_, _, _, _, _, _, _, _, _, _, _, _, _, _, _, _, _, _, _, _, _, _, A1, A2, c1, c2, rfl, { hR with k22 := fun _ => rfl }⟩
    | 23, hio =>
      obtain rfl : _ = o := by simpa using hio
      obtain ⟨v3, v4, v5, v6, v7, v8, v9, v10, v11, v12, v13, v14, v15, v16, v17, v18, v19, v20, v21, v22, v23, v24, A1, A2, c1, c2, rfl, hR⟩ := hR
      rw [if_pos (show Region.wanted _ _ = true from rfl)]
      have e0 := hR.k22 (hdep { on := 22, ground := Ground.data } (by simp) rfl)
      subst e0
      have g9 := hdep { on := 17, ground := Ground.data } (by simp) rfl
      have g5 := hdep { on := 13, ground := Ground.phase } (by simp) rfl
      obtain ⟨e1, r1, _⟩ := hR.k17 g9
      subst e1
      have q := hR.bx.cell 1
      have qf := hR.bx.frozen 1
      rw [hLi] at q
      simp only [List.getElem?_toArray, List.getElem?_cons_zero, List.getElem?_cons_succ, Bool.false_eq_true, if_false] at q
      go_simp
      refine hK _ _ ?_
      exact ⟨_, _, _, _, _, _, _, _, _, _, _, _, _, _, _, _, _, _, _, _, _, _, A1, A2, c1, c2, rfl, { hR with below := hR.below.setCell (p := ⟨X, 1, none⟩) hbX _, bi := hR.bi.far (show Di ≠ X by omega) _, bx := by have q2 := hR.bx.set 1 (.slice A2 (m - 1) c2); rw [hLi] at q2; exact q2, k9 := fun h => ⟨(hR.k9 h).1, reads_set (t := 0) (cs := #[]) (hR.k9 h).2.1 _ (by obtain ⟨b3, e3, h3⟩ := (hR.k9 h).2.2; exact ⟨b3, e3, by omega⟩), (hR.k9 h).2.2⟩, k17 := fun h => ⟨(hR.k17 h).1, reads_set (t := 0) (cs := #[]) (hR.k17 h).2.1 _ (by obtain ⟨b3, e3, h3⟩ := (hR.k17 h).2.2; exact ⟨b3, e3, by omega⟩), (hR.k17 h).2.2⟩, o9 := fun h => own_set (hR.o9 h) _ _ hXA, o17 := fun h => own_set (hR.o17 h) _ _ hXB, d23 := fun _ => ⟨g5, g9⟩ }⟩
    | k + 24, hio => simp at hio
  · intro L a W hall hR
    obtain ⟨v3, v4, v5, v6, v7, v8, v9, v10, v11, v12, v13, v14, v15, v16, v17, v18, v19, v20, v21, v22, v23, v24, A1, A2, c1, c2, rfl, hR⟩ := hR
    obtain ⟨_, r9, b9, f9, s9⟩ := hR.k9 (hall 9 (by simp))
    obtain ⟨_, r17, b17, f17, s17⟩ := hR.k17 (hall 17 (by simp))
    have hb9 : Hid (∀ b o, A1 = some ⟨b, o, none⟩ → base ≤ b) := Lib.hid (fun b o e1 => by rw [f9] at e1; injection e1 with e1; injection e1 with e1; omega)
    have hb17 : Hid (∀ b o, A2 = some ⟨b, o, none⟩ → base ≤ b) := Lib.hid (fun b o e1 => by rw [f17] at e1; injection e1 with e1; injection e1 with e1; omega)
    clear f9 s9 f17 s17
    have q := hR.bx
    rw [hall 20 (by simp), hall 23 (by simp)] at q
    have hbel := hR.below
    clear hall hR
    go_end0
    exact ⟨rfl, ⟨A1, c1, A2, c2, q, r9, r17, by simp; omega, by simp; omega, hbX, hb9.out, hb17.out⟩, hbel⟩
  · exact ⟨undef, undef, undef, undef, undef, undef, undef, undef, undef, undef, undef, undef, undef, undef, undef, undef, undef, undef, undef, undef, undef, undef, none, none, 0, 0, rfl, { below := below_drew base W0, bi := HI.out.drew, bx := HX.out.drew, k0 := fun h => (by cases h), k1 := fun h => (by cases h), k2 := fun h => (by cases h), k3 := fun h => (by cases h), k4 := fun h => (by cases h), k5 := fun h => (by cases h), k6 := fun h => (by cases h), k7 := fun h => (by cases h), k8 := fun h => (by cases h), k10 := fun h => (by cases h), k11 := fun h => (by cases h), k12 := fun h => (by cases h), k13 := fun h => (by cases h), k14 := fun h => (by cases h), k15 := fun h => (by cases h), k16 := fun h => (by cases h), k18 := fun h => (by cases h), k19 := fun h => (by cases h), k21 := fun h => (by cases h), k22 := fun h => (by cases h), k9 := fun h => (by cases h), k17 := fun h => (by cases h), o9 := fun _ => HA.out, o17 := fun _ => HB.out, d20 := fun h => (by cases h), d23 := fun h => (by cases h) }⟩
end Go.Proofs.Ythjkeefdeeljoaa.Shp
