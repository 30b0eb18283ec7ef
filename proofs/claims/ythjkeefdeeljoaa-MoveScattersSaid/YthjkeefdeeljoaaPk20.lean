/- The turn of the odometer's digits: its walk. -/
import Derived.Test.YthjkeefdeeljoaaPk18
import Derived.Test.YthjkeefdeeljoaaPk17
import Derived.Test.YthjkeefdeeljoaaPk3
import Derived.Test.YthjkeefdeeljoaaPk19
namespace Go.Proofs.Ythjkeefdeeljoaa.Shp
open Go.RowKit Go.Shelf Go.Proofs.Ythjkeefdeeljoaa.Num
set_option linter.unusedVariables false
set_option linter.unusedSimpArgs false
attribute [local go_sem] Oper.semAt_some

/-- What an odometer's block holds. -/
def odoC (A : Option Addr) (n ca : Nat) (B : Option Addr) (m cb : Nat) (off0 : Int) (D : Nat → Nat) (off left : Int) (st : Bool) : Array Value :=
  #[.slice A n ca, .slice B m cb, .int .i64 off0, .int .i64 (D 0 : Nat), .int .i64 (D 1 : Nat), .int .i64 (D 2 : Nat), .int .i64 (D 3 : Nat), .int .i64 (D 4 : Nat), .int .i64 (D 5 : Nat), .int .i64 off, .int .i64 left, .bool st]
section
variable {A B : Option Addr} {n ca m cb : Nat} {off0 off left : Int} {D : Nat → Nat} {st : Bool}
theorem odoC_dig (i : Nat) (hi : i < 6) : (odoC A n ca B m cb off0 D off left st)[3 + i]? = some (.int .i64 (D i : Nat)) := by
  match i, hi with
  | 0, _ => rfl
  | 1, _ => rfl
  | 2, _ => rfl
  | 3, _ => rfl
  | 4, _ => rfl
  | 5, _ => rfl
theorem odoC_setD (i v : Nat) (hi : i < 6) : (odoC A n ca B m cb off0 D off left st).setIfInBounds (3 + i) (.int .i64 (v : Nat)) = odoC A n ca B m cb off0 (upd D i v) off left st := by
  match i, hi with
  | 0, _ => rfl
  | 1, _ => rfl
  | 2, _ => rfl
  | 3, _ => rfl
  | 4, _ => rfl
  | 5, _ => rfl
theorem odoC_setOff (v : Int) : (odoC A n ca B m cb off0 D off left st).setIfInBounds 9 (.int .i64 v) = odoC A n ca B m cb off0 D v left st := rfl
theorem odoC_setLeft (v : Int) : (odoC A n ca B m cb off0 D off left st).setIfInBounds 10 (.int .i64 v) = odoC A n ca B m cb off0 D off v st := rfl
theorem odoC_setSt (v : Bool) : (odoC A n ca B m cb off0 D off left st).setIfInBounds 11 (.bool v) = odoC A n ca B m cb off0 D off left v := rfl
end
/-- What stays: all but the digits and the place. -/
structure Od where
  A : Option Addr
  ca : Nat
  B : Option Addr
  cb : Nat
  g : Nat
  off0 : Int
  left : Int
  st : Bool
/-- Between two rounds. -/
structure TurnI (o : Od) (xs ys : List Int) (w : World) (s : OS) (W : World) : Prop where
  blk : Blk W o.g 90 (odoC o.A xs.length o.ca o.B xs.length o.cb o.off0 s.1 s.2 o.left o.st)
  box : W.cell? ⟨w.heap.size, 0, none⟩ = some (.pointer (some ⟨o.g, 0, none⟩))
  rx : ReadsI W .i64 o.A xs
  ry : ReadsI W .i64 o.B ys
  only : Only o.g w W
  sz : w.heap.size + 2 ≤ W.heap.size
section
variable {o : Od} {xs ys : List Int} {w : World} {s : OS} {W : World}
theorem TurnI.drew (h : TurnI o xs ys w s W) : TurnI o xs ys w s W.drew := ⟨h.blk.drew, h.box, h.rx, h.ry, h.only.drew, h.sz⟩
theorem TurnI.set (h : TurnI o xs ys w s W) (hA : ∀ b off, o.A = some ⟨b, off, none⟩ → b ≠ o.g) (hB : ∀ b off, o.B = some ⟨b, off, none⟩ → b ≠ o.g) (hg : o.g < w.heap.size) {i : Nat} {u : Value} {s' : OS}
    (hs : (odoC o.A xs.length o.ca o.B xs.length o.cb o.off0 s.1 s.2 o.left o.st).setIfInBounds i u = odoC o.A xs.length o.ca o.B xs.length o.cb o.off0 s'.1 s'.2 o.left o.st) : TurnI o xs ys w s' (W.setCell ⟨o.g, i, none⟩ u) :=
  ⟨by rw [← hs]; exact h.blk.set i u, (World.cell?_setCell_other _ _ _ _ (by intro e; injection e; omega)).trans h.box, h.rx.far hA u, h.ry.far hB u, h.only.set (.inl rfl) u, by have := h.sz; simpa [World.setCell] using this⟩
theorem TurnI.see (h : TurnI o xs ys w s W) (i : Nat) (hi : i < 6) : W.cell? ⟨w.heap.size, 0, none⟩ = some (.pointer (some ⟨o.g, 0, none⟩)) ∧ W.cell? ⟨o.g, 0, none⟩ = some (.slice o.A xs.length o.ca) ∧ W.cell? ⟨o.g, 1, none⟩ = some (.slice o.B xs.length o.cb) ∧
    W.cell? ⟨o.g, 3 + i, none⟩ = some (.int .i64 (s.1 i : Nat)) ∧ W.frozen? ⟨o.g, 3 + i, none⟩ = false ∧ W.cell? ⟨o.g, 9, none⟩ = some (.int .i64 s.2) ∧ W.frozen? ⟨o.g, 9, none⟩ = false :=
  ⟨h.box, h.blk.cell 0, h.blk.cell 1, (h.blk.cell _).trans (odoC_dig i hi), h.blk.frozen _, h.blk.cell 9, h.blk.frozen _⟩
end
def TurnJ (o : Od) (xs ys : List Int) (w : World) (s0 : OS) (pre : List (Fin xs.length)) (W : World) : Prop := ∃ s, foldO xs ys s0 pre = some s ∧ BdO xs s pre.length ∧ TurnI o xs ys w s W
/-- A round that has stopped. -/
def TurnX (o : Od) (xs ys : List Int) (w : World) (s0 : OS) (c : Code) (pre : List (Fin xs.length)) (W : World) : Prop :=
  c = .ret ∧ ∃ pre' x s, pre = pre' ++ [x] ∧ foldO xs ys s0 pre' = some s ∧ s.1 x.1 + 1 < (nth xs x.1).toNat ∧
    Blk W o.g 90 (odoC o.A xs.length o.ca o.B xs.length o.cb o.off0 (upd s.1 x.1 (s.1 x.1 + 1)) (s.2 + nth ys x.1) o.left o.st) ∧ Only o.g w W
theorem turnI_own {o : Od} {xs ys : List Int} {w : World} {s : OS} {B : Nat} (hB : w.heap.size ≤ B) {W W' : World} {row : Option Nat} (h : TurnI o xs ys w s W) (hg : W.grownBy W' row) (hr : ∀ r, row = some r → B ≤ r ∧ ∃ o : Obj, W.heap[r]? = some o ∧ o.isCells = false) : TurnI o xs ys w s W' := by
  have h2 : ∀ r, row = some r → ∃ o : Obj, W.heap[r]? = some o ∧ o.isCells = false := fun r e => (hr r e).2
  exact ⟨blk_kept h.blk hg h2, cell_kept h.box hg h2, h.rx.kept hg h2, h.ry.kept hg h2, h.only.grown hg (fun k e => .inr (Nat.le_trans hB (hr k e).1)), Nat.le_trans h.sz hg.size⟩
theorem turnJ_own {o : Od} {xs ys : List Int} {w : World} {s0 : OS} {B : Nat} (hB : w.heap.size ≤ B) : OwnFrom B (TurnJ o xs ys w s0) := fun pre W W' row hs hg hr => by
  obtain ⟨s, h1, h3, h2⟩ := hs
  exact ⟨s, h1, h3, turnI_own hB h2 hg hr⟩
theorem turnX_own {o : Od} {xs ys : List Int} {w : World} {s0 : OS} {B : Nat} (hB : w.heap.size ≤ B) (c : Code) : OwnFrom B (TurnX o xs ys w s0 c) := fun pre W W' row hs hg hr => by
  obtain ⟨h0, pre', x, s, h1, h2, h3, h4, h5⟩ := hs
  exact ⟨h0, pre', x, s, h1, h2, h3, blk_kept h4 hg (fun r e => (hr r e).2), h5.grown hg (fun k e => .inr (Nat.le_trans hB (hr k e).1))⟩

set_option maxRecDepth 100000 in
set_option maxHeartbeats 4000000 in
theorem turn_in (o : Od) (xs ys : List Int) (p : Nat) (w : World) (hb : Blk w o.g 90 (odoC o.A xs.length o.ca o.B xs.length o.cb o.off0 (digF xs p) (plO xs ys o.off0 p) o.left o.st)) (hx : ReadsI w .i64 o.A xs) (hy : ReadsI w .i64 o.B ys) (hyl : ys.length = xs.length)
    (hA : ∀ b off, o.A = some ⟨b, off, none⟩ → b ≠ o.g) (hB : ∀ b off, o.B = some ⟨b, off, none⟩ → b ≠ o.g) (hl : xs.length ≤ 6) (h1 : ∀ j, j < xs.length → 1 ≤ nth xs j ∧ nth xs j ≤ 1048576) (h2 : ∀ j, j < xs.length → -1048576 ≤ nth ys j ∧ nth ys j ≤ 1048576)
    (hbd : BdO xs (digF xs p, plO xs ys o.off0 p) 0) (hnx : ((p + 1 : Nat) : Int) < prod xs) :
    CallsIn Fence.wide 5 Try.prog 64 #[.pointer (some ⟨o.g, 0, none⟩)] w fun e w' => (∃ v, e = .returned v) ∧ Blk w' o.g 90 (odoC o.A xs.length o.ca o.B xs.length o.cb o.off0 (digF xs (p + 1)) (plO xs ys o.off0 (p + 1)) o.left o.st) ∧ Only o.g w w' := by
  have hg := hb.lt
  have hI0 : TurnI o xs ys w (digF xs p, plO xs ys o.off0 p) ((w.alloc (.cells #[.pointer (some ⟨o.g, 0, none⟩)] 40)).alloc (.cells #[.slice o.A xs.length o.ca] 32)) := by
    have hbb := bl_alloc (bl_alloc (Below.refl w.heap.size w) (.cells #[.pointer (some ⟨o.g, 0, none⟩)] 40)) (.cells #[.slice o.A xs.length o.ca] 32)
    refine ⟨hb.below' hbb, ?_, hx.below hbb, hy.below hbb, Only.of_below hbb, by simp⟩
    exact (laid rfl (bl_alloc (Below.refl _ _) _)).1
  have hbx : ((w.alloc (.cells #[.pointer (some ⟨o.g, 0, none⟩)] 40)).alloc (.cells #[.slice o.A xs.length o.ca] 32)).cell? ⟨w.heap.size + 1, 0, none⟩ = some (.slice o.A xs.length o.ca) := (laid (by simp) (Below.refl _ _)).1
  have hsh : (w.alloc (.cells #[.pointer (some ⟨o.g, 0, none⟩)] 40)).cell? ⟨o.g, 0, none⟩ = some (.slice o.A xs.length o.ca) := (hb.alloc _).cell 0
  have HI0 := Lib.hid hI0
  have HA := Lib.hid hA
  have HB := Lib.hid hB
  have H1 := Lib.hid h1
  have H2 := Lib.hid h2
  have HYL := Lib.hid hyl
  have HNX := Lib.hid hnx
  have HBX := Lib.hid hbx
  have HBD := Lib.hid hbd
  clear hb hx hy hA hB h1 h2 hbd hyl hnx hI0 hbx
  refine callsIn_of_wp_marks Try.func64 rfl trivial ?_ rfl
  simp only [Try.ntmps64, List.size_toArray, List.length_cons, List.length_nil, Nat.reduceAdd, Nat.reduceSub, Array.replicate_succ, Array.replicate_zero, List.push_toArray, List.append_toArray, List.nil_append, List.cons_append]
  gi_wp2_with (refine ⟨trivial, ?_⟩; gi_at_call 109; refine (callsIn_wide.2 (backward_calls _ _ _ _)).mono ?_; rintro e w' ⟨rfl, rfl⟩)
  obtain ⟨W0, hW0⟩ : ∃ W0, W0 = (w.alloc (.cells #[.pointer (some ⟨o.g, 0, none⟩)] 40)).alloc (.cells #[.slice o.A xs.length o.ca] 32) := ⟨_, rfl⟩
  have hsz : W0.heap.size = w.heap.size + 2 := by rw [hW0]; simp
  rw [← hW0] at HI0 HBX
  have hH : (w.alloc (.cells #[.pointer (some ⟨o.g, 0, none⟩)] 40)).heap.size = w.heap.size + 1 := by simp
  first | rw [hH] | skip
  rw [← hW0]
  clear hW0 hsh hH
  refine wpIn_rangeFunc_ownG rfl (by omega) (gf := 134) (lb := #[.pointer (some ⟨w.heap.size + 1, 0, none⟩)]) rfl trivial (enters_of Try.func134 (by kernel_rfl) rfl)
    (backwardS_stops Fence.wide 4 trivial rfl (by omega) (w.heap.size + 1) xs o.A o.ca (by omega) W0 HBX.out HI0.out.rx) (fun h k => h.trans k) (KpS.put (by omega)) (Below.refl _ _) (fun _ => rfl)
    (TurnJ o xs ys w (digF xs p, plO xs ys o.off0 p)) (TurnX o xs ys w (digF xs p, plO xs ys o.off0 p)) (turnJ_own (by omega)) (turnX_own (by omega)) ⟨_, rfl, HBD.out, HI0.out⟩
    (fun x => { tmps := #[.pointer (some ⟨o.g, 0, none⟩), .pointer (some ⟨w.heap.size, 0, none⟩), .int .i64 (x.1 : Int), .pointer (some ⟨o.g, 0, none⟩), .pointer (some ⟨o.g, 0, none⟩), .pointer (some ⟨o.g, 0, none⟩), .pointer (some ⟨o.g, 0, none⟩), .slice o.A xs.length o.ca, .func (.func 134) #[] #[.pointer (some ⟨w.heap.size + 1, 0, none⟩)], .int .i64 (x.1 : Int), .int .i64 (nth xs x.1), undef, undef, undef, undef, undef, undef, undef, undef, undef, undef, undef, undef, undef, undef, undef, undef, undef, undef, undef, undef, undef, undef, undef, undef, undef, undef, undef, undef, undef, undef, undef, undef, undef, undef, undef, undef, undef, undef, undef, undef, undef, undef, undef, undef, undef, undef, undef, undef, undef, undef, undef, undef, undef, undef, undef, undef, undef, undef, undef, undef, undef, undef, undef, undef, undef, undef, undef], defers := [] }) ?assign ?body ?done ?stop
  case assign =>
    intro l x W K hK
    gi_wp2
    exact hK
  case body =>
    rintro l pre ⟨i, hi⟩ W ⟨s, hs, hbds, hI⟩ _
    have hi6 : i < 6 := by omega
    have hi6i : (i : Int) < 6 := by omega
    have hil : (i : Int) < (xs.length : Int) := by omega
    obtain ⟨x, hxx⟩ := Int.eq_ofNat_of_zero_le (show 0 ≤ nth xs i by have := (H1.out i hi).1; omega)
    have hx1 := H1.out i hi
    have hy1 := H2.out i hi
    have hdx := hbds.dig i hi
    have hlo := hbds.lo
    have hhi := hbds.hi
    have hpl : (pre.length : Int) ≤ 6 := by omega
    rw [hxx, Int.toNat_natCast] at hdx
    rw [hxx] at hx1
    obtain ⟨bA, oA, eA, cA⟩ := hI.rx i hi
    obtain ⟨bB, oB, eB, cB⟩ := hI.ry i (by rw [HYL.out]; exact hi)
    rw [hxx] at cA
    obtain ⟨e0, e1, e2, e3, e3f, e4, e4f⟩ := hI.see i hi6
    rw [eA] at e1
    rw [eB] at e2
    have HI := Lib.hid hI
    have HS := Lib.hid hs
    have HBDS := Lib.hid hbds
    have HXX := Lib.hid hxx
    clear hI hs hbds hxx
    obtain ⟨d, hd⟩ : ∃ d, s.1 i = d := ⟨_, rfl⟩
    have HD := Lib.hid hd
    rw [hd] at e3 hdx
    clear hd
    obtain ⟨q, hq⟩ : ∃ q, d + 1 = q := ⟨_, rfl⟩
    have hqi : (d : Int) + 1 = (q : Int) := by omega
    have hwq : IntKind.i64.wrap (q : Int) = (q : Int) := by rw [IntKind.wrap_i64]; omega
    have HQ := Lib.hid hq
    have hqx : q ≤ x := by omega
    clear hq hdx
    gi_wp2
    refine wpIn_region_head (g := 1) 10 #[true, true, true, true, true, true, true, true, true, true, false] (by kernel_rfl) (by kernel_rfl) rfl ?_
    simp only [List.take_succ_cons, List.take_zero]
    change wpStill _ _ W.drew _ _ _
    iterate 10 still_step
    refine wpStill_nil ?_
    refine wpAnyIn_ready (rs := [10]) (by kernel_rfl) (by simp) ?_
    refine AllReadyIn.cons rfl (fun K hK => ?_) AllReadyIn.nil
    go_simp
    refine hK _ _ ?_
    clear hK K
    refine wpAnyIn_done (by kernel_rfl) ?_ _
    obtain ⟨V1, hV1⟩ : ∃ V1, V1 = (W.setCell ⟨o.g, 3 + i, none⟩ (.int .i64 (q : Int))).drew := ⟨_, rfl⟩
    rw [← hV1]
    have hI1 : TurnI o xs ys w (upd s.1 i q, s.2) V1 := by rw [hV1]; exact (HI.out.set HA.out HB.out hg (odoC_setD i q hi6)).drew
    have HK1 : Hid (KeepsOthers W V1) := Lib.hid (by rw [hV1]; exact (KeepsOthers.setCell _ _ _).trans (KeepsOthers.drew _))
    have HP1 : Hid (V1.heap[w.heap.size + 1]? = W.heap[w.heap.size + 1]?) := Lib.hid (by rw [hV1]; exact Below.heap_setCell _ _ _ _ (by show w.heap.size + 1 ≠ o.g; omega))
    clear hV1 e0 e1 e2 e3 e3f e4 e4f cA cB
    obtain ⟨e0, e1, e2, e3, e3f, e4, e4f⟩ := hI1.see i hi6
    have eu : upd s.1 i q i = q := if_pos rfl
    dsimp only at e3 e4
    rw [eu] at e3
    rw [eA] at e1
    rw [eB] at e2
    obtain ⟨bB', oB', eB', cB⟩ := hI1.ry i (by rw [HYL.out]; exact hi)
    obtain ⟨rfl, rfl⟩ : bB = bB' ∧ oB = oB' := by rw [eB] at eB'; simpa using eB'
    have HI1 := Lib.hid hI1
    clear hI1 eu eB'
    obtain ⟨f, hf⟩ : ∃ f, s.2 = f := ⟨_, rfl⟩
    obtain ⟨y, hyy⟩ : ∃ y, nth ys i = y := ⟨_, rfl⟩
    have HF := Lib.hid hf
    have HYY := Lib.hid hyy
    rw [hf] at e4 hlo hhi
    rw [hyy] at cB hy1
    clear hf hyy
    obtain ⟨f2, hf2⟩ : ∃ f2, f + y = f2 := ⟨_, rfl⟩
    have hwf2 : IntKind.i64.wrap f2 = f2 := by rw [IntKind.wrap_i64]; omega
    have hf2a : -(17592186044416 + (pre.length : Int) * 4398046511104) - 1048576 ≤ f2 := by omega
    have hf2b : f2 ≤ 17592186044416 + (pre.length : Int) * 4398046511104 + 1048576 := by omega
    clear hlo hhi
    gi_wp2
    refine wpIn_region_head (g := 1) 15 #[true, true, true, true, true, true, true, true, true, true, true, true, true, true, true, false] (by kernel_rfl) (by kernel_rfl) rfl ?_
    simp only [List.take_succ_cons, List.take_zero]
    change wpStill _ _ (World.drew _) _ _ _
    iterate 15 still_step
    refine wpStill_nil ?_
    refine wpAnyIn_ready (rs := [15]) (by kernel_rfl) (by simp) ?_
    refine AllReadyIn.cons rfl (fun K hK => ?_) AllReadyIn.nil
    go_simp
    refine hK _ _ ?_
    clear hK K
    refine wpAnyIn_done (by kernel_rfl) ?_ _
    obtain ⟨V2, hV2⟩ : ∃ V2, V2 = (V1.setCell ⟨o.g, 9, none⟩ (.int .i64 f2)).drew := ⟨_, rfl⟩
    rw [← hV2]
    have hI2 : TurnI o xs ys w (upd s.1 i q, f2) V2 := by rw [hV2]; exact (HI1.out.set HA.out HB.out hg (odoC_setOff f2)).drew
    have HK2 : Hid (KeepsOthers W V2) := Lib.hid (by rw [hV2]; exact HK1.out.trans ((KeepsOthers.setCell _ _ _).trans (KeepsOthers.drew _)))
    have HP2 : Hid (V2.heap[w.heap.size + 1]? = W.heap[w.heap.size + 1]?) := Lib.hid (by rw [hV2]; exact (Below.heap_setCell _ _ _ _ (by show w.heap.size + 1 ≠ o.g; omega)).trans HP1.out)
    have HF2 := Lib.hid hf2
    clear hV2 e0 e1 e2 e3 e3f e4 e4f cB hf2 HI1 HK1 HP1
    obtain ⟨e0, e1, e2, e3, e3f, e4, e4f⟩ := hI2.see i hi6
    have eu : upd s.1 i q i = q := if_pos rfl
    dsimp only at e3 e4
    rw [eu] at e3
    rw [eA] at e1
    rw [eB] at e2
    obtain ⟨bA', oA', eA', cA⟩ := hI2.rx i hi
    obtain ⟨rfl, rfl⟩ : bA = bA' ∧ oA = oA' := by rw [eA] at eA'; simpa using eA'
    obtain ⟨bB', oB', eB', cB⟩ := hI2.ry i (by rw [HYL.out]; exact hi)
    obtain ⟨rfl, rfl⟩ : bB = bB' ∧ oB = oB' := by rw [eB] at eB'; simpa using eB'
    rw [HXX.out] at cA
    rw [HYY.out] at cB
    have HI2 := Lib.hid hI2
    clear hI2 eu eB' eA'
    by_cases hlt : q < x
    · have hlti : (q : Int) < (x : Int) := by omega
      gi_wp2
      refine wpIn_region_head (g := 1) 14 #[true, true, true, true, true, true, true, true, true, true, true, true, true, true, false] (by kernel_rfl) (by kernel_rfl) rfl ?_
      simp only [List.take_succ_cons, List.take_zero]
      change wpStill _ _ (World.drew _) _ _ _
      iterate 14 still_step
      refine wpStill_nil ?_
      refine wpAnyIn_ready (rs := [14]) (by kernel_rfl) (by simp) ?_
      refine AllReadyIn.cons rfl (fun K hK => ?_) AllReadyIn.nil
      go_simp
      refine hK _ _ ?_
      clear hK K
      refine wpAnyIn_done (by kernel_rfl) ?_ _
      gi_wp2
      refine ⟨(HK2.out.trans (KeepsOthers.drew _)).from _, rfl, pre, ⟨i, hi⟩, s, rfl, HS.out, ?_, ?_, HI2.out.only.drew⟩
      · show s.1 i + 1 < (nth xs i).toNat
        rw [HXX.out, HD.out, Int.toNat_natCast]
        have := HQ.out
        omega
      · show Blk V2.drew o.g 90 (odoC o.A xs.length o.ca o.B xs.length o.cb o.off0 (upd s.1 i (s.1 i + 1)) (s.2 + nth ys i) o.left o.st)
        rw [HD.out, HF.out, HYY.out, HQ.out, HF2.out]
        exact HI2.out.blk.drew
    · have hqe : q = x := by omega
      subst hqe
      obtain ⟨m, hm⟩ : ∃ m, (q : Int) * y = m := ⟨_, rfl⟩
      have hmb := mul_bd (a := (q : Int)) (y := y) (by omega) (by omega) hy1.1 hy1.2
      rw [hm] at hmb
      have hwm : IntKind.i64.wrap m = m := by rw [IntKind.wrap_i64]; omega
      obtain ⟨f3, hf3⟩ : ∃ f3, f2 - m = f3 := ⟨_, rfl⟩
      have hwf3 : IntKind.i64.wrap f3 = f3 := by rw [IntKind.wrap_i64]; omega
      have hnlt : ¬ ((q : Int) < (q : Int)) := by omega
      clear hf2a hf2b hmb hlt
      gi_wp2
      refine wpIn_region_head (g := 1) 14 #[true, true, true, true, true, true, true, true, true, true, true, true, true, true, false] (by kernel_rfl) (by kernel_rfl) rfl ?_
      simp only [List.take_succ_cons, List.take_zero]
      change wpStill _ _ (World.drew _) _ _ _
      iterate 14 still_step
      refine wpStill_nil ?_
      refine wpAnyIn_ready (rs := [14]) (by kernel_rfl) (by simp) ?_
      refine AllReadyIn.cons rfl (fun K hK => ?_) AllReadyIn.nil
      go_simp
      refine hK _ _ ?_
      clear hK K
      refine wpAnyIn_done (by kernel_rfl) ?_ _
      obtain ⟨V4, hV4⟩ : ∃ V4, V4 = V2.drew := ⟨_, rfl⟩
      rw [← hV4]
      have hI4 : TurnI o xs ys w (upd s.1 i q, f2) V4 := by rw [hV4]; exact HI2.out.drew
      have HK4 : Hid (KeepsOthers W V4) := Lib.hid (by rw [hV4]; exact HK2.out.trans (KeepsOthers.drew _))
      have HP4 : Hid (V4.heap[w.heap.size + 1]? = W.heap[w.heap.size + 1]?) := Lib.hid (by rw [hV4]; exact HP2.out)
      clear hV4 e0 e1 e2 e3 e3f e4 e4f cA cB HI2 HK2 HP2
      obtain ⟨e0, e1, e2, e3, e3f, e4, e4f⟩ := hI4.see i hi6
      have eu : upd s.1 i q i = q := if_pos rfl
      dsimp only at e3 e4
      rw [eu] at e3
      rw [eA] at e1
      rw [eB] at e2
      obtain ⟨bB', oB', eB', cB⟩ := hI4.ry i (by rw [HYL.out]; exact hi)
      obtain ⟨rfl, rfl⟩ : bB = bB' ∧ oB = oB' := by rw [eB] at eB'; simpa using eB'
      rw [HYY.out] at cB
      have HI4 := Lib.hid hI4
      clear hI4 eu eB'
      gi_wp2
      refine wpIn_region_head (g := 1) 22 #[true, true, true, true, true, true, true, true, true, true, true, true, true, true, true, true, true, true, true, true, true, true, false] (by kernel_rfl) (by kernel_rfl) rfl ?_
      simp only [List.take_succ_cons, List.take_zero]
      change wpStill _ _ (World.drew _) _ _ _
      iterate 22 still_step
      refine wpStill_nil ?_
      refine wpAnyIn_ready (rs := [22]) (by kernel_rfl) (by simp) ?_
      refine AllReadyIn.cons rfl (fun K hK => ?_) AllReadyIn.nil
      go_simp
      refine hK _ _ ?_
      clear hK K
      refine wpAnyIn_done (by kernel_rfl) ?_ _
      obtain ⟨V3, hV3⟩ : ∃ V3, V3 = (V4.setCell ⟨o.g, 9, none⟩ (.int .i64 f3)).drew := ⟨_, rfl⟩
      rw [← hV3]
      have hI3 : TurnI o xs ys w (upd s.1 i q, f3) V3 := by rw [hV3]; exact (HI4.out.set HA.out HB.out hg (odoC_setOff f3)).drew
      have HK3 : Hid (KeepsOthers W V3) := Lib.hid (by rw [hV3]; exact HK4.out.trans ((KeepsOthers.setCell _ _ _).trans (KeepsOthers.drew _)))
      have HP3 : Hid (V3.heap[w.heap.size + 1]? = W.heap[w.heap.size + 1]?) := Lib.hid (by rw [hV3]; exact (Below.heap_setCell _ _ _ _ (by show w.heap.size + 1 ≠ o.g; omega)).trans HP4.out)
      have HF3 := Lib.hid hf3
      have HM := Lib.hid hm
      clear hV3 e0 e1 e2 e3 e3f e4 e4f cB hf3 hm HI4 HK4 HP4
      obtain ⟨e0, e1, e2, e3, e3f, e4, e4f⟩ := hI3.see i hi6
      have HI3 := Lib.hid hI3
      clear hI3
      gi_wp2
      refine ⟨(HK3.out.trans (KeepsOthers.setCell _ _ _)).from _, ⟨(Below.heap_setCell _ _ _ _ (by show w.heap.size + 1 ≠ o.g; omega)).trans HP3.out, fun _ => by first | exact HI3.out.rx.far HA.out _ | (rw [← eA]; exact HI3.out.rx.far HA.out _)⟩, (upd s.1 i 0, f3), ?_, ?_, ?_⟩
      · have hc : contO xs ys s i = some (upd s.1 i 0, f3) := by
          unfold contO
          rw [HXX.out, Int.toNat_natCast, HD.out, HQ.out, if_neg (by omega), HF.out, HYY.out, HF2.out, HM.out, HF3.out]
        rw [foldO_snoc, HS.out]
        exact hc
      · have hc : contO xs ys s i = some (upd s.1 i 0, f3) := by
          unfold contO
          rw [HXX.out, Int.toNat_natCast, HD.out, HQ.out, if_neg (by omega), HF.out, HYY.out, HF2.out, HM.out, HF3.out]
        rw [List.length_append]
        exact HBDS.out.cont hc H1.out H2.out hi
      · have h := HI3.out.set HA.out HB.out hg (s' := (upd s.1 i 0, f3)) (i := 3 + i) (u := .int .i64 ((0 : Nat) : Int)) (by
          rw [odoC_setD i 0 hi6]
          congr 1
          funext j
          simp only [upd]
          split <;> rfl)
        exact h
  case done =>
    rintro D ys' W hD rfl ⟨s, hs, _, hI⟩ hK
    exfalso
    have h1' : ∀ x ∈ xs, 1 ≤ x := fun x hx => by
      obtain ⟨j, hj, rfl⟩ := List.getElem_of_mem hx
      have := (H1.out j hj).1
      rwa [nth_eq _ _ hj] at this
    have := (carried xs ys h1' o.off0 p xs.length (Nat.le_refl _) s hs).2
    exact not_all xs ys h1' p HNX.out (fun i _ h3 => this i (by omega) h3)
  case stop =>
    rintro D c pre W hD ⟨k, hk, rfl⟩ ⟨rfl, pre', x, s, he, hs, hlt, hblk, honly⟩ hK
    have h1' : ∀ x ∈ xs, 1 ≤ x := fun x hx => by
      obtain ⟨j, hj, rfl⟩ := List.getElem_of_mem hx
      have := (H1.out j hj).1
      rwa [nth_eq _ _ hj] at this
    have hkk : xs.length - 1 - k < xs.length := by omega
    have e : downs xs.length (k + 1) = downs xs.length k ++ [⟨xs.length - 1 - k, hkk⟩] := by conv => lhs; unfold downs; rw [dif_pos (by omega)]
    rw [e] at he
    obtain ⟨rfl, hx⟩ := List.append_inj' he rfl
    injection hx with hx _
    subst hx
    obtain ⟨rfl, hc⟩ := carried xs ys h1' o.off0 p k (by omega) s hs
    have hdk : dgC xs p k (xs.length - 1 - k) = dg xs p (xs.length - 1 - k) := if_pos (by omega)
    dsimp only at hlt hblk
    rw [hdk] at hlt hblk
    obtain ⟨t1, t2⟩ := turn_digits xs ys h1' o.off0 p k hk hc hlt
    rw [t1, t2] at hblk
    have HBL := Lib.hid hblk
    have HON := Lib.hid honly
    clear e he hs hlt hblk honly hc hdk t1 t2 h1'
    gi_wp2
    refine ⟨by simp, .inl ⟨_, _, rfl, run_takeDeferred hK, ?_⟩⟩
    have hg' := grownBy_putObj' W D (.deferred none)
    have hr : ∀ r, some D = some r → ∃ o : Obj, W.heap[r]? = some o ∧ o.isCells = false := fun r e => by cases e; exact ⟨_, hK, rfl⟩
    refine ⟨.tuple #[], ?_, ⟨_, rfl⟩, blk_kept HBL.out hg' hr, HON.out.grown hg' (fun k e => by cases e; right; omega)⟩
    simp [results, Try.f64, go_sem]
end Go.Proofs.Ythjkeefdeeljoaa.Shp
