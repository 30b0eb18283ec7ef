/- The odometer: Next, Left, At. -/
import Derived.Test.YthjkeefdeeljoaaPk20
import Derived.Test.YthjkeefdeeljoaaPk21
import Derived.Test.YthjkeefdeeljoaaPk12
namespace Go.Proofs.Ythjkeefdeeljoaa.Shp
open Go.RowKit Go.Shelf Go.Proofs.Ythjkeefdeeljoaa.Num
set_option linter.unusedVariables false
set_option linter.unusedSimpArgs false

/-- An odometer in block g, its rows in blocks below hi: of n cells m have been told; st: is one being told? -/
def OdoN (g hi : Nat) (xs ys : List Int) (off0 : Int) (n m : Nat) (st : Bool) (w : World) : Prop :=
  ∃ (A : Option Addr) (ca : Nat) (B : Option Addr) (cb p : Nat), Blk w g 90 (odoC A xs.length ca B xs.length cb off0 (digF xs p) (plO xs ys off0 p) ((n - m : Nat) : Int) st) ∧ ReadsI w .i64 A xs ∧ ReadsI w .i64 B ys ∧
    (∀ b off, A = some ⟨b, off, none⟩ → g < b ∧ b < hi) ∧ (∀ b off, B = some ⟨b, off, none⟩ → g < b ∧ b < hi) ∧ g < hi ∧ m ≤ n ∧ (st = true → p + 1 = m) ∧ (st = false → m = n ∨ (m = 0 ∧ p = 0))
section
variable {g hi : Nat} {xs ys : List Int} {off0 : Int} {n m : Nat} {st : Bool} {w w' : World}
theorem OdoN.below (h : OdoN g hi xs ys off0 n m st w) (hb : Below w.heap.size w w') : OdoN g hi xs ys off0 n m st w' := by
  obtain ⟨A, ca, B, cb, p, h1, h2, h3, h4⟩ := h
  exact ⟨A, ca, B, cb, p, h1.below' hb, h2.below hb, h3.below hb, h4⟩
theorem readsI_only {T : Nat} {k : IntKind} {A : Option Addr} {xs : List Int} (h : ReadsI w k A xs) (hb : Only T w w') (hA : ∀ b off, A = some ⟨b, off, none⟩ → b ≠ T) : ReadsI w' k A xs := fun i hi => by
  obtain ⟨b, off, e, hc⟩ := h i hi
  exact ⟨b, off, e, (World.cell?_of_block (hb.other b (World.block_lt_of_cell? w _ hc) (hA b off e))).trans hc⟩
theorem OdoN.only (h : OdoN g hi xs ys off0 n m st w) {T : Nat} (hb : Only T w w') (hT : T < g ∨ hi ≤ T) : OdoN g hi xs ys off0 n m st w' := by
  obtain ⟨A, ca, B, cb, p, h1, h2, h3, h4, h5, h6, h7⟩ := h
  exact ⟨A, ca, B, cb, p, hb.blk h1 (by omega), readsI_only h2 hb (fun b off e => by have := h4 b off e; omega), readsI_only h3 hb (fun b off e => by have := h5 b off e; omega), h4, h5, h6, h7⟩
theorem OdoN.kept (h : OdoN g hi xs ys off0 n m st w) {row : Option Nat} (hg : w.grownBy w' row) (hr : ∀ r, row = some r → ∃ o : Obj, w.heap[r]? = some o ∧ o.isCells = false) : OdoN g hi xs ys off0 n m st w' := by
  obtain ⟨A, ca, B, cb, p, h1, h2, h3, h4⟩ := h
  exact ⟨A, ca, B, cb, p, blk_kept h1 hg hr, h2.kept hg hr, h3.kept hg hr, h4⟩
end
theorem digF_zero (xs : List Int) : digF xs 0 = fun _ => 0 := by
  funext i
  unfold digF dg
  split <;> simp
theorem dotF_zero (ys : List Int) : ∀ k, dotF (fun _ => 0) ys k = 0
  | 0 => rfl
  | k + 1 => by unfold dotF; rw [dotF_zero ys k]; simp
theorem plO_zero (xs ys : List Int) (off : Int) : plO xs ys off 0 = off := by unfold plO; rw [digF_zero, dotF_zero]; omega
/-- What vrB and a cell that is there give. -/
theorem view_bounds {xs ys : List Int} {off0 : Int} (hv : vrB xs ys off0 = true) (hp : 0 < prod xs) : rightB xs = true ∧ (∀ x ∈ xs, 1 ≤ x) ∧ (∀ j, j < xs.length → 1 ≤ nth xs j ∧ nth xs j ≤ 1048576) ∧ (∀ j, j < xs.length → -1048576 ≤ nth ys j ∧ nth ys j ≤ 1048576) ∧ ys.length = xs.length ∧ xs.length ≤ 6 ∧ prod xs ≤ 1048576 ∧ 0 ≤ off0 ∧ off0 ≤ 16777216 := by
  obtain ⟨h1, h2, h3, h4, h5⟩ := vrB_out hv
  unfold sizeOk at h1
  simp only [Bool.and_eq_true, decide_eq_true_eq] at h1
  have hm := rightB_mem h1.1
  have hx := prod_pos_mem xs (fun x hx => (hm.2 x hx).1) hp
  exact ⟨h1.1, hx, fun j hj => ⟨hx _ (nth_mem xs j hj), (hm.2 _ (nth_mem xs j hj)).2⟩, fun j hj => near_mem h3 _ (nth_mem ys j (by omega)), h2, hm.1, h1.2, h4, h5⟩
theorem dotF_bd (xs ys : List Int) (p : Nat) (h1 : ∀ j, j < xs.length → 1 ≤ nth xs j ∧ nth xs j ≤ 1048576) (h2 : ∀ j, j < xs.length → -1048576 ≤ nth ys j ∧ nth ys j ≤ 1048576) : ∀ k, k ≤ xs.length → -((k : Int) * 1099511627776) ≤ dotF (digF xs p) ys k ∧ dotF (digF xs p) ys k ≤ (k : Int) * 1099511627776
  | 0, _ => by simp [dotF]
  | k + 1, hk => by
    obtain ⟨i1, i2⟩ := dotF_bd xs ys p h1 h2 k (by omega)
    have e : digF xs p k = dg xs p k := if_pos (by omega)
    have hd : dg xs p k < (nth xs k).toNat := Nat.mod_lt _ (by have := h1 k (by omega); omega)
    have h3 := h1 k (by omega)
    have h4 := h2 k (by omega)
    have h5 := mul_bd (a := (digF xs p k : Int)) (y := nth ys k) (by omega) (by omega) h4.1 h4.2
    unfold dotF
    rw [show ((k + 1 : Nat) : Int) = (k : Int) + 1 from rfl]
    omega
theorem plO_bd {xs ys : List Int} {off0 : Int} (h1 : ∀ j, j < xs.length → 1 ≤ nth xs j ∧ nth xs j ≤ 1048576) (h2 : ∀ j, j < xs.length → -1048576 ≤ nth ys j ∧ nth ys j ≤ 1048576) (h6 : xs.length ≤ 6) (h4 : 0 ≤ off0) (h5 : off0 ≤ 16777216) (p : Nat) : BdO xs (digF xs p, plO xs ys off0 p) 0 := by
  have hb := dotF_bd xs ys p h1 h2 xs.length (Nat.le_refl _)
  refine ⟨fun i hi => ?_, ?_, ?_⟩
  · have e : digF xs p i = dg xs p i := if_pos hi
    have hd : dg xs p i < (nth xs i).toNat := Nat.mod_lt _ (by have := h1 i hi; omega)
    show digF xs p i + 1 ≤ _
    omega
  · show _ ≤ off0 + dotF (digF xs p) ys xs.length
    omega
  · show off0 + dotF (digF xs p) ys xs.length ≤ _
    omega
theorem turn_calls (A B : Option Addr) (ca cb g hi : Nat) (xs ys : List Int) (off0 left : Int) (st : Bool) (p : Nat) (w : World) (hb : Blk w g 90 (odoC A xs.length ca B xs.length cb off0 (digF xs p) (plO xs ys off0 p) left st)) (hx : ReadsI w .i64 A xs) (hy : ReadsI w .i64 B ys)
    (hA : ∀ b off, A = some ⟨b, off, none⟩ → g < b ∧ b < hi) (hB : ∀ b off, B = some ⟨b, off, none⟩ → g < b ∧ b < hi) (hv : vrB xs ys off0 = true) (hnx : ((p + 1 : Nat) : Int) < prod xs) :
    Calls Try.prog 64 #[.pointer (some ⟨g, 0, none⟩)] w fun e w' => (∃ v, e = .returned v) ∧ Blk w' g 90 (odoC A xs.length ca B xs.length cb off0 (digF xs (p + 1)) (plO xs ys off0 (p + 1)) left st) ∧ Only g w w' := by
  obtain ⟨b1, b2, b3, b4, b5, b6, b7, b8, b9⟩ := view_bounds hv (by omega)
  exact callsIn_wide.1 (turn_in ⟨A, ca, B, cb, g, off0, left, st⟩ xs ys p w hb hx hy b5 (fun b off e => by have := hA b off e; show b ≠ g; omega) (fun b off e => by have := hB b off e; show b ≠ g; omega) b6 b3 b4 (plO_bd b3 b4 b6 b8 b9 p) hnx)

theorem next_nil (w : World) : Calls Try.prog 22 #[.pointer none] w fun e w' => e = .returned (.tuple #[.int .i64 0, .bool false]) ∧ w = w' := by
  go_enter Try.func22, Try.ntmps22
  go_wp2
  go_ret2
  exact ⟨rfl, rfl⟩
theorem left_nil (w : World) : Calls Try.prog 18 #[.pointer none] w fun e w' => e = .returned (.int .i64 0) ∧ w = w' := by
  go_enter Try.func18, Try.ntmps18
  go_wp2
  go_ret
  exact ⟨rfl, rfl⟩
theorem oat_nil (w : World) : Calls Try.prog 21 #[.pointer none] w fun e w' => e = .returned (.slice none 0 0) ∧ w = w' := by
  go_enter Try.func21, Try.ntmps21
  go_wp2
  go_ret
  exact ⟨rfl, rfl⟩
theorem left_calls {g hi : Nat} {xs ys : List Int} {off0 : Int} {n m : Nat} {st : Bool} (w : World) (h : OdoN g hi xs ys off0 n m st w) : Calls Try.prog 18 #[.pointer (some ⟨g, 0, none⟩)] w fun e w' => e = .returned (.int .i64 ((n - m : Nat) : Int)) ∧ w = w' := by
  obtain ⟨A, ca, B, cb, p, h1, _⟩ := h
  have e1 : w.cell? ⟨g, 10, none⟩ = _ := h1.cell 10
  simp only [odoC, List.getElem?_toArray, List.getElem?_cons_succ, List.getElem?_cons_zero] at e1
  clear h1
  go_enter Try.func18, Try.ntmps18
  go_wp2
  go_ret
  exact ⟨rfl, rfl⟩
theorem next_no {g hi : Nat} {xs ys : List Int} {off0 : Int} {n m : Nat} {st : Bool} (w : World) (h : OdoN g hi xs ys off0 n m st w) (hmn : m = n) : Calls Try.prog 22 #[.pointer (some ⟨g, 0, none⟩)] w fun e w' => e = .returned (.tuple #[.int .i64 0, .bool false]) ∧ OdoN g hi xs ys off0 n n false w' ∧ Only g w w' := by
  subst hmn
  obtain ⟨A, ca, B, cb, p, h1, h2, h3, h4, h5, h6, h7, h8, h9⟩ := h
  rw [Nat.sub_self] at h1
  have e1 : w.cell? ⟨g, 10, none⟩ = some (.int .i64 ((0 : Nat) : Int)) := h1.cell 10
  have e2 : w.cell? ⟨g, 11, none⟩ = some (.bool st) := h1.cell 11
  have e2f := h1.frozen 11
  have HF : Hid (OdoN g hi xs ys off0 m m false (w.setCell ⟨g, 11, none⟩ (.bool false))) := Lib.hid ⟨A, ca, B, cb, p, by rw [Nat.sub_self, ← odoC_setSt (st := st)]; exact h1.set 11 _, h2.far (fun b off e => by have := h4 b off e; show b ≠ g; omega) _, h3.far (fun b off e => by have := h5 b off e; show b ≠ g; omega) _, h4, h5, h6, Nat.le_refl _, (fun h => by cases h), fun _ => .inl rfl⟩
  have HO : Hid (Only g w (w.setCell ⟨g, 11, none⟩ (.bool false))) := Lib.hid ((Only.refl g w).set (.inl rfl) _)
  clear h1 h2 h3 h4 h5 h6 h7 h8 h9
  go_enter Try.func22, Try.ntmps22
  go_wp2
  go_ret2
  exact ⟨rfl, HF.out, HO.out⟩
set_option maxHeartbeats 1000000 in
theorem next_yes {g hi : Nat} {xs ys : List Int} {off0 : Int} {n m : Nat} {st : Bool} (w : World) (h : OdoN g hi xs ys off0 n m st w) (hmn : m < n) (hv : vrB xs ys off0 = true) (hn : (n : Int) ≤ prod xs) :
    Calls Try.prog 22 #[.pointer (some ⟨g, 0, none⟩)] w fun e w' => e = .returned (.tuple #[.int .i64 (plO xs ys off0 m), .bool true]) ∧ OdoN g hi xs ys off0 n (m + 1) true w' ∧ Only g w w' := by
  obtain ⟨A, ca, B, cb, p, h1, h2, h3, h4, h5, h6, h7, h8, h9⟩ := h
  obtain ⟨l, hl⟩ : ∃ l, n - m = l + 1 := ⟨n - m - 1, by omega⟩
  have hl2 : n - (m + 1) = l := by omega
  obtain ⟨b1, b2, b3, b4, b5, b6, b7, b8, b9⟩ := view_bounds hv (by omega)
  have e1 : w.cell? ⟨g, 10, none⟩ = some (.int .i64 ((n - m : Nat) : Int)) := h1.cell 10
  have e1f := h1.frozen 10
  have e2 : w.cell? ⟨g, 11, none⟩ = some (.bool st) := h1.cell 11
  have e2f := h1.frozen 11
  have hlb : (l : Int) ≤ 1048576 := by omega
  rw [hl] at e1
  have e1' : w.cell? ⟨g, 10, none⟩ = some (.int .i64 ((l : Int) + 1)) := e1
  have hz : (((l : Int) + 1) == 0) = false := by simp; omega
  have HN : Hid (∀ (W : World), Blk W g 90 (odoC A xs.length ca B xs.length cb off0 (digF xs m) (plO xs ys off0 m) ((l + 1 : Nat) : Int) st) → Only g w W → OdoN g hi xs ys off0 n (m + 1) true ((W.setCell ⟨g, 11, none⟩ (.bool true)).setCell ⟨g, 10, none⟩ (.int .i64 (l : Int)))) := Lib.hid (fun W hW ho =>
    ⟨A, ca, B, cb, m, by rw [hl2, ← odoC_setLeft (left := ((l + 1 : Nat) : Int)), ← odoC_setSt (st := st)]; exact (hW.set 11 _).set 10 _,
      ((readsI_only h2 ho (fun b off e => by have := h4 b off e; omega)).far (fun b off e => by have := h4 b off e; show b ≠ g; omega) _).far (fun b off e => by have := h4 b off e; show b ≠ g; omega) _,
      ((readsI_only h3 ho (fun b off e => by have := h5 b off e; omega)).far (fun b off e => by have := h5 b off e; show b ≠ g; omega) _).far (fun b off e => by have := h5 b off e; show b ≠ g; omega) _, h4, h5, h6, by omega, (fun _ => rfl), (fun h => by cases h)⟩)
  cases st with
  | false =>
    obtain ⟨rfl, rfl⟩ : m = 0 ∧ p = 0 := by
      rcases h9 rfl with h | h
      · omega
      · exact h
    rw [hl] at h1
    have e3 : w.cell? ⟨g, 9, none⟩ = some (.int .i64 (plO xs ys off0 0)) := h1.cell 9
    have HF := Lib.hid (HN.out w h1 (Only.refl g w))
    have HO : Hid (Only g w ((w.setCell ⟨g, 11, none⟩ (.bool true)).setCell ⟨g, 10, none⟩ (.int .i64 (l : Int)))) := Lib.hid (((Only.refl g w).set (.inl rfl) _).set (.inl rfl) _)
    clear h1 h2 h3 h4 h5 h6 h7 h8 h9 HN e1 hl hl2 b1 b2 b3 b4 b5 b6 b7 b8 b9 hv hn
    generalize plO xs ys off0 0 = f at *
    go_enter Try.func22, Try.ntmps22
    go_wp2
    go_ret2
    exact ⟨rfl, HF.out, HO.out⟩
  | true =>
    have hpm : p + 1 = m := h8 rfl
    rw [hl] at h1
    have HT := Lib.hid (turn_calls A B ca cb g hi xs ys off0 ((l + 1 : Nat) : Int) true p w h1 h2 h3 h4 h5 hv (by omega))
    rw [hpm] at HT
    clear h1 h2 h3 h4 h5 h6 h7 h8 h9 e1 hl hl2 b1 b2 b3 b4 b5 b6 b7 b8 b9 hv hn hpm
    generalize hf : plO xs ys off0 m = f at *
    go_enter Try.func22, Try.ntmps22
    go_wp2_with fail
    refine HT.out.mono ?_
    rintro e w1 ⟨⟨v, rfl⟩, hb1, ho1⟩
    have d1 : w1.cell? ⟨g, 10, none⟩ = some (.int .i64 ((l : Int) + 1)) := hb1.cell 10
    have d1f := hb1.frozen 10
    have d2 : w1.cell? ⟨g, 11, none⟩ = some (.bool true) := hb1.cell 11
    have d2f := hb1.frozen 11
    have d3 : w1.cell? ⟨g, 9, none⟩ = some (.int .i64 f) := hb1.cell 9
    have HF := Lib.hid (HN.out w1 hb1 ho1)
    have HO : Hid (Only g w ((w1.setCell ⟨g, 11, none⟩ (.bool true)).setCell ⟨g, 10, none⟩ (.int .i64 (l : Int)))) := Lib.hid ((ho1.set (.inl rfl) _).set (.inl rfl) _)
    clear hb1 ho1 HN
    go_wp2
    go_ret2
    exact ⟨rfl, HF.out, HO.out⟩
end Go.Proofs.Ythjkeefdeeljoaa.Shp
