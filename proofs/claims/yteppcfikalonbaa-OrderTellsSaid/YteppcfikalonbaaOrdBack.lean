/- Contracts of ref.Take, order.Back and ref.Back. -/
import Derived.Test.YteppcfikalonbaaOrdTake
namespace Go.Proofs.Yteppcfikalonbaa.Ord
open Go.RowKit
set_option linter.unusedVariables false
set_option linter.unusedSimpArgs false

set_option maxHeartbeats 1000000 in
theorem refTake_calls (A C : Option Addr) (ca cc : Nat) (xs ps : List Int) (w : World) (hx : ReadsI w .i64 A xs) (hy : ReadsI w .i64 C ps) (hlx : xs.length ≤ 10000000) (hly : ps.length ≤ 10000000) :
    Calls Try.prog 8 #[.slice A xs.length ca, .slice C ps.length cc] w fun e w' => (∃ v, e = .returned (.tuple #[v, .bool (inRange xs ps)]) ∧ ShowsI w' .i64 v (takeL xs ps)) ∧ Below w.heap.size w w' := by
  have HX := Lib.hid hx
  have HY := Lib.hid hy
  clear hx hy
  go_enter Try.func8, Try.ntmps8
  go_wp2_with fail
  go_loopw [6, 7] (fun v i wr => ∃ (k : Nat), i = .int .i64 k ∧ k ≤ ps.length ∧ Hid (inRange xs (ps.take k) = true) ∧ Hid (OwnI wr w.heap.size 3 .i64 v (picks xs (ps.take k))) ∧ Below w.heap.size w wr ∧ w.heap.size ≤ wr.heap.size) (fun _ i _ => ps.length - (intOf i).toNat)
  case atStart => exact ⟨0, rfl, Nat.zero_le _, Lib.hid (by simp [inRange]), Lib.hid (by simpa [picks] using ownI_nil w _ _ _), Below.refl _ _, Nat.le_refl _⟩
  case round =>
    obtain ⟨k, rfl, hk, HR, HO, hB, hsz⟩ := hrel
    by_cases hlt : k < ps.length
    · obtain ⟨b', off', rfl, hc'⟩ := HY.out.below hB k hlt
      have H2 := Lib.hid (take_nth ps k hlt)
      generalize hpk : nth ps k = p at *
      by_cases hp : 0 ≤ p ∧ p < xs.length
      · obtain ⟨q, rfl⟩ := Int.eq_ofNat_of_zero_le hp.1
        have hq : q < xs.length := by omega
        obtain ⟨b, off, rfl, hc⟩ := HX.out.below hB q hq
        generalize hxq : nth xs q = x at *
        have hln : (picks xs (ps.take k)).length ≤ 10000000 := by simp [picks]; omega
        have HPK := Lib.hid hpk
        have HXQ := Lib.hid hxq
        clear hpk hxq
        go_wp2_with (at_builtin; refine app_row (w0 := w) w.heap.size rfl (.tmp 28) (.tmp 36) 22 3 (.int .i64 0) 1 8 rfl Try.underlying22 info_int rfl (by decide) u6 _ _ #[.int .i64 x] rfl rfl rfl (by simp [Value.oneCell']) HO.out hB hsz (by omega) (by omega) ?_; intro v1 w1 hown1 hB1 hg1 hsz1)
        go_roundw
        case measure => simp [intOf]; omega
        case rel =>
          refine ⟨k + 1, by go_num, by omega, Lib.hid ?_, Lib.hid ?_, hB1, hsz1⟩
          · have h := HR.out
            unfold inRange at h ⊢
            rw [H2.out, List.all_append, h]
            simpa using hq
          · rw [H2.out]
            unfold picks
            rw [List.map_append]
            simp only [List.map_cons, List.map_nil, Int.toNat_natCast, HXQ.out]
            exact OwnI.snoc (by simpa [picks] using hown1)
      · have hno : inRange xs ps = false := by
          have hm := nth_mem ps k hlt
          rw [hpk] at hm
          unfold inRange
          rw [List.all_eq_false]
          exact ⟨p, hm, by simpa using hp⟩
        have HNO := Lib.hid hno
        have HP := Lib.hid hp
        clear hno hp hpk
        by_cases h0 : p < 0
        all_goals try have h1 : (xs.length : Int) ≤ p := by have := HP.out; omega
        all_goals
          go_wp2_with fail
          go_ret2
          refine ⟨⟨.slice none 0 0, ?_, ?_⟩, hB⟩
          · rw [HNO.out]; rfl
          · unfold takeL; rw [HNO.out]; exact ⟨none, 0, rfl, Nat.le_refl _, fun i hi => by simp at hi⟩
    · go_wp2_with fail
      go_ret2
      have hyes : inRange xs ps = true := by have := HR.out; rwa [List.take_of_length_le (by omega)] at this
      have ho := HO.out
      rw [List.take_of_length_le (by omega)] at ho
      exact ⟨⟨u6, by rw [hyes]; rfl, by unfold takeL; rw [if_pos hyes]; exact ho.shows⟩, hB⟩

/-- Cells off .. of block b hold these things, each in one cell, and may be written. -/
def RowE {α : Type} [Inhabited α] (enc : α → Value) (w : World) (b off : Nat) (xs : List α) : Prop :=
  ∀ i, i < xs.length → w.cell? ⟨b, off + i, none⟩ = some (enc (nth xs i)) ∧ w.frozen? ⟨b, off + i, none⟩ = false
section
variable {α : Type} [Inhabited α] {enc : α → Value} {w w' : World} {b off : Nat} {xs ys : List α}
theorem RowE.same (h : RowE enc w b off xs) (hc : ∀ i, i < xs.length → w'.cell? ⟨b, off + i, none⟩ = w.cell? ⟨b, off + i, none⟩) (hf : ∀ i, i < xs.length → w'.frozen? ⟨b, off + i, none⟩ = w.frozen? ⟨b, off + i, none⟩) : RowE enc w' b off xs :=
  fun i hi => ⟨(hc i hi).trans (h i hi).1, (hf i hi).trans (h i hi).2⟩
theorem RowE.other (h : RowE enc w b off xs) {c lo hi : Nat} (k : Wrote w w' c lo hi) (hne : b ≠ c) : RowE enc w' b off xs :=
  h.same (fun _ _ => k.cell_other hne) (fun _ _ => k.frozen_other hne)
theorem RowE.below (h : RowE enc w b off xs) (hb : Below w.heap.size w w') : RowE enc w' b off xs := fun i hi => by
  have := World.block_lt_of_cell? w _ (h i hi).1
  exact ⟨(hb.cell this).trans (h i hi).1, (hb.frozen this).trans (h i hi).2⟩
theorem RowE.set (h : RowE enc w b off xs) (k : Nat) (v : α) (hk : k < xs.length) : RowE enc (w.setCell ⟨b, off + k, none⟩ (enc v)) b off (xs.set k v) := fun i hi => by
  have hi' : i < xs.length := by simpa using hi
  rw [World.frozen?_setCell]
  refine ⟨?_, (h i hi').2⟩
  by_cases e : i = k
  · subst e
    rw [World.cell?_setCell_same _ _ _ (h i hi').1, nth_eq _ _ hi, List.getElem_set_self]
  · rw [World.cell?_setCell_other _ _ _ _ (by intro e'; injection e'; omega), (h i hi').1, nth_eq _ _ hi, nth_eq _ _ hi', List.getElem_set_ne (by omega)]
/-- A new row, all alike. -/
theorem rowE_made (enc : α → Value) (w : World) (t : TypeId) (m : Nat) (x : α) : RowE enc (w.alloc (.cells (madeCells #[enc x] m) t)) w.heap.size 0 (List.replicate m x) := fun i hi => by
  have hi' : i < m := by simpa using hi
  rw [nth_replicate _ _ _ hi', World.frozen?_alloc_at _ _ _ _ rfl, Nat.zero_add, World.cell?_alloc_at _ _ _ _ rfl]
  refine ⟨?_, by simp⟩
  have e : (madeCells #[enc x] m)[i]? = (madeCells #[enc x] m).toList[i]? := by simp
  rw [e, toList_madeCells_one, List.getElem?_replicate, if_pos hi']
end
theorem RowE.shows {enc : Int → Value} {k : IntKind} (he : ∀ x, enc x = .int k x) {w : World} {b : Nat} {L : List Int} (h : RowE enc w b 0 L) : ReadsI w k (some ⟨b, 0, none⟩) L := fun i hi => by
  refine ⟨b, 0, rfl, ?_⟩
  rw [(h i hi).1, he]

/-- Where each place comes: the numbers so far. -/
def backGo : List Int → Nat → List (Option Nat) → Option (List (Option Nat))
  | [], _, st => some st
  | p :: ps, i, st => if 0 ≤ p ∧ p < st.length ∧ nth st p.toNat = none then backGo ps (i + 1) (st.set p.toNat (some i)) else none
def backL (ps : List Int) : Option (List (Option Nat)) := backGo ps 0 (List.replicate ps.length none)
theorem backGo_length : ∀ (ps : List Int) (i : Nat) (st r : List (Option Nat)), backGo ps i st = some r → r.length = st.length
  | [], i, st, r, h => by simp [backGo] at h; rw [h]
  | p :: ps, i, st, r, h => by
    unfold backGo at h
    split at h
    · rw [backGo_length ps _ _ r h]; simp
    · simp at h
def somes (st : List (Option Nat)) : Nat := (st.filter Option.isSome).length
theorem somes_set (st : List (Option Nat)) (k v : Nat) (hk : k < st.length) (h : nth st k = none) : somes (st.set k (some v)) = somes st + 1 := by
  induction st generalizing k with
  | nil => simp at hk
  | cons x xs ih =>
    cases k with
    | zero =>
      rw [nth_cons_zero] at h
      subst h
      simp [somes]
    | succ k =>
      rw [nth_cons_succ] at h
      have := ih k (by simpa using hk) h
      unfold somes at *
      simp only [List.set_cons_succ, List.filter_cons]
      split <;> simp [this]
theorem backGo_somes : ∀ (ps : List Int) (i : Nat) (st r : List (Option Nat)), backGo ps i st = some r → somes r = somes st + ps.length
  | [], i, st, r, h => by simp [backGo] at h; rw [h]; rfl
  | p :: ps, i, st, r, h => by
    unfold backGo at h
    split at h
    · rename_i hc
      rw [backGo_somes ps _ _ r h, somes_set st _ _ (by omega) hc.2.2]
      simp; omega
    · simp at h
theorem somes_none (n : Nat) : somes (List.replicate n none) = 0 := by simp [somes]
theorem all_some (st : List (Option Nat)) (h : somes st = st.length) : ∀ x ∈ st, x.isSome = true := by
  have h1 := List.length_filter_eq_length_iff.1 h
  exact h1
/-- All have a place: what stands for none is never seen. -/
theorem backL_all {ps : List Int} {r : List (Option Nat)} (h : backL ps = some r) : r.length = ps.length ∧ ∀ x ∈ r, x.isSome = true := by
  have h1 := backGo_length _ _ _ _ h
  have h2 := backGo_somes _ _ _ _ h
  rw [somes_none] at h2
  simp at h1
  exact ⟨h1, all_some r (by omega)⟩
def placesOf (d : Int) (st : List (Option Nat)) : List Int := st.map fun o => match o with | some i => (i : Int) | none => d
theorem placesOf_all (d d' : Int) (st : List (Option Nat)) (h : ∀ x ∈ st, x.isSome = true) : placesOf d st = placesOf d' st := by
  unfold placesOf
  apply List.map_congr_left
  intro x hx
  have := h x hx
  cases x with
  | none => simp at this
  | some i => rfl
theorem nth_map {α β : Type} [Inhabited α] [Inhabited β] (f : α → β) (l : List α) (i : Nat) (h : i < l.length) : nth (l.map f) i = f (nth l i) := by
  rw [nth_eq _ _ (by simpa using h), nth_eq _ _ h, List.getElem_map]
theorem placesOf_set (d : Int) (st : List (Option Nat)) (k v : Nat) : (placesOf d st).set k (v : Int) = placesOf d (st.set k (some v)) := by
  unfold placesOf
  rw [List.map_set]
theorem isSome_set (st : List (Option Nat)) (k v : Nat) : (st.map Option.isSome).set k true = (st.set k (some v)).map Option.isSome := by
  rw [List.map_set]; rfl
/-- What Back tells. -/
def backOk (ps : List Int) : Bool := (backL ps).isSome
def backR (ps : List Int) : List Int := match backL ps with | some r => placesOf 0 r | none => []
end Go.Proofs.Yteppcfikalonbaa.Ord
