/- Contracts of order.Back and ref.Back: the walks. -/
import Derived.Test.YteppcfikalonbaaOrdBack
namespace Go.Proofs.Yteppcfikalonbaa.Ord
open Go.RowKit
set_option linter.unusedVariables false
set_option linter.unusedSimpArgs false

theorem RowE.far {α : Type} [Inhabited α] {enc : α → Value} {w : World} {b off : Nat} {xs : List α} (h : RowE enc w b off xs) (a : Addr) (v : Value) (hne : a.block ≠ b) : RowE enc (w.setCell a v) b off xs :=
  h.same (fun i _ => World.cell?_setCell_other _ _ _ _ (by intro e; exact hne (by rw [e]))) (fun i _ => World.frozen?_setCell _ _ _ _)
theorem info_bool : (Try.prog.info? 4).map (fun i => (i.zero, i.size, i.bytes)) = some (some (.bool false), 1, 1) := by kernel_rfl
theorem make_bools (m : Nat) (hm : m ≤ 10000000) : ∀ W : World, (Instr.makeSlice 39 (.int .i64 (m : Int)) (.int .i64 (m : Int))).run Try.prog W = .ok (.slice (some ⟨W.heap.size, 0, none⟩) m m) (W.alloc (.cells (madeCells #[.bool false] m) 4)) :=
  fun W => run_make_row' 39 4 (.bool false) 1 Try.underlying39 info_bool rfl .i64 .i64 m (by omega) (by omega) W

theorem back_start (w : World) (n : Nat) (T0 T1 : TypeId) : ∃ W : World, W = ((w.alloc (.cells (madeCells #[.int .i64 0] n) T0)).alloc (.cells (madeCells #[.bool false] n) T1)) ∧ Below w.heap.size w W ∧
    RowE (Value.int .i64) W w.heap.size 0 (placesOf 0 (List.replicate n none)) ∧ RowE Value.bool W (w.heap.size + 1) 0 ((List.replicate n (none : Option Nat)).map Option.isSome) := by
  refine ⟨_, rfl, bl_alloc (bl_alloc (Below.refl _ _) _) _, ?_, ?_⟩
  · have h := (rowE_made (Value.int .i64) w T0 n 0).below (bl_alloc (Below.refl _ _) (.cells (madeCells #[.bool false] n) T1))
    simpa [placesOf] using h
  · have h := rowE_made Value.bool (w.alloc (.cells (madeCells #[.int .i64 0] n) T0)) T1 n false
    rw [World.size_alloc] at h
    simpa using h

theorem backL_step {ps : List Int} {k : Nat} {st : List (Option Nat)} (hk : k < ps.length) (h : backL ps = backGo (ps.drop k) k st) : backL ps = if 0 ≤ nth ps k ∧ nth ps k < st.length ∧ nth st (nth ps k).toNat = none then backGo (ps.drop (k + 1)) (k + 1) (st.set (nth ps k).toNat (some k)) else none := by
  rw [h, List.drop_eq_getElem_cons hk, nth_eq _ _ hk]
  rfl

set_option maxHeartbeats 2000000 in
theorem back_calls (C : Option Addr) (cc : Nat) (ps : List Int) (w : World) (hy : ReadsI w .i64 C ps) (hly : ps.length ≤ 1000000) :
    Calls Try.prog 9 #[.slice C ps.length cc] w fun e w' => (∃ v, e = .returned (.tuple #[v, .bool (backOk ps)]) ∧ ShowsI w' .i64 v (backR ps)) ∧ Below w.heap.size w w' := by
  have HY := Lib.hid hy
  have hmk := make_ints ps.length (by omega)
  have hmb := make_bools ps.length (by omega)
  clear hy
  go_enter Try.func9, Try.ntmps9
  go_wp2_with fail
  obtain ⟨W, hW, hb, ho, hh⟩ := back_start w ps.length 3 4
  rw [← hW]
  have HO := Lib.hid ho
  have HH := Lib.hid hh
  clear hW ho hh hmk hmb
  go_loopw [6, 7, 16] (fun _ _ i wr => ∃ (k : Nat) (st : List (Option Nat)), i = .int .i64 k ∧ k ≤ ps.length ∧ Hid (backL ps = backGo (ps.drop k) k st) ∧ Hid (st.length = ps.length) ∧ Hid (RowE (Value.int .i64) wr w.heap.size 0 (placesOf 0 st)) ∧ Hid (RowE Value.bool wr (w.heap.size + 1) 0 (st.map Option.isSome)) ∧ Below w.heap.size w wr) (fun _ _ i _ => ps.length - (intOf i).toNat)
  case atStart => exact ⟨0, List.replicate ps.length none, rfl, Nat.zero_le _, Lib.hid rfl, Lib.hid (by simp), HO, HH, hb⟩
  case round =>
    obtain ⟨k, st, rfl, hk, HB, HL, HO, HH, hB⟩ := hrel
    clear hb
    by_cases hlt : k < ps.length
    · obtain ⟨b, off, rfl, hc⟩ := HY.out.below hB k hlt
      have HS := Lib.hid (backL_step hlt HB.out)
      generalize nth ps k = p at *
      have hno : ¬ (0 ≤ p ∧ p < st.length ∧ nth st p.toNat = none) → backOk ps = false ∧ backR ps = [] := fun h => by
        have := HS.out
        rw [if_neg h] at this
        unfold backOk backR
        rw [this]
        exact ⟨rfl, rfl⟩
      have HNO := Lib.hid hno
      clear hno
      by_cases h0 : p < 0
      · have HN := HNO.out (fun h => by omega)
        have HN' := Lib.hid HN
        clear HN
        go_wp2_with fail
        go_ret2
        exact ⟨⟨.slice none 0 0, by rw [HN'.out.1]; rfl, by rw [HN'.out.2]; exact ⟨none, 0, rfl, Nat.le_refl _, fun i hi => by simp at hi⟩⟩, hB⟩
      · by_cases h1 : (ps.length : Int) ≤ p
        · have HN := HNO.out (fun h => by have := HL.out; omega)
          have HN' := Lib.hid HN
          clear HN
          go_wp2_with fail
          go_ret2
          exact ⟨⟨.slice none 0 0, by rw [HN'.out.1]; rfl, by rw [HN'.out.2]; exact ⟨none, 0, rfl, Nat.le_refl _, fun i hi => by simp at hi⟩⟩, hB⟩
        · obtain ⟨q, rfl⟩ := Int.eq_ofNat_of_zero_le (show 0 ≤ p by omega)
          have hq : q < st.length := by have := HL.out; omega
          have hq' : q < ps.length := by omega
          have ch := HH.out q (by simpa using hq)
          have co := HO.out q (by simpa [placesOf] using hq)
          rw [nth_map _ _ _ hq, Nat.zero_add] at ch
          rw [Nat.zero_add] at co
          obtain ⟨ch, fh⟩ := ch
          obtain ⟨co, fo⟩ := co
          generalize nth (placesOf 0 st) q = z at co
          have hne : (⟨w.heap.size, q, none⟩ : Addr) ≠ ⟨w.heap.size + 1, q, none⟩ := by intro e; injection e; omega
          rw [Int.toNat_natCast] at HNO HS
          cases hs : nth st q with
          | some i =>
            rw [hs] at ch
            have ch' : wr.cell? ⟨w.heap.size + 1, q, none⟩ = some (.bool true) := ch
            have HN := HNO.out (fun h => by rw [hs] at h; simp at h)
            have HN' := Lib.hid HN
            clear HN hs ch
            go_wp2_with fail
            go_ret2
            exact ⟨⟨.slice none 0 0, by rw [HN'.out.1]; rfl, by rw [HN'.out.2]; exact ⟨none, 0, rfl, Nat.le_refl _, fun i hi => by simp at hi⟩⟩, hB⟩
          | none =>
            rw [hs] at ch
            have ch' : wr.cell? ⟨w.heap.size + 1, q, none⟩ = some (.bool false) := ch
            have HST := Lib.hid hs
            clear hs ch
            go_wp2_with fail
            go_roundw
            case measure => simp [intOf]; omega
            case rel =>
              refine ⟨k + 1, st.set q (some k), by go_num, by omega, Lib.hid ?_, Lib.hid (by simp [HL.out]), Lib.hid ?_, Lib.hid ?_, (hB.setCell (p := ⟨w.heap.size, q, none⟩) (Nat.le_refl _) _).setCell (p := ⟨w.heap.size + 1, q, none⟩) (by simp) _⟩
              · rw [HS.out, if_pos ⟨by omega, by omega, HST.out⟩]
              · have h := HO.out.set q (k : Int) (by simpa [placesOf] using hq)
                rw [Nat.zero_add, placesOf_set] at h
                exact h.far ⟨w.heap.size + 1, q, none⟩ _ (by simp)
              · have h := (HH.out.far ⟨w.heap.size, q, none⟩ (.int .i64 k) (by simp)).set q true (by simpa using hq)
                rw [Nat.zero_add, isSome_set] at h
                exact h
    · go_wp2_with fail
      go_ret2
      have hd : ps.drop k = [] := List.drop_of_length_le (by omega)
      have hb := HB.out
      rw [hd] at hb
      have hb' : backL ps = some st := hb
      exact ⟨⟨.slice (some ⟨w.heap.size, 0, none⟩) ps.length ps.length, by unfold backOk; rw [hb']; rfl, by
        unfold backR
        rw [hb']
        have hl : (placesOf 0 st).length = ps.length := by simp [placesOf, HL.out]
        refine ⟨some ⟨w.heap.size, 0, none⟩, ps.length, ?_, by rw [hl]; exact Nat.le_refl _, HO.out.shows (fun _ => rfl)⟩
        show Value.slice _ _ _ = Value.slice _ (placesOf 0 st).length _
        rw [hl]⟩, hB⟩

theorem refBack_start (w : World) (n : Nat) (T0 : TypeId) : ∃ W : World, W = (w.alloc (.cells (madeCells #[.int .i64 0] n) T0)) ∧ Below w.heap.size w W ∧ RowE (Value.int .i64) W w.heap.size 0 (List.replicate n 0) :=
  ⟨_, rfl, bl_alloc (Below.refl _ _) _, rowE_made (Value.int .i64) w T0 n 0⟩
theorem rep_step (k n : Nat) (h : k < n) : (List.replicate k (-1 : Int) ++ List.replicate (n - k) 0).set k (-1) = List.replicate (k + 1) (-1) ++ List.replicate (n - (k + 1)) 0 := by
  obtain ⟨m, rfl⟩ : ∃ m, n = k + 1 + m := ⟨n - (k + 1), by omega⟩
  rw [show k + 1 + m - k = m + 1 by omega, show k + 1 + m - (k + 1) = m by omega, List.replicate_succ' (n := k), List.replicate_succ (n := m)]
  simp

set_option maxHeartbeats 2000000 in
theorem refBack_calls (C : Option Addr) (cc : Nat) (ps : List Int) (w : World) (hy : ReadsI w .i64 C ps) (hly : ps.length ≤ 1000000) :
    Calls Try.prog 10 #[.slice C ps.length cc] w fun e w' => (∃ v, e = .returned (.tuple #[v, .bool (backOk ps)]) ∧ ShowsI w' .i64 v (backR ps)) ∧ Below w.heap.size w w' := by
  have HY := Lib.hid hy
  have hmk := make_ints ps.length (by omega)
  clear hy
  go_enter Try.func10, Try.ntmps10
  go_wp2_with fail
  obtain ⟨W, hW, hb, ho⟩ := refBack_start w ps.length 3
  rw [← hW]
  have HO := Lib.hid ho
  clear hW ho hmk
  go_loopw [5] (fun i wr => ∃ (k : Nat), i = .int .i64 k ∧ k ≤ ps.length ∧ Hid (RowE (Value.int .i64) wr w.heap.size 0 (List.replicate k (-1) ++ List.replicate (ps.length - k) 0)) ∧ Below w.heap.size w wr) (fun i _ => ps.length - (intOf i).toNat)
  case atStart => exact ⟨0, rfl, Nat.zero_le _, Lib.hid (by simpa using HO.out), hb⟩
  case round =>
    obtain ⟨k, rfl, hk, HO1, hB⟩ := hrel
    clear hb HO
    by_cases hlt : k < ps.length
    · have co := HO1.out k (by simp; omega)
      rw [Nat.zero_add] at co
      obtain ⟨co, fo⟩ := co
      generalize nth (List.replicate k (-1 : Int) ++ List.replicate (ps.length - k) 0) k = z at co
      go_wp2_with fail
      go_roundw
      case measure => simp [intOf]; omega
      case rel =>
        refine ⟨k + 1, by go_num, by omega, Lib.hid ?_, hB.setCell (p := ⟨w.heap.size, k, none⟩) (Nat.le_refl _) _⟩
        have h := HO1.out.set k (-1 : Int) (by simp; omega)
        rw [Nat.zero_add, rep_step k _ hlt] at h
        exact h
    · have HO : Hid (RowE (Value.int .i64) wr w.heap.size 0 (placesOf (-1) (List.replicate ps.length none))) := Lib.hid (by
        have := HO1.out
        obtain rfl : k = ps.length := by omega
        simpa [placesOf] using this)
      clear HO1
      go_wp2_with fail
      go_loopw [6, 7] (fun i _ wr => ∃ (k : Nat) (st : List (Option Nat)), i = .int .i64 k ∧ k ≤ ps.length ∧ Hid (backL ps = backGo (ps.drop k) k st) ∧ Hid (st.length = ps.length) ∧ Hid (RowE (Value.int .i64) wr w.heap.size 0 (placesOf (-1) st)) ∧ Below w.heap.size w wr) (fun i _ _ => ps.length - (intOf i).toNat)
      case atStart => exact ⟨0, List.replicate ps.length none, rfl, Nat.zero_le _, Lib.hid rfl, Lib.hid (by simp), HO, hB⟩
      case round =>
        obtain ⟨k2, st, rfl, hk2, HB, HL, HO2, hB2⟩ := hrel
        clear hB HO hlt hk
        by_cases hlt : k2 < ps.length
        · obtain ⟨b, off, rfl, hc⟩ := HY.out.below hB2 k2 hlt
          have HS := Lib.hid (backL_step hlt HB.out)
          generalize nth ps k2 = p at *
          have hno : ¬ (0 ≤ p ∧ p < st.length ∧ nth st p.toNat = none) → backOk ps = false ∧ backR ps = [] := fun h => by
            have := HS.out
            rw [if_neg h] at this
            unfold backOk backR
            rw [this]
            exact ⟨rfl, rfl⟩
          have HNO := Lib.hid hno
          clear hno
          by_cases h0 : p < 0
          · have HN := HNO.out (fun h => by omega)
            have HN' := Lib.hid HN
            clear HN
            go_wp2_with fail
            go_ret2
            exact ⟨⟨.slice none 0 0, by rw [HN'.out.1]; rfl, by rw [HN'.out.2]; exact ⟨none, 0, rfl, Nat.le_refl _, fun i hi => by simp at hi⟩⟩, hB2⟩
          · by_cases h1 : (ps.length : Int) ≤ p
            · have HN := HNO.out (fun h => by have := HL.out; omega)
              have HN' := Lib.hid HN
              clear HN
              go_wp2_with fail
              go_ret2
              exact ⟨⟨.slice none 0 0, by rw [HN'.out.1]; rfl, by rw [HN'.out.2]; exact ⟨none, 0, rfl, Nat.le_refl _, fun i hi => by simp at hi⟩⟩, hB2⟩
            · obtain ⟨q, rfl⟩ := Int.eq_ofNat_of_zero_le (show 0 ≤ p by omega)
              have hq : q < st.length := by have := HL.out; omega
              have hq' : q < ps.length := by omega
              have co := HO2.out q (by simpa [placesOf] using hq)
              have hpl : nth (placesOf (-1) st) q = match nth st q with | some i => (i : Int) | none => -1 := by unfold placesOf; rw [nth_map _ _ _ hq]; cases nth st q <;> rfl
              rw [Nat.zero_add, hpl] at co
              obtain ⟨co, fo⟩ := co
              clear hpl
              rw [Int.toNat_natCast] at HNO HS
              cases hs : nth st q with
              | some i =>
                rw [hs] at co
                have co' : wr.cell? ⟨w.heap.size, q, none⟩ = some (.int .i64 (i : Int)) := co
                have HN := HNO.out (fun h => by rw [hs] at h; simp at h)
                have HN' := Lib.hid HN
                clear HN hs co
                go_wp2_with fail
                go_ret2
                exact ⟨⟨.slice none 0 0, by rw [HN'.out.1]; rfl, by rw [HN'.out.2]; exact ⟨none, 0, rfl, Nat.le_refl _, fun i hi => by simp at hi⟩⟩, hB2⟩
              | none =>
                rw [hs] at co
                have co' : wr.cell? ⟨w.heap.size, q, none⟩ = some (.int .i64 (-1)) := co
                have HST := Lib.hid hs
                clear hs co
                go_wp2_with fail
                go_roundw
                case measure => simp [intOf]; omega
                case rel =>
                  refine ⟨k2 + 1, st.set q (some k2), by go_num, by omega, Lib.hid ?_, Lib.hid (by simp [HL.out]), Lib.hid ?_, hB2.setCell (p := ⟨w.heap.size, q, none⟩) (Nat.le_refl _) _⟩
                  · rw [HS.out, if_pos ⟨by omega, by omega, HST.out⟩]
                  · have h := HO2.out.set q (k2 : Int) (by simpa [placesOf] using hq)
                    rw [Nat.zero_add, placesOf_set] at h
                    exact h
        · go_wp2_with fail
          go_ret2
          have hd : ps.drop k2 = [] := List.drop_of_length_le (by omega)
          have hb := HB.out
          rw [hd] at hb
          have hb' : backL ps = some st := hb
          exact ⟨⟨.slice (some ⟨w.heap.size, 0, none⟩) ps.length ps.length, by unfold backOk; rw [hb']; rfl, by
            unfold backR
            rw [hb']
            have hl : (placesOf 0 st).length = ps.length := by simp [placesOf, HL.out]
            have hh := HO2.out.shows (k := .i64) (fun _ => rfl)
            rw [placesOf_all (-1) 0 st (backL_all hb').2] at hh
            refine ⟨some ⟨w.heap.size, 0, none⟩, ps.length, ?_, by rw [hl]; exact Nat.le_refl _, hh⟩
            show Value.slice _ _ _ = Value.slice _ (placesOf 0 st).length _
            rw [hl]⟩, hB2⟩
end Go.Proofs.Yteppcfikalonbaa.Ord
