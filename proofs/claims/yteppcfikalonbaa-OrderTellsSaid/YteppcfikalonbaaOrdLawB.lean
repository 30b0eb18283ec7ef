/- The law OrderBack: the plain law and the walk. -/
import Derived.Test.YteppcfikalonbaaOrdKnows
namespace Go.Proofs.Yteppcfikalonbaa.Ord
open Go.RowKit
set_option linter.unusedVariables false
set_option linter.unusedSimpArgs false

theorem nth_set {α : Type} [Inhabited α] (l : List α) (k j : Nat) (x : α) (hj : j < l.length) : nth (l.set k x) j = if j = k then x else nth l j := by
  rw [nth_eq _ _ (by simpa using hj), nth_eq _ _ hj, List.getElem_set]
  by_cases h : k = j
  · simp [h]
  · simp [h, Ne.symm h]
theorem backGo_ok : ∀ (ps : List Int) (i : Nat) (st : List (Option Nat)), ps.Nodup → (∀ p ∈ ps, 0 ≤ p ∧ p < st.length ∧ nth st p.toNat = none) →
    ∃ r, backGo ps i st = some r ∧ (∀ j, j < ps.length → nth r (nth ps j).toNat = some (i + j)) ∧ (∀ k, k < st.length → (∀ p ∈ ps, p.toNat ≠ k) → nth r k = nth st k)
  | [], i, st, _, _ => ⟨st, rfl, fun j hj => by simp at hj, fun _ _ _ => rfl⟩
  | p :: ps, i, st, hn, h => by
    obtain ⟨hp, hn'⟩ := List.nodup_cons.1 hn
    obtain ⟨h0, h1, h2⟩ := h p (by simp)
    have hpk : p.toNat < st.length := by omega
    obtain ⟨r, hr, hj, hk⟩ := backGo_ok ps (i + 1) (st.set p.toNat (some i)) hn' (fun q hq => by
      obtain ⟨q0, q1, q2⟩ := h q (List.mem_cons_of_mem _ hq)
      refine ⟨q0, by simpa using q1, ?_⟩
      rw [nth_set _ _ _ _ (by omega), if_neg, q2]
      intro e
      have : q = p := by omega
      exact hp (this ▸ hq))
    refine ⟨r, ?_, ?_, ?_⟩
    · unfold backGo
      rw [if_pos ⟨h0, h1, h2⟩, hr]
    · intro j hjl
      cases j with
      | zero =>
        rw [nth_cons_zero, hk p.toNat (by simpa using hpk) (fun q hq e => by
          obtain ⟨q0, _, _⟩ := h q (List.mem_cons_of_mem _ hq)
          have : q = p := by omega
          exact hp (this ▸ hq)), nth_set _ _ _ _ hpk, if_pos rfl]
        simp
      | succ j =>
        rw [nth_cons_succ, hj j (by simpa using hjl)]
        congr 1; omega
    · intro k hkl hq
      rw [hk k (by simpa using hkl) (fun q hq' => hq q (List.mem_cons_of_mem _ hq')), nth_set _ _ _ _ hkl, if_neg (fun e => hq p (by simp) e.symm)]
theorem nth_cast (L : List Nat) (j : Nat) (h : j < L.length) : nth (L.map fun (x : Nat) => (x : Int)) j = ((nth L j : Nat) : Int) := nth_map (fun (x : Nat) => (x : Int)) L j h
theorem back_perm (L : List Nat) (hp : L.Perm (List.range L.length)) : backOk (L.map fun (x : Nat) => (x : Int)) = true ∧ (backR (L.map fun (x : Nat) => (x : Int))).length = L.length ∧
    ∀ j, j < L.length → nth L j < L.length ∧ nth (backR (L.map fun (x : Nat) => (x : Int))) (nth L j) = (j : Int) := by
  have hlt : ∀ x ∈ L, x < L.length := fun x hx => by have := hp.subset hx; simpa using this
  obtain ⟨r, hr, hj, _⟩ := backGo_ok (L.map fun (x : Nat) => (x : Int)) 0 (List.replicate (L.map fun (x : Nat) => (x : Int)).length none) (by
      have hnd : L.Nodup := hp.nodup_iff.2 List.nodup_range
      exact List.Pairwise.map _ (fun a b hab e => hab (by exact_mod_cast e)) hnd) (fun p hp' => by
      obtain ⟨x, hx, rfl⟩ := List.mem_map.1 hp'
      have := hlt x hx
      refine ⟨by omega, by simpa using this, ?_⟩
      rw [nth_replicate _ _ _ (by simpa using this)])
  have hb : backL (L.map fun (x : Nat) => (x : Int)) = some r := hr
  obtain ⟨hl, _⟩ := backL_all hb
  have hl' : r.length = L.length := by simpa using hl
  have hR : backR (L.map fun (x : Nat) => (x : Int)) = placesOf 0 r := by unfold backR; rw [hb]
  refine ⟨by unfold backOk; rw [hb]; rfl, by rw [hR]; simp [placesOf, hl'], fun j hjl => ?_⟩
  have hx := hlt _ (nth_mem L j hjl)
  refine ⟨hx, ?_⟩
  rw [hR]
  unfold placesOf
  rw [nth_map _ _ _ (by omega)]
  have := hj j (by simpa using hjl)
  rw [nth_cast L j hjl, Int.toNat_natCast, Nat.zero_add] at this
  rw [this]
theorem ahead_next (xs : List Int) (L : List Nat) (hs : L.Pairwise (Ahead (bhOf cmpI xs))) (j : Nat) (hj : j + 1 < L.length) :
    nth xs (nth L j) ≤ nth xs (nth L (j + 1)) ∧ (nth xs (nth L j) = nth xs (nth L (j + 1)) → nth L j < nth L (j + 1)) := by
  have h := List.pairwise_iff_getElem.1 hs j (j + 1) (by omega) hj (by omega)
  rw [nth_eq L j (by omega), nth_eq L (j + 1) hj]
  unfold Ahead bhOf at h
  simp only [decide_eq_true_eq, decide_eq_false_iff_not, cmpI_pos] at h
  omega
theorem zero_range (xs : List Int) (L : List Nat) (n : Nat) (hp : L.Perm (List.range n)) (hs : L.Pairwise (Ahead (bhOf (fun _ _ => 0) xs))) : L = List.range n := by
  refine sorted_unique (zero_weak xs) hp hs ?_
  have := List.pairwise_lt_range (n := n)
  refine this.imp ?_
  intro a b h
  exact .inr ⟨by simp [bhOf], h⟩
theorem mergeL_length (c : Int → Int → Int) (xs ys : List Int) : (mergeL c xs ys).length = xs.length + ys.length := by
  fun_induction mergeL c xs ys <;> simp_all <;> omega
theorem nth_range (n k : Nat) (h : k < n) : nth (List.range n) k = k := by rw [nth_eq _ _ (by simpa using h)]; simp

set_option maxRecDepth 100000 in
set_option maxHeartbeats 2000000 in
theorem orderBack_walk (xs : List Int) (A : Option Addr) (ca : Nat) (w : World) (hx : ReadsI w .i64 A xs) (hca : xs.length ≤ ca) (hl : xs.length ≤ 20000000000000) :
    Calls Try.prog 5 #[.slice A xs.length ca] w fun e w' => e = .returned (.bool true) ∧ Below w.heap.size w w' := by
  have HX := Lib.hid hx
  clear hx
  go_enter Try.func5, Try.ntmps5
  by_cases h300 : 300 < xs.length
  · go_wp2_with fail
    refine (knows_calls _).mono ?_
    rintro e w1 ⟨rfl, hB1⟩
    go_wp2_with fail
    go_ret
    exact ⟨rfl, hB1⟩
  · go_wp2_with fail
    refine (knows_calls _).mono ?_
    rintro e w1 ⟨rfl, hB1⟩
    go_wp2_with fail
    refine (sort_calls xs A ca _ cmpI cmpI_of.val (cmpI_weak _) _ (HX.out.below hB1) (by omega)).mono ?_
    rintro e w2 ⟨b, L, hb, rfl, hr, hp, hs, hB2⟩
    obtain ⟨n, hn⟩ : ∃ n, n = xs.length := ⟨_, rfl⟩
    have hLn : L.length = xs.length := by simpa using hp.length_eq
    have HB2 : Hid (Below w.heap.size w w2) := Lib.hid (bl_then hB1 hB2)
    have HP := Lib.hid (show L.Perm (List.range L.length) by rw [hLn]; exact hp)
    have HS := Lib.hid hs
    have HR := Lib.hid hr
    clear hp hs hr hB1 hB2 hb hn
    go_wp2_with fail
    have hcalls := back_calls (some ⟨b, 0, none⟩) L.length (L.map fun (x : Nat) => (x : Int)) w2 HR.out.shows (by simp; omega)
    rw [List.length_map, hLn] at hcalls
    refine hcalls.mono ?_
    rintro e w3 ⟨⟨v, rfl, C, cc, rfl, hcc, hrb⟩, hB3⟩
    obtain ⟨hok, hbl, hbj⟩ := back_perm L HP.out
    rw [hok]
    have HB3 : Hid (Below w.heap.size w w3) := Lib.hid (bl_then HB2.out hB3)
    have HR3 : Hid (RowN w3 b 0 L) := Lib.hid (HR.out.below hB3)
    have HRB := Lib.hid hrb
    have HBL := Lib.hid hbl
    have HBJ := Lib.hid hbj
    have HLN := Lib.hid hLn
    clear hrb hbj hB3 hok hcalls
    rw [hbl, hLn]
    clear hbl hLn
    go_wp2_with fail
    go_loopw [6] (fun i wr => ∃ (k m : Nat), i = .int .i64 k ∧ k ≤ xs.length ∧ Hid (wr = w3.drewN m)) (fun i _ => xs.length - (intOf i).toNat)
    case atStart => exact ⟨0, 0, rfl, Nat.zero_le _, Lib.hid rfl⟩
    case round =>
      obtain ⟨k, m, rfl, hk, HW⟩ := hrel
      by_cases hlt : k < xs.length
      · obtain ⟨hLk, hbk⟩ := HBJ.out k (by rw [HLN.out]; exact hlt)
        have g1 : wr.cell? ⟨b, 0 + k, none⟩ = some (.int .i64 (nth L k : Nat)) := by rw [HW.out]; exact (HR3.out k (by rw [HLN.out]; exact hlt)).1
        obtain ⟨bb, boff, rfl, hcb⟩ := HRB.out (nth L k) (by rw [HBL.out]; exact hLk)
        have g2 : wr.cell? ⟨bb, boff + nth L k, none⟩ = some (.int .i64 k) := by rw [HW.out, ← hbk]; exact hcb
        rw [HLN.out] at hLk
        obtain ⟨xb, xoff, rfl, hcx⟩ := HX.out.below HB3.out (nth L k) hLk
        have g3 : wr.cell? ⟨xb, xoff + nth L k, none⟩ = some (.int .i64 (nth xs (nth L k))) := by rw [HW.out]; exact hcx
        clear hcb hcx hbk
        by_cases h0 : k = 0
        · subst h0
          generalize nth L 0 = p at *
          generalize nth xs p = x at *
          go_wp2_with fail
          go_quiet (fail)
          go_wp2_with fail
          go_roundw
          case measure => simp [intOf]; omega
          case rel => exact ⟨1, m + nq, by go_num, by omega, Lib.hid (by rw [HW.out, World.drewN_drewN])⟩
        · obtain ⟨j, rfl⟩ : ∃ j, k = j + 1 := ⟨k - 1, by omega⟩
          obtain ⟨hLj, _⟩ := HBJ.out j (by rw [HLN.out]; omega)
          have g0 : wr.cell? ⟨b, 0 + j, none⟩ = some (.int .i64 (nth L j : Nat)) := by rw [HW.out]; exact (HR3.out j (by rw [HLN.out]; omega)).1
          rw [HLN.out] at hLj
          obtain ⟨xb', xoff', he', hcx'⟩ := HX.out.below HB3.out (nth L j) hLj
          injection he' with he'
          injection he' with e3 e4
          subst e3
          subst e4
          have g4 : wr.cell? ⟨xb, xoff + nth L j, none⟩ = some (.int .i64 (nth xs (nth L j))) := by rw [HW.out]; exact hcx'
          obtain ⟨a1, a2⟩ := ahead_next xs L HS.out j (by rw [HLN.out]; exact hlt)
          clear hcx' h0
          generalize nth L (j + 1) = p at *
          generalize nth L j = q at *
          generalize nth xs p = x at *
          generalize nth xs q = y at *
          rw [Nat.zero_add] at g1 g0
          have g2' : wr.cell? ⟨bb, boff + p, none⟩ = some (.int .i64 ((j : Int) + 1)) := g2
          clear g2
          have d0 : decide ((0 : Int) < (j : Int) + 1) = true := by simp
          have d1 : decide (x < y) = false := by simpa using a1
          rcases Int.lt_or_eq_of_le a1 with h5 | h5
          · have d2 : (y == x) = false := by simpa using Int.ne_of_lt h5
            clear a1 a2
            go_wp2_with fail
            go_quiet (fail)
            go_wp2_with fail
            go_roundw
            case measure => simp [intOf]; omega
            case rel => exact ⟨j + 1 + 1, m + nq, by go_num, by omega, Lib.hid (by rw [HW.out, World.drewN_drewN])⟩
          · have h6 := a2 h5
            subst h5
            have d2 : (y == y) = true := by simp
            have d3 : decide (p < q) = false := by simp; omega
            have d4 : decide ((p : Int) < (q : Int)) = false := by simp; omega
            clear a1 a2
            go_wp2_with fail
            go_quiet (fail)
            go_wp2_with fail
            go_roundw
            case measure => simp [intOf]; omega
            case rel => exact ⟨j + 1 + 1, m + nq, by go_num, by omega, Lib.hid (by rw [HW.out, World.drewN_drewN])⟩
      · go_wp2_with fail
        have HBR : Hid (Below w.heap.size w wr) := Lib.hid (by rw [HW.out]; exact bl_drewN HB3.out _)
        clear HB3 HRB HR3 HBL HBJ HS HP HR HW HB2
        have hxr := HX.out.below HBR.out
        refine (sort_calls xs A ca _ (fun _ _ => 0) (.inl ⟨rfl, rfl⟩) (zero_weak _) _ hxr (by omega)).mono ?_
        rintro e w4 ⟨b4, L4, hb4, rfl, hr4, hp4, hs4, hB4⟩
        obtain rfl := zero_range xs L4 xs.length hp4 hs4
        have HB4 : Hid (Below w.heap.size w w4) := Lib.hid (bl_then HBR.out hB4)
        have HR4 := Lib.hid hr4
        clear hr4 hp4 hs4 hB4 hb4 hxr
        rw [List.length_range]
        go_wp2_with fail
        go_loopw [8] (fun i wr => ∃ (k m : Nat), i = .int .i64 k ∧ k ≤ xs.length ∧ Hid (wr = w4.drewN m)) (fun i _ => xs.length - (intOf i).toNat)
        case atStart => exact ⟨0, 0, rfl, Nat.zero_le _, Lib.hid rfl⟩
        case round =>
          obtain ⟨k, m, rfl, hk, HW⟩ := hrel
          by_cases hlt : k < xs.length
          · have g1 : wr.cell? ⟨b4, 0 + k, none⟩ = some (.int .i64 (k : Nat)) := by
              have := (HR4.out k (by simpa using hlt)).1
              rw [nth_range _ _ hlt] at this
              rw [HW.out]; exact this
            rw [Nat.zero_add] at g1
            go_wp2_with fail
            go_roundw
            case measure => simp [intOf]; omega
            case rel => exact ⟨k + 1, m, by go_num, by omega, Lib.hid HW.out⟩
          · go_wp2_with fail
            have HBR : Hid (Below w.heap.size w wr) := Lib.hid (by rw [HW.out]; exact bl_drewN HB4.out _)
            refine (merge_calls xs xs A A ca ca _ (fun _ _ => 0) (.inl ⟨rfl, rfl⟩) _ (HX.out.below HBR.out) (HX.out.below HBR.out) (by omega) (by omega) hca hca).mono ?_
            rintro e w5 ⟨⟨v, rfl, M, cm, rfl, hcm, hrm⟩, hB5⟩
            have HB5 : Hid (Below w.heap.size w w5) := Lib.hid (bl_then HBR.out hB5)
            clear hrm hB5
            rw [mergeL_length]
            go_wp2_with fail
            refine (find_calls xs 7 A ca _ (fun _ _ => 0) (.inl ⟨rfl, rfl⟩) _ (HX.out.below HB5.out) (by omega)).mono ?_
            rintro e w6 ⟨⟨kf, rfl, hkf⟩, hB6⟩
            obtain rfl : kf = 0 := by
              obtain ⟨_, _, h⟩ := hkf
              by_cases h0 : 0 < kf
              · have := h h0
                simp at this
              · omega
            have HB6 : Hid (Below w.heap.size w w6) := Lib.hid (bl_then HB5.out hB6)
            clear hkf hB6
            have HRI := fun (W : World) (h : ReadsI W .i64 A xs) => rising_calls xs A ca .nilFunc (fun _ _ => 0) (.inl ⟨rfl, rfl⟩) W h (by omega)
            rw [show ((0 : Nat) : Int) = 0 from rfl]
            have hand : ∀ d : Decidable (0 < xs.length ∧ (0 : Int) = 0), @decide (0 < xs.length ∧ (0 : Int) = 0) d = decide (0 < xs.length) := fun d => by simp
            rw [hand]
            go_wp2_with fail
            refine (HRI _ (HX.out.below HB6.out)).mono ?_
            rintro e w7 ⟨⟨kr, rfl, hkr⟩, m7, rfl⟩
            obtain rfl : kr = min 1 xs.length := by
              obtain ⟨h1, h2, h3, h4, _⟩ := hkr
              by_cases h0 : xs.length = 0
              · have := h2 h0; omega
              · have := h3 (by omega)
                by_cases h5 : 1 < kr
                · have := h4 1 (by omega) h5; simp at this
                · omega
            clear hkr HRI
            go_wp2_with fail
            all_goals
              go_ret
              refine ⟨ret_bool ?_, bl_drewN HB6.out _⟩
              rw [beq_iff_eq]
              omega
end Go.Proofs.Yteppcfikalonbaa.Ord
