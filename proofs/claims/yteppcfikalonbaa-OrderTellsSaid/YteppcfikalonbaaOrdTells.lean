/- The law OrderTells: the plain law of ranks, and the walk. -/
import Derived.Test.YteppcfikalonbaaOrdLawF
namespace Go.Proofs.Yteppcfikalonbaa.Ord
open Go.RowKit
set_option linter.unusedVariables false
set_option linter.unusedSimpArgs false

theorem filter_one (p : Nat → Bool) (m : Nat) : ∀ n, (∀ k, k < n → (p k = true ↔ k = m)) → ((List.range n).filter p).length = if m < n then 1 else 0
  | 0, _ => by simp
  | n + 1, h => by
    rw [List.range_succ, List.filter_append, List.length_append, filter_one p m n (fun k hk => h k (by omega))]
    have h1 := h n (by omega)
    by_cases e : n = m
    · have : p n = true := h1.2 e
      subst e
      rw [if_neg (Nat.lt_irrefl _), if_pos (Nat.lt_succ_self _)]
      simp [List.filter_cons, this]
    · have : p n = false := by
        cases hp : p n with
        | false => rfl
        | true => exact absurd (h1.1 hp) e
      simp [List.filter_cons, this]
      by_cases h2 : m < n
      · rw [if_pos h2, if_pos (by omega)]
      · rw [if_neg h2, if_neg (by omega)]
theorem filter_parts (p q r : Nat → Bool) (l : List Nat) (h : ∀ k ∈ l, r k = (p k || q k)) (hd : ∀ k ∈ l, p k = true → q k = false) : (l.filter r).length = (l.filter p).length + (l.filter q).length := by
  induction l with
  | nil => simp
  | cons x l ih =>
    have i1 := ih (fun k hk => h k (List.mem_cons_of_mem _ hk)) (fun k hk => hd k (List.mem_cons_of_mem _ hk))
    have h1 := h x (by simp)
    have h2 := hd x (by simp)
    simp only [List.filter_cons]
    cases hp : p x with
    | true => rw [hp] at h1; rw [h2 hp, h1]; simp; omega
    | false => cases hq : q x with
      | true => rw [hp, hq] at h1; rw [h1]; simp; omega
      | false => rw [hp, hq] at h1; rw [h1]; simp; omega
theorem isFirst_iff (xs : List Int) (k : Nat) : isFirst xs k = true ↔ ∀ j, j < k → nth xs j ≠ nth xs k := by
  unfold isFirst firstTo
  simp [List.all_eq_true]
theorem first_exists (xs : List Int) (v : Int) : ∀ k, nth xs k = v → ∃ m, m ≤ k ∧ nth xs m = v ∧ isFirst xs m = true := by
  intro k
  induction k using Nat.strongRecOn with
  | ind k ih =>
    intro hk
    by_cases h : ∃ j, j < k ∧ nth xs j = v
    · obtain ⟨j, hj, hv⟩ := h
      obtain ⟨m, h1, h2, h3⟩ := ih j hj hv
      exact ⟨m, by omega, h2, h3⟩
    · refine ⟨k, Nat.le_refl _, hk, ?_⟩
      rw [isFirst_iff]
      intro j hj e
      exact h ⟨j, hj, e.trans hk⟩
theorem first_one (xs : List Int) (v : Int) (k n : Nat) (hk : k < n) (hv : nth xs k = v) : ((List.range n).filter fun j => isFirst xs j && decide (nth xs j = v)).length = 1 := by
  obtain ⟨m, h1, h2, h3⟩ := first_exists xs v k hv
  rw [filter_one _ m n, if_pos (by omega)]
  intro j hj
  simp only [Bool.and_eq_true, decide_eq_true_eq]
  constructor
  · rintro ⟨f, e⟩
    rw [isFirst_iff] at f h3
    rcases Nat.lt_trichotomy j m with h | h | h
    · exact absurd (e.trans h2.symm) (h3 j h)
    · exact h
    · exact absurd (h2.trans e.symm) (f m h)
  · rintro rfl
    exact ⟨h3, h2⟩

theorem sorted_le (xs : List Int) (L : List Nat) (hs : L.Pairwise (Ahead (bhOf cmpI xs))) (i j : Nat) (hij : i ≤ j) (hj : j < L.length) : nth xs (nth L i) ≤ nth xs (nth L j) := by
  rcases Nat.lt_or_eq_of_le hij with h | rfl
  · have h1 := List.pairwise_iff_getElem.1 hs i j (by omega) hj h
    rw [nth_eq L i (by omega), nth_eq L j hj]
    unfold Ahead bhOf at h1
    simp only [decide_eq_true_eq, decide_eq_false_iff_not, cmpI_pos] at h1
    omega
  · exact Int.le_refl _
theorem perm_nth (L : List Nat) (n : Nat) (hp : L.Perm (List.range n)) (k : Nat) (hk : k < n) : ∃ j, j < L.length ∧ nth L j = k := by
  have : k ∈ L := hp.symm.subset (by simpa using hk)
  obtain ⟨j, hj, e⟩ := List.getElem_of_mem this
  exact ⟨j, hj, by rw [nth_eq _ _ hj, e]⟩
/-- Each one's rank is how many kinds are less. -/
theorem ranks_eq (xs : List Int) (L : List Nat) (hp : L.Perm (List.range xs.length)) (hs : L.Pairwise (Ahead (bhOf cmpI xs))) : ∀ i, i < xs.length → kinds xs (nth L i) xs.length = rkp cmpI xs L i := by
  have hl : L.length = xs.length := by simpa using hp.length_eq
  intro i
  induction i with
  | zero =>
    intro h0
    unfold kinds rkp
    rw [List.length_eq_zero_iff, List.filter_eq_nil_iff]
    intro k hk
    obtain ⟨j, hj, rfl⟩ := perm_nth L _ hp k (by simpa using hk)
    have := sorted_le xs L hs 0 j (by omega) hj
    simp; intro _; omega
  | succ i ih =>
    intro hi
    have ih := ih (by omega)
    have hle := sorted_le xs L hs i (i + 1) (by omega) (by omega)
    unfold rkp
    rw [← ih]
    have hmem : nth L i < xs.length := by simpa using hp.subset (nth_mem L i (by omega))
    by_cases he : nth xs (nth L i) = nth xs (nth L (i + 1))
    · rw [if_pos ((cmpI_zero _ _).2 he)]
      unfold kinds
      rw [he]; rfl
    · rw [if_neg (fun h => he ((cmpI_zero _ _).1 h))]
      unfold kinds
      rw [filter_parts (fun k => isFirst xs k && decide (nth xs k < nth xs (nth L i))) (fun k => isFirst xs k && decide (nth xs k = nth xs (nth L i)))]
      · rw [first_one xs _ (nth L i) _ hmem rfl]
      · intro k hk
        obtain ⟨j, hj, rfl⟩ := perm_nth L _ hp k (by simpa using hk)
        rw [← Bool.and_or_distrib_left]
        congr 1
        rw [Bool.eq_iff_iff]
        simp only [Bool.or_eq_true, decide_eq_true_eq]
        rcases Nat.lt_or_ge i j with h | h
        · have := sorted_le xs L hs (i + 1) j (by omega) hj
          omega
        · have := sorted_le xs L hs j i h (by omega)
          omega
      · intro k hk h
        simp only [Bool.and_eq_true, decide_eq_true_eq, Bool.and_eq_false_iff, decide_eq_false_iff_not] at h ⊢
        omega
theorem ranksR_length (xs : List Int) : (ranksR xs).length = xs.length := by simp [ranksR]
theorem ranks_same (xs : List Int) (L : List Nat) (R : List Int) (hp : L.Perm (List.range xs.length)) (hs : L.Pairwise (Ahead (bhOf cmpI xs))) (hR : R.length = xs.length) (h : ∀ i, i < xs.length → nth R (nth L i) = (rkp cmpI xs L i : Int)) : R = ranksR xs := by
  have hl : L.length = xs.length := by simpa using hp.length_eq
  apply List.ext_getElem
  · rw [hR, ranksR_length]
  · intro k h1 h2
    obtain ⟨i, hi, e⟩ := perm_nth L _ hp k (by omega)
    have h3 := h i (by omega)
    rw [e, ← ranks_eq xs L hp hs i (by omega), e] at h3
    rw [← nth_eq R k h1, h3]
    simp [ranksR]

theorem shows_of {w : World} {v : Value} {xs : List Int} (h : ShowsI w .i64 v xs) : ∃ A c n, v = .slice A n c ∧ xs.length = n ∧ ReadsI w .i64 A xs := by
  obtain ⟨A, c, rfl, _, hr⟩ := h
  exact ⟨A, c, _, rfl, rfl, hr⟩
theorem takeL_le (xs ps : List Int) : (takeL xs ps).length ≤ ps.length := by
  unfold takeL
  split
  · simp [picks]
  · simp
theorem backR_le (ps : List Int) : (backR ps).length ≤ ps.length := by
  unfold backR
  split
  · rename_i r h
    have := (backL_all h).1
    simp [placesOf, this]
  · simp

set_option maxRecDepth 100000 in
set_option maxHeartbeats 2000000 in
theorem orderTells_walk (xs ps : List Int) (A C : Option Addr) (ca cc : Nat) (w : World) (hx : ReadsI w .i64 A xs) (hy : ReadsI w .i64 C ps) (hl : xs.length ≤ 20000000000000) (hly : ps.length ≤ 20000000000000) :
    Calls Try.prog 3 #[.slice A xs.length ca, .slice C ps.length cc] w fun e w' => e = .returned (.bool true) ∧ Below w.heap.size w w' := by
  have HX := Lib.hid hx
  have HY := Lib.hid hy
  clear hx hy
  by_cases h150 : 150 < xs.length ∨ 150 < ps.length
  · go_enter Try.func3, Try.ntmps3
    by_cases h1 : 150 < xs.length
    all_goals try have h2 : 150 < ps.length := by omega
    all_goals
      go_wp2_with fail
      refine (knows_calls _).mono ?_
      rintro e w1 ⟨rfl, hB1⟩
      go_wp2_with fail
      go_ret
      exact ⟨rfl, hB1⟩
  · have h1 : ¬ 150 < xs.length := by omega
    have h2 : ¬ 150 < ps.length := by omega
    clear h150
    go_enter Try.func3, Try.ntmps3
    go_wp2_with fail
    refine (take_calls A C ca cc xs ps _ HX.out HY.out (by omega) (by omega)).mono ?_
    rintro e w1 ⟨⟨v, rfl, hv⟩, hB1⟩
    obtain ⟨A1, c1, n1, rfl, hn1, hr1⟩ := shows_of hv
    have HB := Lib.hid hB1
    have HR1 := Lib.hid hr1
    have HN1 := Lib.hid hn1
    clear hv hB1 hr1 hn1
    go_wp2_with fail
    refine (refTake_calls A C ca cc xs ps _ (HX.out.below HB.out) (HY.out.below HB.out) (by omega) (by omega)).mono ?_
    rintro e w2 ⟨⟨v, rfl, hv⟩, hB2⟩
    obtain ⟨A2, c2, n2, rfl, hn2, hr2⟩ := shows_of hv
    rw [HN1.out] at hn2
    subst hn2
    have HR1 := Lib.hid (HR1.out.below hB2)
    have HR2 := Lib.hid hr2
    have HB := Lib.hid (bl_then HB.out hB2)
    clear hv hB2 hr2
    go_wp2_with fail
    refine (back_calls C cc ps w2 (HY.out.below HB.out) (by omega)).mono ?_
    rintro e w3 ⟨⟨v, rfl, hv⟩, hB3⟩
    obtain ⟨A3, c3, n3, rfl, hn3, hr3⟩ := shows_of hv
    have HN3 := Lib.hid hn3
    have HR1 := Lib.hid (HR1.out.below hB3)
    have HR2 := Lib.hid (HR2.out.below hB3)
    have HR3 := Lib.hid hr3
    have HB := Lib.hid (bl_then HB.out hB3)
    clear hv hB3 hr3 hn3
    go_wp2_with fail
    refine (refBack_calls C cc ps w3 (HY.out.below HB.out) (by omega)).mono ?_
    rintro e w4 ⟨⟨v, rfl, hv⟩, hB4⟩
    obtain ⟨A4, c4, n4, rfl, hn4, hr4⟩ := shows_of hv
    rw [HN3.out] at hn4
    subst hn4
    have HR1 := Lib.hid (HR1.out.below hB4)
    have HR2 := Lib.hid (HR2.out.below hB4)
    have HR3 := Lib.hid (HR3.out.below hB4)
    have HR4 := Lib.hid hr4
    have HB := Lib.hid (bl_then HB.out hB4)
    clear hv hB4 hr4
    go_wp2_with fail
    refine (sort_calls xs A ca _ cmpI cmpI_of.val (cmpI_weak _) w4 (HX.out.below HB.out) (by omega)).mono ?_
    rintro e w5 ⟨b, L, hb, rfl, hr, hp, hs, hB5⟩
    have hLl : (toI L).length = L.length := toI_length L
    have hLn : L.length = xs.length := by simpa using hp.length_eq
    have HLN := Lib.hid (hLl.trans hLn)
    rw [hLn]
    have HP := Lib.hid hp
    have HS := Lib.hid hs
    have HR1 := Lib.hid (HR1.out.below hB5)
    have HR2 := Lib.hid (HR2.out.below hB5)
    have HR3 := Lib.hid (HR3.out.below hB5)
    have HR4 := Lib.hid (HR4.out.below hB5)
    have HR5 : Hid (ReadsI w5 .i64 (some ⟨b, 0, none⟩) (toI L)) := Lib.hid hr.shows
    have HB := Lib.hid (bl_then HB.out hB5)
    clear hB5 hr hp hs hb hLl hLn
    go_wp2_with fail
    refine (refSort_calls xs A ca w5 (HX.out.below HB.out) (by omega)).mono ?_
    rintro e w6 ⟨⟨v, L2, rfl, hv, hp2, hs2⟩, hB6⟩
    obtain rfl : L = L2 := sorted_unique (cmpI_weak xs) (HP.out.trans hp2.symm) HS.out hs2
    obtain ⟨A6, c6, n6, rfl, hn6, hr6⟩ := shows_of hv
    rw [HLN.out] at hn6
    subst hn6
    have HR1 := Lib.hid (HR1.out.below hB6)
    have HR2 := Lib.hid (HR2.out.below hB6)
    have HR3 := Lib.hid (HR3.out.below hB6)
    have HR4 := Lib.hid (HR4.out.below hB6)
    have HR5 := Lib.hid (HR5.out.below hB6)
    have HB := Lib.hid (bl_then HB.out hB6)
    have HI := Lib.hid (ints_same _ A6 xs.length c6 xs.length (toI L) w6 HLN.out HR5.out hr6 (by omega))
    clear hv hB6 hr6 hp2 hs2
    go_wp2_with fail
    refine HI.out.mono ?_
    rintro e w7 ⟨rfl, hB7⟩
    have HR1 := Lib.hid (HR1.out.below hB7)
    have HR2 := Lib.hid (HR2.out.below hB7)
    have HR3 := Lib.hid (HR3.out.below hB7)
    have HR4 := Lib.hid (HR4.out.below hB7)
    have HB := Lib.hid (bl_then HB.out hB7)
    clear hB7 HR5 HP HS HI HLN
    go_wp2_with fail
    refine (ranks_calls xs A ca _ cmpI cmpI_of.val (cmpI_weak _) w7 (HX.out.below HB.out) (by omega)).mono ?_
    rintro e w8 ⟨⟨b8, L8, R, rfl, hr8, hR8, hp8, hs8, hq8⟩, hB8⟩
    obtain rfl := ranks_same xs L8 R hp8 hs8 hR8 hq8
    rw [hR8]
    have HR1 := Lib.hid (HR1.out.below hB8)
    have HR2 := Lib.hid (HR2.out.below hB8)
    have HR3 := Lib.hid (HR3.out.below hB8)
    have HR4 := Lib.hid (HR4.out.below hB8)
    have HR8 := Lib.hid hr8
    have HB := Lib.hid (bl_then HB.out hB8)
    clear hB8 hr8 hR8 hp8 hs8 hq8
    go_wp2_with fail
    refine (refRanks_calls xs A ca w8 (HX.out.below HB.out) (by omega)).mono ?_
    rintro e w9 ⟨⟨v, rfl, hv⟩, hB9⟩
    obtain ⟨A9, c9, n9, rfl, hn9, hr9⟩ := shows_of hv
    rw [ranksR_length] at hn9
    subst hn9
    have HR1 := Lib.hid (HR1.out.below hB9)
    have HR2 := Lib.hid (HR2.out.below hB9)
    have HR3 := Lib.hid (HR3.out.below hB9)
    have HR4 := Lib.hid (HR4.out.below hB9)
    have HR8 := Lib.hid (HR8.out.below hB9)
    have HB := Lib.hid (bl_then HB.out hB9)
    have HI := Lib.hid (ints_same _ A9 xs.length c9 xs.length (ranksR xs) w9 (ranksR_length _) HR8.out hr9 (by omega))
    clear hv hB9 hr9
    go_wp2_with fail
    refine HI.out.mono ?_
    rintro e w10 ⟨rfl, hB10⟩
    have HR1 := Lib.hid (HR1.out.below hB10)
    have HR2 := Lib.hid (HR2.out.below hB10)
    have HR3 := Lib.hid (HR3.out.below hB10)
    have HR4 := Lib.hid (HR4.out.below hB10)
    have HB := Lib.hid (bl_then HB.out hB10)
    have HI := Lib.hid (ints_same A1 A2 c1 c2 n1 _ w10 HN1.out HR1.out HR2.out (by have := takeL_le xs ps; have := HN1.out; omega))
    clear hB10 HR8
    go_wp2_with fail
    refine HI.out.mono ?_
    rintro e w11 ⟨rfl, hB11⟩
    have HR3 := Lib.hid (HR3.out.below hB11)
    have HR4 := Lib.hid (HR4.out.below hB11)
    have HB := Lib.hid (bl_then HB.out hB11)
    have HI := Lib.hid (ints_same A3 A4 c3 c4 n3 _ w11 HN3.out HR3.out HR4.out (by have := backR_le ps; have := HN3.out; omega))
    clear hB11 HR1 HR2
    generalize inRange xs ps = b1
    generalize backOk ps = b2
    go_wp2_with fail
    refine HI.out.mono ?_
    rintro e w12 ⟨rfl, hB12⟩
    have HB := Lib.hid (bl_then HB.out hB12)
    clear hB12 HR3 HR4
    go_wp2_with fail
    refine (knows_calls _).mono ?_
    rintro e w13 ⟨rfl, hB13⟩
    go_wp2_with fail
    go_ret
    exact ⟨rfl, bl_then HB.out hB13⟩
end Go.Proofs.Yteppcfikalonbaa.Ord
