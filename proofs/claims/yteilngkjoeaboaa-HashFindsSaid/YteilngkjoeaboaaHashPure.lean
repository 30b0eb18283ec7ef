/- The plain law of the table: what is in is found, each at its number; one more keeps it so. -/
import Derived.Test.YteilngkjoeaboaaSeek
namespace Go.Proofs.Yteilngkjoeaboaa.Hs
open Go.RowKit Go.Proofs.Yteilngkjoeaboaa.Lb
set_option linter.unusedVariables false
set_option linter.unusedSimpArgs false

theorem probe_lt (a : Lab) (m d : Nat) (h : 0 < m) : probe a m d < m := Nat.mod_lt _ h
theorem probe_surj (a : Lab) (m p : Nat) (h : p < m) : ∃ d, d < m ∧ probe a m d = p := by
  unfold probe
  have hq : hashL a % m < m := Nat.mod_lt _ (by omega)
  generalize hashL a % m = q at *
  by_cases c : q ≤ p
  · exact ⟨p - q, by omega, by rw [show q + (p - q) = p by omega]; exact Nat.mod_eq_of_lt h⟩
  · exact ⟨p + m - q, by omega, by rw [show q + (p + m - q) = p + m by omega, Nat.add_mod_right]; exact Nat.mod_eq_of_lt h⟩

/-- The labels L stand in S. -/
structure Inv (L : List Lab) (S : List Nat) : Prop where
  pow : ∃ kk, kk ≤ 40 ∧ S.length = 2 ^ kk
  nodup : L.Nodup
  le : ∀ x ∈ S, x ≤ L.length
  at_ : ∀ i, i < L.length → ∃ d, d < S.length ∧ nth S (probe (nth L i) S.length d) = i + 1 ∧ ∀ d', d' < d → nth S (probe (nth L i) S.length d') ≠ 0
  cnt : S.countP (fun x => decide (x ≠ 0)) ≤ L.length
  lt : L.length < S.length
theorem Inv.pos {L : List Lab} {S : List Nat} (h : Inv L S) : 0 < S.length := by have := h.lt; omega
theorem inv_empty (kk : Nat) (h : kk ≤ 40) : Inv [] (List.replicate (2 ^ kk) 0) :=
  ⟨⟨kk, h, by simp⟩, List.nodup_nil, fun x hx => by have := (List.mem_replicate.1 hx).2; omega, fun i hi => by simp at hi, by simp [List.countP_replicate], by simp; exact Nat.two_pow_pos kk⟩
theorem inv_free {L : List Lab} {S : List Nat} (h : Inv L S) : ∃ p, p < S.length ∧ nth S p = 0 := by
  have h1 : ¬ ∀ x ∈ S, x ≠ 0 := fun hall => by
    have : S.countP (fun x => decide (x ≠ 0)) = S.length := by
      rw [List.countP_eq_length]
      intro x hx
      simpa using hall x hx
    have h2 := h.cnt
    have h3 := h.lt
    omega
  obtain ⟨x, hx'⟩ := Classical.not_forall.1 h1
  obtain ⟨hx, hz⟩ := Classical.not_forall.1 hx'
  obtain ⟨p, hp, e⟩ := List.getElem_of_mem hx
  exact ⟨p, hp, by rw [nth_eq _ _ hp, e]; omega⟩
theorem hit_eq {a : Lab} {L : List Lab} {S : List Nat} {d : Nat} : hit a L S d = true ↔ nth S (probe a S.length d) = 0 ∨ nth L (nth S (probe a S.length d) - 1) = a := by
  unfold hit; simp
theorem nth_inj {L : List Lab} (h : L.Nodup) {i j : Nat} (hi : i < L.length) (hj : j < L.length) (e : nth L i = nth L j) : i = j := by
  rw [nth_eq _ _ hi, nth_eq _ _ hj] at e
  have hp := List.pairwise_iff_getElem.1 h
  rcases Nat.lt_trichotomy i j with c | c | c
  · exact absurd e (hp i j hi hj c)
  · exact c
  · exact absurd e.symm (hp j i hj hi c)
/-- What seek finds. -/
theorem seek_inv {a : Lab} {L : List Lab} {S : List Nat} {s n : Nat} (h : Inv L S) (hp : SeekPost a L S s n) :
    s < S.length ∧ ((∃ i, i < L.length ∧ nth L i = a ∧ nth S s = i + 1) ∨ (a ∉ L ∧ nth S s = 0 ∧ ∃ d, d < S.length ∧ s = probe a S.length d ∧ ∀ d', d' < d → nth S (probe a S.length d') ≠ 0)) := by
  rcases hp with ⟨d, hd, hh, hno, rfl, rfl⟩ | ⟨hno, _, _⟩
  · refine ⟨probe_lt _ _ _ h.pos, ?_⟩
    have hnz : ∀ d', d' < d → nth S (probe a S.length d') ≠ 0 := fun d' hd' e => by
      have := hno d' hd'
      rw [Bool.eq_false_iff] at this
      exact this (hit_eq.2 (.inl e))
    by_cases hz : nth S (probe a S.length d) = 0
    · right
      refine ⟨fun hm => ?_, hz, d, hd, rfl, hnz⟩
      obtain ⟨i, hi, e⟩ := List.getElem_of_mem hm
      have e' : nth L i = a := by rw [nth_eq _ _ hi, e]
      obtain ⟨d1, hd1, h1, h2⟩ := h.at_ i hi
      rw [e'] at h1 h2
      rcases Nat.lt_trichotomy d1 d with c | c | c
      · have := hno d1 c
        rw [Bool.eq_false_iff] at this
        exact this (hit_eq.2 (.inr (by rw [h1, Nat.add_sub_cancel]; exact e')))
      · subst c; omega
      · exact h2 d c hz
    · left
      rcases hit_eq.1 hh with e | e
      · exact absurd e hz
      · have hle := h.le _ (nth_mem S _ (probe_lt a S.length d h.pos))
        exact ⟨nth S (probe a S.length d) - 1, by omega, e, by omega⟩
  · obtain ⟨p, hp, hz⟩ := inv_free h
    obtain ⟨d, hd, e⟩ := probe_surj a S.length p hp
    have := hno d hd
    rw [Bool.eq_false_iff] at this
    exact absurd (hit_eq.2 (.inl (by rw [e]; exact hz))) this
theorem nth_set' {α : Type} [Inhabited α] (l : List α) (k j : Nat) (x : α) (hj : j < l.length) : nth (l.set k x) j = if j = k then x else nth l j := by
  rw [nth_eq _ _ (by simpa using hj), nth_eq _ _ hj, List.getElem_set]
  by_cases h : k = j
  · simp [h]
  · simp [h, Ne.symm h]
theorem nth_append_l {α : Type} [Inhabited α] (l : List α) (x : α) (j : Nat) (hj : j < l.length) : nth (l ++ [x]) j = nth l j := by
  rw [nth_eq _ _ (by simp; omega), nth_eq _ _ hj, List.getElem_append_left hj]
theorem nth_append_r {α : Type} [Inhabited α] (l : List α) (x : α) : nth (l ++ [x]) l.length = x := by
  rw [nth_eq _ _ (by simp)]; simp
/-- One more. -/
theorem insert_inv {a : Lab} {L : List Lab} {S : List Nat} {s d : Nat} (h : Inv L S) (ha : a ∉ L) (hd : d < S.length) (hs : s = probe a S.length d) (hz : nth S s = 0) (hnz : ∀ d', d' < d → nth S (probe a S.length d') ≠ 0) (hl : L.length + 1 < S.length) :
    Inv (L ++ [a]) (S.set s (L.length + 1)) := by
  have hsl : s < S.length := by rw [hs]; exact probe_lt _ _ _ h.pos
  refine ⟨by simpa using h.pow, ?_, ?_, ?_, ?_, by simpa using hl⟩
  · rw [List.nodup_append]
    refine ⟨h.nodup, by simp, fun x hx y hy e => ?_⟩
    simp at hy
    subst hy; subst e
    exact ha hx
  · intro x hx
    rw [List.length_append, List.length_singleton]
    rcases List.mem_or_eq_of_mem_set hx with hx | rfl
    · have := h.le x hx; omega
    · omega
  · intro i hi
    rw [List.length_append, List.length_singleton] at hi
    rw [List.length_set]
    have hplt := fun (b : Lab) d => probe_lt b S.length d h.pos
    by_cases c : i < L.length
    · rw [nth_append_l _ _ _ c]
      obtain ⟨d1, hd1, h1, h2⟩ := h.at_ i c
      refine ⟨d1, hd1, ?_, fun d' hd' => ?_⟩
      · rw [nth_set' _ _ _ _ (hplt _ _), if_neg (fun e => by rw [e, hz] at h1; omega)]; exact h1
      · rw [nth_set' _ _ _ _ (hplt _ _)]
        split
        · omega
        · exact h2 d' hd'
    · obtain rfl : i = L.length := by omega
      rw [nth_append_r]
      refine ⟨d, hd, ?_, fun d' hd' => ?_⟩
      · rw [nth_set' _ _ _ _ (hplt _ _), if_pos hs.symm]
      · rw [nth_set' _ _ _ _ (hplt _ _)]
        split
        · omega
        · exact hnz d' hd'
  · have hcs := List.countP_set (p := fun x => decide (x ≠ 0)) (l := S) (i := s) (a := L.length + 1) hsl
    have hz' : S[s] = 0 := by rw [← nth_eq S s hsl]; exact hz
    rw [hcs, hz']
    have := h.cnt
    simp only [ne_eq, not_true_eq_false, decide_false, Bool.false_eq_true, if_false, Nat.sub_zero, List.length_append, List.length_singleton] at this ⊢
    split <;> omega
end Go.Proofs.Yteilngkjoeaboaa.Hs
