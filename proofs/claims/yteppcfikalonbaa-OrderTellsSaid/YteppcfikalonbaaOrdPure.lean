/- Plain laws of orders: no program in sight. -/
import Derived.Test.YteppcfikalonbaaBase
namespace Go.Proofs.Yteppcfikalonbaa.Ord
open Go.RowKit

/-- 'behind' is an order of things some of which are alike. -/
structure Weak (bh : Nat → Nat → Bool) : Prop where
  irr : ∀ a, bh a a = false
  trans : ∀ a b c, bh a b = true → bh b c = true → bh a c = true
  neg : ∀ a b c, bh a b = false → bh b c = false → bh a c = false

/-- a stands ahead of b: b is behind it, or they are alike and a came first. -/
def Ahead (bh : Nat → Nat → Bool) (a b : Nat) : Prop := bh b a = true ∨ (bh a b = false ∧ a < b)

section
variable {bh : Nat → Nat → Bool} (H : Weak bh)
include H
theorem Weak.asym {a b : Nat} (h : bh a b = true) : bh b a = false := by
  cases h' : bh b a with
  | false => rfl
  | true => have := H.trans a b a h h'; rw [H.irr a] at this; exact this.symm
theorem ahead_trans {a b c : Nat} (h : Ahead bh a b) (k : Ahead bh b c) : Ahead bh a c := by
  rcases h with h | ⟨h1, h2⟩ <;> rcases k with k | ⟨k1, k2⟩
  · exact .inl (H.trans _ _ _ k h)
  · cases e : bh c a with
    | true => exact .inl e
    | false => have := H.neg b c a k1 e; rw [this] at h; simp at h
  · cases e : bh c a with
    | true => exact .inl e
    | false => have := H.neg c a b e h1; rw [this] at k; simp at k
  · exact .inr ⟨H.neg _ _ _ h1 k1, by omega⟩
theorem ahead_irr (a : Nat) : ¬ Ahead bh a a := by
  rintro (h | ⟨_, h⟩)
  · rw [H.irr a] at h; simp at h
  · omega
theorem ahead_asym {a b : Nat} (h : Ahead bh a b) : ¬ Ahead bh b a := fun k => ahead_irr H a (ahead_trans H h k)

/-- Two rows in order of the same things are one. -/
theorem sorted_unique : ∀ {xs ys : List Nat}, xs.Perm ys → xs.Pairwise (Ahead bh) → ys.Pairwise (Ahead bh) → xs = ys
  | [], ys, hp, _, _ => by simpa using hp.symm
  | x :: xs, ys, hp, h1, h2 => by
    cases ys with
    | nil => simp at hp
    | cons y ys =>
      have hxy : x = y := by
        have hy : y ∈ x :: xs := hp.symm.subset (by simp)
        have hx : x ∈ y :: ys := hp.subset (by simp)
        rcases List.mem_cons.1 hy with e | e
        · exact e.symm
        · rcases List.mem_cons.1 hx with e' | e'
          · exact e'
          · exact absurd (List.rel_of_pairwise_cons h2 e') (ahead_asym H (List.rel_of_pairwise_cons h1 e))
      subst hxy
      rw [sorted_unique ((List.perm_cons x).1 hp) (List.pairwise_cons.1 h1).2 (List.pairwise_cons.1 h2).2]

/-- One thing laid into a row in order, behind all that are not behind it. -/
theorem ins_ok (P : List Nat) (x k : Nat) (hP : P.Pairwise (Ahead bh)) (hlt : ∀ p ∈ P, p < x) (hk : k ≤ P.length) (hd : ∀ p ∈ P.drop k, bh p x = true)
    (hs : k = 0 ∨ ∃ h : k - 1 < P.length, bh (P[k - 1]) x = false) : (P.take k ++ x :: P.drop k).Pairwise (Ahead bh) := by
  rw [List.pairwise_append]
  have h0 : (P.take k ++ P.drop k).Pairwise (Ahead bh) := by rw [List.take_append_drop]; exact hP
  rw [List.pairwise_append] at h0
  obtain ⟨h1, h2, h3⟩ := h0
  have hx : ∀ a ∈ P.take k, Ahead bh a x := by
    intro a ha
    rcases hs with rfl | ⟨hl, hs⟩
    · simp at ha
    · have hq : Ahead bh P[k - 1] x := .inr ⟨hs, hlt _ (List.getElem_mem hl)⟩
      rw [List.mem_take_iff_getElem] at ha
      obtain ⟨i, hi, rfl⟩ := ha
      by_cases e : i = k - 1
      · subst e; exact hq
      · exact ahead_trans H (List.pairwise_iff_getElem.1 hP i (k - 1) (by omega) hl (by omega)) hq
  refine ⟨h1, List.pairwise_cons.2 ⟨fun p hp => .inl (hd p hp), h2⟩, ?_⟩
  intro a ha b hb
  rcases List.mem_cons.1 hb with rfl | hb
  · exact hx a ha
  · exact h3 a ha b hb
omit H
theorem ins_perm (P : List Nat) (x k : Nat) : (P.take k ++ x :: P.drop k).Perm (P ++ [x]) := by
  have h1 : (P.take k ++ x :: P.drop k).Perm (x :: (P.take k ++ P.drop k)) := List.perm_middle
  rw [List.take_append_drop] at h1
  exact h1.trans (List.perm_append_comm (l₁ := [x]) (l₂ := P))
end

/-- Two rows in order are joined: what is out, and what is left. -/
structure Joining (bh : Nat → Nat → Bool) (all ms xs ys : List Nat) : Prop where
  perm : (ms ++ (xs ++ ys)).Perm all
  out : ms.Pairwise (Ahead bh)
  left : xs.Pairwise (Ahead bh)
  right : ys.Pairwise (Ahead bh)
  ahead : ∀ m ∈ ms, ∀ r ∈ xs ++ ys, Ahead bh m r
  first : ∀ x ∈ xs, ∀ y ∈ ys, x < y
section
variable {bh : Nat → Nat → Bool} {all ms xs ys : List Nat} {x y : Nat}
theorem Joining.next {z : Nat} {xs' ys' : List Nat} (h : Joining bh all ms xs ys) (hp : (z :: (xs' ++ ys')).Perm (xs ++ ys)) (hx : xs'.Sublist xs) (hy : ys'.Sublist ys) (hz : ∀ r ∈ xs' ++ ys', Ahead bh z r) :
    Joining bh all (ms ++ [z]) xs' ys' := by
  refine ⟨?_, ?_, h.left.sublist hx, h.right.sublist hy, ?_, fun a ha b hb => h.first a (hx.subset ha) b (hy.subset hb)⟩
  · have e : (ms ++ [z] ++ (xs' ++ ys')) = ms ++ (z :: (xs' ++ ys')) := by simp
    rw [e]
    exact (hp.append_left ms).trans h.perm
  · rw [List.pairwise_append]
    exact ⟨h.out, by simp, fun a ha b hb => by simp at hb; subst hb; exact h.ahead a ha b (hp.subset (by simp))⟩
  · intro m hm r hr
    rcases List.mem_append.1 hm with hm | hm
    · exact h.ahead m hm r (hp.subset (List.mem_cons_of_mem _ hr))
    · simp at hm; subst hm; exact hz r hr
theorem Joining.takeLeft (H : Weak bh) (h : Joining bh all ms (x :: xs) ys) (hy : ys = [] ∨ ∃ y ys', ys = y :: ys' ∧ bh x y = false) : Joining bh all (ms ++ [x]) xs ys := by
  refine h.next (by simp) (by simp) (List.Sublist.refl _) ?_
  have hxs := (List.pairwise_cons.1 h.left).1
  intro r hr
  rcases List.mem_append.1 hr with hr | hr
  · exact hxs r hr
  · rcases hy with rfl | ⟨y, ys', rfl, e⟩
    · simp at hr
    · have h1 : Ahead bh x y := .inr ⟨e, h.first x (by simp) y (by simp)⟩
      rcases List.mem_cons.1 hr with rfl | hr
      · exact h1
      · exact ahead_trans H h1 ((List.pairwise_cons.1 h.right).1 r hr)
theorem Joining.takeRight (H : Weak bh) (h : Joining bh all ms xs (y :: ys)) (hx : xs = [] ∨ ∃ x xs', xs = x :: xs' ∧ bh x y = true) : Joining bh all (ms ++ [y]) xs ys := by
  refine h.next ?_ (List.Sublist.refl _) (by simp) ?_
  · exact List.perm_middle.symm
  · have hys := (List.pairwise_cons.1 h.right).1
    intro r hr
    rcases List.mem_append.1 hr with hr | hr
    · rcases hx with rfl | ⟨x, xs', rfl, e⟩
      · simp at hr
      · have h1 : Ahead bh y x := .inl e
        rcases List.mem_cons.1 hr with rfl | hr
        · exact h1
        · exact ahead_trans H h1 ((List.pairwise_cons.1 h.left).1 r hr)
    · exact hys r hr
end
end Go.Proofs.Yteppcfikalonbaa.Ord
