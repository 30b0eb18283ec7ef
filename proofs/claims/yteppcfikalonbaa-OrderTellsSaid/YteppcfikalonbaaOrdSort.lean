/- Contract of order.Sort: the places of a list's things, in order. -/
import Derived.Test.YteppcfikalonbaaOrdJoin
import Derived.Laws.EntriesVeiled
import Derived.Deep.OwnRows
namespace Go.Proofs.Yteppcfikalonbaa.Ord
open Go.RowKit
set_option linter.unusedVariables false
set_option linter.unusedSimpArgs false

/-- What is known of a cmp of whole numbers: nil (all are alike), or a function value that answers so. -/
def CmpOf (g : FuncId) (caps : Array Value) (c : Int → Int → Int) : Prop :=
  Fun Try.prog g ∧ ∀ (a b : Int) (W : World), Calls Try.prog g (#[.int .i64 a, .int .i64 b] ++ caps) W fun e W' => e = .returned (.int .i64 (c a b)) ∧ W = W'
def CmpVal (F : Value) (c : Int → Int → Int) : Prop := (F = .nilFunc ∧ c = fun _ _ => 0) ∨ ∃ g caps, F = .func (.func g) #[] caps ∧ CmpOf g caps c

theorem zero_calls (a b : Int) (W : World) : Calls Try.prog 30 #[.int .i64 a, .int .i64 b] W fun e W' => e = .returned (.int .i64 0) ∧ W = W' := by
  go_enter Try.func30, Try.ntmps30
  go_wp2
  go_ret
  exact ⟨rfl, rfl⟩

theorem alike_calls (F : Value) (c : Int → Int → Int) (h : CmpVal F c) (w : World) :
    Calls Try.prog 23 #[F] w fun e w' => (∃ g caps, e = .returned (.func (.func g) #[] caps) ∧ CmpOf g caps c) ∧ w = w' := by
  rcases h with ⟨rfl, rfl⟩ | ⟨g, caps, rfl, hc⟩
  · have he : ∀ w, (Go.binOp .eql 29 .nilFunc .nilFunc).run Try.prog w = .ok (.bool true) w := fun w => by kernel_rfl
    go_enter Try.func23, Try.ntmps23
    go_wp2
    go_ret
    exact ⟨⟨_, _, rfl, Try.call30, fun a b W => zero_calls a b W⟩, rfl⟩
  · have HC := Lib.hid hc
    clear hc
    have he : ∀ w, (Go.binOp .eql 29 (.func (.func g) #[] caps) .nilFunc).run Try.prog w = .ok (.bool false) w := fun w => by kernel_rfl
    go_enter Try.func23, Try.ntmps23
    go_wp2
    go_ret
    exact ⟨⟨_, _, rfl, HC.out⟩, rfl⟩

/-- behind(a, b): is l[a] behind l[b]? -/
def bhOf (c : Int → Int → Int) (xs : List Int) (a b : Nat) : Bool := decide (0 < c (nth xs a) (nth xs b))

set_option maxHeartbeats 1000000 in
theorem behind_calls (g : FuncId) (caps : Array Value) (c : Int → Int → Int) (hc : CmpOf g caps c) (xs : List Int) (A : Option Addr) (ca : Nat) (W : World) (bl bc : Nat)
    (h1 : W.cell? ⟨bl, 0, none⟩ = some (.slice A xs.length ca)) (h2 : W.cell? ⟨bc, 0, none⟩ = some (.func (.func g) #[] caps)) (hx : ReadsI W .i64 A xs) (hl : xs.length ≤ 1000000) (a b : Nat) (ha : a < xs.length) (hb : b < xs.length) :
    Calls Try.prog 24 (#[.int .i64 a, .int .i64 b] ++ #[.pointer (some ⟨bc, 0, none⟩), .pointer (some ⟨bl, 0, none⟩)]) W fun e W' => e = .returned (.bool (bhOf c xs a b)) ∧ ∃ m, W' = W.drewN m := by
  have e := hc.1
  unfold Fun at e
  have HC := Lib.hid hc.2
  obtain ⟨bb, off, hA, ca1⟩ := hx a ha
  obtain ⟨bb', off', hA', cb1⟩ := hx b hb
  subst hA
  injection hA' with hA'
  injection hA' with h3 h4
  subst h3
  subst h4
  clear hc hx
  have HP : Hid (bhOf c xs a b = decide (0 < c (nth xs a) (nth xs b))) := rfl
  generalize nth xs a = x at *
  generalize nth xs b = y at *
  show Calls Try.prog 24 #[.int .i64 a, .int .i64 b, .pointer (some ⟨bc, 0, none⟩), .pointer (some ⟨bl, 0, none⟩)] W _
  go_enter Try.func24, Try.ntmps24
  go_wp2_with fail
  go_quiet ((go_at_fn g; exact quiet_eq (HC.out _ _ _)))
  go_wp2_with fail
  go_ret
  exact ⟨ret_bool HP.out.symm, _, rfl⟩

/-- Piece s .. e - 1 of a row. -/
def seg (L : List Nat) (s e : Nat) : List Nat := (L.drop s).take (e - s)
theorem seg_length (L : List Nat) (s e : Nat) (h : e ≤ L.length) (hse : s ≤ e) : (seg L s e).length = e - s := by simp [seg]; omega
theorem seg_split (L : List Nat) (s e : Nat) (h : e ≤ L.length) (hse : s ≤ e) : L.take s ++ (seg L s e ++ L.drop e) = L := by
  unfold seg
  have e1 : L.drop e = (L.drop s).drop (e - s) := by rw [List.drop_drop]; congr 1; omega
  rw [e1, List.take_append_drop, List.take_append_drop]
/-- The places s .. e - 1, in order. -/
def SS (bh : Nat → Nat → Bool) (L : List Nat) (s e : Nat) : Prop := (seg L s e).Perm (List.range' s (e - s)) ∧ (seg L s e).Pairwise (Ahead bh)
theorem seg_new (L ys : List Nat) (s e : Nat) (h : e ≤ L.length) (hse : s ≤ e) (hl : ys.length = e - s) : seg (L.take s ++ (ys ++ L.drop e)) s e = ys := by
  have h1 : (L.take s).length = s := by simp; omega
  unfold seg
  rw [List.drop_append_of_le_length (by omega), List.drop_of_length_le (by omega), List.nil_append, List.take_append_of_le_length (by omega), List.take_of_length_le (by omega)]
theorem seg_old_left (L ys : List Nat) (s e p q : Nat) (h : e ≤ L.length) (hse : s ≤ e) (hl : ys.length = e - s) (hq : q ≤ s) : seg (L.take s ++ (ys ++ L.drop e)) p q = seg L p q := by
  unfold seg
  apply List.ext_getElem
  · simp; omega
  · intro i h1 h2
    simp only [List.length_take, List.length_drop, List.length_append] at h1 h2
    simp only [List.getElem_take, List.getElem_drop]
    rw [List.getElem_append_left (by simp; omega), List.getElem_take]
theorem drop_new (L ys : List Nat) (s e : Nat) (h : e ≤ L.length) (hse : s ≤ e) (hl : ys.length = e - s) : (L.take s ++ (ys ++ L.drop e)).drop e = L.drop e := by
  have h1 : (L.take s).length = s := by simp; omega
  rw [← List.append_assoc, List.drop_append_of_le_length (by simp; omega), List.drop_of_length_le (by simp; omega), List.nil_append]
theorem range_drop (f n : Nat) (h : f ≤ n) : (List.range n).drop f = List.range' f (n - f) := by rw [List.range_eq_range']; simp
end Go.Proofs.Yteppcfikalonbaa.Ord
