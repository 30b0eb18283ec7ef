/- Contract of hash.Add whole, and of hash.New. -/
import Derived.Test.YteilngkjoeaboaaAdd
namespace Go.Proofs.Yteilngkjoeaboaa.Hs
open Go.RowKit Go.Proofs.Yteilngkjoeaboaa.Lb
set_option linter.unusedVariables false
set_option linter.unusedSimpArgs false

/-- Why a label may not be laid in. -/
def addE (L : List Lab) (a : Lab) : Int := if rightL a = false then 9 else if a ∈ L then 6 else if 4096 ≤ L.length then 7 else 0
def addL (L : List Lab) (a : Lab) : List Lab := if addE L a = 0 then L ++ [a] else L
def addN (L : List Lab) (a : Lab) : Int := if addE L a = 0 then (L.length : Nat) else 0
def HasTab (B : Nat) (w : World) (T : Nat) (L : List Lab) : Prop := ∃ S LA lc sb, Tab B w T L S LA lc sb
theorem HasTab.below {B : Nat} {w w' : World} {T : Nat} {L : List Lab} (h : HasTab B w T L) (hb : Below w.heap.size w w') : HasTab B w' T L := by
  obtain ⟨S, LA, lc, sb, h⟩ := h
  exact ⟨S, LA, lc, sb, h.tab.below hb, h.inv, h.ok, h.room, h.eight, h.least, h.few⟩
theorem add_calls (a : Lab) (ha : a.Ok) (B T : Nat) (L : List Lab) (w : World) (ht : HasTab B w T L) (hB : B ≤ w.heap.size) :
    Calls Try.prog 10 #[.pointer (some ⟨T, 0, none⟩), a.v] w fun e w' => e = .returned (.tuple #[.int .i64 (addN L a), .int .i64 (addE L a)]) ∧ HasTab B w' T (addL L a) ∧ Below B w w' ∧ B ≤ w'.heap.size ∧ Spares w w' := by
  obtain ⟨S, LA, lc, sb, ht⟩ := ht
  have keep : ∀ w', Below w.heap.size w w' → HasTab B w' T L ∧ Below B w w' ∧ B ≤ w'.heap.size ∧ Spares w w' := fun w' hb => ⟨HasTab.below ⟨S, LA, lc, sb, ht⟩ hb, hb.mono hB, Nat.le_trans hB hb.size, Spares.below hb⟩
  cases hr : rightL a with
  | false =>
    have h1 : addE L a = 9 := by simp [addE, hr]
    have h2 : addN L a = 0 := by simp [addN, h1]
    have h3 : addL L a = L := by simp [addL, h1]
    rw [h1, h2, h3]
    exact (add_wrong a ha B T L S LA lc sb w ht hr).mono fun e w' ⟨he, hb⟩ => ⟨he, keep w' hb⟩
  | true =>
    by_cases hm : a ∈ L
    · have h1 : addE L a = 6 := by simp [addE, hr, hm]
      have h2 : addN L a = 0 := by simp [addN, h1]
      have h3 : addL L a = L := by simp [addL, h1]
      rw [h1, h2, h3]
      exact (add_twice a ha B T L S LA lc sb w ht hr hm).mono fun e w' ⟨he, hb⟩ => ⟨he, keep w' hb⟩
    · by_cases hl : 4096 ≤ L.length
      · have h1 : addE L a = 7 := by simp [addE, hr, hm, hl]
        have h2 : addN L a = 0 := by simp [addN, h1]
        have h3 : addL L a = L := by simp [addL, h1]
        rw [h1, h2, h3]
        exact (add_full a ha B T L S LA lc sb w ht hr hm hl).mono fun e w' ⟨he, hb⟩ => ⟨he, keep w' hb⟩
      · have h1 : addE L a = 0 := by simp [addE, hr, hm]; omega
        have h2 : addN L a = (L.length : Nat) := by simp [addN, h1]
        have h3 : addL L a = L ++ [a] := by simp [addL, h1]
        rw [h1, h2, h3]
        exact add_yes a ha B T L S LA lc sb w ht hB hr hm (by omega)

/-- What New comes to: why not, or the labels that are in. -/
def newE (L : List Lab) : List Lab → Int × List Lab
  | [] => (0, L)
  | a :: ls => if addE L a = 0 then newE (L ++ [a]) ls else (addE L a, L)
def NewPost (B T : Nat) (r : Int × List Lab) (w' : World) (e : Ending) : Prop :=
  (r.1 = 0 ∧ e = .returned (.tuple #[.pointer (some ⟨T, 0, none⟩), .int .i64 0]) ∧ HasTab B w' T r.2) ∨ (r.1 ≠ 0 ∧ e = .returned (.tuple #[.pointer none, .int .i64 r.1]))
theorem new_tab (w : World) : HasTab w.heap.size ((w.alloc (.cells (madeCells #[.int .i64 0] 8) 3)).alloc (.cells #[.slice none 0 0, .slice (some ⟨w.heap.size, 0, none⟩) 8 8] 45)) (w.heap.size + 1) [] := by
  refine ⟨List.replicate 8 0, none, 0, w.heap.size, ⟨?_, ?_, World.ownsRow_nil _ _ _ _, by omega, by omega⟩, inv_empty 3 (by omega), fun x hx => by simp at hx, by simp, by simp, by simp, by simp⟩
  · exact Blk.new' (by simp) _ _
  · rw [made_eq]
    exact Blk.alloc (Blk.new' rfl _ _) _
theorem drop_nth {α : Type} [Inhabited α] (xs : List α) (k : Nat) (h : k < xs.length) : xs.drop k = nth xs k :: xs.drop (k + 1) := by
  rw [nth_eq _ _ h, List.drop_eq_getElem_cons h]
set_option maxRecDepth 100000 in
set_option maxHeartbeats 2000000 in
theorem new_calls (ls : List Lab) (A : Option Addr) (n c : Nat) (hn : ls.length = n) (hok : ∀ x ∈ ls, x.Ok) (hl : n ≤ 1099511627776) (w : World) (hs : Shows w A (ls.flatMap Lab.cs)) :
    Calls Try.prog 8 #[.slice A n c] w fun e w' => NewPost w.heap.size (w.heap.size + 1) (newE [] ls) w' e ∧ Below w.heap.size w w' := by
  subst hn
  have hmk := make_slots 8 (by omega)
  rw [show ((8 : Nat) : Int) = 8 from rfl] at hmk
  have HS := Lib.hid hs
  have HOK := Lib.hid hok
  have HT0 := Lib.hid (new_tab w)
  have HB0 := Lib.hid (bl_alloc (bl_alloc (Below.refl w.heap.size w) (.cells (madeCells #[.int .i64 0] 8) 3)) (.cells #[.slice none 0 0, .slice (some ⟨w.heap.size, 0, none⟩) 8 8] 45))
  have hz0 : w.heap.size + 1 < ((w.alloc (.cells (madeCells #[.int .i64 0] 8) 3)).alloc (.cells #[.slice none 0 0, .slice (some ⟨w.heap.size, 0, none⟩) 8 8] 45)).heap.size := by simp
  obtain ⟨R, hR⟩ : ∃ R, R = newE [] ls := ⟨_, rfl⟩
  rw [← hR]
  have HR := Lib.hid hR
  clear hs hok hR
  go_enter Try.func8, Try.ntmps8
  go_wp2_with fail
  clear hmk
  generalize ((w.alloc (.cells (madeCells #[.int .i64 0] 8) 3)).alloc (.cells #[.slice none 0 0, .slice (some ⟨w.heap.size, 0, none⟩) 8 8] 45)) = W0 at *
  go_loopw [14] (fun i wr => ∃ (k : Nat) (L : List Lab), i = .int .i64 k ∧ k ≤ ls.length ∧ Hid (newE L (ls.drop k) = R) ∧ Hid (HasTab w.heap.size wr (w.heap.size + 1) L) ∧ Below w.heap.size w wr ∧ w.heap.size + 1 < wr.heap.size) (fun i _ => ls.length - (intOf i).toNat)
  case atStart => exact ⟨0, [], rfl, Nat.zero_le _, Lib.hid (by rw [HR.out]; rfl), HT0, HB0.out, hz0⟩
  case round =>
    obtain ⟨k, L, rfl, hk, HN, HT, hB, hz⟩ := hrel
    have HB := Lib.hid hB
    clear hB
    by_cases hlt : k < ls.length
    · obtain ⟨b, off, rfl, g0, g1, g2⟩ := lab_at (HS.out.below HB.out) k hlt
      have hN := HN.out
      rw [drop_nth _ _ hlt] at hN
      have hxo := HOK.out _ (nth_mem ls k hlt)
      generalize nth ls k = x at *
      unfold newE at hN
      have HN' := Lib.hid hN
      have HADD := Lib.hid (fun w h h' => add_calls x hxo w.heap.size (w.heap.size + 1) L w h h')
      have HADD2 : Hid (∀ w', HasTab w.heap.size w' (w.heap.size + 1) L → w.heap.size ≤ w'.heap.size → Calls Try.prog 10 #[.pointer (some ⟨w.heap.size + 1, 0, none⟩), .agg #[.int .u8 x.k, .int .i64 x.n, .string x.s]] w' fun e w'' => e = .returned (.tuple #[.int .i64 (addN L x), .int .i64 (addE L x)]) ∧ HasTab w.heap.size w'' (w.heap.size + 1) (addL L x) ∧ Below w.heap.size w' w'' ∧ w.heap.size ≤ w''.heap.size ∧ Spares w' w'') := Lib.hid fun w' h h' => add_calls x hxo w.heap.size (w.heap.size + 1) L w' h h'
      clear hN HN hxo HADD
      have HT1 : Hid (HasTab w.heap.size (wr.alloc (.cells #[.int .u8 x.k, .int .i64 x.n, .string x.s] 34)) (w.heap.size + 1) L) := Lib.hid (HT.out.below (bl_alloc (Below.refl _ _) _))
      have HB1 : Hid (Below w.heap.size w (wr.alloc (.cells #[.int .u8 x.k, .int .i64 x.n, .string x.s] 34))) := Lib.hid (bl_alloc HB.out _)
      by_cases he : addE L x = 0
      · have hL : addL L x = L ++ [x] := if_pos he
        have HA : Hid (newE (L ++ [x]) (ls.drop (k + 1)) = R) := Lib.hid (by have := HN'.out; rwa [if_pos he] at this)
        rw [hL, he] at HADD2
        clear he hL
        generalize addN L x = N at *
        go_wp2_with fail
        refine (HADD2.out _ HT1.out (by simp; omega)).mono ?_
        rintro e w2 ⟨rfl, hT2, hB2, hz2, _⟩
        have HT2 := Lib.hid hT2
        have HB2 := Lib.hid (HB1.out.trans hB2)
        have hz2' : w.heap.size + 1 < w2.heap.size := by obtain ⟨_, _, _, _, h⟩ := hT2; exact h.tab.hT.lt
        clear hT2 hB2
        go_wp2_with fail
        go_roundw
        case measure => simp [intOf]; omega
        case rel => exact ⟨k + 1, L ++ [x], by go_num, by omega, HA, HT2, HB2.out, hz2'⟩
      · have HA : Hid (R = (addE L x, L)) := Lib.hid (by have := HN'.out; rw [if_neg he] at this; exact this.symm)
        have hb : (addE L x == 0) = false := by simpa using he
        have hb2 : (addE L x != 0) = true := by simpa using he
        have HE := Lib.hid he
        clear he
        generalize addN L x = N at *
        generalize addE L x = E at *
        go_wp2_with fail
        refine (HADD2.out _ HT1.out (by simp; omega)).mono ?_
        rintro e w2 ⟨rfl, hT2, hB2, hz2, _⟩
        have HB2 := Lib.hid (HB1.out.trans hB2)
        clear hT2 hB2
        go_wp2_with fail
        go_ret2
        exact ⟨.inr ⟨by rw [HA.out]; exact HE.out, by rw [HA.out]; rfl⟩, HB2.out⟩
    · have hN := HN.out
      rw [List.drop_of_length_le (by omega)] at hN
      have HR' : Hid (R = (0, L)) := Lib.hid (by rw [← hN]; rfl)
      clear hN HN
      go_wp2_with fail
      go_ret2
      exact ⟨.inl ⟨by rw [HR'.out], rfl, by rw [HR'.out]; exact HT.out⟩, HB.out⟩
end Go.Proofs.Yteilngkjoeaboaa.Hs
