/- The table in memory; contracts of hash.none, Find, Len, Room. -/
import Derived.Test.YteilngkjoeaboaaHashPure
import Derived.Test.YteilngkjoeaboaaLeave
namespace Go.Proofs.Yteilngkjoeaboaa.Hs
open Go.RowKit Go.Proofs.Yteilngkjoeaboaa.Lb
set_option linter.unusedVariables false
set_option linter.unusedSimpArgs false

/-- A table of the call's own. -/
structure TabW (B : Nat) (w : World) (T : Nat) (L : List Lab) (S : List Nat) (LA : Option Addr) (lc sb : Nat) : Prop where
  hT : Blk w T 45 #[.slice LA L.length lc, .slice (some ⟨sb, 0, none⟩) S.length S.length]
  hs : Blk w sb 3 (S.map fun (x : Nat) => Value.int .i64 x).toArray
  ho : w.ownsRow B 34 3 (.slice LA L.length lc) L.length (L.flatMap Lab.cs)
  b1 : B ≤ T
  b2 : B ≤ sb
section
variable {B : Nat} {w w' : World} {T : Nat} {L : List Lab} {S : List Nat} {LA : Option Addr} {lc sb : Nat}
theorem row_of_blk {w : World} {g : Nat} {t : TypeId} {S : List Nat} (h : Blk w g t (S.map fun (x : Nat) => Value.int .i64 x).toArray) : RowN w g 0 S := fun i hi => by
  rw [Nat.zero_add, h.cell, h.frozen]
  refine ⟨?_, rfl⟩
  simp [hi, nth_eq]
theorem TabW.read (h : TabW B w T L S LA lc sb) : TabR w T L S LA lc sb S.length :=
  ⟨h.hT.cell 0, h.hT.cell 1, Shows.of_own h.ho, row_of_blk h.hs⟩
theorem TabW.below (h : TabW B w T L S LA lc sb) (hb : Below w.heap.size w w') : TabW B w' T L S LA lc sb :=
  ⟨h.hT.below' hb, h.hs.below' hb, own_below h.ho hb, h.b1, h.b2⟩
end

theorem TabW.slot {B : Nat} {w : World} {T : Nat} {L : List Lab} {S : List Nat} {LA : Option Addr} {lc sb : Nat} (h : TabW B w T L S LA lc sb) (p x : Nat) : TabW B (w.setCell ⟨sb, p, none⟩ (.int .i64 (x : Nat))) T L (S.set p x) LA lc sb := by
  refine ⟨?_, ?_, own_far h.ho (p := ⟨sb, p, none⟩) h.hs (by decide) _, h.b1, h.b2⟩
  · have := h.hT.far (p := ⟨sb, p, none⟩) (Blk.ne_ h.hT h.hs (by decide)) (.int .i64 (x : Nat))
    simpa using this
  · have := h.hs.set p (.int .i64 (x : Nat))
    simpa [List.map_set] using this
theorem TabW.drew {B : Nat} {w : World} {T : Nat} {L : List Lab} {S : List Nat} {LA : Option Addr} {lc sb : Nat} (h : TabW B w T L S LA lc sb) : TabW B w.drew T L S LA lc sb := ⟨h.hT, h.hs, h.ho, h.b1, h.b2⟩
theorem TabW.kept {B : Nat} {w w' : World} {T : Nat} {L : List Lab} {S : List Nat} {LA : Option Addr} {lc sb : Nat} {row : Option Nat} (h : TabW B w T L S LA lc sb) (hg : w.grownBy w' row) (hr : ∀ r, row = some r → ∃ o : Obj, w.heap[r]? = some o ∧ o.isCells = false) : TabW B w' T L S LA lc sb :=
  ⟨blk_kept h.hT hg hr, blk_kept h.hs hg hr, own_kept h.ho hg hr, h.b1, h.b2⟩

theorem none_no (T : Nat) (LV : Value) (SA : Option Addr) (m mc : Nat) (w : World) (hT : w.cell? ⟨T, 1, none⟩ = some (.slice SA m mc)) (hs : SA ≠ none) :
    Calls Try.prog 17 #[.pointer (some ⟨T, 0, none⟩)] w fun e w' => e = .returned (.bool false) ∧ w = w' := by
  obtain ⟨p, rfl⟩ : ∃ p, SA = some p := by cases SA with
    | none => exact absurd rfl hs
    | some p => exact ⟨p, rfl⟩
  clear hs
  have hq := fun w => Lib.run_eql_slice_nil (P := Try.prog) w 43 3 (some p) m mc 0 0 Try.underlying43
  go_enter Try.func17, Try.ntmps17
  go_wp2
  go_ret
  exact ⟨rfl, rfl⟩
theorem none_nil (w : World) : Calls Try.prog 17 #[.pointer none] w fun e w' => e = .returned (.bool true) ∧ w = w' := by
  go_enter Try.func17, Try.ntmps17
  go_wp2
  go_ret
  exact ⟨rfl, rfl⟩
theorem none_zero (T : Nat) (w : World) (hT : w.cell? ⟨T, 1, none⟩ = some (.slice none 0 0)) :
    Calls Try.prog 17 #[.pointer (some ⟨T, 0, none⟩)] w fun e w' => e = .returned (.bool true) ∧ w = w' := by
  have hq := fun w => Lib.run_eql_slice_nil (P := Try.prog) w 43 3 none 0 0 0 0 Try.underlying43
  go_enter Try.func17, Try.ntmps17
  go_wp2
  go_ret
  exact ⟨rfl, rfl⟩

theorem seek_calls (a : Lab) (ha : a.Ok) (T : Nat) (L : List Lab) (S : List Nat) (LA : Option Addr) (lc sb sc : Nat) (w : World) (ht : TabR w T L S LA lc sb sc) (hi : Inv L S) (hL : L.length ≤ 1099511627776) :
    Calls Try.prog 19 #[.pointer (some ⟨T, 0, none⟩), a.v] w fun e w' => (∃ s n : Nat, e = .returned (.tuple #[.int .i64 s, .int .i64 n]) ∧ n ≤ S.length ∧ s < S.length ∧
      ((∃ i, i < L.length ∧ nth L i = a ∧ nth S s = i + 1) ∨ (a ∉ L ∧ nth S s = 0 ∧ ∃ d, d < S.length ∧ s = probe a S.length d ∧ ∀ d', d' < d → nth S (probe a S.length d') ≠ 0))) ∧ Below w.heap.size w w' := by
  obtain ⟨kk, hkk, hm⟩ := hi.pow
  refine (callsIn_wide.1 (seek_in a ha T L S LA lc sb sc kk w ht hm hkk hi.le hL)).mono ?_
  rintro e w' ⟨⟨s, n, rfl, hp⟩, hB⟩
  refine ⟨⟨s, n, rfl, ?_, seek_inv hi hp⟩, hB⟩
  rcases hp with ⟨d, hd, _, _, _, rfl⟩ | ⟨_, _, rfl⟩ <;> omega

/-- What Find says. -/
def FindPost (a : Lab) (L : List Lab) (e : Ending) : Prop :=
  (∃ i, i < L.length ∧ nth L i = a ∧ e = .returned (.tuple #[.int .i64 (i : Nat), .bool true])) ∨ (a ∉ L ∧ e = .returned (.tuple #[.int .i64 0, .bool false]))
set_option maxHeartbeats 1000000 in
theorem find_calls (a : Lab) (ha : a.Ok) (T : Nat) (L : List Lab) (S : List Nat) (LA : Option Addr) (lc sb sc : Nat) (w : World) (ht : TabR w T L S LA lc sb sc) (hi : Inv L S) (hL : L.length ≤ 1099511627776) :
    Calls Try.prog 11 #[.pointer (some ⟨T, 0, none⟩), a.v] w fun e w' => FindPost a L e ∧ Below w.heap.size w w' := by
  have HN := Lib.hid (fun w (h : TabR w T L S LA lc sb sc) => none_no T (.slice LA L.length lc) _ _ _ w h.s (by simp))
  have HSK := Lib.hid (fun w h => seek_calls a ha T L S LA lc sb sc w h hi hL)
  have hv : a.v = .agg #[.int .u8 a.k, .int .i64 a.n, .string a.s] := rfl
  have HT1 := Lib.hid (ht.below (bl_alloc (Below.refl _ _) (.cells #[.int .u8 a.k, .int .i64 a.n, .string a.s] 34)))
  have HBX := Lib.hid (Blk.new w 34 #[.int .u8 a.k, .int .i64 a.n, .string a.s])
  have HB1 := Lib.hid (bl_alloc (Below.refl w.heap.size w) (.cells #[.int .u8 a.k, .int .i64 a.n, .string a.s] 34))
  have HLE := Lib.hid hi.le
  rw [hv] at HSK ⊢
  clear ht hi hv ha
  go_enter Try.func11, Try.ntmps11
  go_wp2_with fail
  refine (HN.out _ HT1.out).mono ?_
  rintro e w' ⟨rfl, rfl⟩
  have c0 := HBX.out.cell 0
  have c1 := HBX.out.cell 1
  have c2 := HBX.out.cell 2
  go_wp2_with fail
  refine (HSK.out _ HT1.out).mono ?_
  rintro e w2 ⟨⟨s, n, rfl, hn, hs, hf⟩, hB2⟩
  have HT2 := Lib.hid (HT1.out.below hB2)
  have HB2 := Lib.hid (bl_then HB1.out hB2)
  have e1 := HT2.out.s
  have e2 := (HT2.out.row s hs).1
  rw [Nat.zero_add] at e2
  have hsl : (s : Int) < (S.length : Int) := by omega
  clear hB2 HT1 HBX HB1 c0 c1 c2 HN HSK
  rcases hf with ⟨i, hi, hia, his⟩ | ⟨hno, hz, _⟩
  · rw [his, show ((i + 1 : Nat) : Int) = (i : Int) + 1 by omega] at e2
    have HIA := Lib.hid hia
    have z : (((i : Int) + 1) == 0) = false := by simp; omega
    clear hia his
    go_wp2_with fail
    go_ret2
    exact ⟨.inl ⟨i, hi, HIA.out, rfl⟩, HB2.out⟩
  · rw [hz] at e2
    have HNO := Lib.hid hno
    clear hno hz
    go_wp2_with fail
    go_ret2
    exact ⟨.inr ⟨HNO.out, rfl⟩, HB2.out⟩
theorem find_none (T : Option Addr) (a : Lab) (w : World) (hn : ∀ W, Below w.heap.size w W → Calls Try.prog 17 #[.pointer T] W fun e w' => e = .returned (.bool true) ∧ W = w') :
    Calls Try.prog 11 #[.pointer T, a.v] w fun e w' => e = .returned (.tuple #[.int .i64 0, .bool false]) ∧ Below w.heap.size w w' := by
  have HN := Lib.hid hn
  have HB1 := Lib.hid (bl_alloc (Below.refl w.heap.size w) (.cells #[.int .u8 a.k, .int .i64 a.n, .string a.s] 34))
  have hv : a.v = .agg #[.int .u8 a.k, .int .i64 a.n, .string a.s] := rfl
  rw [hv]
  clear hn hv
  go_enter Try.func11, Try.ntmps11
  go_wp2_with fail
  refine (HN.out _ HB1.out).mono ?_
  rintro e w' ⟨rfl, rfl⟩
  go_wp2_with fail
  go_ret2
  exact ⟨rfl, HB1.out⟩
theorem len_calls (T : Nat) (L : List Lab) (S : List Nat) (LA : Option Addr) (lc sb sc : Nat) (w : World) (ht : TabR w T L S LA lc sb sc) :
    Calls Try.prog 12 #[.pointer (some ⟨T, 0, none⟩)] w fun e w' => e = .returned (.int .i64 (L.length : Nat)) ∧ w = w' := by
  have HN := Lib.hid (none_no T (.slice LA L.length lc) _ _ _ w ht.s (by simp))
  have e1 := ht.l
  clear ht
  go_enter Try.func12, Try.ntmps12
  go_wp2_with fail
  refine HN.out.mono ?_
  rintro e w' ⟨rfl, rfl⟩
  go_wp2_with fail
  go_ret
  exact ⟨rfl, rfl⟩
theorem len_none (T : Option Addr) (w : World) (hn : Calls Try.prog 17 #[.pointer T] w fun e w' => e = .returned (.bool true) ∧ w = w') :
    Calls Try.prog 12 #[.pointer T] w fun e w' => e = .returned (.int .i64 0) ∧ w = w' := by
  have HN := Lib.hid hn
  clear hn
  go_enter Try.func12, Try.ntmps12
  go_wp2_with fail
  refine HN.out.mono ?_
  rintro e w' ⟨rfl, rfl⟩
  go_wp2_with fail
  go_ret
  exact ⟨rfl, rfl⟩
theorem room_calls (T : Nat) (L : List Lab) (S : List Nat) (LA : Option Addr) (lc sb sc : Nat) (w : World) (ht : TabR w T L S LA lc sb sc) :
    Calls Try.prog 13 #[.pointer (some ⟨T, 0, none⟩)] w fun e w' => e = .returned (.int .i64 (S.length : Nat)) ∧ w = w' := by
  have HN := Lib.hid (none_no T (.slice LA L.length lc) _ _ _ w ht.s (by simp))
  have e1 := ht.s
  clear ht
  go_enter Try.func13, Try.ntmps13
  go_wp2_with fail
  refine HN.out.mono ?_
  rintro e w' ⟨rfl, rfl⟩
  go_wp2_with fail
  go_ret
  exact ⟨rfl, rfl⟩
theorem room_none (T : Option Addr) (w : World) (hn : Calls Try.prog 17 #[.pointer T] w fun e w' => e = .returned (.bool true) ∧ w = w') :
    Calls Try.prog 13 #[.pointer T] w fun e w' => e = .returned (.int .i64 0) ∧ w = w' := by
  have HN := Lib.hid hn
  clear hn
  go_enter Try.func13, Try.ntmps13
  go_wp2_with fail
  refine HN.out.mono ?_
  rintro e w' ⟨rfl, rfl⟩
  go_wp2_with fail
  go_ret
  exact ⟨rfl, rfl⟩
end Go.Proofs.Yteilngkjoeaboaa.Hs
