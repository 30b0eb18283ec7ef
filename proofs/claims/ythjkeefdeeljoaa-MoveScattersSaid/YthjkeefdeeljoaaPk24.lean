/- Permute. -/
import Derived.Test.YthjkeefdeeljoaaPk11
import Derived.Test.YthjkeefdeeljoaaPk3
import Derived.Deep.Cut
namespace Go.Proofs.Ythjkeefdeeljoaa.Shp
open Go.RowKit
set_option linter.unusedVariables false
set_option linter.unusedSimpArgs false

def pn (xs ps : List Int) (k : Nat) (l : List Int) : Option (List Int) := if 0 ≤ nth ps k ∧ nth ps k < xs.length ∧ nth ps k ∉ ps.take k then some (l ++ [nth xs (nth ps k).toNat]) else none
def permK (xs ps : List Int) : Nat → Option (List Int)
  | 0 => some []
  | k + 1 => (permK xs ps k).bind (pn xs ps k)
def permL (xs ps : List Int) : Option (List Int) := if rightB xs = true ∧ ps.length = xs.length then permK xs ps ps.length else none
theorem permK_none {xs ps : List Int} {k : Nat} (h : permK xs ps k = none) : ∀ m, k ≤ m → permK xs ps m = none := by
  intro m hm
  induction m with
  | zero => rw [show k = 0 by omega] at h; exact h
  | succ m ih =>
    by_cases e : k = m + 1
    · rw [← e]; exact h
    · unfold permK; rw [ih (by omega)]; rfl
theorem permK_length {xs ps : List Int} : ∀ {k : Nat} {l : List Int}, permK xs ps k = some l → l.length = k
  | 0, l, h => by simp [permK] at h; subst h; rfl
  | k + 1, l, h => by
    unfold permK at h
    cases h1 : permK xs ps k with
    | none => rw [h1] at h; cases h
    | some l1 =>
      rw [h1, Option.bind_some] at h
      have := permK_length h1
      unfold pn at h
      split at h
      · simp at h; subst h; simp [this]
      · cases h
def hadC (ps : List Int) (k : Nat) : Array Value := ((List.range 6).map fun (j : Nat) => Value.bool (decide ((j : Int) ∈ ps.take k))).toArray
theorem hadC_get (ps : List Int) (k j : Nat) (h : j < 6) : (hadC ps k)[j]? = some (.bool (decide ((j : Int) ∈ ps.take k))) := by
  unfold hadC
  simp [h]
theorem hadC_zero (ps : List Int) : hadC ps 0 = #[.bool false, .bool false, .bool false, .bool false, .bool false, .bool false] := by
  unfold hadC
  simp [List.range_succ]
theorem take_succ_nth (ps : List Int) (k : Nat) (h : k < ps.length) (x : Int) : x ∈ ps.take (k + 1) ↔ x ∈ ps.take k ∨ x = nth ps k := by
  rw [List.take_succ_eq_append_getElem h, List.mem_append, List.mem_singleton, nth_eq _ _ h]
theorem hadC_set (ps : List Int) (k p : Nat) (h : k < ps.length) (hp : nth ps k = (p : Int)) (h6 : p < 6) : (hadC ps k).setIfInBounds p (.bool true) = hadC ps (k + 1) := by
  apply Array.ext_getElem?
  intro i
  by_cases hi : i < 6
  · rw [hadC_get _ _ _ hi]
    by_cases e : p = i
    · subst e
      rw [Array.getElem?_setIfInBounds_self_of_lt (by simp [hadC]; omega)]
      have : (p : Int) ∈ ps.take (k + 1) := (take_succ_nth ps k h _).2 (.inr hp.symm)
      simp [this]
    · rw [Array.getElem?_setIfInBounds_ne e, hadC_get _ _ _ hi]
      have : ((i : Int) ∈ ps.take (k + 1)) ↔ ((i : Int) ∈ ps.take k) := by
        rw [take_succ_nth ps k h, hp]
        constructor
        · rintro (c | c)
          · exact c
          · omega
        · exact .inl
      simp [this]
  · rw [Array.getElem?_eq_none (by simp [hadC]; omega), Array.getElem?_eq_none (by simp [hadC]; omega)]
theorem axis_calls (A : Option Addr) (n ca : Nat) (i : Int) (w : World) : Calls Try.prog 128 #[.slice A n ca, .int .i64 i] w fun e w' => e = .returned (.bool (decide (0 ≤ i ∧ i < (n : Int)))) ∧ w = w' := by
  by_cases h0 : 0 ≤ i
  · go_enter Try.func128, Try.ntmps128
    go_wp2_with fail
    go_ret
    exact ⟨ret_bool (by simp [h0]), rfl⟩
  · go_enter Try.func128, Try.ntmps128
    go_wp2_with fail
    go_ret
    exact ⟨ret_bool (by simp; omega), rfl⟩

set_option maxHeartbeats 1000000 in
theorem perm_own (xs ps : List Int) (A C : Option Addr) (ca cc : Nat) (w : World) (hx : ReadsI w .i64 A xs) (hy : ReadsI w .i64 C ps) (hla : xs.length ≤ 1000000) (hlb : ps.length ≤ 1000000) :
    Calls Try.prog 104 #[.slice A xs.length ca, .slice C ps.length cc] w fun e w' => TurnOwn (permL xs ps) w.heap.size w' e ∧ Below w.heap.size w w' := by
  have HRA := Lib.hid (right_calls xs A ca w hx (by omega))
  have HX := Lib.hid hx
  have HY := Lib.hid hy
  obtain ⟨O, hO⟩ : ∃ O, O = permL xs ps := ⟨_, rfl⟩
  rw [← hO]
  have HO := Lib.hid hO
  clear hx hy hO
  cases hra : rightB xs with
  | false =>
    have HN : Hid (O = none) := Lib.hid (by rw [HO.out]; unfold permL; rw [if_neg (by simp [hra])])
    rw [hra] at HRA
    clear hra HO
    go_enter Try.func104, Try.ntmps104
    go_wp2_with fail
    refine HRA.out.mono ?_
    rintro e w' ⟨rfl, rfl⟩
    go_wp2_with fail
    go_ret2
    exact ⟨.inl ⟨HN.out, rfl⟩, Below.refl _ _⟩
  | true =>
  rw [hra] at HRA
  by_cases hll : ps.length = xs.length
  rotate_left
  · have HN : Hid (O = none) := Lib.hid (by rw [HO.out]; unfold permL; rw [if_neg (by simp [hll])])
    have hne : ((ps.length : Int) != (xs.length : Int)) = true := by simp; omega
    clear hra HO
    go_enter Try.func104, Try.ntmps104
    go_wp2_with fail
    refine HRA.out.mono ?_
    rintro e w' ⟨rfl, rfl⟩
    go_wp2_with fail
    go_ret2
    exact ⟨.inl ⟨HN.out, rfl⟩, Below.refl _ _⟩
  have h6 := (rightB_mem hra).1
  have HJ : Hid (O = permK xs ps ps.length) := Lib.hid (by rw [HO.out]; unfold permL; rw [if_pos ⟨hra, hll⟩])
  have hlen : Hid (ps.length = xs.length) := Lib.hid hll
  have heq : ((ps.length : Int) != (xs.length : Int)) = false := by simp; omega
  have HB0 := Lib.hid (bl_alloc (Below.refl w.heap.size w) (.cells #[.bool false, .bool false, .bool false, .bool false, .bool false, .bool false] 152))
  have hB0 : Blk (w.alloc (.cells #[.bool false, .bool false, .bool false, .bool false, .bool false, .bool false] 152)) w.heap.size 152 (hadC ps 0) := by rw [hadC_zero]; exact Blk.new w _ _
  have HBK := Lib.hid hB0
  have hz0 : w.heap.size + 1 ≤ (w.alloc (.cells #[.bool false, .bool false, .bool false, .bool false, .bool false, .bool false] 152)).heap.size := by simp
  have HAX := Lib.hid (fun i w => axis_calls A xs.length ca i w)
  clear hra HO hll hB0
  go_enter Try.func104, Try.ntmps104
  go_wp2_with fail
  refine HRA.out.mono ?_
  rintro e w' ⟨rfl, rfl⟩
  go_wp2_with fail
  go_loopw [7, 25] (fun v i wr => ∃ (k : Nat) (out : List Int), i = .int .i64 k ∧ k ≤ ps.length ∧ Hid (permK xs ps k = some out) ∧ Hid (Blk wr w.heap.size 152 (hadC ps k)) ∧ Hid (OwnI wr (w.heap.size + 1) 3 .i64 v out) ∧ Hid (Below w.heap.size w wr) ∧ w.heap.size + 1 ≤ wr.heap.size) (fun _ i _ => ps.length - (intOf i).toNat)
  case atStart => exact ⟨0, [], rfl, Nat.zero_le _, Lib.hid rfl, HBK, Lib.hid (ownI_nil _ _ _ _), HB0, hz0⟩
  case round =>
    obtain ⟨k, out, rfl, hk, HK, HBL, HOW, HB, hsz⟩ := hrel
    by_cases hlt : k < ps.length
    · obtain ⟨b2, o2, rfl, hc2⟩ := (HY.out.below HB.out) k hlt
      have hK1 : permK xs ps (k + 1) = pn xs ps k out := by
        show (permK xs ps k).bind _ = _
        rw [HK.out]; rfl
      have hol := permK_length HK.out
      by_cases hin : 0 ≤ nth ps k ∧ nth ps k < (xs.length : Int)
      · obtain ⟨p, hp⟩ : ∃ p : Nat, nth ps k = (p : Int) := ⟨(nth ps k).toNat, by omega⟩
        have hpl : p < xs.length := by omega
        have hp6 : p < 6 := by omega
        obtain ⟨b1, o1, rfl, hc1⟩ := (HX.out.below HB.out) p hpl
        have hcb := HBL.out.cell p
        rw [hadC_get _ _ _ hp6] at hcb
        have HP := Lib.hid hp
        have hax := fun w => HAX.out (p : Int) w
        rw [show decide (0 ≤ (p : Int) ∧ (p : Int) < (xs.length : Int)) = true by simp; omega] at hax
        have HAP := Lib.hid hax
        rw [hp] at hc2
        clear hax hin
        by_cases hmem : (p : Int) ∈ ps.take k
        · have HN : Hid (O = none) := Lib.hid (by
            rw [HJ.out]
            exact permK_none (by rw [hK1]; unfold pn; rw [HP.out, if_neg (fun h => h.2.2 hmem)]) _ (by omega : k + 1 ≤ ps.length))
          rw [decide_eq_true hmem] at hcb
          clear hK1 hp hmem
          go_wp2_with fail
          refine (HAP.out _).mono ?_
          rintro e w' ⟨rfl, rfl⟩
          go_wp2_with fail
          go_ret2
          exact ⟨.inl ⟨HN.out, rfl⟩, HB.out⟩
        · have HK2 : Hid (permK xs ps (k + 1) = some (out ++ [nth xs p])) := Lib.hid (by
            rw [hK1]; unfold pn; rw [HP.out, if_pos ⟨by omega, by omega, hmem⟩, Int.toNat_natCast])
          rw [decide_eq_false hmem] at hcb
          have hfr := HBL.out.frozen p
          have hB2 := HBL.out.set p (.bool true)
          rw [hadC_set ps k p hlt hp hp6] at hB2
          have HBL2 := Lib.hid hB2
          have HB2 := Lib.hid (bl_set HB.out (p := ⟨w.heap.size, p, none⟩) (Nat.le_refl _) (.bool true))
          have HOW2 : Hid (OwnI (wr.setCell ⟨w.heap.size, p, none⟩ (.bool true)) (w.heap.size + 1) 3 .i64 u7 out) := Lib.hid (own_far HOW.out HBL.out (by decide) (.bool true))
          have hc1' : (wr.setCell ⟨w.heap.size, p, none⟩ (.bool true)).cell? ⟨b1, o1 + p, none⟩ = some (.int .i64 (nth xs p)) := by
            obtain ⟨b1', o1', he, hc⟩ := HX.out.below HB2.out p hpl
            simp only [Option.some.injEq, Addr.mk.injEq, and_true] at he
            obtain ⟨rfl, rfl⟩ := he
            exact hc
          have hsz2 : w.heap.size + 1 ≤ (wr.setCell ⟨w.heap.size, p, none⟩ (.bool true)).heap.size := by
            rw [show (wr.setCell ⟨w.heap.size, p, none⟩ (.bool true)).heap.size = wr.heap.size by simp [World.setCell]]; exact hsz
          clear hK1 hp hmem hB2
          generalize nth xs p = x at *
          go_wp2_with fail
          refine (HAP.out _).mono ?_
          rintro e w' ⟨rfl, rfl⟩
          go_upto_region 12 with (fail)
          generalize wr.setCell ⟨w.heap.size, p, none⟩ (.bool true) = wq at *
          go_wp2_with (at_builtin; go_must (refine app_row (w0 := wq) (w.heap.size + 1) rfl (.tmp 40) (.tmp 45) 32 3 (.int .i64 0) 1 8 rfl Try.underlying32 (info_i trivial) rfl (by decide) u7 _ _ #[.int .i64 x] rfl rfl rfl (by simp [Value.oneCell']) HOW2.out (Below.refl _ _) hsz2 (by omega) (by omega) ?_); intro v1 w1 hown1 hB1 hg1 hsz1)
          have HBL3 := Lib.hid (HBL2.out.below hB1 (by omega))
          have HB3 := Lib.hid (HB2.out.trans (hB1.mono (by omega)))
          go_roundw
          case measure => simp [intOf]; omega
          case rel => exact ⟨k + 1, out ++ [x], by go_num, by omega, HK2, HBL3, Lib.hid (OwnI.snoc hown1), HB3, hsz1⟩
      · have HN : Hid (O = none) := Lib.hid (by
          rw [HJ.out]
          exact permK_none (by rw [hK1]; unfold pn; rw [if_neg (fun h => hin ⟨h.1, h.2.1⟩)]) _ (by omega : k + 1 ≤ ps.length))
        have hax := fun w => HAX.out (nth ps k) w
        rw [decide_eq_false hin] at hax
        have HAP := Lib.hid hax
        clear hK1 hin hax
        generalize nth ps k = x at *
        go_wp2_with fail
        refine (HAP.out _).mono ?_
        rintro e w' ⟨rfl, rfl⟩
        go_wp2_with fail
        go_ret2
        exact ⟨.inl ⟨HN.out, rfl⟩, HB.out⟩
    · obtain rfl : k = ps.length := by omega
      go_wp2_with fail
      go_ret2
      exact ⟨.inr ⟨out, _, by rw [HJ.out, HK.out], rfl, ownI_lower HOW.out (by omega)⟩, HB.out⟩
theorem perm_calls (xs ps : List Int) (A C : Option Addr) (ca cc : Nat) (w : World) (hx : ReadsI w .i64 A xs) (hy : ReadsI w .i64 C ps) (hla : xs.length ≤ 1000000) (hlb : ps.length ≤ 1000000) :
    Calls Try.prog 104 #[.slice A xs.length ca, .slice C ps.length cc] w fun e w' => TurnPost (permL xs ps) w' e ∧ Below w.heap.size w w' :=
  (perm_own xs ps A C ca cc w hx hy hla hlb).mono fun e w' ⟨h, hB⟩ => ⟨h.post, hB⟩
end Go.Proofs.Ythjkeefdeeljoaa.Shp
