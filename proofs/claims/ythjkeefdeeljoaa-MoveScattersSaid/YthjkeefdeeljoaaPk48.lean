/- The document's Scatter. -/
import Derived.Test.YthjkeefdeeljoaaPk45
import Derived.Test.YthjkeefdeeljoaaPk47
namespace Go.Proofs.Ythjkeefdeeljoaa.Shp
open Go.RowKit Go.Shelf Go.Proofs.Ythjkeefdeeljoaa.Num Go.Proofs.Ythjkeefdeeljoaa.Cl
set_option linter.unusedVariables false
set_option linter.unusedSimpArgs false

theorem rscat_out (xs ys : List Int) (off : Int) (A B : Option Addr) (ca cb n m : Nat) (ln : Nat) (C : Option Addr) (cc : Nat) (D : Option Addr) (lo cd : Nat) (w : World) (hx : ReadsI w .i64 A xs) (hy : ReadsI w .i64 B ys) (hn : xs.length = n) (hm : ys.length = m) (hl : n ≤ 1000000) (hl2 : m ≤ 1000000)
    (hf : fitsB xs ys off ln = false) :
    Calls Try.prog 47 #[.slice C ln cc, .agg #[.slice A n ca, .slice B m cb, .int .i64 off], .slice D lo cd] w fun e w' => e = .returned (.tuple #[.slice C ln cc, .int .i64 2]) ∧ Below w.heap.size w w' := by
  have HB0 : Hid (Below w.heap.size w (w.alloc (.cells #[.slice A n ca, .slice B m cb, .int .i64 off] 24))) := Lib.hid (bl_alloc (Below.refl _ _) _)
  have hF := rfits_calls xs ys off A B ca cb n m (ln : Int) _ (hx.below HB0.out) (hy.below HB0.out) hn hm hl hl2
  rw [hf] at hF
  have HF := Lib.hid hF
  clear hF hx hy hn hm hf
  go_enter Try.func47, Try.ntmps47
  go_wp2_with fail
  refine HF.out.mono ?_
  rintro e w1 ⟨rfl, hB1⟩
  have HB1 := Lib.hid (bl_then HB0.out hB1)
  clear hB1
  go_wp2_with fail
  go_ret2
  exact ⟨rfl, HB1.out⟩
theorem rscat_size (xs ys : List Int) (off : Int) (A B : Option Addr) (ca cb n m : Nat) (ln : Nat) (C : Option Addr) (cc : Nat) (D : Option Addr) (lo cd : Nat) (w : World) (hx : ReadsI w .i64 A xs) (hy : ReadsI w .i64 B ys) (hn : xs.length = n) (hm : ys.length = m) (hl : n ≤ 1000000) (hl2 : m ≤ 1000000)
    (hf : fitsB xs ys off ln = true) (hsz : cellsN xs ys off ≠ lo) :
    Calls Try.prog 47 #[.slice C ln cc, .agg #[.slice A n ca, .slice B m cb, .int .i64 off], .slice D lo cd] w fun e w' => e = .returned (.tuple #[.slice C ln cc, .int .i64 5]) ∧ Below w.heap.size w w' := by
  have HB0 : Hid (Below w.heap.size w (w.alloc (.cells #[.slice A n ca, .slice B m cb, .int .i64 off] 24))) := Lib.hid (bl_alloc (Below.refl _ _) _)
  have hbk : Blk (w.alloc (.cells #[.slice A n ca, .slice B m cb, .int .i64 off] 24)) w.heap.size 24 #[.slice A n ca, .slice B m cb, .int .i64 off] := Blk.new _ _ _
  have hF := rfits_calls xs ys off A B ca cb n m (ln : Int) _ (hx.below HB0.out) (hy.below HB0.out) hn hm hl hl2
  rw [hf] at hF
  have HF := Lib.hid hF
  have HC := Lib.hid (fun W (h : Below w.heap.size w W) => rcoll_calls xs ys off A B ca cb n m W (hx.below h) (hy.below h) hn hm hl hl2)
  rw [offsL_length] at HC
  have HBK := Lib.hid hbk
  generalize cellsN xs ys off = N at *
  have hne : ¬ (N : Int) = (lo : Int) := by omega
  clear hF hx hy hn hm hf hbk hsz
  go_enter Try.func47, Try.ntmps47
  go_wp2_with fail
  refine HF.out.mono ?_
  rintro e w1 ⟨rfl, hB1⟩
  obtain ⟨k0, k1, k2⟩ := seen_view (HBK.out.below' hB1)
  have HB1 := Lib.hid (bl_then HB0.out hB1)
  clear hB1
  go_wp2_with fail
  refine (HC.out _ HB1.out).mono ?_
  rintro e w2 ⟨⟨A', c', rfl, _⟩, hB2⟩
  have HB2 := Lib.hid (bl_then HB1.out hB2)
  clear hB2 k0 k1 k2
  go_wp2_with fail
  go_ret2
  exact ⟨rfl, HB2.out⟩
/-- A block that holds these cells ahead. -/
def CellsAt (cs : Array Value) (L : List Cell) : Prop := ∀ i, i < L.length → cs[i * 2]? = some (.int .i64 (nth L i).1) ∧ cs[i * 2 + 1]? = some (.bool (nth L i).2)
theorem cellsAt_of {cs : Array Value} {L : List Cell} (h : cs.toList.take (L.length * 2) = L.flatMap ce) : CellsAt cs L := fun i hi => by
  obtain ⟨h1, h2⟩ := ce_get L i hi
  rw [← h, List.getElem?_take, if_pos (by omega), Array.getElem?_toList] at h1
  rw [← h, List.getElem?_take, if_pos (by omega), Array.getElem?_toList] at h2
  exact ⟨h1, h2⟩
theorem cellsAt_set {cs : Array Value} {L : List Cell} (h : CellsAt cs L) (p : Nat) (hp : p < L.length) (x : Cell) : CellsAt ((cs.setIfInBounds (p * 2) (.int .i64 x.1)).setIfInBounds (p * 2 + 1) (.bool x.2)) (L.set p x) := fun i hi => by
  have hi' : i < L.length := by simpa using hi
  obtain ⟨q1, q2⟩ := h p hp
  obtain ⟨h1, h2⟩ := h i hi'
  have s1 := (Array.getElem?_eq_some_iff.1 q1).1
  have s2 := (Array.getElem?_eq_some_iff.1 q2).1
  rw [nth_setC _ _ _ _ hp]
  simp only [Array.getElem?_setIfInBounds, Array.size_setIfInBounds]
  by_cases c : i = p
  · subst c
    rw [if_neg (by omega), if_pos rfl, if_pos s1, if_pos rfl, if_pos s2, if_pos rfl]
    exact ⟨rfl, rfl⟩
  · rw [if_neg (show ¬ p * 2 + 1 = i * 2 by omega), if_neg (show ¬ p * 2 = i * 2 by omega), if_neg (show ¬ p * 2 + 1 = i * 2 + 1 by omega), if_neg (show ¬ p * 2 = i * 2 + 1 by omega), if_neg c]
    exact ⟨h1, h2⟩
theorem cellsAt_shows {w : World} {g : Nat} {t : TypeId} {cs : Array Value} {L : List Cell} (hb : Blk w g t cs) (h : CellsAt cs L) : Shows w (some ⟨g, 0, none⟩) (L.flatMap ce) := fun i v hv => by
  refine ⟨g, 0, rfl, ?_⟩
  have hl := ce_length L
  have hi : i < (L.flatMap ce).length := (List.getElem?_eq_some_iff.1 hv).1
  rw [Nat.zero_add, hb.cell]
  obtain ⟨h1, h2⟩ := ce_get L (i / 2) (by omega)
  obtain ⟨k1, k2⟩ := h (i / 2) (by omega)
  rcases Nat.mod_two_eq_zero_or_one i with e | e
  · have e' : i = i / 2 * 2 := by omega
    rw [e'] at hv ⊢
    rw [h1] at hv
    rw [k1, hv]
  · have e' : i = i / 2 * 2 + 1 := by omega
    rw [e'] at hv ⊢
    rw [h2] at hv
    rw [k2, hv]
theorem ces_one (L : List Cell) : ∀ u ∈ L.flatMap ce, u.oneCell' = true := fun u hu => by
  obtain ⟨c, _, h⟩ := List.mem_flatMap.1 hu
  exact ce_one c u h
theorem rcat_row {w : World} {base a b n : Nat} {e : TypeId} {v : Value} {L : List Value} (h : w.ownsRow base e 2 v n L) (hb : v.ownBlock = some a ∨ v.ownBlock = some b) : ∃ g cap cur, v = .slice (some ⟨g, 0, none⟩) n cap ∧ base ≤ g ∧ Blk w g e cur ∧ n ≤ cap ∧ cur.toList.take (n * 2) = L := by
  rcases h.2 with ⟨rfl, h0⟩ | ⟨g, cap, cur, rfl, h1, h2, h3, h4, h5, h6⟩
  · rcases hb with h | h <;> simp [Value.ownBlock] at h
  · exact ⟨g, cap, cur, rfl, h1, h2, h3, h6⟩
set_option maxRecDepth 100000 in
set_option maxHeartbeats 2000000 in
theorem rscat_yes (xs ys : List Int) (off : Int) (A B : Option Addr) (ca cb n m : Nat) (L : List Cell) (C : Option Addr) (cc : Nat) (O : List Cell) (D : Option Addr) (cd : Nat) (w : World) (hx : ReadsI w .i64 A xs) (hy : ReadsI w .i64 B ys) (hs : Shows w C (L.flatMap ce)) (ho : Shows w D (O.flatMap ce)) (hn : xs.length = n) (hm : ys.length = m) (hl : n ≤ 1000000) (hl2 : m ≤ 1000000) (hL : L.length ≤ 1000000)
    (hf : fitsB xs ys off L.length = true) (hsz : cellsN xs ys off = O.length) :
    Calls Try.prog 47 #[.slice C L.length cc, .agg #[.slice A n ca, .slice B m cb, .int .i64 off], .slice D O.length cd] w fun e w' => (∃ g cap cs, e = .returned (.tuple #[.slice (some ⟨g, 0, none⟩) L.length cap, .int .i64 0]) ∧ L.length ≤ cap ∧ w.heap.size ≤ g ∧ Blk w' g 74 cs ∧ CellsAt cs (scatL xs ys off L O (cellsN xs ys off))) ∧ Below w.heap.size w w' := by
  have HB0 : Hid (Below w.heap.size w (w.alloc (.cells #[.slice A n ca, .slice B m cb, .int .i64 off] 24))) := Lib.hid (bl_alloc (Below.refl _ _) _)
  have hbk : Blk (w.alloc (.cells #[.slice A n ca, .slice B m cb, .int .i64 off] 24)) w.heap.size 24 #[.slice A n ca, .slice B m cb, .int .i64 off] := Blk.new _ _ _
  have hF := rfits_calls xs ys off A B ca cb n m (L.length : Int) _ (hx.below HB0.out) (hy.below HB0.out) hn hm hl hl2
  rw [hf] at hF
  have HF := Lib.hid hF
  have HC := Lib.hid (fun W (h : Below w.heap.size w W) => rcoll_calls xs ys off A B ca cb n m W (hx.below h) (hy.below h) hn hm hl hl2)
  have HOL := Lib.hid (fun k (hk : k < cellsN xs ys off) => offsL_nth (fits_vr hf) k hk)
  have HIN := Lib.hid (fun k (hk : k < cellsN xs ys off) => fits_in hf k hk)
  have HLN := Lib.hid (offsL_length xs ys off)
  have HSS := Lib.hid (fun k => scatL_succ xs ys off L O k)
  have HSL := Lib.hid (fun k => scatL_length xs ys off L O k)
  have hS0 := scatL_zero xs ys off L O
  have HBK := Lib.hid hbk
  have HSH := Lib.hid hs
  have HOO := Lib.hid ho
  have hN9 := cellsN_le xs ys off
  obtain ⟨GL, hGL⟩ : ∃ GL, GL = scatL xs ys off L O := ⟨_, rfl⟩
  rw [← hGL] at HSS HSL hS0 ⊢
  have HS0 := Lib.hid hS0
  rw [HLN.out] at HC
  rw [hsz] at *
  generalize hon : O.length = N at *
  have HON := Lib.hid hon
  clear hF hx hy hn hm hf hbk hs hGL hsz hS0 hon ho
  go_enter Try.func47, Try.ntmps47
  go_wp2_with fail
  refine HF.out.mono ?_
  rintro e w1 ⟨rfl, hB1⟩
  obtain ⟨k0, k1, k2⟩ := seen_view (HBK.out.below' hB1)
  have HB1 := Lib.hid (bl_then HB0.out hB1)
  clear hB1
  go_wp2_with fail
  refine (HC.out _ HB1.out).mono ?_
  rintro e w2 ⟨⟨A', c', rfl, ha'⟩, hB2⟩
  have HA' := Lib.hid ha'
  have HB2 := Lib.hid (bl_then HB1.out hB2)
  have hown : (w2.alloc (.cells #[] 74)).ownsRow w2.heap.size 74 2 (.slice (some ⟨w2.heap.size, 0, none⟩) 0 0) 0 [] := World.ownsRow_lit w2 #[] 0 (Nat.le_refl _) (by simp) (by simp)
  have HOW := Lib.hid hown
  have HSH2 := Lib.hid (HSH.out.below (bl_alloc HB2.out (.cells #[] 74)))
  have HA2 := Lib.hid (bl_alloc (Below.refl w2.heap.size w2) (.cells #[] 74))
  have hz : w2.heap.size ≤ (w2.alloc (.cells #[] 74)).heap.size := by simp
  clear hB2 k0 k1 k2 ha' hown
  go_upto_region 6 with fail
  go_wp2_with (at_builtin; go_must (refine wpList_app rfl (.tmp 25) (.tmp 26) 55 rfl 74 w2.heap.size (.agg #[.int .i64 0, .bool false]) 2 16 Try.underlying55 info_rcell rfl (by decide) (.slice (some ⟨w2.heap.size, 0, none⟩) 0 0) 0 [] rfl HOW.out C L.length cc (L.flatMap ce) rfl (ce_length L) HSH2.out (ces_one L) (by simp only [maxLen]; omega) (by omega) hz ?_); intro v1 w3 hown1 hg1 hb1; rw [Nat.zero_add, List.nil_append] at hown1; obtain ⟨g, cap, cur, rfl, hbase, hh, hnc, htk⟩ := rcat_row hown1 hb1; have HG1 := Lib.hid (bl_grown HA2.out hg1 (fun k hk => by simp [Value.ownBlock] at hk; omega)); have HHH := Lib.hid hh; have HTK := Lib.hid (cellsAt_of htk); clear hown1 hg1 hb1 hh htk)
  go_loopw [10] (fun t10 wr => ∃ (k : Nat) (cs : Array Value), t10 = .int .i64 k ∧ k ≤ N ∧ Hid (Blk wr g 74 cs) ∧ Hid (CellsAt cs (GL k)) ∧ Hid (Below w2.heap.size w2 wr)) (fun i _ => N - (intOf i).toNat)
  case atStart => exact ⟨0, cur, rfl, Nat.zero_le _, HHH, Lib.hid (by rw [HS0.out]; exact HTK.out), HG1⟩
  case round =>
    obtain ⟨k, cs, rfl, hk, HK, HCA, HB⟩ := hrel
    by_cases hlt : k < N
    · have hkN : (k : Int) < (N : Int) := by omega
      obtain ⟨bA, oA, eA, cA⟩ := (HA'.out.below HB.out) k (by rw [HLN.out]; exact hlt)
      rw [HOL.out k hlt] at cA
      subst eA
      obtain ⟨p, hp⟩ := Int.eq_ofNat_of_zero_le (HIN.out k hlt).1
      have hpl := (HIN.out k hlt).2
      have hss := HSS.out k
      rw [hp] at cA hpl hss
      rw [Int.toNat_natCast] at hss
      have hwB := bl_then HB2.out HB.out
      obtain ⟨b, off', eC, c0, c1⟩ := cell_at (HOO.out.below hwB) k (by rw [HON.out]; exact hlt)
      subst eC
      have hpL : p < L.length := by omega
      have hpG : p < (GL k).length := by rw [HSL.out k]; exact hpL
      obtain ⟨q1, q2⟩ := HCA.out p hpG
      have d0 : wr.cell? ⟨g, p * 2, none⟩ = some (.int .i64 (nth (GL k) p).1) := (HK.out.cell _).trans q1
      have d1 : wr.cell? ⟨g, p * 2 + 1, none⟩ = some (.bool (nth (GL k) p).2) := (HK.out.cell _).trans q2
      have f0 : wr.frozen? ⟨g, p * 2, none⟩ = false := HK.out.frozen _
      have f1 : wr.frozen? ⟨g, p * 2 + 1, none⟩ = false := HK.out.frozen _
      obtain ⟨⟨xn, xb⟩, hx⟩ : ∃ x, nth O k = x := ⟨_, rfl⟩
      rw [hx] at c0 c1 hss
      dsimp only at c0 c1
      have hcs := cellsAt_set HCA.out p hpG (xn, xb)
      rw [← hss] at hcs
      have HCS := Lib.hid hcs
      clear hx hp hwB hss hcs q1 q2
      go_upto_region 10 with fail
      go_region_with fail
      all_goals go_wp2_with fail
      all_goals go_roundw
      case measure => first | (simp [intOf]; done) | (simp [intOf]; omega)
      case rel => exact ⟨k + 1, _, by go_num, by omega, Lib.hid ((HK.out.set _ _).set _ _).drew, HCS, Lib.hid (bl_drew (bl_set (bl_set HB.out (by exact hbase) _) (by exact hbase) _))⟩
      case measure => first | (simp [intOf]; done) | (simp [intOf]; omega)
      case rel => exact ⟨k + 1, _, by go_num, by omega, Lib.hid ((HK.out.set _ _).set _ _).drew, HCS, Lib.hid (bl_drew (bl_set (bl_set HB.out (by exact hbase) _) (by exact hbase) _))⟩
    · obtain rfl : k = N := by omega
      go_wp2_with fail
      go_ret2
      exact ⟨⟨g, cap, cs, rfl, hnc, Nat.le_trans HB2.out.size hbase, HK.out, HCA.out⟩, bl_then HB2.out HB.out⟩
end Go.Proofs.Ythjkeefdeeljoaa.Shp
