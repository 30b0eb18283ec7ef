/- Contracts and lemmas that the row of this claim stands on: RColl, Pairs. -/
import Derived.Test.YthjkeefdeeljoaaPk38
import Derived.Test.YthjkeefdeeljoaaPk31
/- The document's Collect. -/
namespace Go.Proofs.Ythjkeefdeeljoaa.Shp
open Go.RowKit Go.Proofs.Ythjkeefdeeljoaa.Num
set_option linter.unusedVariables false
set_option linter.unusedSimpArgs false

/-- Where all cells of a view stand. -/
def offsL (xs ys : List Int) (off : Int) : List Int := (List.range (cellsN xs ys off)).map (plO xs ys off)
theorem offsL_length (xs ys : List Int) (off : Int) : (offsL xs ys off).length = cellsN xs ys off := by simp [offsL]
theorem cellsN_prod {xs ys : List Int} {off : Int} (hv : vrB xs ys off = true) : prod xs = (cellsN xs ys off : Int) := by
  unfold cellsN
  rw [if_pos hv]
  have h1 := (vrB_out hv).1
  unfold sizeOk at h1
  simp only [Bool.and_eq_true] at h1
  have := prod_nonneg xs (fun x hx => ((rightB_mem h1.1).2 x hx).1)
  omega
theorem rcoll_calls (xs ys : List Int) (off : Int) (A B : Option Addr) (ca cb n m : Nat) (w : World) (hx : ReadsI w .i64 A xs) (hy : ReadsI w .i64 B ys) (hn : xs.length = n) (hm : ys.length = m) (hl : n ≤ 1000000) (hl2 : m ≤ 1000000) :
    Calls Try.prog 11 #[.agg #[.slice A n ca, .slice B m cb, .int .i64 off]] w fun e w' => (∃ A' c', e = .returned (.slice A' (offsL xs ys off).length c') ∧ ReadsI w' .i64 A' (offsL xs ys off)) ∧ Below w.heap.size w w' := by
  have HB0 : Hid (Below w.heap.size w (w.alloc (.cells #[.slice A n ca, .slice B m cb, .int .i64 off] 24))) := Lib.hid (bl_alloc (Below.refl _ _) _)
  have hR := rvright_calls xs ys off A B ca cb n m _ (hx.below HB0.out) (hy.below HB0.out) hn hm hl hl2
  have hbx : Blk (w.alloc (.cells #[.slice A n ca, .slice B m cb, .int .i64 off] 24)) w.heap.size 24 #[.slice A n ca, .slice B m cb, .int .i64 off] := Blk.new _ _ _
  have HBX := Lib.hid hbx
  have HX := Lib.hid hx
  have HY := Lib.hid hy
  cases hv : vrB xs ys off with
  | false =>
    have e1 : offsL xs ys off = [] := by unfold offsL cellsN; rw [if_neg (by rw [hv]; simp)]; rfl
    rw [hv] at hR
    rw [e1]
    have HR := Lib.hid hR
    clear hx hy hn hm hbx hR hv e1
    go_enter Try.func11, Try.ntmps11
    go_wp2_with fail
    refine HR.out.mono ?_
    rintro e w1 ⟨rfl, hB⟩
    have HB := Lib.hid (bl_then HB0.out hB)
    clear hB
    go_wp2_with fail
    go_ret
    exact ⟨⟨none, 0, rfl, fun i hi => by simp at hi⟩, HB.out⟩
  | true =>
    have HO := Lib.hid (fun w' h h' => roffs_calls xs ys off A B ca cb n m (cellsN xs ys off) w' h h' hn hm hv (cellsN_prod hv))
    rw [hv] at hR
    have HR := Lib.hid hR
    clear hx hy hn hm hbx hR hv
    go_enter Try.func11, Try.ntmps11
    go_wp2_with fail
    refine HR.out.mono ?_
    rintro e w1 ⟨rfl, hB⟩
    have hb1 := HBX.out.below' hB
    have c0 : w1.cell? ⟨w.heap.size, 0, none⟩ = some (.slice A n ca) := hb1.cell 0
    have c1 : w1.cell? ⟨w.heap.size, 1, none⟩ = some (.slice B m cb) := hb1.cell 1
    have c2 : w1.cell? ⟨w.heap.size, 2, none⟩ = some (.int .i64 off) := hb1.cell 2
    have HB := Lib.hid (bl_then HB0.out hB)
    clear hB hb1
    go_wp2_with fail
    refine (HO.out _ (HX.out.below HB.out) (HY.out.below HB.out)).mono ?_
    rintro e w2 ⟨⟨v, rfl, hsh⟩, hB⟩
    have HSH := Lib.hid hsh
    have HB2 := Lib.hid (bl_then HB.out hB)
    clear hB hsh
    go_wp2_with fail
    go_ret
    obtain ⟨A', c', rfl, _, hr⟩ := HSH.out
    exact ⟨⟨A', c', rfl, hr⟩, HB2.out⟩
end Go.Proofs.Ythjkeefdeeljoaa.Shp
/- slices.Equal at shapes; the iterator over the places of two views. -/
namespace Go.Proofs.Ythjkeefdeeljoaa.Shp
open Go.RowKit Go.Shelf Go.Proofs.Ythjkeefdeeljoaa.Num
set_option linter.unusedVariables false
set_option linter.unusedSimpArgs false
attribute [local go_sem] Oper.semAt_some

set_option maxHeartbeats 1000000 in
theorem equal_calls (A C : Option Addr) (ca cc : Nat) (xs ys : List Int) (w : World) (hx : ReadsI w .i64 A xs) (hy : ReadsI w .i64 C ys) (hlx : xs.length ≤ 9223372036854775807) (hly : ys.length ≤ 9223372036854775807) :
    Calls Try.prog 56 #[.slice A xs.length ca, .slice C ys.length cc] w fun e w' => e = .returned (.bool (decide (xs = ys))) ∧ ∃ m, w' = w.drewN m := by
  have HX := Lib.hid hx
  have HY := Lib.hid hy
  clear hx hy
  by_cases hl : xs.length = ys.length
  · have hle : ((xs.length : Int) != (ys.length : Int)) = false := by rw [hl]; simp
    have HL := Lib.hid hl
    clear hl
    go_enter Try.func56, Try.ntmps56
    go_wp2
    go_loopw [5, 13] (fun _ i wr => ∃ (k m : Nat), i = .int .i64 k ∧ k ≤ xs.length ∧ Hid (xs.take k = ys.take k) ∧ Hid (wr = w.drewN m)) (fun _ i _ => xs.length - (intOf i).toNat)
    case atStart => exact ⟨0, 0, rfl, Nat.zero_le _, Lib.hid (by simp), Lib.hid rfl⟩
    case round =>
      obtain ⟨k, m, rfl, hk, HT, HW⟩ := hrel
      by_cases hlt : k < xs.length
      · have hlt' : k < ys.length := by rw [← HL.out]; exact hlt
        obtain ⟨b, off, rfl, hc⟩ := HX.out k hlt
        obtain ⟨b', off', rfl, hc'⟩ := HY.out k hlt'
        have h1 := take_nth xs k hlt
        have h2 := take_nth ys k hlt'
        have h3 : nth xs k ≠ nth ys k → xs ≠ ys := fun h e => h (by rw [e])
        have g1 : wr.cell? ⟨b, off + k, none⟩ = some (.int .i64 (nth xs k)) := by rw [HW.out]; exact hc
        have g2 : wr.cell? ⟨b', off' + k, none⟩ = some (.int .i64 (nth ys k)) := by rw [HW.out]; exact hc'
        have H1 := Lib.hid h1
        have H2 := Lib.hid h2
        have H3 := Lib.hid h3
        clear h1 h2 h3 hc hc'
        generalize nth xs k = x at *
        generalize nth ys k = y at *
        by_cases hxy : x = y
        · have e1 : (x != y) = false := by simpa using hxy
          have HXY := Lib.hid hxy
          clear hxy
          go_wp2_with fail
          go_quiet (fail)
          go_wp2_with fail
          go_roundw
          case measure => simp [intOf]; omega
          case rel => exact ⟨k + 1, m + nq, by go_num, by omega, Lib.hid (by rw [H1.out, H2.out, HT.out, HXY.out]), Lib.hid (by rw [HW.out, World.drewN_drewN])⟩
        · have e1 : (x != y) = true := by simpa using hxy
          have HXY := Lib.hid hxy
          clear hxy
          go_wp2_with fail
          go_quiet (fail)
          go_wp2_with fail
          go_ret
          exact ⟨ret_bool (decide_eq_false (H3.out HXY.out)).symm, m + nq, by rw [HW.out, World.drewN_drewN]⟩
      · go_wp2_with fail
        go_ret
        have hxy : xs = ys := by
          have := HT.out
          rwa [List.take_of_length_le (by omega), List.take_of_length_le (by rw [← HL.out]; omega)] at this
        exact ⟨ret_bool (decide_eq_true hxy).symm, m, HW.out⟩
  · have hle : ((xs.length : Int) != (ys.length : Int)) = true := by simp; omega
    have HL := Lib.hid hl
    clear hl
    go_enter Try.func56, Try.ntmps56
    go_wp2
    go_ret
    exact ⟨ret_bool (decide_eq_false (fun e => HL.out (by rw [e]))).symm, 0, rfl⟩

theorem equal_any (A C : Option Addr) (ca cc n n' : Nat) (xs ys : List Int) (w : World) (hn : xs.length = n) (hn' : ys.length = n') (hx : ReadsI w .i64 A xs) (hy : ReadsI w .i64 C ys) (hl : n ≤ 1000000) (hl' : n' ≤ 1000000) (b : Bool) (hb : decide (xs = ys) = b) :
    Calls Try.prog 56 #[.slice A n ca, .slice C n' cc] w fun e w' => e = .returned (.bool b) ∧ Below w.heap.size w w' := by
  subst hn
  subst hn'
  subst hb
  refine (equal_calls A C ca cc xs ys w hx hy (by omega) (by omega)).mono ?_
  rintro e w' ⟨rfl, m, rfl⟩
  exact ⟨rfl, bl_drewN (Below.refl _ _) _⟩
/-- Of how many cells both places are told. -/
def pairsB (xs ys : List Int) (off : Int) (xs2 ys2 : List Int) (off2 : Int) : Bool := vrB xs ys off && (vrB xs2 ys2 off2 && decide (xs = xs2))
def pairsN (xs ys : List Int) (off : Int) (xs2 ys2 : List Int) (off2 : Int) : Nat := if pairsB xs ys off xs2 ys2 off2 = true then cellsN xs ys off else 0

set_option maxRecDepth 100000 in
set_option maxHeartbeats 2000000 in
theorem pairs_no (n : Nat) (xs ys : List Int) (off : Int) (xs2 ys2 : List Int) (off2 : Int) (A B C D : Option Addr) (ca cb cc cd q q2 q3 q4 B1 B2 : Nat) (hq : xs.length = q) (hq2 : ys.length = q2) (hq3 : xs2.length = q3) (hq4 : ys2.length = q4) (hl : q ≤ 1000000) (hl2 : q2 ≤ 1000000) (hl3 : q3 ≤ 1000000) (hl4 : q4 ≤ 1000000)
    (hno : pairsB xs ys off xs2 ys2 off2 = false) (l : Nat) (W : World) (hb1 : Blk W B1 34 #[.slice A q ca, .slice B q2 cb, .int .i64 off]) (hb2 : Blk W B2 34 #[.slice C q3 cc, .slice D q4 cd, .int .i64 off2])
    (hx : ReadsI W .i64 A xs) (hy : ReadsI W .i64 B ys) (hx2 : ReadsI W .i64 C xs2) (hy2 : ReadsI W .i64 D ys2) :
    CallsIn Fence.wide n Try.prog 55 #[.func (.yield l) #[] #[], .pointer (some ⟨B1, 0, none⟩), .pointer (some ⟨B2, 0, none⟩)] W fun e W' => (∃ v, e = .returned v) ∧ Below W.heap.size W W' := by
  have HR1 := Lib.hid (vright_calls xs ys off A B ca cb q q2 W hx hy hq hq2 hl hl2)
  have HB1 := Lib.hid hb1
  have HB2 := Lib.hid hb2
  have HR2 := Lib.hid (fun W' (h : Below W.heap.size W W') => vright_calls xs2 ys2 off2 C D cc cd q3 q4 W' (hx2.below h) (hy2.below h) hq3 hq4 hl3 hl4)
  have HEQ := Lib.hid (fun W' (h : Below W.heap.size W W') => equal_any A C ca cc q q3 xs xs2 W' hq hq3 (hx.below h) (hx2.below h) hl hl3 _ rfl)
  have c0 : W.cell? ⟨B1, 0, none⟩ = some (.slice A q ca) := hb1.cell 0
  have c1 : W.cell? ⟨B1, 1, none⟩ = some (.slice B q2 cb) := hb1.cell 1
  have c2 : W.cell? ⟨B1, 2, none⟩ = some (.int .i64 off) := hb1.cell 2
  unfold pairsB at hno
  cases h1 : vrB xs ys off with
  | false =>
    rw [h1] at HR1
    clear hb1 hb2 hx hy hx2 hy2 hno h1 hq hq2 hq3 hq4
    refine callsIn_wide.2 ?_
    go_enter Try.func55, Try.ntmps55
    go_wp2_with fail
    refine HR1.out.mono ?_
    rintro e w1 ⟨rfl, hB⟩
    have HB := Lib.hid hB
    clear hB
    go_wp2_with fail
    refine bodyPost_ret (results_none rfl _ _ _) rfl ?_
    exact ⟨⟨_, rfl⟩, HB.out⟩
  | true =>
    rw [h1] at HR1 hno
    cases h2 : vrB xs2 ys2 off2 with
    | false =>
      rw [h2] at HR2
      clear hb1 hb2 hx hy hx2 hy2 hno h1 h2 hq hq2 hq3 hq4
      refine callsIn_wide.2 ?_
      go_enter Try.func55, Try.ntmps55
      go_wp2_with fail
      refine HR1.out.mono ?_
      rintro e w1 ⟨rfl, hB⟩
      have d0 : w1.cell? ⟨B2, 0, none⟩ = some (.slice C q3 cc) := (HB2.out.below' hB).cell 0
      have d1 : w1.cell? ⟨B2, 1, none⟩ = some (.slice D q4 cd) := (HB2.out.below' hB).cell 1
      have d2 : w1.cell? ⟨B2, 2, none⟩ = some (.int .i64 off2) := (HB2.out.below' hB).cell 2
      have HB := Lib.hid hB
      clear hB
      go_wp2_with fail
      refine (HR2.out _ HB.out).mono ?_
      rintro e w2 ⟨rfl, hB⟩
      have HBB := Lib.hid (bl_then HB.out hB)
      clear hB
      go_wp2_with fail
      refine bodyPost_ret (results_none rfl _ _ _) rfl ?_
      exact ⟨⟨_, rfl⟩, HBB.out⟩
    | true =>
      rw [h2] at HR2 hno
      have h3 : decide (xs = xs2) = false := by simpa using hno
      rw [h3] at HEQ
      clear hb1 hb2 hx hy hx2 hy2 hno h1 h2 h3 hq hq2 hq3 hq4
      refine callsIn_wide.2 ?_
      go_enter Try.func55, Try.ntmps55
      go_wp2_with fail
      refine HR1.out.mono ?_
      rintro e w1 ⟨rfl, hB⟩
      have d0 : w1.cell? ⟨B2, 0, none⟩ = some (.slice C q3 cc) := (HB2.out.below' hB).cell 0
      have d1 : w1.cell? ⟨B2, 1, none⟩ = some (.slice D q4 cd) := (HB2.out.below' hB).cell 1
      have d2 : w1.cell? ⟨B2, 2, none⟩ = some (.int .i64 off2) := (HB2.out.below' hB).cell 2
      have HB := Lib.hid hB
      clear hB
      go_wp2_with fail
      refine (HR2.out _ HB.out).mono ?_
      rintro e w2 ⟨rfl, hB⟩
      have HBB := Lib.hid (bl_then HB.out hB)
      have d0 : w2.cell? ⟨B2, 0, none⟩ = some (.slice C q3 cc) := (HB2.out.below' HBB.out).cell 0
      have c0 : w2.cell? ⟨B1, 0, none⟩ = some (.slice A q ca) := (HB1.out.below' HBB.out).cell 0
      clear hB
      go_wp2_with fail
      refine (HEQ.out _ HBB.out).mono ?_
      rintro e w3 ⟨rfl, hB⟩
      have HBC := Lib.hid (bl_then HBB.out hB)
      clear hB
      go_wp2_with fail
      refine bodyPost_ret (results_none rfl _ _ _) rfl ?_
      exact ⟨⟨_, rfl⟩, HBC.out⟩
/-- Between two rounds: m cells having been told. -/
def PairR (xs ys : List Int) (off : Int) (xs2 ys2 : List Int) (off2 : Int) (N g1 h1 g2 h2 m : Nat) (W : World) : Prop := m ≤ N ∧ (∃ st, OdoN g1 h1 xs ys off N m st W) ∧ (∃ st, OdoN g2 h2 xs2 ys2 off2 N m st W)
set_option maxRecDepth 100000 in
set_option maxHeartbeats 4000000 in
theorem pairs_yes (n : Nat) (hn : 1 ≤ n) (xs ys : List Int) (off : Int) (ys2 : List Int) (off2 : Int) (A B C D : Option Addr) (ca cb cc cd q q2 q4 B1 B2 : Nat) (hq : xs.length = q) (hq2 : ys.length = q2) (hq4 : ys2.length = q4) (hl : q ≤ 1000000) (hl2 : q2 ≤ 1000000) (hl4 : q4 ≤ 1000000)
    (hv1 : vrB xs ys off = true) (hv2 : vrB xs ys2 off2 = true) (N : Nat) (hN : N = cellsN xs ys off) (l : Nat) (J Jx : (Nat → Prop) → Nat → World → Prop) (W : World) (hb1 : Blk W B1 34 #[.slice A q ca, .slice B q2 cb, .int .i64 off]) (hb2 : Blk W B2 34 #[.slice C q cc, .slice D q4 cd, .int .i64 off2])
    (hx : ReadsI W .i64 A xs) (hy : ReadsI W .i64 B ys) (hx2 : ReadsI W .i64 C xs) (hy2 : ReadsI W .i64 D ys2)
    (hJ : ∀ G k A B, (∀ b, G b → W.heap.size ≤ b) → J G k A → Drift W.heap.size G A B → J G k B)
    (hY : ∀ G k W1, (∀ b, G b → W.heap.size ≤ b ∧ b < W1.heap.size) → J G k W1 → k < N → YieldAt Fence.wide (n - 1) Try.prog l #[.int .i64 (plO xs ys off k), .int .i64 (plO xs ys2 off2 k)] W1 fun e W' =>
      (e = .returned (.bool true) ∧ J G (k + 1) W' ∧ KpG G W1 W') ∨ (e = .returned (.bool false) ∧ Jx G (k + 1) W'))
    (h0 : ∀ G W1, Below W.heap.size W W1 → (∀ b, G b → W.heap.size ≤ b) → J G 0 W1) :
    CallsIn Fence.wide n Try.prog 55 #[.func (.yield l) #[] #[], .pointer (some ⟨B1, 0, none⟩), .pointer (some ⟨B2, 0, none⟩)] W fun e W' => (∃ v, e = .returned v) ∧ ∃ G : Nat → Prop, (∀ b, G b → W.heap.size ≤ b) ∧ (J G N W' ∨ ∃ k, k < N ∧ Jx G (k + 1) W') := by
  have HR1 := vright_calls xs ys off A B ca cb q q2 W hx hy hq hq2 hl hl2
  have HB1 := Lib.hid hb1
  have HB2 := Lib.hid hb2
  have HR2 := fun W' (h : Below W.heap.size W W') => vright_calls xs ys2 off2 C D cc cd q q4 W' (hx2.below h) (hy2.below h) hq hq4 hl hl4
  have HEQ := Lib.hid (fun W' (h : Below W.heap.size W W') => equal_any A C ca cc q q xs xs W' hq hq (hx.below h) (hx2.below h) hl hl true (by simp))
  have HNA := fun W' (h : Below W.heap.size W W') => onew_calls xs ys off A B ca cb q q2 W' (hx.below h) (hy.below h) hq hq2 hl hl2
  have HNB := fun W' (h : Below W.heap.size W W') => onew_calls xs ys2 off2 C D cc cd q q4 W' (hx2.below h) (hy2.below h) hq hq4 hl hl4
  have c0 : W.cell? ⟨B1, 0, none⟩ = some (.slice A q ca) := hb1.cell 0
  have c1 : W.cell? ⟨B1, 1, none⟩ = some (.slice B q2 cb) := hb1.cell 1
  have c2 : W.cell? ⟨B1, 2, none⟩ = some (.int .i64 off) := hb1.cell 2
  rw [hv1] at HR1
  rw [hv2] at HR2
  have eN2 : cellsN xs ys2 off2 = N := by rw [hN]; unfold cellsN; rw [if_pos hv1, if_pos hv2]
  have a1 : shpN xs ys off = xs := if_pos hv1
  have a2 : strN xs ys off = ys := if_pos hv1
  have a3 : offN xs ys off = off := if_pos hv1
  have b1 : shpN xs ys2 off2 = xs := if_pos hv2
  have b2 : strN xs ys2 off2 = ys2 := if_pos hv2
  have b3 : offN xs ys2 off2 = off2 := if_pos hv2
  rw [a1, a2, a3, ← hN] at HNA
  rw [b1, b2, b3, eN2] at HNB
  have HR1 := Lib.hid HR1
  have HR2 := Lib.hid HR2
  have HNA := Lib.hid HNA
  have HNB := Lib.hid HNB
  have HJ := Lib.hid hJ
  have HY := Lib.hid hY
  have H0 := Lib.hid h0
  have HV1 := Lib.hid hv1
  have HV2 := Lib.hid hv2
  have HPR : Hid ((N : Int) ≤ prod xs) := Lib.hid (by rw [cellsN_prod hv1, ← hN]; exact Int.le_refl _)
  clear hb1 hb2 hx hy hx2 hy2 hv1 hv2 hq hq2 hq4 eN2 a1 a2 a3 b1 b2 b3 hJ hY h0 hN
  refine callsIn_of_wp Try.func55 rfl trivial ?_ rfl
  simp only [Try.ntmps55, List.size_toArray, List.length_cons, List.length_nil, Nat.reduceAdd, Nat.reduceSub, Array.replicate_succ, Array.replicate_zero, List.push_toArray, List.append_toArray, List.nil_append, List.cons_append]
  gi_wp2_with fail
  refine ⟨trivial, ?_⟩
  refine (callsIn_wide.2 HR1.out).mono ?_
  rintro e w1 ⟨rfl, hB⟩
  have d0 : w1.cell? ⟨B2, 0, none⟩ = some (.slice C q cc) := (HB2.out.below' hB).cell 0
  have d1 : w1.cell? ⟨B2, 1, none⟩ = some (.slice D q4 cd) := (HB2.out.below' hB).cell 1
  have d2 : w1.cell? ⟨B2, 2, none⟩ = some (.int .i64 off2) := (HB2.out.below' hB).cell 2
  have HBA := Lib.hid hB
  clear hB c0 c1 c2
  gi_wp2_with fail
  refine ⟨trivial, ?_⟩
  refine (callsIn_wide.2 (HR2.out _ HBA.out)).mono ?_
  rintro e w2 ⟨rfl, hB⟩
  have HBB := Lib.hid (bl_then HBA.out hB)
  have d0 : w2.cell? ⟨B2, 0, none⟩ = some (.slice C q cc) := (HB2.out.below' HBB.out).cell 0
  have c0 : w2.cell? ⟨B1, 0, none⟩ = some (.slice A q ca) := (HB1.out.below' HBB.out).cell 0
  clear hB HBA HR1
  gi_wp2_with fail
  refine ⟨trivial, ?_⟩
  refine (callsIn_wide.2 (HEQ.out _ HBB.out)).mono ?_
  rintro e w3 ⟨rfl, hB⟩
  have HBC := Lib.hid (bl_then HBB.out hB)
  have c0 : w3.cell? ⟨B1, 0, none⟩ = some (.slice A q ca) := (HB1.out.below' HBC.out).cell 0
  have c1 : w3.cell? ⟨B1, 1, none⟩ = some (.slice B q2 cb) := (HB1.out.below' HBC.out).cell 1
  have c2 : w3.cell? ⟨B1, 2, none⟩ = some (.int .i64 off) := (HB1.out.below' HBC.out).cell 2
  have d0 : w3.cell? ⟨B2, 0, none⟩ = some (.slice C q cc) := (HB2.out.below' HBC.out).cell 0
  have d1 : w3.cell? ⟨B2, 1, none⟩ = some (.slice D q4 cd) := (HB2.out.below' HBC.out).cell 1
  have d2 : w3.cell? ⟨B2, 2, none⟩ = some (.int .i64 off2) := (HB2.out.below' HBC.out).cell 2
  clear hB HBB HEQ HR2
  gi_wp2_with fail
  gi_region_with (refine ⟨trivial, ?_⟩; gi_at_call 17; first
    | ((with_reducible refine (callsIn_wide.2 (HNA.out _ (bl_drew HBC.out))).mono ?_); rintro e w4 ⟨rfl, hOa, hBa⟩; have HOA := Lib.hid hOa; have HBD := Lib.hid (bl_then (bl_drew HBC.out) hBa); have HLS : Hid (w3.heap.size ≤ w4.heap.size) := Lib.hid hBa.size; have d0 : w4.cell? ⟨B2, 0, none⟩ = some (.slice C q cc) := (HB2.out.below' HBD.out).cell 0; have d1 : w4.cell? ⟨B2, 1, none⟩ = some (.slice D q4 cd) := (HB2.out.below' HBD.out).cell 1; have d2 : w4.cell? ⟨B2, 2, none⟩ = some (.int .i64 off2) := (HB2.out.below' HBD.out).cell 2; clear hOa hBa)
    | ((with_reducible refine (callsIn_wide.2 (HNB.out _ HBD.out)).mono ?_); rintro e w5 ⟨rfl, hOb, hBb⟩; have HOB := Lib.hid hOb; have HOA2 := Lib.hid (HOA.out.below hBb); have HBE := Lib.hid (bl_then HBD.out hBb); have HLS2 : Hid (w4.heap.size ≤ w5.heap.size) := Lib.hid hBb.size; clear hOb hBb))
  all_goals
    obtain ⟨g1, hg1⟩ : ∃ g1, w3.heap.size + 1 = g1 := ⟨_, rfl⟩
    obtain ⟨g2, hg2⟩ : ∃ g2, w4.heap.size + 1 = g2 := ⟨_, rfl⟩
    obtain ⟨h1, hh1⟩ : ∃ h1, w4.heap.size = h1 := ⟨_, rfl⟩
    obtain ⟨H, hH⟩ : ∃ H, w5.heap.size = H := ⟨_, rfl⟩
    have hOA : OdoN g1 h1 xs ys off N 0 false w5 := by rw [← hg1, ← hh1]; exact HOA2.out
    have hOB : OdoN g2 H xs ys2 off2 N 0 false w5 := by rw [← hg2, ← hH]; exact HOB.out
    have l1 := HLS.out
    have l2 := HLS2.out
    have l3 := HBC.out.size
    have l4 : g1 < h1 := by obtain ⟨A, ca, B, cb, p, h1, h2, h3, h4, h5, h6, h7⟩ := hOA; omega
    have l5 : g2 < H := by obtain ⟨A, ca, B, cb, p, h1, h2, h3, h4, h5, h6, h7⟩ := hOB; omega
    have HLT : Hid (W.heap.size ≤ g1 ∧ g1 < h1 ∧ h1 ≤ g2 ∧ g2 < H ∧ H = w5.heap.size) := Lib.hid ⟨by omega, l4, by omega, l5, by omega⟩
    obtain ⟨G, hG⟩ : ∃ G : Nat → Prop, G = fun b => W.heap.size ≤ b ∧ b < H := ⟨_, rfl⟩
    have HG1 : Hid (∀ b, G b → W.heap.size ≤ b) := Lib.hid (fun b hb => by rw [hG] at hb; exact hb.1)
    have HG2 : Hid (∀ b, G b → b < H) := Lib.hid (fun b hb => by rw [hG] at hb; exact hb.2)
    have HG3 : Hid (∀ b, W.heap.size ≤ b → b < H → G b) := Lib.hid (fun b h1 h2 => by rw [hG]; exact ⟨h1, h2⟩)
    have HJ0 : Hid (J G 0 w5) := Lib.hid (H0.out G w5 HBE.out HG1.out)
    have HDR1 : Hid (∀ k X Y, W.heap.size ≤ X.heap.size → J G k X → Only g1 X Y → J G k Y) := Lib.hid (fun k X Y hs hj ho => HJ.out G k X Y HG1.out hj (Drift.of_only ho hs (by omega) (HG3.out g1 (by omega) (by omega))))
    have HDR2 : Hid (∀ k X Y, W.heap.size ≤ X.heap.size → J G k X → Only g2 X Y → J G k Y) := Lib.hid (fun k X Y hs hj ho => HJ.out G k X Y HG1.out hj (Drift.of_only ho hs (by omega) (HG3.out g2 (by omega) (by omega))))
    have HP0 : Hid (PairR xs ys off xs ys2 off2 N g1 h1 g2 H 0 w5) := Lib.hid ⟨Nat.zero_le _, ⟨_, hOA⟩, ⟨_, hOB⟩⟩
    have HS0 : Hid (W.heap.size ≤ w5.heap.size ∧ H ≤ w5.heap.size) := Lib.hid ⟨by omega, by omega⟩
    rw [hg1, hg2]
    clear hg1 hg2 hh1 hH hOA hOB l1 l2 l3 l4 l5 hG HOA HOB HOA2 HBD HBE HLS HLS2 HBC HNA HNB HB1 HB2 HJ H0 c0 c1 c2 d0 d1 d2
    go_simp
    gi_wp2_with fail
    gi_loopw [6] (fun _ wr => ∃ m : Nat, Hid (PairR xs ys off xs ys2 off2 N g1 h1 g2 H m wr) ∧ Hid (J G m wr) ∧ Hid (W.heap.size ≤ wr.heap.size ∧ H ≤ wr.heap.size)) (fun _ wr => leftOf wr g1)
    case atStart => exact ⟨0, HP0, HJ0, HS0⟩
    case round =>
      clear HP0 HJ0 HS0
      obtain ⟨m, HP, HJm, HS⟩ := hrel
      obtain ⟨hmN, ⟨st1, hO1⟩, ⟨st2, hO2⟩⟩ := HP.out
      by_cases hlt : m < N
      · have HL := Lib.hid hO1.left
        have HNX := Lib.hid (next_yes wr hO1 hlt HV1.out HPR.out)
        have HO2 := Lib.hid hO2
        clear hO1 hO2 HP
        gi_wp2_with fail
        refine ⟨trivial, ?_⟩
        refine (callsIn_wide.2 HNX.out).mono ?_
        rintro e v1 ⟨rfl, hO1, ho1⟩
        have HO1 := Lib.hid hO1
        have HO2' := Lib.hid (HO2.out.only ho1 (.inl (by have := HLT.out; omega)))
        have HJ1 := Lib.hid (HDR1.out m _ _ HS.out.1 HJm.out ho1)
        have HS1 : Hid (W.heap.size ≤ v1.heap.size ∧ H ≤ v1.heap.size) := Lib.hid ⟨Nat.le_trans HS.out.1 ho1.size, Nat.le_trans HS.out.2 ho1.size⟩
        have HNX2 := Lib.hid (next_yes v1 (HO2.out.only ho1 (.inl (by have := HLT.out; omega))) hlt HV2.out HPR.out)
        clear hO1 ho1 HNX HO2 HJm HS
        gi_wp2_with fail
        refine ⟨trivial, ?_⟩
        refine (callsIn_wide.2 HNX2.out).mono ?_
        rintro e v2 ⟨rfl, hO2, ho2⟩
        have HO2 := Lib.hid hO2
        have HO1' := Lib.hid (HO1.out.only ho2 (.inr (by have := HLT.out; omega)))
        have hj2 := HDR2.out m _ _ HS1.out.1 HJ1.out ho2
        have HS2 : Hid (W.heap.size ≤ v2.heap.size ∧ H ≤ v2.heap.size) := Lib.hid ⟨Nat.le_trans HS1.out.1 ho2.size, Nat.le_trans HS1.out.2 ho2.size⟩
        obtain ⟨fn, tmps, assign, body, hy, hR⟩ := HY.out G m v2 (fun b hb => ⟨HG1.out b hb, by have := HG2.out b hb; have := HS2.out.2; omega⟩) hj2 hlt
        have HM := Lib.hid hlt
        clear hO2 ho2 hj2 HO1 HO2' HJ1 HS1 HNX2 hlt
        gi_wp2
        refine hR.mono ?_
        rintro e v3 (⟨rfl, hJ3, hk3⟩ | ⟨rfl, hJx3⟩)
        · have hlt3 := HLT.out
          have hO1 := HO1'.out.same (w' := v3) (fun b q1 q2 => hk3.1 b (HG3.out b (by omega) (by omega)))
          have hO2 := HO2.out.same (w' := v3) (fun b q1 q2 => hk3.1 b (HG3.out b (by omega) (by omega)))
          have hs3 := hk3.2
          have HP3 : Hid (PairR xs ys off xs ys2 off2 N g1 h1 g2 H (m + 1) v3) := Lib.hid ⟨HM.out, ⟨_, hO1⟩, ⟨_, hO2⟩⟩
          have HJ3 := Lib.hid hJ3
          have HS3 : Hid (W.heap.size ≤ v3.heap.size ∧ H ≤ v3.heap.size) := Lib.hid ⟨by have := HS2.out.1; omega, by have := HS2.out.2; omega⟩
          have HL3 := Lib.hid hO1.left
          clear hlt3 hO1 hO2 hs3 hJ3 hk3
          gi_wp2
          go_roundw
          case rel => exact ⟨m + 1, HP3, HJ3, HS3⟩
          case measure =>
            rw [HL.out, HL3.out]
            have := HM.out
            omega
        · gi_wp2
          refine bodyPost_ret (results_none rfl _ _ _) rfl ?_
          exact ⟨⟨_, rfl⟩, G, HG1.out, .inr ⟨m, HM.out, hJx3⟩⟩
      · obtain rfl : m = N := by omega
        have HNX := Lib.hid (next_no wr hO1 rfl)
        have HO2 := Lib.hid hO2
        clear hO1 hO2 HP
        gi_wp2_with fail
        refine ⟨trivial, ?_⟩
        refine (callsIn_wide.2 HNX.out).mono ?_
        rintro e v1 ⟨rfl, hO1, ho1⟩
        have HJ1 := Lib.hid (HDR1.out m _ _ HS.out.1 HJm.out ho1)
        have HS1 : Hid (W.heap.size ≤ v1.heap.size) := Lib.hid (Nat.le_trans HS.out.1 ho1.size)
        have HNX2 := Lib.hid (next_no v1 (HO2.out.only ho1 (.inl (by have := HLT.out; omega))) rfl)
        clear hO1 ho1 HNX HO2 HJm HS
        gi_wp2_with fail
        refine ⟨trivial, ?_⟩
        refine (callsIn_wide.2 HNX2.out).mono ?_
        rintro e v2 ⟨rfl, hO2, ho2⟩
        have HJ2 := Lib.hid (HDR2.out m _ _ HS1.out HJ1.out ho2)
        clear hO2 ho2 HJ1 HS1 HNX2
        gi_wp2
        refine ⟨(fun f h => by cases h), ?_⟩
        gi_wp2
        refine bodyPost_ret (results_none rfl _ _ _) rfl ?_
        exact ⟨⟨_, rfl⟩, G, HG1.out, .inl HJ2.out⟩
theorem pairs_seq (n : Nat) (hn : 1 ≤ n) (xs ys : List Int) (off : Int) (xs2 ys2 : List Int) (off2 : Int) (A B C D : Option Addr) (ca cb cc cd q q2 q3 q4 B1 B2 : Nat) (hq : xs.length = q) (hq2 : ys.length = q2) (hq3 : xs2.length = q3) (hq4 : ys2.length = q4) (hl : q ≤ 1000000) (hl2 : q2 ≤ 1000000) (hl3 : q3 ≤ 1000000) (hl4 : q4 ≤ 1000000)
    (w : World) (hb1 : Blk w B1 34 #[.slice A q ca, .slice B q2 cb, .int .i64 off]) (hb2 : Blk w B2 34 #[.slice C q3 cc, .slice D q4 cd, .int .i64 off2])
    (hx : ReadsI w .i64 A xs) (hy : ReadsI w .i64 B ys) (hx2 : ReadsI w .i64 C xs2) (hy2 : ReadsI w .i64 D ys2) :
    SeqAt Fence.wide n Try.prog 55 #[.pointer (some ⟨B1, 0, none⟩), .pointer (some ⟨B2, 0, none⟩)] (fun k => #[.int .i64 (plO xs ys off k), .int .i64 (plO xs2 ys2 off2 k)]) (pairsN xs ys off xs2 ys2 off2) KpG w := fun l J Jx W hW hJ _ hY h0 => by
  cases hc : pairsB xs ys off xs2 ys2 off2 with
  | false =>
    have e : pairsN xs ys off xs2 ys2 off2 = 0 := if_neg (by rw [hc]; simp)
    rw [e]
    refine (pairs_no n xs ys off xs2 ys2 off2 A B C D ca cb cc cd q q2 q3 q4 B1 B2 hq hq2 hq3 hq4 hl hl2 hl3 hl4 hc l W (hb1.below' hW) (hb2.below' hW) (hx.below hW) (hy.below hW) (hx2.below hW) (hy2.below hW)).mono ?_
    rintro e W' ⟨hv, hB⟩
    exact ⟨hv, fun _ => False, fun b h => h.elim, .inl (h0 _ W' hB (fun b h => h.elim))⟩
  | true =>
    have e : pairsN xs ys off xs2 ys2 off2 = cellsN xs ys off := if_pos hc
    unfold pairsB at hc
    simp only [Bool.and_eq_true, decide_eq_true_eq] at hc
    obtain ⟨hv1, hv2, rfl⟩ := hc
    obtain rfl : q = q3 := by omega
    rw [e] at hY ⊢
    exact pairs_yes n hn xs ys off ys2 off2 A B C D ca cb cc cd q q2 q4 B1 B2 hq hq2 hq4 hl hl2 hl4 hv1 hv2 _ rfl l J Jx W (hb1.below' hW) (hb2.below' hW) (hx.below hW) (hy.below hW) (hx2.below hW) (hy2.below hW) hJ hY h0
end Go.Proofs.Ythjkeefdeeljoaa.Shp
