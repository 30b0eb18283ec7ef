/- Where a cell of a view stands. -/
import Derived.Test.YthjkeefdeeljoaaView
import Derived.Test.YthjkeefdeeljoaaOdo2
namespace Go.Proofs.Ythjkeefdeeljoaa.Shp
open Go.RowKit Go.Proofs.Ythjkeefdeeljoaa.Num
set_option linter.unusedVariables false
set_option linter.unusedSimpArgs false

def dotI (ps ys : List Int) : Nat → Int
  | 0 => 0
  | k + 1 => dotI ps ys k + nth ps k * nth ys k
theorem dotI_bd (xs ps ys : List Int) (h1 : ∀ j, j < xs.length → 0 ≤ nth ps j ∧ nth ps j ≤ 1048576) (h2 : ∀ j, j < xs.length → -1048576 ≤ nth ys j ∧ nth ys j ≤ 1048576) : ∀ k, k ≤ xs.length → -((k : Int) * 1099511627776) ≤ dotI ps ys k ∧ dotI ps ys k ≤ (k : Int) * 1099511627776
  | 0, _ => by simp [dotI]
  | k + 1, hk => by
    obtain ⟨i1, i2⟩ := dotI_bd xs ps ys h1 h2 k (by omega)
    have h3 := h1 k (by omega)
    have h4 := h2 k (by omega)
    have h5 := mul_bd h3.1 h3.2 h4.1 h4.2
    unfold dotI
    rw [show ((k + 1 : Nat) : Int) = (k : Int) + 1 from rfl]
    omega
theorem dotI_dig (xs ys : List Int) (p : Nat) : ∀ k, k ≤ xs.length → dotI (digL xs p) ys k = dotF (digF xs p) ys k
  | 0, _ => rfl
  | k + 1, h => by unfold dotI dotF; rw [dotI_dig xs ys p k (by omega), digL_nth xs p k (by omega)]
set_option maxHeartbeats 1000000 in
theorem offset_yes (xs ys ps : List Int) (off : Int) (A B C : Option Addr) (ca cb cc n m q : Nat) (w : World) (hx : ReadsI w .i64 A xs) (hy : ReadsI w .i64 B ys) (hp : ReadsI w .i64 C ps) (hn : xs.length = n) (hm : ys.length = m) (hq : ps.length = q) (hv : vrB xs ys off = true) (hh : hasB xs ps = true) :
    Calls Try.prog 23 #[.agg #[.slice A n ca, .slice B m cb, .int .i64 off], .slice C q cc] w fun e w' => e = .returned (.tuple #[.int .i64 (off + dotI ps ys q), .bool true]) ∧ Below w.heap.size w w' := by
  obtain ⟨v1, v2, v3, v4, v5⟩ := vrB_out hv
  obtain ⟨h1, h2, h3⟩ := has_mem hh
  have hm6 := rightB_mem h1
  obtain rfl : q = n := by omega
  obtain rfl : m = q := by omega
  have hbd := dotI_bd xs ps ys (fun j hj => by have := h3 j hj; have := (hm6.2 _ (nth_mem xs j hj)).2; omega) (fun j hj => near_mem v3 _ (nth_mem ys j (by omega)))
  rw [hn] at hbd h3
  have hl6 : m ≤ 6 := by omega
  have HB0 : Hid (Below w.heap.size w (w.alloc (.cells #[.slice A m ca, .slice B m cb, .int .i64 off] 34))) := Lib.hid (bl_alloc (Below.refl _ _) _)
  have hR := vright_calls xs ys off A B ca cb m m _ (hx.below HB0.out) (hy.below HB0.out) hn hm (by omega) (by omega)
  rw [hv] at hR
  have HR := Lib.hid hR
  have HH := Lib.hid (fun w' h h' => has_calls xs ps A C ca cc w' h h' (by omega) (by omega))
  rw [hh, hn, hq] at HH
  have HX := Lib.hid (hx.below HB0.out)
  have HP := Lib.hid (hp.below HB0.out)
  have HY := Lib.hid (hy.below HB0.out)
  have HBD := Lib.hid hbd
  have HMM := Lib.hid hm
  have HQQ := Lib.hid hq
  have HV3 := Lib.hid v3
  have HP3 := Lib.hid h3
  have HX2 := Lib.hid (fun j hj => (hm6.2 _ (nth_mem xs j hj)).2)
  have HNN := Lib.hid hn
  have hbox : (w.alloc (.cells #[.slice A m ca, .slice B m cb, .int .i64 off] 34)).heap.size = w.heap.size + 1 := by simp
  have hbx1 : (w.alloc (.cells #[.slice A m ca, .slice B m cb, .int .i64 off] 34)).cell? ⟨w.heap.size, 1, none⟩ = some (.slice B m cb) := by rw [World.cell?_alloc_at _ _ _ _ rfl]; rfl
  have hbx2 : (w.alloc (.cells #[.slice A m ca, .slice B m cb, .int .i64 off] 34)).cell? ⟨w.heap.size, 2, none⟩ = some (.int .i64 off) := by rw [World.cell?_alloc_at _ _ _ _ rfl]; rfl
  have HX1 := Lib.hid hbx1
  have HX22 := Lib.hid hbx2
  have HBOX := Lib.hid hbox
  clear hx hy hp hn hm hq hv hh v1 v2 v3 h1 h2 h3 hm6 hbd hR hbox hbx1 hbx2
  go_enter Try.func23, Try.ntmps23
  go_wp2_with fail
  refine HR.out.mono ?_
  rintro e w1 ⟨rfl, hB⟩
  obtain ⟨hc, hf⟩ := bcell hB
  have c1 := (hc _ 1 (by rw [HBOX.out]; omega)).trans HX1.out
  have c2 := (hc _ 2 (by rw [HBOX.out]; omega)).trans HX22.out
  have HXW := Lib.hid (HX.out.below hB)
  have HPW := Lib.hid (HP.out.below hB)
  have HYW := Lib.hid (HY.out.below hB)
  have HB1 := Lib.hid (bl_then HB0.out hB)
  clear hB
  go_wp2_with fail
  refine (HH.out _ HXW.out HPW.out).mono ?_
  rintro e w2 ⟨rfl, rfl⟩
  go_wp2_with fail
  go_loop [6, 7, 8, 23] (fun s _ _ i => ∃ k : Nat, i = .int .i64 k ∧ k ≤ m ∧ s = .int .i64 (off + dotI ps ys k)) (fun _ _ _ i => m - (intOf i).toNat)
  case atStart => exact ⟨0, rfl, Nat.zero_le _, by simp [dotI]⟩
  case round =>
    obtain ⟨k, rfl, hk, rfl⟩ := hrel
    by_cases hlt : k < m
    · obtain ⟨b2, o2, rfl, hc2⟩ := HPW.out k (by rw [HQQ.out]; exact hlt)
      obtain ⟨b3, o3, rfl, hc3⟩ := HYW.out k (by rw [HMM.out]; exact hlt)
      obtain ⟨pa, pb⟩ := HBD.out k hk
      obtain ⟨qa, qb⟩ := HBD.out (k + 1) hlt
      have hst : dotI ps ys (k + 1) = dotI ps ys k + nth ps k * nth ys k := rfl
      rw [hst] at qa qb
      have a1 := HP3.out k hlt
      have a2 := HX2.out k (by rw [HNN.out]; exact hlt)
      have a3 := near_mem HV3.out _ (nth_mem ys k (by rw [HMM.out]; exact hlt))
      have mb := mul_bd a1.1 (show nth ps k ≤ 1048576 by omega) a3.1 a3.2
      have HST := Lib.hid hst
      clear hst a1 a2 a3
      generalize dotI ps ys k = s at *
      generalize nth ps k = a at *
      generalize nth ys k = b at *
      obtain ⟨t, ht⟩ : ∃ t, a * b = t := ⟨_, rfl⟩
      rw [ht] at mb qa qb HST
      have w1' : IntKind.i64.wrap t = t := by rw [IntKind.wrap_i64]; omega
      have w2' : IntKind.i64.wrap (off + s + t) = off + s + t := by rw [IntKind.wrap_i64]; omega
      go_wp2_with fail
      go_round
      case measure => first | (simp [intOf]; done) | (simp [intOf]; omega)
      case rel => exact ⟨k + 1, by go_num, by omega, by rw [HST.out, ← Int.add_assoc]⟩
    · obtain rfl : k = m := by omega
      go_wp2_with fail
      go_ret2
      exact ⟨rfl, HB1.out⟩
theorem offset_no (xs ys ps : List Int) (off : Int) (A B C : Option Addr) (ca cb cc n m q : Nat) (w : World) (hx : ReadsI w .i64 A xs) (hy : ReadsI w .i64 B ys) (hp : ReadsI w .i64 C ps) (hn : xs.length = n) (hm : ys.length = m) (hq : ps.length = q) (hl1 : n ≤ 1000000) (hl2 : m ≤ 1000000) (hl3 : q ≤ 1000000) (hh : (vrB xs ys off && hasB xs ps) = false) :
    Calls Try.prog 23 #[.agg #[.slice A n ca, .slice B m cb, .int .i64 off], .slice C q cc] w fun e w' => e = .returned (.tuple #[.int .i64 0, .bool false]) ∧ Below w.heap.size w w' := by
  have HB0 : Hid (Below w.heap.size w (w.alloc (.cells #[.slice A n ca, .slice B m cb, .int .i64 off] 34))) := Lib.hid (bl_alloc (Below.refl _ _) _)
  have hR := vright_calls xs ys off A B ca cb n m _ (hx.below HB0.out) (hy.below HB0.out) hn hm hl1 hl2
  have HH := Lib.hid (fun w' h h' => has_calls xs ps A C ca cc w' h h' (by omega) (by omega))
  rw [hn, hq] at HH
  have HX := Lib.hid (hx.below HB0.out)
  have HP := Lib.hid (hp.below HB0.out)
  have hbox : (w.alloc (.cells #[.slice A n ca, .slice B m cb, .int .i64 off] 34)).heap.size = w.heap.size + 1 := by simp
  have hbx0 : (w.alloc (.cells #[.slice A n ca, .slice B m cb, .int .i64 off] 34)).cell? ⟨w.heap.size, 0, none⟩ = some (.slice A n ca) := by rw [World.cell?_alloc_at _ _ _ _ rfl]; rfl
  have HX0 := Lib.hid hbx0
  have HBOX := Lib.hid hbox
  cases hv : vrB xs ys off with
  | false =>
    rw [hv] at hR
    have HR := Lib.hid hR
    clear hx hy hp hn hm hq hv hh hR hbox hbx0 HH
    go_enter Try.func23, Try.ntmps23
    go_wp2_with fail
    refine HR.out.mono ?_
    rintro e w1 ⟨rfl, hB⟩
    have HB1 := Lib.hid (bl_then HB0.out hB)
    clear hB
    go_wp2_with fail
    go_ret2
    exact ⟨rfl, HB1.out⟩
  | true =>
    have hh2 : hasB xs ps = false := by rw [hv] at hh; simpa using hh
    rw [hv] at hR
    rw [hh2] at HH
    have HR := Lib.hid hR
    clear hx hy hp hn hm hq hv hh hh2 hR hbox hbx0
    go_enter Try.func23, Try.ntmps23
    go_wp2_with fail
    refine HR.out.mono ?_
    rintro e w1 ⟨rfl, hB⟩
    obtain ⟨hc, hf⟩ := bcell hB
    have c0 := (hc _ 0 (by rw [HBOX.out]; omega)).trans HX0.out
    have HXW := Lib.hid (HX.out.below hB)
    have HPW := Lib.hid (HP.out.below hB)
    have HB1 := Lib.hid (bl_then HB0.out hB)
    clear hB
    go_wp2_with fail
    refine (HH.out _ HXW.out HPW.out).mono ?_
    rintro e w2 ⟨rfl, rfl⟩
    go_wp2_with fail
    go_ret2
    exact ⟨rfl, HB1.out⟩
end Go.Proofs.Ythjkeefdeeljoaa.Shp
