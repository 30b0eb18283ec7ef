/- Contracts of order.Ranks, Find, Rising (and sort.Search). -/
import Derived.Test.YteppcfikalonbaaOrdBack2
namespace Go.Proofs.Yteppcfikalonbaa.Ord
open Go.RowKit
set_option linter.unusedVariables false
set_option linter.unusedSimpArgs false

/-- The rank of the k-th in order: how often a thing is unlike the one ahead, so far. -/
def rkp (c : Int → Int → Int) (xs : List Int) (L : List Nat) : Nat → Nat
  | 0 => 0
  | k + 1 => rkp c xs L k + if c (nth xs (nth L k)) (nth xs (nth L (k + 1))) = 0 then 0 else 1
theorem rkp_le (c : Int → Int → Int) (xs : List Int) (L : List Nat) (k : Nat) : rkp c xs L k ≤ k := by
  induction k with
  | zero => exact Nat.le_refl _
  | succ k ih => unfold rkp; split <;> omega

theorem ranks_start (w : World) (n : Nat) (T0 : TypeId) : ∃ W : World, W = (w.alloc (.cells (madeCells #[.int .i64 0] n) T0)) ∧ W.heap.size = w.heap.size + 1 ∧ Below w.heap.size w W ∧ RowE (Value.int .i64) W w.heap.size 0 (List.replicate n 0) :=
  ⟨_, rfl, by simp, bl_alloc (Below.refl _ _) _, rowE_made (Value.int .i64) w T0 n 0⟩
theorem CmpOf.val {g : FuncId} {caps : Array Value} {c : Int → Int → Int} (h : CmpOf g caps c) : CmpVal (.func (.func g) #[] caps) c := .inr ⟨g, caps, rfl, h⟩

set_option maxHeartbeats 4000000 in
theorem ranks_calls (xs : List Int) (A : Option Addr) (ca : Nat) (F : Value) (c : Int → Int → Int) (hF : CmpVal F c) (H : Weak (bhOf c xs)) (w : World) (hx : ReadsI w .i64 A xs) (hl : xs.length ≤ 1000000) :
    Calls Try.prog 15 #[.slice A xs.length ca, F] w fun e w' => (∃ (b : Nat) (L : List Nat) (R : List Int), e = .returned (.slice (some ⟨b, 0, none⟩) R.length R.length) ∧ ReadsI w' .i64 (some ⟨b, 0, none⟩) R ∧ R.length = xs.length ∧ L.Perm (List.range xs.length) ∧ L.Pairwise (Ahead (bhOf c xs)) ∧ ∀ i, i < xs.length → nth R (nth L i) = (rkp c xs L i : Int)) ∧ Below w.heap.size w w' := by
  have hmk := make_ints xs.length (by omega)
  have HX := Lib.hid hx
  have HF := Lib.hid hF
  clear hx
  rcases hF with ⟨rfl, hcc⟩ | ⟨g0, caps0, rfl, hcc⟩
  all_goals
    clear hcc
    go_enter Try.func15, Try.ntmps15
    go_wp2_with fail
    refine (alike_calls _ c HF.out _).mono ?_
    rintro e w' ⟨⟨g, caps, rfl, hc⟩, rfl⟩
    have HC := Lib.hid hc
    clear hc
    go_wp2_with fail
    obtain ⟨W1, hW1, hsz, hb1, hr1⟩ := ranks_start w xs.length 3
    rw [← hW1]
    have HR1 := Lib.hid hr1
    have HX1 := Lib.hid (HX.out.below hb1)
    have HSZ := Lib.hid hsz
    have HB1 := Lib.hid hb1
    clear hW1 hr1 hsz hb1 hmk
    refine (sort_calls xs A ca _ c HC.out.val H W1 HX1.out hl).mono ?_
    rintro e w2 ⟨b, L, hb, rfl, hrow, hp, hs, hb2⟩
    have hne : w.heap.size ≠ b := by have := HSZ.out; omega
    have hLl : L.length = xs.length := by rw [hp.length_eq]; simp
    have hLn : ∀ x ∈ L, x < xs.length := fun x hx => by have := hp.subset hx; simpa using this
    have hnd : L.Nodup := hp.nodup_iff.2 List.nodup_range
    have HROW := Lib.hid hrow
    have HR2 := Lib.hid (HR1.out.below hb2)
    have HB2 := Lib.hid (bl_then HB1.out hb2)
    have HP := Lib.hid hp
    have HS := Lib.hid hs
    have HLL := Lib.hid hLl
    have HLN : Hid (∀ x ∈ L, x < xs.length) := Lib.hid hLn
    have HND := Lib.hid hnd
    have hlL : L.length ≤ 1000000 := by omega
    clear hrow hb2 hp hs hLl hLn hnd HR1 HX1 HB1
    go_wp2_with fail
    go_loopw [7, 8, 9, 20] (fun r _ _ i wr => ∃ (k : Nat) (R : List Int), i = .int .i64 k ∧ k ≤ L.length ∧ r = .int .i64 (rkp c xs L (k - 1) : Nat) ∧ Hid (R.length = xs.length) ∧ Hid (∀ j, j < k → nth R (nth L j) = (rkp c xs L j : Int)) ∧ Hid (RowE (Value.int .i64) wr w.heap.size 0 R) ∧ Hid (RowN wr b 0 L) ∧ Below w.heap.size w wr) (fun _ _ _ i _ => L.length - (intOf i).toNat)
    case atStart => exact ⟨0, List.replicate xs.length 0, rfl, Nat.zero_le _, rfl, Lib.hid (by simp), Lib.hid (fun j hj => absurd hj (Nat.not_lt_zero _)), HR2, HROW, HB2.out⟩
    case round =>
      obtain ⟨k, R, rfl, hk, rfl, HRL, HRK, HRW, HROW2, hB⟩ := hrel
      clear HR2 HROW HB2
      by_cases hlt : k < L.length
      · have hcell := (HROW2.out k hlt).1
        rw [Nat.zero_add] at hcell
        have hpn := HLN.out _ (nth_mem L k hlt)
        have hout := HRW.out (nth L k) (by rw [HRL.out]; exact hpn)
        rw [Nat.zero_add] at hout
        obtain ⟨ho1, ho2⟩ := hout
        generalize nth R (nth L k) = z at ho1
        obtain ⟨bb, off, rfl, hcx⟩ := HX.out.below hB (nth L k) hpn
        have hfin : ∀ v : Int, (∀ j, j < k → nth (R.set (nth L k) v) (nth L j) = (rkp c xs L j : Int)) ∧ nth (R.set (nth L k) v) (nth L k) = v := fun v => by
          have hRl : nth L k < R.length := by rw [HRL.out]; exact hpn
          refine ⟨fun j hj => ?_, ?_⟩
          · have hjl : j < L.length := by omega
            have hn1 : nth L j ≠ nth L k := by
              rw [nth_eq _ _ hjl, nth_eq _ _ hlt]
              intro e
              have := (List.getElem_inj HND.out).1 e
              omega
            have hjn : nth L j < R.length := by rw [HRL.out]; exact HLN.out _ (nth_mem L j hjl)
            rw [← HRK.out j hj, nth_eq _ _ (by simpa using hjn), nth_eq _ _ hjn, List.getElem_set_ne (by omega)]
          · rw [nth_eq _ _ (by simpa using hRl), List.getElem_set_self]
        have HFIN : Hid (∀ v : Int, (∀ j, j < k → nth (R.set (nth L k) v) (nth L j) = (rkp c xs L j : Int)) ∧ nth (R.set (nth L k) v) (nth L k) = v) := Lib.hid hfin
        have HSET := fun v : Int => (HRW.out.set (nth L k) v (by rw [HRL.out]; exact hpn))
        have HSETH : Hid (∀ v : Int, RowE (Value.int .i64) (wr.setCell ⟨w.heap.size, 0 + nth L k, none⟩ (.int .i64 v)) w.heap.size 0 (R.set (nth L k) v)) := Lib.hid HSET
        clear hfin HSET
        have hB3 : ∀ (m : Nat) (o : Nat) (v : Value), Below w.heap.size w ((wr.drewN m).setCell ⟨w.heap.size, o, none⟩ v) := fun m o v => Below.setCell (bl_drewN hB m) (p := ⟨w.heap.size, o, none⟩) (Nat.le_refl _) v
        have hRW3 : ∀ (m : Nat) (o : Nat) (v : Value), RowN ((wr.drewN m).setCell ⟨w.heap.size, o, none⟩ v) b 0 L := fun m o v => HROW2.out.same (fun i _ => World.cell?_setCell_other _ _ _ _ (by intro e; injection e; exact hne (by assumption))) (fun i _ => World.frozen?_setCell _ _ _ _)
        have HB3 := Lib.hid hB3
        have HRW3 := Lib.hid hRW3
        clear hB3 hRW3
        cases k with
        | zero =>
          generalize hq : nth L 0 = q at *
          have HQ := Lib.hid hq
          clear hq
          rw [show ((0 : Nat) : Int) = 0 from rfl]
          go_wp2_with fail
          go_quiet (fail)
          go_wp2_with fail
          go_roundw
          case measure => simp [intOf]; omega
          case rel =>
            refine ⟨1, R.set q (rkp c xs L 0 : Nat), rfl, by omega, rfl, Lib.hid (by simp [HRL.out]), Lib.hid ?_, Lib.hid ?_, Lib.hid (HRW3.out _ _ _), HB3.out _ _ _⟩
            · intro j hj
              obtain rfl : j = 0 := by omega
              rw [HQ.out]
              exact (HFIN.out _).2
            · have h := HSETH.out (rkp c xs L 0 : Nat)
              rw [Nat.zero_add] at h
              exact h
        | succ k =>
          have hk' : k < L.length := by omega
          have hcell' := (HROW2.out k hk').1
          rw [Nat.zero_add] at hcell'
          have hpn' := HLN.out _ (nth_mem L k hk')
          obtain ⟨bb', off', he', hcx'⟩ := HX.out.below hB (nth L k) hpn'
          injection he' with he'
          injection he' with h3 h4
          subst h3
          subst h4
          have hrk : rkp c xs L (k + 1) = rkp c xs L k + if c (nth xs (nth L k)) (nth xs (nth L (k + 1))) = 0 then 0 else 1 := rfl
          have hle := rkp_le c xs L k
          rw [show k + 1 - 1 = k from rfl]
          have HFK := Lib.hid (fun j (hj : j < k + 1) => HRK.out j hj)
          generalize hq : nth L (k + 1) = q at *
          generalize hq' : nth L k = q' at *
          generalize nth xs q = x at *
          generalize nth xs q' = x' at *
          have e := HC.out.1
          unfold Fun at e
          have HCM := Lib.hid HC.out.2
          have HQ := Lib.hid hq
          have HQ' := Lib.hid hq'
          clear hq hq'
          by_cases h0 : c x' x = 0
          · have e0 : (c x' x != 0) = false := by simpa using h0
            rw [if_pos h0, Nat.add_zero] at hrk
            have HRKK := Lib.hid hrk
            clear hrk h0
            generalize hrr : rkp c xs L k = r at *
            have HRR := Lib.hid hrr
            clear hrr
            go_wp2_with fail
            go_quiet ((go_at_fn g; exact quiet_eq (HCM.out _ _ _)))
            go_wp2_with fail
            go_roundw
            case measure => simp [intOf]; omega
            case rel =>
              refine ⟨k + 1 + 1, R.set q (r : Nat), by go_num, by omega, by rw [show k + 1 + 1 - 1 = k + 1 from rfl, HRKK.out]; rfl, Lib.hid (by simp [HRL.out]), Lib.hid ?_, Lib.hid ?_, Lib.hid (HRW3.out _ _ _), HB3.out _ _ _⟩
              · intro j hj
                rcases Nat.lt_succ_iff_lt_or_eq.1 hj with hj | rfl
                · exact (HFIN.out _).1 j hj
                · rw [HQ.out, HRKK.out]
                  exact (HFIN.out _).2
              · have h := HSETH.out (r : Nat)
                rw [Nat.zero_add] at h
                exact h
          · have e0 : (c x' x != 0) = true := by simpa using h0
            rw [if_neg h0] at hrk
            have HRKK := Lib.hid hrk
            clear hrk h0
            generalize hrr : rkp c xs L k = r at *
            have HRR := Lib.hid hrr
            clear hrr
            go_wp2_with fail
            go_quiet ((go_at_fn g; exact quiet_eq (HCM.out _ _ _)))
            go_wp2_with fail
            go_roundw
            case measure => simp [intOf]; omega
            case rel =>
              refine ⟨k + 1 + 1, R.set q ((r : Int) + 1), by go_num, by omega, by rw [show k + 1 + 1 - 1 = k + 1 from rfl, HRKK.out]; go_num, Lib.hid (by simp [HRL.out]), Lib.hid ?_, Lib.hid ?_, Lib.hid (HRW3.out _ _ _), HB3.out _ _ _⟩
              · intro j hj
                rcases Nat.lt_succ_iff_lt_or_eq.1 hj with hj | rfl
                · exact (HFIN.out _).1 j hj
                · rw [HQ.out, HRKK.out]
                  have := (HFIN.out ((r : Int) + 1)).2
                  rw [this]; omega
              · have h := HSETH.out ((r : Int) + 1)
                rw [Nat.zero_add] at h
                exact h
      · go_wp2_with fail
        go_ret
        have hkl : k = L.length := by omega
        refine ⟨⟨w.heap.size, L, R, by rw [HRL.out]; rfl, HRW.out.shows (fun _ => rfl), HRL.out, HP.out, HS.out, fun i hi => HRK.out i (by rw [hkl, HLL.out]; exact hi)⟩, hB⟩

/-- Where a search ends: true from there on (here), false just ahead. -/
def Stop (pr : Nat → Bool) (n k : Nat) : Prop := k ≤ n ∧ (k < n → pr k = true) ∧ (0 < k → pr (k - 1) = false)

set_option maxHeartbeats 1000000 in
theorem search_calls (n : Nat) (g : FuncId) (caps : Array Value) (pr : Nat → Bool) (hg : Fun Try.prog g) (w : World) (hn : n ≤ 1000000000)
    (hp : ∀ (m i : Nat), i < n → Calls Try.prog g (#[.int .i64 i] ++ caps) (w.drewN m) fun e w' => e = .returned (.bool (pr i)) ∧ ∃ q, w' = (w.drewN m).drewN q) :
    Calls Try.prog 27 #[.int .i64 n, .func (.func g) #[] caps] w fun e w' => (∃ k : Nat, e = .returned (.int .i64 k) ∧ Stop pr n k) ∧ ∃ m, w' = w.drewN m := by
  have e := hg
  unfold Fun at e
  have HP := Lib.hid hp
  clear hp
  go_enter Try.func27, Try.ntmps27
  go_wp2_with fail
  go_loopw [5, 6, 7] (fun i j _ wr => ∃ (a b m : Nat), i = .int .i64 a ∧ j = .int .i64 b ∧ a ≤ b ∧ b ≤ n ∧ Hid (0 < a → pr (a - 1) = false) ∧ Hid (b < n → pr b = true) ∧ Hid (wr = w.drewN m)) (fun i j _ _ => ((intOf j) - (intOf i)).toNat)
  case atStart => exact ⟨0, n, 0, rfl, rfl, Nat.zero_le _, Nat.le_refl _, Lib.hid (fun h => absurd h (Nat.lt_irrefl _)), Lib.hid (fun h => absurd h (Nat.lt_irrefl _)), Lib.hid rfl⟩
  case round =>
    obtain ⟨a, b, m, rfl, rfl, hab, hbn, HA, HB, HW⟩ := hrel
    by_cases hlt : a < b
    · obtain ⟨h, hh⟩ : ∃ h, h = (a + b) / 2 := ⟨_, rfl⟩
      have h1 : a ≤ h := by omega
      have h2 : h < b := by omega
      have hc := HP.out m h (by omega)
      rw [← HW.out] at hc
      have HH := Lib.hid hh
      clear hh
      cases hpr : pr h with
      | false =>
        rw [hpr] at hc
        have HC := Lib.hid hc
        have HPR := Lib.hid hpr
        clear hc hpr
        go_wp2_with fail
        rw [show ((a : Int) + (b : Int)) / 2 = (h : Int) by have := HH.out; omega]
        refine HC.out.mono ?_
        rintro e1 w1 ⟨rfl, q, rfl⟩
        go_wp2_with fail
        go_roundw
        case measure => simp [intOf]; omega
        case rel => exact ⟨h + 1, b, m + q, by go_num, rfl, by omega, hbn, Lib.hid (fun _ => HPR.out), HB, Lib.hid (by rw [HW.out, World.drewN_drewN])⟩
      | true =>
        rw [hpr] at hc
        have HC := Lib.hid hc
        have HPR := Lib.hid hpr
        clear hc hpr
        go_wp2_with fail
        rw [show ((a : Int) + (b : Int)) / 2 = (h : Int) by have := HH.out; omega]
        refine HC.out.mono ?_
        rintro e1 w1 ⟨rfl, q, rfl⟩
        go_wp2_with fail
        go_roundw
        case measure => simp [intOf]; omega
        case rel => exact ⟨a, h, m + q, rfl, rfl, h1, by omega, HA, Lib.hid (fun _ => HPR.out), Lib.hid (by rw [HW.out, World.drewN_drewN])⟩
    · go_wp2_with fail
      go_ret
      obtain rfl : a = b := by omega
      exact ⟨⟨a, rfl, hbn, HB.out, HA.out⟩, m, HW.out⟩
end Go.Proofs.Yteppcfikalonbaa.Ord
