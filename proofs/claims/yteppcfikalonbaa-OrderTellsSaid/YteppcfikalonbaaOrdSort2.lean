/- Contract of order.Sort, the walk. -/
import Derived.Test.YteppcfikalonbaaOrdSort
import Derived.StillTailTactics
namespace Go.Proofs.Yteppcfikalonbaa.Ord
open Go.RowKit
set_option linter.unusedVariables false
set_option linter.unusedSimpArgs false

theorem info_int : (Try.prog.info? 3).map (fun i => (i.zero, i.size, i.bytes)) = some (some (.int .i64 0), 1, 8) := by kernel_rfl
theorem make_ints (m : Nat) (hm : m ≤ 10000000) : ∀ W : World, (Instr.makeSlice 22 (.int .i64 (m : Int)) (.int .i64 (m : Int))).run Try.prog W = .ok (.slice (some ⟨W.heap.size, 0, none⟩) m m) (W.alloc (.cells (madeCells #[.int .i64 0] m) 3)) :=
  fun W => run_make_row' 22 3 (.int .i64 0) 8 Try.underlying22 info_int rfl .i64 .i64 m (by omega) (by omega) W

/-- The three blocks that Sort lays first. -/
theorem sort_start (w : World) (A : Option Addr) (ca n : Nat) (g : FuncId) (caps : Array Value) (T0 T1 T2 : TypeId) :
    ∃ W : World, W = (((w.alloc (.cells #[.slice A n ca] T0)).alloc (.cells #[.func (.func g) #[] caps] T1)).alloc (.cells (madeCells #[.int .i64 0] n) T2)) ∧ W.heap.size = w.heap.size + 3 ∧ Below w.heap.size w W ∧
      W.cell? ⟨w.heap.size, 0, none⟩ = some (.slice A n ca) ∧ W.cell? ⟨w.heap.size + 1, 0, none⟩ = some (.func (.func g) #[] caps) ∧ RowN W (w.heap.size + 1 + 1) 0 (List.replicate n 0) := by
  refine ⟨_, rfl, by simp, bl_alloc (bl_alloc (bl_alloc (Below.refl _ _) _) _) _, ?_, ?_, ?_⟩
  · rw [World.cell?_alloc_past _ _ _ (by simp; omega), World.cell?_alloc_past _ _ _ (by simp), World.cell?_alloc_at _ _ _ _ rfl]; rfl
  · rw [World.cell?_alloc_past _ _ _ (by simp), World.cell?_alloc_at _ _ _ _ (by simp)]; rfl
  · have := rowN_made ((w.alloc (.cells #[.slice A n ca] T0)).alloc (.cells #[.func (.func g) #[] caps] T1)) T2 n
    simp at this ⊢
    exact this
theorem range_step (k n : Nat) (h : k < n) : (List.range k ++ List.replicate (n - k) 0).set k k = List.range (k + 1) ++ List.replicate (n - (k + 1)) 0 := by
  obtain ⟨m, rfl⟩ : ∃ m, n = k + 1 + m := ⟨n - (k + 1), by omega⟩
  rw [show k + 1 + m - k = m + 1 by omega, show k + 1 + m - (k + 1) = m by omega, List.replicate_succ, List.range_succ]
  have := set_mid (List.range k) k 0 (List.replicate m 0)
  simp at this ⊢

theorem take_rng (f m k : Nat) (h : k ≤ m) : (List.range' f m).take k = List.range' f k := by
  apply List.ext_getElem
  · simp; omega
  · intro i h1 h2; simp
theorem bl2 {B : Nat} {w W : World} (h : Below B w W) : Below B w W.drew := ⟨h.os, h.tape, h.output, h.size, h.block⟩
theorem seg_row {w : World} {b : Nat} {L : List Nat} (h : RowN w b 0 L) {s e : Nat} (he : e ≤ L.length) (hse : s ≤ e) : RowN w b s (seg L s e) := by
  have h1 := h
  rw [← seg_split L s e he hse] at h1
  have h2 := h1.right.left
  rw [List.length_take, Nat.min_eq_left (by omega), Nat.zero_add] at h2
  exact h2
theorem chunk_done {bh : Nat → Nat → Bool} (j f e n : Nat) (L ys : List Nat) (hf : f = 8 * j) (he : e = min (f + 8) n) (hlt : f < n) (hL : L.length = n)
    (hS : ∀ i, i < j → SS bh L (8 * i) (min (8 * i + 8) n)) (hD : L.drop f = List.range' f (n - f)) (hp : ys.Perm (seg L f e)) (hs : ys.Pairwise (Ahead bh)) :
    (L.take f ++ (ys ++ L.drop e)).length = n ∧ (∀ i, i < j + 1 → SS bh (L.take f ++ (ys ++ L.drop e)) (8 * i) (min (8 * i + 8) n)) ∧ (L.take f ++ (ys ++ L.drop e)).drop (f + 8) = List.range' (f + 8) (n - (f + 8)) := by
  have hsl := seg_length L f e (by omega) (by omega)
  have hyl : ys.length = e - f := by rw [hp.length_eq, hsl]
  have hlen : (L.take f ++ (ys ++ L.drop e)).length = n := by simp; omega
  refine ⟨hlen, ?_, ?_⟩
  · intro i hi
    by_cases h : i = j
    · subst h
      rw [← hf, ← he]
      unfold SS
      rw [seg_new L ys f e (by omega) (by omega) hyl]
      refine ⟨hp.trans ?_, hs⟩
      unfold seg
      rw [hD, take_rng _ _ _ (by omega)]
    · have hij : i < j := by omega
      unfold SS
      rw [seg_old_left L ys f e _ _ (by omega) (by omega) hyl (by omega)]
      exact hS i hij
  · by_cases h8 : f + 8 ≤ n
    · obtain rfl : e = f + 8 := by omega
      rw [drop_new L ys f (f + 8) (by omega) (by omega) hyl, ← List.drop_drop, hD, List.drop_range']
      congr 1 <;> omega
    · rw [List.drop_of_length_le (by omega), show n - (f + 8) = 0 by omega]
      rfl

theorem ss_mem {bh : Nat → Nat → Bool} {L : List Nat} {s e : Nat} (h : SS bh L s e) {x : Nat} (hx : x ∈ seg L s e) : s ≤ x ∧ x < s + (e - s) := by
  have := h.1.subset hx
  rwa [List.mem_range'_1] at this
theorem seg_nil (L : List Nat) (s : Nat) : seg L s s = [] := by simp [seg]
/-- Two runs, one behind the other. -/
theorem two_runs {bh : Nat → Nat → Bool} (n wd j f mid to : Nat) (L : List Nat) (hL : L.length = n) (hS : ∀ i, i * wd < n → SS bh L (i * wd) (min (i * wd + wd) n)) (hf : f = j * (2 * wd)) (hlt : f < n)
    (hm : mid = min (f + wd) n) (ht : to = min (f + 2 * wd) n) (hw : 8 ≤ wd) :
    (seg L f mid).Pairwise (Ahead bh) ∧ (seg L mid to).Pairwise (Ahead bh) ∧ (∀ x ∈ seg L f mid, ∀ y ∈ seg L mid to, x < y) ∧ (∀ r ∈ seg L f mid ++ seg L mid to, r < n) ∧ (seg L f mid ++ seg L mid to).Perm (List.range' f (to - f)) := by
  have e1 : 2 * j * wd = f := by rw [hf, ← Nat.mul_assoc, Nat.mul_comm j 2]
  have e2 : (2 * j + 1) * wd = f + wd := by rw [Nat.add_mul, e1, Nat.one_mul]
  have s1 := hS (2 * j) (by rw [e1]; exact hlt)
  rw [e1, ← hm] at s1
  by_cases h : f + wd < n
  · have s2 := hS (2 * j + 1) (by rw [e2]; exact h)
    rw [e2, show min (f + wd + wd) n = to by omega, show f + wd = mid by omega] at s2
    refine ⟨s1.2, s2.2, fun x hx y hy => ?_, fun r hr => ?_, ?_⟩
    · have := ss_mem s1 hx; have := ss_mem s2 hy; omega
    · rcases List.mem_append.1 hr with hr | hr
      · have := ss_mem s1 hr; omega
      · have := ss_mem s2 hr; omega
    · have := s1.1.append s2.1
      rw [show List.range' mid (to - mid) = List.range' (f + (mid - f)) (to - mid) by congr 1; omega, List.range'_append_1, show mid - f + (to - mid) = to - f by omega] at this
      exact this
  · have h1 : mid = n := by omega
    have h2 : to = n := by omega
    subst h1
    subst h2
    rw [seg_nil]
    refine ⟨s1.2, List.Pairwise.nil, by simp, fun r hr => ?_, by simpa using s1.1⟩
    rw [List.append_nil] at hr
    have := ss_mem s1 hr; omega
theorem merge_done {bh : Nat → Nat → Bool} (n wd j f to : Nat) (Y ms : List Nat) (hY : Y.length = n) (hS : ∀ i, i < j → SS bh Y (i * (2 * wd)) (min (i * (2 * wd) + 2 * wd) n)) (hf : f = j * (2 * wd)) (hlt : f < n) (ht : to = min (f + 2 * wd) n) (hw : 8 ≤ wd)
    (hp : ms.Perm (List.range' f (to - f))) (hs : ms.Pairwise (Ahead bh)) :
    (Y.take f ++ (ms ++ Y.drop to)).length = n ∧ ∀ i, i < j + 1 → SS bh (Y.take f ++ (ms ++ Y.drop to)) (i * (2 * wd)) (min (i * (2 * wd) + 2 * wd) n) := by
  have hml : ms.length = to - f := by rw [hp.length_eq]; simp
  refine ⟨by simp; omega, fun i hi => ?_⟩
  by_cases h : i = j
  · subst h
    rw [← hf, ← ht]
    unfold SS
    rw [seg_new Y ms f to (by omega) (by omega) hml]
    exact ⟨hp, hs⟩
  · have hij : i < j := by omega
    have h1 : i * (2 * wd) + 2 * wd ≤ f := by
      have := Nat.mul_le_mul_right (2 * wd) (show i + 1 ≤ j by omega)
      rw [Nat.add_mul, Nat.one_mul] at this
      omega
    unfold SS
    rw [seg_old_left Y ms f to _ _ (by omega) (by omega) hml (by omega)]
    exact hS i hij

theorem sort_other (wr : World) (n : Nat) (T : TypeId) : ∃ (W : World) (C : Nat), W = wr.alloc (.cells (madeCells #[.int .i64 0] n) T) ∧ C = wr.heap.size ∧ Below C wr W ∧ RowN W C 0 (List.replicate n 0) :=
  ⟨_, _, rfl, rfl, bl_alloc (Below.refl _ _) _, rowN_made wr T n⟩

set_option maxHeartbeats 4000000 in
theorem sort_calls (xs : List Int) (A : Option Addr) (ca : Nat) (F : Value) (c : Int → Int → Int) (hF : CmpVal F c) (H : Weak (bhOf c xs)) (w : World) (hx : ReadsI w .i64 A xs) (hl : xs.length ≤ 1000000) :
    Calls Try.prog 12 #[.slice A xs.length ca, F] w fun e w' => ∃ (b : Nat) (L : List Nat), w.heap.size ≤ b ∧ e = .returned (.slice (some ⟨b, 0, none⟩) L.length L.length) ∧ RowN w' b 0 L ∧ L.Perm (List.range xs.length) ∧ L.Pairwise (Ahead (bhOf c xs)) ∧ Below w.heap.size w w' := by
  have hmf : ∀ (fn : Fn) (first cap : Array Value) (w : World), (Instr.makeFunc fn first cap).run Try.prog w = .ok (.func fn first cap) w := fun _ _ _ _ => rfl
  have hmk := make_ints xs.length (by omega)
  have HX := Lib.hid hx
  have HF := Lib.hid hF
  clear hx
  rcases hF with ⟨rfl, hcc⟩ | ⟨g0, caps0, rfl, hcc⟩
  all_goals
    clear hcc
    go_enter Try.func12, Try.ntmps12
    go_wp2_with fail
    refine (alike_calls _ c HF.out _).mono ?_
    rintro e w' ⟨⟨g, caps, rfl, hc⟩, rfl⟩
    have HC := Lib.hid hc
    clear hc
    go_wp2_with fail
    obtain ⟨W3, hW3, hsz, hb3, hc0, hc1, hr3⟩ := sort_start w A ca xs.length g caps 22 29 3
    rw [← hW3]
    have HB3 := Lib.hid hb3
    have HBEH : Hid (Behind W3 (w.heap.size + 1 + 1) 24 #[.pointer (some ⟨w.heap.size + 1, 0, none⟩), .pointer (some ⟨w.heap.size, 0, none⟩)] xs.length (bhOf c xs)) := Lib.hid fun W hW a b ha hb =>
      behind_calls g caps c HC.out xs A ca W _ _ ((hW.cell (show w.heap.size < w.heap.size + 1 + 1 by omega)).trans hc0) ((hW.cell (show w.heap.size + 1 < w.heap.size + 1 + 1 by omega)).trans hc1) (HX.out.below (hb3.trans (hW.mono (by omega)))) hl a b ha hb
    have HR3 := Lib.hid hr3
    have HSZ := Lib.hid hsz
    have HC0 := Lib.hid hc0
    clear hW3 hsz hb3 hc0 hc1 hr3
    go_loopw [7, 22] (fun _ i wr => ∃ k : Nat, i = .int .i64 k ∧ k ≤ xs.length ∧ Hid (RowN wr (w.heap.size + 1 + 1) 0 (List.range k ++ List.replicate (xs.length - k) 0)) ∧ Wrote W3 wr (w.heap.size + 1 + 1) 0 xs.length) (fun _ i _ => xs.length - (intOf i).toNat)
    case atStart => exact ⟨0, rfl, Nat.zero_le _, Lib.hid (by simpa using HR3.out), Wrote.refl _ _ _ _⟩
    case round =>
      obtain ⟨k, rfl, hk, HC1, hwr⟩ := hrel
      by_cases hlt : k < xs.length
      · have hc := HC1.out k (by simp; omega)
        rw [Nat.zero_add] at hc
        obtain ⟨hc, hf⟩ := hc
        generalize nth (List.range k ++ List.replicate (xs.length - k) 0) k = z at hc
        go_wp2_with fail
        go_roundw
        case measure => simp [intOf]; omega
        case rel =>
          refine ⟨k + 1, by go_num, by omega, Lib.hid ?_, hwr.set _ _ (by omega) (by omega)⟩
          have := HC1.out.set k k (by simp; omega)
          rw [range_step k _ hlt, Nat.zero_add] at this
          exact this
      · have hR : RowN wr (w.heap.size + 1 + 1) 0 (List.range xs.length) := by
          have := HC1.out
          obtain rfl : k = xs.length := by omega
          simpa using this
        have HR := Lib.hid hR
        clear hR HC1
        go_wp2_with fail
        go_loopw [8] (fun fr wr => ∃ (j f : Nat) (L : List Nat), fr = .int .i64 f ∧ Hid (f = 8 * j) ∧ f ≤ xs.length + 7 ∧ Hid (L.length = xs.length) ∧ Hid (∀ i, i < j → SS (bhOf c xs) L (8 * i) (min (8 * i + 8) xs.length)) ∧ Hid (L.drop f = List.range' f (xs.length - f)) ∧ Hid (RowN wr (w.heap.size + 1 + 1) 0 L) ∧ Wrote W3 wr (w.heap.size + 1 + 1) 0 xs.length) (fun fr _ => xs.length - (intOf fr).toNat)
        case atStart => exact ⟨0, 0, List.range xs.length, rfl, Lib.hid rfl, by omega, Lib.hid (by simp), Lib.hid (by simp), Lib.hid (by simp [List.range_eq_range']), HR, hwr⟩
        case round =>
          obtain ⟨j, f, L, rfl, HFJ, hf, HL, HSS, HD, HC2, hwq⟩ := hrel
          clear HR hwr
          by_cases hlt : f < xs.length
          · obtain ⟨e, he⟩ : ∃ e, e = min (f + 8) xs.length := ⟨_, rfl⟩
            have hef : f < e := by omega
            have hen : e ≤ xs.length := by omega
            have hne : ¬ xs.length = f := by omega
            have hsl := seg_length L f e (by rw [HL.out]; exact hen) (by omega)
            have hseg : seg L f e = List.range' f (e - f) := by
              unfold seg
              rw [HD.out, take_rng _ _ _ (by omega)]
            have hcall := insert_calls W3 (w.heap.size + 1 + 1) xs.length 24 _ (bhOf c xs) Try.call24 HBEH.out H (w.heap.size + 1 + 1) f (xs.length - f) (Nat.le_refl _) (seg L f e) wr (hwq.below (Nat.le_refl _))
              (by have := seg_row HC2.out (s := f) (e := e) (by rw [HL.out]; exact hen) (by omega); exact this) (by rw [hseg]; intro x hx; rw [List.mem_range'_1] at hx; omega) (by rw [hseg]; exact List.pairwise_lt_range') (by rw [hsl]; omega) (by rw [hsl]; omega) (by omega)
            rw [hsl] at hcall
            have HCALL := Lib.hid hcall
            have HSEG := Lib.hid hseg
            have HSL := Lib.hid hsl
            have HE := Lib.hid he
            clear hcall hseg hsl he
            by_cases h8 : f + 8 ≤ xs.length
            · have h9 : e - f = 8 := by have := HE.out; omega
              have hcall := HCALL.out
              rw [h9] at hcall
              have HCALL2 := Lib.hid hcall
              clear hcall
              have H9 := Lib.hid h9
              clear h9
              go_wp2_with fail
              refine HCALL2.out.mono ?_
              rintro e1 w' ⟨rfl, hw2, ys, hys, hp, hs⟩
              have hfin := chunk_done j f e xs.length L ys HFJ.out HE.out hlt HL.out HSS.out HD.out hp hs
              have hw3 : Wrote wr w' (w.heap.size + 1 + 1) f e := hw2.wide (Nat.le_refl _) (by have := H9.out; omega)
              have hrow := HC2.out.splice hw3 hys (by rw [hp.length_eq, HSL.out]) (by omega) (by rw [HL.out]; exact hen)
              have HFIN := Lib.hid hfin
              have HROW := Lib.hid hrow
              clear hfin hrow hys hp hs hw2
              go_wp2_with fail
              go_roundw
              case measure => simp [intOf]; omega
              case rel => exact ⟨j + 1, f + 8, _, by go_num, Lib.hid (by have := HFJ.out; omega), by omega, Lib.hid HFIN.out.1, Lib.hid HFIN.out.2.1, Lib.hid HFIN.out.2.2, HROW, hwq.trans (hw3.wide (by omega) (by omega))⟩
            · have h9 : e - f = xs.length - f := by have := HE.out; omega
              have hcall := HCALL.out
              rw [h9] at hcall
              have HCALL2 := Lib.hid hcall
              clear hcall
              have H9 := Lib.hid h9
              clear h9
              go_wp2_with fail
              refine HCALL2.out.mono ?_
              rintro e1 w' ⟨rfl, hw2, ys, hys, hp, hs⟩
              have hfin := chunk_done j f e xs.length L ys HFJ.out HE.out hlt HL.out HSS.out HD.out hp hs
              have hw3 : Wrote wr w' (w.heap.size + 1 + 1) f e := hw2.wide (Nat.le_refl _) (by have := H9.out; omega)
              have hrow := HC2.out.splice hw3 hys (by rw [hp.length_eq, HSL.out]) (by omega) (by rw [HL.out]; exact hen)
              have HFIN := Lib.hid hfin
              have HROW := Lib.hid hrow
              clear hfin hrow hys hp hs hw2
              go_wp2_with fail
              go_roundw
              case measure => simp [intOf]; omega
              case rel => exact ⟨j + 1, f + 8, _, by go_num, Lib.hid (by have := HFJ.out; omega), by omega, Lib.hid HFIN.out.1, Lib.hid HFIN.out.2.1, Lib.hid HFIN.out.2.2, HROW, hwq.trans (hw3.wide (by omega) (by omega))⟩
          · have hnf : SS (bhOf c xs) L 0 0 ∨ True := .inr trivial
            obtain ⟨W4, C, hW4, hCC, hb4, hz4⟩ := sort_other wr xs.length 3
            have hBC : w.heap.size + 1 + 1 < C := by rw [hCC, hwq.size, HSZ.out]; omega
            have hb5 : Below (w.heap.size + 1 + 1) W3 W4 := (hwq.below (Nat.le_refl _)).trans (hb4.mono (by omega))
            have hrow4 : RowN W4 (w.heap.size + 1 + 1) 0 L := HC2.out.below (by rw [← hCC]; exact hb4)
            have hss : ∀ i, i * 8 < xs.length → SS (bhOf c xs) L (i * 8) (min (i * 8 + 8) xs.length) := fun i hi => by
              rw [Nat.mul_comm i 8]
              exact HSS.out i (by have := HFJ.out; omega)
            have hcl : wr.cell? ⟨w.heap.size, 0, none⟩ = some (.slice A xs.length ca) := ((hwq.below (Nat.le_refl _)).cell (show w.heap.size < w.heap.size + 1 + 1 by omega)).trans HC0.out
            have HCL := Lib.hid hcl
            have HB5 := Lib.hid hb5
            have HROW4 := Lib.hid hrow4
            have HZ4 := Lib.hid hz4
            have HSS8 := Lib.hid hss
            have HW4 := Lib.hid hW4
            have HCC := Lib.hid hCC
            clear hb5 hb4 hrow4 hz4 hss hW4 hCC hnf HSS HC2 hwq
            go_wp2_with fail
            rw [← HCC.out, ← HW4.out]
            have hbw4 : Below w.heap.size w W4 := HB3.out.trans (HB5.out.mono (by omega))
            clear hcl
            have hne4 : w.heap.size + 1 + 1 ≠ C := by omega
            go_loopw [6, 9, 10, 11, 12, 13] (fun s6 s9 s10 _ _ _ wr => ∃ (wd ba bo : Nat) (L Z : List Nat), s6 = .slice (some ⟨ba, 0, none⟩) xs.length xs.length ∧ s9 = .slice (some ⟨bo, 0, none⟩) xs.length xs.length ∧ s10 = .int .i64 wd ∧ 8 ≤ wd ∧ wd ≤ 2 * xs.length + 16 ∧ ba ≠ bo ∧ w.heap.size + 1 + 1 ≤ ba ∧ w.heap.size + 1 + 1 ≤ bo
              ∧ Hid (L.length = xs.length) ∧ Hid (Z.length = xs.length) ∧ Hid (∀ i, i * wd < xs.length → SS (bhOf c xs) L (i * wd) (min (i * wd + wd) xs.length)) ∧ Hid (RowN wr ba 0 L) ∧ Hid (RowN wr bo 0 Z) ∧ Hid (Below (w.heap.size + 1 + 1) W3 wr) ∧ Hid (Below w.heap.size w wr)) (fun _ _ s10 _ _ _ _ => xs.length - (intOf s10).toNat)
            case atStart => exact ⟨8, w.heap.size + 1 + 1, C, L, List.replicate xs.length 0, rfl, rfl, rfl, Nat.le_refl _, by omega, hne4, Nat.le_refl _, by omega, HL, Lib.hid (by simp), HSS8, HROW4, HZ4, HB5, Lib.hid hbw4⟩
            case round =>
              clear HROW4 HZ4 HSS8 HB5 HW4 HCC hbw4 HCL hne4 HL HD HFJ hf hlt
              obtain ⟨wd, ba, bo, L, Z, rfl, rfl, rfl, hw8, hwn, hab, hba, hbo, HL, HZ, HSS, HRA, HRO, HB5, HBW⟩ := hrel
              by_cases hlt : wd < xs.length
              · go_wp2_with fail
                obtain ⟨wo, hwo⟩ : ∃ wo : World, wo = wr := ⟨_, rfl⟩
                rw [← hwo] at HRA HRO HB5 HBW ⊢
                clear hwo
                go_loopw [11, 12, 13] (fun s11 _ _ wq => ∃ (j f : Nat) (Y : List Nat), s11 = .int .i64 f ∧ Hid (f = j * (2 * wd)) ∧ f ≤ xs.length + 2 * wd ∧ Hid (Y.length = xs.length) ∧ Hid (∀ i, i < j → SS (bhOf c xs) Y (i * (2 * wd)) (min (i * (2 * wd) + 2 * wd) xs.length)) ∧ Hid (RowN wq bo 0 Y) ∧ Wrote wo wq bo 0 xs.length) (fun s11 _ _ _ => xs.length - (intOf s11).toNat)
                case atStart => exact ⟨0, 0, Z, rfl, Lib.hid (by simp), by omega, HZ, Lib.hid (by simp), HRO, Wrote.refl _ _ _ _⟩
                case round =>
                  obtain ⟨j, f, Y, rfl, HFJ, hf, HY, HSY, HRY, hwq⟩ := hrel
                  by_cases hlf : f < xs.length
                  · obtain ⟨mid, hmid⟩ : ∃ m, m = min (f + wd) xs.length := ⟨_, rfl⟩
                    obtain ⟨to, hto⟩ : ∃ m, m = min (f + 2 * wd) xs.length := ⟨_, rfl⟩
                    have hrA : RowN wr.drew ba 0 L := (HRA.out.other hwq hab).drewN 1
                    have hbq : Below (w.heap.size + 1 + 1) W3 wr := HB5.out.trans (hwq.below hbo)
                    have HTR := Lib.hid (two_runs xs.length wd j f mid to L HL.out HSS.out HFJ.out hlf hmid hto hw8)
                    have k1 : f < to := by omega
                    have k2 : to ≤ xs.length := by omega
                    have HLS1 := Lib.hid (seg_length Y f to (by rw [HY.out]; omega) (by omega))
                    have HLS2 := Lib.hid (seg_length L f mid (by rw [HL.out]; omega) (by omega))
                    have HLS3 := Lib.hid (seg_length L mid to (by rw [HL.out]; omega) (by omega))
                    by_cases h1 : f + 2 * wd ≤ xs.length
                    · have g1 : f + wd ≤ xs.length := by omega
                      obtain ⟨A1, hs1, hA1⟩ := run_piece (P := Try.prog) Try.underlying22 Try.sizeOf3 bo 0 xs.length xs.length f to (by omega) (by omega) ((f : Int)) ((f : Int) + 2 * (wd : Int)) rfl (by omega)
                      obtain ⟨A2, hs2, hA2⟩ := run_piece (P := Try.prog) Try.underlying22 Try.sizeOf3 ba 0 xs.length xs.length f mid (by omega) (by omega) ((f : Int)) ((f : Int) + (wd : Int)) rfl (by omega)
                      obtain ⟨A3, hs3, hA3⟩ := run_piece (P := Try.prog) Try.underlying22 Try.sizeOf3 ba 0 xs.length xs.length mid to (by omega) (by omega) ((f : Int) + (wd : Int)) ((f : Int) + 2 * (wd : Int)) (by omega) (by omega)
                      obtain rfl := hA1 hlf
                      obtain rfl := hA2 hlf
                      rw [Nat.zero_add] at hs1 hs2 hA3
                      have hv3 : ViewN wr.drew ba A3 (seg L mid to) := by
                        by_cases hmt : mid < to
                        · exact .inr ⟨mid, hA3 (by omega), seg_row hrA (by rw [HL.out]; omega) (by omega)⟩
                        · left; rw [show to = mid by omega]; exact seg_nil L mid
                      have hcall := join_calls W3 (w.heap.size + 1 + 1) xs.length 24 _ (bhOf c xs) Try.call24 HBEH.out H bo f (xs.length - f) hbo ba hab (some ⟨ba, f, none⟩) A3 (xs.length - f) (xs.length - mid) (seg Y f to) (seg L f mid) (seg L mid to) wr.drew
                        (bl2 hbq) (seg_row HRY.out (by rw [HY.out]; omega) (by omega)) (.inr ⟨f, rfl, seg_row hrA (by rw [HL.out]; omega) (by omega)⟩) hv3
                        (by rw [HLS1.out, HLS2.out, HLS3.out]; omega) (by rw [HLS1.out]; omega) (by rw [HLS2.out]; omega) (by rw [HLS3.out]; omega) (by rw [HLS1.out]; omega) HTR.out.2.2.2.1 (by omega) HTR.out.1 HTR.out.2.1 HTR.out.2.2.1
                      rw [HLS1.out, HLS2.out, HLS3.out] at hcall
                      have HCALL := Lib.hid hcall
                      have HMID := Lib.hid hmid
                      have HTO := Lib.hid hto
                      clear hmid hto hA1 hA2 hA3 hv3 hcall
                      go_wp2_with fail
                      go_still_tail 13, (by kernel_rfl)
                      change wpList _ _ _ _ _ wr.drew
                      go_wp2_with fail
                      refine HCALL.out.mono ?_
                      rintro e1 w' ⟨rfl, hw2, ms, hms, hp, hs⟩
                      have hw3 : Wrote wr.drew w' bo f to := hw2.wide (Nat.le_refl _) (by omega)
                      have hfin := merge_done xs.length wd j f to Y ms HY.out HSY.out HFJ.out hlf HTO.out hw8 (hp.trans HTR.out.2.2.2.2) hs
                      have hrow := HRY.out.splice (w := wr.drew) hw3 hms (by rw [hp.length_eq, HTR.out.2.2.2.2.length_eq]; simp) (by omega) (by rw [HY.out]; omega)
                      have hwz : Wrote wo w' bo 0 xs.length := hwq.drew.trans (hw3.wide (by omega) (by omega))
                      have HFIN := Lib.hid hfin
                      have HROW := Lib.hid hrow
                      clear hfin hrow hms hp hs hw2
                      go_wp2_with fail
                      go_roundw
                      case measure => simp [intOf]; omega
                      case rel => exact ⟨j + 1, f + 2 * wd, _, by go_num, Lib.hid (by have := HFJ.out; rw [Nat.add_mul, Nat.one_mul]; omega), by omega, Lib.hid HFIN.out.1, Lib.hid HFIN.out.2, HROW, hwz⟩
                    · by_cases h2 : f + wd ≤ xs.length
                      · have g1 : f < xs.length := hlf
                        obtain ⟨A1, hs1, hA1⟩ := run_piece (P := Try.prog) Try.underlying22 Try.sizeOf3 bo 0 xs.length xs.length f to (by omega) (by omega) ((f : Int)) ((xs.length : Int)) rfl (by omega)
                        obtain ⟨A2, hs2, hA2⟩ := run_piece (P := Try.prog) Try.underlying22 Try.sizeOf3 ba 0 xs.length xs.length f mid (by omega) (by omega) ((f : Int)) ((f : Int) + (wd : Int)) rfl (by omega)
                        obtain ⟨A3, hs3, hA3⟩ := run_piece (P := Try.prog) Try.underlying22 Try.sizeOf3 ba 0 xs.length xs.length mid to (by omega) (by omega) ((f : Int) + (wd : Int)) ((xs.length : Int)) (by omega) (by omega)
                        obtain rfl := hA1 hlf
                        obtain rfl := hA2 hlf
                        rw [Nat.zero_add] at hs1 hs2 hA3
                        have hv3 : ViewN wr.drew ba A3 (seg L mid to) := by
                          by_cases hmt : mid < to
                          · exact .inr ⟨mid, hA3 (by omega), seg_row hrA (by rw [HL.out]; omega) (by omega)⟩
                          · left; rw [show to = mid by omega]; exact seg_nil L mid
                        have hcall := join_calls W3 (w.heap.size + 1 + 1) xs.length 24 _ (bhOf c xs) Try.call24 HBEH.out H bo f (xs.length - f) hbo ba hab (some ⟨ba, f, none⟩) A3 (xs.length - f) (xs.length - mid) (seg Y f to) (seg L f mid) (seg L mid to) wr.drew
                          (bl2 hbq) (seg_row HRY.out (by rw [HY.out]; omega) (by omega)) (.inr ⟨f, rfl, seg_row hrA (by rw [HL.out]; omega) (by omega)⟩) hv3
                          (by rw [HLS1.out, HLS2.out, HLS3.out]; omega) (by rw [HLS1.out]; omega) (by rw [HLS2.out]; omega) (by rw [HLS3.out]; omega) (by rw [HLS1.out]; omega) HTR.out.2.2.2.1 (by omega) HTR.out.1 HTR.out.2.1 HTR.out.2.2.1
                        rw [HLS1.out, HLS2.out, HLS3.out] at hcall
                        have HCALL := Lib.hid hcall
                        have HMID := Lib.hid hmid
                        have HTO := Lib.hid hto
                        clear hmid hto hA1 hA2 hA3 hv3 hcall
                        go_wp2_with fail
                        go_still_tail 13, (by kernel_rfl)
                        change wpList _ _ _ _ _ wr.drew
                        go_wp2_with fail
                        refine HCALL.out.mono ?_
                        rintro e1 w' ⟨rfl, hw2, ms, hms, hp, hs⟩
                        have hw3 : Wrote wr.drew w' bo f to := hw2.wide (Nat.le_refl _) (by omega)
                        have hfin := merge_done xs.length wd j f to Y ms HY.out HSY.out HFJ.out hlf HTO.out hw8 (hp.trans HTR.out.2.2.2.2) hs
                        have hrow := HRY.out.splice (w := wr.drew) hw3 hms (by rw [hp.length_eq, HTR.out.2.2.2.2.length_eq]; simp) (by omega) (by rw [HY.out]; omega)
                        have hwz : Wrote wo w' bo 0 xs.length := hwq.drew.trans (hw3.wide (by omega) (by omega))
                        have HFIN := Lib.hid hfin
                        have HROW := Lib.hid hrow
                        clear hfin hrow hms hp hs hw2
                        go_wp2_with fail
                        go_roundw
                        case measure => simp [intOf]; omega
                        case rel => exact ⟨j + 1, f + 2 * wd, _, by go_num, Lib.hid (by have := HFJ.out; rw [Nat.add_mul, Nat.one_mul]; omega), by omega, Lib.hid HFIN.out.1, Lib.hid HFIN.out.2, HROW, hwz⟩
                      · have g1 : f < xs.length := hlf
                        obtain ⟨A1, hs1, hA1⟩ := run_piece (P := Try.prog) Try.underlying22 Try.sizeOf3 bo 0 xs.length xs.length f to (by omega) (by omega) ((f : Int)) ((xs.length : Int)) rfl (by omega)
                        obtain ⟨A2, hs2, hA2⟩ := run_piece (P := Try.prog) Try.underlying22 Try.sizeOf3 ba 0 xs.length xs.length f mid (by omega) (by omega) ((f : Int)) ((xs.length : Int)) rfl (by omega)
                        obtain ⟨A3, hs3, hA3⟩ := run_piece (P := Try.prog) Try.underlying22 Try.sizeOf3 ba 0 xs.length xs.length mid to (by omega) (by omega) ((xs.length : Int)) ((xs.length : Int)) (by omega) (by omega)
                        obtain rfl := hA1 hlf
                        obtain rfl := hA2 hlf
                        rw [Nat.zero_add] at hs1 hs2 hA3
                        have hv3 : ViewN wr.drew ba A3 (seg L mid to) := by
                          by_cases hmt : mid < to
                          · exact .inr ⟨mid, hA3 (by omega), seg_row hrA (by rw [HL.out]; omega) (by omega)⟩
                          · left; rw [show to = mid by omega]; exact seg_nil L mid
                        have hcall := join_calls W3 (w.heap.size + 1 + 1) xs.length 24 _ (bhOf c xs) Try.call24 HBEH.out H bo f (xs.length - f) hbo ba hab (some ⟨ba, f, none⟩) A3 (xs.length - f) (xs.length - mid) (seg Y f to) (seg L f mid) (seg L mid to) wr.drew
                          (bl2 hbq) (seg_row HRY.out (by rw [HY.out]; omega) (by omega)) (.inr ⟨f, rfl, seg_row hrA (by rw [HL.out]; omega) (by omega)⟩) hv3
                          (by rw [HLS1.out, HLS2.out, HLS3.out]; omega) (by rw [HLS1.out]; omega) (by rw [HLS2.out]; omega) (by rw [HLS3.out]; omega) (by rw [HLS1.out]; omega) HTR.out.2.2.2.1 (by omega) HTR.out.1 HTR.out.2.1 HTR.out.2.2.1
                        rw [HLS1.out, HLS2.out, HLS3.out] at hcall
                        have HCALL := Lib.hid hcall
                        have HMID := Lib.hid hmid
                        have HTO := Lib.hid hto
                        clear hmid hto hA1 hA2 hA3 hv3 hcall
                        go_wp2_with fail
                        go_still_tail 13, (by kernel_rfl)
                        change wpList _ _ _ _ _ wr.drew
                        go_wp2_with fail
                        refine HCALL.out.mono ?_
                        rintro e1 w' ⟨rfl, hw2, ms, hms, hp, hs⟩
                        have hw3 : Wrote wr.drew w' bo f to := hw2.wide (Nat.le_refl _) (by omega)
                        have hfin := merge_done xs.length wd j f to Y ms HY.out HSY.out HFJ.out hlf HTO.out hw8 (hp.trans HTR.out.2.2.2.2) hs
                        have hrow := HRY.out.splice (w := wr.drew) hw3 hms (by rw [hp.length_eq, HTR.out.2.2.2.2.length_eq]; simp) (by omega) (by rw [HY.out]; omega)
                        have hwz : Wrote wo w' bo 0 xs.length := hwq.drew.trans (hw3.wide (by omega) (by omega))
                        have HFIN := Lib.hid hfin
                        have HROW := Lib.hid hrow
                        clear hfin hrow hms hp hs hw2
                        go_wp2_with fail
                        go_roundw
                        case measure => simp [intOf]; omega
                        case rel => exact ⟨j + 1, f + 2 * wd, _, by go_num, Lib.hid (by have := HFJ.out; rw [Nat.add_mul, Nat.one_mul]; omega), by omega, Lib.hid HFIN.out.1, Lib.hid HFIN.out.2, HROW, hwz⟩
                  · go_wp2_with fail
                    have hlast : ∀ i, i * (2 * wd) < xs.length → SS (bhOf c xs) Y (i * (2 * wd)) (min (i * (2 * wd) + 2 * wd) xs.length) := fun i hi => by
                      refine HSY.out i ?_
                      have := HFJ.out
                      rcases Nat.lt_or_ge i j with h | h
                      · exact h
                      · have := Nat.mul_le_mul_right (2 * wd) h; omega
                    have HLAST := Lib.hid hlast
                    clear hlast
                    go_roundw
                    case measure => simp [intOf]; omega
                    case rel => exact ⟨2 * wd, bo, ba, Y, L, rfl, rfl, by go_num, by omega, by omega, Ne.symm hab, hbo, hba, HY, HL, HLAST, HRY, Lib.hid (HRA.out.other hwq hab), Lib.hid (HB5.out.trans (hwq.below hbo)), Lib.hid (HBW.out.trans (hwq.below (by omega)))⟩
              · have hall : (∀ i, i * wd < xs.length → SS (bhOf c xs) L (i * wd) (min (i * wd + wd) xs.length)) → L.Perm (List.range xs.length) ∧ L.Pairwise (Ahead (bhOf c xs)) := fun h => by
                  by_cases hn0 : xs.length = 0
                  · have : L = [] := List.eq_nil_of_length_eq_zero (by rw [HL.out]; exact hn0)
                    subst this
                    rw [hn0]
                    exact ⟨by simp, List.Pairwise.nil⟩
                  · have := h 0 (by omega)
                    rw [Nat.zero_mul, Nat.zero_add, show min wd xs.length = xs.length by omega] at this
                    have e1 : seg L 0 xs.length = L := by unfold seg; rw [List.drop_zero, List.take_of_length_le (by rw [HL.out]; omega)]
                    unfold SS at this
                    rw [e1, Nat.sub_zero, ← List.range_eq_range'] at this
                    exact this
                have HALL := Lib.hid (hall HSS.out)
                clear hall
                go_wp2_with fail
                go_ret
                exact ⟨ba, L, by omega, by rw [HL.out]; rfl, HRA.out, HALL.out.1, HALL.out.2, HBW.out⟩
end Go.Proofs.Yteppcfikalonbaa.Ord
