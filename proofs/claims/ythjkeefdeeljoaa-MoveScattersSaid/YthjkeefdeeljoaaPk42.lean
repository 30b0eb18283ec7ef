/- buf: room, Copy, Clone. -/
import Derived.Test.YthjkeefdeeljoaaPk36
import Derived.Test.YthjkeefdeeljoaaPk41
import Derived.Laws.IdiomCopy
import Derived.Shelf.Spec.SlicesInsert
namespace Go.Proofs.Ythjkeefdeeljoaa.Cl
open Go.RowKit Go.Proofs.Ythjkeefdeeljoaa.Bt
set_option linter.unusedVariables false
set_option linter.unusedSimpArgs false

theorem room_yes (T g c : Nat) (vs : Array Value) (M mg mc : Nat) (mcs : Array Value) (W : List Nat) (l : List Cell) (f n : Nat) (w : World) (h : BufW w T g c vs M mg mc mcs W l) (hf : f + n ≤ l.length) : Calls Try.prog 121 #[.pointer (some ⟨T, 0, none⟩), .int .i64 (f : Nat), .int .i64 (n : Nat)] w fun e w' => e = .returned (.bool true) ∧ w = w' := by
  have HL := Lib.hid (blen_calls T g c vs M mg mc mcs W l w h)
  have hsm := h.small
  obtain ⟨N, hN⟩ : ∃ N, l.length = N := ⟨_, rfl⟩
  rw [hN] at HL hf hsm
  obtain ⟨q, hq⟩ : ∃ q : Nat, N - n = q := ⟨_, rfl⟩
  have h1 : (N : Int) - (n : Int) = (q : Int) := by omega
  have hw : IntKind.i64.wrap (q : Int) = (q : Int) := by rw [IntKind.wrap_i64]; omega
  have h2 : (n : Int) ≤ (N : Int) := by omega
  have h3 : (f : Int) ≤ (q : Int) := by omega
  clear h hN hq hf
  go_enter Try.func121, Try.ntmps121
  go_wp2_with fail
  refine HL.out.mono ?_
  rintro e w' ⟨rfl, rfl⟩
  go_wp2_with fail
  refine HL.out.mono ?_
  rintro e w' ⟨rfl, rfl⟩
  go_wp2_with fail
  go_ret
  exact ⟨rfl, rfl⟩
theorem info_i64 : (Try.prog.info? 2).map (fun i => (i.zero, i.size, i.bytes)) = some (some (.int .i64 0), 1, 8) := by kernel_rfl
theorem ints_one (L : List Int) : ∀ u ∈ L.map (Value.int .i64), u.oneCell' = true := fun u hu => by
  obtain ⟨x, _, rfl⟩ := List.mem_map.1 hu
  rfl
theorem vclone_calls (g o c : Nat) (L : List Int) (w : World) (hs : Shows w (some ⟨g, o, none⟩) (L.map (Value.int .i64))) (hl : L.length ≤ 10000000) : Calls Try.prog 122 #[.slice (some ⟨g, o, none⟩) L.length c] w fun e w' => ∃ g' c' cs', e = .returned (.slice (some ⟨g', 0, none⟩) L.length c') ∧ Blk w' g' 2 cs' ∧ (∀ i, i < L.length → cs'[i]? = some (.int .i64 (nth L i))) ∧ w.heap.size ≤ g' ∧ Below w.heap.size w w' := by
  have hq := fun w => Lib.run_eql_slice_nil (P := Try.prog) w 139 2 (some ⟨g, o, none⟩) L.length c 0 0 Try.underlying139
  have hown : (w.alloc (.cells #[] 2)).ownsRow w.heap.size 2 1 (.slice (some ⟨w.heap.size, 0, none⟩) 0 0) 0 [] := World.ownsRow_lit w #[] 0 (Nat.le_refl _) (by simp) (by simp)
  have HOW := Lib.hid hown
  have HSH := Lib.hid (hs.below (bl_alloc (Below.refl w.heap.size w) (.cells #[] 2)))
  have HB := Lib.hid (bl_alloc (Below.refl w.heap.size w) (.cells #[] 2))
  have hz : w.heap.size ≤ (w.alloc (.cells #[] 2)).heap.size := by simp
  clear hs hown
  go_enter Try.func122, Try.ntmps122
  go_wp2_with (at_builtin; go_must (refine wpList_app rfl (.tmp 5) (.tmp 6) 139 rfl 2 w.heap.size (.int .i64 0) 1 8 Try.underlying139 info_i64 rfl (by decide) (.slice (some ⟨w.heap.size, 0, none⟩) 0 0) 0 [] rfl HOW.out (some ⟨g, o, none⟩) L.length c (L.map (Value.int .i64)) rfl (by simp) HSH.out (ints_one L) (by simp only [maxLen]; omega) (by omega) hz ?_); intro v1 w1 hown1 hg1 hb1)
  go_ret
  rw [Nat.zero_add, List.nil_append] at hown1
  rcases hown1.2 with ⟨rfl, h0⟩ | ⟨g', cap, cur, rfl, hbase, hh, hnc, hcm, hcs, htk⟩
  · rcases hb1 with h | h <;> simp [Value.ownBlock] at h
  · refine ⟨g', cap, cur, rfl, hh, fun i hi => ?_, hbase, bl_grown HB.out hg1 (fun k hk => by simp [Value.ownBlock] at hk; omega)⟩
    have h1 := congrArg (fun l => l[i]?) htk
    simp only [Nat.mul_one, List.getElem?_take, if_pos hi, List.getElem?_map, Array.getElem?_toList] at h1
    rw [h1, List.getElem?_eq_getElem hi, nth_eq _ _ hi]
    rfl
/-- x[lo:], whatever the capacity. -/
theorem run_from {P : Program} {T E : TypeId} (hT : P.underlying T = some (.slice E)) (hs : ∀ w, (sizeOf E).run P w = .ok 1 w) (b o n c lo : Nat) (h1 : lo ≤ n) (h2 : n ≤ c) (i : Int) (hi' : i = lo) :
    ∃ A, (∀ w, (Instr.slice T (.slice (some ⟨b, o, none⟩) n c) (some (.int .i64 i)) none none).run P w = .ok (.slice A (n - lo) (c - lo)) w) ∧ (lo < c → A = some ⟨b, o + lo, none⟩) := by
  subst hi'
  refine ⟨(if c = lo then some ⟨b, o, none⟩ else some ⟨b, o + lo, none⟩), fun w => ?_, fun h => by rw [if_neg (by omega)]⟩
  have hb2 : ((n : Int) ≤ (c : Int)) := by omega
  simp [Instr.slice, run_underlying hT, Instr.sliceBounds, run_sliceBound, hs, hb2, h1]
  by_cases hc : c = lo
  · simp [hc]
  · simp only [hc, if_false]
    by_cases h0 : lo = 0
    · subst h0; simp [Addr.add]
    · simp [Addr.add, h0]
theorem blk_setCells {g : Nat} {t : TypeId} : ∀ (vs : List Value) (o : Nat) (w : World) (cs : Array Value), Blk w g t cs → o + vs.length ≤ cs.size → ∃ cs', Blk (w.setCells g o vs) g t cs' ∧ cs'.size = cs.size ∧ ∀ i, cs'[i]? = if o ≤ i ∧ i < o + vs.length then vs[i - o]? else cs[i]?
  | [], o, w, cs, h, _ => ⟨cs, h, rfl, fun i => by rw [if_neg (by simp <;> omega)]⟩
  | v :: vs, o, w, cs, h, hl => by
    simp only [List.length_cons] at hl
    obtain ⟨cs', h1, h2, h3⟩ := blk_setCells vs (o + 1) (w.setCell ⟨g, o, none⟩ v) (cs.setIfInBounds o v) (h.set o v) (by simp; omega)
    refine ⟨cs', h1, by rw [h2]; simp, fun i => ?_⟩
    rw [h3 i]
    by_cases c1 : o + 1 ≤ i ∧ i < o + 1 + vs.length
    · rw [if_pos c1, if_pos (by simp only [List.length_cons]; omega), show i - o = (i - (o + 1)) + 1 by omega, List.getElem?_cons_succ]
    · rw [if_neg c1]
      by_cases c2 : i = o
      · subst c2
        rw [if_pos (by simp only [List.length_cons]; omega), Nat.sub_self, List.getElem?_cons_zero, Array.getElem?_setIfInBounds_self_of_lt (by omega)]
      · rw [if_neg (by simp only [List.length_cons]; omega), Array.getElem?_setIfInBounds_ne (by omega)]
theorem setCells_only {g : Nat} (vs : List Value) (o : Nat) (w : World) : Only g w (w.setCells g o vs) := by
  suffices h : ∀ (vs : List Value) (o : Nat) (W : World), Only g w W → Only g w (W.setCells g o vs) from h vs o w (Only.refl _ _)
  intro vs
  induction vs with
  | nil => intro o W h; exact h
  | cons v vs ih => intro o W h; exact ih (o + 1) _ (h.set (p := ⟨g, o, none⟩) (.inl rfl) v)
/-- Truths, copied so far. -/
def copyB (m th : List Bool) (p k : Nat) : List Bool := m.take p ++ (th.take k ++ m.drop (p + k))
theorem copyB_length (m th : List Bool) (p k : Nat) (h : p + k ≤ m.length) (hk : k ≤ th.length) : (copyB m th p k).length = m.length := by simp [copyB]; omega
theorem copyB_set (m th : List Bool) (p k : Nat) (h : p + k < m.length) (hk : k < th.length) : (copyB m th p k).set (p + k) (nth th k) = copyB m th p (k + 1) := by
  unfold copyB
  rw [List.set_append_right _ _ (by simp; omega), List.set_append_right _ _ (by simp; omega)]
  have e : p + k - (m.take p).length - (th.take k).length = 0 := by simp; omega
  rw [e, take_nth th k hk, show m.drop (p + k) = m[p + k] :: m.drop (p + (k + 1)) by rw [List.drop_eq_getElem_cons h]; rfl, List.set_cons_zero]
  simp
/-- What stands behind a copy. -/
def copyC (l1 l2 : List Cell) (at_ from_ n : Nat) : List Cell := l1.take at_ ++ ((l2.drop from_).take n ++ l1.drop (at_ + n))
theorem copyC_length (l l2 : List Cell) (p f n : Nat) (hp : p + n ≤ l.length) (hf : f + n ≤ l2.length) : (copyC l l2 p f n).length = l.length := by simp [copyC]; omega
theorem copyC_nth (l l2 : List Cell) (p f n i : Nat) (hp : p + n ≤ l.length) (hf : f + n ≤ l2.length) (hi : i < l.length) : nth (copyC l l2 p f n) i = if p ≤ i ∧ i < p + n then nth l2 (f + (i - p)) else nth l i := by
  rw [nth_eq _ _ (by rw [copyC_length l l2 p f n hp hf]; exact hi)]
  unfold copyC
  have e1 : (l.take p).length = p := by simp; omega
  have e2 : ((l2.drop f).take n).length = n := by simp; omega
  by_cases c1 : i < p
  · rw [List.getElem_append_left (by omega), if_neg (by omega), nth_eq _ _ hi, List.getElem_take]
  · rw [List.getElem_append_right (by omega)]
    by_cases c2 : i < p + n
    · rw [List.getElem_append_left (by omega), if_pos ⟨by omega, c2⟩, nth_eq _ _ (by omega), List.getElem_take, List.getElem_drop]
      congr 1
      omega
    · rw [List.getElem_append_right (by omega), if_neg (by omega), nth_eq _ _ hi, List.getElem_drop]
      congr 1
      omega
theorem copyC_map (l l2 : List Cell) (p f n : Nat) : (copyC l l2 p f n).map (·.2) = copyB (l.map (·.2)) (((l2.drop f).take n).map (·.2)) p n := by
  unfold copyC copyB
  rw [List.map_append, List.map_append, List.map_take, List.map_drop]
  congr 2
  simp [List.take_take]
theorem info_bl : (Try.prog.info? 4).map (fun i => (i.zero, i.size, i.bytes)) = some (some (.bool false), 1, 1) := by kernel_rfl
set_option maxRecDepth 100000 in
set_option maxHeartbeats 2000000 in
theorem bcopy_calls (T g c : Nat) (vs : Array Value) (M mg mc : Nat) (mcs : Array Value) (W : List Nat) (l : List Cell) (T2 g2 c2 : Nat) (vs2 : Array Value) (M2 mg2 mc2 : Nat) (mcs2 : Array Value) (W2 : List Nat) (l2 : List Cell) (p f n : Nat) (w : World) (h : BufW w T g c vs M mg mc mcs W l) (h2 : BufW w T2 g2 c2 vs2 M2 mg2 mc2 mcs2 W2 l2) (hp : p + n ≤ l.length) (hf : f + n ≤ l2.length) (hn : 1 ≤ n) :
    Calls Try.prog 87 #[.pointer (some ⟨T, 0, none⟩), .int .i64 (p : Nat), .pointer (some ⟨T2, 0, none⟩), .int .i64 (f : Nat), .int .i64 (n : Nat)] w fun e w' => e = .returned (.bool true) ∧ (∃ vs' mcs' W', BufW w' T g c vs' M mg mc mcs' W' (copyC l l2 p f n)) ∧ Only2 g mg w w' := by
  have HR1 := Lib.hid (room_yes T g c vs M mg mc mcs W l p n w h hp)
  have HR2 := Lib.hid (room_yes T2 g2 c2 vs2 M2 mg2 mc2 mcs2 W2 l2 f n w h2 hf)
  have HH := Lib.hid h
  have HH2 := Lib.hid h2
  obtain ⟨t0, t1⟩ := h2.tops
  obtain ⟨q, hq⟩ : ∃ q : Nat, f + n = q := ⟨_, rfl⟩
  have h1 : (f : Int) + (n : Int) = (q : Int) := by omega
  have hw : IntKind.i64.wrap (q : Int) = (q : Int) := by have := h2.small; rw [IntKind.wrap_i64]; omega
  have hc2 := h2.cap
  have hn9 : n ≤ 1048576 := by have := h2.small; omega
  have hc := h.cap
  obtain ⟨A, hA1, hA2⟩ := run_piece (P := Try.prog) Try.underlying139 Try.sizeOf2 g2 0 l2.length c2 f q (by omega) (by omega) (f : Int) (q : Int) rfl rfl
  have hA3 := hA2 (by omega)
  rw [Nat.zero_add] at hA3
  subst hA3
  rw [show q - f = n by omega] at hA1
  obtain ⟨L, hL⟩ : ∃ L, L = ((l2.drop f).take n).map (·.1) := ⟨_, rfl⟩
  have hLn : L.length = n := by rw [hL]; simp; omega
  have hLi : ∀ i, i < n → nth L i = (nth l2 (f + i)).1 := fun i hi => by
    rw [hL, nth_eq _ _ (by simp; omega), nth_eq _ _ (by omega)]; simp
  have hsh : Shows w (some ⟨g2, f, none⟩) (L.map (Value.int .i64)) := fun i v hv => by
    rw [List.getElem?_map] at hv
    obtain ⟨x, hx, rfl⟩ := Option.map_eq_some_iff.1 hv
    have hi : i < n := by have := (List.getElem?_eq_some_iff.1 hx).1; omega
    have e : nth L i = x := by rw [nth_eq _ _ (by omega)]; exact (List.getElem?_eq_some_iff.1 hx).2
    refine ⟨g2, f, rfl, ?_⟩
    rw [(h2.val (f + i) (by omega)).1, ← hLi i hi, e]
  have HVC := vclone_calls g2 f (c2 - f) L w hsh (by have := h2.small; omega)
  rw [hLn] at HVC
  have HVC := Lib.hid HVC
  have HLN := Lib.hid hLn
  have HLI := Lib.hid hLi
  have HLL := Lib.hid hL
  clear hsh hLi hLn hL
  have HN := Lib.hid hn
  have hn0 : ((n : Int) == 0) = false := by simp; omega
  clear h h2 hn hA2
  go_enter Try.func87, Try.ntmps87
  go_wp2_with fail
  refine HR1.out.mono ?_
  rintro e w' ⟨rfl, rfl⟩
  go_wp2_with fail
  refine HR2.out.mono ?_
  rintro e w' ⟨rfl, rfl⟩
  go_wp2_with fail
  refine HVC.out.mono ?_
  rintro e w1 ⟨G, cG, csG, rfl, hG, hGc, hGn, hB1⟩
  have HG := Lib.hid hG
  have HGC := Lib.hid hGc
  have HGN := Lib.hid hGn
  have HB1 := Lib.hid hB1
  have HD1 := Lib.hid (HH.out.below hB1)
  have HS1 := Lib.hid (HH2.out.below hB1)
  clear hG hGc hGn hB1 HVC t0 t1 hA1
  go_wp2_with fail
  go_loopw [12, 13, 41] (fun t12 _ t41 wr => ∃ (k : Nat) (v : Value), v = t12 ∧ t41 = .int .i64 k ∧ k ≤ n ∧ Hid (wr.ownsRow w1.heap.size 4 1 v k (((l2.drop f).take k).map fun x => Value.bool x.2)) ∧ Hid (Below w1.heap.size w1 wr)) (fun _ _ i _ => n - (intOf i).toNat)
  case atStart => exact ⟨0, _, rfl, rfl, Nat.zero_le _, Lib.hid ⟨by simp, .inl ⟨rfl, rfl⟩⟩, Lib.hid (Below.refl _ _)⟩
  case round =>
    obtain ⟨k, v, rfl, rfl, hk, HO, HB⟩ := hrel
    by_cases hlt : k < n
    · have hkn : (k : Int) < (n : Int) := by omega
      obtain ⟨t0, t1⟩ := (HS1.out.below HB.out).tops
      obtain ⟨j, hj⟩ : ∃ j, f + k = j := ⟨_, rfl⟩
      have hji : (f : Int) + (k : Int) = (j : Int) := by omega
      have hjw : IntKind.i64.wrap (j : Int) = (j : Int) := by have := HH2.out.small; rw [IntKind.wrap_i64]; omega
      have hG := get_calls M2 mg2 mc2 mcs2 W2 (l2.map (·.2)) (j : Int) wr (HS1.out.below HB.out).mask
      have e1 : tr (l2.map (·.2)) (j : Int).toNat = (nth l2 j).2 := by
        rw [Int.toNat_natCast, tr_lt (by simp; omega), nth_eq _ _ (by simp; omega), nth_eq _ _ (by omega)]; simp
      rw [decide_eq_true (p := 0 ≤ (j : Int) ∧ (j : Int) < ((l2.map (·.2)).length : Int)) (by simp; omega), e1, Bool.true_and] at hG
      have hT : (l2.drop f).take (k + 1) = (l2.drop f).take k ++ [nth l2 j] := by
        rw [take_nth (l2.drop f) k (by simp; omega)]
        congr 2
        rw [nth_eq _ _ (by simp; omega), nth_eq _ _ (by omega), List.getElem_drop]
        simp only [hj]
      obtain ⟨x, hx⟩ : ∃ x, nth l2 j = x := ⟨_, rfl⟩
      rw [hx] at hG hT
      have HG2 := Lib.hid hG
      have HT := Lib.hid hT
      have hsz := HB.out.size
      clear hG hT e1 hx hj
      go_wp2_with fail
      refine HG2.out.mono ?_
      rintro e w' ⟨rfl, rfl⟩
      go_wp2_with (at_builtin; go_must (refine app_row (w0 := w1) w1.heap.size rfl (.tmp 44) (.tmp 54) 80 4 (.bool false) 1 1 rfl Try.underlying80 info_bl rfl (by decide) v k _ #[.bool x.2] rfl rfl rfl (by simp [Value.oneCell']) HO.out HB.out hsz (by omega) (by omega) ?_); intro v1 w2 hown1 hB2 hg1 hsz1; have HOWN1 := Lib.hid hown1; have HB2 := Lib.hid hB2; clear hown1 hB2 hg1 hsz1)
      go_roundw
      case measure => first | (simp [intOf]; done) | (simp [intOf]; omega)
      case rel => exact ⟨k + 1, v1, rfl, by go_num, by omega, Lib.hid (by rw [HT.out]; simpa using HOWN1.out), HB2⟩
    · obtain rfl : k = n := by omega
      have hk1 := HN.out
      have hDr := HD1.out.below HB.out
      have hGr := HG.out.below' HB.out
      obtain ⟨t0, t1⟩ := hDr.tops
      obtain ⟨A, hA1, hA2⟩ := run_from (P := Try.prog) Try.underlying139 Try.sizeOf2 g 0 l.length c p (by omega) hc (p : Int) rfl
      have hA3 := hA2 (by omega)
      rw [Nat.zero_add] at hA3
      subst hA3
      obtain ⟨Av, cv, rfl⟩ : ∃ Av cv, v = .slice Av k cv := by
        rcases HO.out.2 with ⟨rfl, h0⟩ | ⟨g', cap, cur, rfl, _⟩
        · exact ⟨none, 0, by rw [h0]⟩
        · exact ⟨_, _, rfl⟩
      have hcp : ∀ ty, (Builtin.copy_ #[139, 139] ty #[.slice (some ⟨g, p, none⟩) (l.length - p) (c - p), .slice (some ⟨G, 0, none⟩) k cG]).run Try.prog wr = .ok (goInt k) (wr.setCells g p (L.map (Value.int .i64))) := fun ty => by
        have := run_copy_cells (P := Try.prog) wr 139 139 ty 2 g p (l.length - p) (c - p) ⟨G, 0, none⟩ k cG (L.map (Value.int .i64)) Try.underlying139 (by kernel_rfl) (by rw [List.length_map, HLN.out]; simp only [Nat.min_def]; split <;> omega)
          (fun j v hj => by
            rw [List.getElem?_map] at hj
            obtain ⟨x, hx, rfl⟩ := Option.map_eq_some_iff.1 hj
            have hjk : j < k := by have := (List.getElem?_eq_some_iff.1 hx).1; have := HLN.out; omega
            rw [add_off, Nat.zero_add, hGr.cell, HGC.out j (by have := HLN.out; omega), nth_eq _ _ (by have := HLN.out; omega)]
            congr 2
            exact (List.getElem?_eq_some_iff.1 hx).2)
          (fun j hj => by rw [List.length_map, HLN.out] at hj; rw [(hDr.val (p + j) (by omega)).1]; rfl)
          (fun j hj => by rw [List.length_map, HLN.out] at hj; exact (hDr.val (p + j) (by omega)).2)
          (ints_one L)
        rw [List.length_map, HLN.out] at this
        exact this
      have HDR := Lib.hid hDr
      clear hDr hGr hA2
      go_wp2_with (at_builtin; go_must (refine Go.Proofs.wpList_copy_runI _ rfl _ _ 139 139 rfl _ _ rfl rfl (hcp _) ?_))
      obtain ⟨W3, hW3⟩ : ∃ W3, W3 = wr.setCells g p (L.map (Value.int .i64)) := ⟨_, rfl⟩
      have hO3 : Only g wr W3 := by rw [hW3]; exact setCells_only _ _ _
      have hvs : vs.size ≥ l.length := by
        rcases Nat.eq_zero_or_pos l.length with h | h
        · omega
        · have := (Array.getElem?_eq_some_iff.1 (HDR.out.cell (l.length - 1) (by omega))).1; omega
      obtain ⟨vs3, hr3, hz3, hv3⟩ : ∃ vs3, Blk W3 g 2 vs3 ∧ vs3.size = vs.size ∧ ∀ i, vs3[i]? = if p ≤ i ∧ i < p + k then (L.map (Value.int .i64))[i - p]? else vs[i]? := by
        rw [hW3]
        have h := blk_setCells (L.map (Value.int .i64)) p wr vs HDR.out.row (by rw [List.length_map, HLN.out]; omega)
        rw [List.length_map, HLN.out] at h
        exact h
      obtain ⟨q1, q2, q3, q4, q5, q6⟩ := HDR.out.apart
      have hbx3 : Blk W3 T 141 #[.pointer (some ⟨M, 0, none⟩), .slice (some ⟨g, 0, none⟩) l.length c] := hO3.blk HDR.out.box q1
      have hm3 : MaskW W3 M mg mc mcs W (l.map (·.2)) := ⟨HDR.out.mask.rep, hO3.blk HDR.out.mask.hT (Ne.symm q4), hO3.blk HDR.out.mask.hg (Ne.symm q5), HDR.out.mask.hc, HDR.out.mask.small⟩
      obtain ⟨th, hth⟩ : ∃ th, th = ((l2.drop f).take k).map (·.2) := ⟨_, rfl⟩
      have hthl : th.length = k := by rw [hth]; simp; omega
      have hown := HO.out
      have hsh : ∀ i, i < k → ∃ b off, Av = some ⟨b, off, none⟩ ∧ w1.heap.size ≤ b ∧ b < wr.heap.size ∧ wr.cell? ⟨b, off + i, none⟩ = some (.bool (nth th i)) := fun i hi => by
        obtain ⟨b, off, eA, hcl⟩ := (Shows.of_own (c := cv) hown) i (.bool (nth th i)) (by
          rw [nth_eq _ _ (by omega)]
          subst hth
          have hi2 : i < ((l2.drop f).take k).length := by simp; omega
          rw [List.getElem?_map, List.getElem?_eq_getElem hi2, List.getElem_map]
          rfl)
        have hlt := own_lt hown b (by rw [eA]; rfl)
        exact ⟨b, off, eA, hlt.1, hlt.2, hcl⟩
      have HSH := Lib.hid hsh
      have HR3 := Lib.hid hr3
      have HV3 := Lib.hid hv3
      have HBX3 := Lib.hid hbx3
      have HM3 := Lib.hid hm3
      have HTH := Lib.hid hth
      have HTHL := Lib.hid hthl
      have HO3 := Lib.hid hO3
      have HGL := Lib.hid (show g < w.heap.size ∧ mg < w.heap.size ∧ g ≠ mg from ⟨HH.out.row.lt, HH.out.mask.hg.lt, q5⟩)
      have hsz1 := HB1.out.size
      rw [← hW3]
      clear hown hsh hr3 hv3 hz3 hvs hbx3 hm3 hth hthl hO3 hW3 q1 q2 q3 q4 q5 q6 t0 t1 hA1 hcp
      go_loopw [14, 15, 67] (fun _ _ t67 wx => ∃ (j : Nat) (mcs' : Array Value) (W' : List Nat), t67 = .int .i64 j ∧ j ≤ k ∧ Hid (MaskW wx M mg mc mcs' W' (copyB (l.map (·.2)) th p j)) ∧ Hid (Keeps W3 wx) ∧ Hid (Only mg W3 wx)) (fun _ _ i _ => k - (intOf i).toNat)
      case atStart => exact ⟨0, mcs, W, rfl, Nat.zero_le _, Lib.hid (by simpa [copyB] using HM3.out), Lib.hid (Keeps.refl _), Lib.hid (Only.refl _ _)⟩
      case round =>
        obtain ⟨j, mcs', W', rfl, hj, HM, HK, HON⟩ := hrel
        have hbt := HK.out _ _ _ HBX3.out (by decide)
        have t0 : wr.cell? ⟨T, 0, none⟩ = some (.pointer (some ⟨M, 0, none⟩)) := hbt.cell 0
        by_cases hlt : j < k
        · have hjk : (j : Int) < (k : Int) := by omega
          obtain ⟨b, off, eA, hb1, hb2, hcl⟩ := HSH.out j hlt
          obtain ⟨gl1, gl2, gl3⟩ := HGL.out
          have hc1 : wr.cell? ⟨b, off + j, none⟩ = some (.bool (nth th j)) := by
            rw [World.cell?_of_block (HON.out.other b (Nat.lt_of_lt_of_le hb2 HO3.out.size) (by omega)), World.cell?_of_block (HO3.out.other b hb2 (by omega))]
            exact hcl
          subst eA
          obtain ⟨q, hq⟩ : ∃ q, p + j = q := ⟨_, rfl⟩
          have hqi : (p : Int) + (j : Int) = (q : Int) := by omega
          have hqw : IntKind.i64.wrap (q : Int) = (q : Int) := by have := HH.out.small; rw [IntKind.wrap_i64]; omega
          have hlen := copyB_length (l.map (·.2)) th p j (by simp; omega) (by have := HTHL.out; omega)
          have hset := copyB_set (l.map (·.2)) th p j (by simp; omega) (by have := HTHL.out; omega)
          obtain ⟨x, hx⟩ : ∃ x, nth th j = x := ⟨_, rfl⟩
          rw [hx] at hc1 hset
          rw [hq] at hset
          have HS := set_calls M mg mc mcs' W' (copyB (l.map (·.2)) th p j) (q : Int) x wr HM.out
          rw [decide_eq_true (p := 0 ≤ (q : Int) ∧ (q : Int) < ((copyB (l.map (·.2)) th p j).length : Int)) (by rw [hlen]; simp; omega)] at HS
          have HS := Lib.hid HS
          have HLEN := Lib.hid hlen
          have HSET := Lib.hid hset
          have HQ := Lib.hid hq
          clear hlen hset hx hq hcl hb1 hb2 gl1 gl2 gl3
          go_wp2_with fail
          refine HS.out.mono ?_
          rintro e w5 ⟨rfl, hM5, _, hK5, hO5⟩
          have HM5 := Lib.hid (hM5 (by rw [HLEN.out]; have := HQ.out; simp; omega))
          have HK5 := Lib.hid (HK.out.trans hK5)
          have HO5 := Lib.hid (HON.out.trans hO5)
          clear hM5 hK5 hO5
          go_wp2_with fail
          go_roundw
          case measure => first | (simp [intOf]; done) | (simp [intOf]; omega)
          case rel =>
            obtain ⟨cs', W'', h5⟩ := HM5.out
            rw [Int.toNat_natCast, HSET.out] at h5
            exact ⟨j + 1, cs', W'', by go_num, by omega, Lib.hid h5, HK5, HO5⟩
        · obtain rfl : j = k := by omega
          go_wp2_with fail
          go_ret
          refine ⟨rfl, ⟨_, mcs', W', ⟨?_, HK.out _ _ _ HR3.out (by decide), fun i hi => ?_, ?_, fun i hi => ?_, ?_, ?_⟩⟩, ?_⟩
          · rw [copyC_length l l2 p f j (by omega) (by omega)]; exact HK.out _ _ _ HBX3.out (by decide)
          · rw [copyC_length l l2 p f j (by omega) (by omega)] at hi
            rw [copyC_nth l l2 p f j i (by omega) (by omega) hi, HV3.out i]
            by_cases c1 : p ≤ i ∧ i < p + j
            · rw [if_pos c1, if_pos c1, List.getElem?_map, List.getElem?_eq_getElem (by have := HLN.out; omega), ← HLI.out (i - p) (by omega), nth_eq _ _ (by have := HLN.out; omega)]
              rfl
            · rw [if_neg c1, if_neg c1, HH.out.cell i hi]
          · rw [copyC_map, ← HTH.out]; exact HM.out
          · rw [copyC_length l l2 p f j (by omega) (by omega)] at hi
            rw [copyC_nth l l2 p f j i (by omega) (by omega) hi]
            by_cases c1 : p ≤ i ∧ i < p + j
            · rw [if_pos c1]; exact HH2.out.norm _ (by omega)
            · rw [if_neg c1]; exact HH.out.norm i hi
          · rw [copyC_length l l2 p f j (by omega) (by omega)]; exact HH.out.small
          · rw [copyC_length l l2 p f j (by omega) (by omega)]; exact HH.out.cap
          · exact ((((Only2.of_below HB1.out).trans (Only2.of_below HB.out)).trans (Only2.of_only' HO3.out)).trans (Only2.of_only HON.out))
end Go.Proofs.Ythjkeefdeeljoaa.Cl
