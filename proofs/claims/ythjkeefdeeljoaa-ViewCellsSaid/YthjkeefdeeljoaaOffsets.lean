/- The iterator over the places of a view's cells. -/
import Derived.Test.YthjkeefdeeljoaaOdo2
import Derived.Test.YthjkeefdeeljoaaPk5
namespace Go.Proofs.Ythjkeefdeeljoaa.Shp
open Go.RowKit Go.Shelf Go.Proofs.Ythjkeefdeeljoaa.Num
set_option linter.unusedVariables false
set_option linter.unusedSimpArgs false
attribute [local go_sem] Oper.semAt_some

/-- What a round must keep: the iterator's own blocks. -/
def KpG (G : Nat → Prop) (W W' : World) : Prop := (∀ b, G b → W'.heap[b]? = W.heap[b]?) ∧ W.heap.size ≤ W'.heap.size
theorem KpG.refl (G : Nat → Prop) (W : World) : KpG G W W := ⟨fun _ _ => rfl, Nat.le_refl _⟩
theorem KpG.trans {G : Nat → Prop} {X Y Z : World} (h : KpG G X Y) (k : KpG G Y Z) : KpG G X Z := ⟨fun b hb => (k.1 b hb).trans (h.1 b hb), Nat.le_trans h.2 k.2⟩
theorem KpG.put {G : Nat → Prop} (W : World) (l : Nat) (o' : Obj) (h : ∀ b, G b → l < b) : KpG G W (W.putObj l o') := ⟨fun b hb => World.putObj_heap_other (by have := h b hb; omega), by simp [World.putObj]⟩
theorem KpG.below {G : Nat → Prop} {W W' : World} (h : Below W.heap.size W W') (hG : ∀ b, G b → b < W.heap.size) : KpG G W W' := ⟨fun b hb => h.block b (hG b hb), h.size⟩
theorem KpG.set {G : Nat → Prop} {W : World} {p : Addr} (h : ¬ G p.block) (u : Value) : KpG G W (W.setCell p u) := ⟨fun b hb => Below.heap_setCell _ _ _ _ (fun e => h (by rw [← e]; exact hb)), by simp [World.setCell]⟩
theorem OdoN.same {g hi : Nat} {xs ys : List Int} {off0 : Int} {n m : Nat} {st : Bool} {w w' : World} (h : OdoN g hi xs ys off0 n m st w) (hs : ∀ b, g ≤ b → b < hi → w'.heap[b]? = w.heap[b]?) : OdoN g hi xs ys off0 n m st w' := by
  obtain ⟨A, ca, B, cb, p, h1, h2, h3, h4, h5, h6, h7⟩ := h
  refine ⟨A, ca, B, cb, p, (hs g (Nat.le_refl _) h6).trans h1, fun i hi' => ?_, fun i hi' => ?_, h4, h5, h6, h7⟩
  · obtain ⟨b, off, e, hc⟩ := h2 i hi'
    have := h4 b off e
    exact ⟨b, off, e, (World.cell?_of_block (hs b (by omega) (by omega))).trans hc⟩
  · obtain ⟨b, off, e, hc⟩ := h3 i hi'
    have := h5 b off e
    exact ⟨b, off, e, (World.cell?_of_block (hs b (by omega) (by omega))).trans hc⟩
/-- How many are to come, as the block tells. -/
def leftOf (w : World) (g : Nat) : Nat := match w.cell? ⟨g, 10, none⟩ with | some (.int _ k) => k.toNat | _ => 0
theorem OdoN.left {g hi : Nat} {xs ys : List Int} {off0 : Int} {n m : Nat} {st : Bool} {w : World} (h : OdoN g hi xs ys off0 n m st w) : leftOf w g = n - m := by
  obtain ⟨A, ca, B, cb, p, h1, _⟩ := h
  unfold leftOf
  rw [show w.cell? ⟨g, 10, none⟩ = some (.int .i64 ((n - m : Nat) : Int)) from h1.cell 10]
  simp
def okN : Value → Nat
  | .bool true => 1
  | _ => 0
/-- What stands in the loop's slots, m cells having been told. -/
def OffR (XS YS : List Int) (OFF : Int) (N g hi m : Nat) (t4 t5 : Value) (W : World) : Prop :=
  (m < N ∧ t4 = .int .i64 (plO XS YS OFF m) ∧ t5 = .bool true ∧ OdoN g hi XS YS OFF N (m + 1) true W) ∨ (m = N ∧ t4 = .int .i64 0 ∧ t5 = .bool false ∧ OdoN g hi XS YS OFF N N false W)
theorem next_any {g hi : Nat} {xs ys : List Int} {off0 : Int} {n m : Nat} {st : Bool} (w : World) (h : OdoN g hi xs ys off0 n m st w) (hv : m < n → vrB xs ys off0 = true ∧ (n : Int) ≤ prod xs) :
    Calls Try.prog 22 #[.pointer (some ⟨g, 0, none⟩)] w fun e w' => ∃ (a : Int) (b : Bool), e = .returned (.tuple #[.int .i64 a, .bool b]) ∧ Hid (OffR xs ys off0 n g hi m (.int .i64 a) (.bool b) w') ∧ Hid (Only g w w') := by
  have hmn : m ≤ n := by obtain ⟨A, ca, B, cb, p, h1, h2, h3, h4, h5, h6, h7, h8⟩ := h; exact h7
  by_cases hlt : m < n
  · refine (next_yes w h hlt (hv hlt).1 (hv hlt).2).mono ?_
    rintro e w' ⟨rfl, h1, h2⟩
    exact ⟨_, _, rfl, Lib.hid (.inl ⟨hlt, rfl, rfl, h1⟩), Lib.hid h2⟩
  · have : m = n := by omega
    refine (next_no w h this).mono ?_
    rintro e w' ⟨rfl, h1, h2⟩
    exact ⟨_, _, rfl, Lib.hid (.inr ⟨this, rfl, rfl, h1⟩), Lib.hid h2⟩

set_option maxRecDepth 100000 in
set_option maxHeartbeats 2000000 in
theorem offsets_in (n : Nat) (hn : 1 ≤ n) (xs ys : List Int) (off : Int) (A B : Option Addr) (ca cb q q2 Bv : Nat) (hq : xs.length = q) (hq2 : ys.length = q2) (hl : q ≤ 1000000) (hl2 : q2 ≤ 1000000)
    (XS YS : List Int) (OFF : Int) (N : Nat) (hXS : XS = shpN xs ys off) (hYS : YS = strN xs ys off) (hOFF : OFF = offN xs ys off) (hN : N = cellsN xs ys off)
    (l : Nat) (J Jx : (Nat → Prop) → Nat → World → Prop) (W : World) (hbv : Blk W Bv 34 #[.slice A q ca, .slice B q2 cb, .int .i64 off]) (hx : ReadsI W .i64 A xs) (hy : ReadsI W .i64 B ys)
    (hJ : ∀ G k A B, (∀ b, G b → W.heap.size ≤ b) → J G k A → Drift W.heap.size G A B → J G k B)
    (hY : ∀ G k W1, (∀ b, G b → W.heap.size ≤ b ∧ b < W1.heap.size) → J G k W1 → k < N → YieldAt Fence.wide (n - 1) Try.prog l #[.int .i64 (plO XS YS OFF k)] W1 fun e W' =>
      (e = .returned (.bool true) ∧ J G (k + 1) W' ∧ KpG G W1 W') ∨ (e = .returned (.bool false) ∧ Jx G (k + 1) W'))
    (h0 : ∀ G W1, Below W.heap.size W W1 → (∀ b, G b → W.heap.size ≤ b) → J G 0 W1) :
    CallsIn Fence.wide n Try.prog 57 #[.func (.yield l) #[] #[], .pointer (some ⟨Bv, 0, none⟩)] W fun e W' => (∃ v, e = .returned v) ∧ ∃ G : Nat → Prop, (∀ b, G b → W.heap.size ≤ b) ∧ (J G N W' ∨ ∃ k, k < N ∧ Jx G (k + 1) W') := by
  have hNW := onew_calls xs ys off A B ca cb q q2 W hx hy hq hq2 hl hl2
  rw [← hXS, ← hYS, ← hOFF, ← hN] at hNW
  have HNW := Lib.hid hNW
  have HV : Hid (∀ m, m < N → vrB XS YS OFF = true ∧ (N : Int) ≤ prod XS) := Lib.hid (fun m hm => by
    rw [hN] at hm ⊢
    rw [hXS, hYS, hOFF]
    unfold cellsN at hm ⊢
    unfold shpN strN offN
    by_cases hv : vrB xs ys off = true
    · rw [if_pos hv] at hm ⊢
      rw [if_pos hv, if_pos hv, if_pos hv]
      exact ⟨hv, by omega⟩
    · rw [if_neg hv] at hm
      omega)
  have b0 : W.cell? ⟨Bv, 0, none⟩ = some (.slice A q ca) := hbv.cell 0
  have b1 : W.cell? ⟨Bv, 1, none⟩ = some (.slice B q2 cb) := hbv.cell 1
  have b2 : W.cell? ⟨Bv, 2, none⟩ = some (.int .i64 off) := hbv.cell 2
  have HJ := Lib.hid hJ
  have HY := Lib.hid hY
  have H0 := Lib.hid h0
  clear hbv hx hy hXS hYS hOFF hN hq hq2 hJ hY h0 hNW
  refine callsIn_of_wp Try.func57 rfl trivial ?_ rfl
  simp only [Try.ntmps57, List.size_toArray, List.length_cons, List.length_nil, Nat.reduceAdd, Nat.reduceSub, Array.replicate_succ, Array.replicate_zero, List.push_toArray, List.append_toArray, List.nil_append, List.cons_append]
  gi_wp2_with fail
  refine ⟨trivial, ?_⟩
  refine (callsIn_wide.2 HNW.out).mono ?_
  rintro e w1 ⟨rfl, hO, hB⟩
  obtain ⟨g, hg⟩ : ∃ g, W.heap.size + 1 = g := ⟨_, rfl⟩
  rw [hg] at hO
  rw [hg]
  obtain ⟨H, hH⟩ : ∃ H, w1.heap.size = H := ⟨_, rfl⟩
  have hgH : g < H := by obtain ⟨A, ca, B, cb, p, h1, h2, h3, h4, h5, h6, h7⟩ := hO; omega
  obtain ⟨G, hG⟩ : ∃ G : Nat → Prop, G = fun b => W.heap.size ≤ b ∧ b < H := ⟨_, rfl⟩
  have HG1 : Hid (∀ b, G b → W.heap.size ≤ b) := Lib.hid (fun b hb => by rw [hG] at hb; exact hb.1)
  have HG2 : Hid (∀ b, G b → b < H) := Lib.hid (fun b hb => by rw [hG] at hb; exact hb.2)
  have HG3 : Hid (∀ b, g ≤ b → b < H → G b) := Lib.hid (fun b h1 h2 => by rw [hG]; exact ⟨by omega, h2⟩)
  have hj0 : J G 0 w1 := H0.out G w1 hB HG1.out
  have hs0 : W.heap.size ≤ w1.heap.size := hB.size
  rw [hH] at hO
  have HNX := Lib.hid (next_any (m := 0) w1 hO (HV.out 0))
  have HHW : Hid (H ≤ w1.heap.size) := Lib.hid (by omega)
  have HDR : Hid (∀ k X Y, W.heap.size ≤ X.heap.size → J G k X → Only g X Y → J G k Y) := Lib.hid (fun k X Y hs hj ho => HJ.out G k X Y HG1.out hj (Drift.of_only ho hs (by omega) (HG3.out g (Nat.le_refl _) hgH)))
  have HJ0 := Lib.hid hj0
  have HS0 := Lib.hid hs0
  have HGH := Lib.hid hgH
  have HGW : Hid (W.heap.size ≤ g) := Lib.hid (by omega)
  clear hO hB hg hH hG hj0 hs0 HNW HJ H0 b0 b1 b2 hgH
  gi_wp2_with fail
  refine ⟨trivial, ?_⟩
  refine (callsIn_wide.2 HNX.out).mono ?_
  rintro e w2 ⟨v4, v5, rfl, HR2, HO2⟩
  have HJ2 := Lib.hid (HDR.out 0 _ _ HS0.out HJ0.out HO2.out)
  have HS2 : Hid (W.heap.size ≤ w2.heap.size ∧ H ≤ w2.heap.size) := Lib.hid ⟨Nat.le_trans HS0.out HO2.out.size, Nat.le_trans HHW.out HO2.out.size⟩
  clear HNX HHW HJ0 HS0 HO2
  gi_wp2_with fail
  gi_loopw [4, 5] (fun t4 t5 wr => ∃ (m : Nat) (a : Int) (b : Bool), t4 = .int .i64 a ∧ t5 = .bool b ∧ Hid (OffR XS YS OFF N g H m (.int .i64 a) (.bool b) wr) ∧ Hid (J G m wr) ∧ Hid (W.heap.size ≤ wr.heap.size ∧ H ≤ wr.heap.size)) (fun t4 t5 wr => leftOf wr g + okN t5)
  case atStart => exact ⟨0, v4, v5, rfl, rfl, HR2, HJ2, HS2⟩
  case round =>
    obtain ⟨m, a, b, rfl, rfl, HR, HJm, HS⟩ := hrel
    rcases HR.out with ⟨hm, ha, hb, hO⟩ | ⟨hm, ha, hb, hO⟩
    · injection ha with _ ha
      injection hb with hb
      subst ha
      subst hb
      have hj := HJm.out
      obtain ⟨fn, tmps, assign, body, hy, hR⟩ := HY.out G m wr (fun b hb => ⟨HG1.out b hb, by have := HG2.out b hb; have := HS.out.2; omega⟩) hj hm
      have HO := Lib.hid hO
      have HM := Lib.hid hm
      have HL := Lib.hid hO.left
      clear hO hm hj HR
      gi_wp2
      refine hR.mono ?_
      rintro e w3 (⟨rfl, hJ3, hk3⟩ | ⟨rfl, hJx3⟩)
      · have hO3 := HO.out.same (w' := w3) (fun b h1 h2 => hk3.1 b (HG3.out b h1 h2))
        have hs3 := hk3.2
        have HNX3 := Lib.hid (next_any w3 hO3 (HV.out (m + 1)))
        have HJ3 := Lib.hid hJ3
        have HS3 : Hid (W.heap.size ≤ w3.heap.size ∧ H ≤ w3.heap.size) := Lib.hid ⟨by have := HS.out.1; omega, by have := HS.out.2; omega⟩
        clear hO3 hs3 hJ3 hk3 hR hy HJm HS HO
        gi_wp2_with fail
        refine ⟨trivial, ?_⟩
        refine (callsIn_wide.2 HNX3.out).mono ?_
        rintro e w4 ⟨a4, b4, rfl, HR4, HO4⟩
        have HJ4 := Lib.hid (HDR.out (m + 1) _ _ HS3.out.1 HJ3.out HO4.out)
        have HS4 : Hid (W.heap.size ≤ w4.heap.size ∧ H ≤ w4.heap.size) := Lib.hid ⟨Nat.le_trans HS3.out.1 HO4.out.size, Nat.le_trans HS3.out.2 HO4.out.size⟩
        clear HNX3 HJ3 HS3 HO4
        gi_wp2_with fail
        go_roundw
        case rel => exact ⟨m + 1, a4, b4, rfl, rfl, HR4, HJ4, HS4⟩
        case measure =>
          rw [HL.out]
          have hm := HM.out
          rcases HR4.out with ⟨h1, _, h3, h4⟩ | ⟨h1, _, h3, h4⟩
          · rw [h3, h4.left]
            simp only [okN]
            omega
          · rw [h3, h4.left]
            simp only [okN]
            omega
      · gi_wp2
        go_end0
        exact ⟨⟨_, rfl⟩, G, HG1.out, .inr ⟨m, HM.out, hJx3⟩⟩
    · injection ha with _ ha
      injection hb with hb
      subst ha
      subst hb
      have hj := HJm.out
      rw [hm] at hj
      have HJN := Lib.hid hj
      clear hj hO HR hm
      gi_wp2
      refine ⟨(fun f h => by cases h), ?_⟩
      gi_wp2
      go_end0
      exact ⟨⟨_, rfl⟩, G, HG1.out, .inl HJN.out⟩
theorem offsets_seq (n : Nat) (hn : 1 ≤ n) (xs ys : List Int) (off : Int) (A B : Option Addr) (ca cb q q2 Bv : Nat) (hq : xs.length = q) (hq2 : ys.length = q2) (hl : q ≤ 1000000) (hl2 : q2 ≤ 1000000)
    (w : World) (hbv : Blk w Bv 34 #[.slice A q ca, .slice B q2 cb, .int .i64 off]) (hx : ReadsI w .i64 A xs) (hy : ReadsI w .i64 B ys) :
    SeqAt Fence.wide n Try.prog 57 #[.pointer (some ⟨Bv, 0, none⟩)] (fun k => #[.int .i64 (plO (shpN xs ys off) (strN xs ys off) (offN xs ys off) k)]) (cellsN xs ys off) KpG w := fun l J Jx W hW hJ _ hY h0 =>
  offsets_in n hn xs ys off A B ca cb q q2 Bv hq hq2 hl hl2 _ _ _ _ rfl rfl rfl rfl l J Jx W (hbv.below' hW) (hx.below hW) (hy.below hW) hJ hY h0
end Go.Proofs.Ythjkeefdeeljoaa.Shp
