/- Contracts and lemmas that the row of this claim stands on: Each, MvSize. -/
import Derived.Test.YthjkeefdeeljoaaPk30
import Derived.Test.YthjkeefdeeljoaaPk32
import Derived.Test.YthjkeefdeeljoaaPk36
/- move.each: something is done with each place of a view, by numbers. -/
namespace Go.Proofs.Ythjkeefdeeljoaa.Shp
open Go.RowKit Go.Shelf Go.Proofs.Ythjkeefdeeljoaa.Num Go.Proofs.Ythjkeefdeeljoaa.Cl
set_option linter.unusedVariables false
set_option linter.unusedSimpArgs false
attribute [local go_sem] Oper.semAt_some

/-- What lay from B on is as it was. -/
structure Hi (B : Nat) (W W' : World) : Prop where
  os : W'.os = W.os
  tape : W'.tape = W.tape
  output : W'.output = W.output
  size : W.heap.size ≤ W'.heap.size
  high : ∀ k, B ≤ k → k < W.heap.size → W'.heap[k]? = W.heap[k]?
/-- Blocks below B alone tell it. -/
def LowOnly (B : Nat) (R : Nat → World → Prop) : Prop := ∀ k W W', R k W → W'.os = W.os → W'.tape = W.tape → W'.output = W.output → W.heap.size ≤ W'.heap.size → (∀ b, b < B → W'.heap[b]? = W.heap[b]?) → R k W'
theorem Hi.keeps {B B' : Nat} {W W' : World} (h : Hi B W W') (hB : B ≤ B') : KeepsFrom B' W W' := ⟨h.size, fun k o hb hk _ => (h.high k (by omega) (Array.getElem?_eq_some_iff.1 hk).1).trans hk⟩
theorem Hi.kp {B : Nat} {W W' : World} (h : Hi B W W') {G : Nat → Prop} (hG : ∀ b, G b → B ≤ b ∧ b < W.heap.size) : KpG G W W' := ⟨fun b hb => h.high b (hG b hb).1 (hG b hb).2, h.size⟩
theorem Hi.blk {B : Nat} {W W' : World} (h : Hi B W W') {g : Nat} {t : TypeId} {cs : Array Value} (hb : Blk W g t cs) (hg : B ≤ g) : Blk W' g t cs := (h.high g hg hb.lt).trans hb
/-- Between two rounds. -/
structure EaI (R : Nat → World → Prop) (base X : Nat) (fv : Value) (k : Nat) (W : World) : Prop where
  r : R k W
  num : Blk W X 3 #[.int .i64 (k : Nat)]
  fn : Blk W (base + 1) 115 #[fv]
  sz : base ≤ W.heap.size
theorem LowOnly.below {B : Nat} {R : Nat → World → Prop} (h : LowOnly B R) {k : Nat} {W W' : World} (hr : R k W) (hb : Below B W W') : R k W' := h k W W' hr hb.os hb.tape hb.output hb.size hb.block
set_option maxRecDepth 100000 in
set_option maxHeartbeats 2000000 in
theorem each_calls (xs ys : List Int) (off : Int) (A B : Option Addr) (ca cb n m : Nat) (T : Nat) (l : List Cell) (bl : Nat) (gf : FuncId) (lb : Array Value) (w : World) (hx : ReadsI w .i64 A xs) (hy : ReadsI w .i64 B ys) (hn : xs.length = n) (hm : ys.length = m) (hl : n ≤ 1000000) (hl2 : m ≤ 1000000) (hT : Buf bl w T l)
    (hf : fitsB xs ys off l.length = true) (hg : Fun Try.prog gf) (R : Nat → World → Prop) (hR : LowOnly w.heap.size R) (hR0 : R 0 w)
    (hs : ∀ k W, k < cellsN xs ys off → w.heap.size ≤ W.heap.size → R k W → Calls Try.prog gf (#[.int .i64 (k : Nat), .int .i64 (plO xs ys off k)] ++ lb) W fun e W' => e = .returned (.tuple #[]) ∧ R (k + 1) W' ∧ Hi w.heap.size W W') :
    Calls Try.prog 88 #[.pointer (some ⟨T, 0, none⟩), .agg #[.slice A n ca, .slice B m cb, .int .i64 off], .func (.func gf) #[] lb] w fun e w' => e = .returned (.int .i64 0) ∧ R (cellsN xs ys off) w' ∧ w.heap.size ≤ w'.heap.size := by
  have hv : vrB xs ys off = true := by unfold fitsB at hf; simp only [Bool.and_eq_true] at hf; exact hf.1
  obtain ⟨W0, hW0⟩ : ∃ W0, W0 = (w.alloc (.cells #[.slice A n ca, .slice B m cb, .int .i64 off] 34)).alloc (.cells #[.func (.func gf) #[] lb] 115) := ⟨_, rfl⟩
  have hb0 : Below w.heap.size w W0 := by rw [hW0]; exact bl_alloc (bl_alloc (Below.refl _ _) _) _
  have hbox : Blk W0 w.heap.size 34 #[.slice A n ca, .slice B m cb, .int .i64 off] := by rw [hW0]; exact (Blk.new _ _ _).alloc _
  have hfn : Blk W0 (w.heap.size + 1) 115 #[.func (.func gf) #[] lb] := by rw [hW0]; exact Blk.new' (by simp) _ _
  have HLEN := Lib.hid (fun W (h : Below w.heap.size w W) => buf_len (hT.below h))
  have HFIT := Lib.hid (fun W (h : Below w.heap.size w W) => fits_calls xs ys off A B ca cb n m (l.length : Int) W (hx.below h) (hy.below h) hn hm hl hl2)
  rw [hf] at HFIT
  have HSEQ := Lib.hid (fun W Bv (h : Below w.heap.size w W) (hb : Blk W Bv 34 #[.slice A n ca, .slice B m cb, .int .i64 off]) => offsets_seq 4 (by omega) xs ys off A B ca cb n m Bv hn hm hl hl2 W hb (hx.below h) (hy.below h))
  have e1 : shpN xs ys off = xs := by unfold shpN; rw [if_pos hv]
  have e2 : strN xs ys off = ys := by unfold strN; rw [if_pos hv]
  have e3 : offN xs ys off = off := by unfold offN; rw [if_pos hv]
  rw [e1, e2, e3] at HSEQ
  have HB0 := Lib.hid hb0
  have HBOX := Lib.hid hbox
  have HFN := Lib.hid hfn
  have HW0 := Lib.hid hW0
  have HS := Lib.hid hs
  have HR := Lib.hid hR
  have HR0 := Lib.hid hR0
  have HN9 := Lib.hid (cellsN_le xs ys off)
  generalize plO xs ys off = pf at *
  generalize cellsN xs ys off = N at *
  clear hx hy hb0 hbox hfn hW0 hs hR hR0 hv hf hn hm e1 e2 e3 hT
  refine (callsIn_wide (n := 5)).1 ?_
  refine callsIn_of_wp_marks Try.func88 rfl trivial ?_ rfl
  simp only [Try.ntmps88, List.size_toArray, List.length_cons, List.length_nil, Nat.reduceAdd, Nat.reduceSub, Array.replicate_succ, Array.replicate_zero, List.push_toArray, List.append_toArray, List.nil_append, List.cons_append]
  refine wpIn_wide.2 ?_
  go_upto_region 1 with fail
  rw [← HW0.out]
  obtain ⟨k0, k1, k2⟩ := seen_view HBOX.out
  go_region_held3 (fun W => W.cell? ⟨w.heap.size, 0, none⟩ = some (.slice A n ca) ∧ W.cell? ⟨w.heap.size, 1, none⟩ = some (.slice B m cb) ∧ W.cell? ⟨w.heap.size, 2, none⟩ = some (.int .i64 off))
    (first | exact ⟨k0, k1, k2⟩ | exact seen_view (HBOX.out.drew.below' HBF.out))
    (first
    | (go_at_call 83; refine (HLEN.out _ (bl_drew HB0.out)).mono ?_; rintro e wA ⟨rfl, rfl⟩)
    | (go_at_call 82; refine (HFIT.out _ (bl_drew HB0.out)).mono ?_; rintro e wF ⟨rfl, hBF⟩; have HBF := Lib.hid hBF; clear hBF))
  clear k0 k1 k2
  have HB1 := Lib.hid (bl_then (bl_drew HB0.out) HBF.out)
  have HBX1 := Lib.hid (HBOX.out.drew.below' HBF.out)
  have HFN1 := Lib.hid (HFN.out.drew.below' HBF.out)
  obtain ⟨k0, k1, k2⟩ := seen_view (HBX1.out.alloc (.cells #[.int .i64 0] 3))
  go_wp2_with fail
  refine (offsets_calls _ _).mono ?_
  rintro e w2 ⟨rfl, rfl⟩
  obtain ⟨X, hX⟩ : ∃ X, X = wF.heap.size := ⟨_, rfl⟩
  obtain ⟨W1, hW1⟩ : ∃ W1, W1 = (wF.alloc (.cells #[.int .i64 0] 3)).alloc (.cells (Value.agg #[.slice A n ca, .slice B m cb, .int .i64 off]).cells 34) := ⟨_, rfl⟩
  have hs1 : W1.heap.size = X + 2 := by rw [hW1, hX]; simp
  have hb1 : Below w.heap.size w W1 := by rw [hW1]; exact bl_alloc (bl_alloc HB1.out _) _
  have hnum : Blk W1 X 3 #[.int .i64 0] := by rw [hW1, hX]; exact (Blk.new _ _ _).alloc _
  have hfn1 : Blk W1 (w.heap.size + 1) 115 #[.func (.func gf) #[] lb] := by rw [hW1]; exact (HFN1.out.alloc _).alloc _
  have hbv : Blk W1 (X + 1) 34 #[.slice A n ca, .slice B m cb, .int .i64 off] := by rw [hW1, hX]; exact Blk.new' (by simp) _ _
  have hXs : w.heap.size + 2 ≤ X := by
    have h1 := HBF.out.size
    have h2 : W0.drew.heap.size = W0.heap.size := rfl
    have h3 : W0.heap.size = w.heap.size + 2 := by rw [HW0.out]; simp
    rw [hX]; omega
  clear k0 k1 k2
  rw [show (wF.alloc (.cells #[.int .i64 0] 3)).heap.size = X + 1 by rw [hX]; simp]
  rw [← hW1, ← hX]
  have HSQ := HSEQ.out W1 (X + 1) hb1 hbv
  have HB2 := Lib.hid hb1
  have HNUM := Lib.hid hnum
  have HFN2 := Lib.hid hfn1
  clear hW1 hX hb1 hnum hfn1 hbv HSEQ HB1 HBX1 HFN1 HBF HW0 HFN HBOX HB0 HFIT HLEN
  go_wp2_with fail
  refine (wpIn_wide (n := 5)).1 ?_
  refine wpIn_rangeFunc_at rfl (by omega) rfl trivial (fun _ _ => rfl) HSQ (fun h k => h.trans k) (fun G W l o o' h _ _ _ _ => KpG.put W l o' h) (Below.refl _ _) (fun _ => rfl)
    (fun G k W => EaI R w.heap.size X (.func (.func gf) #[] lb) k W ∧ X + 2 ≤ W.heap.size) (fun _ _ _ _ => False)
    (fun G k Y Z hG h hd => ⟨⟨HR.out k Y Z h.1.r hd.os hd.tape hd.output hd.size (fun b hb => hd.low b (by omega)), hd.blk h.1.num (fun hg => by have := hG _ hg; omega), hd.blk h.1.fn (fun hg => by have := hG _ hg; omega), Nat.le_trans h.1.sz hd.size⟩, Nat.le_trans h.2 hd.size⟩)
    (fun _ _ _ _ _ _ h _ => h)
    (fun G V hb hG => ⟨⟨HR.out.below HR0.out (HB2.out.trans (hb.mono (by omega))), HNUM.out.below' hb, HFN2.out.below' hb, by have := hb.size; omega⟩, by have := hb.size; omega⟩)
    (fun k => { tmps := #[.pointer (some ⟨T, 0, none⟩), .agg #[.slice A n ca, .slice B m cb, .int .i64 off], .func (.func gf) #[] lb, undef, .pointer (some ⟨w.heap.size, 0, none⟩), .pointer (some ⟨w.heap.size + 1, 0, none⟩), .int .i64 0, .pointer (some ⟨X, 0, none⟩), .int .i64 (pf k), .agg #[.slice A n ca, .slice B m cb, .int .i64 off], .pointer (some ⟨T, 0, none⟩), .int .i64 (l.length : Nat), .bool true, .bool false, .agg #[.slice A n ca, .slice B m cb, .int .i64 off], .func (.func 57) #[] #[.pointer (some ⟨X + 1, 0, none⟩)], .int .i64 (pf k), undef, undef, undef, undef, undef, undef], defers := [] }) ?assign ?body ?done ?stop
  case assign =>
    intro l' k W K hK
    gi_wp2
    exact hK
  case body =>
    rintro l' k G W hG hsz ⟨hI, hI2⟩ hk
    have e0 : W.cell? ⟨X, 0, none⟩ = some (.int .i64 (k : Nat)) := hI.num.cell 0
    have e1 : W.cell? ⟨w.heap.size + 1, 0, none⟩ = some (.func (.func gf) #[] lb) := hI.fn.cell 0
    have HCALL := Lib.hid (HS.out k W hk hI.sz hI.r)
    have HI := Lib.hid hI
    have HG := Lib.hid hG
    have hfun := hg
    unfold Fun at hfun
    clear hI hG HSQ
    gi_wp2
    refine ⟨trivial, (CallsIn.inRound l' (callsIn_wide.2 HCALL.out)).mono ?_⟩
    rintro e w3 ⟨rfl, hR1, hHi⟩
    have HN3 := Lib.hid (hHi.blk HI.out.num (by omega))
    have HF3 := Lib.hid (hHi.blk HI.out.fn (by omega))
    have e2 : w3.cell? ⟨X, 0, none⟩ = some (.int .i64 (k : Nat)) := HN3.out.cell 0
    have e2f : w3.frozen? ⟨X, 0, none⟩ = false := HN3.out.frozen 0
    have HR1 := Lib.hid hR1
    have HHI := Lib.hid hHi
    obtain ⟨q, hq⟩ : ∃ q, k + 1 = q := ⟨_, rfl⟩
    have hqi : (k : Int) + 1 = (q : Int) := by omega
    have hqw : IntKind.i64.wrap (q : Int) = (q : Int) := by have := HN9.out; rw [IntKind.wrap_i64]; omega
    have HQ := Lib.hid hq
    clear hR1 hHi hq e0 e1 HCALL
    gi_wp2
    have hne : ∀ b, G b → b ≠ X := fun b hb => by have := HG.out b hb; omega
    refine ⟨(HHI.out.keeps (by omega)).trans ((KeepsOthers.setCell _ _ _).from _), (HHI.out.kp (fun b hb => ⟨by have := HG.out b hb; omega, (HG.out b hb).2⟩)).trans (KpG.set (p := ⟨X, 0, none⟩) (fun h => hne _ h rfl) _), ⟨?_, ?_, ?_, ?_⟩, ?_⟩
    · exact HR.out (k + 1) w3 _ HR1.out rfl rfl rfl (by simp [World.setCell]) (fun b hb => Below.heap_setCell _ _ _ _ (by show b ≠ X; omega))
    · rw [HQ.out]; exact HN3.out.one _
    · exact HF3.out.far (p := ⟨X, 0, none⟩) (by show w.heap.size + 1 ≠ X; omega) _
    · have := HHI.out.size; have := HI.out.sz; simp [World.setCell]; omega
    · have := HHI.out.size; simp [World.setCell]; omega
  case done =>
    rintro D G W hD hG ⟨hI, hI2⟩ hK
    have HI := Lib.hid hI
    clear hI HSQ
    go_wp2_with fail
    refine ⟨by simp, .inl ⟨_, _, rfl, run_takeDeferred hK, ?_⟩⟩
    refine ⟨.int .i64 0, ?_, rfl, HR.out N W _ HI.out.r rfl rfl rfl (by simp [World.putObj]) (fun b hb => World.putObj_heap_other (by omega)), by have := HI.out.sz; simp [World.putObj]; exact this⟩
    simp [results, Try.f88, go_sem]
  case stop =>
    intro D c G k W _ _ _ h
    exact h.elim
end Go.Proofs.Ythjkeefdeeljoaa.Shp
/- move.size, move.plain, move.room; each of what does not fit. -/
namespace Go.Proofs.Ythjkeefdeeljoaa.Shp
open Go.RowKit Go.Shelf Go.Proofs.Ythjkeefdeeljoaa.Num Go.Proofs.Ythjkeefdeeljoaa.Cl
set_option linter.unusedVariables false
set_option linter.unusedSimpArgs false

theorem each_no (xs ys : List Int) (off : Int) (A B : Option Addr) (ca cb n m : Nat) (T : Nat) (l : List Cell) (bl : Nat) (fv : Value) (hfv : fv.oneCell' = true) (w : World) (hx : ReadsI w .i64 A xs) (hy : ReadsI w .i64 B ys) (hn : xs.length = n) (hm : ys.length = m) (hl : n ≤ 1000000) (hl2 : m ≤ 1000000) (hT : Buf bl w T l)
    (hf : fitsB xs ys off l.length = false) (gf : FuncId) (lb : Array Value) (hfv : fv = .func (.func gf) #[] lb) :
    Calls Try.prog 88 #[.pointer (some ⟨T, 0, none⟩), .agg #[.slice A n ca, .slice B m cb, .int .i64 off], fv] w fun e w' => e = .returned (.int .i64 2) ∧ Below w.heap.size w w' := by
  subst hfv
  obtain ⟨W0, hW0⟩ : ∃ W0, W0 = (w.alloc (.cells #[.slice A n ca, .slice B m cb, .int .i64 off] 34)).alloc (.cells #[.func (.func gf) #[] lb] 115) := ⟨_, rfl⟩
  have hb0 : Below w.heap.size w W0 := by rw [hW0]; exact bl_alloc (bl_alloc (Below.refl _ _) _) _
  have hbox : Blk W0 w.heap.size 34 #[.slice A n ca, .slice B m cb, .int .i64 off] := by rw [hW0]; exact (Blk.new _ _ _).alloc _
  have HLEN := Lib.hid (fun W (h : Below w.heap.size w W) => buf_len (hT.below h))
  have HFIT := Lib.hid (fun W (h : Below w.heap.size w W) => fits_calls xs ys off A B ca cb n m (l.length : Int) W (hx.below h) (hy.below h) hn hm hl hl2)
  rw [hf] at HFIT
  have HB0 := Lib.hid hb0
  have HBOX := Lib.hid hbox
  have HW0 := Lib.hid hW0
  clear hx hy hb0 hbox hW0 hf hn hm hT
  go_enter Try.func88, Try.ntmps88
  go_upto_region 1 with fail
  rw [← HW0.out]
  obtain ⟨k0, k1, k2⟩ := seen_view HBOX.out
  go_region_held3 (fun W => W.cell? ⟨w.heap.size, 0, none⟩ = some (.slice A n ca) ∧ W.cell? ⟨w.heap.size, 1, none⟩ = some (.slice B m cb) ∧ W.cell? ⟨w.heap.size, 2, none⟩ = some (.int .i64 off))
    (first | exact ⟨k0, k1, k2⟩ | exact seen_view (HBOX.out.drew.below' HBF.out))
    (first
    | (go_at_call 83; refine (HLEN.out _ (bl_drew HB0.out)).mono ?_; rintro e wA ⟨rfl, rfl⟩)
    | (go_at_call 82; refine (HFIT.out _ (bl_drew HB0.out)).mono ?_; rintro e wF ⟨rfl, hBF⟩; have HBF := Lib.hid hBF; clear hBF))
  go_wp2_with fail
  go_ret
  exact ⟨rfl, bl_then (bl_drew HB0.out) HBF.out⟩
theorem msize_calls (xs ys : List Int) (off : Int) (A B : Option Addr) (ca cb n m : Nat) (w : World) (hx : ReadsI w .i64 A xs) (hn : xs.length = n) (hl : n ≤ 1000000) (N : Nat) (hok : sizeOk xs = true) (hN : prod xs = (N : Int)) :
    Calls Try.prog 85 #[.agg #[.slice A n ca, .slice B m cb, .int .i64 off]] w fun e w' => e = .returned (.int .i64 (N : Nat)) ∧ Below w.heap.size w w' := by
  subst hn
  have HB0 : Hid (Below w.heap.size w (w.alloc (.cells #[.slice A xs.length ca, .slice B m cb, .int .i64 off] 34))) := Lib.hid (bl_alloc (Below.refl _ _) _)
  have hS := size2_calls xs A ca _ (hx.below HB0.out) hl
  rw [hok, if_pos rfl, hN] at hS
  have HS := Lib.hid hS
  clear hx hS hok hN
  go_enter Try.func85, Try.ntmps85
  go_wp2_with fail
  refine HS.out.mono ?_
  rintro e w' ⟨rfl, rfl⟩
  go_wp2_with fail
  go_ret
  exact ⟨rfl, HB0.out⟩
theorem plain_calls (xs ys : List Int) (off : Int) (A B : Option Addr) (ca cb n m : Nat) (w : World) (hx : ReadsI w .i64 A xs) (hy : ReadsI w .i64 B ys) (hn : xs.length = n) (hm : ys.length = m) (hv : vrB xs ys off = true) (N : Nat) (hN : prod xs = (N : Int)) :
    Calls Try.prog 86 #[.agg #[.slice A n ca, .slice B m cb, .int .i64 off]] w fun e w' => e = .returned (.bool (denB xs ys off && decide (0 < N))) ∧ Below w.heap.size w w' := by
  obtain ⟨v6, vm, _⟩ := vr_each hv
  have HD := Lib.hid (fun W (h : Below w.heap.size w W) => dense_calls xs ys off A B ca cb n m W (hx.below h) (hy.below h) hn hm (by omega) (by omega))
  have HS := Lib.hid (fun W (h : Below w.heap.size w W) => msize_calls xs ys off A B ca cb n m W (hx.below h) hn (by omega) N (vrB_out hv).1 hN)
  have hbk : Blk (w.alloc (.cells #[.slice A n ca, .slice B m cb, .int .i64 off] 34)) w.heap.size 34 #[.slice A n ca, .slice B m cb, .int .i64 off] := Blk.new _ _ _
  have HB0 : Hid (Below w.heap.size w (w.alloc (.cells #[.slice A n ca, .slice B m cb, .int .i64 off] 34))) := Lib.hid (bl_alloc (Below.refl _ _) _)
  have HBK := Lib.hid hbk
  clear hx hy hn hm hv hN hbk v6 vm
  cases hd : denB xs ys off with
  | false =>
    rw [hd] at HD
    clear hd
    go_enter Try.func86, Try.ntmps86
    go_wp2_with fail
    refine (HD.out _ HB0.out).mono ?_
    rintro e w1 ⟨rfl, hB1⟩
    have HB1 := Lib.hid (bl_then HB0.out hB1)
    clear hB1
    go_wp2_with fail
    go_ret
    exact ⟨rfl, HB1.out⟩
  | true =>
    rw [hd] at HD
    clear hd
    have e : (true && decide (0 < N)) = decide (0 < (N : Int)) := by simp
    rw [e]
    go_enter Try.func86, Try.ntmps86
    go_wp2_with fail
    refine (HD.out _ HB0.out).mono ?_
    rintro e w1 ⟨rfl, hB1⟩
    obtain ⟨k0, k1, k2⟩ := seen_view (HBK.out.below' hB1)
    have HB1 := Lib.hid (bl_then HB0.out hB1)
    clear hB1
    go_wp2_with fail
    refine (HS.out _ HB1.out).mono ?_
    rintro e w2 ⟨rfl, hB2⟩
    have HB2 := Lib.hid (bl_then HB1.out hB2)
    clear hB2 k0 k1 k2
    go_wp2_with fail
    go_ret
    exact ⟨by simp, HB2.out⟩
theorem mroom_yes (n : Nat) (most : Int) (w : World) (hn : (n : Int) ≤ min (max most 0) 1048576) : Calls Try.prog 84 #[.int .i64 (n : Nat), .int .i64 most] w fun e w' => ∃ T, e = .returned (.tuple #[.pointer (some ⟨T, 0, none⟩), .int .i64 0]) ∧ Buf w.heap.size w' T (List.replicate n (0, false)) ∧ Below w.heap.size w w' := by
  have HM := Lib.hid (bnew_calls n most w hn)
  clear hn
  go_enter Try.func84, Try.ntmps84
  go_wp2_with fail
  refine HM.out.mono ?_
  rintro e w1 ⟨T, rfl, hT, hB1⟩
  have HT := Lib.hid hT
  have HB1 := Lib.hid hB1
  clear hT hB1
  go_wp2_with fail
  go_ret2
  exact ⟨T, rfl, HT.out, HB1.out⟩
theorem mroom_no (n : Nat) (most : Int) (w : World) (hn : min (max most 0) 1048576 < (n : Int)) : Calls Try.prog 84 #[.int .i64 (n : Nat), .int .i64 most] w fun e w' => e = .returned (.tuple #[.pointer none, .int .i64 7]) ∧ w = w' := by
  have HM := Lib.hid (bnew_no n most w hn)
  clear hn
  go_enter Try.func84, Try.ntmps84
  go_wp2_with fail
  refine HM.out.mono ?_
  rintro e w1 ⟨rfl, rfl⟩
  go_wp2_with fail
  go_ret2
  exact ⟨rfl, rfl⟩
end Go.Proofs.Ythjkeefdeeljoaa.Shp
