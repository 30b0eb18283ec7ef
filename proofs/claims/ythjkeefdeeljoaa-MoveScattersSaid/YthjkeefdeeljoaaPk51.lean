/- move.Equal, where all is alike. -/
import Derived.Test.YthjkeefdeeljoaaPk43
import Derived.Test.YthjkeefdeeljoaaPk39
import Derived.Test.YthjkeefdeeljoaaPk50
import Derived.Laws.StructEq
import Derived.Deep.DeepCutAuto
namespace Go.Proofs.Ythjkeefdeeljoaa.Shp
open Go.RowKit Go.Shelf Go.Proofs.Ythjkeefdeeljoaa.Num Go.Proofs.Ythjkeefdeeljoaa.Cl
set_option linter.unusedVariables false
set_option linter.unusedSimpArgs false
attribute [local go_sem] Oper.semAt_some

theorem eql_bcell2 (x y : Cell) (w : World) : (binOp .eql 78 (.agg #[.int .i64 x.1, .bool x.2]) (.agg #[.int .i64 y.1, .bool y.2])).run Try.prog w = .ok (.bool (decide (x = y))) w := by
  have a1 := Try.isAgg2
  have a2 := Try.isAgg4
  have z1 := Try.sizeOf2
  have z2 := Try.sizeOf4
  have u1 := Try.underlying2
  have u2 := Try.underlying4
  have hS : Try.prog.underlying 78 = some (.struct (Try.prog.fieldsOf 78)) := by kernel_rfl
  have hp : Try.prog.stoodInHeld 78 = false := by kernel_rfl
  obtain ⟨xn, xb⟩ := x
  obtain ⟨yn, yb⟩ := y
  rw [run_eql_struct, show (10000 : Nat) = 9999 + 1 from rfl, run_equalIn_agg w 9999 78 _ _ hS hp]
  simp only [Program.fieldsOf, Try.underlying78]
  go_simp
  by_cases h1 : xn = yn <;> by_cases h2 : xb = yb <;> simp [h1, h2]
theorem guard_bcell2 : Try.prog.eqGuardType Try.prog.depth 78 = false := by kernel_rfl
theorem neq_bcell2 (x y : Cell) (w : World) : (binOp .neq 78 (.agg #[.int .i64 x.1, .bool x.2]) (.agg #[.int .i64 y.1, .bool y.2])).run Try.prog w = .ok (.bool (!(decide (x = y)))) w := by
  have h := eql_bcell2 x y w
  rw [run_eql_struct] at h
  rw [run_neq_struct]
  generalize (Op.equalIn 10000 78 (.agg #[.int .i64 x.1, .bool x.2]) (.agg #[.int .i64 y.1, .bool y.2])).run Try.prog w = r at *
  cases r with
  | ok b w' =>
    simp [Result.andThen] at h ⊢
    obtain ⟨h1, h2⟩ := h
    exact ⟨by rw [h1], h2⟩
  | halt e w' => simp [Result.andThen] at h
theorem mequal_results (tmps : Array Value) (W : World) (H : Nat) (v : Value) (h4 : tmps[8]? = some (.pointer (some ⟨H, 0, none⟩))) (hc : W.cell? ⟨H, 0, none⟩ = some v) : (results Try.f79 tmps).run Try.prog W = .ok v W := by
  simp [results, Try.f79, go_sem, h4, hc]
theorem mequal_end1 {tmps : Array Value} {W : World} {D H : Nat} {v : Value} {R : Ending → World → Prop} (z : W.heap[D]? = some (.deferred (some []))) (h4 : tmps[8]? = some (.pointer (some ⟨H, 0, none⟩))) (hc : (W.putObj D (.deferred none)).cell? ⟨H, 0, none⟩ = some v) (hR : R (.returned v) (W.putObj D (.deferred none))) :
    bodyPostM Fence.wide 5 Try.prog Try.f79 R .ret { tmps := tmps, defers := [{ target := .collected D, args := #[] }] } W := by
  refine ⟨by simp, .inl ⟨_, _, rfl, run_takeDeferred z, ?_⟩⟩
  exact ⟨v, mequal_results _ _ _ _ h4 hc, hR⟩
theorem held_e {W : World} {H V H2 V2 : Nat} {T1 T2 T3 T4 : TypeId} {p x y z p2 x2 y2 z2 : Value} (h : Blk W H T1 #[p]) (h2 : Blk W V T2 #[x, y, z]) (h3 : Blk W H2 T3 #[p2]) (h4 : Blk W V2 T4 #[x2, y2, z2]) : W.cell? ⟨H, 0, none⟩ = some p ∧ W.cell? ⟨V, 0, none⟩ = some x ∧ W.cell? ⟨V, 1, none⟩ = some y ∧ W.cell? ⟨V, 2, none⟩ = some z ∧ W.cell? ⟨H2, 0, none⟩ = some p2 ∧ W.cell? ⟨V2, 0, none⟩ = some x2 ∧ W.cell? ⟨V2, 1, none⟩ = some y2 ∧ W.cell? ⟨V2, 2, none⟩ = some z2 := ⟨h.cell 0, h2.cell 0, h2.cell 1, h2.cell 2, h3.cell 0, h4.cell 0, h4.cell 1, h4.cell 2⟩
/-- The four boxes and the result. -/
structure EqI (w : World) (T U : Nat) (va vb : Array Value) (W : World) : Prop where
  a : Blk W w.heap.size 57 #[.pointer (some ⟨T, 0, none⟩)]
  v : Blk W (w.heap.size + 1) 34 va
  b : Blk W (w.heap.size + 2) 57 #[.pointer (some ⟨U, 0, none⟩)]
  u : Blk W (w.heap.size + 3) 34 vb
  r : Blk W (w.heap.size + 4) 4 #[.bool false]
  below : Below w.heap.size w W
theorem EqI.later {w : World} {T U : Nat} {va vb : Array Value} {W W' : World} (h : EqI w T U va vb W) (hb : Below W.heap.size W W') : EqI w T U va vb W' := ⟨h.a.below' hb, h.v.below' hb, h.b.below' hb, h.u.below' hb, h.r.below' hb, bl_then h.below hb⟩
set_option maxRecDepth 100000 in
set_option maxHeartbeats 2000000 in
theorem mequal_yes (xs ys : List Int) (off : Int) (ys2 : List Int) (off2 : Int) (A B C D : Option Addr) (ca cb cc cd n m n2 m2 : Nat) (T U : Nat) (la lb : List Cell) (b1 b2 : Nat) (w : World) (hx : ReadsI w .i64 A xs) (hy : ReadsI w .i64 B ys) (hx2 : ReadsI w .i64 C xs) (hy2 : ReadsI w .i64 D ys2) (hn : xs.length = n) (hm : ys.length = m) (hn2 : xs.length = n2) (hm2 : ys2.length = m2) (hl : n ≤ 1000000) (hl2 : m ≤ 1000000) (hl3 : n2 ≤ 1000000) (hl4 : m2 ≤ 1000000)
    (hT : Buf b1 w T la) (hU : Buf b2 w U lb) (hf : fitsB xs ys off la.length = true) (hf2 : fitsB xs ys2 off2 lb.length = true) (hall : ∀ k, k < cellsN xs ys off → nth la (plO xs ys off k).toNat = nth lb (plO xs ys2 off2 k).toNat) :
    Calls Try.prog 79 #[.pointer (some ⟨T, 0, none⟩), .agg #[.slice A n ca, .slice B m cb, .int .i64 off], .pointer (some ⟨U, 0, none⟩), .agg #[.slice C n2 cc, .slice D m2 cd, .int .i64 off2]] w fun e w' => e = .returned (.bool true) ∧ Below w.heap.size w w' := by
  obtain ⟨W0, hW0⟩ : ∃ W0, W0 = ((((w.alloc (.cells #[.pointer (some ⟨T, 0, none⟩)] 57)).alloc (.cells #[.slice A n ca, .slice B m cb, .int .i64 off] 34)).alloc (.cells #[.pointer (some ⟨U, 0, none⟩)] 57)).alloc (.cells #[.slice C n2 cc, .slice D m2 cd, .int .i64 off2] 34)).alloc (.cells #[.bool false] 4) := ⟨_, rfl⟩
  have hE0 : EqI w T U #[.slice A n ca, .slice B m cb, .int .i64 off] #[.slice C n2 cc, .slice D m2 cd, .int .i64 off2] W0 := by
    rw [hW0]
    exact ⟨((((Blk.new _ _ _).alloc _).alloc _).alloc _).alloc _, (((Blk.new' (by simp) _ _).alloc _).alloc _).alloc _, ((Blk.new' (by simp) _ _).alloc _).alloc _, (Blk.new' (by simp) _ _).alloc _, Blk.new' (by simp) _ _, bl_alloc (bl_alloc (bl_alloc (bl_alloc (bl_alloc (Below.refl _ _) _) _) _) _) _⟩
  have hv := fits_vr hf
  have hv2 := fits_vr hf2
  have HL1 := Lib.hid (fun W (h : Below w.heap.size w W) => buf_len (hT.below h))
  have HL2 := Lib.hid (fun W (h : Below w.heap.size w W) => buf_len (hU.below h))
  have HF1 := Lib.hid (fun W (h : Below w.heap.size w W) => fits_calls xs ys off A B ca cb n m (la.length : Int) W (hx.below h) (hy.below h) hn hm hl hl2)
  have HF2 := Lib.hid (fun W (h : Below w.heap.size w W) => fits_calls xs ys2 off2 C D cc cd n2 m2 (lb.length : Int) W (hx2.below h) (hy2.below h) hn2 hm2 hl3 hl4)
  have HEQ := Lib.hid (fun W (h : Below w.heap.size w W) => equal_any A C ca cc n n2 xs xs W hn hn2 (hx.below h) (hx2.below h) hl hl3 true (by simp))
  rw [hf] at HF1
  rw [hf2] at HF2
  have hpb : pairsB xs ys off xs ys2 off2 = true := by unfold pairsB; rw [hv, hv2]; simp
  have hpn : pairsN xs ys off xs ys2 off2 = cellsN xs ys off := by unfold pairsN; rw [if_pos hpb]
  have hcn : cellsN xs ys2 off2 = cellsN xs ys off := by unfold cellsN; rw [if_pos hv, if_pos hv2]
  have HSEQ := Lib.hid (fun W B1 B2 (h : Below w.heap.size w W) (hb1 : Blk W B1 34 #[.slice A n ca, .slice B m cb, .int .i64 off]) (hb2 : Blk W B2 34 #[.slice C n2 cc, .slice D m2 cd, .int .i64 off2]) => pairs_seq 4 (by omega) xs ys off xs ys2 off2 A B C D ca cb cc cd n m n2 m2 B1 B2 hn hm hn2 hm2 hl hl2 hl3 hl4 W hb1 hb2 (hx.below h) (hy.below h) (hx2.below h) (hy2.below h))
  rw [hpn] at HSEQ
  have HI1 := Lib.hid (fun k (hk : k < cellsN xs ys off) => fits_in hf k hk)
  have HI2 := Lib.hid (fun k (hk : k < cellsN xs ys off) => fits_in hf2 k (by rw [hcn]; exact hk))
  have HALL := Lib.hid hall
  have HT := Lib.hid hT
  have HU := Lib.hid hU
  have HE0 := Lib.hid hE0
  have HW0 := Lib.hid hW0
  generalize plO xs ys off = pa at *
  generalize plO xs ys2 off2 = pb at *
  generalize cellsN xs ys off = N at *
  clear hx hy hx2 hy2 hn hm hn2 hm2 hf hf2 hv hv2 hpb hpn hcn hall hT hU hE0 hW0
  refine (callsIn_wide (n := 5)).1 ?_
  refine callsIn_of_wp_marks Try.func79 rfl trivial ?_ rfl
  simp only [Try.ntmps79, List.size_toArray, List.length_cons, List.length_nil, Nat.reduceAdd, Nat.reduceSub, Array.replicate_succ, Array.replicate_zero, List.push_toArray, List.append_toArray, List.nil_append, List.cons_append]
  refine wpIn_wide.2 ?_
  go_upto_region 1 with fail
  rw [← HW0.out]
  obtain ⟨c0, c1, c2, c3, d0, d1, d2, d3⟩ := held_e HE0.out.a HE0.out.v HE0.out.b HE0.out.u
  go_region_held3 (fun W => W.cell? ⟨w.heap.size, 0, none⟩ = some (.pointer (some ⟨T, 0, none⟩)) ∧ W.cell? ⟨w.heap.size + 1, 0, none⟩ = some (.slice A n ca) ∧ W.cell? ⟨w.heap.size + 1, 1, none⟩ = some (.slice B m cb) ∧ W.cell? ⟨w.heap.size + 1, 2, none⟩ = some (.int .i64 off) ∧ W.cell? ⟨w.heap.size + 2, 0, none⟩ = some (.pointer (some ⟨U, 0, none⟩)) ∧ W.cell? ⟨w.heap.size + 3, 0, none⟩ = some (.slice C n2 cc) ∧ W.cell? ⟨w.heap.size + 3, 1, none⟩ = some (.slice D m2 cd) ∧ W.cell? ⟨w.heap.size + 3, 2, none⟩ = some (.int .i64 off2))
    (first | exact ⟨c0, c1, c2, c3, d0, d1, d2, d3⟩ | exact held_e HE1.out.a HE1.out.v HE1.out.b HE1.out.u | exact held_e HE2.out.a HE2.out.v HE2.out.b HE2.out.u | exact held_e HE3.out.a HE3.out.v HE3.out.b HE3.out.u)
    (first
    | (go_at_call 83; first
      | ((with_reducible refine (HL1.out _ (bl_drew HE0.out.below)).mono ?_); rintro e wA ⟨rfl, rfl⟩)
      | ((with_reducible refine (HL2.out _ HE1.out.below).mono ?_); rintro e wA ⟨rfl, rfl⟩))
    | (go_at_call 82; first
      | ((with_reducible refine (HF1.out _ (bl_drew HE0.out.below)).mono ?_); rintro e wF ⟨rfl, hB⟩; have HE1 := Lib.hid (HE0.out.later (bl_then (bl_drew (Below.refl _ _)) hB)); clear hB)
      | ((with_reducible refine (HF2.out _ HE1.out.below).mono ?_); rintro e wF2 ⟨rfl, hB⟩; have HE2 := Lib.hid (HE1.out.later hB); clear hB))
    | (go_at_call 56; refine (HEQ.out _ HE2.out.below).mono ?_; rintro e wE ⟨rfl, hB⟩; have HE3 := Lib.hid (HE2.out.later hB); clear hB))
  clear c0 c1 c2 c3 d0 d1 d2 d3
  obtain ⟨c0, c1, c2, c3, d0, d1, d2, d3⟩ := held_e HE3.out.a HE3.out.v HE3.out.b HE3.out.u
  go_wp2_with fail
  refine (pairs_calls _ _ _).mono ?_
  rintro e wP ⟨rfl, rfl⟩
  clear c0 c1 c2 c3 d0 d1 d2 d3
  obtain ⟨P, hP⟩ : ∃ P, P = wE.heap.size := ⟨_, rfl⟩
  obtain ⟨W1, hW1⟩ : ∃ W1, W1 = (wE.alloc (.cells (Value.agg #[.slice A n ca, .slice B m cb, .int .i64 off]).cells 34)).alloc (.cells (Value.agg #[.slice C n2 cc, .slice D m2 cd, .int .i64 off2]).cells 34) := ⟨_, rfl⟩
  have hE4 : EqI w T U #[.slice A n ca, .slice B m cb, .int .i64 off] #[.slice C n2 cc, .slice D m2 cd, .int .i64 off2] W1 := by rw [hW1]; exact HE3.out.later (bl_alloc (bl_alloc (Below.refl _ _) _) _)
  have hb1 : Blk W1 P 34 #[.slice A n ca, .slice B m cb, .int .i64 off] := by rw [hW1, hP]; exact (Blk.new _ _ _).alloc _
  have hb2 : Blk W1 (P + 1) 34 #[.slice C n2 cc, .slice D m2 cd, .int .i64 off2] := by rw [hW1, hP]; exact Blk.new' (by simp) _ _
  rw [← hW1, ← hP]
  have HSQ := HSEQ.out W1 P (P + 1) hE4.below hb1 hb2
  have HE4 := Lib.hid hE4
  clear hW1 hP hE4 hb1 hb2 HSEQ HE0 HE1 HE2 HE3 HEQ HF1 HF2 HL1 HL2 HW0
  go_wp2_with fail
  refine (wpIn_wide (n := 5)).1 ?_
  refine wpIn_rangeFunc_at rfl (by omega) rfl trivial (fun _ _ => rfl) HSQ (fun h k => h.trans k) (fun G W l o o' h _ _ _ _ => KpG.put W l o' h) (Below.refl _ _) (fun _ => rfl)
    (fun G k W => Below W1.heap.size W1 W) (fun _ _ _ _ => False)
    (fun G k Y Z hG h hd => ⟨hd.os.trans h.os, hd.tape.trans h.tape, hd.output.trans h.output, Nat.le_trans h.size hd.size, fun b hb => (hd.low b hb).trans (h.block b hb)⟩)
    (fun _ _ _ _ _ _ h _ => h)
    (fun G V hb hG => hb)
    (fun k => { tmps := #[.pointer (some ⟨T, 0, none⟩), .agg #[.slice A n ca, .slice B m cb, .int .i64 off], .pointer (some ⟨U, 0, none⟩), .agg #[.slice C n2 cc, .slice D m2 cd, .int .i64 off2], .pointer (some ⟨w.heap.size, 0, none⟩), .pointer (some ⟨w.heap.size + 1, 0, none⟩), .pointer (some ⟨w.heap.size + 1 + 1, 0, none⟩), .pointer (some ⟨w.heap.size + 1 + 1 + 1, 0, none⟩), .pointer (some ⟨w.heap.size + 1 + 1 + 1 + 1, 0, none⟩), .int .i64 (pa k), .int .i64 (pb k), undef, undef, undef, undef, .agg #[.slice A n ca, .slice B m cb, .int .i64 off], .pointer (some ⟨T, 0, none⟩), .int .i64 (la.length : Nat), .bool true, .bool false, .bool false, .agg #[.slice C n2 cc, .slice D m2 cd, .int .i64 off2], .pointer (some ⟨U, 0, none⟩), .int .i64 (lb.length : Nat), .bool true, .bool false, .bool false, .bool false, .pointer (some ⟨w.heap.size + 1, 0, none⟩), .slice A n ca, .pointer (some ⟨w.heap.size + 1 + 1 + 1, 0, none⟩), .slice C n2 cc, .bool true, .bool false, .bool false, .agg #[.slice A n ca, .slice B m cb, .int .i64 off], .agg #[.slice C n2 cc, .slice D m2 cd, .int .i64 off2], .func (.func 55) #[] #[.pointer (some ⟨P, 0, none⟩), .pointer (some ⟨P + 1, 0, none⟩)], .int .i64 (pa k), .int .i64 (pb k), undef, undef, undef, undef, undef, undef, undef, undef, undef, undef, undef, undef, undef, undef, undef], defers := [] }) ?assign ?body ?done ?stop
  case assign =>
    intro l' k W K hK
    gi_wp2
    exact hK
  case body =>
    rintro l' k G W hG hsz hI hk
    have hE := HE4.out.later hI
    have e0 : W.cell? ⟨w.heap.size, 0, none⟩ = some (.pointer (some ⟨T, 0, none⟩)) := hE.a.cell 0
    obtain ⟨i1, i2⟩ := HI1.out k hk
    obtain ⟨j1, j2⟩ := HI2.out k hk
    have hal := HALL.out k hk
    obtain ⟨p, hp⟩ := Int.eq_ofNat_of_zero_le i1
    obtain ⟨q, hq⟩ := Int.eq_ofNat_of_zero_le j1
    rw [hp] at i2 hal
    rw [hq] at j2 hal
    rw [Int.toNat_natCast, Int.toNat_natCast] at hal
    rw [hp, hq]
    have HG1 := Lib.hid (buf_get (HT.out.below hE.below) p (by omega))
    have HG2 := Lib.hid (fun W' (h : Below w.heap.size w W') => buf_get (HU.out.below h) q (by omega))
    rw [hal] at HG1
    have hne := fun W => neq_bcell2 (nth lb q) (nth lb q) W
    simp only [decide_true, Bool.not_true] at hne
    have hgu := guard_bcell2
    obtain ⟨x, hx⟩ : ∃ x, nth lb q = x := ⟨_, rfl⟩
    rw [hx] at HG1 HG2 hne
    have HE := Lib.hid hE
    have HI := Lib.hid hI
    have HG := Lib.hid hG
    clear hE hI hG HSQ hal hx hp hq i1 j1
    gi_wp2
    refine ⟨trivial, (CallsIn.inRound l' (callsIn_wide.2 HG1.out)).mono ?_⟩
    rintro e w3 ⟨rfl, hB3⟩
    have hb3 := bl_alloc hB3 (.cells #[.int .i64 x.1, .bool x.2] 78)
    have hE3 := HE.out.later hb3
    have e1 : (w3.alloc (.cells #[.int .i64 x.1, .bool x.2] 78)).cell? ⟨w.heap.size + 1 + 1, 0, none⟩ = some (.pointer (some ⟨U, 0, none⟩)) := hE3.b.cell 0
    have hk3 : Blk (w3.alloc (.cells #[.int .i64 x.1, .bool x.2] 78)) w3.heap.size 78 #[.int .i64 x.1, .bool x.2] := Blk.new _ _ _
    have HE3 := Lib.hid hE3
    have HB3 := Lib.hid hb3
    have HK3 := Lib.hid hk3
    clear hB3 hb3 hE3 hk3 e0
    gi_wp2
    refine ⟨trivial, (CallsIn.inRound l' (callsIn_wide.2 (HG2.out _ HE3.out.below))).mono ?_⟩
    rintro e w4 ⟨rfl, hB4⟩
    have hb4 := bl_alloc hB4 (.cells #[.int .i64 x.1, .bool x.2] 78)
    have hk4 := HK3.out.below' hb4
    have f0 : (w4.alloc (.cells #[.int .i64 x.1, .bool x.2] 78)).cell? ⟨w3.heap.size, 0, none⟩ = some (.int .i64 x.1) := hk4.cell 0
    have f1 : (w4.alloc (.cells #[.int .i64 x.1, .bool x.2] 78)).cell? ⟨w3.heap.size, 1, none⟩ = some (.bool x.2) := hk4.cell 1
    have HB4 := Lib.hid (bl_then HB3.out hb4)
    clear hB4 hb4 hk4 e1
    gi_wp2
    exact ⟨keeps_below HB4.out, KpG.below HB4.out (fun b hb => (HG.out b hb).2), bl_then HI.out HB4.out⟩
  case done =>
    rintro D G W hD hG hI hK
    have hE := HE4.out.later hI
    have e4 : W.cell? ⟨w.heap.size + 1 + 1 + 1 + 1, 0, none⟩ = some (.bool false) := hE.r.cell 0
    have e4f : W.frozen? ⟨w.heap.size + 1 + 1 + 1 + 1, 0, none⟩ = false := hE.r.frozen 0
    have HE := Lib.hid hE
    clear hE hI HSQ
    go_wp2_with fail
    have hs1 : w.heap.size ≤ D := by have h1 := HE4.out.below.size; omega
    have hK' := (KeepsOthers.setCell W ⟨w.heap.size + 1 + 1 + 1 + 1, 0, none⟩ (.bool true)).same D _ hK rfl
    have hb := blk_kept (HE.out.r.one (.bool true)) (grownBy_putObj' _ D (.deferred none)) (fun r e => by cases e; exact ⟨_, hK', rfl⟩)
    exact mequal_end1 hK' rfl (hb.cell 0) ⟨rfl, (bl_set HE.out.below (by simp <;> omega) _).trans (belowK_b (w := w) (Nat.le_refl _) _ D _ _ hs1 hK' rfl rfl)⟩
  case stop =>
    intro D c G k W _ _ _ h
    exact h.elim
end Go.Proofs.Ythjkeefdeeljoaa.Shp
