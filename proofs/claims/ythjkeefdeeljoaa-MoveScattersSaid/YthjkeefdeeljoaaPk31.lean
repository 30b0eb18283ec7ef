/- Contracts and lemmas that the row of this claim stands on: Offsets, Collect, Offset. -/
import Derived.Test.YthjkeefdeeljoaaPk23
import Derived.Test.YthjkeefdeeljoaaPk19
import Derived.Test.YthjkeefdeeljoaaPk6
import Derived.OwnWalkIn
import Derived.Test.YthjkeefdeeljoaaPk21
/- The iterator over the places of a view's cells. -/
namespace Go.Proofs.Ythjkeefdeeljoaa.Shp
open Go.RowKit Go.Shelf Go.Proofs.Ythjkeefdeeljoaa.Num
set_option linter.unusedVariables false
set_option linter.unusedSimpArgs false
attribute [local go_sem] Oper.semAt_some

/-- What a round must keep: the iterator's own blocks. -/
def KpG (G : Nat → Prop) (W W' : World) : Prop := (∀ b, G b → W'.heap[b]? = W.heap[b]?) ∧ W.heap.size ≤ W'.heap.size
theorem KpG.refl (G : Nat → Prop) (W : World) : KpG G W W := ⟨fun _ _ => rfl, Nat.le_refl _⟩
theorem KpG.trans {G : Nat → Prop} {X Y Z : World} (h : KpG G X Y) (k : KpG G Y Z) : KpG G X Z := ⟨fun b hb => (k.1 b hb).trans (h.1 b hb), Nat.le_trans h.2 k.2⟩
theorem KpG.put {G : Nat → Prop} (W : World) (l : Nat) (o' : Obj) (h : ∀ b, G b → l < b) : KpG G W (W.putObj l o') := ⟨fun b hb => World.putObj_heap_other (by have := h b hb; omega), by simp [World.putObj]⟩
theorem KpG.below {G : Nat → Prop} {W W' : World} (h : Below W.heap.size W W') (hG : ∀ b, G b → b < W.heap.size) : KpG G W W' := ⟨fun b hb => h.block b (hG b hb), h.size⟩
theorem KpG.set {G : Nat → Prop} {W : World} {p : Addr} (h : ¬ G p.block) (u : Value) : KpG G W (W.setCell p u) := ⟨fun b hb => Below.heap_setCell _ _ _ _ (fun e => h (by rw [← e]; exact hb)), by simp [World.setCell]⟩
theorem OdoN.same {g hi : Nat} {xs ys : List Int} {off0 : Int} {n m : Nat} {st : Bool} {w w' : World} (h : OdoN g hi xs ys off0 n m st w) (hs : ∀ b, g ≤ b → b < hi → w'.heap[b]? = w.heap[b]?) : OdoN g hi xs ys off0 n m st w' := by
  obtain ⟨A, ca, B, cb, p, h1, h2, h3, h4, h5, h6, h7⟩ := h
  refine ⟨A, ca, B, cb, p, (hs g (Nat.le_refl _) h6).trans h1, fun i hi' => ?_, fun i hi' => ?_, h4, h5, h6, h7⟩
  · obtain ⟨b, off, e, hc⟩ := h2 i hi'
    have := h4 b off e
    exact ⟨b, off, e, (World.cell?_of_block (hs b (by omega) (by omega))).trans hc⟩
  · obtain ⟨b, off, e, hc⟩ := h3 i hi'
    have := h5 b off e
    exact ⟨b, off, e, (World.cell?_of_block (hs b (by omega) (by omega))).trans hc⟩
/-- How many are to come, as the block tells. -/
def leftOf (w : World) (g : Nat) : Nat := match w.cell? ⟨g, 10, none⟩ with | some (.int _ k) => k.toNat | _ => 0
theorem OdoN.left {g hi : Nat} {xs ys : List Int} {off0 : Int} {n m : Nat} {st : Bool} {w : World} (h : OdoN g hi xs ys off0 n m st w) : leftOf w g = n - m := by
  obtain ⟨A, ca, B, cb, p, h1, _⟩ := h
  unfold leftOf
  rw [show w.cell? ⟨g, 10, none⟩ = some (.int .i64 ((n - m : Nat) : Int)) from h1.cell 10]
  simp
def okN : Value → Nat
  | .bool true => 1
  | _ => 0
/-- What stands in the loop's slots, m cells having been told. -/
def OffR (XS YS : List Int) (OFF : Int) (N g hi m : Nat) (t4 t5 : Value) (W : World) : Prop :=
  (m < N ∧ t4 = .int .i64 (plO XS YS OFF m) ∧ t5 = .bool true ∧ OdoN g hi XS YS OFF N (m + 1) true W) ∨ (m = N ∧ t4 = .int .i64 0 ∧ t5 = .bool false ∧ OdoN g hi XS YS OFF N N false W)
theorem next_any {g hi : Nat} {xs ys : List Int} {off0 : Int} {n m : Nat} {st : Bool} (w : World) (h : OdoN g hi xs ys off0 n m st w) (hv : m < n → vrB xs ys off0 = true ∧ (n : Int) ≤ prod xs) :
    Calls Try.prog 22 #[.pointer (some ⟨g, 0, none⟩)] w fun e w' => ∃ (a : Int) (b : Bool), e = .returned (.tuple #[.int .i64 a, .bool b]) ∧ Hid (OffR xs ys off0 n g hi m (.int .i64 a) (.bool b) w') ∧ Hid (Only g w w') := by
  have hmn : m ≤ n := by obtain ⟨A, ca, B, cb, p, h1, h2, h3, h4, h5, h6, h7, h8⟩ := h; exact h7
  by_cases hlt : m < n
  · refine (next_yes w h hlt (hv hlt).1 (hv hlt).2).mono ?_
    rintro e w' ⟨rfl, h1, h2⟩
    exact ⟨_, _, rfl, Lib.hid (.inl ⟨hlt, rfl, rfl, h1⟩), Lib.hid h2⟩
  · have : m = n := by omega
    refine (next_no w h this).mono ?_
    rintro e w' ⟨rfl, h1, h2⟩
    exact ⟨_, _, rfl, Lib.hid (.inr ⟨this, rfl, rfl, h1⟩), Lib.hid h2⟩

set_option maxRecDepth 100000 in
set_option maxHeartbeats 2000000 in
theorem offsets_in (n : Nat) (hn : 1 ≤ n) (xs ys : List Int) (off : Int) (A B : Option Addr) (ca cb q q2 Bv : Nat) (hq : xs.length = q) (hq2 : ys.length = q2) (hl : q ≤ 1000000) (hl2 : q2 ≤ 1000000)
    (XS YS : List Int) (OFF : Int) (N : Nat) (hXS : XS = shpN xs ys off) (hYS : YS = strN xs ys off) (hOFF : OFF = offN xs ys off) (hN : N = cellsN xs ys off)
    (l : Nat) (J Jx : (Nat → Prop) → Nat → World → Prop) (W : World) (hbv : Blk W Bv 34 #[.slice A q ca, .slice B q2 cb, .int .i64 off]) (hx : ReadsI W .i64 A xs) (hy : ReadsI W .i64 B ys)
    (hJ : ∀ G k A B, (∀ b, G b → W.heap.size ≤ b) → J G k A → Drift W.heap.size G A B → J G k B)
    (hY : ∀ G k W1, (∀ b, G b → W.heap.size ≤ b ∧ b < W1.heap.size) → J G k W1 → k < N → YieldAt Fence.wide (n - 1) Try.prog l #[.int .i64 (plO XS YS OFF k)] W1 fun e W' =>
      (e = .returned (.bool true) ∧ J G (k + 1) W' ∧ KpG G W1 W') ∨ (e = .returned (.bool false) ∧ Jx G (k + 1) W'))
    (h0 : ∀ G W1, Below W.heap.size W W1 → (∀ b, G b → W.heap.size ≤ b) → J G 0 W1) :
    CallsIn Fence.wide n Try.prog 57 #[.func (.yield l) #[] #[], .pointer (some ⟨Bv, 0, none⟩)] W fun e W' => (∃ v, e = .returned v) ∧ ∃ G : Nat → Prop, (∀ b, G b → W.heap.size ≤ b) ∧ (J G N W' ∨ ∃ k, k < N ∧ Jx G (k + 1) W') := by
  have hNW := onew_calls xs ys off A B ca cb q q2 W hx hy hq hq2 hl hl2
  rw [← hXS, ← hYS, ← hOFF, ← hN] at hNW
  have HNW := Lib.hid hNW
  have HV : Hid (∀ m, m < N → vrB XS YS OFF = true ∧ (N : Int) ≤ prod XS) := Lib.hid (fun m hm => by
    rw [hN] at hm ⊢
    rw [hXS, hYS, hOFF]
    unfold cellsN at hm ⊢
    unfold shpN strN offN
    by_cases hv : vrB xs ys off = true
    · rw [if_pos hv] at hm ⊢
      rw [if_pos hv, if_pos hv, if_pos hv]
      exact ⟨hv, by omega⟩
    · rw [if_neg hv] at hm
      omega)
  have b0 : W.cell? ⟨Bv, 0, none⟩ = some (.slice A q ca) := hbv.cell 0
  have b1 : W.cell? ⟨Bv, 1, none⟩ = some (.slice B q2 cb) := hbv.cell 1
  have b2 : W.cell? ⟨Bv, 2, none⟩ = some (.int .i64 off) := hbv.cell 2
  have HJ := Lib.hid hJ
  have HY := Lib.hid hY
  have H0 := Lib.hid h0
  clear hbv hx hy hXS hYS hOFF hN hq hq2 hJ hY h0 hNW
  refine callsIn_of_wp Try.func57 rfl trivial ?_ rfl
  simp only [Try.ntmps57, List.size_toArray, List.length_cons, List.length_nil, Nat.reduceAdd, Nat.reduceSub, Array.replicate_succ, Array.replicate_zero, List.push_toArray, List.append_toArray, List.nil_append, List.cons_append]
  gi_wp2_with fail
  refine ⟨trivial, ?_⟩
  refine (callsIn_wide.2 HNW.out).mono ?_
  rintro e w1 ⟨rfl, hO, hB⟩
  obtain ⟨g, hg⟩ : ∃ g, W.heap.size + 1 = g := ⟨_, rfl⟩
  rw [hg] at hO
  rw [hg]
  obtain ⟨H, hH⟩ : ∃ H, w1.heap.size = H := ⟨_, rfl⟩
  have hgH : g < H := by obtain ⟨A, ca, B, cb, p, h1, h2, h3, h4, h5, h6, h7⟩ := hO; omega
  obtain ⟨G, hG⟩ : ∃ G : Nat → Prop, G = fun b => W.heap.size ≤ b ∧ b < H := ⟨_, rfl⟩
  have HG1 : Hid (∀ b, G b → W.heap.size ≤ b) := Lib.hid (fun b hb => by rw [hG] at hb; exact hb.1)
  have HG2 : Hid (∀ b, G b → b < H) := Lib.hid (fun b hb => by rw [hG] at hb; exact hb.2)
  have HG3 : Hid (∀ b, g ≤ b → b < H → G b) := Lib.hid (fun b h1 h2 => by rw [hG]; exact ⟨by omega, h2⟩)
  have hj0 : J G 0 w1 := H0.out G w1 hB HG1.out
  have hs0 : W.heap.size ≤ w1.heap.size := hB.size
  rw [hH] at hO
  have HNX := Lib.hid (next_any (m := 0) w1 hO (HV.out 0))
  have HHW : Hid (H ≤ w1.heap.size) := Lib.hid (by omega)
  have HDR : Hid (∀ k X Y, W.heap.size ≤ X.heap.size → J G k X → Only g X Y → J G k Y) := Lib.hid (fun k X Y hs hj ho => HJ.out G k X Y HG1.out hj (Drift.of_only ho hs (by omega) (HG3.out g (Nat.le_refl _) hgH)))
  have HJ0 := Lib.hid hj0
  have HS0 := Lib.hid hs0
  have HGH := Lib.hid hgH
  have HGW : Hid (W.heap.size ≤ g) := Lib.hid (by omega)
  clear hO hB hg hH hG hj0 hs0 HNW HJ H0 b0 b1 b2 hgH
  gi_wp2_with fail
  refine ⟨trivial, ?_⟩
  refine (callsIn_wide.2 HNX.out).mono ?_
  rintro e w2 ⟨v4, v5, rfl, HR2, HO2⟩
  have HJ2 := Lib.hid (HDR.out 0 _ _ HS0.out HJ0.out HO2.out)
  have HS2 : Hid (W.heap.size ≤ w2.heap.size ∧ H ≤ w2.heap.size) := Lib.hid ⟨Nat.le_trans HS0.out HO2.out.size, Nat.le_trans HHW.out HO2.out.size⟩
  clear HNX HHW HJ0 HS0 HO2
  gi_wp2_with fail
  gi_loopw [4, 5] (fun t4 t5 wr => ∃ (m : Nat) (a : Int) (b : Bool), t4 = .int .i64 a ∧ t5 = .bool b ∧ Hid (OffR XS YS OFF N g H m (.int .i64 a) (.bool b) wr) ∧ Hid (J G m wr) ∧ Hid (W.heap.size ≤ wr.heap.size ∧ H ≤ wr.heap.size)) (fun t4 t5 wr => leftOf wr g + okN t5)
  case atStart => exact ⟨0, v4, v5, rfl, rfl, HR2, HJ2, HS2⟩
  case round =>
    obtain ⟨m, a, b, rfl, rfl, HR, HJm, HS⟩ := hrel
    rcases HR.out with ⟨hm, ha, hb, hO⟩ | ⟨hm, ha, hb, hO⟩
    · injection ha with _ ha
      injection hb with hb
      subst ha
      subst hb
      have hj := HJm.out
      obtain ⟨fn, tmps, assign, body, hy, hR⟩ := HY.out G m wr (fun b hb => ⟨HG1.out b hb, by have := HG2.out b hb; have := HS.out.2; omega⟩) hj hm
      have HO := Lib.hid hO
      have HM := Lib.hid hm
      have HL := Lib.hid hO.left
      clear hO hm hj HR
      gi_wp2
      refine hR.mono ?_
      rintro e w3 (⟨rfl, hJ3, hk3⟩ | ⟨rfl, hJx3⟩)
      · have hO3 := HO.out.same (w' := w3) (fun b h1 h2 => hk3.1 b (HG3.out b h1 h2))
        have hs3 := hk3.2
        have HNX3 := Lib.hid (next_any w3 hO3 (HV.out (m + 1)))
        have HJ3 := Lib.hid hJ3
        have HS3 : Hid (W.heap.size ≤ w3.heap.size ∧ H ≤ w3.heap.size) := Lib.hid ⟨by have := HS.out.1; omega, by have := HS.out.2; omega⟩
        clear hO3 hs3 hJ3 hk3 hR hy HJm HS HO
        gi_wp2_with fail
        refine ⟨trivial, ?_⟩
        refine (callsIn_wide.2 HNX3.out).mono ?_
        rintro e w4 ⟨a4, b4, rfl, HR4, HO4⟩
        have HJ4 := Lib.hid (HDR.out (m + 1) _ _ HS3.out.1 HJ3.out HO4.out)
        have HS4 : Hid (W.heap.size ≤ w4.heap.size ∧ H ≤ w4.heap.size) := Lib.hid ⟨Nat.le_trans HS3.out.1 HO4.out.size, Nat.le_trans HS3.out.2 HO4.out.size⟩
        clear HNX3 HJ3 HS3 HO4
        gi_wp2_with fail
        go_roundw
        case rel => exact ⟨m + 1, a4, b4, rfl, rfl, HR4, HJ4, HS4⟩
        case measure =>
          rw [HL.out]
          have hm := HM.out
          rcases HR4.out with ⟨h1, _, h3, h4⟩ | ⟨h1, _, h3, h4⟩
          · rw [h3, h4.left]
            simp only [okN]
            omega
          · rw [h3, h4.left]
            simp only [okN]
            omega
      · gi_wp2
        go_end0
        exact ⟨⟨_, rfl⟩, G, HG1.out, .inr ⟨m, HM.out, hJx3⟩⟩
    · injection ha with _ ha
      injection hb with hb
      subst ha
      subst hb
      have hj := HJm.out
      rw [hm] at hj
      have HJN := Lib.hid hj
      clear hj hO HR hm
      gi_wp2
      refine ⟨(fun f h => by cases h), ?_⟩
      gi_wp2
      go_end0
      exact ⟨⟨_, rfl⟩, G, HG1.out, .inl HJN.out⟩
theorem offsets_seq (n : Nat) (hn : 1 ≤ n) (xs ys : List Int) (off : Int) (A B : Option Addr) (ca cb q q2 Bv : Nat) (hq : xs.length = q) (hq2 : ys.length = q2) (hl : q ≤ 1000000) (hl2 : q2 ≤ 1000000)
    (w : World) (hbv : Blk w Bv 34 #[.slice A q ca, .slice B q2 cb, .int .i64 off]) (hx : ReadsI w .i64 A xs) (hy : ReadsI w .i64 B ys) :
    SeqAt Fence.wide n Try.prog 57 #[.pointer (some ⟨Bv, 0, none⟩)] (fun k => #[.int .i64 (plO (shpN xs ys off) (strN xs ys off) (offN xs ys off) k)]) (cellsN xs ys off) KpG w := fun l J Jx W hW hJ _ hY h0 =>
  offsets_in n hn xs ys off A B ca cb q q2 Bv hq hq2 hl hl2 _ _ _ _ rfl rfl rfl rfl l J Jx W (hbv.below' hW) (hx.below hW) (hy.below hW) hJ hY h0
end Go.Proofs.Ythjkeefdeeljoaa.Shp
/- slices.Collect over an iterator of whole numbers. -/
namespace Go.Proofs.Ythjkeefdeeljoaa
open Go Go.RowKit
section
variable {F : Fence} {n₀ : Nat} {P : Program} {w : World} {ops : Array Oper} {rest : List Oper} {o : Oper} {a : Act} {Q : Exit → Act → World → Prop}
/-- append(v, x) on an own row, behind a fence. -/
theorem wpListIn_app (hgd : o.guard = none) (s x : Operand) (t : TypeId) (ho : o.op = .call { callee := .builtin .append, args := #[s, x], argTypes := #[t, t] })
    (e : TypeId) (base : Nat) (z : Value) (size bytes : Nat) (ht : P.underlying t = some (.slice e)) (hinfo : (P.info? e).map (fun i => (i.zero, i.size, i.bytes)) = some (some z, size, bytes)) (hzs : z.cells.size = size) (hsz : 0 < size)
    (v : Value) (n : Nat) (xs : List Value) (hs : a.eval s = v) (hown : w.ownsRow base e size v n xs)
    (X : Option Addr) (m c : Nat) (news : List Value) (hx : a.eval x = .slice X m c) (hl : news.length = m * size) (hnews : Shows w X news) (h1 : ∀ u ∈ news, u.oneCell' = true)
    (h63 : n + m ≤ maxLen) (hbytes : (n + m) * bytes ≤ 140737488355328) (hbase : base ≤ w.heap.size)
    (h : ∀ v' w', w'.ownsRow base e size v' (n + m) (xs ++ news) → w.grownBy w' v.ownBlock → (v'.ownBlock = v.ownBlock ∨ v'.ownBlock = some w.heap.size) → wpListIn F n₀ P ops Q rest (a.put o.dst v') w') : wpListIn F n₀ P ops Q (o :: rest) a w := by
  refine wpListIn_plain hgd fun K hK => ?_
  obtain ⟨v', w', hrun, r1, r2, r3⟩ := run_app (P := P) t o.type e base z size bytes ht hinfo hzs hsz v n xs hown X m c news hl hnews h1 h63 hbytes hbase
  unfold Oper.wpIn
  refine ⟨by simp [Oper.about, ho, resolve, Target.leads, Sem.run_pure], ?_⟩
  rw [Oper.semAt_plain F _ _ (by rw [ho]; intro c hc; cases hc)]
  unfold execOp
  simp only [ho, resolve, invoke, builtin, Sem.run_bind, Sem.run_pure, Result.andThen_ok, List.map_toArray, List.map_cons, List.map_nil, hs, hx, hrun]
  exact hK _ _ (h v' w' r1 r2 r3)
end
end Go.Proofs.Ythjkeefdeeljoaa
namespace Go.Proofs.Ythjkeefdeeljoaa.Shp
open Go.RowKit Go.Shelf Go.Proofs.Ythjkeefdeeljoaa.Num
set_option linter.unusedVariables false
set_option linter.unusedSimpArgs false
attribute [local go_sem] Oper.semAt_some

/-- Between two rounds: what has been collected. -/
def ColI (f : Nat → Int) (w : World) (G : Nat → Prop) (k : Nat) (W : World) : Prop :=
  ∃ v, Blk W w.heap.size 22 #[v] ∧ OwnI W (w.heap.size + 1) 3 .i64 v ((List.range k).map f) ∧ (∀ b, v.ownBlock = some b → ¬ G b) ∧ Below w.heap.size w W ∧ w.heap.size + 1 ≤ W.heap.size
theorem keeps_grown {W W' : World} {row : Option Nat} {t : TypeId} (h : W.grownBy W' row) (hr : ∀ r, row = some r → ∃ cs, Blk W r t cs) : KeepsOthers W W' := ⟨h.size, fun k o hk ho => (h.block k (Array.getElem?_eq_some_iff.1 hk).1 (fun e => by
  obtain ⟨cs, hb⟩ := hr k e.symm
  rw [show W.heap[k]? = some (.cells cs t (0, 0)) from hb] at hk
  cases hk
  cases ho)).trans hk⟩
theorem own_row {W : World} {base : Nat} {e : TypeId} {size n : Nat} {v : Value} {xs : List Value} (h : W.ownsRow base e size v n xs) : ∀ r, v.ownBlock = some r → ∃ cs, Blk W r e cs := fun r hr => by
  rcases h.2 with ⟨rfl, _⟩ | ⟨g, cap, cur, rfl, _, hc, _⟩
  · cases hr
  · have : g = r := by simpa [Value.ownBlock] using hr
    subst this
    exact ⟨cur, hc⟩
theorem own_slice {W : World} {base : Nat} {e : TypeId} {size n : Nat} {v : Value} {xs : List Value} (h : W.ownsRow base e size v n xs) : ∃ A c, v = .slice A n c := by
  rcases h.2 with ⟨rfl, rfl⟩ | ⟨g, cap, cur, rfl, _⟩
  · exact ⟨none, 0, rfl⟩
  · exact ⟨_, _, rfl⟩
theorem own_drift {W W' : World} {B base : Nat} {G : Nat → Prop} {e : TypeId} {size n : Nat} {v : Value} {xs : List Value} (h : W.ownsRow base e size v n xs) (hd : Drift B G W W') (hv : ∀ b, v.ownBlock = some b → ¬ G b) : W'.ownsRow base e size v n xs := by
  refine ⟨h.1, ?_⟩
  rcases h.2 with hn | ⟨g, cap, cur, h1, h2, h3, h4⟩
  · exact .inl hn
  · exact .inr ⟨g, cap, cur, h1, h2, hd.blk (t := e) h3 (hv g (by rw [h1]; rfl)), h4⟩
theorem ColI.drift {f : Nat → Int} {w : World} {G : Nat → Prop} {k : Nat} {B : Nat} {X Y : World} (hG : ∀ b, G b → B ≤ b) (hB : w.heap.size + 1 ≤ B) (h : ColI f w G k X) (hd : Drift B G X Y) : ColI f w G k Y := by
  obtain ⟨v, h1, h2, h3, h4, h5⟩ := h
  exact ⟨v, hd.blk h1 (fun h => by have := hG _ h; omega), own_drift h2 hd h3, h3, h4.trans ⟨hd.os, hd.tape, hd.output, hd.size, fun k hk => hd.low k (by omega)⟩, Nat.le_trans h5 hd.size⟩

set_option maxRecDepth 100000 in
set_option maxHeartbeats 2000000 in
theorem appendSeq_calls (f : Nat → Int) (N : Nat) (hN : N ≤ 1048576) (gf : FuncId) (lb : Array Value) (w : World) (hgf : Fun Try.prog gf)
    (hseq : SeqAt Fence.wide 4 Try.prog gf lb (fun k => #[.int .i64 (f k)]) N KpG w) :
    Calls Try.prog 129 #[.slice none 0 0, .func (.func gf) #[] lb] w fun e w' => (∃ v, e = .returned v ∧ OwnI w' w.heap.size 3 .i64 v ((List.range N).map f)) ∧ Below w.heap.size w w' := by
  refine (callsIn_wide (n := 5)).1 ?_
  refine callsIn_of_wp_marks Try.func129 rfl trivial ?_ rfl
  simp only [Try.ntmps129, List.size_toArray, List.length_cons, List.length_nil, Nat.reduceAdd, Nat.reduceSub, Array.replicate_succ, Array.replicate_zero, List.push_toArray, List.append_toArray, List.nil_append, List.cons_append]
  gi_wp2_with fail
  obtain ⟨W0, hW0⟩ : ∃ W0, W0 = w.alloc (.cells #[.slice none 0 0] 22) := ⟨_, rfl⟩
  have hB0 : Below w.heap.size w W0 := by rw [hW0]; exact bl_alloc (Below.refl _ _) _
  have hs0 : W0.heap.size = w.heap.size + 1 := by rw [hW0]; simp
  have hbk : Blk W0 w.heap.size 22 #[.slice none 0 0] := by rw [hW0]; exact Blk.new _ _ _
  rw [← hW0]
  clear hW0
  have HB0 := Lib.hid hB0
  have HBK := Lib.hid hbk
  refine wpIn_rangeFunc_at rfl (by omega) rfl trivial hgf hseq (fun h k => h.trans k) (fun G W l o o' h _ _ _ _ => KpG.put W l o' h) hB0 (fun _ => rfl) (ColI f w) (fun _ _ _ _ => False)
    (fun G k X Y hG h hd => h.drift hG (by omega) hd) (fun _ _ _ _ _ _ h _ => h)
    (fun G W1 hb hG => ⟨.slice none 0 0, hbk.below' hb, ownI_nil _ _ _ _, (fun b h => by cases h), HB0.out.trans (hb.mono HB0.out.size), by have := hb.size; omega⟩)
    (fun k => { tmps := #[.slice none 0 0, .func (.func gf) #[] lb, .pointer (some ⟨w.heap.size, 0, none⟩), undef, .slice none 0 0, .int .i64 (f k), .func (.func gf) #[] lb, .int .i64 (f k), undef, undef, undef, undef, undef], defers := [] }) ?assign ?body ?done ?stop
  case assign =>
    intro l k W K hK
    gi_wp2
    exact hK
  case body =>
    rintro l k G W hG hsz ⟨v, h1, h2, h3, h4, h5⟩ hk
    have hlen : ((List.range k).map f).length = k := by simp
    have hown : (W.alloc (.cells #[.int .i64 (f k)] 3)).ownsRow (w.heap.size + 1) 3 1 v k (((List.range k).map f).map (Value.int .i64)) := by
      have h := h2.alloc (.cells #[.int .i64 (f k)] 3)
      rwa [hlen] at h
    have hsh : Shows (W.alloc (.cells #[.int .i64 (f k)] 3)) (some ⟨W.heap.size, 0, none⟩) [.int .i64 (f k)] := Shows.of_blk (Blk.new W 3 #[.int .i64 (f k)])
    have e0 : W.cell? ⟨w.heap.size, 0, none⟩ = some v := h1.cell 0
    have e0' : (W.alloc (.cells #[.int .i64 (f k)] 3)).cell? ⟨w.heap.size, 0, none⟩ = some v := (h1.alloc _).cell 0
    have hne : some w.heap.size ≠ v.ownBlock := fun e => by
      have := (own_lt hown _ e.symm).1
      omega
    have HOWN := Lib.hid hown
    have HSH := Lib.hid hsh
    have HNE := Lib.hid hne
    have HB1 := Lib.hid h1
    have HV3 := Lib.hid h3
    have HB4 := Lib.hid h4
    have HG := Lib.hid hG
    have HOLD := Lib.hid h2
    clear h1 h2 h3 h4 hown hsh hne hG hseq hlen
    gi_wp2_with (gi_at_builtin; go_must (refine wpListIn_app rfl (.tmp 8) (.tmp 10) 22 rfl 3 (w.heap.size + 1) (.int .i64 0) 1 8 Try.underlying22 (info_i trivial) rfl (by decide) v k _ rfl HOWN.out (some ⟨W.heap.size, 0, none⟩) 1 1 [.int .i64 (f k)] rfl rfl HSH.out (by simp [Value.oneCell']) (by simp only [maxLen]; omega) (by omega) (by simp; omega) ?_); intro v1 w1 hown1 hg1 hb1; obtain ⟨A1, c1, rfl⟩ := own_slice hown1; have hbk1 := (HB1.out.alloc (.cells #[.int .i64 (f k)] 3)).grown hg1 HNE.out; have k0 := hbk1.cell 0; have k0f := hbk1.frozen 0; have HBK1 := Lib.hid hbk1; have HOWN1 := Lib.hid hown1; have HG1 := Lib.hid hg1; have HBB1 := Lib.hid hb1; clear hbk1 hown1 hg1 hb1)
    have hGn : ¬ G w.heap.size := fun h => by have := (HG.out _ h).1; omega
    have hlow : Below w.heap.size w w1 := bl_grown (bl_alloc HB4.out _) HG1.out (fun r hr => by have := (own_lt HOWN.out r hr).1; omega)
    have hown2 := HOWN1.out
    have hsz1 : W.heap.size + 1 ≤ w1.heap.size := by have := HG1.out.size; simpa using this
    refine ⟨((KeepsOthers.alloc W _).trans ((keeps_grown (t := 3) HG1.out (own_row HOWN.out)).trans (KeepsOthers.setCell _ _ _))).from _, ?_, ?_⟩
    · refine ⟨fun b hb => ?_, by simp [World.setCell]; omega⟩
      have hbW := (HG.out b hb).2
      have hbn : b ≠ w.heap.size := fun e => hGn (e ▸ hb)
      have hbv : some b ≠ v.ownBlock := fun e => HV3.out b e.symm hb
      exact (Below.heap_setCell _ _ _ _ hbn).trans ((HG1.out.block b (by simp; omega) hbv).trans (Below.heap_alloc _ _ _ hbW))
    · refine ⟨.slice A1 (k + 1) c1, HBK1.out.one _, ?_, fun b hb hg => ?_, bl_set hlow (by simp) _, by simp [World.setCell]; omega⟩
      · have e1 : (List.range (k + 1)).map f = (List.range k).map f ++ [f k] := by rw [List.range_succ, List.map_append]; rfl
        rw [e1]
        refine OwnI.snoc ?_
        have hlen : ((List.range k).map f).length = k := by simp
        rw [hlen]
        exact own_far (p := ⟨w.heap.size, 0, none⟩) hown2 HBK1.out (by decide) _
      · rcases HBB1.out with h | h
        · exact HV3.out b (by rw [← h]; exact hb) hg
        · rw [hb] at h
          injection h with h
          have := (HG.out b hg).2
          simp at h
          omega
  case done =>
    rintro D G W hD hG ⟨v, h1, h2, h3, h4, h5⟩ hK
    have e0 : W.cell? ⟨w.heap.size, 0, none⟩ = some v := h1.cell 0
    have HOW := Lib.hid h2
    have HB4 := Lib.hid h4
    clear h1 h2 h3 h4 hseq
    gi_wp2
    refine ⟨by simp, .inl ⟨_, _, rfl, run_takeDeferred hK, ?_⟩⟩
    have hg := grownBy_putObj' W D (.deferred none)
    have hr : ∀ r, some D = some r → ∃ o : Obj, W.heap[r]? = some o ∧ o.isCells = false := fun r e => by cases e; exact ⟨_, hK, rfl⟩
    refine ⟨v, ?_, ⟨v, rfl, ownI_lower (own_kept HOW.out hg hr) (by omega)⟩, HB4.out.trans (belowK_b (w := w) (Nat.le_refl _) _ D _ _ (by omega) hK rfl rfl)⟩
    simp [results, Try.f129, go_sem]
  case stop =>
    intro D c G k W _ _ _ h
    exact h.elim
end Go.Proofs.Ythjkeefdeeljoaa.Shp
/- Where a cell of a view stands. -/
namespace Go.Proofs.Ythjkeefdeeljoaa.Shp
open Go.RowKit Go.Proofs.Ythjkeefdeeljoaa.Num
set_option linter.unusedVariables false
set_option linter.unusedSimpArgs false

def dotI (ps ys : List Int) : Nat → Int
  | 0 => 0
  | k + 1 => dotI ps ys k + nth ps k * nth ys k
theorem dotI_bd (xs ps ys : List Int) (h1 : ∀ j, j < xs.length → 0 ≤ nth ps j ∧ nth ps j ≤ 1048576) (h2 : ∀ j, j < xs.length → -1048576 ≤ nth ys j ∧ nth ys j ≤ 1048576) : ∀ k, k ≤ xs.length → -((k : Int) * 1099511627776) ≤ dotI ps ys k ∧ dotI ps ys k ≤ (k : Int) * 1099511627776
  | 0, _ => by simp [dotI]
  | k + 1, hk => by
    obtain ⟨i1, i2⟩ := dotI_bd xs ps ys h1 h2 k (by omega)
    have h3 := h1 k (by omega)
    have h4 := h2 k (by omega)
    have h5 := mul_bd h3.1 h3.2 h4.1 h4.2
    unfold dotI
    rw [show ((k + 1 : Nat) : Int) = (k : Int) + 1 from rfl]
    omega
theorem dotI_dig (xs ys : List Int) (p : Nat) : ∀ k, k ≤ xs.length → dotI (digL xs p) ys k = dotF (digF xs p) ys k
  | 0, _ => rfl
  | k + 1, h => by unfold dotI dotF; rw [dotI_dig xs ys p k (by omega), digL_nth xs p k (by omega)]
set_option maxHeartbeats 1000000 in
theorem offset_yes (xs ys ps : List Int) (off : Int) (A B C : Option Addr) (ca cb cc n m q : Nat) (w : World) (hx : ReadsI w .i64 A xs) (hy : ReadsI w .i64 B ys) (hp : ReadsI w .i64 C ps) (hn : xs.length = n) (hm : ys.length = m) (hq : ps.length = q) (hv : vrB xs ys off = true) (hh : hasB xs ps = true) :
    Calls Try.prog 23 #[.agg #[.slice A n ca, .slice B m cb, .int .i64 off], .slice C q cc] w fun e w' => e = .returned (.tuple #[.int .i64 (off + dotI ps ys q), .bool true]) ∧ Below w.heap.size w w' := by
  obtain ⟨v1, v2, v3, v4, v5⟩ := vrB_out hv
  obtain ⟨h1, h2, h3⟩ := has_mem hh
  have hm6 := rightB_mem h1
  obtain rfl : q = n := by omega
  obtain rfl : m = q := by omega
  have hbd := dotI_bd xs ps ys (fun j hj => by have := h3 j hj; have := (hm6.2 _ (nth_mem xs j hj)).2; omega) (fun j hj => near_mem v3 _ (nth_mem ys j (by omega)))
  rw [hn] at hbd h3
  have hl6 : m ≤ 6 := by omega
  have HB0 : Hid (Below w.heap.size w (w.alloc (.cells #[.slice A m ca, .slice B m cb, .int .i64 off] 34))) := Lib.hid (bl_alloc (Below.refl _ _) _)
  have hR := vright_calls xs ys off A B ca cb m m _ (hx.below HB0.out) (hy.below HB0.out) hn hm (by omega) (by omega)
  rw [hv] at hR
  have HR := Lib.hid hR
  have HH := Lib.hid (fun w' h h' => has_calls xs ps A C ca cc w' h h' (by omega) (by omega))
  rw [hh, hn, hq] at HH
  have HX := Lib.hid (hx.below HB0.out)
  have HP := Lib.hid (hp.below HB0.out)
  have HY := Lib.hid (hy.below HB0.out)
  have HBD := Lib.hid hbd
  have HMM := Lib.hid hm
  have HQQ := Lib.hid hq
  have HV3 := Lib.hid v3
  have HP3 := Lib.hid h3
  have HX2 := Lib.hid (fun j hj => (hm6.2 _ (nth_mem xs j hj)).2)
  have HNN := Lib.hid hn
  have hbox : (w.alloc (.cells #[.slice A m ca, .slice B m cb, .int .i64 off] 34)).heap.size = w.heap.size + 1 := by simp
  have hbx1 : (w.alloc (.cells #[.slice A m ca, .slice B m cb, .int .i64 off] 34)).cell? ⟨w.heap.size, 1, none⟩ = some (.slice B m cb) := by rw [World.cell?_alloc_at _ _ _ _ rfl]; rfl
  have hbx2 : (w.alloc (.cells #[.slice A m ca, .slice B m cb, .int .i64 off] 34)).cell? ⟨w.heap.size, 2, none⟩ = some (.int .i64 off) := by rw [World.cell?_alloc_at _ _ _ _ rfl]; rfl
  have HX1 := Lib.hid hbx1
  have HX22 := Lib.hid hbx2
  have HBOX := Lib.hid hbox
  clear hx hy hp hn hm hq hv hh v1 v2 v3 h1 h2 h3 hm6 hbd hR hbox hbx1 hbx2
  go_enter Try.func23, Try.ntmps23
  go_wp2_with fail
  refine HR.out.mono ?_
  rintro e w1 ⟨rfl, hB⟩
  obtain ⟨hc, hf⟩ := bcell hB
  have c1 := (hc _ 1 (by rw [HBOX.out]; omega)).trans HX1.out
  have c2 := (hc _ 2 (by rw [HBOX.out]; omega)).trans HX22.out
  have HXW := Lib.hid (HX.out.below hB)
  have HPW := Lib.hid (HP.out.below hB)
  have HYW := Lib.hid (HY.out.below hB)
  have HB1 := Lib.hid (bl_then HB0.out hB)
  clear hB
  go_wp2_with fail
  refine (HH.out _ HXW.out HPW.out).mono ?_
  rintro e w2 ⟨rfl, rfl⟩
  go_wp2_with fail
  go_loop [6, 7, 8, 23] (fun s _ _ i => ∃ k : Nat, i = .int .i64 k ∧ k ≤ m ∧ s = .int .i64 (off + dotI ps ys k)) (fun _ _ _ i => m - (intOf i).toNat)
  case atStart => exact ⟨0, rfl, Nat.zero_le _, by simp [dotI]⟩
  case round =>
    obtain ⟨k, rfl, hk, rfl⟩ := hrel
    by_cases hlt : k < m
    · obtain ⟨b2, o2, rfl, hc2⟩ := HPW.out k (by rw [HQQ.out]; exact hlt)
      obtain ⟨b3, o3, rfl, hc3⟩ := HYW.out k (by rw [HMM.out]; exact hlt)
      obtain ⟨pa, pb⟩ := HBD.out k hk
      obtain ⟨qa, qb⟩ := HBD.out (k + 1) hlt
      have hst : dotI ps ys (k + 1) = dotI ps ys k + nth ps k * nth ys k := rfl
      rw [hst] at qa qb
      have a1 := HP3.out k hlt
      have a2 := HX2.out k (by rw [HNN.out]; exact hlt)
      have a3 := near_mem HV3.out _ (nth_mem ys k (by rw [HMM.out]; exact hlt))
      have mb := mul_bd a1.1 (show nth ps k ≤ 1048576 by omega) a3.1 a3.2
      have HST := Lib.hid hst
      clear hst a1 a2 a3
      generalize dotI ps ys k = s at *
      generalize nth ps k = a at *
      generalize nth ys k = b at *
      obtain ⟨t, ht⟩ : ∃ t, a * b = t := ⟨_, rfl⟩
      rw [ht] at mb qa qb HST
      have w1' : IntKind.i64.wrap t = t := by rw [IntKind.wrap_i64]; omega
      have w2' : IntKind.i64.wrap (off + s + t) = off + s + t := by rw [IntKind.wrap_i64]; omega
      go_wp2_with fail
      go_round
      case measure => first | (simp [intOf]; done) | (simp [intOf]; omega)
      case rel => exact ⟨k + 1, by go_num, by omega, by rw [HST.out, ← Int.add_assoc]⟩
    · obtain rfl : k = m := by omega
      go_wp2_with fail
      go_ret2
      exact ⟨rfl, HB1.out⟩
theorem offset_no (xs ys ps : List Int) (off : Int) (A B C : Option Addr) (ca cb cc n m q : Nat) (w : World) (hx : ReadsI w .i64 A xs) (hy : ReadsI w .i64 B ys) (hp : ReadsI w .i64 C ps) (hn : xs.length = n) (hm : ys.length = m) (hq : ps.length = q) (hl1 : n ≤ 1000000) (hl2 : m ≤ 1000000) (hl3 : q ≤ 1000000) (hh : (vrB xs ys off && hasB xs ps) = false) :
    Calls Try.prog 23 #[.agg #[.slice A n ca, .slice B m cb, .int .i64 off], .slice C q cc] w fun e w' => e = .returned (.tuple #[.int .i64 0, .bool false]) ∧ Below w.heap.size w w' := by
  have HB0 : Hid (Below w.heap.size w (w.alloc (.cells #[.slice A n ca, .slice B m cb, .int .i64 off] 34))) := Lib.hid (bl_alloc (Below.refl _ _) _)
  have hR := vright_calls xs ys off A B ca cb n m _ (hx.below HB0.out) (hy.below HB0.out) hn hm hl1 hl2
  have HH := Lib.hid (fun w' h h' => has_calls xs ps A C ca cc w' h h' (by omega) (by omega))
  rw [hn, hq] at HH
  have HX := Lib.hid (hx.below HB0.out)
  have HP := Lib.hid (hp.below HB0.out)
  have hbox : (w.alloc (.cells #[.slice A n ca, .slice B m cb, .int .i64 off] 34)).heap.size = w.heap.size + 1 := by simp
  have hbx0 : (w.alloc (.cells #[.slice A n ca, .slice B m cb, .int .i64 off] 34)).cell? ⟨w.heap.size, 0, none⟩ = some (.slice A n ca) := by rw [World.cell?_alloc_at _ _ _ _ rfl]; rfl
  have HX0 := Lib.hid hbx0
  have HBOX := Lib.hid hbox
  cases hv : vrB xs ys off with
  | false =>
    rw [hv] at hR
    have HR := Lib.hid hR
    clear hx hy hp hn hm hq hv hh hR hbox hbx0 HH
    go_enter Try.func23, Try.ntmps23
    go_wp2_with fail
    refine HR.out.mono ?_
    rintro e w1 ⟨rfl, hB⟩
    have HB1 := Lib.hid (bl_then HB0.out hB)
    clear hB
    go_wp2_with fail
    go_ret2
    exact ⟨rfl, HB1.out⟩
  | true =>
    have hh2 : hasB xs ps = false := by rw [hv] at hh; simpa using hh
    rw [hv] at hR
    rw [hh2] at HH
    have HR := Lib.hid hR
    clear hx hy hp hn hm hq hv hh hh2 hR hbox hbx0
    go_enter Try.func23, Try.ntmps23
    go_wp2_with fail
    refine HR.out.mono ?_
    rintro e w1 ⟨rfl, hB⟩
    obtain ⟨hc, hf⟩ := bcell hB
    have c0 := (hc _ 0 (by rw [HBOX.out]; omega)).trans HX0.out
    have HXW := Lib.hid (HX.out.below hB)
    have HPW := Lib.hid (HP.out.below hB)
    have HB1 := Lib.hid (bl_then HB0.out hB)
    clear hB
    go_wp2_with fail
    refine (HH.out _ HXW.out HPW.out).mono ?_
    rintro e w2 ⟨rfl, rfl⟩
    go_wp2_with fail
    go_ret2
    exact ⟨rfl, HB1.out⟩
end Go.Proofs.Ythjkeefdeeljoaa.Shp
