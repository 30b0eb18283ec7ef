/- slices.Collect over an iterator of whole numbers. -/
import Derived.Test.YthjkeefdeeljoaaOffsets
import Derived.Test.YthjkeefdeeljoaaApp
import Derived.OwnWalkIn
namespace Go.Proofs.Ythjkeefdeeljoaa
open Go Go.RowKit
section
variable {F : Fence} {n₀ : Nat} {P : Program} {w : World} {ops : Array Oper} {rest : List Oper} {o : Oper} {a : Act} {Q : Exit → Act → World → Prop}
/-- append(v, x) on an own row, behind a fence. -/
theorem wpListIn_app (hgd : o.guard = none) (s x : Operand) (t : TypeId) (ho : o.op = .call { callee := .builtin .append, args := #[s, x], argTypes := #[t, t] })
    (e : TypeId) (base : Nat) (z : Value) (size bytes : Nat) (ht : P.underlying t = some (.slice e)) (hinfo : (P.info? e).map (fun i => (i.zero, i.size, i.bytes)) = some (some z, size, bytes)) (hzs : z.cells.size = size) (hsz : 0 < size)
    (v : Value) (n : Nat) (xs : List Value) (hs : a.eval s = v) (hown : w.ownsRow base e size v n xs)
    (X : Option Addr) (m c : Nat) (news : List Value) (hx : a.eval x = .slice X m c) (hl : news.length = m * size) (hnews : Shows w X news) (h1 : ∀ u ∈ news, u.oneCell' = true)
    (h63 : n + m ≤ maxLen) (hbytes : (n + m) * bytes ≤ 140737488355328) (hbase : base ≤ w.heap.size)
    (h : ∀ v' w', w'.ownsRow base e size v' (n + m) (xs ++ news) → w.grownBy w' v.ownBlock → (v'.ownBlock = v.ownBlock ∨ v'.ownBlock = some w.heap.size) → wpListIn F n₀ P ops Q rest (a.put o.dst v') w') : wpListIn F n₀ P ops Q (o :: rest) a w := by
  refine wpListIn_plain hgd fun K hK => ?_
  obtain ⟨v', w', hrun, r1, r2, r3⟩ := run_app (P := P) t o.type e base z size bytes ht hinfo hzs hsz v n xs hown X m c news hl hnews h1 h63 hbytes hbase
  unfold Oper.wpIn
  refine ⟨by simp [Oper.about, ho, resolve, Target.leads, Sem.run_pure], ?_⟩
  rw [Oper.semAt_plain F _ _ (by rw [ho]; intro c hc; cases hc)]
  unfold execOp
  simp only [ho, resolve, invoke, builtin, Sem.run_bind, Sem.run_pure, Result.andThen_ok, List.map_toArray, List.map_cons, List.map_nil, hs, hx, hrun]
  exact hK _ _ (h v' w' r1 r2 r3)
end
end Go.Proofs.Ythjkeefdeeljoaa
namespace Go.Proofs.Ythjkeefdeeljoaa.Shp
open Go.RowKit Go.Shelf Go.Proofs.Ythjkeefdeeljoaa.Num
set_option linter.unusedVariables false
set_option linter.unusedSimpArgs false
attribute [local go_sem] Oper.semAt_some

/-- Between two rounds: what has been collected. -/
def ColI (f : Nat → Int) (w : World) (G : Nat → Prop) (k : Nat) (W : World) : Prop :=
  ∃ v, Blk W w.heap.size 22 #[v] ∧ OwnI W (w.heap.size + 1) 3 .i64 v ((List.range k).map f) ∧ (∀ b, v.ownBlock = some b → ¬ G b) ∧ Below w.heap.size w W ∧ w.heap.size + 1 ≤ W.heap.size
theorem keeps_grown {W W' : World} {row : Option Nat} {t : TypeId} (h : W.grownBy W' row) (hr : ∀ r, row = some r → ∃ cs, Blk W r t cs) : KeepsOthers W W' := ⟨h.size, fun k o hk ho => (h.block k (Array.getElem?_eq_some_iff.1 hk).1 (fun e => by
  obtain ⟨cs, hb⟩ := hr k e.symm
  rw [show W.heap[k]? = some (.cells cs t (0, 0)) from hb] at hk
  cases hk
  cases ho)).trans hk⟩
theorem own_row {W : World} {base : Nat} {e : TypeId} {size n : Nat} {v : Value} {xs : List Value} (h : W.ownsRow base e size v n xs) : ∀ r, v.ownBlock = some r → ∃ cs, Blk W r e cs := fun r hr => by
  rcases h.2 with ⟨rfl, _⟩ | ⟨g, cap, cur, rfl, _, hc, _⟩
  · cases hr
  · have : g = r := by simpa [Value.ownBlock] using hr
    subst this
    exact ⟨cur, hc⟩
theorem own_slice {W : World} {base : Nat} {e : TypeId} {size n : Nat} {v : Value} {xs : List Value} (h : W.ownsRow base e size v n xs) : ∃ A c, v = .slice A n c := by
  rcases h.2 with ⟨rfl, rfl⟩ | ⟨g, cap, cur, rfl, _⟩
  · exact ⟨none, 0, rfl⟩
  · exact ⟨_, _, rfl⟩
theorem own_drift {W W' : World} {B base : Nat} {G : Nat → Prop} {e : TypeId} {size n : Nat} {v : Value} {xs : List Value} (h : W.ownsRow base e size v n xs) (hd : Drift B G W W') (hv : ∀ b, v.ownBlock = some b → ¬ G b) : W'.ownsRow base e size v n xs := by
  refine ⟨h.1, ?_⟩
  rcases h.2 with hn | ⟨g, cap, cur, h1, h2, h3, h4⟩
  · exact .inl hn
  · exact .inr ⟨g, cap, cur, h1, h2, hd.blk (t := e) h3 (hv g (by rw [h1]; rfl)), h4⟩
theorem ColI.drift {f : Nat → Int} {w : World} {G : Nat → Prop} {k : Nat} {B : Nat} {X Y : World} (hG : ∀ b, G b → B ≤ b) (hB : w.heap.size + 1 ≤ B) (h : ColI f w G k X) (hd : Drift B G X Y) : ColI f w G k Y := by
  obtain ⟨v, h1, h2, h3, h4, h5⟩ := h
  exact ⟨v, hd.blk h1 (fun h => by have := hG _ h; omega), own_drift h2 hd h3, h3, h4.trans ⟨hd.os, hd.tape, hd.output, hd.size, fun k hk => hd.low k (by omega)⟩, Nat.le_trans h5 hd.size⟩

set_option maxRecDepth 100000 in
set_option maxHeartbeats 2000000 in
theorem appendSeq_calls (f : Nat → Int) (N : Nat) (hN : N ≤ 1048576) (gf : FuncId) (lb : Array Value) (w : World) (hgf : Fun Try.prog gf)
    (hseq : SeqAt Fence.wide 4 Try.prog gf lb (fun k => #[.int .i64 (f k)]) N KpG w) :
    Calls Try.prog 129 #[.slice none 0 0, .func (.func gf) #[] lb] w fun e w' => (∃ v, e = .returned v ∧ OwnI w' w.heap.size 3 .i64 v ((List.range N).map f)) ∧ Below w.heap.size w w' := by
  refine (callsIn_wide (n := 5)).1 ?_
  refine callsIn_of_wp_marks Try.func129 rfl trivial ?_ rfl
  simp only [Try.ntmps129, List.size_toArray, List.length_cons, List.length_nil, Nat.reduceAdd, Nat.reduceSub, Array.replicate_succ, Array.replicate_zero, List.push_toArray, List.append_toArray, List.nil_append, List.cons_append]
  gi_wp2_with fail
  obtain ⟨W0, hW0⟩ : ∃ W0, W0 = w.alloc (.cells #[.slice none 0 0] 22) := ⟨_, rfl⟩
  have hB0 : Below w.heap.size w W0 := by rw [hW0]; exact bl_alloc (Below.refl _ _) _
  have hs0 : W0.heap.size = w.heap.size + 1 := by rw [hW0]; simp
  have hbk : Blk W0 w.heap.size 22 #[.slice none 0 0] := by rw [hW0]; exact Blk.new _ _ _
  rw [← hW0]
  clear hW0
  have HB0 := Lib.hid hB0
  have HBK := Lib.hid hbk
  refine wpIn_rangeFunc_at rfl (by omega) rfl trivial hgf hseq (fun h k => h.trans k) (fun G W l o o' h _ _ _ _ => KpG.put W l o' h) hB0 (fun _ => rfl) (ColI f w) (fun _ _ _ _ => False)
    (fun G k X Y hG h hd => h.drift hG (by omega) hd) (fun _ _ _ _ _ _ h _ => h)
    (fun G W1 hb hG => ⟨.slice none 0 0, hbk.below' hb, ownI_nil _ _ _ _, (fun b h => by cases h), HB0.out.trans (hb.mono HB0.out.size), by have := hb.size; omega⟩)
    (fun k => { tmps := #[.slice none 0 0, .func (.func gf) #[] lb, .pointer (some ⟨w.heap.size, 0, none⟩), undef, .slice none 0 0, .int .i64 (f k), .func (.func gf) #[] lb, .int .i64 (f k), undef, undef, undef, undef, undef], defers := [] }) ?assign ?body ?done ?stop
  case assign =>
    intro l k W K hK
    gi_wp2
    exact hK
  case body =>
    rintro l k G W hG hsz ⟨v, h1, h2, h3, h4, h5⟩ hk
    have hlen : ((List.range k).map f).length = k := by simp
    have hown : (W.alloc (.cells #[.int .i64 (f k)] 3)).ownsRow (w.heap.size + 1) 3 1 v k (((List.range k).map f).map (Value.int .i64)) := by
      have h := h2.alloc (.cells #[.int .i64 (f k)] 3)
      rwa [hlen] at h
    have hsh : Shows (W.alloc (.cells #[.int .i64 (f k)] 3)) (some ⟨W.heap.size, 0, none⟩) [.int .i64 (f k)] := Shows.of_blk (Blk.new W 3 #[.int .i64 (f k)])
    have e0 : W.cell? ⟨w.heap.size, 0, none⟩ = some v := h1.cell 0
    have e0' : (W.alloc (.cells #[.int .i64 (f k)] 3)).cell? ⟨w.heap.size, 0, none⟩ = some v := (h1.alloc _).cell 0
    have hne : some w.heap.size ≠ v.ownBlock := fun e => by
      have := (own_lt hown _ e.symm).1
      omega
    have HOWN := Lib.hid hown
    have HSH := Lib.hid hsh
    have HNE := Lib.hid hne
    have HB1 := Lib.hid h1
    have HV3 := Lib.hid h3
    have HB4 := Lib.hid h4
    have HG := Lib.hid hG
    have HOLD := Lib.hid h2
    clear h1 h2 h3 h4 hown hsh hne hG hseq hlen
    gi_wp2_with (gi_at_builtin; go_must (refine wpListIn_app rfl (.tmp 8) (.tmp 10) 22 rfl 3 (w.heap.size + 1) (.int .i64 0) 1 8 Try.underlying22 (info_i trivial) rfl (by decide) v k _ rfl HOWN.out (some ⟨W.heap.size, 0, none⟩) 1 1 [.int .i64 (f k)] rfl rfl HSH.out (by simp [Value.oneCell']) (by simp only [maxLen]; omega) (by omega) (by simp; omega) ?_); intro v1 w1 hown1 hg1 hb1; obtain ⟨A1, c1, rfl⟩ := own_slice hown1; have hbk1 := (HB1.out.alloc (.cells #[.int .i64 (f k)] 3)).grown hg1 HNE.out; have k0 := hbk1.cell 0; have k0f := hbk1.frozen 0; have HBK1 := Lib.hid hbk1; have HOWN1 := Lib.hid hown1; have HG1 := Lib.hid hg1; have HBB1 := Lib.hid hb1; clear hbk1 hown1 hg1 hb1)
    have hGn : ¬ G w.heap.size := fun h => by have := (HG.out _ h).1; omega
    have hlow : Below w.heap.size w w1 := bl_grown (bl_alloc HB4.out _) HG1.out (fun r hr => by have := (own_lt HOWN.out r hr).1; omega)
    have hown2 := HOWN1.out
    have hsz1 : W.heap.size + 1 ≤ w1.heap.size := by have := HG1.out.size; simpa using this
    refine ⟨((KeepsOthers.alloc W _).trans ((keeps_grown (t := 3) HG1.out (own_row HOWN.out)).trans (KeepsOthers.setCell _ _ _))).from _, ?_, ?_⟩
    · refine ⟨fun b hb => ?_, by simp [World.setCell]; omega⟩
      have hbW := (HG.out b hb).2
      have hbn : b ≠ w.heap.size := fun e => hGn (e ▸ hb)
      have hbv : some b ≠ v.ownBlock := fun e => HV3.out b e.symm hb
      exact (Below.heap_setCell _ _ _ _ hbn).trans ((HG1.out.block b (by simp; omega) hbv).trans (Below.heap_alloc _ _ _ hbW))
    · refine ⟨.slice A1 (k + 1) c1, HBK1.out.one _, ?_, fun b hb hg => ?_, bl_set hlow (by simp) _, by simp [World.setCell]; omega⟩
      · have e1 : (List.range (k + 1)).map f = (List.range k).map f ++ [f k] := by rw [List.range_succ, List.map_append]; rfl
        rw [e1]
        refine OwnI.snoc ?_
        have hlen : ((List.range k).map f).length = k := by simp
        rw [hlen]
        exact own_far (p := ⟨w.heap.size, 0, none⟩) hown2 HBK1.out (by decide) _
      · rcases HBB1.out with h | h
        · exact HV3.out b (by rw [← h]; exact hb) hg
        · rw [hb] at h
          injection h with h
          have := (HG.out b hg).2
          simp at h
          omega
  case done =>
    rintro D G W hD hG ⟨v, h1, h2, h3, h4, h5⟩ hK
    have e0 : W.cell? ⟨w.heap.size, 0, none⟩ = some v := h1.cell 0
    have HOW := Lib.hid h2
    have HB4 := Lib.hid h4
    clear h1 h2 h3 h4 hseq
    gi_wp2
    refine ⟨by simp, .inl ⟨_, _, rfl, run_takeDeferred hK, ?_⟩⟩
    have hg := grownBy_putObj' W D (.deferred none)
    have hr : ∀ r, some D = some r → ∃ o : Obj, W.heap[r]? = some o ∧ o.isCells = false := fun r e => by cases e; exact ⟨_, hK, rfl⟩
    refine ⟨v, ?_, ⟨v, rfl, ownI_lower (own_kept HOW.out hg hr) (by omega)⟩, HB4.out.trans (belowK_b (w := w) (Nat.le_refl _) _ D _ _ (by omega) hK rfl rfl)⟩
    simp [results, Try.f129, go_sem]
  case stop =>
    intro D c G k W _ _ _ h
    exact h.elim
end Go.Proofs.Ythjkeefdeeljoaa.Shp
