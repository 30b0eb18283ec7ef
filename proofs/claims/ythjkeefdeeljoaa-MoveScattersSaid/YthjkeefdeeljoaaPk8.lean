/- Appends in a region that draws. -/
import Derived.Test.YthjkeefdeeljoaaPk5
import Derived.Deep.RegionLaw
import Derived.Deep.Upon
namespace Go.Proofs.Ythjkeefdeeljoaa
open Go.RowKit
set_option linter.unusedVariables false
set_option linter.unusedSimpArgs false

/-- What an append reads: the cells of a source, if it has any. -/
def Lays (W : World) (X : Option Addr) (news : List Value) : Prop := ∀ j u, news[j]? = some u → ∃ ad : Addr, X = some ad ∧ W.cell? (ad.add j) = some u
theorem add_at (b off j : Nat) : (⟨b, off, none⟩ : Addr).add j = ⟨b, off + j, none⟩ := by unfold Addr.add; split <;> simp_all
theorem ReadsI.lays {W : World} {D : Option Addr} {L : List Int} (h : ReadsI W .i64 D L) (k : Nat) : Lays W D ((L.take k).map (Value.int .i64)) := fun j u hj => by
  rw [List.getElem?_map] at hj
  obtain ⟨x, hx, rfl⟩ := Option.map_eq_some_iff.1 hj
  have hjl : j < (L.take k).length := by
    rcases Nat.lt_or_ge j (L.take k).length with h1 | h1
    · exact h1
    · rw [List.getElem?_eq_none h1] at hx; simp at hx
  have hl2 : j < L.length := by simp at hjl; omega
  obtain ⟨b, off, rfl, hc⟩ := h j hl2
  refine ⟨_, rfl, ?_⟩
  rw [add_at, hc, nth_eq _ _ hl2]
  rw [List.getElem?_eq_getElem hjl, List.getElem_take] at hx
  injection hx with hx
  rw [hx]
theorem ReadsI.lays_from {W : World} {D A2 : Option Addr} {L : List Int} (h : ReadsI W .i64 D L) (k c : Nat) (hc : L.length ≤ c) (hA : k < c → A2 = D.map (·.add k)) : Lays W A2 ((L.drop k).map (Value.int .i64)) := fun j u hj => by
  rw [List.getElem?_map] at hj
  obtain ⟨x, hx, rfl⟩ := Option.map_eq_some_iff.1 hj
  have hjl : j < (L.drop k).length := by
    rcases Nat.lt_or_ge j (L.drop k).length with h1 | h1
    · exact h1
    · rw [List.getElem?_eq_none h1] at hx; simp at hx
  have hl2 : k + j < L.length := by simp at hjl; omega
  obtain ⟨b, off, rfl, hcl⟩ := h (k + j) hl2
  rw [hA (by omega)]
  refine ⟨_, rfl, ?_⟩
  show W.cell? (((⟨b, off, none⟩ : Addr).add k).add j) = _
  rw [add_at, add_at, Nat.add_assoc, hcl, nth_eq _ _ hl2]
  rw [List.getElem?_eq_getElem hjl, List.getElem_drop] at hx
  injection hx with hx
  rw [hx]
theorem run_upto {P : Program} {T E : TypeId} (hT : P.underlying T = some (.slice E)) (hs : ∀ w, (sizeOf E).run P w = .ok 1 w) (D : Option Addr) (n c k : Nat) (h : k ≤ c) (w : World) :
    (Instr.slice T (.slice D n c) none (some (.int .i64 (k : Int))) none).run P w = .ok (.slice D k c) w := by
  have hb : ((k : Int) ≤ (c : Int)) := by omega
  simp [Instr.slice, run_underlying hT, Instr.sliceBounds, run_sliceBound, hs, hb]
  intro _
  cases D <;> simp [Addr.add]
theorem run_from {P : Program} {T E : TypeId} (hT : P.underlying T = some (.slice E)) (hs : ∀ w, (sizeOf E).run P w = .ok 1 w) (D : Option Addr) (n c k : Nat) (h : k ≤ n) (h2 : n ≤ c) :
    ∃ A2, (∀ w, (Instr.slice T (.slice D n c) (some (.int .i64 (k : Int))) none none).run P w = .ok (.slice A2 (n - k) (c - k)) w) ∧ (k < c → A2 = D.map (·.add k)) := by
  refine ⟨(if c = k then D else D.map (·.add k)), fun w => ?_, fun h => by rw [if_neg (by omega)]⟩
  have hb : ((k : Int) ≤ (n : Int)) := by omega
  simp [Instr.slice, run_underlying hT, Instr.sliceBounds, run_sliceBound, hs, hb, h2]
/-- append at a step of a region that draws: the source is read, whatever there is of it. -/
theorem step_append_own {P : Program} {ops : Array Oper} {o : Oper} {a : Act} {K : Act → World → Prop} {Q : Exit → Act → World → Prop} {E : Prop} {w : World} (hgd : o.guard = none) (s x : Operand) (t : TypeId)
    (ho : o.op = .call { callee := .builtin .append, args := #[s, x], argTypes := #[t, t] })
    (base : Nat) (e : TypeId) (z : Value) (size bytes : Nat) (ht : P.underlying t = some (.slice e)) (hinfo : (P.info? e).map (fun i => (i.zero, i.size, i.bytes)) = some (some z, size, bytes)) (hzs : z.cells.size = size) (hsz : 0 < size)
    (v : Value) (n : Nat) (xs : List Value) (hs : a.eval s = v) (hown : w.ownsRow base e size v n xs)
    (X : Option Addr) (m c : Nat) (news : List Value) (hx : a.eval x = .slice X m c) (hl : news.length = m * size) (hnews : Lays w X news) (h1 : ∀ u ∈ news, u.oneCell' = true)
    (h63 : n + m ≤ maxLen) (hbytes : (n + m) * bytes ≤ 140737488355328) (hbase : base ≤ w.heap.size)
    (h : ∀ v' w', w'.ownsRow base e size v' (n + m) (xs ++ news) → w.grownBy w' v.ownBlock → K (a.put o.dst v') w') :
    if Region.wanted o (yielded ops a.tmps) = true then Oper.wp P o a w K Q else E := by
  have hw : Region.wanted o (yielded ops a.tmps) = true := by simp [Region.wanted, hgd]
  rw [if_pos hw]
  obtain ⟨i0, hi, hzz⟩ := Option.map_eq_some_iff.1 hinfo
  simp only [Prod.mk.injEq] at hzz
  obtain ⟨hz0, hz1, hz2⟩ := hzz
  have main : ∃ v' w', (Builtin.append_ #[t, t] o.type #[v, .slice X m c]).run P w = .ok v' w' ∧ w'.ownsRow base e size v' (n + m) (xs ++ news) ∧ w.grownBy w' v.ownBlock := by
    cases X with
    | some ad =>
      obtain ⟨v', w', hr, h2, h3, h4, h5⟩ := run_append_own_at (P := P) w base t o.type e i0 z size bytes ht hi hz0 hz1 hz2 hzs hsz v n xs hown ad m c news hl (fun j u hj => by obtain ⟨ad', he, hc⟩ := hnews j u hj; injection he with he; rw [he]; exact hc) h1 h63 hbytes hbase
      exact ⟨v', w', hr, h2, h3⟩
    | none =>
      have hn0 : news = [] := by
        cases news with
        | nil => rfl
        | cons u us => obtain ⟨ad, he, _⟩ := hnews 0 u rfl; simp at he
      subst hn0
      have hm0 : m = 0 := by
        have : m * size = 0 := by simpa using hl.symm
        rcases Nat.mul_eq_zero.1 this with h | h
        · exact h
        · omega
      subst hm0
      subst hz1
      have hsrc : Src P i0.size t (.slice none 0 c) 0 [] w := ⟨.inl ⟨e, ht⟩, fun w' => by simp [Builtin.lenOf], by simp [Builtin.firstCells], by simp [Builtin.firstCells], by simp, by simp⟩
      have hrun : (Builtin.append_ #[t, t] o.type #[v, .slice none 0 c]).run P w = .ok v w := by
        rcases hown.2 with ⟨rfl, rfl⟩ | ⟨g, cap, cur, rfl, _, _, hc, _⟩
        · exact run_append_nothing w t t o.type e i0 ht hi none 0 0 (Nat.le_refl _) _ hsrc
        · exact run_append_nothing w t t o.type e i0 ht hi _ _ _ hc _ hsrc
      refine ⟨v, w, hrun, ?_, grown_below (Below.refl _ _) _⟩
      simpa using hown
  obtain ⟨v', w', hr, h2, h3⟩ := main
  unfold Oper.wp execOp
  simp only [ho, resolve, invoke, builtin, Sem.run_bind, Sem.run_pure, Result.andThen_ok, List.map_toArray, List.map_cons, List.map_nil, hs, hx, hr]
  exact h v' w' h2 h3
theorem own_empty (w : World) (base : Nat) (e : TypeId) (h : base ≤ w.heap.size) : (w.alloc (.cells #[] e)).ownsRow base e 1 (.slice (some ⟨w.heap.size, 0, none⟩) 0 0) 0 [] :=
  ⟨rfl, .inr ⟨w.heap.size, 0, #[], rfl, h, heap_alloc_new w _, Nat.le_refl _, Nat.zero_le _, rfl, rfl⟩⟩
theorem lays_one (w : World) (e : TypeId) (x : Value) : Lays (w.alloc (.cells #[x] e)) (some ⟨w.heap.size, 0, none⟩) [x] := fun j u hj => by
  refine ⟨_, rfl, ?_⟩
  cases j with
  | zero => rw [add_at, World.cell?_alloc_at _ _ _ _ rfl]; simpa using hj
  | succ j => simp at hj
theorem Lays.below {W W1 : World} {X : Option Addr} {news : List Value} (h : Lays W X news) (hb : Below W.heap.size W W1) : Lays W1 X news := fun j u hj => by
  obtain ⟨ad, e, hc⟩ := h j u hj
  exact ⟨ad, e, (hb.cell (World.block_lt_of_cell? _ _ hc)).trans hc⟩
/-- A source in another block than the one that grows. -/
theorem Lays.far {W W1 : World} {b : Nat} {g : Option Nat} {news : List Value} (h : Lays W (some ⟨b, 0, none⟩) news) (hg : W.grownBy W1 g) (hb : g ≠ some b) : Lays W1 (some ⟨b, 0, none⟩) news := fun j u hj => by
  obtain ⟨ad, e, hc⟩ := h j u hj
  refine ⟨ad, e, ?_⟩
  injection e with e
  have hlt := World.block_lt_of_cell? _ _ hc
  rw [World.cell?_of_block (hg.block _ hlt (by subst e; rw [add_at]; exact fun e' => hb e'.symm))]
  exact hc

end Go.Proofs.Ythjkeefdeeljoaa
