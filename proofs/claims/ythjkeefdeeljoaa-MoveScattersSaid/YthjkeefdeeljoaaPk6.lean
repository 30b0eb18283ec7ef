/- Contracts and lemmas that the row of this claim stands on: App, Cell. -/
import Derived.Test.YthjkeefdeeljoaaPk3
import Derived.Test.YthjkeefdeeljoaaPk5
import Derived.Deep.RegionLaw
import Derived.Laws.StructEq
/- append on a row of the call's own, whatever the source: in a region of one order, and in one that draws. -/
namespace Go.Proofs.Ythjkeefdeeljoaa
open Go.RowKit

theorem own_row_ne {w : World} {base : Nat} {e : TypeId} {size n : Nat} {v : Value} {xs : List Value} (h : w.ownsRow base e size v n xs) {g : Nat} {t : TypeId} {cs : Array Value} (hb : Blk w g t cs) (hne : e ≠ t) : some g ≠ v.ownBlock := by
  rcases h.2 with ⟨rfl, _⟩ | ⟨g', cap, cur, rfl, _, hh, _⟩
  · simp [Value.ownBlock]
  · intro he
    have : g = g' := by simpa [Value.ownBlock] using he
    subst this
    exact Blk.ne_ (t := e) hh hb hne rfl
theorem add_off (b off j : Nat) : (⟨b, off, none⟩ : Addr).add j = ⟨b, off + j, none⟩ := by unfold Addr.add; split <;> simp_all
theorem run_app {P : Program} {w : World} (t ty e : TypeId) (base : Nat) (z : Value) (size bytes : Nat) (ht : P.underlying t = some (.slice e)) (hinfo : (P.info? e).map (fun i => (i.zero, i.size, i.bytes)) = some (some z, size, bytes)) (hzs : z.cells.size = size) (hsz : 0 < size)
    (v : Value) (n : Nat) (xs : List Value) (hown : w.ownsRow base e size v n xs)
    (X : Option Addr) (m c : Nat) (news : List Value) (hl : news.length = m * size) (hnews : Shows w X news) (h1 : ∀ u ∈ news, u.oneCell' = true)
    (h63 : n + m ≤ maxLen) (hbytes : (n + m) * bytes ≤ 140737488355328) (hbase : base ≤ w.heap.size) :
    ∃ v' w', (Builtin.append_ #[t, t] ty #[v, .slice X m c]).run P w = .ok v' w' ∧ w'.ownsRow base e size v' (n + m) (xs ++ news) ∧ w.grownBy w' v.ownBlock ∧ (v'.ownBlock = v.ownBlock ∨ v'.ownBlock = some w.heap.size) := by
  obtain ⟨i0, hi, hzz⟩ := Option.map_eq_some_iff.1 hinfo
  simp only [Prod.mk.injEq] at hzz
  obtain ⟨hz0, hz1, hz2⟩ := hzz
  by_cases hm : m = 0
  · subst hm
    have hn0 : news = [] := List.eq_nil_of_length_eq_zero (by simpa using hl)
    subst hn0
    refine ⟨v, w, ?_, by simpa using hown, World.grownBy.refl w _, .inl rfl⟩
    rcases hown.2 with ⟨rfl, rfl⟩ | ⟨g, cap, cur, rfl, _, _, hnc, _⟩
    · cases X <;> simp [Builtin.append_, run_underlying ht, sizeOf, typeInfo, hi, Builtin.lenOf, Builtin.firstCells, loadCells, loadCellsFrom]
    · cases X <;> simp [Builtin.append_, run_underlying ht, sizeOf, typeInfo, hi, Builtin.lenOf, Builtin.firstCells, hnc, storeCells, loadCells, loadCellsFrom]
  · have hpos : 0 < news.length := by rw [hl]; exact Nat.mul_pos (by omega) hsz
    obtain ⟨b, off, e0, _⟩ := hnews 0 _ (List.getElem?_eq_getElem hpos)
    subst e0
    obtain ⟨v', w', hr, h2, h3, _, h5⟩ := run_append_own_at (P := P) w base t ty e i0 z size bytes ht hi hz0 hz1 hz2 hzs hsz v n xs hown ⟨b, off, none⟩ m c news hl (fun j u hj => by
      obtain ⟨b', off', e', hc⟩ := hnews j u hj
      injection e' with e'
      injection e' with e1 e2
      subst e1; subst e2
      rw [add_off]; exact hc) h1 h63 hbytes hbase
    exact ⟨v', w', hr, h2, h3, h5⟩
section
variable {P : Program} {w : World} {ops : Array Oper} {rest : List Oper} {o : Oper} {a : Act} {K : Act → World → Prop} {Q : Exit → Act → World → Prop} {E : Prop}
theorem wp_app (s x : Operand) (t : TypeId) (ho : o.op = .call { callee := .builtin .append, args := #[s, x], argTypes := #[t, t] })
    (e : TypeId) (base : Nat) (z : Value) (size bytes : Nat) (ht : P.underlying t = some (.slice e)) (hinfo : (P.info? e).map (fun i => (i.zero, i.size, i.bytes)) = some (some z, size, bytes)) (hzs : z.cells.size = size) (hsz : 0 < size)
    (v : Value) (n : Nat) (xs : List Value) (hs : a.eval s = v) (hown : w.ownsRow base e size v n xs)
    (X : Option Addr) (m c : Nat) (news : List Value) (hx : a.eval x = .slice X m c) (hl : news.length = m * size) (hnews : Shows w X news) (h1 : ∀ u ∈ news, u.oneCell' = true)
    (h63 : n + m ≤ maxLen) (hbytes : (n + m) * bytes ≤ 140737488355328) (hbase : base ≤ w.heap.size)
    (h : ∀ v' w', w'.ownsRow base e size v' (n + m) (xs ++ news) → w.grownBy w' v.ownBlock → (v'.ownBlock = v.ownBlock ∨ v'.ownBlock = some w.heap.size) → K (a.put o.dst v') w') : o.wp P a w K Q := by
  obtain ⟨v', w', hrun, h2, h3, h4⟩ := run_app (P := P) t o.type e base z size bytes ht hinfo hzs hsz v n xs hown X m c news hl hnews h1 h63 hbytes hbase
  unfold Oper.wp execOp
  simp only [ho, resolve, invoke, builtin, Sem.run_bind, Sem.run_pure, Result.andThen_ok, List.map_toArray, List.map_cons, List.map_nil, hs, hx, hrun]
  exact h v' w' h2 h3 h4
theorem wpList_app (hgd : o.guard = none) (s x : Operand) (t : TypeId) (ho : o.op = .call { callee := .builtin .append, args := #[s, x], argTypes := #[t, t] })
    (e : TypeId) (base : Nat) (z : Value) (size bytes : Nat) (ht : P.underlying t = some (.slice e)) (hinfo : (P.info? e).map (fun i => (i.zero, i.size, i.bytes)) = some (some z, size, bytes)) (hzs : z.cells.size = size) (hsz : 0 < size)
    (v : Value) (n : Nat) (xs : List Value) (hs : a.eval s = v) (hown : w.ownsRow base e size v n xs)
    (X : Option Addr) (m c : Nat) (news : List Value) (hx : a.eval x = .slice X m c) (hl : news.length = m * size) (hnews : Shows w X news) (h1 : ∀ u ∈ news, u.oneCell' = true)
    (h63 : n + m ≤ maxLen) (hbytes : (n + m) * bytes ≤ 140737488355328) (hbase : base ≤ w.heap.size)
    (h : ∀ v' w', w'.ownsRow base e size v' (n + m) (xs ++ news) → w.grownBy w' v.ownBlock → (v'.ownBlock = v.ownBlock ∨ v'.ownBlock = some w.heap.size) → wpList P ops Q rest (a.put o.dst v') w') : wpList P ops Q (o :: rest) a w :=
  wpList_plain hgd fun _ hK => wp_app s x t ho e base z size bytes ht hinfo hzs hsz v n xs hs hown X m c news hx hl hnews h1 h63 hbytes hbase fun v' w' h2 h3 h4 => hK _ _ (h v' w' h2 h3 h4)
theorem step_app (hgd : o.guard = none) (s x : Operand) (t : TypeId) (ho : o.op = .call { callee := .builtin .append, args := #[s, x], argTypes := #[t, t] })
    (e : TypeId) (base : Nat) (z : Value) (size bytes : Nat) (ht : P.underlying t = some (.slice e)) (hinfo : (P.info? e).map (fun i => (i.zero, i.size, i.bytes)) = some (some z, size, bytes)) (hzs : z.cells.size = size) (hsz : 0 < size)
    (v : Value) (n : Nat) (xs : List Value) (hs : a.eval s = v) (hown : w.ownsRow base e size v n xs)
    (X : Option Addr) (m c : Nat) (news : List Value) (hx : a.eval x = .slice X m c) (hl : news.length = m * size) (hnews : Shows w X news) (h1 : ∀ u ∈ news, u.oneCell' = true)
    (h63 : n + m ≤ maxLen) (hbytes : (n + m) * bytes ≤ 140737488355328) (hbase : base ≤ w.heap.size)
    (h : ∀ v' w', w'.ownsRow base e size v' (n + m) (xs ++ news) → w.grownBy w' v.ownBlock → (v'.ownBlock = v.ownBlock ∨ v'.ownBlock = some w.heap.size) → K (a.put o.dst v') w') :
    if Region.wanted o (yielded ops a.tmps) = true then Oper.wp P o a w K Q else E := by
  have hw : Region.wanted o (yielded ops a.tmps) = true := by simp [Region.wanted, hgd]
  rw [if_pos hw]
  exact wp_app s x t ho e base z size bytes ht hinfo hzs hsz v n xs hs hown X m c news hx hl hnews h1 h63 hbytes hbase h
end
end Go.Proofs.Ythjkeefdeeljoaa
/- Cells: a number and whether it is there; law03's Cells and Refs. -/
namespace Go.Proofs.Ythjkeefdeeljoaa.Cl
open Go.RowKit
set_option linter.unusedVariables false
set_option linter.unusedSimpArgs false

/-- A cell: a number, and whether it is there. -/
abbrev Cell := Int × Bool
def ce (c : Cell) : List Value := [.int .i64 c.1, .bool c.2]
def cv (c : Cell) : Value := .agg #[.int .i64 c.1, .bool c.2]
/-- Of a missing one the number is 0. -/
def normC (c : Cell) : Cell := if c.2 = true then c else (0, false)
theorem normC_norm (c : Cell) : normC (normC c) = normC c := by
  unfold normC; split <;> simp_all
theorem ce_one (c : Cell) : ∀ u ∈ ce c, u.oneCell' = true := fun u hu => by
  rcases List.mem_cons.1 hu with rfl | hu
  · rfl
  · obtain rfl : u = .bool c.2 := by simpa using hu
    rfl
theorem ce_get (L : List Cell) (j : Nat) (h : j < L.length) : (L.flatMap ce)[j * 2]? = some (.int .i64 (nth L j).1) ∧ (L.flatMap ce)[j * 2 + 1]? = some (.bool (nth L j).2) := by
  induction L generalizing j with
  | nil => simp at h
  | cons a L ih =>
    have e : (a :: L).flatMap ce = Value.int .i64 a.1 :: Value.bool a.2 :: L.flatMap ce := rfl
    rw [e]
    cases j with
    | zero => exact ⟨rfl, rfl⟩
    | succ j =>
      have h' : j < L.length := by simpa using h
      rw [nth_cons_succ, show (j + 1) * 2 = j * 2 + 1 + 1 by omega]
      simpa using ih j h'
theorem cell_at {w : World} {A : Option Addr} {L : List Cell} (h : Shows w A (L.flatMap ce)) (j : Nat) (hj : j < L.length) : ∃ b off, A = some ⟨b, off, none⟩ ∧ w.cell? ⟨b, off + j * 2, none⟩ = some (.int .i64 (nth L j).1) ∧ w.cell? ⟨b, off + j * 2 + 1, none⟩ = some (.bool (nth L j).2) := by
  obtain ⟨h1, h2⟩ := ce_get L j hj
  obtain ⟨b, off, e, c1⟩ := h _ _ h1
  obtain ⟨b', off', e', c2⟩ := h _ _ h2
  rw [e] at e'
  injection e' with e'
  injection e' with e1 e2
  subst e1; subst e2
  exact ⟨b, off, e, c1, by rw [← Nat.add_assoc] at c2; exact c2⟩
theorem ce_length (L : List Cell) : (L.flatMap ce).length = L.length * 2 := by
  induction L with
  | nil => rfl
  | cons a L ih => rw [List.flatMap_cons, List.length_append, ih]; simp [ce]; omega
theorem ce_snoc (L : List Cell) (c : Cell) : (L ++ [c]).flatMap ce = L.flatMap ce ++ [.int .i64 c.1, .bool c.2] := by simp [ce]
/-- The value shows these cells. -/
def ShowsC (w : World) (v : Value) (L : List Cell) : Prop := ∃ A c, v = .slice A L.length c ∧ L.length ≤ c ∧ Shows w A (L.flatMap ce)
def OwnC (w : World) (base : Nat) (e : TypeId) (v : Value) (L : List Cell) : Prop := w.ownsRow base e 2 v L.length (L.flatMap ce)
theorem ownC_nil (w : World) (base : Nat) (e : TypeId) : OwnC w base e (.slice none 0 0) [] := ⟨by simp, .inl ⟨rfl, rfl⟩⟩
theorem OwnC.below {w w' : World} {base : Nat} {e : TypeId} {v : Value} {L : List Cell} (h : OwnC w base e v L) (hb : Below w.heap.size w w') : OwnC w' base e v L := own_below h hb
theorem OwnC.snoc {w : World} {base : Nat} {e : TypeId} {v : Value} {L : List Cell} {c : Cell} (h : w.ownsRow base e 2 v (L.length + 1) (L.flatMap ce ++ [.int .i64 c.1, .bool c.2])) : OwnC w base e v (L ++ [c]) := by
  unfold OwnC
  rw [ce_snoc, List.length_append]
  exact h
theorem OwnC.shows {w : World} {base : Nat} {e : TypeId} {v : Value} {L : List Cell} (h : OwnC w base e v L) : ShowsC w v L := by
  rcases h.2 with ⟨rfl, h0⟩ | ⟨g, cap, cur, rfl, _, _, hc, _⟩
  · obtain rfl : L = [] := List.eq_nil_of_length_eq_zero h0
    exact ⟨none, 0, rfl, Nat.le_refl _, Shows.nil _ _⟩
  · exact ⟨some ⟨g, 0, none⟩, cap, rfl, hc, Shows.of_own (c := cap) h⟩
theorem info_bcell : (Try.prog.info? 78).map (fun i => (i.zero, i.size, i.bytes)) = some (some (.agg #[.int .i64 0, .bool false]), 2, 16) := by kernel_rfl
theorem info_rcell : (Try.prog.info? 74).map (fun i => (i.zero, i.size, i.bytes)) = some (some (.agg #[.int .i64 0, .bool false]), 2, 16) := by kernel_rfl
set_option maxRecDepth 100000 in
set_option maxHeartbeats 1000000 in
theorem lcells_calls (L : List Cell) (A : Option Addr) (c : Nat) (w : World) (hs : Shows w A (L.flatMap ce)) (hl : L.length ≤ 2000000) :
    Calls Try.prog 37 #[.slice A L.length c] w fun e w' => (∃ v, e = .returned v ∧ OwnC w' w.heap.size 78 v L) ∧ Below w.heap.size w w' := by
  have HS := Lib.hid hs
  clear hs
  go_enter Try.func37, Try.ntmps37
  go_wp2_with fail
  go_loopw [3, 4] (fun t3 t4 wr => ∃ (k : Nat) (v : Value), v = t3 ∧ t4 = .int .i64 k ∧ k ≤ L.length ∧ Hid (OwnC wr w.heap.size 78 v (L.take k)) ∧ Hid (Below w.heap.size w wr)) (fun _ i _ => L.length - (intOf i).toNat)
  case atStart => exact ⟨0, _, rfl, rfl, Nat.zero_le _, Lib.hid (ownC_nil _ _ _), Lib.hid (Below.refl _ _)⟩
  case round =>
    obtain ⟨k, v, rfl, rfl, hk, HO, HB⟩ := hrel
    by_cases hlt : k < L.length
    · obtain ⟨b, off, eA, c0, c1⟩ := cell_at (HS.out.below HB.out) k hlt
      subst eA
      have HT := Lib.hid (take_nth L k hlt)
      have hlen : (L.take k).length = k := by simp; omega
      have hown : wr.ownsRow w.heap.size 78 2 v k ((L.take k).flatMap ce) := by
        have h := HO.out
        unfold OwnC at h
        rwa [hlen] at h
      have HOWN := Lib.hid hown
      have HLEN := Lib.hid hlen
      have hsz := HB.out.size
      obtain ⟨x, hx⟩ : ∃ x, nth L k = x := ⟨_, rfl⟩
      rw [hx] at c0 c1 HT
      obtain ⟨xn, xb⟩ := x
      dsimp only at c0 c1
      clear hx hown hlen
      go_wp2_with (at_builtin; go_must (refine app_row (w0 := w) w.heap.size rfl (.tmp 11) (.tmp 16) 59 78 (.agg #[.int .i64 0, .bool false]) 2 16 rfl Try.underlying59 info_bcell rfl (by decide) v k _ #[.int .i64 xn, .bool xb] rfl rfl rfl (ce_one (xn, xb)) HOWN.out HB.out hsz (by omega) (by omega) ?_); intro v1 w1 hown1 hB1 hg1 hsz1; have HOWN1 := Lib.hid hown1; have HB1 := Lib.hid hB1; clear hown1 hB1 hg1 hsz1)
      go_roundw
      case measure => first | (simp [intOf]; done) | (simp [intOf]; omega)
      case rel =>
        refine ⟨k + 1, v1, rfl, by go_num, by omega, Lib.hid ?_, HB1⟩
        rw [HT.out]
        refine OwnC.snoc ?_
        rw [HLEN.out]
        exact HOWN1.out
    · obtain rfl : k = L.length := by omega
      go_wp2_with fail
      go_ret
      have h := HO.out
      rw [List.take_length] at h
      exact ⟨⟨v, rfl, h⟩, HB.out⟩
set_option maxRecDepth 100000 in
set_option maxHeartbeats 1000000 in
theorem refs_calls (L : List Cell) (A : Option Addr) (c : Nat) (w : World) (hs : Shows w A (L.flatMap ce)) (hl : L.length ≤ 2000000) :
    Calls Try.prog 43 #[.slice A L.length c] w fun e w' => (∃ v, e = .returned v ∧ OwnC w' w.heap.size 74 v L) ∧ Below w.heap.size w w' := by
  have HS := Lib.hid hs
  clear hs
  go_enter Try.func43, Try.ntmps43
  go_wp2_with fail
  go_loopw [3, 4] (fun t3 t4 wr => ∃ (k : Nat) (v : Value), v = t3 ∧ t4 = .int .i64 k ∧ k ≤ L.length ∧ Hid (OwnC wr w.heap.size 74 v (L.take k)) ∧ Hid (Below w.heap.size w wr)) (fun _ i _ => L.length - (intOf i).toNat)
  case atStart => exact ⟨0, _, rfl, rfl, Nat.zero_le _, Lib.hid (ownC_nil _ _ _), Lib.hid (Below.refl _ _)⟩
  case round =>
    obtain ⟨k, v, rfl, rfl, hk, HO, HB⟩ := hrel
    by_cases hlt : k < L.length
    · obtain ⟨b, off, eA, c0, c1⟩ := cell_at (HS.out.below HB.out) k hlt
      subst eA
      have HT := Lib.hid (take_nth L k hlt)
      have hlen : (L.take k).length = k := by simp; omega
      have hown : wr.ownsRow w.heap.size 74 2 v k ((L.take k).flatMap ce) := by
        have h := HO.out
        unfold OwnC at h
        rwa [hlen] at h
      have HOWN := Lib.hid hown
      have HLEN := Lib.hid hlen
      have hsz := HB.out.size
      obtain ⟨x, hx⟩ : ∃ x, nth L k = x := ⟨_, rfl⟩
      rw [hx] at c0 c1 HT
      obtain ⟨xn, xb⟩ := x
      dsimp only at c0 c1
      clear hx hown hlen
      go_wp2_with (at_builtin; go_must (refine app_row (w0 := w) w.heap.size rfl (.tmp 11) (.tmp 16) 55 74 (.agg #[.int .i64 0, .bool false]) 2 16 rfl Try.underlying55 info_rcell rfl (by decide) v k _ #[.int .i64 xn, .bool xb] rfl rfl rfl (ce_one (xn, xb)) HOWN.out HB.out hsz (by omega) (by omega) ?_); intro v1 w1 hown1 hB1 hg1 hsz1; have HOWN1 := Lib.hid hown1; have HB1 := Lib.hid hB1; clear hown1 hB1 hg1 hsz1)
      go_roundw
      case measure => first | (simp [intOf]; done) | (simp [intOf]; omega)
      case rel =>
        refine ⟨k + 1, v1, rfl, by go_num, by omega, Lib.hid ?_, HB1⟩
        rw [HT.out]
        refine OwnC.snoc ?_
        rw [HLEN.out]
        exact HOWN1.out
    · obtain rfl : k = L.length := by omega
      go_wp2_with fail
      go_ret
      have h := HO.out
      rw [List.take_length] at h
      exact ⟨⟨v, rfl, h⟩, HB.out⟩
end Go.Proofs.Ythjkeefdeeljoaa.Cl
