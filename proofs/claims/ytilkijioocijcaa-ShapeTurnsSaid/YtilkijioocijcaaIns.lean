/- slices.Insert of one number at a shape: at the end. -/
import Derived.Test.YtilkijioocijcaaWith
namespace Go.Proofs.Ytilkijioocijcaa.Shp
open Go.RowKit
set_option linter.unusedVariables false
set_option linter.unusedSimpArgs false

theorem append_two (P : Program) (t t' e e' ty : TypeId) (ht : P.underlying t = some (.slice e)) (ht' : P.underlying t' = some (.slice e')) (v x : Value) (w : World) : (Builtin.append_ #[t, t'] ty #[v, x]).run P w = (Builtin.append_ #[t, t] ty #[v, x]).run P w := by
  cases v <;> simp [Builtin.append_, run_underlying ht, run_underlying ht']
section
variable {P : Program} {w : World} {ops : Array Oper} {rest : List Oper} {o : Oper} {a : Act} {Q : Exit → Act → World → Prop}
theorem wpList_app2 (hgd : o.guard = none) (s x : Operand) (t t' : TypeId) (ho : o.op = .call { callee := .builtin .append, args := #[s, x], argTypes := #[t, t'] })
    (e e' : TypeId) (base : Nat) (z : Value) (size bytes : Nat) (ht : P.underlying t = some (.slice e)) (ht' : P.underlying t' = some (.slice e')) (hinfo : (P.info? e).map (fun i => (i.zero, i.size, i.bytes)) = some (some z, size, bytes)) (hzs : z.cells.size = size) (hsz : 0 < size)
    (v : Value) (n : Nat) (xs : List Value) (hs : a.eval s = v) (hown : w.ownsRow base e size v n xs)
    (X : Option Addr) (m c : Nat) (news : List Value) (hx : a.eval x = .slice X m c) (hl : news.length = m * size) (hnews : Shows w X news) (h1 : ∀ u ∈ news, u.oneCell' = true)
    (h63 : n + m ≤ maxLen) (hbytes : (n + m) * bytes ≤ 140737488355328) (hbase : base ≤ w.heap.size)
    (h : ∀ v' w', w'.ownsRow base e size v' (n + m) (xs ++ news) → w.grownBy w' v.ownBlock → wpList P ops Q rest (a.put o.dst v') w') : wpList P ops Q (o :: rest) a w :=
  wpList_plain hgd fun K hK => by
    obtain ⟨v', w', hrun, h2, h3, h4⟩ := run_app (P := P) t o.type e base z size bytes ht hinfo hzs hsz v n xs hown X m c news hl hnews h1 h63 hbytes hbase
    unfold Oper.wp execOp
    simp only [ho, resolve, invoke, builtin, Sem.run_bind, Sem.run_pure, Result.andThen_ok, List.map_toArray, List.map_cons, List.map_nil, hs, hx, append_two P t t' e e' o.type ht ht', hrun]
    exact hK _ _ (h v' w' h2 h3)
end
theorem insert_end (base : Nat) (A : Option Addr) (cap : Nat) (L : List Int) (n : Int) (H : Nat) (w : World) (h : OwnI w base 3 .i64 (.slice A L.length cap) L) (hn : Blk w H 3 #[.int .i64 n]) (hl : L.length ≤ 1000000) (hbase : base ≤ w.heap.size) :
    Calls Try.prog 26 #[.slice A L.length cap, .int .i64 (L.length : Nat), .slice (some ⟨H, 0, none⟩) 1 1] w fun e w' => ∃ v, e = .returned v ∧ ShowsI w' .i64 v (L ++ [n]) ∧ Below base w w' := by
  have HOW := Lib.hid h
  have HS : Hid (Shows w (some ⟨H, 0, none⟩) [Value.int .i64 n]) := Lib.hid (Shows.of_blk hn)
  have hcap : L.length ≤ cap := by
    rcases h.2 with ⟨h', h0⟩ | ⟨g, cap', cur, h', _, _, hnc, _⟩
    · omega
    · simp only [Value.slice.injEq, Option.some.injEq, Addr.mk.injEq, and_true, true_and] at h'
      omega
  clear h hn
  go_enter Try.func26, Try.ntmps26
  go_wp2_with (at_builtin; go_must (refine wpList_app2 rfl (.tmp 23) (.tmp 24) 24 22 rfl 3 3 base (.int .i64 0) 1 8 Try.underlying24 Try.underlying22 (info_i trivial) rfl (by decide) (.slice A L.length cap) L.length (L.map (Value.int .i64)) rfl HOW.out (some ⟨H, 0, none⟩) 1 1 [Value.int .i64 n] rfl rfl HS.out (by simp [Value.oneCell']) (by simp only [maxLen]; omega) (by omega) hbase ?_); intro v1 w1 hown1 hg1)
  all_goals
    go_ret
    have ho : OwnI w1 base 3 .i64 v1 (L ++ [n]) := OwnI.snoc hown1
    exact ⟨v1, rfl, ho.shows, (Below.refl base w).grown hg1 hbase (fun k hk => (own_lt HOW.out k hk).1)⟩
end Go.Proofs.Ytilkijioocijcaa.Shp
