/- What a turn of a shape returns. -/
import Derived.Test.YthjkeefdeeljoaaPk10
import Derived.Test.YthjkeefdeeljoaaPk5
import Derived.BigQuiet
import Derived.IntWalk
namespace Go.Proofs.Ythjkeefdeeljoaa.Shp
open Go.RowKit
set_option linter.unusedVariables false
set_option linter.unusedSimpArgs false

/-- What a turn returns: a shape, or none. -/
def TurnPost (O : Option (List Int)) (w' : World) (e : Ending) : Prop := (O = none ∧ e = .returned (.tuple #[.slice none 0 0, .bool false])) ∨ ∃ ys v, O = some ys ∧ e = .returned (.tuple #[v, .bool true]) ∧ ShowsI w' .i64 v ys
theorem info_i (h : True) : (Try.prog.info? 3).map (fun i => (i.zero, i.size, i.bytes)) = some (some (.int .i64 0), 1, 8) := by kernel_rfl

theorem OwnI.drewN {w : World} {base : Nat} {e : TypeId} {k : IntKind} {v : Value} {xs : List Int} (h : OwnI w base e k v xs) (n : Nat) : OwnI (w.drewN n) base e k v xs := h
theorem ownI_lower {w : World} {base base' : Nat} {e : TypeId} {k : IntKind} {v : Value} {xs : List Int} (h : OwnI w base e k v xs) (hb : base' ≤ base) : OwnI w base' e k v xs := by
  refine ⟨h.1, ?_⟩
  rcases h.2 with hn | ⟨g, cap, cur, h1, h2, h3⟩
  · exact .inl hn
  · exact .inr ⟨g, cap, cur, h1, Nat.le_trans hb h2, h3⟩
/-- .. in a row of the call's own. -/
def TurnOwn (O : Option (List Int)) (base : Nat) (w' : World) (e : Ending) : Prop := (O = none ∧ e = .returned (.tuple #[.slice none 0 0, .bool false])) ∨ ∃ ys v, O = some ys ∧ e = .returned (.tuple #[v, .bool true]) ∧ OwnI w' base 3 .i64 v ys
theorem TurnOwn.post {O : Option (List Int)} {base : Nat} {w' : World} {e : Ending} (h : TurnOwn O base w' e) : TurnPost O w' e := by
  rcases h with h | ⟨ys, v, h1, h2, h3⟩
  · exact .inl h
  · exact .inr ⟨ys, v, h1, h2, h3.shows⟩
end Go.Proofs.Ythjkeefdeeljoaa.Shp
