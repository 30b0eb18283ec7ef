/- view: step, Flip. -/
import Derived.Test.YthjkeefdeeljoaaPk7
namespace Go.Proofs.Ythjkeefdeeljoaa.Shp
open Go.RowKit
set_option linter.unusedVariables false
set_option linter.unusedSimpArgs false

set_option maxHeartbeats 2000000 in
theorem step_calls (xs ys : List Int) (off : Int) (A B : Option Addr) (ca cb n m i : Nat) (w : World) (hx : ReadsI w .i64 A xs) (hy : ReadsI w .i64 B ys) (hn : xs.length = n) (hm : ys.length = m) (hin : i < n) (him : i < m) (h1 : 0 ≤ nth xs i ∧ nth xs i ≤ 1048576) (h2 : -1048576 ≤ nth ys i ∧ nth ys i ≤ 1048576) :
    Calls Try.prog 72 #[.agg #[.slice A n ca, .slice B m cb, .int .i64 off], .int .i64 (i : Nat)] w fun e w' => e = .returned (.int .i64 (max (nth xs i - 1) 0 * nth ys i)) ∧ Below w.heap.size w w' := by
  obtain ⟨W0, hW0⟩ : ∃ W0, W0 = w.alloc (.cells #[.slice A n ca, .slice B m cb, .int .i64 off] 34) := ⟨_, rfl⟩
  have hb0 : Below w.heap.size w W0 := by rw [hW0]; exact bl_alloc (Below.refl _ _) _
  have hbox : Blk W0 w.heap.size 34 #[.slice A n ca, .slice B m cb, .int .i64 off] := by rw [hW0]; exact Blk.new _ _ _
  obtain ⟨bA, oA, eA, cA⟩ := (hx.below hb0) i (by omega)
  obtain ⟨bB, oB, eB, cB⟩ := (hy.below hb0) i (by omega)
  obtain ⟨c0, c1, c2⟩ := held_cells hbox
  rw [eA] at c0
  rw [eB] at c1
  generalize nth xs i = x at *
  generalize nth ys i = y at *
  obtain ⟨z, hz⟩ : ∃ z, max (x - 1) 0 = z := ⟨_, rfl⟩
  have hz2 : 0 ≤ z ∧ z ≤ 1048576 := by omega
  obtain ⟨p, hp⟩ : ∃ p, z * y = p := ⟨_, rfl⟩
  have hpb := mul_bd (a := z) (y := y) hz2.1 (by omega) h2.1 h2.2
  rw [hp] at hpb
  have hwp : IntKind.i64.wrap p = p := by rw [IntKind.wrap_i64]; omega
  have hwx : IntKind.i64.wrap (x - 1) = x - 1 := by rw [IntKind.wrap_i64]; omega
  have HB0 := Lib.hid hb0
  rw [hz, hp]
  have hi1 : (i : Int) < (n : Int) := by omega
  have hi2 : (i : Int) < (m : Int) := by omega
  have HW0 := Lib.hid hW0
  clear hb0 hbox hx hy hn hm eA eB c2 h1 h2 hz2 hW0
  go_enter Try.func72, Try.ntmps72
  go_wp2
  rw [← HW0.out]
  go_quiet (fail)
  go_wp2
  go_ret
  refine ⟨?_, bl_drewN HB0.out _⟩
  congr 1
/-- Two closures in a row of their own. -/
theorem two_funs (g1 g2 : Nat) (l1 l2 : Array Value) (P : Nat → Prop) (gf : Nat → Nat) (lb : Nat → Array Value) (h0 : gf 0 = g1 ∧ lb 0 = l1) (h1 : gf 1 = g2 ∧ lb 1 = l2) : ∀ j, j < 2 → (#[Value.func (.func g1) #[] l1, Value.func (.func g2) #[] l2])[j]? = some (.func (.func (gf j)) #[] (lb j)) := fun j hj => by
  match j, hj with
  | 0, _ => rw [h0.1, h0.2]; rfl
  | 1, _ => rw [h1.1, h1.2]; rfl
set_option maxRecDepth 100000 in
theorem toby_change (xs ys : List Int) (off : Int) (A B : Option Addr) (ca cb n m i : Nat) (w : World) (hx : ReadsI w .i64 A xs) (hy : ReadsI w .i64 B ys) (hn : xs.length = n) (hm : ys.length = m) (hl : n ≤ 100000) (hl2 : m ≤ 100000) (D Di Dn Ds D4 : Nat) (T : TypeId) (v s d o2 : Int) (hin : i < n) (him : i < m) (hDi : Blk w Di 3 #[.int .i64 (i : Nat)]) (hDn : Blk w Dn 3 #[.int .i64 v]) (hDs : Blk w Ds 3 #[.int .i64 s]) (hD4 : Blk w D4 3 #[.int .i64 d]) (hD : Blk w D T #[.func (.func 112) #[] #[.pointer (some ⟨Dn, 0, none⟩), .pointer (some ⟨Ds, 0, none⟩), .pointer (some ⟨Di, 0, none⟩)], .func (.func 113) #[] #[.pointer (some ⟨D4, 0, none⟩)]]) (ho : IntKind.i64.wrap (off + d) = o2) :
    Calls Try.prog 69 #[.agg #[.slice A n ca, .slice B m cb, .int .i64 off], .slice (some ⟨D, 0, none⟩) 2 2] w (ChgPost (xs.set i v) (ys.set i s) o2 n m w) := by
  refine change_calls xs ys off A B ca cb n m w hx hy hn hm (by omega) (by omega) (by omega) (by omega) D 2 T _ hD (by omega)
    (fun j => match j with | 0 => 112 | _ => 113) (fun j => match j with | 0 => #[.pointer (some ⟨Dn, 0, none⟩), .pointer (some ⟨Ds, 0, none⟩), .pointer (some ⟨Di, 0, none⟩)] | _ => #[.pointer (some ⟨D4, 0, none⟩)]) (two_funs _ _ _ _ (fun _ => True) _ _ ⟨rfl, rfl⟩ ⟨rfl, rfl⟩)
    (fun j hj => match j, hj with | 0, _ => fun _ _ => rfl | 1, _ => fun _ _ => rfl)
    (fun base X j W => match j with | 0 => VW base X n m xs ys off W ∧ Below w.heap.size w W ∧ w.heap.size ≤ base | 1 => VW base X n m (xs.set i v) (ys.set i s) off W | _ => VW base X n m (xs.set i v) (ys.set i s) o2 W)
    (fun base X W h1 h2 h3 => ⟨h3, h2, h1⟩) ?_ _ _ _ _ _ (fun base X W h => VW.vr h) (by omega) (by omega)
  intro base X j W hj hb hB hI
  match j, hj, hI with
  | 0, _, hI =>
    refine (to1_calls base X Di Dn Ds n m i xs ys off v s W hI.1 (hDi.below' hB) (hDn.below' hB) (hDs.below' hB) hin him (Nat.lt_of_lt_of_le hDi.lt hb) (Nat.lt_of_lt_of_le hDn.lt hb) (Nat.lt_of_lt_of_le hDs.lt hb)).mono ?_
    rintro e W' ⟨rfl, h1, h2⟩
    exact ⟨rfl, h1, h2⟩
  | 1, _, hI =>
    refine (by1_calls base X D4 n m _ _ off d o2 W hI (hD4.below' hB) ho).mono ?_
    rintro e W' ⟨rfl, h1, h2⟩
    exact ⟨rfl, h1, h2⟩
set_option maxRecDepth 100000 in
theorem toadd_change (xs ys : List Int) (off : Int) (A B : Option Addr) (ca cb n m i : Nat) (w : World) (hx : ReadsI w .i64 A xs) (hy : ReadsI w .i64 B ys) (hn : xs.length = n) (hm : ys.length = m) (hl : n ≤ 100000) (hl2 : m ≤ 100000) (D Di Dn Ds Ei En Es i2 : Nat) (T : TypeId) (v s v2 s2 : Int) (hin : i < n) (him : i < m) (hi2 : i2 ≤ n) (hi3 : i2 ≤ m) (hDi : Blk w Di 3 #[.int .i64 (i : Nat)]) (hDn : Blk w Dn 3 #[.int .i64 v]) (hDs : Blk w Ds 3 #[.int .i64 s]) (hEi : Blk w Ei 3 #[.int .i64 (i2 : Nat)]) (hEn : Blk w En 3 #[.int .i64 v2]) (hEs : Blk w Es 3 #[.int .i64 s2]) (hD : Blk w D T #[.func (.func 112) #[] #[.pointer (some ⟨Dn, 0, none⟩), .pointer (some ⟨Ds, 0, none⟩), .pointer (some ⟨Di, 0, none⟩)], .func (.func 114) #[] #[.pointer (some ⟨Ei, 0, none⟩), .pointer (some ⟨En, 0, none⟩), .pointer (some ⟨Es, 0, none⟩)]]) :
    Calls Try.prog 69 #[.agg #[.slice A n ca, .slice B m cb, .int .i64 off], .slice (some ⟨D, 0, none⟩) 2 2] w (ChgPost ((xs.set i v).take i2 ++ v2 :: (xs.set i v).drop i2) ((ys.set i s).take i2 ++ s2 :: (ys.set i s).drop i2) off (n + 1) (m + 1) w) := by
  refine change_calls xs ys off A B ca cb n m w hx hy hn hm (by omega) (by omega) (by omega) (by omega) D 2 T _ hD (by omega)
    (fun j => match j with | 0 => 112 | _ => 114) (fun j => match j with | 0 => #[.pointer (some ⟨Dn, 0, none⟩), .pointer (some ⟨Ds, 0, none⟩), .pointer (some ⟨Di, 0, none⟩)] | _ => #[.pointer (some ⟨Ei, 0, none⟩), .pointer (some ⟨En, 0, none⟩), .pointer (some ⟨Es, 0, none⟩)]) (two_funs _ _ _ _ (fun _ => True) _ _ ⟨rfl, rfl⟩ ⟨rfl, rfl⟩)
    (fun j hj => match j, hj with | 0, _ => fun _ _ => rfl | 1, _ => fun _ _ => rfl)
    (fun base X j W => match j with | 0 => VW base X n m xs ys off W ∧ Below w.heap.size w W ∧ w.heap.size ≤ base | 1 => VW base X n m (xs.set i v) (ys.set i s) off W | _ => VR base X (n + 1) (m + 1) ((xs.set i v).take i2 ++ v2 :: (xs.set i v).drop i2) ((ys.set i s).take i2 ++ s2 :: (ys.set i s).drop i2) off W)
    (fun base X W h1 h2 h3 => ⟨h3, h2, h1⟩) ?_ _ _ _ _ _ (fun base X W h => h) (by omega) (by omega)
  intro base X j W hj hb hB hI
  match j, hj, hI with
  | 0, _, hI =>
    refine (to1_calls base X Di Dn Ds n m i xs ys off v s W hI.1 (hDi.below' hB) (hDn.below' hB) (hDs.below' hB) hin him (Nat.lt_of_lt_of_le hDi.lt hb) (Nat.lt_of_lt_of_le hDn.lt hb) (Nat.lt_of_lt_of_le hDs.lt hb)).mono ?_
    rintro e W' ⟨rfl, h1, h2⟩
    exact ⟨rfl, h1, h2⟩
  | 1, _, hI =>
    refine (add1_calls base X Ei En Es n m i2 _ _ off v2 s2 W hI (hEi.below' hB) (hEn.below' hB) (hEs.below' hB) hi2 hi3 (by omega) (by omega) (Nat.lt_of_lt_of_le hEi.lt hb) (Nat.lt_of_lt_of_le hEn.lt hb) (Nat.lt_of_lt_of_le hEs.lt hb)).mono ?_
    rintro e W' ⟨rfl, h1, h2⟩
    exact ⟨rfl, h1, h2⟩
set_option maxRecDepth 100000 in
theorem bydrop_change (xs ys : List Int) (off : Int) (A B : Option Addr) (ca cb n m i : Nat) (w : World) (hx : ReadsI w .i64 A xs) (hy : ReadsI w .i64 B ys) (hn : xs.length = n) (hm : ys.length = m) (hl : n ≤ 100000) (hl2 : m ≤ 100000) (D Di D4 : Nat) (T : TypeId) (d o2 : Int) (hin : i < n) (him : i < m) (hDi : Blk w Di 3 #[.int .i64 (i : Nat)]) (hD4 : Blk w D4 3 #[.int .i64 d]) (hD : Blk w D T #[.func (.func 113) #[] #[.pointer (some ⟨D4, 0, none⟩)], .func (.func 74) #[] #[.pointer (some ⟨Di, 0, none⟩)]]) (ho : IntKind.i64.wrap (off + d) = o2) :
    Calls Try.prog 69 #[.agg #[.slice A n ca, .slice B m cb, .int .i64 off], .slice (some ⟨D, 0, none⟩) 2 2] w (ChgPost (xs.take i ++ xs.drop (i + 1)) (ys.take i ++ ys.drop (i + 1)) o2 (n - 1) (m - 1) w) := by
  refine change_calls xs ys off A B ca cb n m w hx hy hn hm (by omega) (by omega) (by omega) (by omega) D 2 T _ hD (by omega)
    (fun j => match j with | 0 => 113 | _ => 74) (fun j => match j with | 0 => #[.pointer (some ⟨D4, 0, none⟩)] | _ => #[.pointer (some ⟨Di, 0, none⟩)]) (two_funs _ _ _ _ (fun _ => True) _ _ ⟨rfl, rfl⟩ ⟨rfl, rfl⟩)
    (fun j hj => match j, hj with | 0, _ => fun _ _ => rfl | 1, _ => fun _ _ => rfl)
    (fun base X j W => match j with | 0 => VW base X n m xs ys off W ∧ Below w.heap.size w W ∧ w.heap.size ≤ base | 1 => VW base X n m xs ys o2 W | _ => VR base X (n - 1) (m - 1) (xs.take i ++ xs.drop (i + 1)) (ys.take i ++ ys.drop (i + 1)) o2 W)
    (fun base X W h1 h2 h3 => ⟨h3, h2, h1⟩) ?_ _ _ _ _ _ (fun base X W h => h) (by omega) (by omega)
  intro base X j W hj hb hB hI
  match j, hj, hI with
  | 0, _, hI =>
    refine (by1_calls base X D4 n m _ _ off d o2 W hI.1 (hD4.below' hB) ho).mono ?_
    rintro e W' ⟨rfl, h1, h2⟩
    exact ⟨rfl, h1, h2⟩
  | 1, _, hI =>
    refine (drop1_calls base X Di n m i xs ys o2 W hI (hDi.below' hB) hin him (by omega) (by omega) (Nat.lt_of_lt_of_le hDi.lt hb)).mono ?_
    rintro e W' ⟨rfl, h1, h2⟩
    exact ⟨rfl, h1, h2⟩
end Go.Proofs.Ythjkeefdeeljoaa.Shp
