/- Contract of hash.Add. -/
import Derived.Test.YteilngkjoeaboaaGrow
import Derived.Test.YteilngkjoeaboaaApp
namespace Go.Proofs.Yteilngkjoeaboaa.Hs
open Go.RowKit Go.Proofs.Yteilngkjoeaboaa.Lb
set_option linter.unusedVariables false
set_option linter.unusedSimpArgs false

/-- A table with these labels. -/
structure Tab (B : Nat) (w : World) (T : Nat) (L : List Lab) (S : List Nat) (LA : Option Addr) (lc sb : Nat) : Prop where
  tab : TabW B w T L S LA lc sb
  inv : Inv L S
  ok : ∀ x ∈ L, x.Ok
  room : 3 * L.length < 2 * S.length
  eight : 8 ≤ S.length
  least : 8 < S.length → S.length ≤ 3 * L.length
  few : L.length ≤ 4096
theorem grow_calls (B T : Nat) (L : List Lab) (S : List Nat) (LA : Option Addr) (lc sb : Nat) (w : World) (ht : TabW B w T L S LA lc sb) (hi : Inv L S) (hm : S.length ≤ 1000000) (hok : ∀ x ∈ L, x.Ok) (hB : B ≤ w.heap.size) :
    Calls Try.prog 20 #[.pointer (some ⟨T, 0, none⟩)] w fun e w' => e = .returned (.tuple #[]) ∧ Grown B T L S.length LA lc w w' :=
  callsIn_wide.1 (grow_in B T L S LA lc sb w ht hi hm hok hB)
theorem own_one {w : World} {base : Nat} {e : TypeId} {size n m : Nat} {v : Value} {xs : List Value} (h : w.ownsRow base e size v n xs) (hm : n = m + 1) : ∃ g c, v = .slice (some ⟨g, 0, none⟩) n c := by
  rcases h.2 with ⟨_, h0⟩ | ⟨g, cap, cur, h1, _⟩
  · omega
  · exact ⟨g, cap, h1⟩
theorem bl_allocB {B : Nat} {w W : World} (h : Below B w W) (hB : B ≤ W.heap.size) (o : Obj) : Below B w (W.alloc o) := h.alloc hB o
/-- Blocks of types that a table does not have stay as they are. -/
def Spares (w w' : World) : Prop := ∀ g t cs, Blk w g t cs → t ≠ 45 → t ≠ 3 → t ≠ 34 → Blk w' g t cs
theorem Spares.below {w w' : World} (h : Below w.heap.size w w') : Spares w w' := fun g t cs hb _ _ _ => hb.below' h
theorem Spares.own {w w' : World} (h : Spares w w') {base : Nat} {e : TypeId} {size n : Nat} {v : Value} {xs : List Value} (ho : w.ownsRow base e size v n xs) (h1 : e ≠ 45) (h2 : e ≠ 3) (h3 : e ≠ 34) : w'.ownsRow base e size v n xs := by
  refine ⟨ho.1, ?_⟩
  rcases ho.2 with hn | ⟨g, cap, cur, q1, q2, q3, q4⟩
  · exact .inl hn
  · exact .inr ⟨g, cap, cur, q1, q2, h g e cur q3 h1 h2 h3, q4⟩
/-- What Add leaves where the label is laid in. -/
def Added (B T : Nat) (L : List Lab) (a : Lab) (w w' : World) : Prop := (∃ S LA lc sb, Tab B w' T (L ++ [a]) S LA lc sb) ∧ Below B w w' ∧ B ≤ w'.heap.size ∧ Spares w w'
theorem add_none (T : Option Addr) (a : Lab) (w : World) (hn : ∀ W, Below w.heap.size w W → Calls Try.prog 17 #[.pointer T] W fun e w' => e = .returned (.bool true) ∧ W = w') :
    Calls Try.prog 10 #[.pointer T, a.v] w fun e w' => e = .returned (.tuple #[.int .i64 0, .int .i64 1]) ∧ Below w.heap.size w w' := by
  have HN := Lib.hid hn
  have HB1 := Lib.hid (bl_alloc (Below.refl w.heap.size w) (.cells #[.int .u8 a.k, .int .i64 a.n, .string a.s] 34))
  have hv : a.v = .agg #[.int .u8 a.k, .int .i64 a.n, .string a.s] := rfl
  rw [hv]
  clear hn hv
  go_enter Try.func10, Try.ntmps10
  go_wp2_with fail
  refine (HN.out _ HB1.out).mono ?_
  rintro e w' ⟨rfl, rfl⟩
  go_wp2_with fail
  go_ret2
  exact ⟨rfl, HB1.out⟩
theorem add_wrong (a : Lab) (ha : a.Ok) (B T : Nat) (L : List Lab) (S : List Nat) (LA : Option Addr) (lc sb : Nat) (w : World) (ht : Tab B w T L S LA lc sb) (hr : rightL a = false) :
    Calls Try.prog 10 #[.pointer (some ⟨T, 0, none⟩), a.v] w fun e w' => e = .returned (.tuple #[.int .i64 0, .int .i64 9]) ∧ Below w.heap.size w w' := by
  have HN := Lib.hid (fun w (h : TabR w T L S LA lc sb S.length) => none_no T (.slice LA L.length lc) _ _ _ w h.s (by simp))
  have HRI := Lib.hid (fun w => right_calls a w ha)
  have HSK := Lib.hid (fun w h => seek_calls a ha T L S LA lc sb S.length w h ht.inv (by have := ht.few; omega))
  have hv : a.v = .agg #[.int .u8 a.k, .int .i64 a.n, .string a.s] := rfl
  have HTW := Lib.hid ht
  have HT1 := Lib.hid (ht.tab.below (bl_alloc (Below.refl _ _) (.cells #[.int .u8 a.k, .int .i64 a.n, .string a.s] 34)))
  have HBX := Lib.hid (Blk.new w 34 #[.int .u8 a.k, .int .i64 a.n, .string a.s])
  have HB1 := Lib.hid (bl_alloc (Below.refl w.heap.size w) (.cells #[.int .u8 a.k, .int .i64 a.n, .string a.s] 34))
  have hfew := ht.few
  have hroom := ht.room
  have hleast := ht.least
  have height := ht.eight
  rw [hv] at HSK HRI ⊢
  clear ht hv
  go_enter Try.func10, Try.ntmps10
  go_wp2_with fail
  refine (HN.out _ HT1.out.read).mono ?_
  rintro e w' ⟨rfl, rfl⟩
  have c0 := HBX.out.cell 0
  have c1 := HBX.out.cell 1
  have c2 := HBX.out.cell 2
  go_wp2_with fail
  refine (HRI.out _).mono ?_
  rintro e w2 ⟨rfl, hB2⟩
  rw [hr]
  have HB2 := Lib.hid (bl_then HB1.out hB2)
  clear hB2
  go_wp2_with fail
  go_ret2
  exact ⟨rfl, HB2.out⟩
set_option maxRecDepth 100000 in
set_option maxHeartbeats 1000000 in
theorem add_twice (a : Lab) (ha : a.Ok) (B T : Nat) (L : List Lab) (S : List Nat) (LA : Option Addr) (lc sb : Nat) (w : World) (ht : Tab B w T L S LA lc sb) (hr : rightL a = true) (hm : a ∈ L) :
    Calls Try.prog 10 #[.pointer (some ⟨T, 0, none⟩), a.v] w fun e w' => e = .returned (.tuple #[.int .i64 0, .int .i64 6]) ∧ Below w.heap.size w w' := by
  have HN := Lib.hid (fun w (h : TabR w T L S LA lc sb S.length) => none_no T (.slice LA L.length lc) _ _ _ w h.s (by simp))
  have HRI := Lib.hid (fun w => right_calls a w ha)
  have HSK := Lib.hid (fun w h => seek_calls a ha T L S LA lc sb S.length w h ht.inv (by have := ht.few; omega))
  have hv : a.v = .agg #[.int .u8 a.k, .int .i64 a.n, .string a.s] := rfl
  have HTW := Lib.hid ht
  have HT1 := Lib.hid (ht.tab.below (bl_alloc (Below.refl _ _) (.cells #[.int .u8 a.k, .int .i64 a.n, .string a.s] 34)))
  have HBX := Lib.hid (Blk.new w 34 #[.int .u8 a.k, .int .i64 a.n, .string a.s])
  have HB1 := Lib.hid (bl_alloc (Below.refl w.heap.size w) (.cells #[.int .u8 a.k, .int .i64 a.n, .string a.s] 34))
  have hfew := ht.few
  have hroom := ht.room
  have hleast := ht.least
  have height := ht.eight
  rw [hv] at HSK HRI ⊢
  clear ht hv
  go_enter Try.func10, Try.ntmps10
  go_wp2_with fail
  refine (HN.out _ HT1.out.read).mono ?_
  rintro e w' ⟨rfl, rfl⟩
  have c0 := HBX.out.cell 0
  have c1 := HBX.out.cell 1
  have c2 := HBX.out.cell 2
  go_wp2_with fail
  refine (HRI.out _).mono ?_
  rintro e w2 ⟨rfl, hB2⟩
  rw [hr]
  have HT2 := Lib.hid (HT1.out.below hB2)
  have HBX2 := Lib.hid (HBX.out.below' hB2)
  have HB2 := Lib.hid (bl_then HB1.out hB2)
  clear hB2 c0 c1 c2
  have c0 := HBX2.out.cell 0
  have c1 := HBX2.out.cell 1
  have c2 := HBX2.out.cell 2
  clear HBX HT1 HB1 HRI HN
  go_wp2_with fail
  refine (HSK.out _ HT2.out.read).mono ?_
  rintro e w3 ⟨⟨s, n, rfl, hn, hs, hf⟩, hB3⟩
  have HT3 := Lib.hid (HT2.out.below hB3)
  have HBX3 := Lib.hid (HBX2.out.below' hB3)
  have HB3 := Lib.hid (bl_then HB2.out hB3)
  clear hB3 c0 c1 c2 HBX2 HT2 HB2 HSK hn
  have e0 := HT3.out.hT.cell 0
  have e1 := HT3.out.hT.cell 1
  have e2 := (HT3.out.read.row s hs).1
  rw [Nat.zero_add] at e2
  have hsl : (s : Int) < (S.length : Int) := by omega
  rcases hf with ⟨i, hi, hia, his⟩ | ⟨hno, _⟩
  · rw [his, show ((i + 1 : Nat) : Int) = (i : Int) + 1 by omega] at e2
    have z : (((i : Int) + 1) != 0) = true := by simp; omega
    clear hia his
    go_wp2_with fail
    go_ret2
    exact ⟨rfl, HB3.out⟩
  · exact absurd hm hno
set_option maxRecDepth 100000 in
set_option maxHeartbeats 1000000 in
theorem add_full (a : Lab) (ha : a.Ok) (B T : Nat) (L : List Lab) (S : List Nat) (LA : Option Addr) (lc sb : Nat) (w : World) (ht : Tab B w T L S LA lc sb) (hr : rightL a = true) (hm : a ∉ L) (hl : 4096 ≤ L.length) :
    Calls Try.prog 10 #[.pointer (some ⟨T, 0, none⟩), a.v] w fun e w' => e = .returned (.tuple #[.int .i64 0, .int .i64 7]) ∧ Below w.heap.size w w' := by
  have HN := Lib.hid (fun w (h : TabR w T L S LA lc sb S.length) => none_no T (.slice LA L.length lc) _ _ _ w h.s (by simp))
  have HRI := Lib.hid (fun w => right_calls a w ha)
  have HSK := Lib.hid (fun w h => seek_calls a ha T L S LA lc sb S.length w h ht.inv (by have := ht.few; omega))
  have hv : a.v = .agg #[.int .u8 a.k, .int .i64 a.n, .string a.s] := rfl
  have HTW := Lib.hid ht
  have HT1 := Lib.hid (ht.tab.below (bl_alloc (Below.refl _ _) (.cells #[.int .u8 a.k, .int .i64 a.n, .string a.s] 34)))
  have HBX := Lib.hid (Blk.new w 34 #[.int .u8 a.k, .int .i64 a.n, .string a.s])
  have HB1 := Lib.hid (bl_alloc (Below.refl w.heap.size w) (.cells #[.int .u8 a.k, .int .i64 a.n, .string a.s] 34))
  have hfew := ht.few
  have hroom := ht.room
  have hleast := ht.least
  have height := ht.eight
  rw [hv] at HSK HRI ⊢
  clear ht hv
  go_enter Try.func10, Try.ntmps10
  go_wp2_with fail
  refine (HN.out _ HT1.out.read).mono ?_
  rintro e w' ⟨rfl, rfl⟩
  have c0 := HBX.out.cell 0
  have c1 := HBX.out.cell 1
  have c2 := HBX.out.cell 2
  go_wp2_with fail
  refine (HRI.out _).mono ?_
  rintro e w2 ⟨rfl, hB2⟩
  rw [hr]
  have HT2 := Lib.hid (HT1.out.below hB2)
  have HBX2 := Lib.hid (HBX.out.below' hB2)
  have HB2 := Lib.hid (bl_then HB1.out hB2)
  clear hB2 c0 c1 c2
  have c0 := HBX2.out.cell 0
  have c1 := HBX2.out.cell 1
  have c2 := HBX2.out.cell 2
  clear HBX HT1 HB1 HRI HN
  go_wp2_with fail
  refine (HSK.out _ HT2.out.read).mono ?_
  rintro e w3 ⟨⟨s, n, rfl, hn, hs, hf⟩, hB3⟩
  have HT3 := Lib.hid (HT2.out.below hB3)
  have HBX3 := Lib.hid (HBX2.out.below' hB3)
  have HB3 := Lib.hid (bl_then HB2.out hB3)
  clear hB3 c0 c1 c2 HBX2 HT2 HB2 HSK hn
  have e0 := HT3.out.hT.cell 0
  have e1 := HT3.out.hT.cell 1
  have e2 := (HT3.out.read.row s hs).1
  rw [Nat.zero_add] at e2
  have hsl : (s : Int) < (S.length : Int) := by omega
  rcases hf with ⟨i, hi, hia, his⟩ | ⟨hno, hz, _⟩
  · exact absurd (by rw [← hia]; exact nth_mem _ _ hi) hm
  · rw [hz] at e2
    clear hz
    go_wp2_with fail
    go_ret2
    exact ⟨rfl, HB3.out⟩
set_option maxRecDepth 100000 in
set_option maxHeartbeats 2000000 in
theorem add_yes (a : Lab) (ha : a.Ok) (B T : Nat) (L : List Lab) (S : List Nat) (LA : Option Addr) (lc sb : Nat) (w : World) (ht : Tab B w T L S LA lc sb) (hB : B ≤ w.heap.size) (hr : rightL a = true) (hm : a ∉ L) (hl : L.length < 4096) :
    Calls Try.prog 10 #[.pointer (some ⟨T, 0, none⟩), a.v] w fun e w' => e = .returned (.tuple #[.int .i64 (L.length : Nat), .int .i64 0]) ∧ Added B T L a w w' := by
  have HN := Lib.hid (fun w (h : TabR w T L S LA lc sb S.length) => none_no T (.slice LA L.length lc) _ _ _ w h.s (by simp))
  have HRI := Lib.hid (fun w => right_calls a w ha)
  have HSK := Lib.hid (fun w h => seek_calls a ha T L S LA lc sb S.length w h ht.inv (by have := ht.few; omega))
  have hv : a.v = .agg #[.int .u8 a.k, .int .i64 a.n, .string a.s] := rfl
  have HTW := Lib.hid ht
  have HT1 := Lib.hid (ht.tab.below (bl_alloc (Below.refl _ _) (.cells #[.int .u8 a.k, .int .i64 a.n, .string a.s] 34)))
  have HBX := Lib.hid (Blk.new w 34 #[.int .u8 a.k, .int .i64 a.n, .string a.s])
  have HB1 := Lib.hid (bl_alloc (Below.refl w.heap.size w) (.cells #[.int .u8 a.k, .int .i64 a.n, .string a.s] 34))
  have hfew := ht.few
  have hroom := ht.room
  have hleast := ht.least
  have height := ht.eight
  rw [hv] at HSK HRI ⊢
  clear ht hv
  go_enter Try.func10, Try.ntmps10
  go_wp2_with fail
  refine (HN.out _ HT1.out.read).mono ?_
  rintro e w' ⟨rfl, rfl⟩
  have c0 := HBX.out.cell 0
  have c1 := HBX.out.cell 1
  have c2 := HBX.out.cell 2
  go_wp2_with fail
  refine (HRI.out _).mono ?_
  rintro e w2 ⟨rfl, hB2⟩
  rw [hr]
  have HT2 := Lib.hid (HT1.out.below hB2)
  have HBX2 := Lib.hid (HBX.out.below' hB2)
  have HB2 := Lib.hid (bl_then HB1.out hB2)
  clear hB2 c0 c1 c2
  have c0 := HBX2.out.cell 0
  have c1 := HBX2.out.cell 1
  have c2 := HBX2.out.cell 2
  clear HBX HT1 HB1 HRI HN
  go_wp2_with fail
  refine (HSK.out _ HT2.out.read).mono ?_
  rintro e w3 ⟨⟨s, n, rfl, hn, hs, hf⟩, hB3⟩
  have HT3 := Lib.hid (HT2.out.below hB3)
  have HBX3 := Lib.hid (HBX2.out.below' hB3)
  have HB3 := Lib.hid (bl_then HB2.out hB3)
  clear hB3 c0 c1 c2 HBX2 HT2 HB2 HSK hn
  have e0 := HT3.out.hT.cell 0
  have e1 := HT3.out.hT.cell 1
  have e2 := (HT3.out.read.row s hs).1
  rw [Nat.zero_add] at e2
  have hsl : (s : Int) < (S.length : Int) := by omega
  rcases hf with ⟨i, hi, hia, his⟩ | ⟨hno, hz, hpr⟩
  · exact absurd (by rw [← hia]; exact nth_mem _ _ hi) hm
  rw [hz] at e2
  have HZ := Lib.hid hz
  have HPR := Lib.hid hpr
  have HNO := Lib.hid hno
  clear hz hpr hno hm
  by_cases hgr : 2 * S.length ≤ 3 * (L.length + 1)
  · have hTw := HTW.out.tab.hT.lt
    have hle1 : S.length ≤ 3 * (L.length + 1) := by omega
    have HSK2 := Lib.hid (fun w S1 sb1 h hi => seek_calls a ha T L S1 LA lc sb1 S1.length w h hi (by omega))
    rw [show a.v = .agg #[.int .u8 a.k, .int .i64 a.n, .string a.s] from rfl] at HSK2
    go_wp2_with fail
    go_quiet (fail)
    have HT3' : Hid (TabW B (w3.drewN nq) T L S LA lc sb) := Lib.hid ⟨HT3.out.hT, HT3.out.hs, HT3.out.ho, HT3.out.b1, HT3.out.b2⟩
    have HBX3' : Hid (Blk (w3.drewN nq) w.heap.size 34 #[.int .u8 a.k, .int .i64 a.n, .string a.s]) := Lib.hid HBX3.out
    have HB3' : Hid (Below w.heap.size w (w3.drewN nq)) := Lib.hid (bl_drewN HB3.out nq)
    generalize w3.drewN nq = w4 at *
    clear HT3 HBX3 HB3 e0 e1 e2 HZ HPR hs hsl
    go_wp2_with fail
    refine (grow_calls B T L S LA lc sb _ HT3'.out HTW.out.inv (by omega) HTW.out.ok (Nat.le_trans hB HB3'.out.size)).mono ?_
    rintro e w7 ⟨rfl, ⟨S1, sb1, hW1, hI1, hlen1⟩, hOnly⟩
    have HT7 := Lib.hid hW1
    have HI7 := Lib.hid hI1
    have HBX7 := Lib.hid (hOnly.blk HBX3'.out (by omega))
    have HO7 : Hid (Only T w w7) := Lib.hid ((Only.of_below HB3'.out).trans hOnly)
    have hl1 : S1.length ≤ 2 * S.length := by omega
    have hl2 : 2 * S.length ≤ S1.length := by omega
    have c0 := HBX7.out.cell 0
    have c1 := HBX7.out.cell 1
    have c2 := HBX7.out.cell 2
    clear hW1 hI1 hOnly HT3' HBX3' HB3' hlen1
    go_wp2_with fail
    refine (HSK2.out _ S1 sb1 HT7.out.read HI7.out).mono ?_
    rintro e w8 ⟨⟨s, n2, rfl, hn2, hs, hf⟩, hB8⟩
    rcases hf with ⟨i, hi, hia, his⟩ | ⟨_, hz, hpr⟩
    · exact absurd (by rw [← hia]; exact nth_mem _ _ hi) HNO.out
    obtain ⟨W, hW⟩ : ∃ W, W = w8 := ⟨_, rfl⟩
    have HTT : Hid (TabW B W T L S1 LA lc sb1) := Lib.hid (by rw [hW]; exact HT7.out.below hB8)
    have HBT : Hid (Blk W w.heap.size 34 #[.int .u8 a.k, .int .i64 a.n, .string a.s]) := Lib.hid (by rw [hW]; exact HBX7.out.below' hB8)
    have HOT : Hid (Only T w W) := Lib.hid (by rw [hW]; exact HO7.out.trans (Only.of_below hB8))
    have HZ := Lib.hid hz
    have HPR := Lib.hid hpr
    have HIT := HI7
    rw [← hW]
    have hBW : B ≤ W.heap.size := Nat.le_trans hB HOT.out.size
    have hgr' : 3 * (L.length + 1) < 2 * S1.length := by omega
    clear hW hB8 hz hpr HT7 HBX7 HO7 c0 c1 c2 hn2 HSK2
    have hs' : s < S1.length := hs
    have q0 := HTT.out.hT.cell 0
    have q1 := HTT.out.hT.cell 1
    have q1f := HTT.out.hT.frozen 1
    have q2 := HBT.out.cell 0
    have q3 := HBT.out.cell 1
    have q4 := HBT.out.cell 2
    have hTl := HTT.out.hT.lt
    have hbl := HBT.out.lt
    go_wp2_with fail
    go_region_law (refine step_app rfl (.tmp 63) (.tmp 65) 41 rfl 34 B (.agg #[.int .u8 0, .int .i64 0, .string ⟨#[]⟩]) 3 32 Try.underlying41 info_lab rfl (by decide) (.slice LA L.length lc) L.length _ rfl (by first | exact (HTT.out.ho.alloc _) | exact HTT.out.ho) (some ⟨W.heap.size, 0, none⟩) 1 1 a.cs rfl rfl (Shows.of_blk (Blk.drew (Blk.new W 34 #[.int .u8 a.k, .int .i64 a.n, .string a.s]))) (cs_one a) (by unfold maxLen; omega) (by omega) (by simp; omega) ?_; intro v1 w5 hown1 hg1 _; obtain ⟨g, cap, rfl⟩ := own_one hown1 rfl; have hTb := Blk.grown (Blk.drew (HTT.out.hT.alloc _)) hg1 (own_row_ne (HTT.out.ho) HTT.out.hT (by decide)); have r0 := hTb.cell 0; have r1 := hTb.cell 1; have rf := hTb.frozen 0; have HTB := Lib.hid hTb; have HSB := Lib.hid (Blk.grown (Blk.drew (HTT.out.hs.alloc _)) hg1 (own_row_ne HTT.out.ho HTT.out.hs (by decide))); have HOW := Lib.hid hown1; have HG1 := Lib.hid hg1; clear hTb hown1 hg1)
    all_goals
      obtain ⟨W6, hW6⟩ : ∃ W6, W6 = w5.setCell ⟨T, 0, none⟩ (.slice (some ⟨g, 0, none⟩) (L.length + 1) cap) := ⟨_, rfl⟩
      have hT6 : Blk W6 T 45 #[.slice (some ⟨g, 0, none⟩) (L.length + 1) cap, .slice (some ⟨sb1, 0, none⟩) S1.length S1.length] := by rw [hW6]; simpa using HTB.out.set 0 (.slice (some ⟨g, 0, none⟩) (L.length + 1) cap)
      have hs6 : Blk W6 sb1 3 (S1.map fun (x : Nat) => Value.int .i64 x).toArray := by rw [hW6]; exact HSB.out.far (Blk.ne_ HSB.out HTB.out (by decide)) _
      have ho6 : W6.ownsRow B 34 3 (.slice (some ⟨g, 0, none⟩) (L.length + 1) cap) (L.length + 1) ((L ++ [a]).flatMap Lab.cs) := by
        rw [hW6, ← cs_snoc]
        exact own_far HOW.out (p := ⟨T, 0, none⟩) HTB.out (by decide) _
      have hB5 : Below B w w5 := ((HOT.out.below hB HTT.out.b1).trans (bl_drew' (bl_allocB (Below.refl _ _) hBW _))).grown HG1.out (by simp; omega) (fun k hk => (own_lt HTT.out.ho k hk).1)
      have hB6 : Below B w W6 := by rw [hW6]; exact hB5.setCell HTT.out.b1 _
      have hz6 : B ≤ W6.heap.size := by have := HTT.out.b1; have := hT6.lt; omega
      rw [← hW6]
      have u0 := hT6.cell 0
      have u1 := hT6.cell 1
      have u2 := (row_of_blk hs6 s hs').1
      have u3 := (row_of_blk hs6 s hs').2
      rw [Nat.zero_add] at u2 u3
      have hne1 : T ≠ sb1 := Blk.ne_ hT6 hs6 (by decide)
      have hne2 := hne1.symm
      have hll : (L ++ [a]).length = L.length + 1 := by simp
      have hW : TabW B W6 T (L ++ [a]) S1 (some ⟨g, 0, none⟩) cap sb1 := ⟨by rw [hll]; exact hT6, hs6, by rw [hll]; exact ho6, HTT.out.b1, HTT.out.b2⟩
      have HWS : Hid (TabW B ((W6.setCell ⟨sb1, s, none⟩ (.int .i64 ((L.length : Int) + 1))).drew) T (L ++ [a]) (S1.set s (L.length + 1)) (some ⟨g, 0, none⟩) cap sb1) := Lib.hid (hW.slot s (L.length + 1)).drew
      have HBE : Hid (Below B w ((W6.setCell ⟨sb1, s, none⟩ (.int .i64 ((L.length : Int) + 1))).drew)) := Lib.hid (bl_drew' (hB6.setCell (p := ⟨sb1, s, none⟩) HTT.out.b2 _))
      have hzz : B ≤ ((W6.setCell ⟨sb1, s, none⟩ (.int .i64 ((L.length : Int) + 1))).drew).heap.size := by simp [World.setCell]; exact hz6
      have HZZ := Lib.hid hzz
      have HSP : Hid (Spares w ((W6.setCell ⟨sb1, s, none⟩ (.int .i64 ((L.length : Int) + 1))).drew)) := Lib.hid fun g2 t cs hb n1 n2 n3 => by
        have b1 := HOT.out.blk hb (Blk.ne_ hb HTW.out.tab.hT n1)
        have b2 : Blk w5 g2 t cs := (Blk.drew (b1.alloc _)).grown HG1.out (own_row_ne HTT.out.ho b1 (Ne.symm n3))
        have b3 : Blk W6 g2 t cs := by rw [hW6]; exact b2.far (Blk.ne_ b2 HTB.out n1) _
        exact Blk.drew (b3.far (Blk.ne_ b3 hs6 n2) _)
      clear hll hW hzz
      have HT6 := Lib.hid hT6
      have HS6 := Lib.hid hs6
      have HO6 := Lib.hid ho6
      have HB6 := Lib.hid hB6
      have hwn : IntKind.i64.wrap ((L.length : Int) + 1) = (L.length : Int) + 1 := by rw [IntKind.wrap_i64]; omega
      clear hW6 hT6 hs6 ho6 hB5 hB6 r0 r1 rf q0 q1 q1f q2 q3 q4
      go_wp2_with fail
      go_region
      go_wp2_with fail
      go_ret2
      refine ⟨rfl, ⟨S1.set s (L.length + 1), some ⟨g, 0, none⟩, cap, sb1, HWS.out, (by obtain ⟨d, hd, hsd, hnz⟩ := HPR.out; exact insert_inv HIT.out HNO.out hd hsd HZ.out hnz (by omega)), fun x hx => ?_, by simp; omega, by simp; omega, fun h => by simp at h ⊢; omega, by simp; omega⟩, HBE.out, HZZ.out, HSP.out⟩
      rcases List.mem_append.1 hx with hx | hx
      · exact HTW.out.ok x hx
      · obtain rfl : x = a := by simpa using hx
        exact ha
  · have hgr' : 3 * (L.length + 1) < 2 * S.length := by omega
    go_wp2_with fail
    go_quiet (fail)
    obtain ⟨W, hW⟩ : ∃ W, W = w3.drewN nq := ⟨_, rfl⟩
    have HTT : Hid (TabW B W T L S LA lc sb) := Lib.hid (by rw [hW]; exact ⟨HT3.out.hT, HT3.out.hs, HT3.out.ho, HT3.out.b1, HT3.out.b2⟩)
    have HBT : Hid (Blk W w.heap.size 34 #[.int .u8 a.k, .int .i64 a.n, .string a.s]) := Lib.hid (by rw [hW]; exact HBX3.out)
    have HOT : Hid (Only T w W) := Lib.hid (by rw [hW]; exact Only.of_below (bl_drewN HB3.out nq))
    have HIT := Lib.hid HTW.out.inv
    rw [← hW]
    have hBW : B ≤ W.heap.size := Nat.le_trans hB HOT.out.size
    clear hW HT3 HBX3 HB3 e0 e1 e2
    have hs' : s < S.length := hs
    have q0 := HTT.out.hT.cell 0
    have q1 := HTT.out.hT.cell 1
    have q1f := HTT.out.hT.frozen 1
    have q2 := HBT.out.cell 0
    have q3 := HBT.out.cell 1
    have q4 := HBT.out.cell 2
    have hTl := HTT.out.hT.lt
    have hbl := HBT.out.lt
    go_wp2_with fail
    go_region_law (refine step_app rfl (.tmp 63) (.tmp 65) 41 rfl 34 B (.agg #[.int .u8 0, .int .i64 0, .string ⟨#[]⟩]) 3 32 Try.underlying41 info_lab rfl (by decide) (.slice LA L.length lc) L.length _ rfl (by first | exact (HTT.out.ho.alloc _) | exact HTT.out.ho) (some ⟨W.heap.size, 0, none⟩) 1 1 a.cs rfl rfl (Shows.of_blk (Blk.drew (Blk.new W 34 #[.int .u8 a.k, .int .i64 a.n, .string a.s]))) (cs_one a) (by unfold maxLen; omega) (by omega) (by simp; omega) ?_; intro v1 w5 hown1 hg1 _; obtain ⟨g, cap, rfl⟩ := own_one hown1 rfl; have hTb := Blk.grown (Blk.drew (HTT.out.hT.alloc _)) hg1 (own_row_ne (HTT.out.ho) HTT.out.hT (by decide)); have r0 := hTb.cell 0; have r1 := hTb.cell 1; have rf := hTb.frozen 0; have HTB := Lib.hid hTb; have HSB := Lib.hid (Blk.grown (Blk.drew (HTT.out.hs.alloc _)) hg1 (own_row_ne HTT.out.ho HTT.out.hs (by decide))); have HOW := Lib.hid hown1; have HG1 := Lib.hid hg1; clear hTb hown1 hg1)
    all_goals
      obtain ⟨W6, hW6⟩ : ∃ W6, W6 = w5.setCell ⟨T, 0, none⟩ (.slice (some ⟨g, 0, none⟩) (L.length + 1) cap) := ⟨_, rfl⟩
      have hT6 : Blk W6 T 45 #[.slice (some ⟨g, 0, none⟩) (L.length + 1) cap, .slice (some ⟨sb, 0, none⟩) S.length S.length] := by rw [hW6]; simpa using HTB.out.set 0 (.slice (some ⟨g, 0, none⟩) (L.length + 1) cap)
      have hs6 : Blk W6 sb 3 (S.map fun (x : Nat) => Value.int .i64 x).toArray := by rw [hW6]; exact HSB.out.far (Blk.ne_ HSB.out HTB.out (by decide)) _
      have ho6 : W6.ownsRow B 34 3 (.slice (some ⟨g, 0, none⟩) (L.length + 1) cap) (L.length + 1) ((L ++ [a]).flatMap Lab.cs) := by
        rw [hW6, ← cs_snoc]
        exact own_far HOW.out (p := ⟨T, 0, none⟩) HTB.out (by decide) _
      have hB5 : Below B w w5 := ((HOT.out.below hB HTT.out.b1).trans (bl_drew' (bl_allocB (Below.refl _ _) hBW _))).grown HG1.out (by simp; omega) (fun k hk => (own_lt HTT.out.ho k hk).1)
      have hB6 : Below B w W6 := by rw [hW6]; exact hB5.setCell HTT.out.b1 _
      have hz6 : B ≤ W6.heap.size := by have := HTT.out.b1; have := hT6.lt; omega
      rw [← hW6]
      have u0 := hT6.cell 0
      have u1 := hT6.cell 1
      have u2 := (row_of_blk hs6 s hs').1
      have u3 := (row_of_blk hs6 s hs').2
      rw [Nat.zero_add] at u2 u3
      have hne1 : T ≠ sb := Blk.ne_ hT6 hs6 (by decide)
      have hne2 := hne1.symm
      have hll : (L ++ [a]).length = L.length + 1 := by simp
      have hW : TabW B W6 T (L ++ [a]) S (some ⟨g, 0, none⟩) cap sb := ⟨by rw [hll]; exact hT6, hs6, by rw [hll]; exact ho6, HTT.out.b1, HTT.out.b2⟩
      have HWS : Hid (TabW B ((W6.setCell ⟨sb, s, none⟩ (.int .i64 ((L.length : Int) + 1))).drew) T (L ++ [a]) (S.set s (L.length + 1)) (some ⟨g, 0, none⟩) cap sb) := Lib.hid (hW.slot s (L.length + 1)).drew
      have HBE : Hid (Below B w ((W6.setCell ⟨sb, s, none⟩ (.int .i64 ((L.length : Int) + 1))).drew)) := Lib.hid (bl_drew' (hB6.setCell (p := ⟨sb, s, none⟩) HTT.out.b2 _))
      have hzz : B ≤ ((W6.setCell ⟨sb, s, none⟩ (.int .i64 ((L.length : Int) + 1))).drew).heap.size := by simp [World.setCell]; exact hz6
      have HZZ := Lib.hid hzz
      have HSP : Hid (Spares w ((W6.setCell ⟨sb, s, none⟩ (.int .i64 ((L.length : Int) + 1))).drew)) := Lib.hid fun g2 t cs hb n1 n2 n3 => by
        have b1 := HOT.out.blk hb (Blk.ne_ hb HTW.out.tab.hT n1)
        have b2 : Blk w5 g2 t cs := (Blk.drew (b1.alloc _)).grown HG1.out (own_row_ne HTT.out.ho b1 (Ne.symm n3))
        have b3 : Blk W6 g2 t cs := by rw [hW6]; exact b2.far (Blk.ne_ b2 HTB.out n1) _
        exact Blk.drew (b3.far (Blk.ne_ b3 hs6 n2) _)
      clear hll hW hzz
      have HT6 := Lib.hid hT6
      have HS6 := Lib.hid hs6
      have HO6 := Lib.hid ho6
      have HB6 := Lib.hid hB6
      have hwn : IntKind.i64.wrap ((L.length : Int) + 1) = (L.length : Int) + 1 := by rw [IntKind.wrap_i64]; omega
      clear hW6 hT6 hs6 ho6 hB5 hB6 r0 r1 rf q0 q1 q1f q2 q3 q4
      go_wp2_with fail
      go_region
      go_wp2_with fail
      go_ret2
      refine ⟨rfl, ⟨S.set s (L.length + 1), some ⟨g, 0, none⟩, cap, sb, HWS.out, (by obtain ⟨d, hd, hsd, hnz⟩ := HPR.out; exact insert_inv HIT.out HNO.out hd hsd HZ.out hnz (by omega)), fun x hx => ?_, by simp; omega, by simp; omega, fun h => by simp at h ⊢; omega, by simp; omega⟩, HBE.out, HZZ.out, HSP.out⟩
      rcases List.mem_append.1 hx with hx | hx
      · exact HTW.out.ok x hx
      · obtain rfl : x = a := by simpa using hx
        exact ha
end Go.Proofs.Yteilngkjoeaboaa.Hs
