/- Contracts of label.Parts and Right. -/
import Derived.Test.YteilngkjoeaboaaCut
import Derived.Test.YteilngkjoeaboaaOwn
namespace Go.Proofs.Yteilngkjoeaboaa.Lb
open Go.RowKit
set_option linter.unusedVariables false
set_option linter.unusedSimpArgs false

theorem info_lab : (Try.prog.info? 34).map (fun i => (i.zero, i.size, i.bytes)) = some (some (.agg #[.int .u8 0, .int .i64 0, .string ⟨#[]⟩]), 3, 32) := by kernel_rfl

def partsGo : Nat → List Lab → ByteArray → Option (List Lab)
  | 0, acc, s => if s.data.toList.isEmpty then some acc else none
  | k + 1, acc, s => match cutS s with
    | none => none
    | some (x, r) => partsGo k (acc ++ [x]) r
def partsL (a : Lab) : Option (List Lab) := if simpleB a then some [a] else if a.k ≠ 2 ∨ a.n < 1 ∨ 4 < a.n then none else partsGo a.n.toNat [] a.s
def rightL (a : Lab) : Bool := (partsL a).isSome

theorem cutS_size {s r : ByteArray} {x : Lab} (h : cutS s = some (x, r)) : r.size ≤ s.size := by
  unfold cutS at h
  split at h
  · simp only [Option.some.injEq, Prod.mk.injEq] at h
    obtain ⟨_, rfl⟩ := h
    simp
  · split at h
    · cases h
    · simp only [Option.some.injEq, Prod.mk.injEq] at h
      obtain ⟨_, rfl⟩ := h
      simp
theorem numOf_bd (s : ByteArray) : -9223372036854775808 ≤ numOf s ∧ numOf s ≤ 9223372036854775807 := by
  unfold numOf
  have := be_lt (s.extract 1 9) 8
  omega
theorem cutS_ok {s r : ByteArray} {x : Lab} (hs : s.size ≤ 1099511627776) (h : cutS s = some (x, r)) : x.Ok := by
  unfold cutS at h
  split at h
  · simp only [Option.some.injEq, Prod.mk.injEq] at h
    obtain ⟨rfl, _⟩ := h
    have := numOf_bd s
    exact ⟨by simp, by simp, this.1, this.2, Nat.zero_le _⟩
  · split at h
    · cases h
    · simp only [Option.some.injEq, Prod.mk.injEq] at h
      obtain ⟨rfl, _⟩ := h
      exact ⟨by simp, by simp, by simp, by simp, by simp; omega⟩
theorem cs_one (x : Lab) : ∀ u ∈ (#[Value.int .u8 x.k, Value.int .i64 x.n, Value.string x.s] : Array Value).toList, u.oneCell' = true := by
  intro u hu
  simp at hu
  rcases hu with rfl | rfl | rfl <;> rfl
theorem cs_snoc (l : List Lab) (x : Lab) : l.flatMap Lab.cs ++ (#[Value.int .u8 x.k, Value.int .i64 x.n, Value.string x.s] : Array Value).toList = (l ++ [x]).flatMap Lab.cs := by simp [Lab.cs]

/-- What Parts hands back. -/
def PartsPost (o : Option (List Lab)) (w' : World) (e : Ending) : Prop :=
  (o = none ∧ e = .returned (.slice none 0 0)) ∨ ∃ l g c, o = some l ∧ e = .returned (.slice (some ⟨g, 0, none⟩) l.length c) ∧ l.length ≤ c ∧ Shows w' (some ⟨g, 0, none⟩) (l.flatMap Lab.cs)

set_option maxHeartbeats 1000000 in
theorem parts_simple (a : Lab) (w : World) (ha : a.Ok) (h : simpleB a = true) :
    Calls Try.prog 22 #[a.v] w fun e w' => PartsPost (some [a]) w' e ∧ Below w.heap.size w w' := by
  have HS := Lib.hid (fun w => simple_calls a w ha)
  rw [h] at HS
  have hcs : a.cs = [.int .u8 a.k, .int .i64 a.n, .string a.s] := rfl
  have HCS := Lib.hid hcs
  clear h ha hcs
  obtain ⟨k, n, s⟩ := a
  unfold Lab.v at *
  simp only at *
  go_enter Try.func22, Try.ntmps22
  go_wp2_with fail
  refine (HS.out _).mono ?_
  rintro e w1 ⟨rfl, hB1⟩
  have hb1 := Blk.below' (Blk.new w 34 #[.int .u8 k, .int .i64 n, .string s]) hB1
  have e0 := hb1.cell 0
  have e1 := hb1.cell 1
  have e2 := hb1.cell 2
  have HB1 := Lib.hid (bl_then (bl_alloc (Below.refl _ _) _) hB1)
  clear hb1 hB1
  go_wp2_with fail
  go_ret
  refine ⟨.inr ⟨[⟨k, n, s⟩], w1.heap.size, 1, rfl, rfl, by simp, ?_⟩, bl_alloc HB1.out _⟩
  have := Shows.of_blk (Blk.new w1 34 #[.int .u8 k, .int .i64 n, .string s])
  simpa [Lab.cs] using this
set_option maxHeartbeats 1000000 in
theorem parts_not (a : Lab) (w : World) (ha : a.Ok) (h : simpleB a = false) (h2 : a.k ≠ 2 ∨ a.n < 1 ∨ 4 < a.n) :
    Calls Try.prog 22 #[a.v] w fun e w' => e = .returned (.slice none 0 0) ∧ Below w.heap.size w w' := by
  have HS := Lib.hid (fun w => simple_calls a w ha)
  rw [h] at HS
  clear h ha
  obtain ⟨k, n, s⟩ := a
  unfold Lab.v at *
  simp only at *
  have h' : ((k != 2) = true) ∨ ((k != 2) = false ∧ n < 1) ∨ ((k != 2) = false ∧ 1 ≤ n ∧ 4 < n) := by
    by_cases g : k = 2
    · right; subst g; simp; omega
    · left; simpa using g
  clear h2
  rcases h' with g | ⟨g, g1⟩ | ⟨g, g1, g2⟩
  all_goals
    go_enter Try.func22, Try.ntmps22
    go_wp2_with fail
    refine (HS.out _).mono ?_
    rintro e w1 ⟨rfl, hB1⟩
    have hb1 := Blk.below' (Blk.new w 34 #[.int .u8 k, .int .i64 n, .string s]) hB1
    have e0 := hb1.cell 0
    have e1 := hb1.cell 1
    have e2 := hb1.cell 2
    have HB1 := Lib.hid (bl_then (bl_alloc (Below.refl _ _) _) hB1)
    clear hb1 hB1
    go_wp2_with fail
    go_ret
    exact ⟨rfl, HB1.out⟩
set_option maxRecDepth 100000 in
set_option maxHeartbeats 2000000 in
theorem parts_tuple (n : Int) (s : ByteArray) (w : World) (hs : s.size ≤ 1099511627776) (h1 : 1 ≤ n) (h4 : n ≤ 4) :
    Calls Try.prog 22 #[.agg #[.int .u8 2, .int .i64 n, .string s]] w fun e w' => PartsPost (partsGo n.toNat [] s) w' e ∧ Below w.heap.size w w' := by
  have HS := Lib.hid (fun w => simple_calls ⟨2, n, s⟩ w ⟨by simp, by simp, by simp; omega, by simp; omega, hs⟩)
  rw [show simpleB ⟨2, n, s⟩ = false from rfl] at HS
  unfold Lab.v at HS
  simp only at HS
  obtain ⟨N, rfl⟩ : ∃ N : Nat, n = N := ⟨n.toNat, by omega⟩
  rw [Int.toNat_natCast]
  obtain ⟨O, hO⟩ : ∃ O, O = partsGo N [] s := ⟨_, rfl⟩
  rw [← hO]
  have HO := Lib.hid hO
  clear hO
  go_enter Try.func22, Try.ntmps22
  go_wp2_with fail
  refine (HS.out _).mono ?_
  rintro e w1 ⟨rfl, hB1⟩
  have hb1 := Blk.below' (Blk.new w 34 #[.int .u8 2, .int .i64 N, .string s]) hB1
  have e0 := hb1.cell 0
  have e1 := hb1.cell 1
  have e2 := hb1.cell 2
  have HB1 := Lib.hid (bl_then (bl_alloc (Below.refl _ _) _) hB1)
  have hz1 := hB1.size
  have hz : w.heap.size < w1.heap.size := by simp at hz1; omega
  clear hb1 hB1 hz1
  go_wp2_with fail
  go_loopw [3, 4, 29] (fun v sv i wr => ∃ (j : Nat) (acc : List Lab) (t : ByteArray), i = .int .i64 j ∧ sv = .string t ∧ j ≤ N ∧ t.size ≤ 1099511627776 ∧ Hid (partsGo (N - j) acc t = O) ∧ Hid (acc.length = j) ∧
      Hid (wr.ownsRow w1.heap.size 34 3 v j (acc.flatMap Lab.cs)) ∧ Below w1.heap.size w1 wr) (fun _ _ i _ => N - (intOf i).toNat)
  case atStart => exact ⟨0, [], s, rfl, rfl, by omega, hs, Lib.hid (by rw [HO.out]; rfl), Lib.hid rfl, Lib.hid (World.ownsRow_nil _ _ _ _), Below.refl _ _⟩
  case round =>
    obtain ⟨j, acc, t, rfl, rfl, hj, ht, HP, HL, HOW, hB⟩ := hrel
    have HB := Lib.hid hB
    have hsz := hB.size
    clear hB
    by_cases hlt : j < N
    · obtain ⟨m, hm⟩ : ∃ m, N - j = m + 1 := ⟨N - j - 1, by omega⟩
      have hP := HP.out
      rw [hm] at hP
      unfold partsGo at hP
      have hm' : N - (j + 1) = m := by omega
      have HM := Lib.hid hm'
      clear hm hm'
      cases hc : cutS t with
      | none =>
        rw [hc] at hP
        simp only at hP
        have HC := Lib.hid (fun w => cut_no_calls t w ht hc)
        have HP' := Lib.hid hP
        clear hc hP
        go_wp2_with fail
        refine (HC.out _).mono ?_
        rintro e w2 ⟨rfl, hB2⟩
        have HB2 := Lib.hid (bl_then HB.out hB2)
        clear hB2
        go_wp2_with fail
        go_ret
        exact ⟨.inl ⟨HP'.out.symm, rfl⟩, bl_then HB1.out (bl_alloc HB2.out _)⟩
      | some p =>
        obtain ⟨x, r⟩ := p
        rw [hc] at hP
        simp only at hP
        have HC := Lib.hid (fun w => cut_yes_calls t x r w ht hc)
        have hr := cutS_size hc
        have HP' := Lib.hid hP
        clear hc hP HP
        obtain ⟨xk, xn, xs⟩ := x
        unfold Lab.v at HC
        simp only at HC
        go_wp2_with fail
        refine (HC.out _).mono ?_
        rintro e w2 ⟨rfl, hB2⟩
        have HB2 := Lib.hid (bl_then HB.out hB2)
        have HOW2 := Lib.hid (own_below HOW.out hB2)
        have hsz2 := hB2.size
        clear hB2
        have HB3 : Hid (Below w1.heap.size w1 (w2.alloc (.cells #[.int .u8 xk, .int .i64 xn, .string xs] 34))) := Lib.hid (bl_alloc HB2.out _)
        have HOW3 := Lib.hid (HOW2.out.alloc (.cells #[.int .u8 xk, .int .i64 xn, .string xs] 34))
        go_wp2_with (at_builtin; go_must (refine app_rowH (w0 := w1) (w2.heap.size + 1) (by simp) w1.heap.size rfl (.tmp 39) (.tmp 41) 41 34 (.agg #[.int .u8 0, .int .i64 0, .string ⟨#[]⟩]) 3 32 rfl Try.underlying41 info_lab rfl (by decide) u3 _ _ #[.int .u8 xk, .int .i64 xn, .string xs] rfl rfl rfl (cs_one ⟨xk, xn, xs⟩) HOW3.out HB3.out (by simp; omega) (by omega) (by omega) ?_); intro v1 w3 hown1 hB1' hg1 hsz1)
        go_roundw
        case measure => simp [intOf]; omega
        case rel => exact ⟨j + 1, acc ++ [⟨xk, xn, xs⟩], r, by go_num, rfl, by omega, by omega, Lib.hid (by rw [HM.out]; exact HP'.out), Lib.hid (by rw [List.length_append, HL.out]; rfl), Lib.hid (by rw [← cs_snoc]; exact hown1), hB1'⟩
    · have HJ := Lib.hid (show j = N by omega)
      have hP := HP.out
      rw [HJ.out, Nat.sub_self] at hP
      unfold partsGo at hP
      have hOW := HOW.out
      rw [HJ.out] at hOW
      rcases hOW.2 with ⟨_, h0⟩ | ⟨g, cap, cur, hv, hg1, hg2, hcap, _⟩
      · omega
      subst hv
      have hsh := Shows.of_own hOW
      have HSH := Lib.hid hsh
      have HL' : Hid (acc.length = N) := Lib.hid (by rw [HL.out, HJ.out])
      clear hOW HOW hsh hg2 HL
      by_cases hemp : t.data.toList = []
      · have HE : Hid (O = some acc) := Lib.hid (by rw [← hP, hemp]; rfl)
        have e5 : (!t.toList.isEmpty) = false := by rw [ByteArray.toList_eq, hemp]; rfl
        have e6 : t.toList = [] := by rw [ByteArray.toList_eq, hemp]
        have HEM := Lib.hid hemp
        have HE6 := Lib.hid e6
        clear hP HP hemp e6
        go_wp2_with fail
        go_ret
        refine ⟨.inr ⟨acc, g, cap, HE.out, ?_, by rw [HL'.out]; exact hcap, HSH.out⟩, bl_then HB1.out HB.out⟩
        rw [HL'.out]; rfl
      · have HE : Hid (O = none) := Lib.hid (by
          rw [← hP]
          rw [if_neg]
          intro h
          exact hemp (List.isEmpty_iff.1 h))
        have e5 : (!t.toList.isEmpty) = true := by
          rw [ByteArray.toList_eq]
          cases h : t.data.toList with
          | nil => exact absurd h hemp
          | cons => rfl
        clear hP HP hemp
        go_wp2_with fail
        go_ret
        exact ⟨.inl ⟨HE.out, rfl⟩, bl_then HB1.out HB.out⟩
theorem parts_calls (a : Lab) (w : World) (ha : a.Ok) : Calls Try.prog 22 #[a.v] w fun e w' => PartsPost (partsL a) w' e ∧ Below w.heap.size w w' := by
  unfold partsL
  cases h : simpleB a with
  | true => exact parts_simple a w ha h
  | false =>
    simp only [Bool.false_eq_true, if_false]
    by_cases h2 : a.k ≠ 2 ∨ a.n < 1 ∨ 4 < a.n
    · rw [if_pos h2]
      exact (parts_not a w ha h h2).mono fun e w' ⟨he, hb⟩ => ⟨.inl ⟨rfl, he⟩, hb⟩
    · rw [if_neg h2]
      obtain ⟨k, n, s⟩ := a
      simp only [not_or, Decidable.not_not, Int.not_lt] at h2
      obtain ⟨rfl, h3, h4⟩ := h2
      exact parts_tuple n s w ha.s1 h3 h4
set_option maxHeartbeats 1000000 in
theorem right_calls (a : Lab) (w : World) (ha : a.Ok) : Calls Try.prog 18 #[a.v] w fun e w' => e = .returned (.bool (rightL a)) ∧ Below w.heap.size w w' := by
  have HP := Lib.hid (fun w => parts_calls a w ha)
  have hR : rightL a = (partsL a).isSome := rfl
  generalize partsL a = o at HP hR
  have HR := Lib.hid hR
  clear ha hR
  generalize rightL a = R at *
  obtain ⟨k, n, s⟩ := a
  unfold Lab.v at *
  simp only at HP ⊢
  go_enter Try.func18, Try.ntmps18
  go_wp2_with fail
  refine (HP.out _).mono ?_
  rintro e w1 ⟨hp, hB1⟩
  have HB1 := Lib.hid (bl_then (bl_alloc (Below.refl _ _) _) hB1)
  clear hB1
  rcases hp with ⟨ho, rfl⟩ | ⟨l, g, c, ho, rfl, _⟩
  · have HO := Lib.hid ho
    clear ho
    go_wp2_with fail
    go_ret
    exact ⟨ret_bool (by rw [HR.out, HO.out]; rfl), HB1.out⟩
  · have HO := Lib.hid ho
    clear ho
    go_wp2_with fail
    go_ret
    exact ⟨ret_bool (by rw [HR.out, HO.out]; rfl), HB1.out⟩
end Go.Proofs.Yteilngkjoeaboaa.Lb
