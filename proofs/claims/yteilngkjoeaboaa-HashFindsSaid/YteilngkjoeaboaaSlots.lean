/- hash.slots: the iterator's contract. -/
import Derived.Test.YteilngkjoeaboaaParts
import Derived.RangeFuncNested
import Derived.RangeFuncBound
import Derived.RangeFuncCalls
import Derived.RangeFuncLeaves
import Derived.RangeFuncBox
import Derived.Shelf.Abstract
import Derived.Shelf.RegionOpen
import Derived.OwnWalkIn
import Derived.TacticsInMore
import Derived.LoopNIn
import Derived.LoopIn
namespace Go.Proofs.Yteilngkjoeaboaa.Hs
open Go.RowKit Go.Shelf Go.Proofs.Yteilngkjoeaboaa.Lb
set_option linter.unusedVariables false
set_option linter.unusedSimpArgs false
attribute [local go_sem] Oper.semAt_some

/-- The first k places. -/
def upto (n k : Nat) : List (Fin n) := (List.finRange n).take k
theorem upto_zero (n : Nat) : upto n 0 = [] := by simp [upto]
theorem upto_length (n k : Nat) (h : k ≤ n) : (upto n k).length = k := by simp [upto]; omega
theorem upto_succ (n k : Nat) (h : k < n) : upto n (k + 1) = upto n k ++ [⟨k, h⟩] := by
  unfold upto
  rw [List.take_succ_eq_append_getElem (by simpa using h)]
  simp

theorem mem_upto {n : Nat} (x : Fin n) (k : Nat) (h : x.1 < k) : x ∈ upto n k := by
  unfold upto
  rw [List.mem_take_iff_getElem]
  exact ⟨x.1, by simp; omega, by simp⟩

theorem and_mask (x k : Nat) (hx : x < 18446744073709551616) (hk : k ≤ 40) : bits .and .u64 (x : Int) ((2 ^ k - 1 : Nat) : Int) = ((x % 2 ^ k : Nat) : Int) := by
  have h1 : (2 : Nat) ^ k ≤ 2 ^ 40 := Nat.pow_le_pow_right (by omega) hk
  have h2 : 0 < 2 ^ k := Nat.two_pow_pos k
  rw [(bits_nat .u64 64 (Nat.le_refl _) (fun n a b => by rw [IntKind.wrap_u64]; omega) x (2 ^ k - 1) (by omega) (by omega)).1, Nat.and_two_pow_sub_one_eq_mod]
theorem and_mask_i (x k : Nat) (hx : x < 4611686018427387904) (hk : k ≤ 40) : bits .and .i64 (x : Int) ((2 ^ k - 1 : Nat) : Int) = ((x % 2 ^ k : Nat) : Int) := by
  have h1 : (2 : Nat) ^ k ≤ 2 ^ 40 := Nat.pow_le_pow_right (by omega) hk
  have h2 : 0 < 2 ^ k := Nat.two_pow_pos k
  rw [(bits_nat .i64 62 (by decide) (fun n a b => by rw [IntKind.wrap_i64]; omega) x (2 ^ k - 1) (by omega) (by omega)).1, Nat.and_two_pow_sub_one_eq_mod]

/-- Where a label is looked for, the d-th time. -/
noncomputable def probe (a : Lab) (m d : Nat) : Nat := (hashL a % m + d) % m
theorem hashL_lt (a : Lab) : hashL a < 18446744073709551616 := by
  unfold hashL hash1 hash0
  rw [← List.foldl_append]
  have : ∀ (l : List Nat) (h : Nat), h < 18446744073709551616 → l.foldl hstep h < 18446744073709551616 := by
    intro l
    induction l with
    | nil => intro h hh; exact hh
    | cons x l ih => intro h hh; exact ih _ (hstep_lt _ _)
  exact this _ _ (hstep_lt _ _)

set_option maxRecDepth 100000 in
set_option maxHeartbeats 2000000 in
theorem slots1_in (l Bt Ba T : Nat) (a : Lab) (ha : a.Ok) (m kk : Nat) (hm : m = 2 ^ kk) (hkk : kk ≤ 40) (SA : Option Addr) (mc : Nat)
    (J Jx : List (Fin m) → World → Prop) (W : World) (hJ : AbidesFrom W.heap.size J)
    (hY : ∀ pre x W1, J pre W1 → pre.length < m → YieldAt Fence.wide 3 Try.prog l #[.int .i64 ((x.1 + 1 : Nat) : Int), .int .i64 (probe a m x.1 : Nat)] W1 fun e W' =>
      (e = .returned (.bool true) ∧ J (pre ++ [x]) W' ∧ True) ∨ (e = .returned (.bool false) ∧ Jx (pre ++ [x]) W'))
    (hBt : W.cell? ⟨Bt, 0, none⟩ = some (.pointer (some ⟨T, 0, none⟩))) (hT : W.cell? ⟨T, 1, none⟩ = some (.slice SA m mc))
    (h1 : W.cell? ⟨Ba, 0, none⟩ = some (.int .u8 a.k)) (h2 : W.cell? ⟨Ba, 1, none⟩ = some (.int .i64 a.n)) (h3 : W.cell? ⟨Ba, 2, none⟩ = some (.string a.s)) (h0 : J [] W) :
    CallsIn Fence.wide 4 Try.prog 26 #[.func (.yield l) #[] #[], .pointer (some ⟨Bt, 0, none⟩), .pointer (some ⟨Ba, 0, none⟩)] W fun e W' => (∃ v, e = .returned v) ∧
      ((∃ ys, ys = upto m m ∧ J ys W') ∨ (∃ pre, (∃ k, k < m ∧ pre = upto m (k + 1)) ∧ Jx pre W')) := by
  have hp0 : 0 < 2 ^ kk := Nat.two_pow_pos kk
  have hp1 : 2 ^ kk ≤ 2 ^ 40 := Nat.pow_le_pow_right (by omega) hkk
  have HH := Lib.hid (fun w => hash_calls a w ha)
  have HA := Lib.hid (and_mask (hashL a) kk (hashL_lt a) hkk)
  have HAI := Lib.hid (fun x hx => and_mask_i x kk hx hkk)
  have HPR : Hid (∀ d, probe a m d = (hashL a % m + d) % m) := Lib.hid fun d => rfl
  have HJ0 := Lib.hid (fun W' (hb : Below W.heap.size W W') => hJ [] W W' none h0 (grown_below hb none) (fun r e => by cases e))
  have HTW := Lib.hid (fun W' (hb : Below W.heap.size W W') => And.intro ((hb.cell (p := ⟨Bt, 0, none⟩) (World.block_lt_of_cell? _ _ hBt)).trans hBt) ((hb.cell (p := ⟨T, 1, none⟩) (World.block_lt_of_cell? _ _ hT)).trans hT))
  have hl0 := hashL_lt a
  generalize hashL a = hh at *
  obtain ⟨k, n, s⟩ := a
  unfold Lab.v at HH
  simp only at HH h1 h2 h3
  have hm1 : ((m : Int) - 1) = ((2 ^ kk - 1 : Nat) : Int) := by omega
  have HM1 := Lib.hid hm1
  have hmp : 0 < m := by omega
  have hmq : m ≤ 1099511627776 := by omega
  have HMM := Lib.hid hm
  clear hm hm1 hp0 hp1 h0 hJ
  refine callsIn_of_wp Try.func26 rfl trivial ?_ rfl
  simp only [Try.ntmps26, List.size_toArray, List.length_cons, List.length_nil, Nat.reduceAdd, Nat.reduceSub, Array.replicate_succ, Array.replicate_zero, List.push_toArray, List.append_toArray, List.nil_append, List.cons_append]
  gi_wp2_with (refine ⟨trivial, ?_⟩; gi_at_call 27; refine (callsIn_wide.2 (HH.out _)).mono ?_; rintro e w' ⟨rfl, hB⟩; have hc := HTW.out _ hB; obtain ⟨hc1, hc2⟩ := hc; have HJ1 := Lib.hid (HJ0.out _ hB); clear hB)
  obtain ⟨q, hq⟩ : ∃ q, q = hh % m := ⟨_, rfl⟩
  have hqm : q < m := by rw [hq]; exact Nat.mod_lt _ hmp
  have hw : wrap64 (bits BinOp.and IntKind.u64 (hh : Int) ((m : Int) - 1)) = (q : Int) := by
    rw [HM1.out, HA.out, ← HMM.out, ← hq]
    unfold wrap64; omega
  rw [hw]
  have HPQ : Hid (∀ d, d < m → ((probe ⟨k, n, s⟩ m d : Nat) : Int) = bits .and .i64 ((q : Int) + (d : Int)) ((m : Int) - 1)) := Lib.hid fun d hd => by
    rw [HPR.out, ← hq, HM1.out, show (q : Int) + (d : Int) = ((q + d : Nat) : Int) by omega, HAI.out (q + d) (by omega), ← HMM.out]
  clear hw hq HA HAI HPR HM1 HMM hl0 HH HTW HJ0
  have HY := Lib.hid hY
  clear hY
  gi_loopw [24] (fun i wr => ∃ d : Nat, d ≤ m ∧ i = .int .i64 d ∧ J (upto m d) wr) (fun i _ => m - (intOf i).toNat)
  case atStart => exact ⟨0, Nat.zero_le _, rfl, by rw [upto_zero]; exact HJ1.out⟩
  case round =>
    obtain ⟨d, hd, rfl, hJs⟩ := hrel
    by_cases hlt : d < m
    · obtain ⟨fn, tmps, assign, body, hy, hR⟩ := HY.out _ ⟨d, hlt⟩ wr hJs (by rw [upto_length _ _ hd]; exact hlt)
      dsimp only at hy
      rw [HPQ.out d hlt, show ((d + 1 : Nat) : Int) = (d : Int) + 1 by omega] at hy
      have HS := Lib.hid (upto_succ m d hlt)
      have HR := Lib.hid hR
      clear hR
      gi_wp2
      refine HR.out.mono ?_
      rintro e W3 (⟨rfl, hJ3, _⟩ | ⟨rfl, hJx3⟩)
      · gi_wp2
        go_roundw
        case rel => exact ⟨d + 1, by omega, by go_num, by rw [HS.out]; exact hJ3⟩
        case measure => simp [intOf]; omega
      · gi_wp2
        refine bodyPost_ret (results_none rfl _ _ _) rfl ?_
        exact ⟨⟨_, rfl⟩, .inr ⟨_, ⟨d, hlt, rfl⟩, by rw [HS.out]; exact hJx3⟩⟩
    · obtain rfl : d = m := by omega
      gi_wp2
      go_end0
      exact ⟨⟨_, rfl⟩, .inl ⟨_, rfl, hJs⟩⟩
theorem slots_calls (T : Option Addr) (a : Lab) (w : World) :
    Calls Try.prog 23 #[.pointer T, a.v] w fun e w' => e = .returned (.func (.func 26) #[] #[.pointer (some ⟨w.heap.size, 0, none⟩), .pointer (some ⟨w.heap.size + 1, 0, none⟩)]) ∧
      w' = (w.alloc (.cells #[.pointer T] 27)).alloc (.cells #[.int .u8 a.k, .int .i64 a.n, .string a.s] 34) := by
  obtain ⟨k, n, s⟩ := a
  unfold Lab.v
  go_enter Try.func23, Try.ntmps23
  go_wp2
  go_ret
  exact ⟨rfl, rfl⟩
theorem slots_stops (Bt Ba T : Nat) (a : Lab) (ha : a.Ok) (m kk : Nat) (hm : m = 2 ^ kk) (hkk : kk ≤ 40) (SA : Option Addr) (mc : Nat) (w : World)
    (hBt : w.cell? ⟨Bt, 0, none⟩ = some (.pointer (some ⟨T, 0, none⟩))) (hT : w.cell? ⟨T, 1, none⟩ = some (.slice SA m mc))
    (h1 : w.cell? ⟨Ba, 0, none⟩ = some (.int .u8 a.k)) (h2 : w.cell? ⟨Ba, 1, none⟩ = some (.int .i64 a.n)) (h3 : w.cell? ⟨Ba, 2, none⟩ = some (.string a.s)) :
    SeqStopsK Fence.wide 4 Try.prog 26 #[.pointer (some ⟨Bt, 0, none⟩), .pointer (some ⟨Ba, 0, none⟩)] (fun x : Fin m => #[Value.int .i64 ((x.1 + 1 : Nat) : Int), Value.int .i64 (probe a m x.1 : Nat)]) (fun _ _ => True) (fun ys => ys = upto m m)
      (fun pre => ∃ k, k < m ∧ pre = upto m (k + 1)) m w := fun l J Jx W hW hJ _ hY h0 =>
  slots1_in l Bt Ba T a ha m kk hm hkk SA mc J Jx W hJ hY (bl_seen hW hBt) (bl_seen hW hT) (bl_seen hW h1) (bl_seen hW h2) (bl_seen hW h3) h0
end Go.Proofs.Yteilngkjoeaboaa.Hs
