/- Contracts of label.Int, Text, cut. -/
import Derived.Test.YteilngkjoeaboaaLab
import Derived.StillTailTactics
namespace Go.Proofs.Yteilngkjoeaboaa.Lb
open Go.RowKit
set_option linter.unusedVariables false
set_option linter.unusedSimpArgs false

theorem int_calls (n : Int) (w : World) : Calls Try.prog 14 #[.int .i64 n] w fun e w' => e = .returned (.agg #[.int .u8 0, .int .i64 n, .string ⟨#[]⟩]) ∧ Below w.heap.size w w' := by
  go_enter Try.func14, Try.ntmps14
  go_wp2_with fail
  exact bodyPost_ret (v := .agg #[.int .u8 0, .int .i64 n, .string ⟨#[]⟩]) (by simp [results, Try.results14, go_sem]) rfl ⟨rfl, bl_alloc (Below.refl _ _) _⟩
theorem text_calls (s : ByteArray) (w : World) : Calls Try.prog 28 #[.string s] w fun e w' => e = .returned (.agg #[.int .u8 1, .int .i64 0, .string s]) ∧ Below w.heap.size w w' := by
  go_enter Try.func28, Try.ntmps28
  go_wp2_with fail
  exact bodyPost_ret (v := .agg #[.int .u8 1, .int .i64 0, .string s]) (by simp [results, Try.results28, go_sem]) rfl ⟨rfl, bl_alloc (Below.refl _ _) _⟩

theorem conv_bytes (W : World) (s : ByteArray) (n : Nat) (hn : s.size = n) : ∃ (c : Nat) (W' : World), (convert 9 58 (.string s)).run Try.prog W = .ok (.slice (some ⟨W.heap.size, 0, none⟩) n c) W' ∧
    (∀ i, i < n → W'.cell? ⟨W.heap.size, i, none⟩ = some (.int .u8 (byteAt s i : Nat))) ∧ Below W.heap.size W W' := by
  subst hn
  refine ⟨_, _, run_bytes_of_string (P := Try.prog) W 9 58 5 s Try.underlying9 Try.underlying58 Try.underlying5, fun i hi => bytesRow_cell W.drew s _ _ _ i hi, bl_alloc (bl_drew (Below.refl _ _)) _⟩
theorem byte_get (s : ByteArray) (i : Nat) (h : i < s.size) : s[i].toNat = byteAt s i := by
  unfold byteAt; rw [nth_eq _ _ (by simpa using h)]; simp; rfl

/-- Big-endian number of eight bytes from the i-th on. -/
def be (s : ByteArray) : Nat → Nat
  | 0 => 0
  | k + 1 => be s k * 256 + byteAt s k
theorem be_lt (s : ByteArray) : ∀ k, be s k < 256 ^ k
  | 0 => by simp [be]
  | k + 1 => by
    have := be_lt s k
    have := byteAt_lt s k
    rw [Nat.pow_succ]
    unfold be
    omega
def numOf (s : ByteArray) : Int := (be (s.extract 1 9) 8 : Nat) - 9223372036854775808
theorem shl_or (u c : Nat) (hu : u < 72057594037927936) (hc : c < 256) : bits .or .u64 ((u : Int) * 256) (c : Int) = ((u * 256 + c : Nat) : Int) := by
  have h1 : ((u : Int) * 256) = ((u * 256 : Nat) : Int) := by omega
  rw [h1, (bits_nat .u64 64 (Nat.le_refl _) (fun n a b => by rw [IntKind.wrap_u64]; omega) (u * 256) c (by omega) (by omega)).2]
  have h2 := Nat.two_pow_add_eq_or_of_lt (i := 8) (b := c) (by omega) u
  rw [Nat.mul_comm u 256]
  exact_mod_cast h2.symm
theorem shl_or' (u c : Nat) (hu : u < 72057594037927936) (hc : c < 256) : bits .or .u64 (IntKind.u64.wrap ((u : Int) * 256)) (c : Int) = ((u * 256 + c : Nat) : Int) := by
  rw [show IntKind.u64.wrap ((u : Int) * 256) = (u : Int) * 256 by rw [IntKind.wrap_u64]; omega]
  exact shl_or u c hu hc
theorem top_xor (u : Nat) (hu : u < 18446744073709551616) : IntKind.i64.wrap (bits .xor .u64 (u : Int) 9223372036854775808) = (u : Int) - 9223372036854775808 := by
  have h := bits_xor_u64_nat u 9223372036854775808 hu (by omega)
  have h1 : ((9223372036854775808 : Nat) : Int) = 9223372036854775808 := rfl
  rw [h1] at h
  rw [h, IntKind.wrap_i64]
  by_cases hb : u < 9223372036854775808
  · have e : u ^^^ 9223372036854775808 = u + 9223372036854775808 := by
      have h2 := Nat.two_pow_add_eq_or_of_lt (i := 63) (b := u) (by omega) 1
      have h3 : u ^^^ 9223372036854775808 = u ||| 9223372036854775808 := by
        apply Nat.eq_of_testBit_eq
        intro i
        rw [Nat.testBit_xor, Nat.testBit_or]
        have e2 : (9223372036854775808 : Nat) = 2 ^ 63 := by decide
        rw [e2, Nat.testBit_two_pow]
        by_cases hi : 63 = i
        · subst hi
          rw [Nat.testBit_lt_two_pow (by omega)]
          simp
        · simp [hi]
      rw [h3, Nat.or_comm]
      have e2 : (2 : Nat) ^ 63 * 1 = 9223372036854775808 := by decide
      rw [e2] at h2
      omega
    rw [e]
    omega
  · obtain ⟨v, rfl⟩ : ∃ v, u = 9223372036854775808 + v := ⟨u - 9223372036854775808, by omega⟩
    have e : (9223372036854775808 + v) ^^^ 9223372036854775808 = v := by
      have h2 := Nat.two_pow_add_eq_or_of_lt (i := 63) (b := v) (by omega) 1
      have e2 : (2 : Nat) ^ 63 * 1 = 9223372036854775808 := by decide
      rw [e2] at h2
      rw [h2]
      apply Nat.eq_of_testBit_eq
      intro i
      rw [Nat.testBit_xor, Nat.testBit_or]
      have e3 : (9223372036854775808 : Nat) = 2 ^ 63 := by decide
      rw [e3, Nat.testBit_two_pow]
      by_cases hi : 63 = i
      · subst hi
        rw [Nat.testBit_lt_two_pow (by omega)]
        simp
      · simp [hi]
    rw [e]
    omega

set_option maxRecDepth 100000 in
set_option maxHeartbeats 1000000 in
theorem cut_num (s : ByteArray) (w : World) (hs : s.size ≤ 1099511627776) (h9 : 9 ≤ s.size) (h0 : byteAt s 0 = 0) :
    Calls Try.prog 25 #[.string s] w fun e w' => e = .returned (.tuple #[.agg #[.int .u8 0, .int .i64 (numOf s), .string ⟨#[]⟩], .string (s.extract 9 s.size), .bool true]) ∧ Below w.heap.size w w' := by
  have hsz : 0 < s.size := by omega
  have e0 : ((s[0].toNat : Int) == 0) = true := by
    rw [byte_get s 0 hsz, h0]; rfl
  have hB1 : Below w.heap.size w (w.alloc (Obj.cells #[Value.int IntKind.u8 0, Value.int IntKind.i64 0, Value.string { data := #[] }] 34)) := bl_alloc (Below.refl _ _) _
  have hblk := Blk.new w 34 #[Value.int IntKind.u8 0, Value.int IntKind.i64 0, Value.string { data := #[] }]
  obtain ⟨c, W2, hcv, hcell, hB2⟩ := conv_bytes (w.alloc (Obj.cells #[Value.int IntKind.u8 0, Value.int IntKind.i64 0, Value.string { data := #[] }] 34)) (s.extract 1 9) 8 (by simp; omega)
  have HN := Lib.hid (show numOf s = (be (s.extract 1 9) 8 : Nat) - 9223372036854775808 from rfl)
  have HB2 := Lib.hid (bl_then hB1 hB2)
  have HBL := Lib.hid (hblk.below' hB2)
  obtain ⟨g, hg⟩ : ∃ g, g = (w.alloc (Obj.cells #[Value.int IntKind.u8 0, Value.int IntKind.i64 0, Value.string { data := #[] }] 34)).heap.size := ⟨_, rfl⟩
  rw [← hg] at hcell hcv
  have hgw : w.heap.size < g := by rw [hg]; simp
  have HC := Lib.hid hcell
  clear hB1 hB2 hblk hcell h0 hg
  go_enter Try.func25, Try.ntmps25
  go_wp2_with fail
  clear hcv
  generalize s.extract 1 9 = t at *
  go_loop [5, 7, 22] (fun u _ i => ∃ k : Nat, i = .int .i64 k ∧ k ≤ 8 ∧ u = .int .u64 (be t k : Nat)) (fun _ _ i => 8 - (intOf i).toNat)
  case atStart => exact ⟨0, rfl, by omega, rfl⟩
  case round =>
    obtain ⟨k, rfl, hk, rfl⟩ := hrel
    have hlt := be_lt t k
    have hlt' : be t k < 256 ^ 8 := Nat.lt_of_lt_of_le hlt (Nat.pow_le_pow_right (by omega) hk)
    by_cases hk8 : k < 8
    · have e1 := HC.out k hk8
      have hb9 := byteAt_lt t k
      have hlt7 : be t k < 256 ^ 7 := Nat.lt_of_lt_of_le hlt (Nat.pow_le_pow_right (by omega) (by omega))
      have HS := Lib.hid (shl_or' (be t k) (byteAt t k) (by omega) hb9)
      have HE : Hid (be t (k + 1) = be t k * 256 + byteAt t k) := Lib.hid rfl
      clear hlt hlt' hlt7
      generalize be t k = u at *
      generalize byteAt t k = b at *
      go_wp2_with fail
      go_round
      case measure => simp [intOf]; omega
      case rel => exact ⟨k + 1, by go_num, by omega, by rw [HS.out, HE.out]⟩
    · have HX : Hid (IntKind.i64.wrap (bits .xor .u64 (be t k : Int) 9223372036854775808) = (be t 8 : Nat) - 9223372036854775808) := Lib.hid (by
        obtain rfl : k = 8 := by omega
        exact top_xor _ (by omega))
      clear hlt hlt'
      generalize be t k = u at *
      go_wp2_with fail
      go_region_with (go_at_call 14; refine (int_calls _ _).mono ?_; rintro e w' ⟨rfl, hB⟩; have hb2 := Blk.below' (Blk.drew HBL.out) hB; have HBW := Lib.hid (bl_then (bl_drew HB2.out) hB); have c0 := hb2.cell 0; have c1 := hb2.cell 1; have c2 := hb2.cell 2; have f0 := hb2.frozen 0; have f1 := hb2.frozen 1; have f2 := hb2.frozen 2; have HB3 := Lib.hid hb2; clear hb2 hB)
      all_goals go_wp2_with fail
      refine bodyPost_ret (v := .tuple #[.agg #[.int .u8 0, .int .i64 (IntKind.i64.wrap (bits BinOp.xor IntKind.u64 (u : Int) 9223372036854775808)), .string ⟨#[]⟩], .string (s.extract 9 s.size), .bool true]) ?_ rfl ⟨?_, ?_⟩
      · simp [results, Try.results25, go_sem, c0, c1, c2]
      · rw [HX.out, ← HN.out]
      · exact bl_set (bl_set (bl_set HBW.out (by simp) _) (by simp) _) (by simp) _
set_option maxRecDepth 100000 in
set_option maxHeartbeats 1000000 in
theorem cut_text (s : ByteArray) (b : Nat) (w : World) (hs : s.size ≤ 1099511627776) (h2 : 2 ≤ s.size) (h0 : byteAt s 0 = 1) (h1 : byteAt s 1 = b) (hb : b ≤ 32) (hn : 2 + b ≤ s.size) :
    Calls Try.prog 25 #[.string s] w fun e w' => e = .returned (.tuple #[.agg #[.int .u8 1, .int .i64 0, .string (s.extract 2 (2 + b))], .string (s.extract (2 + b) s.size), .bool true]) ∧ Below w.heap.size w w' := by
  have hsz : 0 < s.size := by omega
  have hsz1 : 1 < s.size := by omega
  have e0 : ((s[0].toNat : Int) == 0) = false := by
    rw [byte_get s 0 hsz, h0]; rfl
  have e1 : ((s[0].toNat : Int) != 1) = false := by
    rw [byte_get s 0 hsz, h0]; rfl
  have e2 : (s[1].toNat : Int) = (b : Int) := by rw [byte_get s 1 hsz1, h1]
  have hblk := Lib.hid (Blk.new w 34 #[Value.int IntKind.u8 0, Value.int IntKind.i64 0, Value.string { data := #[] }])
  have HB2 : Hid (Below w.heap.size w (w.alloc (Obj.cells #[Value.int IntKind.u8 0, Value.int IntKind.i64 0, Value.string { data := #[] }] 34))) := Lib.hid (bl_alloc (Below.refl _ _) _)
  clear h0 h1
  by_cases h9 : 9 ≤ s.size
  all_goals
    go_enter Try.func25, Try.ntmps25
    go_wp2_with fail
    go_region_with (go_at_call 28; refine (text_calls _ _).mono ?_; rintro e w' ⟨rfl, hB⟩; have hb2 := Blk.below' (Blk.drew hblk.out) hB; have HBW := Lib.hid (bl_then (bl_drew HB2.out) hB); have c0 := hb2.cell 0; have c1 := hb2.cell 1; have c2 := hb2.cell 2; have f0 := hb2.frozen 0; have f1 := hb2.frozen 1; have f2 := hb2.frozen 2; have HB3 := Lib.hid hb2; clear hb2 hB)
    all_goals go_wp2_with fail
    all_goals
      refine bodyPost_ret (v := .tuple #[.agg #[.int .u8 1, .int .i64 0, .string (s.extract 2 (2 + b))], .string (s.extract (2 + b) s.size), .bool true]) ?_ rfl ⟨rfl, ?_⟩
      · have e3 : (2 + (b : Int)).toNat = 2 + b := by omega
        simp [results, Try.results25, go_sem, c0, c1, c2, e3]
      · exact bl_set (bl_set (bl_set HBW.out (by simp) _) (by simp) _) (by simp) _
set_option maxRecDepth 100000 in
set_option maxHeartbeats 1000000 in
theorem cut_no (s : ByteArray) (w : World) (hs : s.size ≤ 1099511627776) (h9 : ¬ (9 ≤ s.size ∧ byteAt s 0 = 0)) (h : s.size < 2 ∨ byteAt s 0 ≠ 1 ∨ 32 < byteAt s 1 ∨ s.size < 2 + byteAt s 1) :
    Calls Try.prog 25 #[.string s] w fun e w' => e = .returned (.tuple #[.agg #[.int .u8 0, .int .i64 0, .string ⟨#[]⟩], .string ⟨#[]⟩, .bool false]) ∧ Below w.heap.size w w' := by
  have hend : Below w.heap.size w (w.alloc (Obj.cells #[Value.int IntKind.u8 0, Value.int IntKind.i64 0, Value.string { data := #[] }] 34)) := bl_alloc (Below.refl _ _) _
  have HE := Lib.hid hend
  have HBL := Lib.hid (Blk.new w 34 #[Value.int IntKind.u8 0, Value.int IntKind.i64 0, Value.string { data := #[] }])
  clear hend
  by_cases hsz : 2 ≤ s.size
  · have hsz0 : 0 < s.size := by omega
    have hsz1 : 1 < s.size := by omega
    have q0 := byte_get s 0 hsz0
    have q1 := byte_get s 1 hsz1
    rw [← q0] at h9 h
    rw [← q1] at h
    have Q0 := Lib.hid q0
    clear q0 q1
    have h9' : ¬ 9 ≤ s.size ∨ ((s[0].toNat : Int) == 0) = false := by
      by_cases g : 9 ≤ s.size
      · right; rw [beq_eq_false_iff_ne]; intro e; exact h9 ⟨g, by omega⟩
      · left; exact g
    have h' : ((s[0].toNat : Int) != 1) = true ∨ (((s[0].toNat : Int) != 1) = false ∧ (32 < (s[1].toNat : Int) ∨ ((s[1].toNat : Int) ≤ 32 ∧ (s.size : Int) < 2 + (s[1].toNat : Int)))) := by
      by_cases g : s[0].toNat = 1
      · right
        rw [g]
        refine ⟨rfl, ?_⟩
        omega
      · left; rw [bne_iff_ne]; omega
    clear h9 h
    rcases h9' with g9 | g9 <;> rcases h' with g1 | ⟨g1, g2 | ⟨g2, g3⟩⟩
    all_goals
      go_enter Try.func25, Try.ntmps25
      go_wp2_with fail
      all_goals refine bodyPost_ret (v := .tuple #[.agg #[.int .u8 0, .int .i64 0, .string ⟨#[]⟩], .string ⟨#[]⟩, .bool false]) ?_ rfl ⟨rfl, ?_⟩
      any_goals exact HE.out
      all_goals simp [results, Try.results25, go_sem]
  · have g9 : ¬ 9 ≤ s.size := by omega
    clear h9 h
    go_enter Try.func25, Try.ntmps25
    go_wp2_with fail
    refine bodyPost_ret (v := .tuple #[.agg #[.int .u8 0, .int .i64 0, .string ⟨#[]⟩], .string ⟨#[]⟩, .bool false]) ?_ rfl ⟨rfl, ?_⟩
    · simp [results, Try.results25, go_sem]
    · exact HE.out

/-- The first part of bytes, and what is behind it. -/
def cutS (s : ByteArray) : Option (Lab × ByteArray) :=
  if 9 ≤ s.size ∧ byteAt s 0 = 0 then some (⟨0, numOf s, ⟨#[]⟩⟩, s.extract 9 s.size)
  else if s.size < 2 ∨ byteAt s 0 ≠ 1 ∨ 32 < byteAt s 1 ∨ s.size < 2 + byteAt s 1 then none
  else some (⟨1, 0, s.extract 2 (2 + byteAt s 1)⟩, s.extract (2 + byteAt s 1) s.size)
theorem cut_yes_calls (s : ByteArray) (x : Lab) (r : ByteArray) (w : World) (hs : s.size ≤ 1099511627776) (h : cutS s = some (x, r)) :
    Calls Try.prog 25 #[.string s] w fun e w' => e = .returned (.tuple #[x.v, .string r, .bool true]) ∧ Below w.heap.size w w' := by
  unfold cutS at h
  split at h
  · rename_i h1
    simp only [Option.some.injEq, Prod.mk.injEq] at h
    obtain ⟨rfl, rfl⟩ := h
    exact cut_num s w hs h1.1 h1.2
  · split at h
    · cases h
    · rename_i h1 h2
      simp only [Option.some.injEq, Prod.mk.injEq] at h
      obtain ⟨rfl, rfl⟩ := h
      exact cut_text s _ w hs (by omega) (by omega) rfl (by omega) (by omega)
theorem cut_no_calls (s : ByteArray) (w : World) (hs : s.size ≤ 1099511627776) (h : cutS s = none) :
    Calls Try.prog 25 #[.string s] w fun e w' => e = .returned (.tuple #[.agg #[.int .u8 0, .int .i64 0, .string ⟨#[]⟩], .string ⟨#[]⟩, .bool false]) ∧ Below w.heap.size w w' := by
  unfold cutS at h
  split at h
  · cases h
  · split at h
    · rename_i h1 h2
      exact cut_no s w hs h1 h2
    · cases h
end Go.Proofs.Yteilngkjoeaboaa.Lb
