/- Labels: what they are; contracts of label.simple, Int, Text, Hash. -/
import Derived.Test.YteilngkjoeaboaaBase
import Derived.Test.YteilngkjoeaboaaWords
import Derived.Laws.Bits64
import Derived.Laws.BitsLemmas
import Derived.Laws.IdiomStrings
namespace Go.Proofs.Yteilngkjoeaboaa.Lb
open Go.RowKit
set_option linter.unusedVariables false
set_option linter.unusedSimpArgs false

/-- A label. -/
structure Lab where
  k : Int
  n : Int
  s : ByteArray
theorem Lab.ext' {a b : Lab} (h1 : a.k = b.k) (h2 : a.n = b.n) (h3 : a.s = b.s) : a = b := by cases a; cases b; simp_all
instance : DecidableEq Lab := fun a b => decidable_of_iff (a.k = b.k ∧ a.n = b.n ∧ a.s = b.s) ⟨fun h => Lab.ext' h.1 h.2.1 h.2.2, fun h => by subst h; simp⟩
instance : Inhabited Lab := ⟨⟨0, 0, ByteArray.empty⟩⟩
def Lab.cs (a : Lab) : List Value := [.int .u8 a.k, .int .i64 a.n, .string a.s]
def Lab.v (a : Lab) : Value := .agg #[.int .u8 a.k, .int .i64 a.n, .string a.s]
/-- Its numbers are numbers of their kinds. -/
structure Lab.Ok (a : Lab) : Prop where
  k0 : 0 ≤ a.k
  k1 : a.k ≤ 255
  n0 : -9223372036854775808 ≤ a.n
  n1 : a.n ≤ 9223372036854775807
  s1 : a.s.size ≤ 1099511627776

def simpleB (a : Lab) : Bool := if a.k = 0 then a.s.data.toList.isEmpty else if a.k = 1 then decide (a.n = 0 ∧ a.s.size ≤ 32) else false
set_option maxHeartbeats 400000 in
theorem simple_calls (a : Lab) (w : World) (ha : a.Ok) :
    Calls Try.prog 24 #[a.v] w fun e w' => e = .returned (.bool (simpleB a)) ∧ Below w.heap.size w w' := by
  obtain ⟨k, n, s⟩ := a
  have h1 := ha.s1
  unfold Lab.v
  simp only at h1 ⊢
  by_cases h0 : k = 0
  · subst h0
    have hv : simpleB ⟨0, n, s⟩ = s.data.toList.isEmpty := rfl
    have HV := Lib.hid hv
    clear hv
    go_enter Try.func24, Try.ntmps24
    go_wp2
    go_ret
    exact ⟨ret_bool (by rw [ByteArray.toList_eq]; exact HV.out.symm), bl_alloc (Below.refl _ _) _⟩
  · have e0 : (k == 0) = false := by simpa using h0
    by_cases h2 : k = 1
    · subst h2
      have hv : simpleB ⟨1, n, s⟩ = decide (n = 0 ∧ s.size ≤ 32) := by simp [simpleB]
      have HV := Lib.hid hv
      clear hv
      by_cases h3 : n = 0
      · subst h3
        go_enter Try.func24, Try.ntmps24
        go_wp2
        go_ret
        exact ⟨ret_bool (by rw [HV.out]; simp; omega), bl_alloc (Below.refl _ _) _⟩
      · have e3 : (n == 0) = false := by simpa using h3
        have HN := Lib.hid h3
        clear h3
        go_enter Try.func24, Try.ntmps24
        go_wp2
        go_ret
        exact ⟨ret_bool (by rw [HV.out]; simp [HN.out]), bl_alloc (Below.refl _ _) _⟩
    · have e1 : (k == 1) = false := by simpa using h2
      have hv : simpleB ⟨k, n, s⟩ = false := by simp [simpleB, h0, h2]
      have HV := Lib.hid hv
      clear hv
      go_enter Try.func24, Try.ntmps24
      go_wp2
      go_ret
      exact ⟨ret_bool HV.out.symm, bl_alloc (Below.refl _ _) _⟩

/-- What []byte(s) lays shows the string's bytes. -/
def byteAt (s : ByteArray) (i : Nat) : Nat := (nth s.data.toList i).toNat
theorem byteAt_lt (s : ByteArray) (i : Nat) : byteAt s i < 256 := (nth s.data.toList i).toNat_lt
theorem bytesRow_cell (w : World) (s : ByteArray) (c : Nat) (t : TypeId) (fr : Nat × Nat) (i : Nat) (hi : i < s.size) : (w.alloc (.cells (bytesRow s c) t fr)).cell? ⟨w.heap.size, i, none⟩ = some (.int .u8 (byteAt s i : Nat)) := by
  rw [World.cell?_alloc_mark]
  have hi' : i < s.data.size := hi
  have hi2 : i < s.data.toList.length := by simpa using hi'
  unfold bytesRow byteAt
  rw [Array.getElem?_append_left (by simpa using hi'), nth_eq _ _ hi2]
  rw [Array.getElem?_eq_getElem (by simpa using hi')]
  simp
theorem bytes_range (s : ByteArray) : (List.range s.size).map (byteAt s) = s.data.toList.map (·.toNat) := by
  apply List.ext_getElem
  · simp
  · intro i h1 h2
    have h3 : i < s.data.toList.length := by simpa using h2
    simp only [List.getElem_map, List.getElem_range, byteAt, nth_eq _ _ h3]
/-- The number that a label's bytes come to. -/
theorem hstep_ex : ∃ f : Nat → Nat → Nat, ∀ h c, f h c = (h ^^^ c) * 1099511628211 % 18446744073709551616 := ⟨_, fun _ _ => rfl⟩
noncomputable def hstep : Nat → Nat → Nat := Classical.choose hstep_ex
theorem hstep_eq (h c : Nat) : hstep h c = (h ^^^ c) * 1099511628211 % 18446744073709551616 := Classical.choose_spec hstep_ex h c
theorem hstep_lt (h c : Nat) : hstep h c < 18446744073709551616 := by rw [hstep_eq]; exact Nat.mod_lt _ (by omega)
/-- The i-th byte of a number, as Go shifts it. -/
def nbyte (n : Int) (i : Nat) : Nat := ((n / 2 ^ (8 * i)) % 256).toNat
def hfirst : Nat := 14695981039346656037
theorem hfirst_lt : hfirst < 18446744073709551616 := by unfold hfirst; omega
theorem hfirst_eq : (14695981039346656037 : Int) = (hfirst : Nat) := rfl
noncomputable def hash0 (a : Lab) : Nat := hstep hfirst a.k.toNat
noncomputable def hash1 (a : Lab) : Nat := ((List.range 8).map (nbyte a.n)).foldl hstep (hash0 a)
noncomputable def hashL (a : Lab) : Nat := (a.s.data.toList.map (·.toNat)).foldl hstep (hash1 a)
theorem hstep_wrap (h c : Nat) (hc : c < 256) (hh : h < 18446744073709551616) : IntKind.u64.wrap (bits BinOp.xor IntKind.u64 (h : Int) (c : Int) * 1099511628211) = ((hstep h c : Nat) : Int) := by
  rw [bits_xor_u64_nat h c hh (by omega), IntKind.wrap_u64]
  rw [hstep_eq]
  omega
set_option maxHeartbeats 400000 in
theorem hash_step (c h : Nat) (b : Nat) (w : World) (hc : c < 256) (hh : h < 18446744073709551616) (hb : w.cell? ⟨b, 0, none⟩ = some (.int .u64 h)) (hf : w.frozen? ⟨b, 0, none⟩ = false) :
    Calls Try.prog 29 #[.int .u8 c, .pointer (some ⟨b, 0, none⟩)] w fun e w' => e = .returned (.tuple #[]) ∧ w' = w.setCell ⟨b, 0, none⟩ (.int .u64 (hstep h c : Nat)) := by
  have HW := Lib.hid (hstep_wrap h c hc hh)
  go_enter Try.func29, Try.ntmps29
  go_wp2
  go_end0
  exact ⟨rfl, by rw [HW.out]⟩
set_option maxHeartbeats 1000000 in
theorem hash_calls (a : Lab) (w : World) (ha : a.Ok) :
    Calls Try.prog 27 #[a.v] w fun e w' => e = .returned (.int .u64 (hashL a : Nat)) ∧ Below w.heap.size w w' := by
  obtain ⟨k, n, s⟩ := a
  have h1 := ha.s1
  have h2 := ha.n0
  have h3 := ha.n1
  have h4 := ha.k0
  have h5 := ha.k1
  unfold Lab.v
  simp only at h1 h2 h3 h4 h5 ⊢
  obtain ⟨k, rfl⟩ := Int.eq_ofNat_of_zero_le h4
  have hk : hstep hfirst k = hash0 ⟨k, n, s⟩ := by unfold hash0; rw [Int.toNat_natCast]
  obtain ⟨h0, hh0⟩ : ∃ h0, h0 = hash0 ⟨k, n, s⟩ := ⟨_, rfl⟩
  have hl0 : h0 < 18446744073709551616 := by rw [hh0, ← hk]; exact hstep_lt _ _
  have H0 := Lib.hid hh0
  rw [← hh0] at hk
  have HF := Lib.hid hfirst_eq
  have HK := Lib.hid hk
  clear hk hh0
  go_enter Try.func27, Try.ntmps27
  go_wp2_with fail
  rw [HF.out]
  have hfl := hfirst_lt
  generalize hfirst = hf at *
  have b1 := Blk.alloc (Blk.new w 34 #[.int .u8 k, .int .i64 n, .string s]) (.cells #[.int .u64 hf] 56)
  have b2 := Blk.new' (w := w.alloc (.cells #[.int .u8 k, .int .i64 n, .string s] 34)) (H := w.heap.size + 1) (by simp) 56 #[.int .u64 hf]
  have b3 : Below w.heap.size w ((w.alloc (.cells #[.int .u8 k, .int .i64 n, .string s] 34)).alloc (.cells #[.int .u64 hf] 56)) := bl_alloc (bl_alloc (Below.refl _ _) _) _
  have B1 := Lib.hid b1
  have B2 := Lib.hid b2
  have B3 := Lib.hid b3
  clear b1 b2 b3
  refine (hash_step k hf (w.heap.size + 1) _ (by omega) hfl (B2.out.cell 0) (B2.out.frozen 0)).mono ?_
  rintro e w1 ⟨rfl, hw1⟩
  rw [HK.out] at hw1
  have C1 : Hid (Blk w1 w.heap.size 34 #[.int .u8 k, .int .i64 n, .string s]) := Lib.hid (by rw [hw1]; exact B1.out.far (by simp) _)
  have C2 : Hid (Blk w1 (w.heap.size + 1) 56 #[.int .u64 h0]) := Lib.hid (by rw [hw1]; exact B2.out.one _)
  have C3 : Hid (Below w.heap.size w w1) := Lib.hid (by rw [hw1]; exact bl_set B3.out (by simp) _)
  clear hw1 B1 B2 B3 HK HF
  go_wp2_with fail
  go_loopw [5, 13] (fun _ i wr => ∃ (k' h : Nat), i = .int .i64 k' ∧ k' ≤ 8 ∧ h < 18446744073709551616 ∧ Hid (h = ((List.range k').map (nbyte n)).foldl hstep h0) ∧ Blk wr w.heap.size 34 #[.int .u8 k, .int .i64 n, .string s] ∧ Blk wr (w.heap.size + 1) 56 #[.int .u64 h] ∧ Below w.heap.size w wr) (fun _ i _ => 8 - (intOf i).toNat)
  case atStart => exact ⟨0, h0, rfl, by omega, hl0, Lib.hid rfl, C1.out, C2.out, C3.out⟩
  case round =>
    obtain ⟨j, h, rfl, hj, hh, HH, d1, d2, d3⟩ := hrel
    by_cases hlt : j < 8
    · have e1 := d1.cell 1
      have e2 := d2.cell 0
      have e3 := d2.frozen 0
      have D1 := Lib.hid d1
      have D2 := Lib.hid d2
      have D3 := Lib.hid d3
      clear d1 d2 d3
      have hb : n / 2 ^ (8 * j) % 256 = ((nbyte n j : Nat) : Int) := by unfold nbyte; omega
      have hb9 : nbyte n j < 256 := by unfold nbyte; omega
      have HN : Hid (List.range (j + 1) = List.range j ++ [j]) := Lib.hid List.range_succ
      have HB := Lib.hid hb
      clear hb
      go_wp2_with fail
      rw [HB.out]
      refine (hash_step (nbyte n j) h (w.heap.size + 1) _ hb9 hh e2 e3).mono ?_
      rintro e w2 ⟨rfl, hw2⟩
      have C1 : Hid (Blk w2 w.heap.size 34 #[.int .u8 k, .int .i64 n, .string s]) := Lib.hid (by rw [hw2]; exact D1.out.far (by simp) _)
      have C2 : Hid (Blk w2 (w.heap.size + 1) 56 #[.int .u64 (hstep h (nbyte n j) : Nat)]) := Lib.hid (by rw [hw2]; exact D2.out.one _)
      have C3 : Hid (Below w.heap.size w w2) := Lib.hid (by rw [hw2]; exact bl_set D3.out (by simp) _)
      clear hw2 D1 D2 D3 e1 e2 e3
      go_wp2_with fail
      go_roundw
      case measure => simp [intOf]; omega
      case rel => exact ⟨j + 1, _, by go_num, by omega, hstep_lt _ _, Lib.hid (by rw [HN.out, List.map_append, List.foldl_append, ← HH.out]; rfl), C1.out, C2.out, C3.out⟩
    · have HJ := Lib.hid (show j = 8 by omega)
      have e1 := d1.cell 2
      have D1 := Lib.hid d1
      have D2 := Lib.hid d2
      have D3 := Lib.hid d3
      clear d1 d2 d3
      have hcv := run_bytes_of_string (P := Try.prog) wr 9 58 5 s Try.underlying9 Try.underlying58 Try.underlying5
      go_wp2_with fail
      obtain ⟨g, hg⟩ : ∃ g, g = wr.heap.size := ⟨_, rfl⟩
      obtain ⟨c, hc⟩ : ∃ c, c = grownCap wr s.size 0 5 := ⟨_, rfl⟩
      have HC : Hid (∀ i, i < s.size → ((wr.alloc (.cells (bytesRow s c) 5 ((bytesRow s c).size, (bytesRow s c).size + 1))).drew).cell? ⟨g, i, none⟩ = some (.int .u8 (byteAt s i : Nat))) := Lib.hid fun i hi => by
        rw [hg]; exact bytesRow_cell wr s c _ _ i hi
      have hgne : w.heap.size + 1 < g := by rw [hg]; exact D2.out.lt
      have C1 : Hid (Blk ((wr.alloc (.cells (bytesRow s c) 5 ((bytesRow s c).size, (bytesRow s c).size + 1))).drew) (w.heap.size + 1) 56 #[.int .u64 h]) := Lib.hid ((D2.out.alloc _).drew)
      have C3 : Hid (Below w.heap.size w ((wr.alloc (.cells (bytesRow s c) 5 ((bytesRow s c).size, (bytesRow s c).size + 1))).drew)) := Lib.hid (bl_drew (bl_alloc D3.out _))
      rw [← hc, ← hg]
      clear hcv hc hg D1 D2 D3 e1
      generalize ((wr.alloc (.cells (bytesRow s c) 5 ((bytesRow s c).size, (bytesRow s c).size + 1))).drew) = W2 at *
      go_loopw [7, 29] (fun _ i wr => ∃ (k' h' : Nat), i = .int .i64 k' ∧ k' ≤ s.size ∧ h' < 18446744073709551616 ∧ Hid (h' = ((List.range k').map (byteAt s)).foldl hstep h) ∧ Blk wr (w.heap.size + 1) 56 #[.int .u64 h'] ∧ Below w.heap.size w wr ∧ Hid (∀ i, i < s.size → wr.cell? ⟨g, i, none⟩ = some (.int .u8 (byteAt s i : Nat)))) (fun _ i _ => s.size - (intOf i).toNat)
      case atStart => exact ⟨0, h, rfl, by omega, hh, Lib.hid rfl, C1.out, C3.out, HC⟩
      case round =>
        obtain ⟨j', h', rfl, hj', hh', HH', d2, d3, HC'⟩ := hrel
        have e2 := d2.cell 0
        have e3 := d2.frozen 0
        have D2 := Lib.hid d2
        have D3 := Lib.hid d3
        clear d2 d3
        by_cases hlt : j' < s.size
        · have e1 := HC'.out j' hlt
          have hb9 := byteAt_lt s j'
          have HS : Hid (((List.range (j' + 1)).map (byteAt s)).foldl hstep h = hstep (((List.range j').map (byteAt s)).foldl hstep h) (byteAt s j')) := Lib.hid (by simp [List.range_succ])
          generalize byteAt s j' = c' at e1 hb9 HS
          go_wp2_with fail
          refine (hash_step c' h' (w.heap.size + 1) _ hb9 hh' e2 e3).mono ?_
          rintro e w2 ⟨rfl, hw2⟩
          have C2 : Hid (Blk w2 (w.heap.size + 1) 56 #[.int .u64 (hstep h' c' : Nat)]) := Lib.hid (by rw [hw2]; exact D2.out.one _)
          have C3' : Hid (Below w.heap.size w w2) := Lib.hid (by rw [hw2]; exact bl_set D3.out (by simp) _)
          have HC2 : Hid (∀ i, i < s.size → w2.cell? ⟨g, i, none⟩ = some (.int .u8 (byteAt s i : Nat))) := Lib.hid fun i hi => by
            rw [hw2, World.cell?_setCell_other _ _ _ _ (by intro e; injection e with e4; omega)]; exact HC'.out i hi
          clear hw2 D2 D3 e1 e2 e3
          go_wp2_with fail
          go_roundw
          case measure => simp [intOf]; omega
          case rel => exact ⟨j' + 1, _, by go_num, by omega, hstep_lt _ _, Lib.hid (by rw [HS.out, ← HH'.out]), C2.out, C3'.out, HC2⟩
        · obtain rfl : j' = s.size := by omega
          have hv : (h' : Int) = ((hashL ⟨(k : Int), n, s⟩ : Nat) : Int) := by
            rw [HH'.out]
            unfold hashL hash1
            rw [← H0.out, ← HJ.out, ← HH.out, ← bytes_range s]
          have HV := Lib.hid hv
          clear hv
          go_wp2_with fail
          go_ret
          exact ⟨ret_int HV.out, D3.out⟩
end Go.Proofs.Yteilngkjoeaboaa.Lb
