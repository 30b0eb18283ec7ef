/- knows of law06: true; num. -/
import Derived.Test.YteilngkjoeaboaaNew
namespace Go.Proofs.Yteilngkjoeaboaa.Hs
open Go.RowKit Go.Proofs.Yteilngkjoeaboaa.Lb
set_option linter.unusedVariables false
set_option linter.unusedSimpArgs false

def intL (n : Int) : Lab := ⟨0, n, ⟨#[]⟩⟩
theorem intL_v (n : Int) : (intL n).v = .agg #[.int .u8 0, .int .i64 n, .string ⟨#[]⟩] := rfl
theorem intL_right (n : Int) : rightL (intL n) = true := by simp [rightL, partsL, simpleB, intL]
theorem intL_ok (n : Int) (h : -9223372036854775808 ≤ n) (h' : n ≤ 9223372036854775807) : (intL n).Ok := ⟨by simp [intL], by simp [intL], h, h', Nat.zero_le _⟩
theorem intL_inj (m n : Int) : intL m = intL n ↔ m = n := by simp [intL]
theorem num_calls (n : Int) (w : World) : Calls Try.prog 9 #[.int .i64 n] w fun e w' => e = .returned (.int .i64 n) ∧ w = w' := by
  go_enter Try.func9, Try.ntmps9
  go_wp2
  go_ret
  exact ⟨rfl, rfl⟩
theorem newE_two : newE [] [intL 5, intL 9] = (0, [intL 5, intL 9]) := by
  have h1 : addE [] (intL 5) = 0 := by simp [addE, intL_right]
  have h2 : addE [intL 5] (intL 9) = 0 := by simp [addE, intL_right, intL_inj]
  simp [newE, h1, h2]
set_option maxRecDepth 100000 in
set_option maxHeartbeats 1000000 in
theorem knows_calls (w : World) : Calls Try.prog 7 #[] w fun e w' => e = .returned (.bool true) ∧ Below w.heap.size w w' := by
  have hnum := Lib.hid num_calls
  have HNEW : Hid (∀ w A, Shows w A ([intL 5, intL 9].flatMap Lab.cs) → Calls Try.prog 8 #[.slice A 2 2] w fun e w' => NewPost w.heap.size (w.heap.size + 1) (newE [] [intL 5, intL 9]) w' e ∧ Below w.heap.size w w') := Lib.hid fun w A h => new_calls [intL 5, intL 9] A 2 2 rfl (fun x hx => by
    simp at hx
    rcases hx with rfl | rfl <;> exact intL_ok _ (by omega) (by omega)) (by omega) w h
  go_enter Try.func7, Try.ntmps7
  go_wp2_with fail
  refine (int_calls 5 _).mono ?_
  rintro e w1 ⟨rfl, hB1⟩
  have HB1 := Lib.hid hB1
  clear hB1
  go_wp2_with fail
  refine (int_calls 9 _).mono ?_
  rintro e w2 ⟨rfl, hB2⟩
  have HB2 := Lib.hid (bl_then HB1.out hB2)
  clear hB2
  go_wp2_with fail
  have hsh := Shows.of_blk (Blk.new w2 34 #[.int .u8 0, .int .i64 5, .string ⟨#[]⟩, .int .u8 0, .int .i64 9, .string ⟨#[]⟩])
  have HB3 := Lib.hid (bl_alloc HB2.out (.cells #[.int .u8 0, .int .i64 5, .string ⟨#[]⟩, .int .u8 0, .int .i64 9, .string ⟨#[]⟩] 34))
  refine (HNEW.out _ _ hsh).mono ?_
  rintro e w3 ⟨hp, hB4⟩
  rw [newE_two] at hp
  clear hsh
  rcases hp with ⟨_, rfl, S, LA, lc, sb, ht⟩ | ⟨h0, _⟩
  rotate_left
  · exact absurd rfl h0
  have HT := Lib.hid ht
  have HB4 := Lib.hid (bl_then HB3.out hB4)
  have hS8 : S.length = 8 := by
    have h1 := ht.eight
    have h2 := ht.least
    simp at h2
    omega
  have HS8 := Lib.hid hS8
  clear ht hB4 hS8
  generalize ((w2.alloc (.cells #[.int .u8 0, .int .i64 5, .string ⟨#[]⟩, .int .u8 0, .int .i64 9, .string ⟨#[]⟩] 34)).heap.size + 1) = T at *
  generalize (w2.alloc (.cells #[.int .u8 0, .int .i64 5, .string ⟨#[]⟩, .int .u8 0, .int .i64 9, .string ⟨#[]⟩] 34)).heap.size = B at *
  go_wp2_with fail
  refine (int_calls 9 _).mono ?_
  rintro e w5 ⟨rfl, hB5⟩
  have HT5 := Lib.hid (HT.out.tab.below hB5)
  have HB5 := Lib.hid (bl_then HB4.out hB5)
  clear hB5
  have hfind := find_calls (intL 9) (intL_ok _ (by omega) (by omega)) T _ S LA lc sb S.length w5 HT5.out.read HT.out.inv (by simp)
  rw [intL_v] at hfind
  go_wp2_with fail
  refine hfind.mono ?_
  rintro e w6 ⟨hf, hB6⟩
  have HT6 := Lib.hid (HT5.out.below hB6)
  have HB6 := Lib.hid (bl_then HB5.out hB6)
  clear hB6 hfind
  rcases hf with ⟨i, hi, hia, rfl⟩ | ⟨hno, _⟩
  rotate_left
  · exact absurd (by simp) hno
  have hi1 : i = 1 := by
    have hi' : i < 2 := hi
    rcases (show i = 0 ∨ i = 1 by omega) with rfl | rfl
    · have : intL 5 = intL 9 := hia
      rw [intL_inj] at this
      omega
    · rfl
  subst hi1
  clear hi hia
  rw [show ((1 : Nat) : Int) = 1 from rfl]
  have hroom := room_calls T _ S LA lc sb S.length w6 HT6.out.read
  rw [HS8.out] at hroom
  have hlen := len_calls T _ S LA lc sb S.length w6 HT6.out.read
  have HROOM := Lib.hid hroom
  have HLEN := Lib.hid hlen
  clear hroom hlen
  go_wp2_with fail
  refine (hnum.out 0 _).mono ?_
  rintro e w7 ⟨rfl, rfl⟩
  go_wp2_with fail
  refine HROOM.out.mono ?_
  rintro e w7 ⟨rfl, rfl⟩
  rw [show ((8 : Nat) : Int) = 8 from rfl]
  go_wp2_with fail
  refine HLEN.out.mono ?_
  rintro e w7 ⟨rfl, rfl⟩
  rw [show (([intL 5, intL 9].length : Nat) : Int) = 2 from rfl]
  go_wp2_with fail
  go_ret
  exact ⟨rfl, HB6.out⟩
end Go.Proofs.Yteilngkjoeaboaa.Hs
