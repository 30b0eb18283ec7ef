/- With. -/
import Derived.Test.YtilkijioocijcaaInsG
namespace Go.Proofs.Ytilkijioocijcaa.Shp
open Go.RowKit
set_option linter.unusedVariables false
set_option linter.unusedSimpArgs false

/-- Insert, whatever the room. -/
theorem insert_any (base : Nat) (A : Option Addr) (cap k : Nat) (L : List Int) (n : Int) (H : Nat) (w : World) (h : OwnI w base 3 .i64 (.slice A L.length cap) L) (hn : Blk w H 3 #[.int .i64 n]) (hne : ∀ g, A = some ⟨g, 0, none⟩ → H ≠ g) (hl : L.length ≤ 1000000) (hk : k ≤ L.length) (hbs : base ≤ w.heap.size) :
    Calls Try.prog 26 #[.slice A L.length cap, .int .i64 (k : Nat), .slice (some ⟨H, 0, none⟩) 1 1] w fun e w' => ∃ v, e = .returned v ∧ ShowsI w' .i64 v (L.take k ++ n :: L.drop k) ∧ Below base w w' := by
  by_cases he : k = L.length
  · subst he
    rw [List.take_length, List.drop_length]
    exact insert_end base A cap L n H w h hn hl hbs
  · have hA : ∃ g, A = some ⟨g, 0, none⟩ := by
      rcases h.2 with ⟨h', h0⟩ | ⟨g, cap', cur, h', _⟩
      · omega
      · injection h' with h1
        exact ⟨g, h1⟩
    obtain ⟨g, rfl⟩ := hA
    have hlen : (L.take k ++ n :: L.drop k).length = L.length + 1 := by simp; omega
    by_cases hr : L.length + 1 ≤ cap
    · refine (insert_room base g cap k L n H w h hn (hne g rfl) hl (by omega) hr).mono ?_
      rintro e w' ⟨rfl, h1, h2⟩
      exact ⟨_, rfl, ⟨_, cap, by rw [hlen], by omega, h1⟩, h2⟩
    · refine (insert_grow base g cap k L n H w h hn hl (by omega) (by omega) hbs).mono ?_
      rintro e w' ⟨G, rfl, h0, h1, h2⟩
      exact ⟨_, rfl, ⟨_, G, by rw [hlen], by omega, h1⟩, h2⟩

set_option maxHeartbeats 1000000 in
theorem wi_calls (xs : List Int) (A : Option Addr) (ca : Nat) (i n : Int) (w : World) (hx : ReadsI w .i64 A xs) (hla : xs.length ≤ 1000000) (hnil : A = none → xs = []) :
    Calls Try.prog 13 #[.slice A xs.length ca, .int .i64 i, .int .i64 n] w fun e w' => TurnPost (wiL xs i n) w' e ∧ Below w.heap.size w w' := by
  have HRA := Lib.hid (right_calls xs A ca w hx (by omega))
  have HCL := Lib.hid (sclone_calls xs A ca w hx (by omega) hnil)
  obtain ⟨O, hO⟩ : ∃ O, O = wiL xs i n := ⟨_, rfl⟩
  rw [← hO]
  have HO := Lib.hid hO
  clear hx hO hnil
  by_cases hr : rightB xs = true
  rotate_left
  · have HN : Hid (O = none) := Lib.hid (by rw [HO.out]; unfold wiL; rw [if_neg (fun h => hr h.1)])
    have hf : rightB xs = false := by simpa using hr
    rw [hf] at HRA
    clear hr HO hf
    go_enter Try.func13, Try.ntmps13
    go_wp2_with fail
    refine HRA.out.mono ?_
    rintro e w' ⟨rfl, rfl⟩
    go_wp2_with fail
    go_ret2
    exact ⟨.inl ⟨HN.out, rfl⟩, Below.refl _ _⟩
  rw [hr] at HRA
  by_cases hin : 0 ≤ n ∧ n ≤ 1048576 ∧ xs.length < 6 ∧ 0 ≤ i ∧ i ≤ (xs.length : Int)
  rotate_left
  · have HN : Hid (O = none) := Lib.hid (by rw [HO.out]; unfold wiL; rw [if_neg (fun h => hin ⟨h.2.2.2.1, h.2.2.2.2.1, h.2.2.2.2.2, h.2.1, h.2.2.1⟩)])
    clear HO
    by_cases h1 : n < 0
    · clear hr hin
      go_enter Try.func13, Try.ntmps13
      go_wp2_with fail
      refine HRA.out.mono ?_
      rintro e w' ⟨rfl, rfl⟩
      go_wp2_with fail
      go_ret2
      exact ⟨.inl ⟨HN.out, rfl⟩, Below.refl _ _⟩
    by_cases h2 : 1048576 < n
    · clear hr hin
      go_enter Try.func13, Try.ntmps13
      go_wp2_with fail
      refine HRA.out.mono ?_
      rintro e w' ⟨rfl, rfl⟩
      go_wp2_with fail
      go_ret2
      exact ⟨.inl ⟨HN.out, rfl⟩, Below.refl _ _⟩
    by_cases h3 : 6 ≤ xs.length
    · have h3' : (6 : Int) ≤ (xs.length : Int) := by omega
      clear hr hin
      go_enter Try.func13, Try.ntmps13
      go_wp2_with fail
      refine HRA.out.mono ?_
      rintro e w' ⟨rfl, rfl⟩
      go_wp2_with fail
      go_ret2
      exact ⟨.inl ⟨HN.out, rfl⟩, Below.refl _ _⟩
    by_cases h4 : i < 0
    · clear hr hin
      go_enter Try.func13, Try.ntmps13
      go_wp2_with fail
      refine HRA.out.mono ?_
      rintro e w' ⟨rfl, rfl⟩
      go_wp2_with fail
      go_ret2
      exact ⟨.inl ⟨HN.out, rfl⟩, Below.refl _ _⟩
    · have h5 : (xs.length : Int) < i := by omega
      clear hr hin
      go_enter Try.func13, Try.ntmps13
      go_wp2_with fail
      refine HRA.out.mono ?_
      rintro e w' ⟨rfl, rfl⟩
      go_wp2_with fail
      go_ret2
      exact ⟨.inl ⟨HN.out, rfl⟩, Below.refl _ _⟩
  obtain ⟨h1, h2, h3, h4, h5⟩ := hin
  obtain ⟨k, rfl⟩ : ∃ k : Nat, i = (k : Int) := ⟨i.toNat, by omega⟩
  have hk : k ≤ xs.length := by omega
  have HY : Hid (O = some (xs.take k ++ n :: xs.drop k)) := Lib.hid (by rw [HO.out]; unfold wiL; rw [if_pos ⟨hr, h4, h5, h1, h2, h3⟩, Int.toNat_natCast])
  have HIN := Lib.hid (fun base A cap H w h hn hne hb => insert_any base A cap k xs n H w h hn hne hla hk hb)
  clear hr HO
  go_enter Try.func13, Try.ntmps13
  go_wp2_with fail
  refine HRA.out.mono ?_
  rintro e w' ⟨rfl, rfl⟩
  go_wp2_with fail
  refine HCL.out.mono ?_
  rintro e w1 ⟨v, rfl, hown, hv, hB1⟩
  obtain ⟨A1, cap, rfl⟩ : ∃ A1 cap, v = .slice A1 xs.length cap := by
    rcases hown.2 with ⟨rfl, h0⟩ | ⟨g', cap', cur, h', _⟩
    · exact ⟨none, 0, by rw [h0]⟩
    · exact ⟨_, _, h'⟩
  have HOW : Hid (OwnI (w1.alloc (.cells #[.int .i64 n] 3)) w.heap.size 3 .i64 (.slice A1 xs.length cap) xs) := Lib.hid (own_below hown (bl_alloc (Below.refl _ _) _))
  have HNE : Hid (∀ g, A1 = some ⟨g, 0, none⟩ → w1.heap.size ≠ g) := Lib.hid (fun g hg => by
    have := (own_lt hown g (by rw [hg]; rfl)).2
    omega)
  have HB1 := Lib.hid (bl_alloc hB1 (.cells #[.int .i64 n] 3))
  have hz : w.heap.size ≤ (w1.alloc (.cells #[.int .i64 n] 3)).heap.size := by have := hB1.size; simp; omega
  have HZ := Lib.hid hz
  clear hown hv hB1 hz
  go_wp2_with fail
  refine (HIN.out _ _ _ _ _ HOW.out (Blk.new _ _ _) HNE.out HZ.out).mono ?_
  rintro e w2 ⟨v2, rfl, hr2, hB2⟩
  have HR2 := Lib.hid hr2
  have HB2 := Lib.hid (HB1.out.trans hB2)
  clear hr2 hB2
  go_wp2_with fail
  go_ret2
  exact ⟨.inr ⟨_, _, HY.out, rfl, HR2.out⟩, HB2.out⟩
end Go.Proofs.Ytilkijioocijcaa.Shp
