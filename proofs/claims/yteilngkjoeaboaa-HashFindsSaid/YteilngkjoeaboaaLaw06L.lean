/- Contract of Light of law05; '==' on the document's labels. -/
import Derived.Test.YteilngkjoeaboaaSlots
import Derived.Laws.StructEq
import Derived.WideShapes
namespace Go.Proofs.Yteilngkjoeaboaa.Lb
open Go.RowKit
set_option linter.unusedVariables false
set_option linter.unusedSimpArgs false

theorem eql_rlab (x y : Lab) (w : World) : (binOp .eql 24 x.v y.v).run Try.prog w = .ok (.bool (decide (x = y))) w := by
  have a1 := Try.isAgg5
  have a2 := Try.isAgg2
  have a3 := Try.isAgg9
  have z1 := Try.sizeOf5
  have z2 := Try.sizeOf2
  have z3 := Try.sizeOf9
  have u1 := Try.underlying5
  have u2 := Try.underlying2
  have u3 := Try.underlying9
  have hS : Try.prog.underlying 24 = some (.struct (Try.prog.fieldsOf 24)) := by kernel_rfl
  have hp : Try.prog.stoodInHeld 24 = false := by kernel_rfl
  obtain ⟨xk, xn, xs⟩ := x
  obtain ⟨yk, yn, ys⟩ := y
  simp only [Lab.v]
  rw [run_eql_struct, show (10000 : Nat) = 9999 + 1 from rfl, run_equalIn_agg w 9999 24 _ _ hS hp]
  simp only [Program.fieldsOf, Try.underlying24]
  go_simp
  have h3 : (xs.toList = ys.toList) ↔ xs = ys := ⟨fun h => by rw [ByteArray.toList_eq, ByteArray.toList_eq] at h; exact Go.WideShapes.bytes_inj h, fun h => by rw [h]⟩
  by_cases h1 : xk = yk <;> by_cases h2 : xn = yn <;> by_cases h : xs = ys <;> simp [h1, h2, h, h3]
theorem guard_rlab : Try.prog.eqGuardType Try.prog.depth 24 = false := by kernel_rfl

theorem cs_get' (L : List Lab) (j : Nat) (h : j < L.length) : (L.flatMap Lab.cs)[j * 3]? = some (.int .u8 (nth L j).k) ∧ (L.flatMap Lab.cs)[j * 3 + 1]? = some (.int .i64 (nth L j).n) ∧ (L.flatMap Lab.cs)[j * 3 + 2]? = some (.string (nth L j).s) := by
  induction L generalizing j with
  | nil => simp at h
  | cons a L ih =>
    have e : (a :: L).flatMap Lab.cs = Value.int .u8 a.k :: Value.int .i64 a.n :: Value.string a.s :: L.flatMap Lab.cs := rfl
    rw [e]
    cases j with
    | zero => exact ⟨rfl, rfl, rfl⟩
    | succ j =>
      have h' : j < L.length := by simpa using h
      rw [nth_cons_succ, show (j + 1) * 3 = j * 3 + 1 + 1 + 1 by omega]
      simpa using ih j h'
theorem rlab_at {w : World} {A : Option Addr} {L : List Lab} (h : Shows w A (L.flatMap Lab.cs)) (j : Nat) (hj : j < L.length) : ∃ b off, A = some ⟨b, off, none⟩ ∧ w.cell? ⟨b, off + j * 3, none⟩ = some (.int .u8 (nth L j).k) ∧ w.cell? ⟨b, off + j * 3 + 1, none⟩ = some (.int .i64 (nth L j).n) ∧ w.cell? ⟨b, off + j * 3 + 2, none⟩ = some (.string (nth L j).s) := by
  obtain ⟨h1, h2, h3⟩ := cs_get' L j hj
  obtain ⟨b, off, e, c1⟩ := h _ _ h1
  obtain ⟨b', off', e', c2⟩ := h _ _ h2
  obtain ⟨b'', off'', e'', c3⟩ := h _ _ h3
  rw [e] at e' e''
  injection e' with e'
  injection e' with e1 e2
  injection e'' with e''
  injection e'' with e3 e4
  subst e1; subst e2; subst e3; subst e4
  exact ⟨b, off, e, c1, by rw [← Nat.add_assoc] at c2; exact c2, by rw [← Nat.add_assoc] at c3; exact c3⟩

/-- Are texts short, and labels few? -/
def lightB (xs : List Lab) : Bool := (xs.take 500).all (fun a => decide (a.s.size ≤ 300)) && decide (xs.length ≤ 400)
theorem lightB_mem {xs : List Lab} (h : lightB xs = true) : xs.length ≤ 400 ∧ ∀ a ∈ xs, a.s.size ≤ 300 := by
  unfold lightB at h
  simp only [Bool.and_eq_true, decide_eq_true_eq, List.all_eq_true] at h
  refine ⟨h.2, fun a ha => h.1 a ?_⟩
  rwa [List.take_of_length_le (by omega)]
set_option maxRecDepth 100000 in
set_option maxHeartbeats 1000000 in
theorem light_calls (xs : List Lab) (A : Option Addr) (c : Nat) (w : World) (hx : Shows w A (xs.flatMap Lab.cs)) (hl : xs.length ≤ 9223372036854775807) :
    Calls Try.prog 6 #[.slice A xs.length c] w fun e w' => e = .returned (.bool (lightB xs)) ∧ w = w' := by
  have HX := Lib.hid hx
  clear hx
  obtain ⟨R, hR⟩ : ∃ R, R = lightB xs := ⟨_, rfl⟩
  rw [← hR]
  have HR := Lib.hid hR
  clear hR
  go_enter Try.func6, Try.ntmps6
  go_wp2_with fail
  go_loop [3] (fun i => ∃ k : Nat, i = .int .i64 k ∧ k ≤ xs.length ∧ k ≤ 500 ∧ Hid ((xs.take k).all (fun a => decide (a.s.size ≤ 300)) = true)) (fun i => xs.length - (intOf i).toNat)
  case atStart => exact ⟨0, rfl, by omega, by omega, Lib.hid rfl⟩
  case round =>
    obtain ⟨k, rfl, hk, hk5, HA⟩ := hrel
    by_cases hlt : k < xs.length ∧ k < 500
    · obtain ⟨h1, h2⟩ := hlt
      obtain ⟨b, off, rfl, g0, g1, g2⟩ := rlab_at HX.out k h1
      have hts := take_nth xs k h1
      have hmem : nth xs k ∈ xs.take 500 := by
        rw [nth_eq _ _ h1]
        exact List.mem_take_iff_getElem.2 ⟨k, by omega, rfl⟩
      generalize nth xs k = x at *
      have HTS := Lib.hid hts
      have HM := Lib.hid hmem
      clear hts hmem
      by_cases h3 : 300 < x.s.size
      · have HN : Hid (R = false) := Lib.hid (by
          rw [HR.out]
          unfold lightB
          rw [show (xs.take 500).all (fun a => decide (a.s.size ≤ 300)) = false from List.all_eq_false.2 ⟨x, HM.out, by simpa using h3⟩]
          rfl)
        go_wp2_with fail
        go_ret
        exact ⟨ret_bool HN.out.symm, rfl⟩
      · have HS : Hid ((xs.take (k + 1)).all (fun a => decide (a.s.size ≤ 300)) = true) := Lib.hid (by
          rw [HTS.out, List.all_append, HA.out]; simp; omega)
        go_wp2_with fail
        go_round
        case measure => simp [intOf]; omega
        case rel => exact ⟨k + 1, by go_num, by omega, by omega, HS⟩
    · have HN : Hid (R = decide (xs.length ≤ 400)) := Lib.hid (by
        rw [HR.out]
        unfold lightB
        by_cases h1 : xs.length ≤ 400
        · have h2 := HA.out
          rw [List.take_of_length_le (by omega)] at h2
          rw [List.take_of_length_le (by omega), h2]; rfl
        · simp [h1])
      have hc : xs.length ≤ k ∨ (k < xs.length ∧ 500 ≤ k) := by omega
      clear hlt
      rcases hc with h1 | ⟨h1, h2⟩
      all_goals
        go_wp2_with fail
        go_ret
        exact ⟨ret_bool (by rw [HN.out]; simp <;> omega), rfl⟩
end Go.Proofs.Yteilngkjoeaboaa.Lb
