/- Contract of the document's Sort: the walk. -/
import Derived.Test.YteppcfikalonbaaOrdRef3
import Derived.Deep.RegionLaw
namespace Go.Proofs.Yteppcfikalonbaa.Ord
open Go.RowKit
set_option linter.unusedVariables false
set_option linter.unusedSimpArgs false

theorem ins_map (L : List Nat) (k x : Nat) : (L.take k ++ x :: L.drop k).map (fun (y : Nat) => (y : Int)) = (L.map fun (y : Nat) => (y : Int)).take k ++ (x : Int) :: (L.map fun (y : Nat) => (y : Int)).drop k := by
  simp [List.map_take, List.map_drop]
abbrev toI (L : List Nat) : List Int := L.map fun (y : Nat) => (y : Int)
theorem size_int : ∀ w, (sizeOf 3).run Try.prog w = .ok 1 w := by
  intro w
  obtain ⟨i0, hi, hzz⟩ := Option.map_eq_some_iff.1 info_int
  simp only [Prod.mk.injEq] at hzz
  simp [sizeOf, typeInfo, hi, hzz.2.1]
set_option maxRecDepth 100000 in
set_option maxHeartbeats 1000000 in
theorem refSort_calls (xs : List Int) (A : Option Addr) (ca : Nat) (w : World) (hx : ReadsI w .i64 A xs) (hl : xs.length ≤ 1000000) :
    Calls Try.prog 14 #[.slice A xs.length ca] w fun e w' => (∃ v L, e = .returned v ∧ ShowsI w' .i64 v (toI L) ∧ L.Perm (List.range xs.length) ∧ L.Pairwise (Ahead (bhOf cmpI xs))) ∧ Below w.heap.size w w' := by
  have HX := Lib.hid hx
  clear hx
  go_enter Try.func14, Try.ntmps14
  go_wp2_with fail
  go_loopw [3, 4, 5] (fun v i _ wr => ∃ (a : Nat) (L : List Nat), i = .int .i64 a ∧ a ≤ xs.length ∧ Hid (OwnI wr w.heap.size 3 .i64 v (toI L)) ∧ Hid (L.Perm (List.range a)) ∧ Hid (L.Pairwise (Ahead (bhOf cmpI xs))) ∧ Below w.heap.size w wr ∧ w.heap.size ≤ wr.heap.size) (fun _ i _ _ => xs.length - (intOf i).toNat)
  case atStart => exact ⟨0, [], rfl, Nat.zero_le _, Lib.hid (by simpa using ownI_nil w _ _ _), Lib.hid (by simp), Lib.hid (by simp), Below.refl _ _, Nat.le_refl _⟩
  case round =>
    obtain ⟨a, L, rfl, ha, HO, HP, HS, hB, hsz⟩ := hrel
    by_cases hla : a < xs.length
    · have hLl : L.length = a := by simpa using HP.out.length_eq
      obtain ⟨D, cd, rfl, hcd, hrd⟩ := HO.out.shows
      have hIl : (toI L).length = a := by simp [toI, hLl]
      have HLL := Lib.hid hLl
      have HIL := Lib.hid hIl
      rw [hIl] at hcd ⊢
      have HRD := Lib.hid hrd
      have HLT : Hid (∀ x ∈ L, x < a) := Lib.hid fun x hx => by simpa using HP.out.subset hx
      clear hrd hLl hIl
      obtain ⟨wo, hwo⟩ : ∃ wo : World, wo = wr := ⟨_, rfl⟩
      rw [← hwo] at HO HRD hB hsz ⊢
      clear hwo
      go_wp2_with fail
      go_loopw [5] (fun k wq => ∃ (b q : Nat), k = .int .i64 b ∧ b ≤ a ∧ Hid (wq = wo.drewN q) ∧ Hid (∀ p ∈ L.drop b, bhOf cmpI xs p a = true)) (fun k _ => (intOf k).toNat)
      case atStart => exact ⟨a, 0, rfl, Nat.le_refl _, Lib.hid rfl, Lib.hid (fun p hp => by rw [List.drop_of_length_le (by rw [HLL.out]; omega)] at hp; simp at hp)⟩
      case round =>
        obtain ⟨b, q, rfl, hb, HW, HD⟩ := hrel
        have hbx : ∀ p, bhOf cmpI xs p a = decide (nth xs a < nth xs p) := fun p => by unfold bhOf; simp only [cmpI_pos]
        by_cases hb0 : b = 0
        · have HST : Hid (b = 0 ∨ ∃ h : b - 1 < L.length, bhOf cmpI xs (L[b - 1]) a = false) := Lib.hid (.inl hb0)
          have d0 : decide ((0 : Int) < (b : Int)) = false := by simp [hb0]
          have d1 : decide (0 < b) = false := by simp [hb0]
          clear hb0
          have HBX := Lib.hid hbx
          clear hbx
          go_wp2_with fail
          go_quiet (fail)
          go_wp2_with fail
          clear d0 d1
          obtain ⟨W0, hW0⟩ : ∃ W0 : World, W0 = wr.drewN nq := ⟨_, rfl⟩
          rw [← hW0]
          have HB0 : Hid (Below w.heap.size w W0) := Lib.hid (by rw [hW0, HW.out]; exact bl_drewN (bl_drewN hB _) _)
          have HS0 : w.heap.size ≤ W0.heap.size := HB0.out.size
          have HR0 : Hid (ReadsI W0 .i64 D (toI L)) := Lib.hid (by rw [hW0, HW.out]; exact HRD.out)
          have s1 := run_upto (P := Try.prog) (T := 22) Try.underlying22 size_int D a cd b (by omega)
          obtain ⟨A2, s2, hA2⟩ := run_from (P := Try.prog) (T := 22) Try.underlying22 size_int D a cd b hb hcd
          have HA2 := Lib.hid hA2
          clear hW0 HW hA2 hB hsz HRD
          have hTl : (toI L).length = a := HIL.out
          have hNl : (((toI L).take b).map (Value.int .i64)).length = b * 1 := by rw [List.length_map, List.length_take, HIL.out]; omega
          have hNd : (((toI L).drop b).map (Value.int .i64)).length = (a - b) * 1 := by rw [List.length_map, List.length_drop, HIL.out]; omega
          have HNL := Lib.hid hNl
          have HND := Lib.hid hNd
          clear hTl hNl hNd
          go_region_law (first
            | (refine step_append_own rfl (.tmp 33) (.tmp 36) 22 rfl W0.heap.size 3 (.int .i64 0) 1 8 Try.underlying22 info_int rfl (by decide) (.slice (some ⟨W0.heap.size, 0, none⟩) 0 0) 0 [] rfl (by first | exact own_empty W0.drew W0.heap.size _ (Nat.le_refl _) | exact (own_empty W0.drew W0.heap.size _ (Nat.le_refl _)).alloc _) D b cd (((toI L).take b).map (Value.int .i64)) rfl HNL.out (ReadsI.lays (ReadsI.below HR0.out (by first | exact bl_drew (bl_alloc (Below.refl _ _) _) | exact bl_drew (bl_alloc (bl_alloc (Below.refl _ _) _) _))) b) (by intro u hu; simp only [List.mem_map] at hu; obtain ⟨x, _, rfl⟩ := hu; rfl) (by simp only [maxLen]; omega) (by omega) (by first | (simp; done) | (simp; omega)) ?_
               intro v1 w1 hown1 hg1
               have hB1 : Below W0.heap.size W0 w1 := bl_grown (by first | exact bl_drew (bl_alloc (Below.refl _ _) _) | exact bl_drew (bl_alloc (bl_alloc (Below.refl _ _) _) _)) hg1 (fun k hk => by simp only [Value.ownBlock, Option.some.injEq] at hk; omega)
               first | (have hlit : Lays w1 (some ⟨W0.heap.size + 1, 0, none⟩) [Value.int .i64 (a : Int)] := Lays.far (W := ((W0.alloc (.cells #[] 3)).alloc (.cells #[.int .i64 (a : Int)] 3)).drew) (by have h := lays_one (W0.alloc (.cells #[] 3)) 3 (Value.int .i64 (a : Int)); rw [show (W0.alloc (.cells #[] 3)).heap.size = W0.heap.size + 1 by simp] at h; exact h) hg1 (by simp [Value.ownBlock])) | skip)
            | (refine step_append_own rfl (.tmp 33) (.tmp 36) 22 rfl W0.heap.size 3 (.int .i64 0) 1 8 Try.underlying22 info_int rfl (by decide) (.slice (some ⟨W0.heap.size + 1, 0, none⟩) 0 0) 0 [] rfl (by have h := own_empty (W0.drew.alloc (.cells #[.int .i64 (a : Int)] 3)) W0.heap.size 3 (by simp); rw [show (W0.drew.alloc (.cells #[.int .i64 (a : Int)] 3)).heap.size = W0.heap.size + 1 by simp] at h; exact h) D b cd (((toI L).take b).map (Value.int .i64)) rfl HNL.out (ReadsI.lays (ReadsI.below HR0.out (by first | exact bl_drew (bl_alloc (Below.refl _ _) _) | exact bl_drew (bl_alloc (bl_alloc (Below.refl _ _) _) _))) b) (by intro u hu; simp only [List.mem_map] at hu; obtain ⟨x, _, rfl⟩ := hu; rfl) (by simp only [maxLen]; omega) (by omega) (by first | (simp; done) | (simp; omega)) ?_
               intro v1 w1 hown1 hg1
               have hB1 : Below W0.heap.size W0 w1 := bl_grown (by first | exact bl_drew (bl_alloc (Below.refl _ _) _) | exact bl_drew (bl_alloc (bl_alloc (Below.refl _ _) _) _)) hg1 (fun k hk => by simp only [Value.ownBlock, Option.some.injEq] at hk; omega)
               have hlit : Lays w1 (some ⟨W0.heap.size, 0, none⟩) [Value.int .i64 (a : Int)] := Lays.far (W := ((W0.alloc (.cells #[.int .i64 (a : Int)] 3)).alloc (.cells #[] 3)).drew) (Lays.below (lays_one W0 3 (Value.int .i64 (a : Int))) (bl_drew (bl_alloc (Below.refl _ _) _))) hg1 (by simp [Value.ownBlock]))
            | (refine step_append_own rfl (.tmp 37) (.tmp 39) 22 rfl W0.heap.size 3 (.int .i64 0) 1 8 Try.underlying22 info_int rfl (by decide) _ (0 + b) _ rfl (by first | exact hown1 | exact hown1.alloc _) _ 1 1 [Value.int .i64 (a : Int)] rfl rfl (by first | exact hlit | exact lays_one w1 _ _) (by intro u hu; simp only [List.mem_singleton] at hu; subst hu; rfl) (by simp only [maxLen]; omega) (by omega) (by first | exact hB1.size | exact (bl_alloc hB1 _).size) ?_
               intro v2 w2 hown2 hg2
               have hB2 : Below W0.heap.size W0 w2 := bl_grown (by first | exact hB1 | exact bl_alloc hB1 _) hg2 (fun k hk => (own_lt hown1 k hk).1))
            | (refine step_append_own rfl (.tmp 40) (.tmp 43) 22 rfl W0.heap.size 3 (.int .i64 0) 1 8 Try.underlying22 info_int rfl (by decide) _ (0 + b + 1) _ rfl hown2 A2 (a - b) (cd - b) (((toI L).drop b).map (Value.int .i64)) rfl HND.out (ReadsI.lays_from (ReadsI.below HR0.out hB2) b cd (by rw [HIL.out]; exact hcd) HA2.out) (by intro u hu; simp only [List.mem_map] at hu; obtain ⟨x, _, rfl⟩ := hu; rfl) (by simp only [maxLen]; omega) (by omega) hB2.size ?_
               intro v3 w3 hown3 hg3
               have hB3 : Below W0.heap.size W0 w3 := bl_grown hB2 hg3 (fun k hk => (own_lt hown2 k hk).1)))
          all_goals
            go_wp2_with fail
            go_roundw
            case measure => first | (simp [intOf]; done) | (simp [intOf]; omega)
            case rel =>
              refine ⟨a + 1, L.take b ++ a :: L.drop b, by go_num, by omega, Lib.hid ?_, Lib.hid ?_, Lib.hid ?_, bl_then HB0.out hB3, Nat.le_trans HS0 hB3.size⟩
              · have h := hown3.mono HS0
                unfold OwnI
                have e1 : (toI (L.take b ++ a :: L.drop b)).length = 0 + b + 1 + (a - b) := by have := HLL.out; simp [toI]; omega
                rw [e1]
                have e2 : (toI (L.take b ++ a :: L.drop b)).map (Value.int .i64) = [] ++ ((toI L).take b).map (Value.int .i64) ++ [Value.int .i64 (a : Int)] ++ ((toI L).drop b).map (Value.int .i64) := by
                  unfold toI; rw [ins_map]; simp
                rw [e2]
                exact h
              · refine (ins_perm L a b).trans ?_
                rw [List.range_succ]
                exact HP.out.append_right _
              · exact ins_ok (cmpI_weak xs) L a b HS.out HLT.out (by rw [HLL.out]; exact hb) HD.out HST.out
        · obtain ⟨j, rfl⟩ : ∃ j, b = j + 1 := ⟨b - 1, by omega⟩
          have hjl : j < L.length := by rw [HLL.out]; omega
          have hpx : nth L j < xs.length := by have := HLT.out _ (nth_mem L j hjl); omega
          obtain ⟨db, doff, he, hd1⟩ := HRD.out j (by rw [HIL.out]; omega)
          obtain ⟨xb, xoff, hxe, hx1⟩ := HX.out.below hB a hla
          obtain ⟨xb', xoff', hxe', hx2⟩ := HX.out.below hB (nth L j) hpx
          rw [hxe] at hxe'
          injection hxe' with hxe'
          injection hxe' with e3 e4
          subst e3
          subst e4
          subst he
          subst hxe
          rw [nth_map (fun (y : Nat) => (y : Int)) L j hjl] at hd1
          have g1 : wr.cell? ⟨db, doff + j, none⟩ = some (.int .i64 (nth L j : Nat)) := by rw [HW.out]; exact hd1
          have g2 : wr.cell? ⟨xb, xoff + a, none⟩ = some (.int .i64 (nth xs a)) := by rw [HW.out]; exact hx1
          have g3 : wr.cell? ⟨xb, xoff + nth L j, none⟩ = some (.int .i64 (nth xs (nth L j))) := by rw [HW.out]; exact hx2
          have HDN : Hid (nth xs a < nth xs (nth L j) → ∀ p ∈ L.drop j, bhOf cmpI xs p a = true) := Lib.hid fun h p hp => by
            rw [List.drop_eq_getElem_cons hjl] at hp
            rcases List.mem_cons.1 hp with rfl | hp
            · rw [hbx]; rw [← nth_eq L j hjl]; simpa using h
            · exact HD.out p hp
          have HSN : Hid (¬ nth xs a < nth xs (nth L j) → (j + 1 = 0 ∨ ∃ h : j + 1 - 1 < L.length, bhOf cmpI xs (L[j + 1 - 1]) a = false)) := Lib.hid fun h => .inr ⟨by simpa using hjl, by
            rw [hbx]; simp only [Nat.add_sub_cancel]; rw [← nth_eq L j hjl]; simpa using h⟩
          have HBX := Lib.hid hbx
          clear hbx hd1 hx1 hx2 hjl hb0
          generalize hq : nth L j = p at *
          have HQ := Lib.hid hq
          clear hq
          generalize nth xs p = x at *
          generalize nth xs a = y at *
          by_cases hyx : y < x
          · go_wp2_with fail
            go_quiet (fail)
            go_wp2_with fail
            go_roundw
            case measure => first | (simp [intOf]; done) | (simp [intOf]; omega)
            case rel => exact ⟨j, q + nq, by go_num, by omega, Lib.hid (by rw [HW.out, World.drewN_drewN]), Lib.hid (HDN.out hyx)⟩
          · have HST := Lib.hid (HSN.out hyx)
            have d1 : decide (y < x) = false := by simpa using hyx
            clear HSN HDN HBX
            go_wp2_with fail
            go_quiet (fail)
            go_wp2_with fail
            clear d1 g1 g2 g3 hyx
            rw [show ((j : Int) + 1) = ((j + 1 : Nat) : Int) from rfl]
            obtain ⟨D', hD'⟩ : ∃ D' : Option Addr, D' = some ⟨db, doff, none⟩ := ⟨_, rfl⟩
            obtain ⟨b, hbj⟩ : ∃ b, b = j + 1 := ⟨_, rfl⟩
            rw [← hbj] at HST HD hb ⊢
            clear hbj
            rw [← hD'] at HRD ⊢
            clear hD'
            obtain ⟨D, hDD⟩ : ∃ D : Option Addr, D = D' := ⟨_, rfl⟩
            rw [← hDD] at HRD ⊢
            clear hDD
            have hla : a < xs.length := by omega
            obtain ⟨W0, hW0⟩ : ∃ W0 : World, W0 = wr.drewN nq := ⟨_, rfl⟩
            rw [← hW0]
            have HB0 : Hid (Below w.heap.size w W0) := Lib.hid (by rw [hW0, HW.out]; exact bl_drewN (bl_drewN hB _) _)
            have HS0 : w.heap.size ≤ W0.heap.size := HB0.out.size
            have HR0 : Hid (ReadsI W0 .i64 D (toI L)) := Lib.hid (by rw [hW0, HW.out]; exact HRD.out)
            have s1 := run_upto (P := Try.prog) (T := 22) Try.underlying22 size_int D a cd b (by omega)
            obtain ⟨A2, s2, hA2⟩ := run_from (P := Try.prog) (T := 22) Try.underlying22 size_int D a cd b hb hcd
            have HA2 := Lib.hid hA2
            clear hW0 HW hA2 hB hsz HRD
            have hTl : (toI L).length = a := HIL.out
            have hNl : (((toI L).take b).map (Value.int .i64)).length = b * 1 := by rw [List.length_map, List.length_take, HIL.out]; omega
            have hNd : (((toI L).drop b).map (Value.int .i64)).length = (a - b) * 1 := by rw [List.length_map, List.length_drop, HIL.out]; omega
            have HNL := Lib.hid hNl
            have HND := Lib.hid hNd
            clear hTl hNl hNd
            go_region_law (first
              | (refine step_append_own rfl (.tmp 33) (.tmp 36) 22 rfl W0.heap.size 3 (.int .i64 0) 1 8 Try.underlying22 info_int rfl (by decide) (.slice (some ⟨W0.heap.size, 0, none⟩) 0 0) 0 [] rfl (by first | exact own_empty W0.drew W0.heap.size _ (Nat.le_refl _) | exact (own_empty W0.drew W0.heap.size _ (Nat.le_refl _)).alloc _) D b cd (((toI L).take b).map (Value.int .i64)) rfl HNL.out (ReadsI.lays (ReadsI.below HR0.out (by first | exact bl_drew (bl_alloc (Below.refl _ _) _) | exact bl_drew (bl_alloc (bl_alloc (Below.refl _ _) _) _))) b) (by intro u hu; simp only [List.mem_map] at hu; obtain ⟨x, _, rfl⟩ := hu; rfl) (by simp only [maxLen]; omega) (by omega) (by first | (simp; done) | (simp; omega)) ?_
                 intro v1 w1 hown1 hg1
                 have hB1 : Below W0.heap.size W0 w1 := bl_grown (by first | exact bl_drew (bl_alloc (Below.refl _ _) _) | exact bl_drew (bl_alloc (bl_alloc (Below.refl _ _) _) _)) hg1 (fun k hk => by simp only [Value.ownBlock, Option.some.injEq] at hk; omega)
                 first | (have hlit : Lays w1 (some ⟨W0.heap.size + 1, 0, none⟩) [Value.int .i64 (a : Int)] := Lays.far (W := ((W0.alloc (.cells #[] 3)).alloc (.cells #[.int .i64 (a : Int)] 3)).drew) (by have h := lays_one (W0.alloc (.cells #[] 3)) 3 (Value.int .i64 (a : Int)); rw [show (W0.alloc (.cells #[] 3)).heap.size = W0.heap.size + 1 by simp] at h; exact h) hg1 (by simp [Value.ownBlock])) | skip)
              | (refine step_append_own rfl (.tmp 33) (.tmp 36) 22 rfl W0.heap.size 3 (.int .i64 0) 1 8 Try.underlying22 info_int rfl (by decide) (.slice (some ⟨W0.heap.size + 1, 0, none⟩) 0 0) 0 [] rfl (by have h := own_empty (W0.drew.alloc (.cells #[.int .i64 (a : Int)] 3)) W0.heap.size 3 (by simp); rw [show (W0.drew.alloc (.cells #[.int .i64 (a : Int)] 3)).heap.size = W0.heap.size + 1 by simp] at h; exact h) D b cd (((toI L).take b).map (Value.int .i64)) rfl HNL.out (ReadsI.lays (ReadsI.below HR0.out (by first | exact bl_drew (bl_alloc (Below.refl _ _) _) | exact bl_drew (bl_alloc (bl_alloc (Below.refl _ _) _) _))) b) (by intro u hu; simp only [List.mem_map] at hu; obtain ⟨x, _, rfl⟩ := hu; rfl) (by simp only [maxLen]; omega) (by omega) (by first | (simp; done) | (simp; omega)) ?_
                 intro v1 w1 hown1 hg1
                 have hB1 : Below W0.heap.size W0 w1 := bl_grown (by first | exact bl_drew (bl_alloc (Below.refl _ _) _) | exact bl_drew (bl_alloc (bl_alloc (Below.refl _ _) _) _)) hg1 (fun k hk => by simp only [Value.ownBlock, Option.some.injEq] at hk; omega)
                 have hlit : Lays w1 (some ⟨W0.heap.size, 0, none⟩) [Value.int .i64 (a : Int)] := Lays.far (W := ((W0.alloc (.cells #[.int .i64 (a : Int)] 3)).alloc (.cells #[] 3)).drew) (Lays.below (lays_one W0 3 (Value.int .i64 (a : Int))) (bl_drew (bl_alloc (Below.refl _ _) _))) hg1 (by simp [Value.ownBlock]))
              | (refine step_append_own rfl (.tmp 37) (.tmp 39) 22 rfl W0.heap.size 3 (.int .i64 0) 1 8 Try.underlying22 info_int rfl (by decide) _ (0 + b) _ rfl (by first | exact hown1 | exact hown1.alloc _) _ 1 1 [Value.int .i64 (a : Int)] rfl rfl (by first | exact hlit | exact lays_one w1 _ _) (by intro u hu; simp only [List.mem_singleton] at hu; subst hu; rfl) (by simp only [maxLen]; omega) (by omega) (by first | exact hB1.size | exact (bl_alloc hB1 _).size) ?_
                 intro v2 w2 hown2 hg2
                 have hB2 : Below W0.heap.size W0 w2 := bl_grown (by first | exact hB1 | exact bl_alloc hB1 _) hg2 (fun k hk => (own_lt hown1 k hk).1))
              | (refine step_append_own rfl (.tmp 40) (.tmp 43) 22 rfl W0.heap.size 3 (.int .i64 0) 1 8 Try.underlying22 info_int rfl (by decide) _ (0 + b + 1) _ rfl hown2 A2 (a - b) (cd - b) (((toI L).drop b).map (Value.int .i64)) rfl HND.out (ReadsI.lays_from (ReadsI.below HR0.out hB2) b cd (by rw [HIL.out]; exact hcd) HA2.out) (by intro u hu; simp only [List.mem_map] at hu; obtain ⟨x, _, rfl⟩ := hu; rfl) (by simp only [maxLen]; omega) (by omega) hB2.size ?_
                 intro v3 w3 hown3 hg3
                 have hB3 : Below W0.heap.size W0 w3 := bl_grown hB2 hg3 (fun k hk => (own_lt hown2 k hk).1)))
            all_goals
              go_wp2_with fail
              go_roundw
              case measure => first | (simp [intOf]; done) | (simp [intOf]; omega)
              case rel =>
                refine ⟨a + 1, L.take b ++ a :: L.drop b, by go_num, by omega, Lib.hid ?_, Lib.hid ?_, Lib.hid ?_, bl_then HB0.out hB3, Nat.le_trans HS0 hB3.size⟩
                · have h := hown3.mono HS0
                  unfold OwnI
                  have e1 : (toI (L.take b ++ a :: L.drop b)).length = 0 + b + 1 + (a - b) := by have := HLL.out; simp [toI]; omega
                  rw [e1]
                  have e2 : (toI (L.take b ++ a :: L.drop b)).map (Value.int .i64) = [] ++ ((toI L).take b).map (Value.int .i64) ++ [Value.int .i64 (a : Int)] ++ ((toI L).drop b).map (Value.int .i64) := by
                    unfold toI; rw [ins_map]; simp
                  rw [e2]
                  exact h
                · refine (ins_perm L a b).trans ?_
                  rw [List.range_succ]
                  exact HP.out.append_right _
                · exact ins_ok (cmpI_weak xs) L a b HS.out HLT.out (by rw [HLL.out]; exact hb) HD.out HST.out
    · go_wp2_with fail
      go_ret
      obtain rfl : a = xs.length := by omega
      exact ⟨⟨u3, L, rfl, HO.out.shows, HP.out, HS.out⟩, hB⟩
end Go.Proofs.Yteppcfikalonbaa.Ord
