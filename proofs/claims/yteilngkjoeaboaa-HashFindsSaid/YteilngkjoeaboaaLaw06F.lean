/- The walk of HashFinds. -/
import Derived.Test.YteilngkjoeaboaaLaw06M
import Derived.Test.YteilngkjoeaboaaLaw06L
namespace Go.Proofs.Yteilngkjoeaboaa.Hs
open Go.RowKit Go.Proofs.Yteilngkjoeaboaa.Lb
set_option linter.unusedVariables false
set_option linter.unusedSimpArgs false

theorem info_rlab : (Try.prog.info? 24).map (fun i => (i.zero, i.size, i.bytes)) = some (some (.agg #[.int .u8 0, .int .i64 0, .string ⟨#[]⟩]), 3, 32) := by kernel_rfl
theorem HasTab.nodup {B : Nat} {w : World} {T : Nat} {L : List Lab} (h : HasTab B w T L) : L.Nodup ∧ L.length ≤ 4096 := by
  obtain ⟨S, LA, lc, sb, h⟩ := h
  exact ⟨h.inv.nodup, h.few⟩
theorem roomT_calls (B T : Nat) (L : List Lab) (w : World) (ht : HasTab B w T L) :
    Calls Try.prog 13 #[.pointer (some ⟨T, 0, none⟩)] w fun e w' => (∃ m : Nat, e = .returned (.int .i64 m) ∧ 3 * L.length < 2 * m ∧ m ≤ 12288) ∧ w = w' := by
  obtain ⟨S, LA, lc, sb, ht⟩ := ht
  refine (room_calls T L S LA lc sb S.length w ht.tab.read).mono ?_
  rintro e w' ⟨rfl, rfl⟩
  refine ⟨⟨S.length, rfl, ht.room, ?_⟩, rfl⟩
  have := ht.least
  have := ht.few
  omega
theorem own_own_ne {w : World} {base base' : Nat} {e e' : TypeId} {size size' n n' : Nat} {v v' : Value} {xs xs' : List Value} (h : w.ownsRow base e size v n xs) (h' : w.ownsRow base' e' size' v' n' xs') (hne : e ≠ e') : v.ownBlock = none ∨ v.ownBlock ≠ v'.ownBlock := by
  rcases h.2 with ⟨rfl, _⟩ | ⟨g, cap, cur, rfl, _, hh, _⟩
  · exact .inl rfl
  · exact .inr (fun e => own_row_ne h' (t := _) (cs := cur) hh (Ne.symm hne) e)
theorem HasTab.grown {B : Nat} {w w' : World} {T : Nat} {L : List Lab} (h : HasTab B w T L) {base size n : Nat} {v : Value} {xs : List Value} (ho : w.ownsRow base 24 size v n xs) (hg : w.grownBy w' v.ownBlock) : HasTab B w' T L := by
  obtain ⟨S, LA, lc, sb, h⟩ := h
  exact ⟨S, LA, lc, sb, ⟨h.tab.hT.grown hg (own_row_ne ho h.tab.hT (by decide)), h.tab.hs.grown hg (own_row_ne ho h.tab.hs (by decide)), h.tab.ho.kept hg (own_own_ne h.tab.ho ho (by decide)), h.tab.b1, h.tab.b2⟩, h.inv, h.ok, h.room, h.eight, h.least, h.few⟩
theorem addE_zero {L : List Lab} {a : Lab} (h : addE L a = 0) : addL L a = L ++ [a] ∧ addN L a = (L.length : Nat) := ⟨by unfold addL; rw [if_pos h], by unfold addN; rw [if_pos h]⟩
theorem addE_non {L : List Lab} {a : Lab} (h : addE L a ≠ 0) : addL L a = L := by unfold addL; rw [if_neg h]

theorem take_one (L : List Lab) (i : Nat) (h : i < L.length) (o : Lab) : decide (o ∈ L.take (i + 1)) = (decide (o ∈ L.take i) || decide (nth L i = o)) := by
  have e : (o ∈ L.take (i + 1)) = (o ∈ L.take i ∨ L[i] = o) := by
    rw [List.take_succ_eq_append_getElem h, List.mem_append, List.mem_singleton]
    exact propext ⟨fun k => k.imp_right Eq.symm, fun k => k.imp_right Eq.symm⟩
  rw [nth_eq _ _ h]
  simp only [e, Bool.decide_or]
theorem own_shape {w : World} {base : Nat} {e : TypeId} {size n : Nat} {v : Value} {xs : List Value} (h : w.ownsRow base e size v n xs) : ∃ A c, v = .slice A n c := by
  rcases h.2 with ⟨rfl, h0⟩ | ⟨g, cap, cur, rfl, _⟩
  · have h1 := h.1
    exact ⟨none, 0, by subst h0; rfl⟩
  · exact ⟨_, _, rfl⟩

theorem run_len' (P : Program) (t ty e : TypeId) (ht : P.underlying t = some (.slice e)) (v : Value) (A : Option Addr) (n c : Nat) (h : v = .slice A n c) (w : World) : (Builtin.len_ #[t] ty #[v]).run P w = .ok (.int .i64 (n : Nat)) w := by
  subst h
  simp [Builtin.len_, Builtin.lenOf, run_underlying ht, goInt]
set_option maxRecDepth 100000 in
set_option maxHeartbeats 4000000 in
theorem hashFinds_walk (xs : List Lab) (A : Option Addr) (c : Nat) (o : Lab) (w : World) (hx : Shows w A (xs.flatMap Lab.cs)) (hl : xs.length ≤ 9223372036854775807) (hok : lightB xs = true → ∀ x ∈ xs, x.Ok) (hoo : o.s.size ≤ 300 → o.Ok) :
    Calls Try.prog 3 #[.slice A xs.length c, o.v] w fun e w' => e = .returned (.bool true) ∧ Below w.heap.size w w' := by
  have HX := Lib.hid hx
  have HLI := Lib.hid (fun w h => light_calls xs A c w h hl)
  have hv : o.v = .agg #[.int .u8 o.k, .int .i64 o.n, .string o.s] := rfl
  have HBX := Lib.hid (Blk.new w 24 #[.int .u8 o.k, .int .i64 o.n, .string o.s])
  have HB0 := Lib.hid (bl_alloc (Below.refl w.heap.size w) (.cells #[.int .u8 o.k, .int .i64 o.n, .string o.s] 24))
  have HX0 := Lib.hid (hx.below (bl_alloc (Below.refl w.heap.size w) (.cells #[.int .u8 o.k, .int .i64 o.n, .string o.s] 24)))
  rw [hv]
  clear hx hv
  cases hli : lightB xs with
  | false =>
    rw [hli] at HLI
    clear hok hoo hli
    go_enter Try.func3, Try.ntmps3
    go_wp2_with fail
    refine (HLI.out _ HX0.out).mono ?_
    rintro e w1 ⟨rfl, rfl⟩
    go_wp2_with fail
    refine (knows_calls _).mono ?_
    rintro e w1 ⟨rfl, hB⟩
    go_wp2_with fail
    go_ret
    exact ⟨rfl, bl_then HB0.out hB⟩
  | true =>
  rw [hli] at HLI
  by_cases h300 : 300 < o.s.size
  · clear hok hoo hli
    have c2 := HBX.out.cell 2
    go_enter Try.func3, Try.ntmps3
    go_wp2_with fail
    refine (HLI.out _ HX0.out).mono ?_
    rintro e w1 ⟨rfl, rfl⟩
    go_wp2_with fail
    refine (knows_calls _).mono ?_
    rintro e w1 ⟨rfl, hB⟩
    go_wp2_with fail
    go_ret
    exact ⟨rfl, bl_then HB0.out hB⟩
  have HOK := Lib.hid (hok hli)
  have HOO := Lib.hid (hoo (by omega))
  have hl4 := (lightB_mem hli).1
  clear hok hoo hli hl
  have c2 := HBX.out.cell 2
  go_enter Try.func3, Try.ntmps3
  go_wp2_with fail
  refine (HLI.out _ HX0.out).mono ?_
  rintro e w1 ⟨rfl, rfl⟩
  go_wp2_with fail
  refine (knows_calls _).mono ?_
  rintro e w1 ⟨rfl, hB1⟩
  have HB1 := Lib.hid (bl_then HB0.out hB1)
  have HBX1 := Lib.hid (HBX.out.below' hB1)
  have HX1 := Lib.hid (HX0.out.below hB1)
  clear hB1 c2 HB0 HBX HX0 HLI
  go_wp2_with fail
  refine (new_nil _).mono ?_
  rintro e w2 ⟨rfl, hT, hB2⟩
  have HB2 := Lib.hid (bl_then HB1.out hB2)
  have HBX2 := Lib.hid (HBX1.out.below' hB2)
  have HX2 := Lib.hid (HX1.out.below hB2)
  have HT := Lib.hid hT
  have hBw : w1.heap.size ≤ w2.heap.size := hB2.size
  have hw1 : w.heap.size ≤ w1.heap.size := HB1.out.size
  have hbx1 := HBX1.out.lt
  clear hT hB2
  generalize hBB : w1.heap.size = B at *
  clear hBB HB1 HBX1 HX1
  go_wp2_with fail
  refine (num_calls _ _).mono ?_
  rintro e w3 ⟨rfl, rfl⟩
  go_wp2_with fail
  -- one label after the other
  go_loopw [7, 8] (fun v i wr => ∃ (k : Nat) (L : List Lab), i = .int .i64 k ∧ k ≤ xs.length ∧ L.length ≤ k ∧ Hid (∀ x ∈ L, x ∈ xs) ∧ Hid (HasTab B wr (B + 1) L) ∧ Hid (wr.ownsRow B 24 3 v L.length (L.flatMap Lab.cs)) ∧ Below B w2 wr ∧ B ≤ wr.heap.size) (fun _ i _ => xs.length - (intOf i).toNat)
  case atStart => exact ⟨0, [], rfl, Nat.zero_le _, Nat.le_refl _, Lib.hid (fun x hx => by simp at hx), HT, Lib.hid (World.ownsRow_nil _ _ _ _), Below.refl _ _, hBw⟩
  case round =>
    obtain ⟨k, L, rfl, hk, hLk, HSUB, HT, HOW, hB, hz⟩ := hrel
    have HB := Lib.hid hB
    obtain ⟨vA, vc, hv⟩ := own_shape HOW.out
    have HV := Lib.hid hv
    clear hv
    clear hB
    by_cases hlt : k < xs.length
    · have HXk := Lib.hid (HX.out.below (HB2.out.trans (HB.out.mono hw1)))
      obtain ⟨xb, xo, rfl, g0, g1, g2⟩ := rlab_at HXk.out k hlt
      have hmem := nth_mem xs k hlt
      have hxo := HOK.out _ hmem
      obtain ⟨x, hxe⟩ : ∃ x, nth xs k = x := ⟨_, rfl⟩
      rw [hxe] at g0 g1 g2 hmem hxo
      have HXE := Lib.hid hxe
      clear hxe
      have HMEM := Lib.hid hmem
      have HADD : Hid (Calls Try.prog 10 #[.pointer (some ⟨B + 1, 0, none⟩), .agg #[.int .u8 x.k, .int .i64 x.n, .string x.s]] wr fun e w'' => e = .returned (.tuple #[.int .i64 (addN L x), .int .i64 (addE L x)]) ∧ HasTab B w'' (B + 1) (addL L x) ∧ Below B wr w'' ∧ B ≤ w''.heap.size ∧ Spares wr w'') := Lib.hid (add_calls x hxo B (B + 1) L wr HT.out hz)
      clear hmem hxo
      by_cases he : addE L x = 0
      · obtain ⟨q1, q2⟩ := addE_zero he
        rw [q1, q2, he] at HADD
        have HSU : Hid (∀ y ∈ L ++ [x], y ∈ xs) := Lib.hid fun y hy => by
          rcases List.mem_append.1 hy with hy | hy
          · exact HSUB.out y hy
          · obtain rfl : y = x := by simpa using hy
            exact HMEM.out
        clear he q1 q2
        go_wp2_with fail
        refine HADD.out.mono ?_
        rintro e w4 ⟨rfl, hT4, hB4, hz4, hsp⟩
        have HT4 := Lib.hid hT4
        have HO4 := Lib.hid (hsp.own HOW.out (by decide) (by decide) (by decide))
        have HB4 := Lib.hid (HB.out.trans hB4)
        have HX4 := Lib.hid (HX.out.below (HB2.out.trans (HB4.out.mono hw1)))
        obtain ⟨xb', xo', he', k0, k1, k2⟩ := rlab_at HX4.out k hlt
        simp only [Option.some.injEq, Addr.mk.injEq, and_true] at he'
        obtain ⟨rfl, rfl⟩ := he'
        rw [HXE.out] at k0 k1 k2
        clear g0 g1 g2 hsp hB4 hT4
        go_wp2_with fail
        refine (num_calls _ _).mono ?_
        rintro e w5 ⟨rfl, rfl⟩
        have z1 : ((L.length : Int) != (L.length : Int)) = false := by simp
        have hlen := run_len' Try.prog 22 3 _ Try.underlying22 _ vA L.length vc HV.out w4
        go_wp2_with (at_builtin; go_must (refine app_rowH (w0 := w2) w4.heap.size rfl B rfl (.tmp 60) (.tmp 65) 22 24 (.agg #[.int .u8 0, .int .i64 0, .string ⟨#[]⟩]) 3 32 rfl Try.underlying22 info_rlab rfl (by decide) u7 L.length (L.flatMap Lab.cs) #[.int .u8 x.k, .int .i64 x.n, .string x.s] rfl rfl rfl (cs_one x) HO4.out HB4.out hz4 (by omega) (by omega) ?_); intro v1 w6 hown6 hB6 hg6 hsz6)
        go_roundw
        case measure => simp [intOf]; omega
        case rel => exact ⟨k + 1, L ++ [x], by go_num, by omega, by rw [List.length_append]; show L.length + 1 ≤ k + 1; omega, HSU, Lib.hid (HT4.out.grown HO4.out hg6), Lib.hid (by rw [List.length_append, ← cs_snoc]; exact hown6), hB6, hsz6⟩
      · generalize addN L x = an at *
        rw [addE_non he] at HADD
        have z2 : (addE L x == 0) = false := by simpa using he
        generalize addE L x = E at *
        clear he
        go_wp2_with fail
        refine HADD.out.mono ?_
        rintro e w4 ⟨rfl, hT4, hB4, hz4, hsp⟩
        have HT4 := Lib.hid hT4
        have HO4 := Lib.hid (hsp.own HOW.out (by decide) (by decide) (by decide))
        have HB4 := Lib.hid (HB.out.trans hB4)
        clear hT4 hsp hB4
        go_wp2_with fail
        refine (num_calls _ _).mono ?_
        rintro e w5 ⟨rfl, rfl⟩
        go_wp2_with fail
        go_roundw
        case measure => simp [intOf]; omega
        case rel => exact ⟨k + 1, L, by go_num, by omega, by omega, HSUB, HT4, HO4, HB4.out, hz4⟩
    · have hv := HV.out
      subst hv
      have HSHOW := Lib.hid (Shows.of_own HOW.out)
      have hLs := HT.out.nodup
      have HND := Lib.hid hLs.1
      have hL4 := hLs.2
      have HOKL : Hid (∀ x ∈ L, x.Ok) := Lib.hid fun x hx => HOK.out x (HSUB.out x hx)
      have HBXk := Lib.hid (HBX2.out.below HB.out hbx1)
      have HBk := Lib.hid (HB2.out.trans (HB.out.mono hw1))
      have HFT : Hid (∀ (a : Lab), a.Ok → ∀ w, HasTab B w (B + 1) L → Calls Try.prog 11 #[.pointer (some ⟨B + 1, 0, none⟩), .agg #[.int .u8 a.k, .int .i64 a.n, .string a.s]] w fun e w' => FindPost a L e ∧ Below w.heap.size w w') := Lib.hid fun a ha w ht => findT_calls a ha B (B + 1) L w ht
      have hzk := HBXk.out.lt
      clear hLs HSUB HOK HX HOW HBX2 HB2 HB hk hLk
      go_wp2_with fail
      go_loopw [11, 12] (fun h i w3 => ∃ j : Nat, i = .int .i64 j ∧ j ≤ L.length ∧ h = .bool (decide (o ∈ L.take j)) ∧ Hid (HasTab B w3 (B + 1) L) ∧ Hid (Below wr.heap.size wr w3)) (fun _ i _ => L.length - (intOf i).toNat)
      case atStart => exact ⟨0, rfl, Nat.zero_le _, by simp, HT, Lib.hid (Below.refl _ _)⟩
      case round =>
        obtain ⟨j, rfl, hj, rfl, HT3, HB3⟩ := hrel
        by_cases hjl : j < L.length
        · have HX3 := Lib.hid (HSHOW.out.below HB3.out)
          obtain ⟨xb2, xo2, rfl, g0, g1, g2⟩ := rlab_at HX3.out j hjl
          have hmem := nth_mem L j hjl
          have hxo := HOKL.out _ hmem
          obtain ⟨x, hxe⟩ : ∃ x, nth L j = x := ⟨_, rfl⟩
          rw [hxe] at g0 g1 g2 hmem hxo
          have HXE := Lib.hid hxe
          have HMEM := Lib.hid hmem
          have HF := Lib.hid (HFT.out x hxo _ HT3.out)
          clear hmem hxo hxe
          go_wp2_with fail
          refine HF.out.mono ?_
          rintro e w4 ⟨hp, hB4⟩
          have HT4 := Lib.hid (HT3.out.below hB4)
          have HB4 := Lib.hid (bl_then HB3.out hB4)
          clear hB4
          rcases hp with ⟨i, hi, hia, rfl⟩ | ⟨hno, _⟩
          rotate_left
          · exact absurd HMEM.out hno
          obtain rfl : i = j := nth_inj HND.out hi hjl (by rw [hia, HXE.out])
          clear hi hia
          have z1 : ((i : Int) != (i : Int)) = false := by simp
          clear g0 g1 g2
          go_wp2_with fail
          have HX4 := Lib.hid (HSHOW.out.below HB4.out)
          obtain ⟨xb', xo', he', k0, k1, k2⟩ := rlab_at HX4.out i hjl
          simp only [Option.some.injEq, Addr.mk.injEq, and_true] at he'
          obtain ⟨rfl, rfl⟩ := he'
          rw [HXE.out] at k0 k1 k2
          have HBX4 := Lib.hid (HBXk.out.below' HB4.out)
          have b0 := HBX4.out.cell 0
          have b1 := HBX4.out.cell 1
          have b2 := HBX4.out.cell 2
          have hgu := guard_rlab
          have htake := Lib.hid (take_one L i hjl o)
          rw [HXE.out] at htake
          obtain ⟨hb, hbe⟩ : ∃ hb, decide (o ∈ L.take i) = hb := ⟨_, rfl⟩
          rw [hbe] at htake ⊢
          clear hbe
          cases hb
          · have heq := fun w => eql_rlab x o w
            simp only [Lab.v] at heq
            go_quiet (fail)
            go_wp2_with fail
            go_roundw
            case measure => simp [intOf]; omega
            case rel => exact ⟨i + 1, by go_num, by omega, by rw [htake.out]; simp, Lib.hid (HT4.out.below (bl_drewN (Below.refl _ _) _)), Lib.hid (bl_drewN HB4.out _)⟩
          · go_quiet (fail)
            go_wp2_with fail
            go_roundw
            case measure => simp [intOf]; omega
            case rel => exact ⟨i + 1, by go_num, by omega, by rw [htake.out]; simp, Lib.hid (HT4.out.below (bl_drewN (Below.refl _ _) _)), Lib.hid (bl_drewN HB4.out _)⟩
        · obtain rfl : j = L.length := by omega
          have HBXn := Lib.hid (HBXk.out.below' HB3.out)
          have b0 := HBXn.out.cell 0
          have b1 := HBXn.out.cell 1
          have b2 := HBXn.out.cell 2
          have HF := Lib.hid (HFT.out o HOO.out _ HT3.out)
          have HLEN := Lib.hid (fun w h => lenT_calls B (B + 1) L w h)
          have HROOM := Lib.hid (fun w h => roomT_calls B (B + 1) L w h)
          have HH : Hid (∃ hb, decide (o ∈ L.take L.length) = hb ∧ (o ∈ L ↔ hb = true)) := Lib.hid ⟨_, rfl, by simp⟩
          obtain ⟨hb, hbe, hbi⟩ := HH.out
          rw [hbe]
          clear hbe HH
          go_wp2_with fail
          refine HF.out.mono ?_
          rintro e w4 ⟨hp, hB4⟩
          have HT4 := Lib.hid (HT3.out.below hB4)
          have HB4 := Lib.hid (bl_then HB3.out hB4)
          clear hB4
          rcases hp with ⟨i, hi, hia, rfl⟩ | ⟨hno, rfl⟩
          · have hb1 := hbi.1 (by rw [← hia]; exact nth_mem _ _ hi)
            subst hb1
            clear hbi hia
            go_wp2_with fail
            refine (HLEN.out _ HT4.out).mono ?_
            rintro e w5 ⟨rfl, rfl⟩
            go_wp2_with fail
            refine (HROOM.out _ HT4.out).mono ?_
            rintro e w5 ⟨⟨m, rfl, hm1, hm2⟩, rfl⟩
            have z3 : decide (3 * (L.length : Int) < 2 * (m : Int)) = true := by simp; omega
            go_wp2_with fail
            go_ret
            exact ⟨ret_bool (by simp), bl_then HBk.out HB4.out⟩
          · have hb1 : hb = false := by cases hb; rfl; exact absurd (hbi.2 rfl) hno
            subst hb1
            clear hbi hno
            go_wp2_with fail
            refine (HLEN.out _ HT4.out).mono ?_
            rintro e w5 ⟨rfl, rfl⟩
            go_wp2_with fail
            refine (HROOM.out _ HT4.out).mono ?_
            rintro e w5 ⟨⟨m, rfl, hm1, hm2⟩, rfl⟩
            have z3 : decide (3 * (L.length : Int) < 2 * (m : Int)) = true := by simp; omega
            go_wp2_with fail
            go_ret
            exact ⟨ret_bool (by simp), bl_then HBk.out HB4.out⟩
end Go.Proofs.Yteilngkjoeaboaa.Hs
