/- The frame's lemma for slices of structs that come in, whatever the struct. -/
import Derived.Test.YthjkeefdeeljoaaPk3
import Derived.SizedLaws
import Derived.ChangeSlices
import Derived.Deep.Slices
import Derived.Deep.Fields
import Derived.Carry
namespace Go.Proofs.Ythjkeefdeeljoaa.Frame
open Go.ChangeShapes Go.WideShapes Go.RowKit Go.Deep
section
variable {H : Type} {enc : TypeId × Value → H} {P : Program} {w : World} {base : Nat} {spare : Nat → Bool} {held : Bool}
theorem choose_below' {α : Type} [Inhabited α] {p : Nat → α → Prop} {n : Nat} (h : ∀ i, i < n → ∃ x, p i x) : ∃ f : Nat → α, ∀ i, i < n → p i (f i) :=
  ⟨fun i => if hi : i < n then Classical.choose (h i hi) else default, fun i hi => by simp only [hi, dif_pos]; exact Classical.choose_spec (h i hi)⟩
theorem open_elems {α : Type} [Inhabited α] (enc1 : α → List Value) (Wf : α → Prop) (s : Nat) (hs0 : 0 < s) (hs : ∀ a, (enc1 a).length = s) {t e : TypeId} {a : Option Addr} {len cap : Nat} {d : DataW H} {ps : List MemPlace}
    (hu : P.underlying t = some (.slice e)) (hC : P.cellsOf e = s) (dec : ∀ {fuel : Nat} {cells : List Value} {y : DataW H × List MemPlace}, DataW.trod enc P w base spare held fuel e cells = some y → ∃ x : α, cells = enc1 x ∧ Wf x)
    (h : DataW.Trod enc P w base spare held t (.slice a len cap) d ps) : ∃ xs : List α, xs.length = len ∧ len ≤ cap ∧ cap ≤ maxLen ∧ Shows w a (xs.flatMap enc1) ∧ ∀ x ∈ xs, Wf x := by
  obtain ⟨fuel, hf⟩ := h
  rcases open_slice hu hf with ⟨hcs, _⟩ | ⟨ad, l, c, m, n, D, Pl, hcs, _, hl, hm, hmm, _, hi⟩
  · simp [Value.cells] at hcs
    obtain ⟨rfl, rfl, rfl⟩ := hcs
    exact ⟨[], rfl, Nat.le_refl _, by simp [maxLen], Shows.nil _ _, fun x hx => by simp at hx⟩
  · simp [Value.cells] at hcs
    obtain ⟨rfl, rfl, rfl⟩ := hcs
    have hlm : len ≤ m := by rw [hmm]; split <;> omega
    obtain ⟨f, hfx⟩ := choose_below' (α := α) (n := len) (p := fun i x => w.cells? base (ad.add (i * s)) s = some (enc1 x) ∧ Wf x) (fun i hi' => by
      obtain ⟨cs', hc, ht⟩ := hi i (by omega)
      obtain ⟨x, rfl, hw⟩ := dec ht
      rw [hC] at hc
      exact ⟨x, hc, hw⟩)
    refine ⟨(List.range len).map f, by simp, hl, hm, ?_, fun x hx => ?_⟩
    · intro i v hv
      have hlen : ((List.range len).map f).flatMap enc1 = (List.range len).flatMap fun j => enc1 (f j) := by rw [List.flatMap_map]
      rw [hlen] at hv
      have hl3 : ∀ k, ((List.range k).flatMap fun j => enc1 (f j)).length = k * s := by
        intro k
        induction k with
        | zero => simp
        | succ k ih => rw [List.range_succ, List.flatMap_append, List.length_append, ih, Nat.succ_mul]; simp [hs]
      have key : ∀ k i v, k ≤ len → ((List.range k).flatMap fun j => enc1 (f j))[i]? = some v → ∃ j r, j < k ∧ i = j * s + r ∧ r < s ∧ (enc1 (f j))[r]? = some v := by
        intro k
        induction k with
        | zero => intro i v _ h; simp at h
        | succ k ih =>
          intro i v hk h
          rw [List.range_succ, List.flatMap_append] at h
          by_cases c : i < k * s
          · rw [List.getElem?_append_left (by rw [hl3]; exact c)] at h
            obtain ⟨j, r, h6, h7, h8, h9⟩ := ih i v (by omega) h
            exact ⟨j, r, by omega, h7, h8, h9⟩
          · rw [List.getElem?_append_right (by rw [hl3]; omega), hl3] at h
            simp only [List.flatMap_cons, List.flatMap_nil, List.append_nil] at h
            have hr : i - k * s < s := by
              have := (List.getElem?_eq_some_iff.1 h).1
              rwa [hs] at this
            exact ⟨k, i - k * s, by omega, by omega, hr, h⟩
      obtain ⟨j, r, hj, rfl, hr, hcv⟩ := key len i v (Nat.le_refl _) hv
      obtain ⟨_, _, hat⟩ := World.cells?_some (hfx j hj).1
      have hcell := hat r hr
      rw [hcv] at hcell
      have hsp : ad.spot = none := by
        obtain ⟨_, _, hat0⟩ := World.cells?_some (hfx 0 (by omega)).1
        have h0 := hat0 0 hs0
        have hex : (enc1 (f 0))[0]? = some ((enc1 (f 0))[0]'(by rw [hs]; exact hs0)) := List.getElem?_eq_getElem _
        rw [hex, Nat.zero_mul] at h0
        have e0 : (ad.add 0).add 0 = ad := by simp [Addr.add]
        rw [e0] at h0
        unfold World.cell? at h0
        split at h0
        · split at h0
          · simp at h0
          · rename_i hs'; simpa using hs'
        · simp at h0
      obtain ⟨b, off, sp⟩ := ad
      simp only at hsp
      subst hsp
      refine ⟨b, off, rfl, ?_⟩
      have e1 : ((⟨b, off, none⟩ : Addr).add (j * s)).add r = ⟨b, off + (j * s + r), none⟩ := by
        have h1 : ∀ o k, (⟨b, o, none⟩ : Addr).add k = ⟨b, o + k, none⟩ := fun o k => by unfold Addr.add; split <;> simp_all
        rw [h1, h1, Nat.add_assoc]
      rwa [e1] at hcell
    · obtain ⟨j, hj, rfl⟩ := List.mem_map.1 hx
      exact (hfx j (by simpa using hj)).2
end
end Go.Proofs.Ythjkeefdeeljoaa.Frame
