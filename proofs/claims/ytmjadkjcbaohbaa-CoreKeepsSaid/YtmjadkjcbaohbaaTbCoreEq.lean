/- Lemmas and walks that the proof of this claim uses: TbCoreEq. -/
import Derived.Test.YtmjadkjcbaohbaaTbCoreMath4
namespace Go.Core
open Go.Tb

theorem layersE_two {c : Core} {a b : Int} (hv : validate c = 0) : layersE c [a, b] = if within a 0 (c.layers - 1) = true ∧ within b 0 (c.layers - 1) = true then 0 else 4 := by
  unfold layersE
  rw [if_pos hv]
  by_cases h1 : within a 0 (c.layers - 1) = true <;> by_cases h2 : within b 0 (c.layers - 1) = true <;> simp [h1, h2]
theorem layersE_bad {c : Core} {l : List Int} (hv : ¬ validate c = 0) : layersE c l = validate c := by unfold layersE; rw [if_neg hv]
theorem layered_bad {c : Core} {a b : Int} (hv : ¬ validate c = 0) : layered c a b = validate c := by unfold layered; rw [if_neg hv]
theorem layered_two {c : Core} {a b : Int} (hv : validate c = 0) : layered c a b = if within a 0 (c.layers - 1) = true ∧ within b 0 (c.layers - 1) = true then (if clashes c = true then 10 else 0) else 4 := by
  unfold layered
  rw [if_pos hv, clash_iff hv]
/-- The ways that both take. -/
theorem both_ways {c : Core} {a b : Int} : (¬ validate c = 0 ∧ layersE c [a, b] = validate c ∧ layered c a b = validate c) ∨
    (validate c = 0 ∧ ¬ (within a 0 (c.layers - 1) = true ∧ within b 0 (c.layers - 1) = true) ∧ layersE c [a, b] = 4 ∧ layered c a b = 4) ∨
    (validate c = 0 ∧ (within a 0 (c.layers - 1) = true ∧ within b 0 (c.layers - 1) = true) ∧ layersE c [a, b] = 0 ∧ clashes c = true ∧ layered c a b = 10) ∨
    (validate c = 0 ∧ (within a 0 (c.layers - 1) = true ∧ within b 0 (c.layers - 1) = true) ∧ layersE c [a, b] = 0 ∧ clashes c = false ∧ layered c a b = 0 ∧ a.toNat < c.layers.toNat ∧ b.toNat < c.layers.toNat) := by
  by_cases hv : validate c = 0
  · by_cases hw : within a 0 (c.layers - 1) = true ∧ within b 0 (c.layers - 1) = true
    · cases hc : clashes c
      · refine .inr (.inr (.inr ⟨hv, hw, by rw [layersE_two hv, if_pos hw], rfl, by rw [layered_two hv, if_pos hw, hc]; rfl, ?_⟩))
        have h1 := within_iff.1 hw.1
        have h2 := within_iff.1 hw.2
        omega
      · exact .inr (.inr (.inl ⟨hv, hw, by rw [layersE_two hv, if_pos hw], rfl, by rw [layered_two hv, if_pos hw, hc]; rfl⟩))
    · exact .inr (.inl ⟨hv, hw, by rw [layersE_two hv, if_neg hw], by rw [layered_two hv, if_neg hw]⟩)
  · exact .inl ⟨hv, layersE_bad hv, layered_bad hv⟩
theorem math_tightest (c : Core) (a b : Int) : tightest c a b = rtightest c a b := by
  unfold tightest rtightest
  rcases both_ways (c := c) (a := a) (b := b) with ⟨hv, h1, h2⟩ | ⟨hv, _, h1, h2⟩ | ⟨hv, _, h1, hc, h2⟩ | ⟨hv, _, h1, hc, h2, ha, hb⟩
  · rw [h1, h2, if_neg hv, if_neg hv]
  · rw [h1, h2]; simp
  · rw [h1, h2]; simp [hc]
  · obtain ⟨k1, k2⟩ := table_wN hv hc ha hb
    rw [h1, h2, gb_kn, gi_sm, ← k1]
    simp only [hc]
    by_cases hk : (mg (table c) a.toNat b.toNat).known = true
    · simp [hk, k2 hk]
    · simp [hk]
theorem math_fixed (c : Core) (a b : Int) : fixed c a b = rfixed c a b := by
  unfold fixed rfixed fixedM
  rcases both_ways (c := c) (a := a) (b := b) with ⟨hv, h1, h2⟩ | ⟨hv, _, h1, h2⟩ | ⟨hv, _, h1, hc, h2⟩ | ⟨hv, _, h1, hc, h2, ha, hb⟩
  · rw [h1, h2, if_neg hv, if_neg hv]
  · rw [h1, h2]; simp
  · rw [h1, h2]; simp [hc]
  · obtain ⟨k1, k2⟩ := table_wN hv hc ha hb
    obtain ⟨k3, k4⟩ := table_wN hv hc hb ha
    rw [h1, h2, gb_kn, gi_sm, gb_kn, gi_sm, ← k1, ← k3]
    simp only [hc]
    by_cases hk : (mg (table c) a.toNat b.toNat).known = true
    · by_cases hk' : (mg (table c) b.toNat a.toNat).known = true
      · simp [hk, hk', k2 hk, k4 hk']
      · simp [hk']
    · simp [hk]
theorem right_within {x : Bound} {n : Int} (h : right x n = true) : within x.a 0 (n - 1) = true ∧ within x.b 0 (n - 1) = true := by
  simp only [right, Bool.and_eq_true] at h
  exact ⟨h.1.1.1, h.1.1.2⟩
theorem math_follows (c : Core) (x : Bound) : follows c x = rfollows c x := by
  have hT := math_tightest c x.a x.b
  unfold follows rfollows
  rcases both_ways (c := c) (a := x.a) (b := x.b) with ⟨hv, h1, h2⟩ | ⟨hv, hw, h1, h2⟩ | ⟨hv, hw, h1, hc, h2⟩ | ⟨hv, hw, h1, hc, h2, ha, hb⟩
  · rw [h1, if_neg hv, if_neg hv]
  · rw [h1, if_neg hw, if_pos hv]; simp
  · rw [h1, if_pos hw, if_pos hv, ← hT]
    unfold tightest
    rw [h1]
    simp [hc]
  · rw [h1, if_pos hw, if_pos hv, ← hT]
    unfold tightest followsM
    rw [h1]
    simp only [hc]
    by_cases hk : (mg (table c) x.a.toNat x.b.toNat).known = true
    · simp [hk]
    · simp [hk]
/-- Two layers. -/
structure Two where
  a : Int
  b : Int
/-- The document's own example. -/
def exC : Core := ⟨3, [⟨0, 1, 10⟩, ⟨1, 2, 5⟩, ⟨0, 2, 20⟩]⟩
theorem ex_tight : tightest exC 0 2 = (15, true, 0) := by decide +kernel
end Go.Core
