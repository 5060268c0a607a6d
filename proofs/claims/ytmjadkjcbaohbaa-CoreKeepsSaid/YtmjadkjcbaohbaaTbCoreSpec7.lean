/- Lemmas and walks that the proof of this claim uses: TbCoreSpec7. -/
import Derived.Test.YtmjadkjcbaohbaaTbCoreSpec6
namespace Go.Core
open Go.Tb

theorem checkDates_ok {c : Core} {l : List Int} (h : checkDates c l = 0) : validate c = 0 ∧ (l.length : Int) = c.layers ∧ (∀ n ∈ l, -1000000 ≤ n ∧ n ≤ 1000000) ∧ Pot c (fun i => l.getD i 0) := by
  unfold checkDates at h
  split at h
  · rename_i hd
    obtain ⟨hv, hl, hb⟩ := datedE_ok hd
    refine ⟨hv, hl, hb, ?_⟩
    split at h
    · rename_i hk
      intro x hx
      exact of_decide_eq_true (List.all_eq_true.1 hk x hx)
    · omega
  · rename_i hd; exact absurd h hd
theorem keeps_follows {c : Core} {l : List Int} {x : Bound} (h : checkDates c l = 0) (hf : (follows c x).2 = 0) : 0 ≤ x.a ∧ x.a < l.length ∧ 0 ≤ x.b ∧ x.b < l.length ∧ ((follows c x).1 = true → gi l x.b - gi l x.a ≤ x.most) := by
  obtain ⟨hv, hl, _, hp⟩ := checkDates_ok h
  unfold follows at hf ⊢
  split at hf
  · rename_i h1
    obtain ⟨_, q1, q2, q3, q4⟩ := layers_ok2 h1
    rw [if_pos h1]
    split at hf
    · rename_i h2
      rw [if_pos h2]
      split at hf
      · simp at hf
      · rename_i h3
        rw [if_neg h3]
        refine ⟨q1, by omega, q3, by omega, fun hk => ?_⟩
        simp only [followsM, Bool.and_eq_true, decide_eq_true_eq] at hk
        have := (tK_inv hv hp (Nat.le_refl c.layers.toNat)).pot x.a.toNat x.b.toNat (by omega) (by omega) hk.1
        have h4 : gi l x.b - gi l x.a ≤ (mg (table c) x.a.toNat x.b.toNat).most := this
        omega
    · simp at hf
  · rename_i h1; exact absurd hf h1
theorem keeps_tight {c : Core} {l : List Int} {a b : Int} (h : checkDates c l = 0) (hf : (tightest c a b).2.2 = 0) : 0 ≤ a ∧ a < l.length ∧ 0 ≤ b ∧ b < l.length ∧ ((tightest c a b).2.1 = true → gi l b - gi l a ≤ (tightest c a b).1) := by
  obtain ⟨hv, hl, _, hp⟩ := checkDates_ok h
  unfold tightest at hf ⊢
  split at hf
  · rename_i h1
    obtain ⟨_, q1, q2, q3, q4⟩ := layers_ok2 h1
    rw [if_pos h1]
    split at hf
    · simp at hf
    · rename_i h3
      rw [if_neg h3]
      refine ⟨q1, by omega, q3, by omega, fun hk => ?_⟩
      split at hk
      · rename_i h4
        rw [if_pos h4]
        exact (tK_inv hv hp (Nat.le_refl c.layers.toNat)).pot a.toNat b.toNat (by omega) (by omega) h4
      · simp at hk
  · rename_i h1; exact absurd hf h1
end Go.Core
