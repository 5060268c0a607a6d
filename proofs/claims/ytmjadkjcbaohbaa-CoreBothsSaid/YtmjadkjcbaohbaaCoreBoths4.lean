/- Lemmas and walks that the proof of this claim uses: D3q1. -/
import Derived.Test.YtmjadkjcbaohbaaCoreBoths3
set_option linter.unusedVariables false
set_option linter.unusedSimpArgs false
namespace Go.D3
open Go.Tb Go.Core
theorem ixz {α β : Type} {l : List α} {k : α → Option β} {x : α} (h : l[0]? = some x) : ix l 0 k = k x := ix_nat (i := 0) h
theorem ixo {α β : Type} {l : List α} {k : α → Option β} {x : α} (h : l[1]? = some x) : ix l 1 k = k x := ix_nat (i := 1) h
theorem growB_eq (n : Nat) (h : n ≤ 1000) : slices_Grow_Bound (n : Int) = some [] := by
  unfold slices_Grow_Bound slices_Grow_Bound_k1
  rw [if_neg (by omega), gd_pos (by omega), gd_pos (by omega)]
  by_cases h0 : n = 0
  · rw [if_neg (by omega)]
  · rw [if_pos (by omega), gd_pos (by omega), gd_pos (by simp)]; rfl
theorem concatB_eq (a b : List Bound) (h : a.length + b.length ≤ 1000) : slices_Concat_Bound [a, b] = some (a ++ b) := by
  unfold slices_Concat_Bound
  have e1 : ∀ k, slices_Concat_Bound_L2 [a, b] (k + 3) 0 0 = slices_Concat_Bound_k2 [a, b] ((a.length + b.length : Nat) : Int) := by
    intro k
    show slices_Concat_Bound_B2 [a, b] (slices_Concat_Bound_L2 [a, b] (k + 2)) 0 0 = _
    unfold slices_Concat_Bound_B2
    rw [if_pos (by simp), ixz (x := a) rfl, gd_pos (by omega), if_neg (by omega), gd_pos (by omega)]
    show slices_Concat_Bound_B2 [a, b] (slices_Concat_Bound_L2 [a, b] (k + 1)) _ 1 = _
    unfold slices_Concat_Bound_B2
    rw [if_pos (by simp), ixo (x := b) rfl, gd_pos (by omega), if_neg (by omega), gd_pos (by omega)]
    show slices_Concat_Bound_B2 [a, b] (slices_Concat_Bound_L2 [a, b] k) _ 2 = _
    unfold slices_Concat_Bound_B2
    rw [if_neg (by simp)]
    congr 1; omega
  have e2 : ∀ k, slices_Concat_Bound_L1 [a, b] (k + 3) 0 [] = some (a ++ b) := by
    intro k
    show slices_Concat_Bound_B1 [a, b] (slices_Concat_Bound_L1 [a, b] (k + 2)) 0 [] = _
    unfold slices_Concat_Bound_B1
    rw [if_pos (by simp), ixz (x := a) rfl, gd_pos (by simp; omega), gd_pos (by omega)]
    show slices_Concat_Bound_B1 [a, b] (slices_Concat_Bound_L1 [a, b] (k + 1)) 1 _ = _
    unfold slices_Concat_Bound_B1
    rw [if_pos (by simp), ixo (x := b) rfl, gd_pos (by simp; omega), gd_pos (by omega)]
    show slices_Concat_Bound_B1 [a, b] (slices_Concat_Bound_L1 [a, b] k) 2 _ = _
    unfold slices_Concat_Bound_B1
    rw [if_neg (by simp)]; rfl
  have f : FU = (FU - 3) + 3 := by have := FU_pos; omega
  rw [f, e1]
  unfold slices_Concat_Bound_k2
  rw [bnd_eq (growB_eq _ (by omega)), f, e2]
def twoE (c d : Core) : Int := if validate c = 0 then (if validate d = 0 then (if c.layers = d.layers then 0 else 1) else validate d) else validate c
def bothR (c d : Core) : Core × Int := if twoE c d = 0 then (if (20 : Int) < (c.bounds.length : Int) + (d.bounds.length : Int) then (⟨0, []⟩, 3) else (⟨c.layers, c.bounds ++ d.bounds⟩, 0)) else (⟨0, []⟩, twoE c d)
section
variable {c d : Core}
theorem both_eq (hc : c.bounds.length ≤ 100) (hd : d.bounds.length ≤ 100) : core_both c d = some (twoE c d) ∧ ref03_two c d = some (twoE c d) := by
  unfold core_both ref03_two twoE
  rw [bnd_eq (Validate_eq c hc), bnd_eq (rValidate_eq c hc), bnd_eq (Validate_eq d hd), bnd_eq (rValidate_eq d hd)]
  by_cases h1 : validate c = 0
  · rw [if_pos h1, if_pos h1]
    by_cases h2 : validate d = 0
    · rw [if_pos h2, if_pos h2]
      by_cases h3 : c.layers = d.layers
      · rw [if_pos h3, if_pos h3]; exact ⟨rfl, rfl⟩
      · rw [if_neg h3, if_neg h3]; exact ⟨rfl, rfl⟩
    · rw [if_neg h2, if_neg h2]; exact ⟨rfl, rfl⟩
  · rw [if_neg h1, if_neg h1]; exact ⟨rfl, rfl⟩
theorem Both_eq (hc : c.bounds.length ≤ 100) (hd : d.bounds.length ≤ 100) : core_Both c d = some (bothR c d) ∧ ref03_Both c d = some (bothR c d) := by
  obtain ⟨e1, e2⟩ := both_eq hc hd
  unfold core_Both ref03_Both bothR
  rw [bnd_eq e1, bnd_eq e2]
  by_cases h : twoE c d = 0
  · rw [if_pos h, if_pos h, if_pos h, gd_pos (by omega), gd_pos (by omega)]
    by_cases h2 : (20 : Int) < (c.bounds.length : Int) + (d.bounds.length : Int)
    · rw [if_pos h2, if_pos h2, if_pos h2]; exact ⟨rfl, rfl⟩
    · rw [if_neg h2, if_neg h2, if_neg h2, bnd_eq (concatB_eq _ _ (by omega)), bnd_eq (Copy_eq c (by omega)), gd_pos (by omega)]; exact ⟨rfl, rfl⟩
  · rw [if_neg h, if_neg h, if_neg h]; exact ⟨rfl, rfl⟩
theorem bothR_small (hc : c.bounds.length ≤ 100) (hd : d.bounds.length ≤ 100) : (bothR c d).1.bounds.length ≤ 100 := by
  unfold bothR
  split
  · split
    · simp
    · rw [List.length_append]; omega
  · simp
theorem both_ok (h : (bothR c d).2 = 0) : validate c = 0 ∧ validate d = 0 ∧ c.layers = d.layers ∧ c.bounds.length + d.bounds.length ≤ 20 ∧ (bothR c d).1 = ⟨c.layers, c.bounds ++ d.bounds⟩ := by
  unfold bothR at h ⊢
  split at h
  · rename_i h2
    split at h
    · cases h
    · rename_i h3
      rw [if_pos h2, if_neg h3]
      unfold twoE at h2
      split at h2
      · rename_i a
        split at h2
        · rename_i b
          split at h2
          · rename_i e
            exact ⟨a, b, e, by omega, rfl⟩
          · cases h2
        · rename_i b; exact absurd h2 b
      · rename_i a; exact absurd h2 a
  · rename_i h2; exact absurd h h2
theorem both_valid (h1 : validate c = 0) (h2 : validate d = 0) (h3 : c.layers = d.layers) (h4 : c.bounds.length + d.bounds.length ≤ 20) : validate ⟨c.layers, c.bounds ++ d.bounds⟩ = 0 := by
  have a := validate_ok h1
  have b := validate_ok h2
  unfold validate
  have e1 : within c.layers 1 8 = true := Go.Core.within_iff.2 ⟨a.1, a.2.1⟩
  show (if within c.layers 1 8 = false then (1 : Int) else if 20 < ((c.bounds ++ d.bounds).length : Int) then 3 else if (c.bounds ++ d.bounds).all (fun x => right x c.layers) then 0 else 1) = 0
  rw [if_neg (by rw [e1]; simp), if_neg (by rw [List.length_append]; omega), if_pos]
  rw [List.all_append, Bool.and_eq_true, List.all_eq_true, List.all_eq_true]
  exact ⟨a.2.2.2, fun x hx => by rw [h3]; exact b.2.2.2 x hx⟩
/-- Dates keep both exactly if they keep each one. -/
theorem both_dates {l : List Int} (h : (bothR c d).2 = 0) (hx : checkDates c l = 0 ∨ checkDates c l = 7) : checkDates (bothR c d).1 l = 0 ↔ checkDates c l = 0 ∧ checkDates d l = 0 := by
  obtain ⟨a, b, e, f, g⟩ := both_ok h
  have v := both_valid a b e f
  rw [g]
  have hd : datedE c l = 0 := by
    unfold checkDates at hx
    unfold datedE at hx ⊢
    rw [if_pos a] at hx ⊢
    by_cases hq : isDatesS c l = true
    · rw [if_pos hq]
    · rw [if_neg hq] at hx
      rw [if_neg (by decide)] at hx
      rcases hx with hx | hx <;> cases hx
  have hq : isDatesS c l = true := by
    unfold datedE at hd
    rw [if_pos a] at hd
    by_cases hq : isDatesS c l = true
    · exact hq
    · rw [if_neg hq] at hd; cases hd
  have hq2 : isDatesS d l = true := by unfold isDatesS at hq ⊢; rw [← e]; exact hq
  have hq3 : isDatesS ⟨c.layers, c.bounds ++ d.bounds⟩ l = true := hq
  have d2 : datedE d l = 0 := by unfold datedE; rw [if_pos b, if_pos hq2]
  have d3 : datedE ⟨c.layers, c.bounds ++ d.bounds⟩ l = 0 := by unfold datedE; rw [if_pos v, if_pos hq3]
  unfold checkDates
  rw [if_pos hd, if_pos d2, if_pos d3]
  show (if (c.bounds ++ d.bounds).all (keeps l) = true then (0 : Int) else 7) = 0 ↔ _
  rw [List.all_append]
  cases c.bounds.all (keeps l) <;> cases d.bounds.all (keeps l) <;> simp
end
theorem law_CoreBoths (c d : Core) (l : List Int) : law03_CoreBoths c d l = some true := by
  unfold law03_CoreBoths
  have yes : law03_CoreBoths_k2 c d l true = some true := by unfold law03_CoreBoths_k2; rw [if_pos rfl, bnd_eq known_eq]
  rw [bnd_eq (Long_eq c)]
  by_cases h1 : (100 : Int) < c.bounds.length
  · rw [if_pos (by simpa using h1), yes]
  · rw [if_neg (by simpa using h1), bnd_eq (Long_eq d)]
    by_cases h2 : (100 : Int) < d.bounds.length
    · rw [if_pos (by simpa using h2), yes]
    · rw [if_neg (by simpa using h2)]
      by_cases h3 : (100 : Int) < (l.length : Int)
      · rw [decide_eq_true h3, yes]
      · have hc : c.bounds.length ≤ 100 := by omega
        have hd : d.bounds.length ≤ 100 := by omega
        obtain ⟨e1, e2⟩ := Both_eq hc hd
        have hs := bothR_small hc hd
        rw [decide_eq_false h3]
        unfold law03_CoreBoths_k2
        rw [if_neg (by simp), bnd_eq e1, bnd_eq e2, bnd_eq (Equal_self _ (by omega)), if_pos rfl]
        unfold law03_CoreBoths_k1
        rw [if_neg (by simp), bnd_eq (CheckDates_eq c l hc (by omega)), bnd_eq (CheckDates_eq d l hd (by omega)), bnd_eq (CheckDates_eq _ l hs (by omega))]
        by_cases h0 : (bothR c d).2 = 0
        · rw [if_pos h0]
          by_cases hx : checkDates c l = 0
          · have := both_dates (l := l) h0 (.inl hx)
            rw [if_pos hx, if_pos, bnd_eq known_eq]
            rw [hx] at this
            by_cases hy : checkDates d l = 0
            · simp [hy, this]
            · simp [hy, this]
          · rw [if_neg hx]
            by_cases h7 : checkDates c l = 7
            · have := both_dates (l := l) h0 (.inr h7)
              rw [if_pos h7, if_pos, bnd_eq known_eq]
              simp [this, hx]
            · rw [if_neg h7, bnd_eq known_eq]
        · rw [if_neg h0, bnd_eq known_eq]
end Go.D3
