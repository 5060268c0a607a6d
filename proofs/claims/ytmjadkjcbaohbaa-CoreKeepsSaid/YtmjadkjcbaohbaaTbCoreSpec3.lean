/- Lemmas and walks that the proof of this claim uses: TbCoreSpec3. -/
import Derived.Test.YtmjadkjcbaohbaaTbCoreC
set_option linter.unusedVariables false
set_option linter.unusedSimpArgs false
namespace Go.Core
open Go.Tb

theorem relaxTo_quiet {bs : List Bound} {s : RS} (hb : ∀ x ∈ bs, 0 ≤ x.b) : ∀ j : Nat, (relaxTo bs s j).2.2 < 0 → relaxTo bs s j = s ∧ ∀ (i : Nat) (x : Bound), i < j → bs[i]? = some x → ¬ (gi s.1 x.a + x.most < gi s.1 x.b)
  | 0, _ => ⟨rfl, fun i x h => by omega⟩
  | j + 1, h => by
    cases hx : bs[j]? with
    | none =>
      simp only [relaxTo, hx] at h ⊢
      obtain ⟨h1, h2⟩ := relaxTo_quiet hb j h
      refine ⟨h1, fun i x hi hxi => ?_⟩
      by_cases hij : i = j
      · subst hij; rw [hx] at hxi; cases hxi
      · exact h2 i x (by omega) hxi
    | some y =>
      have hy := hb y (List.mem_of_getElem? hx)
      rw [relaxTo_succ hx] at h ⊢
      unfold relaxB at h ⊢
      split at h
      · simp at h; omega
      · rename_i hc
        obtain ⟨h1, h2⟩ := relaxTo_quiet hb j h
        rw [h1] at hc
        rw [if_neg (by rw [h1]; exact hc)]
        refine ⟨h1, fun i x hi hxi => ?_⟩
        by_cases hij : i = j
        · subst hij; rw [hx] at hxi; cases hxi; exact hc
        · exact h2 i x (by omega) hxi
theorem relax_quiet {c : Core} (hv : validate c = 0) (h : clashes c = false) : ∀ x ∈ c.bounds, gi (relax c).1 x.b - gi (relax c).1 x.a ≤ x.most := by
  have hvo := validate_ok hv
  have hb : ∀ x ∈ c.bounds, 0 ≤ x.b := fun x hx => (right_ok (hvo.2.2.2 x hx)).2.2.1
  obtain ⟨m, hm⟩ : ∃ m, c.layers.toNat = m + 1 := ⟨c.layers.toNat - 1, by omega⟩
  have hr : relax c = relaxTo c.bounds ((relaxN c m).1, (relaxN c m).2.1, -1) c.bounds.length := by unfold relax; rw [hm]; rfl
  have hl : (relax c).2.2 < 0 := by unfold clashes at h; have := of_decide_eq_false h; omega
  rw [hr] at hl
  obtain ⟨h1, h2⟩ := relaxTo_quiet hb _ hl
  intro x hx
  obtain ⟨i, hi⟩ := List.getElem?_of_mem hx
  have := h2 i x (lt_of_at hi) hi
  rw [hr, h1]
  omega
def pot (c : Core) (i : Nat) : Int := (relax c).1.getD i 0
theorem pot_of {c : Core} (hv : validate c = 0) (h : clashes c = false) : Pot c (pot c) := fun x hx => relax_quiet hv h x hx

theorem tables_ok {c : Core} (hv : validate c = 0) (h : (tables c).2 = 0) : clashes c = false ∧ (tables c).1 = table c ∧ TInv c.layers.toNat (pot c) 2560000 (tables c).1 := by
  unfold tables at *
  cases hc : clashes c
  · simp [hc, table]
    exact tK_inv hv (pot_of hv hc) (Nat.le_refl _)
  · simp [hc] at h
theorem tables_no {c : Core} (h : ¬ (tables c).2 = 0) : clashes c = true ∧ (tables c).2 = 10 := by
  unfold tables at *
  cases hc : clashes c <;> simp [hc] at h ⊢
theorem layers_ok {c : Core} {l : List Int} (h : layersE c l = 0) : validate c = 0 ∧ ∀ n ∈ l, 0 ≤ n ∧ n < c.layers := by
  unfold layersE at h
  split at h
  · rename_i hv
    split at h
    · rename_i ha
      refine ⟨hv, fun n hn => ?_⟩
      have := within_iff.1 (List.all_eq_true.1 ha n hn)
      omega
    · omega
  · rename_i hv; exact absurd h hv
theorem layers_ok2 {c : Core} {a b : Int} (h : layersE c [a, b] = 0) : validate c = 0 ∧ 0 ≤ a ∧ a < c.layers ∧ 0 ≤ b ∧ b < c.layers := by
  obtain ⟨hv, hl⟩ := layers_ok h
  have h1 := hl a (by simp)
  have h2 := hl b (by simp)
  exact ⟨hv, h1.1, h1.2, h2.1, h2.2⟩
theorem layers_ok1 {c : Core} {a : Int} (h : layersE c [a] = 0) : validate c = 0 ∧ 0 ≤ a ∧ a < c.layers := by
  obtain ⟨hv, hl⟩ := layers_ok h
  have h1 := hl a (by simp)
  exact ⟨hv, h1.1, h1.2⟩

def tightest (c : Core) (a b : Int) : Int × Bool × Int :=
  if layersE c [a, b] = 0 then
    if clashes c = true then (0, false, 10)
    else if (mg (table c) a.toNat b.toNat).known = true then ((mg (table c) a.toNat b.toNat).most, true, 0) else (0, false, 0)
  else (0, false, layersE c [a, b])
def followsM (m : TM) (x : Bound) : Bool := (mg m x.a.toNat x.b.toNat).known && decide ((mg m x.a.toNat x.b.toNat).most ≤ x.most)
def follows (c : Core) (x : Bound) : Bool × Int :=
  if layersE c [x.a, x.b] = 0 then
    if right x c.layers = true then
      if clashes c = true then (false, 10) else (followsM (table c) x, 0)
    else (false, 1)
  else (false, layersE c [x.a, x.b])
def fixedM (m : TM) (a b : Int) : Bool := (mg m a.toNat b.toNat).known && ((mg m b.toNat a.toNat).known && decide ((mg m a.toNat b.toNat).most = -(mg m b.toNat a.toNat).most))
def fixed (c : Core) (a b : Int) : Int × Bool × Int :=
  if layersE c [a, b] = 0 then
    if clashes c = true then (0, false, 10)
    else if fixedM (table c) a b = true then ((mg (table c) a.toNat b.toNat).most, true, 0) else (0, false, 0)
  else (0, false, layersE c [a, b])
end Go.Core
