/- Lemmas and walks that the proof of this claim uses: TbCoreMath3. -/
import Derived.Test.YtmjadkjcbaohbaaTbCoreMath2
namespace Go.Core
open Go.Tb

/-! ### what the program's rounds find -/
def ds (s : RS) (v : Nat) : Int := s.1.getD v 0
theorem gi_ds (s : RS) (i : Int) : gi s.1 i = ds s i.toNat := rfl
theorem relaxB_ds {s : RS} {k : Nat} {x : Bound} {n : Nat} (hl : s.1.length = n) (hb : x.b.toNat < n) (v : Nat) : ds (relaxB s k x) v = if v = x.b.toNat ∧ ds s x.a.toNat + x.most < ds s x.b.toNat then ds s x.a.toNat + x.most else ds s v := by
  unfold relaxB
  rw [gi_ds, gi_ds]
  by_cases hc : ds s x.a.toNat + x.most < ds s x.b.toNat
  · rw [if_pos hc]
    simp only [hc, and_true]
    show (s.1.set x.b.toNat _).getD v 0 = _
    rw [set_getD]
    simp [hl, hb, ds]
  · rw [if_neg hc]; simp [hc]
theorem relaxB_len {s : RS} {k : Nat} {x : Bound} : (relaxB s k x).1.length = s.1.length := by unfold relaxB; split <;> simp
theorem relaxTo_len {bs : List Bound} {s : RS} : ∀ j : Nat, (relaxTo bs s j).1.length = s.1.length
  | 0 => rfl
  | j + 1 => by
    cases hx : bs[j]? with
    | none => simp only [relaxTo, hx]; exact relaxTo_len j
    | some x => rw [relaxTo_succ hx, relaxB_len]; exact relaxTo_len j
/-- Each date is the weight of some path. -/
def Real (c : Core) (s : RS) : Prop := ∀ v : Nat, v < c.layers.toNat → ∃ u e, u < c.layers.toNat ∧ Path c u e v ∧ wt e = ds s v
theorem relaxB_real {c : Core} (hl : Lay c c.layers.toNat) {s : RS} {k : Nat} {x : Bound} (hx : x ∈ c.bounds) (hn : s.1.length = c.layers.toNat) (h : Real c s) : Real c (relaxB s k x) := by
  intro v hv
  rw [relaxB_ds hn (hl x hx).2]
  split
  · rename_i hc
    obtain ⟨u, e, hu, he, hw⟩ := h x.a.toNat (hl x hx).1
    refine ⟨u, e ++ [x], hu, ?_, by rw [wt_append]; simp only [wt]; omega⟩
    rw [hc.1]; exact he.snoc hx
  · exact h v hv
theorem relaxTo_real {c : Core} (hl : Lay c c.layers.toNat) {s : RS} (hn : s.1.length = c.layers.toNat) (h : Real c s) : ∀ j : Nat, Real c (relaxTo c.bounds s j)
  | 0 => h
  | j + 1 => by
    have ih := relaxTo_real hl hn h j
    cases hx : c.bounds[j]? with
    | none => simp only [relaxTo, hx]; exact ih
    | some x => rw [relaxTo_succ hx]; exact relaxB_real hl (List.mem_of_getElem? hx) (by rw [relaxTo_len, hn]) ih
theorem relaxN_len (c : Core) : ∀ i : Nat, (relaxN c i).1.length = c.layers.toNat
  | 0 => by simp [relaxN]
  | i + 1 => by simp only [relaxN]; rw [relaxTo_len]; exact relaxN_len c i
theorem relaxN_real {c : Core} (hl : Lay c c.layers.toNat) : ∀ i : Nat, Real c (relaxN c i)
  | 0 => fun v hv => ⟨v, [], hv, .nil _, by simp [wt, ds, relaxN, List.getD, List.getElem?_replicate]; split <;> rfl⟩
  | i + 1 => relaxTo_real hl (s := ((relaxN c i).1, (relaxN c i).2.1, -1)) (relaxN_len c i) (relaxN_real hl i) c.bounds.length
theorem relaxTo_le {c : Core} (hl : Lay c c.layers.toNat) {s : RS} (hn : s.1.length = c.layers.toNat) : ∀ (j : Nat) (v : Nat), ds (relaxTo c.bounds s j) v ≤ ds s v ∧ ∀ (i : Nat) (x : Bound), i < j → c.bounds[i]? = some x → v = x.b.toNat → ds (relaxTo c.bounds s j) v ≤ ds s x.a.toNat + x.most
  | 0, v => ⟨Int.le_refl _, fun i x hi => by omega⟩
  | j + 1, v => by
    obtain ⟨i1, i2⟩ := relaxTo_le hl hn j v
    cases hx : c.bounds[j]? with
    | none =>
      simp only [relaxTo, hx]
      refine ⟨i1, fun i x hi hix => ?_⟩
      by_cases hij : i = j
      · subst hij; rw [hx] at hix; cases hix
      · exact i2 i x (by omega) hix
    | some y =>
      have hy := hl y (List.mem_of_getElem? hx)
      have ha := (relaxTo_le hl hn j y.a.toNat).1
      have e1 := relaxB_ds (s := relaxTo c.bounds s j) (k := j) (x := y) (by rw [relaxTo_len, hn]) hy.2 v
      rw [relaxTo_succ hx]
      have hle : ds (relaxB (relaxTo c.bounds s j) j y) v ≤ ds (relaxTo c.bounds s j) v := by
        rw [e1]
        split
        · rename_i hc; rw [hc.1]; omega
        · exact Int.le_refl _
      refine ⟨by omega, fun i x hi hix hv => ?_⟩
      by_cases hij : i = j
      · subst hij; rw [hx] at hix; cases hix
        rw [e1]
        split
        · omega
        · rename_i hc
          have : ¬ ds (relaxTo c.bounds s i) y.a.toNat + y.most < ds (relaxTo c.bounds s i) y.b.toNat := fun h => hc ⟨hv, h⟩
          rw [hv]; omega
      · have := i2 i x (by omega) hix hv
        omega
theorem relaxN_le {c : Core} (hv : validate c = 0) (hl : Lay c c.layers.toNat) : ∀ (i : Nat) (u v : Nat) (e : List Bound), Path c u e v → e.length ≤ i → ds (relaxN c i) v ≤ wt e
  | 0, u, v, e, h, hlen => by
    cases e with
    | nil => simp [wt, ds, relaxN, List.getD, List.getElem?_replicate]; split <;> simp
    | cons x r => simp at hlen
  | i + 1, u, v, e, h, hlen => by
    have hT := relaxTo_le hl (s := ((relaxN c i).1, (relaxN c i).2.1, -1)) (relaxN_len c i) c.bounds.length v
    show ds (relaxTo c.bounds ((relaxN c i).1, (relaxN c i).2.1, -1) c.bounds.length) v ≤ wt e
    rcases h.last with ⟨rfl, rfl⟩ | ⟨e', x, rfl, hx, h1, rfl⟩
    · exact Int.le_trans hT.1 (relaxN_le hv hl i _ _ [] (.nil _) (by simp))
    · simp at hlen
      obtain ⟨k, hk⟩ := List.getElem?_of_mem hx
      have h2 := hT.2 k x (lt_of_at hk) hk rfl
      have h3 := relaxN_le hv hl i u _ e' h1 hlen
      rw [wt_append]; simp only [wt]
      have h4 : ds ((relaxN c i).1, (relaxN c i).2.1, -1) x.a.toNat = ds (relaxN c i) x.a.toNat := rfl
      omega
theorem relaxTo_fire {bs : List Bound} {s : RS} (hs : s.2.2 < 0) : ∀ j : Nat, 0 ≤ (relaxTo bs s j).2.2 → ∃ (i : Nat) (x : Bound), bs[i]? = some x ∧ ds (relaxTo bs s i) x.a.toNat + x.most < ds (relaxTo bs s i) x.b.toNat
  | 0, h => by simp only [relaxTo] at h; omega
  | j + 1, h => by
    cases hx : bs[j]? with
    | none => simp only [relaxTo, hx] at h; exact relaxTo_fire hs j h
    | some x =>
      rw [relaxTo_succ hx] at h
      unfold relaxB at h
      rw [gi_ds, gi_ds] at h
      split at h
      · rename_i hc; exact ⟨j, x, hx, hc⟩
      · exact relaxTo_fire hs j h
theorem clash_iff {c : Core} (hv : validate c = 0) : clashes c = rclash c := by
  have hl := lay_of hv
  have hvo := validate_ok hv
  cases hr : rclash c
  · have hn := noNeg_of hl hr
    cases hc : clashes c
    · rfl
    · exfalso
      obtain ⟨m, hm⟩ : ∃ m, c.layers.toNat = m + 1 := ⟨c.layers.toNat - 1, by omega⟩
      have hre : relax c = relaxTo c.bounds ((relaxN c m).1, (relaxN c m).2.1, -1) c.bounds.length := by unfold relax; rw [hm]; rfl
      have h0 : 0 ≤ (relax c).2.2 := of_decide_eq_true hc
      rw [hre] at h0
      obtain ⟨i, x, hx, hlt⟩ := relaxTo_fire (by simp) _ h0
      have hxm := List.mem_of_getElem? hx
      have hR := relaxTo_real hl (s := ((relaxN c m).1, (relaxN c m).2.1, -1)) (relaxN_len c m) (relaxN_real hl m) i
      obtain ⟨u, e, hu, he, hw⟩ := hR x.a.toNat (hl x hxm).1
      obtain ⟨e', p1, p2, p3⟩ := Path.short hl hn hu _ _ (Nat.le_refl _) (he.snoc hxm)
      have h1 := relaxN_le hv hl m u _ e' p1 (by omega)
      have h2 := (relaxTo_le hl (s := ((relaxN c m).1, (relaxN c m).2.1, -1)) (relaxN_len c m) i x.b.toNat).1
      have h3 : ds ((relaxN c m).1, (relaxN c m).2.1, -1) x.b.toNat = ds (relaxN c m) x.b.toNat := rfl
      rw [wt_append] at p3
      simp only [wt] at p3
      omega
  · cases hc : clashes c
    · exfalso
      obtain ⟨u, e, hu, he, hw⟩ := neg_of hl hr
      have := he.pot (pot_of hv hc)
      omega
    · rfl
end Go.Core
