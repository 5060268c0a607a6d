/- Lemmas and walks that the proof of this claim uses: TbCoreMath2, TbCoreMath3, TbCoreMath4, TbCoreEq, D3libD, D3lib, D3m1D, D3m1, D3m2D, D3m2, D3m3D, D3m3, D3m4D. -/
import Derived.Test.YtmjadkjcbaohbaaTopDates1
set_option linter.unusedVariables false
set_option linter.unusedSimpArgs false
namespace Go.Core
open Go.Tb
theorem Path.last {c : Core} {a v : Nat} {e : List Bound} (h : Path c a e v) : (e = [] ∧ v = a) ∨ ∃ e' x, e = e' ++ [x] ∧ x ∈ c.bounds ∧ Path c a e' x.a.toNat ∧ x.b.toNat = v := by
  induction h with
  | nil => exact .inl ⟨rfl, rfl⟩
  | @cons x es v hx k ih =>
    rcases ih with ⟨rfl, rfl⟩ | ⟨e', y, rfl, hy, h1, h2⟩
    · exact .inr ⟨[], x, rfl, hx, .nil _, rfl⟩
    · exact .inr ⟨x :: e', y, rfl, hy, .cons hx h1, h2⟩
def sm (s : WS) (v : Nat) : Int := s.1.getD v 0
def kn (s : WS) (v : Nat) : Bool := s.2.getD v false
theorem gi_sm (s : WS) (i : Int) : gi s.1 i = sm s i.toNat := rfl
theorem gb_kn (s : WS) (i : Int) : gb s.2 i = kn s i.toNat := rfl
structure Len (n : Nat) (s : WS) : Prop where
  l1 : s.1.length = n
  l2 : s.2.length = n
theorem wB_len {n : Nat} {p s : WS} {x : Bound} (h : Len n s) : Len n (wB p s x) := by
  unfold wB; split
  · exact ⟨by simp [h.l1], by simp [h.l2]⟩
  · exact h
theorem set_getD {α : Type} {l : List α} {i j : Nat} {x d : α} : (l.set i x).getD j d = if j = i ∧ i < l.length then x else l.getD j d := by
  simp only [List.getD, List.getElem?_set]
  by_cases h : i = j
  · subst h
    by_cases hi : i < l.length
    · simp [hi]
    · simp [hi, List.getElem?_eq_none (Nat.le_of_not_lt hi)]
  · simp [h, Ne.symm h]
/-- What one bound does. -/
theorem wB_spec {n : Nat} {p s : WS} {x : Bound} (h : Len n s) (hb : x.b.toNat < n) (v : Nat) :
    (kn s v = true → kn (wB p s x) v = true ∧ sm (wB p s x) v ≤ sm s v) ∧
    (v = x.b.toNat → kn p x.a.toNat = true → kn (wB p s x) v = true ∧ sm (wB p s x) v ≤ sm p x.a.toNat + x.most) ∧
    (kn (wB p s x) v = true → (kn s v = true ∧ sm (wB p s x) v = sm s v) ∨ (v = x.b.toNat ∧ kn p x.a.toNat = true ∧ sm (wB p s x) v = sm p x.a.toNat + x.most)) := by
  unfold wB
  rw [gb_kn, gb_kn, gi_sm, gi_sm]
  split
  · rename_i hc
    simp only [Bool.and_eq_true, Bool.or_eq_true, Bool.not_eq_true', decide_eq_true_eq] at hc
    have e1 : ∀ v, sm (s.1.set x.b.toNat (sm p x.a.toNat + x.most), s.2.set x.b.toNat true) v = if v = x.b.toNat then sm p x.a.toNat + x.most else sm s v := by
      intro v; simp only [sm]; rw [set_getD]; simp [h.l1, hb]
    have e2 : ∀ v, kn (s.1.set x.b.toNat (sm p x.a.toNat + x.most), s.2.set x.b.toNat true) v = if v = x.b.toNat then true else kn s v := by
      intro v; simp only [kn]; rw [set_getD]; simp [h.l2, hb]
    rw [e1, e2]
    by_cases hv : v = x.b.toNat
    · subst hv
      simp only [if_true]
      refine ⟨fun hk => ⟨trivial, ?_⟩, fun _ _ => ⟨trivial, Int.le_refl _⟩, fun _ => .inr ⟨trivial, hc.1, trivial⟩⟩
      rcases hc.2 with h2 | h2
      · rw [hk] at h2; cases h2
      · omega
    · simp only [if_neg hv]
      exact ⟨fun hk => ⟨hk, Int.le_refl _⟩, fun e => absurd e hv, fun hk => .inl ⟨hk, trivial⟩⟩
  · rename_i hc
    simp only [Bool.and_eq_true, Bool.or_eq_true, Bool.not_eq_true', decide_eq_true_eq, not_and, not_or] at hc
    refine ⟨fun hk => ⟨hk, Int.le_refl _⟩, fun e hk => ?_, fun hk => .inl ⟨hk, rfl⟩⟩
    subst e
    have := hc hk
    refine ⟨by cases hh : kn s x.b.toNat <;> simp_all, by omega⟩
theorem wTo_len {n : Nat} {bs : List Bound} {p : WS} (h : Len n p) : ∀ j : Nat, Len n (wTo bs p j)
  | 0 => h
  | j + 1 => by
    cases hx : bs[j]? with
    | none => simp only [wTo, hx]; exact wTo_len h j
    | some x => rw [wTo_succ hx]; exact wB_len (wTo_len h j)
theorem wTo_spec {n : Nat} {bs : List Bound} {p : WS} (h : Len n p) (hb : ∀ x ∈ bs, x.b.toNat < n) : ∀ (j : Nat) (v : Nat),
    (kn p v = true → kn (wTo bs p j) v = true ∧ sm (wTo bs p j) v ≤ sm p v) ∧
    (∀ (i : Nat) (x : Bound), i < j → bs[i]? = some x → v = x.b.toNat → kn p x.a.toNat = true → kn (wTo bs p j) v = true ∧ sm (wTo bs p j) v ≤ sm p x.a.toNat + x.most) ∧
    (kn (wTo bs p j) v = true → (kn p v = true ∧ sm (wTo bs p j) v = sm p v) ∨ ∃ x ∈ bs, v = x.b.toNat ∧ kn p x.a.toNat = true ∧ sm (wTo bs p j) v = sm p x.a.toNat + x.most)
  | 0, v => ⟨fun h => ⟨h, Int.le_refl _⟩, fun i x hi => by omega, fun h => .inl ⟨h, rfl⟩⟩
  | j + 1, v => by
    obtain ⟨i1, i2, i3⟩ := wTo_spec h hb j v
    cases hx : bs[j]? with
    | none =>
      simp only [wTo, hx]
      refine ⟨i1, fun i x hi hix => ?_, i3⟩
      by_cases hij : i = j
      · subst hij; rw [hx] at hix; cases hix
      · exact i2 i x (by omega) hix
    | some y =>
      rw [wTo_succ hx]
      obtain ⟨b1, b2, b3⟩ := wB_spec (p := p) (wTo_len h j) (hb y (List.mem_of_getElem? hx)) v
      refine ⟨fun hk => ?_, fun i x hi hix hv hk => ?_, fun hk => ?_⟩
      · obtain ⟨k1, k2⟩ := i1 hk
        obtain ⟨k3, k4⟩ := b1 k1
        exact ⟨k3, by omega⟩
      · by_cases hij : i = j
        · subst hij; rw [hx] at hix; cases hix
          exact b2 hv hk
        · obtain ⟨k1, k2⟩ := i2 i x (by omega) hix hv hk
          obtain ⟨k3, k4⟩ := b1 k1
          exact ⟨k3, by omega⟩
      · rcases b3 hk with ⟨k1, k2⟩ | ⟨k1, k2, k3⟩
        · rcases i3 k1 with ⟨q1, q2⟩ | ⟨x, hxm, q1, q2, q3⟩
          · exact .inl ⟨q1, by omega⟩
          · exact .inr ⟨x, hxm, q1, q2, by omega⟩
        · exact .inr ⟨y, List.mem_of_getElem? hx, k1, k2, k3⟩
theorem wN_len (c : Core) (a : Nat) : ∀ k : Nat, Len c.layers.toNat (wN c a k)
  | 0 => ⟨by simp [wN], by simp [wN]⟩
  | k + 1 => wTo_len (wN_len c a k) _
/-- The walks of at most k bounds from a. -/
theorem wN_spec {c : Core} (hl : Lay c c.layers.toNat) {a : Nat} (ha : a < c.layers.toNat) : ∀ (k : Nat) (v : Nat),
    (kn (wN c a k) v = true → ∃ e, Path c a e v ∧ e.length ≤ k ∧ wt e = sm (wN c a k) v) ∧
    (∀ e, Path c a e v → e.length ≤ k → kn (wN c a k) v = true ∧ sm (wN c a k) v ≤ wt e)
  | 0, v => by
    have hk : kn (wN c a 0) v = decide (v = a) := by
      simp only [kn, wN]
      rw [set_getD]
      by_cases hv : v = a
      · subst hv; simp [ha]
      · simp [hv, List.getD, List.getElem?_replicate]; split <;> rfl
    have hs : sm (wN c a 0) v = 0 := by
      simp only [sm, wN, List.getD, List.getElem?_replicate]; split <;> rfl
    rw [hk, hs]
    refine ⟨fun h => ?_, fun e he hlen => ?_⟩
    · have := of_decide_eq_true h; subst this
      exact ⟨[], .nil _, by simp, rfl⟩
    · cases e with
      | nil => cases he; simp [wt]
      | cons x r => simp at hlen
  | k + 1, v => by
    have hb : ∀ x ∈ c.bounds, x.b.toNat < c.layers.toNat := fun x hx => (hl x hx).2
    obtain ⟨s1, s2, s3⟩ := wTo_spec (wN_len c a k) hb c.bounds.length v
    have ih := wN_spec hl ha k
    show (kn (wTo c.bounds (wN c a k) c.bounds.length) v = true → _) ∧ _
    refine ⟨fun hk => ?_, fun e he hlen => ?_⟩
    · rcases s3 hk with ⟨k1, k2⟩ | ⟨x, hx, k1, k2, k3⟩
      · obtain ⟨e, h1, h2, h3⟩ := (ih v).1 k1
        exact ⟨e, h1, by omega, by rw [h3]; exact k2.symm⟩
      · obtain ⟨e, h1, h2, h3⟩ := (ih x.a.toNat).1 k2
        refine ⟨e ++ [x], ?_, by simp; omega, by rw [wt_append]; simp only [wt]; rw [h3]; simp only [wN]; omega⟩
        rw [k1]; exact h1.snoc hx
    · rcases he.last with ⟨rfl, rfl⟩ | ⟨e', x, rfl, hx, h1, rfl⟩
      · obtain ⟨k1, k2⟩ := (ih v).2 [] (.nil _) (by simp)
        obtain ⟨k3, k4⟩ := s1 k1
        exact ⟨k3, Int.le_trans k4 k2⟩
      · simp at hlen
        obtain ⟨k1, k2⟩ := (ih x.a.toNat).2 e' h1 hlen
        obtain ⟨i, hi⟩ := List.getElem?_of_mem hx
        obtain ⟨k3, k4⟩ := s2 i x (lt_of_at hi) hi rfl k1
        refine ⟨k3, ?_⟩
        rw [wt_append]; simp only [wt, wN]; omega
theorem noNeg_of {c : Core} (hl : Lay c c.layers.toNat) (h : rclash c = false) : NoNeg c c.layers.toNat := by
  intro u e hu he hlen
  obtain ⟨h1, h2⟩ := (wN_spec hl hu c.layers.toNat u).2 e he hlen
  have h3 := List.any_eq_false.1 h u (by simpa using hu)
  have h4 : ¬ sm (wN c u c.layers.toNat) u < 0 := fun hc => h3 (decide_eq_true hc)
  omega
theorem neg_of {c : Core} (hl : Lay c c.layers.toNat) (h : rclash c = true) : ∃ u e, u < c.layers.toNat ∧ Path c u e u ∧ wt e < 0 := by
  obtain ⟨u, hu, hd⟩ := List.any_eq_true.1 h
  have hu' : u < c.layers.toNat := by simpa using hu
  have h4 : sm (wN c u c.layers.toNat) u < 0 := of_decide_eq_true hd
  obtain ⟨k1, k2⟩ := (wN_spec hl hu' c.layers.toNat u).2 [] (.nil _) (by simp)
  obtain ⟨e, h1, h2, h3⟩ := (wN_spec hl hu' c.layers.toNat u).1 k1
  exact ⟨u, e, hu', h1, by omega⟩
end Go.Core

namespace Go.Core
open Go.Tb
def ds (s : RS) (v : Nat) : Int := s.1.getD v 0
theorem gi_ds (s : RS) (i : Int) : gi s.1 i = ds s i.toNat := rfl
theorem relaxB_ds {s : RS} {k : Nat} {x : Bound} {n : Nat} (hl : s.1.length = n) (hb : x.b.toNat < n) (v : Nat) : ds (relaxB s k x) v = if v = x.b.toNat ∧ ds s x.a.toNat + x.most < ds s x.b.toNat then ds s x.a.toNat + x.most else ds s v := by
  unfold relaxB
  rw [gi_ds, gi_ds]
  by_cases hc : ds s x.a.toNat + x.most < ds s x.b.toNat
  · rw [if_pos hc]
    simp only [hc, and_true]
    show (s.1.set x.b.toNat _).getD v 0 = _
    rw [set_getD]
    simp [hl, hb, ds]
  · rw [if_neg hc]; simp [hc]
theorem relaxB_len {s : RS} {k : Nat} {x : Bound} : (relaxB s k x).1.length = s.1.length := by unfold relaxB; split <;> simp
theorem relaxTo_len {bs : List Bound} {s : RS} : ∀ j : Nat, (relaxTo bs s j).1.length = s.1.length
  | 0 => rfl
  | j + 1 => by
    cases hx : bs[j]? with
    | none => simp only [relaxTo, hx]; exact relaxTo_len j
    | some x => rw [relaxTo_succ hx, relaxB_len]; exact relaxTo_len j
/-- Each date is the weight of some path. -/
def Real (c : Core) (s : RS) : Prop := ∀ v : Nat, v < c.layers.toNat → ∃ u e, u < c.layers.toNat ∧ Path c u e v ∧ wt e = ds s v
theorem relaxB_real {c : Core} (hl : Lay c c.layers.toNat) {s : RS} {k : Nat} {x : Bound} (hx : x ∈ c.bounds) (hn : s.1.length = c.layers.toNat) (h : Real c s) : Real c (relaxB s k x) := by
  intro v hv
  rw [relaxB_ds hn (hl x hx).2]
  split
  · rename_i hc
    obtain ⟨u, e, hu, he, hw⟩ := h x.a.toNat (hl x hx).1
    refine ⟨u, e ++ [x], hu, ?_, by rw [wt_append]; simp only [wt]; omega⟩
    rw [hc.1]; exact he.snoc hx
  · exact h v hv
theorem relaxTo_real {c : Core} (hl : Lay c c.layers.toNat) {s : RS} (hn : s.1.length = c.layers.toNat) (h : Real c s) : ∀ j : Nat, Real c (relaxTo c.bounds s j)
  | 0 => h
  | j + 1 => by
    have ih := relaxTo_real hl hn h j
    cases hx : c.bounds[j]? with
    | none => simp only [relaxTo, hx]; exact ih
    | some x => rw [relaxTo_succ hx]; exact relaxB_real hl (List.mem_of_getElem? hx) (by rw [relaxTo_len, hn]) ih
theorem relaxN_len (c : Core) : ∀ i : Nat, (relaxN c i).1.length = c.layers.toNat
  | 0 => by simp [relaxN]
  | i + 1 => by simp only [relaxN]; rw [relaxTo_len]; exact relaxN_len c i
theorem relaxN_real {c : Core} (hl : Lay c c.layers.toNat) : ∀ i : Nat, Real c (relaxN c i)
  | 0 => fun v hv => ⟨v, [], hv, .nil _, by simp [wt, ds, relaxN, List.getD, List.getElem?_replicate]; split <;> rfl⟩
  | i + 1 => relaxTo_real hl (s := ((relaxN c i).1, (relaxN c i).2.1, -1)) (relaxN_len c i) (relaxN_real hl i) c.bounds.length
theorem relaxTo_le {c : Core} (hl : Lay c c.layers.toNat) {s : RS} (hn : s.1.length = c.layers.toNat) : ∀ (j : Nat) (v : Nat), ds (relaxTo c.bounds s j) v ≤ ds s v ∧ ∀ (i : Nat) (x : Bound), i < j → c.bounds[i]? = some x → v = x.b.toNat → ds (relaxTo c.bounds s j) v ≤ ds s x.a.toNat + x.most
  | 0, v => ⟨Int.le_refl _, fun i x hi => by omega⟩
  | j + 1, v => by
    obtain ⟨i1, i2⟩ := relaxTo_le hl hn j v
    cases hx : c.bounds[j]? with
    | none =>
      simp only [relaxTo, hx]
      refine ⟨i1, fun i x hi hix => ?_⟩
      by_cases hij : i = j
      · subst hij; rw [hx] at hix; cases hix
      · exact i2 i x (by omega) hix
    | some y =>
      have hy := hl y (List.mem_of_getElem? hx)
      have ha := (relaxTo_le hl hn j y.a.toNat).1
      have e1 := relaxB_ds (s := relaxTo c.bounds s j) (k := j) (x := y) (by rw [relaxTo_len, hn]) hy.2 v
      rw [relaxTo_succ hx]
      have hle : ds (relaxB (relaxTo c.bounds s j) j y) v ≤ ds (relaxTo c.bounds s j) v := by
        rw [e1]
        split
        · rename_i hc; rw [hc.1]; omega
        · exact Int.le_refl _
      refine ⟨by omega, fun i x hi hix hv => ?_⟩
      by_cases hij : i = j
      · subst hij; rw [hx] at hix; cases hix
        rw [e1]
        split
        · omega
        · rename_i hc
          have : ¬ ds (relaxTo c.bounds s i) y.a.toNat + y.most < ds (relaxTo c.bounds s i) y.b.toNat := fun h => hc ⟨hv, h⟩
          rw [hv]; omega
      · have := i2 i x (by omega) hix hv
        omega
theorem relaxN_le {c : Core} (hv : validate c = 0) (hl : Lay c c.layers.toNat) : ∀ (i : Nat) (u v : Nat) (e : List Bound), Path c u e v → e.length ≤ i → ds (relaxN c i) v ≤ wt e
  | 0, u, v, e, h, hlen => by
    cases e with
    | nil => simp [wt, ds, relaxN, List.getD, List.getElem?_replicate]; split <;> simp
    | cons x r => simp at hlen
  | i + 1, u, v, e, h, hlen => by
    have hT := relaxTo_le hl (s := ((relaxN c i).1, (relaxN c i).2.1, -1)) (relaxN_len c i) c.bounds.length v
    show ds (relaxTo c.bounds ((relaxN c i).1, (relaxN c i).2.1, -1) c.bounds.length) v ≤ wt e
    rcases h.last with ⟨rfl, rfl⟩ | ⟨e', x, rfl, hx, h1, rfl⟩
    · exact Int.le_trans hT.1 (relaxN_le hv hl i _ _ [] (.nil _) (by simp))
    · simp at hlen
      obtain ⟨k, hk⟩ := List.getElem?_of_mem hx
      have h2 := hT.2 k x (lt_of_at hk) hk rfl
      have h3 := relaxN_le hv hl i u _ e' h1 hlen
      rw [wt_append]; simp only [wt]
      have h4 : ds ((relaxN c i).1, (relaxN c i).2.1, -1) x.a.toNat = ds (relaxN c i) x.a.toNat := rfl
      omega
theorem relaxTo_fire {bs : List Bound} {s : RS} (hs : s.2.2 < 0) : ∀ j : Nat, 0 ≤ (relaxTo bs s j).2.2 → ∃ (i : Nat) (x : Bound), bs[i]? = some x ∧ ds (relaxTo bs s i) x.a.toNat + x.most < ds (relaxTo bs s i) x.b.toNat
  | 0, h => by simp only [relaxTo] at h; omega
  | j + 1, h => by
    cases hx : bs[j]? with
    | none => simp only [relaxTo, hx] at h; exact relaxTo_fire hs j h
    | some x =>
      rw [relaxTo_succ hx] at h
      unfold relaxB at h
      rw [gi_ds, gi_ds] at h
      split at h
      · rename_i hc; exact ⟨j, x, hx, hc⟩
      · exact relaxTo_fire hs j h
theorem clash_iff {c : Core} (hv : validate c = 0) : clashes c = rclash c := by
  have hl := lay_of hv
  have hvo := validate_ok hv
  cases hr : rclash c
  · have hn := noNeg_of hl hr
    cases hc : clashes c
    · rfl
    · exfalso
      obtain ⟨m, hm⟩ : ∃ m, c.layers.toNat = m + 1 := ⟨c.layers.toNat - 1, by omega⟩
      have hre : relax c = relaxTo c.bounds ((relaxN c m).1, (relaxN c m).2.1, -1) c.bounds.length := by unfold relax; rw [hm]; rfl
      have h0 : 0 ≤ (relax c).2.2 := of_decide_eq_true hc
      rw [hre] at h0
      obtain ⟨i, x, hx, hlt⟩ := relaxTo_fire (by simp) _ h0
      have hxm := List.mem_of_getElem? hx
      have hR := relaxTo_real hl (s := ((relaxN c m).1, (relaxN c m).2.1, -1)) (relaxN_len c m) (relaxN_real hl m) i
      obtain ⟨u, e, hu, he, hw⟩ := hR x.a.toNat (hl x hxm).1
      obtain ⟨e', p1, p2, p3⟩ := Path.short hl hn hu _ _ (Nat.le_refl _) (he.snoc hxm)
      have h1 := relaxN_le hv hl m u _ e' p1 (by omega)
      have h2 := (relaxTo_le hl (s := ((relaxN c m).1, (relaxN c m).2.1, -1)) (relaxN_len c m) i x.b.toNat).1
      have h3 : ds ((relaxN c m).1, (relaxN c m).2.1, -1) x.b.toNat = ds (relaxN c m) x.b.toNat := rfl
      rw [wt_append] at p3
      simp only [wt] at p3
      omega
  · cases hc : clashes c
    · exfalso
      obtain ⟨u, e, hu, he, hw⟩ := neg_of hl hr
      have := he.pot (pot_of hv hc)
      omega
    · rfl
end Go.Core

namespace Go.Core
open Go.Tb
theorem tighter_spec (t o : Tight) : (t.known = true → (tighter t o).known = true ∧ (tighter t o).most ≤ t.most) ∧ (o.known = true → (tighter t o).known = true ∧ (tighter t o).most ≤ o.most) ∧
    ((tighter t o).known = true → (t.known = true ∧ (tighter t o).most = t.most) ∨ (o.known = true ∧ (tighter t o).most = o.most)) := by
  unfold tighter
  cases t with
  | mk k m =>
    cases o with
    | mk k' m' =>
      cases k <;> cases k' <;> simp
      by_cases h : m' < m <;> simp [h] <;> omega
theorem fwJ_cell {n : Nat} {p : Nat → Int} {B : Int} {m0 m : TM} {k i : Nat} (hB : 0 ≤ B) (h0 : TInv n p B m0) (h : FInv n p B m0 k m) (hk : k < n) (hi : i < n) : ∀ j : Nat, j ≤ n → ∀ a b : Nat, a < n → b < n →
    mg (fwJ m k i j) a b = if a = i ∧ b < j then tighter (mg m a b) (tover (mg m0 a k) (mg m0 k b)) else mg m a b
  | 0, _, a, b, _, _ => by simp [fwJ]
  | j + 1, hj, a, b, ha, hb => by
    have ih := fwJ_cell hB h0 h hk hi j (by omega)
    have hF := fwJ_inv hB h0 h hk hi j (by omega)
    simp only [fwJ, fwAt]
    rw [mg_put hF.inv.sq hi (by omega), hF.col i hi, hF.row j (by omega), ih i j hi (by omega), ih a b ha hb]
    by_cases h1 : a = i
    · subst h1
      by_cases h2 : b = j
      · subst h2; simp
      · by_cases h3 : b < j
        · simp [h2, h3, show b < j + 1 by omega]
        · simp [h2, h3, show ¬ b < j + 1 by omega]
    · simp [h1]
theorem fwI_cell {n : Nat} {p : Nat → Int} {B : Int} {m0 : TM} {k : Nat} (hB : 0 ≤ B) (h0 : TInv n p B m0) (hk : k < n) : ∀ i : Nat, i ≤ n → ∀ a b : Nat, a < n → b < n →
    mg (fwI n m0 k i) a b = if a < i then tighter (mg m0 a b) (tover (mg m0 a k) (mg m0 k b)) else mg m0 a b
  | 0, _, a, b, _, _ => by simp [fwI]
  | i + 1, hi, a, b, ha, hb => by
    have ih := fwI_cell hB h0 hk i (by omega) a b ha hb
    simp only [fwI]
    rw [fwJ_cell hB h0 (fwI_inv hB h0 hk i (by omega)) hk (by omega) n (Nat.le_refl n) a b ha hb, ih]
    by_cases h1 : a = i
    · subst h1; simp [hb]
    · by_cases h2 : a < i
      · simp [h1, h2, show a < i + 1 by omega]
      · simp [h1, h2, show ¬ a < i + 1 by omega]
/-- The layers inside a path. -/
def mids : List Bound → List Nat
  | [] => []
  | _ :: r => at_ r
structure TS (c : Core) (n K : Nat) (m : TM) : Prop where
  real : ∀ i j : Nat, i < n → j < n → (mg m i j).known = true → ∃ e, Path c i e j ∧ wt e = (mg m i j).most
  low : ∀ (i j : Nat) (e : List Bound), i < n → Path c i e j → (∀ u ∈ mids e, u < K) → (mg m i j).known = true ∧ (mg m i j).most ≤ wt e
theorem tB_spec {c : Core} {p : Nat → Int} (hv : validate c = 0) (hp : Pot c p) : ∀ j : Nat,
    (∀ a b : Nat, a < c.layers.toNat → b < c.layers.toNat → (mg (tB c.layers.toNat c.bounds j) a b).known = true → ∃ e, Path c a e b ∧ wt e = (mg (tB c.layers.toNat c.bounds j) a b).most) ∧
    (∀ (i : Nat) (x : Bound), i < j → c.bounds[i]? = some x → (mg (tB c.layers.toNat c.bounds j) x.a.toNat x.b.toNat).known = true ∧ (mg (tB c.layers.toNat c.bounds j) x.a.toNat x.b.toNat).most ≤ x.most)
  | 0 => by
    refine ⟨fun a b ha hb hk => ?_, fun i x hi => by omega⟩
    simp only [tB] at *
    rw [tI_mg ha hb] at *
    by_cases h : a = b
    · subst h; exact ⟨[], .nil _, by simp [wt]⟩
    · simp [h] at hk
  | j + 1 => by
    obtain ⟨i1, i2⟩ := tB_spec hv hp j
    have hI := tB_inv hv hp j
    have hl := lay_of hv
    cases hx : c.bounds[j]? with
    | none =>
      simp only [tB, hx]
      refine ⟨i1, fun i x hi hix => ?_⟩
      by_cases hij : i = j
      · subst hij; rw [hx] at hix; cases hix
      · exact i2 i x (by omega) hix
    | some y =>
      have hym := List.mem_of_getElem? hx
      have hy := hl y hym
      rw [tB_succ hx]
      obtain ⟨t1, t2, t3⟩ := tighter_spec (mg (tB c.layers.toNat c.bounds j) y.a.toNat y.b.toNat) ⟨true, y.most⟩
      refine ⟨fun a b ha hb hk => ?_, fun i x hi hix => ?_⟩
      · rw [mg_put hI.sq hy.1 hy.2] at *
        split at hk
        · rename_i he
          rw [if_pos he]
          obtain ⟨rfl, rfl⟩ := he
          rcases t3 hk with ⟨q1, q2⟩ | ⟨q1, q2⟩
          · obtain ⟨e, he, hw⟩ := i1 _ _ ha hb q1
            exact ⟨e, he, by rw [hw, q2]⟩
          · exact ⟨[y], Path.single hym, by rw [q2]; simp [wt]⟩
        · rename_i he
          rw [if_neg he]
          exact i1 a b ha hb hk
      · rw [mg_put hI.sq hy.1 hy.2]
        by_cases he : x.a.toNat = y.a.toNat ∧ x.b.toNat = y.b.toNat
        · rw [if_pos he]
          by_cases hij : i = j
          · subst hij; rw [hx] at hix; cases hix
            exact t2 rfl
          · obtain ⟨k1, k2⟩ := i2 i x (by omega) hix
            rw [he.1, he.2] at k1 k2
            obtain ⟨k3, k4⟩ := t1 k1
            exact ⟨k3, by omega⟩
        · rw [if_neg he]
          by_cases hij : i = j
          · subst hij; rw [hx] at hix; cases hix
            exact absurd ⟨rfl, rfl⟩ he
          · exact i2 i x (by omega) hix
theorem TS.base {c : Core} {p : Nat → Int} (hv : validate c = 0) (hp : Pot c p) : TS c c.layers.toNat 0 (tB c.layers.toNat c.bounds c.bounds.length) := by
  obtain ⟨h1, h2⟩ := tB_spec hv hp c.bounds.length
  refine ⟨h1, fun i j e hi he hm => ?_⟩
  cases he with
  | nil =>
    have := (tB_inv hv hp c.bounds.length).diag i hi
    rw [this]; simp [wt]
  | @cons x r _ hx k =>
    cases r with
    | nil =>
      obtain rfl : j = x.b.toNat := by
        rcases k.last with ⟨_, h⟩ | ⟨e', y, h, _⟩
        · exact h
        · simp at h
      obtain ⟨q, hq⟩ := List.getElem?_of_mem hx
      have := h2 q x (lt_of_at hq) hq
      simp only [wt]
      exact ⟨this.1, by omega⟩
    | cons y s =>
      have := hm y.a.toNat (by simp [mids, at_])
      omega
theorem Path.find1 {c : Core} {u : Nat} : ∀ {a v : Nat} {e : List Bound}, Path c a e v → u ∈ at_ e → ∃ e1 e2, e = e1 ++ e2 ∧ Path c a e1 u ∧ Path c u e2 v ∧ u ∉ at_ e1
  | _, _, _, .nil a, h => by simp [at_] at h
  | _, _, _, @Path.cons _ x es v hx k, h => by
    simp only [at_, List.map_cons, List.mem_cons] at h
    by_cases hu : u = x.a.toNat
    · subst hu
      exact ⟨[], x :: es, rfl, .nil _, .cons hx k, by simp [at_]⟩
    · rcases h with h | h
      · exact absurd h hu
      · obtain ⟨e1, e2, he, h1, h2, h3⟩ := Path.find1 k h
        exact ⟨x :: e1, e2, by rw [he]; rfl, .cons hx h1, h2, by simp only [at_, List.map_cons, List.mem_cons]; rintro (h | h); exact hu h; exact h3 h⟩
theorem at_app (a b : List Bound) : at_ (a ++ b) = at_ a ++ at_ b := by simp [at_]
theorem mids_sub {e : List Bound} : ∀ u ∈ mids e, u ∈ at_ e := by
  intro u hu
  cases e with
  | nil => exact hu
  | cons x r => simp only [at_, List.map_cons, List.mem_cons]; exact .inr hu
/-- From K on, within K. -/
theorem TS.fromK {c : Core} {n K : Nat} {m : TM} {p : Nat → Int} (hp : Pot c p) (h : TS c n K m) (hK : K < n) : ∀ (l : Nat) (e : List Bound) (j : Nat), e.length ≤ l → Path c K e j → (∀ u ∈ mids e, u < K + 1) → (mg m K j).known = true ∧ (mg m K j).most ≤ wt e
  | 0, e, j, hlen, he, hm => by
    have : e = [] := List.eq_nil_of_length_eq_zero (by omega)
    subst this
    exact h.low K j [] hK he (by simp [mids])
  | l + 1, e, j, hlen, he, hm => by
    by_cases hin : K ∈ mids e
    · cases e with
      | nil => simp [mids] at hin
      | cons x r =>
        cases he with
        | cons hx k =>
          obtain ⟨s1, s2, hs, p1, p2, _⟩ := Path.find1 k hin
          have hc : Path c x.a.toNat (x :: s1) x.a.toNat := .cons hx p1
          have hw := hc.pot hp
          have hlen2 : s2.length ≤ l := by have : r.length = (s1 ++ s2).length := by rw [hs]
                                           simp at this hlen; omega
          obtain ⟨q1, q2⟩ := TS.fromK hp h hK l s2 j hlen2 p2 (fun u hu => hm u (by show u ∈ at_ r; rw [hs, at_app]; exact List.mem_append_right _ (mids_sub u hu)))
          refine ⟨q1, ?_⟩
          have hw2 : wt (x :: r) = wt (x :: s1) + wt s2 := by rw [hs, ← List.cons_append, wt_append]
          omega
    · exact h.low K j e hK he (fun u hu => by
        have h1 := hm u hu
        have h2 : u ≠ K := fun e' => hin (e' ▸ hu)
        omega)
theorem TS.step {c : Core} {n K : Nat} {m : TM} {p : Nat → Int} {B : Int} (hl : Lay c n) (hp : Pot c p) (hB : 0 ≤ B) (h0 : TInv n p B m) (h : TS c n K m) (hK : K < n) : TS c n (K + 1) (fwI n m K n) := by
  have cell : ∀ a b : Nat, a < n → b < n → mg (fwI n m K n) a b = tighter (mg m a b) (tover (mg m a K) (mg m K b)) := fun a b ha hb => by rw [fwI_cell hB h0 hK n (Nat.le_refl n) a b ha hb, if_pos ha]
  refine ⟨fun i j hi hj hk => ?_, fun i j e hi he hm => ?_⟩
  · rw [cell i j hi hj] at *
    rcases (tighter_spec _ _).2.2 hk with ⟨q1, q2⟩ | ⟨q1, q2⟩
    · obtain ⟨e, he, hw⟩ := h.real i j hi hj q1
      exact ⟨e, he, by rw [hw, q2]⟩
    · simp only [tover, Bool.and_eq_true] at q1
      obtain ⟨e1, he1, hw1⟩ := h.real i K hi hK q1.1
      obtain ⟨e2, he2, hw2⟩ := h.real K j hK hj q1.2
      exact ⟨e1 ++ e2, he1.append he2, by rw [wt_append, hw1, hw2, q2]; rfl⟩
  · have hj := he.lt hl hi
    rw [cell i j hi hj]
    by_cases hin : K ∈ mids e
    · cases e with
      | nil => simp [mids] at hin
      | cons x r =>
        cases he with
        | cons hx k =>
          obtain ⟨s1, s2, hs, p1, p2, hno⟩ := Path.find1 k hin
          have c1 : Path c x.a.toNat (x :: s1) K := .cons hx p1
          obtain ⟨q1, q2⟩ := h.low _ K (x :: s1) hi c1 (fun u hu => by
            have h1 := hm u (by show u ∈ at_ r; rw [hs, at_app]; exact List.mem_append_left _ hu)
            have h2 : u ≠ K := fun e' => hno (e' ▸ hu)
            omega)
          obtain ⟨q3, q4⟩ := TS.fromK hp h hK _ s2 j (Nat.le_refl _) p2 (fun u hu => hm u (by show u ∈ at_ r; rw [hs, at_app]; exact List.mem_append_right _ (mids_sub u hu)))
          have hw2 : wt (x :: r) = wt (x :: s1) + wt s2 := by rw [hs, ← List.cons_append, wt_append]
          obtain ⟨r1, r2⟩ := (tighter_spec (mg m x.a.toNat j) (tover (mg m x.a.toNat K) (mg m K j))).2.1 (by simp [tover, q1, q3])
          refine ⟨r1, ?_⟩
          simp only [tover] at r2 ⊢
          omega
    · obtain ⟨q1, q2⟩ := h.low i j e hi he (fun u hu => by
        have h1 := hm u hu
        have h2 : u ≠ K := fun e' => hin (e' ▸ hu)
        omega)
      obtain ⟨r1, r2⟩ := (tighter_spec (mg m i j) (tover (mg m i K) (mg m K j))).1 q1
      exact ⟨r1, by omega⟩
theorem tK_spec {c : Core} {p : Nat → Int} (hv : validate c = 0) (hp : Pot c p) : ∀ K : Nat, K ≤ c.layers.toNat → TS c c.layers.toNat K (tK c K)
  | 0, _ => TS.base hv hp
  | K + 1, hK => TS.step (lay_of hv) hp (by omega) (tK_inv hv hp (k := K) (by omega)) (tK_spec hv hp K (by omega)) (by omega)
/-- The table, in words of paths. -/
theorem table_spec {c : Core} (hv : validate c = 0) (hc : clashes c = false) {i j : Nat} (hi : i < c.layers.toNat) (hj : j < c.layers.toNat) :
    ((mg (table c) i j).known = true → ∃ e, Path c i e j ∧ wt e = (mg (table c) i j).most) ∧ (∀ e, Path c i e j → (mg (table c) i j).known = true ∧ (mg (table c) i j).most ≤ wt e) := by
  have h := tK_spec hv (pot_of hv hc) c.layers.toNat (Nat.le_refl _)
  have hl := lay_of hv
  exact ⟨h.real i j hi hj, fun e he => h.low i j e hi he (fun u hu => he.at_lt hl u (mids_sub u hu))⟩
theorem table_wN {c : Core} (hv : validate c = 0) (hc : clashes c = false) {i j : Nat} (hi : i < c.layers.toNat) (hj : j < c.layers.toNat) :
    (mg (table c) i j).known = kn (wN c i c.layers.toNat) j ∧ ((mg (table c) i j).known = true → (mg (table c) i j).most = sm (wN c i c.layers.toNat) j) := by
  have hl := lay_of hv
  have hn := noNeg_of hl (by rw [← clash_iff hv]; exact hc)
  obtain ⟨t1, t2⟩ := table_spec hv hc hi hj
  obtain ⟨w1, w2⟩ := wN_spec hl hi c.layers.toNat j
  have fwd : (mg (table c) i j).known = true → kn (wN c i c.layers.toNat) j = true ∧ sm (wN c i c.layers.toNat) j ≤ (mg (table c) i j).most := fun hk => by
    obtain ⟨e, he, hw⟩ := t1 hk
    obtain ⟨e', p1, p2, p3⟩ := Path.short hl hn hi _ e (Nat.le_refl _) he
    obtain ⟨q1, q2⟩ := w2 e' p1 (by omega)
    exact ⟨q1, by omega⟩
  have bwd : kn (wN c i c.layers.toNat) j = true → (mg (table c) i j).known = true ∧ (mg (table c) i j).most ≤ sm (wN c i c.layers.toNat) j := fun hk => by
    obtain ⟨e, he, _, hw⟩ := w1 hk
    obtain ⟨q1, q2⟩ := t2 e he
    exact ⟨q1, by omega⟩
  refine ⟨?_, fun hk => ?_⟩
  · cases h1 : (mg (table c) i j).known
    · cases h2 : kn (wN c i c.layers.toNat) j
      · rfl
      · have := (bwd h2).1; rw [h1] at this; cases this
    · exact (fwd h1).1.symm
  · have h1 := fwd hk
    have h2 := bwd h1.1
    omega
end Go.Core

namespace Go.Core
open Go.Tb
/-- Two layers. -/
structure Two where
  a : Int
  b : Int
end Go.Core

set_option linter.unusedVariables false
namespace Go.D3
open Go.Tb Go.Core
def slices_Repeat_int (a0 : List Int) (a1 : Int) : Option (List Int) :=
  match a0 with
  | [v] => gd (1 ≤ a1 ∧ a1 ≤ 8) <| some (List.replicate a1.toNat v)
  | _ => none
end Go.D3

set_option linter.unusedVariables false
set_option linter.unusedSimpArgs false
namespace Go.D3
open Go.Tb Go.Proofs Go.RowKit Go.Core
theorem slices_Repeat_int_ok {a0 : List Int} {a1 : Int} {A_a0 : Option Addr} {c_a0 : Nat} {w : World} {res : List Int} (h_a0 : Sl w A_a0 c_a0 1 (a0.map encN)) (F : slices_Repeat_int a0 a1 = some res) : Calls Try.prog 87 #[.slice A_a0 a0.length c_a0, .int .i64 a1] w (fun e w' => ∃ (A0 : Option Addr) (c0 : Nat), e = .returned (.slice A0 res.length c0) ∧ Hp w w' [.own A0 c0 3 1 (List.map encN res)]) := by
  unfold slices_Repeat_int at F
  split at F
  · rename_i v
    obtain ⟨hc, F⟩ := gd_some F
    cases F
    exact Go.Core.slices_Repeat (x := [v]) h_a0 rfl hc
  · cases F
end Go.D3

set_option linter.unusedVariables false
namespace Go.D3
open Go.Tb Go.Core
def encBound (x : Bound) : List Value := [.int .i64 x.a, .int .i64 x.b, .int .i64 x.most]
def law03_Long (a0 : Core) : Option Bool :=
  some (decide ((100 : Int) < ((a0.bounds.length : Int))))
def core_within (a0 : Int) (a1 : Int) (a2 : Int) : Option Bool :=
  if a1 ≤ a0 then
    some (decide (a0 ≤ a2))
  else
    some false
def core_right (a0 : Bound) (a1 : Int) : Option Bool :=
  gd (InR (a1 - 1)) <|
  bnd (core_within a0.a ((0 : Int)) (a1 - 1)) fun r1 =>
  if r1 = true then
    gd (InR (a1 - 1)) <|
    bnd (core_within a0.b ((0 : Int)) (a1 - 1)) fun r2 =>
    if r2 = true then
      if a0.a = a0.b then
        some false
      else
        bnd (core_within a0.most ((-10000 : Int)) ((10000 : Int))) fun r3 =>
        some r3
    else
      some false
  else
    some false
def core_Validate_k1 : Option Int :=
  some ((0 : Int))
def core_Validate_B1 (a0 : Core) (rec1 : Int → Option Int) (t16_1 : Int) : Option Int :=
  if t16_1 < ((a0.bounds.length : Int)) then
    ix a0.bounds t16_1 fun x1 =>
    bnd (core_right x1 a0.layers) fun r1 =>
    if r1 = true then
      gd (InR (t16_1 + 1)) <|
      rec1 ((t16_1 + 1))
    else
      some ((1 : Int))
  else
    core_Validate_k1
def core_Validate_L1 (a0 : Core) : Nat → Int → Option Int
  | 0, _ => none
  | n_ + 1, t16_1 => core_Validate_B1 a0 (core_Validate_L1 a0 n_) t16_1
theorem core_Validate_L1_s {a0 : Core} {m_ : Nat} {t16_1 : Int} {res : Int} (h : core_Validate_L1 a0 m_ t16_1 = some res) : ∃ k, m_ = k + 1 ∧ core_Validate_B1 a0 (core_Validate_L1 a0 k) t16_1 = some res := by
  cases m_ with
  | zero => cases h
  | succ k => exact ⟨k, rfl, h⟩
def core_Validate (a0 : Core) : Option Int :=
  bnd (core_within a0.layers ((1 : Int)) ((8 : Int))) fun r2 =>
  if r2 = true then
    if (20 : Int) < ((a0.bounds.length : Int)) then
      some ((3 : Int))
    else
      core_Validate_L1 a0 FU (((0 : Int)))
  else
    some ((1 : Int))
def core_layers_k1 : Option Int :=
  some ((0 : Int))
def core_layers_B1 (a0 : Core) (a1 : List Int) (rec1 : Int → Option Int) (t15_1 : Int) : Option Int :=
  if t15_1 < ((a1.length : Int)) then
    ix a1 t15_1 fun x1 =>
    gd (InR (a0.layers - 1)) <|
    bnd (core_within x1 ((0 : Int)) (a0.layers - 1)) fun r1 =>
    if r1 = true then
      gd (InR (t15_1 + 1)) <|
      rec1 ((t15_1 + 1))
    else
      some ((4 : Int))
  else
    core_layers_k1
def core_layers_L1 (a0 : Core) (a1 : List Int) : Nat → Int → Option Int
  | 0, _ => none
  | n_ + 1, t15_1 => core_layers_B1 a0 a1 (core_layers_L1 a0 a1 n_) t15_1
theorem core_layers_L1_s {a0 : Core} {a1 : List Int} {m_ : Nat} {t15_1 : Int} {res : Int} (h : core_layers_L1 a0 a1 m_ t15_1 = some res) : ∃ k, m_ = k + 1 ∧ core_layers_B1 a0 a1 (core_layers_L1 a0 a1 k) t15_1 = some res := by
  cases m_ with
  | zero => cases h
  | succ k => exact ⟨k, rfl, h⟩
def core_layers (a0 : Core) (a1 : List Int) : Option Int :=
  bnd (core_Validate a0) fun r2 =>
  if r2 = 0 then
    core_layers_L1 a0 a1 FU (((0 : Int)))
  else
    some r2
def core_relax_k1 (t4_1 : Int) (l1 : List Int) (l2 : List Int) : Option ((List Int) × (List Int) × Int) :=
  some (l1, l2, t4_1)
def core_relax_k2 (t16_1 : Int) (rec1 : Int → Int → (List Int) → (List Int) → Option ((List Int) × (List Int) × Int)) (t4_2 : Int) (l3 : List Int) (l4 : List Int) : Option ((List Int) × (List Int) × Int) :=
  gd (InR (t16_1 + 1)) <|
  rec1 t4_2 ((t16_1 + 1)) l3 l4
def core_relax_k3 (t21_1 : Int) (rec2 : Int → Int → (List Int) → (List Int) → Option ((List Int) × (List Int) × Int)) (t4_3 : Int) (l5 : List Int) (l6 : List Int) : Option ((List Int) × (List Int) × Int) :=
  gd (InR (t21_1 + 1)) <|
  rec2 t4_3 ((t21_1 + 1)) l5 l6
def core_relax_B1 (a0 : Core) (t16_1 : Int) (rec1 : Int → Int → (List Int) → (List Int) → Option ((List Int) × (List Int) × Int)) (rec2 : Int → Int → (List Int) → (List Int) → Option ((List Int) × (List Int) × Int)) (t4_4 : Int) (t21_1 : Int) (l7 : List Int) (l8 : List Int) : Option ((List Int) × (List Int) × Int) :=
  if t21_1 < ((a0.bounds.length : Int)) then
    ix a0.bounds t21_1 fun x1 =>
    ix l7 x1.a fun x2 =>
    gd (InR (x2 + x1.most)) <|
    ix l7 x1.b fun x3 =>
    if (x2 + x1.most) < x3 then
      ix l7 x1.a fun x4 =>
      gd (InR (x4 + x1.most)) <|
      ix l7 x1.b fun x5 =>
      ix l8 x1.b fun x6 =>
      core_relax_k3 t21_1 rec2 x1.b (((l7.set (Int.toNat x1.b) (x4 + x1.most)))) (((l8.set (Int.toNat x1.b) t21_1)))
    else
      core_relax_k3 t21_1 rec2 t4_4 l7 l8
  else
    core_relax_k2 t16_1 rec1 t4_4 l7 l8
def core_relax_L1 (a0 : Core) (t16_1 : Int) (rec1 : Int → Int → (List Int) → (List Int) → Option ((List Int) × (List Int) × Int)) : Nat → Int → Int → (List Int) → (List Int) → Option ((List Int) × (List Int) × Int)
  | 0, _, _, _, _ => none
  | n_ + 1, t4_4, t21_1, l7, l8 => core_relax_B1 a0 t16_1 rec1 (core_relax_L1 a0 t16_1 rec1 n_) t4_4 t21_1 l7 l8
theorem core_relax_L1_s {a0 : Core} {t16_1 : Int} {rec1 : Int → Int → (List Int) → (List Int) → Option ((List Int) × (List Int) × Int)} {m_ : Nat} {t4_4 : Int} {t21_1 : Int} {l7 : List Int} {l8 : List Int} {res : (List Int) × (List Int) × Int} (h : core_relax_L1 a0 t16_1 rec1 m_ t4_4 t21_1 l7 l8 = some res) : ∃ k, m_ = k + 1 ∧ core_relax_B1 a0 t16_1 rec1 (core_relax_L1 a0 t16_1 rec1 k) t4_4 t21_1 l7 l8 = some res := by
  cases m_ with
  | zero => cases h
  | succ k => exact ⟨k, rfl, h⟩
def core_relax_B2 (a0 : Core) (rec1 : Int → Int → (List Int) → (List Int) → Option ((List Int) × (List Int) × Int)) (t4_5 : Int) (t16_1 : Int) (l9 : List Int) (l10 : List Int) : Option ((List Int) × (List Int) × Int) :=
  if t16_1 < a0.layers then
    core_relax_L1 a0 t16_1 rec1 FU (((-1 : Int))) (((0 : Int))) l9 l10
  else
    core_relax_k1 t4_5 l9 l10
def core_relax_L2 (a0 : Core) : Nat → Int → Int → (List Int) → (List Int) → Option ((List Int) × (List Int) × Int)
  | 0, _, _, _, _ => none
  | n_ + 1, t4_5, t16_1, l9, l10 => core_relax_B2 a0 (core_relax_L2 a0 n_) t4_5 t16_1 l9 l10
theorem core_relax_L2_s {a0 : Core} {m_ : Nat} {t4_5 : Int} {t16_1 : Int} {l9 : List Int} {l10 : List Int} {res : (List Int) × (List Int) × Int} (h : core_relax_L2 a0 m_ t4_5 t16_1 l9 l10 = some res) : ∃ k, m_ = k + 1 ∧ core_relax_B2 a0 (core_relax_L2 a0 k) t4_5 t16_1 l9 l10 = some res := by
  cases m_ with
  | zero => cases h
  | succ k => exact ⟨k, rfl, h⟩
def core_relax (a0 : Core) : Option ((List Int) × (List Int) × Int) :=
  gd (0 ≤ a0.layers ∧ a0.layers ≤ 1000000) <|
  bnd (slices_Repeat_int (([-1] : List Int)) a0.layers) fun r1 =>
  core_relax_L2 a0 FU (((0 : Int))) (((0 : Int))) (((List.replicate (Int.toNat a0.layers) (0 : Int)))) r1
end Go.D3

set_option linter.unusedVariables false
set_option linter.unusedSimpArgs false
namespace Go.D3
open Go.Tb Go.Proofs Go.RowKit Go.Core
theorem Tc36 : callable Try.prog 36 = true := by kernel_rfl
theorem Tc59 : callable Try.prog 59 = true := by kernel_rfl
theorem Tc70 : callable Try.prog 70 = true := by kernel_rfl
theorem Tc87 : callable Try.prog 87 = true := by kernel_rfl
theorem Tf24_0 : tyF Try.prog 24 0 = some 0 := by kernel_rfl
theorem Tf24_1 : tyF Try.prog 24 1 = some 1 := by kernel_rfl
theorem Tf26_0 : tyF Try.prog 26 0 = some 0 := by kernel_rfl
theorem Tf26_1 : tyF Try.prog 26 1 = some 1 := by kernel_rfl
theorem Tf26_2 : tyF Try.prog 26 2 = some 2 := by kernel_rfl
theorem Tk22 : tyK Try.prog 22 = some (false, 1) := by kernel_rfl
theorem Tk24 : tyK Try.prog 24 = some (true, 2) := by kernel_rfl
theorem Tk26 : tyK Try.prog 26 = some (true, 3) := by kernel_rfl
theorem Tk3 : tyK Try.prog 3 = some (false, 1) := by kernel_rfl
theorem mixed : Try.prog.follows .mixedOrders = true := by kernel_rfl
theorem Ts22 : tyS Try.prog 22 = some (26, 3, 24, [.int .i64 0, .int .i64 0, .int .i64 0]) := by kernel_rfl
theorem Ts43 : tyS Try.prog 43 = some (3, 1, 8, [.int .i64 0]) := by kernel_rfl
theorem Tz26 : tyZ Try.prog 26 = some (.agg #[.int .i64 0, .int .i64 0, .int .i64 0]) := by kernel_rfl
set_option maxRecDepth 20000 in
set_option maxHeartbeats 1000000 in
theorem law03_Long_ok {a0 : Core} {A_a0_bounds : Option Addr} {c_a0_bounds : Nat} {w : World} {res : Bool} (h_a0_bounds : Sl w A_a0_bounds c_a0_bounds 3 (a0.bounds.map encBound)) (F : law03_Long a0 = some res) : Calls Try.prog 17 #[.agg #[.int .i64 a0.layers, .slice A_a0_bounds a0.bounds.length c_a0_bounds]] w (Rt w (.bool res)) := by
  refine calls_of_cw (args := [.agg #[.int .i64 a0.layers, .slice A_a0_bounds a0.bounds.length c_a0_bounds]]) Try.func17 rfl rfl rfl rfl ?_
  have H := Hp.start w
  have R0 := H.ext
  unfold law03_Long at F
  refine CW.seq fun K1 hK1 => ?_
  refine CW.region ?_
  refine LW.go rfl rfl (OW.box rfl fun b1 w1 N1 => ?_)
  replace H := H.new N1 N1.blk
  replace R0 := H.ext
  refine LW.pure rfl rfl (RV.assign rfl) ?_
  refine LW.nil (hK1 _ _ ?_)
  refine CW.seq fun K2 hK2 => ?_
  refine CW.region ?_
  refine LW.pure rfl rfl (RV.fieldAddr Tf24_1 rfl) ?_
  refine LW.pure rfl rfl (RV.load1 Tk22 rfl ((H.blk 0 rfl).cells.off 1) rfl) ?_
  refine LW.pure rfl rfl (RV.len Ts22 rfl) ?_
  refine LW.pure rfl rfl (RV.gtr rfl rfl) ?_
  refine LW.pure rfl rfl (RV.assign rfl) ?_
  refine LW.nil (hK2 _ _ ?_)
  refine CW.ret ?_
  obtain rfl := Option.some.inj F
  refine ⟨_, (ResOK.one rfl), ?_⟩
  refine ⟨(by first | rfl | simp), R0⟩
set_option maxRecDepth 20000 in
set_option maxHeartbeats 1000000 in
theorem core_within_ok {a0 : Int} {a1 : Int} {a2 : Int} {w : World} {res : Bool} (F : core_within a0 a1 a2 = some res) : Calls Try.prog 70 #[.int .i64 a0, .int .i64 a1, .int .i64 a2] w (Rt w (.bool res)) := by
  refine calls_of_cw (args := [.int .i64 a0, .int .i64 a1, .int .i64 a2]) Try.func70 rfl rfl rfl rfl ?_
  have H := Hp.start w
  have R0 := H.ext
  unfold core_within at F
  refine CW.seq fun K1 hK1 => ?_
  refine CW.region ?_
  refine LW.pure rfl rfl (RV.assign rfl) ?_
  refine LW.nil (hK1 _ _ ?_)
  refine CW.seq fun K2 hK2 => ?_
  by_cases hp1 : a1 ≤ a0
  ·
    replace F := ite_y hp1 F
    have hq1 := dec_t hp1
    refine CW.region ?_
    refine LW.pure rfl rfl (RV.move rfl) ?_
    refine LW.pure rfl rfl (RV.move rfl) ?_
    refine LW.pure rfl rfl (RV.geq rfl rfl) ?_
    refine LW.pure rfl rfl (RV.move rfl) ?_
    refine LW.pureYB rfl rfl rfl rfl hq1 (RV.move rfl) ?_
    refine LW.pureYB rfl rfl rfl rfl hq1 (RV.move rfl) ?_
    refine LW.pureYB rfl rfl rfl rfl hq1 (RV.leq rfl rfl) ?_
    refine LW.pure rfl rfl (RV.pickTB rfl hq1 rfl) ?_
    refine LW.pure rfl rfl (RV.assign rfl) ?_
    refine LW.nil (hK2 _ _ ?_)
    refine CW.ret ?_
    obtain rfl := Option.some.inj F
    refine ⟨_, (ResOK.one rfl), ?_⟩
    refine ⟨(by first | rfl | simp), R0⟩
  ·
    replace F := ite_n hp1 F
    have hq1 := dec_f hp1
    refine CW.region ?_
    refine LW.pure rfl rfl (RV.move rfl) ?_
    refine LW.pure rfl rfl (RV.move rfl) ?_
    refine LW.pure rfl rfl (RV.geq rfl rfl) ?_
    refine LW.pure rfl rfl (RV.move rfl) ?_
    refine LW.noB rfl rfl rfl rfl (ne_beq (v := false) hq1 rfl) ?_
    refine LW.noB rfl rfl rfl rfl (ne_beq (v := false) hq1 rfl) ?_
    refine LW.noB rfl rfl rfl rfl (ne_beq (v := false) hq1 rfl) ?_
    refine LW.pure rfl rfl (RV.pickFB rfl hq1 rfl) ?_
    refine LW.pure rfl rfl (RV.assign rfl) ?_
    refine LW.nil (hK2 _ _ ?_)
    refine CW.ret ?_
    obtain rfl := Option.some.inj F
    refine ⟨_, (ResOK.one rfl), ?_⟩
    refine ⟨(by first | rfl | simp), R0⟩
set_option maxRecDepth 20000 in
set_option maxHeartbeats 1000000 in
theorem core_right_ok {a0 : Bound} {a1 : Int} {w : World} {res : Bool} (F : core_right a0 a1 = some res) : Calls Try.prog 59 #[.agg #[.int .i64 a0.a, .int .i64 a0.b, .int .i64 a0.most], .int .i64 a1] w (Rt w (.bool res)) := by
  refine calls_of_cw (args := [.agg #[.int .i64 a0.a, .int .i64 a0.b, .int .i64 a0.most], .int .i64 a1]) Try.func59 rfl rfl rfl rfl ?_
  have H := Hp.start w
  have R0 := H.ext
  unfold core_right at F
  refine CW.seq fun K1 hK1 => ?_
  refine CW.region ?_
  refine LW.go rfl rfl (OW.box rfl fun b1 w1 N1 => ?_)
  replace H := H.new N1 N1.blk
  replace R0 := H.ext
  refine LW.pure rfl rfl (RV.assign rfl) ?_
  refine LW.nil (hK1 _ _ ?_)
  refine CW.seq fun K2 hK2 => ?_
  obtain ⟨hg1, F⟩ := gd_some F
  obtain ⟨r1, hr1, F⟩ := bnd_some F
  by_cases hp1 : r1 = true
  ·
    replace F := ite_y hp1 F
    have hq1 : r1 = true := hp1
    obtain ⟨hg2, F⟩ := gd_some F
    obtain ⟨r2, hr2, F⟩ := bnd_some F
    by_cases hp2 : r2 = true
    ·
      replace F := ite_y hp2 F
      have hq2 : r2 = true := hp2
      by_cases hp3 : a0.a = a0.b
      ·
        replace F := ite_y hp3 F
        have hq3 := dec_t hp3
        refine CW.region ?_
        refine LW.pure rfl rfl (RV.fieldAddr Tf26_0 rfl) ?_
        refine LW.pure rfl rfl (RV.load1 Tk3 rfl ((H.blk 0 rfl).cells.off 0) rfl) ?_
        refine LW.pure rfl rfl (RV.move rfl) ?_
        refine LW.pure rfl rfl (RV.sub rfl rfl hg1) ?_
        refine LW.go rfl rfl (OW.call Tc70 rfl (core_within_ok (a0 := a0.a) (a1 := (0 : Int)) (a2 := a1 - 1) hr1) ?_)
        rintro _ w2 ⟨rfl, E1⟩
        refine ⟨_, rfl, ?_⟩
        replace H := H.grow E1
        replace R0 := H.ext
        refine LW.pure rfl rfl (RV.move rfl) ?_
        refine LW.pureYB rfl rfl rfl rfl hq1 (RV.fieldAddr Tf26_1 rfl) ?_
        refine LW.pureYB rfl rfl rfl rfl hq1 (RV.load1 Tk3 rfl ((H.blk 0 rfl).cells.off 1) rfl) ?_
        refine LW.pureYB rfl rfl rfl rfl hq1 (RV.move rfl) ?_
        refine LW.pureYB rfl rfl rfl rfl hq1 (RV.sub rfl rfl hg2) ?_
        refine LW.yesB rfl rfl rfl rfl hq1 (OW.call Tc70 rfl (core_within_ok (a0 := a0.b) (a1 := (0 : Int)) (a2 := a1 - 1) hr2) ?_)
        rintro _ w3 ⟨rfl, E2⟩
        refine ⟨_, rfl, ?_⟩
        replace H := H.grow E2
        replace R0 := H.ext
        refine LW.pure rfl rfl (RV.pickTB rfl hq1 rfl) ?_
        refine LW.pure rfl rfl (RV.move rfl) ?_
        refine LW.pureYB rfl rfl rfl rfl hq2 (RV.fieldAddr Tf26_0 rfl) ?_
        refine LW.pureYB rfl rfl rfl rfl hq2 (RV.load1 Tk3 rfl ((H.blk 0 rfl).cells.off 0) rfl) ?_
        refine LW.pureYB rfl rfl rfl rfl hq2 (RV.fieldAddr Tf26_1 rfl) ?_
        refine LW.pureYB rfl rfl rfl rfl hq2 (RV.load1 Tk3 rfl ((H.blk 0 rfl).cells.off 1) rfl) ?_
        refine LW.pureYB rfl rfl rfl rfl hq2 (RV.nei rfl rfl) ?_
        refine LW.pure rfl rfl (RV.pickTB rfl hq2 rfl) ?_
        refine LW.pure rfl rfl (RV.move rfl) ?_
        refine LW.noB rfl rfl rfl rfl (ne_beq (v := false) (not_f hq3) rfl) ?_
        refine LW.noB rfl rfl rfl rfl (ne_beq (v := false) (not_f hq3) rfl) ?_
        refine LW.noB rfl rfl rfl rfl (ne_beq (v := false) (not_f hq3) rfl) ?_
        refine LW.pure rfl rfl (RV.pickFB rfl (not_f hq3) rfl) ?_
        refine LW.pure rfl rfl (RV.assign rfl) ?_
        refine LW.nil (hK2 _ _ ?_)
        refine CW.ret ?_
        obtain rfl := Option.some.inj F
        refine ⟨_, (ResOK.one rfl), ?_⟩
        refine ⟨(by first | rfl | simp), R0⟩
      ·
        replace F := ite_n hp3 F
        have hq3 := dec_f hp3
        obtain ⟨r3, hr3, F⟩ := bnd_some F
        refine CW.region ?_
        refine LW.pure rfl rfl (RV.fieldAddr Tf26_0 rfl) ?_
        refine LW.pure rfl rfl (RV.load1 Tk3 rfl ((H.blk 0 rfl).cells.off 0) rfl) ?_
        refine LW.pure rfl rfl (RV.move rfl) ?_
        refine LW.pure rfl rfl (RV.sub rfl rfl hg1) ?_
        refine LW.go rfl rfl (OW.call Tc70 rfl (core_within_ok (a0 := a0.a) (a1 := (0 : Int)) (a2 := a1 - 1) hr1) ?_)
        rintro _ w4 ⟨rfl, E3⟩
        refine ⟨_, rfl, ?_⟩
        replace H := H.grow E3
        replace R0 := H.ext
        refine LW.pure rfl rfl (RV.move rfl) ?_
        refine LW.pureYB rfl rfl rfl rfl hq1 (RV.fieldAddr Tf26_1 rfl) ?_
        refine LW.pureYB rfl rfl rfl rfl hq1 (RV.load1 Tk3 rfl ((H.blk 0 rfl).cells.off 1) rfl) ?_
        refine LW.pureYB rfl rfl rfl rfl hq1 (RV.move rfl) ?_
        refine LW.pureYB rfl rfl rfl rfl hq1 (RV.sub rfl rfl hg2) ?_
        refine LW.yesB rfl rfl rfl rfl hq1 (OW.call Tc70 rfl (core_within_ok (a0 := a0.b) (a1 := (0 : Int)) (a2 := a1 - 1) hr2) ?_)
        rintro _ w5 ⟨rfl, E4⟩
        refine ⟨_, rfl, ?_⟩
        replace H := H.grow E4
        replace R0 := H.ext
        refine LW.pure rfl rfl (RV.pickTB rfl hq1 rfl) ?_
        refine LW.pure rfl rfl (RV.move rfl) ?_
        refine LW.pureYB rfl rfl rfl rfl hq2 (RV.fieldAddr Tf26_0 rfl) ?_
        refine LW.pureYB rfl rfl rfl rfl hq2 (RV.load1 Tk3 rfl ((H.blk 0 rfl).cells.off 0) rfl) ?_
        refine LW.pureYB rfl rfl rfl rfl hq2 (RV.fieldAddr Tf26_1 rfl) ?_
        refine LW.pureYB rfl rfl rfl rfl hq2 (RV.load1 Tk3 rfl ((H.blk 0 rfl).cells.off 1) rfl) ?_
        refine LW.pureYB rfl rfl rfl rfl hq2 (RV.nei rfl rfl) ?_
        refine LW.pure rfl rfl (RV.pickTB rfl hq2 rfl) ?_
        refine LW.pure rfl rfl (RV.move rfl) ?_
        refine LW.pureYB rfl rfl rfl rfl (not_t hq3) (RV.fieldAddr Tf26_2 rfl) ?_
        refine LW.pureYB rfl rfl rfl rfl (not_t hq3) (RV.load1 Tk3 rfl ((H.blk 0 rfl).cells.off 2) rfl) ?_
        refine LW.yesB rfl rfl rfl rfl (not_t hq3) (OW.call Tc70 rfl (core_within_ok (a0 := a0.most) (a1 := (-10000 : Int)) (a2 := (10000 : Int)) hr3) ?_)
        rintro _ w6 ⟨rfl, E5⟩
        refine ⟨_, rfl, ?_⟩
        replace H := H.grow E5
        replace R0 := H.ext
        refine LW.pure rfl rfl (RV.pickTB rfl (not_t hq3) rfl) ?_
        refine LW.pure rfl rfl (RV.assign rfl) ?_
        refine LW.nil (hK2 _ _ ?_)
        refine CW.ret ?_
        obtain rfl := Option.some.inj F
        refine ⟨_, (ResOK.one rfl), ?_⟩
        refine ⟨(by first | rfl | simp), R0⟩
    ·
      replace F := ite_n hp2 F
      have hq2 : r2 = false := raw_f hp2
      refine CW.region ?_
      refine LW.pure rfl rfl (RV.fieldAddr Tf26_0 rfl) ?_
      refine LW.pure rfl rfl (RV.load1 Tk3 rfl ((H.blk 0 rfl).cells.off 0) rfl) ?_
      refine LW.pure rfl rfl (RV.move rfl) ?_
      refine LW.pure rfl rfl (RV.sub rfl rfl hg1) ?_
      refine LW.go rfl rfl (OW.call Tc70 rfl (core_within_ok (a0 := a0.a) (a1 := (0 : Int)) (a2 := a1 - 1) hr1) ?_)
      rintro _ w7 ⟨rfl, E6⟩
      refine ⟨_, rfl, ?_⟩
      replace H := H.grow E6
      replace R0 := H.ext
      refine LW.pure rfl rfl (RV.move rfl) ?_
      refine LW.pureYB rfl rfl rfl rfl hq1 (RV.fieldAddr Tf26_1 rfl) ?_
      refine LW.pureYB rfl rfl rfl rfl hq1 (RV.load1 Tk3 rfl ((H.blk 0 rfl).cells.off 1) rfl) ?_
      refine LW.pureYB rfl rfl rfl rfl hq1 (RV.move rfl) ?_
      refine LW.pureYB rfl rfl rfl rfl hq1 (RV.sub rfl rfl hg2) ?_
      refine LW.yesB rfl rfl rfl rfl hq1 (OW.call Tc70 rfl (core_within_ok (a0 := a0.b) (a1 := (0 : Int)) (a2 := a1 - 1) hr2) ?_)
      rintro _ w8 ⟨rfl, E7⟩
      refine ⟨_, rfl, ?_⟩
      replace H := H.grow E7
      replace R0 := H.ext
      refine LW.pure rfl rfl (RV.pickTB rfl hq1 rfl) ?_
      refine LW.pure rfl rfl (RV.move rfl) ?_
      refine LW.noB rfl rfl rfl rfl (ne_beq (v := false) hq2 rfl) ?_
      refine LW.noB rfl rfl rfl rfl (ne_beq (v := false) hq2 rfl) ?_
      refine LW.noB rfl rfl rfl rfl (ne_beq (v := false) hq2 rfl) ?_
      refine LW.noB rfl rfl rfl rfl (ne_beq (v := false) hq2 rfl) ?_
      refine LW.noB rfl rfl rfl rfl (ne_beq (v := false) hq2 rfl) ?_
      refine LW.pure rfl rfl (RV.pickFB rfl hq2 rfl) ?_
      refine LW.pure rfl rfl (RV.move rfl) ?_
      refine LW.noB rfl rfl rfl rfl (ne_beq (v := false) rfl rfl) ?_
      refine LW.noB rfl rfl rfl rfl (ne_beq (v := false) rfl rfl) ?_
      refine LW.noB rfl rfl rfl rfl (ne_beq (v := false) rfl rfl) ?_
      refine LW.pure rfl rfl (RV.pickFB rfl rfl rfl) ?_
      refine LW.pure rfl rfl (RV.assign rfl) ?_
      refine LW.nil (hK2 _ _ ?_)
      refine CW.ret ?_
      obtain rfl := Option.some.inj F
      refine ⟨_, (ResOK.one rfl), ?_⟩
      refine ⟨(by first | rfl | simp), R0⟩
  ·
    replace F := ite_n hp1 F
    have hq1 : r1 = false := raw_f hp1
    refine CW.region ?_
    refine LW.pure rfl rfl (RV.fieldAddr Tf26_0 rfl) ?_
    refine LW.pure rfl rfl (RV.load1 Tk3 rfl ((H.blk 0 rfl).cells.off 0) rfl) ?_
    refine LW.pure rfl rfl (RV.move rfl) ?_
    refine LW.pure rfl rfl (RV.sub rfl rfl hg1) ?_
    refine LW.go rfl rfl (OW.call Tc70 rfl (core_within_ok (a0 := a0.a) (a1 := (0 : Int)) (a2 := a1 - 1) hr1) ?_)
    rintro _ w9 ⟨rfl, E8⟩
    refine ⟨_, rfl, ?_⟩
    replace H := H.grow E8
    replace R0 := H.ext
    refine LW.pure rfl rfl (RV.move rfl) ?_
    refine LW.noB rfl rfl rfl rfl (ne_beq (v := false) hq1 rfl) ?_
    refine LW.noB rfl rfl rfl rfl (ne_beq (v := false) hq1 rfl) ?_
    refine LW.noB rfl rfl rfl rfl (ne_beq (v := false) hq1 rfl) ?_
    refine LW.noB rfl rfl rfl rfl (ne_beq (v := false) hq1 rfl) ?_
    refine LW.noB rfl rfl rfl rfl (ne_beq (v := false) hq1 rfl) ?_
    refine LW.pure rfl rfl (RV.pickFB rfl hq1 rfl) ?_
    refine LW.pure rfl rfl (RV.move rfl) ?_
    refine LW.noB rfl rfl rfl rfl (ne_beq (v := false) rfl rfl) ?_
    refine LW.noB rfl rfl rfl rfl (ne_beq (v := false) rfl rfl) ?_
    refine LW.noB rfl rfl rfl rfl (ne_beq (v := false) rfl rfl) ?_
    refine LW.noB rfl rfl rfl rfl (ne_beq (v := false) rfl rfl) ?_
    refine LW.noB rfl rfl rfl rfl (ne_beq (v := false) rfl rfl) ?_
    refine LW.pure rfl rfl (RV.pickFB rfl rfl rfl) ?_
    refine LW.pure rfl rfl (RV.move rfl) ?_
    refine LW.noB rfl rfl rfl rfl (ne_beq (v := false) rfl rfl) ?_
    refine LW.noB rfl rfl rfl rfl (ne_beq (v := false) rfl rfl) ?_
    refine LW.noB rfl rfl rfl rfl (ne_beq (v := false) rfl rfl) ?_
    refine LW.pure rfl rfl (RV.pickFB rfl rfl rfl) ?_
    refine LW.pure rfl rfl (RV.assign rfl) ?_
    refine LW.nil (hK2 _ _ ?_)
    refine CW.ret ?_
    obtain rfl := Option.some.inj F
    refine ⟨_, (ResOK.one rfl), ?_⟩
    refine ⟨(by first | rfl | simp), R0⟩
set_option maxRecDepth 20000 in
set_option maxHeartbeats 1000000 in
theorem core_Validate_ok {a0 : Core} {A_a0_bounds : Option Addr} {c_a0_bounds : Nat} {w : World} {res : Int} (h_a0_bounds : Sl w A_a0_bounds c_a0_bounds 3 (a0.bounds.map encBound)) (F : core_Validate a0 = some res) : Calls Try.prog 36 #[.agg #[.int .i64 a0.layers, .slice A_a0_bounds a0.bounds.length c_a0_bounds]] w (Rt w (.int .i64 res)) := by
  refine calls_of_cw (args := [.agg #[.int .i64 a0.layers, .slice A_a0_bounds a0.bounds.length c_a0_bounds]]) Try.func36 rfl rfl rfl rfl ?_
  have H := Hp.start w
  have R0 := H.ext
  unfold core_Validate at F
  refine CW.seq fun K1 hK1 => ?_
  refine CW.region ?_
  refine LW.go rfl rfl (OW.box rfl fun b1 w1 N1 => ?_)
  replace H := H.new N1 N1.blk
  replace R0 := H.ext
  refine LW.pure rfl rfl (RV.assign rfl) ?_
  refine LW.nil (hK1 _ _ ?_)
  refine CW.seq fun K2 hK2 => ?_
  refine CW.seq fun K3 hK3 => ?_
  obtain ⟨r2, hr2, F⟩ := bnd_some F
  refine CW.region ?_
  refine LW.pure rfl rfl (RV.fieldAddr Tf24_0 rfl) ?_
  refine LW.pure rfl rfl (RV.load1 Tk3 rfl ((H.blk 0 rfl).cells.off 0) rfl) ?_
  refine LW.go rfl rfl (OW.call Tc70 rfl (core_within_ok (a0 := a0.layers) (a1 := (1 : Int)) (a2 := (8 : Int)) hr2) ?_)
  rintro _ w2 ⟨rfl, E1⟩
  refine ⟨_, rfl, ?_⟩
  replace H := H.grow E1
  replace R0 := H.ext
  refine LW.pure rfl rfl (RV.not rfl) ?_
  refine LW.nil (hK3 _ _ ?_)
  by_cases hp1 : r2 = true
  ·
    replace F := ite_y hp1 F
    have hq1 : r2 = true := hp1
    refine CW.condF rfl (not_f hq1) ?_
    refine CW.skip (hK2 _ _ ?_)
    refine CW.seq fun K4 hK4 => ?_
    refine CW.seq fun K5 hK5 => ?_
    refine CW.region ?_
    refine LW.pure rfl rfl (RV.fieldAddr Tf24_1 rfl) ?_
    refine LW.pure rfl rfl (RV.load1 Tk22 rfl ((H.blk 0 rfl).cells.off 1) rfl) ?_
    refine LW.pure rfl rfl (RV.len Ts22 rfl) ?_
    refine LW.pure rfl rfl (RV.gtr rfl rfl) ?_
    refine LW.nil (hK5 _ _ ?_)
    by_cases hp2 : (20 : Int) < ((a0.bounds.length : Int))
    ·
      replace F := ite_y hp2 F
      have hq2 := dec_t hp2
      refine CW.condT rfl hq2 ?_
      refine CW.seq fun K6 hK6 => ?_
      refine CW.region ?_
      refine LW.pure rfl rfl (RV.assign rfl) ?_
      refine LW.nil (hK6 _ _ ?_)
      refine CW.ret ?_
      obtain rfl := Option.some.inj F
      refine ⟨_, (ResOK.one rfl), ?_⟩
      refine ⟨(by first | rfl | simp), R0⟩
    ·
      replace F := ite_n hp2 F
      have hq2 := dec_f hp2
      refine CW.condF rfl hq2 ?_
      refine CW.skip (hK4 _ _ ?_)
      refine CW.seqJ (fun ρ wl1 => (core_Validate_k1 = some res ∧ ρ = [(2, .int .i64 0)] ∧ Hp w wl1 [])) ?_ ?_
      ·
        rintro _ wl1 ⟨F, rfl, H⟩
        have R0 := H.ext
        unfold core_Validate_k1 at F
        refine CW.seq fun K7 hK7 => ?_
        refine CW.region ?_
        refine LW.pure rfl rfl (RV.assign rfl) ?_
        refine LW.nil (hK7 _ _ ?_)
        refine CW.ret ?_
        obtain rfl := Option.some.inj F
        refine ⟨_, (ResOK.one rfl), ?_⟩
        refine ⟨(by first | rfl | simp), R0⟩
      ·
        intro K8 hK8 jK74
        refine CW.seq fun K9 hK9 => ?_
        refine CW.region ?_
        refine LW.pure rfl rfl (RV.fieldAddr Tf24_1 rfl) ?_
        refine LW.pure rfl rfl (RV.load1 Tk22 rfl ((H.blk 0 rfl).cells.off 1) rfl) ?_
        refine LW.pure rfl rfl (RV.len Ts22 rfl) ?_
        refine LW.pure rfl rfl (RV.move rfl) ?_
        refine LW.nil (hK9 _ _ ?_)
        refine CW.block ?_
        refine CW.loop (fun meas ρ wl2 => ∃ (t16_1 : Int), core_Validate_L1 a0 meas t16_1 = some res ∧ ρ = [(1, .pointer (some (⟨b1, 0, none⟩))), (2, .int .i64 0), (14, .slice A_a0_bounds a0.bounds.length c_a0_bounds), (15, .int .i64 ((a0.bounds.length : Int))), (16, .int .i64 t16_1)] ∧ Hp w wl2 [.blk b1 24 [.int .i64 a0.layers, .slice A_a0_bounds a0.bounds.length c_a0_bounds]]) FU ⟨_, ?_, ((0 : Int)), F, rfl, H⟩ ?_
        · exact ⟨rfl, rfl, rfl, rfl, rfl, trivial⟩
        rintro mk1 _ wl2 ⟨t16_1, F, rfl, H⟩
        have R0 := H.ext
        replace F := core_Validate_L1_s F
        obtain ⟨mk1, rfl, F⟩ := F
        generalize hrec1 : core_Validate_L1 a0 mk1 = rec1 at F
        unfold core_Validate_B1 at F
        refine CW.seq fun K10 hK10 => ?_
        refine CW.region ?_
        refine LW.pure rfl rfl (RV.lss rfl rfl) ?_
        refine LW.nil (hK10 _ _ ?_)
        refine CW.seq fun K11 hK11 => ?_
        by_cases hp3 : t16_1 < ((a0.bounds.length : Int))
        ·
          replace F := ite_y hp3 F
          have hq3 := dec_t hp3
          refine CW.condT rfl hq3 ?_
          refine CW.skip (hK11 _ _ ?_)
          refine CW.seq fun K12 hK12 => ?_
          refine CW.block ?_
          refine CW.seq fun K13 hK13 => ?_
          obtain ⟨x1, hbx1, hx1, F⟩ := ix_some F
          refine CW.region ?_
          refine LW.pure rfl rfl (RV.indexAddr Ts22 rfl rfl hbx1 (h_a0_bounds.addr_ hx1)) ?_
          refine LW.pure rfl rfl (RV.loadA [.int .i64 x1.a, .int .i64 x1.b, .int .i64 x1.most] Tk26 rfl ((h_a0_bounds.at_ hx1).ext R0) rfl rfl) ?_
          refine LW.go rfl rfl (OW.alloc Tz26 fun b2 w3 N2 => ?_)
          replace H := H.new N2 N2.blk
          replace R0 := H.ext
          refine LW.go rfl rfl (OW.store Tk26 rfl rfl (H.blk 0 rfl) (off := 0) (vs := [.int .i64 x1.a, .int .i64 x1.b, .int .i64 x1.most]) rfl rfl rfl rfl rfl fun w4 S1 => ?_)
          replace H : Hp w w4 [.blk b2 26 [.int .i64 x1.a, .int .i64 x1.b, .int .i64 x1.most], .blk b1 24 [.int .i64 a0.layers, .slice A_a0_bounds a0.bounds.length c_a0_bounds]] := H.stored 0 rfl S1
          replace R0 := H.ext
          refine LW.nil (hK13 _ _ ?_)
          refine CW.seq fun K14 hK14 => ?_
          obtain ⟨r1, hr1, F⟩ := bnd_some F
          refine CW.region ?_
          refine LW.pure rfl rfl (RV.loadA [.int .i64 x1.a, .int .i64 x1.b, .int .i64 x1.most] Tk26 rfl (H.blk 0 rfl).cells rfl rfl) ?_
          refine LW.pure rfl rfl (RV.fieldAddr Tf24_0 rfl) ?_
          refine LW.pure rfl rfl (RV.load1 Tk3 rfl ((H.blk 1 rfl).cells.off 0) rfl) ?_
          refine LW.go rfl rfl (OW.call Tc59 rfl (core_right_ok (a0 := x1) (a1 := a0.layers) hr1) ?_)
          rintro _ w5 ⟨rfl, E2⟩
          refine ⟨_, rfl, ?_⟩
          replace H := H.grow E2
          replace R0 := H.ext
          refine LW.pure rfl rfl (RV.not rfl) ?_
          refine LW.nil (hK14 _ _ ?_)
          by_cases hp4 : r1 = true
          ·
            replace F := ite_y hp4 F
            have hq4 : r1 = true := hp4
            refine CW.condF rfl (not_f hq4) ?_
            refine CW.skip (hK12 _ _ ?_)
            obtain ⟨hg1, F⟩ := gd_some F
            refine CW.region ?_
            refine LW.pure rfl rfl (RV.add rfl rfl hg1) ?_
            refine LW.pure rfl rfl (RV.move rfl) ?_
            refine LW.nil ?_
            replace H := H.pick (L' := [.blk b1 24 [.int .i64 a0.layers, .slice A_a0_bounds a0.bounds.length c_a0_bounds]]) [1] (by decide) rfl
            replace R0 := H.ext
            subst hrec1
            refine ⟨mk1, Nat.lt_succ_self _, _, ?_, (t16_1 + 1), F, rfl, H⟩
            exact ⟨rfl, rfl, rfl, rfl, rfl, trivial⟩
          ·
            replace F := ite_n hp4 F
            have hq4 : r1 = false := raw_f hp4
            refine CW.condT rfl (not_t hq4) ?_
            refine CW.seq fun K15 hK15 => ?_
            refine CW.region ?_
            refine LW.pure rfl rfl (RV.assign rfl) ?_
            refine LW.nil (hK15 _ _ ?_)
            refine CW.ret ?_
            obtain rfl := Option.some.inj F
            refine ⟨_, (ResOK.one rfl), ?_⟩
            refine ⟨(by first | rfl | simp), R0⟩
        ·
          replace F := ite_n hp3 F
          have hq3 := dec_f hp3
          refine CW.condF rfl hq3 ?_
          replace H := H.pick (L' := []) [] (by decide) rfl
          replace R0 := H.ext
          refine CW.exit (jK74 _ _ ⟨_, ?_, ⟨F, rfl, H⟩⟩)
          exact ⟨rfl, trivial⟩
  ·
    replace F := ite_n hp1 F
    have hq1 : r2 = false := raw_f hp1
    refine CW.condT rfl (not_t hq1) ?_
    refine CW.seq fun K16 hK16 => ?_
    refine CW.region ?_
    refine LW.pure rfl rfl (RV.assign rfl) ?_
    refine LW.nil (hK16 _ _ ?_)
    refine CW.ret ?_
    obtain rfl := Option.some.inj F
    refine ⟨_, (ResOK.one rfl), ?_⟩
    refine ⟨(by first | rfl | simp), R0⟩
set_option maxRecDepth 20000 in
set_option maxHeartbeats 1000000 in
theorem core_layers_ok {a0 : Core} {a1 : List Int} {A_a0_bounds : Option Addr} {c_a0_bounds : Nat} {A_a1 : Option Addr} {c_a1 : Nat} {w : World} {res : Int} (h_a0_bounds : Sl w A_a0_bounds c_a0_bounds 3 (a0.bounds.map encBound)) (h_a1 : Sl w A_a1 c_a1 1 (a1.map encN)) (F : core_layers a0 a1 = some res) : Calls Try.prog 58 #[.agg #[.int .i64 a0.layers, .slice A_a0_bounds a0.bounds.length c_a0_bounds], .slice A_a1 a1.length c_a1] w (Rt w (.int .i64 res)) := by
  refine calls_of_cw (args := [.agg #[.int .i64 a0.layers, .slice A_a0_bounds a0.bounds.length c_a0_bounds], .slice A_a1 a1.length c_a1]) Try.func58 rfl rfl rfl rfl ?_
  have H := Hp.start w
  have R0 := H.ext
  unfold core_layers at F
  refine CW.seq fun K1 hK1 => ?_
  refine CW.region ?_
  refine LW.go rfl rfl (OW.box rfl fun b1 w1 N1 => ?_)
  replace H := H.new N1 N1.blk
  replace R0 := H.ext
  refine LW.pure rfl rfl (RV.assign rfl) ?_
  refine LW.nil (hK1 _ _ ?_)
  refine CW.seq fun K2 hK2 => ?_
  refine CW.seq fun K3 hK3 => ?_
  obtain ⟨r2, hr2, F⟩ := bnd_some F
  refine CW.region ?_
  refine LW.pure rfl rfl (RV.loadA [.int .i64 a0.layers, .slice A_a0_bounds a0.bounds.length c_a0_bounds] Tk24 rfl (H.blk 0 rfl).cells rfl rfl) ?_
  refine LW.go rfl rfl (OW.call Tc36 rfl (core_Validate_ok (a0 := a0) (h_a0_bounds.ext R0) hr2) ?_)
  rintro _ w2 ⟨rfl, E1⟩
  refine ⟨_, rfl, ?_⟩
  replace H := H.grow E1
  replace R0 := H.ext
  refine LW.pure rfl rfl (RV.assign rfl) ?_
  refine LW.nil (hK3 _ _ ?_)
  refine CW.seq fun K4 hK4 => ?_
  refine CW.region ?_
  refine LW.pure rfl rfl (RV.move rfl) ?_
  refine LW.pure rfl rfl (RV.nei rfl rfl) ?_
  refine LW.nil (hK4 _ _ ?_)
  by_cases hp1 : r2 = 0
  ·
    replace F := ite_y hp1 F
    have hq1 := dec_t hp1
    refine CW.condF rfl (not_f hq1) ?_
    refine CW.skip (hK2 _ _ ?_)
    refine CW.seqJ (fun ρ wl1 => (core_layers_k1 = some res ∧ ρ = [(4, .int .i64 0)] ∧ Hp w wl1 [])) ?_ ?_
    ·
      rintro _ wl1 ⟨F, rfl, H⟩
      have R0 := H.ext
      unfold core_layers_k1 at F
      refine CW.seq fun K5 hK5 => ?_
      refine CW.region ?_
      refine LW.pure rfl rfl (RV.assign rfl) ?_
      refine LW.nil (hK5 _ _ ?_)
      refine CW.ret ?_
      obtain rfl := Option.some.inj F
      refine ⟨_, (ResOK.one rfl), ?_⟩
      refine ⟨(by first | rfl | simp), R0⟩
    ·
      intro K6 hK6 jK70
      refine CW.seq fun K7 hK7 => ?_
      refine CW.region ?_
      refine LW.pure rfl rfl (RV.move rfl) ?_
      refine LW.pure rfl rfl (RV.len Ts43 rfl) ?_
      refine LW.pure rfl rfl (RV.move rfl) ?_
      refine LW.nil (hK7 _ _ ?_)
      refine CW.block ?_
      refine CW.loop (fun meas ρ wl2 => ∃ (t15_1 : Int), core_layers_L1 a0 a1 meas t15_1 = some res ∧ ρ = [(2, .pointer (some (⟨b1, 0, none⟩))), (4, .int .i64 0), (13, .slice A_a1 a1.length c_a1), (14, .int .i64 ((a1.length : Int))), (15, .int .i64 t15_1)] ∧ Hp w wl2 [.blk b1 24 [.int .i64 a0.layers, .slice A_a0_bounds a0.bounds.length c_a0_bounds]]) FU ⟨_, ?_, ((0 : Int)), F, rfl, H⟩ ?_
      · exact ⟨rfl, rfl, rfl, rfl, rfl, trivial⟩
      rintro mk1 _ wl2 ⟨t15_1, F, rfl, H⟩
      have R0 := H.ext
      replace F := core_layers_L1_s F
      obtain ⟨mk1, rfl, F⟩ := F
      generalize hrec1 : core_layers_L1 a0 a1 mk1 = rec1 at F
      unfold core_layers_B1 at F
      refine CW.seq fun K8 hK8 => ?_
      refine CW.region ?_
      refine LW.pure rfl rfl (RV.lss rfl rfl) ?_
      refine LW.nil (hK8 _ _ ?_)
      refine CW.seq fun K9 hK9 => ?_
      by_cases hp2 : t15_1 < ((a1.length : Int))
      ·
        replace F := ite_y hp2 F
        have hq2 := dec_t hp2
        refine CW.condT rfl hq2 ?_
        refine CW.skip (hK9 _ _ ?_)
        refine CW.seq fun K10 hK10 => ?_
        refine CW.block ?_
        refine CW.seq fun K11 hK11 => ?_
        obtain ⟨x1, hbx1, hx1, F⟩ := ix_some F
        refine CW.region ?_
        refine LW.pure rfl rfl (RV.indexAddr Ts43 rfl rfl hbx1 (h_a1.addr_ hx1)) ?_
        refine LW.pure rfl rfl (RV.load1 Tk3 rfl ((h_a1.at_ hx1).ext R0) rfl) ?_
        refine LW.pure rfl rfl (RV.assign rfl) ?_
        refine LW.nil (hK11 _ _ ?_)
        refine CW.seq fun K12 hK12 => ?_
        obtain ⟨hg1, F⟩ := gd_some F
        obtain ⟨r1, hr1, F⟩ := bnd_some F
        refine CW.region ?_
        refine LW.pure rfl rfl (RV.move rfl) ?_
        refine LW.pure rfl rfl (RV.fieldAddr Tf24_0 rfl) ?_
        refine LW.pure rfl rfl (RV.load1 Tk3 rfl ((H.blk 0 rfl).cells.off 0) rfl) ?_
        refine LW.pure rfl rfl (RV.sub rfl rfl hg1) ?_
        refine LW.go rfl rfl (OW.call Tc70 rfl (core_within_ok (a0 := x1) (a1 := (0 : Int)) (a2 := a0.layers - 1) hr1) ?_)
        rintro _ w3 ⟨rfl, E2⟩
        refine ⟨_, rfl, ?_⟩
        replace H := H.grow E2
        replace R0 := H.ext
        refine LW.pure rfl rfl (RV.not rfl) ?_
        refine LW.nil (hK12 _ _ ?_)
        by_cases hp3 : r1 = true
        ·
          replace F := ite_y hp3 F
          have hq3 : r1 = true := hp3
          refine CW.condF rfl (not_f hq3) ?_
          refine CW.skip (hK10 _ _ ?_)
          obtain ⟨hg2, F⟩ := gd_some F
          refine CW.region ?_
          refine LW.pure rfl rfl (RV.add rfl rfl hg2) ?_
          refine LW.pure rfl rfl (RV.move rfl) ?_
          refine LW.nil ?_
          subst hrec1
          refine ⟨mk1, Nat.lt_succ_self _, _, ?_, (t15_1 + 1), F, rfl, H⟩
          exact ⟨rfl, rfl, rfl, rfl, rfl, trivial⟩
        ·
          replace F := ite_n hp3 F
          have hq3 : r1 = false := raw_f hp3
          refine CW.condT rfl (not_t hq3) ?_
          refine CW.seq fun K13 hK13 => ?_
          refine CW.region ?_
          refine LW.pure rfl rfl (RV.assign rfl) ?_
          refine LW.nil (hK13 _ _ ?_)
          refine CW.ret ?_
          obtain rfl := Option.some.inj F
          refine ⟨_, (ResOK.one rfl), ?_⟩
          refine ⟨(by first | rfl | simp), R0⟩
      ·
        replace F := ite_n hp2 F
        have hq2 := dec_f hp2
        refine CW.condF rfl hq2 ?_
        replace H := H.pick (L' := []) [] (by decide) rfl
        replace R0 := H.ext
        refine CW.exit (jK70 _ _ ⟨_, ?_, ⟨F, rfl, H⟩⟩)
        exact ⟨rfl, trivial⟩
  ·
    replace F := ite_n hp1 F
    have hq1 := dec_f hp1
    refine CW.condT rfl (not_t hq1) ?_
    refine CW.seq fun K14 hK14 => ?_
    refine CW.region ?_
    refine LW.pure rfl rfl (RV.move rfl) ?_
    refine LW.pure rfl rfl (RV.assign rfl) ?_
    refine LW.nil (hK14 _ _ ?_)
    refine CW.ret ?_
    obtain rfl := Option.some.inj F
    refine ⟨_, (ResOK.one rfl), ?_⟩
    refine ⟨(by first | rfl | simp), R0⟩
set_option maxRecDepth 20000 in
set_option maxHeartbeats 1000000 in
theorem core_relax_ok {a0 : Core} {A_a0_bounds : Option Addr} {c_a0_bounds : Nat} {w : World} {res : (List Int) × (List Int) × Int} (h_a0_bounds : Sl w A_a0_bounds c_a0_bounds 3 (a0.bounds.map encBound)) (F : core_relax a0 = some res) : Calls Try.prog 72 #[.agg #[.int .i64 a0.layers, .slice A_a0_bounds a0.bounds.length c_a0_bounds]] w (fun e w' => ∃ (A0 : Option Addr) (c0 : Nat) (A1 : Option Addr) (c1 : Nat), e = .returned (.tuple #[.slice A0 res.1.length c0, .slice A1 res.2.1.length c1, .int .i64 res.2.2]) ∧ Hp w w' [.own A0 c0 3 1 (List.map encN res.1), .own A1 c1 3 1 (List.map encN res.2.1)]) := by
  refine calls_of_cw (args := [.agg #[.int .i64 a0.layers, .slice A_a0_bounds a0.bounds.length c_a0_bounds]]) Try.func72 rfl rfl rfl rfl ?_
  have H := Hp.start w
  have R0 := H.ext
  unfold core_relax at F
  refine CW.seq fun K1 hK1 => ?_
  refine CW.region ?_
  refine LW.go rfl rfl (OW.box rfl fun b1 w1 N1 => ?_)
  replace H := H.new N1 N1.blk
  replace R0 := H.ext
  refine LW.pure rfl rfl (RV.assign rfl) ?_
  refine LW.pure rfl rfl (RV.assign rfl) ?_
  refine LW.pure rfl rfl (RV.assign rfl) ?_
  refine LW.nil (hK1 _ _ ?_)
  refine CW.seq fun K2 hK2 => ?_
  obtain ⟨hg1, F⟩ := gd_some F
  refine CW.region ?_
  refine LW.pure rfl rfl (RV.fieldAddr Tf24_0 rfl) ?_
  refine LW.pure rfl rfl (RV.load1 Tk3 rfl ((H.blk 0 rfl).cells.off 0) rfl) ?_
  refine LW.go rfl rfl (OW.makeR (enc := encN) (0 : Int) Ts43 rfl rfl rfl rfl rfl hg1 (by decide) fun b2 w2 N2 => ?_)
  replace H := H.made' (k := 1) (t := 3) (enc := encN) (l := (List.replicate (Int.toNat a0.layers) (0 : Int))) N2 N2.blk (fun _ => rfl) rfl (by first | decide | omega | (simp; done) | (simp; omega))
  replace R0 := H.ext
  refine LW.pure rfl rfl (RV.assign rfl) ?_
  refine LW.nil (hK2 _ _ ?_)
  refine CW.seq fun K3 hK3 => ?_
  obtain ⟨r1, hr1, F⟩ := bnd_some F
  refine CW.region ?_
  refine LW.go rfl rfl (OW.buildSlice (e := 3) (vs := [.int .i64 (-1)]) (cs := [.int .i64 (-1)]) rfl (fun _ => by kernel_rfl) fun b3 w3 N3 => ?_)
  replace H := H.made' (k := 1) (t := 3) (enc := encN) (l := ([-1] : List Int)) N3 N3.blk (fun _ => rfl) rfl (by first | decide | omega | (simp; done) | (simp; omega))
  replace R0 := H.ext
  refine LW.pure rfl rfl (RV.fieldAddr Tf24_0 rfl) ?_
  refine LW.pure rfl rfl (RV.load1 Tk3 rfl ((H.blk 2 rfl).cells.off 0) rfl) ?_
  refine LW.go rfl rfl (OW.call Tc87 rfl (slices_Repeat_int_ok (a0 := ([-1] : List Int)) (a1 := a0.layers) (H.own 0 rfl).sl hr1) ?_)
  rintro _ w4 ⟨A3_0, c3_0, rfl, E1⟩
  refine ⟨_, rfl, ?_⟩
  replace H : Hp w w4 [.own A3_0 c3_0 3 1 (List.map encN r1), .own (some ⟨b3, 0, none⟩) ((([-1] : List Int)).length) 3 1 (List.map encN (([-1] : List Int))), .own (some ⟨b2, 0, none⟩) (((List.replicate (Int.toNat a0.layers) (0 : Int))).length) 3 1 (List.map encN ((List.replicate (Int.toNat a0.layers) (0 : Int)))), .blk b1 24 [.int .i64 a0.layers, .slice A_a0_bounds a0.bounds.length c_a0_bounds]] := H.append E1
  replace R0 := H.ext
  refine LW.pure rfl rfl (RV.assign rfl) ?_
  refine LW.nil (hK3 _ _ ?_)
  refine CW.seqJ (fun ρ wl1 => (∃ (t4_1 : Int) (l1 : List Int) (l2 : List Int), core_relax_k1 t4_1 l1 l2 = some res ∧ ρ = [(2, .slice (some ⟨b2, 0, none⟩) l1.length (((List.replicate (Int.toNat a0.layers) (0 : Int))).length)), (3, .slice A3_0 l2.length c3_0), (4, .int .i64 t4_1)] ∧ Hp w wl1 [.own (some ⟨b2, 0, none⟩) (((List.replicate (Int.toNat a0.layers) (0 : Int))).length) 3 1 (List.map encN l1), .own A3_0 c3_0 3 1 (List.map encN l2)])) ?_ ?_
  ·
    rintro _ wl1 ⟨t4_1, l1, l2, F, rfl, H⟩
    have R0 := H.ext
    unfold core_relax_k1 at F
    refine CW.seq fun K4 hK4 => ?_
    refine CW.region ?_
    refine LW.pure rfl rfl (RV.move rfl) ?_
    refine LW.pure rfl rfl (RV.move rfl) ?_
    refine LW.pure rfl rfl (RV.move rfl) ?_
    refine LW.pure rfl rfl (RV.assign rfl) ?_
    refine LW.pure rfl rfl (RV.assign rfl) ?_
    refine LW.pure rfl rfl (RV.assign rfl) ?_
    refine LW.nil (hK4 _ _ ?_)
    refine CW.ret ?_
    obtain rfl := Option.some.inj F
    refine ⟨_, (ResOK.three rfl rfl rfl), ?_⟩
    exact ⟨(some ⟨b2, 0, none⟩), (((List.replicate (Int.toNat a0.layers) (0 : Int))).length), A3_0, c3_0, (by first | rfl | (simp; done) | (simp; omega)), H⟩
  ·
    intro K5 hK5 jK454
    refine CW.seq fun K6 hK6 => ?_
    refine CW.region ?_
    refine LW.pure rfl rfl (RV.fieldAddr Tf24_0 rfl) ?_
    refine LW.pure rfl rfl (RV.load1 Tk3 rfl ((H.blk 3 rfl).cells.off 0) rfl) ?_
    refine LW.pure rfl rfl (RV.move rfl) ?_
    refine LW.nil (hK6 _ _ ?_)
    refine CW.block ?_
    replace H := H.pick (L' := [.own (some ⟨b2, 0, none⟩) (((List.replicate (Int.toNat a0.layers) (0 : Int))).length) 3 1 (List.map encN ((List.replicate (Int.toNat a0.layers) (0 : Int)))), .own A3_0 c3_0 3 1 (List.map encN r1), .blk b1 24 [.int .i64 a0.layers, .slice A_a0_bounds a0.bounds.length c_a0_bounds]]) [2, 0, 3] (by decide) rfl
    replace R0 := H.ext
    refine CW.loop (fun meas ρ wl2 => ∃ (t4_5 : Int) (t16_1 : Int) (l9 : List Int) (l10 : List Int), core_relax_L2 a0 meas t4_5 t16_1 l9 l10 = some res ∧ ρ = [(1, .pointer (some (⟨b1, 0, none⟩))), (2, .slice (some ⟨b2, 0, none⟩) l9.length (((List.replicate (Int.toNat a0.layers) (0 : Int))).length)), (3, .slice A3_0 l10.length c3_0), (4, .int .i64 t4_5), (15, .int .i64 a0.layers), (16, .int .i64 t16_1)] ∧ Hp w wl2 [.own (some ⟨b2, 0, none⟩) (((List.replicate (Int.toNat a0.layers) (0 : Int))).length) 3 1 (List.map encN l9), .own A3_0 c3_0 3 1 (List.map encN l10), .blk b1 24 [.int .i64 a0.layers, .slice A_a0_bounds a0.bounds.length c_a0_bounds]]) FU ⟨_, ?_, ((0 : Int)), ((0 : Int)), ((List.replicate (Int.toNat a0.layers) (0 : Int))), r1, F, rfl, H⟩ ?_
    · exact ⟨rfl, (look_slice rfl (by first | rfl | (simp; done) | (simp; omega))), (look_slice rfl (by first | rfl | (simp; done) | (simp; omega))), rfl, rfl, rfl, trivial⟩
    rintro mk1 _ wl2 ⟨t4_5, t16_1, l9, l10, F, rfl, H⟩
    have R0 := H.ext
    replace F := core_relax_L2_s F
    obtain ⟨mk1, rfl, F⟩ := F
    generalize hrec1 : core_relax_L2 a0 mk1 = rec1 at F
    unfold core_relax_B2 at F
    refine CW.seq fun K7 hK7 => ?_
    refine CW.region ?_
    refine LW.pure rfl rfl (RV.lss rfl rfl) ?_
    refine LW.nil (hK7 _ _ ?_)
    refine CW.seq fun K8 hK8 => ?_
    by_cases hp1 : t16_1 < a0.layers
    ·
      replace F := ite_y hp1 F
      have hq1 := dec_t hp1
      refine CW.condT rfl hq1 ?_
      refine CW.skip (hK8 _ _ ?_)
      refine CW.seqJ (fun ρ wl3 => (∃ (t4_2 : Int) (l3 : List Int) (l4 : List Int), core_relax_k2 t16_1 rec1 t4_2 l3 l4 = some res ∧ ρ = [(1, .pointer (some (⟨b1, 0, none⟩))), (2, .slice (some ⟨b2, 0, none⟩) l3.length (((List.replicate (Int.toNat a0.layers) (0 : Int))).length)), (3, .slice A3_0 l4.length c3_0), (4, .int .i64 t4_2), (15, .int .i64 a0.layers), (16, .int .i64 t16_1)] ∧ Hp w wl3 [.own (some ⟨b2, 0, none⟩) (((List.replicate (Int.toNat a0.layers) (0 : Int))).length) 3 1 (List.map encN l3), .own A3_0 c3_0 3 1 (List.map encN l4), .blk b1 24 [.int .i64 a0.layers, .slice A_a0_bounds a0.bounds.length c_a0_bounds]])) ?_ ?_
      ·
        rintro _ wl3 ⟨t4_2, l3, l4, F, rfl, H⟩
        have R0 := H.ext
        unfold core_relax_k2 at F
        obtain ⟨hg2, F⟩ := gd_some F
        refine CW.region ?_
        refine LW.pure rfl rfl (RV.add rfl rfl hg2) ?_
        refine LW.pure rfl rfl (RV.move rfl) ?_
        refine LW.nil ?_
        subst hrec1
        refine ⟨mk1, Nat.lt_succ_self _, _, ?_, t4_2, (t16_1 + 1), l3, l4, F, rfl, H⟩
        exact ⟨rfl, (look_slice rfl (by first | rfl | (simp; done) | (simp; omega))), (look_slice rfl (by first | rfl | (simp; done) | (simp; omega))), rfl, rfl, rfl, trivial⟩
      ·
        intro K9 hK9 jK579
        refine CW.block ?_
        refine CW.seq fun K10 hK10 => ?_
        refine CW.region ?_
        refine LW.pure rfl rfl (RV.assign rfl) ?_
        refine LW.nil (hK10 _ _ ?_)
        refine CW.seq fun K11 hK11 => ?_
        refine CW.region ?_
        refine LW.pure rfl rfl (RV.fieldAddr Tf24_1 rfl) ?_
        refine LW.pure rfl rfl (RV.load1 Tk22 rfl ((H.blk 2 rfl).cells.off 1) rfl) ?_
        refine LW.pure rfl rfl (RV.len Ts22 rfl) ?_
        refine LW.pure rfl rfl (RV.move rfl) ?_
        refine LW.nil (hK11 _ _ ?_)
        refine CW.block ?_
        refine CW.loop (fun meas ρ wl4 => ∃ (t4_4 : Int) (t21_1 : Int) (l7 : List Int) (l8 : List Int), core_relax_L1 a0 t16_1 rec1 meas t4_4 t21_1 l7 l8 = some res ∧ ρ = [(1, .pointer (some (⟨b1, 0, none⟩))), (2, .slice (some ⟨b2, 0, none⟩) l7.length (((List.replicate (Int.toNat a0.layers) (0 : Int))).length)), (3, .slice A3_0 l8.length c3_0), (4, .int .i64 t4_4), (15, .int .i64 a0.layers), (16, .int .i64 t16_1), (19, .slice A_a0_bounds a0.bounds.length c_a0_bounds), (20, .int .i64 ((a0.bounds.length : Int))), (21, .int .i64 t21_1)] ∧ Hp w wl4 [.own (some ⟨b2, 0, none⟩) (((List.replicate (Int.toNat a0.layers) (0 : Int))).length) 3 1 (List.map encN l7), .own A3_0 c3_0 3 1 (List.map encN l8), .blk b1 24 [.int .i64 a0.layers, .slice A_a0_bounds a0.bounds.length c_a0_bounds]]) FU ⟨_, ?_, ((-1 : Int)), ((0 : Int)), l9, l10, F, rfl, H⟩ ?_
        · exact ⟨rfl, (look_slice rfl (by first | rfl | (simp; done) | (simp; omega))), (look_slice rfl (by first | rfl | (simp; done) | (simp; omega))), rfl, rfl, rfl, rfl, rfl, rfl, trivial⟩
        rintro mk2 _ wl4 ⟨t4_4, t21_1, l7, l8, F, rfl, H⟩
        have R0 := H.ext
        replace F := core_relax_L1_s F
        obtain ⟨mk2, rfl, F⟩ := F
        generalize hrec2 : core_relax_L1 a0 t16_1 rec1 mk2 = rec2 at F
        unfold core_relax_B1 at F
        refine CW.seq fun K12 hK12 => ?_
        refine CW.region ?_
        refine LW.pure rfl rfl (RV.lss rfl rfl) ?_
        refine LW.nil (hK12 _ _ ?_)
        refine CW.seq fun K13 hK13 => ?_
        by_cases hp2 : t21_1 < ((a0.bounds.length : Int))
        ·
          replace F := ite_y hp2 F
          have hq2 := dec_t hp2
          refine CW.condT rfl hq2 ?_
          refine CW.skip (hK13 _ _ ?_)
          refine CW.seqJ (fun ρ wl5 => (∃ (t4_3 : Int) (l5 : List Int) (l6 : List Int), core_relax_k3 t21_1 rec2 t4_3 l5 l6 = some res ∧ ρ = [(1, .pointer (some (⟨b1, 0, none⟩))), (2, .slice (some ⟨b2, 0, none⟩) l5.length (((List.replicate (Int.toNat a0.layers) (0 : Int))).length)), (3, .slice A3_0 l6.length c3_0), (4, .int .i64 t4_3), (15, .int .i64 a0.layers), (16, .int .i64 t16_1), (19, .slice A_a0_bounds a0.bounds.length c_a0_bounds), (20, .int .i64 ((a0.bounds.length : Int))), (21, .int .i64 t21_1)] ∧ Hp w wl5 [.own (some ⟨b2, 0, none⟩) (((List.replicate (Int.toNat a0.layers) (0 : Int))).length) 3 1 (List.map encN l5), .own A3_0 c3_0 3 1 (List.map encN l6), .blk b1 24 [.int .i64 a0.layers, .slice A_a0_bounds a0.bounds.length c_a0_bounds]])) ?_ ?_
          ·
            rintro _ wl5 ⟨t4_3, l5, l6, F, rfl, H⟩
            have R0 := H.ext
            unfold core_relax_k3 at F
            obtain ⟨hg3, F⟩ := gd_some F
            refine CW.region ?_
            refine LW.pure rfl rfl (RV.add rfl rfl hg3) ?_
            refine LW.pure rfl rfl (RV.move rfl) ?_
            refine LW.nil ?_
            subst hrec2
            refine ⟨mk2, Nat.lt_succ_self _, _, ?_, t4_3, (t21_1 + 1), l5, l6, F, rfl, H⟩
            exact ⟨rfl, (look_slice rfl (by first | rfl | (simp; done) | (simp; omega))), (look_slice rfl (by first | rfl | (simp; done) | (simp; omega))), rfl, rfl, rfl, rfl, rfl, rfl, trivial⟩
          ·
            intro K14 hK14 jK600
            refine CW.block ?_
            refine CW.seq fun K15 hK15 => ?_
            obtain ⟨x1, hbx1, hx1, F⟩ := ix_some F
            refine CW.region ?_
            refine LW.pure rfl rfl (RV.move rfl) ?_
            refine LW.pure rfl rfl (RV.indexAddr Ts22 rfl rfl hbx1 (h_a0_bounds.addr_ hx1)) ?_
            refine LW.pure rfl rfl (RV.loadA [.int .i64 x1.a, .int .i64 x1.b, .int .i64 x1.most] Tk26 rfl ((h_a0_bounds.at_ hx1).ext R0) rfl rfl) ?_
            refine LW.go rfl rfl (OW.alloc Tz26 fun b4 w5 N4 => ?_)
            replace H := H.new N4 N4.blk
            replace R0 := H.ext
            refine LW.pure rfl rfl (RV.assign rfl) ?_
            refine LW.go rfl rfl (OW.store Tk26 rfl rfl (H.blk 0 rfl) (off := 0) (vs := [.int .i64 x1.a, .int .i64 x1.b, .int .i64 x1.most]) rfl rfl rfl rfl rfl fun w6 S1 => ?_)
            replace H : Hp w w6 [.blk b4 26 [.int .i64 x1.a, .int .i64 x1.b, .int .i64 x1.most], .own (some ⟨b2, 0, none⟩) (((List.replicate (Int.toNat a0.layers) (0 : Int))).length) 3 1 (List.map encN l7), .own A3_0 c3_0 3 1 (List.map encN l8), .blk b1 24 [.int .i64 a0.layers, .slice A_a0_bounds a0.bounds.length c_a0_bounds]] := H.stored 0 rfl S1
            replace R0 := H.ext
            refine LW.nil (hK15 _ _ ?_)
            refine CW.seq fun K16 hK16 => ?_
            obtain ⟨x2, hbx2, hx2, F⟩ := ix_some F
            obtain ⟨hg4, F⟩ := gd_some F
            obtain ⟨x3, hbx3, hx3, F⟩ := ix_some F
            refine CW.draw [] (fun _ => True) (.cons 0 1 (.cons 1 1 (.cons 2 1 (.cons 3 1 (.cons 4 1 (.cons 5 1 (.cons 6 1 (.cons 7 1 (.cons 8 1 (.cons 9 1 (.cons 10 1 (.cons 11 1 (.cons 12 1 (.cons 13 1 .nil)))))))))))))) mixed (by kernel_rfl) fun w7 E2 => ?_
            replace H := H.grow E2
            replace R0 := H.ext
            refine DW.fix rfl rfl rfl (fun _ EQ => RV.move rfl) ?_
            refine DW.fix rfl rfl rfl (fun _ EQ => RV.fieldAddr Tf26_0 rfl) ?_
            refine DW.fix rfl rfl rfl (fun _ EQ => RV.load1 Tk3 rfl (((H.grow EQ).blk 0 rfl).cells.off 0) rfl) ?_
            refine DW.fix rfl rfl rfl (fun _ EQ => RV.indexAddr Ts43 rfl rfl hbx2 ⟨_, rfl⟩) ?_
            refine DW.fix rfl rfl rfl (fun _ EQ => RV.load1 Tk3 rfl (((H.grow EQ).own 1 rfl).sl.at_ hx2) rfl) ?_
            refine DW.fix rfl rfl rfl (fun _ EQ => RV.fieldAddr Tf26_2 rfl) ?_
            refine DW.fix rfl rfl rfl (fun _ EQ => RV.load1 Tk3 rfl (((H.grow EQ).blk 0 rfl).cells.off 2) rfl) ?_
            refine DW.fix rfl rfl rfl (fun _ EQ => RV.add rfl rfl hg4) ?_
            refine DW.fix rfl rfl rfl (fun _ EQ => RV.move rfl) ?_
            refine DW.fix rfl rfl rfl (fun _ EQ => RV.fieldAddr Tf26_1 rfl) ?_
            refine DW.fix rfl rfl rfl (fun _ EQ => RV.load1 Tk3 rfl (((H.grow EQ).blk 0 rfl).cells.off 1) rfl) ?_
            refine DW.fix rfl rfl rfl (fun _ EQ => RV.indexAddr Ts43 rfl rfl hbx3 ⟨_, rfl⟩) ?_
            refine DW.fix rfl rfl rfl (fun _ EQ => RV.load1 Tk3 rfl (((H.grow EQ).own 1 rfl).sl.at_ hx3) rfl) ?_
            refine DW.fix rfl rfl rfl (fun _ EQ => RV.lss rfl rfl) ?_
            refine DW.nil (hK16 _ _ ?_)
            by_cases hp3 : (x2 + x1.most) < x3
            ·
              replace F := ite_y hp3 F
              have hq3 := dec_t hp3
              refine CW.condT rfl hq3 ?_
              obtain ⟨x4, hbx4, hx4, F⟩ := ix_some F
              obtain ⟨hg5, F⟩ := gd_some F
              obtain ⟨x5, hbx5, hx5, F⟩ := ix_some F
              obtain ⟨x6, hbx6, hx6, F⟩ := ix_some F
              have H0 := H
              have hz : w7.heap.size ≤ w7.heap.size := Nat.le_refl _
              refine CW.draw [18, 20] (XB w7 [.blk b4 26 [.int .i64 x1.a, .int .i64 x1.b, .int .i64 x1.most], .own (some ⟨b2, 0, none⟩) (((List.replicate (Int.toNat a0.layers) (0 : Int))).length) 3 1 (List.map encN l7), .own A3_0 c3_0 3 1 (List.map encN l8), .blk b1 24 [.int .i64 a0.layers, .slice A_a0_bounds a0.bounds.length c_a0_bounds]] [1, 2]) (.cons 0 1 (.cons 1 1 (.cons 2 1 (.cons 6 1 (.cons 7 1 (.cons 8 1 (.cons 9 1 (.cons 10 1 (.cons 11 1 (.cons 12 1 (.cons 13 1 (.cons 17 1 (.cons 3 2 (.cons 4 2 (.cons 5 2 (.cons 14 2 (.cons 15 2 (.cons 16 2 (.cons 18 0 (.cons 19 2 (.cons 20 0 (.cons 21 2 .nil)))))))))))))))))))))) mixed (by kernel_rfl) fun w8 E3 => ?_
              replace H := H.grow E3
              replace R0 := H.ext
              replace hz := Nat.le_trans hz (Ext.size E3)
              refine DW.fix rfl rfl rfl (fun _ EQ => RV.move rfl) ?_
              refine DW.fix rfl rfl rfl (fun _ EQ => RV.fieldAddr Tf26_1 rfl) ?_
              refine DW.fix rfl rfl rfl (fun _ EQ => RV.load1 Tk3 rfl (((H.grow EQ).blk 0 rfl).cells.off 1) rfl) ?_
              refine DW.fix rfl rfl rfl (fun _ EQ => RV.move rfl) ?_
              refine DW.fix rfl rfl rfl (fun _ EQ => RV.fieldAddr Tf26_0 rfl) ?_
              refine DW.fix rfl rfl rfl (fun _ EQ => RV.load1 Tk3 rfl (((H.grow EQ).blk 0 rfl).cells.off 0) rfl) ?_
              refine DW.fix rfl rfl rfl (fun _ EQ => RV.indexAddr Ts43 rfl rfl hbx4 ⟨_, rfl⟩) ?_
              refine DW.fix rfl rfl rfl (fun _ EQ => RV.load1 Tk3 rfl (((H.grow EQ).own 1 rfl).sl.at_ hx4) rfl) ?_
              refine DW.fix rfl rfl rfl (fun _ EQ => RV.fieldAddr Tf26_2 rfl) ?_
              refine DW.fix rfl rfl rfl (fun _ EQ => RV.load1 Tk3 rfl (((H.grow EQ).blk 0 rfl).cells.off 2) rfl) ?_
              refine DW.fix rfl rfl rfl (fun _ EQ => RV.add rfl rfl hg5) ?_
              refine DW.fix rfl rfl rfl (fun _ EQ => RV.indexAddr Ts43 rfl rfl hbx5 ⟨_, rfl⟩) ?_
              refine DW.thru rfl rfl rfl (fun _ EQ => RV.move rfl) ?_
              refine DW.thru rfl rfl rfl (fun _ EQ => RV.fieldAddr Tf26_1 rfl) ?_
              refine DW.thru rfl rfl rfl (fun _ EQ => RV.load1 Tk3 rfl ((H.thruB 0 rfl EQ (H0.notX [1, 2] 0 rfl (by decide))).cells.off 1) rfl) ?_
              refine DW.thru rfl rfl rfl (fun _ EQ => RV.move rfl) ?_
              refine DW.thru rfl rfl rfl (fun _ EQ => RV.fieldAddr Tf26_1 rfl) ?_
              refine DW.thru rfl rfl rfl (fun _ EQ => RV.load1 Tk3 rfl ((H.thruB 0 rfl EQ (H0.notX [1, 2] 0 rfl (by decide))).cells.off 1) rfl) ?_
              refine DW.sole rfl rfl rfl (OW.storeO (enc := encN) (vs := [.int .i64 (x4 + x1.most)]) 0 (x4 + x1.most) Tk3 rfl rfl (H.own 1 rfl) (fun _ => rfl) rfl hx5 rfl rfl (by decide) rfl rfl fun w9 M1 O1 => ?_)
              refine ⟨fun h => absurd h (by decide), M1.modx (XB.own_ 1 (by decide) rfl), ?_⟩
              replace H : Hp w w9 [.blk b4 26 [.int .i64 x1.a, .int .i64 x1.b, .int .i64 x1.most], .own (some ⟨b2, 0, none⟩) (((List.replicate (Int.toNat a0.layers) (0 : Int))).length) 3 1 (List.map encN ((l7.set (Int.toNat x1.b) (x4 + x1.most)))), .own A3_0 c3_0 3 1 (List.map encN l8), .blk b1 24 [.int .i64 a0.layers, .slice A_a0_bounds a0.bounds.length c_a0_bounds]] := H.mod 1 rfl M1 O1 (.inl rfl)
              replace R0 := H.ext
              replace hz := Nat.le_trans hz M1.size
              refine DW.thru rfl rfl rfl (fun _ EQ => RV.indexAddr Ts43 rfl rfl hbx6 ((H.own 2 rfl).sl.addr_ hx6)) ?_
              refine DW.sole rfl rfl rfl (OW.storeO (enc := encN) (vs := [.int .i64 t21_1]) 0 (t21_1) Tk3 rfl rfl (H.own 2 rfl) (fun _ => rfl) rfl hx6 rfl rfl (by decide) rfl rfl fun w10 M2 O2 => ?_)
              refine ⟨fun h => absurd h (by decide), M2.modx (XB.own_ 2 (by decide) rfl), ?_⟩
              replace H : Hp w w10 [.blk b4 26 [.int .i64 x1.a, .int .i64 x1.b, .int .i64 x1.most], .own (some ⟨b2, 0, none⟩) (((List.replicate (Int.toNat a0.layers) (0 : Int))).length) 3 1 (List.map encN ((l7.set (Int.toNat x1.b) (x4 + x1.most)))), .own A3_0 c3_0 3 1 (List.map encN ((l8.set (Int.toNat x1.b) t21_1))), .blk b1 24 [.int .i64 a0.layers, .slice A_a0_bounds a0.bounds.length c_a0_bounds]] := H.mod 2 rfl M2 O2 (.inl rfl)
              replace R0 := H.ext
              replace hz := Nat.le_trans hz M2.size
              refine DW.thru rfl rfl rfl (fun _ EQ => RV.assign rfl) ?_
              replace H := H.pick (L' := [.own (some ⟨b2, 0, none⟩) (((List.replicate (Int.toNat a0.layers) (0 : Int))).length) 3 1 (List.map encN ((l7.set (Int.toNat x1.b) (x4 + x1.most)))), .own A3_0 c3_0 3 1 (List.map encN ((l8.set (Int.toNat x1.b) t21_1))), .blk b1 24 [.int .i64 a0.layers, .slice A_a0_bounds a0.bounds.length c_a0_bounds]]) [1, 2, 3] (by decide) rfl
              replace R0 := H.ext
              refine DW.nil (jK600 _ _ ⟨_, ?_, ⟨x1.b, ((l7.set (Int.toNat x1.b) (x4 + x1.most))), ((l8.set (Int.toNat x1.b) t21_1)), F, rfl, H⟩⟩)
              exact ⟨rfl, (look_slice rfl (by first | rfl | (simp; done) | (simp; omega))), (look_slice rfl (by first | rfl | (simp; done) | (simp; omega))), rfl, rfl, rfl, rfl, rfl, rfl, trivial⟩
            ·
              replace F := ite_n hp3 F
              have hq3 := dec_f hp3
              refine CW.condF rfl hq3 ?_
              replace H := H.pick (L' := [.own (some ⟨b2, 0, none⟩) (((List.replicate (Int.toNat a0.layers) (0 : Int))).length) 3 1 (List.map encN l7), .own A3_0 c3_0 3 1 (List.map encN l8), .blk b1 24 [.int .i64 a0.layers, .slice A_a0_bounds a0.bounds.length c_a0_bounds]]) [1, 2, 3] (by decide) rfl
              replace R0 := H.ext
              refine CW.skip (jK600 _ _ ⟨_, ?_, ⟨t4_4, l7, l8, F, rfl, H⟩⟩)
              exact ⟨rfl, (look_slice rfl (by first | rfl | (simp; done) | (simp; omega))), (look_slice rfl (by first | rfl | (simp; done) | (simp; omega))), rfl, rfl, rfl, rfl, rfl, rfl, trivial⟩
        ·
          replace F := ite_n hp2 F
          have hq2 := dec_f hp2
          refine CW.condF rfl hq2 ?_
          refine CW.exit (jK579 _ _ ⟨_, ?_, ⟨t4_4, l7, l8, F, rfl, H⟩⟩)
          exact ⟨rfl, (look_slice rfl (by first | rfl | (simp; done) | (simp; omega))), (look_slice rfl (by first | rfl | (simp; done) | (simp; omega))), rfl, rfl, rfl, trivial⟩
    ·
      replace F := ite_n hp1 F
      have hq1 := dec_f hp1
      refine CW.condF rfl hq1 ?_
      replace H := H.pick (L' := [.own (some ⟨b2, 0, none⟩) (((List.replicate (Int.toNat a0.layers) (0 : Int))).length) 3 1 (List.map encN l9), .own A3_0 c3_0 3 1 (List.map encN l10)]) [0, 1] (by decide) rfl
      replace R0 := H.ext
      refine CW.exit (jK454 _ _ ⟨_, ?_, ⟨t4_5, l9, l10, F, rfl, H⟩⟩)
      exact ⟨(look_slice rfl (by first | rfl | (simp; done) | (simp; omega))), (look_slice rfl (by first | rfl | (simp; done) | (simp; omega))), rfl, trivial⟩
end Go.D3

set_option linter.unusedVariables false
namespace Go.D3
open Go.Tb Go.Core
def encTight (x : Tight) : List Value := [.bool x.known, .int .i64 x.most]
def core_clashes (a0 : Core) : Option Bool :=
  bnd (core_relax a0) fun r1 =>
  some (decide ((0 : Int) ≤ r1.2.2))
def core_tight_tighter_k1 (a0 : Tight) (a1 : Tight) (t18_1 : Bool) : Option Tight :=
  if t18_1 = true then
    some a1
  else
    some a0
def core_tight_tighter (a0 : Tight) (a1 : Tight) : Option Tight :=
  if a0.known = true then
    if a1.known = true then
      core_tight_tighter_k1 a0 a1 ((decide (a1.most < a0.most)))
    else
      core_tight_tighter_k1 a0 a1 false
  else
    core_tight_tighter_k1 a0 a1 true
def core_tight_over (a0 : Tight) (a1 : Tight) : Option Tight :=
  if a0.known = true then
    gd (InR (a0.most + a1.most)) <|
    some ((⟨a1.known, a0.most + a1.most⟩ : Tight))
  else
    gd (InR (a0.most + a1.most)) <|
    some ((⟨false, a0.most + a1.most⟩ : Tight))
def core_table_k1 (m1 : List (List Tight)) : Option ((List (List Tight))) :=
  some m1
def core_table_k2 (t63_1 : Int) (rec1 : Int → (List (List Tight)) → Option ((List (List Tight)))) (m2 : List (List Tight)) : Option ((List (List Tight))) :=
  gd (InR (t63_1 + 1)) <|
  rec1 ((t63_1 + 1)) m2
def core_table_k3 (t68_1 : Int) (rec2 : Int → (List (List Tight)) → Option ((List (List Tight)))) (m3 : List (List Tight)) : Option ((List (List Tight))) :=
  gd (InR (t68_1 + 1)) <|
  rec2 ((t68_1 + 1)) m3
def core_table_B1 (a0 : Core) (t63_1 : Int) (t68_1 : Int) (rec2 : Int → (List (List Tight)) → Option ((List (List Tight)))) (rec3 : Int → (List (List Tight)) → Option ((List (List Tight)))) (t73_1 : Int) (m4 : List (List Tight)) : Option ((List (List Tight))) :=
  if t73_1 < a0.layers then
    ix m4 t68_1 fun x1 =>
    ix m4 t68_1 fun x2 =>
    ix x2 t73_1 fun x3 =>
    ix m4 t68_1 fun x4 =>
    ix x4 t63_1 fun x5 =>
    ix m4 t63_1 fun x6 =>
    ix x6 t73_1 fun x7 =>
    bnd (core_tight_over x5 x7) fun r1 =>
    bnd (core_tight_tighter x3 r1) fun r2 =>
    ix x1 t73_1 fun x8 =>
    gd (InR (t73_1 + 1)) <|
    rec3 ((t73_1 + 1)) (((m4.set (Int.toNat t68_1) (x1.set (Int.toNat t73_1) r2))))
  else
    core_table_k3 t68_1 rec2 m4
def core_table_L1 (a0 : Core) (t63_1 : Int) (t68_1 : Int) (rec2 : Int → (List (List Tight)) → Option ((List (List Tight)))) : Nat → Int → (List (List Tight)) → Option ((List (List Tight)))
  | 0, _, _ => none
  | n_ + 1, t73_1, m4 => core_table_B1 a0 t63_1 t68_1 rec2 (core_table_L1 a0 t63_1 t68_1 rec2 n_) t73_1 m4
theorem core_table_L1_s {a0 : Core} {t63_1 : Int} {t68_1 : Int} {rec2 : Int → (List (List Tight)) → Option ((List (List Tight)))} {m_ : Nat} {t73_1 : Int} {m4 : List (List Tight)} {res : (List (List Tight))} (h : core_table_L1 a0 t63_1 t68_1 rec2 m_ t73_1 m4 = some res) : ∃ k, m_ = k + 1 ∧ core_table_B1 a0 t63_1 t68_1 rec2 (core_table_L1 a0 t63_1 t68_1 rec2 k) t73_1 m4 = some res := by
  cases m_ with
  | zero => cases h
  | succ k => exact ⟨k, rfl, h⟩
def core_table_B2 (a0 : Core) (t63_1 : Int) (rec1 : Int → (List (List Tight)) → Option ((List (List Tight)))) (rec2 : Int → (List (List Tight)) → Option ((List (List Tight)))) (t68_1 : Int) (m5 : List (List Tight)) : Option ((List (List Tight))) :=
  if t68_1 < a0.layers then
    core_table_L1 a0 t63_1 t68_1 rec2 FU (((0 : Int))) m5
  else
    core_table_k2 t63_1 rec1 m5
def core_table_L2 (a0 : Core) (t63_1 : Int) (rec1 : Int → (List (List Tight)) → Option ((List (List Tight)))) : Nat → Int → (List (List Tight)) → Option ((List (List Tight)))
  | 0, _, _ => none
  | n_ + 1, t68_1, m5 => core_table_B2 a0 t63_1 rec1 (core_table_L2 a0 t63_1 rec1 n_) t68_1 m5
theorem core_table_L2_s {a0 : Core} {t63_1 : Int} {rec1 : Int → (List (List Tight)) → Option ((List (List Tight)))} {m_ : Nat} {t68_1 : Int} {m5 : List (List Tight)} {res : (List (List Tight))} (h : core_table_L2 a0 t63_1 rec1 m_ t68_1 m5 = some res) : ∃ k, m_ = k + 1 ∧ core_table_B2 a0 t63_1 rec1 (core_table_L2 a0 t63_1 rec1 k) t68_1 m5 = some res := by
  cases m_ with
  | zero => cases h
  | succ k => exact ⟨k, rfl, h⟩
def core_table_B3 (a0 : Core) (rec1 : Int → (List (List Tight)) → Option ((List (List Tight)))) (t63_1 : Int) (m6 : List (List Tight)) : Option ((List (List Tight))) :=
  if t63_1 < a0.layers then
    core_table_L2 a0 t63_1 rec1 FU (((0 : Int))) m6
  else
    core_table_k1 m6
def core_table_L3 (a0 : Core) : Nat → Int → (List (List Tight)) → Option ((List (List Tight)))
  | 0, _, _ => none
  | n_ + 1, t63_1, m6 => core_table_B3 a0 (core_table_L3 a0 n_) t63_1 m6
theorem core_table_L3_s {a0 : Core} {m_ : Nat} {t63_1 : Int} {m6 : List (List Tight)} {res : (List (List Tight))} (h : core_table_L3 a0 m_ t63_1 m6 = some res) : ∃ k, m_ = k + 1 ∧ core_table_B3 a0 (core_table_L3 a0 k) t63_1 m6 = some res := by
  cases m_ with
  | zero => cases h
  | succ k => exact ⟨k, rfl, h⟩
def core_table_k4 (a0 : Core) (m7 : List (List Tight)) : Option ((List (List Tight))) :=
  core_table_L3 a0 FU (((0 : Int))) m7
def core_table_B4 (a0 : Core) (rec4 : Int → (List (List Tight)) → Option ((List (List Tight)))) (t35_1 : Int) (m8 : List (List Tight)) : Option ((List (List Tight))) :=
  if t35_1 < ((a0.bounds.length : Int)) then
    ix a0.bounds t35_1 fun x9 =>
    ix m8 x9.a fun x10 =>
    ix m8 x9.a fun x11 =>
    ix x11 x9.b fun x12 =>
    bnd (core_tight_tighter x12 ((⟨true, x9.most⟩ : Tight))) fun r3 =>
    ix x10 x9.b fun x13 =>
    gd (InR (t35_1 + 1)) <|
    rec4 ((t35_1 + 1)) (((m8.set (Int.toNat x9.a) (x10.set (Int.toNat x9.b) r3))))
  else
    core_table_k4 a0 m8
def core_table_L4 (a0 : Core) : Nat → Int → (List (List Tight)) → Option ((List (List Tight)))
  | 0, _, _ => none
  | n_ + 1, t35_1, m8 => core_table_B4 a0 (core_table_L4 a0 n_) t35_1 m8
theorem core_table_L4_s {a0 : Core} {m_ : Nat} {t35_1 : Int} {m8 : List (List Tight)} {res : (List (List Tight))} (h : core_table_L4 a0 m_ t35_1 m8 = some res) : ∃ k, m_ = k + 1 ∧ core_table_B4 a0 (core_table_L4 a0 k) t35_1 m8 = some res := by
  cases m_ with
  | zero => cases h
  | succ k => exact ⟨k, rfl, h⟩
def core_table_k5 (a0 : Core) (m9 : List (List Tight)) : Option ((List (List Tight))) :=
  core_table_L4 a0 FU (((0 : Int))) m9
def core_table_B5 (a0 : Core) (rec5 : Int → (List (List Tight)) → Option ((List (List Tight)))) (t15_1 : Int) (m10 : List (List Tight)) : Option ((List (List Tight))) :=
  if t15_1 < (((List.replicate (Int.toNat a0.layers) (() : Unit)).length : Int)) then
    gd (0 ≤ a0.layers ∧ a0.layers ≤ 1000000) <|
    ix m10 t15_1 fun x14 =>
    ix ((m10.set (Int.toNat t15_1) ((List.replicate (Int.toNat a0.layers) ((⟨false, 0⟩ : Tight) : Tight))))) t15_1 fun x15 =>
    ix x15 t15_1 fun x16 =>
    gd (InR (t15_1 + 1)) <|
    rec5 ((t15_1 + 1)) (((((m10.set (Int.toNat t15_1) ((List.replicate (Int.toNat a0.layers) ((⟨false, 0⟩ : Tight) : Tight))))).set (Int.toNat t15_1) (x15.set (Int.toNat t15_1) ((⟨true, x16.most⟩ : Tight))))))
  else
    core_table_k5 a0 m10
def core_table_L5 (a0 : Core) : Nat → Int → (List (List Tight)) → Option ((List (List Tight)))
  | 0, _, _ => none
  | n_ + 1, t15_1, m10 => core_table_B5 a0 (core_table_L5 a0 n_) t15_1 m10
theorem core_table_L5_s {a0 : Core} {m_ : Nat} {t15_1 : Int} {m10 : List (List Tight)} {res : (List (List Tight))} (h : core_table_L5 a0 m_ t15_1 m10 = some res) : ∃ k, m_ = k + 1 ∧ core_table_B5 a0 (core_table_L5 a0 k) t15_1 m10 = some res := by
  cases m_ with
  | zero => cases h
  | succ k => exact ⟨k, rfl, h⟩
def core_table (a0 : Core) : Option ((List (List Tight))) :=
  gd (0 ≤ a0.layers ∧ a0.layers ≤ 1000000) <|
  core_table_L5 a0 FU (((0 : Int))) (((List.replicate (Int.toNat a0.layers) ([] : List Tight))))
end Go.D3

set_option linter.unusedVariables false
set_option linter.unusedSimpArgs false
namespace Go.D3
open Go.Tb Go.Proofs Go.RowKit Go.Core
theorem Tc72 : callable Try.prog 72 = true := by kernel_rfl
theorem Tc91 : callable Try.prog 91 = true := by kernel_rfl
theorem Tc92 : callable Try.prog 92 = true := by kernel_rfl
theorem Tf75_0 : tyF Try.prog 75 0 = some 0 := by kernel_rfl
theorem Tf75_1 : tyF Try.prog 75 1 = some 1 := by kernel_rfl
theorem Tk4 : tyK Try.prog 4 = some (false, 1) := by kernel_rfl
theorem Tk75 : tyK Try.prog 75 = some (true, 2) := by kernel_rfl
theorem Tk76 : tyK Try.prog 76 = some (false, 1) := by kernel_rfl
theorem Ts69 : tyS Try.prog 69 = some (76, 1, 24, [.slice none 0 0]) := by kernel_rfl
theorem Ts76 : tyS Try.prog 76 = some (75, 2, 16, [.bool false, .int .i64 0]) := by kernel_rfl
theorem Tz75 : tyZ Try.prog 75 = some (.agg #[.bool false, .int .i64 0]) := by kernel_rfl
set_option maxRecDepth 20000 in
set_option maxHeartbeats 1000000 in
theorem core_clashes_ok {a0 : Core} {A_a0_bounds : Option Addr} {c_a0_bounds : Nat} {w : World} {res : Bool} (h_a0_bounds : Sl w A_a0_bounds c_a0_bounds 3 (a0.bounds.map encBound)) (F : core_clashes a0 = some res) : Calls Try.prog 68 #[.agg #[.int .i64 a0.layers, .slice A_a0_bounds a0.bounds.length c_a0_bounds]] w (Rt w (.bool res)) := by
  refine calls_of_cw (args := [.agg #[.int .i64 a0.layers, .slice A_a0_bounds a0.bounds.length c_a0_bounds]]) Try.func68 rfl rfl rfl rfl ?_
  have H := Hp.start w
  have R0 := H.ext
  unfold core_clashes at F
  refine CW.seq fun K1 hK1 => ?_
  refine CW.region ?_
  refine LW.go rfl rfl (OW.box rfl fun b1 w1 N1 => ?_)
  replace H := H.new N1 N1.blk
  replace R0 := H.ext
  refine LW.pure rfl rfl (RV.assign rfl) ?_
  refine LW.nil (hK1 _ _ ?_)
  refine CW.seq fun K2 hK2 => ?_
  obtain ⟨r1, hr1, F⟩ := bnd_some F
  refine CW.region ?_
  refine LW.pure rfl rfl (RV.loadA [.int .i64 a0.layers, .slice A_a0_bounds a0.bounds.length c_a0_bounds] Tk24 rfl (H.blk 0 rfl).cells rfl rfl) ?_
  refine LW.go rfl rfl (OW.call Tc72 rfl (core_relax_ok (a0 := a0) (h_a0_bounds.ext R0) hr1) ?_)
  rintro _ w2 ⟨A3_0, c3_0, A3_1, c3_1, rfl, E1⟩
  refine ⟨_, rfl, ?_⟩
  replace H : Hp w w2 [.own A3_0 c3_0 3 1 (List.map encN r1.1), .own A3_1 c3_1 3 1 (List.map encN r1.2.1), .blk b1 24 [.int .i64 a0.layers, .slice A_a0_bounds a0.bounds.length c_a0_bounds]] := H.append E1
  replace R0 := H.ext
  refine LW.pure rfl rfl (RV.move rfl) ?_
  refine LW.pure rfl rfl (RV.extract rfl rfl) ?_
  refine LW.pure rfl rfl (RV.extract rfl rfl) ?_
  refine LW.pure rfl rfl (RV.extract rfl rfl) ?_
  refine LW.pure rfl rfl (RV.assign rfl) ?_
  refine LW.pure rfl rfl (RV.assign rfl) ?_
  refine LW.pure rfl rfl (RV.assign rfl) ?_
  refine LW.nil (hK2 _ _ ?_)
  refine CW.seq fun K3 hK3 => ?_
  refine CW.region ?_
  refine LW.pure rfl rfl (RV.move rfl) ?_
  refine LW.pure rfl rfl (RV.geq rfl rfl) ?_
  refine LW.pure rfl rfl (RV.assign rfl) ?_
  refine LW.nil (hK3 _ _ ?_)
  refine CW.ret ?_
  obtain rfl := Option.some.inj F
  refine ⟨_, (ResOK.one rfl), ?_⟩
  refine ⟨(by first | rfl | simp), R0⟩
set_option maxRecDepth 20000 in
set_option maxHeartbeats 1000000 in
theorem core_tight_tighter_ok {a0 : Tight} {a1 : Tight} {w : World} {res : Tight} (F : core_tight_tighter a0 a1 = some res) : Calls Try.prog 91 #[.agg #[.bool a0.known, .int .i64 a0.most], .agg #[.bool a1.known, .int .i64 a1.most]] w (Rt w (.agg #[.bool res.known, .int .i64 res.most])) := by
  refine calls_of_cw (args := [.agg #[.bool a0.known, .int .i64 a0.most], .agg #[.bool a1.known, .int .i64 a1.most]]) Try.func91 rfl rfl rfl rfl ?_
  have H := Hp.start w
  have R0 := H.ext
  unfold core_tight_tighter at F
  refine CW.seq fun K1 hK1 => ?_
  refine CW.region ?_
  refine LW.go rfl rfl (OW.box rfl fun b1 w1 N1 => ?_)
  replace H := H.new N1 N1.blk
  replace R0 := H.ext
  refine LW.go rfl rfl (OW.box rfl fun b2 w2 N2 => ?_)
  replace H := H.new N2 N2.blk
  replace R0 := H.ext
  refine LW.go rfl rfl (OW.alloc Tz75 fun b3 w3 N3 => ?_)
  replace H := H.new N3 N3.blk
  replace R0 := H.ext
  refine LW.nil (hK1 _ _ ?_)
  refine CW.seq fun K2 hK2 => ?_
  refine CW.seqJ (fun ρ wl1 => (∃ (t18_1 : Bool), core_tight_tighter_k1 a0 a1 t18_1 = some res ∧ ρ = [(2, .pointer (some (⟨b1, 0, none⟩))), (3, .pointer (some (⟨b2, 0, none⟩))), (4, .pointer (some (⟨b3, 0, none⟩))), (18, .bool t18_1)] ∧ Hp w wl1 [.blk b1 75 [.bool a0.known, .int .i64 a0.most], .blk b2 75 [.bool a1.known, .int .i64 a1.most], .blk b3 75 [.bool false, .int .i64 0]])) ?_ ?_
  ·
    rintro _ wl1 ⟨t18_1, F, rfl, H⟩
    have R0 := H.ext
    unfold core_tight_tighter_k1 at F
    by_cases hp1 : t18_1 = true
    ·
      replace F := ite_y hp1 F
      have hq1 : t18_1 = true := hp1
      refine CW.condT rfl hq1 ?_
      refine CW.seq fun K3 hK3 => ?_
      refine CW.region ?_
      refine LW.pure rfl rfl (RV.loadA [.bool a1.known, .int .i64 a1.most] Tk75 rfl (H.blk 1 rfl).cells rfl rfl) ?_
      refine LW.go rfl rfl (OW.store Tk75 rfl rfl (H.blk 2 rfl) (off := 0) (vs := [.bool a1.known, .int .i64 a1.most]) rfl rfl rfl rfl rfl fun w4 S1 => ?_)
      replace H : Hp w w4 [.blk b1 75 [.bool a0.known, .int .i64 a0.most], .blk b2 75 [.bool a1.known, .int .i64 a1.most], .blk b3 75 [.bool a1.known, .int .i64 a1.most]] := H.stored 2 rfl S1
      replace R0 := H.ext
      refine LW.nil (hK3 _ _ ?_)
      refine CW.ret ?_
      obtain rfl := Option.some.inj F
      refine ⟨_, (ResOK.cell1 ⟨_, rfl, run_loadVar_agg Tk75 (H.blk 2 rfl).cells (us := [.bool a1.known, .int .i64 a1.most]) rfl rfl⟩), ?_⟩
      refine ⟨(by first | rfl | simp), R0⟩
    ·
      replace F := ite_n hp1 F
      have hq1 : t18_1 = false := raw_f hp1
      refine CW.condF rfl hq1 ?_
      refine CW.skip (hK2 _ _ ?_)
      refine CW.seq fun K4 hK4 => ?_
      refine CW.region ?_
      refine LW.pure rfl rfl (RV.loadA [.bool a0.known, .int .i64 a0.most] Tk75 rfl (H.blk 0 rfl).cells rfl rfl) ?_
      refine LW.go rfl rfl (OW.store Tk75 rfl rfl (H.blk 2 rfl) (off := 0) (vs := [.bool a0.known, .int .i64 a0.most]) rfl rfl rfl rfl rfl fun w5 S2 => ?_)
      replace H : Hp w w5 [.blk b1 75 [.bool a0.known, .int .i64 a0.most], .blk b2 75 [.bool a1.known, .int .i64 a1.most], .blk b3 75 [.bool a0.known, .int .i64 a0.most]] := H.stored 2 rfl S2
      replace R0 := H.ext
      refine LW.nil (hK4 _ _ ?_)
      refine CW.ret ?_
      obtain rfl := Option.some.inj F
      refine ⟨_, (ResOK.cell1 ⟨_, rfl, run_loadVar_agg Tk75 (H.blk 2 rfl).cells (us := [.bool a0.known, .int .i64 a0.most]) rfl rfl⟩), ?_⟩
      refine ⟨(by first | rfl | simp), R0⟩
  ·
    intro K5 hK5 jK10
    by_cases hp2 : a0.known = true
    ·
      replace F := ite_y hp2 F
      have hq2 : a0.known = true := hp2
      by_cases hp3 : a1.known = true
      ·
        replace F := ite_y hp3 F
        have hq3 : a1.known = true := hp3
        refine CW.region ?_
        refine LW.pure rfl rfl (RV.fieldAddr Tf75_0 rfl) ?_
        refine LW.pure rfl rfl (RV.load1 Tk4 rfl ((H.blk 2 rfl).cells.off 0) rfl) ?_
        refine LW.pure rfl rfl (RV.not rfl) ?_
        refine LW.pure rfl rfl (RV.move rfl) ?_
        refine LW.pureYB rfl rfl rfl rfl (not_f hq2) (RV.fieldAddr Tf75_0 rfl) ?_
        refine LW.pureYB rfl rfl rfl rfl (not_f hq2) (RV.load1 Tk4 rfl ((H.blk 1 rfl).cells.off 0) rfl) ?_
        refine LW.pureYB rfl rfl rfl rfl (not_f hq2) (RV.move rfl) ?_
        refine LW.pureYB rfl rfl rfl rfl hq3 (RV.fieldAddr Tf75_1 rfl) ?_
        refine LW.pureYB rfl rfl rfl rfl hq3 (RV.load1 Tk3 rfl ((H.blk 1 rfl).cells.off 1) rfl) ?_
        refine LW.pureYB rfl rfl rfl rfl hq3 (RV.fieldAddr Tf75_1 rfl) ?_
        refine LW.pureYB rfl rfl rfl rfl hq3 (RV.load1 Tk3 rfl ((H.blk 2 rfl).cells.off 1) rfl) ?_
        refine LW.pureYB rfl rfl rfl rfl hq3 (RV.lss rfl rfl) ?_
        refine LW.pureYB rfl rfl rfl rfl (not_f hq2) (RV.pickTB rfl hq3 rfl) ?_
        refine LW.pure rfl rfl (RV.pickFB rfl (not_f hq2) rfl) ?_
        replace H := H.pick (L' := [.blk b1 75 [.bool a0.known, .int .i64 a0.most], .blk b2 75 [.bool a1.known, .int .i64 a1.most], .blk b3 75 [.bool false, .int .i64 0]]) [2, 1, 0] (by decide) rfl
        replace R0 := H.ext
        refine LW.nil (jK10 _ _ ⟨_, ?_, ⟨(decide (a1.most < a0.most)), F, rfl, H⟩⟩)
        exact ⟨rfl, rfl, rfl, rfl, trivial⟩
      ·
        replace F := ite_n hp3 F
        have hq3 : a1.known = false := raw_f hp3
        refine CW.region ?_
        refine LW.pure rfl rfl (RV.fieldAddr Tf75_0 rfl) ?_
        refine LW.pure rfl rfl (RV.load1 Tk4 rfl ((H.blk 2 rfl).cells.off 0) rfl) ?_
        refine LW.pure rfl rfl (RV.not rfl) ?_
        refine LW.pure rfl rfl (RV.move rfl) ?_
        refine LW.pureYB rfl rfl rfl rfl (not_f hq2) (RV.fieldAddr Tf75_0 rfl) ?_
        refine LW.pureYB rfl rfl rfl rfl (not_f hq2) (RV.load1 Tk4 rfl ((H.blk 1 rfl).cells.off 0) rfl) ?_
        refine LW.pureYB rfl rfl rfl rfl (not_f hq2) (RV.move rfl) ?_
        refine LW.noB rfl rfl rfl rfl (ne_beq (v := false) hq3 rfl) ?_
        refine LW.noB rfl rfl rfl rfl (ne_beq (v := false) hq3 rfl) ?_
        refine LW.noB rfl rfl rfl rfl (ne_beq (v := false) hq3 rfl) ?_
        refine LW.noB rfl rfl rfl rfl (ne_beq (v := false) hq3 rfl) ?_
        refine LW.noB rfl rfl rfl rfl (ne_beq (v := false) hq3 rfl) ?_
        refine LW.pureYB rfl rfl rfl rfl (not_f hq2) (RV.pickFB rfl hq3 rfl) ?_
        refine LW.pure rfl rfl (RV.pickFB rfl (not_f hq2) rfl) ?_
        replace H := H.pick (L' := [.blk b1 75 [.bool a0.known, .int .i64 a0.most], .blk b2 75 [.bool a1.known, .int .i64 a1.most], .blk b3 75 [.bool false, .int .i64 0]]) [2, 1, 0] (by decide) rfl
        replace R0 := H.ext
        refine LW.nil (jK10 _ _ ⟨_, ?_, ⟨false, F, rfl, H⟩⟩)
        exact ⟨rfl, rfl, rfl, rfl, trivial⟩
    ·
      replace F := ite_n hp2 F
      have hq2 : a0.known = false := raw_f hp2
      refine CW.region ?_
      refine LW.pure rfl rfl (RV.fieldAddr Tf75_0 rfl) ?_
      refine LW.pure rfl rfl (RV.load1 Tk4 rfl ((H.blk 2 rfl).cells.off 0) rfl) ?_
      refine LW.pure rfl rfl (RV.not rfl) ?_
      refine LW.pure rfl rfl (RV.move rfl) ?_
      refine LW.noB rfl rfl rfl rfl (ne_beq (v := true) (not_t hq2) rfl) ?_
      refine LW.noB rfl rfl rfl rfl (ne_beq (v := true) (not_t hq2) rfl) ?_
      refine LW.noB rfl rfl rfl rfl (ne_beq (v := true) (not_t hq2) rfl) ?_
      refine LW.noU rfl rfl rfl rfl ?_
      refine LW.noU rfl rfl rfl rfl ?_
      refine LW.noU rfl rfl rfl rfl ?_
      refine LW.noU rfl rfl rfl rfl ?_
      refine LW.noU rfl rfl rfl rfl ?_
      refine LW.noB rfl rfl rfl rfl (ne_beq (v := true) (not_t hq2) rfl) ?_
      refine LW.pure rfl rfl (RV.pickTB rfl (not_t hq2) rfl) ?_
      replace H := H.pick (L' := [.blk b1 75 [.bool a0.known, .int .i64 a0.most], .blk b2 75 [.bool a1.known, .int .i64 a1.most], .blk b3 75 [.bool false, .int .i64 0]]) [2, 1, 0] (by decide) rfl
      replace R0 := H.ext
      refine LW.nil (jK10 _ _ ⟨_, ?_, ⟨true, F, rfl, H⟩⟩)
      exact ⟨rfl, rfl, rfl, rfl, trivial⟩
set_option maxRecDepth 20000 in
set_option maxHeartbeats 1000000 in
theorem core_tight_over_ok {a0 : Tight} {a1 : Tight} {w : World} {res : Tight} (F : core_tight_over a0 a1 = some res) : Calls Try.prog 92 #[.agg #[.bool a0.known, .int .i64 a0.most], .agg #[.bool a1.known, .int .i64 a1.most]] w (Rt w (.agg #[.bool res.known, .int .i64 res.most])) := by
  refine calls_of_cw (args := [.agg #[.bool a0.known, .int .i64 a0.most], .agg #[.bool a1.known, .int .i64 a1.most]]) Try.func92 rfl rfl rfl rfl ?_
  have H := Hp.start w
  have R0 := H.ext
  unfold core_tight_over at F
  refine CW.seq fun K1 hK1 => ?_
  refine CW.region ?_
  refine LW.go rfl rfl (OW.box rfl fun b1 w1 N1 => ?_)
  replace H := H.new N1 N1.blk
  replace R0 := H.ext
  refine LW.go rfl rfl (OW.box rfl fun b2 w2 N2 => ?_)
  replace H := H.new N2 N2.blk
  replace R0 := H.ext
  refine LW.go rfl rfl (OW.alloc Tz75 fun b3 w3 N3 => ?_)
  replace H := H.new N3 N3.blk
  replace R0 := H.ext
  refine LW.nil (hK1 _ _ ?_)
  refine CW.seq fun K2 hK2 => ?_
  by_cases hp1 : a0.known = true
  ·
    replace F := ite_y hp1 F
    have hq1 : a0.known = true := hp1
    obtain ⟨hg1, F⟩ := gd_some F
    refine CW.region ?_
    refine LW.pure rfl rfl (RV.fieldAddr Tf75_0 rfl) ?_
    refine LW.pure rfl rfl (RV.load1 Tk4 rfl ((H.blk 2 rfl).cells.off 0) rfl) ?_
    refine LW.pure rfl rfl (RV.move rfl) ?_
    refine LW.pureYB rfl rfl rfl rfl hq1 (RV.fieldAddr Tf75_0 rfl) ?_
    refine LW.pureYB rfl rfl rfl rfl hq1 (RV.load1 Tk4 rfl ((H.blk 1 rfl).cells.off 0) rfl) ?_
    refine LW.pure rfl rfl (RV.pickTB rfl hq1 rfl) ?_
    refine LW.pure rfl rfl (RV.fieldAddr Tf75_1 rfl) ?_
    refine LW.pure rfl rfl (RV.load1 Tk3 rfl ((H.blk 2 rfl).cells.off 1) rfl) ?_
    refine LW.pure rfl rfl (RV.fieldAddr Tf75_1 rfl) ?_
    refine LW.pure rfl rfl (RV.load1 Tk3 rfl ((H.blk 1 rfl).cells.off 1) rfl) ?_
    refine LW.pure rfl rfl (RV.add rfl rfl hg1) ?_
    refine LW.pure rfl rfl (RV.build (vs := [.bool a1.known, .int .i64 (a0.most + a1.most)]) (cs := [.bool a1.known, .int .i64 (a0.most + a1.most)]) rfl (fun _ => by kernel_rfl)) ?_
    refine LW.go rfl rfl (OW.store Tk75 rfl rfl (H.blk 0 rfl) (off := 0) (vs := [.bool a1.known, .int .i64 (a0.most + a1.most)]) rfl rfl rfl rfl rfl fun w4 S1 => ?_)
    replace H : Hp w w4 [.blk b3 75 [.bool a1.known, .int .i64 (a0.most + a1.most)], .blk b2 75 [.bool a1.known, .int .i64 a1.most], .blk b1 75 [.bool a0.known, .int .i64 a0.most]] := H.stored 0 rfl S1
    replace R0 := H.ext
    refine LW.nil (hK2 _ _ ?_)
    refine CW.ret ?_
    obtain rfl := Option.some.inj F
    refine ⟨_, (ResOK.cell1 ⟨_, rfl, run_loadVar_agg Tk75 (H.blk 0 rfl).cells (us := [.bool a1.known, .int .i64 (a0.most + a1.most)]) rfl rfl⟩), ?_⟩
    refine ⟨(by first | rfl | simp), R0⟩
  ·
    replace F := ite_n hp1 F
    have hq1 : a0.known = false := raw_f hp1
    obtain ⟨hg2, F⟩ := gd_some F
    refine CW.region ?_
    refine LW.pure rfl rfl (RV.fieldAddr Tf75_0 rfl) ?_
    refine LW.pure rfl rfl (RV.load1 Tk4 rfl ((H.blk 2 rfl).cells.off 0) rfl) ?_
    refine LW.pure rfl rfl (RV.move rfl) ?_
    refine LW.noB rfl rfl rfl rfl (ne_beq (v := false) hq1 rfl) ?_
    refine LW.noB rfl rfl rfl rfl (ne_beq (v := false) hq1 rfl) ?_
    refine LW.pure rfl rfl (RV.pickFB rfl hq1 rfl) ?_
    refine LW.pure rfl rfl (RV.fieldAddr Tf75_1 rfl) ?_
    refine LW.pure rfl rfl (RV.load1 Tk3 rfl ((H.blk 2 rfl).cells.off 1) rfl) ?_
    refine LW.pure rfl rfl (RV.fieldAddr Tf75_1 rfl) ?_
    refine LW.pure rfl rfl (RV.load1 Tk3 rfl ((H.blk 1 rfl).cells.off 1) rfl) ?_
    refine LW.pure rfl rfl (RV.add rfl rfl hg2) ?_
    refine LW.pure rfl rfl (RV.build (vs := [.bool false, .int .i64 (a0.most + a1.most)]) (cs := [.bool false, .int .i64 (a0.most + a1.most)]) rfl (fun _ => by kernel_rfl)) ?_
    refine LW.go rfl rfl (OW.store Tk75 rfl rfl (H.blk 0 rfl) (off := 0) (vs := [.bool false, .int .i64 (a0.most + a1.most)]) rfl rfl rfl rfl rfl fun w5 S2 => ?_)
    replace H : Hp w w5 [.blk b3 75 [.bool false, .int .i64 (a0.most + a1.most)], .blk b2 75 [.bool a1.known, .int .i64 a1.most], .blk b1 75 [.bool a0.known, .int .i64 a0.most]] := H.stored 0 rfl S2
    replace R0 := H.ext
    refine LW.nil (hK2 _ _ ?_)
    refine CW.ret ?_
    obtain rfl := Option.some.inj F
    refine ⟨_, (ResOK.cell1 ⟨_, rfl, run_loadVar_agg Tk75 (H.blk 0 rfl).cells (us := [.bool false, .int .i64 (a0.most + a1.most)]) rfl rfl⟩), ?_⟩
    refine ⟨(by first | rfl | simp), R0⟩
set_option maxRecDepth 20000 in
set_option maxHeartbeats 1000000 in
theorem core_table_ok {a0 : Core} {A_a0_bounds : Option Addr} {c_a0_bounds : Nat} {w : World} {res : (List (List Tight))} (h_a0_bounds : Sl w A_a0_bounds c_a0_bounds 3 (a0.bounds.map encBound)) (F : core_table a0 = some res) : Calls Try.prog 81 #[.agg #[.int .i64 a0.layers, .slice A_a0_bounds a0.bounds.length c_a0_bounds]] w (fun e w' => ∃ (A0 : Option Addr) (c0 : Nat) (hs0 : List (Option Addr × Nat)), e = .returned (.slice A0 res.length c0) ∧ Hp w w' [.tab A0 c0 76 hs0 75 2 (encM encTight res)]) := by
  refine calls_of_cw (args := [.agg #[.int .i64 a0.layers, .slice A_a0_bounds a0.bounds.length c_a0_bounds]]) Try.func81 rfl rfl rfl rfl ?_
  have H := Hp.start w
  have R0 := H.ext
  unfold core_table at F
  refine CW.seq fun K1 hK1 => ?_
  refine CW.region ?_
  refine LW.go rfl rfl (OW.box rfl fun b1 w1 N1 => ?_)
  replace H := H.new N1 N1.blk
  replace R0 := H.ext
  refine LW.pure rfl rfl (RV.assign rfl) ?_
  refine LW.nil (hK1 _ _ ?_)
  refine CW.seq fun K2 hK2 => ?_
  obtain ⟨hg1, F⟩ := gd_some F
  refine CW.region ?_
  refine LW.pure rfl rfl (RV.fieldAddr Tf24_0 rfl) ?_
  refine LW.pure rfl rfl (RV.load1 Tk3 rfl ((H.blk 0 rfl).cells.off 0) rfl) ?_
  refine LW.go rfl rfl (OW.makeR (enc := (fun (_ : Unit) => [Value.slice none 0 0])) (() : Unit) Ts69 rfl rfl rfl rfl rfl hg1 (by decide) fun b2 w2 N2 => ?_)
  replace H := H.made' (k := 1) (t := 76) (enc := (fun (_ : Unit) => [Value.slice none 0 0])) (l := (List.replicate (Int.toNat a0.layers) (() : Unit))) N2 N2.blk (fun _ => rfl) rfl (by first | decide | omega | (simp; done) | (simp; omega))
  replace R0 := H.ext
  replace H : Hp w w2 [.tab (some ⟨b2, 0, none⟩) (((List.replicate (Int.toNat a0.layers) (() : Unit))).length) 76 (List.replicate (Int.toNat a0.layers) (none, 0)) 75 2 (encM encTight ((List.replicate (Int.toNat a0.layers) ([] : List Tight)))), .blk b1 24 [.int .i64 a0.layers, .slice A_a0_bounds a0.bounds.length c_a0_bounds]] := H.asTab encTight 0 75 2 rfl
  replace R0 := H.ext
  refine LW.pure rfl rfl (RV.assign rfl) ?_
  refine LW.nil (hK2 _ _ ?_)
  refine CW.seqJ (fun ρ wl1 => (∃ (m9 : List (List Tight)) (hsm9 : List (Option Addr × Nat)), core_table_k5 a0 m9 = some res ∧ ρ = [(1, .pointer (some (⟨b1, 0, none⟩))), (2, .slice none 0 0), (3, .slice (some ⟨b2, 0, none⟩) m9.length (((List.replicate (Int.toNat a0.layers) (() : Unit))).length))] ∧ Hp w wl1 [.tab (some ⟨b2, 0, none⟩) (((List.replicate (Int.toNat a0.layers) (() : Unit))).length) 76 hsm9 75 2 (encM encTight m9), .blk b1 24 [.int .i64 a0.layers, .slice A_a0_bounds a0.bounds.length c_a0_bounds]])) ?_ ?_
  ·
    rintro _ wl1 ⟨m9, hsm9, F, rfl, H⟩
    have R0 := H.ext
    unfold core_table_k5 at F
    refine CW.seqJ (fun ρ wl2 => (∃ (m7 : List (List Tight)), core_table_k4 a0 m7 = some res ∧ ρ = [(1, .pointer (some (⟨b1, 0, none⟩))), (2, .slice none 0 0), (3, .slice (some ⟨b2, 0, none⟩) m7.length (((List.replicate (Int.toNat a0.layers) (() : Unit))).length))] ∧ Hp w wl2 [.tab (some ⟨b2, 0, none⟩) (((List.replicate (Int.toNat a0.layers) (() : Unit))).length) 76 hsm9 75 2 (encM encTight m7), .blk b1 24 [.int .i64 a0.layers, .slice A_a0_bounds a0.bounds.length c_a0_bounds]])) ?_ ?_
    ·
      rintro _ wl2 ⟨m7, F, rfl, H⟩
      have R0 := H.ext
      unfold core_table_k4 at F
      refine CW.seqJ (fun ρ wl3 => (∃ (m1 : List (List Tight)), core_table_k1 m1 = some res ∧ ρ = [(2, .slice none 0 0), (3, .slice (some ⟨b2, 0, none⟩) m1.length (((List.replicate (Int.toNat a0.layers) (() : Unit))).length))] ∧ Hp w wl3 [.tab (some ⟨b2, 0, none⟩) (((List.replicate (Int.toNat a0.layers) (() : Unit))).length) 76 hsm9 75 2 (encM encTight m1)])) ?_ ?_
      ·
        rintro _ wl3 ⟨m1, F, rfl, H⟩
        have R0 := H.ext
        unfold core_table_k1 at F
        refine CW.seq fun K3 hK3 => ?_
        refine CW.region ?_
        refine LW.pure rfl rfl (RV.move rfl) ?_
        refine LW.pure rfl rfl (RV.assign rfl) ?_
        refine LW.nil (hK3 _ _ ?_)
        refine CW.ret ?_
        obtain rfl := Option.some.inj F
        refine ⟨_, (ResOK.one rfl), ?_⟩
        exact ⟨(some ⟨b2, 0, none⟩), (((List.replicate (Int.toNat a0.layers) (() : Unit))).length), hsm9, (by first | rfl | (simp; done) | (simp; omega)), H⟩
      ·
        intro K4 hK4 jK1837
        refine CW.seq fun K5 hK5 => ?_
        refine CW.region ?_
        refine LW.pure rfl rfl (RV.fieldAddr Tf24_0 rfl) ?_
        refine LW.pure rfl rfl (RV.load1 Tk3 rfl ((H.blk 1 rfl).cells.off 0) rfl) ?_
        refine LW.pure rfl rfl (RV.move rfl) ?_
        refine LW.nil (hK5 _ _ ?_)
        refine CW.block ?_
        refine CW.loop (fun meas ρ wl4 => ∃ (t63_1 : Int) (m6 : List (List Tight)), core_table_L3 a0 meas t63_1 m6 = some res ∧ ρ = [(1, .pointer (some (⟨b1, 0, none⟩))), (2, .slice none 0 0), (3, .slice (some ⟨b2, 0, none⟩) m6.length (((List.replicate (Int.toNat a0.layers) (() : Unit))).length)), (62, .int .i64 a0.layers), (63, .int .i64 t63_1)] ∧ Hp w wl4 [.tab (some ⟨b2, 0, none⟩) (((List.replicate (Int.toNat a0.layers) (() : Unit))).length) 76 hsm9 75 2 (encM encTight m6), .blk b1 24 [.int .i64 a0.layers, .slice A_a0_bounds a0.bounds.length c_a0_bounds]]) FU ⟨_, ?_, ((0 : Int)), m7, F, rfl, H⟩ ?_
        · exact ⟨rfl, rfl, (look_slice rfl (by first | rfl | (simp; done) | (simp; omega))), rfl, rfl, trivial⟩
        rintro mk1 _ wl4 ⟨t63_1, m6, F, rfl, H⟩
        have R0 := H.ext
        replace F := core_table_L3_s F
        obtain ⟨mk1, rfl, F⟩ := F
        generalize hrec1 : core_table_L3 a0 mk1 = rec1 at F
        unfold core_table_B3 at F
        refine CW.seq fun K6 hK6 => ?_
        refine CW.region ?_
        refine LW.pure rfl rfl (RV.lss rfl rfl) ?_
        refine LW.nil (hK6 _ _ ?_)
        refine CW.seq fun K7 hK7 => ?_
        by_cases hp1 : t63_1 < a0.layers
        ·
          replace F := ite_y hp1 F
          have hq1 := dec_t hp1
          refine CW.condT rfl hq1 ?_
          refine CW.skip (hK7 _ _ ?_)
          refine CW.seqJ (fun ρ wl5 => (∃ (m2 : List (List Tight)), core_table_k2 t63_1 rec1 m2 = some res ∧ ρ = [(1, .pointer (some (⟨b1, 0, none⟩))), (2, .slice none 0 0), (3, .slice (some ⟨b2, 0, none⟩) m2.length (((List.replicate (Int.toNat a0.layers) (() : Unit))).length)), (62, .int .i64 a0.layers), (63, .int .i64 t63_1)] ∧ Hp w wl5 [.tab (some ⟨b2, 0, none⟩) (((List.replicate (Int.toNat a0.layers) (() : Unit))).length) 76 hsm9 75 2 (encM encTight m2), .blk b1 24 [.int .i64 a0.layers, .slice A_a0_bounds a0.bounds.length c_a0_bounds]])) ?_ ?_
          ·
            rintro _ wl5 ⟨m2, F, rfl, H⟩
            have R0 := H.ext
            unfold core_table_k2 at F
            obtain ⟨hg2, F⟩ := gd_some F
            refine CW.region ?_
            refine LW.pure rfl rfl (RV.add rfl rfl hg2) ?_
            refine LW.pure rfl rfl (RV.move rfl) ?_
            refine LW.nil ?_
            subst hrec1
            refine ⟨mk1, Nat.lt_succ_self _, _, ?_, (t63_1 + 1), m2, F, rfl, H⟩
            exact ⟨rfl, rfl, (look_slice rfl (by first | rfl | (simp; done) | (simp; omega))), rfl, rfl, trivial⟩
          ·
            intro K8 hK8 jK2322
            refine CW.block ?_
            refine CW.seq fun K9 hK9 => ?_
            refine CW.region ?_
            refine LW.pure rfl rfl (RV.move rfl) ?_
            refine LW.pure rfl rfl (RV.assign rfl) ?_
            refine LW.nil (hK9 _ _ ?_)
            refine CW.seq fun K10 hK10 => ?_
            refine CW.region ?_
            refine LW.pure rfl rfl (RV.fieldAddr Tf24_0 rfl) ?_
            refine LW.pure rfl rfl (RV.load1 Tk3 rfl ((H.blk 1 rfl).cells.off 0) rfl) ?_
            refine LW.pure rfl rfl (RV.move rfl) ?_
            refine LW.nil (hK10 _ _ ?_)
            refine CW.block ?_
            refine CW.loop (fun meas ρ wl6 => ∃ (t68_1 : Int) (m5 : List (List Tight)), core_table_L2 a0 t63_1 rec1 meas t68_1 m5 = some res ∧ ρ = [(1, .pointer (some (⟨b1, 0, none⟩))), (2, .slice none 0 0), (3, .slice (some ⟨b2, 0, none⟩) m5.length (((List.replicate (Int.toNat a0.layers) (() : Unit))).length)), (7, .int .i64 t63_1), (62, .int .i64 a0.layers), (63, .int .i64 t63_1), (67, .int .i64 a0.layers), (68, .int .i64 t68_1)] ∧ Hp w wl6 [.tab (some ⟨b2, 0, none⟩) (((List.replicate (Int.toNat a0.layers) (() : Unit))).length) 76 hsm9 75 2 (encM encTight m5), .blk b1 24 [.int .i64 a0.layers, .slice A_a0_bounds a0.bounds.length c_a0_bounds]]) FU ⟨_, ?_, ((0 : Int)), m6, F, rfl, H⟩ ?_
            · exact ⟨rfl, rfl, (look_slice rfl (by first | rfl | (simp; done) | (simp; omega))), rfl, rfl, rfl, rfl, rfl, trivial⟩
            rintro mk2 _ wl6 ⟨t68_1, m5, F, rfl, H⟩
            have R0 := H.ext
            replace F := core_table_L2_s F
            obtain ⟨mk2, rfl, F⟩ := F
            generalize hrec2 : core_table_L2 a0 t63_1 rec1 mk2 = rec2 at F
            unfold core_table_B2 at F
            refine CW.seq fun K11 hK11 => ?_
            refine CW.region ?_
            refine LW.pure rfl rfl (RV.lss rfl rfl) ?_
            refine LW.nil (hK11 _ _ ?_)
            refine CW.seq fun K12 hK12 => ?_
            by_cases hp2 : t68_1 < a0.layers
            ·
              replace F := ite_y hp2 F
              have hq2 := dec_t hp2
              refine CW.condT rfl hq2 ?_
              refine CW.skip (hK12 _ _ ?_)
              refine CW.seqJ (fun ρ wl7 => (∃ (m3 : List (List Tight)), core_table_k3 t68_1 rec2 m3 = some res ∧ ρ = [(1, .pointer (some (⟨b1, 0, none⟩))), (2, .slice none 0 0), (3, .slice (some ⟨b2, 0, none⟩) m3.length (((List.replicate (Int.toNat a0.layers) (() : Unit))).length)), (7, .int .i64 t63_1), (62, .int .i64 a0.layers), (63, .int .i64 t63_1), (67, .int .i64 a0.layers), (68, .int .i64 t68_1)] ∧ Hp w wl7 [.tab (some ⟨b2, 0, none⟩) (((List.replicate (Int.toNat a0.layers) (() : Unit))).length) 76 hsm9 75 2 (encM encTight m3), .blk b1 24 [.int .i64 a0.layers, .slice A_a0_bounds a0.bounds.length c_a0_bounds]])) ?_ ?_
              ·
                rintro _ wl7 ⟨m3, F, rfl, H⟩
                have R0 := H.ext
                unfold core_table_k3 at F
                obtain ⟨hg3, F⟩ := gd_some F
                refine CW.region ?_
                refine LW.pure rfl rfl (RV.add rfl rfl hg3) ?_
                refine LW.pure rfl rfl (RV.move rfl) ?_
                refine LW.nil ?_
                subst hrec2
                refine ⟨mk2, Nat.lt_succ_self _, _, ?_, (t68_1 + 1), m3, F, rfl, H⟩
                exact ⟨rfl, rfl, (look_slice rfl (by first | rfl | (simp; done) | (simp; omega))), rfl, rfl, rfl, rfl, rfl, trivial⟩
              ·
                intro K13 hK13 jK2403
                refine CW.block ?_
                refine CW.seq fun K14 hK14 => ?_
                refine CW.region ?_
                refine LW.pure rfl rfl (RV.move rfl) ?_
                refine LW.pure rfl rfl (RV.assign rfl) ?_
                refine LW.nil (hK14 _ _ ?_)
                refine CW.seq fun K15 hK15 => ?_
                refine CW.region ?_
                refine LW.pure rfl rfl (RV.fieldAddr Tf24_0 rfl) ?_
                refine LW.pure rfl rfl (RV.load1 Tk3 rfl ((H.blk 1 rfl).cells.off 0) rfl) ?_
                refine LW.pure rfl rfl (RV.move rfl) ?_
                refine LW.nil (hK15 _ _ ?_)
                refine CW.block ?_
                refine CW.loop (fun meas ρ wl8 => ∃ (t73_1 : Int) (m4 : List (List Tight)), core_table_L1 a0 t63_1 t68_1 rec2 meas t73_1 m4 = some res ∧ ρ = [(1, .pointer (some (⟨b1, 0, none⟩))), (2, .slice none 0 0), (3, .slice (some ⟨b2, 0, none⟩) m4.length (((List.replicate (Int.toNat a0.layers) (() : Unit))).length)), (7, .int .i64 t63_1), (8, .int .i64 t68_1), (62, .int .i64 a0.layers), (63, .int .i64 t63_1), (67, .int .i64 a0.layers), (68, .int .i64 t68_1), (72, .int .i64 a0.layers), (73, .int .i64 t73_1)] ∧ Hp w wl8 [.tab (some ⟨b2, 0, none⟩) (((List.replicate (Int.toNat a0.layers) (() : Unit))).length) 76 hsm9 75 2 (encM encTight m4), .blk b1 24 [.int .i64 a0.layers, .slice A_a0_bounds a0.bounds.length c_a0_bounds]]) FU ⟨_, ?_, ((0 : Int)), m5, F, rfl, H⟩ ?_
                · exact ⟨rfl, rfl, (look_slice rfl (by first | rfl | (simp; done) | (simp; omega))), rfl, rfl, rfl, rfl, rfl, rfl, rfl, rfl, trivial⟩
                rintro mk3 _ wl8 ⟨t73_1, m4, F, rfl, H⟩
                have R0 := H.ext
                replace F := core_table_L1_s F
                obtain ⟨mk3, rfl, F⟩ := F
                generalize hrec3 : core_table_L1 a0 t63_1 t68_1 rec2 mk3 = rec3 at F
                unfold core_table_B1 at F
                refine CW.seq fun K16 hK16 => ?_
                refine CW.region ?_
                refine LW.pure rfl rfl (RV.lss rfl rfl) ?_
                refine LW.nil (hK16 _ _ ?_)
                refine CW.seq fun K17 hK17 => ?_
                by_cases hp3 : t73_1 < a0.layers
                ·
                  replace F := ite_y hp3 F
                  have hq3 := dec_t hp3
                  refine CW.condT rfl hq3 ?_
                  refine CW.skip (hK17 _ _ ?_)
                  refine CW.seq fun K18 hK18 => ?_
                  refine CW.block ?_
                  refine CW.seq fun K19 hK19 => ?_
                  refine CW.region ?_
                  refine LW.pure rfl rfl (RV.move rfl) ?_
                  refine LW.pure rfl rfl (RV.assign rfl) ?_
                  refine LW.nil (hK19 _ _ ?_)
                  obtain ⟨x1, hbx1, hx1, F⟩ := ix_some F
                  obtain ⟨x2, hbx2, hx2, F⟩ := ix_some F
                  obtain ⟨x3, hbx3, hx3, F⟩ := ix_some F
                  obtain ⟨x4, hbx4, hx4, F⟩ := ix_some F
                  obtain ⟨x5, hbx5, hx5, F⟩ := ix_some F
                  obtain ⟨x6, hbx6, hx6, F⟩ := ix_some F
                  obtain ⟨x7, hbx7, hx7, F⟩ := ix_some F
                  obtain ⟨r1, hr1, F⟩ := bnd_some F
                  obtain ⟨r2, hr2, F⟩ := bnd_some F
                  obtain ⟨x8, hbx8, hx8, F⟩ := ix_some F
                  refine CW.draw [29] (fun _ => True) (.cons 0 1 (.cons 1 1 (.cons 2 1 (.cons 3 1 (.cons 4 1 (.cons 5 1 (.cons 6 1 (.cons 7 1 (.cons 8 1 (.cons 9 1 (.cons 10 1 (.cons 11 1 (.cons 12 1 (.cons 13 1 (.cons 14 1 (.cons 15 1 (.cons 16 1 (.cons 17 1 (.cons 18 1 (.cons 19 1 (.cons 20 1 (.cons 21 1 (.cons 22 1 (.cons 23 1 (.cons 24 1 (.cons 25 1 (.cons 26 0 (.cons 27 0 (.cons 28 1 (.cons 29 0 .nil)))))))))))))))))))))))))))))) mixed (by kernel_rfl) fun w3 E1 => ?_
                  replace H := H.grow E1
                  replace R0 := H.ext
                  refine DW.fix rfl rfl rfl (fun _ EQ => RV.move rfl) ?_
                  refine DW.fix rfl rfl rfl (fun _ EQ => RV.move rfl) ?_
                  obtain ⟨B1, e1, hh1⟩ := (H.tab 0 rfl).hd hx1
                  refine DW.fix rfl rfl rfl (fun _ EQ => RV.indexAddr Ts69 rfl rfl hbx1 ⟨_, rfl⟩) ?_
                  refine DW.fix rfl rfl rfl (fun _ EQ => RV.load1 Tk76 rfl (((H.grow EQ).tab 0 rfl).cell hx1 hh1) rfl) ?_
                  refine DW.fix rfl rfl rfl (fun _ EQ => RV.move rfl) ?_
                  refine DW.fix rfl rfl rfl (fun _ EQ => RV.move rfl) ?_
                  refine DW.fix rfl rfl rfl (fun _ EQ => RV.move rfl) ?_
                  obtain ⟨B2, e2, hh2⟩ := (H.tab 0 rfl).hd hx2
                  refine DW.fix rfl rfl rfl (fun _ EQ => RV.indexAddr Ts69 rfl rfl hbx2 ⟨_, rfl⟩) ?_
                  refine DW.fix rfl rfl rfl (fun _ EQ => RV.load1 Tk76 rfl (((H.grow EQ).tab 0 rfl).cell hx2 hh2) rfl) ?_
                  refine DW.fix rfl rfl rfl (fun _ EQ => RV.move rfl) ?_
                  refine DW.fix rfl rfl rfl (fun _ EQ => RV.indexAddr Ts76 rfl rfl hbx3 (((H.tab 0 rfl).rowO hx2 hh2).sl.addr_ hx3)) ?_
                  refine DW.fix rfl rfl rfl (fun _ EQ => RV.loadA [.bool x3.known, .int .i64 x3.most] Tk75 rfl ((((H.grow EQ).tab 0 rfl).rowO hx2 hh2).sl.at_ hx3) rfl rfl) ?_
                  refine DW.fix rfl rfl rfl (fun _ EQ => RV.move rfl) ?_
                  refine DW.fix rfl rfl rfl (fun _ EQ => RV.move rfl) ?_
                  obtain ⟨B3, e3, hh3⟩ := (H.tab 0 rfl).hd hx4
                  refine DW.fix rfl rfl rfl (fun _ EQ => RV.indexAddr Ts69 rfl rfl hbx4 ⟨_, rfl⟩) ?_
                  refine DW.fix rfl rfl rfl (fun _ EQ => RV.load1 Tk76 rfl (((H.grow EQ).tab 0 rfl).cell hx4 hh3) rfl) ?_
                  refine DW.fix rfl rfl rfl (fun _ EQ => RV.move rfl) ?_
                  refine DW.fix rfl rfl rfl (fun _ EQ => RV.indexAddr Ts76 rfl rfl hbx5 (((H.tab 0 rfl).rowO hx4 hh3).sl.addr_ hx5)) ?_
                  refine DW.fix rfl rfl rfl (fun _ EQ => RV.loadA [.bool x5.known, .int .i64 x5.most] Tk75 rfl ((((H.grow EQ).tab 0 rfl).rowO hx4 hh3).sl.at_ hx5) rfl rfl) ?_
                  refine DW.fix rfl rfl rfl (fun _ EQ => RV.move rfl) ?_
                  refine DW.fix rfl rfl rfl (fun _ EQ => RV.move rfl) ?_
                  obtain ⟨B4, e4, hh4⟩ := (H.tab 0 rfl).hd hx6
                  refine DW.fix rfl rfl rfl (fun _ EQ => RV.indexAddr Ts69 rfl rfl hbx6 ⟨_, rfl⟩) ?_
                  refine DW.fix rfl rfl rfl (fun _ EQ => RV.load1 Tk76 rfl (((H.grow EQ).tab 0 rfl).cell hx6 hh4) rfl) ?_
                  refine DW.fix rfl rfl rfl (fun _ EQ => RV.move rfl) ?_
                  refine DW.fix rfl rfl rfl (fun _ EQ => RV.indexAddr Ts76 rfl rfl hbx7 (((H.tab 0 rfl).rowO hx6 hh4).sl.addr_ hx7)) ?_
                  refine DW.fix rfl rfl rfl (fun _ EQ => RV.loadA [.bool x7.known, .int .i64 x7.most] Tk75 rfl ((((H.grow EQ).tab 0 rfl).rowO hx6 hh4).sl.at_ hx7) rfl rfl) ?_
                  refine DW.sole rfl rfl rfl (OW.call Tc92 rfl (core_tight_over_ok (a0 := x5) (a1 := x7) hr1) ?_)
                  rintro _ w4 ⟨rfl, E2⟩
                  refine ⟨_, rfl, fun _ => E2, ModX.ext E2, ?_⟩
                  replace H := H.grow E2
                  replace R0 := H.ext
                  refine DW.sole rfl rfl rfl (OW.call Tc91 rfl (core_tight_tighter_ok (a0 := x3) (a1 := r1) hr2) ?_)
                  rintro _ w5 ⟨rfl, E3⟩
                  refine ⟨_, rfl, fun _ => E3, ModX.ext E3, ?_⟩
                  replace H := H.grow E3
                  replace R0 := H.ext
                  refine DW.fix rfl rfl rfl (fun _ EQ => RV.indexAddr Ts76 rfl rfl hbx8 (((H.tab 0 rfl).rowO hx1 hh1).sl.addr_ hx8)) ?_
                  refine DW.sole rfl rfl rfl (OW.storeO (enc := encTight) (vs := [.bool r2.known, .int .i64 r2.most]) 0 (r2) Tk75 rfl rfl ((H.tab 0 rfl).rowO hx1 hh1) (fun _ => rfl) rfl hx8 rfl rfl (by decide) rfl rfl fun w6 M1 O1 => ?_)
                  refine ⟨fun h => absurd h (by decide), M1.modx (fun _ _ => trivial), ?_⟩
                  replace H : Hp w w6 [.tab (some ⟨b2, 0, none⟩) (((List.replicate (Int.toNat a0.layers) (() : Unit))).length) 76 hsm9 75 2 (encM encTight ((m4.set (Int.toNat t68_1) (x1.set (Int.toNat t73_1) r2)))), .blk b1 24 [.int .i64 a0.layers, .slice A_a0_bounds a0.bounds.length c_a0_bounds]] := H.tabRow 0 rfl hh1 hx1 (by simp) M1 O1
                  replace R0 := H.ext
                  have hrw1 : ((m4.set (Int.toNat t68_1) (x1.set (Int.toNat t73_1) r2)))[Int.toNat t68_1]? = some (x1.set (Int.toNat t73_1) r2) := List.getElem?_set_self (lt_of_at hx1)
                  refine DW.nil (hK18 _ _ ?_)
                  obtain ⟨hg4, F⟩ := gd_some F
                  refine CW.region ?_
                  refine LW.pure rfl rfl (RV.add rfl rfl hg4) ?_
                  refine LW.pure rfl rfl (RV.move rfl) ?_
                  refine LW.nil ?_
                  subst hrec3
                  refine ⟨mk3, Nat.lt_succ_self _, _, ?_, (t73_1 + 1), ((m4.set (Int.toNat t68_1) (x1.set (Int.toNat t73_1) r2))), F, rfl, H⟩
                  exact ⟨rfl, rfl, (look_slice rfl (by first | rfl | (simp; done) | (simp; omega))), rfl, rfl, rfl, rfl, rfl, rfl, rfl, rfl, trivial⟩
                ·
                  replace F := ite_n hp3 F
                  have hq3 := dec_f hp3
                  refine CW.condF rfl hq3 ?_
                  refine CW.exit (jK2403 _ _ ⟨_, ?_, ⟨m4, F, rfl, H⟩⟩)
                  exact ⟨rfl, rfl, (look_slice rfl (by first | rfl | (simp; done) | (simp; omega))), rfl, rfl, rfl, rfl, rfl, trivial⟩
            ·
              replace F := ite_n hp2 F
              have hq2 := dec_f hp2
              refine CW.condF rfl hq2 ?_
              refine CW.exit (jK2322 _ _ ⟨_, ?_, ⟨m5, F, rfl, H⟩⟩)
              exact ⟨rfl, rfl, (look_slice rfl (by first | rfl | (simp; done) | (simp; omega))), rfl, rfl, trivial⟩
        ·
          replace F := ite_n hp1 F
          have hq1 := dec_f hp1
          refine CW.condF rfl hq1 ?_
          replace H := H.pick (L' := [.tab (some ⟨b2, 0, none⟩) (((List.replicate (Int.toNat a0.layers) (() : Unit))).length) 76 hsm9 75 2 (encM encTight m6)]) [0] (by decide) rfl
          replace R0 := H.ext
          refine CW.exit (jK1837 _ _ ⟨_, ?_, ⟨m6, F, rfl, H⟩⟩)
          exact ⟨rfl, (look_slice rfl (by first | rfl | (simp; done) | (simp; omega))), trivial⟩
    ·
      intro K20 hK20 jK2418
      refine CW.seq fun K21 hK21 => ?_
      refine CW.region ?_
      refine LW.pure rfl rfl (RV.fieldAddr Tf24_1 rfl) ?_
      refine LW.pure rfl rfl (RV.load1 Tk22 rfl ((H.blk 1 rfl).cells.off 1) rfl) ?_
      refine LW.pure rfl rfl (RV.len Ts22 rfl) ?_
      refine LW.pure rfl rfl (RV.move rfl) ?_
      refine LW.nil (hK21 _ _ ?_)
      refine CW.block ?_
      refine CW.loop (fun meas ρ wl9 => ∃ (t35_1 : Int) (m8 : List (List Tight)), core_table_L4 a0 meas t35_1 m8 = some res ∧ ρ = [(1, .pointer (some (⟨b1, 0, none⟩))), (2, .slice none 0 0), (3, .slice (some ⟨b2, 0, none⟩) m8.length (((List.replicate (Int.toNat a0.layers) (() : Unit))).length)), (33, .slice A_a0_bounds a0.bounds.length c_a0_bounds), (34, .int .i64 ((a0.bounds.length : Int))), (35, .int .i64 t35_1)] ∧ Hp w wl9 [.tab (some ⟨b2, 0, none⟩) (((List.replicate (Int.toNat a0.layers) (() : Unit))).length) 76 hsm9 75 2 (encM encTight m8), .blk b1 24 [.int .i64 a0.layers, .slice A_a0_bounds a0.bounds.length c_a0_bounds]]) FU ⟨_, ?_, ((0 : Int)), m9, F, rfl, H⟩ ?_
      · exact ⟨rfl, rfl, (look_slice rfl (by first | rfl | (simp; done) | (simp; omega))), rfl, rfl, rfl, trivial⟩
      rintro mk4 _ wl9 ⟨t35_1, m8, F, rfl, H⟩
      have R0 := H.ext
      replace F := core_table_L4_s F
      obtain ⟨mk4, rfl, F⟩ := F
      generalize hrec4 : core_table_L4 a0 mk4 = rec4 at F
      unfold core_table_B4 at F
      refine CW.seq fun K22 hK22 => ?_
      refine CW.region ?_
      refine LW.pure rfl rfl (RV.lss rfl rfl) ?_
      refine LW.nil (hK22 _ _ ?_)
      refine CW.seq fun K23 hK23 => ?_
      by_cases hp4 : t35_1 < ((a0.bounds.length : Int))
      ·
        replace F := ite_y hp4 F
        have hq4 := dec_t hp4
        refine CW.condT rfl hq4 ?_
        refine CW.skip (hK23 _ _ ?_)
        refine CW.seq fun K24 hK24 => ?_
        refine CW.block ?_
        refine CW.seq fun K25 hK25 => ?_
        obtain ⟨x9, hbx9, hx9, F⟩ := ix_some F
        refine CW.region ?_
        refine LW.pure rfl rfl (RV.indexAddr Ts22 rfl rfl hbx9 (h_a0_bounds.addr_ hx9)) ?_
        refine LW.pure rfl rfl (RV.loadA [.int .i64 x9.a, .int .i64 x9.b, .int .i64 x9.most] Tk26 rfl ((h_a0_bounds.at_ hx9).ext R0) rfl rfl) ?_
        refine LW.go rfl rfl (OW.alloc Tz26 fun b3 w7 N3 => ?_)
        replace H := H.new N3 N3.blk
        replace R0 := H.ext
        refine LW.go rfl rfl (OW.store Tk26 rfl rfl (H.blk 0 rfl) (off := 0) (vs := [.int .i64 x9.a, .int .i64 x9.b, .int .i64 x9.most]) rfl rfl rfl rfl rfl fun w8 S1 => ?_)
        replace H : Hp w w8 [.blk b3 26 [.int .i64 x9.a, .int .i64 x9.b, .int .i64 x9.most], .tab (some ⟨b2, 0, none⟩) (((List.replicate (Int.toNat a0.layers) (() : Unit))).length) 76 hsm9 75 2 (encM encTight m8), .blk b1 24 [.int .i64 a0.layers, .slice A_a0_bounds a0.bounds.length c_a0_bounds]] := H.stored 0 rfl S1
        replace R0 := H.ext
        refine LW.nil (hK25 _ _ ?_)
        obtain ⟨x10, hbx10, hx10, F⟩ := ix_some F
        obtain ⟨x11, hbx11, hx11, F⟩ := ix_some F
        obtain ⟨x12, hbx12, hx12, F⟩ := ix_some F
        obtain ⟨r3, hr3, F⟩ := bnd_some F
        obtain ⟨x13, hbx13, hx13, F⟩ := ix_some F
        refine CW.draw [21] (fun _ => True) (.cons 0 1 (.cons 1 1 (.cons 2 1 (.cons 3 1 (.cons 4 1 (.cons 5 1 (.cons 6 1 (.cons 7 1 (.cons 8 1 (.cons 9 1 (.cons 10 1 (.cons 11 1 (.cons 12 1 (.cons 13 1 (.cons 14 1 (.cons 15 1 (.cons 16 1 (.cons 17 1 (.cons 18 1 (.cons 19 0 (.cons 20 1 (.cons 21 0 .nil)))))))))))))))))))))) mixed (by kernel_rfl) fun w9 E4 => ?_
        replace H := H.grow E4
        replace R0 := H.ext
        refine DW.fix rfl rfl rfl (fun _ EQ => RV.move rfl) ?_
        refine DW.fix rfl rfl rfl (fun _ EQ => RV.fieldAddr Tf26_0 rfl) ?_
        refine DW.fix rfl rfl rfl (fun _ EQ => RV.load1 Tk3 rfl (((H.grow EQ).blk 0 rfl).cells.off 0) rfl) ?_
        obtain ⟨B5, e5, hh5⟩ := (H.tab 1 rfl).hd hx10
        refine DW.fix rfl rfl rfl (fun _ EQ => RV.indexAddr Ts69 rfl rfl hbx10 ⟨_, rfl⟩) ?_
        refine DW.fix rfl rfl rfl (fun _ EQ => RV.load1 Tk76 rfl (((H.grow EQ).tab 1 rfl).cell hx10 hh5) rfl) ?_
        refine DW.fix rfl rfl rfl (fun _ EQ => RV.fieldAddr Tf26_1 rfl) ?_
        refine DW.fix rfl rfl rfl (fun _ EQ => RV.load1 Tk3 rfl (((H.grow EQ).blk 0 rfl).cells.off 1) rfl) ?_
        refine DW.fix rfl rfl rfl (fun _ EQ => RV.move rfl) ?_
        refine DW.fix rfl rfl rfl (fun _ EQ => RV.fieldAddr Tf26_0 rfl) ?_
        refine DW.fix rfl rfl rfl (fun _ EQ => RV.load1 Tk3 rfl (((H.grow EQ).blk 0 rfl).cells.off 0) rfl) ?_
        obtain ⟨B6, e6, hh6⟩ := (H.tab 1 rfl).hd hx11
        refine DW.fix rfl rfl rfl (fun _ EQ => RV.indexAddr Ts69 rfl rfl hbx11 ⟨_, rfl⟩) ?_
        refine DW.fix rfl rfl rfl (fun _ EQ => RV.load1 Tk76 rfl (((H.grow EQ).tab 1 rfl).cell hx11 hh6) rfl) ?_
        refine DW.fix rfl rfl rfl (fun _ EQ => RV.fieldAddr Tf26_1 rfl) ?_
        refine DW.fix rfl rfl rfl (fun _ EQ => RV.load1 Tk3 rfl (((H.grow EQ).blk 0 rfl).cells.off 1) rfl) ?_
        refine DW.fix rfl rfl rfl (fun _ EQ => RV.indexAddr Ts76 rfl rfl hbx12 (((H.tab 1 rfl).rowO hx11 hh6).sl.addr_ hx12)) ?_
        refine DW.fix rfl rfl rfl (fun _ EQ => RV.loadA [.bool x12.known, .int .i64 x12.most] Tk75 rfl ((((H.grow EQ).tab 1 rfl).rowO hx11 hh6).sl.at_ hx12) rfl rfl) ?_
        refine DW.fix rfl rfl rfl (fun _ EQ => RV.fieldAddr Tf26_2 rfl) ?_
        refine DW.fix rfl rfl rfl (fun _ EQ => RV.load1 Tk3 rfl (((H.grow EQ).blk 0 rfl).cells.off 2) rfl) ?_
        refine DW.fix rfl rfl rfl (fun _ EQ => RV.build (vs := [.bool true, .int .i64 x9.most]) (cs := [.bool true, .int .i64 x9.most]) rfl (fun _ => by kernel_rfl)) ?_
        refine DW.sole rfl rfl rfl (OW.call Tc91 rfl (core_tight_tighter_ok (a0 := x12) (a1 := (⟨true, x9.most⟩ : Tight)) hr3) ?_)
        rintro _ w10 ⟨rfl, E5⟩
        refine ⟨_, rfl, fun _ => E5, ModX.ext E5, ?_⟩
        replace H := H.grow E5
        replace R0 := H.ext
        refine DW.fix rfl rfl rfl (fun _ EQ => RV.indexAddr Ts76 rfl rfl hbx13 (((H.tab 1 rfl).rowO hx10 hh5).sl.addr_ hx13)) ?_
        refine DW.sole rfl rfl rfl (OW.storeO (enc := encTight) (vs := [.bool r3.known, .int .i64 r3.most]) 0 (r3) Tk75 rfl rfl ((H.tab 1 rfl).rowO hx10 hh5) (fun _ => rfl) rfl hx13 rfl rfl (by decide) rfl rfl fun w11 M2 O2 => ?_)
        refine ⟨fun h => absurd h (by decide), M2.modx (fun _ _ => trivial), ?_⟩
        replace H : Hp w w11 [.blk b3 26 [.int .i64 x9.a, .int .i64 x9.b, .int .i64 x9.most], .tab (some ⟨b2, 0, none⟩) (((List.replicate (Int.toNat a0.layers) (() : Unit))).length) 76 hsm9 75 2 (encM encTight ((m8.set (Int.toNat x9.a) (x10.set (Int.toNat x9.b) r3)))), .blk b1 24 [.int .i64 a0.layers, .slice A_a0_bounds a0.bounds.length c_a0_bounds]] := H.tabRow 1 rfl hh5 hx10 (by simp) M2 O2
        replace R0 := H.ext
        have hrw2 : ((m8.set (Int.toNat x9.a) (x10.set (Int.toNat x9.b) r3)))[Int.toNat x9.a]? = some (x10.set (Int.toNat x9.b) r3) := List.getElem?_set_self (lt_of_at hx10)
        refine DW.nil (hK24 _ _ ?_)
        obtain ⟨hg5, F⟩ := gd_some F
        refine CW.region ?_
        refine LW.pure rfl rfl (RV.add rfl rfl hg5) ?_
        refine LW.pure rfl rfl (RV.move rfl) ?_
        refine LW.nil ?_
        replace H := H.pick (L' := [.tab (some ⟨b2, 0, none⟩) (((List.replicate (Int.toNat a0.layers) (() : Unit))).length) 76 hsm9 75 2 (encM encTight ((m8.set (Int.toNat x9.a) (x10.set (Int.toNat x9.b) r3)))), .blk b1 24 [.int .i64 a0.layers, .slice A_a0_bounds a0.bounds.length c_a0_bounds]]) [1, 2] (by decide) rfl
        replace R0 := H.ext
        subst hrec4
        refine ⟨mk4, Nat.lt_succ_self _, _, ?_, (t35_1 + 1), ((m8.set (Int.toNat x9.a) (x10.set (Int.toNat x9.b) r3))), F, rfl, H⟩
        exact ⟨rfl, rfl, (look_slice rfl (by first | rfl | (simp; done) | (simp; omega))), rfl, rfl, rfl, trivial⟩
      ·
        replace F := ite_n hp4 F
        have hq4 := dec_f hp4
        refine CW.condF rfl hq4 ?_
        refine CW.exit (jK2418 _ _ ⟨_, ?_, ⟨m8, F, rfl, H⟩⟩)
        exact ⟨rfl, rfl, (look_slice rfl (by first | rfl | (simp; done) | (simp; omega))), trivial⟩
  ·
    intro K26 hK26 jK2432
    refine CW.seq fun K27 hK27 => ?_
    refine CW.region ?_
    refine LW.pure rfl rfl (RV.move rfl) ?_
    refine LW.pure rfl rfl (RV.len Ts69 rfl) ?_
    refine LW.pure rfl rfl (RV.move rfl) ?_
    refine LW.nil (hK27 _ _ ?_)
    refine CW.block ?_
    refine CW.loop (fun meas ρ wl10 => ∃ (t15_1 : Int) (m10 : List (List Tight)) (hsm10 : List (Option Addr × Nat)), core_table_L5 a0 meas t15_1 m10 = some res ∧ ρ = [(1, .pointer (some (⟨b1, 0, none⟩))), (2, .slice none 0 0), (3, .slice (some ⟨b2, 0, none⟩) m10.length (((List.replicate (Int.toNat a0.layers) (() : Unit))).length)), (14, .int .i64 (((List.replicate (Int.toNat a0.layers) (() : Unit)).length : Int))), (15, .int .i64 t15_1)] ∧ Hp w wl10 [.tab (some ⟨b2, 0, none⟩) (((List.replicate (Int.toNat a0.layers) (() : Unit))).length) 76 hsm10 75 2 (encM encTight m10), .blk b1 24 [.int .i64 a0.layers, .slice A_a0_bounds a0.bounds.length c_a0_bounds]]) FU ⟨_, ?_, ((0 : Int)), ((List.replicate (Int.toNat a0.layers) ([] : List Tight))), (List.replicate (Int.toNat a0.layers) (none, 0)), F, rfl, H⟩ ?_
    · exact ⟨rfl, rfl, (look_slice rfl (by first | rfl | (simp; done) | (simp; omega))), rfl, rfl, trivial⟩
    rintro mk5 _ wl10 ⟨t15_1, m10, hsm10, F, rfl, H⟩
    have R0 := H.ext
    replace F := core_table_L5_s F
    obtain ⟨mk5, rfl, F⟩ := F
    generalize hrec5 : core_table_L5 a0 mk5 = rec5 at F
    unfold core_table_B5 at F
    refine CW.seq fun K28 hK28 => ?_
    refine CW.region ?_
    refine LW.pure rfl rfl (RV.lss rfl rfl) ?_
    refine LW.nil (hK28 _ _ ?_)
    refine CW.seq fun K29 hK29 => ?_
    by_cases hp5 : t15_1 < (((List.replicate (Int.toNat a0.layers) (() : Unit)).length : Int))
    ·
      replace F := ite_y hp5 F
      have hq5 := dec_t hp5
      refine CW.condT rfl hq5 ?_
      refine CW.skip (hK29 _ _ ?_)
      refine CW.seq fun K30 hK30 => ?_
      refine CW.block ?_
      refine CW.seq fun K31 hK31 => ?_
      refine CW.region ?_
      refine LW.pure rfl rfl (RV.move rfl) ?_
      refine LW.pure rfl rfl (RV.assign rfl) ?_
      refine LW.nil (hK31 _ _ ?_)
      refine CW.seq fun K32 hK32 => ?_
      obtain ⟨hg6, F⟩ := gd_some F
      obtain ⟨x14, hbx14, hx14, F⟩ := ix_some F
      refine CW.region ?_
      refine LW.pure rfl rfl (RV.move rfl) ?_
      refine LW.pure rfl rfl (RV.move rfl) ?_
      refine LW.pure rfl rfl (RV.fieldAddr Tf24_0 rfl) ?_
      refine LW.pure rfl rfl (RV.load1 Tk3 rfl ((H.blk 1 rfl).cells.off 0) rfl) ?_
      refine LW.go rfl rfl (OW.makeR (enc := encTight) ((⟨false, 0⟩ : Tight) : Tight) Ts76 rfl rfl rfl rfl rfl hg6 (by decide) fun b4 w12 N4 => ?_)
      replace H := H.made' (k := 2) (t := 75) (enc := encTight) (l := (List.replicate (Int.toNat a0.layers) ((⟨false, 0⟩ : Tight) : Tight))) N4 N4.blk (fun _ => rfl) rfl (by first | decide | omega | (simp; done) | (simp; omega))
      replace R0 := H.ext
      obtain ⟨B7, e7, hh7⟩ := (H.tab 1 rfl).hd hx14
      refine LW.pure rfl rfl (RV.indexAddr Ts69 rfl rfl hbx14 ⟨_, rfl⟩) ?_
      have hn1 : (((List.replicate (Int.toNat a0.layers) ((⟨false, 0⟩ : Tight) : Tight))).length) = ((List.replicate (Int.toNat a0.layers) ((⟨false, 0⟩ : Tight) : Tight))).length := by first | rfl | (simp; done) | (simp; omega)
      refine LW.go rfl rfl (OW.storeO (enc := encH) (vs := [.slice (some ⟨b4, 0, none⟩) (((List.replicate (Int.toNat a0.layers) ((⟨false, 0⟩ : Tight) : Tight))).length) (((List.replicate (Int.toNat a0.layers) ((⟨false, 0⟩ : Tight) : Tight))).length)]) 0 ((some ⟨b4, 0, none⟩, ((List.replicate (Int.toNat a0.layers) ((⟨false, 0⟩ : Tight) : Tight))).length), List.map encTight ((List.replicate (Int.toNat a0.layers) ((⟨false, 0⟩ : Tight) : Tight)))) Tk76 rfl rfl (H.tab 1 rfl).outer (fun _ => rfl) rfl ((H.tab 1 rfl).zipAt hx14 hh7) rfl rfl (by decide) rfl (by rw [hn1]; simp [encH, over]) fun w13 M3 O3 => ?_)
      replace H : Hp w w13 [.tab (some ⟨b2, 0, none⟩) (((List.replicate (Int.toNat a0.layers) (() : Unit))).length) 76 ((hsm10.set (Int.toNat t15_1) (some ⟨b4, 0, none⟩, ((List.replicate (Int.toNat a0.layers) ((⟨false, 0⟩ : Tight) : Tight))).length))) 75 2 (encM encTight ((m10.set (Int.toNat t15_1) ((List.replicate (Int.toNat a0.layers) ((⟨false, 0⟩ : Tight) : Tight)))))), .blk b1 24 [.int .i64 a0.layers, .slice A_a0_bounds a0.bounds.length c_a0_bounds]] := H.tabSet 1 0 (by decide) rfl rfl (lt_of_at hx14) M3 O3
      replace R0 := H.ext
      refine LW.nil (hK32 _ _ ?_)
      obtain ⟨x15, hbx15, hx15, F⟩ := ix_some F
      obtain ⟨x16, hbx16, hx16, F⟩ := ix_some F
      refine CW.region ?_
      refine LW.pure rfl rfl (RV.move rfl) ?_
      refine LW.pure rfl rfl (RV.move rfl) ?_
      obtain ⟨B8, e8, hh8⟩ := (H.tab 0 rfl).hd hx15
      refine LW.pure rfl rfl (RV.indexAddr Ts69 rfl rfl (by first | exact hbx15 | (simp at hbx15 ⊢; omega)) ⟨_, rfl⟩) ?_
      refine LW.pure rfl rfl (RV.load1 Tk76 rfl ((H.tab 0 rfl).cell hx15 hh8) rfl) ?_
      refine LW.pure rfl rfl (RV.move rfl) ?_
      refine LW.pure rfl rfl (RV.indexAddr Ts76 rfl rfl hbx16 (((H.tab 0 rfl).rowO hx15 hh8).sl.addr_ hx16)) ?_
      refine LW.pure rfl rfl (RV.fieldAddr Tf75_0 rfl) ?_
      refine LW.go rfl rfl (OW.storeO (enc := encTight) (vs := [.bool true]) 0 ((⟨true, x16.most⟩ : Tight)) Tk4 rfl rfl ((H.tab 0 rfl).rowO hx15 hh8) (fun _ => rfl) rfl hx16 rfl rfl (by decide) rfl rfl fun w14 M4 O4 => ?_)
      replace H : Hp w w14 [.tab (some ⟨b2, 0, none⟩) (((List.replicate (Int.toNat a0.layers) (() : Unit))).length) 76 ((hsm10.set (Int.toNat t15_1) (some ⟨b4, 0, none⟩, ((List.replicate (Int.toNat a0.layers) ((⟨false, 0⟩ : Tight) : Tight))).length))) 75 2 (encM encTight ((((m10.set (Int.toNat t15_1) ((List.replicate (Int.toNat a0.layers) ((⟨false, 0⟩ : Tight) : Tight))))).set (Int.toNat t15_1) (x15.set (Int.toNat t15_1) ((⟨true, x16.most⟩ : Tight)))))), .blk b1 24 [.int .i64 a0.layers, .slice A_a0_bounds a0.bounds.length c_a0_bounds]] := H.tabRow 0 rfl hh8 hx15 (by simp) M4 O4
      replace R0 := H.ext
      have hrw3 : ((((m10.set (Int.toNat t15_1) ((List.replicate (Int.toNat a0.layers) ((⟨false, 0⟩ : Tight) : Tight))))).set (Int.toNat t15_1) (x15.set (Int.toNat t15_1) ((⟨true, x16.most⟩ : Tight)))))[Int.toNat t15_1]? = some (x15.set (Int.toNat t15_1) ((⟨true, x16.most⟩ : Tight))) := List.getElem?_set_self (lt_of_at hx15)
      refine LW.nil (hK30 _ _ ?_)
      obtain ⟨hg7, F⟩ := gd_some F
      refine CW.region ?_
      refine LW.pure rfl rfl (RV.add rfl rfl hg7) ?_
      refine LW.pure rfl rfl (RV.move rfl) ?_
      refine LW.nil ?_
      subst hrec5
      refine ⟨mk5, Nat.lt_succ_self _, _, ?_, (t15_1 + 1), ((((m10.set (Int.toNat t15_1) ((List.replicate (Int.toNat a0.layers) ((⟨false, 0⟩ : Tight) : Tight))))).set (Int.toNat t15_1) (x15.set (Int.toNat t15_1) ((⟨true, x16.most⟩ : Tight))))), ((hsm10.set (Int.toNat t15_1) (some ⟨b4, 0, none⟩, ((List.replicate (Int.toNat a0.layers) ((⟨false, 0⟩ : Tight) : Tight))).length))), F, rfl, H⟩
      exact ⟨rfl, rfl, (look_slice rfl (by first | rfl | (simp; done) | (simp; omega))), rfl, rfl, trivial⟩
    ·
      replace F := ite_n hp5 F
      have hq5 := dec_f hp5
      refine CW.condF rfl hq5 ?_
      refine CW.exit (jK2432 _ _ ⟨_, ?_, ⟨m10, hsm10, F, rfl, H⟩⟩)
      exact ⟨rfl, rfl, (look_slice rfl (by first | rfl | (simp; done) | (simp; omega))), trivial⟩
end Go.D3

set_option linter.unusedVariables false
namespace Go.D3
open Go.Tb Go.Core
def core_tables (a0 : Core) : Option ((List (List Tight)) × Int) :=
  bnd (core_clashes a0) fun r1 =>
  if r1 = true then
    some (([] : List (List Tight)), (10 : Int))
  else
    bnd (core_table a0) fun r2 =>
    some (r2, (0 : Int))
def core_IsPossible (a0 : Core) : Option (Bool × Int) :=
  bnd (core_Validate a0) fun r1 =>
  if r1 = 0 then
    bnd (core_clashes a0) fun r2 =>
    some (!r2, (0 : Int))
  else
    some (false, r1)
def ref03_within (a0 : Int) (a1 : Int) (a2 : Int) : Option Bool :=
  if a1 ≤ a0 then
    some (decide (a0 ≤ a2))
  else
    some false
def ref03_isBound (a0 : Bound) (a1 : Int) : Option Bool :=
  gd (InR (a1 - 1)) <|
  bnd (ref03_within a0.a ((0 : Int)) (a1 - 1)) fun r1 =>
  if r1 = true then
    gd (InR (a1 - 1)) <|
    bnd (ref03_within a0.b ((0 : Int)) (a1 - 1)) fun r2 =>
    if r2 = true then
      if a0.a = a0.b then
        some false
      else
        bnd (ref03_within a0.most ((-10000 : Int)) ((10000 : Int))) fun r3 =>
        some r3
    else
      some false
  else
    some false
def ref03_Validate_k1 : Option Int :=
  some ((0 : Int))
def ref03_Validate_B1 (a0 : Core) (rec1 : Int → Option Int) (t3_1 : Int) : Option Int :=
  if t3_1 < ((a0.bounds.length : Int)) then
    ix a0.bounds t3_1 fun x1 =>
    bnd (ref03_isBound x1 a0.layers) fun r1 =>
    if r1 = true then
      gd (InR (t3_1 + 1)) <|
      rec1 ((t3_1 + 1))
    else
      some ((1 : Int))
  else
    ref03_Validate_k1
def ref03_Validate_L1 (a0 : Core) : Nat → Int → Option Int
  | 0, _ => none
  | n_ + 1, t3_1 => ref03_Validate_B1 a0 (ref03_Validate_L1 a0 n_) t3_1
def ref03_Validate (a0 : Core) : Option Int :=
  bnd (ref03_within a0.layers ((1 : Int)) ((8 : Int))) fun r2 =>
  if r2 = true then
    if (20 : Int) < ((a0.bounds.length : Int)) then
      some ((3 : Int))
    else
      ref03_Validate_L1 a0 FU (((0 : Int)))
  else
    some ((1 : Int))
def ref03_walks_k1 (m1 : List (List Int)) (m2 : List (List Bool)) : Option ((List (List Int)) × (List (List Bool))) :=
  some (m1, m2)
def ref03_walks_k2 (t8_1 : Int) (rec1 : Int → (List (List Int)) → (List (List Bool)) → Option ((List (List Int)) × (List (List Bool)))) (m3 : List (List Int)) (m4 : List (List Bool)) : Option ((List (List Int)) × (List (List Bool))) :=
  gd (InR (t8_1 + 1)) <|
  rec1 ((t8_1 + 1)) m3 m4
def ref03_walks_k3 (t9_1 : Int) (rec2 : Int → (List (List Int)) → (List (List Bool)) → Option ((List (List Int)) × (List (List Bool)))) (m5 : List (List Int)) (m6 : List (List Bool)) : Option ((List (List Int)) × (List (List Bool))) :=
  gd (InR (t9_1 + 1)) <|
  rec2 ((t9_1 + 1)) m5 m6
def ref03_walks_k4 (t8_1 : Int) (t9_1 : Int) (m7 : List (List Int)) (m8 : List (List Bool)) (rec2 : Int → (List (List Int)) → (List (List Bool)) → Option ((List (List Int)) × (List (List Bool)))) (l1 : List Int) (l2 : List Bool) : Option ((List (List Int)) × (List (List Bool))) :=
  ix m7 t8_1 fun x1 =>
  ix m8 t8_1 fun x2 =>
  ref03_walks_k3 t9_1 rec2 (((m7.set (Int.toNat t8_1) l1))) (((m8.set (Int.toNat t8_1) l2)))
def ref03_walks_k5 (t12_1 : Int) (rec3 : Int → (List Int) → (List Bool) → Option ((List (List Int)) × (List (List Bool)))) (l3 : List Int) (l4 : List Bool) : Option ((List (List Int)) × (List (List Bool))) :=
  gd (InR (t12_1 + 1)) <|
  rec3 ((t12_1 + 1)) l3 l4
def ref03_walks_k6 (t12_1 : Int) (l5 : List Int) (l6 : List Bool) (rec3 : Int → (List Int) → (List Bool) → Option ((List (List Int)) × (List (List Bool)))) (x3 : Bound) (x4 : Int) (t109_1 : Bool) : Option ((List (List Int)) × (List (List Bool))) :=
  if t109_1 = true then
    ix l5 x3.b fun x5 =>
    ix l6 x3.b fun x6 =>
    ref03_walks_k5 t12_1 rec3 (((l5.set (Int.toNat x3.b) (x4 + x3.most)))) (((l6.set (Int.toNat x3.b) true)))
  else
    ref03_walks_k5 t12_1 rec3 l5 l6
def ref03_walks_B1 (a0 : Core) (t8_1 : Int) (t9_1 : Int) (m7 : List (List Int)) (m8 : List (List Bool)) (rec2 : Int → (List (List Int)) → (List (List Bool)) → Option ((List (List Int)) × (List (List Bool)))) (rec3 : Int → (List Int) → (List Bool) → Option ((List (List Int)) × (List (List Bool)))) (t12_1 : Int) (l5 : List Int) (l6 : List Bool) : Option ((List (List Int)) × (List (List Bool))) :=
  if t12_1 < ((a0.bounds.length : Int)) then
    ix a0.bounds t12_1 fun x3 =>
    ix m7 t8_1 fun x7 =>
    ix x7 x3.a fun x4 =>
    gd (InR (x4 + x3.most)) <|
    ix m8 t8_1 fun x8 =>
    ix x8 x3.a fun x9 =>
    if x9 = true then
      ix l6 x3.b fun x10 =>
      if x10 = true then
        ix l5 x3.b fun x11 =>
        ref03_walks_k6 t12_1 l5 l6 rec3 x3 x4 ((decide ((x4 + x3.most) < x11)))
      else
        ref03_walks_k6 t12_1 l5 l6 rec3 x3 x4 true
    else
      ref03_walks_k6 t12_1 l5 l6 rec3 x3 x4 false
  else
    ref03_walks_k4 t8_1 t9_1 m7 m8 rec2 l5 l6
def ref03_walks_L1 (a0 : Core) (t8_1 : Int) (t9_1 : Int) (m7 : List (List Int)) (m8 : List (List Bool)) (rec2 : Int → (List (List Int)) → (List (List Bool)) → Option ((List (List Int)) × (List (List Bool)))) : Nat → Int → (List Int) → (List Bool) → Option ((List (List Int)) × (List (List Bool)))
  | 0, _, _, _ => none
  | n_ + 1, t12_1, l5, l6 => ref03_walks_B1 a0 t8_1 t9_1 m7 m8 rec2 (ref03_walks_L1 a0 t8_1 t9_1 m7 m8 rec2 n_) t12_1 l5 l6
def ref03_walks_k7 (a0 : Core) (t8_1 : Int) (t9_1 : Int) (m7 : List (List Int)) (m8 : List (List Bool)) (rec2 : Int → (List (List Int)) → (List (List Bool)) → Option ((List (List Int)) × (List (List Bool)))) (l7 : List Int) (l8 : List Bool) : Option ((List (List Int)) × (List (List Bool))) :=
  ref03_walks_L1 a0 t8_1 t9_1 m7 m8 rec2 FU (((0 : Int))) l7 l8
def ref03_walks_B2 (a0 : Core) (a1 : Int) (t8_1 : Int) (rec1 : Int → (List (List Int)) → (List (List Bool)) → Option ((List (List Int)) × (List (List Bool)))) (rec2 : Int → (List (List Int)) → (List (List Bool)) → Option ((List (List Int)) × (List (List Bool)))) (t9_1 : Int) (m7 : List (List Int)) (m8 : List (List Bool)) : Option ((List (List Int)) × (List (List Bool))) :=
  if t9_1 < a1 then
    ix m7 t8_1 fun x12 =>
    gd ((([] : List Int)).length + x12.length ≤ 1000000) <|
    ix m8 t8_1 fun x13 =>
    gd ((([] : List Bool)).length + x13.length ≤ 1000000) <|
    ref03_walks_k7 a0 t8_1 t9_1 m7 m8 rec2 (((([] : List Int) ++ x12))) (((([] : List Bool) ++ x13)))
  else
    ref03_walks_k2 t8_1 rec1 m7 m8
def ref03_walks_L2 (a0 : Core) (a1 : Int) (t8_1 : Int) (rec1 : Int → (List (List Int)) → (List (List Bool)) → Option ((List (List Int)) × (List (List Bool)))) : Nat → Int → (List (List Int)) → (List (List Bool)) → Option ((List (List Int)) × (List (List Bool)))
  | 0, _, _, _ => none
  | n_ + 1, t9_1, m7, m8 => ref03_walks_B2 a0 a1 t8_1 rec1 (ref03_walks_L2 a0 a1 t8_1 rec1 n_) t9_1 m7 m8
def ref03_walks_k8 (a0 : Core) (a1 : Int) (t8_1 : Int) (m9 : List (List Int)) (m10 : List (List Bool)) (rec1 : Int → (List (List Int)) → (List (List Bool)) → Option ((List (List Int)) × (List (List Bool)))) : Option ((List (List Int)) × (List (List Bool))) :=
  ix ((m10.set (Int.toNat t8_1) ((List.replicate (Int.toNat a0.layers) (false : Bool))))) t8_1 fun x14 =>
  ix x14 t8_1 fun x15 =>
  ref03_walks_L2 a0 a1 t8_1 rec1 FU (((0 : Int))) (((m9.set (Int.toNat t8_1) ((List.replicate (Int.toNat a0.layers) (0 : Int)))))) (((((m10.set (Int.toNat t8_1) ((List.replicate (Int.toNat a0.layers) (false : Bool))))).set (Int.toNat t8_1) (x14.set (Int.toNat t8_1) true))))
def ref03_walks_B3 (a0 : Core) (a1 : Int) (rec1 : Int → (List (List Int)) → (List (List Bool)) → Option ((List (List Int)) × (List (List Bool)))) (t8_1 : Int) (m9 : List (List Int)) (m10 : List (List Bool)) : Option ((List (List Int)) × (List (List Bool))) :=
  if t8_1 < a0.layers then
    gd (0 ≤ a0.layers ∧ a0.layers ≤ 1000000) <|
    gd (0 ≤ a0.layers ∧ a0.layers ≤ 1000000) <|
    ix m9 t8_1 fun x16 =>
    ix m10 t8_1 fun x17 =>
    ref03_walks_k8 a0 a1 t8_1 m9 m10 rec1
  else
    ref03_walks_k1 m9 m10
def ref03_walks_L3 (a0 : Core) (a1 : Int) : Nat → Int → (List (List Int)) → (List (List Bool)) → Option ((List (List Int)) × (List (List Bool)))
  | 0, _, _, _ => none
  | n_ + 1, t8_1, m9, m10 => ref03_walks_B3 a0 a1 (ref03_walks_L3 a0 a1 n_) t8_1 m9 m10
def ref03_walks_k9 (a0 : Core) (a1 : Int) (m11 : List (List Int)) (m12 : List (List Bool)) : Option ((List (List Int)) × (List (List Bool))) :=
  ref03_walks_L3 a0 a1 FU (((0 : Int))) m11 m12
def ref03_walks (a0 : Core) (a1 : Int) : Option ((List (List Int)) × (List (List Bool))) :=
  gd (0 ≤ a0.layers ∧ a0.layers ≤ 1000000) <|
  gd (0 ≤ a0.layers ∧ a0.layers ≤ 1000000) <|
  ref03_walks_k9 a0 a1 (((List.replicate (Int.toNat a0.layers) ([] : List Int)))) (((List.replicate (Int.toNat a0.layers) ([] : List Bool))))
end Go.D3

set_option linter.unusedVariables false
set_option linter.unusedSimpArgs false
namespace Go.D3
open Go.Tb Go.Proofs Go.RowKit Go.Core
theorem Tc58 : callable Try.prog 58 = true := by kernel_rfl
theorem Tc60 : callable Try.prog 60 = true := by kernel_rfl
theorem Tc68 : callable Try.prog 68 = true := by kernel_rfl
theorem Tc81 : callable Try.prog 81 = true := by kernel_rfl
theorem Tz24 : tyZ Try.prog 24 = some (.agg #[.int .i64 0, .slice none 0 0]) := by kernel_rfl
set_option maxRecDepth 20000 in
set_option maxHeartbeats 1000000 in
theorem core_tables_ok {a0 : Core} {A_a0_bounds : Option Addr} {c_a0_bounds : Nat} {w : World} {res : (List (List Tight)) × Int} (h_a0_bounds : Sl w A_a0_bounds c_a0_bounds 3 (a0.bounds.map encBound)) (F : core_tables a0 = some res) : Calls Try.prog 60 #[.agg #[.int .i64 a0.layers, .slice A_a0_bounds a0.bounds.length c_a0_bounds]] w (fun e w' => ∃ (A0 : Option Addr) (c0 : Nat) (hs0 : List (Option Addr × Nat)), e = .returned (.tuple #[.slice A0 res.1.length c0, .int .i64 res.2]) ∧ Hp w w' [.tab A0 c0 76 hs0 75 2 (encM encTight res.1)]) := by
  refine calls_of_cw (args := [.agg #[.int .i64 a0.layers, .slice A_a0_bounds a0.bounds.length c_a0_bounds]]) Try.func60 rfl rfl rfl rfl ?_
  have H := Hp.start w
  have R0 := H.ext
  unfold core_tables at F
  refine CW.seq fun K1 hK1 => ?_
  refine CW.region ?_
  refine LW.go rfl rfl (OW.box rfl fun b1 w1 N1 => ?_)
  replace H := H.new N1 N1.blk
  replace R0 := H.ext
  refine LW.pure rfl rfl (RV.assign rfl) ?_
  refine LW.pure rfl rfl (RV.assign rfl) ?_
  refine LW.nil (hK1 _ _ ?_)
  refine CW.seq fun K2 hK2 => ?_
  refine CW.seq fun K3 hK3 => ?_
  obtain ⟨r1, hr1, F⟩ := bnd_some F
  refine CW.region ?_
  refine LW.pure rfl rfl (RV.loadA [.int .i64 a0.layers, .slice A_a0_bounds a0.bounds.length c_a0_bounds] Tk24 rfl (H.blk 0 rfl).cells rfl rfl) ?_
  refine LW.go rfl rfl (OW.call Tc68 rfl (core_clashes_ok (a0 := a0) (h_a0_bounds.ext R0) hr1) ?_)
  rintro _ w2 ⟨rfl, E1⟩
  refine ⟨_, rfl, ?_⟩
  replace H := H.grow E1
  replace R0 := H.ext
  refine LW.nil (hK3 _ _ ?_)
  by_cases hp1 : r1 = true
  ·
    replace F := ite_y hp1 F
    have hq1 : r1 = true := hp1
    refine CW.condT rfl hq1 ?_
    refine CW.seq fun K4 hK4 => ?_
    refine CW.region ?_
    refine LW.pure rfl rfl (RV.assign rfl) ?_
    refine LW.pure rfl rfl (RV.assign rfl) ?_
    refine LW.nil (hK4 _ _ ?_)
    refine CW.ret ?_
    obtain rfl := Option.some.inj F
    refine ⟨_, (ResOK.two rfl rfl), ?_⟩
    replace H := H.nilTab encTight 76 75 2
    replace R0 := H.ext
    replace H := H.pick (L' := [.tab none 0 76 ([]) 75 2 (encM encTight (([] : List (List Tight))))]) [0] (by decide) rfl
    replace R0 := H.ext
    exact ⟨none, 0, ([]), (by first | rfl | (simp; done) | (simp; omega)), H⟩
  ·
    replace F := ite_n hp1 F
    have hq1 : r1 = false := raw_f hp1
    refine CW.condF rfl hq1 ?_
    refine CW.skip (hK2 _ _ ?_)
    refine CW.seq fun K5 hK5 => ?_
    obtain ⟨r2, hr2, F⟩ := bnd_some F
    refine CW.region ?_
    refine LW.pure rfl rfl (RV.loadA [.int .i64 a0.layers, .slice A_a0_bounds a0.bounds.length c_a0_bounds] Tk24 rfl (H.blk 0 rfl).cells rfl rfl) ?_
    refine LW.go rfl rfl (OW.call Tc81 rfl (core_table_ok (a0 := a0) (h_a0_bounds.ext R0) hr2) ?_)
    rintro _ w3 ⟨A6_0, c6_0, hs6_0, rfl, E2⟩
    refine ⟨_, rfl, ?_⟩
    replace H : Hp w w3 [.tab A6_0 c6_0 76 hs6_0 75 2 (encM encTight r2), .blk b1 24 [.int .i64 a0.layers, .slice A_a0_bounds a0.bounds.length c_a0_bounds]] := H.append E2
    replace R0 := H.ext
    refine LW.pure rfl rfl (RV.assign rfl) ?_
    refine LW.pure rfl rfl (RV.assign rfl) ?_
    refine LW.nil (hK5 _ _ ?_)
    refine CW.ret ?_
    obtain rfl := Option.some.inj F
    refine ⟨_, (ResOK.two rfl rfl), ?_⟩
    replace H := H.pick (L' := [.tab A6_0 c6_0 76 hs6_0 75 2 (encM encTight r2)]) [0] (by decide) rfl
    replace R0 := H.ext
    exact ⟨A6_0, c6_0, hs6_0, (by first | rfl | (simp; done) | (simp; omega)), H⟩
set_option maxRecDepth 20000 in
set_option maxHeartbeats 1000000 in
theorem core_IsPossible_ok {a0 : Core} {A_a0_bounds : Option Addr} {c_a0_bounds : Nat} {w : World} {res : Bool × Int} (h_a0_bounds : Sl w A_a0_bounds c_a0_bounds 3 (a0.bounds.map encBound)) (F : core_IsPossible a0 = some res) : Calls Try.prog 34 #[.agg #[.int .i64 a0.layers, .slice A_a0_bounds a0.bounds.length c_a0_bounds]] w (Rt w (.tuple #[.bool res.1, .int .i64 res.2])) := by
  refine calls_of_cw (args := [.agg #[.int .i64 a0.layers, .slice A_a0_bounds a0.bounds.length c_a0_bounds]]) Try.func34 rfl rfl rfl rfl ?_
  have H := Hp.start w
  have R0 := H.ext
  unfold core_IsPossible at F
  refine CW.seq fun K1 hK1 => ?_
  refine CW.region ?_
  refine LW.go rfl rfl (OW.box rfl fun b1 w1 N1 => ?_)
  replace H := H.new N1 N1.blk
  replace R0 := H.ext
  refine LW.pure rfl rfl (RV.assign rfl) ?_
  refine LW.pure rfl rfl (RV.assign rfl) ?_
  refine LW.nil (hK1 _ _ ?_)
  refine CW.seq fun K2 hK2 => ?_
  refine CW.seq fun K3 hK3 => ?_
  obtain ⟨r1, hr1, F⟩ := bnd_some F
  refine CW.region ?_
  refine LW.pure rfl rfl (RV.loadA [.int .i64 a0.layers, .slice A_a0_bounds a0.bounds.length c_a0_bounds] Tk24 rfl (H.blk 0 rfl).cells rfl rfl) ?_
  refine LW.go rfl rfl (OW.call Tc36 rfl (core_Validate_ok (a0 := a0) (h_a0_bounds.ext R0) hr1) ?_)
  rintro _ w2 ⟨rfl, E1⟩
  refine ⟨_, rfl, ?_⟩
  replace H := H.grow E1
  replace R0 := H.ext
  refine LW.pure rfl rfl (RV.assign rfl) ?_
  refine LW.nil (hK3 _ _ ?_)
  refine CW.seq fun K4 hK4 => ?_
  refine CW.region ?_
  refine LW.pure rfl rfl (RV.move rfl) ?_
  refine LW.pure rfl rfl (RV.nei rfl rfl) ?_
  refine LW.nil (hK4 _ _ ?_)
  by_cases hp1 : r1 = 0
  ·
    replace F := ite_y hp1 F
    have hq1 := dec_t hp1
    refine CW.condF rfl (not_f hq1) ?_
    refine CW.skip (hK2 _ _ ?_)
    refine CW.seq fun K5 hK5 => ?_
    obtain ⟨r2, hr2, F⟩ := bnd_some F
    refine CW.region ?_
    refine LW.pure rfl rfl (RV.loadA [.int .i64 a0.layers, .slice A_a0_bounds a0.bounds.length c_a0_bounds] Tk24 rfl (H.blk 0 rfl).cells rfl rfl) ?_
    refine LW.go rfl rfl (OW.call Tc68 rfl (core_clashes_ok (a0 := a0) (h_a0_bounds.ext R0) hr2) ?_)
    rintro _ w3 ⟨rfl, E2⟩
    refine ⟨_, rfl, ?_⟩
    replace H := H.grow E2
    replace R0 := H.ext
    refine LW.pure rfl rfl (RV.not rfl) ?_
    refine LW.pure rfl rfl (RV.assign rfl) ?_
    refine LW.pure rfl rfl (RV.assign rfl) ?_
    refine LW.nil (hK5 _ _ ?_)
    refine CW.ret ?_
    obtain rfl := Option.some.inj F
    refine ⟨_, (ResOK.two rfl rfl), ?_⟩
    refine ⟨(by first | rfl | simp), R0⟩
  ·
    replace F := ite_n hp1 F
    have hq1 := dec_f hp1
    refine CW.condT rfl (not_t hq1) ?_
    refine CW.seq fun K6 hK6 => ?_
    refine CW.region ?_
    refine LW.pure rfl rfl (RV.move rfl) ?_
    refine LW.pure rfl rfl (RV.assign rfl) ?_
    refine LW.pure rfl rfl (RV.assign rfl) ?_
    refine LW.nil (hK6 _ _ ?_)
    refine CW.ret ?_
    obtain rfl := Option.some.inj F
    refine ⟨_, (ResOK.two rfl rfl), ?_⟩
    refine ⟨(by first | rfl | simp), R0⟩
end Go.D3

set_option linter.unusedVariables false
namespace Go.D3
open Go.Tb Go.Core
def ref03_clashes_k1 : Option Bool :=
  some false
def ref03_clashes_B1 (a0 : Core) (r1 : (List (List Int)) × (List (List Bool))) (rec1 : Int → Option Bool) (t5_1 : Int) : Option Bool :=
  if t5_1 < a0.layers then
    ix r1.1 t5_1 fun x1 =>
    ix x1 t5_1 fun x2 =>
    if x2 < 0 then
      some true
    else
      gd (InR (t5_1 + 1)) <|
      rec1 ((t5_1 + 1))
  else
    ref03_clashes_k1
def ref03_clashes_L1 (a0 : Core) (r1 : (List (List Int)) × (List (List Bool))) : Nat → Int → Option Bool
  | 0, _ => none
  | n_ + 1, t5_1 => ref03_clashes_B1 a0 r1 (ref03_clashes_L1 a0 r1 n_) t5_1
def ref03_clashes (a0 : Core) : Option Bool :=
  bnd (ref03_walks a0 a0.layers) fun r1 =>
  ref03_clashes_L1 a0 r1 FU (((0 : Int)))
def slices_IndexFunc_int_k1 : Option Int :=
  some ((-1 : Int))
def slices_IndexFunc_int_B1 (a0 : List Int) (a1 : Int → Option Bool) (rec1 : Int → Option Int) (t8_1 : Int) : Option Int :=
  if t8_1 < ((a0.length : Int)) then
    ix a0 t8_1 fun x1 =>
    bnd (a1 x1) fun r1 =>
    if r1 = true then
      some t8_1
    else
      gd (InR (t8_1 + 1)) <|
      rec1 ((t8_1 + 1))
  else
    slices_IndexFunc_int_k1
def slices_IndexFunc_int_L1 (a0 : List Int) (a1 : Int → Option Bool) : Nat → Int → Option Int
  | 0, _ => none
  | n_ + 1, t8_1 => slices_IndexFunc_int_B1 a0 a1 (slices_IndexFunc_int_L1 a0 a1 n_) t8_1
theorem slices_IndexFunc_int_L1_s {a0 : List Int} {a1 : Int → Option Bool} {m_ : Nat} {t8_1 : Int} {res : Int} (h : slices_IndexFunc_int_L1 a0 a1 m_ t8_1 = some res) : ∃ k, m_ = k + 1 ∧ slices_IndexFunc_int_B1 a0 a1 (slices_IndexFunc_int_L1 a0 a1 k) t8_1 = some res := by
  cases m_ with
  | zero => cases h
  | succ k => exact ⟨k, rfl, h⟩
def slices_IndexFunc_int (a0 : List Int) (a1 : Int → Option Bool) : Option Int :=
  slices_IndexFunc_int_L1 a0 a1 FU (((0 : Int)))
def slices_ContainsFunc_int (a0 : List Int) (a1 : Int → Option Bool) : Option Bool :=
  bnd (slices_IndexFunc_int a0 a1) fun r1 =>
  some (decide ((0 : Int) ≤ r1))
def core_dated_1 (a0 : Int) : Option Bool :=
  bnd (core_within a0 ((-1000000 : Int)) ((1000000 : Int))) fun r1 =>
  some (!r1)
def core_dated_k1 (t19_1 : Bool) : Option Int :=
  if t19_1 = true then
    some ((1 : Int))
  else
    some ((0 : Int))
def core_dated (a0 : Core) (a1 : List Int) : Option Int :=
  bnd (core_Validate a0) fun r1 =>
  if r1 = 0 then
    if ((a1.length : Int)) = a0.layers then
      bnd (slices_ContainsFunc_int a1 core_dated_1) fun r2 =>
      core_dated_k1 r2
    else
      core_dated_k1 true
  else
    some r1
def core_CheckDates_k1 : Option Int :=
  some ((0 : Int))
def core_CheckDates_B1 (a0 : Core) (a1 : List Int) (rec1 : Int → Option Int) (t17_1 : Int) : Option Int :=
  if t17_1 < ((a0.bounds.length : Int)) then
    ix a0.bounds t17_1 fun x1 =>
    ix a1 x1.b fun x2 =>
    ix a1 x1.a fun x3 =>
    gd (InR (x2 - x3)) <|
    if x1.most < (x2 - x3) then
      some ((7 : Int))
    else
      gd (InR (t17_1 + 1)) <|
      rec1 ((t17_1 + 1))
  else
    core_CheckDates_k1
def core_CheckDates_L1 (a0 : Core) (a1 : List Int) : Nat → Int → Option Int
  | 0, _ => none
  | n_ + 1, t17_1 => core_CheckDates_B1 a0 a1 (core_CheckDates_L1 a0 a1 n_) t17_1
theorem core_CheckDates_L1_s {a0 : Core} {a1 : List Int} {m_ : Nat} {t17_1 : Int} {res : Int} (h : core_CheckDates_L1 a0 a1 m_ t17_1 = some res) : ∃ k, m_ = k + 1 ∧ core_CheckDates_B1 a0 a1 (core_CheckDates_L1 a0 a1 k) t17_1 = some res := by
  cases m_ with
  | zero => cases h
  | succ k => exact ⟨k, rfl, h⟩
def core_CheckDates (a0 : Core) (a1 : List Int) : Option Int :=
  bnd (core_dated a0 a1) fun r1 =>
  if r1 = 0 then
    core_CheckDates_L1 a0 a1 FU (((0 : Int)))
  else
    some r1
end Go.D3
