/- Lemmas and walks that the proof of this claim uses: TbCoreMath2. -/
import Derived.Test.YtmjadkjcbaohbaaTbCoreMath
set_option linter.unusedVariables false
set_option linter.unusedSimpArgs false
namespace Go.Core
open Go.Tb

/-! ### what the document's walks find -/
theorem Path.last {c : Core} {a v : Nat} {e : List Bound} (h : Path c a e v) : (e = [] ∧ v = a) ∨ ∃ e' x, e = e' ++ [x] ∧ x ∈ c.bounds ∧ Path c a e' x.a.toNat ∧ x.b.toNat = v := by
  induction h with
  | nil => exact .inl ⟨rfl, rfl⟩
  | @cons x es v hx k ih =>
    rcases ih with ⟨rfl, rfl⟩ | ⟨e', y, rfl, hy, h1, h2⟩
    · exact .inr ⟨[], x, rfl, hx, .nil _, rfl⟩
    · exact .inr ⟨x :: e', y, rfl, hy, .cons hx h1, h2⟩
def sm (s : WS) (v : Nat) : Int := s.1.getD v 0
def kn (s : WS) (v : Nat) : Bool := s.2.getD v false
theorem gi_sm (s : WS) (i : Int) : gi s.1 i = sm s i.toNat := rfl
theorem gb_kn (s : WS) (i : Int) : gb s.2 i = kn s i.toNat := rfl
structure Len (n : Nat) (s : WS) : Prop where
  l1 : s.1.length = n
  l2 : s.2.length = n
theorem wB_len {n : Nat} {p s : WS} {x : Bound} (h : Len n s) : Len n (wB p s x) := by
  unfold wB; split
  · exact ⟨by simp [h.l1], by simp [h.l2]⟩
  · exact h
theorem set_getD {α : Type} {l : List α} {i j : Nat} {x d : α} : (l.set i x).getD j d = if j = i ∧ i < l.length then x else l.getD j d := by
  simp only [List.getD, List.getElem?_set]
  by_cases h : i = j
  · subst h
    by_cases hi : i < l.length
    · simp [hi]
    · simp [hi, List.getElem?_eq_none (Nat.le_of_not_lt hi)]
  · simp [h, Ne.symm h]
/-- What one bound does. -/
theorem wB_spec {n : Nat} {p s : WS} {x : Bound} (h : Len n s) (hb : x.b.toNat < n) (v : Nat) :
    (kn s v = true → kn (wB p s x) v = true ∧ sm (wB p s x) v ≤ sm s v) ∧
    (v = x.b.toNat → kn p x.a.toNat = true → kn (wB p s x) v = true ∧ sm (wB p s x) v ≤ sm p x.a.toNat + x.most) ∧
    (kn (wB p s x) v = true → (kn s v = true ∧ sm (wB p s x) v = sm s v) ∨ (v = x.b.toNat ∧ kn p x.a.toNat = true ∧ sm (wB p s x) v = sm p x.a.toNat + x.most)) := by
  unfold wB
  rw [gb_kn, gb_kn, gi_sm, gi_sm]
  split
  · rename_i hc
    simp only [Bool.and_eq_true, Bool.or_eq_true, Bool.not_eq_true', decide_eq_true_eq] at hc
    have e1 : ∀ v, sm (s.1.set x.b.toNat (sm p x.a.toNat + x.most), s.2.set x.b.toNat true) v = if v = x.b.toNat then sm p x.a.toNat + x.most else sm s v := by
      intro v; simp only [sm]; rw [set_getD]; simp [h.l1, hb]
    have e2 : ∀ v, kn (s.1.set x.b.toNat (sm p x.a.toNat + x.most), s.2.set x.b.toNat true) v = if v = x.b.toNat then true else kn s v := by
      intro v; simp only [kn]; rw [set_getD]; simp [h.l2, hb]
    rw [e1, e2]
    by_cases hv : v = x.b.toNat
    · subst hv
      simp only [if_true]
      refine ⟨fun hk => ⟨trivial, ?_⟩, fun _ _ => ⟨trivial, Int.le_refl _⟩, fun _ => .inr ⟨trivial, hc.1, trivial⟩⟩
      rcases hc.2 with h2 | h2
      · rw [hk] at h2; cases h2
      · omega
    · simp only [if_neg hv]
      exact ⟨fun hk => ⟨hk, Int.le_refl _⟩, fun e => absurd e hv, fun hk => .inl ⟨hk, trivial⟩⟩
  · rename_i hc
    simp only [Bool.and_eq_true, Bool.or_eq_true, Bool.not_eq_true', decide_eq_true_eq, not_and, not_or] at hc
    refine ⟨fun hk => ⟨hk, Int.le_refl _⟩, fun e hk => ?_, fun hk => .inl ⟨hk, rfl⟩⟩
    subst e
    have := hc hk
    refine ⟨by cases hh : kn s x.b.toNat <;> simp_all, by omega⟩
theorem wTo_len {n : Nat} {bs : List Bound} {p : WS} (h : Len n p) : ∀ j : Nat, Len n (wTo bs p j)
  | 0 => h
  | j + 1 => by
    cases hx : bs[j]? with
    | none => simp only [wTo, hx]; exact wTo_len h j
    | some x => rw [wTo_succ hx]; exact wB_len (wTo_len h j)
theorem wTo_spec {n : Nat} {bs : List Bound} {p : WS} (h : Len n p) (hb : ∀ x ∈ bs, x.b.toNat < n) : ∀ (j : Nat) (v : Nat),
    (kn p v = true → kn (wTo bs p j) v = true ∧ sm (wTo bs p j) v ≤ sm p v) ∧
    (∀ (i : Nat) (x : Bound), i < j → bs[i]? = some x → v = x.b.toNat → kn p x.a.toNat = true → kn (wTo bs p j) v = true ∧ sm (wTo bs p j) v ≤ sm p x.a.toNat + x.most) ∧
    (kn (wTo bs p j) v = true → (kn p v = true ∧ sm (wTo bs p j) v = sm p v) ∨ ∃ x ∈ bs, v = x.b.toNat ∧ kn p x.a.toNat = true ∧ sm (wTo bs p j) v = sm p x.a.toNat + x.most)
  | 0, v => ⟨fun h => ⟨h, Int.le_refl _⟩, fun i x hi => by omega, fun h => .inl ⟨h, rfl⟩⟩
  | j + 1, v => by
    obtain ⟨i1, i2, i3⟩ := wTo_spec h hb j v
    cases hx : bs[j]? with
    | none =>
      simp only [wTo, hx]
      refine ⟨i1, fun i x hi hix => ?_, i3⟩
      by_cases hij : i = j
      · subst hij; rw [hx] at hix; cases hix
      · exact i2 i x (by omega) hix
    | some y =>
      rw [wTo_succ hx]
      obtain ⟨b1, b2, b3⟩ := wB_spec (p := p) (wTo_len h j) (hb y (List.mem_of_getElem? hx)) v
      refine ⟨fun hk => ?_, fun i x hi hix hv hk => ?_, fun hk => ?_⟩
      · obtain ⟨k1, k2⟩ := i1 hk
        obtain ⟨k3, k4⟩ := b1 k1
        exact ⟨k3, by omega⟩
      · by_cases hij : i = j
        · subst hij; rw [hx] at hix; cases hix
          exact b2 hv hk
        · obtain ⟨k1, k2⟩ := i2 i x (by omega) hix hv hk
          obtain ⟨k3, k4⟩ := b1 k1
          exact ⟨k3, by omega⟩
      · rcases b3 hk with ⟨k1, k2⟩ | ⟨k1, k2, k3⟩
        · rcases i3 k1 with ⟨q1, q2⟩ | ⟨x, hxm, q1, q2, q3⟩
          · exact .inl ⟨q1, by omega⟩
          · exact .inr ⟨x, hxm, q1, q2, by omega⟩
        · exact .inr ⟨y, List.mem_of_getElem? hx, k1, k2, k3⟩
theorem wN_len (c : Core) (a : Nat) : ∀ k : Nat, Len c.layers.toNat (wN c a k)
  | 0 => ⟨by simp [wN], by simp [wN]⟩
  | k + 1 => wTo_len (wN_len c a k) _
/-- The walks of at most k bounds from a. -/
theorem wN_spec {c : Core} (hl : Lay c c.layers.toNat) {a : Nat} (ha : a < c.layers.toNat) : ∀ (k : Nat) (v : Nat),
    (kn (wN c a k) v = true → ∃ e, Path c a e v ∧ e.length ≤ k ∧ wt e = sm (wN c a k) v) ∧
    (∀ e, Path c a e v → e.length ≤ k → kn (wN c a k) v = true ∧ sm (wN c a k) v ≤ wt e)
  | 0, v => by
    have hk : kn (wN c a 0) v = decide (v = a) := by
      simp only [kn, wN]
      rw [set_getD]
      by_cases hv : v = a
      · subst hv; simp [ha]
      · simp [hv, List.getD, List.getElem?_replicate]; split <;> rfl
    have hs : sm (wN c a 0) v = 0 := by
      simp only [sm, wN, List.getD, List.getElem?_replicate]; split <;> rfl
    rw [hk, hs]
    refine ⟨fun h => ?_, fun e he hlen => ?_⟩
    · have := of_decide_eq_true h; subst this
      exact ⟨[], .nil _, by simp, rfl⟩
    · cases e with
      | nil => cases he; simp [wt]
      | cons x r => simp at hlen
  | k + 1, v => by
    have hb : ∀ x ∈ c.bounds, x.b.toNat < c.layers.toNat := fun x hx => (hl x hx).2
    obtain ⟨s1, s2, s3⟩ := wTo_spec (wN_len c a k) hb c.bounds.length v
    have ih := wN_spec hl ha k
    show (kn (wTo c.bounds (wN c a k) c.bounds.length) v = true → _) ∧ _
    refine ⟨fun hk => ?_, fun e he hlen => ?_⟩
    · rcases s3 hk with ⟨k1, k2⟩ | ⟨x, hx, k1, k2, k3⟩
      · obtain ⟨e, h1, h2, h3⟩ := (ih v).1 k1
        exact ⟨e, h1, by omega, by rw [h3]; exact k2.symm⟩
      · obtain ⟨e, h1, h2, h3⟩ := (ih x.a.toNat).1 k2
        refine ⟨e ++ [x], ?_, by simp; omega, by rw [wt_append]; simp only [wt]; rw [h3]; simp only [wN]; omega⟩
        rw [k1]; exact h1.snoc hx
    · rcases he.last with ⟨rfl, rfl⟩ | ⟨e', x, rfl, hx, h1, rfl⟩
      · obtain ⟨k1, k2⟩ := (ih v).2 [] (.nil _) (by simp)
        obtain ⟨k3, k4⟩ := s1 k1
        exact ⟨k3, Int.le_trans k4 k2⟩
      · simp at hlen
        obtain ⟨k1, k2⟩ := (ih x.a.toNat).2 e' h1 hlen
        obtain ⟨i, hi⟩ := List.getElem?_of_mem hx
        obtain ⟨k3, k4⟩ := s2 i x (lt_of_at hi) hi rfl k1
        refine ⟨k3, ?_⟩
        rw [wt_append]; simp only [wt, wN]; omega
theorem noNeg_of {c : Core} (hl : Lay c c.layers.toNat) (h : rclash c = false) : NoNeg c c.layers.toNat := by
  intro u e hu he hlen
  obtain ⟨h1, h2⟩ := (wN_spec hl hu c.layers.toNat u).2 e he hlen
  have h3 := List.any_eq_false.1 h u (by simpa using hu)
  have h4 : ¬ sm (wN c u c.layers.toNat) u < 0 := fun hc => h3 (decide_eq_true hc)
  omega
theorem neg_of {c : Core} (hl : Lay c c.layers.toNat) (h : rclash c = true) : ∃ u e, u < c.layers.toNat ∧ Path c u e u ∧ wt e < 0 := by
  obtain ⟨u, hu, hd⟩ := List.any_eq_true.1 h
  have hu' : u < c.layers.toNat := by simpa using hu
  have h4 : sm (wN c u c.layers.toNat) u < 0 := of_decide_eq_true hd
  obtain ⟨k1, k2⟩ := (wN_spec hl hu' c.layers.toNat u).2 [] (.nil _) (by simp)
  obtain ⟨e, h1, h2, h3⟩ := (wN_spec hl hu' c.layers.toNat u).1 k1
  exact ⟨u, e, hu', h1, by omega⟩
end Go.Core
