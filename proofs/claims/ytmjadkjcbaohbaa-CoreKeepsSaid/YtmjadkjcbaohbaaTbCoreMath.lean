/- Lemmas and walks that the proof of this claim uses: TbCoreMath. -/
import Derived.Test.YtmjadkjcbaohbaaTbCoreSpec4
namespace Go.Core
open Go.Tb

/-! ### paths along bounds -/
/-- The bounds es lead from a to v. -/
inductive Path (c : Core) : Nat → List Bound → Nat → Prop
  | nil (a : Nat) : Path c a [] a
  | cons {x : Bound} {es : List Bound} {v : Nat} (hx : x ∈ c.bounds) (h : Path c x.b.toNat es v) : Path c x.a.toNat (x :: es) v
def wt : List Bound → Int
  | [] => 0
  | x :: r => x.most + wt r
theorem wt_append (a b : List Bound) : wt (a ++ b) = wt a + wt b := by
  induction a with
  | nil => simp [wt]
  | cons x r ih => simp only [List.cons_append, wt, ih]; omega
theorem Path.append {c : Core} {a u v : Nat} {e f : List Bound} (h : Path c a e u) (k : Path c u f v) : Path c a (e ++ f) v := by
  induction h with
  | nil => exact k
  | cons hx _ ih => exact .cons hx (ih k)
theorem Path.split {c : Core} : ∀ {a v : Nat} (e : List Bound) {f : List Bound}, Path c a (e ++ f) v → ∃ u, Path c a e u ∧ Path c u f v
  | a, _, [], _, h => ⟨a, .nil a, h⟩
  | _, _, x :: r, f, h => by
    cases h with
    | cons hx h =>
      obtain ⟨u, h1, h2⟩ := Path.split r h
      exact ⟨u, .cons hx h1, h2⟩
theorem Path.single {c : Core} {x : Bound} (hx : x ∈ c.bounds) : Path c x.a.toNat [x] x.b.toNat := .cons hx (.nil _)
theorem Path.snoc {c : Core} {a : Nat} {e : List Bound} {x : Bound} (h : Path c a e x.a.toNat) (hx : x ∈ c.bounds) : Path c a (e ++ [x]) x.b.toNat := h.append (Path.single hx)
/-- All ends of the bounds are layers. -/
def Lay (c : Core) (n : Nat) : Prop := ∀ x ∈ c.bounds, x.a.toNat < n ∧ x.b.toNat < n
theorem lay_of {c : Core} (hv : validate c = 0) : Lay c c.layers.toNat := fun x hx => by
  obtain ⟨j, hj⟩ := List.getElem?_of_mem hx
  have := bound_ok hv hj
  omega
theorem Path.lt {c : Core} {n : Nat} (hl : Lay c n) {a v : Nat} {e : List Bound} (h : Path c a e v) (ha : a < n) : v < n := by
  induction h with
  | nil => exact ha
  | cons hx _ ih => exact ih (hl _ hx).2
theorem Path.pot {c : Core} {p : Nat → Int} (hp : Pot c p) {a v : Nat} {e : List Bound} (h : Path c a e v) : p v - p a ≤ wt e := by
  induction h with
  | nil => simp [wt]
  | cons hx _ ih => have := hp _ hx; simp only [wt]; omega

/-! ### a path that is too long has a round -/
theorem nodup_len : ∀ (n : Nat) (l : List Nat), l.Nodup → (∀ x ∈ l, x < n) → l.length ≤ n
  | 0, l, _, h => by
    cases l with
    | nil => simp
    | cons x r => have := h x (by simp); omega
  | n + 1, l, hd, h => by
    have h1 := nodup_len n (l.erase n) (hd.erase n) (fun x hx => by
      have h2 := h x (List.mem_of_mem_erase hx)
      have h3 : x ≠ n := fun e => by subst e; exact (List.Nodup.not_mem_erase hd) hx
      omega)
    by_cases hm : n ∈ l
    · rw [List.length_erase_of_mem hm] at h1; omega
    · rw [List.erase_of_not_mem hm] at h1; omega
/-- The layers along a path, without its last one. -/
def at_ (e : List Bound) : List Nat := e.map fun x => x.a.toNat
theorem Path.find {c : Core} {u : Nat} : ∀ {a v : Nat} {e : List Bound}, Path c a e v → u ∈ at_ e → ∃ e1 e2, e = e1 ++ e2 ∧ Path c a e1 u ∧ Path c u e2 v ∧ e2 ≠ []
  | _, _, _, .nil a, h => by simp [at_] at h
  | _, _, _, @Path.cons _ x es v hx k, h => by
    simp only [at_, List.map_cons, List.mem_cons] at h
    by_cases hu : u = x.a.toNat
    · subst hu
      exact ⟨[], x :: es, rfl, .nil _, .cons hx k, by simp⟩
    · rcases h with h | h
      · exact absurd h hu
      · obtain ⟨e1, e2, he, h1, h2, h3⟩ := Path.find k h
        exact ⟨x :: e1, e2, by rw [he]; rfl, .cons hx h1, h2, h3⟩
theorem Path.dup {c : Core} : ∀ {a v : Nat} {e : List Bound}, Path c a e v → ¬ (at_ e ++ [v]).Nodup → ∃ e1 e2 e3 u, e = e1 ++ e2 ++ e3 ∧ Path c a e1 u ∧ Path c u e2 u ∧ Path c u e3 v ∧ e2 ≠ []
  | _, _, _, .nil a, h => by simp [at_] at h
  | _, _, _, @Path.cons _ x es v hx k, h => by
    simp only [at_, List.map_cons, List.cons_append, List.nodup_cons] at h
    by_cases hm : x.a.toNat ∈ es.map (fun x => x.a.toNat) ++ [v]
    · rcases List.mem_append.1 hm with hm | hm
      · obtain ⟨e1, e2, he, h1, h2, _⟩ := Path.find (u := x.a.toNat) k hm
        exact ⟨[], x :: e1, e2, x.a.toNat, by rw [he]; rfl, .nil _, .cons hx h1, h2, by simp⟩
      · simp at hm
        rw [← hm] at k
        refine ⟨[], x :: es, [], x.a.toNat, by simp, .nil _, .cons hx k, ?_, by simp⟩
        rw [← hm]; exact .nil _
    · have hd : ¬ (at_ es ++ [v]).Nodup := fun hd => h ⟨hm, hd⟩
      obtain ⟨e1, e2, e3, u, he, h1, h2, h3, h4⟩ := Path.dup k hd
      exact ⟨x :: e1, e2, e3, u, by rw [he]; rfl, .cons hx h1, h2, h3, h4⟩
theorem Path.at_lt {c : Core} {n : Nat} (hl : Lay c n) {a v : Nat} {e : List Bound} (h : Path c a e v) : ∀ x ∈ at_ e, x < n := by
  induction h with
  | nil => simp [at_]
  | cons hx _ ih =>
    intro y hy
    simp only [at_, List.map_cons, List.mem_cons] at hy
    rcases hy with rfl | hy
    · exact (hl _ hx).1
    · exact ih y hy
/-- No round of at most n bounds is below 0. -/
def NoNeg (c : Core) (n : Nat) : Prop := ∀ (u : Nat) (e : List Bound), u < n → Path c u e u → e.length ≤ n → 0 ≤ wt e
/-- A path of n bounds or more has a shorter one that is no heavier. -/
theorem Path.short1 {c : Core} {n : Nat} (hl : Lay c n) (hn : NoNeg c n) {a v : Nat} {e : List Bound} (h : Path c a e v) (ha : a < n) (hlen : n ≤ e.length) : ∃ e', Path c a e' v ∧ e'.length < e.length ∧ wt e' ≤ wt e := by
  have he : e = e.take n ++ e.drop n := (List.take_append_drop n e).symm
  rw [he] at h
  obtain ⟨u, h1, h2⟩ := Path.split (e.take n) h
  have hu := h1.lt hl ha
  have hdup : ¬ (at_ (e.take n) ++ [u]).Nodup := fun hd => by
    have := nodup_len n _ hd (fun x hx => by
      rcases List.mem_append.1 hx with hx | hx
      · exact h1.at_lt hl x hx
      · simp at hx; omega)
    simp [at_] at this
    omega
  obtain ⟨e1, e2, e3, q, hq, p1, p2, p3, p4⟩ := Path.dup h1 hdup
  have hlq := p1.lt hl ha
  have hle : e2.length ≤ n := by
    have : (e.take n).length = (e1 ++ e2 ++ e3).length := by rw [← hq]
    simp at this
    omega
  have hw := hn q e2 hlq p2 hle
  have hpos : 0 < e2.length := List.length_pos_iff.2 p4
  refine ⟨e1 ++ (e3 ++ e.drop n), p1.append (p3.append h2), ?_, ?_⟩
  · have h3 : e.length = (e1 ++ e2 ++ e3 ++ e.drop n).length := by rw [← hq, List.take_append_drop]
    rw [h3]; simp only [List.length_append]; omega
  · have h3 : wt e = wt (e1 ++ e2 ++ e3 ++ e.drop n) := by rw [← hq, List.take_append_drop]
    rw [h3]; simp only [wt_append]; omega
theorem Path.short {c : Core} {n : Nat} (hl : Lay c n) (hn : NoNeg c n) {a v : Nat} (ha : a < n) : ∀ (l : Nat) (e : List Bound), e.length ≤ l → Path c a e v → ∃ e', Path c a e' v ∧ e'.length < n ∧ wt e' ≤ wt e
  | 0, e, hle, h => ⟨e, h, by omega, Int.le_refl _⟩
  | l + 1, e, hle, h => by
    by_cases hlen : e.length < n
    · exact ⟨e, h, hlen, Int.le_refl _⟩
    · obtain ⟨e', h1, h2, h3⟩ := h.short1 hl hn ha (by omega)
      obtain ⟨e'', k1, k2, k3⟩ := Path.short hl hn ha l e' (by omega) h1
      exact ⟨e'', k1, k2, by omega⟩
end Go.Core
