/- Lemmas and walks that the proof of this claim uses: TbCoreMath4. -/
import Derived.Test.YtmjadkjcbaohbaaTbCoreMath3
namespace Go.Core
open Go.Tb

/-! ### what the table finds -/
theorem tighter_spec (t o : Tight) : (t.known = true → (tighter t o).known = true ∧ (tighter t o).most ≤ t.most) ∧ (o.known = true → (tighter t o).known = true ∧ (tighter t o).most ≤ o.most) ∧
    ((tighter t o).known = true → (t.known = true ∧ (tighter t o).most = t.most) ∨ (o.known = true ∧ (tighter t o).most = o.most)) := by
  unfold tighter
  cases t with
  | mk k m =>
    cases o with
    | mk k' m' =>
      cases k <;> cases k' <;> simp
      by_cases h : m' < m <;> simp [h] <;> omega
theorem fwJ_cell {n : Nat} {p : Nat → Int} {B : Int} {m0 m : TM} {k i : Nat} (hB : 0 ≤ B) (h0 : TInv n p B m0) (h : FInv n p B m0 k m) (hk : k < n) (hi : i < n) : ∀ j : Nat, j ≤ n → ∀ a b : Nat, a < n → b < n →
    mg (fwJ m k i j) a b = if a = i ∧ b < j then tighter (mg m a b) (tover (mg m0 a k) (mg m0 k b)) else mg m a b
  | 0, _, a, b, _, _ => by simp [fwJ]
  | j + 1, hj, a, b, ha, hb => by
    have ih := fwJ_cell hB h0 h hk hi j (by omega)
    have hF := fwJ_inv hB h0 h hk hi j (by omega)
    simp only [fwJ, fwAt]
    rw [mg_put hF.inv.sq hi (by omega), hF.col i hi, hF.row j (by omega), ih i j hi (by omega), ih a b ha hb]
    by_cases h1 : a = i
    · subst h1
      by_cases h2 : b = j
      · subst h2; simp
      · by_cases h3 : b < j
        · simp [h2, h3, show b < j + 1 by omega]
        · simp [h2, h3, show ¬ b < j + 1 by omega]
    · simp [h1]
theorem fwI_cell {n : Nat} {p : Nat → Int} {B : Int} {m0 : TM} {k : Nat} (hB : 0 ≤ B) (h0 : TInv n p B m0) (hk : k < n) : ∀ i : Nat, i ≤ n → ∀ a b : Nat, a < n → b < n →
    mg (fwI n m0 k i) a b = if a < i then tighter (mg m0 a b) (tover (mg m0 a k) (mg m0 k b)) else mg m0 a b
  | 0, _, a, b, _, _ => by simp [fwI]
  | i + 1, hi, a, b, ha, hb => by
    have ih := fwI_cell hB h0 hk i (by omega) a b ha hb
    simp only [fwI]
    rw [fwJ_cell hB h0 (fwI_inv hB h0 hk i (by omega)) hk (by omega) n (Nat.le_refl n) a b ha hb, ih]
    by_cases h1 : a = i
    · subst h1; simp [hb]
    · by_cases h2 : a < i
      · simp [h1, h2, show a < i + 1 by omega]
      · simp [h1, h2, show ¬ a < i + 1 by omega]

/-- The layers inside a path. -/
def mids : List Bound → List Nat
  | [] => []
  | _ :: r => at_ r
structure TS (c : Core) (n K : Nat) (m : TM) : Prop where
  real : ∀ i j : Nat, i < n → j < n → (mg m i j).known = true → ∃ e, Path c i e j ∧ wt e = (mg m i j).most
  low : ∀ (i j : Nat) (e : List Bound), i < n → Path c i e j → (∀ u ∈ mids e, u < K) → (mg m i j).known = true ∧ (mg m i j).most ≤ wt e

theorem tB_spec {c : Core} {p : Nat → Int} (hv : validate c = 0) (hp : Pot c p) : ∀ j : Nat,
    (∀ a b : Nat, a < c.layers.toNat → b < c.layers.toNat → (mg (tB c.layers.toNat c.bounds j) a b).known = true → ∃ e, Path c a e b ∧ wt e = (mg (tB c.layers.toNat c.bounds j) a b).most) ∧
    (∀ (i : Nat) (x : Bound), i < j → c.bounds[i]? = some x → (mg (tB c.layers.toNat c.bounds j) x.a.toNat x.b.toNat).known = true ∧ (mg (tB c.layers.toNat c.bounds j) x.a.toNat x.b.toNat).most ≤ x.most)
  | 0 => by
    refine ⟨fun a b ha hb hk => ?_, fun i x hi => by omega⟩
    simp only [tB] at *
    rw [tI_mg ha hb] at *
    by_cases h : a = b
    · subst h; exact ⟨[], .nil _, by simp [wt]⟩
    · simp [h] at hk
  | j + 1 => by
    obtain ⟨i1, i2⟩ := tB_spec hv hp j
    have hI := tB_inv hv hp j
    have hl := lay_of hv
    cases hx : c.bounds[j]? with
    | none =>
      simp only [tB, hx]
      refine ⟨i1, fun i x hi hix => ?_⟩
      by_cases hij : i = j
      · subst hij; rw [hx] at hix; cases hix
      · exact i2 i x (by omega) hix
    | some y =>
      have hym := List.mem_of_getElem? hx
      have hy := hl y hym
      rw [tB_succ hx]
      obtain ⟨t1, t2, t3⟩ := tighter_spec (mg (tB c.layers.toNat c.bounds j) y.a.toNat y.b.toNat) ⟨true, y.most⟩
      refine ⟨fun a b ha hb hk => ?_, fun i x hi hix => ?_⟩
      · rw [mg_put hI.sq hy.1 hy.2] at *
        split at hk
        · rename_i he
          rw [if_pos he]
          obtain ⟨rfl, rfl⟩ := he
          rcases t3 hk with ⟨q1, q2⟩ | ⟨q1, q2⟩
          · obtain ⟨e, he, hw⟩ := i1 _ _ ha hb q1
            exact ⟨e, he, by rw [hw, q2]⟩
          · exact ⟨[y], Path.single hym, by rw [q2]; simp [wt]⟩
        · rename_i he
          rw [if_neg he]
          exact i1 a b ha hb hk
      · rw [mg_put hI.sq hy.1 hy.2]
        by_cases he : x.a.toNat = y.a.toNat ∧ x.b.toNat = y.b.toNat
        · rw [if_pos he]
          by_cases hij : i = j
          · subst hij; rw [hx] at hix; cases hix
            exact t2 rfl
          · obtain ⟨k1, k2⟩ := i2 i x (by omega) hix
            rw [he.1, he.2] at k1 k2
            obtain ⟨k3, k4⟩ := t1 k1
            exact ⟨k3, by omega⟩
        · rw [if_neg he]
          by_cases hij : i = j
          · subst hij; rw [hx] at hix; cases hix
            exact absurd ⟨rfl, rfl⟩ he
          · exact i2 i x (by omega) hix
theorem TS.base {c : Core} {p : Nat → Int} (hv : validate c = 0) (hp : Pot c p) : TS c c.layers.toNat 0 (tB c.layers.toNat c.bounds c.bounds.length) := by
  obtain ⟨h1, h2⟩ := tB_spec hv hp c.bounds.length
  refine ⟨h1, fun i j e hi he hm => ?_⟩
  cases he with
  | nil =>
    have := (tB_inv hv hp c.bounds.length).diag i hi
    rw [this]; simp [wt]
  | @cons x r _ hx k =>
    cases r with
    | nil =>
      obtain rfl : j = x.b.toNat := by
        rcases k.last with ⟨_, h⟩ | ⟨e', y, h, _⟩
        · exact h
        · simp at h
      obtain ⟨q, hq⟩ := List.getElem?_of_mem hx
      have := h2 q x (lt_of_at hq) hq
      simp only [wt]
      exact ⟨this.1, by omega⟩
    | cons y s =>
      have := hm y.a.toNat (by simp [mids, at_])
      omega
theorem Path.find1 {c : Core} {u : Nat} : ∀ {a v : Nat} {e : List Bound}, Path c a e v → u ∈ at_ e → ∃ e1 e2, e = e1 ++ e2 ∧ Path c a e1 u ∧ Path c u e2 v ∧ u ∉ at_ e1
  | _, _, _, .nil a, h => by simp [at_] at h
  | _, _, _, @Path.cons _ x es v hx k, h => by
    simp only [at_, List.map_cons, List.mem_cons] at h
    by_cases hu : u = x.a.toNat
    · subst hu
      exact ⟨[], x :: es, rfl, .nil _, .cons hx k, by simp [at_]⟩
    · rcases h with h | h
      · exact absurd h hu
      · obtain ⟨e1, e2, he, h1, h2, h3⟩ := Path.find1 k h
        exact ⟨x :: e1, e2, by rw [he]; rfl, .cons hx h1, h2, by simp only [at_, List.map_cons, List.mem_cons]; rintro (h | h); exact hu h; exact h3 h⟩
theorem at_app (a b : List Bound) : at_ (a ++ b) = at_ a ++ at_ b := by simp [at_]
theorem mids_sub {e : List Bound} : ∀ u ∈ mids e, u ∈ at_ e := by
  intro u hu
  cases e with
  | nil => exact hu
  | cons x r => simp only [at_, List.map_cons, List.mem_cons]; exact .inr hu
/-- From K on, within K. -/
theorem TS.fromK {c : Core} {n K : Nat} {m : TM} {p : Nat → Int} (hp : Pot c p) (h : TS c n K m) (hK : K < n) : ∀ (l : Nat) (e : List Bound) (j : Nat), e.length ≤ l → Path c K e j → (∀ u ∈ mids e, u < K + 1) → (mg m K j).known = true ∧ (mg m K j).most ≤ wt e
  | 0, e, j, hlen, he, hm => by
    have : e = [] := List.eq_nil_of_length_eq_zero (by omega)
    subst this
    exact h.low K j [] hK he (by simp [mids])
  | l + 1, e, j, hlen, he, hm => by
    by_cases hin : K ∈ mids e
    · cases e with
      | nil => simp [mids] at hin
      | cons x r =>
        cases he with
        | cons hx k =>
          obtain ⟨s1, s2, hs, p1, p2, _⟩ := Path.find1 k hin
          have hc : Path c x.a.toNat (x :: s1) x.a.toNat := .cons hx p1
          have hw := hc.pot hp
          have hlen2 : s2.length ≤ l := by have : r.length = (s1 ++ s2).length := by rw [hs]
                                           simp at this hlen; omega
          obtain ⟨q1, q2⟩ := TS.fromK hp h hK l s2 j hlen2 p2 (fun u hu => hm u (by show u ∈ at_ r; rw [hs, at_app]; exact List.mem_append_right _ (mids_sub u hu)))
          refine ⟨q1, ?_⟩
          have hw2 : wt (x :: r) = wt (x :: s1) + wt s2 := by rw [hs, ← List.cons_append, wt_append]
          omega
    · exact h.low K j e hK he (fun u hu => by
        have h1 := hm u hu
        have h2 : u ≠ K := fun e' => hin (e' ▸ hu)
        omega)
theorem TS.step {c : Core} {n K : Nat} {m : TM} {p : Nat → Int} {B : Int} (hl : Lay c n) (hp : Pot c p) (hB : 0 ≤ B) (h0 : TInv n p B m) (h : TS c n K m) (hK : K < n) : TS c n (K + 1) (fwI n m K n) := by
  have cell : ∀ a b : Nat, a < n → b < n → mg (fwI n m K n) a b = tighter (mg m a b) (tover (mg m a K) (mg m K b)) := fun a b ha hb => by rw [fwI_cell hB h0 hK n (Nat.le_refl n) a b ha hb, if_pos ha]
  refine ⟨fun i j hi hj hk => ?_, fun i j e hi he hm => ?_⟩
  · rw [cell i j hi hj] at *
    rcases (tighter_spec _ _).2.2 hk with ⟨q1, q2⟩ | ⟨q1, q2⟩
    · obtain ⟨e, he, hw⟩ := h.real i j hi hj q1
      exact ⟨e, he, by rw [hw, q2]⟩
    · simp only [tover, Bool.and_eq_true] at q1
      obtain ⟨e1, he1, hw1⟩ := h.real i K hi hK q1.1
      obtain ⟨e2, he2, hw2⟩ := h.real K j hK hj q1.2
      exact ⟨e1 ++ e2, he1.append he2, by rw [wt_append, hw1, hw2, q2]; rfl⟩
  · have hj := he.lt hl hi
    rw [cell i j hi hj]
    by_cases hin : K ∈ mids e
    · cases e with
      | nil => simp [mids] at hin
      | cons x r =>
        cases he with
        | cons hx k =>
          obtain ⟨s1, s2, hs, p1, p2, hno⟩ := Path.find1 k hin
          have c1 : Path c x.a.toNat (x :: s1) K := .cons hx p1
          obtain ⟨q1, q2⟩ := h.low _ K (x :: s1) hi c1 (fun u hu => by
            have h1 := hm u (by show u ∈ at_ r; rw [hs, at_app]; exact List.mem_append_left _ hu)
            have h2 : u ≠ K := fun e' => hno (e' ▸ hu)
            omega)
          obtain ⟨q3, q4⟩ := TS.fromK hp h hK _ s2 j (Nat.le_refl _) p2 (fun u hu => hm u (by show u ∈ at_ r; rw [hs, at_app]; exact List.mem_append_right _ (mids_sub u hu)))
          have hw2 : wt (x :: r) = wt (x :: s1) + wt s2 := by rw [hs, ← List.cons_append, wt_append]
          obtain ⟨r1, r2⟩ := (tighter_spec (mg m x.a.toNat j) (tover (mg m x.a.toNat K) (mg m K j))).2.1 (by simp [tover, q1, q3])
          refine ⟨r1, ?_⟩
          simp only [tover] at r2 ⊢
          omega
    · obtain ⟨q1, q2⟩ := h.low i j e hi he (fun u hu => by
        have h1 := hm u hu
        have h2 : u ≠ K := fun e' => hin (e' ▸ hu)
        omega)
      obtain ⟨r1, r2⟩ := (tighter_spec (mg m i j) (tover (mg m i K) (mg m K j))).1 q1
      exact ⟨r1, by omega⟩
theorem tK_spec {c : Core} {p : Nat → Int} (hv : validate c = 0) (hp : Pot c p) : ∀ K : Nat, K ≤ c.layers.toNat → TS c c.layers.toNat K (tK c K)
  | 0, _ => TS.base hv hp
  | K + 1, hK => TS.step (lay_of hv) hp (by omega) (tK_inv hv hp (k := K) (by omega)) (tK_spec hv hp K (by omega)) (by omega)
/-- The table, in words of paths. -/
theorem table_spec {c : Core} (hv : validate c = 0) (hc : clashes c = false) {i j : Nat} (hi : i < c.layers.toNat) (hj : j < c.layers.toNat) :
    ((mg (table c) i j).known = true → ∃ e, Path c i e j ∧ wt e = (mg (table c) i j).most) ∧ (∀ e, Path c i e j → (mg (table c) i j).known = true ∧ (mg (table c) i j).most ≤ wt e) := by
  have h := tK_spec hv (pot_of hv hc) c.layers.toNat (Nat.le_refl _)
  have hl := lay_of hv
  exact ⟨h.real i j hi hj, fun e he => h.low i j e hi he (fun u hu => he.at_lt hl u (mids_sub u hu))⟩
theorem table_wN {c : Core} (hv : validate c = 0) (hc : clashes c = false) {i j : Nat} (hi : i < c.layers.toNat) (hj : j < c.layers.toNat) :
    (mg (table c) i j).known = kn (wN c i c.layers.toNat) j ∧ ((mg (table c) i j).known = true → (mg (table c) i j).most = sm (wN c i c.layers.toNat) j) := by
  have hl := lay_of hv
  have hn := noNeg_of hl (by rw [← clash_iff hv]; exact hc)
  obtain ⟨t1, t2⟩ := table_spec hv hc hi hj
  obtain ⟨w1, w2⟩ := wN_spec hl hi c.layers.toNat j
  have fwd : (mg (table c) i j).known = true → kn (wN c i c.layers.toNat) j = true ∧ sm (wN c i c.layers.toNat) j ≤ (mg (table c) i j).most := fun hk => by
    obtain ⟨e, he, hw⟩ := t1 hk
    obtain ⟨e', p1, p2, p3⟩ := Path.short hl hn hi _ e (Nat.le_refl _) he
    obtain ⟨q1, q2⟩ := w2 e' p1 (by omega)
    exact ⟨q1, by omega⟩
  have bwd : kn (wN c i c.layers.toNat) j = true → (mg (table c) i j).known = true ∧ (mg (table c) i j).most ≤ sm (wN c i c.layers.toNat) j := fun hk => by
    obtain ⟨e, he, _, hw⟩ := w1 hk
    obtain ⟨q1, q2⟩ := t2 e he
    exact ⟨q1, by omega⟩
  refine ⟨?_, fun hk => ?_⟩
  · cases h1 : (mg (table c) i j).known
    · cases h2 : kn (wN c i c.layers.toNat) j
      · rfl
      · have := (bwd h2).1; rw [h1] at this; cases this
    · exact (fwd h1).1.symm
  · have h1 := fwd hk
    have h2 := bwd h1.1
    omega
end Go.Core
