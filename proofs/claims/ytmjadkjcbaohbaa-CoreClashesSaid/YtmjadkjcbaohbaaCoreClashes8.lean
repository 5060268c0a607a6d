/- Lemmas and walks that the proof of this claim uses: D3p6. -/
import Derived.Test.YtmjadkjcbaohbaaCoreClashes7
set_option linter.unusedVariables false
set_option linter.unusedSimpArgs false
namespace Go.D3
open Go.Tb Go.Core

/-- Back along the bounds by which layers were lowered. -/
def back (c : Core) (by_ : List Int) (s : Int) : Nat → Int
  | 0 => s
  | i + 1 => (bAt c (gi by_ (back c by_ s i))).a
theorem back_add (c : Core) (b : List Int) (s : Int) (i : Nat) : ∀ j, back c b s (i + j) = back c b (back c b s i) j
  | 0 => rfl
  | j + 1 => by rw [← Nat.add_assoc]; simp only [back, back_add c b s i j]
structure On (c : Core) (s : RS) (lev : Nat → Nat) (v : Int) (m : Nat) : Prop where
  lo : 0 ≤ v
  hi : v < c.layers
  lev : m ≤ lev v.toNat
theorem On.next {c : Core} (hv : validate c = 0) {r j : Nat} {s : RS} {lev : Nat → Nat} (h : PI c r j s lev) {v : Int} {m : Nat} (o : On c s lev v (m + 1)) :
    ∃ (k : Nat) (x : Bound), c.bounds[k]? = some x ∧ x.b = v ∧ s.2.1[v.toNat]? = some (k : Int) ∧ gi s.2.1 v = k ∧ bAt c (gi s.2.1 v) = x ∧ PE c s x ∧ On c s lev x.a m := by
  have h1 := o.lev
  have h2 := o.lo
  have h3 := o.hi
  obtain ⟨k, x, hk, hb, hs, _, hl⟩ := h.par v.toNat (by omega) (by omega)
  have hbo := bound_ok hv hk
  have hg : gi s.2.1 v = k := gi_of hs
  refine ⟨k, x, hk, by omega, hs, hg, ?_, ⟨k, hk, by rw [hb]; exact hs⟩, hbo.1, hbo.2.1, by omega⟩
  rw [hg]; exact bAt_of (by simpa using hk)
theorem back_on {c : Core} (hv : validate c = 0) {r j : Nat} {s : RS} {lev : Nat → Nat} (h : PI c r j s lev) {v : Int} {n : Nat} (o : On c s lev v n) : ∀ i, i ≤ n → On c s lev (back c s.2.1 v i) (n - i)
  | 0, _ => o
  | i + 1, hi => by
    have ih := back_on hv h o i (by omega)
    have e : n - i = (n - (i + 1)) + 1 := by omega
    rw [e] at ih
    obtain ⟨k, x, _, _, _, _, hb, _, ho⟩ := ih.next hv h
    show On c s lev (bAt c (gi s.2.1 (back c s.2.1 v i))).a _
    rw [hb]; exact ho
/-- Somewhere the way back goes round. -/
theorem pigeon (f : Nat → Nat) (n : Nat) (hf : ∀ i, i ≤ n → f i < n) : ∃ i j, i < j ∧ j ≤ n ∧ f i = f j := by
  by_cases h : ((List.range (n + 1)).map f).Nodup
  · have := nodup_len n _ h (by intro x hx; obtain ⟨i, hi, rfl⟩ := List.mem_map.1 hx; exact hf i (by have := List.mem_range.1 hi; omega))
    simp at this
    exact absurd this (by omega)
  · rw [List.nodup_iff_pairwise_ne, List.pairwise_iff_getElem] at h
    simp only [List.length_map, List.length_range, List.getElem_map, List.getElem_range] at h
    obtain ⟨i, h⟩ := Classical.not_forall.1 h
    obtain ⟨j, h⟩ := Classical.not_forall.1 h
    obtain ⟨hi, h⟩ := Classical.not_forall.1 h
    obtain ⟨hj, h⟩ := Classical.not_forall.1 h
    obtain ⟨hij, h⟩ := Classical.not_forall.1 h
    exact ⟨i, j, hij, by omega, Classical.not_not.1 h⟩
theorem least {p : Nat → Prop} : ∀ n, p n → ∃ m, p m ∧ m ≤ n ∧ ∀ k, k < m → ¬ p k := by
  intro n
  induction n using Nat.strongRecOn with
  | _ n ih =>
    intro hn
    by_cases h : ∃ k, k < n ∧ p k
    · obtain ⟨k, hk, hpk⟩ := h
      obtain ⟨m, h1, h2, h3⟩ := ih k hk hpk
      exact ⟨m, h1, by omega, h3⟩
    · exact ⟨n, hn, Nat.le_refl _, fun k hk hpk => h ⟨k, hk, hpk⟩⟩
/-- The round: begin, and how long it is. -/
theorem round_of {c : Core} (hv : validate c = 0) {s : RS} {lev : Nat → Nat} {j : Nat} (h : PI c c.layers.toNat j s lev) (hl : 0 ≤ s.2.2) :
    (∀ i, i < c.layers.toNat → ∃ (k : Nat) (x : Bound), c.bounds[k]? = some x ∧ x.b = back c s.2.1 s.2.2 i ∧ s.2.1[(back c s.2.1 s.2.2 i).toNat]? = some (k : Int) ∧ 0 ≤ back c s.2.1 s.2.2 i ∧ x.a = back c s.2.1 s.2.2 (i + 1)) ∧
    ∃ q, 1 ≤ q ∧ q ≤ c.layers.toNat ∧ back c s.2.1 s.2.2 (c.layers.toNat + q) = back c s.2.1 s.2.2 c.layers.toNat ∧ (∀ t, 1 ≤ t → t < q → back c s.2.1 s.2.2 (c.layers.toNat + t) ≠ back c s.2.1 s.2.2 c.layers.toNat) ∧
      ∀ t, ∃ (k : Nat) (x : Bound), c.bounds[k]? = some x ∧ x.b = back c s.2.1 s.2.2 (c.layers.toNat + t) ∧ s.2.1[(back c s.2.1 s.2.2 (c.layers.toNat + t)).toNat]? = some (k : Int) ∧ 0 ≤ back c s.2.1 s.2.2 (c.layers.toNat + t) ∧ x.a = back c s.2.1 s.2.2 (c.layers.toNat + (t + 1)) ∧ PE c s x := by
  have hvo := validate_ok hv
  obtain ⟨hll, hlh⟩ : lev s.2.2.toNat = c.layers.toNat ∧ s.2.2 < c.layers := by
    rcases h.last with h' | h'
    · omega
    · exact h'
  have o : On c s lev s.2.2 c.layers.toNat := ⟨hl, hlh, by omega⟩
  have hon := back_on hv h o
  generalize hN : c.layers.toNat = N at *
  have good : ∀ i, i < N → ∃ (k : Nat) (x : Bound), c.bounds[k]? = some x ∧ x.b = back c s.2.1 s.2.2 i ∧ s.2.1[(back c s.2.1 s.2.2 i).toNat]? = some (k : Int) ∧ 0 ≤ back c s.2.1 s.2.2 i ∧ x.a = back c s.2.1 s.2.2 (i + 1) ∧ PE c s x := by
    intro i hi
    have o1 := hon i (by omega)
    rw [show N - i = (N - i - 1) + 1 by omega] at o1
    obtain ⟨k, x, h1, h2, h3, h4, h5, h6, _⟩ := o1.next hv h
    exact ⟨k, x, h1, h2, h3, o1.lo, by show x.a = (bAt c (gi s.2.1 (back c s.2.1 s.2.2 i))).a; rw [h5], h6⟩
  obtain ⟨i, j', hij, hj, heq⟩ := pigeon (fun i => (back c s.2.1 s.2.2 i).toNat) N (fun i hi => by have := (hon i hi).lo; have := (hon i hi).hi; omega)
  have heq' : back c s.2.1 s.2.2 i = back c s.2.1 s.2.2 j' := by
    have h1 := (hon i (by omega)).lo
    have h2 := (hon j' hj).lo
    have : (back c s.2.1 s.2.2 i).toNat = (back c s.2.1 s.2.2 j').toNat := heq
    omega
  have per : ∀ m, i ≤ m → back c s.2.1 s.2.2 (m + (j' - i)) = back c s.2.1 s.2.2 m := by
    intro m hm
    rw [show m + (j' - i) = j' + (m - i) by omega, back_add, ← heq', ← back_add, show i + (m - i) = m by omega]
  have all : ∀ m, ∃ (k : Nat) (x : Bound), c.bounds[k]? = some x ∧ x.b = back c s.2.1 s.2.2 m ∧ s.2.1[(back c s.2.1 s.2.2 m).toNat]? = some (k : Int) ∧ 0 ≤ back c s.2.1 s.2.2 m ∧ x.a = back c s.2.1 s.2.2 (m + 1) ∧ PE c s x := by
    intro m
    induction m using Nat.strongRecOn with
    | _ m ih =>
      by_cases hm : m < N
      · exact good m hm
      · obtain ⟨k, x, h1, h2, h3, h4, h5, h6⟩ := ih (m - (j' - i)) (by omega)
        have e1 := per (m - (j' - i)) (by omega)
        have e2 := per (m - (j' - i) + 1) (by omega)
        rw [show m - (j' - i) + (j' - i) = m by omega] at e1
        rw [show m - (j' - i) + 1 + (j' - i) = m + 1 by omega] at e2
        rw [← e1] at h2 h3 h4
        rw [← e2] at h5
        exact ⟨k, x, h1, h2, h3, h4, h5, h6⟩
  refine ⟨fun i hi => ?_, ?_⟩
  · obtain ⟨k, x, h1, h2, h3, h4, h5, _⟩ := good i hi
    exact ⟨k, x, h1, h2, h3, h4, h5⟩
  · obtain ⟨q, ⟨hq1, hq2⟩, hq3, hq4⟩ := least (p := fun q => 1 ≤ q ∧ back c s.2.1 s.2.2 (N + q) = back c s.2.1 s.2.2 N) (j' - i) ⟨by omega, per N (by omega)⟩
    exact ⟨q, hq1, by omega, hq2, fun t ht1 ht2 hc => hq4 t ht2 ⟨ht1, hc⟩, fun t => all (N + t)⟩

/-! ### turning a list round -/
theorem Reverse_eq (l : List Int) (hl : l.length ≤ 1000000) : slices_Reverse_int l = some l.reverse := by
  unfold slices_Reverse_int
  rw [gd_pos (by omega)]
  -- after i rounds the first i and the last i have changed places
  have key : ∀ (d n i : Nat) (m : List Int), l.length ≤ 2 * i + d → d < n → m.length = l.length → (∀ j, j < l.length → m[j]? = if j < i ∨ l.length ≤ j + i then l.reverse[j]? else l[j]?) → i ≤ l.length →
      slices_Reverse_int_L1 n (i : Int) ((l.length : Int) - 1 - i) m = some l.reverse := by
    intro d
    induction d with
    | zero =>
      intro n i m hd hn hm hj hi
      obtain ⟨n, rfl⟩ : ∃ k, n = k + 1 := ⟨n - 1, by omega⟩
      show slices_Reverse_int_B1 (slices_Reverse_int_L1 n) _ _ _ = _
      unfold slices_Reverse_int_B1
      rw [if_neg (by omega)]
      congr 1
      apply List.ext_getElem?
      intro j
      by_cases hjl : j < l.length
      · rw [hj j hjl, if_pos (by omega)]
      · rw [List.getElem?_eq_none (by omega), List.getElem?_eq_none (by simp; omega)]
    | succ d ih =>
      intro n i m hd hn hm hj hi
      obtain ⟨n, rfl⟩ : ∃ k, n = k + 1 := ⟨n - 1, by omega⟩
      show slices_Reverse_int_B1 (slices_Reverse_int_L1 n) _ _ _ = _
      unfold slices_Reverse_int_B1
      by_cases hlt : (i : Int) < (l.length : Int) - 1 - i
      · have hi2 : i < l.length := by omega
        have hk2 : l.length - 1 - i < l.length := by omega
        have e1 : ((l.length : Int) - 1 - i).toNat = l.length - 1 - i := by omega
        have a1 : m[l.length - 1 - i]? = some l[l.length - 1 - i] := by rw [hj _ hk2, if_neg (by omega)]; simp [hk2]
        have a2 : m[i]? = some l[i] := by rw [hj _ hi2, if_neg (by omega)]; simp [hi2]
        rw [if_pos hlt, ix_eq (by omega) (by rw [e1]; exact a1), ix_nat a2, ix_nat a2, ix_eq (x := l[l.length - 1 - i]) (by omega) (by rw [e1, Int.toNat_natCast, List.getElem?_set_ne (by omega)]; exact a1), gd_pos (by omega), gd_pos (by omega), e1, Int.toNat_natCast]
        have := ih n (i + 1) ((m.set i l[l.length - 1 - i]).set (l.length - 1 - i) l[i]) (by omega) (by omega) (by simp [hm]) (fun j hjl => ?_) (by omega)
        · rw [show (l.length : Int) - 1 - i - 1 = (l.length : Int) - 1 - ((i + 1 : Nat) : Int) by omega]
          exact this
        · by_cases hj1 : j = l.length - 1 - i
          · subst hj1
            rw [List.getElem?_set_self (by simp [hm]; omega), if_pos (by omega)]
            rw [List.getElem?_reverse (by omega)]
            rw [show l.length - 1 - (l.length - 1 - i) = i by omega]; simp [hi2]
          · rw [List.getElem?_set_ne (Ne.symm hj1)]
            by_cases hj2 : j = i
            · subst hj2
              rw [List.getElem?_set_self (by omega), if_pos (by omega), List.getElem?_reverse (by omega)]; simp [hk2]
            · rw [List.getElem?_set_ne (Ne.symm hj2), hj j hjl]
              by_cases hc : j < i ∨ l.length ≤ j + i
              · rw [if_pos hc, if_pos (by omega)]
              · rw [if_neg hc, if_neg (by omega)]
      · rw [if_neg hlt]
        congr 1
        apply List.ext_getElem?
        intro j
        by_cases hjl : j < l.length
        · rw [hj j hjl]
          by_cases hc : j < i ∨ l.length ≤ j + i
          · rw [if_pos hc]
          · rw [if_neg hc, List.getElem?_reverse hjl]
            rw [show l.length - 1 - j = j by omega]
        · rw [List.getElem?_eq_none (by omega), List.getElem?_eq_none (by simp; omega)]
  have := key l.length FU 0 l (by omega) (by have := FU_pos; omega) rfl (fun j hj => by rw [if_neg (by omega)]) (by omega)
  simpa using this

/-! ### the round that is returned -/
def outs (c : Core) (s : RS) (t : Nat) : List Int := (List.range t).map fun i => gi s.2.1 (back c s.2.1 s.2.2 (c.layers.toNat + i))
theorem outs_succ (c : Core) (s : RS) (t : Nat) : outs c s (t + 1) = outs c s t ++ [gi s.2.1 (back c s.2.1 s.2.2 (c.layers.toNat + t))] := by
  unfold outs; rw [List.range_succ, List.map_append]; rfl
theorem outs_len (c : Core) (s : RS) (t : Nat) : (outs c s t).length = t := by simp [outs]
theorem outs_at (c : Core) (s : RS) {t i : Nat} (h : i < t) : (outs c s t)[i]? = some (gi s.2.1 (back c s.2.1 s.2.2 (c.layers.toNat + i))) := by
  unfold outs; simp [h]
theorem msum_wt (c : Core) (l : List Int) : ∀ i, i ≤ l.length → msum c l i = wt ((l.take i).map (bAt c))
  | 0, _ => by simp [msum, wt]
  | i + 1, hi => by
    obtain ⟨k, hk⟩ := ex_at (l := l) (j := i) (by omega)
    rw [take_succ_at hk, List.map_append, wt_append, ← msum_wt c l i (by omega)]
    have e : l.getD i 0 = k := by simp [List.getD, hk]
    simp only [msum, e, List.map_cons, List.map_nil, wt]; omega
theorem Clash_eq (c : Core) (hc : c.bounds.length ≤ 100) : ∃ l, core_Clash c = some (if validate c = 0 then (if clashes c = true then (l, true, 0) else ([], false, 0)) else ([], false, validate c)) ∧ (validate c = 0 → clashes c = true → checkClash c l = 0) ∧ l.length ≤ 8 := by
  unfold core_Clash
  rw [bnd_eq (Validate_eq c hc)]
  by_cases hv' : ¬ validate c = 0
  · exact ⟨[], by rw [if_neg hv', if_neg hv'], fun h => absurd h hv', by simp⟩
  have hv := Classical.not_not.1 hv'
  rw [if_pos hv]
  simp only [if_pos hv]
  rw [bnd_eq (relax_eq hv)]
  have hvo := validate_ok hv
  cases hcl : clashes c
  · refine ⟨[], ?_, fun _ h => by simp at h, by simp⟩
    unfold clashes at hcl
    have : (relax c).2.2 < 0 := by simpa using hcl
    rw [if_pos this]; simp
  have hl : 0 ≤ (relax c).2.2 := by unfold clashes at hcl; simpa using hcl
  obtain ⟨lev, hPI⟩ := PI.rounds hv c.layers.toNat
  have hPI' : PI c c.layers.toNat c.bounds.length (relax c) lev := hPI
  obtain ⟨g1, q, hq1, hq2, hq3, hq4, g2⟩ := round_of hv hPI' hl
  generalize hS : relax c = s at *
  have hgi : ∀ t, ∃ k : Nat, ∃ x, c.bounds[k]? = some x ∧ gi s.2.1 (back c s.2.1 s.2.2 (c.layers.toNat + t)) = k ∧ x.b = back c s.2.1 s.2.2 (c.layers.toNat + t) ∧ x.a = back c s.2.1 s.2.2 (c.layers.toNat + (t + 1)) ∧ PE c s x ∧ bAt c (gi s.2.1 (back c s.2.1 s.2.2 (c.layers.toNat + t))) = x := by
    intro t
    obtain ⟨k, x, h1, h2, h3, h4, h5, h6⟩ := g2 t
    have e : gi s.2.1 (back c s.2.1 s.2.2 (c.layers.toNat + t)) = k := gi_of h3
    exact ⟨k, x, h1, e, h2, h5, h6, by rw [e]; exact bAt_of (by simpa using h1)⟩
  refine ⟨(outs c s q).reverse, ?_, fun _ _ => ?_, by rw [List.length_reverse, outs_len]; omega⟩
  · rw [if_neg (by omega)]
    simp only [if_true]
    refine for_loop0 c.layers.toNat (fun i => back c s.2.1 s.2.2 i) (fun n b i => core_Clash_L2 c s n b i) _ (fun n i hi => ?_) (fun n => ?_) (by omega)
    · obtain ⟨k, x, h1, h2, h3, h4, h5⟩ := g1 i hi
      show core_Clash_B2 c s (core_Clash_L2 c s n) _ _ = _
      unfold core_Clash_B2
      rw [if_pos (by omega), ix_eq h4 h3, ix_eq (by omega) (by simpa using h1), gd_pos (by omega), h5]
      rfl
    · show core_Clash_B2 c s (core_Clash_L2 c s n) _ _ = _
      unfold core_Clash_B2
      rw [if_neg (by omega)]
      unfold core_Clash_k3
      refine for_loop0 q (fun t => (back c s.2.1 s.2.2 (c.layers.toNat + t), outs c s t)) (fun n p _ => core_Clash_L1 c s (back c s.2.1 s.2.2 c.layers.toNat) n p.1 p.2) _ (fun n t ht => ?_) (fun n => ?_) (by omega)
      · obtain ⟨k, x, h1, h2, h3, h4, h5, h6⟩ := g2 t
        have e : gi s.2.1 (back c s.2.1 s.2.2 (c.layers.toNat + t)) = k := gi_of h3
        have go : core_Clash_k2 c s (back c s.2.1 s.2.2 (c.layers.toNat + t)) (outs c s t) (core_Clash_L1 c s (back c s.2.1 s.2.2 c.layers.toNat) n) true = core_Clash_L1 c s (back c s.2.1 s.2.2 c.layers.toNat) n (back c s.2.1 s.2.2 (c.layers.toNat + (t + 1))) (outs c s (t + 1)) := by
          unfold core_Clash_k2
          rw [if_pos rfl, ix_eq h4 h3, gd_pos (by rw [outs_len]; simp; omega), ix_eq h4 h3, ix_eq (by omega) (by simpa using h1), h5, outs_succ, e]
        show core_Clash_B1 c s (back c s.2.1 s.2.2 c.layers.toNat) (core_Clash_L1 c s (back c s.2.1 s.2.2 c.layers.toNat) n) _ _ = _
        unfold core_Clash_B1
        simp only [outs_len]
        by_cases h0 : (t : Int) = 0
        · rw [if_pos h0]; exact go
        · rw [if_neg h0]
          have := hq4 t (by omega) ht
          have e2 : (!decide (back c s.2.1 s.2.2 (c.layers.toNat + t) = back c s.2.1 s.2.2 c.layers.toNat)) = true := by simp [this]
          rw [e2]; exact go
      · show core_Clash_B1 c s (back c s.2.1 s.2.2 c.layers.toNat) (core_Clash_L1 c s (back c s.2.1 s.2.2 c.layers.toNat) n) _ _ = _
        unfold core_Clash_B1
        simp only [outs_len]
        rw [if_neg (by omega), hq3]
        have e2 : (!decide (back c s.2.1 s.2.2 c.layers.toNat = back c s.2.1 s.2.2 c.layers.toNat)) = false := by simp
        rw [e2]
        unfold core_Clash_k2 core_Clash_k1
        rw [if_neg (by simp), bnd_eq (Reverse_eq _ (by rw [outs_len]; omega))]
  · -- the round proves a clash
    have hlen : ((outs c s q).reverse).length = q := by rw [List.length_reverse, outs_len]
    have hat : ∀ i, i < q → ((outs c s q).reverse)[i]? = some (gi s.2.1 (back c s.2.1 s.2.2 (c.layers.toNat + (q - 1 - i)))) := by
      intro i hi
      rw [List.getElem?_reverse (by rw [outs_len]; exact hi), outs_len, outs_at c s (by omega)]
    unfold checkClash
    rw [if_pos hv, if_neg (by rw [hlen]; omega), if_pos, if_pos, if_neg]
    · -- the sum
      rw [msum_wt c _ _ (Nat.le_refl _), List.take_length]
      have path : ∀ t, Path c (back c s.2.1 s.2.2 (c.layers.toNat + t)).toNat (((outs c s t).reverse).map (bAt c)) (back c s.2.1 s.2.2 c.layers.toNat).toNat := by
        intro t
        induction t with
        | zero => simp [outs]; exact .nil _
        | succ t ih =>
          obtain ⟨k, x, h1, h2, h3, h4, h5, h6⟩ := hgi t
          rw [outs_succ, List.reverse_append]
          simp only [List.reverse_cons, List.reverse_nil, List.nil_append, List.singleton_append, List.map_cons, h6]
          rw [← h4]
          refine .cons (List.mem_of_getElem? h1) ?_
          rw [h3]; exact ih
      have hp := path q
      rw [hq3] at hp
      have := hPI'.cyc _ _ hp (by
        intro h0
        have := congrArg List.length h0
        simp [outs_len] at this
        omega) (fun x hx => by
        obtain ⟨k, hk, rfl⟩ := List.mem_map.1 hx
        obtain ⟨i, hi, rfl⟩ := List.mem_map.1 (List.mem_reverse.1 hk)
        obtain ⟨k', x', h1, h2, h3, h4, h5, h6⟩ := hgi i
        rw [h6]; exact h5)
      omega
    · -- links
      intro i hi
      rw [hlen] at hi
      unfold link nx
      rw [hlen]
      have e1 : ((outs c s q).reverse).getD i 0 = gi s.2.1 (back c s.2.1 s.2.2 (c.layers.toNat + (q - 1 - i))) := by simp only [List.getD, hat i hi]; rfl
      obtain ⟨k, x, h1, h2, h3, h4, h5, h6⟩ := hgi (q - 1 - i)
      rw [e1, h6, h3]
      by_cases hw : i + 1 = q
      · have e0 : (i + 1) % q = 0 := by rw [hw]; exact Nat.mod_self q
        have e2 : ((outs c s q).reverse).getD ((i + 1) % q) 0 = gi s.2.1 (back c s.2.1 s.2.2 (c.layers.toNat + (q - 1))) := by rw [e0]; simp only [List.getD, hat 0 (by omega)]; rfl
        obtain ⟨k', x', h1', h2', h3', h4', h5', h6'⟩ := hgi (q - 1)
        rw [e2, h6', h4', show q - 1 + 1 = q by omega, hq3, show q - 1 - i = 0 by omega]
        simp
      · have e0 : (i + 1) % q = i + 1 := Nat.mod_eq_of_lt (by omega)
        have e2 : ((outs c s q).reverse).getD ((i + 1) % q) 0 = gi s.2.1 (back c s.2.1 s.2.2 (c.layers.toNat + (q - 1 - (i + 1)))) := by rw [e0]; simp only [List.getD, hat (i + 1) (by omega)]; rfl
        obtain ⟨k', x', h1', h2', h3', h4', h5', h6'⟩ := hgi (q - 1 - (i + 1))
        rw [e2, h6', h4', show q - 1 - (i + 1) + 1 = q - 1 - i by omega]
        simp
    · refine List.all_eq_true.2 fun k hk => ?_
      obtain ⟨i, hi, rfl⟩ := List.mem_map.1 (List.mem_reverse.1 hk)
      obtain ⟨k', x', h1, h2, _⟩ := hgi i
      have := lt_of_at h1
      rw [h2, Core.within_iff]
      omega
theorem law_CoreClashes (c : Core) (l : List Int) : law03_CoreClashes c l = some true := by
  unfold law03_CoreClashes
  rw [bnd_eq (Long_eq c)]
  have hk : law03_CoreClashes_k2 c l true = some true := by unfold law03_CoreClashes_k2; rw [if_pos rfl, bnd_eq known_eq]
  by_cases h1 : (100 : Int) < c.bounds.length
  · simp only [h1, decide_true, if_true]; exact hk
  simp only [h1, decide_false, Bool.false_eq_true, if_false]
  by_cases h2 : (100 : Int) < l.length
  · simp only [h2, decide_true]; exact hk
  simp only [h2, decide_false]
  have hc : c.bounds.length ≤ 100 := by omega
  unfold law03_CoreClashes_k2
  obtain ⟨r, hr, hchk, hlen⟩ := Clash_eq c hc
  rw [if_neg (by simp), bnd_eq (CheckClash_eq c l hc (by omega)), bnd_eq (rCheckClash_eq c l hc (by omega)), if_pos rfl, bnd_eq hr, bnd_eq (rIsPossible_eq c hc)]
  by_cases hv : validate c = 0
  · simp only [hv, if_true]
    cases hcl : clashes c
    · simp only [Bool.false_eq_true, if_false, if_true, Bool.not_false]
      unfold law03_CoreClashes_k1
      rw [if_neg (by simp), if_neg (by simp), if_neg (by simp), if_pos (by simp), bnd_eq known_eq]
    · simp only [if_true, Bool.not_true]
      unfold law03_CoreClashes_k1
      rw [if_neg (by simp), if_neg (by simp), if_pos rfl, bnd_eq (rCheckClash_eq c r hc (by omega)), hchk hv hcl, if_pos rfl, bnd_eq known_eq]
  · simp only [hv, if_false, if_true]
    unfold law03_CoreClashes_k1
    rw [if_neg (by simp), if_neg (by simp), if_pos (by simp), bnd_eq known_eq]
theorem law_CoreEither (c : Core) : law03_CoreEither c = some true := by
  unfold law03_CoreEither
  rw [bnd_eq (Long_eq c)]
  by_cases h1 : (100 : Int) < c.bounds.length
  · simp only [h1, decide_true, if_true]; rw [bnd_eq known_eq]
  simp only [h1, decide_false, Bool.false_eq_true, if_false]
  have hc : c.bounds.length ≤ 100 := by omega
  obtain ⟨r, hr, hchk, hlen⟩ := Clash_eq c hc
  rw [bnd_eq (Dates_eq c hc), bnd_eq hr]
  by_cases hv : validate c = 0
  · simp only [hv, if_true]
    cases hcl : clashes c
    · simp only [Bool.false_eq_true, if_false, if_true]
      rw [if_neg (by simp), bnd_eq (CheckDates_eq c (relax c).1 hc (by have := validate_ok hv; have e : (relax c).1.length = c.layers.toNat := (relaxN_inv hv c.layers.toNat).l1; omega)), dates_keep hv hcl, if_pos rfl, bnd_eq known_eq]
    · simp only [if_true]
      rw [if_neg (by simp), if_neg (by simp), bnd_eq (CheckClash_eq c r hc (by omega)), hchk hv hcl, if_pos rfl, bnd_eq known_eq]
  · simp only [hv, if_false, if_true]
    rw [bnd_eq known_eq]
end Go.D3

