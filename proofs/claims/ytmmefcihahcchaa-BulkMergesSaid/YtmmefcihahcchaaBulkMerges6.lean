/- Lemmas and walks that the proof of this claim uses: D7p3, D7p4, D7p5, D7q1, D7q2, D7q3, D7q4, D7q5, D7q6, D7q7, D7q8. -/
import Derived.Test.YtmmefcihahcchaaBulkMerges5
set_option linter.unusedVariables false
set_option linter.unusedSimpArgs false
namespace Go.D7
open Go.Tb
def tg {α : Type} (m : Nat) (f : Nat → α) : List α := (List.range m).map f
section
variable {α : Type}
theorem tg_len (m : Nat) (f : Nat → α) : (tg m f).length = m := by unfold tg; simp
theorem tg_at {m : Nat} {f : Nat → α} {k : Nat} (h : k < m) : (tg m f)[k]? = some (f k) := by unfold tg; simp [h]
theorem tg_congr {m : Nat} {f g : Nat → α} (h : ∀ k, k < m → f k = g k) : tg m f = tg m g := by
  unfold tg
  apply List.map_congr_left
  intro k hk
  exact h k (List.mem_range.1 hk)
theorem tg_set {m : Nat} {f : Nat → α} {k : Nat} (v : α) : (tg m f).set k v = tg m (fun j => if j = k then v else f j) := by
  apply List.ext_getElem?
  intro j
  rw [List.getElem?_set]
  unfold tg
  by_cases hj : j < m
  · by_cases hk : k = j
    · subst hk; simp [hj]
    · rw [if_neg hk]
      simp only [List.getElem?_map, List.getElem?_range hj, Option.map_some]
      rw [if_neg (fun e => hk e.symm)]
  · have h1 : (List.range m)[j]? = none := by rw [List.getElem?_eq_none]; simpa using hj
    simp only [List.getElem?_map, h1, Option.map_none]
    by_cases hk : k = j
    · subst hk; simp [hj]
    · rw [if_neg hk]
theorem tg_push (m : Nat) (f : Nat → α) : tg m f ++ [f m] = tg (m + 1) f := by
  unfold tg; rw [List.range_succ, List.map_append]; rfl
theorem rep_tg (m : Nat) (x : α) : List.replicate m x = tg m (fun _ => x) := by
  unfold tg
  induction m with
  | zero => rfl
  | succ m ih => rw [List.replicate_succ', ih, List.range_succ, List.map_append]; rfl
end
/-- A table by a function. -/
def tbl (n m : Nat) (f : Nat → Nat → Int) : List (List Int) := tg n (fun i => tb m (f i))
theorem tbl_len (n m : Nat) (f : Nat → Nat → Int) : (tbl n m f).length = n := tg_len _ _
theorem tbl_at {n m : Nat} {f : Nat → Nat → Int} {i : Nat} (h : i < n) : (tbl n m f)[i]? = some (tb m (f i)) := tg_at h
theorem tbl_gr {n m : Nat} {f : Nat → Nat → Int} {i : Nat} (h : i < n) : gr (tbl n m f) i = tb m (f i) := gr_of (tbl_at h)
theorem tbl_cell {n m : Nat} {f : Nat → Nat → Int} {i j : Nat} (h : i < n) (hj : j < m) : cell (tbl n m f) i j = f i j := by
  unfold cell; rw [tbl_gr h, tb_gi hj]
theorem tbl_congr {n m : Nat} {f g : Nat → Nat → Int} (h : ∀ i j, i < n → j < m → f i j = g i j) : tbl n m f = tbl n m g :=
  tg_congr fun i hi => tb_congr fun j hj => h i j hi hj
theorem tbl_set {n m : Nat} {f : Nat → Nat → Int} {i j : Nat} (h : i < n) (v : Int) : (tbl n m f).set i ((tb m (f i)).set j v) = tbl n m (fun p q => if p = i ∧ q = j then v else f p q) := by
  unfold tbl
  rw [tg_set, tb_set]
  refine tg_congr fun p hp => ?_
  by_cases e : p = i
  · subst e
    rw [if_pos rfl]
    refine tb_congr fun q hq => ?_
    show (if q = j then v else f p q) = (if p = p ∧ q = j then v else f p q)
    by_cases e2 : q = j
    · rw [if_pos e2, if_pos ⟨rfl, e2⟩]
    · rw [if_neg e2, if_neg (fun h => e2 h.2)]
  · rw [if_neg e]
    refine tb_congr fun q hq => ?_
    show f p q = (if p = i ∧ q = j then v else f p q)
    rw [if_neg (fun h => e h.1)]
theorem tbl_small {n m : Nat} (hn : n ≤ 50) (hm : m ≤ 50) (f : Nat → Nat → Int) : Lsmall (tbl n m f) := by
  refine ⟨by rw [tbl_len]; exact hn, fun r hr => ?_⟩
  unfold tbl tg at hr
  obtain ⟨i, _, rfl⟩ := List.mem_map.1 hr
  rw [tb_len]; exact hm
/-- A plan as a function. -/
structure PlanF (t : Trade) (f : Nat → Nat → Int) : Prop where
  nn : ∀ i j, 0 ≤ f i j
  row : ∀ i, i < t.supply.length → sumN t.demand.length (f i) = gi t.supply i
  col : ∀ j, j < t.demand.length → sumN t.supply.length (fun i => f i j) = gi t.demand j
def tab (t : Trade) (f : Nat → Nat → Int) : List (List Int) := tbl t.supply.length t.demand.length f
theorem sumN_mem {f : Nat → Int} : ∀ {n k : Nat}, (∀ i, i < n → 0 ≤ f i) → k < n → f k ≤ sumN n f
  | n + 1, k, h, hk => by
    simp only [sumN]
    have h0 := (sumN_bnd (M := 0) 0 (f := f) (by simp)).1
    by_cases e : k = n
    · subst e
      have : 0 ≤ sumN k f := by
        have := sumN_le (f := fun _ => 0) (g := f) k (fun i hi => h i (by omega))
        rw [sumN_zero] at this; exact this
      omega
    · have := sumN_mem (n := n) (fun i hi => h i (by omega)) (show k < n by omega)
      have := h n (by omega)
      omega
theorem sumN_nn {f : Nat → Int} {n : Nat} (h : ∀ i, i < n → 0 ≤ f i) : 0 ≤ sumN n f := by
  have := sumN_le (f := fun _ => 0) (g := f) n h
  rw [sumN_zero] at this; exact this
theorem supply_bnd {t : Trade} (h : okT t = true) {i : Nat} (hi : i < t.supply.length) : 0 ≤ gi t.supply i ∧ gi t.supply i ≤ 30 := (okT_spec h).1.2.2 _ (List.mem_of_getElem? (gi_at hi))
theorem demand_bnd {t : Trade} (h : okT t = true) {i : Nat} (hi : i < t.demand.length) : 0 ≤ gi t.demand i ∧ gi t.demand i ≤ 30 := (okT_spec h).2.1.2.2 _ (List.mem_of_getElem? (gi_at hi))
theorem plan_le {t : Trade} (h : okT t = true) {f : Nat → Nat → Int} (hp : PlanF t f) {i j : Nat} (hi : i < t.supply.length) (hj : j < t.demand.length) : f i j ≤ 30 := by
  have h1 := sumN_mem (f := f i) (fun q _ => hp.nn i q) hj
  rw [hp.row i hi] at h1
  have := supply_bnd h hi
  omega
theorem plan_check {t : Trade} (h : okT t = true) {f : Nat → Nat → Int} (hp : PlanF t f) : checkPlan t (tab t f) = 0 := by
  have hT : tabB t (tab t f) 120 = true := by
    unfold tabB
    rw [Bool.and_eq_true]
    refine ⟨decide_eq_true (tbl_len _ _ _), List.all_eq_true.2 fun r hr => ?_⟩
    unfold tab tbl tg at hr
    obtain ⟨i, hi, rfl⟩ := List.mem_map.1 hr
    rw [List.mem_range] at hi
    unfold rowB
    rw [tb_len, decide_eq_true rfl, Bool.true_and]
    refine List.all_eq_true.2 fun x hx => ?_
    unfold tb at hx
    obtain ⟨j, hj, rfl⟩ := List.mem_map.1 hx
    rw [List.mem_range] at hj
    have := plan_le h hp hi hj
    have := hp.nn i j
    rw [within_iff]; omega
  unfold checkPlan
  rw [if_pos h, if_pos hT, if_pos, if_pos]
  · conv => rhs; rw [← tb_self t.demand]
    refine tb_congr fun j hj => ?_
    unfold col
    have e : (tab t f).length = t.supply.length := tbl_len _ _ _
    rw [e, ← hp.col j hj]
    exact sumN_congr _ fun i hi => tbl_cell hi hj
  · intro i hi
    have e : (tab t f).length = t.supply.length := tbl_len _ _ _
    unfold rowsB
    rw [decide_eq_true_eq]
    unfold tab
    rw [tbl_gr (by omega), tot_sumN, tb_len, ← hp.row i (by omega)]
    exact sumN_congr _ fun j hj => tb_gi hj
structure Cor (t : Trade) (i j : Nat) (f : Nat → Nat → Int) (a b : Nat → Int) : Prop where
  nn : ∀ p q, 0 ≤ f p q
  fresh : ∀ p q, (i < p ∨ (p = i ∧ j ≤ q)) → f p q = 0
  an : ∀ p, 0 ≤ a p
  bn : ∀ q, 0 ≤ b q
  a0 : ∀ p, p < i → a p = 0
  b0 : ∀ q, q < j → b q = 0
  row : ∀ p, p < t.supply.length → sumN t.demand.length (f p) + a p = gi t.supply p
  col : ∀ q, q < t.demand.length → sumN t.supply.length (fun p => f p q) + b q = gi t.demand q
  ai : ∀ p, p < t.supply.length → a p ≤ 30
  bi : ∀ q, q < t.demand.length → b q ≤ 30
theorem sumN_upd {g : Nat → Int} {k : Nat} {v : Int} : ∀ n, sumN n (fun q => if q = k then v else g q) = sumN n g + (if k < n then v - g k else 0)
  | 0 => by simp [sumN]
  | n + 1 => by
    simp only [sumN, sumN_upd n]
    by_cases e : n = k
    · subst e; rw [if_neg (by omega), if_pos rfl, if_pos (by omega)]; omega
    · rw [if_neg e]
      by_cases h : k < n
      · rw [if_pos h, if_pos (by omega)]; omega
      · rw [if_neg h, if_neg (by omega)]; omega
theorem sumN_zero_of {f : Nat → Int} {n : Nat} (h : ∀ i, i < n → 0 ≤ f i) (h0 : sumN n f = 0) : ∀ i, i < n → f i = 0 := fun i hi => by
  have := sumN_mem h hi
  have := h i hi
  omega
theorem cor_done {t : Trade} (ht : okT t = true) {i j : Nat} {f : Nat → Nat → Int} {a b : Nat → Int} (h : Cor t i j f a b) (hij : t.supply.length ≤ i ∨ t.demand.length ≤ j) : PlanF t f := by
  have e1 := (okT_spec ht).2.2.1
  rw [tot_sumN, tot_sumN] at e1
  have s1 : sumN t.supply.length (fun p => sumN t.demand.length (f p)) + sumN t.supply.length a = sumN t.supply.length (gi t.supply) := by
    rw [← sumN_add]; exact sumN_congr _ fun p hp => h.row p hp
  have s2 : sumN t.demand.length (fun q => sumN t.supply.length (fun p => f p q)) + sumN t.demand.length b = sumN t.demand.length (gi t.demand) := by
    rw [← sumN_add]; exact sumN_congr _ fun p hp => h.col p hp
  have s3 : sumN t.supply.length (fun p => sumN t.demand.length (f p)) = sumN t.demand.length (fun q => sumN t.supply.length (fun p => f p q)) := sumN_swap f t.demand.length t.supply.length
  have hab : sumN t.supply.length a = 0 ∧ sumN t.demand.length b = 0 := by
    rcases hij with hi | hj
    · have : sumN t.supply.length a = 0 := by
        rw [sumN_congr (g := fun _ => 0) _ (fun p hp => h.a0 p (by omega)), sumN_zero]
      omega
    · have : sumN t.demand.length b = 0 := by
        rw [sumN_congr (g := fun _ => 0) _ (fun p hp => h.b0 p (by omega)), sumN_zero]
      omega
  refine ⟨h.nn, fun p hp => ?_, fun q hq => ?_⟩
  · have := sumN_zero_of (fun p _ => h.an p) hab.1 p hp
    have := h.row p hp
    omega
  · have := sumN_zero_of (fun p _ => h.bn p) hab.2 q hq
    have := h.col q hq
    omega
theorem cor_step {t : Trade} {i j : Nat} {f : Nat → Nat → Int} {a b : Nat → Int} (h : Cor t i j f a b) (hi : i < t.supply.length) (hj : j < t.demand.length) :
    let n := min (a i) (b j)
    (a i - n = 0 → Cor t (i + 1) j (fun p q => if p = i ∧ q = j then n else f p q) (fun p => if p = i then a i - n else a p) (fun q => if q = j then b j - n else b q)) ∧
    (a i - n ≠ 0 → Cor t i (j + 1) (fun p q => if p = i ∧ q = j then n else f p q) (fun p => if p = i then a i - n else a p) (fun q => if q = j then b j - n else b q)) := by
  intro n
  have hn : n ≤ a i ∧ n ≤ b j ∧ (n = a i ∨ n = b j) ∧ 0 ≤ n := by
    have := h.an i; have := h.bn j
    show min (a i) (b j) ≤ a i ∧ min (a i) (b j) ≤ b j ∧ (min (a i) (b j) = a i ∨ min (a i) (b j) = b j) ∧ 0 ≤ min (a i) (b j)
    omega
  have h0 := h.fresh i j (.inr ⟨rfl, Nat.le_refl _⟩)
  have nn' : ∀ p q, 0 ≤ (if p = i ∧ q = j then n else f p q) := fun p q => by
    split
    · exact hn.2.2.2
    · exact h.nn p q
  have an' : ∀ p, 0 ≤ (if p = i then a i - n else a p) := fun p => by
    split
    · omega
    · exact h.an p
  have bn' : ∀ q, 0 ≤ (if q = j then b j - n else b q) := fun q => by
    split
    · omega
    · exact h.bn q
  have row' : ∀ p, p < t.supply.length → sumN t.demand.length (fun q => if p = i ∧ q = j then n else f p q) + (if p = i then a i - n else a p) = gi t.supply p := fun p hp => by
    by_cases e : p = i
    · subst e
      have := sumN_upd (g := f p) (k := j) (v := n) t.demand.length
      rw [if_pos hj, h0] at this
      rw [if_pos rfl, ← h.row p hp]
      have e2 : sumN t.demand.length (fun q => if p = p ∧ q = j then n else f p q) = sumN t.demand.length (fun q => if q = j then n else f p q) := sumN_congr _ fun q _ => by simp
      rw [e2, this]; omega
    · rw [if_neg e, ← h.row p hp]
      congr 1
      exact sumN_congr _ fun q _ => by rw [if_neg (fun hc => e hc.1)]
  have col' : ∀ q, q < t.demand.length → sumN t.supply.length (fun p => if p = i ∧ q = j then n else f p q) + (if q = j then b j - n else b q) = gi t.demand q := fun q hq => by
    by_cases e : q = j
    · subst e
      have := sumN_upd (g := fun p => f p q) (k := i) (v := n) t.supply.length
      rw [if_pos hi, h0] at this
      rw [if_pos rfl, ← h.col q hq]
      have e2 : sumN t.supply.length (fun p => if p = i ∧ q = q then n else f p q) = sumN t.supply.length (fun p => if p = i then n else f p q) := sumN_congr _ fun p _ => by simp
      rw [e2, this]; omega
    · rw [if_neg e, ← h.col q hq]
      congr 1
      exact sumN_congr _ fun p _ => by rw [if_neg (fun hc => e hc.2)]
  have ai' : ∀ p, p < t.supply.length → (if p = i then a i - n else a p) ≤ 30 := fun p hp => by
    have := h.ai p hp; have := h.ai i hi
    split <;> omega
  have bi' : ∀ q, q < t.demand.length → (if q = j then b j - n else b q) ≤ 30 := fun q hq => by
    have := h.bi q hq; have := h.bi j hj
    split <;> omega
  constructor
  · intro hz
    refine ⟨nn', fun p q hpq => ?_, an', bn', fun p hp => ?_, fun q hq => ?_, row', col', ai', bi'⟩
    · rw [if_neg (by omega)]; exact h.fresh p q (by omega)
    · by_cases e : p = i
      · rw [if_pos e]; exact hz
      · rw [if_neg e]; exact h.a0 p (by omega)
    · rw [if_neg (by omega)]; exact h.b0 q hq
  · intro hz
    refine ⟨nn', fun p q hpq => ?_, an', bn', fun p hp => ?_, fun q hq => ?_, row', col', ai', bi'⟩
    · rw [if_neg (by omega)]; exact h.fresh p q (by omega)
    · rw [if_neg (by omega)]; exact h.a0 p hp
    · by_cases e : q = j
      · rw [if_pos e]; omega
      · rw [if_neg e]; exact h.b0 q (by omega)
theorem corner_loop {t : Trade} (ht : okT t = true) : ∀ (d i j k : Nat) (f : Nat → Nat → Int) (a b : Nat → Int), Cor t i j f a b → i ≤ t.supply.length → j ≤ t.demand.length → (t.supply.length - i) + (t.demand.length - j) ≤ d → d < k →
    ∃ g, PlanF t g ∧ bulk_corner_L1 k (i : Int) (j : Int) (tab t f) (tb t.supply.length a) (tb t.demand.length b) = some (tab t g) ∧ ref07_Corner_L1 k (i : Int) (j : Int) (tab t f) (tb t.supply.length a) (tb t.demand.length b) = some (tab t g, 0) := by
  have hs := (okT_spec ht).1.2.1
  have hd := (okT_spec ht).2.1.2.1
  intro d
  induction d with
  | zero =>
    intro i j k f a b h hi hj hdd hk
    obtain ⟨k, rfl⟩ : ∃ k', k = k' + 1 := ⟨k - 1, by omega⟩
    refine ⟨f, cor_done ht h (.inl (by omega)), ?_, ?_⟩
    · show bulk_corner_B1 (bulk_corner_L1 k) _ _ _ _ _ = _
      unfold bulk_corner_B1 bulk_corner_k2
      rw [if_neg (by rw [tb_len]; omega), if_neg (by simp)]; rfl
    · show ref07_Corner_B1 (ref07_Corner_L1 k) _ _ _ _ _ = _
      unfold ref07_Corner_B1 ref07_Corner_k2
      rw [if_neg (by rw [tb_len]; omega), if_neg (by simp)]; rfl
  | succ d ih =>
    intro i j k f a b h hi hj hdd hk
    obtain ⟨k, rfl⟩ : ∃ k', k = k' + 1 := ⟨k - 1, by omega⟩
    by_cases hi' : i < t.supply.length
    · by_cases hj' : j < t.demand.length
      · have hst := cor_step h hi' hj'
        have hai := h.ai i hi'
        have hbj := h.bi j hj'
        have han := h.an i
        have hbn := h.bn j
        have h0 := h.fresh i j (.inr ⟨rfl, Nat.le_refl _⟩)
        have x1 : (tb t.supply.length a)[i]? = some (a i) := tb_at hi'
        have x2 : (tb t.demand.length b)[j]? = some (b j) := tb_at hj'
        have x3 : (tab t f)[i]? = some (tb t.demand.length (f i)) := tbl_at hi'
        have x4 : (tb t.demand.length (f i))[j]? = some (f i j) := tb_at hj'
        have e1 : (tb t.supply.length a).set i (a i - min (a i) (b j)) = tb t.supply.length (fun p => if p = i then a i - min (a i) (b j) else a p) := tb_set _
        have e2 : (tb t.demand.length b).set j (b j - min (a i) (b j)) = tb t.demand.length (fun q => if q = j then b j - min (a i) (b j) else b q) := tb_set _
        have e3 : (tab t f).set i ((tb t.demand.length (f i)).set j (min (a i) (b j))) = tab t (fun p q => if p = i ∧ q = j then min (a i) (b j) else f p q) := tbl_set hi' _
        have x5 : (tb t.supply.length (fun p => if p = i then a i - min (a i) (b j) else a p))[i]? = some (a i - min (a i) (b j)) := by rw [tb_at hi', if_pos rfl]
        have nat1 : Int.toNat (i : Int) = i := rfl
        have nat2 : Int.toNat (j : Int) = j := rfl
        have P : bulk_corner_L1 (k + 1) (i : Int) (j : Int) (tab t f) (tb t.supply.length a) (tb t.demand.length b) =
            if a i - min (a i) (b j) = 0 then bulk_corner_L1 k ((i + 1 : Nat) : Int) (j : Int) (tab t (fun p q => if p = i ∧ q = j then min (a i) (b j) else f p q)) (tb t.supply.length (fun p => if p = i then a i - min (a i) (b j) else a p)) (tb t.demand.length (fun q => if q = j then b j - min (a i) (b j) else b q))
            else bulk_corner_L1 k (i : Int) ((j + 1 : Nat) : Int) (tab t (fun p q => if p = i ∧ q = j then min (a i) (b j) else f p q)) (tb t.supply.length (fun p => if p = i then a i - min (a i) (b j) else a p)) (tb t.demand.length (fun q => if q = j then b j - min (a i) (b j) else b q)) := by
          show bulk_corner_B1 (bulk_corner_L1 k) _ _ _ _ _ = _
          unfold bulk_corner_B1 bulk_corner_k2
          rw [if_pos (by rw [tb_len]; omega), if_pos (by rw [tb_len]; simp; omega), ix_nat x1, ix_nat x2, ix_nat x3, ix_nat x4, ix_nat x1, gd_pos (by omega), ix_nat x1, ix_nat x2, gd_pos (by omega), ix_nat x2, nat1, nat2, e1, e2, e3, ix_nat x5]
          by_cases hz : a i - min (a i) (b j) = 0
          · rw [if_pos hz, if_pos hz, gd_pos (by omega)]; rfl
          · rw [if_neg hz, if_neg hz, gd_pos (by omega)]; rfl
        have Q : ref07_Corner_L1 (k + 1) (i : Int) (j : Int) (tab t f) (tb t.supply.length a) (tb t.demand.length b) =
            if a i - min (a i) (b j) = 0 then ref07_Corner_L1 k ((i + 1 : Nat) : Int) (j : Int) (tab t (fun p q => if p = i ∧ q = j then min (a i) (b j) else f p q)) (tb t.supply.length (fun p => if p = i then a i - min (a i) (b j) else a p)) (tb t.demand.length (fun q => if q = j then b j - min (a i) (b j) else b q))
            else ref07_Corner_L1 k (i : Int) ((j + 1 : Nat) : Int) (tab t (fun p q => if p = i ∧ q = j then min (a i) (b j) else f p q)) (tb t.supply.length (fun p => if p = i then a i - min (a i) (b j) else a p)) (tb t.demand.length (fun q => if q = j then b j - min (a i) (b j) else b q)) := by
          show ref07_Corner_B1 (ref07_Corner_L1 k) _ _ _ _ _ = _
          unfold ref07_Corner_B1 ref07_Corner_k2
          rw [if_pos (by rw [tb_len]; omega), if_pos (by rw [tb_len]; simp; omega), ix_nat x1, ix_nat x2, ix_nat x3, ix_nat x4, gd_pos (by omega), ix_nat x4, ix_nat x1, gd_pos (by omega), ix_nat x1, ix_nat x2, gd_pos (by omega), ix_nat x2, nat1, nat2, h0, Int.zero_add, e1, e2, e3, ix_nat x5]
          by_cases hz : a i - min (a i) (b j) = 0
          · rw [if_pos hz, if_pos hz, gd_pos (by omega)]; rfl
          · rw [if_neg hz, if_neg hz, gd_pos (by omega)]; rfl
        rw [P, Q]
        by_cases hz : a i - min (a i) (b j) = 0
        · rw [if_pos hz, if_pos hz]
          exact ih (i + 1) j k _ _ _ (hst.1 hz) (by omega) hj (by omega) (by omega)
        · rw [if_neg hz, if_neg hz]
          exact ih i (j + 1) k _ _ _ (hst.2 hz) hi (by omega) (by omega) (by omega)
      · refine ⟨f, cor_done ht h (.inr (by omega)), ?_, ?_⟩
        · show bulk_corner_B1 (bulk_corner_L1 k) _ _ _ _ _ = _
          unfold bulk_corner_B1 bulk_corner_k2
          rw [if_pos (by rw [tb_len]; omega), if_neg (by rw [tb_len]; simp; omega)]; rfl
        · show ref07_Corner_B1 (ref07_Corner_L1 k) _ _ _ _ _ = _
          unfold ref07_Corner_B1 ref07_Corner_k2
          rw [if_pos (by rw [tb_len]; omega), if_neg (by rw [tb_len]; simp; omega)]; rfl
    · refine ⟨f, cor_done ht h (.inl (by omega)), ?_, ?_⟩
      · show bulk_corner_B1 (bulk_corner_L1 k) _ _ _ _ _ = _
        unfold bulk_corner_B1 bulk_corner_k2
        rw [if_neg (by rw [tb_len]; omega), if_neg (by simp)]; rfl
      · show ref07_Corner_B1 (ref07_Corner_L1 k) _ _ _ _ _ = _
        unfold ref07_Corner_B1 ref07_Corner_k2
        rw [if_neg (by rw [tb_len]; omega), if_neg (by simp)]; rfl
theorem empty_eq {t : Trade} (h1 : t.supply.length ≤ 50) (h2 : t.demand.length ≤ 50) : bulk_empty t = some (tab t (fun _ _ => 0)) := by
  unfold bulk_empty
  rw [gd_pos (by omega), show Int.toNat (t.supply.length : Int) = t.supply.length from rfl, rep_tg]
  refine for0 t.supply.length (fun i => tg t.supply.length (fun p => if p < i then tb t.demand.length (fun _ => 0) else [])) (fun k s i => bulk_empty_L1 t k i s) _ (tg_congr fun p hp => by simp) (fun k i hi => ?_) (fun k => ?_) (by omega)
  · show bulk_empty_B1 t (bulk_empty_L1 t k) _ _ = _
    unfold bulk_empty_B1
    have hx : (tg t.supply.length (fun p => if p < i then tb t.demand.length (fun _ => 0) else []))[i]? = some [] := by rw [tg_at hi]; simp
    rw [if_pos (by simp; omega), gd_pos (by omega), ix_nat hx, gd_pos (by omega), show Int.toNat (i : Int) = i from rfl, show Int.toNat (t.demand.length : Int) = t.demand.length from rfl, tg_set, rep_tb]
    refine congrArg (bulk_empty_L1 t k _) (tg_congr fun p hp => ?_)
    by_cases e : p = i
    · rw [if_pos e, if_pos (by omega)]
    · rw [if_neg e]
      by_cases e2 : p < i
      · rw [if_pos e2, if_pos (by omega)]
      · rw [if_neg e2, if_neg (by omega)]
  · show bulk_empty_B1 t (bulk_empty_L1 t k) _ _ = _
    unfold bulk_empty_B1 bulk_empty_k1
    rw [if_neg (by simp)]
    congr 1
    exact tg_congr fun p hp => by rw [if_pos hp]
theorem rempty_eq {t : Trade} (h1 : t.supply.length ≤ 50) (h2 : t.demand.length ≤ 50) : ref07_empty t = some (tab t (fun _ _ => 0)) := by
  unfold ref07_empty
  refine for0 t.supply.length (fun i => tg i (fun p => tb t.demand.length (fun _ => 0))) (fun k s i => ref07_empty_L1 t k i s) _ rfl (fun k i hi => ?_) (fun k => ?_) (by omega)
  · show ref07_empty_B1 t (ref07_empty_L1 t k) _ _ = _
    unfold ref07_empty_B1
    rw [if_pos (by omega), gd_pos (by omega), gd_pos (by rw [tg_len]; omega), gd_pos (by omega), show Int.toNat (t.demand.length : Int) = t.demand.length from rfl, rep_tb, ← tg_push]; rfl
  · show ref07_empty_B1 t (ref07_empty_L1 t k) _ _ = _
    unfold ref07_empty_B1
    rw [if_neg (by omega)]; rfl
theorem clone_eq {l : List Int} (h : l.length ≤ 1000) : slices_Clone_int l = some l := by
  unfold slices_Clone_int
  rw [gd_pos (by simp; omega)]; rfl
theorem cor_start {t : Trade} (ht : okT t = true) : Cor t 0 0 (fun _ _ => 0) (fun p => if p < t.supply.length then gi t.supply p else 0) (fun q => if q < t.demand.length then gi t.demand q else 0) :=
  { nn := fun _ _ => Int.le_refl _, fresh := fun _ _ _ => rfl
    an := fun p => by
      split
      · rename_i h; exact (supply_bnd ht h).1
      · exact Int.le_refl _
    bn := fun p => by
      split
      · rename_i h; exact (demand_bnd ht h).1
      · exact Int.le_refl _
    a0 := fun p hp => by omega
    b0 := fun p hp => by omega
    row := fun p hp => by rw [sumN_zero, if_pos hp]; omega
    col := fun p hp => by rw [sumN_zero, if_pos hp]; omega
    ai := fun p hp => by rw [if_pos hp]; exact (supply_bnd ht hp).2
    bi := fun p hp => by rw [if_pos hp]; exact (demand_bnd ht hp).2 }
/-- Both corners are one right plan. -/
theorem corner_eq {t : Trade} (ht : okT t = true) : ∃ g, PlanF t g ∧ bulk_corner t = some (tab t g) ∧ ref07_Corner_k3 (tab t (fun _ _ => 0)) t.supply t.demand = some (tab t g, 0) := by
  have hs := (okT_spec ht).1.2.1
  have hd := (okT_spec ht).2.1.2.1
  obtain ⟨g, g1, g2, g3⟩ := corner_loop ht 8 0 0 FU _ _ _ (cor_start ht) (by omega) (by omega) (by omega) (by have := FU_pos; omega)
  have e1 : tb t.supply.length (fun p => if p < t.supply.length then gi t.supply p else 0) = t.supply := by
    conv => rhs; rw [← tb_self t.supply]
    exact tb_congr fun k hk => by rw [if_pos hk]
  have e2 : tb t.demand.length (fun p => if p < t.demand.length then gi t.demand p else 0) = t.demand := by
    conv => rhs; rw [← tb_self t.demand]
    exact tb_congr fun k hk => by rw [if_pos hk]
  rw [e1, e2] at g2 g3
  refine ⟨g, g1, ?_, g3⟩
  unfold bulk_corner
  rw [bnd_eq (empty_eq (by omega) (by omega)), bnd_eq (clone_eq (by omega)), bnd_eq (clone_eq (by omega))]
  exact g2
theorem SameInts_self {l : List Int} (hl : l.length ≤ 1000000) : ref07_SameInts l l = some true := by
  unfold ref07_SameInts
  rw [if_pos rfl, list_loop0 l (fun _ => true) (ref07_SameInts_L1 l l) (some true) (some false) (fun k i x hx => ?_) (fun k => ?_) (by omega)]
  · rw [if_pos (by simp)]
  · have := lt_of_at hx
    show ref07_SameInts_B1 l l (ref07_SameInts_L1 l l k) _ = _
    unfold ref07_SameInts_B1
    rw [if_pos (by omega), ix_nat hx, ix_nat hx, if_pos rfl, gd_pos (by omega), if_pos rfl]; rfl
  · show ref07_SameInts_B1 l l (ref07_SameInts_L1 l l k) _ = _
    unfold ref07_SameInts_B1
    rw [if_neg (by omega)]; rfl
theorem SameTables_self {l : List (List Int)} (hl : Lsmall l) : ref07_SameTables l l = some true := by
  have h1 := hl.1
  unfold ref07_SameTables
  rw [if_pos rfl, list_loop0 l (fun _ => true) (ref07_SameTables_L1 l l) (some true) (some false) (fun k i x hx => ?_) (fun k => ?_) (by omega)]
  · rw [if_pos (by simp)]
  · have := lt_of_at hx
    have h2 := hl.2 x (List.mem_of_getElem? hx)
    show ref07_SameTables_B1 l l (ref07_SameTables_L1 l l k) _ = _
    unfold ref07_SameTables_B1
    rw [if_pos (by omega), ix_nat hx, ix_nat hx, bnd_eq (SameInts_self (by omega)), if_pos rfl, gd_pos (by omega), if_pos rfl]; rfl
  · show ref07_SameTables_B1 l l (ref07_SameTables_L1 l l k) _ = _
    unfold ref07_SameTables_B1
    rw [if_neg (by omega)]; rfl
theorem tab_small {t : Trade} (h1 : t.supply.length ≤ 50) (h2 : t.demand.length ≤ 50) (f : Nat → Nat → Int) : Lsmall (tab t f) := tbl_small h1 h2 f
end Go.D7

set_option linter.unusedVariables false
set_option linter.unusedSimpArgs false
namespace Go.D7
open Go.Tb
theorem ix1 {α β : Type} {l : List α} {k : α → Option β} {x : α} (h : l[1]? = some x) : ix l 1 k = k x := ix_nat (i := 1) h
theorem tmod_nat (a b : Nat) : Int.tmod (a : Int) (b : Int) = ((a % b : Nat) : Int) := by
  rw [Int.tmod_eq_emod_of_nonneg (Int.natCast_nonneg _)]; norm_cast
def pr (L : List Arr2) (k : Nat) : Arr2 := L.getD k ⟨0, 0⟩
theorem pr_at {L : List Arr2} {k : Nat} (h : k < L.length) : L[k]? = some (pr L k) := by simp [pr, List.getD, h]
theorem pr_of {L : List Arr2} {k : Nat} {x : Arr2} (h : L[k]? = some x) : pr L k = x := by simp [pr, List.getD, h]
def side (x : Arr2) (k : Nat) : Int := if k % 2 = 0 then x.at0 else x.at1
def eqA (x y : Arr2) : Bool := (x.at0 == y.at0) && (x.at1 == y.at1)
theorem eqA_iff {x y : Arr2} : eqA x y = true ↔ x = y := by
  unfold eqA
  cases x; cases y; simp
def memA (l : List Arr2) (x : Arr2) : Bool := l.any (eqA x)
def rndAt (L : List Arr2) (k : Nat) : Bool := decide (side (pr L k) k = side (pr L ((k + 1) % L.length)) k) && !memA (L.take k) (pr L k)
def roundB (L : List Arr2) : Bool := (decide (4 ≤ L.length) && decide (L.length % 2 = 0)) && decide (∀ k, k < L.length → rndAt L k = true)
theorem memA_take {L : List Arr2} {i : Nat} (hi : i ≤ L.length) (x : Arr2) : memA (L.take i) x = true ↔ ∃ j, j < i ∧ eqA x (pr L j) = true := by
  unfold memA
  rw [List.any_eq_true]
  constructor
  · rintro ⟨y, hy, he⟩
    obtain ⟨j, hj⟩ := List.getElem?_of_mem hy
    rw [List.getElem?_take] at hj
    split at hj
    · rename_i hlt
      exact ⟨j, hlt, by rw [pr_of hj]; exact he⟩
    · cases hj
  · rintro ⟨j, hj, he⟩
    refine ⟨pr L j, ?_, he⟩
    refine List.mem_of_getElem? (i := j) ?_
    rw [List.getElem?_take, if_pos hj]
    exact pr_at (by omega)
def sN (L : List Arr2) (k : Nat) : Nat := (pr L k).at0.toNat
def bN (L : List Arr2) (k : Nat) : Nat := (pr L k).at1.toNat
def InPairs (t : Trade) (L : List Arr2) : Prop := ∀ k, k < L.length → (0 ≤ (pr L k).at0 ∧ (pr L k).at0 < (t.supply.length : Int)) ∧ (0 ≤ (pr L k).at1 ∧ (pr L k).at1 < (t.demand.length : Int))
def mN (f : Nat → Nat → Int) (L : List Arr2) : Nat → Int
  | 0 => f (sN L 1) (bN L 1)
  | k + 1 => if k % 2 = 1 then min (mN f L k) (f (sN L k) (bN L k)) else mN f L k
def sgn (k : Nat) : Int := if k % 2 = 0 then 1 else -1
def fK (f : Nat → Nat → Int) (L : List Arr2) (n : Int) : Nat → Nat → Nat → Int
  | 0 => f
  | k + 1 => fun i j => if i = sN L k ∧ j = bN L k then fK f L n k i j + sgn k * n else fK f L n k i j
theorem mN_bnd {f : Nat → Nat → Int} {L : List Arr2} (h : ∀ k, k < L.length → 0 ≤ f (sN L k) (bN L k) ∧ f (sN L k) (bN L k) ≤ 30) (h1 : 1 < L.length) : ∀ k, k ≤ L.length → 0 ≤ mN f L k ∧ mN f L k ≤ 30
  | 0, _ => h 1 h1
  | k + 1, hk => by
    have ih := mN_bnd h h1 k (by omega)
    have := h k (by omega)
    simp only [mN]
    split <;> omega
theorem mN_le {f : Nat → Nat → Int} {L : List Arr2} : ∀ (k q : Nat), q < k → q % 2 = 1 → mN f L k ≤ f (sN L q) (bN L q)
  | k + 1, q, hq, h1 => by
    simp only [mN]
    by_cases e : q = k
    · subst e; rw [if_pos h1]; omega
    · have := mN_le (f := f) (L := L) k q (by omega) h1
      split <;> omega
theorem fK_bnd {t : Trade} {f : Nat → Nat → Int} {L : List Arr2} {n : Int} (hn : 0 ≤ n ∧ n ≤ 30) {i j : Nat} (h : 0 ≤ f i j ∧ f i j ≤ 30) : ∀ k : Nat, -(30 * (k : Int)) ≤ fK f L n k i j ∧ fK f L n k i j ≤ 30 + 30 * (k : Int)
  | 0 => by simp only [fK]; omega
  | k + 1 => by
    have ih := fK_bnd (t := t) (L := L) hn h k
    have hs : sgn k = 1 ∨ sgn k = -1 := by unfold sgn; split <;> simp
    simp only [fK]
    split
    · rcases hs with e | e <;> rw [e] <;> omega
    · omega
section
variable {t : Trade} {f : Nat → Nat → Int} {L : List Arr2}
theorem clone_tab {l : List (List Int)} (hl : Lsmall l) : bulk_clone l = some l := by
  have h1 := hl.1
  unfold bulk_clone
  refine for0 l.length (fun i => l.take i) (fun k s i => bulk_clone_L1 l k i s) _ rfl (fun k i hi => ?_) (fun k => ?_) (by omega)
  · have h2 := hl.2 _ (List.mem_of_getElem? (gr_at hi))
    show bulk_clone_B1 l (bulk_clone_L1 l k) _ _ = _
    unfold bulk_clone_B1
    rw [if_pos (by omega), ix_nat (gr_at hi), bnd_eq (clone_eq (by omega)), gd_pos (by rw [List.length_take]; omega), gd_pos (by omega), List.take_add_one, gr_at hi]; rfl
  · show bulk_clone_B1 l (bulk_clone_L1 l k) _ _ = _
    unfold bulk_clone_B1
    rw [if_neg (by omega), List.take_length]; rfl
theorem in_nat (hi : InPairs t L) {k : Nat} (hk : k < L.length) : sN L k < t.supply.length ∧ bN L k < t.demand.length ∧ ((sN L k : Nat) : Int) = (pr L k).at0 ∧ ((bN L k : Nat) : Int) = (pr L k).at1 := by
  have := hi k hk
  unfold sN bN
  omega
theorem along_eq (ht : t.supply.length ≤ 50 ∧ t.demand.length ≤ 50) (hf : ∀ i j, i < t.supply.length → j < t.demand.length → 0 ≤ f i j ∧ f i j ≤ 30) (hi : InPairs t L) (hl : L.length ≤ 8) (h4 : 4 ≤ L.length) :
    bulk_along (tab t f) L = some (tab t (fK f L (mN f L L.length) L.length), mN f L L.length) := by
  have cells : ∀ k, k < L.length → 0 ≤ f (sN L k) (bN L k) ∧ f (sN L k) (bN L k) ≤ 30 := fun k hk => by
    have := in_nat hi hk
    exact hf _ _ this.1 this.2.1
  have hm := mN_bnd cells (by omega) L.length (Nat.le_refl _)
  unfold bulk_along
  rw [bnd_eq (clone_tab (tab_small ht.1 ht.2 f))]
  have p1 := in_nat hi (k := 1) (by omega)
  have r1 : (tab t f)[sN L 1]? = some (tb t.demand.length (f (sN L 1))) := tbl_at p1.1
  rw [ix1 (pr_at (by omega)), ← p1.2.2.1, ix_nat r1, ix1 (pr_at (by omega)), ← p1.2.2.2, ix_nat (tb_at p1.2.1)]
  refine Eq.trans (for0 L.length (mN f L) (fun k s i => bulk_along_L2 L (tab t f) k s i) (bulk_along_k2 L (tab t f) (mN f L L.length)) rfl (fun k i hik => ?_) (fun k => ?_) (by omega)) ?_
  · have p := in_nat hi hik
    have r : (tab t f)[sN L i]? = some (tb t.demand.length (f (sN L i))) := tbl_at p.1
    have e3 : Int.tmod (i : Int) 2 = ((i % 2 : Nat) : Int) := tmod_nat i 2
    show bulk_along_B2 L (tab t f) (bulk_along_L2 L (tab t f) k) _ _ = _
    unfold bulk_along_B2 bulk_along_k3
    rw [if_pos (by omega), ix_nat (pr_at hik), e3, gd_pos ⟨by decide, by omega⟩]
    simp only [mN]
    by_cases ho : i % 2 = 1
    · rw [if_pos (by omega), ix0 (x := (pr L i).at0) rfl, ← p.2.2.1, ix_nat r, ix1 (x := (pr L i).at1) rfl, ← p.2.2.2, ix_nat (tb_at p.2.1), gd_pos (by omega), if_pos ho]; rfl
    · rw [if_neg (by omega), gd_pos (by omega), if_neg ho]; rfl
  · show bulk_along_B2 L (tab t f) (bulk_along_L2 L (tab t f) k) _ _ = _
    unfold bulk_along_B2
    rw [if_neg (by omega)]
  · unfold bulk_along_k2
    refine for0 L.length (fun k => tab t (fK f L (mN f L L.length) k)) (fun k s i => bulk_along_L1 L (mN f L L.length) k i s) _ rfl (fun k i hik => ?_) (fun k => ?_) (by omega)
    · have p := in_nat hi hik
      have r : (tab t (fK f L (mN f L L.length) i))[sN L i]? = some (tb t.demand.length (fK f L (mN f L L.length) i (sN L i))) := tbl_at p.1
      have e3 : Int.tmod (i : Int) 2 = ((i % 2 : Nat) : Int) := tmod_nat i 2
      have hb := fK_bnd (t := t) (L := L) hm (cells i hik) i
      show bulk_along_B1 L (mN f L L.length) (bulk_along_L1 L (mN f L L.length) k) _ _ = _
      unfold bulk_along_B1
      have hx : i % 2 = 0 ∨ i % 2 = 1 := by omega
      have key : mN f L L.length - 2 * mN f L L.length * ((i % 2 : Nat) : Int) = sgn i * mN f L L.length := by
        unfold sgn
        rcases hx with h | h <;> rw [h] <;> simp <;> omega
      have kb : InR (2 * mN f L L.length * ((i % 2 : Nat) : Int)) ∧ -30 ≤ sgn i * mN f L L.length ∧ sgn i * mN f L L.length ≤ 30 := by
        unfold sgn
        rcases hx with h | h <;> rw [h] <;> simp <;> omega
      rw [if_pos (by omega), ix_nat (pr_at hik), ix0 (x := (pr L i).at0) rfl, ← p.2.2.1, ix_nat r, ix1 (x := (pr L i).at1) rfl, ← p.2.2.2, ix_nat (tb_at p.2.1), gd_pos (by omega), e3, gd_pos ⟨by decide, by omega⟩, gd_pos kb.1, key, gd_pos (by omega), gd_pos (by omega), ix_nat (tb_at p.2.1), gd_pos (by omega), show Int.toNat ((sN L i : Nat) : Int) = sN L i from rfl, show Int.toNat ((bN L i : Nat) : Int) = bN L i from rfl]
      refine congrArg (bulk_along_L1 L (mN f L L.length) k _) ?_
      unfold tab
      rw [tbl_set p.1]
      refine tbl_congr fun a b _ _ => ?_
      simp only [fK]
      by_cases hc : a = sN L i ∧ b = bN L i
      · rw [if_pos hc, if_pos hc, hc.1, hc.2]
      · rw [if_neg hc, if_neg hc]
    · show bulk_along_B1 L (mN f L L.length) (bulk_along_L1 L (mN f L L.length) k) _ _ = _
      unfold bulk_along_B1
      rw [if_neg (by omega)]; rfl
theorem fK_row (n : Int) (m : Nat) (i : Nat) : ∀ K, (∀ k, k < K → bN L k < m) → sumN m (fK f L n K i) = sumN m (f i) + sumN K (fun k => if sN L k = i then sgn k * n else 0)
  | 0, _ => by simp [fK, sumN]
  | K + 1, h => by
    have ih := fK_row n m i K (fun k hk => h k (by omega))
    have hb := h K (by omega)
    simp only [sumN]
    by_cases hi : sN L K = i
    · have e : sumN m (fK f L n (K + 1) i) = sumN m (fun q => if q = bN L K then fK f L n K i (bN L K) + sgn K * n else fK f L n K i q) := sumN_congr _ fun q _ => by
        simp only [fK]
        by_cases hq : q = bN L K
        · rw [if_pos ⟨hi.symm, hq⟩, if_pos hq, hq]
        · rw [if_neg (fun hc => hq hc.2), if_neg hq]
      rw [e, sumN_upd, if_pos hb, ih, if_pos hi]; omega
    · have e : sumN m (fK f L n (K + 1) i) = sumN m (fK f L n K i) := sumN_congr _ fun q _ => by
        simp only [fK]
        rw [if_neg (fun hc => hi hc.1.symm)]
      rw [e, ih, if_neg hi]; omega
theorem fK_col (n : Int) (m : Nat) (j : Nat) : ∀ K, (∀ k, k < K → sN L k < m) → sumN m (fun i => fK f L n K i j) = sumN m (fun i => f i j) + sumN K (fun k => if bN L k = j then sgn k * n else 0)
  | 0, _ => by simp [fK, sumN]
  | K + 1, h => by
    have ih := fK_col n m j K (fun k hk => h k (by omega))
    have hb := h K (by omega)
    simp only [sumN]
    by_cases hi : bN L K = j
    · have e : sumN m (fun i => fK f L n (K + 1) i j) = sumN m (fun q => if q = sN L K then fK f L n K (sN L K) j + sgn K * n else fK f L n K q j) := sumN_congr _ fun q _ => by
        simp only [fK]
        by_cases hq : q = sN L K
        · rw [if_pos ⟨hq, hi.symm⟩, if_pos hq, hq]
        · rw [if_neg (fun hc => hq hc.1), if_neg hq]
      rw [e, sumN_upd, if_pos hb, ih, if_pos hi]; omega
    · have e : sumN m (fun i => fK f L n (K + 1) i j) = sumN m (fun i => fK f L n K i j) := sumN_congr _ fun q _ => by
        simp only [fK]
        rw [if_neg (fun hc => hi hc.2.symm)]
      rw [e, ih, if_neg hi]; omega
theorem round_spec (hi : InPairs t L) (h : roundB L = true) : 4 ≤ L.length ∧ L.length % 2 = 0 ∧ (∀ k, k < L.length → k % 2 = 0 → sN L k = sN L (k + 1)) ∧ (∀ k, k + 1 < L.length → k % 2 = 1 → bN L k = bN L (k + 1)) ∧ bN L (L.length - 1) = bN L 0 ∧ ∀ j k, j < k → k < L.length → ¬ (sN L j = sN L k ∧ bN L j = bN L k) := by
  unfold roundB at h
  simp only [Bool.and_eq_true, decide_eq_true_eq] at h
  obtain ⟨⟨h4, he⟩, hr⟩ := h
  have side_ : ∀ k, k < L.length → side (pr L k) k = side (pr L ((k + 1) % L.length)) k := fun k hk => by
    have := hr k hk
    unfold rndAt at this
    simp only [Bool.and_eq_true, decide_eq_true_eq] at this
    exact this.1
  refine ⟨h4, he, fun k hk h0 => ?_, fun k hk h1 => ?_, ?_, fun j k hj hk hc => ?_⟩
  · have := side_ k hk
    rw [Nat.mod_eq_of_lt (by omega)] at this
    unfold side at this
    rw [if_pos h0, if_pos h0] at this
    unfold sN; rw [this]
  · have := side_ k (by omega)
    rw [Nat.mod_eq_of_lt hk] at this
    unfold side at this
    rw [if_neg (by omega), if_neg (by omega)] at this
    unfold bN; rw [this]
  · have := side_ (L.length - 1) (by omega)
    rw [show L.length - 1 + 1 = L.length by omega, Nat.mod_self] at this
    unfold side at this
    rw [if_neg (by omega), if_neg (by omega)] at this
    unfold bN; rw [this]
  · have := hr k hk
    unfold rndAt at this
    simp only [Bool.and_eq_true, Bool.not_eq_true'] at this
    have h2 := this.2
    rw [Bool.eq_false_iff] at h2
    apply h2
    refine (memA_take (by omega) _).2 ⟨j, hj, eqA_iff.2 ?_⟩
    have p1 := in_nat hi (k := j) (by omega)
    have p2 := in_nat hi hk
    have e0 : (pr L k).at0 = (pr L j).at0 := by rw [← p1.2.2.1, ← p2.2.2.1, hc.1]
    have e1 : (pr L k).at1 = (pr L j).at1 := by rw [← p1.2.2.2, ← p2.2.2.2, hc.2]
    cases hx : pr L k; cases hy : pr L j
    rw [hx, hy] at e0 e1
    simp only at e0 e1
    rw [e0, e1]
theorem row_cancel {n : Int} {i : Nat} : ∀ q : Nat, (∀ k, k < 2 * q → k % 2 = 0 → sN L k = sN L (k + 1)) → sumN (2 * q) (fun k => if sN L k = i then sgn k * n else 0) = 0
  | 0, _ => rfl
  | q + 1, h => by
    have ih := row_cancel (n := n) (i := i) q (fun k hk => h k (by omega))
    have e := h (2 * q) (by omega) (by omega)
    rw [show 2 * (q + 1) = 2 * q + 1 + 1 by omega]
    simp only [sumN, ih]
    have s0 : sgn (2 * q) = 1 := by unfold sgn; rw [if_pos (by omega)]
    have s1 : sgn (2 * q + 1) = -1 := by unfold sgn; rw [if_neg (by omega)]
    rw [s0, s1, ← e]
    split <;> omega
theorem col_cancel {n : Int} {j : Nat} : ∀ q : Nat, (∀ k, k + 1 < 2 * q + 1 → k % 2 = 1 → bN L k = bN L (k + 1)) → sumN (2 * q + 1) (fun k => if bN L k = j then sgn k * n else 0) = if bN L 0 = j then n else 0
  | 0, _ => by
    have s0 : sgn 0 = 1 := rfl
    simp only [sumN, s0]
    split <;> omega
  | q + 1, h => by
    have ih := col_cancel (n := n) (j := j) q (fun k hk => h k (by omega))
    have e := h (2 * q + 1) (by omega) (by omega)
    rw [show 2 * (q + 1) + 1 = 2 * q + 1 + 1 + 1 by omega]
    rw [show sumN (2 * q + 1 + 1 + 1) (fun k => if bN L k = j then sgn k * n else 0) = sumN (2 * q + 1) (fun k => if bN L k = j then sgn k * n else 0) + (if bN L (2 * q + 1) = j then sgn (2 * q + 1) * n else 0) + (if bN L (2 * q + 1 + 1) = j then sgn (2 * q + 1 + 1) * n else 0) from rfl, ih]
    have s0 : sgn (2 * q + 1 + 1) = 1 := by unfold sgn; rw [if_pos (by omega)]
    have s1 : sgn (2 * q + 1) = -1 := by unfold sgn; rw [if_neg (by omega)]
    rw [s0, s1, ← e]
    split <;> split <;> omega
theorem fK_hit {n : Int} {i j : Nat} (hd : ∀ a b, a < b → b < L.length → ¬ (sN L a = sN L b ∧ bN L a = bN L b)) : ∀ K, K ≤ L.length → (∃ k, k < K ∧ sN L k = i ∧ bN L k = j ∧ fK f L n K i j = f i j + sgn k * n) ∨ ((∀ k, k < K → ¬ (sN L k = i ∧ bN L k = j)) ∧ fK f L n K i j = f i j)
  | 0, _ => .inr ⟨fun k hk => by omega, rfl⟩
  | K + 1, hK => by
    rcases fK_hit hd K (by omega) with ⟨k, h1, h2, h3, h4⟩ | ⟨h1, h2⟩
    · refine .inl ⟨k, by omega, h2, h3, ?_⟩
      simp only [fK]
      rw [if_neg, h4]
      rintro ⟨e1, e2⟩
      exact hd k K h1 (by omega) ⟨by rw [h2, e1], by rw [h3, e2]⟩
    · simp only [fK]
      by_cases hc : i = sN L K ∧ j = bN L K
      · refine .inl ⟨K, by omega, hc.1.symm, hc.2.symm, ?_⟩
        rw [if_pos hc, h2]
      · refine .inr ⟨fun k hk => ?_, by rw [if_neg hc]; exact h2⟩
        by_cases e : k = K
        · subst e; exact fun hx => hc ⟨hx.1.symm, hx.2.symm⟩
        · exact h1 k (by omega)
/-- The plan along a round is a plan. -/
theorem along_plan (hp : PlanF t f) (hi : InPairs t L) (hr : roundB L = true) : PlanF t (fK f L (mN f L L.length) L.length) := by
  obtain ⟨h4, he, h1, h2, h3, h5⟩ := round_spec hi hr
  have hn : 0 ≤ mN f L L.length := by
    have key : ∀ k, 0 ≤ mN f L k := by
      intro k
      induction k with
      | zero => exact hp.nn _ _
      | succ k ih =>
        simp only [mN]
        have := hp.nn (sN L k) (bN L k)
        split <;> omega
    exact key _
  obtain ⟨q, hq⟩ : ∃ q, L.length = 2 * q := ⟨L.length / 2, by omega⟩
  refine ⟨fun i j => ?_, fun i hi' => ?_, fun j hj' => ?_⟩
  · rcases fK_hit (f := f) (n := mN f L L.length) (i := i) (j := j) h5 L.length (Nat.le_refl _) with ⟨k, k1, k2, k3, k4⟩ | ⟨_, k2⟩
    · rw [k4]
      have hf := hp.nn i j
      unfold sgn
      split
      · omega
      · have := mN_le (f := f) (L := L) L.length k k1 (by omega)
        rw [k2, k3] at this
        omega
    · rw [k2]; exact hp.nn i j
  · rw [fK_row _ _ _ _ (fun k hk => (in_nat hi hk).2.1), hp.row i hi']
    have := row_cancel (L := L) (n := mN f L L.length) (i := i) q (fun k hk h0 => h1 k (by omega) h0)
    rw [← hq] at this
    rw [this]; omega
  · rw [fK_col _ _ _ _ (fun k hk => (in_nat hi hk).1), hp.col j hj']
    obtain ⟨p, hpq⟩ : ∃ p, L.length = 2 * p + 1 + 1 := ⟨q - 1, by omega⟩
    have := col_cancel (L := L) (n := mN f L L.length) (j := j) p (fun k hk h0 => h2 k (by omega) h0)
    rw [hpq]
    rw [hpq] at this
    rw [show sumN (2 * p + 1 + 1) (fun k => if bN L k = j then sgn k * mN f L (2 * p + 1 + 1) else 0) = sumN (2 * p + 1) (fun k => if bN L k = j then sgn k * mN f L (2 * p + 1 + 1) else 0) + (if bN L (2 * p + 1) = j then sgn (2 * p + 1) * mN f L (2 * p + 1 + 1) else 0) from rfl, this]
    have s1 : sgn (2 * p + 1) = -1 := by unfold sgn; rw [if_neg (by omega)]
    have e : bN L (2 * p + 1) = bN L 0 := by rw [← h3, hpq]; rfl
    rw [s1, e]
    split <;> omega
end
end Go.D7

set_option linter.unusedVariables false
set_option linter.unusedSimpArgs false
namespace Go.D7
open Go.Tb
section
variable {t : Trade} {f : Nat → Nat → Int} {L : List Arr2}
def pAt (t : Trade) (L : List Arr2) (k : Nat) : Bool := within (pr L k).at0 0 ((t.supply.length : Int) - 1) && within (pr L k).at1 0 ((t.demand.length : Int) - 1)
theorem inPairs_iff : (∀ k, k < L.length → pAt t L k = true) ↔ InPairs t L := by
  unfold InPairs pAt
  constructor
  · intro h k hk
    have := h k hk
    simp only [Bool.and_eq_true, within_iff] at this
    omega
  · intro h k hk
    have := h k hk
    simp only [Bool.and_eq_true, within_iff]
    omega
instance : Decidable (InPairs t L) := decidable_of_iff _ (inPairs_iff (t := t) (L := L))
end
end Go.D7

set_option linter.unusedVariables false
set_option linter.unusedSimpArgs false
namespace Go.D7
/-- An edge, with its cost. -/
structure Ed where
  u : Nat
  v : Nat
  c : Int
/-- What is known: the lowest costs, by which edge, and the node that was changed last. -/
structure BS where
  d : Nat → Int
  by_ : Nat → Option Ed
  last : Int
def relax (far : Int) (s : BS) (e : Ed) : BS :=
  if s.d e.u < far ∧ s.d e.u + e.c < s.d e.v then ⟨fun x => if x = e.v then s.d e.u + e.c else s.d x, fun x => if x = e.v then some e else s.by_ x, (e.v : Int)⟩ else s
def fresh (s : BS) : BS := ⟨s.d, s.by_, -1⟩
def rnd (far : Int) (L : List Ed) (s : BS) : BS := L.foldl (relax far) (fresh s)
def rnds (far : Int) (L : List Ed) (s : BS) : Nat → BS
  | 0 => s
  | k + 1 => rnd far L (rnds far L s k)
structure Inv (E : Ed → Prop) (far : Int) (d0 : Nat → Int) (T : Nat → Nat) (τ : Nat) (s : BS) : Prop where
  mem : ∀ v e, s.by_ v = some e → E e ∧ e.v = v ∧ s.d e.u < far
  nil : ∀ v, s.by_ v = none → s.d v = d0 v
  low : ∀ v e, s.by_ v = some e → s.d e.u + e.c ≤ s.d v
  strict : ∀ v e, s.by_ v = some e → T v ≤ T e.u → s.d e.u + e.c < s.d v
  tm : ∀ v, T v ≤ τ
section
variable {E : Ed → Prop} {far : Int} {d0 : Nat → Int} {s : BS}
theorem relax_le (far : Int) (s : BS) (e : Ed) (v : Nat) : (relax far s e).d v ≤ s.d v := by
  unfold relax
  split
  · rename_i h
    show (if v = e.v then s.d e.u + e.c else s.d v) ≤ s.d v
    split
    · rename_i hv; subst hv; omega
    · exact Int.le_refl _
  · exact Int.le_refl _
theorem relax_inv {T : Nat → Nat} {τ : Nat} (h : Inv E far d0 T τ s) {e : Ed} (he : E e) (hn : e.u ≠ e.v) : ∃ T', Inv E far d0 T' (τ + 1) (relax far s e) := by
  by_cases hf : s.d e.u < far ∧ s.d e.u + e.c < s.d e.v
  · refine ⟨fun x => if x = e.v then τ + 1 else T x, ?_⟩
    unfold relax
    rw [if_pos hf]
    refine ⟨fun v x hx => ?_, fun v hx => ?_, fun v x hx => ?_, fun v x hx ht => ?_, fun v => ?_⟩
    · show E x ∧ x.v = v ∧ (if x.u = e.v then s.d e.u + e.c else s.d x.u) < far
      have hx' : (if v = e.v then some e else s.by_ v) = some x := hx
      split at hx'
      · rename_i hv
        obtain rfl : e = x := Option.some.inj hx'
        rw [if_neg hn]
        exact ⟨he, hv.symm, hf.1⟩
      · obtain ⟨a, b, c⟩ := h.mem v x hx'
        refine ⟨a, b, ?_⟩
        split
        · rename_i hu; rw [hu] at c; omega
        · exact c
    · have hx' : (if v = e.v then some e else s.by_ v) = none := hx
      show (if v = e.v then s.d e.u + e.c else s.d v) = d0 v
      split at hx'
      · cases hx'
      · rename_i hv; rw [if_neg hv]; exact h.nil v hx'
    · have hx' : (if v = e.v then some e else s.by_ v) = some x := hx
      show (if x.u = e.v then s.d e.u + e.c else s.d x.u) + x.c ≤ (if v = e.v then s.d e.u + e.c else s.d v)
      split at hx'
      · rename_i hv
        obtain rfl : e = x := Option.some.inj hx'
        rw [if_neg hn, if_pos hv]; omega
      · rename_i hv
        have l := h.low v x hx'
        rw [if_neg hv]
        split
        · rename_i hu; rw [hu] at l; omega
        · exact l
    · have hx' : (if v = e.v then some e else s.by_ v) = some x := hx
      have ht' : (if v = e.v then τ + 1 else T v) ≤ (if x.u = e.v then τ + 1 else T x.u) := ht
      show (if x.u = e.v then s.d e.u + e.c else s.d x.u) + x.c < (if v = e.v then s.d e.u + e.c else s.d v)
      split at hx'
      · rename_i hv
        obtain rfl : e = x := Option.some.inj hx'
        rw [if_pos hv, if_neg hn] at ht'
        have := h.tm e.u
        omega
      · rename_i hv
        have l := h.low v x hx'
        rw [if_neg hv]
        rw [if_neg hv] at ht'
        split
        · rename_i hu; rw [hu] at l; omega
        · rename_i hu
          rw [if_neg hu] at ht'
          exact h.strict v x hx' ht'
    · show (if v = e.v then τ + 1 else T v) ≤ τ + 1
      have := h.tm v
      split <;> omega
  · refine ⟨T, ?_⟩
    unfold relax
    rw [if_neg hf]
    exact ⟨h.mem, h.nil, h.low, h.strict, fun v => by have := h.tm v; omega⟩
/-- The invariant, whatever the times. -/
def InvE (E : Ed → Prop) (far : Int) (d0 : Nat → Int) (s : BS) : Prop := ∃ T τ, Inv E far d0 T τ s
theorem fold_inv : ∀ (L : List Ed) (s : BS), InvE E far d0 s → (∀ e ∈ L, E e ∧ e.u ≠ e.v) → InvE E far d0 (L.foldl (relax far) s)
  | [], _, h, _ => h
  | e :: r, s, ⟨T, τ, h⟩, hL => by
    obtain ⟨T', h'⟩ := relax_inv h (hL e (List.mem_cons_self ..)).1 (hL e (List.mem_cons_self ..)).2
    exact fold_inv r _ ⟨T', _, h'⟩ (fun x hx => hL x (List.mem_cons_of_mem _ hx))
theorem fresh_inv (h : InvE E far d0 s) : InvE E far d0 (fresh s) := by
  obtain ⟨T, τ, h⟩ := h
  exact ⟨T, τ, ⟨h.mem, h.nil, h.low, h.strict, h.tm⟩⟩
theorem rnds_inv {L : List Ed} (h : InvE E far d0 s) (hL : ∀ e ∈ L, E e ∧ e.u ≠ e.v) : ∀ k, InvE E far d0 (rnds far L s k)
  | 0 => h
  | k + 1 => fold_inv L _ (fresh_inv (rnds_inv h hL k)) hL
theorem start_inv : InvE E far d0 ⟨d0, fun _ => none, -1⟩ :=
  ⟨fun _ => 0, 0, ⟨fun v e h => (by cases h), fun _ _ => rfl, fun v e h => (by cases h), fun v e h => (by cases h), fun _ => Nat.le_refl _⟩⟩
def pre (s : BS) (v : Nat) : Nat := match s.by_ v with | some e => e.u | none => v
def ce (s : BS) (v : Nat) : Int := match s.by_ v with | some e => e.c | none => 0
def itp (s : BS) : Nat → Nat → Nat
  | 0, v => v
  | k + 1, v => pre s (itp s k v)
def itc (s : BS) : Nat → Nat → Int
  | 0, _ => 0
  | k + 1, v => itc s k v + ce s (itp s k v)
theorem itp_add (s : BS) (a : Nat) (v : Nat) : ∀ b, itp s (a + b) v = itp s b (itp s a v)
  | 0 => rfl
  | b + 1 => by
    show pre s (itp s (a + b) v) = pre s (itp s b (itp s a v))
    rw [itp_add s a v b]
theorem pre_some {v : Nat} {e : Ed} (h : s.by_ v = some e) : pre s v = e.u ∧ ce s v = e.c := by unfold pre ce; rw [h]; exact ⟨rfl, rfl⟩
theorem itp_low {T : Nat → Nat} {τ : Nat} (h : Inv E far d0 T τ s) (v : Nat) : ∀ k, (∀ i, i < k → s.by_ (itp s i v) ≠ none) → s.d (itp s k v) + itc s k v ≤ s.d v ∧ (s.d (itp s k v) + itc s k v < s.d v ∨ T (itp s k v) + k ≤ T v)
  | 0, _ => ⟨by simp [itp, itc], .inr (by simp [itp])⟩
  | k + 1, ha => by
    obtain ⟨i1, i2⟩ := itp_low h v k (fun i hi => ha i (by omega))
    have hk := ha k (by omega)
    cases hx : s.by_ (itp s k v) with
    | none => exact absurd hx hk
    | some e =>
      obtain ⟨p1, p2⟩ := pre_some hx
      have l := h.low _ _ hx
      show s.d (pre s (itp s k v)) + (itc s k v + ce s (itp s k v)) ≤ s.d v ∧ (s.d (pre s (itp s k v)) + (itc s k v + ce s (itp s k v)) < s.d v ∨ T (pre s (itp s k v)) + (k + 1) ≤ T v)
      rw [p1, p2]
      refine ⟨by omega, ?_⟩
      by_cases ht : T (itp s k v) ≤ T e.u
      · have := h.strict _ _ hx ht
        left; omega
      · rcases i2 with i2 | i2
        · left; omega
        · right; omega
/-- A round back costs less than nothing. -/
theorem cycle_neg (h : InvE E far d0 s) {v k : Nat} (hk : 0 < k) (ha : ∀ i, i < k → s.by_ (itp s i v) ≠ none) (hc : itp s k v = v) : itc s k v < 0 := by
  obtain ⟨T, τ, h⟩ := h
  obtain ⟨l1, l2⟩ := itp_low h v k ha
  rw [hc] at l1 l2
  rcases l2 with l2 | l2 <;> omega
theorem itp_lt {N : Nat} (hN : ∀ v e, s.by_ v = some e → e.u < N) {v : Nat} (hv : v < N) : ∀ k, itp s k v < N
  | 0 => hv
  | k + 1 => by
    show pre s (itp s k v) < N
    unfold pre
    split
    · rename_i e he; exact hN _ _ he
    · exact itp_lt hN hv k
theorem pigeon : ∀ (N : Nat) (f : Nat → Nat), (∀ k, k ≤ N → f k < N) → ∃ i j, i < j ∧ j ≤ N ∧ f i = f j
  | 0, f, h => by have := h 0 (Nat.le_refl _); omega
  | N + 1, f, h => by
    by_cases hx : ∃ k, k ≤ N ∧ f k = f (N + 1)
    · obtain ⟨k, hk, e⟩ := hx
      exact ⟨k, N + 1, by omega, by omega, e⟩
    · have hx' : ∀ k, k ≤ N → f k ≠ f (N + 1) := fun k hk e => hx ⟨k, hk, e⟩
      obtain ⟨i, j, h1, h2, h3⟩ := pigeon N (fun k => if f (N + 1) < f k then f k - 1 else f k) (fun k hk => by
        have a := h k (by omega)
        have b := h (N + 1) (by omega)
        have c := hx' k hk
        show (if f (N + 1) < f k then f k - 1 else f k) < N
        split <;> omega)
      refine ⟨i, j, h1, by omega, ?_⟩
      have a := hx' i (by omega)
      have b := hx' j (by omega)
      have h3' : (if f (N + 1) < f i then f i - 1 else f i) = (if f (N + 1) < f j then f j - 1 else f j) := h3
      split at h3' <;> split at h3' <;> omega
/-- A way back that does not end goes round. -/
theorem alive_cycle {N : Nat} (hN : ∀ v e, s.by_ v = some e → e.u < N) {v : Nat} (hv : v < N) : ∃ i p, 0 < p ∧ i + p ≤ N ∧ itp s p (itp s i v) = itp s i v := by
  obtain ⟨i, j, h1, h2, h3⟩ := pigeon N (fun k => itp s k v) (fun k _ => itp_lt hN hv k)
  refine ⟨i, j - i, by omega, by omega, ?_⟩
  rw [← itp_add, show i + (j - i) = j by omega]; exact h3.symm
theorem alive_root {N : Nat} (hN : ∀ v e, s.by_ v = some e → e.u < N) (h : InvE E far d0 s) {P : Nat → Int} (hP : ∀ v e, s.by_ v = some e → P v ≤ P e.u + e.c) {v : Nat} (hv : v < N) : ∃ k, k < N ∧ s.by_ (itp s k v) = none ∧ ∀ i, i < k → s.by_ (itp s i v) ≠ none := by
  have hd : ∀ i, Decidable (s.by_ (itp s i v) = none) := fun i => by cases s.by_ (itp s i v) with | none => exact isTrue rfl | some e => exact isFalse (by simp)
  by_cases hx : ∃ k, k < N ∧ s.by_ (itp s k v) = none
  · -- the least such k
    have : ∀ n, (∃ k, k < n ∧ k < N ∧ s.by_ (itp s k v) = none) → ∃ k, k < N ∧ s.by_ (itp s k v) = none ∧ ∀ i, i < k → s.by_ (itp s i v) ≠ none := by
      intro n
      induction n with
      | zero => rintro ⟨k, hk, _⟩; omega
      | succ n ih =>
        rintro ⟨k, hk, hkN, hkn⟩
        by_cases hy : ∃ q, q < n ∧ q < N ∧ s.by_ (itp s q v) = none
        · exact ih hy
        · exact ⟨k, hkN, hkn, fun i hi hc => hy ⟨i, by omega, by omega, hc⟩⟩
    obtain ⟨k, hk, hkn⟩ := hx
    exact this N ⟨k, hk, hk, hkn⟩
  · have ha : ∀ k, k < N → s.by_ (itp s k v) ≠ none := fun k hk hc => hx ⟨k, hk, hc⟩
    obtain ⟨i, p, h1, h2, h3⟩ := alive_cycle hN hv
    have hal : ∀ q, q < p → s.by_ (itp s q (itp s i v)) ≠ none := fun q hq => by rw [← itp_add]; exact ha _ (by omega)
    have neg := cycle_neg h h1 hal h3
    have key : ∀ q, q ≤ p → P (itp s i v) ≤ P (itp s q (itp s i v)) + itc s q (itp s i v) := by
      intro q
      induction q with
      | zero => intro _; simp [itp, itc]
      | succ q ih =>
        intro hq
        have ih := ih (by omega)
        cases hb : s.by_ (itp s q (itp s i v)) with
        | none => exact absurd hb (hal q (by omega))
        | some e =>
          have := hP _ _ hb
          obtain ⟨p1, p2⟩ := pre_some hb
          show _ ≤ P (pre s (itp s q (itp s i v))) + (itc s q (itp s i v) + ce s (itp s q (itp s i v)))
          rw [p1, p2]; omega
    have := key p (Nat.le_refl _)
    rw [h3] at this
    omega
theorem fold_le (far : Int) : ∀ (L : List Ed) (s : BS) (v : Nat), (L.foldl (relax far) s).d v ≤ s.d v
  | [], _, _ => Int.le_refl _
  | e :: r, s, v => Int.le_trans (fold_le far r _ v) (relax_le far s e v)
theorem fold_edge (far : Int) : ∀ (L : List Ed) (s : BS) (e : Ed), e ∈ L → s.d e.u < far → (L.foldl (relax far) s).d e.v ≤ s.d e.u + e.c
  | x :: r, s, e, he, hf => by
    rcases List.mem_cons.1 he with rfl | he
    · refine Int.le_trans (fold_le far r _ _) ?_
      unfold relax
      split
      · show (if e.v = e.v then s.d e.u + e.c else s.d e.v) ≤ _
        rw [if_pos rfl]; omega
      · rename_i hc
        have : ¬ (s.d e.u + e.c < s.d e.v) := fun h => hc ⟨hf, h⟩
        omega
    · have a := relax_le far s x e.u
      have := fold_edge far r (relax far s x) e he (by omega)
      show (r.foldl (relax far) (relax far s x)).d e.v ≤ _
      omega
theorem rnds_mono (far : Int) (L : List Ed) (s : BS) (v : Nat) (a : Nat) : ∀ b, (rnds far L s (a + b)).d v ≤ (rnds far L s a).d v
  | 0 => Int.le_refl _
  | b + 1 => Int.le_trans (fold_le far L (fresh (rnds far L s (a + b))) v) (rnds_mono far L s v a b)
/-- Walks of k edges from where the costs are known at first. -/
inductive W (L : List Ed) (far : Int) (d0 : Nat → Int) : Nat → Nat → Int → Prop
  | nil (v : Nat) : d0 v < far → W L far d0 0 v (d0 v)
  | step {k : Nat} {e : Ed} {C : Int} : W L far d0 k e.u C → e ∈ L → W L far d0 (k + 1) e.v (C + e.c)
theorem W_le {L : List Ed} {far : Int} {s0 : BS} {R : Nat} (hfar : ∀ k v C, k ≤ R → W L far s0.d k v C → C < far) : ∀ {k v : Nat} {C : Int}, W L far s0.d k v C → k ≤ R → (rnds far L s0 k).d v ≤ C := by
  intro k v C h
  induction h with
  | nil v hv => intro _; exact Int.le_refl _
  | @step k e C h he ih =>
    intro hk
    have i := ih (by omega)
    have hC := hfar _ _ _ (by omega) h
    have := fold_edge far L (fresh (rnds far L s0 k)) e he (show (rnds far L s0 k).d e.u < far by omega)
    have h2 : (fresh (rnds far L s0 k)).d e.u = (rnds far L s0 k).d e.u := rfl
    show (rnd far L (rnds far L s0 k)).d e.v ≤ C + e.c
    unfold rnd
    omega
theorem chain_W {L : List Ed} {T : Nat → Nat} {τ : Nat} (h : Inv (fun e => e ∈ L) far d0 T τ s) (v : Nat) : ∀ (k : Nat), (∀ i, i < k → s.by_ (itp s i v) ≠ none) → ∀ (q : Nat) (C : Int), W L far d0 q (itp s k v) C → W L far d0 (q + k) v (C + itc s k v)
  | 0, _, q, C, w => by simpa [itp, itc] using w
  | k + 1, ha, q, C, w => by
    cases hx : s.by_ (itp s k v) with
    | none => exact absurd hx (ha k (by omega))
    | some e =>
      obtain ⟨p1, p2⟩ := pre_some hx
      obtain ⟨m1, m2, m3⟩ := h.mem _ _ hx
      have w' : W L far d0 q e.u C := by
        have : itp s (k + 1) v = e.u := p1
        rwa [this] at w
      have w2 := W.step w' m1
      rw [m2] at w2
      have := chain_W h v k (fun i hi => ha i (by omega)) (q + 1) _ w2
      rw [show q + (k + 1) = q + 1 + k by omega, show C + itc s (k + 1) v = C + e.c + itc s k v by
        show C + (itc s k v + ce s (itp s k v)) = _
        rw [p2]; omega]
      exact this
theorem chain_far {L : List Ed} {T : Nat → Nat} {τ : Nat} (h : Inv (fun e => e ∈ L) far d0 T τ s) {v : Nat} (hv : s.d v < far) : ∀ k, s.d (itp s k v) < far
  | 0 => hv
  | k + 1 => by
    show s.d (pre s (itp s k v)) < far
    cases hx : s.by_ (itp s k v) with
    | none => unfold pre; rw [hx]; exact chain_far h hv k
    | some e => rw [(pre_some hx).1]; exact (h.mem _ _ hx).2.2
/-- A node that is still changed in a late round has a long way back. -/
theorem late_alive {L : List Ed} {far : Int} {s0 : BS} {R : Nat} (hL : ∀ e ∈ L, e.u ≠ e.v) (h0 : s0.by_ = fun _ => none) (hfar : ∀ k v C, k ≤ R → W L far s0.d k v C → C < far) {v : Nat}
    (hv : (rnds far L s0 (R + 1)).d v < (rnds far L s0 R).d v) (hff : (rnds far L s0 (R + 1)).d v < far) : ∀ k, k ≤ R → (rnds far L s0 (R + 1)).by_ (itp (rnds far L s0 (R + 1)) k v) ≠ none := by
  have hi : InvE (fun e => e ∈ L) far s0.d (rnds far L s0 (R + 1)) := by
    refine rnds_inv ?_ (fun e he => ⟨he, hL e he⟩) (R + 1)
    refine ⟨fun _ => 0, 0, ⟨fun v e h => ?_, fun _ _ => rfl, fun v e h => ?_, fun v e h => ?_, fun _ => Nat.le_refl _⟩⟩ <;> (rw [h0] at h; cases h)
  obtain ⟨T, τ, hi⟩ := hi
  intro k
  induction k using Nat.strongRecOn with
  | _ k ih =>
    intro hk hc
    have al : ∀ i, i < k → (rnds far L s0 (R + 1)).by_ (itp (rnds far L s0 (R + 1)) i v) ≠ none := fun i hi => ih i hi (by omega)
    have e0 := hi.nil _ hc
    have f0 := chain_far hi hff k
    rw [e0] at f0
    have w := chain_W hi v k al 0 _ (W.nil _ f0)
    rw [Nat.zero_add] at w
    have l := (itp_low hi v k al).1
    rw [e0] at l
    have a := W_le hfar w hk
    have b := rnds_mono far L s0 v k (R - k)
    rw [show k + (R - k) = R by omega] at b
    omega
/-- What the number that was changed last tells. -/
theorem fold_last (far : Int) (N : Nat) (d1 : Nat → Int) : ∀ (L : List Ed) (s : BS), (∀ e ∈ L, e.v < N) → (∀ v, s.d v ≤ d1 v) → ((s.last = -1 ∧ s.d = d1) ∨ ∃ v, v < N ∧ s.last = (v : Int) ∧ s.d v < d1 v) →
    ((L.foldl (relax far) s).last = -1 ∧ (L.foldl (relax far) s).d = d1) ∨ ∃ v, v < N ∧ (L.foldl (relax far) s).last = (v : Int) ∧ (L.foldl (relax far) s).d v < d1 v
  | [], s, _, _, h => h
  | e :: r, s, hL, hd, h => by
    refine fold_last far N d1 r (relax far s e) (fun x hx => hL x (List.mem_cons_of_mem _ hx)) (fun v => Int.le_trans (relax_le far s e v) (hd v)) ?_
    unfold relax
    split
    · rename_i hf
      refine .inr ⟨e.v, hL e (List.mem_cons_self ..), rfl, ?_⟩
      show (if e.v = e.v then s.d e.u + e.c else s.d e.v) < _
      rw [if_pos rfl]
      have := hd e.v
      omega
    · exact h
theorem rnd_last {L : List Ed} {N : Nat} (hL : ∀ e ∈ L, e.v < N) (s : BS) : ((rnd far L s).last = -1 ∧ (rnd far L s).d = s.d) ∨ ∃ v, v < N ∧ (rnd far L s).last = (v : Int) ∧ (rnd far L s).d v < s.d v :=
  fold_last far N s.d L (fresh s) hL (fun _ => Int.le_refl _) (.inl ⟨rfl, rfl⟩)
theorem rnd_stable {L : List Ed} {s : BS} (h : (rnd far L s).d = s.d) : ∀ e ∈ L, s.d e.u < far → s.d e.v ≤ s.d e.u + e.c := fun e he hf => by
  have a := fold_edge far L (fresh s) e he hf
  have b : (rnd far L s).d e.v = s.d e.v := by rw [h]
  have c : (fresh s).d e.u = s.d e.u := rfl
  unfold rnd at b
  omega
/-- Bounds of what is known. -/
theorem fold_bnd (far M : Int) (hM : 0 ≤ M) : ∀ (L : List Ed) (s : BS) (lo : Int), (∀ e ∈ L, -M ≤ e.c) → (∀ v, lo ≤ s.d v) → ∀ v, lo - M * (L.length : Int) ≤ (L.foldl (relax far) s).d v
  | [], s, lo, _, h, v => by simpa using h v
  | e :: r, s, lo, hL, h, v => by
    have he := hL e (List.mem_cons_self ..)
    have := fold_bnd far M hM r (relax far s e) (lo - M) (fun x hx => hL x (List.mem_cons_of_mem _ hx)) (fun w => by
      have a := h w
      have b := h e.u
      unfold relax
      split
      · show lo - M ≤ (if w = e.v then s.d e.u + e.c else s.d w)
        split <;> omega
      · show lo - M ≤ s.d w
        omega) v
    rw [List.length_cons, show ((r.length + 1 : Nat) : Int) = (r.length : Int) + 1 by omega, Int.mul_add]
    show lo - (M * (r.length : Int) + M * 1) ≤ (r.foldl (relax far) (relax far s e)).d v
    omega
theorem rnds_bnd {far M : Int} (hM : 0 ≤ M) {L : List Ed} {s : BS} {lo : Int} (hL : ∀ e ∈ L, -M ≤ e.c) (h : ∀ v, lo ≤ s.d v) : ∀ (k : Nat) (v : Nat), lo - M * (L.length : Int) * (k : Int) ≤ (rnds far L s k).d v
  | 0, v => by simpa [rnds] using h v
  | k + 1, v => by
    have := fold_bnd far M hM L (fresh (rnds far L s k)) _ hL (fun w => rnds_bnd hM hL h k w) v
    rw [show ((k + 1 : Nat) : Int) = (k : Int) + 1 by omega, Int.mul_add]
    show _ ≤ (L.foldl (relax far) (fresh (rnds far L s k))).d v
    omega
theorem W_bnd {L : List Ed} {M : Int} (hL : ∀ e ∈ L, e.c ≤ M) (h0 : ∀ v, d0 v < far → d0 v ≤ 0) : ∀ {k v : Nat} {C : Int}, W L far d0 k v C → C ≤ M * (k : Int) := by
  intro k v C h
  induction h with
  | nil v hv => have := h0 v hv; simpa using this
  | @step k e C h he ih =>
    have := hL e he
    rw [show ((k + 1 : Nat) : Int) = (k : Int) + 1 by omega, Int.mul_add]
    omega
end
end Go.D7

set_option linter.unusedVariables false
set_option linter.unusedSimpArgs false
namespace Go.D7
open Go.Tb
/-- The cost of a way. -/
def cc (t : Trade) (i j : Nat) : Int := cell t.cost i j
def costF (t : Trade) (f : Nat → Nat → Int) : Int := sumN t.supply.length fun i => sumN t.demand.length fun j => f i j * cc t i j
def worthF (t : Trade) (p q : Nat → Int) : Int := sumN t.supply.length (fun i => p i * gi t.supply i) + sumN t.demand.length (fun j => q j * gi t.demand j)
def Fair (t : Trade) (p q : Nat → Int) : Prop := ∀ i j, i < t.supply.length → j < t.demand.length → p i + q j ≤ cc t i j
structure Cert (t : Trade) (f : Nat → Nat → Int) (p q : Nat → Int) : Prop where
  le : Fair t p q
  eq : ∀ i j, i < t.supply.length → j < t.demand.length → 0 < f i j → p i + q j = cc t i j
structure BestF (t : Trade) (f : Nat → Nat → Int) : Prop where
  plan : PlanF t f
  cert : ∃ p q, Cert t f p q
section
variable {t : Trade} {f g : Nat → Nat → Int} {p q : Nat → Int}
theorem costN_tab (f : Nat → Nat → Int) : costN t (tab t f) (tab t f).length = costF t f := by
  have e : (tab t f).length = t.supply.length := tbl_len _ _ _
  rw [e]
  unfold costN costF rowCost
  refine sumN_congr _ fun i hi => sumN_congr _ fun j hj => ?_
  have : cell (tab t f) i j = f i j := tbl_cell hi hj
  rw [this]; rfl
theorem split_worth (hp : PlanF t f) : sumN t.supply.length (fun i => sumN t.demand.length fun j => f i j * (p i + q j)) = worthF t p q := by
  unfold worthF
  have e1 : sumN t.supply.length (fun i => sumN t.demand.length fun j => f i j * (p i + q j)) = sumN t.supply.length (fun i => sumN t.demand.length (fun j => p i * f i j) + sumN t.demand.length (fun j => q j * f i j)) := by
    refine sumN_congr _ fun i _ => ?_
    rw [← sumN_add]
    exact sumN_congr _ fun j _ => by rw [Int.mul_add, Int.mul_comm, Int.mul_comm (f i j)]
  rw [e1, sumN_add]
  congr 1
  · refine sumN_congr _ fun i hi => ?_
    rw [sumN_mul, hp.row i hi]
  · rw [sumN_swap]
    refine sumN_congr _ fun j hj => ?_
    rw [sumN_mul, hp.col j hj]
theorem weak (hp : PlanF t f) (h : Fair t p q) : worthF t p q ≤ costF t f := by
  rw [← split_worth hp]
  unfold costF
  exact sumN_le _ fun i hi => sumN_le _ fun j hj => Int.mul_le_mul_of_nonneg_left (h i j hi hj) (hp.nn i j)
theorem tight (hp : PlanF t f) (h : Cert t f p q) : worthF t p q = costF t f := by
  rw [← split_worth hp]
  unfold costF
  refine sumN_congr _ fun i hi => sumN_congr _ fun j hj => ?_
  by_cases h0 : 0 < f i j
  · rw [h.eq i j hi hj h0]
  · have := hp.nn i j
    rw [show f i j = 0 by omega]; simp
theorem BestF.le (h : BestF t f) (hg : PlanF t g) : costF t f ≤ costF t g := by
  obtain ⟨p, q, hc⟩ := h.cert
  rw [← tight h.plan hc]
  exact weak hg hc.le
theorem BestF.same (h : BestF t f) (hg : BestF t g) : costF t f = costF t g := Int.le_antisymm (h.le hg.plan) (hg.le h.plan)
theorem cost_pos (ht : okT t = true) {i j : Nat} (hi : i < t.supply.length) (hj : j < t.demand.length) : 0 ≤ cc t i j ∧ cc t i j ≤ 99 := by
  have h := tab_spec (okT_spec ht).2.2.2
  exact (h.2 i (by omega)).2.2 j hj
theorem costF_bnd (ht : okT t = true) (hp : PlanF t f) : 0 ≤ costF t f ∧ costF t f ≤ 50000 := by
  have h1 := (okT_spec ht).1.2.1
  have h2 := (okT_spec ht).2.1.2.1
  have key : 0 ≤ costF t f ∧ costF t f ≤ (2970 * (t.demand.length : Int)) * (t.supply.length : Int) := by
    unfold costF
    refine sumN_bnd _ fun i hi => ?_
    refine sumN_bnd _ fun j hj => ?_
    have a := plan_le ht hp hi hj
    exact mul_bnd (X := 30) (Y := 99) ⟨hp.nn i j, a⟩ (cost_pos ht hi hj)
  have : (2970 * (t.demand.length : Int)) * (t.supply.length : Int) ≤ (2970 * 4) * 4 :=
    Int.le_trans (Int.mul_le_mul_of_nonneg_right (by omega) (Int.natCast_nonneg _)) (Int.mul_le_mul_of_nonneg_left (by omega) (by decide))
  omega
def edIn (t : Trade) (f : Nat → Nat → Int) (i : Nat) : Nat → List Ed
  | 0 => []
  | j + 1 => edIn t f i j ++ (⟨i, t.supply.length + j, cc t i j⟩ :: if 0 < f i j then [⟨t.supply.length + j, i, -cc t i j⟩] else [])
def edTo (t : Trade) (f : Nat → Nat → Int) : Nat → List Ed
  | 0 => []
  | i + 1 => edTo t f i ++ edIn t f i t.demand.length
def eds (t : Trade) (f : Nat → Nat → Int) : List Ed := edTo t f t.supply.length
theorem edIn_succ (i j : Nat) : edIn t f i (j + 1) = edIn t f i j ++ (⟨i, t.supply.length + j, cc t i j⟩ :: if 0 < f i j then [⟨t.supply.length + j, i, -cc t i j⟩] else []) := rfl
theorem edIn_len (i : Nat) : ∀ j, (edIn t f i j).length ≤ 2 * j
  | 0 => by simp [edIn]
  | j + 1 => by
    have := edIn_len i j
    unfold edIn
    rw [List.length_append, List.length_cons]
    split <;> simp <;> omega
theorem edTo_len (hm : t.demand.length ≤ 4) : ∀ i, (edTo t f i).length ≤ 8 * i
  | 0 => by simp [edTo]
  | i + 1 => by
    have := edTo_len hm i
    have := edIn_len (t := t) (f := f) i t.demand.length
    unfold edTo
    rw [List.length_append]; omega
theorem edIn_mem {i : Nat} {e : Ed} : ∀ {j : Nat}, e ∈ edIn t f i j ↔ ∃ k, k < j ∧ (e = ⟨i, t.supply.length + k, cc t i k⟩ ∨ (e = ⟨t.supply.length + k, i, -cc t i k⟩ ∧ 0 < f i k))
  | 0 => by simp [edIn]
  | j + 1 => by
    unfold edIn
    rw [List.mem_append, List.mem_cons, edIn_mem (j := j)]
    constructor
    · rintro (⟨k, hk, h⟩ | h | h)
      · exact ⟨k, by omega, h⟩
      · exact ⟨j, by omega, .inl h⟩
      · split at h
        · rename_i h0
          exact ⟨j, by omega, .inr ⟨by simpa using h, h0⟩⟩
        · simp at h
    · rintro ⟨k, hk, h⟩
      by_cases e : k = j
      · subst e
        rcases h with h | ⟨h, h0⟩
        · exact .inr (.inl h)
        · exact .inr (.inr (by rw [if_pos h0]; simpa using h))
      · exact .inl ⟨k, by omega, h⟩
theorem edTo_mem {e : Ed} : ∀ {i : Nat}, e ∈ edTo t f i ↔ ∃ a k, a < i ∧ k < t.demand.length ∧ (e = ⟨a, t.supply.length + k, cc t a k⟩ ∨ (e = ⟨t.supply.length + k, a, -cc t a k⟩ ∧ 0 < f a k))
  | 0 => by simp [edTo]
  | i + 1 => by
    unfold edTo
    rw [List.mem_append, edTo_mem (i := i), edIn_mem]
    constructor
    · rintro (⟨a, k, ha, hk, h⟩ | ⟨k, hk, h⟩)
      · exact ⟨a, k, by omega, hk, h⟩
      · exact ⟨i, k, by omega, hk, h⟩
    · rintro ⟨a, k, ha, hk, h⟩
      by_cases e : a = i
      · subst e; exact .inr ⟨k, hk, h⟩
      · exact .inl ⟨a, k, by omega, hk, h⟩
theorem eds_mem {e : Ed} : e ∈ eds t f ↔ ∃ i j, i < t.supply.length ∧ j < t.demand.length ∧ (e = ⟨i, t.supply.length + j, cc t i j⟩ ∨ (e = ⟨t.supply.length + j, i, -cc t i j⟩ ∧ 0 < f i j)) := edTo_mem
theorem eds_ne {e : Ed} (h : e ∈ eds t f) : e.u ≠ e.v := by
  obtain ⟨i, j, hi, hj, rfl | ⟨rfl, _⟩⟩ := eds_mem.1 h
  · show i ≠ t.supply.length + j; omega
  · show t.supply.length + j ≠ i; omega
theorem eds_lt {e : Ed} (h : e ∈ eds t f) : e.u < t.supply.length + t.demand.length ∧ e.v < t.supply.length + t.demand.length := by
  obtain ⟨i, j, hi, hj, rfl | ⟨rfl, _⟩⟩ := eds_mem.1 h
  · exact ⟨by show i < _; omega, by show t.supply.length + j < _; omega⟩
  · exact ⟨by show t.supply.length + j < _; omega, by show i < _; omega⟩
theorem eds_cost (ht : okT t = true) {e : Ed} (h : e ∈ eds t f) : -99 ≤ e.c ∧ e.c ≤ 99 := by
  obtain ⟨i, j, hi, hj, rfl | ⟨rfl, _⟩⟩ := eds_mem.1 h <;> have := cost_pos ht hi hj
  · show -99 ≤ cc t i j ∧ cc t i j ≤ 99; omega
  · show -99 ≤ -cc t i j ∧ -cc t i j ≤ 99; omega
/-- Where nothing can be improved, there are prices. -/
theorem cert_of {d : Nat → Int} (h : ∀ e ∈ eds t f, d e.v ≤ d e.u + e.c) : Cert t f (fun i => -d i) (fun j => d (t.supply.length + j)) where
  le := fun i j hi hj => by
    have := h ⟨i, t.supply.length + j, cc t i j⟩ (eds_mem.2 ⟨i, j, hi, hj, .inl rfl⟩)
    show -d i + d (t.supply.length + j) ≤ cc t i j
    have h2 : d (t.supply.length + j) ≤ d i + cc t i j := this
    omega
  eq := fun i j hi hj h0 => by
    have h2 : d (t.supply.length + j) ≤ d i + cc t i j := h ⟨i, t.supply.length + j, cc t i j⟩ (eds_mem.2 ⟨i, j, hi, hj, .inl rfl⟩)
    have h3 : d i ≤ d (t.supply.length + j) + -cc t i j := h ⟨t.supply.length + j, i, -cc t i j⟩ (eds_mem.2 ⟨i, j, hi, hj, .inr ⟨rfl, h0⟩⟩)
    show -d i + d (t.supply.length + j) = cc t i j
    omega
/-- Prices are heights of the nodes. -/
def pot (t : Trade) (p q : Nat → Int) (v : Nat) : Int := if v < t.supply.length then -p v else q (v - t.supply.length)
theorem pot_store {i : Nat} (hi : i < t.supply.length) : pot t p q i = -p i := if_pos hi
theorem pot_buyer (j : Nat) : pot t p q (t.supply.length + j) = q j := by
  unfold pot; rw [if_neg (by omega), show t.supply.length + j - t.supply.length = j by omega]
theorem pot_of (h : Cert t f p q) : ∀ e ∈ eds t f, pot t p q e.v ≤ pot t p q e.u + e.c := by
  intro e he
  obtain ⟨i, j, hi, hj, rfl | ⟨rfl, h0⟩⟩ := eds_mem.1 he
  · show pot t p q (t.supply.length + j) ≤ pot t p q i + cc t i j
    rw [pot_store hi, pot_buyer]
    have := h.le i j hi hj
    omega
  · show pot t p q i ≤ pot t p q (t.supply.length + j) + -cc t i j
    rw [pot_store hi, pot_buyer]
    have := h.eq i j hi hj h0
    omega
end
end Go.D7

set_option linter.unusedVariables false
set_option linter.unusedSimpArgs false
namespace Go.D7
open Go.Tb
/-- More than anything costs. -/
def FAR : Int := 1073741824
def sE (t : Trade) (e : Ed) : Step := if e.u < t.supply.length then .i_more ⟨(e.u : Int), (e.v : Int) - (t.supply.length : Int)⟩ else .i_less ⟨(e.v : Int), (e.u : Int) - (t.supply.length : Int)⟩
def sO (t : Trade) (o : Option Ed) : Step := match o with | none => .nil | some e => sE t e
section
variable {t : Trade} {f : Nat → Nat → Int}
theorem sE_more {i j : Nat} {c : Int} (hi : i < t.supply.length) : sE t ⟨i, t.supply.length + j, c⟩ = .i_more ⟨(i : Int), (j : Int)⟩ := by
  unfold sE
  rw [if_pos hi]
  show Step.i_more ⟨(i : Int), ((t.supply.length + j : Nat) : Int) - (t.supply.length : Int)⟩ = _
  congr 2; omega
theorem sE_less {i j : Nat} {c : Int} (hi : i < t.supply.length) : sE t ⟨t.supply.length + j, i, c⟩ = .i_less ⟨(i : Int), (j : Int)⟩ := by
  unfold sE
  rw [if_neg (by show ¬ (t.supply.length + j < t.supply.length); omega)]
  show Step.i_less ⟨(i : Int), ((t.supply.length + j : Nat) : Int) - (t.supply.length : Int)⟩ = _
  congr 2; omega
theorem ends_eq (ht : okT t = true) {e : Ed} (h : e ∈ eds t f) : bulk_ends t (sE t e) = some ((e.u : Int), (e.v : Int)) := by
  have h1 := (okT_spec ht).1.2.1
  have h2 := (okT_spec ht).2.1.2.1
  obtain ⟨i, j, hi, hj, rfl | ⟨rfl, _⟩⟩ := eds_mem.1 h
  · rw [sE_more hi]
    unfold bulk_ends
    rw [if_pos (by rfl)]
    show gd (InR ((t.supply.length : Int) + (j : Int))) (some ((i : Int), (t.supply.length : Int) + (j : Int))) = some ((i : Int), ((t.supply.length + j : Nat) : Int))
    rw [gd_pos (by omega)]; congr 2
  · rw [sE_less hi]
    unfold bulk_ends
    rw [if_neg (by simp [Step.isMore]), if_pos (by rfl)]
    show gd (InR ((t.supply.length : Int) + (j : Int))) (some ((t.supply.length : Int) + (j : Int), (i : Int))) = some (((t.supply.length + j : Nat) : Int), (i : Int))
    rw [gd_pos (by omega)]; congr 2
theorem scost_eq (ht : okT t = true) {e : Ed} (h : e ∈ eds t f) : Step_cost (sE t e) t = some e.c := by
  obtain ⟨c1, c2⟩ := tab_spec (okT_spec ht).2.2.2
  obtain ⟨i, j, hi, hj, rfl | ⟨rfl, _⟩⟩ := eds_mem.1 h
  · rw [sE_more hi]
    show bulk_more_cost ⟨(i : Int), (j : Int)⟩ t = some (cc t i j)
    have := c2 i (by omega)
    unfold bulk_more_cost
    show ix t.cost (i : Int) (fun x1 => ix x1 (j : Int) fun x2 => some x2) = _
    rw [ix_nat (gr_at (by omega)), ix_nat (gi_at (by omega))]; rfl
  · rw [sE_less hi]
    show bulk_less_cost ⟨(i : Int), (j : Int)⟩ t = some (-cc t i j)
    have := c2 i (by omega)
    have hb := cost_pos ht hi hj
    have hc : gi (gr t.cost i) j = cc t i j := rfl
    unfold bulk_less_cost
    show ix t.cost (i : Int) (fun x1 => ix x1 (j : Int) fun x2 => gd (InR (-x2)) (some (-x2))) = _
    rw [ix_nat (gr_at (by omega)), ix_nat (gi_at (by omega)), hc, gd_pos (by omega)]
theorem steps_in (ht : okT t = true) {i : Nat} (hi : i < t.supply.length) (rec1 : Int → List Step → Option (List Step)) :
    bulk_steps_L1 (i : Int) rec1 (tb t.demand.length (f i)) FU 0 ((edTo t f i).map (sE t)) = bulk_steps_k2 (i : Int) rec1 ((edTo t f (i + 1)).map (sE t)) := by
  have h1 := (okT_spec ht).1.2.1
  have h2 := (okT_spec ht).2.1.2.1
  refine for0 t.demand.length (fun j => (edTo t f i ++ edIn t f i j).map (sE t)) (fun k s j => bulk_steps_L1 (i : Int) rec1 (tb t.demand.length (f i)) k j s) _ (by simp [edIn]) (fun k j hj => ?_) (fun k => ?_) (by omega)
  · have l1 := edTo_len (t := t) (f := f) h2 i
    have l2 := edIn_len (t := t) (f := f) i j
    have e : (edTo t f i ++ edIn t f i (j + 1)).map (sE t) = (edTo t f i ++ edIn t f i j).map (sE t) ++ (Step.i_more ⟨(i : Int), (j : Int)⟩ :: if 0 < f i j then [Step.i_less ⟨(i : Int), (j : Int)⟩] else []) := by
      rw [edIn_succ, ← List.append_assoc, List.map_append, List.map_cons, sE_more hi]
      congr 2
      split
      · rw [List.map_cons, sE_less hi]; rfl
      · rfl
    show bulk_steps_B1 (i : Int) rec1 (tb t.demand.length (f i)) (bulk_steps_L1 (i : Int) rec1 (tb t.demand.length (f i)) k) _ _ = _
    unfold bulk_steps_B1 bulk_steps_k3
    rw [if_pos (by rw [tb_len]; omega), ix_nat (tb_at hj), gd_pos (by simp; omega)]
    by_cases h0 : 0 < f i j
    · rw [if_pos h0, gd_pos (by simp; omega), gd_pos (by omega), e, if_pos h0, List.append_assoc]; rfl
    · rw [if_neg h0, gd_pos (by omega), e, if_neg h0]; rfl
  · show bulk_steps_B1 (i : Int) rec1 (tb t.demand.length (f i)) (bulk_steps_L1 (i : Int) rec1 (tb t.demand.length (f i)) k) _ _ = _
    unfold bulk_steps_B1
    rw [if_neg (by rw [tb_len]; omega)]; rfl
theorem steps_eq (ht : okT t = true) : bulk_steps t (tab t f) = some ((eds t f).map (sE t)) := by
  have h1 := (okT_spec ht).1.2.1
  unfold bulk_steps
  refine for0 t.supply.length (fun i => (edTo t f i).map (sE t)) (fun k s i => bulk_steps_L2 (tab t f) k i s) _ rfl (fun k i hi => ?_) (fun k => ?_) (by omega)
  · show bulk_steps_B2 (tab t f) (bulk_steps_L2 (tab t f) k) _ _ = _
    unfold bulk_steps_B2
    have r : (tab t f)[i]? = some (tb t.demand.length (f i)) := tbl_at hi
    have e : (tab t f).length = t.supply.length := tbl_len _ _ _
    rw [if_pos (by rw [e]; omega), ix_nat r, steps_in ht hi]
    unfold bulk_steps_k2
    rw [gd_pos (by omega)]; rfl
  · show bulk_steps_B2 (tab t f) (bulk_steps_L2 (tab t f) k) _ _ = _
    unfold bulk_steps_B2
    have e : (tab t f).length = t.supply.length := tbl_len _ _ _
    rw [if_neg (by rw [e]; omega)]; rfl
def s0 : BS := ⟨fun _ => 0, fun _ => none, -1⟩
def nN (t : Trade) : Nat := t.supply.length + t.demand.length
def bsL (t : Trade) (s : BS) : List Int := tb (nN t) s.d
def bsB (t : Trade) (s : BS) : List Step := tg (nN t) (fun v => sO t (s.by_ v))
theorem foldTo {L : List Ed} {k : Nat} {e : Ed} (h : L[k]? = some e) (far : Int) (s : BS) : (L.take (k + 1)).foldl (relax far) s = relax far ((L.take k).foldl (relax far) s) e := by
  rw [List.take_add_one, h, List.foldl_append]; rfl
theorem search_in (ht : okT t = true) {s : BS} (hlo : ∀ v, -100000 ≤ s.d v) (hhi : ∀ v, s.d v ≤ 0) (i : Int) (rec3 : Int → Int → List Int → List Step → Option (List Int × List Step)) :
    bulk_search_L3 t ((eds t f).map (sE t)) i rec3 FU (-1) 0 (bsL t s) (bsB t s) = bulk_search_k5 i rec3 (rnd FAR (eds t f) s).last (bsL t (rnd FAR (eds t f) s)) (bsB t (rnd FAR (eds t f) s)) := by
  have h1 := (okT_spec ht).1.2.1
  have h2 := (okT_spec ht).2.1.2.1
  have hl := edTo_len (t := t) (f := f) h2 t.supply.length
  have hl' : (eds t f).length ≤ 32 := by unfold eds; omega
  refine for0 (eds t f).length (fun k => ((eds t f).take k).foldl (relax FAR) (fresh s)) (fun k x j => bulk_search_L3 t ((eds t f).map (sE t)) i rec3 k x.last j (bsL t x) (bsB t x)) _ (s0 := fresh s) rfl (fun k j hj => ?_) (fun k => ?_) (by omega)
  · obtain ⟨e, he⟩ : ∃ e, (eds t f)[j]? = some e := ⟨(eds t f)[j], by simp [hj]⟩
    have hm : e ∈ eds t f := List.mem_of_getElem? he
    have hx : ((eds t f).map (sE t))[j]? = some (sE t e) := by rw [List.getElem?_map, he]; rfl
    have hlt := eds_lt hm
    have hc := eds_cost ht hm
    generalize hy : ((eds t f).take j).foldl (relax FAR) (fresh s) = y
    have ylo : ∀ v, -110000 ≤ y.d v := fun v => by
      have := fold_bnd FAR 99 (by decide) ((eds t f).take j) (fresh s) (-100000) (fun e he => (eds_cost ht (List.mem_of_mem_take he)).1) hlo v
      rw [hy] at this
      have : (((eds t f).take j).length : Int) ≤ 32 := by rw [List.length_take]; omega
      omega
    have yhi : ∀ v, y.d v ≤ 0 := fun v => by
      have := fold_le FAR ((eds t f).take j) (fresh s) v
      rw [hy] at this
      have b := hhi v
      have c : (fresh s).d v = s.d v := rfl
      omega
    have hF : FAR = 1073741824 := rfl
    have lu := ylo e.u
    have lv := ylo e.v
    have uu := yhi e.u
    rw [foldTo he, hy]
    have gu : (bsL t y)[e.u]? = some (y.d e.u) := tb_at hlt.1
    have gv : (bsL t y)[e.v]? = some (y.d e.v) := tb_at hlt.2
    have gb : (bsB t y)[e.v]? = some (sO t (y.by_ e.v)) := tg_at hlt.2
    show bulk_search_B3 t ((eds t f).map (sE t)) i rec3 (bulk_search_L3 t ((eds t f).map (sE t)) i rec3 k) _ _ _ _ = _
    unfold bulk_search_B3 bulk_search_k6
    rw [if_pos (by simp; omega), ix_nat hx, bnd_eq (ends_eq ht hm)]
    show ix (bsL t y) (e.u : Int) _ = _
    rw [ix_nat gu, bnd_eq (scost_eq ht hm), gd_pos (by omega)]
    show ix (bsL t y) (e.v : Int) _ = _
    rw [ix_nat gv]
    unfold relax
    by_cases hlt2 : y.d e.u + e.c < y.d e.v
    · rw [if_pos hlt2, if_pos ⟨by omega, hlt2⟩]
      show ix (bsL t y) (e.v : Int) (fun x7 => ix (bsB t y) (e.v : Int) _) = _
      rw [ix_nat gv, ix_nat gb, gd_pos (by omega)]
      have e1 : (bsL t y).set e.v (y.d e.u + e.c) = tb (nN t) (fun x => if x = e.v then y.d e.u + e.c else y.d x) := tb_set _
      have e2 : (bsB t y).set e.v (sE t e) = tg (nN t) (fun v => sO t (if v = e.v then some e else y.by_ v)) := by
        unfold bsB
        rw [tg_set]
        refine tg_congr fun v _ => ?_
        by_cases hv : v = e.v
        · rw [if_pos hv, if_pos hv]; rfl
        · rw [if_neg hv, if_neg hv]
      show bulk_search_L3 t ((eds t f).map (sE t)) i rec3 k (e.v : Int) _ ((bsL t y).set e.v (y.d e.u + e.c)) ((bsB t y).set e.v (sE t e)) = _
      rw [e1, e2]; rfl
    · rw [if_neg hlt2, if_neg (fun h => hlt2 h.2), gd_pos (by omega)]; rfl
  · show bulk_search_B3 t ((eds t f).map (sE t)) i rec3 (bulk_search_L3 t ((eds t f).map (sE t)) i rec3 k) _ _ _ _ = _
    unfold bulk_search_B3
    rw [if_neg (by simp), List.take_length]; rfl
def sK (t : Trade) (f : Nat → Nat → Int) (k : Nat) : BS := rnds FAR (eds t f) s0 k
theorem sK_bnd (ht : okT t = true) (k : Nat) (hk : k ≤ 9) (v : Nat) : -100000 ≤ (sK t f k).d v ∧ (sK t f k).d v ≤ 0 := by
  have h1 := (okT_spec ht).1.2.1
  have h2 := (okT_spec ht).2.1.2.1
  have hl := edTo_len (t := t) (f := f) h2 t.supply.length
  have hl' : (eds t f).length ≤ 32 := by unfold eds; omega
  have a := rnds_bnd (far := FAR) (M := 99) (by decide) (L := eds t f) (s := s0) (lo := 0) (fun e he => (eds_cost ht he).1) (fun v => Int.le_refl _) k v
  have b := rnds_mono FAR (eds t f) s0 v 0 k
  rw [Nat.zero_add] at b
  have c : (rnds FAR (eds t f) s0 0).d v = 0 := rfl
  have : 99 * ((eds t f).length : Int) * (k : Int) ≤ (99 * 32) * 9 :=
    Int.le_trans (Int.mul_le_mul_of_nonneg_right (by omega) (Int.natCast_nonneg _)) (Int.mul_le_mul_of_nonneg_left (by omega) (by decide))
  unfold sK
  omega
theorem search_rounds (ht : okT t = true) : bulk_search t (tab t f) = bulk_search_k4 t (sK t f (nN t)).last (bsL t (sK t f (nN t))) (bsB t (sK t f (nN t))) := by
  have h1 := (okT_spec ht).1.2.1
  have h2 := (okT_spec ht).2.1.2.1
  have hN : nN t = t.supply.length + t.demand.length := rfl
  unfold bulk_search
  rw [gd_pos (by omega), gd_pos (by omega), gd_pos (by omega), bnd_eq (steps_eq ht)]
  have e : Int.toNat ((t.supply.length : Int) + (t.demand.length : Int)) = nN t := by omega
  rw [e, rep_tb, rep_tg]
  refine for0 (nN t) (fun k => sK t f k) (fun k x j => bulk_search_L4 t ((eds t f).map (sE t)) k x.last j (bsL t x) (bsB t x)) _ (s0 := s0) rfl (fun k j hj => ?_) (fun k => ?_) (by omega)
  · show bulk_search_B4 t ((eds t f).map (sE t)) (bulk_search_L4 t ((eds t f).map (sE t)) k) _ _ _ _ = _
    unfold bulk_search_B4
    rw [if_pos (by omega), search_in ht (fun v => (sK_bnd ht j (by omega) v).1) (fun v => (sK_bnd ht j (by omega) v).2)]
    unfold bulk_search_k5
    rw [gd_pos (by omega)]; rfl
  · show bulk_search_B4 t ((eds t f).map (sE t)) (bulk_search_L4 t ((eds t f).map (sE t)) k) _ _ _ _ = _
    unfold bulk_search_B4
    rw [if_neg (by omega)]
end
end Go.D7

set_option linter.unusedVariables false
set_option linter.unusedSimpArgs false
namespace Go.D7
open Go.Tb
/-- Turning a list round, for any text of the library's loop. -/
theorem rev_gen {α : Type} (L : Nat → Int → Int → List α → Option (List α))
    (hL : ∀ k a b l, L (k + 1) a b l = if a < b then (ix l b fun x1 => ix l a fun x2 => ix l a fun x3 => ix (l.set (Int.toNat a) x1) b fun x4 => gd (InR (a + 1)) <| gd (InR (b - 1)) <| L k (a + 1) (b - 1) ((l.set (Int.toNat a) x1).set (Int.toNat b) x2)) else some l)
    (l : List α) (hl : l.length ≤ 1000000) : L FU 0 ((l.length : Int) - 1) l = some l.reverse := by
  have key : ∀ (d n i : Nat) (m : List α), l.length ≤ 2 * i + d → d < n → m.length = l.length → (∀ j, j < l.length → m[j]? = if j < i ∨ l.length ≤ j + i then l.reverse[j]? else l[j]?) → i ≤ l.length →
      L n (i : Int) ((l.length : Int) - 1 - i) m = some l.reverse := by
    intro d
    induction d with
    | zero =>
      intro n i m hd hn hm hj hi
      obtain ⟨n, rfl⟩ : ∃ k, n = k + 1 := ⟨n - 1, by omega⟩
      rw [hL, if_neg (by omega)]
      congr 1
      apply List.ext_getElem?
      intro j
      by_cases hjl : j < l.length
      · rw [hj j hjl, if_pos (by omega)]
      · rw [List.getElem?_eq_none (by omega), List.getElem?_eq_none (by simp; omega)]
    | succ d ih =>
      intro n i m hd hn hm hj hi
      obtain ⟨n, rfl⟩ : ∃ k, n = k + 1 := ⟨n - 1, by omega⟩
      rw [hL]
      by_cases hlt : (i : Int) < (l.length : Int) - 1 - i
      · have hi2 : i < l.length := by omega
        have hk2 : l.length - 1 - i < l.length := by omega
        have e1 : ((l.length : Int) - 1 - i).toNat = l.length - 1 - i := by omega
        have a1 : m[l.length - 1 - i]? = some l[l.length - 1 - i] := by rw [hj _ hk2, if_neg (by omega)]; simp [hk2]
        have a2 : m[i]? = some l[i] := by rw [hj _ hi2, if_neg (by omega)]; simp [hi2]
        rw [if_pos hlt, ix_eq (by omega) (by rw [e1]; exact a1), ix_nat a2, ix_nat a2, ix_eq (x := l[l.length - 1 - i]) (by omega) (by rw [e1, Int.toNat_natCast, List.getElem?_set_ne (by omega)]; exact a1), gd_pos (by omega), gd_pos (by omega), e1, Int.toNat_natCast]
        have := ih n (i + 1) ((m.set i l[l.length - 1 - i]).set (l.length - 1 - i) l[i]) (by omega) (by omega) (by simp [hm]) (fun j hjl => ?_) (by omega)
        · rw [show (l.length : Int) - 1 - i - 1 = (l.length : Int) - 1 - ((i + 1 : Nat) : Int) by omega]
          exact this
        · by_cases hj1 : j = l.length - 1 - i
          · subst hj1
            rw [List.getElem?_set_self (by simp [hm]; omega), if_pos (by omega)]
            rw [List.getElem?_reverse (by omega)]
            rw [show l.length - 1 - (l.length - 1 - i) = i by omega]; simp [hi2]
          · rw [List.getElem?_set_ne (Ne.symm hj1)]
            by_cases hj2 : j = i
            · subst hj2
              rw [List.getElem?_set_self (by omega), if_pos (by omega), List.getElem?_reverse (by omega)]; simp [hk2]
            · rw [List.getElem?_set_ne (Ne.symm hj2), hj j hjl]
              by_cases hc : j < i ∨ l.length ≤ j + i
              · rw [if_pos hc, if_pos (by omega)]
              · rw [if_neg hc, if_neg (by omega)]
      · rw [if_neg hlt]
        congr 1
        apply List.ext_getElem?
        intro j
        by_cases hjl : j < l.length
        · rw [hj j hjl]
          by_cases hc : j < i ∨ l.length ≤ j + i
          · rw [if_pos hc]
          · rw [if_neg hc, List.getElem?_reverse hjl]
            rw [show l.length - 1 - j = j by omega]
        · rw [List.getElem?_eq_none (by omega), List.getElem?_eq_none (by simp; omega)]
  have := key l.length FU 0 l (by omega) (by have := FU_pos; omega) rfl (fun j hj => by rw [if_neg (by omega)]) (by omega)
  simpa using this
theorem revS_eq (l : List Step) (hl : l.length ≤ 1000000) : slices_Reverse_step l = some l.reverse := by
  unfold slices_Reverse_step
  rw [gd_pos (by omega)]
  exact rev_gen slices_Reverse_step_L1 (fun k a b l => rfl) l hl
theorem revA_eq (l : List Arr2) (hl : l.length ≤ 1000000) : slices_Reverse_2_int_2_int l = some l.reverse := by
  unfold slices_Reverse_2_int_2_int
  rw [gd_pos (by omega)]
  exact rev_gen slices_Reverse_2_int_2_int_L1 (fun k a b l => rfl) l hl
structure Rd (s : BS) (z K : Nat) : Prop where
  pos : 0 < K
  alive : ∀ k, s.by_ (itp s k z) ≠ none
  per : itp s K z = z
  inj : ∀ a b, a < b → b < K → itp s a z ≠ itp s b z
section
variable {s : BS} {z K : Nat}
theorem Rd.more (h : Rd s z K) (k : Nat) : itp s (k + K) z = itp s k z := by
  rw [Nat.add_comm, itp_add, h.per]
theorem Rd.turn (h : Rd s z K) {j : Nat} (hj : j < K) : Rd s (itp s j z) K where
  pos := h.pos
  alive := fun k => by rw [← itp_add]; exact h.alive _
  per := by rw [← itp_add]; exact h.more j
  inj := fun a b hab hb hc => by
    have e : itp s (K - j) (itp s a (itp s j z)) = itp s (K - j) (itp s b (itp s j z)) := by rw [hc]
    rw [← itp_add, ← itp_add, ← itp_add, ← itp_add, show j + (a + (K - j)) = a + K by omega, show j + (b + (K - j)) = b + K by omega, h.more, h.more] at e
    exact h.inj a b hab hb e
theorem least_ {p : Nat → Prop} : ∀ n, p n → ∃ m, p m ∧ m ≤ n ∧ ∀ k, k < m → ¬ p k := by
  intro n
  induction n using Nat.strongRecOn with
  | _ n ih =>
    intro hn
    by_cases h : ∃ k, k < n ∧ p k
    · obtain ⟨k, hk, hpk⟩ := h
      obtain ⟨m, h1, h2, h3⟩ := ih k hk hpk
      exact ⟨m, h1, by omega, h3⟩
    · exact ⟨n, hn, Nat.le_refl _, fun k hk hpk => h ⟨k, hk, hpk⟩⟩
/-- A way back that is long enough comes into a round. -/
theorem rd_of {N v : Nat} (hN : ∀ v e, s.by_ v = some e → e.u < N) (hv : v < N) (ha : ∀ k, k < N → s.by_ (itp s k v) ≠ none) : ∃ K, K ≤ N ∧ Rd s (itp s N v) K := by
  obtain ⟨i, p, h1, h2, h3⟩ := alive_cycle hN hv
  have per : ∀ m, i ≤ m → itp s (m + p) v = itp s m v := fun m hm => by
    rw [show m + p = i + p + (m - i) by omega, itp_add s (i + p), itp_add s i, h3, ← itp_add, show i + (m - i) = m by omega]
  have al : ∀ m, s.by_ (itp s m v) ≠ none := by
    intro m
    induction m using Nat.strongRecOn with
    | _ m ih =>
      by_cases hm : m < N
      · exact ha m hm
      · have := ih (m - p) (by omega)
        rwa [← per (m - p) (by omega), show m - p + p = m by omega] at this
  obtain ⟨K, ⟨k1, k2⟩, k3, k4⟩ := least_ (p := fun K => 0 < K ∧ itp s K (itp s N v) = itp s N v) p ⟨h1, by rw [← itp_add]; exact per N (by omega)⟩
  refine ⟨K, by omega, k1, fun k => by rw [← itp_add]; exact al _, k2, fun a b hab hb hc => ?_⟩
  have e : itp s (K - b) (itp s a (itp s N v)) = itp s (K - b) (itp s b (itp s N v)) := by rw [hc]
  rw [← itp_add s a, ← itp_add s b, show b + (K - b) = K by omega, k2] at e
  exact k4 (a + (K - b)) (by omega) ⟨by omega, e⟩
end
def pairE (t : Trade) (e : Ed) : Arr2 := if e.u < t.supply.length then ⟨(e.u : Int), (e.v : Int) - (t.supply.length : Int)⟩ else ⟨(e.v : Int), (e.u : Int) - (t.supply.length : Int)⟩
def pO (t : Trade) (o : Option Ed) : Arr2 := match o with | none => ⟨0, 0⟩ | some e => pairE t e
def pS : Step → Arr2
  | .i_more x => ⟨x.store, x.buyer⟩
  | .i_less x => ⟨x.store, x.buyer⟩
  | .nil => ⟨0, 0⟩
theorem pS_sO (t : Trade) (o : Option Ed) : pS (sO t o) = pO t o := by
  cases o with
  | none => rfl
  | some e =>
    show pS (sE t e) = pairE t e
    unfold sE pairE
    split <;> rfl
theorem grow_eq (n : Nat) (h : n ≤ 1000) : slices_Grow_2_int_2_int (n : Int) = some [] := by
  unfold slices_Grow_2_int_2_int slices_Grow_2_int_2_int_k1
  rw [if_neg (by omega), gd_pos (by omega), gd_pos (by omega)]
  by_cases h0 : n = 0
  · rw [if_neg (by omega)]
  · rw [if_pos (by omega), gd_pos (by omega), gd_pos (by simp)]; rfl
theorem concat_eq (a b : List Arr2) (h : a.length + b.length ≤ 1000) : slices_Concat_2_int_2_int [a, b] = some (a ++ b) := by
  unfold slices_Concat_2_int_2_int
  have e1 : ∀ k, slices_Concat_2_int_2_int_L2 [a, b] (k + 3) 0 0 = slices_Concat_2_int_2_int_k2 [a, b] ((a.length + b.length : Nat) : Int) := by
    intro k
    show slices_Concat_2_int_2_int_B2 [a, b] (slices_Concat_2_int_2_int_L2 [a, b] (k + 2)) 0 0 = _
    unfold slices_Concat_2_int_2_int_B2
    rw [if_pos (by simp), ix0 (x := a) rfl, gd_pos (by omega), if_neg (by omega), gd_pos (by omega)]
    show slices_Concat_2_int_2_int_B2 [a, b] (slices_Concat_2_int_2_int_L2 [a, b] (k + 1)) _ 1 = _
    unfold slices_Concat_2_int_2_int_B2
    rw [if_pos (by simp), ix1 (x := b) rfl, gd_pos (by omega), if_neg (by omega), gd_pos (by omega)]
    show slices_Concat_2_int_2_int_B2 [a, b] (slices_Concat_2_int_2_int_L2 [a, b] k) _ 2 = _
    unfold slices_Concat_2_int_2_int_B2
    rw [if_neg (by simp)]
    congr 1; omega
  have e2 : ∀ k, slices_Concat_2_int_2_int_L1 [a, b] (k + 3) 0 [] = some (a ++ b) := by
    intro k
    show slices_Concat_2_int_2_int_B1 [a, b] (slices_Concat_2_int_2_int_L1 [a, b] (k + 2)) 0 [] = _
    unfold slices_Concat_2_int_2_int_B1
    rw [if_pos (by simp), ix0 (x := a) rfl, gd_pos (by simp; omega), gd_pos (by omega)]
    show slices_Concat_2_int_2_int_B1 [a, b] (slices_Concat_2_int_2_int_L1 [a, b] (k + 1)) 1 _ = _
    unfold slices_Concat_2_int_2_int_B1
    rw [if_pos (by simp), ix1 (x := b) rfl, gd_pos (by simp; omega), gd_pos (by omega)]
    show slices_Concat_2_int_2_int_B1 [a, b] (slices_Concat_2_int_2_int_L1 [a, b] k) 2 _ = _
    unfold slices_Concat_2_int_2_int_B1
    rw [if_neg (by simp)]; rfl
  have f : FU = (FU - 3) + 3 := by have := FU_pos; omega
  rw [f, e1]
  unfold slices_Concat_2_int_2_int_k2
  rw [bnd_eq (grow_eq _ (by omega)), f, e2]
/-- The pairs, from the first step that is no less. -/
theorem pairs_eq {K : Nat} (hK : K ≤ 1000) (rs : Nat → Step) (hn : ∀ k, k < K → rs k ≠ .nil) {k0 : Nat} (h0 : k0 < K) (h1 : (rs k0).isLess = false) (h2 : ∀ k, k < k0 → (rs k).isLess = true) :
    bulk_pairs (tg K rs) = some (tg K fun i => pS (rs ((k0 + (K - i)) % K))) := by
  have at_ : ∀ k, k < K → (tg K rs)[k]? = some (rs k) := fun k hk => tg_at hk
  have len : (tg K rs).length = K := tg_len _ _
  have step1 : ∀ (d n k : Nat), k0 = k + d → d < n → bulk_pairs_L2 (tg K rs) n (k : Int) = bulk_pairs_L1 (tg K rs) (k0 : Int) FU 0 [] := by
    intro d
    induction d with
    | zero =>
      intro n k hd hn
      obtain ⟨n, rfl⟩ : ∃ q, n = q + 1 := ⟨n - 1, by omega⟩
      obtain rfl : k0 = k := by omega
      show bulk_pairs_B2 (tg K rs) (bulk_pairs_L2 (tg K rs) n) _ = _
      unfold bulk_pairs_B2
      rw [if_pos (by rw [len]; omega), ix_nat (at_ _ h0), if_neg (by rw [h1]; simp)]
    | succ d ih =>
      intro n k hd hn
      obtain ⟨n, rfl⟩ : ∃ q, n = q + 1 := ⟨n - 1, by omega⟩
      show bulk_pairs_B2 (tg K rs) (bulk_pairs_L2 (tg K rs) n) _ = _
      unfold bulk_pairs_B2 bulk_pairs_k2
      rw [if_pos (by rw [len]; omega), ix_nat (at_ k (by omega)), if_pos (h2 k (by omega)), gd_pos (by omega)]
      exact ih n (k + 1) (by omega) (by omega)
  have step2 : bulk_pairs_L1 (tg K rs) (k0 : Int) FU 0 [] = bulk_pairs_k3 (tg K fun i => pS (rs ((k0 + i) % K))) := by
    refine for0 K (fun i => tg i fun i => pS (rs ((k0 + i) % K))) (fun k s i => bulk_pairs_L1 (tg K rs) (k0 : Int) k i s) _ rfl (fun k i hi => ?_) (fun k => ?_) (by omega)
    · have hm : (k0 + i) % K < K := Nat.mod_lt _ (by omega)
      have e1 : Int.tmod ((k0 : Int) + (i : Int)) ((tg K rs).length : Int) = (((k0 + i) % K : Nat) : Int) := by
        rw [len]
        have := tmod_nat (k0 + i) K
        rw [← this]; congr 1
      have hne := hn _ hm
      show bulk_pairs_B1 (tg K rs) (k0 : Int) (bulk_pairs_L1 (tg K rs) (k0 : Int) k) _ _ = _
      unfold bulk_pairs_B1 bulk_pairs_k4
      rw [if_pos (by rw [len]; omega), gd_pos (by omega), e1, gd_pos ⟨by rw [len]; omega, by omega⟩, ix_nat (at_ _ hm)]
      have push := tg_push i (fun i => pS (rs ((k0 + i) % K)))
      cases hx : rs ((k0 + i) % K) with
      | nil => exact absurd hx hne
      | i_more x =>
        rw [hx] at push
        rw [if_pos (by rfl), gd_pos (by rw [tg_len]; simp; omega), gd_pos (by omega)]
        exact congrArg (bulk_pairs_L1 (tg K rs) (k0 : Int) k _) push
      | i_less x =>
        rw [hx] at push
        rw [if_neg (by simp [Step.isMore]), if_pos (by rfl), gd_pos (by rw [tg_len]; simp; omega), gd_pos (by omega)]
        exact congrArg (bulk_pairs_L1 (tg K rs) (k0 : Int) k _) push
    · show bulk_pairs_B1 (tg K rs) (k0 : Int) (bulk_pairs_L1 (tg K rs) (k0 : Int) k) _ _ = _
      unfold bulk_pairs_B1
      rw [if_neg (by rw [len]; omega)]
  unfold bulk_pairs
  have s1 := step1 k0 FU 0 (by omega) (by have := FU_pos; omega)
  rw [show ((0 : Nat) : Int) = 0 from rfl] at s1
  rw [s1, step2]
  unfold bulk_pairs_k3 bulk_pairs_k1
  have lo : (tg K fun i => pS (rs ((k0 + i) % K))).length = K := tg_len _ _
  rw [bnd_eq (revA_eq _ (by rw [lo]; omega)), lo, gd_pos (by omega), gd_pos (by rw [List.length_reverse, lo]; omega), gd_pos (by omega), gd_pos (by rw [List.length_reverse, lo]; omega)]
  have e2 : Int.toNat ((K : Int) - 1) = K - 1 := by omega
  rw [e2, bnd_eq (concat_eq _ _ (by rw [List.length_drop, List.length_take, List.length_reverse, lo]; omega))]
  congr 1
  apply List.ext_getElem?
  intro i
  by_cases hi : i < K
  · rw [tg_at hi, List.getElem?_append]
    have l1 : ((tg K fun i => pS (rs ((k0 + i) % K))).reverse.drop (K - 1)).length = 1 := by rw [List.length_drop, List.length_reverse, lo]; omega
    by_cases hz : i = 0
    · subst hz
      rw [l1, if_pos (by omega), List.getElem?_drop, List.getElem?_reverse (by rw [lo]; omega), lo, show K - 1 - (K - 1 + 0) = 0 by omega, tg_at (by omega)]
      rw [show k0 + (K - 0) = k0 + K by omega, Nat.add_mod_right, Nat.add_zero]
    · rw [l1, if_neg (by omega), List.getElem?_take, if_pos (by omega), List.getElem?_reverse (by rw [lo]; omega), lo, tg_at (by omega), show K - 1 - (i - 1) = K - i by omega]
  · rw [List.getElem?_eq_none (by rw [List.length_append, List.length_drop, List.length_take, List.length_reverse, lo]; omega), List.getElem?_eq_none (by rw [tg_len]; omega)]
section
variable {t : Trade} {f : Nat → Nat → Int} {s : BS} {z K : Nat}
/-- Every edge by which a node was reached is one that the plan allows. -/
def Mem (t : Trade) (f : Nat → Nat → Int) (s : BS) : Prop := ∀ v e, s.by_ v = some e → e ∈ eds t f ∧ e.v = v
/-- What a node on a round is. -/
theorem node (hm : Mem t f s) {x : Nat} (hx : s.by_ x ≠ none) :
    (∃ i j, i < t.supply.length ∧ j < t.demand.length ∧ x = t.supply.length + j ∧ pre s x = i ∧ ce s x = cc t i j ∧ pO t (s.by_ x) = ⟨(i : Int), (j : Int)⟩ ∧ s.by_ x = some ⟨i, t.supply.length + j, cc t i j⟩) ∨
    (∃ i j, i < t.supply.length ∧ j < t.demand.length ∧ x = i ∧ pre s x = t.supply.length + j ∧ ce s x = -cc t i j ∧ 0 < f i j ∧ pO t (s.by_ x) = ⟨(i : Int), (j : Int)⟩ ∧ s.by_ x = some ⟨t.supply.length + j, i, -cc t i j⟩) := by
  cases hb : s.by_ x with
  | none => exact absurd hb hx
  | some e =>
    obtain ⟨h1, h2⟩ := hm _ _ hb
    obtain ⟨p1, p2⟩ := pre_some hb
    obtain ⟨i, j, hi, hj, rfl | ⟨rfl, h0⟩⟩ := eds_mem.1 h1
    · left
      refine ⟨i, j, hi, hj, h2.symm, p1, p2, ?_, rfl⟩
      show pairE t ⟨i, t.supply.length + j, cc t i j⟩ = _
      unfold pairE
      rw [if_pos hi]
      show (⟨(i : Int), ((t.supply.length + j : Nat) : Int) - (t.supply.length : Int)⟩ : Arr2) = _
      congr 1; omega
    · right
      refine ⟨i, j, hi, hj, h2.symm, p1, p2, h0, ?_, rfl⟩
      show pairE t ⟨t.supply.length + j, i, -cc t i j⟩ = _
      unfold pairE
      rw [if_neg (by show ¬ (t.supply.length + j < t.supply.length); omega)]
      show (⟨(i : Int), ((t.supply.length + j : Nat) : Int) - (t.supply.length : Int)⟩ : Arr2) = _
      congr 1; omega
def rdL (t : Trade) (s : BS) (z K : Nat) : List Arr2 := tg K fun i => pO t (s.by_ (itp s i z))
theorem rdL_len : (rdL t s z K).length = K := tg_len _ _
/-- Nodes at even places are buyers, at odd ones stores. -/
theorem rd_even (hm : Mem t f s) (h : Rd s z K) (hz : t.supply.length ≤ z) : ∀ k, (k % 2 = 0 → t.supply.length ≤ itp s k z) ∧ (k % 2 = 1 → itp s k z < t.supply.length)
  | 0 => ⟨fun _ => hz, fun h => by omega⟩
  | k + 1 => by
    obtain ⟨h0, h1⟩ := rd_even hm h hz k
    rcases node hm (h.alive k) with ⟨i, j, hi, hj, e1, e2, _⟩ | ⟨i, j, hi, hj, e1, e2, _⟩
    · show ((k + 1) % 2 = 0 → t.supply.length ≤ pre s (itp s k z)) ∧ ((k + 1) % 2 = 1 → pre s (itp s k z) < t.supply.length)
      rw [e2]
      exact ⟨fun hk => by have := h1 (by omega); omega, fun _ => hi⟩
    · show ((k + 1) % 2 = 0 → t.supply.length ≤ pre s (itp s k z)) ∧ ((k + 1) % 2 = 1 → pre s (itp s k z) < t.supply.length)
      rw [e2]
      exact ⟨fun _ => by omega, fun hk => by have := h0 (by omega); omega⟩
theorem rd_pair (hm : Mem t f s) (h : Rd s z K) (hz : t.supply.length ≤ z) (k : Nat) (hk : k < K) : ∃ i j, i < t.supply.length ∧ j < t.demand.length ∧ pr (rdL t s z K) k = ⟨(i : Int), (j : Int)⟩ ∧
    (k % 2 = 0 → itp s k z = t.supply.length + j ∧ itp s (k + 1) z = i ∧ ce s (itp s k z) = cc t i j) ∧ (k % 2 = 1 → itp s k z = i ∧ itp s (k + 1) z = t.supply.length + j ∧ ce s (itp s k z) = -cc t i j ∧ 0 < f i j) := by
  have hp : pr (rdL t s z K) k = pO t (s.by_ (itp s k z)) := pr_of (tg_at hk)
  obtain ⟨h0, h1⟩ := rd_even hm h hz k
  rcases node hm (h.alive k) with ⟨i, j, hi, hj, e1, e2, e3, e4, _⟩ | ⟨i, j, hi, hj, e1, e2, e3, e5, e4, _⟩
  · exact ⟨i, j, hi, hj, by rw [hp, e4], fun _ => ⟨e1, e2, e3⟩, fun hk1 => by have := h1 hk1; omega⟩
  · exact ⟨i, j, hi, hj, by rw [hp, e4], fun hk0 => by have := h0 hk0; omega, fun _ => ⟨e1, e2, e3, e5⟩⟩
theorem rd_in (hm : Mem t f s) (h : Rd s z K) (hz : t.supply.length ≤ z) : InPairs t (rdL t s z K) := by
  intro k hk
  rw [rdL_len] at hk
  obtain ⟨i, j, hi, hj, e, _⟩ := rd_pair hm h hz k hk
  rw [e]
  exact ⟨⟨by show (0 : Int) ≤ (i : Int); omega, by show (i : Int) < _; omega⟩, ⟨by show (0 : Int) ≤ (j : Int); omega, by show (j : Int) < _; omega⟩⟩
theorem rd_sb (hm : Mem t f s) (h : Rd s z K) (hz : t.supply.length ≤ z) (k : Nat) (hk : k < K) :
    (k % 2 = 0 → itp s k z = t.supply.length + bN (rdL t s z K) k ∧ itp s (k + 1) z = sN (rdL t s z K) k ∧ ce s (itp s k z) = cc t (sN (rdL t s z K) k) (bN (rdL t s z K) k)) ∧
    (k % 2 = 1 → itp s k z = sN (rdL t s z K) k ∧ itp s (k + 1) z = t.supply.length + bN (rdL t s z K) k ∧ ce s (itp s k z) = -cc t (sN (rdL t s z K) k) (bN (rdL t s z K) k) ∧ 0 < f (sN (rdL t s z K) k) (bN (rdL t s z K) k)) := by
  obtain ⟨i, j, hi, hj, e, a, b⟩ := rd_pair hm h hz k hk
  have e1 : sN (rdL t s z K) k = i := by unfold sN; rw [e]; rfl
  have e2 : bN (rdL t s z K) k = j := by unfold bN; rw [e]; rfl
  rw [e1, e2]
  exact ⟨a, b⟩
theorem rd_mod2 (hm : Mem t f s) (h : Rd s z K) (hz : t.supply.length ≤ z) : K % 2 = 0 := by
  have := (rd_even hm h hz K).2
  rw [h.per] at this
  by_cases h1 : K % 2 = 1
  · have := this h1; omega
  · omega
theorem rd_four (hm : Mem t f s) (h : Rd s z K) (hz : t.supply.length ≤ z) (hneg : itc s K z < 0) : 4 ≤ K := by
  have h2 := rd_mod2 hm h hz
  have hp := h.pos
  by_cases hK : K = 2
  · subst hK
    exfalso
    obtain ⟨a, _⟩ := rd_pair hm h hz 0 (by omega)
    obtain ⟨i, j, hi, hj, e, a, _⟩ := rd_pair hm h hz 0 (by omega)
    obtain ⟨i', j', hi', hj', e', _, b⟩ := rd_pair hm h hz 1 (by omega)
    have a := a rfl
    have b := b rfl
    have per : itp s (1 + 1) z = z := h.per
    have z0 : itp s 0 z = z := rfl
    have i1 : i' = i := by rw [← b.1]; exact a.2.1
    have j1 : j' = j := by
      have := b.2.1
      rw [per] at this
      rw [z0] at a
      omega
    subst i1 j1
    have : itc s 2 z = 0 + ce s (itp s 0 z) + ce s (itp s 1 z) := rfl
    rw [a.2.2, b.2.2.1] at this
    omega
  · omega
theorem rd_round (hm : Mem t f s) (h : Rd s z K) (hz : t.supply.length ≤ z) (hneg : itc s K z < 0) : roundB (rdL t s z K) = true := by
  have h2 := rd_mod2 hm h hz
  have h4 := rd_four hm h hz hneg
  have len := rdL_len (t := t) (s := s) (z := z) (K := K)
  have inp := rd_in hm h hz
  have sb := rd_sb hm h hz
  unfold roundB
  rw [len, decide_eq_true h4, decide_eq_true h2, Bool.true_and, Bool.true_and, decide_eq_true_eq]
  intro k hk
  unfold rndAt
  rw [len]
  have wrap : itp s ((k + 1) % K) z = itp s (k + 1) z ∧ itp s ((k + 1) % K + 1) z = itp s (k + 1 + 1) z := by
    by_cases hw : k + 1 = K
    · rw [hw, Nat.mod_self]
      refine ⟨h.per.symm, ?_⟩
      have := h.more 1
      rw [← this, Nat.add_comm]
    · rw [Nat.mod_eq_of_lt (by omega)]; exact ⟨rfl, rfl⟩
  have hk' : (k + 1) % K < K := Nat.mod_lt _ (by omega)
  have par : (k + 1) % K % 2 = (k + 1) % 2 := by
    by_cases hw : k + 1 = K
    · rw [hw, Nat.mod_self]; omega
    · rw [Nat.mod_eq_of_lt (show k + 1 < K by omega)]
  have n1 := in_nat inp (k := k) (by omega)
  have n2 := in_nat inp (k := (k + 1) % K) (by omega)
  rw [Bool.and_eq_true]
  constructor
  · rw [decide_eq_true_eq]
    unfold side
    by_cases h0 : k % 2 = 0
    · rw [if_pos h0, if_pos h0, ← n1.2.2.1, ← n2.2.2.1]
      have a := (sb k hk).1 h0
      have b := (sb _ hk').2 (by omega)
      rw [wrap.1] at b
      rw [← a.2.1, ← b.1]
    · rw [if_neg h0, if_neg h0, ← n1.2.2.2, ← n2.2.2.2]
      have a := (sb k hk).2 (by omega)
      have b := (sb _ hk').1 (by omega)
      rw [wrap.1] at b
      have := a.2.1.symm.trans b.1
      omega
  · rw [Bool.not_eq_true', Bool.eq_false_iff]
    intro hc
    obtain ⟨i, hi, he⟩ := (memA_take (by omega) _).1 hc
    have e := eqA_iff.1 he
    have s1 : sN (rdL t s z K) i = sN (rdL t s z K) k := by unfold sN; rw [e]
    have b1 : bN (rdL t s z K) i = bN (rdL t s z K) k := by unfold bN; rw [e]
    have ai := sb i (by omega)
    have ak := sb k hk
    by_cases pi : i % 2 = 0
    · by_cases pk : k % 2 = 0
      · exact h.inj i k hi hk (by rw [(ai.1 pi).1, (ak.1 pk).1, b1])
      · have x := ai.1 pi
        have y := ak.2 (by omega)
        by_cases hik : i + 1 = k
        · -- then two steps lead back
          have e3 : itp s (k + 1) z = itp s i z := by rw [y.2.1, x.1, b1]
          by_cases hw : k + 1 = K
          · rw [hw, h.per] at e3
            have z0 : itp s 0 z = z := rfl
            exact h.inj 0 i (by omega) (by omega) (by rw [z0]; exact e3)
          · exact h.inj i (k + 1) (by omega) (by omega) e3.symm
        · exact h.inj (i + 1) k (by omega) hk (by rw [x.2.1, y.1, s1])
    · by_cases pk : k % 2 = 0
      · have x := ai.2 (by omega)
        have y := ak.1 pk
        by_cases hik : i + 1 = k
        · have e3 : itp s (k + 1) z = itp s i z := by rw [y.2.1, x.1, s1]
          exact h.inj i (k + 1) (by omega) (by omega) e3.symm
        · exact h.inj (i + 1) k (by omega) hk (by rw [x.2.1, y.1, b1])
      · exact h.inj i k hi hk (by rw [(ai.2 (by omega)).1, (ak.2 (by omega)).1, s1])
theorem sumN_one (a : Nat) (y : Int) (n : Nat) : sumN n (fun i => if i = a then y else 0) = if a < n then y else 0 := by
  have := sumN_upd (g := fun _ => 0) (k := a) (v := y) n
  rw [sumN_zero] at this
  rw [this]; split <;> omega
theorem cost_upd {f : Nat → Nat → Int} {a b : Nat} {x : Int} (ha : a < t.supply.length) (hb : b < t.demand.length) : costF t (fun i j => if i = a ∧ j = b then f i j + x else f i j) = costF t f + x * cc t a b := by
  have e : costF t (fun i j => if i = a ∧ j = b then f i j + x else f i j) = sumN t.supply.length fun i => sumN t.demand.length (fun j => f i j * cc t i j) + (if i = a then x * cc t a b else 0) := by
    unfold costF
    refine sumN_congr _ fun i _ => ?_
    by_cases hi : i = a
    · subst hi
      rw [if_pos rfl]
      have e2 : sumN t.demand.length (fun j => if j = b then x * cc t i b else 0) = x * cc t i b := by rw [sumN_one, if_pos hb]
      rw [← e2, ← sumN_add]
      refine sumN_congr _ fun j _ => ?_
      show (if i = i ∧ j = b then f i j + x else f i j) * cc t i j = f i j * cc t i j + _
      by_cases hj : j = b
      · subst hj; rw [if_pos ⟨rfl, rfl⟩, if_pos rfl, Int.add_mul]
      · rw [if_neg (fun h => hj h.2), if_neg hj]; omega
    · rw [if_neg hi, Int.add_zero]
      refine sumN_congr _ fun j _ => ?_
      show (if i = a ∧ j = b then f i j + x else f i j) * cc t i j = f i j * cc t i j
      rw [if_neg (fun h => hi h.1)]
  rw [e, sumN_add, sumN_one, if_pos ha]; rfl
theorem rd_cost (hm : Mem t f s) (h : Rd s z K) (hz : t.supply.length ≤ z) (n : Int) : ∀ k, k ≤ K → costF t (fK f (rdL t s z K) n k) = costF t f + n * itc s k z
  | 0, _ => by simp [fK, itc]
  | k + 1, hk => by
    have ih := rd_cost hm h hz n k (by omega)
    have inp := rd_in hm h hz
    have nn := in_nat inp (k := k) (by rw [rdL_len]; omega)
    have sb := rd_sb hm h hz k (by omega)
    have e : costF t (fK f (rdL t s z K) n (k + 1)) = costF t (fK f (rdL t s z K) n k) + sgn k * n * cc t (sN (rdL t s z K) k) (bN (rdL t s z K) k) := cost_upd nn.1 nn.2.1
    rw [e, ih]
    show _ = costF t f + n * (itc s k z + ce s (itp s k z))
    rw [Int.mul_add]
    by_cases h0 : k % 2 = 0
    · rw [(sb.1 h0).2.2]
      unfold sgn
      rw [if_pos h0, Int.one_mul]; omega
    · rw [(sb.2 (by omega)).2.2.1]
      unfold sgn
      rw [if_neg h0, show (-1 : Int) * n = -n by omega, Int.neg_mul, Int.mul_neg]; omega
theorem rd_amount (hm : Mem t f s) (h : Rd s z K) (hz : t.supply.length ≤ z) (h4 : 4 ≤ K) : ∀ k, k ≤ K → 1 ≤ mN f (rdL t s z K) k
  | 0, _ => by
    have := ((rd_sb hm h hz 1 (by omega)).2 rfl).2.2.2
    show 1 ≤ f (sN (rdL t s z K) 1) (bN (rdL t s z K) 1)
    omega
  | k + 1, hk => by
    have ih := rd_amount hm h hz h4 k (by omega)
    simp only [mN]
    split
    · rename_i h1
      have := ((rd_sb hm h hz k (by omega)).2 h1).2.2.2
      omega
    · exact ih
end
end Go.D7

set_option linter.unusedVariables false
set_option linter.unusedSimpArgs false
namespace Go.D7
open Go.Tb
/-- Heights that no step improves, in bounds. -/
structure Stable (t : Trade) (f : Nat → Nat → Int) (d : Nat → Int) : Prop where
  le : ∀ e ∈ eds t f, d e.v ≤ d e.u + e.c
  bnd : ∀ v, v < nN t → -1000 ≤ d v ∧ d v ≤ 0
section
variable {t : Trade} {f : Nat → Nat → Int}
theorem sK_inv (k : Nat) : InvE (fun e => e ∈ eds t f) FAR (fun _ => 0) (sK t f k) :=
  rnds_inv start_inv (fun e he => ⟨he, eds_ne he⟩) k
theorem sK_mem (k : Nat) : Mem t f (sK t f k) := by
  obtain ⟨T, τ, h⟩ := sK_inv (t := t) (f := f) k
  exact fun v e he => ⟨(h.mem v e he).1, (h.mem v e he).2.1⟩
theorem sK_u (k : Nat) : ∀ v e, (sK t f k).by_ v = some e → e.u < nN t := fun v e he => (eds_lt (sK_mem k v e he).1).1
theorem stable_of (ht : okT t = true) (k : Nat) (hk : k ≤ 9) (h : ∀ e ∈ eds t f, (sK t f k).d e.v ≤ (sK t f k).d e.u + e.c) : Stable t f (sK t f k).d := by
  refine ⟨h, fun v hv => ⟨?_, (sK_bnd ht k hk v).2⟩⟩
  have h1 := (okT_spec ht).1.2.1
  have h2 := (okT_spec ht).2.1.2.1
  have hN : nN t = t.supply.length + t.demand.length := rfl
  obtain ⟨q, hq, hn, ha⟩ := alive_root (N := nN t) (sK_u k) (sK_inv k) (P := (sK t f k).d) (fun v e he => by
    obtain ⟨m1, m2⟩ := sK_mem k v e he
    have := h e m1
    rwa [m2] at this) hv
  obtain ⟨T, τ, hi⟩ := sK_inv (t := t) (f := f) k
  have l := (itp_low hi v q ha).1
  have z := hi.nil _ hn
  have z' : (sK t f k).d (itp (sK t f k) q v) = 0 := z
  have key : ∀ j : Nat, -99 * (j : Int) ≤ itc (sK t f k) j v := by
    intro j
    induction j with
    | zero => simp [itc]
    | succ j ih =>
      have : -99 ≤ ce (sK t f k) (itp (sK t f k) j v) := by
        unfold ce
        split
        · rename_i e he
          exact (eds_cost ht (sK_mem k _ e he).1).1
        · decide
      show _ ≤ itc (sK t f k) j v + ce (sK t f k) (itp (sK t f k) j v)
      omega
  have := key q
  omega
theorem step_by {t : Trade} {s : BS} {x : Nat} (hx : x < nN t) : (bsB t s)[x]? = some (sO t (s.by_ x)) := tg_at hx
/-- The round is collected. -/
theorem collect (ht : okT t = true) {s : BS} {b K : Nat} (hm : Mem t f s) (hb : b < nN t) (h : Rd s b K) (hK : K ≤ 8) (l1 : List Int) : bulk_search_L1 t l1 (bsB t s) (b : Int) FU (b : Int) [] = bulk_search_k1 l1 (tg K fun i => sO t (s.by_ (itp s i b))) := by
  have hu : ∀ v e, s.by_ v = some e → e.u < nN t := fun v e he => (eds_lt (hm v e he).1).1
  have key : ∀ (d n j : Nat), K = j + d → d < n → bulk_search_L1 t l1 (bsB t s) (b : Int) n ((itp s j b : Nat) : Int) (tg j fun i => sO t (s.by_ (itp s i b))) = bulk_search_k1 l1 (tg K fun i => sO t (s.by_ (itp s i b))) := by
    intro d
    induction d with
    | zero =>
      intro n j hd hn
      obtain ⟨n, rfl⟩ : ∃ k, n = k + 1 := ⟨n - 1, by omega⟩
      obtain rfl : K = j := by omega
      show bulk_search_B1 t l1 (bsB t s) (b : Int) (bulk_search_L1 t l1 (bsB t s) (b : Int) n) _ _ = _
      unfold bulk_search_B1 bulk_search_k2
      have := h.pos
      rw [if_neg (by rw [tg_len]; omega), h.per, decide_eq_true rfl, if_neg (by simp)]
    | succ d ih =>
      intro n j hd hn
      obtain ⟨n, rfl⟩ : ∃ k, n = k + 1 := ⟨n - 1, by omega⟩
      have hx := itp_lt hu hb j
      have go : bulk_search_k2 t l1 (bsB t s) ((itp s j b : Nat) : Int) (tg j fun i => sO t (s.by_ (itp s i b))) (bulk_search_L1 t l1 (bsB t s) (b : Int) n) true = bulk_search_k1 l1 (tg K fun i => sO t (s.by_ (itp s i b))) := by
        unfold bulk_search_k2
        cases hby : s.by_ (itp s j b) with
        | none => exact absurd hby (h.alive j)
        | some e =>
          have g := step_by (s := s) hx
          rw [hby] at g
          rw [if_pos rfl, ix_nat g, gd_pos (by rw [tg_len]; simp; omega), ix_nat g]
          show bnd (bulk_ends t (sE t e)) _ = _
          rw [bnd_eq (ends_eq ht (hm _ _ hby).1)]
          have push := tg_push j (fun i => sO t (s.by_ (itp s i b)))
          have := ih n (j + 1) (by omega) (by omega)
          rw [← push] at this
          have e1 : itp s (j + 1) b = e.u := (pre_some hby).1
          rw [e1] at this
          have e2 : sO t (s.by_ (itp s j b)) = sE t e := by rw [hby]; rfl
          rw [e2] at this
          exact this
      show bulk_search_B1 t l1 (bsB t s) (b : Int) (bulk_search_L1 t l1 (bsB t s) (b : Int) n) _ _ = _
      unfold bulk_search_B1
      by_cases hj : j = 0
      · subst hj
        rw [if_pos (by simp [tg])]
        exact go
      · have ne : itp s j b ≠ b := fun hc => h.inj 0 j (by omega) (by omega) hc.symm
        rw [if_neg (by rw [tg_len]; omega), decide_eq_false (fun hc => ne (by omega))]
        exact go
  exact key K FU 0 (by omega) (by have := FU_pos; omega)
theorem rev_tg {α : Type} (K : Nat) (g : Nat → α) : (tg K g).reverse = tg K fun i => g (K - 1 - i) := by
  apply List.ext_getElem?
  intro i
  by_cases hi : i < K
  · rw [List.getElem?_reverse (by rw [tg_len]; exact hi), tg_len, tg_at (by omega), tg_at hi]
  · rw [List.getElem?_eq_none (by rw [List.length_reverse, tg_len]; omega), List.getElem?_eq_none (by rw [tg_len]; omega)]
theorem late_round (ht : okT t = true) {v : Nat} (hv : v < nN t) (hs : (sK t f (nN t)).last = (v : Int)) (hlt : (sK t f (nN t)).d v < (sK t f (nN t - 1)).d v) :
    ∃ r L, bulk_search_k4 t (sK t f (nN t)).last (bsL t (sK t f (nN t))) (bsB t (sK t f (nN t))) = some (bsL t (sK t f (nN t)), r) ∧ r ≠ [] ∧ bulk_pairs r = some L ∧ InPairs t L ∧ roundB L = true ∧ L.length ≤ 8 ∧ 1 ≤ mN f L L.length ∧ costF t (fK f L (mN f L L.length) L.length) < costF t f := by
  have h1 := (okT_spec ht).1
  have h2 := (okT_spec ht).2.1
  have hN : nN t = t.supply.length + t.demand.length := rfl
  have alive : ∀ k, k ≤ nN t - 1 → (sK t f (nN t)).by_ (itp (sK t f (nN t)) k v) ≠ none := by
    have := late_alive (L := eds t f) (far := FAR) (s0 := s0) (R := nN t - 1) (fun e he => eds_ne he) rfl (fun k v C hk w => by
      have := W_bnd (M := 99) (fun e he => (eds_cost ht he).2) (fun v _ => Int.le_refl _) w
      have hF : FAR = 1073741824 := rfl
      omega) (v := v) (by
        rw [show nN t - 1 + 1 = nN t by omega]; exact hlt) (by
        rw [show nN t - 1 + 1 = nN t by omega]
        have := (sK_bnd (f := f) ht (nN t) (by omega) v).2
        have hF : FAR = 1073741824 := rfl
        show (sK t f (nN t)).d v < FAR
        omega)
    rw [show nN t - 1 + 1 = nN t by omega] at this
    exact this
  have hmem := sK_mem (t := t) (f := f) (nN t)
  have hu := sK_u (t := t) (f := f) (nN t)
  have hinv := sK_inv (t := t) (f := f) (nN t)
  generalize hS : sK t f (nN t) = S at *
  obtain ⟨K, hK, hR⟩ := rd_of (N := nN t) hu hv (fun k hk => alive k (by omega))
  have hb : itp S (nN t) v < nN t := itp_lt hu hv _
  generalize hB : itp S (nN t) v = b at *
  -- the way back
  have w2 : bulk_search_k4 t S.last (bsL t S) (bsB t S) = bulk_search_k3 t (bsL t S) (bsB t S) (b : Int) := by
    unfold bulk_search_k4
    rw [hs, if_neg (by omega)]
    refine for0 (nN t) (fun k => itp S k v) (fun k x j => bulk_search_L2 t (bsL t S) (bsB t S) k ((x : Nat) : Int) j) _ (s0 := v) rfl (fun k j hj => ?_) (fun k => ?_) (by omega)
    · show bulk_search_B2 t (bsL t S) (bsB t S) (bulk_search_L2 t (bsL t S) (bsB t S) k) _ _ = _
      unfold bulk_search_B2
      cases hby : S.by_ (itp S j v) with
      | none => exact absurd hby (alive j (by omega))
      | some e =>
        have g := step_by (t := t) (s := S) (itp_lt hu hv j)
        rw [hby] at g
        rw [if_pos (by omega), ix_nat g]
        show bnd (bulk_ends t (sE t e)) _ = _
        rw [bnd_eq (ends_eq ht (hmem _ _ hby).1), gd_pos (by omega)]
        have e1 : itp S (j + 1) v = e.u := (pre_some hby).1
        rw [e1]; rfl
    · show bulk_search_B2 t (bsL t S) (bsB t S) (bulk_search_L2 t (bsL t S) (bsB t S) k) _ _ = _
      unfold bulk_search_B2
      rw [if_neg (by omega), hB]
  have hK8 : K ≤ 8 := by omega
  have w3 : bulk_search_k4 t S.last (bsL t S) (bsB t S) = some (bsL t S, tg K fun k => sO t (S.by_ (itp S (K - 1 - k) b))) := by
    rw [w2]
    unfold bulk_search_k3
    rw [collect ht hmem hb hR hK8]
    unfold bulk_search_k1
    rw [bnd_eq (revS_eq _ (by rw [tg_len]; omega)), rev_tg, gd_pos]
    intro hc
    have := congrArg List.length hc
    rw [tg_len] at this
    have := hR.pos
    simp at *
    omega
  -- a buyer on the round
  have one : K ≠ 1 := fun hc => by
    subst hc
    have p : itp S 1 b = b := hR.per
    have p' : pre S b = b := p
    rcases node hmem (hR.alive 0) with ⟨i, j, hi, hj, e1, e2, _⟩ | ⟨i, j, hi, hj, e1, e2, _⟩
    · have e1' : b = t.supply.length + j := e1
      have e2' : pre S b = i := e2
      omega
    · have e1' : b = i := e1
      have e2' : pre S b = t.supply.length + j := e2
      omega
  have hpos := hR.pos
  have buyer : ∃ i0, i0 < K ∧ t.supply.length ≤ itp S i0 b := by
    rcases node hmem (hR.alive 0) with ⟨i, j, hi, hj, e1, e2, _⟩ | ⟨i, j, hi, hj, e1, e2, _⟩
    · exact ⟨0, by omega, by show t.supply.length ≤ b; have e1' : b = t.supply.length + j := e1; omega⟩
    · exact ⟨1, by omega, by show t.supply.length ≤ pre S b; have e2' : pre S b = t.supply.length + j := e2; omega⟩
  have isL : ∀ x, S.by_ x ≠ none → ((sO t (S.by_ x)).isLess = false ↔ t.supply.length ≤ x) := by
    intro x hx
    rcases node hmem hx with ⟨i, j, hi, hj, e1, _, _, _, e2⟩ | ⟨i, j, hi, hj, e1, _, _, _, _, e2⟩
    · rw [e2]
      show (sE t ⟨i, t.supply.length + j, cc t i j⟩).isLess = false ↔ _
      rw [sE_more hi]
      simp [Step.isLess]; omega
    · rw [e2]
      show (sE t ⟨t.supply.length + j, i, -cc t i j⟩).isLess = false ↔ _
      rw [sE_less hi]
      simp [Step.isLess]; omega
  obtain ⟨i0, hi0, hb0⟩ := buyer
  obtain ⟨k0, q1, q2, q3⟩ := least_ (p := fun k => (sO t (S.by_ (itp S (K - 1 - k) b))).isLess = false) (K - 1 - i0) (by
    show (sO t (S.by_ (itp S (K - 1 - (K - 1 - i0)) b))).isLess = false
    rw [show K - 1 - (K - 1 - i0) = i0 by omega]
    exact (isL _ (hR.alive _)).2 hb0)
  have hz := (isL _ (hR.alive _)).1 q1
  have hR2 := hR.turn (j := K - 1 - k0) (by omega)
  have hpairs := pairs_eq (K := K) (by omega) (fun k => sO t (S.by_ (itp S (K - 1 - k) b))) (fun k hk hc => by
    rcases node hmem (hR.alive (K - 1 - k)) with ⟨i, j, hi, hj, _, _, _, _, e2⟩ | ⟨i, j, hi, hj, _, _, _, _, _, e2⟩
    · rw [e2] at hc
      have hc' : sE t ⟨i, t.supply.length + j, cc t i j⟩ = Step.nil := hc
      rw [sE_more hi] at hc'; cases hc'
    · rw [e2] at hc
      have hc' : sE t ⟨t.supply.length + j, i, -cc t i j⟩ = Step.nil := hc
      rw [sE_less hi] at hc'; cases hc') (k0 := k0) (by omega) q1 (fun k hk => by
      have := q3 k hk
      cases hx : (sO t (S.by_ (itp S (K - 1 - k) b))).isLess
      · exact absurd hx this
      · rfl)
  have hL : (tg K fun i => pS (sO t (S.by_ (itp S (K - 1 - (k0 + (K - i)) % K) b)))) = rdL t S (itp S (K - 1 - k0) b) K := by
    unfold rdL
    refine tg_congr fun i hi => ?_
    rw [pS_sO, ← itp_add]
    congr 2
    by_cases hik : i ≤ k0
    · rw [show k0 + (K - i) = (k0 - i) + K by omega, Nat.add_mod_right, Nat.mod_eq_of_lt (by omega), show K - 1 - (k0 - i) = K - 1 - k0 + i by omega]
    · rw [Nat.mod_eq_of_lt (by omega), show K - 1 - (k0 + (K - i)) = i - k0 - 1 by omega, show K - 1 - k0 + i = (i - k0 - 1) + K by omega, hR.more]
  rw [hL] at hpairs
  have hneg := cycle_neg hinv hR2.pos (fun i _ => hR2.alive i) hR2.per
  have h4 := rd_four hmem hR2 hz hneg
  have len : (rdL t S (itp S (K - 1 - k0) b) K).length = K := rdL_len
  refine ⟨_, _, w3, fun hc => ?_, hpairs, rd_in hmem hR2 hz, rd_round hmem hR2 hz hneg, by rw [len]; omega, ?_, ?_⟩
  · have := congrArg List.length hc
    rw [tg_len] at this
    simp at this
    omega
  · rw [len]; exact rd_amount hmem hR2 hz h4 K (Nat.le_refl _)
  · rw [len]
    have am := rd_amount hmem hR2 hz h4 K (Nat.le_refl _)
    rw [rd_cost hmem hR2 hz _ K (Nat.le_refl _)]
    have : mN f (rdL t S (itp S (K - 1 - k0) b) K) K * itc S K (itp S (K - 1 - k0) b) ≤ mN f (rdL t S (itp S (K - 1 - k0) b) K) K * (-1) := Int.mul_le_mul_of_nonneg_left (by omega) (by omega)
    omega
/-- What the search returns. -/
theorem search_spec (ht : okT t = true) : (∃ d, bulk_search t (tab t f) = some (tb (nN t) d, []) ∧ Stable t f d) ∨
    (∃ d r L, bulk_search t (tab t f) = some (d, r) ∧ r ≠ [] ∧ bulk_pairs r = some L ∧ InPairs t L ∧ roundB L = true ∧ L.length ≤ 8 ∧ 1 ≤ mN f L L.length ∧ costF t (fK f L (mN f L L.length) L.length) < costF t f) := by
  have h1 := (okT_spec ht).1
  have h2 := (okT_spec ht).2.1
  have hN : nN t = t.supply.length + t.demand.length := rfl
  rw [search_rounds ht]
  have e : sK t f (nN t) = rnd FAR (eds t f) (sK t f (nN t - 1)) := by
    have : nN t = nN t - 1 + 1 := by omega
    conv => lhs; rw [this]
    rfl
  rcases rnd_last (far := FAR) (L := eds t f) (N := nN t) (fun e he => (eds_lt he).2) (sK t f (nN t - 1)) with ⟨a, b⟩ | ⟨v, a, b, c⟩
  · left
    rw [← e] at a b
    refine ⟨(sK t f (nN t)).d, ?_, stable_of ht _ (by omega) ?_⟩
    · unfold bulk_search_k4
      rw [a, if_pos (by decide)]; rfl
    · rw [e] at b
      have := rnd_stable b
      rw [← e] at b
      intro x hx
      rw [b]
      refine this x hx ?_
      have := (sK_bnd (f := f) ht (nN t - 1) (by omega) x.u).2
      have hF : FAR = 1073741824 := rfl
      omega
  · right
    rw [← e] at b c
    obtain ⟨r, L, q⟩ := late_round ht a b c
    exact ⟨_, r, L, q⟩
theorem Stable.cert {d : Nat → Int} (h : Stable t f d) : Cert t f (fun i => -d i) (fun j => d (t.supply.length + j)) := cert_of h.le
theorem best_loop (ht : okT t = true) : ∀ (c fuel : Nat) (f : Nat → Nat → Int), PlanF t f → costF t f < (c : Int) → c ≤ fuel → ∃ g d, PlanF t g ∧ Stable t g d ∧ bulk_best_L1 t fuel (tab t f) = some (tab t g, tb (nN t) d)
  | 0, fuel, f, hp, hc, _ => by have := (costF_bnd ht hp).1; omega
  | c + 1, 0, f, hp, hc, h => by omega
  | c + 1, fuel + 1, f, hp, hc, hf => by
    have hs := (okT_spec ht).1.2.1
    have hd := (okT_spec ht).2.1.2.1
    have e : bulk_best_L1 t (fuel + 1) (tab t f) = bulk_best_B1 t (bulk_best_L1 t fuel) (tab t f) := rfl
    rw [e]
    unfold bulk_best_B1
    rcases search_spec (f := f) ht with ⟨d, h1, h2⟩ | ⟨d, r, L, h1, h2, h3, h4, h5, h6, h7, h8⟩
    · rw [bnd_eq h1, if_pos rfl]
      exact ⟨f, d, hp, h2, rfl⟩
    · have hr := round_spec h4 h5
      rw [bnd_eq h1, if_neg h2, bnd_eq h3, bnd_eq (along_eq ⟨by omega, by omega⟩ (fun i j hi hj => ⟨hp.nn i j, plan_le ht hp hi hj⟩) h4 h6 hr.1)]
      exact best_loop ht c fuel _ (along_plan hp h4 h5) (by omega) (by omega)
theorem best_eq (ht : okT t = true) : ∃ g d, PlanF t g ∧ Stable t g d ∧ bulk_best t = some (tab t g, tb (nN t) d) := by
  obtain ⟨g, hp, h1, _⟩ := corner_eq ht
  have hb := costF_bnd ht hp
  obtain ⟨g', d, a, b, c⟩ := best_loop ht 60000 FU g hp (by omega) (by have := FU_pos; omega)
  refine ⟨g', d, a, b, ?_⟩
  unfold bulk_best
  rw [bnd_eq h1]; exact c
theorem Stable.best {g : Nat → Nat → Int} {d : Nat → Int} (hp : PlanF t g) (h : Stable t g d) : BestF t g := ⟨hp, _, _, h.cert⟩
end
end Go.D7

set_option linter.unusedVariables false
set_option linter.unusedSimpArgs false
namespace Go.D7
open Go.Tb
def up (s : BS) (e : Ed) : BS := ⟨fun x => if x = e.v then s.d e.u + e.c else s.d x, fun x => if x = e.v then some e else s.by_ x, (e.v : Int)⟩
theorem relax_up {far : Int} {s : BS} {e : Ed} (h : s.d e.u < far ∧ s.d e.u + e.c < s.d e.v) : relax far s e = up s e := if_pos h
theorem relax_no {far : Int} {s : BS} {e : Ed} (h : ¬ (s.d e.u < far ∧ s.d e.u + e.c < s.d e.v)) : relax far s e = s := if_neg h
def stL (t : Trade) (s : BS) : List Int := tb t.supply.length s.d
def buL (t : Trade) (s : BS) : List Int := tb t.demand.length fun j => s.d (t.supply.length + j)
def byO (o : Option Ed) : Int := match o with | some e => (e.u : Int) | none => 0
def frO (n : Nat) (o : Option Ed) : Int := match o with | some e => (e.u : Int) - (n : Int) | none => -1
def byL (t : Trade) (s : BS) : List Int := tb t.demand.length fun j => byO (s.by_ (t.supply.length + j))
def frL (t : Trade) (s : BS) : List Int := tb t.supply.length fun i => frO t.supply.length (s.by_ i)
section
variable {t : Trade} {f : Nat → Nat → Int}
theorem rep_more (s : BS) {i j : Nat} {c : Int} (hi : i < t.supply.length) : stL t (up s ⟨i, t.supply.length + j, c⟩) = stL t s ∧ buL t (up s ⟨i, t.supply.length + j, c⟩) = (buL t s).set j (s.d i + c) ∧ byL t (up s ⟨i, t.supply.length + j, c⟩) = (byL t s).set j (i : Int) ∧ frL t (up s ⟨i, t.supply.length + j, c⟩) = frL t s := by
  refine ⟨tb_congr fun k hk => ?_, ?_, ?_, tb_congr fun k hk => ?_⟩
  · show (if k = t.supply.length + j then _ else s.d k) = s.d k
    rw [if_neg (by omega)]
  · unfold buL
    rw [tb_set]
    refine tb_congr fun k hk => ?_
    show (if t.supply.length + k = t.supply.length + j then s.d i + c else s.d (t.supply.length + k)) = _
    by_cases e : k = j
    · rw [if_pos (by omega), if_pos e]
    · rw [if_neg (by omega), if_neg e]
  · unfold byL
    rw [tb_set]
    refine tb_congr fun k hk => ?_
    show byO (if t.supply.length + k = t.supply.length + j then _ else s.by_ (t.supply.length + k)) = _
    by_cases e : k = j
    · rw [if_pos (by omega), if_pos e]; rfl
    · rw [if_neg (by omega), if_neg e]
  · show frO t.supply.length (if k = t.supply.length + j then _ else s.by_ k) = _
    rw [if_neg (by omega)]
theorem rep_less (s : BS) {i j : Nat} {c : Int} (hi : i < t.supply.length) : stL t (up s ⟨t.supply.length + j, i, c⟩) = (stL t s).set i (s.d (t.supply.length + j) + c) ∧ buL t (up s ⟨t.supply.length + j, i, c⟩) = buL t s ∧ byL t (up s ⟨t.supply.length + j, i, c⟩) = byL t s ∧ frL t (up s ⟨t.supply.length + j, i, c⟩) = (frL t s).set i (j : Int) := by
  refine ⟨?_, tb_congr fun k hk => ?_, tb_congr fun k hk => ?_, ?_⟩
  · unfold stL
    rw [tb_set]
    refine tb_congr fun k hk => ?_
    rfl
  · show (if t.supply.length + k = i then _ else s.d (t.supply.length + k)) = s.d (t.supply.length + k)
    rw [if_neg (by omega)]
  · show byO (if t.supply.length + k = i then _ else s.by_ (t.supply.length + k)) = _
    rw [if_neg (by omega)]
  · unfold frL
    rw [tb_set]
    refine tb_congr fun k hk => ?_
    show frO t.supply.length (if k = i then some ⟨t.supply.length + j, i, c⟩ else s.by_ k) = _
    by_cases e : k = i
    · rw [if_pos e, if_pos e]
      show ((t.supply.length + j : Nat) : Int) - (t.supply.length : Int) = (j : Int)
      omega
    · rw [if_neg e, if_neg e]
/-- One cell of a round. -/
theorem ref_cell (ht : okT t = true) {y : BS} (hlo : ∀ v, -1000000 ≤ y.d v) (hhi : ∀ v, y.d v ≤ FAR) {i j : Nat} (hi : i < t.supply.length) (hj : j < t.demand.length) (rec5 rec6 : Int → List Int → List Int → List Int → List Int → Option (List (List Int))) :
    ref07_best_B3 t (tab t f) (i : Int) rec5 rec6 (j : Int) (stL t y) (buL t y) (byL t y) (frL t y) =
      (let z := (⟨i, t.supply.length + j, cc t i j⟩ :: if 0 < f i j then [⟨t.supply.length + j, i, -cc t i j⟩] else []).foldl (relax FAR) y
      rec6 ((j + 1 : Nat) : Int) (stL t z) (buL t z) (byL t z) (frL t z)) := by
  have hs := (okT_spec ht).1.2.1
  have hd := (okT_spec ht).2.1.2.1
  obtain ⟨c1, c2⟩ := tab_spec (okT_spec ht).2.2.2
  have hci := c2 i (by omega)
  have hb := cost_pos ht hi hj
  have hF : FAR = 1073741824 := rfl
  have gc : t.cost[i]? = some (gr t.cost i) := gr_at (by omega)
  have gx : (gr t.cost i)[j]? = some (cc t i j) := gi_at (by omega)
  have gm : (tab t f)[i]? = some (tb t.demand.length (f i)) := tbl_at hi
  have gf : (tb t.demand.length (f i))[j]? = some (f i j) := tb_at hj
  -- the second half
  have second : ∀ z : BS, (∀ v, -2000000 ≤ z.d v) → (∀ v, z.d v ≤ FAR) → ref07_best_k10 t (tab t f) (i : Int) (j : Int) (stL t z) (frL t z) rec6 (buL t z) (byL t z) =
      rec6 ((j + 1 : Nat) : Int) (stL t ((if 0 < f i j then [⟨t.supply.length + j, i, -cc t i j⟩] else []).foldl (relax FAR) z)) (buL t ((if 0 < f i j then [⟨t.supply.length + j, i, -cc t i j⟩] else []).foldl (relax FAR) z))
        (byL t ((if 0 < f i j then [⟨t.supply.length + j, i, -cc t i j⟩] else []).foldl (relax FAR) z)) (frL t ((if 0 < f i j then [⟨t.supply.length + j, i, -cc t i j⟩] else []).foldl (relax FAR) z)) := by
    intro z zlo zhi
    have gb : (buL t z)[j]? = some (z.d (t.supply.length + j)) := tb_at hj
    have gs : (stL t z)[i]? = some (z.d i) := tb_at hi
    have gr_ : (frL t z)[i]? = some (frO t.supply.length (z.by_ i)) := tb_at hi
    have l1 := zlo (t.supply.length + j)
    have l2 := zhi (t.supply.length + j)
    have no : ref07_best_k9 t (i : Int) (j : Int) (stL t z) (frL t z) rec6 (buL t z) (byL t z) false = rec6 ((j + 1 : Nat) : Int) (stL t z) (buL t z) (byL t z) (frL t z) := by
      unfold ref07_best_k9 ref07_best_k8
      rw [if_neg (by simp), gd_pos (by omega)]; rfl
    unfold ref07_best_k10
    rw [ix_nat gb]
    by_cases hfar : z.d (t.supply.length + j) < FAR
    · rw [if_pos (by omega), ix_nat gm, ix_nat gf]
      by_cases h0 : 0 < f i j
      · rw [if_pos h0, if_pos h0, ix_nat gb, ix_nat gc, ix_nat gx, gd_pos (by omega), ix_nat gs]
        by_cases hl : z.d (t.supply.length + j) - cc t i j < z.d i
        · have r := rep_less (t := t) z (i := i) (j := j) (c := -cc t i j) hi
          have e : [(⟨t.supply.length + j, i, -cc t i j⟩ : Ed)].foldl (relax FAR) z = up z ⟨t.supply.length + j, i, -cc t i j⟩ := relax_up ⟨hfar, hl⟩
          rw [e, r.1, r.2.1, r.2.2.1, r.2.2.2, decide_eq_true hl]
          unfold ref07_best_k9 ref07_best_k8
          rw [if_pos rfl, ix_nat gb, ix_nat gc, ix_nat gx, gd_pos (by omega), ix_nat gs, ix_nat gr_, gd_pos (by omega)]; rfl
        · have e : [(⟨t.supply.length + j, i, -cc t i j⟩ : Ed)].foldl (relax FAR) z = z := relax_no fun h => hl h.2
          rw [e, decide_eq_false hl, no]
      · rw [if_neg h0, if_neg h0, no]; rfl
    · rw [if_neg (by omega), no]
      by_cases h0 : 0 < f i j
      · have e : [(⟨t.supply.length + j, i, -cc t i j⟩ : Ed)].foldl (relax FAR) z = z := relax_no fun h => hfar h.1
        rw [if_pos h0, e]
      · rw [if_neg h0]; rfl
  have gs : (stL t y)[i]? = some (y.d i) := tb_at hi
  have gb : (buL t y)[j]? = some (y.d (t.supply.length + j)) := tb_at hj
  have gy : (byL t y)[j]? = some (byO (y.by_ (t.supply.length + j))) := tb_at hj
  have l1 := hlo i
  have l2 := hhi i
  have zlo : ∀ v, -2000000 ≤ (relax FAR y ⟨i, t.supply.length + j, cc t i j⟩).d v := fun v => by
    have := fold_bnd FAR 99 (by decide) [⟨i, t.supply.length + j, cc t i j⟩] y (-1000000) (fun e he => by
      obtain rfl : e = ⟨i, t.supply.length + j, cc t i j⟩ := by simpa using he
      show -99 ≤ cc t i j; omega) hlo v
    have e : ([⟨i, t.supply.length + j, cc t i j⟩] : List Ed).foldl (relax FAR) y = relax FAR y ⟨i, t.supply.length + j, cc t i j⟩ := rfl
    rw [e] at this
    simp only [List.length_singleton] at this
    omega
  have zhi : ∀ v, (relax FAR y ⟨i, t.supply.length + j, cc t i j⟩).d v ≤ FAR := fun v => Int.le_trans (relax_le _ _ _ _) (hhi v)
  have sec := second _ zlo zhi
  show _ = rec6 ((j + 1 : Nat) : Int) (stL t ((if 0 < f i j then [⟨t.supply.length + j, i, -cc t i j⟩] else []).foldl (relax FAR) (relax FAR y ⟨i, t.supply.length + j, cc t i j⟩))) (buL t ((if 0 < f i j then [⟨t.supply.length + j, i, -cc t i j⟩] else []).foldl (relax FAR) (relax FAR y ⟨i, t.supply.length + j, cc t i j⟩))) (byL t ((if 0 < f i j then [⟨t.supply.length + j, i, -cc t i j⟩] else []).foldl (relax FAR) (relax FAR y ⟨i, t.supply.length + j, cc t i j⟩))) (frL t ((if 0 < f i j then [⟨t.supply.length + j, i, -cc t i j⟩] else []).foldl (relax FAR) (relax FAR y ⟨i, t.supply.length + j, cc t i j⟩)))
  rw [← sec]
  unfold ref07_best_B3
  rw [if_pos (by unfold buL; rw [tb_len]; omega), ix_nat gs]
  by_cases hfar : y.d i < FAR
  · rw [if_pos (by omega), ix_nat gs, ix_nat gc, ix_nat gx, gd_pos (by omega), ix_nat gb]
    by_cases hl : y.d i + cc t i j < y.d (t.supply.length + j)
    · have r := rep_more (t := t) y (i := i) (j := j) (c := cc t i j) hi
      have e : relax FAR y ⟨i, t.supply.length + j, cc t i j⟩ = up y ⟨i, t.supply.length + j, cc t i j⟩ := relax_up ⟨hfar, hl⟩
      rw [e, r.1, r.2.1, r.2.2.1, r.2.2.2, decide_eq_true hl]
      unfold ref07_best_k11
      rw [if_pos rfl, ix_nat gs, ix_nat gc, ix_nat gx, gd_pos (by omega), ix_nat gb, ix_nat gy]; rfl
    · have e : relax FAR y ⟨i, t.supply.length + j, cc t i j⟩ = y := relax_no fun h => hl h.2
      rw [e, decide_eq_false hl]
      unfold ref07_best_k11
      rw [if_neg (by simp)]
  · have e : relax FAR y ⟨i, t.supply.length + j, cc t i j⟩ = y := relax_no fun h => hfar h.1
    rw [if_neg (by omega), e]
    unfold ref07_best_k11
    rw [if_neg (by simp)]
theorem fold_hi {far : Int} {L : List Ed} {s : BS} {hi : Int} (h : ∀ v, s.d v ≤ hi) (v : Nat) : (L.foldl (relax far) s).d v ≤ hi := Int.le_trans (fold_le far L s v) (h v)
theorem ref_row (ht : okT t = true) {s : BS} (hlo : ∀ v, -900000 ≤ s.d v) (hhi : ∀ v, s.d v ≤ FAR) {i : Nat} (hi : i < t.supply.length) (rec5 : Int → List Int → List Int → List Int → List Int → Option (List (List Int))) :
    ref07_best_L3 t (tab t f) (i : Int) rec5 FU 0 (stL t s) (buL t s) (byL t s) (frL t s) =
      (let z := (edIn t f i t.demand.length).foldl (relax FAR) s
      ref07_best_k7 (i : Int) rec5 (stL t z) (buL t z) (byL t z) (frL t z)) := by
  have hs := (okT_spec ht).1.2.1
  have hd := (okT_spec ht).2.1.2.1
  refine for0 t.demand.length (fun j => (edIn t f i j).foldl (relax FAR) s) (fun k x j => ref07_best_L3 t (tab t f) (i : Int) rec5 k j (stL t x) (buL t x) (byL t x) (frL t x)) _ (s0 := s) rfl (fun k j hj => ?_) (fun k => ?_) (by omega)
  · have ylo : ∀ v, -1000000 ≤ ((edIn t f i j).foldl (relax FAR) s).d v := fun v => by
      have := fold_bnd FAR 99 (by decide) (edIn t f i j) s (-900000) (fun e he => by
        obtain ⟨q, hq, h⟩ := edIn_mem.1 he
        exact (eds_cost (f := f) ht (eds_mem.2 ⟨i, q, hi, by omega, h⟩)).1) hlo v
      have l := edIn_len (t := t) (f := f) i j
      omega
    show ref07_best_B3 t (tab t f) (i : Int) rec5 (ref07_best_L3 t (tab t f) (i : Int) rec5 k) (j : Int) _ _ _ _ = _
    rw [ref_cell ht ylo (fold_hi hhi) hi hj]
    have e : (edIn t f i (j + 1)).foldl (relax FAR) s = (⟨i, t.supply.length + j, cc t i j⟩ :: if 0 < f i j then [⟨t.supply.length + j, i, -cc t i j⟩] else []).foldl (relax FAR) ((edIn t f i j).foldl (relax FAR) s) := by
      rw [edIn_succ, List.foldl_append]
    rw [e]
  · show ref07_best_B3 t (tab t f) (i : Int) rec5 (ref07_best_L3 t (tab t f) (i : Int) rec5 k) _ _ _ _ _ = _
    unfold ref07_best_B3
    rw [if_neg (by unfold buL; rw [tb_len]; omega)]
theorem ref_round (ht : okT t = true) {s : BS} (hlo : ∀ v, -800000 ≤ s.d v) (hhi : ∀ v, s.d v ≤ FAR) (r : Int) (rec4 : Int → List Int → List Int → List Int → List Int → Option (List (List Int))) :
    ref07_best_L4 t (tab t f) r rec4 FU 0 (stL t s) (buL t s) (byL t s) (frL t s) =
      (let z := rnd FAR (eds t f) s
      ref07_best_k6 r rec4 (stL t z) (buL t z) (byL t z) (frL t z)) := by
  have hs := (okT_spec ht).1.2.1
  have hd := (okT_spec ht).2.1.2.1
  refine for0 t.supply.length (fun i => (edTo t f i).foldl (relax FAR) (fresh s)) (fun k x i => ref07_best_L4 t (tab t f) r rec4 k i (stL t x) (buL t x) (byL t x) (frL t x)) _ (s0 := fresh s) rfl (fun k i hi => ?_) (fun k => ?_) (by omega)
  · have ylo : ∀ v, -900000 ≤ ((edTo t f i).foldl (relax FAR) (fresh s)).d v := fun v => by
      have := fold_bnd FAR 99 (by decide) (edTo t f i) (fresh s) (-800000) (fun e he => by
        obtain ⟨a, q, ha, hq, h⟩ := edTo_mem.1 he
        exact (eds_cost (f := f) ht (eds_mem.2 ⟨a, q, by omega, hq, h⟩)).1) hlo v
      have l := edTo_len (t := t) (f := f) hd i
      omega
    show ref07_best_B4 t (tab t f) r rec4 (ref07_best_L4 t (tab t f) r rec4 k) (i : Int) _ _ _ _ = _
    unfold ref07_best_B4
    rw [if_pos (by unfold stL; rw [tb_len]; omega), ref_row ht ylo (fold_hi hhi) hi]
    show ref07_best_k7 (i : Int) (ref07_best_L4 t (tab t f) r rec4 k) _ _ _ _ = _
    unfold ref07_best_k7
    have e : (edTo t f (i + 1)).foldl (relax FAR) (fresh s) = (edIn t f i t.demand.length).foldl (relax FAR) ((edTo t f i).foldl (relax FAR) (fresh s)) := by
      show (edTo t f i ++ edIn t f i t.demand.length).foldl (relax FAR) (fresh s) = _
      rw [List.foldl_append]
    rw [gd_pos (by omega), e]; rfl
  · show ref07_best_B4 t (tab t f) r rec4 (ref07_best_L4 t (tab t f) r rec4 k) _ _ _ _ _ = _
    unfold ref07_best_B4
    rw [if_neg (by unfold stL; rw [tb_len]; omega)]; rfl
/-- What a search begins with: where stores still have tons. -/
def d0h (t : Trade) (h : Nat → Int) (v : Nat) : Int := if v < t.supply.length then (if h v = 0 then FAR else 0) else FAR
def sR (t : Trade) (h : Nat → Int) : BS := ⟨d0h t h, fun _ => none, -1⟩
def rK (t : Trade) (f : Nat → Nat → Int) (h : Nat → Int) (k : Nat) : BS := rnds FAR (eds t f) (sR t h) k
theorem d0h_bnd (h : Nat → Int) (v : Nat) : 0 ≤ d0h t h v ∧ d0h t h v ≤ FAR ∧ (d0h t h v < FAR → d0h t h v ≤ 0) := by
  have hF : FAR = 1073741824 := rfl
  unfold d0h
  split
  · split <;> omega
  · omega
theorem rK_bnd (ht : okT t = true) (h : Nat → Int) (k : Nat) (hk : k ≤ 10) (v : Nat) : -800000 ≤ (rK t f h k).d v ∧ (rK t f h k).d v ≤ FAR := by
  have h1 := (okT_spec ht).1.2.1
  have h2 := (okT_spec ht).2.1.2.1
  have hl := edTo_len (t := t) (f := f) h2 t.supply.length
  have hl' : (eds t f).length ≤ 32 := by unfold eds; omega
  have a := rnds_bnd (far := FAR) (M := 99) (by decide) (L := eds t f) (s := sR t h) (lo := 0) (fun e he => (eds_cost ht he).1) (fun v => (d0h_bnd h v).1) k v
  have b := rnds_mono FAR (eds t f) (sR t h) v 0 k
  rw [Nat.zero_add] at b
  have c : (rnds FAR (eds t f) (sR t h) 0).d v ≤ FAR := (d0h_bnd h v).2.1
  have : 99 * ((eds t f).length : Int) * (k : Int) ≤ (99 * 32) * 10 :=
    Int.le_trans (Int.mul_le_mul_of_nonneg_right (by omega) (Int.natCast_nonneg _)) (Int.mul_le_mul_of_nonneg_left (by omega) (by decide))
  unfold rK
  omega
theorem ref_rounds (ht : okT t = true) {h w : Nat → Int} (rec1 : List (List Int) → List Int → List Int → Option (List (List Int))) :
    ref07_best_L5 t (tab t f) (tb t.supply.length h) (tb t.demand.length w) rec1 FU 0 (stL t (sR t h)) (buL t (sR t h)) (byL t (sR t h)) (frL t (sR t h)) =
      (let z := rK t f h (nN t + 1)
      ref07_best_k5 (tab t f) (tb t.supply.length h) (tb t.demand.length w) rec1 (buL t z) (byL t z) (frL t z)) := by
  have hs := (okT_spec ht).1.2.1
  have hd := (okT_spec ht).2.1.2.1
  have hN : nN t = t.supply.length + t.demand.length := rfl
  refine for0 (nN t + 1) (fun k => rK t f h k) (fun k x j => ref07_best_L5 t (tab t f) (tb t.supply.length h) (tb t.demand.length w) rec1 k j (stL t x) (buL t x) (byL t x) (frL t x)) _ (s0 := sR t h) rfl (fun k j hj => ?_) (fun k => ?_) (by omega)
  · show ref07_best_B5 t (tab t f) (tb t.supply.length h) (tb t.demand.length w) rec1 (ref07_best_L5 t (tab t f) (tb t.supply.length h) (tb t.demand.length w) rec1 k) (j : Int) _ _ _ _ = _
    unfold ref07_best_B5
    rw [tb_len, tb_len, gd_pos (by omega), gd_pos (by omega), if_pos (by omega), ref_round ht (fun v => (rK_bnd ht h j (by omega) v).1) (fun v => (rK_bnd ht h j (by omega) v).2)]
    show ref07_best_k6 (j : Int) _ _ _ _ _ = _
    unfold ref07_best_k6
    rw [gd_pos (by omega)]; rfl
  · show ref07_best_B5 t (tab t f) (tb t.supply.length h) (tb t.demand.length w) rec1 (ref07_best_L5 t (tab t f) (tb t.supply.length h) (tb t.demand.length w) rec1 k) _ _ _ _ _ = _
    unfold ref07_best_B5
    rw [tb_len, tb_len, gd_pos (by omega), gd_pos (by omega), if_neg (by omega)]
theorem ref_start (ht : okT t = true) {h w : Nat → Int} (rec1 : List (List Int) → List Int → List Int → Option (List (List Int))) :
    ref07_best_k16 t (tab t f) (tb t.supply.length h) (tb t.demand.length w) rec1 (List.replicate t.supply.length 0) (List.replicate t.demand.length 0) =
      (let z := rK t f h (nN t + 1)
      ref07_best_k5 (tab t f) (tb t.supply.length h) (tb t.demand.length w) rec1 (buL t z) (byL t z) (frL t z)) := by
  have hs := (okT_spec ht).1.2.1
  have hd := (okT_spec ht).2.1.2.1
  unfold ref07_best_k16 ref07_best_k15
  rw [tb_len, tb_len, gd_pos (by omega), gd_pos (by omega), show Int.toNat (t.supply.length : Int) = t.supply.length from rfl, show Int.toNat (t.demand.length : Int) = t.demand.length from rfl, rep_tb, rep_tb]
  have l7 : ref07_best_L7 t (tab t f) (tb t.supply.length h) (tb t.demand.length w) rec1 (tb t.supply.length fun _ => 0) (tb t.demand.length fun _ => 0) (tb t.supply.length fun _ => 0) FU 0 (tb t.demand.length fun _ => 0) =
      ref07_best_k14 t (tab t f) (tb t.supply.length h) (tb t.demand.length w) rec1 (tb t.supply.length fun _ => 0) (tb t.demand.length fun _ => 0) (tb t.supply.length fun _ => 0) (tb t.demand.length fun _ => FAR) := by
    refine for0 t.demand.length (fun k => tb t.demand.length fun j => if j < k then FAR else 0) (fun k x j => ref07_best_L7 t (tab t f) (tb t.supply.length h) (tb t.demand.length w) rec1 (tb t.supply.length fun _ => 0) (tb t.demand.length fun _ => 0) (tb t.supply.length fun _ => 0) k j x) _ (tb_congr fun k hk => by simp) (fun k j hj => ?_) (fun k => ?_) (by omega)
    · show ref07_best_B7 t (tab t f) (tb t.supply.length h) (tb t.demand.length w) rec1 (tb t.supply.length fun _ => 0) (tb t.demand.length fun _ => 0) (tb t.supply.length fun _ => 0) (ref07_best_L7 t (tab t f) (tb t.supply.length h) (tb t.demand.length w) rec1 (tb t.supply.length fun _ => 0) (tb t.demand.length fun _ => 0) (tb t.supply.length fun _ => 0) k) (j : Int) _ = _
      unfold ref07_best_B7
      rw [if_pos (by rw [tb_len]; omega), ix_nat (tb_at hj), gd_pos (by omega), show Int.toNat (j : Int) = j from rfl, tb_set]
      congr 1
      refine tb_congr fun k hk => ?_
      by_cases e : k = j
      · subst e; rw [if_pos rfl, if_pos (by omega)]; rfl
      · rw [if_neg e]
        by_cases e2 : k < j
        · rw [if_pos e2, if_pos (by omega)]
        · rw [if_neg e2, if_neg (by omega)]
    · show ref07_best_B7 t (tab t f) (tb t.supply.length h) (tb t.demand.length w) rec1 (tb t.supply.length fun _ => 0) (tb t.demand.length fun _ => 0) (tb t.supply.length fun _ => 0) (ref07_best_L7 t (tab t f) (tb t.supply.length h) (tb t.demand.length w) rec1 (tb t.supply.length fun _ => 0) (tb t.demand.length fun _ => 0) (tb t.supply.length fun _ => 0) k) _ _ = _
      unfold ref07_best_B7
      rw [if_neg (by rw [tb_len]; omega)]
      congr 1
      exact tb_congr fun k hk => by rw [if_pos hk]
  rw [l7]
  unfold ref07_best_k14
  rw [← ref_rounds ht rec1]
  refine for0 t.supply.length (fun k => ((tb t.supply.length fun i => if i < k then d0h t h i else 0), (tb t.supply.length fun i => if i < k then (-1 : Int) else 0))) (fun k x j => ref07_best_L6 t (tab t f) (tb t.supply.length h) (tb t.demand.length w) rec1 (tb t.demand.length fun _ => 0) (tb t.demand.length fun _ => FAR) k j x.1 x.2) _
    (s0 := (tb t.supply.length fun _ => 0, tb t.supply.length fun _ => 0)) (Prod.ext (tb_congr fun k hk => by simp) (tb_congr fun k hk => by simp)) (fun k i hi => ?_) (fun k => ?_) (by omega)
  · show ref07_best_B6 t (tab t f) (tb t.supply.length h) (tb t.demand.length w) rec1 (tb t.demand.length fun _ => 0) (tb t.demand.length fun _ => FAR) (ref07_best_L6 t (tab t f) (tb t.supply.length h) (tb t.demand.length w) rec1 (tb t.demand.length fun _ => 0) (tb t.demand.length fun _ => FAR) k) (i : Int) _ _ = _
    unfold ref07_best_B6 ref07_best_k13
    have e2 : (tb t.supply.length fun q => if q < i then (-1 : Int) else 0).set i (-1) = tb t.supply.length fun q => if q < i + 1 then (-1 : Int) else 0 := by
      rw [tb_set]
      refine tb_congr fun k hk => ?_
      by_cases e : k = i
      · subst e; rw [if_pos rfl, if_pos (by omega)]
      · rw [if_neg e]
        by_cases e2 : k < i
        · rw [if_pos e2, if_pos (by omega)]
        · rw [if_neg e2, if_neg (by omega)]
    rw [if_pos (by rw [tb_len]; omega), ix_nat (tb_at hi), ix_nat (tb_at hi)]
    by_cases h0 : h i = 0
    · have e1 : (tb t.supply.length fun q => if q < i then d0h t h q else 0).set i FAR = tb t.supply.length fun q => if q < i + 1 then d0h t h q else 0 := by
        rw [tb_set]
        refine tb_congr fun k hk => ?_
        by_cases e : k = i
        · subst e
          rw [if_pos rfl, if_pos (by omega)]
          unfold d0h
          rw [if_pos hi, if_pos h0]
        · rw [if_neg e]
          by_cases e2 : k < i
          · rw [if_pos e2, if_pos (by omega)]
          · rw [if_neg e2, if_neg (by omega)]
      rw [if_pos h0, ix_nat (tb_at hi), gd_pos (by omega)]
      show ref07_best_L6 t (tab t f) (tb t.supply.length h) (tb t.demand.length w) rec1 (tb t.demand.length fun _ => 0) (tb t.demand.length fun _ => FAR) k _ ((tb t.supply.length fun q => if q < i then d0h t h q else 0).set i FAR) ((tb t.supply.length fun q => if q < i then (-1 : Int) else 0).set i (-1)) = _
      rw [e1, e2]; rfl
    · have e1 : (tb t.supply.length fun q => if q < i then d0h t h q else 0) = tb t.supply.length fun q => if q < i + 1 then d0h t h q else 0 := by
        refine tb_congr fun k hk => ?_
        by_cases e : k = i
        · subst e
          rw [if_neg (by omega), if_pos (by omega)]
          unfold d0h
          rw [if_pos hi, if_neg h0]
        · by_cases e2 : k < i
          · rw [if_pos e2, if_pos (by omega)]
          · rw [if_neg e2, if_neg (by omega)]
      rw [if_neg h0, gd_pos (by omega)]
      show ref07_best_L6 t (tab t f) (tb t.supply.length h) (tb t.demand.length w) rec1 (tb t.demand.length fun _ => 0) (tb t.demand.length fun _ => FAR) k _ (tb t.supply.length fun q => if q < i then d0h t h q else 0) ((tb t.supply.length fun q => if q < i then (-1 : Int) else 0).set i (-1)) = _
      rw [e1, e2]; rfl
  · show ref07_best_B6 t (tab t f) (tb t.supply.length h) (tb t.demand.length w) rec1 (tb t.demand.length fun _ => 0) (tb t.demand.length fun _ => FAR) (ref07_best_L6 t (tab t f) (tb t.supply.length h) (tb t.demand.length w) rec1 (tb t.demand.length fun _ => 0) (tb t.demand.length fun _ => FAR) k) _ _ _ = _
    unfold ref07_best_B6 ref07_best_k12
    rw [if_neg (by rw [tb_len]; omega)]
    have e1 : (tb t.supply.length fun i => if i < t.supply.length then d0h t h i else 0) = stL t (sR t h) := tb_congr fun k hk => if_pos hk
    have e2 : (tb t.supply.length fun i => if i < t.supply.length then (-1 : Int) else 0) = frL t (sR t h) := tb_congr fun k hk => if_pos hk
    have e3 : (tb t.demand.length fun _ => FAR) = buL t (sR t h) := tb_congr fun k hk => by
      show FAR = d0h t h (t.supply.length + k)
      unfold d0h
      rw [if_neg (by omega)]
    show ref07_best_L5 t (tab t f) (tb t.supply.length h) (tb t.demand.length w) rec1 FU 0 (tb t.supply.length fun i => if i < t.supply.length then d0h t h i else 0) (tb t.demand.length fun _ => FAR) (tb t.demand.length fun _ => 0) (tb t.supply.length fun i => if i < t.supply.length then (-1 : Int) else 0) = _
    rw [e1, e2, e3]; rfl
end
end Go.D7

set_option linter.unusedVariables false
set_option linter.unusedSimpArgs false
namespace Go.D7
open Go.Tb
/-- A part of a plan, with prices that prove it. -/
structure Part (t : Trade) (f : Nat → Nat → Int) (h w : Nat → Int) : Prop where
  nn : ∀ i j, 0 ≤ f i j
  hn : ∀ i, 0 ≤ h i
  wn : ∀ j, 0 ≤ w j
  row : ∀ i, i < t.supply.length → sumN t.demand.length (f i) + h i = gi t.supply i
  col : ∀ j, j < t.demand.length → sumN t.supply.length (fun i => f i j) + w j = gi t.demand j
  cert : ∃ p q, Cert t f p q
section
variable {t : Trade} {f : Nat → Nat → Int} {h w : Nat → Int}
theorem rK_inv (k : Nat) : InvE (fun e => e ∈ eds t f) FAR (d0h t h) (rK t f h k) :=
  rnds_inv start_inv (fun e he => ⟨he, eds_ne he⟩) k
theorem rK_mem (k : Nat) : Mem t f (rK t f h k) := by
  obtain ⟨T, τ, hi⟩ := rK_inv (t := t) (f := f) (h := h) k
  exact fun v e he => ⟨(hi.mem v e he).1, (hi.mem v e he).2.1⟩
theorem rK_u (k : Nat) : ∀ v e, (rK t f h k).by_ v = some e → e.u < nN t := fun v e he => (eds_lt (rK_mem k v e he).1).1
theorem Part.root (hp : Part t f h w) (k : Nat) {v : Nat} (hv : v < nN t) : ∃ q, q < nN t ∧ (rK t f h k).by_ (itp (rK t f h k) q v) = none ∧ ∀ i, i < q → (rK t f h k).by_ (itp (rK t f h k) i v) ≠ none := by
  obtain ⟨p, q, hc⟩ := hp.cert
  refine alive_root (rK_u k) (rK_inv k) (P := pot t p q) (fun v e he => ?_) hv
  obtain ⟨m1, m2⟩ := rK_mem k v e he
  have := pot_of hc e m1
  rwa [m2] at this
theorem Part.stable (ht : okT t = true) (hp : Part t f h w) : ∀ e ∈ eds t f, (rK t f h (nN t + 1)).d e.u < FAR → (rK t f h (nN t + 1)).d e.v ≤ (rK t f h (nN t + 1)).d e.u + e.c := by
  have h1 := (okT_spec ht).1
  have h2 := (okT_spec ht).2.1
  have hN : nN t = t.supply.length + t.demand.length := rfl
  have hF : FAR = 1073741824 := rfl
  rcases rnd_last (far := FAR) (L := eds t f) (N := nN t) (fun e he => (eds_lt he).2) (rK t f h (nN t)) with ⟨a, b⟩ | ⟨v, a, b, c⟩
  · have e : (rK t f h (nN t + 1)).d = (rK t f h (nN t)).d := b
    rw [e]
    exact rnd_stable b
  · exfalso
    have c' : (rK t f h (nN t + 1)).d v < (rK t f h (nN t)).d v := c
    have al := late_alive (L := eds t f) (far := FAR) (s0 := sR t h) (R := nN t) (fun e he => eds_ne he) rfl (fun k v C hk w => by
      have := W_bnd (M := 99) (fun e he => (eds_cost ht he).2) (fun v => (d0h_bnd h v).2.2) w
      omega) (v := v) c (by
        have := (rK_bnd (f := f) ht h (nN t) (by omega) v).2
        show (rK t f h (nN t + 1)).d v < FAR
        omega)
    obtain ⟨q, q1, q2, _⟩ := hp.root (nN t + 1) a
    exact al q (by omega) q2
theorem Part.near (ht : okT t = true) (hp : Part t f h w) {i0 : Nat} (hi0 : i0 < t.supply.length) (h0 : 0 < h i0) {j : Nat} (hj : j < t.demand.length) : (rK t f h (nN t + 1)).d (t.supply.length + j) < FAR := by
  have hF : FAR = 1073741824 := rfl
  have b := rnds_mono FAR (eds t f) (sR t h) i0 0 (nN t + 1)
  rw [Nat.zero_add] at b
  have e : (rnds FAR (eds t f) (sR t h) 0).d i0 = 0 := by
    show d0h t h i0 = 0
    unfold d0h
    rw [if_pos hi0, if_neg (by omega)]
  rw [e] at b
  have b' : (rK t f h (nN t + 1)).d i0 ≤ 0 := b
  have := hp.stable ht ⟨i0, t.supply.length + j, cc t i0 j⟩ (eds_mem.2 ⟨i0, j, hi0, hj, .inl rfl⟩) (by show (rK t f h (nN t + 1)).d i0 < FAR; omega)
  have this' : (rK t f h (nN t + 1)).d (t.supply.length + j) ≤ (rK t f h (nN t + 1)).d i0 + cc t i0 j := this
  have := cost_pos ht hi0 hj
  omega
/-- No node comes twice on the way back to a beginning. -/
theorem chain_inj {s : BS} {v k : Nat} (ha : ∀ i, i < k → s.by_ (itp s i v) ≠ none) (hn : s.by_ (itp s k v) = none) {a b : Nat} (hab : a < b) (hb : b ≤ k) : itp s a v ≠ itp s b v := by
  intro hc
  have e : itp s (k - b) (itp s a v) = itp s (k - b) (itp s b v) := by rw [hc]
  rw [← itp_add, ← itp_add, show b + (k - b) = k by omega] at e
  exact ha (a + (k - b)) (by omega) (by rw [e]; exact hn)
def Tight (t : Trade) (s : BS) (i j : Nat) : Prop := s.d i + cc t i j = s.d (t.supply.length + j)
theorem row_upd {x : Nat → Nat → Int} {i j : Nat} (v : Int) (hj : j < t.demand.length) (a : Nat) : sumN t.demand.length (fun b => if a = i ∧ b = j then v else x a b) = sumN t.demand.length (x a) + (if a = i then v - x i j else 0) := by
  by_cases ha : a = i
  · subst ha
    have := sumN_upd (g := x a) (k := j) (v := v) t.demand.length
    rw [if_pos hj] at this
    rw [if_pos rfl, ← this]
    exact sumN_congr _ fun b _ => by
      by_cases e : b = j
      · rw [if_pos ⟨rfl, e⟩, if_pos e]
      · rw [if_neg (fun h => e h.2), if_neg e]
  · rw [if_neg ha, Int.add_zero]
    exact sumN_congr _ fun b _ => by rw [if_neg (fun h => ha h.1)]
theorem col_upd {x : Nat → Nat → Int} {i j : Nat} (v : Int) (hi : i < t.supply.length) (b : Nat) : sumN t.supply.length (fun a => if a = i ∧ b = j then v else x a b) = sumN t.supply.length (fun a => x a b) + (if b = j then v - x i j else 0) := by
  by_cases hb : b = j
  · subst hb
    have := sumN_upd (g := fun a => x a b) (k := i) (v := v) t.supply.length
    rw [if_pos hi] at this
    rw [if_pos rfl, ← this]
    exact sumN_congr _ fun a _ => by
      by_cases e : a = i
      · rw [if_pos ⟨e, rfl⟩, if_pos e]
      · rw [if_neg (fun h => e h.1), if_neg e]
  · rw [if_neg hb, Int.add_zero]
    exact sumN_congr _ fun a _ => by rw [if_neg (fun h => hb h.2)]
structure Mid (t : Trade) (s : BS) (h w : Nat → Int) (j : Nat) (x : Nat → Nat → Int) : Prop where
  nn : ∀ i q, 0 ≤ x i q
  row : ∀ i, i < t.supply.length → sumN t.demand.length (x i) + h i = gi t.supply i
  col : ∀ q, q < t.demand.length → sumN t.supply.length (fun i => x i q) + w q = gi t.demand q - (if q = j then 1 else 0)
  tight : ∀ i q, i < t.supply.length → q < t.demand.length → 0 < x i q → Tight t s i q
structure Fin (t : Trade) (s : BS) (h w : Nat → Int) (c : Int) (x : Nat → Nat → Int) : Prop where
  nn : ∀ i q, 0 ≤ x i q
  hn : ∀ i, 0 ≤ h i
  row : ∀ i, i < t.supply.length → sumN t.demand.length (x i) + h i = gi t.supply i
  col : ∀ q, q < t.demand.length → sumN t.supply.length (fun i => x i q) + w q = gi t.demand q
  tight : ∀ i q, i < t.supply.length → q < t.demand.length → 0 < x i q → Tight t s i q
  sum : sumN t.supply.length h = c - 1
theorem mid_le (ht : okT t = true) {s : BS} {x : Nat → Nat → Int} {j : Nat} (hm : Mid t s h w j x) (hn : ∀ i, 0 ≤ h i) {i q : Nat} (hi : i < t.supply.length) (hq : q < t.demand.length) : x i q ≤ 30 ∧ h i ≤ 30 := by
  have h1 := sumN_mem (f := x i) (fun q _ => hm.nn i q) hq
  have h3 := sumN_nn (f := x i) (n := t.demand.length) (fun q _ => hm.nn i q)
  have h2 := hm.row i hi
  have h4 := supply_bnd ht hi
  have := hn i
  omega
theorem ref_path (ht : okT t = true) (hn : ∀ i, 0 ≤ h i) {s : BS} (hm : Mem t f s)
    (htb : ∀ i j, i < t.supply.length → j < t.demand.length → s.by_ (t.supply.length + j) = some ⟨i, t.supply.length + j, cc t i j⟩ → Tight t s i j)
    (l1 : List Int) (rec1 : List (List Int) → List Int → List Int → Option (List (List Int))) (t15 x1 : Int) :
    ∀ (k : Nat), ∀ (fuel j : Nat) (x : Nat → Nat → Int), k < fuel → j < t.demand.length → (∀ q, q < k → s.by_ (itp s q (t.supply.length + j)) ≠ none) → s.by_ (itp s k (t.supply.length + j)) = none →
      itp s k (t.supply.length + j) < t.supply.length → 0 < h (itp s k (t.supply.length + j)) → Mid t s h w j x →
      (∀ c, c ≤ k → ∀ q, q < t.demand.length → itp s c (t.supply.length + j) < t.supply.length → f (itp s c (t.supply.length + j)) q ≤ x (itp s c (t.supply.length + j)) q) →
      ∃ x' h', Fin t s h' w (sumN t.supply.length h) x' ∧ ref07_best_L1 l1 rec1 (byL t s) (frL t s) t15 x1 fuel (j : Int) (tab t x) (tb t.supply.length h) = rec1 (tab t x') (tb t.supply.length h') (l1.set (Int.toNat t15) (x1 - 1)) := by
  intro k
  induction k using Nat.strongRecOn with
  | _ k ih =>
  intro fuel j x hfu hj al nk rlt rh mid xf
  have hk1 : 1 ≤ k := by
    rcases Nat.eq_zero_or_pos k with rfl | hk
    · have : t.supply.length + j < t.supply.length := rlt
      omega
    · exact hk
  obtain ⟨fuel, rfl⟩ : ∃ q, fuel = q + 1 := ⟨fuel - 1, by omega⟩
  rcases node hm (al 0 hk1) with ⟨i, j', hi, hj', e1, e2, _, _, e3⟩ | ⟨i, j', hi, _, e1, _⟩
  · have e1' : t.supply.length + j = t.supply.length + j' := e1
    obtain rfl : j = j' := by omega
    have i1 : itp s 1 (t.supply.length + j) = i := e2
    have hby : s.by_ (t.supply.length + j) = some ⟨i, t.supply.length + j, cc t i j⟩ := e3
    have tij := htb i j hi hj hby
    have gb : (byL t s)[j]? = some (i : Int) := by
      have : (byL t s)[j]? = some (byO (s.by_ (t.supply.length + j))) := tb_at hj
      rw [this, hby]; rfl
    have gm : (tab t x)[i]? = some (tb t.demand.length (x i)) := tbl_at hi
    have gx : (tb t.demand.length (x i))[j]? = some (x i j) := tb_at hj
    have bx := mid_le ht mid hn hi hj
    have nx := mid.nn i j
    have gf : (frL t s)[i]? = some (frO t.supply.length (s.by_ i)) := tb_at hi
    have st1 : (tab t x).set i ((tb t.demand.length (x i)).set j (x i j + 1)) = tab t (fun a b => if a = i ∧ b = j then x i j + 1 else x a b) := tbl_set hi _
    generalize hy : (fun a b => if a = i ∧ b = j then x i j + 1 else x a b) = y at st1
    have y_eq : ∀ a b, y a b = if a = i ∧ b = j then x i j + 1 else x a b := fun a b => by rw [← hy]
    have y_row : ∀ a, sumN t.demand.length (y a) = sumN t.demand.length (x a) + (if a = i then 1 else 0) := fun a => by
      rw [← hy]
      show sumN t.demand.length (fun b => if a = i ∧ b = j then x i j + 1 else x a b) = _
      rw [row_upd _ hj]
      split <;> omega
    have y_col : ∀ b, sumN t.supply.length (fun a => y a b) = sumN t.supply.length (fun a => x a b) + (if b = j then 1 else 0) := fun b => by
      rw [← hy]
      show sumN t.supply.length (fun a => if a = i ∧ b = j then x i j + 1 else x a b) = _
      rw [col_upd _ hi]
      split <;> omega
    have y_nn : ∀ a b, 0 ≤ y a b := fun a b => by
      rw [y_eq]
      have := mid.nn a b
      split <;> omega
    have y_t : ∀ a b, a < t.supply.length → b < t.demand.length → 0 < y a b → Tight t s a b := fun a b ha hb hp => by
      rw [y_eq] at hp
      split at hp
      · rename_i hc; rw [hc.1, hc.2]; exact tij
      · exact mid.tight a b ha hb hp
    have run : ref07_best_L1 l1 rec1 (byL t s) (frL t s) t15 x1 (fuel + 1) (j : Int) (tab t x) (tb t.supply.length h) =
        (let l4 := tb t.supply.length h
         let x2 : Int := (i : Int)
         let x6 := frO t.supply.length (s.by_ i)
         if (0 : Int) ≤ x6 then
          ix (tab t y) x2 fun x7 =>
          ix x7 x6 fun x8 =>
          gd (InR (x8 - 1)) <|
          ix x7 x6 fun x9 =>
          ref07_best_L1 l1 rec1 (byL t s) (frL t s) t15 x1 fuel x6 ((tab t y).set (Int.toNat x2) (x7.set (Int.toNat x6) (x8 - 1))) l4
        else
          ix l4 x2 fun x10 =>
          gd (InR (x10 - 1)) <|
          ix l4 x2 fun x11 =>
          ref07_best_L1 l1 rec1 (byL t s) (frL t s) t15 x1 fuel x6 (tab t y) (l4.set (Int.toNat x2) (x10 - 1))) := by
      show ref07_best_B1 l1 rec1 (byL t s) (frL t s) t15 x1 (ref07_best_L1 l1 rec1 (byL t s) (frL t s) t15 x1 fuel) (j : Int) (tab t x) (tb t.supply.length h) = _
      unfold ref07_best_B1
      rw [if_pos (by omega), ix_nat gb, ix_nat gm, ix_nat gx, gd_pos (by omega), ix_nat gx, ix_nat gf, show Int.toNat (i : Int) = i from rfl, show Int.toNat (j : Int) = j from rfl, st1]
      rfl
    rw [run]
    by_cases hk : k = 1
    · -- the store has a ton
      subst hk
      have nb : s.by_ i = none := by rw [i1] at nk; exact nk
      have hi0 : 0 < h i := by rw [i1] at rh; exact rh
      have gh : (tb t.supply.length h)[i]? = some (h i) := tb_at hi
      rw [nb]
      refine ⟨y, fun q => if q = i then h i - 1 else h q, ⟨y_nn, fun q => ?_, fun a ha => ?_, fun b hb => ?_, y_t, ?_⟩, ?_⟩
      · have := hn q
        split <;> omega
      · have := mid.row a ha
        rw [y_row]
        by_cases e : a = i
        · subst e; rw [if_pos rfl, if_pos rfl]; omega
        · rw [if_neg e, if_neg e]; omega
      · have := mid.col b hb
        rw [y_col]
        split at this <;> rename_i e
        · rw [if_pos e]; omega
        · rw [if_neg e]; omega
      · have := sumN_upd (g := h) (k := i) (v := h i - 1) t.supply.length
        rw [if_pos hi] at this
        rw [this]; omega
      · show (if (0 : Int) ≤ -1 then _ else ix (tb t.supply.length h) (i : Int) _) = _
        rw [if_neg (by decide), ix_nat gh, gd_pos (by omega), ix_nat gh, show Int.toNat (i : Int) = i from rfl, tb_set]
        obtain ⟨fuel, rfl⟩ : ∃ q, fuel = q + 1 := ⟨fuel - 1, by omega⟩
        show ref07_best_B1 l1 rec1 (byL t s) (frL t s) t15 x1 (ref07_best_L1 l1 rec1 (byL t s) (frL t s) t15 x1 fuel) (-1) _ _ = _
        unfold ref07_best_B1
        rw [if_neg (by decide)]
    · -- the ton is taken from another buyer
      have al1 := al 1 (by omega)
      rw [i1] at al1
      rcases node hm al1 with ⟨i', j2, hi', _, f1, _⟩ | ⟨i', j2, hi', hj2, f1, f2, _, f3, _, f4⟩
      · omega
      · obtain rfl : i = i' := f1
        have hby2 := f4
        have itp2 : itp s 2 (t.supply.length + j) = t.supply.length + j2 := by
          show pre s (itp s 1 (t.supply.length + j)) = _
          rw [i1]; exact f2
        have hshift : ∀ q, itp s q (t.supply.length + j2) = itp s (q + 2) (t.supply.length + j) := fun q => by
          rw [← itp2, ← itp_add, Nat.add_comm]
        have gy : (tab t y)[i]? = some (tb t.demand.length (y i)) := tbl_at hi
        have gy2 : (tb t.demand.length (y i))[j2]? = some (y i j2) := tb_at hj2
        have xf1 := xf 1 hk1 j2 hj2 (by rw [i1]; exact hi)
        rw [i1] at xf1
        have y1 : 1 ≤ y i j2 := by
          rw [y_eq]
          split
          · omega
          · omega
        have y31 : y i j2 ≤ 31 := by
          have := (mid_le ht mid hn hi hj2).1
          rw [y_eq]
          split <;> omega
        have fr : frO t.supply.length (s.by_ i) = (j2 : Int) := by
          rw [hby2]
          show ((t.supply.length + j2 : Nat) : Int) - (t.supply.length : Int) = (j2 : Int)
          omega
        have st2 : (tab t y).set i ((tb t.demand.length (y i)).set j2 (y i j2 - 1)) = tab t (fun a b => if a = i ∧ b = j2 then y i j2 - 1 else y a b) := tbl_set hi _
        rw [fr]
        have go := ih (k - 2) (by omega) fuel j2 (fun a b => if a = i ∧ b = j2 then y i j2 - 1 else y a b) (by omega) hj2 (fun q hq => by rw [hshift]; exact al _ (by omega)) (by rw [hshift, show k - 2 + 2 = k by omega]; exact nk) (by rw [hshift, show k - 2 + 2 = k by omega]; exact rlt) (by rw [hshift, show k - 2 + 2 = k by omega]; exact rh) ⟨fun a b => ?_, fun a ha => ?_, fun b hb => ?_, fun a b ha hb hp => ?_⟩ (fun c hc q hq hlt => ?_)
        · obtain ⟨x', h', fn, eq⟩ := go
          refine ⟨x', h', fn, ?_⟩
          rw [← eq]
          show (if (0 : Int) ≤ (j2 : Int) then _ else _) = _
          rw [if_pos (by omega), ix_nat gy, ix_nat gy2, gd_pos (by omega), ix_nat gy2, show Int.toNat (i : Int) = i from rfl, show Int.toNat (j2 : Int) = j2 from rfl, st2]
        · have := y_nn a b
          show 0 ≤ (if a = i ∧ b = j2 then y i j2 - 1 else y a b)
          split <;> omega
        · have := mid.row a ha
          show sumN t.demand.length (fun b => if a = i ∧ b = j2 then y i j2 - 1 else y a b) + h a = _
          rw [row_upd _ hj2, y_row]
          split <;> omega
        · have := mid.col b hb
          show sumN t.supply.length (fun a => if a = i ∧ b = j2 then y i j2 - 1 else y a b) + w b = _
          rw [col_upd _ hi, y_col]
          split at this <;> rename_i e
          · rw [if_pos e]
            split <;> omega
          · rw [if_neg e]
            split <;> omega
        · have hp' : 0 < (if a = i ∧ b = j2 then y i j2 - 1 else y a b) := hp
          split at hp'
          · rename_i hc
            rw [hc.1, hc.2]
            exact y_t i j2 hi hj2 (by omega)
          · exact y_t a b ha hb hp'
        · have ne : itp s (c + 2) (t.supply.length + j) ≠ i := by
            intro hcc
            exact chain_inj al nk (a := 1) (b := c + 2) (by omega) (by omega) (by rw [i1, hcc])
          rw [hshift] at hlt ⊢
          have b := xf (c + 2) (by omega) q hq hlt
          show _ ≤ (if itp s (c + 2) (t.supply.length + j) = i ∧ q = j2 then y i j2 - 1 else y (itp s (c + 2) (t.supply.length + j)) q)
          rw [if_neg (fun h => ne h.1), y_eq, if_neg (fun h => ne h.1)]
          exact b
  · have e1' : t.supply.length + j = i := e1
    omega
def lastTo (w d : Nat → Int) : Nat → Int
  | 0 => -1
  | j + 1 => if 0 < w j then (if lastTo w d j < 0 ∨ d j < d (Int.toNat (lastTo w d j)) then (j : Int) else lastTo w d j) else lastTo w d j
theorem lastTo_spec (w d : Nat → Int) : ∀ j : Nat, (lastTo w d j = -1 ∧ ∀ q, q < j → ¬ 0 < w q) ∨ ∃ q, q < j ∧ lastTo w d j = (q : Int) ∧ 0 < w q
  | 0 => .inl ⟨rfl, fun q hq => by omega⟩
  | j + 1 => by
    have ih := lastTo_spec w d j
    unfold lastTo
    by_cases hw : 0 < w j
    · rw [if_pos hw]
      split
      · exact .inr ⟨j, by omega, rfl, hw⟩
      · rename_i hc
        rcases ih with ⟨a, b⟩ | ⟨q, a, b, c⟩
        · exact absurd (.inl (by omega)) hc
        · exact .inr ⟨q, by omega, b, c⟩
    · rw [if_neg hw]
      rcases ih with ⟨a, b⟩ | ⟨q, a, b, c⟩
      · refine .inl ⟨a, fun q hq => ?_⟩
        by_cases e : q = j
        · rw [e]; exact hw
        · exact b q (by omega)
      · exact .inr ⟨q, by omega, b, c⟩
theorem ref_next (ht : okT t = true) {s : BS} (m3 : List (List Int)) (l5 : List Int) (rec1 : List (List Int) → List Int → List Int → Option (List (List Int))) (l2 l3 : List Int) :
    ref07_best_k5 m3 l5 (tb t.demand.length w) rec1 (buL t s) l2 l3 = ref07_best_k2 m3 l5 (tb t.demand.length w) rec1 l2 l3 (lastTo w (fun j => s.d (t.supply.length + j)) t.demand.length) := by
  have hd := (okT_spec ht).2.1.2.1
  unfold ref07_best_k5
  refine for0 t.demand.length (fun j => lastTo w (fun j => s.d (t.supply.length + j)) j) (fun k x j => ref07_best_L2 m3 l5 (tb t.demand.length w) rec1 (buL t s) l2 l3 k x j) _ (s0 := (-1 : Int)) rfl (fun k j hj => ?_) (fun k => ?_) (by omega)
  · have gw : (tb t.demand.length w)[j]? = some (w j) := tb_at hj
    have gj : (buL t s)[j]? = some (s.d (t.supply.length + j)) := tb_at hj
    have sp := lastTo_spec w (fun j => s.d (t.supply.length + j)) j
    have e : lastTo w (fun j => s.d (t.supply.length + j)) (j + 1) = if 0 < w j then (if lastTo w (fun j => s.d (t.supply.length + j)) j < 0 ∨ s.d (t.supply.length + j) < s.d (t.supply.length + Int.toNat (lastTo w (fun j => s.d (t.supply.length + j)) j)) then (j : Int) else lastTo w (fun j => s.d (t.supply.length + j)) j) else lastTo w (fun j => s.d (t.supply.length + j)) j := rfl
    rw [e]
    generalize lastTo w (fun j => s.d (t.supply.length + j)) j = la at *
    show ref07_best_B2 m3 l5 (tb t.demand.length w) rec1 (buL t s) l2 l3 (ref07_best_L2 m3 l5 (tb t.demand.length w) rec1 (buL t s) l2 l3 k) la (j : Int) = _
    unfold ref07_best_B2 ref07_best_k4 ref07_best_k3
    rw [if_pos (by rw [tb_len]; omega), ix_nat gw]
    by_cases hw : 0 < w j
    · rw [if_pos hw, if_pos hw]
      by_cases hl : la < 0
      · rw [if_pos hl, if_pos rfl, gd_pos (by omega), if_pos (.inl hl)]; rfl
      · rcases sp with ⟨a, _⟩ | ⟨q, a, b, c⟩
        · omega
        · subst b
          have gq : (buL t s)[q]? = some (s.d (t.supply.length + q)) := tb_at (by omega)
          rw [if_neg hl, ix_nat gj, ix_nat gq, show Int.toNat (q : Int) = q from rfl]
          by_cases hc : s.d (t.supply.length + j) < s.d (t.supply.length + q)
          · rw [decide_eq_true hc, if_pos rfl, gd_pos (by omega), if_pos (.inr hc)]; rfl
          · rw [decide_eq_false hc, if_neg (by simp), gd_pos (by omega), if_neg (fun h => by rcases h with h | h <;> omega)]; rfl
    · rw [if_neg hw, if_neg (by simp), gd_pos (by omega), if_neg hw]; rfl
  · show ref07_best_B2 m3 l5 (tb t.demand.length w) rec1 (buL t s) l2 l3 (ref07_best_L2 m3 l5 (tb t.demand.length w) rec1 (buL t s) l2 l3 k) _ _ = _
    unfold ref07_best_B2
    rw [if_neg (by rw [tb_len]; omega)]
theorem sumN_pos {g : Nat → Int} : ∀ {n : Nat}, (∀ i, 0 ≤ g i) → 0 < sumN n g → ∃ i, i < n ∧ 0 < g i
  | 0, _, hp => by simp [sumN] at hp
  | n + 1, hg, hp => by
    by_cases hx : 0 < g n
    · exact ⟨n, by omega, hx⟩
    · have : sumN (n + 1) g = sumN n g + g n := rfl
      obtain ⟨i, hi, h⟩ := sumN_pos (n := n) hg (by omega)
      exact ⟨i, by omega, h⟩
theorem Part.sums (ht : okT t = true) (hp : Part t f h w) : sumN t.supply.length h = sumN t.demand.length w := by
  have e1 := (okT_spec ht).2.2.1
  rw [tot_sumN, tot_sumN] at e1
  have s1 : sumN t.supply.length (fun p => sumN t.demand.length (f p)) + sumN t.supply.length h = sumN t.supply.length (gi t.supply) := by
    rw [← sumN_add]
    exact sumN_congr _ fun i hi => hp.row i hi
  have s2 : sumN t.demand.length (fun q => sumN t.supply.length (fun i => f i q)) + sumN t.demand.length w = sumN t.demand.length (gi t.demand) := by
    rw [← sumN_add]
    exact sumN_congr _ fun i hi => hp.col i hi
  have s3 : sumN t.supply.length (fun p => sumN t.demand.length (f p)) = sumN t.demand.length (fun q => sumN t.supply.length (fun i => f i q)) := sumN_swap f t.demand.length t.supply.length
  omega
/-- One ton more. -/
theorem ref_ton (ht : okT t = true) (hp : Part t f h w) (hpos : 0 < sumN t.supply.length h) (rec1 : List (List Int) → List Int → List Int → Option (List (List Int))) :
    ∃ f' h' w', Part t f' h' w' ∧ sumN t.supply.length h' = sumN t.supply.length h - 1 ∧ ref07_best_k16 t (tab t f) (tb t.supply.length h) (tb t.demand.length w) rec1 (List.replicate t.supply.length 0) (List.replicate t.demand.length 0) = rec1 (tab t f') (tb t.supply.length h') (tb t.demand.length w') := by
  have h1 := (okT_spec ht).1
  have h2 := (okT_spec ht).2.1
  have hN : nN t = t.supply.length + t.demand.length := rfl
  have hF : FAR = 1073741824 := rfl
  rw [ref_start ht]
  have stable := hp.stable ht
  have near := fun {i0} (hi0 : i0 < t.supply.length) (h0 : 0 < h i0) {j} (hj : j < t.demand.length) => hp.near ht hi0 h0 hj
  have root := fun {v} (hv : v < nN t) => hp.root (nN t + 1) hv
  have hmem := rK_mem (t := t) (f := f) (h := h) (nN t + 1)
  have hinv := rK_inv (t := t) (f := f) (h := h) (nN t + 1)
  generalize hS : rK t f h (nN t + 1) = S at *
  show ∃ f' h' w', _ ∧ _ ∧ ref07_best_k5 (tab t f) (tb t.supply.length h) (tb t.demand.length w) rec1 (buL t S) (byL t S) (frL t S) = _
  rw [ref_next ht]
  obtain ⟨i0, hi0, h0⟩ := sumN_pos hp.hn hpos
  have hw := hp.sums ht
  obtain ⟨j0, hj0, w0⟩ := sumN_pos hp.wn (by rw [← hw]; exact hpos)
  rcases lastTo_spec w (fun j => S.d (t.supply.length + j)) t.demand.length with ⟨_, b⟩ | ⟨j, a, b, c⟩
  · exact absurd w0 (b j0 hj0)
  · rw [b]
    have gw : (tb t.demand.length w)[j]? = some (w j) := tb_at a
    have fin : ∀ q, q < t.demand.length → S.d (t.supply.length + q) < FAR := fun q hq => near hi0 h0 hq
    have tight_of : ∀ i q, i < t.supply.length → q < t.demand.length → S.d i + cc t i q ≤ S.d (t.supply.length + q) → Tight t S i q := fun i q hi hq hle => by
      have hb := cost_pos ht hi hq
      have := stable ⟨i, t.supply.length + q, cc t i q⟩ (eds_mem.2 ⟨i, q, hi, hq, .inl rfl⟩) (by have := fin q hq; show S.d i < FAR; omega)
      have this' : S.d (t.supply.length + q) ≤ S.d i + cc t i q := this
      unfold Tight; omega
    have tf : ∀ i q, i < t.supply.length → q < t.demand.length → 0 < f i q → Tight t S i q := fun i q hi hq hfp => by
      have := stable ⟨t.supply.length + q, i, -cc t i q⟩ (eds_mem.2 ⟨i, q, hi, hq, .inr ⟨rfl, hfp⟩⟩) (fin q hq)
      have this' : S.d i ≤ S.d (t.supply.length + q) + -cc t i q := this
      exact tight_of i q hi hq (by omega)
    have htb : ∀ i q, i < t.supply.length → q < t.demand.length → S.by_ (t.supply.length + q) = some ⟨i, t.supply.length + q, cc t i q⟩ → Tight t S i q := fun i q hi hq hby => by
      obtain ⟨T, τ, hv⟩ := hinv
      have := hv.low _ _ hby
      exact tight_of i q hi hq this
    obtain ⟨k, k1, k2, k3⟩ := root (v := t.supply.length + j) (by omega)
    -- the beginning is a store that has tons
    have rfar : S.d (itp S k (t.supply.length + j)) < FAR := by
      obtain ⟨T, τ, hv⟩ := hinv
      exact chain_far hv (fin j a) k
    have rd0 : S.d (itp S k (t.supply.length + j)) = d0h t h (itp S k (t.supply.length + j)) := by
      obtain ⟨T, τ, hv⟩ := hinv
      exact hv.nil _ k2
    rw [rd0] at rfar
    have rst : itp S k (t.supply.length + j) < t.supply.length ∧ 0 < h (itp S k (t.supply.length + j)) := by
      unfold d0h at rfar
      split at rfar
      · rename_i hlt
        refine ⟨hlt, ?_⟩
        split at rfar
        · omega
        · have := hp.hn (itp S k (t.supply.length + j)); omega
      · omega
    have wcol := hp.col j a
    have wb : w j ≤ 30 := by
      have := demand_bnd ht a
      have := sumN_nn (f := fun i => f i j) (n := t.supply.length) (fun i _ => hp.nn i j)
      omega
    obtain ⟨x', h', hfin, hrun⟩ := ref_path (w := fun q => if q = j then w j - 1 else w q) ht hp.hn hmem htb (tb t.demand.length w) rec1 (j : Int) (w j) k FU j f (by have := FU_pos; omega) a k3 k2 rst.1 rst.2
      ⟨hp.nn, hp.row, fun q hq => by
        have := hp.col q hq
        by_cases e : q = j
        · subst e; rw [if_pos rfl, if_pos rfl]; omega
        · rw [if_neg e, if_neg e]; omega, tf⟩ (fun c _ q _ _ => Int.le_refl _)
    refine ⟨x', h', fun q => if q = j then w j - 1 else w q, ⟨hfin.nn, hfin.hn, fun q => ?_, hfin.row, hfin.col, fun i => -S.d i, fun q => S.d (t.supply.length + q), fun i q hi hq => ?_, fun i q hi hq hx => ?_⟩, hfin.sum, ?_⟩
    · have := hp.wn q
      split <;> omega
    · show -S.d i + S.d (t.supply.length + q) ≤ cc t i q
      have hb := cost_pos ht hi hq
      by_cases hlt : S.d i < FAR
      · have := stable ⟨i, t.supply.length + q, cc t i q⟩ (eds_mem.2 ⟨i, q, hi, hq, .inl rfl⟩) hlt
        have this' : S.d (t.supply.length + q) ≤ S.d i + cc t i q := this
        omega
      · have := fin q hq; omega
    · have := hfin.tight i q hi hq hx
      unfold Tight at this
      show -S.d i + S.d (t.supply.length + q) = cc t i q
      omega
    · unfold ref07_best_k2
      rw [ix_nat gw, gd_pos (by omega), ix_nat gw, hrun, show Int.toNat (j : Int) = j from rfl, tb_set]
theorem ref_loop (ht : okT t = true) : ∀ (c fuel : Nat) (f : Nat → Nat → Int) (h w : Nat → Int), Part t f h w → sumN t.supply.length h ≤ (c : Int) → c < fuel → ∃ g, BestF t g ∧ ref07_best_L8 t fuel (tab t f) (tb t.supply.length h) (tb t.demand.length w) = some (tab t g)
  | c, 0, f, h, w, hp, hc, hf => by omega
  | c, fuel + 1, f, h, w, hp, hc, hf => by
    have h1 := (okT_spec ht).1
    have h2 := (okT_spec ht).2.1
    have hsum : ref07_sum (tb t.supply.length h) = some (sumN t.supply.length h) := by
      have := rsum_eq (M := 30) (by decide) (l := tb t.supply.length h) (by rw [tb_len]; omega) (fun x hx => by
        unfold tb at hx
        obtain ⟨i, hi, rfl⟩ := List.mem_map.1 hx
        have hi := List.mem_range.1 hi
        have a := hp.row i hi
        have b := supply_bnd ht hi
        have d := sumN_nn (f := f i) (n := t.demand.length) (fun q _ => hp.nn i q)
        exact ⟨hp.hn i, by omega⟩)
      rw [this, tot_sumN, tb_len]
      congr 1
      exact sumN_congr _ fun i hi => tb_gi hi
    have e : ref07_best_L8 t (fuel + 1) (tab t f) (tb t.supply.length h) (tb t.demand.length w) = ref07_best_B8 t (ref07_best_L8 t fuel) (tab t f) (tb t.supply.length h) (tb t.demand.length w) := rfl
    rw [e]
    unfold ref07_best_B8
    rw [bnd_eq hsum]
    by_cases hpos : 0 < sumN t.supply.length h
    · rw [if_pos hpos, tb_len, tb_len, gd_pos (by omega), gd_pos (by omega), show Int.toNat (t.supply.length : Int) = t.supply.length from rfl, show Int.toNat (t.demand.length : Int) = t.demand.length from rfl]
      obtain ⟨f', h', w', p1, p2, p3⟩ := ref_ton ht hp hpos (ref07_best_L8 t fuel)
      rw [p3]
      obtain ⟨c, rfl⟩ : ∃ q, c = q + 1 := ⟨c - 1, by omega⟩
      exact ref_loop ht c fuel f' h' w' p1 (by omega) (by omega)
    · rw [if_neg hpos]
      have hz : sumN t.supply.length h = 0 := by
        have := sumN_nn (f := h) (n := t.supply.length) (fun i _ => hp.hn i)
        omega
      have wz : sumN t.demand.length w = 0 := by rw [← hp.sums ht]; exact hz
      refine ⟨f, ⟨⟨hp.nn, fun i hi => ?_, fun j hj => ?_⟩, hp.cert⟩, rfl⟩
      · have := hp.row i hi
        have := sumN_zero_of (fun i _ => hp.hn i) hz i hi
        omega
      · have := hp.col j hj
        have := sumN_zero_of (fun i _ => hp.wn i) wz j hj
        omega
theorem gi_nn {l : List Int} (h : ∀ x ∈ l, 0 ≤ x ∧ x ≤ 30) (i : Nat) : 0 ≤ gi l i := by
  by_cases hi : i < l.length
  · exact (h _ (List.mem_of_getElem? (gi_at hi))).1
  · unfold gi List.getD
    rw [List.getElem?_eq_none (by omega)]; exact Int.le_refl _
theorem rbest_eq (ht : okT t = true) : ∃ g, BestF t g ∧ ref07_best t = some (tab t g) := by
  have h1 := (okT_spec ht).1
  have h2 := (okT_spec ht).2.1
  obtain ⟨g, a, b⟩ := ref_loop ht 120 FU (fun _ _ => 0) (gi t.supply) (gi t.demand)
    ⟨fun _ _ => Int.le_refl _, gi_nn h1.2.2, gi_nn h2.2.2, fun i hi => by rw [sumN_zero]; omega, fun j hj => by rw [sumN_zero]; omega, fun _ => 0, fun _ => 0, fun i j hi hj => by have := cost_pos ht hi hj; omega, fun i j _ _ h => by omega⟩
    (by
      have := (sumN_bnd (M := 30) t.supply.length (f := gi t.supply) (fun i hi => supply_bnd ht hi)).2
      omega) (by have := FU_pos; omega)
  refine ⟨g, a, ?_⟩
  unfold ref07_best ref07_best_k17
  rw [bnd_eq (rempty_eq (by omega) (by omega)), gd_pos (by simp; omega), gd_pos (by simp; omega)]
  rw [tb_self, tb_self] at b
  exact b
end
end Go.D7

set_option linter.unusedVariables false
set_option linter.unusedSimpArgs false
namespace Go.D7
open Go.Tb
/-- The smallest cost. -/
def IsLeast (t : Trade) (c : Int) : Prop := ∃ g, BestF t g ∧ costF t g = c
section
variable {t : Trade} {f : Nat → Nat → Int} {c : Int}
theorem IsLeast.le (h : IsLeast t c) (hp : PlanF t f) : c ≤ costF t f := by
  obtain ⟨g, hg, rfl⟩ := h
  exact hg.le hp
theorem IsLeast.eq (h : IsLeast t c) (hp : BestF t f) : c = costF t f := by
  obtain ⟨g, hg, rfl⟩ := h
  exact hg.same hp
theorem IsLeast.same {d : Int} (h : IsLeast t c) (h' : IsLeast t d) : c = d := by
  obtain ⟨g, hg, rfl⟩ := h'
  exact h.eq hg
theorem val0 (hv : okT t = true) : validate t = 0 := if_pos hv
theorem val1 (hv : ¬ okT t = true) : validate t = 1 := if_neg hv
theorem tabT (ht : okT t = true) (hp : PlanF t f) : tabB t (tab t f) 120 = true := (check0 (plan_check ht hp)).2.1
theorem cost_plan (ht : okT t = true) (hp : PlanF t f) : bulk_cost t (tab t f) = some (costF t f) := by rw [cost_eq ht (tabT ht hp), costN_tab]
theorem rcost_plan (ht : okT t = true) (hp : PlanF t f) : ref07_cost t (tab t f) = some (costF t f) := by rw [rcost_eq ht (tabT ht hp), costN_tab]
theorem Least_ok (hs : Tsmall t) (ht : okT t = true) : ∃ c, IsLeast t c ∧ bulk_Least t = some (c, 0) ∧ ref07_Least t = some (c, 0) := by
  obtain ⟨g, d, hp, hst, hb⟩ := best_eq ht
  obtain ⟨g', hg', hb'⟩ := rbest_eq ht
  have hg := hst.best hp
  refine ⟨costF t g, ⟨g, hg, rfl⟩, ?_, ?_⟩
  · unfold bulk_Least
    rw [bnd_eq (Validate_eq hs), val0 ht, if_pos rfl, bnd_eq hb]
    show bnd (bulk_cost t (tab t g)) _ = _
    rw [bnd_eq (cost_plan ht hp)]
  · unfold ref07_Least
    rw [bnd_eq (rValidate_eq hs), val0 ht, if_pos rfl, bnd_eq hb', bnd_eq (rcost_plan ht hg'.plan), hg'.same hg]
end
section
variable {t : Trade} {f : Nat → Nat → Int} {c : Int}
end
end Go.D7
