/- Lemmas and walks that the proof of this claim uses: D7p1, D7p2, D7p3, D7p4, D7p5, D7q1, D7q2, D7q3, D7q4. -/
import Derived.Test.YtmmefcihahcchaaTopPlans4
set_option linter.unusedVariables false
set_option linter.unusedSimpArgs false
namespace Go.D7
open Go.Tb
theorem ix0 {α β : Type} {l : List α} {k : α → Option β} {x : α} (h : l[0]? = some x) : ix l 0 k = k x := ix_nat (i := 0) h
theorem for0 {S R : Type} (N : Nat) (g : Nat → S) (L : Nat → S → Int → Option R) (yes : Option R) {s0 : S} (h0 : g 0 = s0)
    (step : ∀ n i : Nat, i < N → L (n + 1) (g i) (i : Int) = L n (g (i + 1)) ((i + 1 : Nat) : Int))
    (stop : ∀ n : Nat, L (n + 1) (g N) (N : Int) = yes) (hN : N ≤ 9223372036854775807) : L FU s0 0 = yes := by
  rw [← h0]; exact for_loop0 N g L yes step stop hN
theorem scan_inv {S R : Type} (N : Nat) (p : Nat → Bool) (g : Nat → S) (L : Nat → S → Int → Option R) (yes no : Option R)
    (step : ∀ n i : Nat, i < N → (∀ j, j < i → p j = true) → L (n + 1) (g i) (i : Int) = if p i = true then L n (g (i + 1)) ((i + 1 : Nat) : Int) else no)
    (stop : ∀ n : Nat, (∀ j, j < N → p j = true) → L (n + 1) (g N) (N : Int) = yes) : ∀ (d n i : Nat), N = i + d → d < n → (∀ j, j < i → p j = true) → L n (g i) (i : Int) = if (∀ j, j < N → p j = true) then yes else no
  | 0, n + 1, i, hd, hn, hi => by
    have e : i = N := by omega
    subst e
    rw [stop n hi, if_pos hi]
  | d + 1, n + 1, i, hd, hn, hi => by
    rw [step n i (by omega) hi]
    by_cases hp : p i = true
    · rw [if_pos hp]
      exact scan_inv N p g L yes no step stop d n (i + 1) (by omega) (by omega) (fun j hj => by
        by_cases h : j = i
        · subst h; exact hp
        · exact hi j (by omega))
    · rw [if_neg hp, if_neg (fun h => hp (h i (by omega)))]
theorem scan_inv0 {S R : Type} (N : Nat) (p : Nat → Bool) (g : Nat → S) (L : Nat → S → Int → Option R) (yes no : Option R) {s0 : S} (h0 : g 0 = s0)
    (step : ∀ n i : Nat, i < N → (∀ j, j < i → p j = true) → L (n + 1) (g i) (i : Int) = if p i = true then L n (g (i + 1)) ((i + 1 : Nat) : Int) else no)
    (stop : ∀ n : Nat, (∀ j, j < N → p j = true) → L (n + 1) (g N) (N : Int) = yes) (hN : N ≤ 9223372036854775807) : L FU s0 0 = if (∀ j, j < N → p j = true) then yes else no := by
  rw [← h0]
  exact scan_inv N p g L yes no step stop N FU 0 (by omega) (by have := FU_pos; omega) (fun j hj => by omega)
def gi (l : List Int) (i : Nat) : Int := l.getD i 0
theorem gi_at {l : List Int} {i : Nat} (h : i < l.length) : l[i]? = some (gi l i) := by simp [gi, List.getD, h]
theorem gi_of {l : List Int} {i : Nat} {x : Int} (h : l[i]? = some x) : gi l i = x := by simp [gi, List.getD, h]
def gr (l : List (List Int)) (i : Nat) : List Int := l.getD i []
theorem gr_at {l : List (List Int)} {i : Nat} (h : i < l.length) : l[i]? = some (gr l i) := by simp [gr, List.getD, h]
theorem gr_of {l : List (List Int)} {i : Nat} {x : List Int} (h : l[i]? = some x) : gr l i = x := by simp [gr, List.getD, h]
def within (n lo hi : Int) : Bool := decide (lo ≤ n) && decide (n ≤ hi)
theorem within_iff {n lo hi : Int} : within n lo hi = true ↔ lo ≤ n ∧ n ≤ hi := by unfold within; simp
theorem bwithin_eq (n lo hi : Int) : bulk_within n lo hi = some (within n lo hi) := by
  unfold bulk_within within
  by_cases h : lo ≤ n <;> simp [h]
theorem rwithin_eq (n lo hi : Int) : ref07_within n lo hi = some (within n lo hi) := by
  unfold ref07_within within
  by_cases h : lo ≤ n <;> simp [h]
def tot : List Int → Int
  | [] => 0
  | x :: r => x + tot r
theorem tot_append : ∀ a b : List Int, tot (a ++ b) = tot a + tot b
  | [], b => by simp [tot]
  | x :: a, b => by simp only [List.cons_append, tot, tot_append a b]; omega
theorem tot_take {l : List Int} {i : Nat} (h : i < l.length) : tot (l.take (i + 1)) = tot (l.take i) + gi l i := by
  rw [List.take_add_one, gi_at h, tot_append]
  simp [tot]
theorem tot_bnd {M : Int} (hM : 0 ≤ M) : ∀ l : List Int, (∀ x ∈ l, 0 ≤ x ∧ x ≤ M) → 0 ≤ tot l ∧ tot l ≤ M * (l.length : Int)
  | [], _ => by simp [tot]
  | x :: r, h => by
    have ih := tot_bnd hM r (fun y hy => h y (List.mem_cons_of_mem _ hy))
    have hx := h x (List.mem_cons_self ..)
    have e : ((List.length (x :: r) : Nat) : Int) = (r.length : Int) + 1 := by simp
    rw [e, Int.mul_add]
    simp only [tot]
    omega
theorem total_eq {M : Int} (hM : 0 ≤ M ∧ M ≤ 1000) {l : List Int} (hl : l.length ≤ 1000) (h : ∀ x ∈ l, 0 ≤ x ∧ x ≤ M) : bulk_total l = some (tot l) := by
  unfold bulk_total
  refine Eq.trans (for0 l.length (fun i => tot (l.take i)) (fun k s i => bulk_total_L1 l k s i) (some (tot l)) rfl (fun k i hi => ?_) (fun k => ?_) (by omega)) rfl
  · have hb := tot_bnd hM.1 (l.take i) (fun x hx => h x (List.mem_of_mem_take hx))
    have hx := h _ (List.mem_of_getElem? (gi_at hi))
    have hlt : ((l.take i).length : Int) ≤ 1000 := by rw [List.length_take]; omega
    have h2 : M * ((l.take i).length : Int) ≤ 1000 * 1000 := Int.le_trans (Int.mul_le_mul_of_nonneg_right hM.2 (Int.natCast_nonneg _)) (Int.mul_le_mul_of_nonneg_left hlt (by decide))
    show bulk_total_B1 l (bulk_total_L1 l k) _ _ = _
    unfold bulk_total_B1
    rw [if_pos (by omega), ix_nat (gi_at hi), gd_pos (by omega), gd_pos (by omega), tot_take hi]; rfl
  · show bulk_total_B1 l (bulk_total_L1 l k) _ _ = _
    unfold bulk_total_B1
    rw [if_neg (by omega), List.take_length]; rfl
theorem rsum_eq {M : Int} (hM : 0 ≤ M ∧ M ≤ 1000) {l : List Int} (hl : l.length ≤ 1000) (h : ∀ x ∈ l, 0 ≤ x ∧ x ≤ M) : ref07_sum l = some (tot l) := by
  unfold ref07_sum
  refine Eq.trans (for0 l.length (fun i => tot (l.take i)) (fun k s i => ref07_sum_L1 l k s i) (some (tot l)) rfl (fun k i hi => ?_) (fun k => ?_) (by omega)) rfl
  · have hb := tot_bnd hM.1 (l.take i) (fun x hx => h x (List.mem_of_mem_take hx))
    have hx := h _ (List.mem_of_getElem? (gi_at hi))
    have hlt : ((l.take i).length : Int) ≤ 1000 := by rw [List.length_take]; omega
    have h2 : M * ((l.take i).length : Int) ≤ 1000 * 1000 := Int.le_trans (Int.mul_le_mul_of_nonneg_right hM.2 (Int.natCast_nonneg _)) (Int.mul_le_mul_of_nonneg_left hlt (by decide))
    show ref07_sum_B1 l (ref07_sum_L1 l k) _ _ = _
    unfold ref07_sum_B1
    rw [if_pos (by omega), ix_nat (gi_at hi), gd_pos (by omega), gd_pos (by omega), tot_take hi]; rfl
  · show ref07_sum_B1 l (ref07_sum_L1 l k) _ _ = _
    unfold ref07_sum_B1
    rw [if_neg (by omega), List.take_length]; rfl
theorem indexF_eq {l : List Int} {f : Int → Option Bool} {p : Int → Bool} (hf : ∀ x, f x = some (p x)) (hl : l.length ≤ 1000) : ∀ (suf pre : List Int) (k : Nat), l = pre ++ suf → suf.length < k → ∃ i : Int, slices_IndexFunc_int_L1 l f k (pre.length : Int) = some i ∧ (0 ≤ i ↔ suf.any p = true)
  | [], pre, k + 1, h, hk => by
    refine ⟨-1, ?_, by simp⟩
    show slices_IndexFunc_int_B1 l f (slices_IndexFunc_int_L1 l f k) _ = _
    unfold slices_IndexFunc_int_B1
    rw [if_neg (by rw [h]; simp)]; rfl
  | y :: r, pre, k + 1, h, hk => by
    have hy : l[pre.length]? = some y := by rw [h, List.getElem?_append_right (Nat.le_refl _)]; simp
    have := lt_of_at hy
    obtain ⟨i, h1, h2⟩ := indexF_eq hf hl r (pre ++ [y]) k (by rw [h]; simp) (by simp at hk; omega)
    have e : slices_IndexFunc_int_L1 l f (k + 1) (pre.length : Int) = slices_IndexFunc_int_B1 l f (slices_IndexFunc_int_L1 l f k) (pre.length : Int) := rfl
    rw [e]
    unfold slices_IndexFunc_int_B1
    rw [if_pos (by omega), ix_nat hy, bnd_eq (hf y)]
    by_cases hp : p y = true
    · rw [if_pos hp]
      exact ⟨_, rfl, by simp [hp]⟩
    · rw [if_neg hp, gd_pos (by omega)]
      rw [show (((pre ++ [y]).length : Nat) : Int) = (pre.length : Int) + 1 by simp] at h1
      exact ⟨i, h1, by rw [h2]; simp [hp]⟩
theorem containsF_eq {l : List Int} {f : Int → Option Bool} {p : Int → Bool} (hf : ∀ x, f x = some (p x)) (hl : l.length ≤ 1000) : slices_ContainsFunc_int l f = some (l.any p) := by
  obtain ⟨i, h1, h2⟩ := indexF_eq hf hl l [] FU rfl (by have := FU_pos; omega)
  unfold slices_ContainsFunc_int slices_IndexFunc_int
  have h1' : slices_IndexFunc_int_L1 l f FU 0 = some i := h1
  rw [bnd_eq h1']
  congr 1
  by_cases h : l.any p = true
  · rw [decide_eq_true (h2.2 h), h]
  · rw [decide_eq_false (fun hc => h (h2.1 hc))]; simpa using h
theorem any_not {α : Type} (l : List α) (p : α → Bool) : (!(l.any (fun x => !p x))) = l.all p := by
  induction l with
  | nil => rfl
  | cons x r ih => simp only [List.any_cons, List.all_cons, Bool.not_or, Bool.not_not, ih]
def amtB (l : List Int) : Bool := (decide (1 ≤ l.length) && decide (l.length ≤ 4)) && l.all (fun x => within x 0 30)
def rowB (n : Nat) (most : Int) (row : List Int) : Bool := decide (row.length = n) && row.all (fun x => within x 0 most)
def tabB (t : Trade) (l : List (List Int)) (most : Int) : Bool := decide (l.length = t.supply.length) && l.all (rowB t.demand.length most)
def okT (t : Trade) : Bool := amtB t.supply && amtB t.demand && decide (tot t.supply = tot t.demand) && tabB t t.cost 99
def validate (t : Trade) : Int := if okT t = true then 0 else 1
theorem amounts_eq {l : List Int} (hl : l.length ≤ 1000) : bulk_amounts l = some (amtB l) := by
  unfold bulk_amounts amtB
  rw [bnd_eq (bwithin_eq _ _ _)]
  have e : within (l.length : Int) 1 4 = (decide (1 ≤ l.length) && decide (l.length ≤ 4)) := by
    rw [Bool.eq_iff_iff, within_iff]; simp; omega
  rw [e]
  cases (decide (1 ≤ l.length) && decide (l.length ≤ 4))
  · rfl
  · rw [if_pos rfl, bnd_eq (containsF_eq (p := fun x => !within x 0 30) (fun x => by unfold bulk_amounts_1; rw [bnd_eq (bwithin_eq _ _ _)]) hl), any_not]; rfl
theorem ramounts_eq {l : List Int} (hl : l.length ≤ 1000) : ref07_amounts l = some (amtB l) := by
  unfold ref07_amounts amtB
  have e : within (l.length : Int) 1 4 = (decide (1 ≤ l.length) && decide (l.length ≤ 4)) := by
    rw [Bool.eq_iff_iff, within_iff]; simp; omega
  rw [list_loop0 l (fun x => within x 0 30) (ref07_amounts_L1 l) (some (decide (1 ≤ l.length) && decide (l.length ≤ 4))) (some false) (fun k i x hx => ?_) (fun k => ?_) (by omega)]
  · cases l.all (fun x => within x 0 30) <;> simp
  · have := lt_of_at hx
    show ref07_amounts_B1 l (ref07_amounts_L1 l k) _ = _
    unfold ref07_amounts_B1
    rw [if_pos (by omega), ix_nat hx, bnd_eq (rwithin_eq _ _ _)]
    by_cases h : within x 0 30 = true
    · rw [if_pos h, gd_pos (by omega), if_pos h]; rfl
    · rw [if_neg h, if_neg h]
  · show ref07_amounts_B1 l (ref07_amounts_L1 l k) _ = _
    unfold ref07_amounts_B1 ref07_amounts_k1
    rw [if_neg (by omega), bnd_eq (rwithin_eq _ _ _), e]
def Tsmall (t : Trade) : Prop := t.supply.length ≤ 50 ∧ t.demand.length ≤ 50 ∧ t.cost.length ≤ 50 ∧ ∀ r ∈ t.cost, r.length ≤ 50
def Lsmall (l : List (List Int)) : Prop := l.length ≤ 50 ∧ ∀ r ∈ l, r.length ≤ 50
theorem table_eq {t : Trade} (ht : t.supply.length ≤ 1000 ∧ t.demand.length ≤ 1000) {l : List (List Int)} (hl : Lsmall l) (most : Int) : bulk_table t l most = some (tabB t l most) := by
  unfold bulk_table tabB
  have hl1 := hl.1
  by_cases h : l.length = t.supply.length
  · rw [if_pos (by omega), decide_eq_true h, Bool.true_and, list_loop0 l (rowB t.demand.length most) (bulk_table_L1 t l most) (some true) (some false) (fun k i x hx => ?_) (fun k => ?_) (by omega)]
    · cases l.all (rowB t.demand.length most) <;> rfl
    · have := lt_of_at hx
      have hx50 := hl.2 x (List.mem_of_getElem? hx)
      show bulk_table_B1 t l most (bulk_table_L1 t l most k) _ = _
      unfold bulk_table_B1 bulk_table_k2 rowB
      rw [if_pos (by omega), ix_nat hx]
      by_cases hr : x.length = t.demand.length
      · rw [if_pos (by omega), bnd_eq (containsF_eq (p := fun y => !within y 0 most) (fun y => by unfold bulk_table_1; rw [bnd_eq (bwithin_eq _ _ _)]) (by omega)), decide_eq_true hr, Bool.true_and, ← any_not]
        cases x.any (fun y => !within y 0 most)
        · rw [if_neg (by simp), gd_pos (by omega), if_pos (by rfl)]; rfl
        · rw [if_pos rfl, if_neg (by simp)]
      · rw [if_neg (by omega), if_pos rfl, decide_eq_false hr, if_neg (by simp)]
    · show bulk_table_B1 t l most (bulk_table_L1 t l most k) _ = _
      unfold bulk_table_B1
      rw [if_neg (by omega)]; rfl
  · rw [if_neg (by omega), decide_eq_false h]; rfl
theorem rtable_eq {t : Trade} (ht : t.supply.length ≤ 1000 ∧ t.demand.length ≤ 1000) {l : List (List Int)} (hl : Lsmall l) (most : Int) : ref07_table t l most = some (tabB t l most) := by
  unfold ref07_table tabB
  have hl1 := hl.1
  by_cases h : l.length = t.supply.length
  · rw [if_pos (by omega), decide_eq_true h, Bool.true_and, list_loop0 l (rowB t.demand.length most) (ref07_table_L2 t l most) (some true) (some false) (fun k i x hx => ?_) (fun k => ?_) (by omega)]
    · cases l.all (rowB t.demand.length most) <;> rfl
    · have := lt_of_at hx
      have hx50 := hl.2 x (List.mem_of_getElem? hx)
      show ref07_table_B2 t l most (ref07_table_L2 t l most k) _ = _
      unfold ref07_table_B2 rowB
      rw [if_pos (by omega), ix_nat hx]
      by_cases hr : x.length = t.demand.length
      · rw [if_pos (by omega), decide_eq_true hr, Bool.true_and, list_loop0 x (fun y => within y 0 most) (ref07_table_L1 l most (i : Int) (ref07_table_L2 t l most k)) (ref07_table_L2 t l most k ((i + 1 : Nat) : Int)) (some false) (fun q j y hy => ?_) (fun q => ?_) (by omega)]
        · have := lt_of_at hy
          show ref07_table_B1 l most (i : Int) (ref07_table_L2 t l most k) (ref07_table_L1 l most (i : Int) (ref07_table_L2 t l most k) q) _ = _
          unfold ref07_table_B1
          rw [ix_nat hx, if_pos (by omega), ix_nat hx, ix_nat hy, bnd_eq (rwithin_eq _ _ _)]
          by_cases hw : within y 0 most = true
          · rw [if_pos hw, gd_pos (by omega), if_pos hw]; rfl
          · rw [if_neg hw, if_neg hw]
        · show ref07_table_B1 l most (i : Int) (ref07_table_L2 t l most k) (ref07_table_L1 l most (i : Int) (ref07_table_L2 t l most k) q) _ = _
          unfold ref07_table_B1 ref07_table_k2
          rw [ix_nat hx, if_neg (by omega), gd_pos (by omega)]; rfl
      · rw [if_neg (by omega), decide_eq_false hr, if_neg (by simp)]
    · show ref07_table_B2 t l most (ref07_table_L2 t l most k) _ = _
      unfold ref07_table_B2
      rw [if_neg (by omega)]; rfl
  · rw [if_neg (by omega), decide_eq_false h]; rfl
theorem amt_mem {l : List Int} (h : amtB l = true) : 1 ≤ l.length ∧ l.length ≤ 4 ∧ ∀ x ∈ l, 0 ≤ x ∧ x ≤ 30 := by
  unfold amtB at h
  simp only [Bool.and_eq_true, decide_eq_true_eq, List.all_eq_true, within_iff] at h
  exact ⟨h.1.1, h.1.2, h.2⟩
theorem Validate_eq {t : Trade} (ht : Tsmall t) : bulk_Validate t = some (validate t) := by
  obtain ⟨h1, h2, h3, h4⟩ := ht
  unfold bulk_Validate validate okT bulk_Validate_k1
  rw [bnd_eq (amounts_eq (by omega))]
  cases ha : amtB t.supply
  · rw [if_neg (by simp), if_pos rfl]; rfl
  · rw [if_pos rfl, bnd_eq (amounts_eq (by omega))]
    cases hb : amtB t.demand
    · rw [if_neg (by simp), if_pos rfl]; rfl
    · have m1 := amt_mem ha
      have m2 := amt_mem hb
      rw [if_pos rfl, bnd_eq (total_eq (M := 30) (by decide) (by omega) m1.2.2), bnd_eq (total_eq (M := 30) (by decide) (by omega) m2.2.2)]
      by_cases he : tot t.supply = tot t.demand
      · rw [if_pos he, bnd_eq (table_eq ⟨by omega, by omega⟩ ⟨h3, h4⟩ _), decide_eq_true he]
        cases tabB t t.cost 99 <;> rfl
      · rw [if_neg he, if_pos rfl, decide_eq_false he]; rfl
theorem rValidate_eq {t : Trade} (ht : Tsmall t) : ref07_Validate t = some (validate t) := by
  obtain ⟨h1, h2, h3, h4⟩ := ht
  unfold ref07_Validate validate okT ref07_Validate_k1
  rw [bnd_eq (ramounts_eq (by omega))]
  cases ha : amtB t.supply
  · rw [if_neg (by simp), if_pos rfl]; rfl
  · rw [if_pos rfl, bnd_eq (ramounts_eq (by omega))]
    cases hb : amtB t.demand
    · rw [if_neg (by simp), if_pos rfl]; rfl
    · have m1 := amt_mem ha
      have m2 := amt_mem hb
      rw [if_pos rfl, bnd_eq (rsum_eq (M := 30) (by decide) (by omega) m1.2.2), bnd_eq (rsum_eq (M := 30) (by decide) (by omega) m2.2.2)]
      by_cases he : tot t.supply = tot t.demand
      · rw [if_pos he, bnd_eq (rtable_eq ⟨by omega, by omega⟩ ⟨h3, h4⟩ _), decide_eq_true he]
        cases tabB t t.cost 99 <;> rfl
      · rw [if_neg he, if_pos rfl, decide_eq_false he]; rfl
end Go.D7

set_option linter.unusedVariables false
set_option linter.unusedSimpArgs false
namespace Go.D7
open Go.Tb
def sumN : Nat → (Nat → Int) → Int
  | 0, _ => 0
  | n + 1, f => sumN n f + f n
theorem sumN_congr {f g : Nat → Int} : ∀ n, (∀ i, i < n → f i = g i) → sumN n f = sumN n g
  | 0, _ => rfl
  | n + 1, h => by simp only [sumN, sumN_congr n (fun i hi => h i (by omega)), h n (by omega)]
theorem sumN_bnd {M : Int} {f : Nat → Int} : ∀ n, (∀ i, i < n → 0 ≤ f i ∧ f i ≤ M) → 0 ≤ sumN n f ∧ sumN n f ≤ M * (n : Int)
  | 0, _ => by simp [sumN]
  | n + 1, h => by
    have ih := sumN_bnd n (fun i hi => h i (by omega))
    have hn := h n (by omega)
    rw [show ((n + 1 : Nat) : Int) = (n : Int) + 1 by omega, Int.mul_add]
    simp only [sumN]; omega
theorem sumN_add (f g : Nat → Int) : ∀ n, sumN n (fun i => f i + g i) = sumN n f + sumN n g
  | 0 => rfl
  | n + 1 => by simp only [sumN, sumN_add f g n]; omega
theorem sumN_mul (c : Int) (f : Nat → Int) : ∀ n, sumN n (fun i => c * f i) = c * sumN n f
  | 0 => by simp [sumN]
  | n + 1 => by simp only [sumN, sumN_mul c f n, Int.mul_add]
theorem sumN_zero : ∀ n, sumN n (fun _ => 0) = 0
  | 0 => rfl
  | n + 1 => by simp only [sumN, sumN_zero n]; rfl
theorem sumN_swap (f : Nat → Nat → Int) (m : Nat) : ∀ n, sumN n (fun i => sumN m (fun j => f i j)) = sumN m (fun j => sumN n (fun i => f i j))
  | 0 => by simp only [sumN]; rw [sumN_zero]
  | n + 1 => by simp only [sumN, sumN_swap f m n, sumN_add]
theorem sumN_le {f g : Nat → Int} : ∀ n, (∀ i, i < n → f i ≤ g i) → sumN n f ≤ sumN n g
  | 0, _ => Int.le_refl _
  | n + 1, h => by
    have ih := sumN_le n (fun i hi => h i (by omega))
    have hn := h n (by omega)
    simp only [sumN]; omega
theorem tot_sumN (l : List Int) : tot l = sumN l.length (gi l) := by
  have key : ∀ i, i ≤ l.length → tot (l.take i) = sumN i (gi l) := by
    intro i
    induction i with
    | zero => intro _; rfl
    | succ i ih => intro h; rw [tot_take (by omega), ih (by omega)]; rfl
  have := key l.length (Nat.le_refl _)
  rwa [List.take_length] at this
def tb (m : Nat) (f : Nat → Int) : List Int := (List.range m).map f
theorem tb_len (m : Nat) (f : Nat → Int) : (tb m f).length = m := by unfold tb; simp
theorem tb_at {m : Nat} {f : Nat → Int} {k : Nat} (h : k < m) : (tb m f)[k]? = some (f k) := by unfold tb; simp [h]
theorem tb_gi {m : Nat} {f : Nat → Int} {k : Nat} (h : k < m) : gi (tb m f) k = f k := gi_of (tb_at h)
theorem tb_congr {m : Nat} {f g : Nat → Int} (h : ∀ k, k < m → f k = g k) : tb m f = tb m g := by
  unfold tb
  apply List.map_congr_left
  intro k hk
  exact h k (List.mem_range.1 hk)
theorem tb_set {m : Nat} {f : Nat → Int} {k : Nat} (v : Int) : (tb m f).set k v = tb m (fun j => if j = k then v else f j) := by
  apply List.ext_getElem?
  intro j
  rw [List.getElem?_set]
  unfold tb
  by_cases hj : j < m
  · by_cases hk : k = j
    · subst hk; simp [hj]
    · rw [if_neg hk]
      simp only [List.getElem?_map, List.getElem?_range hj, Option.map_some]
      rw [if_neg (fun e => hk e.symm)]
  · have h1 : (List.range m)[j]? = none := by rw [List.getElem?_eq_none]; simpa using hj
    simp only [List.getElem?_map, h1, Option.map_none]
    by_cases hk : k = j
    · subst hk; simp [hj]
    · rw [if_neg hk]
theorem tb_self (l : List Int) : tb l.length (gi l) = l := by
  apply List.ext_getElem?
  intro j
  by_cases hj : j < l.length
  · rw [tb_at hj, gi_at hj]
  · rw [List.getElem?_eq_none (by rw [tb_len]; omega), List.getElem?_eq_none (by omega)]
theorem rep_tb (m : Nat) : List.replicate m (0 : Int) = tb m (fun _ => 0) := by
  unfold tb
  induction m with
  | zero => rfl
  | succ m ih => rw [List.replicate_succ', ih, List.range_succ, List.map_append]; rfl
def cell (l : List (List Int)) (i j : Nat) : Int := gi (gr l i) j
def col (l : List (List Int)) (i j : Nat) : Int := sumN i (fun q => cell l q j)
def rowsB (t : Trade) (l : List (List Int)) (i : Nat) : Bool := decide (tot (gr l i) = gi t.supply i)
def checkPlan (t : Trade) (l : List (List Int)) : Int :=
  if okT t = true then (if tabB t l 120 = true then (if (∀ i, i < l.length → rowsB t l i = true) then (if tb t.demand.length (col l l.length) = t.demand then 0 else 6) else 6) else 1) else 1
theorem tab_spec {t : Trade} {l : List (List Int)} {most : Int} (h : tabB t l most = true) : l.length = t.supply.length ∧ ∀ i, i < l.length → (gr l i).length = t.demand.length ∧ (∀ x ∈ gr l i, 0 ≤ x ∧ x ≤ most) ∧ ∀ j, j < t.demand.length → 0 ≤ cell l i j ∧ cell l i j ≤ most := by
  unfold tabB at h
  simp only [Bool.and_eq_true, decide_eq_true_eq, List.all_eq_true] at h
  refine ⟨h.1, fun i hi => ?_⟩
  have hm := h.2 (gr l i) (List.mem_of_getElem? (gr_at hi))
  unfold rowB at hm
  simp only [Bool.and_eq_true, decide_eq_true_eq, List.all_eq_true, within_iff] at hm
  exact ⟨hm.1, hm.2, fun j hj => hm.2 _ (List.mem_of_getElem? (gi_at (by omega)))⟩
theorem okT_spec {t : Trade} (h : okT t = true) : (1 ≤ t.supply.length ∧ t.supply.length ≤ 4 ∧ ∀ x ∈ t.supply, 0 ≤ x ∧ x ≤ 30) ∧ (1 ≤ t.demand.length ∧ t.demand.length ≤ 4 ∧ ∀ x ∈ t.demand, 0 ≤ x ∧ x ≤ 30) ∧ tot t.supply = tot t.demand ∧ tabB t t.cost 99 = true := by
  unfold okT at h
  simp only [Bool.and_eq_true, decide_eq_true_eq] at h
  exact ⟨amt_mem h.1.1.1, amt_mem h.1.1.2, h.1.2, h.2⟩
theorem equal_eq : ∀ {a b : List Int}, a.length ≤ 1000 → slices_Equal_int a b = some (decide (a = b)) := fun {a b} hl => by
  unfold slices_Equal_int
  by_cases h : a.length = b.length
  · rw [if_pos (by omega)]
    refine Eq.trans (scan_inv0 a.length (fun i => decide (gi a i = gi b i)) (fun _ => ()) (fun k _ i => slices_Equal_int_L1 a b k i) (some true) (some false) (s0 := ()) rfl (fun k i hi _ => ?_) (fun k _ => ?_) (by omega)) ?_
    · show slices_Equal_int_B1 a b (slices_Equal_int_L1 a b k) _ = _
      unfold slices_Equal_int_B1
      rw [if_pos (by omega), ix_nat (gi_at hi), ix_nat (gi_at (by omega))]
      by_cases he : gi a i = gi b i
      · rw [if_pos he, gd_pos (by omega), if_pos (by simpa using he)]; rfl
      · rw [if_neg he, if_neg (by simpa using he)]
    · show slices_Equal_int_B1 a b (slices_Equal_int_L1 a b k) _ = _
      unfold slices_Equal_int_B1
      rw [if_neg (by omega)]; rfl
    · by_cases he : a = b
      · subst he; rw [if_pos (by simp), decide_eq_true rfl]
      · rw [decide_eq_false he, if_neg]
        intro hc
        apply he
        rw [← tb_self a, ← tb_self b, h]
        exact tb_congr fun k hk => by simpa using hc k (by omega)
  · rw [if_neg (by omega), decide_eq_false (fun e => h (by rw [e]))]
section
variable {t : Trade} {l : List (List Int)}
theorem col_bnd (h : tabB t l 120 = true) {i j : Nat} (hi : i ≤ l.length) (hj : j < t.demand.length) : 0 ≤ col l i j ∧ col l i j ≤ 120 * (i : Int) :=
  sumN_bnd i (fun q hq => ((tab_spec h).2 q (by omega)).2.2 j hj)
theorem add_loop (hl : l.length ≤ 50) (ht : t.demand.length ≤ 50) (h : tabB t l 120 = true) {i : Nat} (hi : i < l.length) (rec1 : Int → List Int → Option Int) :
    bulk_CheckPlan_L1 (i : Int) rec1 (gr l i) FU 0 (tb t.demand.length (col l i)) = bulk_CheckPlan_k2 (i : Int) rec1 (tb t.demand.length (col l (i + 1))) := by
  obtain ⟨h1, h2⟩ := tab_spec h
  have hr := h2 i hi
  refine for0 t.demand.length (fun k => tb t.demand.length (fun j => if j < k then col l (i + 1) j else col l i j)) (fun k s q => bulk_CheckPlan_L1 (i : Int) rec1 (gr l i) k q s) _ (tb_congr fun k hk => by simp) (fun k q hq => ?_) (fun k => ?_) (by omega)
  · have hb := col_bnd h (i := i) (by omega) hq
    have hc := hr.2.2 q hq
    show bulk_CheckPlan_B1 (i : Int) rec1 (gr l i) (bulk_CheckPlan_L1 (i : Int) rec1 (gr l i) k) _ _ = _
    unfold bulk_CheckPlan_B1
    have hx : (gr l i)[q]? = some (cell l i q) := gi_at (by omega)
    have hy : (tb t.demand.length (fun j => if j < q then col l (i + 1) j else col l i j))[q]? = some (col l i q) := by rw [tb_at hq]; simp
    rw [if_pos (by omega), ix_nat hx, ix_nat hy, gd_pos (by omega), ix_nat hy, gd_pos (by omega), show Int.toNat (q : Int) = q from rfl, tb_set]
    refine congrArg (bulk_CheckPlan_L1 (i : Int) rec1 (gr l i) k _) (tb_congr fun j hj => ?_)
    by_cases e : j = q
    · subst e; rw [if_pos rfl, if_pos (by omega)]; rfl
    · rw [if_neg e]
      by_cases e2 : j < q
      · rw [if_pos e2, if_pos (by omega)]
      · rw [if_neg e2, if_neg (by omega)]
  · show bulk_CheckPlan_B1 (i : Int) rec1 (gr l i) (bulk_CheckPlan_L1 (i : Int) rec1 (gr l i) k) _ _ = _
    unfold bulk_CheckPlan_B1
    rw [if_neg (by omega)]
    congr 1
    exact tb_congr fun j hj => by rw [if_pos hj]
theorem radd_loop (hl : l.length ≤ 50) (ht : t.demand.length ≤ 50) (h : tabB t l 120 = true) {i : Nat} (hi : i < l.length) (rec1 : Int → List Int → Option Int) :
    ref07_CheckPlan_L2 l (i : Int) rec1 FU 0 (tb t.demand.length (col l i)) = ref07_CheckPlan_k3 (i : Int) rec1 (tb t.demand.length (col l (i + 1))) := by
  obtain ⟨h1, h2⟩ := tab_spec h
  have hr := h2 i hi
  refine for0 t.demand.length (fun k => tb t.demand.length (fun j => if j < k then col l (i + 1) j else col l i j)) (fun k s q => ref07_CheckPlan_L2 l (i : Int) rec1 k q s) _ (tb_congr fun k hk => by simp) (fun k q hq => ?_) (fun k => ?_) (by omega)
  · have hb := col_bnd h (i := i) (by omega) hq
    have hc := hr.2.2 q hq
    show ref07_CheckPlan_B2 l (i : Int) rec1 (ref07_CheckPlan_L2 l (i : Int) rec1 k) _ _ = _
    unfold ref07_CheckPlan_B2
    have hx : (gr l i)[q]? = some (cell l i q) := gi_at (by omega)
    have hy : (tb t.demand.length (fun j => if j < q then col l (i + 1) j else col l i j))[q]? = some (col l i q) := by rw [tb_at hq]; simp
    rw [if_pos (by rw [tb_len]; omega), ix_nat hy, ix_nat (gr_at hi), ix_nat hx, gd_pos (by omega), ix_nat hy, gd_pos (by omega), show Int.toNat (q : Int) = q from rfl, tb_set]
    refine congrArg (ref07_CheckPlan_L2 l (i : Int) rec1 k _) (tb_congr fun j hj => ?_)
    by_cases e : j = q
    · subst e; rw [if_pos rfl, if_pos (by omega)]; rfl
    · rw [if_neg e]
      by_cases e2 : j < q
      · rw [if_pos e2, if_pos (by omega)]
      · rw [if_neg e2, if_neg (by omega)]
  · show ref07_CheckPlan_B2 l (i : Int) rec1 (ref07_CheckPlan_L2 l (i : Int) rec1 k) _ _ = _
    unfold ref07_CheckPlan_B2
    rw [if_neg (by rw [tb_len]; omega)]
    congr 1
    exact tb_congr fun j hj => by rw [if_pos hj]
theorem CheckPlan_eq (ht : Tsmall t) (hl : Lsmall l) : bulk_CheckPlan t l = some (checkPlan t l) := by
  unfold bulk_CheckPlan checkPlan
  rw [bnd_eq (Validate_eq ht)]
  unfold validate
  have hl1 := hl.1
  have hd1 := ht.2.1
  by_cases hv : okT t = true
  · rw [if_pos hv, if_pos rfl, bnd_eq (table_eq ⟨by have := ht.1; omega, by omega⟩ hl _), if_pos hv]
    by_cases hT : tabB t l 120 = true
    · obtain ⟨h1, h2⟩ := tab_spec hT
      rw [if_pos hT, if_pos hT, gd_pos (by omega)]
      refine Eq.trans (scan_inv0 l.length (rowsB t l) (fun i => tb t.demand.length (col l i)) (fun k s i => bulk_CheckPlan_L2 t l k i s) (bulk_CheckPlan_k1 t (tb t.demand.length (col l l.length))) (some 6) (by rw [show Int.toNat (t.demand.length : Int) = t.demand.length from rfl, rep_tb]; rfl) (fun k i hi _ => ?_) (fun k _ => ?_) (by omega)) ?_
      · have hr := h2 i hi
        show bulk_CheckPlan_B2 t l (bulk_CheckPlan_L2 t l k) _ _ = _
        unfold bulk_CheckPlan_B2 rowsB
        rw [if_pos (by omega), ix_nat (gr_at hi), bnd_eq (total_eq (M := 120) (by decide) (by omega) hr.2.1), ix_nat (gi_at (by omega))]
        by_cases he : tot (gr l i) = gi t.supply i
        · rw [if_pos he, add_loop hl1 hd1 hT hi, if_pos (by simpa using he)]
          unfold bulk_CheckPlan_k2
          rw [gd_pos (by omega)]; rfl
        · rw [if_neg he, if_neg (by simpa using he)]
      · show bulk_CheckPlan_B2 t l (bulk_CheckPlan_L2 t l k) _ _ = _
        unfold bulk_CheckPlan_B2
        rw [if_neg (by omega)]
      · by_cases hc : ∀ i, i < l.length → rowsB t l i = true
        · rw [if_pos hc, if_pos hc]
          unfold bulk_CheckPlan_k1
          rw [bnd_eq (equal_eq (by rw [tb_len]; omega))]
          by_cases he : tb t.demand.length (col l l.length) = t.demand
          · rw [decide_eq_true he, if_pos rfl, if_pos he]
          · rw [decide_eq_false he, if_neg (by simp), if_neg he]
        · rw [if_neg hc, if_neg hc]
    · rw [if_neg hT, if_neg hT]
  · rw [if_neg hv, if_neg (by decide), if_neg hv]
theorem rCheckPlan_eq (ht : Tsmall t) (hl : Lsmall l) : ref07_CheckPlan t l = some (checkPlan t l) := by
  unfold ref07_CheckPlan checkPlan
  rw [bnd_eq (rValidate_eq ht)]
  unfold validate
  have hl1 := hl.1
  have hd1 := ht.2.1
  by_cases hv : okT t = true
  · rw [if_pos hv, if_pos rfl, bnd_eq (rtable_eq ⟨by have := ht.1; omega, by omega⟩ hl _), if_pos hv]
    by_cases hT : tabB t l 120 = true
    · obtain ⟨h1, h2⟩ := tab_spec hT
      rw [if_pos hT, if_pos hT, gd_pos (by omega)]
      refine Eq.trans (scan_inv0 l.length (rowsB t l) (fun i => tb t.demand.length (col l i)) (fun k s i => ref07_CheckPlan_L3 t l k i s) (ref07_CheckPlan_k2 t (tb t.demand.length (col l l.length))) (some 6) (by rw [show Int.toNat (t.demand.length : Int) = t.demand.length from rfl, rep_tb]; rfl) (fun k i hi _ => ?_) (fun k _ => ?_) (by omega)) ?_
      · have hr := h2 i hi
        show ref07_CheckPlan_B3 t l (ref07_CheckPlan_L3 t l k) _ _ = _
        unfold ref07_CheckPlan_B3 rowsB
        rw [if_pos (by omega), ix_nat (gr_at hi), bnd_eq (rsum_eq (M := 120) (by decide) (by omega) hr.2.1), ix_nat (gi_at (by omega))]
        by_cases he : tot (gr l i) = gi t.supply i
        · rw [if_pos he, radd_loop hl1 hd1 hT hi, if_pos (by simpa using he)]
          unfold ref07_CheckPlan_k3
          rw [gd_pos (by omega)]; rfl
        · rw [if_neg he, if_neg (by simpa using he)]
      · show ref07_CheckPlan_B3 t l (ref07_CheckPlan_L3 t l k) _ _ = _
        unfold ref07_CheckPlan_B3
        rw [if_neg (by omega)]
      · by_cases hc : ∀ i, i < l.length → rowsB t l i = true
        · rw [if_pos hc, if_pos hc]
          unfold ref07_CheckPlan_k2
          refine Eq.trans (scan_inv0 t.demand.length (fun j => decide (col l l.length j = gi t.demand j)) (fun _ => ()) (fun k _ i => ref07_CheckPlan_L1 t (tb t.demand.length (col l l.length)) k i) (some 0) (some 6) (s0 := ()) rfl (fun k j hj _ => ?_) (fun k _ => ?_) (by omega)) ?_
          · show ref07_CheckPlan_B1 t (tb t.demand.length (col l l.length)) (ref07_CheckPlan_L1 t (tb t.demand.length (col l l.length)) k) _ = _
            unfold ref07_CheckPlan_B1
            rw [if_pos (by rw [tb_len]; omega), ix_nat (tb_at hj), ix_nat (gi_at hj)]
            by_cases he : col l l.length j = gi t.demand j
            · rw [if_pos he, gd_pos (by omega), if_pos (by simpa using he)]; rfl
            · rw [if_neg he, if_neg (by simpa using he)]
          · show ref07_CheckPlan_B1 t (tb t.demand.length (col l l.length)) (ref07_CheckPlan_L1 t (tb t.demand.length (col l l.length)) k) _ = _
            unfold ref07_CheckPlan_B1
            rw [if_neg (by rw [tb_len]; omega)]; rfl
          · have e : (∀ j, j < t.demand.length → decide (col l l.length j = gi t.demand j) = true) ↔ tb t.demand.length (col l l.length) = t.demand := by
              constructor
              · intro h
                conv => rhs; rw [← tb_self t.demand]
                exact tb_congr fun k hk => by simpa using h k hk
              · intro h j hj
                have := tb_gi (f := col l l.length) hj
                rw [h] at this
                simpa using this.symm
            by_cases he : tb t.demand.length (col l l.length) = t.demand
            · rw [if_pos (e.2 he), if_pos he]
            · rw [if_neg (fun h => he (e.1 h)), if_neg he]
        · rw [if_neg hc, if_neg hc]
    · rw [if_neg hT, if_neg hT]
  · rw [if_neg hv, if_neg (by decide), if_neg hv]
def rowCost (t : Trade) (l : List (List Int)) (i j : Nat) : Int := sumN j (fun q => cell l i q * cell t.cost i q)
def costN (t : Trade) (l : List (List Int)) (i : Nat) : Int := sumN i (fun q => rowCost t l q t.demand.length)
theorem mul_bnd {x y X Y : Int} (hx : 0 ≤ x ∧ x ≤ X) (hy : 0 ≤ y ∧ y ≤ Y) : 0 ≤ x * y ∧ x * y ≤ X * Y :=
  ⟨Int.mul_nonneg hx.1 hy.1, Int.le_trans (Int.mul_le_mul_of_nonneg_right hx.2 hy.1) (Int.mul_le_mul_of_nonneg_left hy.2 (by omega))⟩
theorem cell_cost (hv : okT t = true) (h : tabB t l 120 = true) {i j : Nat} (hi : i < l.length) (hj : j < t.demand.length) : 0 ≤ cell l i j * cell t.cost i j ∧ cell l i j * cell t.cost i j ≤ 11880 := by
  have h1 := tab_spec h
  have h2 := tab_spec (okT_spec hv).2.2.2
  exact mul_bnd (X := 120) (Y := 99) ((h1.2 i hi).2.2 j hj) ((h2.2 i (by omega)).2.2 j hj)
theorem rowCost_bnd (hv : okT t = true) (h : tabB t l 120 = true) {i j : Nat} (hi : i < l.length) (hj : j ≤ t.demand.length) : 0 ≤ rowCost t l i j ∧ rowCost t l i j ≤ 11880 * (j : Int) :=
  sumN_bnd j (fun q hq => cell_cost hv h hi (by omega))
theorem costN_bnd (hv : okT t = true) (h : tabB t l 120 = true) {i : Nat} (hi : i ≤ l.length) : 0 ≤ costN t l i ∧ costN t l i ≤ 47520 * (i : Int) := by
  have hd := (okT_spec hv).2.1.2.1
  exact sumN_bnd i (fun q hq => by have := rowCost_bnd hv h (i := q) (by omega) (Nat.le_refl _); omega)
theorem cost_in (hv : okT t = true) (h : tabB t l 120 = true) {i : Nat} (hi : i < l.length) (rec1 : Int → Int → Option Int) : bulk_cost_L1 t (i : Int) rec1 (gr l i) FU (costN t l i) 0 = bulk_cost_k2 (i : Int) rec1 (costN t l (i + 1)) := by
  obtain ⟨h1, h2⟩ := tab_spec h
  obtain ⟨c1, c2⟩ := tab_spec (okT_spec hv).2.2.2
  have hd := (okT_spec hv).2.1.2.1
  have hs := (okT_spec hv).1.2.1
  have hr := h2 i hi
  have hc := c2 i (by omega)
  have hb := costN_bnd hv h (i := i) (by omega)
  refine for0 t.demand.length (fun j => costN t l i + rowCost t l i j) (fun k s q => bulk_cost_L1 t (i : Int) rec1 (gr l i) k s q) _ (by simp [rowCost, sumN]) (fun k q hq => ?_) (fun k => ?_) (by omega)
  · have hx : (gr l i)[q]? = some (cell l i q) := gi_at (by omega)
    have hy : (gr t.cost i)[q]? = some (cell t.cost i q) := gi_at (by omega)
    have b1 := rowCost_bnd hv h hi (j := q) (by omega)
    have b2 := cell_cost hv h hi hq
    show bulk_cost_B1 t (i : Int) rec1 (gr l i) (bulk_cost_L1 t (i : Int) rec1 (gr l i) k) _ _ = _
    unfold bulk_cost_B1
    rw [if_pos (by omega), ix_nat hx, ix_nat (gr_at (by omega)), ix_nat hy, gd_pos (by omega), gd_pos (by omega), gd_pos (by omega), Int.add_assoc]; rfl
  · show bulk_cost_B1 t (i : Int) rec1 (gr l i) (bulk_cost_L1 t (i : Int) rec1 (gr l i) k) _ _ = _
    unfold bulk_cost_B1
    rw [if_neg (by omega)]; rfl
theorem cost_eq (hv : okT t = true) (h : tabB t l 120 = true) : bulk_cost t l = some (costN t l l.length) := by
  obtain ⟨h1, h2⟩ := tab_spec h
  have hs := (okT_spec hv).1.2.1
  unfold bulk_cost
  refine for0 l.length (costN t l) (fun k s i => bulk_cost_L2 t l k s i) _ rfl (fun k i hi => ?_) (fun k => ?_) (by omega)
  · show bulk_cost_B2 t l (bulk_cost_L2 t l k) _ _ = _
    unfold bulk_cost_B2
    rw [if_pos (by omega), ix_nat (gr_at hi), cost_in hv h hi]
    unfold bulk_cost_k2
    rw [gd_pos (by omega)]; rfl
  · show bulk_cost_B2 t l (bulk_cost_L2 t l k) _ _ = _
    unfold bulk_cost_B2
    rw [if_neg (by omega)]; rfl
theorem rcost_in (hv : okT t = true) (h : tabB t l 120 = true) {i : Nat} (hi : i < l.length) (rec1 : Int → Int → Option Int) : ref07_cost_L1 t l (i : Int) rec1 FU (costN t l i) 0 = ref07_cost_k2 (i : Int) rec1 (costN t l (i + 1)) := by
  obtain ⟨h1, h2⟩ := tab_spec h
  obtain ⟨c1, c2⟩ := tab_spec (okT_spec hv).2.2.2
  have hd := (okT_spec hv).2.1.2.1
  have hs := (okT_spec hv).1.2.1
  have hr := h2 i hi
  have hc := c2 i (by omega)
  have hb := costN_bnd hv h (i := i) (by omega)
  refine for0 t.demand.length (fun j => costN t l i + rowCost t l i j) (fun k s q => ref07_cost_L1 t l (i : Int) rec1 k s q) _ (by simp [rowCost, sumN]) (fun k q hq => ?_) (fun k => ?_) (by omega)
  · have hx : (gr l i)[q]? = some (cell l i q) := gi_at (by omega)
    have hy : (gr t.cost i)[q]? = some (cell t.cost i q) := gi_at (by omega)
    have b1 := rowCost_bnd hv h hi (j := q) (by omega)
    have b2 := cell_cost hv h hi hq
    show ref07_cost_B1 t l (i : Int) rec1 (ref07_cost_L1 t l (i : Int) rec1 k) _ _ = _
    unfold ref07_cost_B1
    rw [ix_nat (gr_at hi), if_pos (by omega), ix_nat (gr_at hi), ix_nat hx, ix_nat (gr_at (by omega)), ix_nat hy, gd_pos (by omega), gd_pos (by omega), gd_pos (by omega), Int.add_assoc]; rfl
  · show ref07_cost_B1 t l (i : Int) rec1 (ref07_cost_L1 t l (i : Int) rec1 k) _ _ = _
    unfold ref07_cost_B1
    rw [ix_nat (gr_at hi), if_neg (by omega)]; rfl
theorem rcost_eq (hv : okT t = true) (h : tabB t l 120 = true) : ref07_cost t l = some (costN t l l.length) := by
  obtain ⟨h1, h2⟩ := tab_spec h
  have hs := (okT_spec hv).1.2.1
  unfold ref07_cost
  refine for0 l.length (costN t l) (fun k s i => ref07_cost_L2 t l k s i) _ rfl (fun k i hi => ?_) (fun k => ?_) (by omega)
  · show ref07_cost_B2 t l (ref07_cost_L2 t l k) _ _ = _
    unfold ref07_cost_B2
    rw [if_pos (by omega), rcost_in hv h hi]
    unfold ref07_cost_k2
    rw [gd_pos (by omega)]; rfl
  · show ref07_cost_B2 t l (ref07_cost_L2 t l k) _ _ = _
    unfold ref07_cost_B2
    rw [if_neg (by omega)]; rfl
def costR (t : Trade) (l : List (List Int)) : Int × Int := if checkPlan t l = 0 then (costN t l l.length, 0) else (0, checkPlan t l)
theorem check0 (h : checkPlan t l = 0) : okT t = true ∧ tabB t l 120 = true ∧ (∀ i, i < l.length → tot (gr l i) = gi t.supply i) ∧ ∀ j, j < t.demand.length → col l l.length j = gi t.demand j := by
  unfold checkPlan at h
  split at h
  · rename_i hv
    split at h
    · rename_i hT
      split at h
      · rename_i hr
        split at h
        · rename_i hc
          refine ⟨hv, hT, fun i hi => by simpa [rowsB] using hr i hi, fun j hj => ?_⟩
          have := tb_gi (f := col l l.length) hj
          rw [hc] at this
          exact this.symm
        · cases h
      · cases h
    · cases h
  · cases h
theorem Cost_eq (ht : Tsmall t) (hl : Lsmall l) : bulk_Cost t l = some (costR t l) := by
  unfold bulk_Cost costR
  rw [bnd_eq (CheckPlan_eq ht hl)]
  by_cases h : checkPlan t l = 0
  · obtain ⟨h1, h2, _⟩ := check0 h
    rw [if_pos h, if_pos h, bnd_eq (cost_eq h1 h2)]
  · rw [if_neg h, if_neg h]
end
instance (l : List (List Int)) : Decidable (Lsmall l) := by unfold Lsmall; infer_instance
theorem tabLong_eq {l : List (List Int)} (hl : l.length ≤ 9223372036854775807) : law07_table l = some (!(l.all (fun r => decide (r.length ≤ 50)) && decide (l.length ≤ 50))) := by
  unfold law07_table
  rw [list_loop0 l (fun r => decide (r.length ≤ 50)) (law07_table_L1 l) (some (decide (50 < l.length))) (some true) (fun k i x hx => ?_) (fun k => ?_) hl]
  · cases l.all (fun r => decide (r.length ≤ 50))
    · rfl
    · rw [if_pos rfl, Bool.true_and]
      congr 1
      rw [Bool.eq_iff_iff]; simp
  · have := lt_of_at hx
    show law07_table_B1 l (law07_table_L1 l k) _ = _
    unfold law07_table_B1
    rw [if_pos (by omega), ix_nat hx]
    by_cases h : x.length ≤ 50
    · rw [if_neg (by omega), gd_pos (by omega), if_pos (by simpa using h)]; rfl
    · rw [if_pos (by omega), if_neg (by simpa using h)]
  · show law07_table_B1 l (law07_table_L1 l k) _ = _
    unfold law07_table_B1 law07_table_k1
    rw [if_neg (by omega)]
    congr 1
    exact decide_eq_decide.2 (by omega)
theorem small_iff {l : List (List Int)} : (!(l.all (fun r => decide (r.length ≤ 50)) && decide (l.length ≤ 50))) = false ↔ Lsmall l := by
  unfold Lsmall
  simp only [Bool.not_eq_false', Bool.and_eq_true, List.all_eq_true, decide_eq_true_eq]
  exact ⟨fun h => ⟨h.2, h.1⟩, fun h => ⟨h.2, h.1⟩⟩
/-- Long says true, or all is small. -/
theorem Long0 {t : Trade} (h3 : t.cost.length ≤ 9223372036854775807) : (law07_Long t [] = some true) ∨ (law07_Long t [] = some false ∧ Tsmall t) := by
  have e : law07_Long t [] = law07_Long_k1 t := by
    unfold law07_Long
    rw [list_loop0 ([] : List (List (List Int))) (fun _ => true) (law07_Long_L1 t []) (law07_Long_k1 t) (some true) (fun k i x hx => by cases hx) (fun k => ?_) (by simp)]
    · rfl
    · show law07_Long_B1 t [] (law07_Long_L1 t [] k) _ = _
      unfold law07_Long_B1
      rw [if_neg (by simp)]
  rw [e]
  unfold law07_Long_k1
  by_cases a : (50 : Int) < (t.supply.length : Int)
  · rw [if_pos a]; exact .inl rfl
  · rw [if_neg a]
    by_cases b : (50 : Int) < (t.demand.length : Int)
    · rw [if_pos b]; exact .inl rfl
    · rw [if_neg b, bnd_eq (tabLong_eq h3)]
      cases hq : (!(t.cost.all (fun r => decide (r.length ≤ 50)) && decide (t.cost.length ≤ 50)))
      · have := small_iff.1 hq
        exact .inr ⟨rfl, by omega, by omega, this.1, this.2⟩
      · exact .inl rfl
theorem Long1 {t : Trade} {l : List (List Int)} (h3 : t.cost.length ≤ 9223372036854775807) (h4 : l.length ≤ 9223372036854775807) : (law07_Long t [l] = some true) ∨ (law07_Long t [l] = some false ∧ Tsmall t ∧ Lsmall l) := by
  have e : law07_Long t [l] = if Lsmall l then law07_Long t [] else some true := by
    have e0 : law07_Long t [] = law07_Long_k1 t := by
      unfold law07_Long
      rw [list_loop0 ([] : List (List (List Int))) (fun _ => true) (law07_Long_L1 t []) (law07_Long_k1 t) (some true) (fun k i x hx => by cases hx) (fun k => ?_) (by simp)]
      · rfl
      · show law07_Long_B1 t [] (law07_Long_L1 t [] k) _ = _
        unfold law07_Long_B1
        rw [if_neg (by simp)]
    rw [e0]
    unfold law07_Long
    have hq := tabLong_eq h4
    rw [list_loop0 [l] (fun x => (x.all (fun r => decide (r.length ≤ 50)) && decide (x.length ≤ 50))) (law07_Long_L1 t [l]) (law07_Long_k1 t) (some true) (fun k i x hx => ?_) (fun k => ?_) (by simp)]
    · by_cases hs : Lsmall l
      · have := small_iff.2 hs
        rw [if_pos hs, if_pos (by simpa using this)]
      · rw [if_neg hs, if_neg]
        intro hc
        apply hs
        apply small_iff.1
        simp only [List.all_cons, List.all_nil, Bool.and_true] at hc
        rw [hc]; rfl
    · have hlt := lt_of_at hx
      simp only [List.length_singleton] at hlt
      obtain rfl : i = 0 := by omega
      simp at hx
      subst hx
      show law07_Long_B1 t [l] (law07_Long_L1 t [l] k) _ = _
      unfold law07_Long_B1
      rw [if_pos (by simp), ix_nat (i := 0) (x := l) rfl, bnd_eq hq]
      cases (l.all (fun r => decide (r.length ≤ 50)) && decide (l.length ≤ 50))
      · rfl
      · rw [if_neg (by simp), gd_pos (by omega), if_pos rfl]; rfl
    · show law07_Long_B1 t [l] (law07_Long_L1 t [l] k) _ = _
      unfold law07_Long_B1
      rw [if_neg (by simp)]
  rw [e]
  by_cases hs : Lsmall l
  · rw [if_pos hs]
    rcases Long0 (t := t) h3 with h | ⟨h, h2⟩
    · exact .inl h
    · exact .inr ⟨h, h2, hs⟩
  · rw [if_neg hs]; exact .inl rfl
end Go.D7

set_option linter.unusedVariables false
set_option linter.unusedSimpArgs false
namespace Go.D7
open Go.Tb
def tg {α : Type} (m : Nat) (f : Nat → α) : List α := (List.range m).map f
section
variable {α : Type}
theorem tg_len (m : Nat) (f : Nat → α) : (tg m f).length = m := by unfold tg; simp
theorem tg_at {m : Nat} {f : Nat → α} {k : Nat} (h : k < m) : (tg m f)[k]? = some (f k) := by unfold tg; simp [h]
theorem tg_congr {m : Nat} {f g : Nat → α} (h : ∀ k, k < m → f k = g k) : tg m f = tg m g := by
  unfold tg
  apply List.map_congr_left
  intro k hk
  exact h k (List.mem_range.1 hk)
theorem tg_set {m : Nat} {f : Nat → α} {k : Nat} (v : α) : (tg m f).set k v = tg m (fun j => if j = k then v else f j) := by
  apply List.ext_getElem?
  intro j
  rw [List.getElem?_set]
  unfold tg
  by_cases hj : j < m
  · by_cases hk : k = j
    · subst hk; simp [hj]
    · rw [if_neg hk]
      simp only [List.getElem?_map, List.getElem?_range hj, Option.map_some]
      rw [if_neg (fun e => hk e.symm)]
  · have h1 : (List.range m)[j]? = none := by rw [List.getElem?_eq_none]; simpa using hj
    simp only [List.getElem?_map, h1, Option.map_none]
    by_cases hk : k = j
    · subst hk; simp [hj]
    · rw [if_neg hk]
theorem tg_push (m : Nat) (f : Nat → α) : tg m f ++ [f m] = tg (m + 1) f := by
  unfold tg; rw [List.range_succ, List.map_append]; rfl
theorem rep_tg (m : Nat) (x : α) : List.replicate m x = tg m (fun _ => x) := by
  unfold tg
  induction m with
  | zero => rfl
  | succ m ih => rw [List.replicate_succ', ih, List.range_succ, List.map_append]; rfl
end
/-- A table by a function. -/
def tbl (n m : Nat) (f : Nat → Nat → Int) : List (List Int) := tg n (fun i => tb m (f i))
theorem tbl_len (n m : Nat) (f : Nat → Nat → Int) : (tbl n m f).length = n := tg_len _ _
theorem tbl_at {n m : Nat} {f : Nat → Nat → Int} {i : Nat} (h : i < n) : (tbl n m f)[i]? = some (tb m (f i)) := tg_at h
theorem tbl_gr {n m : Nat} {f : Nat → Nat → Int} {i : Nat} (h : i < n) : gr (tbl n m f) i = tb m (f i) := gr_of (tbl_at h)
theorem tbl_cell {n m : Nat} {f : Nat → Nat → Int} {i j : Nat} (h : i < n) (hj : j < m) : cell (tbl n m f) i j = f i j := by
  unfold cell; rw [tbl_gr h, tb_gi hj]
theorem tbl_congr {n m : Nat} {f g : Nat → Nat → Int} (h : ∀ i j, i < n → j < m → f i j = g i j) : tbl n m f = tbl n m g :=
  tg_congr fun i hi => tb_congr fun j hj => h i j hi hj
theorem tbl_set {n m : Nat} {f : Nat → Nat → Int} {i j : Nat} (h : i < n) (v : Int) : (tbl n m f).set i ((tb m (f i)).set j v) = tbl n m (fun p q => if p = i ∧ q = j then v else f p q) := by
  unfold tbl
  rw [tg_set, tb_set]
  refine tg_congr fun p hp => ?_
  by_cases e : p = i
  · subst e
    rw [if_pos rfl]
    refine tb_congr fun q hq => ?_
    show (if q = j then v else f p q) = (if p = p ∧ q = j then v else f p q)
    by_cases e2 : q = j
    · rw [if_pos e2, if_pos ⟨rfl, e2⟩]
    · rw [if_neg e2, if_neg (fun h => e2 h.2)]
  · rw [if_neg e]
    refine tb_congr fun q hq => ?_
    show f p q = (if p = i ∧ q = j then v else f p q)
    rw [if_neg (fun h => e h.1)]
theorem tbl_small {n m : Nat} (hn : n ≤ 50) (hm : m ≤ 50) (f : Nat → Nat → Int) : Lsmall (tbl n m f) := by
  refine ⟨by rw [tbl_len]; exact hn, fun r hr => ?_⟩
  unfold tbl tg at hr
  obtain ⟨i, _, rfl⟩ := List.mem_map.1 hr
  rw [tb_len]; exact hm
/-- A plan as a function. -/
structure PlanF (t : Trade) (f : Nat → Nat → Int) : Prop where
  nn : ∀ i j, 0 ≤ f i j
  row : ∀ i, i < t.supply.length → sumN t.demand.length (f i) = gi t.supply i
  col : ∀ j, j < t.demand.length → sumN t.supply.length (fun i => f i j) = gi t.demand j
def tab (t : Trade) (f : Nat → Nat → Int) : List (List Int) := tbl t.supply.length t.demand.length f
theorem sumN_mem {f : Nat → Int} : ∀ {n k : Nat}, (∀ i, i < n → 0 ≤ f i) → k < n → f k ≤ sumN n f
  | n + 1, k, h, hk => by
    simp only [sumN]
    have h0 := (sumN_bnd (M := 0) 0 (f := f) (by simp)).1
    by_cases e : k = n
    · subst e
      have : 0 ≤ sumN k f := by
        have := sumN_le (f := fun _ => 0) (g := f) k (fun i hi => h i (by omega))
        rw [sumN_zero] at this; exact this
      omega
    · have := sumN_mem (n := n) (fun i hi => h i (by omega)) (show k < n by omega)
      have := h n (by omega)
      omega
theorem sumN_nn {f : Nat → Int} {n : Nat} (h : ∀ i, i < n → 0 ≤ f i) : 0 ≤ sumN n f := by
  have := sumN_le (f := fun _ => 0) (g := f) n h
  rw [sumN_zero] at this; exact this
theorem supply_bnd {t : Trade} (h : okT t = true) {i : Nat} (hi : i < t.supply.length) : 0 ≤ gi t.supply i ∧ gi t.supply i ≤ 30 := (okT_spec h).1.2.2 _ (List.mem_of_getElem? (gi_at hi))
theorem demand_bnd {t : Trade} (h : okT t = true) {i : Nat} (hi : i < t.demand.length) : 0 ≤ gi t.demand i ∧ gi t.demand i ≤ 30 := (okT_spec h).2.1.2.2 _ (List.mem_of_getElem? (gi_at hi))
theorem plan_le {t : Trade} (h : okT t = true) {f : Nat → Nat → Int} (hp : PlanF t f) {i j : Nat} (hi : i < t.supply.length) (hj : j < t.demand.length) : f i j ≤ 30 := by
  have h1 := sumN_mem (f := f i) (fun q _ => hp.nn i q) hj
  rw [hp.row i hi] at h1
  have := supply_bnd h hi
  omega
theorem plan_check {t : Trade} (h : okT t = true) {f : Nat → Nat → Int} (hp : PlanF t f) : checkPlan t (tab t f) = 0 := by
  have hT : tabB t (tab t f) 120 = true := by
    unfold tabB
    rw [Bool.and_eq_true]
    refine ⟨decide_eq_true (tbl_len _ _ _), List.all_eq_true.2 fun r hr => ?_⟩
    unfold tab tbl tg at hr
    obtain ⟨i, hi, rfl⟩ := List.mem_map.1 hr
    rw [List.mem_range] at hi
    unfold rowB
    rw [tb_len, decide_eq_true rfl, Bool.true_and]
    refine List.all_eq_true.2 fun x hx => ?_
    unfold tb at hx
    obtain ⟨j, hj, rfl⟩ := List.mem_map.1 hx
    rw [List.mem_range] at hj
    have := plan_le h hp hi hj
    have := hp.nn i j
    rw [within_iff]; omega
  unfold checkPlan
  rw [if_pos h, if_pos hT, if_pos, if_pos]
  · conv => rhs; rw [← tb_self t.demand]
    refine tb_congr fun j hj => ?_
    unfold col
    have e : (tab t f).length = t.supply.length := tbl_len _ _ _
    rw [e, ← hp.col j hj]
    exact sumN_congr _ fun i hi => tbl_cell hi hj
  · intro i hi
    have e : (tab t f).length = t.supply.length := tbl_len _ _ _
    unfold rowsB
    rw [decide_eq_true_eq]
    unfold tab
    rw [tbl_gr (by omega), tot_sumN, tb_len, ← hp.row i (by omega)]
    exact sumN_congr _ fun j hj => tb_gi hj
/-- A right plan is one by a function. -/
theorem check_plan {t : Trade} {l : List (List Int)} (h : checkPlan t l = 0) : okT t = true ∧ ∃ f, PlanF t f ∧ l = tab t f := by
  obtain ⟨h1, h2, h3, h4⟩ := check0 h
  obtain ⟨h5, h6⟩ := tab_spec h2
  refine ⟨h1, fun i j => if i < t.supply.length ∧ j < t.demand.length then cell l i j else 0, ⟨fun i j => ?_, fun i hi => ?_, fun j hj => ?_⟩, ?_⟩
  · split
    · rename_i hc; exact ((h6 i (by omega)).2.2 j hc.2).1
    · exact Int.le_refl _
  · rw [← h3 i (by omega), tot_sumN, (h6 i (by omega)).1]
    exact sumN_congr _ fun j hj => by rw [if_pos ⟨hi, hj⟩]; rfl
  · rw [← h4 j hj]
    unfold col
    rw [h5]
    exact sumN_congr _ fun i hi => by rw [if_pos ⟨hi, hj⟩]
  · apply List.ext_getElem?
    intro i
    by_cases hi : i < t.supply.length
    · unfold tab
      rw [tbl_at hi, gr_at (by omega)]
      congr 1
      rw [← tb_self (gr l i), (h6 i (by omega)).1]
      exact tb_congr fun j hj => by rw [if_pos ⟨hi, hj⟩]; rfl
    · rw [List.getElem?_eq_none (by omega), List.getElem?_eq_none (by unfold tab; rw [tbl_len]; omega)]
structure Cor (t : Trade) (i j : Nat) (f : Nat → Nat → Int) (a b : Nat → Int) : Prop where
  nn : ∀ p q, 0 ≤ f p q
  fresh : ∀ p q, (i < p ∨ (p = i ∧ j ≤ q)) → f p q = 0
  an : ∀ p, 0 ≤ a p
  bn : ∀ q, 0 ≤ b q
  a0 : ∀ p, p < i → a p = 0
  b0 : ∀ q, q < j → b q = 0
  row : ∀ p, p < t.supply.length → sumN t.demand.length (f p) + a p = gi t.supply p
  col : ∀ q, q < t.demand.length → sumN t.supply.length (fun p => f p q) + b q = gi t.demand q
  ai : ∀ p, p < t.supply.length → a p ≤ 30
  bi : ∀ q, q < t.demand.length → b q ≤ 30
theorem sumN_upd {g : Nat → Int} {k : Nat} {v : Int} : ∀ n, sumN n (fun q => if q = k then v else g q) = sumN n g + (if k < n then v - g k else 0)
  | 0 => by simp [sumN]
  | n + 1 => by
    simp only [sumN, sumN_upd n]
    by_cases e : n = k
    · subst e; rw [if_neg (by omega), if_pos rfl, if_pos (by omega)]; omega
    · rw [if_neg e]
      by_cases h : k < n
      · rw [if_pos h, if_pos (by omega)]; omega
      · rw [if_neg h, if_neg (by omega)]; omega
theorem sumN_zero_of {f : Nat → Int} {n : Nat} (h : ∀ i, i < n → 0 ≤ f i) (h0 : sumN n f = 0) : ∀ i, i < n → f i = 0 := fun i hi => by
  have := sumN_mem h hi
  have := h i hi
  omega
theorem cor_done {t : Trade} (ht : okT t = true) {i j : Nat} {f : Nat → Nat → Int} {a b : Nat → Int} (h : Cor t i j f a b) (hij : t.supply.length ≤ i ∨ t.demand.length ≤ j) : PlanF t f := by
  have e1 := (okT_spec ht).2.2.1
  rw [tot_sumN, tot_sumN] at e1
  have s1 : sumN t.supply.length (fun p => sumN t.demand.length (f p)) + sumN t.supply.length a = sumN t.supply.length (gi t.supply) := by
    rw [← sumN_add]; exact sumN_congr _ fun p hp => h.row p hp
  have s2 : sumN t.demand.length (fun q => sumN t.supply.length (fun p => f p q)) + sumN t.demand.length b = sumN t.demand.length (gi t.demand) := by
    rw [← sumN_add]; exact sumN_congr _ fun p hp => h.col p hp
  have s3 : sumN t.supply.length (fun p => sumN t.demand.length (f p)) = sumN t.demand.length (fun q => sumN t.supply.length (fun p => f p q)) := sumN_swap f t.demand.length t.supply.length
  have hab : sumN t.supply.length a = 0 ∧ sumN t.demand.length b = 0 := by
    rcases hij with hi | hj
    · have : sumN t.supply.length a = 0 := by
        rw [sumN_congr (g := fun _ => 0) _ (fun p hp => h.a0 p (by omega)), sumN_zero]
      omega
    · have : sumN t.demand.length b = 0 := by
        rw [sumN_congr (g := fun _ => 0) _ (fun p hp => h.b0 p (by omega)), sumN_zero]
      omega
  refine ⟨h.nn, fun p hp => ?_, fun q hq => ?_⟩
  · have := sumN_zero_of (fun p _ => h.an p) hab.1 p hp
    have := h.row p hp
    omega
  · have := sumN_zero_of (fun p _ => h.bn p) hab.2 q hq
    have := h.col q hq
    omega
theorem cor_step {t : Trade} {i j : Nat} {f : Nat → Nat → Int} {a b : Nat → Int} (h : Cor t i j f a b) (hi : i < t.supply.length) (hj : j < t.demand.length) :
    let n := min (a i) (b j)
    (a i - n = 0 → Cor t (i + 1) j (fun p q => if p = i ∧ q = j then n else f p q) (fun p => if p = i then a i - n else a p) (fun q => if q = j then b j - n else b q)) ∧
    (a i - n ≠ 0 → Cor t i (j + 1) (fun p q => if p = i ∧ q = j then n else f p q) (fun p => if p = i then a i - n else a p) (fun q => if q = j then b j - n else b q)) := by
  intro n
  have hn : n ≤ a i ∧ n ≤ b j ∧ (n = a i ∨ n = b j) ∧ 0 ≤ n := by
    have := h.an i; have := h.bn j
    show min (a i) (b j) ≤ a i ∧ min (a i) (b j) ≤ b j ∧ (min (a i) (b j) = a i ∨ min (a i) (b j) = b j) ∧ 0 ≤ min (a i) (b j)
    omega
  have h0 := h.fresh i j (.inr ⟨rfl, Nat.le_refl _⟩)
  have nn' : ∀ p q, 0 ≤ (if p = i ∧ q = j then n else f p q) := fun p q => by
    split
    · exact hn.2.2.2
    · exact h.nn p q
  have an' : ∀ p, 0 ≤ (if p = i then a i - n else a p) := fun p => by
    split
    · omega
    · exact h.an p
  have bn' : ∀ q, 0 ≤ (if q = j then b j - n else b q) := fun q => by
    split
    · omega
    · exact h.bn q
  have row' : ∀ p, p < t.supply.length → sumN t.demand.length (fun q => if p = i ∧ q = j then n else f p q) + (if p = i then a i - n else a p) = gi t.supply p := fun p hp => by
    by_cases e : p = i
    · subst e
      have := sumN_upd (g := f p) (k := j) (v := n) t.demand.length
      rw [if_pos hj, h0] at this
      rw [if_pos rfl, ← h.row p hp]
      have e2 : sumN t.demand.length (fun q => if p = p ∧ q = j then n else f p q) = sumN t.demand.length (fun q => if q = j then n else f p q) := sumN_congr _ fun q _ => by simp
      rw [e2, this]; omega
    · rw [if_neg e, ← h.row p hp]
      congr 1
      exact sumN_congr _ fun q _ => by rw [if_neg (fun hc => e hc.1)]
  have col' : ∀ q, q < t.demand.length → sumN t.supply.length (fun p => if p = i ∧ q = j then n else f p q) + (if q = j then b j - n else b q) = gi t.demand q := fun q hq => by
    by_cases e : q = j
    · subst e
      have := sumN_upd (g := fun p => f p q) (k := i) (v := n) t.supply.length
      rw [if_pos hi, h0] at this
      rw [if_pos rfl, ← h.col q hq]
      have e2 : sumN t.supply.length (fun p => if p = i ∧ q = q then n else f p q) = sumN t.supply.length (fun p => if p = i then n else f p q) := sumN_congr _ fun p _ => by simp
      rw [e2, this]; omega
    · rw [if_neg e, ← h.col q hq]
      congr 1
      exact sumN_congr _ fun p _ => by rw [if_neg (fun hc => e hc.2)]
  have ai' : ∀ p, p < t.supply.length → (if p = i then a i - n else a p) ≤ 30 := fun p hp => by
    have := h.ai p hp; have := h.ai i hi
    split <;> omega
  have bi' : ∀ q, q < t.demand.length → (if q = j then b j - n else b q) ≤ 30 := fun q hq => by
    have := h.bi q hq; have := h.bi j hj
    split <;> omega
  constructor
  · intro hz
    refine ⟨nn', fun p q hpq => ?_, an', bn', fun p hp => ?_, fun q hq => ?_, row', col', ai', bi'⟩
    · rw [if_neg (by omega)]; exact h.fresh p q (by omega)
    · by_cases e : p = i
      · rw [if_pos e]; exact hz
      · rw [if_neg e]; exact h.a0 p (by omega)
    · rw [if_neg (by omega)]; exact h.b0 q hq
  · intro hz
    refine ⟨nn', fun p q hpq => ?_, an', bn', fun p hp => ?_, fun q hq => ?_, row', col', ai', bi'⟩
    · rw [if_neg (by omega)]; exact h.fresh p q (by omega)
    · rw [if_neg (by omega)]; exact h.a0 p hp
    · by_cases e : q = j
      · rw [if_pos e]; omega
      · rw [if_neg e]; exact h.b0 q (by omega)
theorem corner_loop {t : Trade} (ht : okT t = true) : ∀ (d i j k : Nat) (f : Nat → Nat → Int) (a b : Nat → Int), Cor t i j f a b → i ≤ t.supply.length → j ≤ t.demand.length → (t.supply.length - i) + (t.demand.length - j) ≤ d → d < k →
    ∃ g, PlanF t g ∧ bulk_corner_L1 k (i : Int) (j : Int) (tab t f) (tb t.supply.length a) (tb t.demand.length b) = some (tab t g) ∧ ref07_Corner_L1 k (i : Int) (j : Int) (tab t f) (tb t.supply.length a) (tb t.demand.length b) = some (tab t g, 0) := by
  have hs := (okT_spec ht).1.2.1
  have hd := (okT_spec ht).2.1.2.1
  intro d
  induction d with
  | zero =>
    intro i j k f a b h hi hj hdd hk
    obtain ⟨k, rfl⟩ : ∃ k', k = k' + 1 := ⟨k - 1, by omega⟩
    refine ⟨f, cor_done ht h (.inl (by omega)), ?_, ?_⟩
    · show bulk_corner_B1 (bulk_corner_L1 k) _ _ _ _ _ = _
      unfold bulk_corner_B1 bulk_corner_k2
      rw [if_neg (by rw [tb_len]; omega), if_neg (by simp)]; rfl
    · show ref07_Corner_B1 (ref07_Corner_L1 k) _ _ _ _ _ = _
      unfold ref07_Corner_B1 ref07_Corner_k2
      rw [if_neg (by rw [tb_len]; omega), if_neg (by simp)]; rfl
  | succ d ih =>
    intro i j k f a b h hi hj hdd hk
    obtain ⟨k, rfl⟩ : ∃ k', k = k' + 1 := ⟨k - 1, by omega⟩
    by_cases hi' : i < t.supply.length
    · by_cases hj' : j < t.demand.length
      · have hst := cor_step h hi' hj'
        have hai := h.ai i hi'
        have hbj := h.bi j hj'
        have han := h.an i
        have hbn := h.bn j
        have h0 := h.fresh i j (.inr ⟨rfl, Nat.le_refl _⟩)
        have x1 : (tb t.supply.length a)[i]? = some (a i) := tb_at hi'
        have x2 : (tb t.demand.length b)[j]? = some (b j) := tb_at hj'
        have x3 : (tab t f)[i]? = some (tb t.demand.length (f i)) := tbl_at hi'
        have x4 : (tb t.demand.length (f i))[j]? = some (f i j) := tb_at hj'
        have e1 : (tb t.supply.length a).set i (a i - min (a i) (b j)) = tb t.supply.length (fun p => if p = i then a i - min (a i) (b j) else a p) := tb_set _
        have e2 : (tb t.demand.length b).set j (b j - min (a i) (b j)) = tb t.demand.length (fun q => if q = j then b j - min (a i) (b j) else b q) := tb_set _
        have e3 : (tab t f).set i ((tb t.demand.length (f i)).set j (min (a i) (b j))) = tab t (fun p q => if p = i ∧ q = j then min (a i) (b j) else f p q) := tbl_set hi' _
        have x5 : (tb t.supply.length (fun p => if p = i then a i - min (a i) (b j) else a p))[i]? = some (a i - min (a i) (b j)) := by rw [tb_at hi', if_pos rfl]
        have nat1 : Int.toNat (i : Int) = i := rfl
        have nat2 : Int.toNat (j : Int) = j := rfl
        have P : bulk_corner_L1 (k + 1) (i : Int) (j : Int) (tab t f) (tb t.supply.length a) (tb t.demand.length b) =
            if a i - min (a i) (b j) = 0 then bulk_corner_L1 k ((i + 1 : Nat) : Int) (j : Int) (tab t (fun p q => if p = i ∧ q = j then min (a i) (b j) else f p q)) (tb t.supply.length (fun p => if p = i then a i - min (a i) (b j) else a p)) (tb t.demand.length (fun q => if q = j then b j - min (a i) (b j) else b q))
            else bulk_corner_L1 k (i : Int) ((j + 1 : Nat) : Int) (tab t (fun p q => if p = i ∧ q = j then min (a i) (b j) else f p q)) (tb t.supply.length (fun p => if p = i then a i - min (a i) (b j) else a p)) (tb t.demand.length (fun q => if q = j then b j - min (a i) (b j) else b q)) := by
          show bulk_corner_B1 (bulk_corner_L1 k) _ _ _ _ _ = _
          unfold bulk_corner_B1 bulk_corner_k2
          rw [if_pos (by rw [tb_len]; omega), if_pos (by rw [tb_len]; simp; omega), ix_nat x1, ix_nat x2, ix_nat x3, ix_nat x4, ix_nat x1, gd_pos (by omega), ix_nat x1, ix_nat x2, gd_pos (by omega), ix_nat x2, nat1, nat2, e1, e2, e3, ix_nat x5]
          by_cases hz : a i - min (a i) (b j) = 0
          · rw [if_pos hz, if_pos hz, gd_pos (by omega)]; rfl
          · rw [if_neg hz, if_neg hz, gd_pos (by omega)]; rfl
        have Q : ref07_Corner_L1 (k + 1) (i : Int) (j : Int) (tab t f) (tb t.supply.length a) (tb t.demand.length b) =
            if a i - min (a i) (b j) = 0 then ref07_Corner_L1 k ((i + 1 : Nat) : Int) (j : Int) (tab t (fun p q => if p = i ∧ q = j then min (a i) (b j) else f p q)) (tb t.supply.length (fun p => if p = i then a i - min (a i) (b j) else a p)) (tb t.demand.length (fun q => if q = j then b j - min (a i) (b j) else b q))
            else ref07_Corner_L1 k (i : Int) ((j + 1 : Nat) : Int) (tab t (fun p q => if p = i ∧ q = j then min (a i) (b j) else f p q)) (tb t.supply.length (fun p => if p = i then a i - min (a i) (b j) else a p)) (tb t.demand.length (fun q => if q = j then b j - min (a i) (b j) else b q)) := by
          show ref07_Corner_B1 (ref07_Corner_L1 k) _ _ _ _ _ = _
          unfold ref07_Corner_B1 ref07_Corner_k2
          rw [if_pos (by rw [tb_len]; omega), if_pos (by rw [tb_len]; simp; omega), ix_nat x1, ix_nat x2, ix_nat x3, ix_nat x4, gd_pos (by omega), ix_nat x4, ix_nat x1, gd_pos (by omega), ix_nat x1, ix_nat x2, gd_pos (by omega), ix_nat x2, nat1, nat2, h0, Int.zero_add, e1, e2, e3, ix_nat x5]
          by_cases hz : a i - min (a i) (b j) = 0
          · rw [if_pos hz, if_pos hz, gd_pos (by omega)]; rfl
          · rw [if_neg hz, if_neg hz, gd_pos (by omega)]; rfl
        rw [P, Q]
        by_cases hz : a i - min (a i) (b j) = 0
        · rw [if_pos hz, if_pos hz]
          exact ih (i + 1) j k _ _ _ (hst.1 hz) (by omega) hj (by omega) (by omega)
        · rw [if_neg hz, if_neg hz]
          exact ih i (j + 1) k _ _ _ (hst.2 hz) hi (by omega) (by omega) (by omega)
      · refine ⟨f, cor_done ht h (.inr (by omega)), ?_, ?_⟩
        · show bulk_corner_B1 (bulk_corner_L1 k) _ _ _ _ _ = _
          unfold bulk_corner_B1 bulk_corner_k2
          rw [if_pos (by rw [tb_len]; omega), if_neg (by rw [tb_len]; simp; omega)]; rfl
        · show ref07_Corner_B1 (ref07_Corner_L1 k) _ _ _ _ _ = _
          unfold ref07_Corner_B1 ref07_Corner_k2
          rw [if_pos (by rw [tb_len]; omega), if_neg (by rw [tb_len]; simp; omega)]; rfl
    · refine ⟨f, cor_done ht h (.inl (by omega)), ?_, ?_⟩
      · show bulk_corner_B1 (bulk_corner_L1 k) _ _ _ _ _ = _
        unfold bulk_corner_B1 bulk_corner_k2
        rw [if_neg (by rw [tb_len]; omega), if_neg (by simp)]; rfl
      · show ref07_Corner_B1 (ref07_Corner_L1 k) _ _ _ _ _ = _
        unfold ref07_Corner_B1 ref07_Corner_k2
        rw [if_neg (by rw [tb_len]; omega), if_neg (by simp)]; rfl
theorem empty_eq {t : Trade} (h1 : t.supply.length ≤ 50) (h2 : t.demand.length ≤ 50) : bulk_empty t = some (tab t (fun _ _ => 0)) := by
  unfold bulk_empty
  rw [gd_pos (by omega), show Int.toNat (t.supply.length : Int) = t.supply.length from rfl, rep_tg]
  refine for0 t.supply.length (fun i => tg t.supply.length (fun p => if p < i then tb t.demand.length (fun _ => 0) else [])) (fun k s i => bulk_empty_L1 t k i s) _ (tg_congr fun p hp => by simp) (fun k i hi => ?_) (fun k => ?_) (by omega)
  · show bulk_empty_B1 t (bulk_empty_L1 t k) _ _ = _
    unfold bulk_empty_B1
    have hx : (tg t.supply.length (fun p => if p < i then tb t.demand.length (fun _ => 0) else []))[i]? = some [] := by rw [tg_at hi]; simp
    rw [if_pos (by simp; omega), gd_pos (by omega), ix_nat hx, gd_pos (by omega), show Int.toNat (i : Int) = i from rfl, show Int.toNat (t.demand.length : Int) = t.demand.length from rfl, tg_set, rep_tb]
    refine congrArg (bulk_empty_L1 t k _) (tg_congr fun p hp => ?_)
    by_cases e : p = i
    · rw [if_pos e, if_pos (by omega)]
    · rw [if_neg e]
      by_cases e2 : p < i
      · rw [if_pos e2, if_pos (by omega)]
      · rw [if_neg e2, if_neg (by omega)]
  · show bulk_empty_B1 t (bulk_empty_L1 t k) _ _ = _
    unfold bulk_empty_B1 bulk_empty_k1
    rw [if_neg (by simp)]
    congr 1
    exact tg_congr fun p hp => by rw [if_pos hp]
theorem rempty_eq {t : Trade} (h1 : t.supply.length ≤ 50) (h2 : t.demand.length ≤ 50) : ref07_empty t = some (tab t (fun _ _ => 0)) := by
  unfold ref07_empty
  refine for0 t.supply.length (fun i => tg i (fun p => tb t.demand.length (fun _ => 0))) (fun k s i => ref07_empty_L1 t k i s) _ rfl (fun k i hi => ?_) (fun k => ?_) (by omega)
  · show ref07_empty_B1 t (ref07_empty_L1 t k) _ _ = _
    unfold ref07_empty_B1
    rw [if_pos (by omega), gd_pos (by omega), gd_pos (by rw [tg_len]; omega), gd_pos (by omega), show Int.toNat (t.demand.length : Int) = t.demand.length from rfl, rep_tb, ← tg_push]; rfl
  · show ref07_empty_B1 t (ref07_empty_L1 t k) _ _ = _
    unfold ref07_empty_B1
    rw [if_neg (by omega)]; rfl
theorem clone_eq {l : List Int} (h : l.length ≤ 1000) : slices_Clone_int l = some l := by
  unfold slices_Clone_int
  rw [gd_pos (by simp; omega)]; rfl
theorem cor_start {t : Trade} (ht : okT t = true) : Cor t 0 0 (fun _ _ => 0) (fun p => if p < t.supply.length then gi t.supply p else 0) (fun q => if q < t.demand.length then gi t.demand q else 0) :=
  { nn := fun _ _ => Int.le_refl _, fresh := fun _ _ _ => rfl
    an := fun p => by
      split
      · rename_i h; exact (supply_bnd ht h).1
      · exact Int.le_refl _
    bn := fun p => by
      split
      · rename_i h; exact (demand_bnd ht h).1
      · exact Int.le_refl _
    a0 := fun p hp => by omega
    b0 := fun p hp => by omega
    row := fun p hp => by rw [sumN_zero, if_pos hp]; omega
    col := fun p hp => by rw [sumN_zero, if_pos hp]; omega
    ai := fun p hp => by rw [if_pos hp]; exact (supply_bnd ht hp).2
    bi := fun p hp => by rw [if_pos hp]; exact (demand_bnd ht hp).2 }
/-- Both corners are one right plan. -/
theorem corner_eq {t : Trade} (ht : okT t = true) : ∃ g, PlanF t g ∧ bulk_corner t = some (tab t g) ∧ ref07_Corner_k3 (tab t (fun _ _ => 0)) t.supply t.demand = some (tab t g, 0) := by
  have hs := (okT_spec ht).1.2.1
  have hd := (okT_spec ht).2.1.2.1
  obtain ⟨g, g1, g2, g3⟩ := corner_loop ht 8 0 0 FU _ _ _ (cor_start ht) (by omega) (by omega) (by omega) (by have := FU_pos; omega)
  have e1 : tb t.supply.length (fun p => if p < t.supply.length then gi t.supply p else 0) = t.supply := by
    conv => rhs; rw [← tb_self t.supply]
    exact tb_congr fun k hk => by rw [if_pos hk]
  have e2 : tb t.demand.length (fun p => if p < t.demand.length then gi t.demand p else 0) = t.demand := by
    conv => rhs; rw [← tb_self t.demand]
    exact tb_congr fun k hk => by rw [if_pos hk]
  rw [e1, e2] at g2 g3
  refine ⟨g, g1, ?_, g3⟩
  unfold bulk_corner
  rw [bnd_eq (empty_eq (by omega) (by omega)), bnd_eq (clone_eq (by omega)), bnd_eq (clone_eq (by omega))]
  exact g2
theorem tab_small {t : Trade} (h1 : t.supply.length ≤ 50) (h2 : t.demand.length ≤ 50) (f : Nat → Nat → Int) : Lsmall (tab t f) := tbl_small h1 h2 f
end Go.D7

set_option linter.unusedVariables false
set_option linter.unusedSimpArgs false
namespace Go.D7
open Go.Tb
theorem forX {S R : Type} (N : Nat) (g : Nat → S) (idx : Nat → Int) (L : Nat → S → Int → Option R) (yes : Option R)
    (step : ∀ n i : Nat, i < N → L (n + 1) (g i) (idx i) = L n (g (i + 1)) (idx (i + 1)))
    (stop : ∀ n : Nat, L (n + 1) (g N) (idx N) = yes) : ∀ (d n i : Nat), N = i + d → d < n → L n (g i) (idx i) = yes
  | 0, n + 1, i, hd, hn => by
    have hi : i = N := by omega
    subst hi
    exact stop n
  | d + 1, n + 1, i, hd, hn => by
    rw [step n i (by omega)]
    exact forX N g idx L yes step stop d n (i + 1) (by omega) (by omega)
theorem ix1 {α β : Type} {l : List α} {k : α → Option β} {x : α} (h : l[1]? = some x) : ix l 1 k = k x := ix_nat (i := 1) h
theorem tmod_nat (a b : Nat) : Int.tmod (a : Int) (b : Int) = ((a % b : Nat) : Int) := by
  rw [Int.tmod_eq_emod_of_nonneg (Int.natCast_nonneg _)]; norm_cast
def pr (L : List Arr2) (k : Nat) : Arr2 := L.getD k ⟨0, 0⟩
theorem pr_at {L : List Arr2} {k : Nat} (h : k < L.length) : L[k]? = some (pr L k) := by simp [pr, List.getD, h]
theorem pr_of {L : List Arr2} {k : Nat} {x : Arr2} (h : L[k]? = some x) : pr L k = x := by simp [pr, List.getD, h]
def side (x : Arr2) (k : Nat) : Int := if k % 2 = 0 then x.at0 else x.at1
theorem side_at (x : Arr2) (k : Nat) : ([x.at0, x.at1] : List Int)[k % 2]? = some (side x k) := by
  unfold side
  have h : k % 2 = 0 ∨ k % 2 = 1 := by omega
  rcases h with h | h <;> simp [h]
def eqA (x y : Arr2) : Bool := (x.at0 == y.at0) && (x.at1 == y.at1)
theorem eqA_iff {x y : Arr2} : eqA x y = true ↔ x = y := by
  unfold eqA
  cases x; cases y; simp
def memA (l : List Arr2) (x : Arr2) : Bool := l.any (eqA x)
theorem indexA_eq {l : List Arr2} (x : Arr2) (hl : l.length ≤ 1000) : ∀ (suf pre : List Arr2) (k : Nat), l = pre ++ suf → suf.length < k → ∃ i : Int, slices_Index_2_int_2_int_L1 l x k (pre.length : Int) = some i ∧ (0 ≤ i ↔ memA suf x = true)
  | [], pre, k + 1, h, hk => by
    refine ⟨-1, ?_, by simp [memA]⟩
    show slices_Index_2_int_2_int_B1 l x (slices_Index_2_int_2_int_L1 l x k) _ = _
    unfold slices_Index_2_int_2_int_B1
    rw [if_neg (by rw [h]; simp)]; rfl
  | y :: r, pre, k + 1, h, hk => by
    have hy : l[pre.length]? = some y := by rw [h, List.getElem?_append_right (Nat.le_refl _)]; simp
    have := lt_of_at hy
    obtain ⟨i, h1, h2⟩ := indexA_eq x hl r (pre ++ [y]) k (by rw [h]; simp) (by simp at hk; omega)
    have e : slices_Index_2_int_2_int_L1 l x (k + 1) (pre.length : Int) = slices_Index_2_int_2_int_B1 l x (slices_Index_2_int_2_int_L1 l x k) (pre.length : Int) := rfl
    rw [e]
    unfold slices_Index_2_int_2_int_B1
    rw [if_pos (by omega), gd_pos (by rfl), ix0 (x := x.at0) rfl, ix1 (x := x.at1) rfl, ix_nat hy]
    show ∃ i, (if eqA x y = true then _ else _) = some i ∧ _
    by_cases hxy : eqA x y = true
    · rw [if_pos hxy]
      exact ⟨_, rfl, by simp [memA, hxy]⟩
    · rw [if_neg hxy, gd_pos (by omega)]
      rw [show (((pre ++ [y]).length : Nat) : Int) = (pre.length : Int) + 1 by simp] at h1
      exact ⟨i, h1, by rw [h2]; simp [memA, hxy]⟩
theorem containsA_eq {l : List Arr2} (x : Arr2) (hl : l.length ≤ 1000) : slices_Contains_2_int_2_int l x = some (memA l x) := by
  obtain ⟨i, h1, h2⟩ := indexA_eq x hl l [] FU rfl (by have := FU_pos; omega)
  unfold slices_Contains_2_int_2_int slices_Index_2_int_2_int
  have h1' : slices_Index_2_int_2_int_L1 l x FU 0 = some i := h1
  rw [gd_pos (by rfl), ix0 (x := x.at0) rfl, ix1 (x := x.at1) rfl]
  rw [show (⟨x.at0, x.at1⟩ : Arr2) = x from rfl, bnd_eq h1']
  congr 1
  by_cases h : memA l x = true
  · rw [decide_eq_true (h2.2 h), h]
  · rw [decide_eq_false (fun hc => h (h2.1 hc))]; simpa using h
def rndAt (L : List Arr2) (k : Nat) : Bool := decide (side (pr L k) k = side (pr L ((k + 1) % L.length)) k) && !memA (L.take k) (pr L k)
def roundB (L : List Arr2) : Bool := (decide (4 ≤ L.length) && decide (L.length % 2 = 0)) && decide (∀ k, k < L.length → rndAt L k = true)
theorem isRound_eq {L : List Arr2} (hl : L.length ≤ 1000) : bulk_isRound L = some (roundB L) := by
  unfold bulk_isRound bulk_isRound_k3 roundB
  by_cases h4 : 4 ≤ L.length
  · have e2 : Int.tmod (L.length : Int) 2 = ((L.length % 2 : Nat) : Int) := tmod_nat _ 2
    rw [if_neg (by omega), gd_pos ⟨by decide, by rw [e2]; omega⟩, e2, decide_eq_true h4]
    by_cases he : L.length % 2 = 0
    · rw [if_neg (by rw [he]; simp), decide_eq_true he]
      refine Eq.trans (scan_inv0 L.length (rndAt L) (fun _ => ()) (fun k _ i => bulk_isRound_L1 L k i) (some true) (some false) (s0 := ()) rfl (fun k i hi _ => ?_) (fun k _ => ?_) (by omega)) ?_
      · have hm : (i + 1) % L.length < L.length := Nat.mod_lt _ (by omega)
        have e1 : Int.tmod ((i : Int) + 1) (L.length : Int) = (((i + 1) % L.length : Nat) : Int) := tmod_nat (i + 1) _
        have e3 : Int.tmod (i : Int) 2 = ((i % 2 : Nat) : Int) := tmod_nat i 2
        show bulk_isRound_B1 L (bulk_isRound_L1 L k) _ = _
        unfold bulk_isRound_B1 bulk_isRound_k2 rndAt
        rw [if_pos (by omega), ix_nat (pr_at hi), gd_pos (by omega), e1, gd_pos ⟨by omega, by omega⟩, ix_nat (pr_at hm), e3, gd_pos ⟨by decide, by omega⟩, ix_nat (side_at _ _), gd_pos ⟨by decide, by omega⟩, ix_nat (side_at _ _)]
        by_cases hs : side (pr L i) i = side (pr L ((i + 1) % L.length)) i
        · rw [if_pos hs, gd_pos (by omega), gd_pos (by rfl), ix0 (x := (pr L i).at0) rfl, ix1 (x := (pr L i).at1) rfl]
          rw [show (⟨(pr L i).at0, (pr L i).at1⟩ : Arr2) = pr L i from rfl, show Int.toNat (i : Int) = i from rfl, bnd_eq (containsA_eq _ (by rw [List.length_take]; omega)), decide_eq_true hs]
          cases memA (L.take i) (pr L i)
          · rw [if_neg (by simp), gd_pos (by omega), if_pos (by rfl)]; rfl
          · rw [if_pos rfl, if_neg (by simp)]
        · rw [if_neg hs, if_pos rfl, decide_eq_false hs, if_neg (by simp)]
      · show bulk_isRound_B1 L (bulk_isRound_L1 L k) _ = _
        unfold bulk_isRound_B1
        rw [if_neg (by omega)]; rfl
      · by_cases hc : ∀ k, k < L.length → rndAt L k = true
        · rw [if_pos hc, decide_eq_true hc]; rfl
        · rw [if_neg hc, decide_eq_false hc]; rfl
    · rw [if_pos (by simp; omega), decide_eq_false he]; rfl
  · rw [if_pos (by omega), if_pos rfl, decide_eq_false h4]; rfl
theorem memA_take {L : List Arr2} {i : Nat} (hi : i ≤ L.length) (x : Arr2) : memA (L.take i) x = true ↔ ∃ j, j < i ∧ eqA x (pr L j) = true := by
  unfold memA
  rw [List.any_eq_true]
  constructor
  · rintro ⟨y, hy, he⟩
    obtain ⟨j, hj⟩ := List.getElem?_of_mem hy
    rw [List.getElem?_take] at hj
    split at hj
    · rename_i hlt
      exact ⟨j, hlt, by rw [pr_of hj]; exact he⟩
    · cases hj
  · rintro ⟨j, hj, he⟩
    refine ⟨pr L j, ?_, he⟩
    refine List.mem_of_getElem? (i := j) ?_
    rw [List.getElem?_take, if_pos hj]
    exact pr_at (by omega)
theorem risRound_eq {L : List Arr2} (hl : L.length ≤ 1000) : ref07_isRound L = some (roundB L) := by
  unfold ref07_isRound ref07_isRound_k3 roundB
  by_cases h4 : 4 ≤ L.length
  · have e2 : Int.tmod (L.length : Int) 2 = ((L.length % 2 : Nat) : Int) := tmod_nat _ 2
    rw [if_neg (by omega), gd_pos ⟨by decide, by rw [e2]; omega⟩, e2, decide_eq_true h4]
    by_cases he : L.length % 2 = 0
    · rw [if_neg (by rw [he]; simp), decide_eq_true he]
      refine Eq.trans (scan_inv0 L.length (rndAt L) (fun _ => ()) (fun k _ i => ref07_isRound_L2 L k i) (some true) (some false) (s0 := ()) rfl (fun k i hi _ => ?_) (fun k _ => ?_) (by omega)) ?_
      · have hm : (i + 1) % L.length < L.length := Nat.mod_lt _ (by omega)
        have e1 : Int.tmod ((i : Int) + 1) (L.length : Int) = (((i + 1) % L.length : Nat) : Int) := tmod_nat (i + 1) _
        have e3 : Int.tmod (i : Int) 2 = ((i % 2 : Nat) : Int) := tmod_nat i 2
        show ref07_isRound_B2 L (ref07_isRound_L2 L k) _ = _
        unfold ref07_isRound_B2 rndAt
        rw [if_pos (by omega), gd_pos (by omega), e1, gd_pos ⟨by omega, by omega⟩, ix_nat (pr_at hm), e3, gd_pos ⟨by decide, by omega⟩, ix_nat (pr_at hi), ix_nat (side_at _ _), gd_pos ⟨by decide, by omega⟩, ix_nat (side_at _ _)]
        by_cases hs : side (pr L i) i = side (pr L ((i + 1) % L.length)) i
        · rw [if_pos hs, decide_eq_true hs, Bool.true_and]
          refine Eq.trans (scan_loop0 i (fun j => !eqA (pr L i) (pr L j)) (fun _ => ()) (fun q _ j => ref07_isRound_L1 L (i : Int) (ref07_isRound_L2 L k) q j) (ref07_isRound_L2 L k ((i + 1 : Nat) : Int)) (some false) (fun q j hj => ?_) (fun q => ?_) (by omega)) ?_
          · show ref07_isRound_B1 L (i : Int) (ref07_isRound_L2 L k) (ref07_isRound_L1 L (i : Int) (ref07_isRound_L2 L k) q) _ = _
            unfold ref07_isRound_B1
            rw [if_pos (by omega), ix_nat (pr_at hi), ix_nat (pr_at (by omega))]
            show (if eqA (pr L i) (pr L j) = true then _ else _) = _
            by_cases hq : eqA (pr L i) (pr L j) = true
            · rw [if_pos hq, if_neg (by simp [hq])]
            · rw [if_neg hq, gd_pos (by omega), if_pos (by simpa using hq)]; rfl
          · show ref07_isRound_B1 L (i : Int) (ref07_isRound_L2 L k) (ref07_isRound_L1 L (i : Int) (ref07_isRound_L2 L k) q) _ = _
            unfold ref07_isRound_B1 ref07_isRound_k2
            rw [if_neg (by omega), gd_pos (by omega)]; rfl
          · by_cases hm2 : memA (L.take i) (pr L i) = true
            · rw [if_neg, if_neg (by rw [hm2]; simp)]
              intro hc
              obtain ⟨j, hj, hq⟩ := (memA_take (by omega) _).1 hm2
              have := hc j hj
              rw [hq] at this; cases this
            · rw [if_pos, if_pos (by simpa using hm2)]
              intro j hj
              rw [Bool.not_eq_true', Bool.eq_false_iff]
              intro hq
              exact hm2 ((memA_take (by omega) _).2 ⟨j, hj, hq⟩)
        · rw [if_neg hs, decide_eq_false hs, if_neg (by simp)]
      · show ref07_isRound_B2 L (ref07_isRound_L2 L k) _ = _
        unfold ref07_isRound_B2
        rw [if_neg (by omega)]; rfl
      · by_cases hc : ∀ k, k < L.length → rndAt L k = true
        · rw [if_pos hc, decide_eq_true hc]; rfl
        · rw [if_neg hc, decide_eq_false hc]; rfl
    · rw [if_pos (by simp; omega), decide_eq_false he]; rfl
  · rw [if_pos (by omega), if_pos rfl, decide_eq_false h4]; rfl
def sN (L : List Arr2) (k : Nat) : Nat := (pr L k).at0.toNat
def bN (L : List Arr2) (k : Nat) : Nat := (pr L k).at1.toNat
def InPairs (t : Trade) (L : List Arr2) : Prop := ∀ k, k < L.length → (0 ≤ (pr L k).at0 ∧ (pr L k).at0 < (t.supply.length : Int)) ∧ (0 ≤ (pr L k).at1 ∧ (pr L k).at1 < (t.demand.length : Int))
def mN (f : Nat → Nat → Int) (L : List Arr2) : Nat → Int
  | 0 => f (sN L 1) (bN L 1)
  | k + 1 => if k % 2 = 1 then min (mN f L k) (f (sN L k) (bN L k)) else mN f L k
def sgn (k : Nat) : Int := if k % 2 = 0 then 1 else -1
def fK (f : Nat → Nat → Int) (L : List Arr2) (n : Int) : Nat → Nat → Nat → Int
  | 0 => f
  | k + 1 => fun i j => if i = sN L k ∧ j = bN L k then fK f L n k i j + sgn k * n else fK f L n k i j
theorem mN_bnd {f : Nat → Nat → Int} {L : List Arr2} (h : ∀ k, k < L.length → 0 ≤ f (sN L k) (bN L k) ∧ f (sN L k) (bN L k) ≤ 30) (h1 : 1 < L.length) : ∀ k, k ≤ L.length → 0 ≤ mN f L k ∧ mN f L k ≤ 30
  | 0, _ => h 1 h1
  | k + 1, hk => by
    have ih := mN_bnd h h1 k (by omega)
    have := h k (by omega)
    simp only [mN]
    split <;> omega
theorem mN_le {f : Nat → Nat → Int} {L : List Arr2} : ∀ (k q : Nat), q < k → q % 2 = 1 → mN f L k ≤ f (sN L q) (bN L q)
  | k + 1, q, hq, h1 => by
    simp only [mN]
    by_cases e : q = k
    · subst e; rw [if_pos h1]; omega
    · have := mN_le (f := f) (L := L) k q (by omega) h1
      split <;> omega
theorem fK_bnd {t : Trade} {f : Nat → Nat → Int} {L : List Arr2} {n : Int} (hn : 0 ≤ n ∧ n ≤ 30) {i j : Nat} (h : 0 ≤ f i j ∧ f i j ≤ 30) : ∀ k : Nat, -(30 * (k : Int)) ≤ fK f L n k i j ∧ fK f L n k i j ≤ 30 + 30 * (k : Int)
  | 0 => by simp only [fK]; omega
  | k + 1 => by
    have ih := fK_bnd (t := t) (L := L) hn h k
    have hs : sgn k = 1 ∨ sgn k = -1 := by unfold sgn; split <;> simp
    simp only [fK]
    split
    · rcases hs with e | e <;> rw [e] <;> omega
    · omega
section
variable {t : Trade} {f : Nat → Nat → Int} {L : List Arr2}
theorem clone_tab {l : List (List Int)} (hl : Lsmall l) : bulk_clone l = some l := by
  have h1 := hl.1
  unfold bulk_clone
  refine for0 l.length (fun i => l.take i) (fun k s i => bulk_clone_L1 l k i s) _ rfl (fun k i hi => ?_) (fun k => ?_) (by omega)
  · have h2 := hl.2 _ (List.mem_of_getElem? (gr_at hi))
    show bulk_clone_B1 l (bulk_clone_L1 l k) _ _ = _
    unfold bulk_clone_B1
    rw [if_pos (by omega), ix_nat (gr_at hi), bnd_eq (clone_eq (by omega)), gd_pos (by rw [List.length_take]; omega), gd_pos (by omega), List.take_add_one, gr_at hi]; rfl
  · show bulk_clone_B1 l (bulk_clone_L1 l k) _ _ = _
    unfold bulk_clone_B1
    rw [if_neg (by omega), List.take_length]; rfl
theorem copy_tab {l : List (List Int)} (hl : Lsmall l) : ref07_CopyTable l = some l := by
  have h1 := hl.1
  unfold ref07_CopyTable
  refine for0 l.length (fun i => l.take i) (fun k s i => ref07_CopyTable_L1 l k i s) _ rfl (fun k i hi => ?_) (fun k => ?_) (by omega)
  · have h2 := hl.2 _ (List.mem_of_getElem? (gr_at hi))
    show ref07_CopyTable_B1 l (ref07_CopyTable_L1 l k) _ _ = _
    unfold ref07_CopyTable_B1
    rw [if_pos (by omega), ix_nat (gr_at hi), gd_pos (by simp; omega), gd_pos (by rw [List.length_take]; omega), gd_pos (by omega), List.take_add_one, gr_at hi]; rfl
  · show ref07_CopyTable_B1 l (ref07_CopyTable_L1 l k) _ _ = _
    unfold ref07_CopyTable_B1
    rw [if_neg (by omega), List.take_length]; rfl
theorem in_nat (hi : InPairs t L) {k : Nat} (hk : k < L.length) : sN L k < t.supply.length ∧ bN L k < t.demand.length ∧ ((sN L k : Nat) : Int) = (pr L k).at0 ∧ ((bN L k : Nat) : Int) = (pr L k).at1 := by
  have := hi k hk
  unfold sN bN
  omega
theorem along_eq (ht : t.supply.length ≤ 50 ∧ t.demand.length ≤ 50) (hf : ∀ i j, i < t.supply.length → j < t.demand.length → 0 ≤ f i j ∧ f i j ≤ 30) (hi : InPairs t L) (hl : L.length ≤ 8) (h4 : 4 ≤ L.length) :
    bulk_along (tab t f) L = some (tab t (fK f L (mN f L L.length) L.length), mN f L L.length) := by
  have cells : ∀ k, k < L.length → 0 ≤ f (sN L k) (bN L k) ∧ f (sN L k) (bN L k) ≤ 30 := fun k hk => by
    have := in_nat hi hk
    exact hf _ _ this.1 this.2.1
  have hm := mN_bnd cells (by omega) L.length (Nat.le_refl _)
  unfold bulk_along
  rw [bnd_eq (clone_tab (tab_small ht.1 ht.2 f))]
  have p1 := in_nat hi (k := 1) (by omega)
  have r1 : (tab t f)[sN L 1]? = some (tb t.demand.length (f (sN L 1))) := tbl_at p1.1
  rw [ix1 (pr_at (by omega)), ← p1.2.2.1, ix_nat r1, ix1 (pr_at (by omega)), ← p1.2.2.2, ix_nat (tb_at p1.2.1)]
  refine Eq.trans (for0 L.length (mN f L) (fun k s i => bulk_along_L2 L (tab t f) k s i) (bulk_along_k2 L (tab t f) (mN f L L.length)) rfl (fun k i hik => ?_) (fun k => ?_) (by omega)) ?_
  · have p := in_nat hi hik
    have r : (tab t f)[sN L i]? = some (tb t.demand.length (f (sN L i))) := tbl_at p.1
    have e3 : Int.tmod (i : Int) 2 = ((i % 2 : Nat) : Int) := tmod_nat i 2
    show bulk_along_B2 L (tab t f) (bulk_along_L2 L (tab t f) k) _ _ = _
    unfold bulk_along_B2 bulk_along_k3
    rw [if_pos (by omega), ix_nat (pr_at hik), e3, gd_pos ⟨by decide, by omega⟩]
    simp only [mN]
    by_cases ho : i % 2 = 1
    · rw [if_pos (by omega), ix0 (x := (pr L i).at0) rfl, ← p.2.2.1, ix_nat r, ix1 (x := (pr L i).at1) rfl, ← p.2.2.2, ix_nat (tb_at p.2.1), gd_pos (by omega), if_pos ho]; rfl
    · rw [if_neg (by omega), gd_pos (by omega), if_neg ho]; rfl
  · show bulk_along_B2 L (tab t f) (bulk_along_L2 L (tab t f) k) _ _ = _
    unfold bulk_along_B2
    rw [if_neg (by omega)]
  · unfold bulk_along_k2
    refine for0 L.length (fun k => tab t (fK f L (mN f L L.length) k)) (fun k s i => bulk_along_L1 L (mN f L L.length) k i s) _ rfl (fun k i hik => ?_) (fun k => ?_) (by omega)
    · have p := in_nat hi hik
      have r : (tab t (fK f L (mN f L L.length) i))[sN L i]? = some (tb t.demand.length (fK f L (mN f L L.length) i (sN L i))) := tbl_at p.1
      have e3 : Int.tmod (i : Int) 2 = ((i % 2 : Nat) : Int) := tmod_nat i 2
      have hb := fK_bnd (t := t) (L := L) hm (cells i hik) i
      show bulk_along_B1 L (mN f L L.length) (bulk_along_L1 L (mN f L L.length) k) _ _ = _
      unfold bulk_along_B1
      have hx : i % 2 = 0 ∨ i % 2 = 1 := by omega
      have key : mN f L L.length - 2 * mN f L L.length * ((i % 2 : Nat) : Int) = sgn i * mN f L L.length := by
        unfold sgn
        rcases hx with h | h <;> rw [h] <;> simp <;> omega
      have kb : InR (2 * mN f L L.length * ((i % 2 : Nat) : Int)) ∧ -30 ≤ sgn i * mN f L L.length ∧ sgn i * mN f L L.length ≤ 30 := by
        unfold sgn
        rcases hx with h | h <;> rw [h] <;> simp <;> omega
      rw [if_pos (by omega), ix_nat (pr_at hik), ix0 (x := (pr L i).at0) rfl, ← p.2.2.1, ix_nat r, ix1 (x := (pr L i).at1) rfl, ← p.2.2.2, ix_nat (tb_at p.2.1), gd_pos (by omega), e3, gd_pos ⟨by decide, by omega⟩, gd_pos kb.1, key, gd_pos (by omega), gd_pos (by omega), ix_nat (tb_at p.2.1), gd_pos (by omega), show Int.toNat ((sN L i : Nat) : Int) = sN L i from rfl, show Int.toNat ((bN L i : Nat) : Int) = bN L i from rfl]
      refine congrArg (bulk_along_L1 L (mN f L L.length) k _) ?_
      unfold tab
      rw [tbl_set p.1]
      refine tbl_congr fun a b _ _ => ?_
      simp only [fK]
      by_cases hc : a = sN L i ∧ b = bN L i
      · rw [if_pos hc, if_pos hc, hc.1, hc.2]
      · rw [if_neg hc, if_neg hc]
    · show bulk_along_B1 L (mN f L L.length) (bulk_along_L1 L (mN f L L.length) k) _ _ = _
      unfold bulk_along_B1
      rw [if_neg (by omega)]; rfl
theorem fK_row (n : Int) (m : Nat) (i : Nat) : ∀ K, (∀ k, k < K → bN L k < m) → sumN m (fK f L n K i) = sumN m (f i) + sumN K (fun k => if sN L k = i then sgn k * n else 0)
  | 0, _ => by simp [fK, sumN]
  | K + 1, h => by
    have ih := fK_row n m i K (fun k hk => h k (by omega))
    have hb := h K (by omega)
    simp only [sumN]
    by_cases hi : sN L K = i
    · have e : sumN m (fK f L n (K + 1) i) = sumN m (fun q => if q = bN L K then fK f L n K i (bN L K) + sgn K * n else fK f L n K i q) := sumN_congr _ fun q _ => by
        simp only [fK]
        by_cases hq : q = bN L K
        · rw [if_pos ⟨hi.symm, hq⟩, if_pos hq, hq]
        · rw [if_neg (fun hc => hq hc.2), if_neg hq]
      rw [e, sumN_upd, if_pos hb, ih, if_pos hi]; omega
    · have e : sumN m (fK f L n (K + 1) i) = sumN m (fK f L n K i) := sumN_congr _ fun q _ => by
        simp only [fK]
        rw [if_neg (fun hc => hi hc.1.symm)]
      rw [e, ih, if_neg hi]; omega
theorem fK_col (n : Int) (m : Nat) (j : Nat) : ∀ K, (∀ k, k < K → sN L k < m) → sumN m (fun i => fK f L n K i j) = sumN m (fun i => f i j) + sumN K (fun k => if bN L k = j then sgn k * n else 0)
  | 0, _ => by simp [fK, sumN]
  | K + 1, h => by
    have ih := fK_col n m j K (fun k hk => h k (by omega))
    have hb := h K (by omega)
    simp only [sumN]
    by_cases hi : bN L K = j
    · have e : sumN m (fun i => fK f L n (K + 1) i j) = sumN m (fun q => if q = sN L K then fK f L n K (sN L K) j + sgn K * n else fK f L n K q j) := sumN_congr _ fun q _ => by
        simp only [fK]
        by_cases hq : q = sN L K
        · rw [if_pos ⟨hq, hi.symm⟩, if_pos hq, hq]
        · rw [if_neg (fun hc => hq hc.1), if_neg hq]
      rw [e, sumN_upd, if_pos hb, ih, if_pos hi]; omega
    · have e : sumN m (fun i => fK f L n (K + 1) i j) = sumN m (fun i => fK f L n K i j) := sumN_congr _ fun q _ => by
        simp only [fK]
        rw [if_neg (fun hc => hi hc.2.symm)]
      rw [e, ih, if_neg hi]; omega
theorem round_spec (hi : InPairs t L) (h : roundB L = true) : 4 ≤ L.length ∧ L.length % 2 = 0 ∧ (∀ k, k < L.length → k % 2 = 0 → sN L k = sN L (k + 1)) ∧ (∀ k, k + 1 < L.length → k % 2 = 1 → bN L k = bN L (k + 1)) ∧ bN L (L.length - 1) = bN L 0 ∧ ∀ j k, j < k → k < L.length → ¬ (sN L j = sN L k ∧ bN L j = bN L k) := by
  unfold roundB at h
  simp only [Bool.and_eq_true, decide_eq_true_eq] at h
  obtain ⟨⟨h4, he⟩, hr⟩ := h
  have side_ : ∀ k, k < L.length → side (pr L k) k = side (pr L ((k + 1) % L.length)) k := fun k hk => by
    have := hr k hk
    unfold rndAt at this
    simp only [Bool.and_eq_true, decide_eq_true_eq] at this
    exact this.1
  refine ⟨h4, he, fun k hk h0 => ?_, fun k hk h1 => ?_, ?_, fun j k hj hk hc => ?_⟩
  · have := side_ k hk
    rw [Nat.mod_eq_of_lt (by omega)] at this
    unfold side at this
    rw [if_pos h0, if_pos h0] at this
    unfold sN; rw [this]
  · have := side_ k (by omega)
    rw [Nat.mod_eq_of_lt hk] at this
    unfold side at this
    rw [if_neg (by omega), if_neg (by omega)] at this
    unfold bN; rw [this]
  · have := side_ (L.length - 1) (by omega)
    rw [show L.length - 1 + 1 = L.length by omega, Nat.mod_self] at this
    unfold side at this
    rw [if_neg (by omega), if_neg (by omega)] at this
    unfold bN; rw [this]
  · have := hr k hk
    unfold rndAt at this
    simp only [Bool.and_eq_true, Bool.not_eq_true'] at this
    have h2 := this.2
    rw [Bool.eq_false_iff] at h2
    apply h2
    refine (memA_take (by omega) _).2 ⟨j, hj, eqA_iff.2 ?_⟩
    have p1 := in_nat hi (k := j) (by omega)
    have p2 := in_nat hi hk
    have e0 : (pr L k).at0 = (pr L j).at0 := by rw [← p1.2.2.1, ← p2.2.2.1, hc.1]
    have e1 : (pr L k).at1 = (pr L j).at1 := by rw [← p1.2.2.2, ← p2.2.2.2, hc.2]
    cases hx : pr L k; cases hy : pr L j
    rw [hx, hy] at e0 e1
    simp only at e0 e1
    rw [e0, e1]
theorem row_cancel {n : Int} {i : Nat} : ∀ q : Nat, (∀ k, k < 2 * q → k % 2 = 0 → sN L k = sN L (k + 1)) → sumN (2 * q) (fun k => if sN L k = i then sgn k * n else 0) = 0
  | 0, _ => rfl
  | q + 1, h => by
    have ih := row_cancel (n := n) (i := i) q (fun k hk => h k (by omega))
    have e := h (2 * q) (by omega) (by omega)
    rw [show 2 * (q + 1) = 2 * q + 1 + 1 by omega]
    simp only [sumN, ih]
    have s0 : sgn (2 * q) = 1 := by unfold sgn; rw [if_pos (by omega)]
    have s1 : sgn (2 * q + 1) = -1 := by unfold sgn; rw [if_neg (by omega)]
    rw [s0, s1, ← e]
    split <;> omega
theorem col_cancel {n : Int} {j : Nat} : ∀ q : Nat, (∀ k, k + 1 < 2 * q + 1 → k % 2 = 1 → bN L k = bN L (k + 1)) → sumN (2 * q + 1) (fun k => if bN L k = j then sgn k * n else 0) = if bN L 0 = j then n else 0
  | 0, _ => by
    have s0 : sgn 0 = 1 := rfl
    simp only [sumN, s0]
    split <;> omega
  | q + 1, h => by
    have ih := col_cancel (n := n) (j := j) q (fun k hk => h k (by omega))
    have e := h (2 * q + 1) (by omega) (by omega)
    rw [show 2 * (q + 1) + 1 = 2 * q + 1 + 1 + 1 by omega]
    rw [show sumN (2 * q + 1 + 1 + 1) (fun k => if bN L k = j then sgn k * n else 0) = sumN (2 * q + 1) (fun k => if bN L k = j then sgn k * n else 0) + (if bN L (2 * q + 1) = j then sgn (2 * q + 1) * n else 0) + (if bN L (2 * q + 1 + 1) = j then sgn (2 * q + 1 + 1) * n else 0) from rfl, ih]
    have s0 : sgn (2 * q + 1 + 1) = 1 := by unfold sgn; rw [if_pos (by omega)]
    have s1 : sgn (2 * q + 1) = -1 := by unfold sgn; rw [if_neg (by omega)]
    rw [s0, s1, ← e]
    split <;> split <;> omega
theorem fK_hit {n : Int} {i j : Nat} (hd : ∀ a b, a < b → b < L.length → ¬ (sN L a = sN L b ∧ bN L a = bN L b)) : ∀ K, K ≤ L.length → (∃ k, k < K ∧ sN L k = i ∧ bN L k = j ∧ fK f L n K i j = f i j + sgn k * n) ∨ ((∀ k, k < K → ¬ (sN L k = i ∧ bN L k = j)) ∧ fK f L n K i j = f i j)
  | 0, _ => .inr ⟨fun k hk => by omega, rfl⟩
  | K + 1, hK => by
    rcases fK_hit hd K (by omega) with ⟨k, h1, h2, h3, h4⟩ | ⟨h1, h2⟩
    · refine .inl ⟨k, by omega, h2, h3, ?_⟩
      simp only [fK]
      rw [if_neg, h4]
      rintro ⟨e1, e2⟩
      exact hd k K h1 (by omega) ⟨by rw [h2, e1], by rw [h3, e2]⟩
    · simp only [fK]
      by_cases hc : i = sN L K ∧ j = bN L K
      · refine .inl ⟨K, by omega, hc.1.symm, hc.2.symm, ?_⟩
        rw [if_pos hc, h2]
      · refine .inr ⟨fun k hk => ?_, by rw [if_neg hc]; exact h2⟩
        by_cases e : k = K
        · subst e; exact fun hx => hc ⟨hx.1.symm, hx.2.symm⟩
        · exact h1 k (by omega)
/-- The plan along a round is a plan. -/
theorem along_plan (hp : PlanF t f) (hi : InPairs t L) (hr : roundB L = true) : PlanF t (fK f L (mN f L L.length) L.length) := by
  obtain ⟨h4, he, h1, h2, h3, h5⟩ := round_spec hi hr
  have hn : 0 ≤ mN f L L.length := by
    have key : ∀ k, 0 ≤ mN f L k := by
      intro k
      induction k with
      | zero => exact hp.nn _ _
      | succ k ih =>
        simp only [mN]
        have := hp.nn (sN L k) (bN L k)
        split <;> omega
    exact key _
  obtain ⟨q, hq⟩ : ∃ q, L.length = 2 * q := ⟨L.length / 2, by omega⟩
  refine ⟨fun i j => ?_, fun i hi' => ?_, fun j hj' => ?_⟩
  · rcases fK_hit (f := f) (n := mN f L L.length) (i := i) (j := j) h5 L.length (Nat.le_refl _) with ⟨k, k1, k2, k3, k4⟩ | ⟨_, k2⟩
    · rw [k4]
      have hf := hp.nn i j
      unfold sgn
      split
      · omega
      · have := mN_le (f := f) (L := L) L.length k k1 (by omega)
        rw [k2, k3] at this
        omega
    · rw [k2]; exact hp.nn i j
  · rw [fK_row _ _ _ _ (fun k hk => (in_nat hi hk).2.1), hp.row i hi']
    have := row_cancel (L := L) (n := mN f L L.length) (i := i) q (fun k hk h0 => h1 k (by omega) h0)
    rw [← hq] at this
    rw [this]; omega
  · rw [fK_col _ _ _ _ (fun k hk => (in_nat hi hk).1), hp.col j hj']
    obtain ⟨p, hpq⟩ : ∃ p, L.length = 2 * p + 1 + 1 := ⟨q - 1, by omega⟩
    have := col_cancel (L := L) (n := mN f L L.length) (j := j) p (fun k hk h0 => h2 k (by omega) h0)
    rw [hpq]
    rw [hpq] at this
    rw [show sumN (2 * p + 1 + 1) (fun k => if bN L k = j then sgn k * mN f L (2 * p + 1 + 1) else 0) = sumN (2 * p + 1) (fun k => if bN L k = j then sgn k * mN f L (2 * p + 1 + 1) else 0) + (if bN L (2 * p + 1) = j then sgn (2 * p + 1) * mN f L (2 * p + 1 + 1) else 0) from rfl, this]
    have s1 : sgn (2 * p + 1) = -1 := by unfold sgn; rw [if_neg (by omega)]
    have e : bN L (2 * p + 1) = bN L 0 := by rw [← h3, hpq]; rfl
    rw [s1, e]
    split <;> omega
end
end Go.D7

set_option linter.unusedVariables false
set_option linter.unusedSimpArgs false
namespace Go.D7
open Go.Tb
section
variable {t : Trade} {f : Nat → Nat → Int} {L : List Arr2}
theorem ralong_eq (ht : t.supply.length ≤ 50 ∧ t.demand.length ≤ 50) (hf : ∀ i j, i < t.supply.length → j < t.demand.length → 0 ≤ f i j ∧ f i j ≤ 30) (hi : InPairs t L) (hl : L.length ≤ 8) (h4 : 4 ≤ L.length) (he : L.length % 2 = 0) (hr : roundB L = true) :
    ref07_Along_k3 (tab t f) L = some (tab t (fK f L (mN f L L.length) L.length), mN f L L.length, 0) := by
  have cells : ∀ k, k < L.length → 0 ≤ f (sN L k) (bN L k) ∧ f (sN L k) (bN L k) ≤ 30 := fun k hk => by
    have := in_nat hi hk
    exact hf _ _ this.1 this.2.1
  have hm := mN_bnd cells (by omega) L.length (Nat.le_refl _)
  obtain ⟨q, hq⟩ : ∃ q, L.length = 2 * q := ⟨L.length / 2, by omega⟩
  unfold ref07_Along_k3
  have p1 := in_nat hi (k := 1) (by omega)
  have r1 : (tab t f)[sN L 1]? = some (tb t.demand.length (f (sN L 1))) := tbl_at p1.1
  rw [bnd_eq (risRound_eq (by omega)), if_pos hr, ix1 (pr_at (by omega)), ← p1.2.2.1, ix_nat r1, ix1 (pr_at (by omega)), ← p1.2.2.2, ix_nat (tb_at p1.2.1)]
  have e1 : ref07_Along_L2 (tab t f) L FU (f (sN L 1) (bN L 1)) 1 = ref07_Along_k2 (tab t f) L (mN f L L.length) := by
    refine forX q (fun j => mN f L (2 * j)) (fun j => ((2 * j + 1 : Nat) : Int)) (fun k s i => ref07_Along_L2 (tab t f) L k s i) _ (fun k i hik => ?_) (fun k => ?_) q FU 0 (by omega) (by have := FU_pos; omega)
    · have hlt : 2 * i + 1 < L.length := by omega
      have p := in_nat hi hlt
      have r : (tab t f)[sN L (2 * i + 1)]? = some (tb t.demand.length (f (sN L (2 * i + 1)))) := tbl_at p.1
      show ref07_Along_B2 (tab t f) L (ref07_Along_L2 (tab t f) L k) _ _ = _
      unfold ref07_Along_B2
      rw [if_pos (by omega), ix_nat (pr_at hlt), ← p.2.2.1, ix_nat r, ix_nat (pr_at hlt), ← p.2.2.2, ix_nat (tb_at p.2.1), gd_pos (by omega)]
      have e : mN f L (2 * (i + 1)) = min (mN f L (2 * i)) (f (sN L (2 * i + 1)) (bN L (2 * i + 1))) := by
        rw [show 2 * (i + 1) = 2 * i + 1 + 1 by omega]
        simp only [mN]
        rw [if_pos (by omega), if_neg (by omega)]
      rw [e, show ((2 * (i + 1) + 1 : Nat) : Int) = ((2 * i + 1 : Nat) : Int) + 2 by omega]
    · show ref07_Along_B2 (tab t f) L (ref07_Along_L2 (tab t f) L k) _ _ = _
      unfold ref07_Along_B2
      rw [if_neg (by omega), hq]
  rw [e1]
  unfold ref07_Along_k2
  rw [bnd_eq (copy_tab (tab_small ht.1 ht.2 f))]
  refine forX q (fun j => tab t (fK f L (mN f L L.length) (2 * j))) (fun j => ((2 * j : Nat) : Int)) (fun k s i => ref07_Along_L1 L (mN f L L.length) k i s) _ (fun k i hik => ?_) (fun k => ?_) q FU 0 (by omega) (by have := FU_pos; omega)
  · have h0 : 2 * i < L.length := by omega
    have h1 : 2 * i + 1 < L.length := by omega
    have p := in_nat hi h0
    have p' := in_nat hi h1
    have hb := fK_bnd (t := t) (L := L) hm (cells _ h0) (2 * i)
    have hb' := fK_bnd (t := t) (L := L) hm (cells _ h1) (2 * i + 1)
    have r : (tab t (fK f L (mN f L L.length) (2 * i)))[sN L (2 * i)]? = some (tb t.demand.length (fK f L (mN f L L.length) (2 * i) (sN L (2 * i)))) := tbl_at p.1
    have s0 : sgn (2 * i) = 1 := by unfold sgn; rw [if_pos (by omega)]
    have s1 : sgn (2 * i + 1) = -1 := by unfold sgn; rw [if_neg (by omega)]
    have st1 : (tab t (fK f L (mN f L L.length) (2 * i))).set (sN L (2 * i)) ((tb t.demand.length (fK f L (mN f L L.length) (2 * i) (sN L (2 * i)))).set (bN L (2 * i)) (fK f L (mN f L L.length) (2 * i) (sN L (2 * i)) (bN L (2 * i)) + mN f L L.length)) = tab t (fK f L (mN f L L.length) (2 * i + 1)) := by
      unfold tab
      rw [tbl_set p.1]
      refine tbl_congr fun a b _ _ => ?_
      simp only [fK, s0]
      by_cases hc : a = sN L (2 * i) ∧ b = bN L (2 * i)
      · rw [if_pos hc, if_pos hc, hc.1, hc.2]; omega
      · rw [if_neg hc, if_neg hc]
    have r' : (tab t (fK f L (mN f L L.length) (2 * i + 1)))[sN L (2 * i + 1)]? = some (tb t.demand.length (fK f L (mN f L L.length) (2 * i + 1) (sN L (2 * i + 1)))) := tbl_at p'.1
    have st2 : (tab t (fK f L (mN f L L.length) (2 * i + 1))).set (sN L (2 * i + 1)) ((tb t.demand.length (fK f L (mN f L L.length) (2 * i + 1) (sN L (2 * i + 1)))).set (bN L (2 * i + 1)) (fK f L (mN f L L.length) (2 * i + 1) (sN L (2 * i + 1)) (bN L (2 * i + 1)) - mN f L L.length)) = tab t (fK f L (mN f L L.length) (2 * (i + 1))) := by
      unfold tab
      rw [tbl_set p'.1, show 2 * (i + 1) = 2 * i + 1 + 1 by omega]
      refine tbl_congr fun a b _ _ => ?_
      rw [show fK f L (mN f L L.length) (2 * i + 1 + 1) a b = if a = sN L (2 * i + 1) ∧ b = bN L (2 * i + 1) then fK f L (mN f L L.length) (2 * i + 1) a b + sgn (2 * i + 1) * mN f L L.length else fK f L (mN f L L.length) (2 * i + 1) a b from rfl, s1]
      by_cases hc : a = sN L (2 * i + 1) ∧ b = bN L (2 * i + 1)
      · rw [if_pos hc, if_pos hc, hc.1, hc.2]; omega
      · rw [if_neg hc, if_neg hc]
    show ref07_Along_B1 L (mN f L L.length) (ref07_Along_L1 L (mN f L L.length) k) _ _ = _
    unfold ref07_Along_B1
    rw [if_pos (by omega), ix_nat (pr_at h0), ← p.2.2.1, ix_nat r, ix_nat (pr_at h0), ← p.2.2.2, ix_nat (tb_at p.2.1), gd_pos (by omega), ix_nat (tb_at p.2.1), gd_pos (by omega),
      show ((2 * i : Nat) : Int) + 1 = ((2 * i + 1 : Nat) : Int) by omega, ix_nat (pr_at h1), show Int.toNat ((sN L (2 * i) : Nat) : Int) = sN L (2 * i) from rfl, show Int.toNat ((bN L (2 * i) : Nat) : Int) = bN L (2 * i) from rfl, st1, ← p'.2.2.1, ix_nat r', gd_pos (by omega), ix_nat (pr_at h1), ← p'.2.2.2, ix_nat (tb_at p'.2.1), gd_pos (by omega), ix_nat (tb_at p'.2.1), gd_pos (by omega),
      show Int.toNat ((sN L (2 * i + 1) : Nat) : Int) = sN L (2 * i + 1) from rfl, show Int.toNat ((bN L (2 * i + 1) : Nat) : Int) = bN L (2 * i + 1) from rfl, st2, show ((2 * (i + 1) : Nat) : Int) = ((2 * i : Nat) : Int) + 2 by omega]
  · show ref07_Along_B1 L (mN f L L.length) (ref07_Along_L1 L (mN f L L.length) k) _ _ = _
    unfold ref07_Along_B1
    rw [if_neg (by omega), hq]; rfl
def pAt (t : Trade) (L : List Arr2) (k : Nat) : Bool := within (pr L k).at0 0 ((t.supply.length : Int) - 1) && within (pr L k).at1 0 ((t.demand.length : Int) - 1)
theorem inPairs_iff : (∀ k, k < L.length → pAt t L k = true) ↔ InPairs t L := by
  unfold InPairs pAt
  constructor
  · intro h k hk
    have := h k hk
    simp only [Bool.and_eq_true, within_iff] at this
    omega
  · intro h k hk
    have := h k hk
    simp only [Bool.and_eq_true, within_iff]
    omega
instance : Decidable (InPairs t L) := decidable_of_iff _ (inPairs_iff (t := t) (L := L))
def alongR (t : Trade) (f : Nat → Nat → Int) (L : List Arr2) : List (List Int) × Int × Int :=
  if 8 < L.length then ([], 0, 3) else if InPairs t L then (if roundB L = true then (tab t (fK f L (mN f L L.length) L.length), mN f L L.length, 0) else ([], 0, 1)) else ([], 0, 4)
theorem Along_eq (ht : Tsmall t) (hv : okT t = true) (hp : PlanF t f) (hl : L.length ≤ 1000) : bulk_Along t (tab t f) L = some (alongR t f L) ∧ ref07_Along t (tab t f) L = some (alongR t f L) := by
  have hs := ht.1
  have hd := ht.2.1
  have hsm := tab_small hs hd f
  have hc := plan_check hv hp
  have hf : ∀ i j, i < t.supply.length → j < t.demand.length → 0 ≤ f i j ∧ f i j ≤ 30 := fun i j hi hj => ⟨hp.nn i j, plan_le hv hp hi hj⟩
  unfold alongR
  by_cases h8 : 8 < L.length
  · constructor
    · unfold bulk_Along
      rw [bnd_eq (CheckPlan_eq ht hsm), hc, if_pos rfl, if_pos (by omega), if_pos h8]
    · unfold ref07_Along
      rw [bnd_eq (rCheckPlan_eq ht hsm), hc, if_pos rfl, if_pos (by omega), if_pos h8]
  · have A : bulk_Along t (tab t f) L = if InPairs t L then bulk_Along_k1 (tab t f) L else some ([], 0, 4) := by
      unfold bulk_Along
      rw [bnd_eq (CheckPlan_eq ht hsm), hc, if_pos rfl, if_neg (by omega)]
      refine Eq.trans (scan_inv0 L.length (pAt t L) (fun _ => ()) (fun k _ i => bulk_Along_L1 t (tab t f) L k i) (bulk_Along_k1 (tab t f) L) (some ([], 0, 4)) (s0 := ()) rfl (fun k i hi _ => ?_) (fun k _ => ?_) (by omega)) ?_
      · show bulk_Along_B1 t (tab t f) L (bulk_Along_L1 t (tab t f) L k) _ = _
        unfold bulk_Along_B1 bulk_Along_k2 pAt
        rw [if_pos (by omega), ix_nat (pr_at hi), ix0 (x := (pr L i).at0) rfl, gd_pos (by omega), bnd_eq (bwithin_eq _ _ _)]
        cases within (pr L i).at0 0 ((t.supply.length : Int) - 1)
        · rw [if_neg (by simp), if_pos rfl, if_neg (by simp)]
        · rw [if_pos rfl, ix1 (x := (pr L i).at1) rfl, gd_pos (by omega), bnd_eq (bwithin_eq _ _ _)]
          cases within (pr L i).at1 0 ((t.demand.length : Int) - 1)
          · rw [if_pos (by rfl), if_neg (by simp)]
          · rw [if_neg (by simp), gd_pos (by omega), if_pos (by rfl)]; rfl
      · show bulk_Along_B1 t (tab t f) L (bulk_Along_L1 t (tab t f) L k) _ = _
        unfold bulk_Along_B1
        rw [if_neg (by omega)]
      · by_cases h : InPairs t L
        · rw [if_pos (inPairs_iff.2 h), if_pos h]
        · rw [if_neg (fun hh => h (inPairs_iff.1 hh)), if_neg h]
    have B : ref07_Along t (tab t f) L = if InPairs t L then ref07_Along_k3 (tab t f) L else some ([], 0, 4) := by
      unfold ref07_Along
      rw [bnd_eq (rCheckPlan_eq ht hsm), hc, if_pos rfl, if_neg (by omega)]
      refine Eq.trans (scan_inv0 L.length (pAt t L) (fun _ => ()) (fun k _ i => ref07_Along_L3 t (tab t f) L k i) (ref07_Along_k3 (tab t f) L) (some ([], 0, 4)) (s0 := ()) rfl (fun k i hi _ => ?_) (fun k _ => ?_) (by omega)) ?_
      · show ref07_Along_B3 t (tab t f) L (ref07_Along_L3 t (tab t f) L k) _ = _
        unfold ref07_Along_B3 ref07_Along_k4 pAt
        rw [if_pos (by omega), ix_nat (pr_at hi), gd_pos (by omega), bnd_eq (rwithin_eq _ _ _)]
        cases within (pr L i).at0 0 ((t.supply.length : Int) - 1)
        · rw [if_neg (by simp), if_pos rfl, if_neg (by simp)]
        · rw [if_pos rfl, ix_nat (pr_at hi), gd_pos (by omega), bnd_eq (rwithin_eq _ _ _)]
          cases within (pr L i).at1 0 ((t.demand.length : Int) - 1)
          · rw [if_pos (by rfl), if_neg (by simp)]
          · rw [if_neg (by simp), gd_pos (by omega), if_pos (by rfl)]; rfl
      · show ref07_Along_B3 t (tab t f) L (ref07_Along_L3 t (tab t f) L k) _ = _
        unfold ref07_Along_B3
        rw [if_neg (by omega)]
      · by_cases h : InPairs t L
        · rw [if_pos (inPairs_iff.2 h), if_pos h]
        · rw [if_neg (fun hh => h (inPairs_iff.1 hh)), if_neg h]
    rw [A, B, if_neg h8]
    by_cases h : InPairs t L
    · rw [if_pos h, if_pos h, if_pos h]
      by_cases hr : roundB L = true
      · have hr' := round_spec h hr
        constructor
        · unfold bulk_Along_k1
          rw [bnd_eq (isRound_eq hl), if_pos hr, if_pos hr, bnd_eq (along_eq ⟨hs, hd⟩ hf h (by omega) hr'.1)]
        · rw [if_pos hr, ralong_eq ⟨hs, hd⟩ hf h (by omega) hr'.1 hr'.2.1 hr]
      · constructor
        · unfold bulk_Along_k1
          rw [bnd_eq (isRound_eq hl), if_neg hr, if_neg hr]
        · unfold ref07_Along_k3
          rw [bnd_eq (risRound_eq hl), if_neg hr, if_neg hr]
    · rw [if_neg h, if_neg h, if_neg h]; exact ⟨rfl, rfl⟩
end
end Go.D7

set_option linter.unusedVariables false
set_option linter.unusedSimpArgs false
namespace Go.D7
/-- An edge, with its cost. -/
structure Ed where
  u : Nat
  v : Nat
  c : Int
/-- What is known: the lowest costs, by which edge, and the node that was changed last. -/
structure BS where
  d : Nat → Int
  by_ : Nat → Option Ed
  last : Int
def relax (far : Int) (s : BS) (e : Ed) : BS :=
  if s.d e.u < far ∧ s.d e.u + e.c < s.d e.v then ⟨fun x => if x = e.v then s.d e.u + e.c else s.d x, fun x => if x = e.v then some e else s.by_ x, (e.v : Int)⟩ else s
def fresh (s : BS) : BS := ⟨s.d, s.by_, -1⟩
def rnd (far : Int) (L : List Ed) (s : BS) : BS := L.foldl (relax far) (fresh s)
def rnds (far : Int) (L : List Ed) (s : BS) : Nat → BS
  | 0 => s
  | k + 1 => rnd far L (rnds far L s k)
structure Inv (E : Ed → Prop) (far : Int) (d0 : Nat → Int) (T : Nat → Nat) (τ : Nat) (s : BS) : Prop where
  mem : ∀ v e, s.by_ v = some e → E e ∧ e.v = v ∧ s.d e.u < far
  nil : ∀ v, s.by_ v = none → s.d v = d0 v
  low : ∀ v e, s.by_ v = some e → s.d e.u + e.c ≤ s.d v
  strict : ∀ v e, s.by_ v = some e → T v ≤ T e.u → s.d e.u + e.c < s.d v
  tm : ∀ v, T v ≤ τ
section
variable {E : Ed → Prop} {far : Int} {d0 : Nat → Int} {s : BS}
theorem relax_le (far : Int) (s : BS) (e : Ed) (v : Nat) : (relax far s e).d v ≤ s.d v := by
  unfold relax
  split
  · rename_i h
    show (if v = e.v then s.d e.u + e.c else s.d v) ≤ s.d v
    split
    · rename_i hv; subst hv; omega
    · exact Int.le_refl _
  · exact Int.le_refl _
theorem relax_inv {T : Nat → Nat} {τ : Nat} (h : Inv E far d0 T τ s) {e : Ed} (he : E e) (hn : e.u ≠ e.v) : ∃ T', Inv E far d0 T' (τ + 1) (relax far s e) := by
  by_cases hf : s.d e.u < far ∧ s.d e.u + e.c < s.d e.v
  · refine ⟨fun x => if x = e.v then τ + 1 else T x, ?_⟩
    unfold relax
    rw [if_pos hf]
    refine ⟨fun v x hx => ?_, fun v hx => ?_, fun v x hx => ?_, fun v x hx ht => ?_, fun v => ?_⟩
    · show E x ∧ x.v = v ∧ (if x.u = e.v then s.d e.u + e.c else s.d x.u) < far
      have hx' : (if v = e.v then some e else s.by_ v) = some x := hx
      split at hx'
      · rename_i hv
        obtain rfl : e = x := Option.some.inj hx'
        rw [if_neg hn]
        exact ⟨he, hv.symm, hf.1⟩
      · obtain ⟨a, b, c⟩ := h.mem v x hx'
        refine ⟨a, b, ?_⟩
        split
        · rename_i hu; rw [hu] at c; omega
        · exact c
    · have hx' : (if v = e.v then some e else s.by_ v) = none := hx
      show (if v = e.v then s.d e.u + e.c else s.d v) = d0 v
      split at hx'
      · cases hx'
      · rename_i hv; rw [if_neg hv]; exact h.nil v hx'
    · have hx' : (if v = e.v then some e else s.by_ v) = some x := hx
      show (if x.u = e.v then s.d e.u + e.c else s.d x.u) + x.c ≤ (if v = e.v then s.d e.u + e.c else s.d v)
      split at hx'
      · rename_i hv
        obtain rfl : e = x := Option.some.inj hx'
        rw [if_neg hn, if_pos hv]; omega
      · rename_i hv
        have l := h.low v x hx'
        rw [if_neg hv]
        split
        · rename_i hu; rw [hu] at l; omega
        · exact l
    · have hx' : (if v = e.v then some e else s.by_ v) = some x := hx
      have ht' : (if v = e.v then τ + 1 else T v) ≤ (if x.u = e.v then τ + 1 else T x.u) := ht
      show (if x.u = e.v then s.d e.u + e.c else s.d x.u) + x.c < (if v = e.v then s.d e.u + e.c else s.d v)
      split at hx'
      · rename_i hv
        obtain rfl : e = x := Option.some.inj hx'
        rw [if_pos hv, if_neg hn] at ht'
        have := h.tm e.u
        omega
      · rename_i hv
        have l := h.low v x hx'
        rw [if_neg hv]
        rw [if_neg hv] at ht'
        split
        · rename_i hu; rw [hu] at l; omega
        · rename_i hu
          rw [if_neg hu] at ht'
          exact h.strict v x hx' ht'
    · show (if v = e.v then τ + 1 else T v) ≤ τ + 1
      have := h.tm v
      split <;> omega
  · refine ⟨T, ?_⟩
    unfold relax
    rw [if_neg hf]
    exact ⟨h.mem, h.nil, h.low, h.strict, fun v => by have := h.tm v; omega⟩
/-- The invariant, whatever the times. -/
def InvE (E : Ed → Prop) (far : Int) (d0 : Nat → Int) (s : BS) : Prop := ∃ T τ, Inv E far d0 T τ s
theorem fold_inv : ∀ (L : List Ed) (s : BS), InvE E far d0 s → (∀ e ∈ L, E e ∧ e.u ≠ e.v) → InvE E far d0 (L.foldl (relax far) s)
  | [], _, h, _ => h
  | e :: r, s, ⟨T, τ, h⟩, hL => by
    obtain ⟨T', h'⟩ := relax_inv h (hL e (List.mem_cons_self ..)).1 (hL e (List.mem_cons_self ..)).2
    exact fold_inv r _ ⟨T', _, h'⟩ (fun x hx => hL x (List.mem_cons_of_mem _ hx))
theorem fresh_inv (h : InvE E far d0 s) : InvE E far d0 (fresh s) := by
  obtain ⟨T, τ, h⟩ := h
  exact ⟨T, τ, ⟨h.mem, h.nil, h.low, h.strict, h.tm⟩⟩
theorem rnds_inv {L : List Ed} (h : InvE E far d0 s) (hL : ∀ e ∈ L, E e ∧ e.u ≠ e.v) : ∀ k, InvE E far d0 (rnds far L s k)
  | 0 => h
  | k + 1 => fold_inv L _ (fresh_inv (rnds_inv h hL k)) hL
theorem start_inv : InvE E far d0 ⟨d0, fun _ => none, -1⟩ :=
  ⟨fun _ => 0, 0, ⟨fun v e h => (by cases h), fun _ _ => rfl, fun v e h => (by cases h), fun v e h => (by cases h), fun _ => Nat.le_refl _⟩⟩
def pre (s : BS) (v : Nat) : Nat := match s.by_ v with | some e => e.u | none => v
def ce (s : BS) (v : Nat) : Int := match s.by_ v with | some e => e.c | none => 0
def itp (s : BS) : Nat → Nat → Nat
  | 0, v => v
  | k + 1, v => pre s (itp s k v)
def itc (s : BS) : Nat → Nat → Int
  | 0, _ => 0
  | k + 1, v => itc s k v + ce s (itp s k v)
theorem itp_add (s : BS) (a : Nat) (v : Nat) : ∀ b, itp s (a + b) v = itp s b (itp s a v)
  | 0 => rfl
  | b + 1 => by
    show pre s (itp s (a + b) v) = pre s (itp s b (itp s a v))
    rw [itp_add s a v b]
theorem pre_some {v : Nat} {e : Ed} (h : s.by_ v = some e) : pre s v = e.u ∧ ce s v = e.c := by unfold pre ce; rw [h]; exact ⟨rfl, rfl⟩
theorem itp_low {T : Nat → Nat} {τ : Nat} (h : Inv E far d0 T τ s) (v : Nat) : ∀ k, (∀ i, i < k → s.by_ (itp s i v) ≠ none) → s.d (itp s k v) + itc s k v ≤ s.d v ∧ (s.d (itp s k v) + itc s k v < s.d v ∨ T (itp s k v) + k ≤ T v)
  | 0, _ => ⟨by simp [itp, itc], .inr (by simp [itp])⟩
  | k + 1, ha => by
    obtain ⟨i1, i2⟩ := itp_low h v k (fun i hi => ha i (by omega))
    have hk := ha k (by omega)
    cases hx : s.by_ (itp s k v) with
    | none => exact absurd hx hk
    | some e =>
      obtain ⟨p1, p2⟩ := pre_some hx
      have l := h.low _ _ hx
      show s.d (pre s (itp s k v)) + (itc s k v + ce s (itp s k v)) ≤ s.d v ∧ (s.d (pre s (itp s k v)) + (itc s k v + ce s (itp s k v)) < s.d v ∨ T (pre s (itp s k v)) + (k + 1) ≤ T v)
      rw [p1, p2]
      refine ⟨by omega, ?_⟩
      by_cases ht : T (itp s k v) ≤ T e.u
      · have := h.strict _ _ hx ht
        left; omega
      · rcases i2 with i2 | i2
        · left; omega
        · right; omega
/-- A round back costs less than nothing. -/
theorem cycle_neg (h : InvE E far d0 s) {v k : Nat} (hk : 0 < k) (ha : ∀ i, i < k → s.by_ (itp s i v) ≠ none) (hc : itp s k v = v) : itc s k v < 0 := by
  obtain ⟨T, τ, h⟩ := h
  obtain ⟨l1, l2⟩ := itp_low h v k ha
  rw [hc] at l1 l2
  rcases l2 with l2 | l2 <;> omega
theorem itp_lt {N : Nat} (hN : ∀ v e, s.by_ v = some e → e.u < N) {v : Nat} (hv : v < N) : ∀ k, itp s k v < N
  | 0 => hv
  | k + 1 => by
    show pre s (itp s k v) < N
    unfold pre
    split
    · rename_i e he; exact hN _ _ he
    · exact itp_lt hN hv k
theorem pigeon : ∀ (N : Nat) (f : Nat → Nat), (∀ k, k ≤ N → f k < N) → ∃ i j, i < j ∧ j ≤ N ∧ f i = f j
  | 0, f, h => by have := h 0 (Nat.le_refl _); omega
  | N + 1, f, h => by
    by_cases hx : ∃ k, k ≤ N ∧ f k = f (N + 1)
    · obtain ⟨k, hk, e⟩ := hx
      exact ⟨k, N + 1, by omega, by omega, e⟩
    · have hx' : ∀ k, k ≤ N → f k ≠ f (N + 1) := fun k hk e => hx ⟨k, hk, e⟩
      obtain ⟨i, j, h1, h2, h3⟩ := pigeon N (fun k => if f (N + 1) < f k then f k - 1 else f k) (fun k hk => by
        have a := h k (by omega)
        have b := h (N + 1) (by omega)
        have c := hx' k hk
        show (if f (N + 1) < f k then f k - 1 else f k) < N
        split <;> omega)
      refine ⟨i, j, h1, by omega, ?_⟩
      have a := hx' i (by omega)
      have b := hx' j (by omega)
      have h3' : (if f (N + 1) < f i then f i - 1 else f i) = (if f (N + 1) < f j then f j - 1 else f j) := h3
      split at h3' <;> split at h3' <;> omega
/-- A way back that does not end goes round. -/
theorem alive_cycle {N : Nat} (hN : ∀ v e, s.by_ v = some e → e.u < N) {v : Nat} (hv : v < N) : ∃ i p, 0 < p ∧ i + p ≤ N ∧ itp s p (itp s i v) = itp s i v := by
  obtain ⟨i, j, h1, h2, h3⟩ := pigeon N (fun k => itp s k v) (fun k _ => itp_lt hN hv k)
  refine ⟨i, j - i, by omega, by omega, ?_⟩
  rw [← itp_add, show i + (j - i) = j by omega]; exact h3.symm
theorem alive_root {N : Nat} (hN : ∀ v e, s.by_ v = some e → e.u < N) (h : InvE E far d0 s) {P : Nat → Int} (hP : ∀ v e, s.by_ v = some e → P v ≤ P e.u + e.c) {v : Nat} (hv : v < N) : ∃ k, k < N ∧ s.by_ (itp s k v) = none ∧ ∀ i, i < k → s.by_ (itp s i v) ≠ none := by
  have hd : ∀ i, Decidable (s.by_ (itp s i v) = none) := fun i => by cases s.by_ (itp s i v) with | none => exact isTrue rfl | some e => exact isFalse (by simp)
  by_cases hx : ∃ k, k < N ∧ s.by_ (itp s k v) = none
  · -- the least such k
    have : ∀ n, (∃ k, k < n ∧ k < N ∧ s.by_ (itp s k v) = none) → ∃ k, k < N ∧ s.by_ (itp s k v) = none ∧ ∀ i, i < k → s.by_ (itp s i v) ≠ none := by
      intro n
      induction n with
      | zero => rintro ⟨k, hk, _⟩; omega
      | succ n ih =>
        rintro ⟨k, hk, hkN, hkn⟩
        by_cases hy : ∃ q, q < n ∧ q < N ∧ s.by_ (itp s q v) = none
        · exact ih hy
        · exact ⟨k, hkN, hkn, fun i hi hc => hy ⟨i, by omega, by omega, hc⟩⟩
    obtain ⟨k, hk, hkn⟩ := hx
    exact this N ⟨k, hk, hk, hkn⟩
  · have ha : ∀ k, k < N → s.by_ (itp s k v) ≠ none := fun k hk hc => hx ⟨k, hk, hc⟩
    obtain ⟨i, p, h1, h2, h3⟩ := alive_cycle hN hv
    have hal : ∀ q, q < p → s.by_ (itp s q (itp s i v)) ≠ none := fun q hq => by rw [← itp_add]; exact ha _ (by omega)
    have neg := cycle_neg h h1 hal h3
    have key : ∀ q, q ≤ p → P (itp s i v) ≤ P (itp s q (itp s i v)) + itc s q (itp s i v) := by
      intro q
      induction q with
      | zero => intro _; simp [itp, itc]
      | succ q ih =>
        intro hq
        have ih := ih (by omega)
        cases hb : s.by_ (itp s q (itp s i v)) with
        | none => exact absurd hb (hal q (by omega))
        | some e =>
          have := hP _ _ hb
          obtain ⟨p1, p2⟩ := pre_some hb
          show _ ≤ P (pre s (itp s q (itp s i v))) + (itc s q (itp s i v) + ce s (itp s q (itp s i v)))
          rw [p1, p2]; omega
    have := key p (Nat.le_refl _)
    rw [h3] at this
    omega
theorem fold_le (far : Int) : ∀ (L : List Ed) (s : BS) (v : Nat), (L.foldl (relax far) s).d v ≤ s.d v
  | [], _, _ => Int.le_refl _
  | e :: r, s, v => Int.le_trans (fold_le far r _ v) (relax_le far s e v)
theorem fold_edge (far : Int) : ∀ (L : List Ed) (s : BS) (e : Ed), e ∈ L → s.d e.u < far → (L.foldl (relax far) s).d e.v ≤ s.d e.u + e.c
  | x :: r, s, e, he, hf => by
    rcases List.mem_cons.1 he with rfl | he
    · refine Int.le_trans (fold_le far r _ _) ?_
      unfold relax
      split
      · show (if e.v = e.v then s.d e.u + e.c else s.d e.v) ≤ _
        rw [if_pos rfl]; omega
      · rename_i hc
        have : ¬ (s.d e.u + e.c < s.d e.v) := fun h => hc ⟨hf, h⟩
        omega
    · have a := relax_le far s x e.u
      have := fold_edge far r (relax far s x) e he (by omega)
      show (r.foldl (relax far) (relax far s x)).d e.v ≤ _
      omega
theorem rnds_mono (far : Int) (L : List Ed) (s : BS) (v : Nat) (a : Nat) : ∀ b, (rnds far L s (a + b)).d v ≤ (rnds far L s a).d v
  | 0 => Int.le_refl _
  | b + 1 => Int.le_trans (fold_le far L (fresh (rnds far L s (a + b))) v) (rnds_mono far L s v a b)
/-- Walks of k edges from where the costs are known at first. -/
inductive W (L : List Ed) (far : Int) (d0 : Nat → Int) : Nat → Nat → Int → Prop
  | nil (v : Nat) : d0 v < far → W L far d0 0 v (d0 v)
  | step {k : Nat} {e : Ed} {C : Int} : W L far d0 k e.u C → e ∈ L → W L far d0 (k + 1) e.v (C + e.c)
theorem W_le {L : List Ed} {far : Int} {s0 : BS} {R : Nat} (hfar : ∀ k v C, k ≤ R → W L far s0.d k v C → C < far) : ∀ {k v : Nat} {C : Int}, W L far s0.d k v C → k ≤ R → (rnds far L s0 k).d v ≤ C := by
  intro k v C h
  induction h with
  | nil v hv => intro _; exact Int.le_refl _
  | @step k e C h he ih =>
    intro hk
    have i := ih (by omega)
    have hC := hfar _ _ _ (by omega) h
    have := fold_edge far L (fresh (rnds far L s0 k)) e he (show (rnds far L s0 k).d e.u < far by omega)
    have h2 : (fresh (rnds far L s0 k)).d e.u = (rnds far L s0 k).d e.u := rfl
    show (rnd far L (rnds far L s0 k)).d e.v ≤ C + e.c
    unfold rnd
    omega
theorem chain_W {L : List Ed} {T : Nat → Nat} {τ : Nat} (h : Inv (fun e => e ∈ L) far d0 T τ s) (v : Nat) : ∀ (k : Nat), (∀ i, i < k → s.by_ (itp s i v) ≠ none) → ∀ (q : Nat) (C : Int), W L far d0 q (itp s k v) C → W L far d0 (q + k) v (C + itc s k v)
  | 0, _, q, C, w => by simpa [itp, itc] using w
  | k + 1, ha, q, C, w => by
    cases hx : s.by_ (itp s k v) with
    | none => exact absurd hx (ha k (by omega))
    | some e =>
      obtain ⟨p1, p2⟩ := pre_some hx
      obtain ⟨m1, m2, m3⟩ := h.mem _ _ hx
      have w' : W L far d0 q e.u C := by
        have : itp s (k + 1) v = e.u := p1
        rwa [this] at w
      have w2 := W.step w' m1
      rw [m2] at w2
      have := chain_W h v k (fun i hi => ha i (by omega)) (q + 1) _ w2
      rw [show q + (k + 1) = q + 1 + k by omega, show C + itc s (k + 1) v = C + e.c + itc s k v by
        show C + (itc s k v + ce s (itp s k v)) = _
        rw [p2]; omega]
      exact this
theorem chain_far {L : List Ed} {T : Nat → Nat} {τ : Nat} (h : Inv (fun e => e ∈ L) far d0 T τ s) {v : Nat} (hv : s.d v < far) : ∀ k, s.d (itp s k v) < far
  | 0 => hv
  | k + 1 => by
    show s.d (pre s (itp s k v)) < far
    cases hx : s.by_ (itp s k v) with
    | none => unfold pre; rw [hx]; exact chain_far h hv k
    | some e => rw [(pre_some hx).1]; exact (h.mem _ _ hx).2.2
/-- A node that is still changed in a late round has a long way back. -/
theorem late_alive {L : List Ed} {far : Int} {s0 : BS} {R : Nat} (hL : ∀ e ∈ L, e.u ≠ e.v) (h0 : s0.by_ = fun _ => none) (hfar : ∀ k v C, k ≤ R → W L far s0.d k v C → C < far) {v : Nat}
    (hv : (rnds far L s0 (R + 1)).d v < (rnds far L s0 R).d v) (hff : (rnds far L s0 (R + 1)).d v < far) : ∀ k, k ≤ R → (rnds far L s0 (R + 1)).by_ (itp (rnds far L s0 (R + 1)) k v) ≠ none := by
  have hi : InvE (fun e => e ∈ L) far s0.d (rnds far L s0 (R + 1)) := by
    refine rnds_inv ?_ (fun e he => ⟨he, hL e he⟩) (R + 1)
    refine ⟨fun _ => 0, 0, ⟨fun v e h => ?_, fun _ _ => rfl, fun v e h => ?_, fun v e h => ?_, fun _ => Nat.le_refl _⟩⟩ <;> (rw [h0] at h; cases h)
  obtain ⟨T, τ, hi⟩ := hi
  intro k
  induction k using Nat.strongRecOn with
  | _ k ih =>
    intro hk hc
    have al : ∀ i, i < k → (rnds far L s0 (R + 1)).by_ (itp (rnds far L s0 (R + 1)) i v) ≠ none := fun i hi => ih i hi (by omega)
    have e0 := hi.nil _ hc
    have f0 := chain_far hi hff k
    rw [e0] at f0
    have w := chain_W hi v k al 0 _ (W.nil _ f0)
    rw [Nat.zero_add] at w
    have l := (itp_low hi v k al).1
    rw [e0] at l
    have a := W_le hfar w hk
    have b := rnds_mono far L s0 v k (R - k)
    rw [show k + (R - k) = R by omega] at b
    omega
/-- What the number that was changed last tells. -/
theorem fold_last (far : Int) (N : Nat) (d1 : Nat → Int) : ∀ (L : List Ed) (s : BS), (∀ e ∈ L, e.v < N) → (∀ v, s.d v ≤ d1 v) → ((s.last = -1 ∧ s.d = d1) ∨ ∃ v, v < N ∧ s.last = (v : Int) ∧ s.d v < d1 v) →
    ((L.foldl (relax far) s).last = -1 ∧ (L.foldl (relax far) s).d = d1) ∨ ∃ v, v < N ∧ (L.foldl (relax far) s).last = (v : Int) ∧ (L.foldl (relax far) s).d v < d1 v
  | [], s, _, _, h => h
  | e :: r, s, hL, hd, h => by
    refine fold_last far N d1 r (relax far s e) (fun x hx => hL x (List.mem_cons_of_mem _ hx)) (fun v => Int.le_trans (relax_le far s e v) (hd v)) ?_
    unfold relax
    split
    · rename_i hf
      refine .inr ⟨e.v, hL e (List.mem_cons_self ..), rfl, ?_⟩
      show (if e.v = e.v then s.d e.u + e.c else s.d e.v) < _
      rw [if_pos rfl]
      have := hd e.v
      omega
    · exact h
theorem rnd_last {L : List Ed} {N : Nat} (hL : ∀ e ∈ L, e.v < N) (s : BS) : ((rnd far L s).last = -1 ∧ (rnd far L s).d = s.d) ∨ ∃ v, v < N ∧ (rnd far L s).last = (v : Int) ∧ (rnd far L s).d v < s.d v :=
  fold_last far N s.d L (fresh s) hL (fun _ => Int.le_refl _) (.inl ⟨rfl, rfl⟩)
theorem rnd_stable {L : List Ed} {s : BS} (h : (rnd far L s).d = s.d) : ∀ e ∈ L, s.d e.u < far → s.d e.v ≤ s.d e.u + e.c := fun e he hf => by
  have a := fold_edge far L (fresh s) e he hf
  have b : (rnd far L s).d e.v = s.d e.v := by rw [h]
  have c : (fresh s).d e.u = s.d e.u := rfl
  unfold rnd at b
  omega
/-- Bounds of what is known. -/
theorem fold_bnd (far M : Int) (hM : 0 ≤ M) : ∀ (L : List Ed) (s : BS) (lo : Int), (∀ e ∈ L, -M ≤ e.c) → (∀ v, lo ≤ s.d v) → ∀ v, lo - M * (L.length : Int) ≤ (L.foldl (relax far) s).d v
  | [], s, lo, _, h, v => by simpa using h v
  | e :: r, s, lo, hL, h, v => by
    have he := hL e (List.mem_cons_self ..)
    have := fold_bnd far M hM r (relax far s e) (lo - M) (fun x hx => hL x (List.mem_cons_of_mem _ hx)) (fun w => by
      have a := h w
      have b := h e.u
      unfold relax
      split
      · show lo - M ≤ (if w = e.v then s.d e.u + e.c else s.d w)
        split <;> omega
      · show lo - M ≤ s.d w
        omega) v
    rw [List.length_cons, show ((r.length + 1 : Nat) : Int) = (r.length : Int) + 1 by omega, Int.mul_add]
    show lo - (M * (r.length : Int) + M * 1) ≤ (r.foldl (relax far) (relax far s e)).d v
    omega
theorem rnds_bnd {far M : Int} (hM : 0 ≤ M) {L : List Ed} {s : BS} {lo : Int} (hL : ∀ e ∈ L, -M ≤ e.c) (h : ∀ v, lo ≤ s.d v) : ∀ (k : Nat) (v : Nat), lo - M * (L.length : Int) * (k : Int) ≤ (rnds far L s k).d v
  | 0, v => by simpa [rnds] using h v
  | k + 1, v => by
    have := fold_bnd far M hM L (fresh (rnds far L s k)) _ hL (fun w => rnds_bnd hM hL h k w) v
    rw [show ((k + 1 : Nat) : Int) = (k : Int) + 1 by omega, Int.mul_add]
    show _ ≤ (L.foldl (relax far) (fresh (rnds far L s k))).d v
    omega
theorem W_bnd {L : List Ed} {M : Int} (hL : ∀ e ∈ L, e.c ≤ M) (h0 : ∀ v, d0 v < far → d0 v ≤ 0) : ∀ {k v : Nat} {C : Int}, W L far d0 k v C → C ≤ M * (k : Int) := by
  intro k v C h
  induction h with
  | nil v hv => have := h0 v hv; simpa using this
  | @step k e C h he ih =>
    have := hL e he
    rw [show ((k + 1 : Nat) : Int) = (k : Int) + 1 by omega, Int.mul_add]
    omega
end
end Go.D7

set_option linter.unusedVariables false
set_option linter.unusedSimpArgs false
namespace Go.D7
open Go.Tb
/-- The cost of a way. -/
def cc (t : Trade) (i j : Nat) : Int := cell t.cost i j
def costF (t : Trade) (f : Nat → Nat → Int) : Int := sumN t.supply.length fun i => sumN t.demand.length fun j => f i j * cc t i j
def worthF (t : Trade) (p q : Nat → Int) : Int := sumN t.supply.length (fun i => p i * gi t.supply i) + sumN t.demand.length (fun j => q j * gi t.demand j)
def Fair (t : Trade) (p q : Nat → Int) : Prop := ∀ i j, i < t.supply.length → j < t.demand.length → p i + q j ≤ cc t i j
structure Cert (t : Trade) (f : Nat → Nat → Int) (p q : Nat → Int) : Prop where
  le : Fair t p q
  eq : ∀ i j, i < t.supply.length → j < t.demand.length → 0 < f i j → p i + q j = cc t i j
structure BestF (t : Trade) (f : Nat → Nat → Int) : Prop where
  plan : PlanF t f
  cert : ∃ p q, Cert t f p q
section
variable {t : Trade} {f g : Nat → Nat → Int} {p q : Nat → Int}
theorem costN_tab (f : Nat → Nat → Int) : costN t (tab t f) (tab t f).length = costF t f := by
  have e : (tab t f).length = t.supply.length := tbl_len _ _ _
  rw [e]
  unfold costN costF rowCost
  refine sumN_congr _ fun i hi => sumN_congr _ fun j hj => ?_
  have : cell (tab t f) i j = f i j := tbl_cell hi hj
  rw [this]; rfl
theorem split_worth (hp : PlanF t f) : sumN t.supply.length (fun i => sumN t.demand.length fun j => f i j * (p i + q j)) = worthF t p q := by
  unfold worthF
  have e1 : sumN t.supply.length (fun i => sumN t.demand.length fun j => f i j * (p i + q j)) = sumN t.supply.length (fun i => sumN t.demand.length (fun j => p i * f i j) + sumN t.demand.length (fun j => q j * f i j)) := by
    refine sumN_congr _ fun i _ => ?_
    rw [← sumN_add]
    exact sumN_congr _ fun j _ => by rw [Int.mul_add, Int.mul_comm, Int.mul_comm (f i j)]
  rw [e1, sumN_add]
  congr 1
  · refine sumN_congr _ fun i hi => ?_
    rw [sumN_mul, hp.row i hi]
  · rw [sumN_swap]
    refine sumN_congr _ fun j hj => ?_
    rw [sumN_mul, hp.col j hj]
theorem weak (hp : PlanF t f) (h : Fair t p q) : worthF t p q ≤ costF t f := by
  rw [← split_worth hp]
  unfold costF
  exact sumN_le _ fun i hi => sumN_le _ fun j hj => Int.mul_le_mul_of_nonneg_left (h i j hi hj) (hp.nn i j)
theorem tight (hp : PlanF t f) (h : Cert t f p q) : worthF t p q = costF t f := by
  rw [← split_worth hp]
  unfold costF
  refine sumN_congr _ fun i hi => sumN_congr _ fun j hj => ?_
  by_cases h0 : 0 < f i j
  · rw [h.eq i j hi hj h0]
  · have := hp.nn i j
    rw [show f i j = 0 by omega]; simp
theorem BestF.le (h : BestF t f) (hg : PlanF t g) : costF t f ≤ costF t g := by
  obtain ⟨p, q, hc⟩ := h.cert
  rw [← tight h.plan hc]
  exact weak hg hc.le
theorem BestF.same (h : BestF t f) (hg : BestF t g) : costF t f = costF t g := Int.le_antisymm (h.le hg.plan) (hg.le h.plan)
theorem cost_pos (ht : okT t = true) {i j : Nat} (hi : i < t.supply.length) (hj : j < t.demand.length) : 0 ≤ cc t i j ∧ cc t i j ≤ 99 := by
  have h := tab_spec (okT_spec ht).2.2.2
  exact (h.2 i (by omega)).2.2 j hj
theorem costF_bnd (ht : okT t = true) (hp : PlanF t f) : 0 ≤ costF t f ∧ costF t f ≤ 50000 := by
  have h1 := (okT_spec ht).1.2.1
  have h2 := (okT_spec ht).2.1.2.1
  have key : 0 ≤ costF t f ∧ costF t f ≤ (2970 * (t.demand.length : Int)) * (t.supply.length : Int) := by
    unfold costF
    refine sumN_bnd _ fun i hi => ?_
    refine sumN_bnd _ fun j hj => ?_
    have a := plan_le ht hp hi hj
    exact mul_bnd (X := 30) (Y := 99) ⟨hp.nn i j, a⟩ (cost_pos ht hi hj)
  have : (2970 * (t.demand.length : Int)) * (t.supply.length : Int) ≤ (2970 * 4) * 4 :=
    Int.le_trans (Int.mul_le_mul_of_nonneg_right (by omega) (Int.natCast_nonneg _)) (Int.mul_le_mul_of_nonneg_left (by omega) (by decide))
  omega
def edIn (t : Trade) (f : Nat → Nat → Int) (i : Nat) : Nat → List Ed
  | 0 => []
  | j + 1 => edIn t f i j ++ (⟨i, t.supply.length + j, cc t i j⟩ :: if 0 < f i j then [⟨t.supply.length + j, i, -cc t i j⟩] else [])
def edTo (t : Trade) (f : Nat → Nat → Int) : Nat → List Ed
  | 0 => []
  | i + 1 => edTo t f i ++ edIn t f i t.demand.length
def eds (t : Trade) (f : Nat → Nat → Int) : List Ed := edTo t f t.supply.length
theorem edIn_succ (i j : Nat) : edIn t f i (j + 1) = edIn t f i j ++ (⟨i, t.supply.length + j, cc t i j⟩ :: if 0 < f i j then [⟨t.supply.length + j, i, -cc t i j⟩] else []) := rfl
theorem edIn_len (i : Nat) : ∀ j, (edIn t f i j).length ≤ 2 * j
  | 0 => by simp [edIn]
  | j + 1 => by
    have := edIn_len i j
    unfold edIn
    rw [List.length_append, List.length_cons]
    split <;> simp <;> omega
theorem edTo_len (hm : t.demand.length ≤ 4) : ∀ i, (edTo t f i).length ≤ 8 * i
  | 0 => by simp [edTo]
  | i + 1 => by
    have := edTo_len hm i
    have := edIn_len (t := t) (f := f) i t.demand.length
    unfold edTo
    rw [List.length_append]; omega
theorem edIn_mem {i : Nat} {e : Ed} : ∀ {j : Nat}, e ∈ edIn t f i j ↔ ∃ k, k < j ∧ (e = ⟨i, t.supply.length + k, cc t i k⟩ ∨ (e = ⟨t.supply.length + k, i, -cc t i k⟩ ∧ 0 < f i k))
  | 0 => by simp [edIn]
  | j + 1 => by
    unfold edIn
    rw [List.mem_append, List.mem_cons, edIn_mem (j := j)]
    constructor
    · rintro (⟨k, hk, h⟩ | h | h)
      · exact ⟨k, by omega, h⟩
      · exact ⟨j, by omega, .inl h⟩
      · split at h
        · rename_i h0
          exact ⟨j, by omega, .inr ⟨by simpa using h, h0⟩⟩
        · simp at h
    · rintro ⟨k, hk, h⟩
      by_cases e : k = j
      · subst e
        rcases h with h | ⟨h, h0⟩
        · exact .inr (.inl h)
        · exact .inr (.inr (by rw [if_pos h0]; simpa using h))
      · exact .inl ⟨k, by omega, h⟩
theorem edTo_mem {e : Ed} : ∀ {i : Nat}, e ∈ edTo t f i ↔ ∃ a k, a < i ∧ k < t.demand.length ∧ (e = ⟨a, t.supply.length + k, cc t a k⟩ ∨ (e = ⟨t.supply.length + k, a, -cc t a k⟩ ∧ 0 < f a k))
  | 0 => by simp [edTo]
  | i + 1 => by
    unfold edTo
    rw [List.mem_append, edTo_mem (i := i), edIn_mem]
    constructor
    · rintro (⟨a, k, ha, hk, h⟩ | ⟨k, hk, h⟩)
      · exact ⟨a, k, by omega, hk, h⟩
      · exact ⟨i, k, by omega, hk, h⟩
    · rintro ⟨a, k, ha, hk, h⟩
      by_cases e : a = i
      · subst e; exact .inr ⟨k, hk, h⟩
      · exact .inl ⟨a, k, by omega, hk, h⟩
theorem eds_mem {e : Ed} : e ∈ eds t f ↔ ∃ i j, i < t.supply.length ∧ j < t.demand.length ∧ (e = ⟨i, t.supply.length + j, cc t i j⟩ ∨ (e = ⟨t.supply.length + j, i, -cc t i j⟩ ∧ 0 < f i j)) := edTo_mem
theorem eds_ne {e : Ed} (h : e ∈ eds t f) : e.u ≠ e.v := by
  obtain ⟨i, j, hi, hj, rfl | ⟨rfl, _⟩⟩ := eds_mem.1 h
  · show i ≠ t.supply.length + j; omega
  · show t.supply.length + j ≠ i; omega
theorem eds_lt {e : Ed} (h : e ∈ eds t f) : e.u < t.supply.length + t.demand.length ∧ e.v < t.supply.length + t.demand.length := by
  obtain ⟨i, j, hi, hj, rfl | ⟨rfl, _⟩⟩ := eds_mem.1 h
  · exact ⟨by show i < _; omega, by show t.supply.length + j < _; omega⟩
  · exact ⟨by show t.supply.length + j < _; omega, by show i < _; omega⟩
theorem eds_cost (ht : okT t = true) {e : Ed} (h : e ∈ eds t f) : -99 ≤ e.c ∧ e.c ≤ 99 := by
  obtain ⟨i, j, hi, hj, rfl | ⟨rfl, _⟩⟩ := eds_mem.1 h <;> have := cost_pos ht hi hj
  · show -99 ≤ cc t i j ∧ cc t i j ≤ 99; omega
  · show -99 ≤ -cc t i j ∧ -cc t i j ≤ 99; omega
/-- Where nothing can be improved, there are prices. -/
theorem cert_of {d : Nat → Int} (h : ∀ e ∈ eds t f, d e.v ≤ d e.u + e.c) : Cert t f (fun i => -d i) (fun j => d (t.supply.length + j)) where
  le := fun i j hi hj => by
    have := h ⟨i, t.supply.length + j, cc t i j⟩ (eds_mem.2 ⟨i, j, hi, hj, .inl rfl⟩)
    show -d i + d (t.supply.length + j) ≤ cc t i j
    have h2 : d (t.supply.length + j) ≤ d i + cc t i j := this
    omega
  eq := fun i j hi hj h0 => by
    have h2 : d (t.supply.length + j) ≤ d i + cc t i j := h ⟨i, t.supply.length + j, cc t i j⟩ (eds_mem.2 ⟨i, j, hi, hj, .inl rfl⟩)
    have h3 : d i ≤ d (t.supply.length + j) + -cc t i j := h ⟨t.supply.length + j, i, -cc t i j⟩ (eds_mem.2 ⟨i, j, hi, hj, .inr ⟨rfl, h0⟩⟩)
    show -d i + d (t.supply.length + j) = cc t i j
    omega
/-- Prices are heights of the nodes. -/
def pot (t : Trade) (p q : Nat → Int) (v : Nat) : Int := if v < t.supply.length then -p v else q (v - t.supply.length)
theorem pot_store {i : Nat} (hi : i < t.supply.length) : pot t p q i = -p i := if_pos hi
theorem pot_buyer (j : Nat) : pot t p q (t.supply.length + j) = q j := by
  unfold pot; rw [if_neg (by omega), show t.supply.length + j - t.supply.length = j by omega]
theorem pot_of (h : Cert t f p q) : ∀ e ∈ eds t f, pot t p q e.v ≤ pot t p q e.u + e.c := by
  intro e he
  obtain ⟨i, j, hi, hj, rfl | ⟨rfl, h0⟩⟩ := eds_mem.1 he
  · show pot t p q (t.supply.length + j) ≤ pot t p q i + cc t i j
    rw [pot_store hi, pot_buyer]
    have := h.le i j hi hj
    omega
  · show pot t p q i ≤ pot t p q (t.supply.length + j) + -cc t i j
    rw [pot_store hi, pot_buyer]
    have := h.eq i j hi hj h0
    omega
end
end Go.D7

set_option linter.unusedVariables false
set_option linter.unusedSimpArgs false
namespace Go.D7
open Go.Tb
/-- More than anything costs. -/
def FAR : Int := 1073741824
def sE (t : Trade) (e : Ed) : Step := if e.u < t.supply.length then .i_more ⟨(e.u : Int), (e.v : Int) - (t.supply.length : Int)⟩ else .i_less ⟨(e.v : Int), (e.u : Int) - (t.supply.length : Int)⟩
def sO (t : Trade) (o : Option Ed) : Step := match o with | none => .nil | some e => sE t e
section
variable {t : Trade} {f : Nat → Nat → Int}
theorem sE_more {i j : Nat} {c : Int} (hi : i < t.supply.length) : sE t ⟨i, t.supply.length + j, c⟩ = .i_more ⟨(i : Int), (j : Int)⟩ := by
  unfold sE
  rw [if_pos hi]
  show Step.i_more ⟨(i : Int), ((t.supply.length + j : Nat) : Int) - (t.supply.length : Int)⟩ = _
  congr 2; omega
theorem sE_less {i j : Nat} {c : Int} (hi : i < t.supply.length) : sE t ⟨t.supply.length + j, i, c⟩ = .i_less ⟨(i : Int), (j : Int)⟩ := by
  unfold sE
  rw [if_neg (by show ¬ (t.supply.length + j < t.supply.length); omega)]
  show Step.i_less ⟨(i : Int), ((t.supply.length + j : Nat) : Int) - (t.supply.length : Int)⟩ = _
  congr 2; omega
theorem ends_eq (ht : okT t = true) {e : Ed} (h : e ∈ eds t f) : bulk_ends t (sE t e) = some ((e.u : Int), (e.v : Int)) := by
  have h1 := (okT_spec ht).1.2.1
  have h2 := (okT_spec ht).2.1.2.1
  obtain ⟨i, j, hi, hj, rfl | ⟨rfl, _⟩⟩ := eds_mem.1 h
  · rw [sE_more hi]
    unfold bulk_ends
    rw [if_pos (by rfl)]
    show gd (InR ((t.supply.length : Int) + (j : Int))) (some ((i : Int), (t.supply.length : Int) + (j : Int))) = some ((i : Int), ((t.supply.length + j : Nat) : Int))
    rw [gd_pos (by omega)]; congr 2
  · rw [sE_less hi]
    unfold bulk_ends
    rw [if_neg (by simp [Step.isMore]), if_pos (by rfl)]
    show gd (InR ((t.supply.length : Int) + (j : Int))) (some ((t.supply.length : Int) + (j : Int), (i : Int))) = some (((t.supply.length + j : Nat) : Int), (i : Int))
    rw [gd_pos (by omega)]; congr 2
theorem scost_eq (ht : okT t = true) {e : Ed} (h : e ∈ eds t f) : Step_cost (sE t e) t = some e.c := by
  obtain ⟨c1, c2⟩ := tab_spec (okT_spec ht).2.2.2
  obtain ⟨i, j, hi, hj, rfl | ⟨rfl, _⟩⟩ := eds_mem.1 h
  · rw [sE_more hi]
    show bulk_more_cost ⟨(i : Int), (j : Int)⟩ t = some (cc t i j)
    have := c2 i (by omega)
    unfold bulk_more_cost
    show ix t.cost (i : Int) (fun x1 => ix x1 (j : Int) fun x2 => some x2) = _
    rw [ix_nat (gr_at (by omega)), ix_nat (gi_at (by omega))]; rfl
  · rw [sE_less hi]
    show bulk_less_cost ⟨(i : Int), (j : Int)⟩ t = some (-cc t i j)
    have := c2 i (by omega)
    have hb := cost_pos ht hi hj
    have hc : gi (gr t.cost i) j = cc t i j := rfl
    unfold bulk_less_cost
    show ix t.cost (i : Int) (fun x1 => ix x1 (j : Int) fun x2 => gd (InR (-x2)) (some (-x2))) = _
    rw [ix_nat (gr_at (by omega)), ix_nat (gi_at (by omega)), hc, gd_pos (by omega)]
theorem steps_in (ht : okT t = true) {i : Nat} (hi : i < t.supply.length) (rec1 : Int → List Step → Option (List Step)) :
    bulk_steps_L1 (i : Int) rec1 (tb t.demand.length (f i)) FU 0 ((edTo t f i).map (sE t)) = bulk_steps_k2 (i : Int) rec1 ((edTo t f (i + 1)).map (sE t)) := by
  have h1 := (okT_spec ht).1.2.1
  have h2 := (okT_spec ht).2.1.2.1
  refine for0 t.demand.length (fun j => (edTo t f i ++ edIn t f i j).map (sE t)) (fun k s j => bulk_steps_L1 (i : Int) rec1 (tb t.demand.length (f i)) k j s) _ (by simp [edIn]) (fun k j hj => ?_) (fun k => ?_) (by omega)
  · have l1 := edTo_len (t := t) (f := f) h2 i
    have l2 := edIn_len (t := t) (f := f) i j
    have e : (edTo t f i ++ edIn t f i (j + 1)).map (sE t) = (edTo t f i ++ edIn t f i j).map (sE t) ++ (Step.i_more ⟨(i : Int), (j : Int)⟩ :: if 0 < f i j then [Step.i_less ⟨(i : Int), (j : Int)⟩] else []) := by
      rw [edIn_succ, ← List.append_assoc, List.map_append, List.map_cons, sE_more hi]
      congr 2
      split
      · rw [List.map_cons, sE_less hi]; rfl
      · rfl
    show bulk_steps_B1 (i : Int) rec1 (tb t.demand.length (f i)) (bulk_steps_L1 (i : Int) rec1 (tb t.demand.length (f i)) k) _ _ = _
    unfold bulk_steps_B1 bulk_steps_k3
    rw [if_pos (by rw [tb_len]; omega), ix_nat (tb_at hj), gd_pos (by simp; omega)]
    by_cases h0 : 0 < f i j
    · rw [if_pos h0, gd_pos (by simp; omega), gd_pos (by omega), e, if_pos h0, List.append_assoc]; rfl
    · rw [if_neg h0, gd_pos (by omega), e, if_neg h0]; rfl
  · show bulk_steps_B1 (i : Int) rec1 (tb t.demand.length (f i)) (bulk_steps_L1 (i : Int) rec1 (tb t.demand.length (f i)) k) _ _ = _
    unfold bulk_steps_B1
    rw [if_neg (by rw [tb_len]; omega)]; rfl
theorem steps_eq (ht : okT t = true) : bulk_steps t (tab t f) = some ((eds t f).map (sE t)) := by
  have h1 := (okT_spec ht).1.2.1
  unfold bulk_steps
  refine for0 t.supply.length (fun i => (edTo t f i).map (sE t)) (fun k s i => bulk_steps_L2 (tab t f) k i s) _ rfl (fun k i hi => ?_) (fun k => ?_) (by omega)
  · show bulk_steps_B2 (tab t f) (bulk_steps_L2 (tab t f) k) _ _ = _
    unfold bulk_steps_B2
    have r : (tab t f)[i]? = some (tb t.demand.length (f i)) := tbl_at hi
    have e : (tab t f).length = t.supply.length := tbl_len _ _ _
    rw [if_pos (by rw [e]; omega), ix_nat r, steps_in ht hi]
    unfold bulk_steps_k2
    rw [gd_pos (by omega)]; rfl
  · show bulk_steps_B2 (tab t f) (bulk_steps_L2 (tab t f) k) _ _ = _
    unfold bulk_steps_B2
    have e : (tab t f).length = t.supply.length := tbl_len _ _ _
    rw [if_neg (by rw [e]; omega)]; rfl
def s0 : BS := ⟨fun _ => 0, fun _ => none, -1⟩
def nN (t : Trade) : Nat := t.supply.length + t.demand.length
def bsL (t : Trade) (s : BS) : List Int := tb (nN t) s.d
def bsB (t : Trade) (s : BS) : List Step := tg (nN t) (fun v => sO t (s.by_ v))
theorem foldTo {L : List Ed} {k : Nat} {e : Ed} (h : L[k]? = some e) (far : Int) (s : BS) : (L.take (k + 1)).foldl (relax far) s = relax far ((L.take k).foldl (relax far) s) e := by
  rw [List.take_add_one, h, List.foldl_append]; rfl
theorem search_in (ht : okT t = true) {s : BS} (hlo : ∀ v, -100000 ≤ s.d v) (hhi : ∀ v, s.d v ≤ 0) (i : Int) (rec3 : Int → Int → List Int → List Step → Option (List Int × List Step)) :
    bulk_search_L3 t ((eds t f).map (sE t)) i rec3 FU (-1) 0 (bsL t s) (bsB t s) = bulk_search_k5 i rec3 (rnd FAR (eds t f) s).last (bsL t (rnd FAR (eds t f) s)) (bsB t (rnd FAR (eds t f) s)) := by
  have h1 := (okT_spec ht).1.2.1
  have h2 := (okT_spec ht).2.1.2.1
  have hl := edTo_len (t := t) (f := f) h2 t.supply.length
  have hl' : (eds t f).length ≤ 32 := by unfold eds; omega
  refine for0 (eds t f).length (fun k => ((eds t f).take k).foldl (relax FAR) (fresh s)) (fun k x j => bulk_search_L3 t ((eds t f).map (sE t)) i rec3 k x.last j (bsL t x) (bsB t x)) _ (s0 := fresh s) rfl (fun k j hj => ?_) (fun k => ?_) (by omega)
  · obtain ⟨e, he⟩ : ∃ e, (eds t f)[j]? = some e := ⟨(eds t f)[j], by simp [hj]⟩
    have hm : e ∈ eds t f := List.mem_of_getElem? he
    have hx : ((eds t f).map (sE t))[j]? = some (sE t e) := by rw [List.getElem?_map, he]; rfl
    have hlt := eds_lt hm
    have hc := eds_cost ht hm
    generalize hy : ((eds t f).take j).foldl (relax FAR) (fresh s) = y
    have ylo : ∀ v, -110000 ≤ y.d v := fun v => by
      have := fold_bnd FAR 99 (by decide) ((eds t f).take j) (fresh s) (-100000) (fun e he => (eds_cost ht (List.mem_of_mem_take he)).1) hlo v
      rw [hy] at this
      have : (((eds t f).take j).length : Int) ≤ 32 := by rw [List.length_take]; omega
      omega
    have yhi : ∀ v, y.d v ≤ 0 := fun v => by
      have := fold_le FAR ((eds t f).take j) (fresh s) v
      rw [hy] at this
      have b := hhi v
      have c : (fresh s).d v = s.d v := rfl
      omega
    have hF : FAR = 1073741824 := rfl
    have lu := ylo e.u
    have lv := ylo e.v
    have uu := yhi e.u
    rw [foldTo he, hy]
    have gu : (bsL t y)[e.u]? = some (y.d e.u) := tb_at hlt.1
    have gv : (bsL t y)[e.v]? = some (y.d e.v) := tb_at hlt.2
    have gb : (bsB t y)[e.v]? = some (sO t (y.by_ e.v)) := tg_at hlt.2
    show bulk_search_B3 t ((eds t f).map (sE t)) i rec3 (bulk_search_L3 t ((eds t f).map (sE t)) i rec3 k) _ _ _ _ = _
    unfold bulk_search_B3 bulk_search_k6
    rw [if_pos (by simp; omega), ix_nat hx, bnd_eq (ends_eq ht hm)]
    show ix (bsL t y) (e.u : Int) _ = _
    rw [ix_nat gu, bnd_eq (scost_eq ht hm), gd_pos (by omega)]
    show ix (bsL t y) (e.v : Int) _ = _
    rw [ix_nat gv]
    unfold relax
    by_cases hlt2 : y.d e.u + e.c < y.d e.v
    · rw [if_pos hlt2, if_pos ⟨by omega, hlt2⟩]
      show ix (bsL t y) (e.v : Int) (fun x7 => ix (bsB t y) (e.v : Int) _) = _
      rw [ix_nat gv, ix_nat gb, gd_pos (by omega)]
      have e1 : (bsL t y).set e.v (y.d e.u + e.c) = tb (nN t) (fun x => if x = e.v then y.d e.u + e.c else y.d x) := tb_set _
      have e2 : (bsB t y).set e.v (sE t e) = tg (nN t) (fun v => sO t (if v = e.v then some e else y.by_ v)) := by
        unfold bsB
        rw [tg_set]
        refine tg_congr fun v _ => ?_
        by_cases hv : v = e.v
        · rw [if_pos hv, if_pos hv]; rfl
        · rw [if_neg hv, if_neg hv]
      show bulk_search_L3 t ((eds t f).map (sE t)) i rec3 k (e.v : Int) _ ((bsL t y).set e.v (y.d e.u + e.c)) ((bsB t y).set e.v (sE t e)) = _
      rw [e1, e2]; rfl
    · rw [if_neg hlt2, if_neg (fun h => hlt2 h.2), gd_pos (by omega)]; rfl
  · show bulk_search_B3 t ((eds t f).map (sE t)) i rec3 (bulk_search_L3 t ((eds t f).map (sE t)) i rec3 k) _ _ _ _ = _
    unfold bulk_search_B3
    rw [if_neg (by simp), List.take_length]; rfl
def sK (t : Trade) (f : Nat → Nat → Int) (k : Nat) : BS := rnds FAR (eds t f) s0 k
theorem sK_bnd (ht : okT t = true) (k : Nat) (hk : k ≤ 9) (v : Nat) : -100000 ≤ (sK t f k).d v ∧ (sK t f k).d v ≤ 0 := by
  have h1 := (okT_spec ht).1.2.1
  have h2 := (okT_spec ht).2.1.2.1
  have hl := edTo_len (t := t) (f := f) h2 t.supply.length
  have hl' : (eds t f).length ≤ 32 := by unfold eds; omega
  have a := rnds_bnd (far := FAR) (M := 99) (by decide) (L := eds t f) (s := s0) (lo := 0) (fun e he => (eds_cost ht he).1) (fun v => Int.le_refl _) k v
  have b := rnds_mono FAR (eds t f) s0 v 0 k
  rw [Nat.zero_add] at b
  have c : (rnds FAR (eds t f) s0 0).d v = 0 := rfl
  have : 99 * ((eds t f).length : Int) * (k : Int) ≤ (99 * 32) * 9 :=
    Int.le_trans (Int.mul_le_mul_of_nonneg_right (by omega) (Int.natCast_nonneg _)) (Int.mul_le_mul_of_nonneg_left (by omega) (by decide))
  unfold sK
  omega
theorem search_rounds (ht : okT t = true) : bulk_search t (tab t f) = bulk_search_k4 t (sK t f (nN t)).last (bsL t (sK t f (nN t))) (bsB t (sK t f (nN t))) := by
  have h1 := (okT_spec ht).1.2.1
  have h2 := (okT_spec ht).2.1.2.1
  have hN : nN t = t.supply.length + t.demand.length := rfl
  unfold bulk_search
  rw [gd_pos (by omega), gd_pos (by omega), gd_pos (by omega), bnd_eq (steps_eq ht)]
  have e : Int.toNat ((t.supply.length : Int) + (t.demand.length : Int)) = nN t := by omega
  rw [e, rep_tb, rep_tg]
  refine for0 (nN t) (fun k => sK t f k) (fun k x j => bulk_search_L4 t ((eds t f).map (sE t)) k x.last j (bsL t x) (bsB t x)) _ (s0 := s0) rfl (fun k j hj => ?_) (fun k => ?_) (by omega)
  · show bulk_search_B4 t ((eds t f).map (sE t)) (bulk_search_L4 t ((eds t f).map (sE t)) k) _ _ _ _ = _
    unfold bulk_search_B4
    rw [if_pos (by omega), search_in ht (fun v => (sK_bnd ht j (by omega) v).1) (fun v => (sK_bnd ht j (by omega) v).2)]
    unfold bulk_search_k5
    rw [gd_pos (by omega)]; rfl
  · show bulk_search_B4 t ((eds t f).map (sE t)) (bulk_search_L4 t ((eds t f).map (sE t)) k) _ _ _ _ = _
    unfold bulk_search_B4
    rw [if_neg (by omega)]
end
end Go.D7

set_option linter.unusedVariables false
set_option linter.unusedSimpArgs false
namespace Go.D7
open Go.Tb
/-- Turning a list round, for any text of the library's loop. -/
theorem rev_gen {α : Type} (L : Nat → Int → Int → List α → Option (List α))
    (hL : ∀ k a b l, L (k + 1) a b l = if a < b then (ix l b fun x1 => ix l a fun x2 => ix l a fun x3 => ix (l.set (Int.toNat a) x1) b fun x4 => gd (InR (a + 1)) <| gd (InR (b - 1)) <| L k (a + 1) (b - 1) ((l.set (Int.toNat a) x1).set (Int.toNat b) x2)) else some l)
    (l : List α) (hl : l.length ≤ 1000000) : L FU 0 ((l.length : Int) - 1) l = some l.reverse := by
  have key : ∀ (d n i : Nat) (m : List α), l.length ≤ 2 * i + d → d < n → m.length = l.length → (∀ j, j < l.length → m[j]? = if j < i ∨ l.length ≤ j + i then l.reverse[j]? else l[j]?) → i ≤ l.length →
      L n (i : Int) ((l.length : Int) - 1 - i) m = some l.reverse := by
    intro d
    induction d with
    | zero =>
      intro n i m hd hn hm hj hi
      obtain ⟨n, rfl⟩ : ∃ k, n = k + 1 := ⟨n - 1, by omega⟩
      rw [hL, if_neg (by omega)]
      congr 1
      apply List.ext_getElem?
      intro j
      by_cases hjl : j < l.length
      · rw [hj j hjl, if_pos (by omega)]
      · rw [List.getElem?_eq_none (by omega), List.getElem?_eq_none (by simp; omega)]
    | succ d ih =>
      intro n i m hd hn hm hj hi
      obtain ⟨n, rfl⟩ : ∃ k, n = k + 1 := ⟨n - 1, by omega⟩
      rw [hL]
      by_cases hlt : (i : Int) < (l.length : Int) - 1 - i
      · have hi2 : i < l.length := by omega
        have hk2 : l.length - 1 - i < l.length := by omega
        have e1 : ((l.length : Int) - 1 - i).toNat = l.length - 1 - i := by omega
        have a1 : m[l.length - 1 - i]? = some l[l.length - 1 - i] := by rw [hj _ hk2, if_neg (by omega)]; simp [hk2]
        have a2 : m[i]? = some l[i] := by rw [hj _ hi2, if_neg (by omega)]; simp [hi2]
        rw [if_pos hlt, ix_eq (by omega) (by rw [e1]; exact a1), ix_nat a2, ix_nat a2, ix_eq (x := l[l.length - 1 - i]) (by omega) (by rw [e1, Int.toNat_natCast, List.getElem?_set_ne (by omega)]; exact a1), gd_pos (by omega), gd_pos (by omega), e1, Int.toNat_natCast]
        have := ih n (i + 1) ((m.set i l[l.length - 1 - i]).set (l.length - 1 - i) l[i]) (by omega) (by omega) (by simp [hm]) (fun j hjl => ?_) (by omega)
        · rw [show (l.length : Int) - 1 - i - 1 = (l.length : Int) - 1 - ((i + 1 : Nat) : Int) by omega]
          exact this
        · by_cases hj1 : j = l.length - 1 - i
          · subst hj1
            rw [List.getElem?_set_self (by simp [hm]; omega), if_pos (by omega)]
            rw [List.getElem?_reverse (by omega)]
            rw [show l.length - 1 - (l.length - 1 - i) = i by omega]; simp [hi2]
          · rw [List.getElem?_set_ne (Ne.symm hj1)]
            by_cases hj2 : j = i
            · subst hj2
              rw [List.getElem?_set_self (by omega), if_pos (by omega), List.getElem?_reverse (by omega)]; simp [hk2]
            · rw [List.getElem?_set_ne (Ne.symm hj2), hj j hjl]
              by_cases hc : j < i ∨ l.length ≤ j + i
              · rw [if_pos hc, if_pos (by omega)]
              · rw [if_neg hc, if_neg (by omega)]
      · rw [if_neg hlt]
        congr 1
        apply List.ext_getElem?
        intro j
        by_cases hjl : j < l.length
        · rw [hj j hjl]
          by_cases hc : j < i ∨ l.length ≤ j + i
          · rw [if_pos hc]
          · rw [if_neg hc, List.getElem?_reverse hjl]
            rw [show l.length - 1 - j = j by omega]
        · rw [List.getElem?_eq_none (by omega), List.getElem?_eq_none (by simp; omega)]
  have := key l.length FU 0 l (by omega) (by have := FU_pos; omega) rfl (fun j hj => by rw [if_neg (by omega)]) (by omega)
  simpa using this
theorem revS_eq (l : List Step) (hl : l.length ≤ 1000000) : slices_Reverse_step l = some l.reverse := by
  unfold slices_Reverse_step
  rw [gd_pos (by omega)]
  exact rev_gen slices_Reverse_step_L1 (fun k a b l => rfl) l hl
theorem revA_eq (l : List Arr2) (hl : l.length ≤ 1000000) : slices_Reverse_2_int_2_int l = some l.reverse := by
  unfold slices_Reverse_2_int_2_int
  rw [gd_pos (by omega)]
  exact rev_gen slices_Reverse_2_int_2_int_L1 (fun k a b l => rfl) l hl
structure Rd (s : BS) (z K : Nat) : Prop where
  pos : 0 < K
  alive : ∀ k, s.by_ (itp s k z) ≠ none
  per : itp s K z = z
  inj : ∀ a b, a < b → b < K → itp s a z ≠ itp s b z
section
variable {s : BS} {z K : Nat}
theorem Rd.more (h : Rd s z K) (k : Nat) : itp s (k + K) z = itp s k z := by
  rw [Nat.add_comm, itp_add, h.per]
theorem Rd.turn (h : Rd s z K) {j : Nat} (hj : j < K) : Rd s (itp s j z) K where
  pos := h.pos
  alive := fun k => by rw [← itp_add]; exact h.alive _
  per := by rw [← itp_add]; exact h.more j
  inj := fun a b hab hb hc => by
    have e : itp s (K - j) (itp s a (itp s j z)) = itp s (K - j) (itp s b (itp s j z)) := by rw [hc]
    rw [← itp_add, ← itp_add, ← itp_add, ← itp_add, show j + (a + (K - j)) = a + K by omega, show j + (b + (K - j)) = b + K by omega, h.more, h.more] at e
    exact h.inj a b hab hb e
theorem least_ {p : Nat → Prop} : ∀ n, p n → ∃ m, p m ∧ m ≤ n ∧ ∀ k, k < m → ¬ p k := by
  intro n
  induction n using Nat.strongRecOn with
  | _ n ih =>
    intro hn
    by_cases h : ∃ k, k < n ∧ p k
    · obtain ⟨k, hk, hpk⟩ := h
      obtain ⟨m, h1, h2, h3⟩ := ih k hk hpk
      exact ⟨m, h1, by omega, h3⟩
    · exact ⟨n, hn, Nat.le_refl _, fun k hk hpk => h ⟨k, hk, hpk⟩⟩
/-- A way back that is long enough comes into a round. -/
theorem rd_of {N v : Nat} (hN : ∀ v e, s.by_ v = some e → e.u < N) (hv : v < N) (ha : ∀ k, k < N → s.by_ (itp s k v) ≠ none) : ∃ K, K ≤ N ∧ Rd s (itp s N v) K := by
  obtain ⟨i, p, h1, h2, h3⟩ := alive_cycle hN hv
  have per : ∀ m, i ≤ m → itp s (m + p) v = itp s m v := fun m hm => by
    rw [show m + p = i + p + (m - i) by omega, itp_add s (i + p), itp_add s i, h3, ← itp_add, show i + (m - i) = m by omega]
  have al : ∀ m, s.by_ (itp s m v) ≠ none := by
    intro m
    induction m using Nat.strongRecOn with
    | _ m ih =>
      by_cases hm : m < N
      · exact ha m hm
      · have := ih (m - p) (by omega)
        rwa [← per (m - p) (by omega), show m - p + p = m by omega] at this
  obtain ⟨K, ⟨k1, k2⟩, k3, k4⟩ := least_ (p := fun K => 0 < K ∧ itp s K (itp s N v) = itp s N v) p ⟨h1, by rw [← itp_add]; exact per N (by omega)⟩
  refine ⟨K, by omega, k1, fun k => by rw [← itp_add]; exact al _, k2, fun a b hab hb hc => ?_⟩
  have e : itp s (K - b) (itp s a (itp s N v)) = itp s (K - b) (itp s b (itp s N v)) := by rw [hc]
  rw [← itp_add s a, ← itp_add s b, show b + (K - b) = K by omega, k2] at e
  exact k4 (a + (K - b)) (by omega) ⟨by omega, e⟩
end
def pairE (t : Trade) (e : Ed) : Arr2 := if e.u < t.supply.length then ⟨(e.u : Int), (e.v : Int) - (t.supply.length : Int)⟩ else ⟨(e.v : Int), (e.u : Int) - (t.supply.length : Int)⟩
def pO (t : Trade) (o : Option Ed) : Arr2 := match o with | none => ⟨0, 0⟩ | some e => pairE t e
def pS : Step → Arr2
  | .i_more x => ⟨x.store, x.buyer⟩
  | .i_less x => ⟨x.store, x.buyer⟩
  | .nil => ⟨0, 0⟩
theorem pS_sO (t : Trade) (o : Option Ed) : pS (sO t o) = pO t o := by
  cases o with
  | none => rfl
  | some e =>
    show pS (sE t e) = pairE t e
    unfold sE pairE
    split <;> rfl
theorem grow_eq (n : Nat) (h : n ≤ 1000) : slices_Grow_2_int_2_int (n : Int) = some [] := by
  unfold slices_Grow_2_int_2_int slices_Grow_2_int_2_int_k1
  rw [if_neg (by omega), gd_pos (by omega), gd_pos (by omega)]
  by_cases h0 : n = 0
  · rw [if_neg (by omega)]
  · rw [if_pos (by omega), gd_pos (by omega), gd_pos (by simp)]; rfl
theorem concat_eq (a b : List Arr2) (h : a.length + b.length ≤ 1000) : slices_Concat_2_int_2_int [a, b] = some (a ++ b) := by
  unfold slices_Concat_2_int_2_int
  have e1 : ∀ k, slices_Concat_2_int_2_int_L2 [a, b] (k + 3) 0 0 = slices_Concat_2_int_2_int_k2 [a, b] ((a.length + b.length : Nat) : Int) := by
    intro k
    show slices_Concat_2_int_2_int_B2 [a, b] (slices_Concat_2_int_2_int_L2 [a, b] (k + 2)) 0 0 = _
    unfold slices_Concat_2_int_2_int_B2
    rw [if_pos (by simp), ix0 (x := a) rfl, gd_pos (by omega), if_neg (by omega), gd_pos (by omega)]
    show slices_Concat_2_int_2_int_B2 [a, b] (slices_Concat_2_int_2_int_L2 [a, b] (k + 1)) _ 1 = _
    unfold slices_Concat_2_int_2_int_B2
    rw [if_pos (by simp), ix1 (x := b) rfl, gd_pos (by omega), if_neg (by omega), gd_pos (by omega)]
    show slices_Concat_2_int_2_int_B2 [a, b] (slices_Concat_2_int_2_int_L2 [a, b] k) _ 2 = _
    unfold slices_Concat_2_int_2_int_B2
    rw [if_neg (by simp)]
    congr 1; omega
  have e2 : ∀ k, slices_Concat_2_int_2_int_L1 [a, b] (k + 3) 0 [] = some (a ++ b) := by
    intro k
    show slices_Concat_2_int_2_int_B1 [a, b] (slices_Concat_2_int_2_int_L1 [a, b] (k + 2)) 0 [] = _
    unfold slices_Concat_2_int_2_int_B1
    rw [if_pos (by simp), ix0 (x := a) rfl, gd_pos (by simp; omega), gd_pos (by omega)]
    show slices_Concat_2_int_2_int_B1 [a, b] (slices_Concat_2_int_2_int_L1 [a, b] (k + 1)) 1 _ = _
    unfold slices_Concat_2_int_2_int_B1
    rw [if_pos (by simp), ix1 (x := b) rfl, gd_pos (by simp; omega), gd_pos (by omega)]
    show slices_Concat_2_int_2_int_B1 [a, b] (slices_Concat_2_int_2_int_L1 [a, b] k) 2 _ = _
    unfold slices_Concat_2_int_2_int_B1
    rw [if_neg (by simp)]; rfl
  have f : FU = (FU - 3) + 3 := by have := FU_pos; omega
  rw [f, e1]
  unfold slices_Concat_2_int_2_int_k2
  rw [bnd_eq (grow_eq _ (by omega)), f, e2]
/-- The pairs, from the first step that is no less. -/
theorem pairs_eq {K : Nat} (hK : K ≤ 1000) (rs : Nat → Step) (hn : ∀ k, k < K → rs k ≠ .nil) {k0 : Nat} (h0 : k0 < K) (h1 : (rs k0).isLess = false) (h2 : ∀ k, k < k0 → (rs k).isLess = true) :
    bulk_pairs (tg K rs) = some (tg K fun i => pS (rs ((k0 + (K - i)) % K))) := by
  have at_ : ∀ k, k < K → (tg K rs)[k]? = some (rs k) := fun k hk => tg_at hk
  have len : (tg K rs).length = K := tg_len _ _
  have step1 : ∀ (d n k : Nat), k0 = k + d → d < n → bulk_pairs_L2 (tg K rs) n (k : Int) = bulk_pairs_L1 (tg K rs) (k0 : Int) FU 0 [] := by
    intro d
    induction d with
    | zero =>
      intro n k hd hn
      obtain ⟨n, rfl⟩ : ∃ q, n = q + 1 := ⟨n - 1, by omega⟩
      obtain rfl : k0 = k := by omega
      show bulk_pairs_B2 (tg K rs) (bulk_pairs_L2 (tg K rs) n) _ = _
      unfold bulk_pairs_B2
      rw [if_pos (by rw [len]; omega), ix_nat (at_ _ h0), if_neg (by rw [h1]; simp)]
    | succ d ih =>
      intro n k hd hn
      obtain ⟨n, rfl⟩ : ∃ q, n = q + 1 := ⟨n - 1, by omega⟩
      show bulk_pairs_B2 (tg K rs) (bulk_pairs_L2 (tg K rs) n) _ = _
      unfold bulk_pairs_B2 bulk_pairs_k2
      rw [if_pos (by rw [len]; omega), ix_nat (at_ k (by omega)), if_pos (h2 k (by omega)), gd_pos (by omega)]
      exact ih n (k + 1) (by omega) (by omega)
  have step2 : bulk_pairs_L1 (tg K rs) (k0 : Int) FU 0 [] = bulk_pairs_k3 (tg K fun i => pS (rs ((k0 + i) % K))) := by
    refine for0 K (fun i => tg i fun i => pS (rs ((k0 + i) % K))) (fun k s i => bulk_pairs_L1 (tg K rs) (k0 : Int) k i s) _ rfl (fun k i hi => ?_) (fun k => ?_) (by omega)
    · have hm : (k0 + i) % K < K := Nat.mod_lt _ (by omega)
      have e1 : Int.tmod ((k0 : Int) + (i : Int)) ((tg K rs).length : Int) = (((k0 + i) % K : Nat) : Int) := by
        rw [len]
        have := tmod_nat (k0 + i) K
        rw [← this]; congr 1
      have hne := hn _ hm
      show bulk_pairs_B1 (tg K rs) (k0 : Int) (bulk_pairs_L1 (tg K rs) (k0 : Int) k) _ _ = _
      unfold bulk_pairs_B1 bulk_pairs_k4
      rw [if_pos (by rw [len]; omega), gd_pos (by omega), e1, gd_pos ⟨by rw [len]; omega, by omega⟩, ix_nat (at_ _ hm)]
      have push := tg_push i (fun i => pS (rs ((k0 + i) % K)))
      cases hx : rs ((k0 + i) % K) with
      | nil => exact absurd hx hne
      | i_more x =>
        rw [hx] at push
        rw [if_pos (by rfl), gd_pos (by rw [tg_len]; simp; omega), gd_pos (by omega)]
        exact congrArg (bulk_pairs_L1 (tg K rs) (k0 : Int) k _) push
      | i_less x =>
        rw [hx] at push
        rw [if_neg (by simp [Step.isMore]), if_pos (by rfl), gd_pos (by rw [tg_len]; simp; omega), gd_pos (by omega)]
        exact congrArg (bulk_pairs_L1 (tg K rs) (k0 : Int) k _) push
    · show bulk_pairs_B1 (tg K rs) (k0 : Int) (bulk_pairs_L1 (tg K rs) (k0 : Int) k) _ _ = _
      unfold bulk_pairs_B1
      rw [if_neg (by rw [len]; omega)]
  unfold bulk_pairs
  have s1 := step1 k0 FU 0 (by omega) (by have := FU_pos; omega)
  rw [show ((0 : Nat) : Int) = 0 from rfl] at s1
  rw [s1, step2]
  unfold bulk_pairs_k3 bulk_pairs_k1
  have lo : (tg K fun i => pS (rs ((k0 + i) % K))).length = K := tg_len _ _
  rw [bnd_eq (revA_eq _ (by rw [lo]; omega)), lo, gd_pos (by omega), gd_pos (by rw [List.length_reverse, lo]; omega), gd_pos (by omega), gd_pos (by rw [List.length_reverse, lo]; omega)]
  have e2 : Int.toNat ((K : Int) - 1) = K - 1 := by omega
  rw [e2, bnd_eq (concat_eq _ _ (by rw [List.length_drop, List.length_take, List.length_reverse, lo]; omega))]
  congr 1
  apply List.ext_getElem?
  intro i
  by_cases hi : i < K
  · rw [tg_at hi, List.getElem?_append]
    have l1 : ((tg K fun i => pS (rs ((k0 + i) % K))).reverse.drop (K - 1)).length = 1 := by rw [List.length_drop, List.length_reverse, lo]; omega
    by_cases hz : i = 0
    · subst hz
      rw [l1, if_pos (by omega), List.getElem?_drop, List.getElem?_reverse (by rw [lo]; omega), lo, show K - 1 - (K - 1 + 0) = 0 by omega, tg_at (by omega)]
      rw [show k0 + (K - 0) = k0 + K by omega, Nat.add_mod_right, Nat.add_zero]
    · rw [l1, if_neg (by omega), List.getElem?_take, if_pos (by omega), List.getElem?_reverse (by rw [lo]; omega), lo, tg_at (by omega), show K - 1 - (i - 1) = K - i by omega]
  · rw [List.getElem?_eq_none (by rw [List.length_append, List.length_drop, List.length_take, List.length_reverse, lo]; omega), List.getElem?_eq_none (by rw [tg_len]; omega)]
section
variable {t : Trade} {f : Nat → Nat → Int} {s : BS} {z K : Nat}
/-- Every edge by which a node was reached is one that the plan allows. -/
def Mem (t : Trade) (f : Nat → Nat → Int) (s : BS) : Prop := ∀ v e, s.by_ v = some e → e ∈ eds t f ∧ e.v = v
/-- What a node on a round is. -/
theorem node (hm : Mem t f s) {x : Nat} (hx : s.by_ x ≠ none) :
    (∃ i j, i < t.supply.length ∧ j < t.demand.length ∧ x = t.supply.length + j ∧ pre s x = i ∧ ce s x = cc t i j ∧ pO t (s.by_ x) = ⟨(i : Int), (j : Int)⟩ ∧ s.by_ x = some ⟨i, t.supply.length + j, cc t i j⟩) ∨
    (∃ i j, i < t.supply.length ∧ j < t.demand.length ∧ x = i ∧ pre s x = t.supply.length + j ∧ ce s x = -cc t i j ∧ 0 < f i j ∧ pO t (s.by_ x) = ⟨(i : Int), (j : Int)⟩ ∧ s.by_ x = some ⟨t.supply.length + j, i, -cc t i j⟩) := by
  cases hb : s.by_ x with
  | none => exact absurd hb hx
  | some e =>
    obtain ⟨h1, h2⟩ := hm _ _ hb
    obtain ⟨p1, p2⟩ := pre_some hb
    obtain ⟨i, j, hi, hj, rfl | ⟨rfl, h0⟩⟩ := eds_mem.1 h1
    · left
      refine ⟨i, j, hi, hj, h2.symm, p1, p2, ?_, rfl⟩
      show pairE t ⟨i, t.supply.length + j, cc t i j⟩ = _
      unfold pairE
      rw [if_pos hi]
      show (⟨(i : Int), ((t.supply.length + j : Nat) : Int) - (t.supply.length : Int)⟩ : Arr2) = _
      congr 1; omega
    · right
      refine ⟨i, j, hi, hj, h2.symm, p1, p2, h0, ?_, rfl⟩
      show pairE t ⟨t.supply.length + j, i, -cc t i j⟩ = _
      unfold pairE
      rw [if_neg (by show ¬ (t.supply.length + j < t.supply.length); omega)]
      show (⟨(i : Int), ((t.supply.length + j : Nat) : Int) - (t.supply.length : Int)⟩ : Arr2) = _
      congr 1; omega
def rdL (t : Trade) (s : BS) (z K : Nat) : List Arr2 := tg K fun i => pO t (s.by_ (itp s i z))
theorem rdL_len : (rdL t s z K).length = K := tg_len _ _
/-- Nodes at even places are buyers, at odd ones stores. -/
theorem rd_even (hm : Mem t f s) (h : Rd s z K) (hz : t.supply.length ≤ z) : ∀ k, (k % 2 = 0 → t.supply.length ≤ itp s k z) ∧ (k % 2 = 1 → itp s k z < t.supply.length)
  | 0 => ⟨fun _ => hz, fun h => by omega⟩
  | k + 1 => by
    obtain ⟨h0, h1⟩ := rd_even hm h hz k
    rcases node hm (h.alive k) with ⟨i, j, hi, hj, e1, e2, _⟩ | ⟨i, j, hi, hj, e1, e2, _⟩
    · show ((k + 1) % 2 = 0 → t.supply.length ≤ pre s (itp s k z)) ∧ ((k + 1) % 2 = 1 → pre s (itp s k z) < t.supply.length)
      rw [e2]
      exact ⟨fun hk => by have := h1 (by omega); omega, fun _ => hi⟩
    · show ((k + 1) % 2 = 0 → t.supply.length ≤ pre s (itp s k z)) ∧ ((k + 1) % 2 = 1 → pre s (itp s k z) < t.supply.length)
      rw [e2]
      exact ⟨fun _ => by omega, fun hk => by have := h0 (by omega); omega⟩
theorem rd_pair (hm : Mem t f s) (h : Rd s z K) (hz : t.supply.length ≤ z) (k : Nat) (hk : k < K) : ∃ i j, i < t.supply.length ∧ j < t.demand.length ∧ pr (rdL t s z K) k = ⟨(i : Int), (j : Int)⟩ ∧
    (k % 2 = 0 → itp s k z = t.supply.length + j ∧ itp s (k + 1) z = i ∧ ce s (itp s k z) = cc t i j) ∧ (k % 2 = 1 → itp s k z = i ∧ itp s (k + 1) z = t.supply.length + j ∧ ce s (itp s k z) = -cc t i j ∧ 0 < f i j) := by
  have hp : pr (rdL t s z K) k = pO t (s.by_ (itp s k z)) := pr_of (tg_at hk)
  obtain ⟨h0, h1⟩ := rd_even hm h hz k
  rcases node hm (h.alive k) with ⟨i, j, hi, hj, e1, e2, e3, e4, _⟩ | ⟨i, j, hi, hj, e1, e2, e3, e5, e4, _⟩
  · exact ⟨i, j, hi, hj, by rw [hp, e4], fun _ => ⟨e1, e2, e3⟩, fun hk1 => by have := h1 hk1; omega⟩
  · exact ⟨i, j, hi, hj, by rw [hp, e4], fun hk0 => by have := h0 hk0; omega, fun _ => ⟨e1, e2, e3, e5⟩⟩
theorem rd_in (hm : Mem t f s) (h : Rd s z K) (hz : t.supply.length ≤ z) : InPairs t (rdL t s z K) := by
  intro k hk
  rw [rdL_len] at hk
  obtain ⟨i, j, hi, hj, e, _⟩ := rd_pair hm h hz k hk
  rw [e]
  exact ⟨⟨by show (0 : Int) ≤ (i : Int); omega, by show (i : Int) < _; omega⟩, ⟨by show (0 : Int) ≤ (j : Int); omega, by show (j : Int) < _; omega⟩⟩
theorem rd_sb (hm : Mem t f s) (h : Rd s z K) (hz : t.supply.length ≤ z) (k : Nat) (hk : k < K) :
    (k % 2 = 0 → itp s k z = t.supply.length + bN (rdL t s z K) k ∧ itp s (k + 1) z = sN (rdL t s z K) k ∧ ce s (itp s k z) = cc t (sN (rdL t s z K) k) (bN (rdL t s z K) k)) ∧
    (k % 2 = 1 → itp s k z = sN (rdL t s z K) k ∧ itp s (k + 1) z = t.supply.length + bN (rdL t s z K) k ∧ ce s (itp s k z) = -cc t (sN (rdL t s z K) k) (bN (rdL t s z K) k) ∧ 0 < f (sN (rdL t s z K) k) (bN (rdL t s z K) k)) := by
  obtain ⟨i, j, hi, hj, e, a, b⟩ := rd_pair hm h hz k hk
  have e1 : sN (rdL t s z K) k = i := by unfold sN; rw [e]; rfl
  have e2 : bN (rdL t s z K) k = j := by unfold bN; rw [e]; rfl
  rw [e1, e2]
  exact ⟨a, b⟩
theorem rd_mod2 (hm : Mem t f s) (h : Rd s z K) (hz : t.supply.length ≤ z) : K % 2 = 0 := by
  have := (rd_even hm h hz K).2
  rw [h.per] at this
  by_cases h1 : K % 2 = 1
  · have := this h1; omega
  · omega
theorem rd_four (hm : Mem t f s) (h : Rd s z K) (hz : t.supply.length ≤ z) (hneg : itc s K z < 0) : 4 ≤ K := by
  have h2 := rd_mod2 hm h hz
  have hp := h.pos
  by_cases hK : K = 2
  · subst hK
    exfalso
    obtain ⟨a, _⟩ := rd_pair hm h hz 0 (by omega)
    obtain ⟨i, j, hi, hj, e, a, _⟩ := rd_pair hm h hz 0 (by omega)
    obtain ⟨i', j', hi', hj', e', _, b⟩ := rd_pair hm h hz 1 (by omega)
    have a := a rfl
    have b := b rfl
    have per : itp s (1 + 1) z = z := h.per
    have z0 : itp s 0 z = z := rfl
    have i1 : i' = i := by rw [← b.1]; exact a.2.1
    have j1 : j' = j := by
      have := b.2.1
      rw [per] at this
      rw [z0] at a
      omega
    subst i1 j1
    have : itc s 2 z = 0 + ce s (itp s 0 z) + ce s (itp s 1 z) := rfl
    rw [a.2.2, b.2.2.1] at this
    omega
  · omega
theorem rd_round (hm : Mem t f s) (h : Rd s z K) (hz : t.supply.length ≤ z) (hneg : itc s K z < 0) : roundB (rdL t s z K) = true := by
  have h2 := rd_mod2 hm h hz
  have h4 := rd_four hm h hz hneg
  have len := rdL_len (t := t) (s := s) (z := z) (K := K)
  have inp := rd_in hm h hz
  have sb := rd_sb hm h hz
  unfold roundB
  rw [len, decide_eq_true h4, decide_eq_true h2, Bool.true_and, Bool.true_and, decide_eq_true_eq]
  intro k hk
  unfold rndAt
  rw [len]
  have wrap : itp s ((k + 1) % K) z = itp s (k + 1) z ∧ itp s ((k + 1) % K + 1) z = itp s (k + 1 + 1) z := by
    by_cases hw : k + 1 = K
    · rw [hw, Nat.mod_self]
      refine ⟨h.per.symm, ?_⟩
      have := h.more 1
      rw [← this, Nat.add_comm]
    · rw [Nat.mod_eq_of_lt (by omega)]; exact ⟨rfl, rfl⟩
  have hk' : (k + 1) % K < K := Nat.mod_lt _ (by omega)
  have par : (k + 1) % K % 2 = (k + 1) % 2 := by
    by_cases hw : k + 1 = K
    · rw [hw, Nat.mod_self]; omega
    · rw [Nat.mod_eq_of_lt (show k + 1 < K by omega)]
  have n1 := in_nat inp (k := k) (by omega)
  have n2 := in_nat inp (k := (k + 1) % K) (by omega)
  rw [Bool.and_eq_true]
  constructor
  · rw [decide_eq_true_eq]
    unfold side
    by_cases h0 : k % 2 = 0
    · rw [if_pos h0, if_pos h0, ← n1.2.2.1, ← n2.2.2.1]
      have a := (sb k hk).1 h0
      have b := (sb _ hk').2 (by omega)
      rw [wrap.1] at b
      rw [← a.2.1, ← b.1]
    · rw [if_neg h0, if_neg h0, ← n1.2.2.2, ← n2.2.2.2]
      have a := (sb k hk).2 (by omega)
      have b := (sb _ hk').1 (by omega)
      rw [wrap.1] at b
      have := a.2.1.symm.trans b.1
      omega
  · rw [Bool.not_eq_true', Bool.eq_false_iff]
    intro hc
    obtain ⟨i, hi, he⟩ := (memA_take (by omega) _).1 hc
    have e := eqA_iff.1 he
    have s1 : sN (rdL t s z K) i = sN (rdL t s z K) k := by unfold sN; rw [e]
    have b1 : bN (rdL t s z K) i = bN (rdL t s z K) k := by unfold bN; rw [e]
    have ai := sb i (by omega)
    have ak := sb k hk
    by_cases pi : i % 2 = 0
    · by_cases pk : k % 2 = 0
      · exact h.inj i k hi hk (by rw [(ai.1 pi).1, (ak.1 pk).1, b1])
      · have x := ai.1 pi
        have y := ak.2 (by omega)
        by_cases hik : i + 1 = k
        · -- then two steps lead back
          have e3 : itp s (k + 1) z = itp s i z := by rw [y.2.1, x.1, b1]
          by_cases hw : k + 1 = K
          · rw [hw, h.per] at e3
            have z0 : itp s 0 z = z := rfl
            exact h.inj 0 i (by omega) (by omega) (by rw [z0]; exact e3)
          · exact h.inj i (k + 1) (by omega) (by omega) e3.symm
        · exact h.inj (i + 1) k (by omega) hk (by rw [x.2.1, y.1, s1])
    · by_cases pk : k % 2 = 0
      · have x := ai.2 (by omega)
        have y := ak.1 pk
        by_cases hik : i + 1 = k
        · have e3 : itp s (k + 1) z = itp s i z := by rw [y.2.1, x.1, s1]
          exact h.inj i (k + 1) (by omega) (by omega) e3.symm
        · exact h.inj (i + 1) k (by omega) hk (by rw [x.2.1, y.1, b1])
      · exact h.inj i k hi hk (by rw [(ai.2 (by omega)).1, (ak.2 (by omega)).1, s1])
theorem sumN_one (a : Nat) (y : Int) (n : Nat) : sumN n (fun i => if i = a then y else 0) = if a < n then y else 0 := by
  have := sumN_upd (g := fun _ => 0) (k := a) (v := y) n
  rw [sumN_zero] at this
  rw [this]; split <;> omega
theorem cost_upd {f : Nat → Nat → Int} {a b : Nat} {x : Int} (ha : a < t.supply.length) (hb : b < t.demand.length) : costF t (fun i j => if i = a ∧ j = b then f i j + x else f i j) = costF t f + x * cc t a b := by
  have e : costF t (fun i j => if i = a ∧ j = b then f i j + x else f i j) = sumN t.supply.length fun i => sumN t.demand.length (fun j => f i j * cc t i j) + (if i = a then x * cc t a b else 0) := by
    unfold costF
    refine sumN_congr _ fun i _ => ?_
    by_cases hi : i = a
    · subst hi
      rw [if_pos rfl]
      have e2 : sumN t.demand.length (fun j => if j = b then x * cc t i b else 0) = x * cc t i b := by rw [sumN_one, if_pos hb]
      rw [← e2, ← sumN_add]
      refine sumN_congr _ fun j _ => ?_
      show (if i = i ∧ j = b then f i j + x else f i j) * cc t i j = f i j * cc t i j + _
      by_cases hj : j = b
      · subst hj; rw [if_pos ⟨rfl, rfl⟩, if_pos rfl, Int.add_mul]
      · rw [if_neg (fun h => hj h.2), if_neg hj]; omega
    · rw [if_neg hi, Int.add_zero]
      refine sumN_congr _ fun j _ => ?_
      show (if i = a ∧ j = b then f i j + x else f i j) * cc t i j = f i j * cc t i j
      rw [if_neg (fun h => hi h.1)]
  rw [e, sumN_add, sumN_one, if_pos ha]; rfl
theorem rd_cost (hm : Mem t f s) (h : Rd s z K) (hz : t.supply.length ≤ z) (n : Int) : ∀ k, k ≤ K → costF t (fK f (rdL t s z K) n k) = costF t f + n * itc s k z
  | 0, _ => by simp [fK, itc]
  | k + 1, hk => by
    have ih := rd_cost hm h hz n k (by omega)
    have inp := rd_in hm h hz
    have nn := in_nat inp (k := k) (by rw [rdL_len]; omega)
    have sb := rd_sb hm h hz k (by omega)
    have e : costF t (fK f (rdL t s z K) n (k + 1)) = costF t (fK f (rdL t s z K) n k) + sgn k * n * cc t (sN (rdL t s z K) k) (bN (rdL t s z K) k) := cost_upd nn.1 nn.2.1
    rw [e, ih]
    show _ = costF t f + n * (itc s k z + ce s (itp s k z))
    rw [Int.mul_add]
    by_cases h0 : k % 2 = 0
    · rw [(sb.1 h0).2.2]
      unfold sgn
      rw [if_pos h0, Int.one_mul]; omega
    · rw [(sb.2 (by omega)).2.2.1]
      unfold sgn
      rw [if_neg h0, show (-1 : Int) * n = -n by omega, Int.neg_mul, Int.mul_neg]; omega
theorem rd_amount (hm : Mem t f s) (h : Rd s z K) (hz : t.supply.length ≤ z) (h4 : 4 ≤ K) : ∀ k, k ≤ K → 1 ≤ mN f (rdL t s z K) k
  | 0, _ => by
    have := ((rd_sb hm h hz 1 (by omega)).2 rfl).2.2.2
    show 1 ≤ f (sN (rdL t s z K) 1) (bN (rdL t s z K) 1)
    omega
  | k + 1, hk => by
    have ih := rd_amount hm h hz h4 k (by omega)
    simp only [mN]
    split
    · rename_i h1
      have := ((rd_sb hm h hz k (by omega)).2 h1).2.2.2
      omega
    · exact ih
end
end Go.D7
