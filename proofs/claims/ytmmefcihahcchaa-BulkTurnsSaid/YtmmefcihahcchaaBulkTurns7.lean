/- Lemmas and walks that the proof of this claim uses: D7q8, D7qB, D7qC. -/
import Derived.Test.YtmmefcihahcchaaBulkTurns6
set_option linter.unusedVariables false
set_option linter.unusedSimpArgs false
namespace Go.D7
open Go.Tb
/-- The smallest cost. -/
def IsLeast (t : Trade) (c : Int) : Prop := ∃ g, BestF t g ∧ costF t g = c
section
variable {t : Trade} {f : Nat → Nat → Int} {c : Int}
theorem IsLeast.le (h : IsLeast t c) (hp : PlanF t f) : c ≤ costF t f := by
  obtain ⟨g, hg, rfl⟩ := h
  exact hg.le hp
theorem IsLeast.eq (h : IsLeast t c) (hp : BestF t f) : c = costF t f := by
  obtain ⟨g, hg, rfl⟩ := h
  exact hg.same hp
theorem IsLeast.same {d : Int} (h : IsLeast t c) (h' : IsLeast t d) : c = d := by
  obtain ⟨g, hg, rfl⟩ := h'
  exact h.eq hg
theorem val0 (hv : okT t = true) : validate t = 0 := if_pos hv
theorem val1 (hv : ¬ okT t = true) : validate t = 1 := if_neg hv
theorem tabT (ht : okT t = true) (hp : PlanF t f) : tabB t (tab t f) 120 = true := (check0 (plan_check ht hp)).2.1
theorem cost_plan (ht : okT t = true) (hp : PlanF t f) : bulk_cost t (tab t f) = some (costF t f) := by rw [cost_eq ht (tabT ht hp), costN_tab]
theorem rcost_plan (ht : okT t = true) (hp : PlanF t f) : ref07_cost t (tab t f) = some (costF t f) := by rw [rcost_eq ht (tabT ht hp), costN_tab]
theorem costR_plan (ht : okT t = true) (hp : PlanF t f) : costR t (tab t f) = (costF t f, 0) := by
  unfold costR
  rw [if_pos (plan_check ht hp), costN_tab]
theorem Least_ok (hs : Tsmall t) (ht : okT t = true) : ∃ c, IsLeast t c ∧ bulk_Least t = some (c, 0) ∧ ref07_Least t = some (c, 0) := by
  obtain ⟨g, d, hp, hst, hb⟩ := best_eq ht
  obtain ⟨g', hg', hb'⟩ := rbest_eq ht
  have hg := hst.best hp
  refine ⟨costF t g, ⟨g, hg, rfl⟩, ?_, ?_⟩
  · unfold bulk_Least
    rw [bnd_eq (Validate_eq hs), val0 ht, if_pos rfl, bnd_eq hb]
    show bnd (bulk_cost t (tab t g)) _ = _
    rw [bnd_eq (cost_plan ht hp)]
  · unfold ref07_Least
    rw [bnd_eq (rValidate_eq hs), val0 ht, if_pos rfl, bnd_eq hb', bnd_eq (rcost_plan ht hg'.plan), hg'.same hg]
end
section
variable {t : Trade} {f : Nat → Nat → Int} {c : Int}
end
end Go.D7

set_option linter.unusedVariables false
set_option linter.unusedSimpArgs false
namespace Go.D7
open Go.Tb
section
variable {t : Trade}
theorem cost_tbl (ht : okT t = true) : t.cost = tbl t.supply.length t.demand.length (cc t) := by
  obtain ⟨c1, c2⟩ := tab_spec (okT_spec ht).2.2.2
  apply List.ext_getElem?
  intro i
  by_cases hi : i < t.supply.length
  · have := c2 i (by omega)
    rw [tbl_at hi, gr_at (by omega)]
    congr 1
    conv => lhs; rw [← tb_self (gr t.cost i), this.1]
    rfl
  · rw [List.getElem?_eq_none (by omega), List.getElem?_eq_none (by rw [tbl_len]; omega)]
theorem Same_self (hs : Tsmall t) : ref07_Same t t = some true := by
  unfold ref07_Same
  have := hs.1
  have := hs.2.1
  rw [bnd_eq (SameInts_self (by omega)), if_pos rfl, bnd_eq (SameInts_self (by omega)), if_pos rfl, bnd_eq (SameTables_self ⟨hs.2.2.1, hs.2.2.2⟩)]
theorem none_small : Tsmall ⟨[], [], []⟩ := ⟨by simp, by simp, by simp, by simp⟩
end
end Go.D7

set_option linter.unusedVariables false
set_option linter.unusedSimpArgs false
namespace Go.D7
open Go.Tb
/-- A trade with stores and buyers exchanged. -/
def tr (t : Trade) : Trade := ⟨t.demand, t.supply, tbl t.demand.length t.supply.length fun k i => cc t i k⟩
section
variable {t : Trade}
theorem tr_small (hs : Tsmall t) : Tsmall (tr t) := by
  have h := tbl_small hs.2.1 hs.1 fun k i => cc t i k
  exact ⟨hs.2.1, hs.1, h.1, h.2⟩
theorem tabB_tbl {T : Trade} {c : Nat → Nat → Int} {most : Int} (h : ∀ i j, i < T.supply.length → j < T.demand.length → 0 ≤ c i j ∧ c i j ≤ most) : tabB T (tbl T.supply.length T.demand.length c) most = true := by
  unfold tabB
  rw [tbl_len, decide_eq_true rfl, Bool.true_and, List.all_eq_true]
  intro r hr
  unfold tbl tg at hr
  obtain ⟨i, hi, rfl⟩ := List.mem_map.1 hr
  unfold rowB
  rw [tb_len, decide_eq_true rfl, Bool.true_and, List.all_eq_true]
  intro x hx
  unfold tb at hx
  obtain ⟨j, hj, rfl⟩ := List.mem_map.1 hx
  exact within_iff.2 (h i j (List.mem_range.1 hi) (List.mem_range.1 hj))
theorem tr_ok (ht : okT t = true) : okT (tr t) = true := by
  have h := ht
  unfold okT at h ⊢
  simp only [Bool.and_eq_true, decide_eq_true_eq] at h ⊢
  refine ⟨⟨⟨h.1.1.2, h.1.1.1⟩, h.1.2.symm⟩, ?_⟩
  exact tabB_tbl (T := tr t) fun i j hi hj => cost_pos ht hj hi
theorem tr_cc {i j : Nat} (hi : i < t.supply.length) (hj : j < t.demand.length) : cc (tr t) j i = cc t i j := tbl_cell hj hi
theorem tr_plan {f : Nat → Nat → Int} (h : PlanF t f) : PlanF (tr t) (fun j i => f i j) := ⟨fun i j => h.nn j i, h.col, h.row⟩
theorem tr_cost (f : Nat → Nat → Int) : costF (tr t) (fun j i => f i j) = costF t f := by
  unfold costF
  show sumN t.demand.length (fun j => sumN t.supply.length fun i => f i j * cc (tr t) j i) = _
  rw [sumN_swap (fun j i => f i j * cc (tr t) j i) t.supply.length t.demand.length]
  exact sumN_congr _ fun i hi => sumN_congr _ fun j hj => by rw [tr_cc hi hj]
theorem tr_best {f : Nat → Nat → Int} (h : BestF t f) : BestF (tr t) (fun j i => f i j) := by
  obtain ⟨p, q, hc⟩ := h.cert
  refine ⟨tr_plan h.plan, q, p, fun j i hj hi => ?_, fun j i hj hi h0 => ?_⟩
  · rw [tr_cc hi hj]
    have := hc.le i j hi hj
    omega
  · rw [tr_cc hi hj]
    have := hc.eq i j hi hj h0
    omega
theorem Turned_eq {n m : Nat} (hn : 1 ≤ n ∧ n ≤ 50) (hm : m ≤ 50) (f : Nat → Nat → Int) : ref07_Turned (tbl n m f) = some (tbl m n fun k i => f i k) := by
  unfold ref07_Turned
  have r0 : (tbl n m f)[0]? = some (tb m (f 0)) := tbl_at (by omega)
  refine for0 m (fun k => tg k fun k => tb n fun i => f i k) (fun k s j => ref07_Turned_L2 (tbl n m f) k j s) _ rfl (fun k j hj => ?_) (fun k => ?_) (by omega)
  · show ref07_Turned_B2 (tbl n m f) (ref07_Turned_L2 (tbl n m f) k) _ _ = _
    unfold ref07_Turned_B2 ref07_Turned_k4
    rw [if_pos (by rw [tbl_len]; omega), ix0 r0, decide_eq_true (by rw [tb_len]; omega), if_pos rfl]
    refine Eq.trans (for0 n (fun i => tb i fun i => f i j) (fun q s i => ref07_Turned_L1 (tbl n m f) (j : Int) (tg j fun k => tb n fun i => f i k) (ref07_Turned_L2 (tbl n m f) k) q i s) (ref07_Turned_k3 (j : Int) (tg j fun k => tb n fun i => f i k) (ref07_Turned_L2 (tbl n m f) k) (tb n fun i => f i j)) rfl (fun q i hi => ?_) (fun q => ?_) (by omega)) ?_
    · have r : (tbl n m f)[i]? = some (tb m (f i)) := tbl_at hi
      show ref07_Turned_B1 (tbl n m f) (j : Int) (tg j fun k => tb n fun i => f i k) (ref07_Turned_L2 (tbl n m f) k) (ref07_Turned_L1 (tbl n m f) (j : Int) (tg j fun k => tb n fun i => f i k) (ref07_Turned_L2 (tbl n m f) k) q) _ _ = _
      unfold ref07_Turned_B1
      rw [if_pos (by rw [tbl_len]; omega), ix_nat r, ix_nat (tb_at hj), gd_pos (by rw [tb_len]; simp; omega), gd_pos (by omega)]
      exact congrArg (ref07_Turned_L1 (tbl n m f) (j : Int) (tg j fun k => tb n fun i => f i k) (ref07_Turned_L2 (tbl n m f) k) q _) (tg_push i fun i => f i j)
    · show ref07_Turned_B1 (tbl n m f) (j : Int) (tg j fun k => tb n fun i => f i k) (ref07_Turned_L2 (tbl n m f) k) (ref07_Turned_L1 (tbl n m f) (j : Int) (tg j fun k => tb n fun i => f i k) (ref07_Turned_L2 (tbl n m f) k) q) _ _ = _
      unfold ref07_Turned_B1
      rw [if_neg (by rw [tbl_len]; omega)]
    · unfold ref07_Turned_k3 ref07_Turned_k2
      rw [gd_pos (by rw [tg_len]; omega), gd_pos (by omega)]
      exact congrArg (ref07_Turned_L2 (tbl n m f) k _) (tg_push j fun k => tb n fun i => f i k)
  · show ref07_Turned_B2 (tbl n m f) (ref07_Turned_L2 (tbl n m f) k) _ _ = _
    unfold ref07_Turned_B2 ref07_Turned_k4
    rw [if_pos (by rw [tbl_len]; omega), ix0 r0, decide_eq_false (by rw [tb_len]; omega), if_neg (by simp)]; rfl
def turnR (t : Trade) : Trade × Int := if okT t = true then (tr t, 0) else (⟨[], [], []⟩, 1)
theorem Turn_eq (hs : Tsmall t) : bulk_Turn t = some (turnR t) ∧ ref07_Turn t = some (turnR t) := by
  unfold bulk_Turn ref07_Turn turnR
  rw [bnd_eq (Validate_eq hs), bnd_eq (rValidate_eq hs)]
  by_cases hv : okT t = true
  · have hsl := (okT_spec hv).1
    have hdl := (okT_spec hv).2.1
    obtain ⟨c1, c2⟩ := tab_spec (okT_spec hv).2.2.2
    have ca : ∀ i, i < t.supply.length → t.cost[i]? = some (gr t.cost i) := fun i hi => gr_at (by omega)
    have cx : ∀ i j, i < t.supply.length → j < t.demand.length → (gr t.cost i)[j]? = some (cc t i j) := fun i j hi hj => gi_at (by have := (c2 i (by omega)).1; omega)
    rw [val0 hv, if_pos rfl, if_pos rfl, if_pos hv]
    constructor
    · rw [bnd_eq (clone_eq (by omega)), bnd_eq (clone_eq (by omega))]
      unfold bulk_Turn_k4
      refine for0 t.demand.length (fun k => tg k fun k => tb t.supply.length fun i => cc t i k) (fun k s j => bulk_Turn_L2 t t.demand t.supply k j s) _ rfl (fun k j hj => ?_) (fun k => ?_) (by omega)
      · show bulk_Turn_B2 t t.demand t.supply (bulk_Turn_L2 t t.demand t.supply k) _ _ = _
        unfold bulk_Turn_B2
        rw [if_pos (by omega)]
        refine Eq.trans (for0 t.supply.length (fun i => tb i fun i => cc t i j) (fun q s i => bulk_Turn_L1 t (j : Int) (tg j fun k => tb t.supply.length fun i => cc t i k) (bulk_Turn_L2 t t.demand t.supply k) q i s) (bulk_Turn_k3 (j : Int) (tg j fun k => tb t.supply.length fun i => cc t i k) (bulk_Turn_L2 t t.demand t.supply k) (tb t.supply.length fun i => cc t i j)) rfl (fun q i hi => ?_) (fun q => ?_) (by omega)) ?_
        · show bulk_Turn_B1 t (j : Int) (tg j fun k => tb t.supply.length fun i => cc t i k) (bulk_Turn_L2 t t.demand t.supply k) (bulk_Turn_L1 t (j : Int) (tg j fun k => tb t.supply.length fun i => cc t i k) (bulk_Turn_L2 t t.demand t.supply k) q) _ _ = _
          unfold bulk_Turn_B1
          rw [if_pos (by omega), ix_nat (ca i hi), ix_nat (cx i j hi hj), gd_pos (by rw [tb_len]; simp; omega), gd_pos (by omega)]
          exact congrArg (bulk_Turn_L1 t (j : Int) (tg j fun k => tb t.supply.length fun i => cc t i k) (bulk_Turn_L2 t t.demand t.supply k) q _) (tg_push i fun i => cc t i j)
        · show bulk_Turn_B1 t (j : Int) (tg j fun k => tb t.supply.length fun i => cc t i k) (bulk_Turn_L2 t t.demand t.supply k) (bulk_Turn_L1 t (j : Int) (tg j fun k => tb t.supply.length fun i => cc t i k) (bulk_Turn_L2 t t.demand t.supply k) q) _ _ = _
          unfold bulk_Turn_B1
          rw [if_neg (by omega)]
        · unfold bulk_Turn_k3 bulk_Turn_k2
          rw [gd_pos (by rw [tg_len]; omega), gd_pos (by omega)]
          exact congrArg (bulk_Turn_L2 t t.demand t.supply k _) (tg_push j fun k => tb t.supply.length fun i => cc t i k)
      · show bulk_Turn_B2 t t.demand t.supply (bulk_Turn_L2 t t.demand t.supply k) _ _ = _
        unfold bulk_Turn_B2
        rw [if_neg (by omega)]; rfl
    · rw [gd_pos (by simp; omega), gd_pos (by simp; omega)]
      unfold ref07_Turn_k1
      rw [cost_tbl hv, bnd_eq (Turned_eq ⟨by omega, by omega⟩ (by omega) _)]; rfl
  · rw [val1 hv, if_neg hv]; exact ⟨if_neg (by decide), if_neg (by decide)⟩
end
theorem law_BulkTurns (t : Trade) (l : List (List Int)) (h3 : t.cost.length ≤ 9223372036854775807) (h4 : l.length ≤ 9223372036854775807) : law07_BulkTurns t l = some true := by
  unfold law07_BulkTurns
  rcases Long1 (t := t) (l := l) h3 h4 with h | ⟨h, ht, hl⟩
  · rw [bnd_eq h, if_pos rfl, bnd_eq sane_eq]
  · obtain ⟨e1, e2⟩ := Turn_eq ht
    have hsm : Tsmall (turnR t).1 := by
      unfold turnR
      split
      · exact tr_small ht
      · exact none_small
    rw [bnd_eq h, if_neg (by simp), bnd_eq e1, bnd_eq e2, bnd_eq (Same_self hsm), if_pos rfl]
    unfold law07_BulkTurns_k2
    rw [if_neg (by simp)]
    by_cases hv : okT t = true
    · have e : turnR t = (tr t, 0) := if_pos hv
      obtain ⟨c, k1, k2, _⟩ := Least_ok ht hv
      obtain ⟨c', l1, l2, _⟩ := Least_ok (tr_small ht) (tr_ok hv)
      have ce_ : c' = c := by
        obtain ⟨g, hg, rfl⟩ := k1
        rw [l1.eq (tr_best hg), tr_cost]
      rw [e, if_pos rfl]
      show bnd (bulk_Least (tr t)) _ = _
      rw [bnd_eq l2, bnd_eq k2, if_pos rfl, if_pos rfl, decide_eq_true ce_]
      unfold law07_BulkTurns_k1
      rw [if_neg (by simp), bnd_eq (CheckPlan_eq ht hl)]
      by_cases hc : checkPlan t l = 0
      · obtain ⟨_, f, hp, rfl⟩ := check_plan hc
        have hsl := (okT_spec hv).1
        have hdl := (okT_spec hv).2.1
        rw [if_pos hc]
        show bnd (ref07_Turned (tbl t.supply.length t.demand.length f)) _ = _
        rw [bnd_eq (Turned_eq ⟨by omega, by omega⟩ (by omega) f)]
        show bnd (bulk_Cost (tr t) (tab (tr t) fun k i => f i k)) _ = _
        rw [bnd_eq (Cost_eq (tr_small ht) (tab_small (tr_small ht).1 (tr_small ht).2.1 _)), costR_plan (tr_ok hv) (tr_plan hp)]
        show bnd (bulk_Cost t (tab t f)) _ = _
        rw [bnd_eq (Cost_eq ht hl), costR_plan hv hp, if_pos rfl, if_pos rfl, if_pos (tr_cost f), bnd_eq sane_eq]
      · rw [if_neg hc, bnd_eq sane_eq]
    · have e : turnR t = (⟨[], [], []⟩, 1) := if_neg hv
      rw [e, if_neg (by decide), bnd_eq sane_eq]
end Go.D7
