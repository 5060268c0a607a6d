/- Lemmas and walks that the proof of this claim uses: D7qB, D7qC, D7qD, D7q9, D7qE. -/
import Derived.Test.YtmmefcihahcchaaBulkMerges6
set_option linter.unusedVariables false
set_option linter.unusedSimpArgs false
namespace Go.D7
open Go.Tb
section
variable {t : Trade}
theorem cost_tbl (ht : okT t = true) : t.cost = tbl t.supply.length t.demand.length (cc t) := by
  obtain ⟨c1, c2⟩ := tab_spec (okT_spec ht).2.2.2
  apply List.ext_getElem?
  intro i
  by_cases hi : i < t.supply.length
  · have := c2 i (by omega)
    rw [tbl_at hi, gr_at (by omega)]
    congr 1
    conv => lhs; rw [← tb_self (gr t.cost i), this.1]
    rfl
  · rw [List.getElem?_eq_none (by omega), List.getElem?_eq_none (by rw [tbl_len]; omega)]
theorem copied_eq (hs : Tsmall t) : bulk_copied t = some t := by
  unfold bulk_copied
  have := hs.1
  have := hs.2.1
  rw [bnd_eq (clone_eq (by omega)), bnd_eq (clone_eq (by omega)), bnd_eq (clone_tab ⟨hs.2.2.1, hs.2.2.2⟩)]
theorem Same_self (hs : Tsmall t) : ref07_Same t t = some true := by
  unfold ref07_Same
  have := hs.1
  have := hs.2.1
  rw [bnd_eq (SameInts_self (by omega)), if_pos rfl, bnd_eq (SameInts_self (by omega)), if_pos rfl, bnd_eq (SameTables_self ⟨hs.2.2.1, hs.2.2.2⟩)]
theorem none_small : Tsmall ⟨[], [], []⟩ := ⟨by simp, by simp, by simp, by simp⟩
end
end Go.D7

set_option linter.unusedVariables false
set_option linter.unusedSimpArgs false
namespace Go.D7
open Go.Tb
section
variable {t : Trade}
theorem tabB_tbl {T : Trade} {c : Nat → Nat → Int} {most : Int} (h : ∀ i j, i < T.supply.length → j < T.demand.length → 0 ≤ c i j ∧ c i j ≤ most) : tabB T (tbl T.supply.length T.demand.length c) most = true := by
  unfold tabB
  rw [tbl_len, decide_eq_true rfl, Bool.true_and, List.all_eq_true]
  intro r hr
  unfold tbl tg at hr
  obtain ⟨i, hi, rfl⟩ := List.mem_map.1 hr
  unfold rowB
  rw [tb_len, decide_eq_true rfl, Bool.true_and, List.all_eq_true]
  intro x hx
  unfold tb at hx
  obtain ⟨j, hj, rfl⟩ := List.mem_map.1 hx
  exact within_iff.2 (h i j (List.mem_range.1 hi) (List.mem_range.1 hj))
end
end Go.D7

set_option linter.unusedVariables false
set_option linter.unusedSimpArgs false
namespace Go.D7
open Go.Tb
section
variable {t o : Trade}
/-- Two trades with the same ways. -/
def Alike (t o : Trade) : Prop := t.supply.length = o.supply.length ∧ t.demand.length = o.demand.length ∧ t.cost = o.cost
instance (t o : Trade) : Decidable (Alike t o) := by unfold Alike; infer_instance
end
end Go.D7

set_option linter.unusedVariables false
set_option linter.unusedSimpArgs false
namespace Go.D7
open Go.Tb
def fairRow (t : Trade) (p : Prices) (i : Nat) (j : Nat) : Bool := decide (gi p.stores i + gi p.buyers j ≤ cc t i j)
def fairB (t : Trade) (p : Prices) : Prop := ∀ i, i < t.supply.length → decide (∀ j, j < t.demand.length → fairRow t p i j = true) = true
instance (t : Trade) (p : Prices) : Decidable (fairB t p) := by unfold fairB; infer_instance
section
variable {t : Trade} {p : Prices}
end
theorem tb_push (m : Nat) (f : Nat → Int) : tb m f ++ [f m] = tb (m + 1) f := tg_push m f
section
variable {t : Trade}
end
end Go.D7

set_option linter.unusedVariables false
set_option linter.unusedSimpArgs false
namespace Go.D7
open Go.Tb
section
variable {t : Trade} {f : Nat → Nat → Int} {c : Int}
end
def sk (j k : Nat) : Nat := if k < j then k else k + 1
def tk_ (j k : Nat) : Nat := if k ≤ j then k else k - 1
theorem sk_tk {j k : Nat} (h : k ≠ j) : sk j (tk_ j k) = k := by
  unfold sk tk_
  by_cases h1 : k ≤ j
  · rw [if_pos h1, if_pos (by omega)]
  · rw [if_neg h1, if_neg (by omega)]; omega
theorem tg_del {α : Type} {n j : Nat} (hj : j < n) (g : Nat → α) : (tg n g).take j ++ (tg n g).drop (j + 1) = tg (n - 1) fun k => g (sk j k) := by
  apply List.ext_getElem?
  intro k
  have hl : (tg n g).length = n := tg_len _ _
  by_cases hk : k < n - 1
  · rw [tg_at hk]
    by_cases h1 : k < j
    · rw [List.getElem?_append_left (by rw [List.length_take, hl]; omega), List.getElem?_take, if_pos h1, tg_at (by omega)]
      unfold sk; rw [if_pos h1]
    · rw [List.getElem?_append_right (by rw [List.length_take, hl]; omega), List.getElem?_drop, List.length_take, hl, show j + 1 + (k - min j n) = k + 1 by omega, tg_at (by omega)]
      unfold sk; rw [if_neg h1]
  · rw [List.getElem?_eq_none (by rw [List.length_append, List.length_take, List.length_drop, hl]; omega), List.getElem?_eq_none (by rw [tg_len]; omega)]
theorem sumN_del {h : Nat → Int} {j : Nat} : ∀ {n : Nat}, j < n → sumN (n - 1) (fun k => h (sk j k)) = sumN n h - h j
  | n + 1, hj => by
    by_cases e : j = n
    · subst e
      have : sumN j (fun k => h (sk j k)) = sumN j h := sumN_congr _ fun k hk => by unfold sk; rw [if_pos hk]
      show sumN j (fun k => h (sk j k)) = sumN j h + h j - h j
      rw [this]; omega
    · have ih := sumN_del (h := h) (n := n) (j := j) (by omega)
      obtain ⟨n, rfl⟩ : ∃ q, n = q + 1 := ⟨n - 1, by omega⟩
      have e1 : sumN (n + 1) (fun k => h (sk j k)) = sumN n (fun k => h (sk j k)) + h (sk j n) := rfl
      have e2 : sumN (n + 1 + 1) h = sumN (n + 1) h + h (n + 1) := rfl
      have e3 : sk j n = n + 1 := by unfold sk; rw [if_neg (by omega)]
      have ih' : sumN n (fun k => h (sk j k)) = sumN (n + 1) h - h j := ih
      show sumN (n + 1) (fun k => h (sk j k)) = sumN (n + 1 + 1) h - h j
      rw [e1, e2, e3, ih']; omega
def mS (t : Trade) (i j k : Nat) : Int := if k = i then gi t.supply i + gi t.supply j else gi t.supply k
def mC (t : Trade) (i j k b : Nat) : Int := if k = i then min (cc t i b) (cc t j b) else cc t k b
def mgT (t : Trade) (i j : Nat) : Trade := ⟨tb (t.supply.length - 1) fun k => mS t i j (sk j k), t.demand, tbl (t.supply.length - 1) t.demand.length fun k => mC t i j (sk j k)⟩
def mergeR (t : Trade) (a b : Int) : Trade × Int :=
  if okT t = true then
    if within a 0 ((t.supply.length : Int) - 1) = true then
      if within b 0 ((t.supply.length : Int) - 1) = true then
        if a = b then (⟨[], [], []⟩, 1) else if (30 : Int) < gi t.supply a.toNat + gi t.supply b.toNat then (⟨[], [], []⟩, 3) else (mgT t a.toNat b.toNat, 0)
      else (⟨[], [], []⟩, 4)
    else (⟨[], [], []⟩, 4)
  else (⟨[], [], []⟩, 1)
section
variable {t : Trade}
def mK (t : Trade) (i j q k b : Nat) : Int := if k = i ∧ b < q then min (cc t i b) (cc t j b) else cc t k b
theorem mK_set {i : Nat} (hi : i < t.supply.length) (j q : Nat) : (tbl t.supply.length t.demand.length (mK t i j q)).set i ((tb t.demand.length (mK t i j q i)).set q (min (cc t i q) (cc t j q))) = tbl t.supply.length t.demand.length (mK t i j (q + 1)) := by
  rw [tbl_set hi]
  refine tbl_congr fun a b _ _ => ?_
  unfold mK
  by_cases h : a = i ∧ b = q
  · rw [if_pos h, if_pos ⟨h.1, by omega⟩, h.2]
  · rw [if_neg h]
    by_cases h2 : a = i ∧ b < q
    · rw [if_pos h2, if_pos ⟨h2.1, by omega⟩]
    · rw [if_neg h2, if_neg (fun h3 => by
        by_cases e : b = q
        · exact h ⟨h3.1, e⟩
        · exact h2 ⟨h3.1, by omega⟩)]
theorem mg_small (hs : Tsmall t) (i j : Nat) : Tsmall (mgT t i j) := by
  have h := tbl_small (n := t.supply.length - 1) (by have := hs.1; omega) hs.2.1 fun k => mC t i j (sk j k)
  exact ⟨by show (tb _ _).length ≤ 50; rw [tb_len]; have := hs.1; omega, hs.2.1, h.1, h.2⟩
theorem mg_cc {i j k b : Nat} (hk : k < t.supply.length - 1) (hb : b < t.demand.length) : cc (mgT t i j) k b = mC t i j (sk j k) b := tbl_cell hk hb
theorem mg_ok (ht : okT t = true) {i j : Nat} (hi : i < t.supply.length) (hj : j < t.supply.length) (hij : i ≠ j) : okT (mgT t i j) = decide (gi t.supply i + gi t.supply j ≤ 30) := by
  have h1 := (okT_spec ht).1
  have h2 := okT_spec ht
  have len : (mgT t i j).supply.length = t.supply.length - 1 := tb_len _ _
  have e3 : tabB (mgT t i j) (mgT t i j).cost 99 = true := by
    have := tabB_tbl (T := mgT t i j) (c := fun k => mC t i j (sk j k)) (most := 99) (fun k b hk hb => by
      rw [len] at hk
      have hb' : b < t.demand.length := hb
      have hsk : sk j k < t.supply.length := by unfold sk; split <;> omega
      have c1 := cost_pos ht hi hb'
      have c2 := cost_pos ht hj hb'
      have c3 := cost_pos ht hsk hb'
      unfold mC
      split <;> omega)
    rw [len] at this
    exact this
  have e1 : tot (mgT t i j).supply = tot t.supply := by
    rw [tot_sumN, tot_sumN, len]
    have a : sumN (t.supply.length - 1) (gi (mgT t i j).supply) = sumN (t.supply.length - 1) (fun k => mS t i j (sk j k)) := sumN_congr _ fun k hk => tb_gi hk
    have b := sumN_del (h := mS t i j) hj
    have c := sumN_upd (g := gi t.supply) (k := i) (v := gi t.supply i + gi t.supply j) t.supply.length
    rw [if_pos hi] at c
    have d : sumN t.supply.length (mS t i j) = sumN t.supply.length (fun q => if q = i then gi t.supply i + gi t.supply j else gi t.supply q) := rfl
    have e : mS t i j j = gi t.supply j := by unfold mS; rw [if_neg (Ne.symm hij)]
    rw [a, b, d, c, e]; omega
  have e2 : amtB (mgT t i j).supply = decide (gi t.supply i + gi t.supply j ≤ 30) := by
    rw [Bool.eq_iff_iff, decide_eq_true_eq]
    unfold amtB
    simp only [Bool.and_eq_true, decide_eq_true_eq, List.all_eq_true, within_iff]
    rw [len]
    have si := supply_bnd ht hi
    have sj := supply_bnd ht hj
    constructor
    · rintro ⟨_, h⟩
      have hk : tk_ j i < t.supply.length - 1 := by unfold tk_; split <;> omega
      have := h (mS t i j (sk j (tk_ j i))) (List.mem_of_getElem? (tb_at hk))
      rw [sk_tk hij] at this
      unfold mS at this
      rw [if_pos rfl] at this
      exact this.2
    · intro h
      refine ⟨⟨by omega, by omega⟩, fun x hx => ?_⟩
      have hx' : x ∈ tb (t.supply.length - 1) (fun k => mS t i j (sk j k)) := hx
      unfold tb at hx'
      obtain ⟨k, hk, rfl⟩ := List.mem_map.1 hx'
      have hk := List.mem_range.1 hk
      have hsk : sk j k < t.supply.length := by unfold sk; split <;> omega
      have := supply_bnd ht hsk
      unfold mS
      split <;> omega
  have e4 : amtB t.demand = true := by
    have h := ht
    unfold okT at h
    simp only [Bool.and_eq_true] at h
    exact h.1.1.2
  unfold okT
  rw [e2, e3, e1, show (mgT t i j).demand = t.demand from rfl, e4, decide_eq_true h2.2.2.1]
  cases decide (gi t.supply i + gi t.supply j ≤ 30) <;> rfl
theorem Merge_eq (hs : Tsmall t) (a b : Int) : bulk_Merge t a b = some (mergeR t a b) := by
  unfold bulk_Merge mergeR
  rw [bnd_eq (Validate_eq hs)]
  have hs1 := hs.1
  have yes : bulk_Merge_k2 t a b true = some (⟨[], [], []⟩, 4) := by unfold bulk_Merge_k2; rw [if_pos rfl]
  by_cases hv : okT t = true
  · rw [val0 hv, if_pos rfl, if_pos hv, gd_pos (by omega), bnd_eq (bwithin_eq _ _ _)]
    by_cases hw : within a 0 ((t.supply.length : Int) - 1) = true
    · rw [if_pos hw, if_pos hw, gd_pos (by omega), bnd_eq (bwithin_eq _ _ _)]
      by_cases hb : within b 0 ((t.supply.length : Int) - 1) = true
      · obtain ⟨w1, w2⟩ := within_iff.1 hw
        obtain ⟨w3, w4⟩ := within_iff.1 hb
        obtain ⟨i, rfl⟩ : ∃ s : Nat, a = (s : Int) := ⟨a.toNat, by omega⟩
        obtain ⟨j, rfl⟩ : ∃ s : Nat, b = (s : Int) := ⟨b.toNat, by omega⟩
        have hi : i < t.supply.length := by omega
        have hj : j < t.supply.length := by omega
        rw [hb, if_pos rfl, show Int.toNat (i : Int) = i from rfl, show Int.toNat (j : Int) = j from rfl]
        unfold bulk_Merge_k2
        rw [if_neg (by simp)]
        by_cases hij : (i : Int) = (j : Int)
        · rw [if_pos hij, if_pos hij]
        · have hij' : i ≠ j := by omega
          have si := supply_bnd hv hi
          have sj := supply_bnd hv hj
          have hdl := (okT_spec hv).2.1.2.1
          have hsl := (okT_spec hv).1.2.1
          obtain ⟨c1, c2⟩ := tab_spec (okT_spec hv).2.2.2
          have ge : t.cost[i]? = some (gr t.cost i) := gr_at (by omega)
          have gl := (c2 i (by omega)).1
          rw [if_neg hij, if_neg hij, bnd_eq (copied_eq hs), ix_nat (gi_at hi), ix_nat (gi_at hj), gd_pos (by omega), ix_nat (gi_at hi), show Int.toNat (i : Int) = i from rfl, ix_nat (x := gi t.supply i + gi t.supply j) (by rw [List.getElem?_set_self hi])]
          by_cases h30 : (30 : Int) < gi t.supply i + gi t.supply j
          · rw [if_pos h30, if_pos h30]
          · rw [if_neg h30, if_neg h30, ix_nat ge]
            have row : ∀ q, (tbl t.supply.length t.demand.length (mK t i j q))[i]? = some (tb t.demand.length (mK t i j q i)) := fun q => tbl_at hi
            have rowj : ∀ q, (tbl t.supply.length t.demand.length (mK t i j q))[j]? = some (tb t.demand.length (mK t i j q j)) := fun q => tbl_at hj
            have el : ∀ q, q < t.demand.length → (tb t.demand.length (mK t i j q i))[q]? = some (cc t i q) := fun q hq => by
              rw [tb_at hq]; unfold mK; rw [if_neg (by omega)]
            have elj : ∀ q, q < t.demand.length → (tb t.demand.length (mK t i j q j))[q]? = some (cc t j q) := fun q hq => by
              rw [tb_at hq]; unfold mK; rw [if_neg (by omega)]
            refine Eq.trans (for0 t.demand.length (fun q => tbl t.supply.length t.demand.length (mK t i j q)) (fun k x q => bulk_Merge_L1 (i : Int) (j : Int) t (gi t.supply i) (gi t.supply j) (gr t.cost i) k q x) (bulk_Merge_k1 (i : Int) (j : Int) t (gi t.supply i) (gi t.supply j) (tbl t.supply.length t.demand.length (mC t i j))) (s0 := t.cost) ?_ (fun k q hq => ?_) (fun k => ?_) (by omega)) ?_
            · show tbl _ _ _ = _
              conv => rhs; rw [cost_tbl hv]
              exact tbl_congr fun a b _ _ => by unfold mK; rw [if_neg (by omega)]
            · show bulk_Merge_B1 (i : Int) (j : Int) t (gi t.supply i) (gi t.supply j) (gr t.cost i) (bulk_Merge_L1 (i : Int) (j : Int) t (gi t.supply i) (gi t.supply j) (gr t.cost i) k) _ _ = _
              unfold bulk_Merge_B1
              rw [if_pos (by omega), ix_nat (row q), ix_nat (row q), ix_nat (el q hq), ix_nat (rowj q), ix_nat (elj q hq), ix_nat (el q hq), gd_pos (by omega), show Int.toNat (i : Int) = i from rfl, show Int.toNat (q : Int) = q from rfl, mK_set hi]; rfl
            · show bulk_Merge_B1 (i : Int) (j : Int) t (gi t.supply i) (gi t.supply j) (gr t.cost i) (bulk_Merge_L1 (i : Int) (j : Int) t (gi t.supply i) (gi t.supply j) (gr t.cost i) k) _ _ = _
              unfold bulk_Merge_B1
              rw [if_neg (by omega)]
              congr 1
              refine tbl_congr fun a b _ hb => ?_
              unfold mK mC
              by_cases h : a = i
              · rw [if_pos ⟨h, hb⟩, if_pos h]
              · rw [if_neg (fun h2 => h h2.1), if_neg h]
            · unfold bulk_Merge_k1
              have sup : t.supply.set i (gi t.supply i + gi t.supply j) = tg t.supply.length (mS t i j) := by
                have h := tb_set (m := t.supply.length) (f := gi t.supply) (k := i) (gi t.supply i + gi t.supply j)
                rw [tb_self] at h
                exact h.trans (tb_congr fun q _ => rfl)
              have d1 : slices_Delete_int (t.supply.set i (gi t.supply i + gi t.supply j)) (j : Int) ((j : Int) + 1) = some (tb (t.supply.length - 1) fun k => mS t i j (sk j k)) := by
                unfold slices_Delete_int
                rw [gd_pos (by rw [List.length_set]; omega), sup, show Int.toNat (j : Int) = j from rfl, show Int.toNat ((j : Int) + 1) = j + 1 by omega, tg_del hj]; rfl
              have d2 : slices_Delete_int_int (tbl t.supply.length t.demand.length (mC t i j)) (j : Int) ((j : Int) + 1) = some (tbl (t.supply.length - 1) t.demand.length fun k => mC t i j (sk j k)) := by
                unfold slices_Delete_int_int
                rw [gd_pos (by rw [tbl_len]; omega), show Int.toNat (j : Int) = j from rfl, show Int.toNat ((j : Int) + 1) = j + 1 by omega]
                unfold tbl
                rw [tg_del hj]
              rw [show Int.toNat (i : Int) = i from rfl, gd_pos (by omega), bnd_eq d1, gd_pos (by omega), bnd_eq d2]; rfl
      · cases hb' : within b 0 ((t.supply.length : Int) - 1)
        · rw [if_neg (by simp)]
          exact yes
        · exact absurd hb' hb
    · rw [if_neg hw, yes, if_neg hw]
  · rw [val1 hv, if_neg (by decide), if_neg hv]
theorem rMerge_eq (hs : Tsmall t) (a b : Int) : ref07_Merge t a b = some (mergeR t a b) := by
  unfold ref07_Merge mergeR
  rw [bnd_eq (rValidate_eq hs)]
  have hs1 := hs.1
  have hs2 := hs.2.1
  have yes : ref07_Merge_k4 t a b true = some (⟨[], [], []⟩, 4) := by unfold ref07_Merge_k4; rw [if_pos rfl]
  by_cases hv : okT t = true
  · rw [val0 hv, if_pos rfl, if_pos hv, gd_pos (by omega), bnd_eq (rwithin_eq _ _ _)]
    by_cases hw : within a 0 ((t.supply.length : Int) - 1) = true
    · rw [if_pos hw, if_pos hw, gd_pos (by omega), bnd_eq (rwithin_eq _ _ _)]
      by_cases hb : within b 0 ((t.supply.length : Int) - 1) = true
      · obtain ⟨w1, w2⟩ := within_iff.1 hw
        obtain ⟨w3, w4⟩ := within_iff.1 hb
        obtain ⟨i, rfl⟩ : ∃ s : Nat, a = (s : Int) := ⟨a.toNat, by omega⟩
        obtain ⟨j, rfl⟩ : ∃ s : Nat, b = (s : Int) := ⟨b.toNat, by omega⟩
        have hi : i < t.supply.length := by omega
        have hj : j < t.supply.length := by omega
        rw [hb, if_pos rfl, show Int.toNat (i : Int) = i from rfl, show Int.toNat (j : Int) = j from rfl]
        unfold ref07_Merge_k4
        rw [if_neg (by simp)]
        by_cases hij : (i : Int) = (j : Int)
        · rw [if_pos hij, if_pos hij]
        · have hij' : i ≠ j := by omega
          have si := supply_bnd hv hi
          have sj := supply_bnd hv hj
          have hdl := (okT_spec hv).2.1.2.1
          have hsl := (okT_spec hv).1.2.1
          obtain ⟨c1, c2⟩ := tab_spec (okT_spec hv).2.2.2
          have ca : ∀ k, k < t.supply.length → t.cost[k]? = some (gr t.cost k) := fun k hk => gr_at (by omega)
          have cr : ∀ k, k < t.supply.length → gr t.cost k = tb t.demand.length (cc t k) := fun k hk => by
            conv => lhs; rw [← tb_self (gr t.cost k), (c2 k (by omega)).1]
            rfl
          rw [if_neg hij, if_neg hij, gd_pos (by simp; omega)]
          refine Eq.trans (for0 t.supply.length (fun k => (tb (tk_ j k) (fun q => mS t i j (sk j q)), tg (tk_ j k) (fun q => tb t.demand.length (mC t i j (sk j q))))) (fun k x q => ref07_Merge_L2 t (i : Int) (j : Int) k q x.1 x.2) (ref07_Merge_k1 t (mgT t i j).supply (mgT t i j).cost) (s0 := ([], [])) rfl (fun n2 k hk => ?_) (fun n2 => ?_) (by omega)) ?_
          · show ref07_Merge_B2 t (i : Int) (j : Int) (ref07_Merge_L2 t (i : Int) (j : Int) n2) _ _ _ = _
            unfold ref07_Merge_B2 ref07_Merge_k2
            rw [if_pos (by omega)]
            by_cases hkj : k = j
            · subst hkj
              have e : tk_ k (k + 1) = tk_ k k := by unfold tk_; rw [if_neg (by omega), if_pos (Nat.le_refl _)]; rfl
              rw [if_pos rfl, gd_pos (by omega), e]; rfl
            · have e : tk_ j (k + 1) = tk_ j k + 1 := by
                unfold tk_
                by_cases h1 : k + 1 ≤ j
                · rw [if_pos h1, if_pos (by omega)]
                · rw [if_neg h1]
                  by_cases h2 : k ≤ j
                  · omega
                  · rw [if_neg h2]; omega
              have st := sk_tk (j := j) (k := k) hkj
              have p1 := tb_push (tk_ j k) fun q => mS t i j (sk j q)
              have p2 := tg_push (tk_ j k) fun q => tb t.demand.length (mC t i j (sk j q))
              rw [st, ← e] at p1 p2
              have tkl : tk_ j k ≤ 4 := by unfold tk_; split <;> omega
              have k3 : ∀ (v : Int) (r : List Int), v = mS t i j k → r = tb t.demand.length (mC t i j k) → ref07_Merge_k3 (k : Int) (tb (tk_ j k) fun q => mS t i j (sk j q)) (tg (tk_ j k) fun q => tb t.demand.length (mC t i j (sk j q))) (ref07_Merge_L2 t (i : Int) (j : Int) n2) v r = ref07_Merge_L2 t (i : Int) (j : Int) n2 ((k + 1 : Nat) : Int) (tb (tk_ j (k + 1)) fun q => mS t i j (sk j q)) (tg (tk_ j (k + 1)) fun q => tb t.demand.length (mC t i j (sk j q))) := by
                intro v r hv' hr'
                subst hv' hr'
                unfold ref07_Merge_k3 ref07_Merge_k2
                rw [gd_pos (by rw [tb_len]; simp; omega), gd_pos (by rw [tg_len]; omega), gd_pos (by omega), p1, p2]; rfl
              rw [if_neg (by omega), ix_nat (gi_at hk), ix_nat (ca k hk), gd_pos (by rw [cr k hk, tb_len]; simp; omega)]
              by_cases hki : k = i
              · subst hki
                have rj : t.cost[j]? = some (tb t.demand.length (cc t j)) := by rw [ca j hj, cr j hj]
                rw [if_pos rfl, ix_nat (gi_at hj), gd_pos (by omega)]
                refine Eq.trans (for0 t.demand.length (fun q => tb t.demand.length fun b => if b < q then min (cc t k b) (cc t j b) else cc t k b) (fun n1 x q => ref07_Merge_L1 t (j : Int) (k : Int) (tb (tk_ j k) fun q => mS t k j (sk j q)) (tg (tk_ j k) fun q => tb t.demand.length (mC t k j (sk j q))) (ref07_Merge_L2 t (k : Int) (j : Int) n2) (gi t.supply k) (gi t.supply j) n1 q x) (ref07_Merge_k3 (k : Int) (tb (tk_ j k) fun q => mS t k j (sk j q)) (tg (tk_ j k) fun q => tb t.demand.length (mC t k j (sk j q))) (ref07_Merge_L2 t (k : Int) (j : Int) n2) (gi t.supply k + gi t.supply j) (tb t.demand.length (mC t k j k))) (s0 := [] ++ gr t.cost k) (by rw [cr k hk, List.nil_append]; exact tb_congr fun b _ => by simp) (fun n1 q hq => ?_) (fun n1 => ?_) (by omega)) (k3 _ _ (by unfold mS; rw [if_pos rfl]) rfl)
                · have e5 : (tb t.demand.length fun b => if b < q then min (cc t k b) (cc t j b) else cc t k b)[q]? = some (cc t k q) := by rw [tb_at hq, if_neg (by omega)]
                  show ref07_Merge_B1 t (j : Int) (k : Int) _ _ _ _ _ (ref07_Merge_L1 t (j : Int) (k : Int) _ _ _ _ _ n1) _ _ = _
                  unfold ref07_Merge_B1
                  rw [if_pos (by rw [tb_len]; omega), ix_nat e5, ix_nat rj, ix_nat (tb_at hq), ix_nat e5, gd_pos (by omega), show Int.toNat (q : Int) = q from rfl, tb_set]
                  have e6 : (tb t.demand.length fun b => if b = q then min (cc t k q) (cc t j q) else if b < q then min (cc t k b) (cc t j b) else cc t k b) = tb t.demand.length fun b => if b < q + 1 then min (cc t k b) (cc t j b) else cc t k b := by
                    refine tb_congr fun b _ => ?_
                    by_cases h1 : b = q
                    · subst h1; rw [if_pos rfl, if_pos (by omega)]
                    · rw [if_neg h1]
                      by_cases h2 : b < q
                      · rw [if_pos h2, if_pos (by omega)]
                      · rw [if_neg h2, if_neg (by omega)]
                  rw [e6]; rfl
                · show ref07_Merge_B1 t (j : Int) (k : Int) _ _ _ _ _ (ref07_Merge_L1 t (j : Int) (k : Int) _ _ _ _ _ n1) _ _ = _
                  unfold ref07_Merge_B1
                  rw [if_neg (by rw [tb_len]; omega)]
                  congr 1
                  exact tb_congr fun b hb => by rw [if_pos hb]; unfold mC; rw [if_pos rfl]
              · rw [if_neg (by omega)]
                exact k3 _ _ (by unfold mS; rw [if_neg hki]) (by rw [List.nil_append, cr k hk]; exact tb_congr fun b _ => by unfold mC; rw [if_neg hki])
          · show ref07_Merge_B2 t (i : Int) (j : Int) (ref07_Merge_L2 t (i : Int) (j : Int) n2) _ _ _ = _
            unfold ref07_Merge_B2
            have e : tk_ j t.supply.length = t.supply.length - 1 := by unfold tk_; rw [if_neg (by omega)]
            rw [if_neg (by omega)]
            show ref07_Merge_k1 t (tb (tk_ j t.supply.length) _) (tg (tk_ j t.supply.length) _) = _
            rw [e]; rfl
          · unfold ref07_Merge_k1
            show bnd (ref07_Validate (mgT t i j)) _ = _
            rw [bnd_eq (rValidate_eq (mg_small hs i j))]
            have ok := mg_ok hv hi hj hij'
            by_cases h30 : (30 : Int) < gi t.supply i + gi t.supply j
            · rw [if_pos h30, val1 (by rw [ok]; simp; omega), if_neg (by decide)]
            · rw [if_neg h30, val0 (by rw [ok]; simp; omega), if_pos rfl]; rfl
      · cases hb' : within b 0 ((t.supply.length : Int) - 1)
        · rw [if_neg (by simp)]
          exact yes
        · exact absurd hb' hb
    · rw [if_neg hw, yes, if_neg hw]
  · rw [val1 hv, if_neg (by decide), if_neg hv]
def mP (f : Nat → Nat → Int) (i j k b : Nat) : Int := if k = i then f i b + f j b else f k b
theorem mg_plan {f : Nat → Nat → Int} (hp : PlanF t f) {i j : Nat} (hi : i < t.supply.length) (hj : j < t.supply.length) (hij : i ≠ j) : PlanF (mgT t i j) (fun k b => mP f i j (sk j k) b) where
  nn := fun k b => by
    have := hp.nn i b; have := hp.nn j b; have := hp.nn (sk j k) b
    show 0 ≤ mP f i j (sk j k) b
    unfold mP; split <;> omega
  row := fun k hk_ => by
    have hk : k < t.supply.length - 1 := by rw [← tb_len (t.supply.length - 1) fun k => mS t i j (sk j k)]; exact hk_
    have hsk : sk j k < t.supply.length := by unfold sk; split <;> omega
    show sumN t.demand.length (fun b => mP f i j (sk j k) b) = gi (tb (t.supply.length - 1) fun k => mS t i j (sk j k)) k
    rw [tb_gi hk]
    unfold mP mS
    by_cases e : sk j k = i
    · rw [if_pos e, ← hp.row i hi, ← hp.row j hj, ← sumN_add]
      exact sumN_congr _ fun b _ => if_pos e
    · rw [if_neg e, ← hp.row _ hsk]
      exact sumN_congr _ fun b _ => if_neg e
  col := fun b hb => by
    have hb' : b < t.demand.length := hb
    show sumN (tb (t.supply.length - 1) fun k => mS t i j (sk j k)).length (fun k => mP f i j (sk j k) b) = gi t.demand b
    rw [tb_len, sumN_del (h := fun q => mP f i j q b) hj]
    have c := sumN_upd (g := fun q => f q b) (k := i) (v := f i b + f j b) t.supply.length
    rw [if_pos hi] at c
    have d : sumN t.supply.length (fun q => mP f i j q b) = sumN t.supply.length (fun q => if q = i then f i b + f j b else f q b) := rfl
    have e : mP f i j j b = f j b := by unfold mP; rw [if_neg (Ne.symm hij)]
    rw [d, c, e, hp.col b hb']; omega
theorem mg_cost {f : Nat → Nat → Int} (hp : PlanF t f) {i j : Nat} (hi : i < t.supply.length) (hj : j < t.supply.length) (hij : i ≠ j) : costF (mgT t i j) (fun k b => mP f i j (sk j k) b) ≤ costF t f := by
  let F : Nat → Int := fun q => sumN t.demand.length fun b => f q b * cc t q b
  let H : Nat → Int := fun q => sumN t.demand.length fun b => mP f i j q b * mC t i j q b
  have e1 : costF (mgT t i j) (fun k b => mP f i j (sk j k) b) = sumN (t.supply.length - 1) (fun k => H (sk j k)) := by
    unfold costF
    show sumN (tb (t.supply.length - 1) fun k => mS t i j (sk j k)).length _ = _
    rw [tb_len]
    refine sumN_congr _ fun k hk => sumN_congr _ fun b hb => ?_
    rw [mg_cc hk hb]
  have e2 : costF t f = sumN t.supply.length F := rfl
  have hH : ∀ q, q ≠ i → H q = F q := fun q hq => sumN_congr _ fun b _ => by
    show mP f i j q b * mC t i j q b = _
    unfold mP mC
    rw [if_neg hq, if_neg hq]
  have hHi : H i ≤ F i + F j := by
    show _ ≤ sumN t.demand.length (fun b => f i b * cc t i b) + sumN t.demand.length (fun b => f j b * cc t j b)
    rw [← sumN_add]
    refine sumN_le _ fun b _ => ?_
    show mP f i j i b * mC t i j i b ≤ _
    unfold mP mC
    rw [if_pos rfl, if_pos rfl, Int.add_mul]
    have a := Int.mul_le_mul_of_nonneg_left (Int.min_le_left (cc t i b) (cc t j b)) (hp.nn i b)
    have b' := Int.mul_le_mul_of_nonneg_left (Int.min_le_right (cc t i b) (cc t j b)) (hp.nn j b)
    omega
  have hs : sumN t.supply.length H = sumN t.supply.length F + (H i - F i) := by
    have c := sumN_upd (g := F) (k := i) (v := H i) t.supply.length
    rw [if_pos hi] at c
    rw [← c]
    refine sumN_congr _ fun q _ => ?_
    by_cases e : q = i
    · rw [e, if_pos rfl]
    · rw [if_neg e, hH q e]
  rw [e1, sumN_del (h := H) hj, hs, hH j (Ne.symm hij), e2]
  omega
end
theorem law_BulkMerges (t : Trade) (a b : Int) (h3 : t.cost.length ≤ 9223372036854775807) : law07_BulkMerges t a b = some true := by
  unfold law07_BulkMerges
  rcases Long0 (t := t) h3 with h | ⟨h, hs⟩
  · rw [bnd_eq h, if_pos rfl, bnd_eq sane_eq]
  · have hsm : Tsmall (mergeR t a b).1 := by
      unfold mergeR
      split
      · split
        · split
          · split
            · exact none_small
            · split
              · exact none_small
              · exact mg_small hs _ _
          · exact none_small
        · exact none_small
      · exact none_small
    rw [bnd_eq h, if_neg (by simp), bnd_eq (Merge_eq hs a b), bnd_eq (rMerge_eq hs a b), bnd_eq (Same_self hsm), if_pos rfl]
    unfold law07_BulkMerges_k1
    rw [if_neg (by simp)]
    by_cases h0 : (mergeR t a b).2 = 0
    · rw [if_pos h0]
      unfold mergeR at h0 ⊢
      split at h0
      · rename_i hv
        split at h0
        · rename_i hw
          split at h0
          · rename_i hb
            split at h0
            · cases h0
            · rename_i hab
              split at h0
              · cases h0
              · rename_i h30
                rw [if_pos hv, if_pos hw, if_pos hb, if_neg hab, if_neg h30]
                obtain ⟨w1, w2⟩ := within_iff.1 hw
                obtain ⟨w3, w4⟩ := within_iff.1 hb
                obtain ⟨i, rfl⟩ : ∃ s : Nat, a = (s : Int) := ⟨a.toNat, by omega⟩
                obtain ⟨j, rfl⟩ : ∃ s : Nat, b = (s : Int) := ⟨b.toNat, by omega⟩
                rw [show Int.toNat (i : Int) = i from rfl, show Int.toNat (j : Int) = j from rfl] at h30 ⊢
                have hi : i < t.supply.length := by omega
                have hj : j < t.supply.length := by omega
                have hij : i ≠ j := by omega
                obtain ⟨c, k1, k2, _⟩ := Least_ok hs hv
                obtain ⟨c', l1, l2, _⟩ := Least_ok (mg_small hs i j) (by rw [mg_ok hv hi hj hij]; simp; omega)
                show bnd (bulk_Least (mgT t i j)) _ = _
                rw [bnd_eq l2, bnd_eq k2, if_pos rfl, if_pos rfl, if_pos, bnd_eq sane_eq]
                obtain ⟨g, hg, rfl⟩ := k1
                exact Int.le_trans (l1.le (mg_plan hg.plan hi hj hij)) (mg_cost hg.plan hi hj hij)
          · cases h0
        · cases h0
      · cases h0
    · rw [if_neg h0, bnd_eq sane_eq]
end Go.D7
