/- Lemmas and walks that the proof of this claim uses: D7q6, D7q7, D7q8, D7qB, D7qD. -/
import Derived.Test.YtmmefcihahcchaaBulkAdds5
set_option linter.unusedVariables false
set_option linter.unusedSimpArgs false
namespace Go.D7
open Go.Tb
def up (s : BS) (e : Ed) : BS := ⟨fun x => if x = e.v then s.d e.u + e.c else s.d x, fun x => if x = e.v then some e else s.by_ x, (e.v : Int)⟩
theorem relax_up {far : Int} {s : BS} {e : Ed} (h : s.d e.u < far ∧ s.d e.u + e.c < s.d e.v) : relax far s e = up s e := if_pos h
theorem relax_no {far : Int} {s : BS} {e : Ed} (h : ¬ (s.d e.u < far ∧ s.d e.u + e.c < s.d e.v)) : relax far s e = s := if_neg h
def stL (t : Trade) (s : BS) : List Int := tb t.supply.length s.d
def buL (t : Trade) (s : BS) : List Int := tb t.demand.length fun j => s.d (t.supply.length + j)
def byO (o : Option Ed) : Int := match o with | some e => (e.u : Int) | none => 0
def frO (n : Nat) (o : Option Ed) : Int := match o with | some e => (e.u : Int) - (n : Int) | none => -1
def byL (t : Trade) (s : BS) : List Int := tb t.demand.length fun j => byO (s.by_ (t.supply.length + j))
def frL (t : Trade) (s : BS) : List Int := tb t.supply.length fun i => frO t.supply.length (s.by_ i)
section
variable {t : Trade} {f : Nat → Nat → Int}
theorem rep_more (s : BS) {i j : Nat} {c : Int} (hi : i < t.supply.length) : stL t (up s ⟨i, t.supply.length + j, c⟩) = stL t s ∧ buL t (up s ⟨i, t.supply.length + j, c⟩) = (buL t s).set j (s.d i + c) ∧ byL t (up s ⟨i, t.supply.length + j, c⟩) = (byL t s).set j (i : Int) ∧ frL t (up s ⟨i, t.supply.length + j, c⟩) = frL t s := by
  refine ⟨tb_congr fun k hk => ?_, ?_, ?_, tb_congr fun k hk => ?_⟩
  · show (if k = t.supply.length + j then _ else s.d k) = s.d k
    rw [if_neg (by omega)]
  · unfold buL
    rw [tb_set]
    refine tb_congr fun k hk => ?_
    show (if t.supply.length + k = t.supply.length + j then s.d i + c else s.d (t.supply.length + k)) = _
    by_cases e : k = j
    · rw [if_pos (by omega), if_pos e]
    · rw [if_neg (by omega), if_neg e]
  · unfold byL
    rw [tb_set]
    refine tb_congr fun k hk => ?_
    show byO (if t.supply.length + k = t.supply.length + j then _ else s.by_ (t.supply.length + k)) = _
    by_cases e : k = j
    · rw [if_pos (by omega), if_pos e]; rfl
    · rw [if_neg (by omega), if_neg e]
  · show frO t.supply.length (if k = t.supply.length + j then _ else s.by_ k) = _
    rw [if_neg (by omega)]
theorem rep_less (s : BS) {i j : Nat} {c : Int} (hi : i < t.supply.length) : stL t (up s ⟨t.supply.length + j, i, c⟩) = (stL t s).set i (s.d (t.supply.length + j) + c) ∧ buL t (up s ⟨t.supply.length + j, i, c⟩) = buL t s ∧ byL t (up s ⟨t.supply.length + j, i, c⟩) = byL t s ∧ frL t (up s ⟨t.supply.length + j, i, c⟩) = (frL t s).set i (j : Int) := by
  refine ⟨?_, tb_congr fun k hk => ?_, tb_congr fun k hk => ?_, ?_⟩
  · unfold stL
    rw [tb_set]
    refine tb_congr fun k hk => ?_
    rfl
  · show (if t.supply.length + k = i then _ else s.d (t.supply.length + k)) = s.d (t.supply.length + k)
    rw [if_neg (by omega)]
  · show byO (if t.supply.length + k = i then _ else s.by_ (t.supply.length + k)) = _
    rw [if_neg (by omega)]
  · unfold frL
    rw [tb_set]
    refine tb_congr fun k hk => ?_
    show frO t.supply.length (if k = i then some ⟨t.supply.length + j, i, c⟩ else s.by_ k) = _
    by_cases e : k = i
    · rw [if_pos e, if_pos e]
      show ((t.supply.length + j : Nat) : Int) - (t.supply.length : Int) = (j : Int)
      omega
    · rw [if_neg e, if_neg e]
/-- One cell of a round. -/
theorem ref_cell (ht : okT t = true) {y : BS} (hlo : ∀ v, -1000000 ≤ y.d v) (hhi : ∀ v, y.d v ≤ FAR) {i j : Nat} (hi : i < t.supply.length) (hj : j < t.demand.length) (rec5 rec6 : Int → List Int → List Int → List Int → List Int → Option (List (List Int))) :
    ref07_best_B3 t (tab t f) (i : Int) rec5 rec6 (j : Int) (stL t y) (buL t y) (byL t y) (frL t y) =
      (let z := (⟨i, t.supply.length + j, cc t i j⟩ :: if 0 < f i j then [⟨t.supply.length + j, i, -cc t i j⟩] else []).foldl (relax FAR) y
      rec6 ((j + 1 : Nat) : Int) (stL t z) (buL t z) (byL t z) (frL t z)) := by
  have hs := (okT_spec ht).1.2.1
  have hd := (okT_spec ht).2.1.2.1
  obtain ⟨c1, c2⟩ := tab_spec (okT_spec ht).2.2.2
  have hci := c2 i (by omega)
  have hb := cost_pos ht hi hj
  have hF : FAR = 1073741824 := rfl
  have gc : t.cost[i]? = some (gr t.cost i) := gr_at (by omega)
  have gx : (gr t.cost i)[j]? = some (cc t i j) := gi_at (by omega)
  have gm : (tab t f)[i]? = some (tb t.demand.length (f i)) := tbl_at hi
  have gf : (tb t.demand.length (f i))[j]? = some (f i j) := tb_at hj
  -- the second half
  have second : ∀ z : BS, (∀ v, -2000000 ≤ z.d v) → (∀ v, z.d v ≤ FAR) → ref07_best_k10 t (tab t f) (i : Int) (j : Int) (stL t z) (frL t z) rec6 (buL t z) (byL t z) =
      rec6 ((j + 1 : Nat) : Int) (stL t ((if 0 < f i j then [⟨t.supply.length + j, i, -cc t i j⟩] else []).foldl (relax FAR) z)) (buL t ((if 0 < f i j then [⟨t.supply.length + j, i, -cc t i j⟩] else []).foldl (relax FAR) z))
        (byL t ((if 0 < f i j then [⟨t.supply.length + j, i, -cc t i j⟩] else []).foldl (relax FAR) z)) (frL t ((if 0 < f i j then [⟨t.supply.length + j, i, -cc t i j⟩] else []).foldl (relax FAR) z)) := by
    intro z zlo zhi
    have gb : (buL t z)[j]? = some (z.d (t.supply.length + j)) := tb_at hj
    have gs : (stL t z)[i]? = some (z.d i) := tb_at hi
    have gr_ : (frL t z)[i]? = some (frO t.supply.length (z.by_ i)) := tb_at hi
    have l1 := zlo (t.supply.length + j)
    have l2 := zhi (t.supply.length + j)
    have no : ref07_best_k9 t (i : Int) (j : Int) (stL t z) (frL t z) rec6 (buL t z) (byL t z) false = rec6 ((j + 1 : Nat) : Int) (stL t z) (buL t z) (byL t z) (frL t z) := by
      unfold ref07_best_k9 ref07_best_k8
      rw [if_neg (by simp), gd_pos (by omega)]; rfl
    unfold ref07_best_k10
    rw [ix_nat gb]
    by_cases hfar : z.d (t.supply.length + j) < FAR
    · rw [if_pos (by omega), ix_nat gm, ix_nat gf]
      by_cases h0 : 0 < f i j
      · rw [if_pos h0, if_pos h0, ix_nat gb, ix_nat gc, ix_nat gx, gd_pos (by omega), ix_nat gs]
        by_cases hl : z.d (t.supply.length + j) - cc t i j < z.d i
        · have r := rep_less (t := t) z (i := i) (j := j) (c := -cc t i j) hi
          have e : [(⟨t.supply.length + j, i, -cc t i j⟩ : Ed)].foldl (relax FAR) z = up z ⟨t.supply.length + j, i, -cc t i j⟩ := relax_up ⟨hfar, hl⟩
          rw [e, r.1, r.2.1, r.2.2.1, r.2.2.2, decide_eq_true hl]
          unfold ref07_best_k9 ref07_best_k8
          rw [if_pos rfl, ix_nat gb, ix_nat gc, ix_nat gx, gd_pos (by omega), ix_nat gs, ix_nat gr_, gd_pos (by omega)]; rfl
        · have e : [(⟨t.supply.length + j, i, -cc t i j⟩ : Ed)].foldl (relax FAR) z = z := relax_no fun h => hl h.2
          rw [e, decide_eq_false hl, no]
      · rw [if_neg h0, if_neg h0, no]; rfl
    · rw [if_neg (by omega), no]
      by_cases h0 : 0 < f i j
      · have e : [(⟨t.supply.length + j, i, -cc t i j⟩ : Ed)].foldl (relax FAR) z = z := relax_no fun h => hfar h.1
        rw [if_pos h0, e]
      · rw [if_neg h0]; rfl
  have gs : (stL t y)[i]? = some (y.d i) := tb_at hi
  have gb : (buL t y)[j]? = some (y.d (t.supply.length + j)) := tb_at hj
  have gy : (byL t y)[j]? = some (byO (y.by_ (t.supply.length + j))) := tb_at hj
  have l1 := hlo i
  have l2 := hhi i
  have zlo : ∀ v, -2000000 ≤ (relax FAR y ⟨i, t.supply.length + j, cc t i j⟩).d v := fun v => by
    have := fold_bnd FAR 99 (by decide) [⟨i, t.supply.length + j, cc t i j⟩] y (-1000000) (fun e he => by
      obtain rfl : e = ⟨i, t.supply.length + j, cc t i j⟩ := by simpa using he
      show -99 ≤ cc t i j; omega) hlo v
    have e : ([⟨i, t.supply.length + j, cc t i j⟩] : List Ed).foldl (relax FAR) y = relax FAR y ⟨i, t.supply.length + j, cc t i j⟩ := rfl
    rw [e] at this
    simp only [List.length_singleton] at this
    omega
  have zhi : ∀ v, (relax FAR y ⟨i, t.supply.length + j, cc t i j⟩).d v ≤ FAR := fun v => Int.le_trans (relax_le _ _ _ _) (hhi v)
  have sec := second _ zlo zhi
  show _ = rec6 ((j + 1 : Nat) : Int) (stL t ((if 0 < f i j then [⟨t.supply.length + j, i, -cc t i j⟩] else []).foldl (relax FAR) (relax FAR y ⟨i, t.supply.length + j, cc t i j⟩))) (buL t ((if 0 < f i j then [⟨t.supply.length + j, i, -cc t i j⟩] else []).foldl (relax FAR) (relax FAR y ⟨i, t.supply.length + j, cc t i j⟩))) (byL t ((if 0 < f i j then [⟨t.supply.length + j, i, -cc t i j⟩] else []).foldl (relax FAR) (relax FAR y ⟨i, t.supply.length + j, cc t i j⟩))) (frL t ((if 0 < f i j then [⟨t.supply.length + j, i, -cc t i j⟩] else []).foldl (relax FAR) (relax FAR y ⟨i, t.supply.length + j, cc t i j⟩)))
  rw [← sec]
  unfold ref07_best_B3
  rw [if_pos (by unfold buL; rw [tb_len]; omega), ix_nat gs]
  by_cases hfar : y.d i < FAR
  · rw [if_pos (by omega), ix_nat gs, ix_nat gc, ix_nat gx, gd_pos (by omega), ix_nat gb]
    by_cases hl : y.d i + cc t i j < y.d (t.supply.length + j)
    · have r := rep_more (t := t) y (i := i) (j := j) (c := cc t i j) hi
      have e : relax FAR y ⟨i, t.supply.length + j, cc t i j⟩ = up y ⟨i, t.supply.length + j, cc t i j⟩ := relax_up ⟨hfar, hl⟩
      rw [e, r.1, r.2.1, r.2.2.1, r.2.2.2, decide_eq_true hl]
      unfold ref07_best_k11
      rw [if_pos rfl, ix_nat gs, ix_nat gc, ix_nat gx, gd_pos (by omega), ix_nat gb, ix_nat gy]; rfl
    · have e : relax FAR y ⟨i, t.supply.length + j, cc t i j⟩ = y := relax_no fun h => hl h.2
      rw [e, decide_eq_false hl]
      unfold ref07_best_k11
      rw [if_neg (by simp)]
  · have e : relax FAR y ⟨i, t.supply.length + j, cc t i j⟩ = y := relax_no fun h => hfar h.1
    rw [if_neg (by omega), e]
    unfold ref07_best_k11
    rw [if_neg (by simp)]
theorem fold_hi {far : Int} {L : List Ed} {s : BS} {hi : Int} (h : ∀ v, s.d v ≤ hi) (v : Nat) : (L.foldl (relax far) s).d v ≤ hi := Int.le_trans (fold_le far L s v) (h v)
theorem ref_row (ht : okT t = true) {s : BS} (hlo : ∀ v, -900000 ≤ s.d v) (hhi : ∀ v, s.d v ≤ FAR) {i : Nat} (hi : i < t.supply.length) (rec5 : Int → List Int → List Int → List Int → List Int → Option (List (List Int))) :
    ref07_best_L3 t (tab t f) (i : Int) rec5 FU 0 (stL t s) (buL t s) (byL t s) (frL t s) =
      (let z := (edIn t f i t.demand.length).foldl (relax FAR) s
      ref07_best_k7 (i : Int) rec5 (stL t z) (buL t z) (byL t z) (frL t z)) := by
  have hs := (okT_spec ht).1.2.1
  have hd := (okT_spec ht).2.1.2.1
  refine for0 t.demand.length (fun j => (edIn t f i j).foldl (relax FAR) s) (fun k x j => ref07_best_L3 t (tab t f) (i : Int) rec5 k j (stL t x) (buL t x) (byL t x) (frL t x)) _ (s0 := s) rfl (fun k j hj => ?_) (fun k => ?_) (by omega)
  · have ylo : ∀ v, -1000000 ≤ ((edIn t f i j).foldl (relax FAR) s).d v := fun v => by
      have := fold_bnd FAR 99 (by decide) (edIn t f i j) s (-900000) (fun e he => by
        obtain ⟨q, hq, h⟩ := edIn_mem.1 he
        exact (eds_cost (f := f) ht (eds_mem.2 ⟨i, q, hi, by omega, h⟩)).1) hlo v
      have l := edIn_len (t := t) (f := f) i j
      omega
    show ref07_best_B3 t (tab t f) (i : Int) rec5 (ref07_best_L3 t (tab t f) (i : Int) rec5 k) (j : Int) _ _ _ _ = _
    rw [ref_cell ht ylo (fold_hi hhi) hi hj]
    have e : (edIn t f i (j + 1)).foldl (relax FAR) s = (⟨i, t.supply.length + j, cc t i j⟩ :: if 0 < f i j then [⟨t.supply.length + j, i, -cc t i j⟩] else []).foldl (relax FAR) ((edIn t f i j).foldl (relax FAR) s) := by
      rw [edIn_succ, List.foldl_append]
    rw [e]
  · show ref07_best_B3 t (tab t f) (i : Int) rec5 (ref07_best_L3 t (tab t f) (i : Int) rec5 k) _ _ _ _ _ = _
    unfold ref07_best_B3
    rw [if_neg (by unfold buL; rw [tb_len]; omega)]
theorem ref_round (ht : okT t = true) {s : BS} (hlo : ∀ v, -800000 ≤ s.d v) (hhi : ∀ v, s.d v ≤ FAR) (r : Int) (rec4 : Int → List Int → List Int → List Int → List Int → Option (List (List Int))) :
    ref07_best_L4 t (tab t f) r rec4 FU 0 (stL t s) (buL t s) (byL t s) (frL t s) =
      (let z := rnd FAR (eds t f) s
      ref07_best_k6 r rec4 (stL t z) (buL t z) (byL t z) (frL t z)) := by
  have hs := (okT_spec ht).1.2.1
  have hd := (okT_spec ht).2.1.2.1
  refine for0 t.supply.length (fun i => (edTo t f i).foldl (relax FAR) (fresh s)) (fun k x i => ref07_best_L4 t (tab t f) r rec4 k i (stL t x) (buL t x) (byL t x) (frL t x)) _ (s0 := fresh s) rfl (fun k i hi => ?_) (fun k => ?_) (by omega)
  · have ylo : ∀ v, -900000 ≤ ((edTo t f i).foldl (relax FAR) (fresh s)).d v := fun v => by
      have := fold_bnd FAR 99 (by decide) (edTo t f i) (fresh s) (-800000) (fun e he => by
        obtain ⟨a, q, ha, hq, h⟩ := edTo_mem.1 he
        exact (eds_cost (f := f) ht (eds_mem.2 ⟨a, q, by omega, hq, h⟩)).1) hlo v
      have l := edTo_len (t := t) (f := f) hd i
      omega
    show ref07_best_B4 t (tab t f) r rec4 (ref07_best_L4 t (tab t f) r rec4 k) (i : Int) _ _ _ _ = _
    unfold ref07_best_B4
    rw [if_pos (by unfold stL; rw [tb_len]; omega), ref_row ht ylo (fold_hi hhi) hi]
    show ref07_best_k7 (i : Int) (ref07_best_L4 t (tab t f) r rec4 k) _ _ _ _ = _
    unfold ref07_best_k7
    have e : (edTo t f (i + 1)).foldl (relax FAR) (fresh s) = (edIn t f i t.demand.length).foldl (relax FAR) ((edTo t f i).foldl (relax FAR) (fresh s)) := by
      show (edTo t f i ++ edIn t f i t.demand.length).foldl (relax FAR) (fresh s) = _
      rw [List.foldl_append]
    rw [gd_pos (by omega), e]; rfl
  · show ref07_best_B4 t (tab t f) r rec4 (ref07_best_L4 t (tab t f) r rec4 k) _ _ _ _ _ = _
    unfold ref07_best_B4
    rw [if_neg (by unfold stL; rw [tb_len]; omega)]; rfl
/-- What a search begins with: where stores still have tons. -/
def d0h (t : Trade) (h : Nat → Int) (v : Nat) : Int := if v < t.supply.length then (if h v = 0 then FAR else 0) else FAR
def sR (t : Trade) (h : Nat → Int) : BS := ⟨d0h t h, fun _ => none, -1⟩
def rK (t : Trade) (f : Nat → Nat → Int) (h : Nat → Int) (k : Nat) : BS := rnds FAR (eds t f) (sR t h) k
theorem d0h_bnd (h : Nat → Int) (v : Nat) : 0 ≤ d0h t h v ∧ d0h t h v ≤ FAR ∧ (d0h t h v < FAR → d0h t h v ≤ 0) := by
  have hF : FAR = 1073741824 := rfl
  unfold d0h
  split
  · split <;> omega
  · omega
theorem rK_bnd (ht : okT t = true) (h : Nat → Int) (k : Nat) (hk : k ≤ 10) (v : Nat) : -800000 ≤ (rK t f h k).d v ∧ (rK t f h k).d v ≤ FAR := by
  have h1 := (okT_spec ht).1.2.1
  have h2 := (okT_spec ht).2.1.2.1
  have hl := edTo_len (t := t) (f := f) h2 t.supply.length
  have hl' : (eds t f).length ≤ 32 := by unfold eds; omega
  have a := rnds_bnd (far := FAR) (M := 99) (by decide) (L := eds t f) (s := sR t h) (lo := 0) (fun e he => (eds_cost ht he).1) (fun v => (d0h_bnd h v).1) k v
  have b := rnds_mono FAR (eds t f) (sR t h) v 0 k
  rw [Nat.zero_add] at b
  have c : (rnds FAR (eds t f) (sR t h) 0).d v ≤ FAR := (d0h_bnd h v).2.1
  have : 99 * ((eds t f).length : Int) * (k : Int) ≤ (99 * 32) * 10 :=
    Int.le_trans (Int.mul_le_mul_of_nonneg_right (by omega) (Int.natCast_nonneg _)) (Int.mul_le_mul_of_nonneg_left (by omega) (by decide))
  unfold rK
  omega
theorem ref_rounds (ht : okT t = true) {h w : Nat → Int} (rec1 : List (List Int) → List Int → List Int → Option (List (List Int))) :
    ref07_best_L5 t (tab t f) (tb t.supply.length h) (tb t.demand.length w) rec1 FU 0 (stL t (sR t h)) (buL t (sR t h)) (byL t (sR t h)) (frL t (sR t h)) =
      (let z := rK t f h (nN t + 1)
      ref07_best_k5 (tab t f) (tb t.supply.length h) (tb t.demand.length w) rec1 (buL t z) (byL t z) (frL t z)) := by
  have hs := (okT_spec ht).1.2.1
  have hd := (okT_spec ht).2.1.2.1
  have hN : nN t = t.supply.length + t.demand.length := rfl
  refine for0 (nN t + 1) (fun k => rK t f h k) (fun k x j => ref07_best_L5 t (tab t f) (tb t.supply.length h) (tb t.demand.length w) rec1 k j (stL t x) (buL t x) (byL t x) (frL t x)) _ (s0 := sR t h) rfl (fun k j hj => ?_) (fun k => ?_) (by omega)
  · show ref07_best_B5 t (tab t f) (tb t.supply.length h) (tb t.demand.length w) rec1 (ref07_best_L5 t (tab t f) (tb t.supply.length h) (tb t.demand.length w) rec1 k) (j : Int) _ _ _ _ = _
    unfold ref07_best_B5
    rw [tb_len, tb_len, gd_pos (by omega), gd_pos (by omega), if_pos (by omega), ref_round ht (fun v => (rK_bnd ht h j (by omega) v).1) (fun v => (rK_bnd ht h j (by omega) v).2)]
    show ref07_best_k6 (j : Int) _ _ _ _ _ = _
    unfold ref07_best_k6
    rw [gd_pos (by omega)]; rfl
  · show ref07_best_B5 t (tab t f) (tb t.supply.length h) (tb t.demand.length w) rec1 (ref07_best_L5 t (tab t f) (tb t.supply.length h) (tb t.demand.length w) rec1 k) _ _ _ _ _ = _
    unfold ref07_best_B5
    rw [tb_len, tb_len, gd_pos (by omega), gd_pos (by omega), if_neg (by omega)]
theorem ref_start (ht : okT t = true) {h w : Nat → Int} (rec1 : List (List Int) → List Int → List Int → Option (List (List Int))) :
    ref07_best_k16 t (tab t f) (tb t.supply.length h) (tb t.demand.length w) rec1 (List.replicate t.supply.length 0) (List.replicate t.demand.length 0) =
      (let z := rK t f h (nN t + 1)
      ref07_best_k5 (tab t f) (tb t.supply.length h) (tb t.demand.length w) rec1 (buL t z) (byL t z) (frL t z)) := by
  have hs := (okT_spec ht).1.2.1
  have hd := (okT_spec ht).2.1.2.1
  unfold ref07_best_k16 ref07_best_k15
  rw [tb_len, tb_len, gd_pos (by omega), gd_pos (by omega), show Int.toNat (t.supply.length : Int) = t.supply.length from rfl, show Int.toNat (t.demand.length : Int) = t.demand.length from rfl, rep_tb, rep_tb]
  have l7 : ref07_best_L7 t (tab t f) (tb t.supply.length h) (tb t.demand.length w) rec1 (tb t.supply.length fun _ => 0) (tb t.demand.length fun _ => 0) (tb t.supply.length fun _ => 0) FU 0 (tb t.demand.length fun _ => 0) =
      ref07_best_k14 t (tab t f) (tb t.supply.length h) (tb t.demand.length w) rec1 (tb t.supply.length fun _ => 0) (tb t.demand.length fun _ => 0) (tb t.supply.length fun _ => 0) (tb t.demand.length fun _ => FAR) := by
    refine for0 t.demand.length (fun k => tb t.demand.length fun j => if j < k then FAR else 0) (fun k x j => ref07_best_L7 t (tab t f) (tb t.supply.length h) (tb t.demand.length w) rec1 (tb t.supply.length fun _ => 0) (tb t.demand.length fun _ => 0) (tb t.supply.length fun _ => 0) k j x) _ (tb_congr fun k hk => by simp) (fun k j hj => ?_) (fun k => ?_) (by omega)
    · show ref07_best_B7 t (tab t f) (tb t.supply.length h) (tb t.demand.length w) rec1 (tb t.supply.length fun _ => 0) (tb t.demand.length fun _ => 0) (tb t.supply.length fun _ => 0) (ref07_best_L7 t (tab t f) (tb t.supply.length h) (tb t.demand.length w) rec1 (tb t.supply.length fun _ => 0) (tb t.demand.length fun _ => 0) (tb t.supply.length fun _ => 0) k) (j : Int) _ = _
      unfold ref07_best_B7
      rw [if_pos (by rw [tb_len]; omega), ix_nat (tb_at hj), gd_pos (by omega), show Int.toNat (j : Int) = j from rfl, tb_set]
      congr 1
      refine tb_congr fun k hk => ?_
      by_cases e : k = j
      · subst e; rw [if_pos rfl, if_pos (by omega)]; rfl
      · rw [if_neg e]
        by_cases e2 : k < j
        · rw [if_pos e2, if_pos (by omega)]
        · rw [if_neg e2, if_neg (by omega)]
    · show ref07_best_B7 t (tab t f) (tb t.supply.length h) (tb t.demand.length w) rec1 (tb t.supply.length fun _ => 0) (tb t.demand.length fun _ => 0) (tb t.supply.length fun _ => 0) (ref07_best_L7 t (tab t f) (tb t.supply.length h) (tb t.demand.length w) rec1 (tb t.supply.length fun _ => 0) (tb t.demand.length fun _ => 0) (tb t.supply.length fun _ => 0) k) _ _ = _
      unfold ref07_best_B7
      rw [if_neg (by rw [tb_len]; omega)]
      congr 1
      exact tb_congr fun k hk => by rw [if_pos hk]
  rw [l7]
  unfold ref07_best_k14
  rw [← ref_rounds ht rec1]
  refine for0 t.supply.length (fun k => ((tb t.supply.length fun i => if i < k then d0h t h i else 0), (tb t.supply.length fun i => if i < k then (-1 : Int) else 0))) (fun k x j => ref07_best_L6 t (tab t f) (tb t.supply.length h) (tb t.demand.length w) rec1 (tb t.demand.length fun _ => 0) (tb t.demand.length fun _ => FAR) k j x.1 x.2) _
    (s0 := (tb t.supply.length fun _ => 0, tb t.supply.length fun _ => 0)) (Prod.ext (tb_congr fun k hk => by simp) (tb_congr fun k hk => by simp)) (fun k i hi => ?_) (fun k => ?_) (by omega)
  · show ref07_best_B6 t (tab t f) (tb t.supply.length h) (tb t.demand.length w) rec1 (tb t.demand.length fun _ => 0) (tb t.demand.length fun _ => FAR) (ref07_best_L6 t (tab t f) (tb t.supply.length h) (tb t.demand.length w) rec1 (tb t.demand.length fun _ => 0) (tb t.demand.length fun _ => FAR) k) (i : Int) _ _ = _
    unfold ref07_best_B6 ref07_best_k13
    have e2 : (tb t.supply.length fun q => if q < i then (-1 : Int) else 0).set i (-1) = tb t.supply.length fun q => if q < i + 1 then (-1 : Int) else 0 := by
      rw [tb_set]
      refine tb_congr fun k hk => ?_
      by_cases e : k = i
      · subst e; rw [if_pos rfl, if_pos (by omega)]
      · rw [if_neg e]
        by_cases e2 : k < i
        · rw [if_pos e2, if_pos (by omega)]
        · rw [if_neg e2, if_neg (by omega)]
    rw [if_pos (by rw [tb_len]; omega), ix_nat (tb_at hi), ix_nat (tb_at hi)]
    by_cases h0 : h i = 0
    · have e1 : (tb t.supply.length fun q => if q < i then d0h t h q else 0).set i FAR = tb t.supply.length fun q => if q < i + 1 then d0h t h q else 0 := by
        rw [tb_set]
        refine tb_congr fun k hk => ?_
        by_cases e : k = i
        · subst e
          rw [if_pos rfl, if_pos (by omega)]
          unfold d0h
          rw [if_pos hi, if_pos h0]
        · rw [if_neg e]
          by_cases e2 : k < i
          · rw [if_pos e2, if_pos (by omega)]
          · rw [if_neg e2, if_neg (by omega)]
      rw [if_pos h0, ix_nat (tb_at hi), gd_pos (by omega)]
      show ref07_best_L6 t (tab t f) (tb t.supply.length h) (tb t.demand.length w) rec1 (tb t.demand.length fun _ => 0) (tb t.demand.length fun _ => FAR) k _ ((tb t.supply.length fun q => if q < i then d0h t h q else 0).set i FAR) ((tb t.supply.length fun q => if q < i then (-1 : Int) else 0).set i (-1)) = _
      rw [e1, e2]; rfl
    · have e1 : (tb t.supply.length fun q => if q < i then d0h t h q else 0) = tb t.supply.length fun q => if q < i + 1 then d0h t h q else 0 := by
        refine tb_congr fun k hk => ?_
        by_cases e : k = i
        · subst e
          rw [if_neg (by omega), if_pos (by omega)]
          unfold d0h
          rw [if_pos hi, if_neg h0]
        · by_cases e2 : k < i
          · rw [if_pos e2, if_pos (by omega)]
          · rw [if_neg e2, if_neg (by omega)]
      rw [if_neg h0, gd_pos (by omega)]
      show ref07_best_L6 t (tab t f) (tb t.supply.length h) (tb t.demand.length w) rec1 (tb t.demand.length fun _ => 0) (tb t.demand.length fun _ => FAR) k _ (tb t.supply.length fun q => if q < i then d0h t h q else 0) ((tb t.supply.length fun q => if q < i then (-1 : Int) else 0).set i (-1)) = _
      rw [e1, e2]; rfl
  · show ref07_best_B6 t (tab t f) (tb t.supply.length h) (tb t.demand.length w) rec1 (tb t.demand.length fun _ => 0) (tb t.demand.length fun _ => FAR) (ref07_best_L6 t (tab t f) (tb t.supply.length h) (tb t.demand.length w) rec1 (tb t.demand.length fun _ => 0) (tb t.demand.length fun _ => FAR) k) _ _ _ = _
    unfold ref07_best_B6 ref07_best_k12
    rw [if_neg (by rw [tb_len]; omega)]
    have e1 : (tb t.supply.length fun i => if i < t.supply.length then d0h t h i else 0) = stL t (sR t h) := tb_congr fun k hk => if_pos hk
    have e2 : (tb t.supply.length fun i => if i < t.supply.length then (-1 : Int) else 0) = frL t (sR t h) := tb_congr fun k hk => if_pos hk
    have e3 : (tb t.demand.length fun _ => FAR) = buL t (sR t h) := tb_congr fun k hk => by
      show FAR = d0h t h (t.supply.length + k)
      unfold d0h
      rw [if_neg (by omega)]
    show ref07_best_L5 t (tab t f) (tb t.supply.length h) (tb t.demand.length w) rec1 FU 0 (tb t.supply.length fun i => if i < t.supply.length then d0h t h i else 0) (tb t.demand.length fun _ => FAR) (tb t.demand.length fun _ => 0) (tb t.supply.length fun i => if i < t.supply.length then (-1 : Int) else 0) = _
    rw [e1, e2, e3]; rfl
end
end Go.D7

set_option linter.unusedVariables false
set_option linter.unusedSimpArgs false
namespace Go.D7
open Go.Tb
/-- A part of a plan, with prices that prove it. -/
structure Part (t : Trade) (f : Nat → Nat → Int) (h w : Nat → Int) : Prop where
  nn : ∀ i j, 0 ≤ f i j
  hn : ∀ i, 0 ≤ h i
  wn : ∀ j, 0 ≤ w j
  row : ∀ i, i < t.supply.length → sumN t.demand.length (f i) + h i = gi t.supply i
  col : ∀ j, j < t.demand.length → sumN t.supply.length (fun i => f i j) + w j = gi t.demand j
  cert : ∃ p q, Cert t f p q
section
variable {t : Trade} {f : Nat → Nat → Int} {h w : Nat → Int}
theorem rK_inv (k : Nat) : InvE (fun e => e ∈ eds t f) FAR (d0h t h) (rK t f h k) :=
  rnds_inv start_inv (fun e he => ⟨he, eds_ne he⟩) k
theorem rK_mem (k : Nat) : Mem t f (rK t f h k) := by
  obtain ⟨T, τ, hi⟩ := rK_inv (t := t) (f := f) (h := h) k
  exact fun v e he => ⟨(hi.mem v e he).1, (hi.mem v e he).2.1⟩
theorem rK_u (k : Nat) : ∀ v e, (rK t f h k).by_ v = some e → e.u < nN t := fun v e he => (eds_lt (rK_mem k v e he).1).1
theorem Part.root (hp : Part t f h w) (k : Nat) {v : Nat} (hv : v < nN t) : ∃ q, q < nN t ∧ (rK t f h k).by_ (itp (rK t f h k) q v) = none ∧ ∀ i, i < q → (rK t f h k).by_ (itp (rK t f h k) i v) ≠ none := by
  obtain ⟨p, q, hc⟩ := hp.cert
  refine alive_root (rK_u k) (rK_inv k) (P := pot t p q) (fun v e he => ?_) hv
  obtain ⟨m1, m2⟩ := rK_mem k v e he
  have := pot_of hc e m1
  rwa [m2] at this
theorem Part.stable (ht : okT t = true) (hp : Part t f h w) : ∀ e ∈ eds t f, (rK t f h (nN t + 1)).d e.u < FAR → (rK t f h (nN t + 1)).d e.v ≤ (rK t f h (nN t + 1)).d e.u + e.c := by
  have h1 := (okT_spec ht).1
  have h2 := (okT_spec ht).2.1
  have hN : nN t = t.supply.length + t.demand.length := rfl
  have hF : FAR = 1073741824 := rfl
  rcases rnd_last (far := FAR) (L := eds t f) (N := nN t) (fun e he => (eds_lt he).2) (rK t f h (nN t)) with ⟨a, b⟩ | ⟨v, a, b, c⟩
  · have e : (rK t f h (nN t + 1)).d = (rK t f h (nN t)).d := b
    rw [e]
    exact rnd_stable b
  · exfalso
    have c' : (rK t f h (nN t + 1)).d v < (rK t f h (nN t)).d v := c
    have al := late_alive (L := eds t f) (far := FAR) (s0 := sR t h) (R := nN t) (fun e he => eds_ne he) rfl (fun k v C hk w => by
      have := W_bnd (M := 99) (fun e he => (eds_cost ht he).2) (fun v => (d0h_bnd h v).2.2) w
      omega) (v := v) c (by
        have := (rK_bnd (f := f) ht h (nN t) (by omega) v).2
        show (rK t f h (nN t + 1)).d v < FAR
        omega)
    obtain ⟨q, q1, q2, _⟩ := hp.root (nN t + 1) a
    exact al q (by omega) q2
theorem Part.near (ht : okT t = true) (hp : Part t f h w) {i0 : Nat} (hi0 : i0 < t.supply.length) (h0 : 0 < h i0) {j : Nat} (hj : j < t.demand.length) : (rK t f h (nN t + 1)).d (t.supply.length + j) < FAR := by
  have hF : FAR = 1073741824 := rfl
  have b := rnds_mono FAR (eds t f) (sR t h) i0 0 (nN t + 1)
  rw [Nat.zero_add] at b
  have e : (rnds FAR (eds t f) (sR t h) 0).d i0 = 0 := by
    show d0h t h i0 = 0
    unfold d0h
    rw [if_pos hi0, if_neg (by omega)]
  rw [e] at b
  have b' : (rK t f h (nN t + 1)).d i0 ≤ 0 := b
  have := hp.stable ht ⟨i0, t.supply.length + j, cc t i0 j⟩ (eds_mem.2 ⟨i0, j, hi0, hj, .inl rfl⟩) (by show (rK t f h (nN t + 1)).d i0 < FAR; omega)
  have this' : (rK t f h (nN t + 1)).d (t.supply.length + j) ≤ (rK t f h (nN t + 1)).d i0 + cc t i0 j := this
  have := cost_pos ht hi0 hj
  omega
/-- No node comes twice on the way back to a beginning. -/
theorem chain_inj {s : BS} {v k : Nat} (ha : ∀ i, i < k → s.by_ (itp s i v) ≠ none) (hn : s.by_ (itp s k v) = none) {a b : Nat} (hab : a < b) (hb : b ≤ k) : itp s a v ≠ itp s b v := by
  intro hc
  have e : itp s (k - b) (itp s a v) = itp s (k - b) (itp s b v) := by rw [hc]
  rw [← itp_add, ← itp_add, show b + (k - b) = k by omega] at e
  exact ha (a + (k - b)) (by omega) (by rw [e]; exact hn)
def Tight (t : Trade) (s : BS) (i j : Nat) : Prop := s.d i + cc t i j = s.d (t.supply.length + j)
theorem row_upd {x : Nat → Nat → Int} {i j : Nat} (v : Int) (hj : j < t.demand.length) (a : Nat) : sumN t.demand.length (fun b => if a = i ∧ b = j then v else x a b) = sumN t.demand.length (x a) + (if a = i then v - x i j else 0) := by
  by_cases ha : a = i
  · subst ha
    have := sumN_upd (g := x a) (k := j) (v := v) t.demand.length
    rw [if_pos hj] at this
    rw [if_pos rfl, ← this]
    exact sumN_congr _ fun b _ => by
      by_cases e : b = j
      · rw [if_pos ⟨rfl, e⟩, if_pos e]
      · rw [if_neg (fun h => e h.2), if_neg e]
  · rw [if_neg ha, Int.add_zero]
    exact sumN_congr _ fun b _ => by rw [if_neg (fun h => ha h.1)]
theorem col_upd {x : Nat → Nat → Int} {i j : Nat} (v : Int) (hi : i < t.supply.length) (b : Nat) : sumN t.supply.length (fun a => if a = i ∧ b = j then v else x a b) = sumN t.supply.length (fun a => x a b) + (if b = j then v - x i j else 0) := by
  by_cases hb : b = j
  · subst hb
    have := sumN_upd (g := fun a => x a b) (k := i) (v := v) t.supply.length
    rw [if_pos hi] at this
    rw [if_pos rfl, ← this]
    exact sumN_congr _ fun a _ => by
      by_cases e : a = i
      · rw [if_pos ⟨e, rfl⟩, if_pos e]
      · rw [if_neg (fun h => e h.1), if_neg e]
  · rw [if_neg hb, Int.add_zero]
    exact sumN_congr _ fun a _ => by rw [if_neg (fun h => hb h.2)]
structure Mid (t : Trade) (s : BS) (h w : Nat → Int) (j : Nat) (x : Nat → Nat → Int) : Prop where
  nn : ∀ i q, 0 ≤ x i q
  row : ∀ i, i < t.supply.length → sumN t.demand.length (x i) + h i = gi t.supply i
  col : ∀ q, q < t.demand.length → sumN t.supply.length (fun i => x i q) + w q = gi t.demand q - (if q = j then 1 else 0)
  tight : ∀ i q, i < t.supply.length → q < t.demand.length → 0 < x i q → Tight t s i q
structure Fin (t : Trade) (s : BS) (h w : Nat → Int) (c : Int) (x : Nat → Nat → Int) : Prop where
  nn : ∀ i q, 0 ≤ x i q
  hn : ∀ i, 0 ≤ h i
  row : ∀ i, i < t.supply.length → sumN t.demand.length (x i) + h i = gi t.supply i
  col : ∀ q, q < t.demand.length → sumN t.supply.length (fun i => x i q) + w q = gi t.demand q
  tight : ∀ i q, i < t.supply.length → q < t.demand.length → 0 < x i q → Tight t s i q
  sum : sumN t.supply.length h = c - 1
theorem mid_le (ht : okT t = true) {s : BS} {x : Nat → Nat → Int} {j : Nat} (hm : Mid t s h w j x) (hn : ∀ i, 0 ≤ h i) {i q : Nat} (hi : i < t.supply.length) (hq : q < t.demand.length) : x i q ≤ 30 ∧ h i ≤ 30 := by
  have h1 := sumN_mem (f := x i) (fun q _ => hm.nn i q) hq
  have h3 := sumN_nn (f := x i) (n := t.demand.length) (fun q _ => hm.nn i q)
  have h2 := hm.row i hi
  have h4 := supply_bnd ht hi
  have := hn i
  omega
theorem ref_path (ht : okT t = true) (hn : ∀ i, 0 ≤ h i) {s : BS} (hm : Mem t f s)
    (htb : ∀ i j, i < t.supply.length → j < t.demand.length → s.by_ (t.supply.length + j) = some ⟨i, t.supply.length + j, cc t i j⟩ → Tight t s i j)
    (l1 : List Int) (rec1 : List (List Int) → List Int → List Int → Option (List (List Int))) (t15 x1 : Int) :
    ∀ (k : Nat), ∀ (fuel j : Nat) (x : Nat → Nat → Int), k < fuel → j < t.demand.length → (∀ q, q < k → s.by_ (itp s q (t.supply.length + j)) ≠ none) → s.by_ (itp s k (t.supply.length + j)) = none →
      itp s k (t.supply.length + j) < t.supply.length → 0 < h (itp s k (t.supply.length + j)) → Mid t s h w j x →
      (∀ c, c ≤ k → ∀ q, q < t.demand.length → itp s c (t.supply.length + j) < t.supply.length → f (itp s c (t.supply.length + j)) q ≤ x (itp s c (t.supply.length + j)) q) →
      ∃ x' h', Fin t s h' w (sumN t.supply.length h) x' ∧ ref07_best_L1 l1 rec1 (byL t s) (frL t s) t15 x1 fuel (j : Int) (tab t x) (tb t.supply.length h) = rec1 (tab t x') (tb t.supply.length h') (l1.set (Int.toNat t15) (x1 - 1)) := by
  intro k
  induction k using Nat.strongRecOn with
  | _ k ih =>
  intro fuel j x hfu hj al nk rlt rh mid xf
  have hk1 : 1 ≤ k := by
    rcases Nat.eq_zero_or_pos k with rfl | hk
    · have : t.supply.length + j < t.supply.length := rlt
      omega
    · exact hk
  obtain ⟨fuel, rfl⟩ : ∃ q, fuel = q + 1 := ⟨fuel - 1, by omega⟩
  rcases node hm (al 0 hk1) with ⟨i, j', hi, hj', e1, e2, _, _, e3⟩ | ⟨i, j', hi, _, e1, _⟩
  · have e1' : t.supply.length + j = t.supply.length + j' := e1
    obtain rfl : j = j' := by omega
    have i1 : itp s 1 (t.supply.length + j) = i := e2
    have hby : s.by_ (t.supply.length + j) = some ⟨i, t.supply.length + j, cc t i j⟩ := e3
    have tij := htb i j hi hj hby
    have gb : (byL t s)[j]? = some (i : Int) := by
      have : (byL t s)[j]? = some (byO (s.by_ (t.supply.length + j))) := tb_at hj
      rw [this, hby]; rfl
    have gm : (tab t x)[i]? = some (tb t.demand.length (x i)) := tbl_at hi
    have gx : (tb t.demand.length (x i))[j]? = some (x i j) := tb_at hj
    have bx := mid_le ht mid hn hi hj
    have nx := mid.nn i j
    have gf : (frL t s)[i]? = some (frO t.supply.length (s.by_ i)) := tb_at hi
    have st1 : (tab t x).set i ((tb t.demand.length (x i)).set j (x i j + 1)) = tab t (fun a b => if a = i ∧ b = j then x i j + 1 else x a b) := tbl_set hi _
    generalize hy : (fun a b => if a = i ∧ b = j then x i j + 1 else x a b) = y at st1
    have y_eq : ∀ a b, y a b = if a = i ∧ b = j then x i j + 1 else x a b := fun a b => by rw [← hy]
    have y_row : ∀ a, sumN t.demand.length (y a) = sumN t.demand.length (x a) + (if a = i then 1 else 0) := fun a => by
      rw [← hy]
      show sumN t.demand.length (fun b => if a = i ∧ b = j then x i j + 1 else x a b) = _
      rw [row_upd _ hj]
      split <;> omega
    have y_col : ∀ b, sumN t.supply.length (fun a => y a b) = sumN t.supply.length (fun a => x a b) + (if b = j then 1 else 0) := fun b => by
      rw [← hy]
      show sumN t.supply.length (fun a => if a = i ∧ b = j then x i j + 1 else x a b) = _
      rw [col_upd _ hi]
      split <;> omega
    have y_nn : ∀ a b, 0 ≤ y a b := fun a b => by
      rw [y_eq]
      have := mid.nn a b
      split <;> omega
    have y_t : ∀ a b, a < t.supply.length → b < t.demand.length → 0 < y a b → Tight t s a b := fun a b ha hb hp => by
      rw [y_eq] at hp
      split at hp
      · rename_i hc; rw [hc.1, hc.2]; exact tij
      · exact mid.tight a b ha hb hp
    have run : ref07_best_L1 l1 rec1 (byL t s) (frL t s) t15 x1 (fuel + 1) (j : Int) (tab t x) (tb t.supply.length h) =
        (let l4 := tb t.supply.length h
         let x2 : Int := (i : Int)
         let x6 := frO t.supply.length (s.by_ i)
         if (0 : Int) ≤ x6 then
          ix (tab t y) x2 fun x7 =>
          ix x7 x6 fun x8 =>
          gd (InR (x8 - 1)) <|
          ix x7 x6 fun x9 =>
          ref07_best_L1 l1 rec1 (byL t s) (frL t s) t15 x1 fuel x6 ((tab t y).set (Int.toNat x2) (x7.set (Int.toNat x6) (x8 - 1))) l4
        else
          ix l4 x2 fun x10 =>
          gd (InR (x10 - 1)) <|
          ix l4 x2 fun x11 =>
          ref07_best_L1 l1 rec1 (byL t s) (frL t s) t15 x1 fuel x6 (tab t y) (l4.set (Int.toNat x2) (x10 - 1))) := by
      show ref07_best_B1 l1 rec1 (byL t s) (frL t s) t15 x1 (ref07_best_L1 l1 rec1 (byL t s) (frL t s) t15 x1 fuel) (j : Int) (tab t x) (tb t.supply.length h) = _
      unfold ref07_best_B1
      rw [if_pos (by omega), ix_nat gb, ix_nat gm, ix_nat gx, gd_pos (by omega), ix_nat gx, ix_nat gf, show Int.toNat (i : Int) = i from rfl, show Int.toNat (j : Int) = j from rfl, st1]
      rfl
    rw [run]
    by_cases hk : k = 1
    · -- the store has a ton
      subst hk
      have nb : s.by_ i = none := by rw [i1] at nk; exact nk
      have hi0 : 0 < h i := by rw [i1] at rh; exact rh
      have gh : (tb t.supply.length h)[i]? = some (h i) := tb_at hi
      rw [nb]
      refine ⟨y, fun q => if q = i then h i - 1 else h q, ⟨y_nn, fun q => ?_, fun a ha => ?_, fun b hb => ?_, y_t, ?_⟩, ?_⟩
      · have := hn q
        split <;> omega
      · have := mid.row a ha
        rw [y_row]
        by_cases e : a = i
        · subst e; rw [if_pos rfl, if_pos rfl]; omega
        · rw [if_neg e, if_neg e]; omega
      · have := mid.col b hb
        rw [y_col]
        split at this <;> rename_i e
        · rw [if_pos e]; omega
        · rw [if_neg e]; omega
      · have := sumN_upd (g := h) (k := i) (v := h i - 1) t.supply.length
        rw [if_pos hi] at this
        rw [this]; omega
      · show (if (0 : Int) ≤ -1 then _ else ix (tb t.supply.length h) (i : Int) _) = _
        rw [if_neg (by decide), ix_nat gh, gd_pos (by omega), ix_nat gh, show Int.toNat (i : Int) = i from rfl, tb_set]
        obtain ⟨fuel, rfl⟩ : ∃ q, fuel = q + 1 := ⟨fuel - 1, by omega⟩
        show ref07_best_B1 l1 rec1 (byL t s) (frL t s) t15 x1 (ref07_best_L1 l1 rec1 (byL t s) (frL t s) t15 x1 fuel) (-1) _ _ = _
        unfold ref07_best_B1
        rw [if_neg (by decide)]
    · -- the ton is taken from another buyer
      have al1 := al 1 (by omega)
      rw [i1] at al1
      rcases node hm al1 with ⟨i', j2, hi', _, f1, _⟩ | ⟨i', j2, hi', hj2, f1, f2, _, f3, _, f4⟩
      · omega
      · obtain rfl : i = i' := f1
        have hby2 := f4
        have itp2 : itp s 2 (t.supply.length + j) = t.supply.length + j2 := by
          show pre s (itp s 1 (t.supply.length + j)) = _
          rw [i1]; exact f2
        have hshift : ∀ q, itp s q (t.supply.length + j2) = itp s (q + 2) (t.supply.length + j) := fun q => by
          rw [← itp2, ← itp_add, Nat.add_comm]
        have gy : (tab t y)[i]? = some (tb t.demand.length (y i)) := tbl_at hi
        have gy2 : (tb t.demand.length (y i))[j2]? = some (y i j2) := tb_at hj2
        have xf1 := xf 1 hk1 j2 hj2 (by rw [i1]; exact hi)
        rw [i1] at xf1
        have y1 : 1 ≤ y i j2 := by
          rw [y_eq]
          split
          · omega
          · omega
        have y31 : y i j2 ≤ 31 := by
          have := (mid_le ht mid hn hi hj2).1
          rw [y_eq]
          split <;> omega
        have fr : frO t.supply.length (s.by_ i) = (j2 : Int) := by
          rw [hby2]
          show ((t.supply.length + j2 : Nat) : Int) - (t.supply.length : Int) = (j2 : Int)
          omega
        have st2 : (tab t y).set i ((tb t.demand.length (y i)).set j2 (y i j2 - 1)) = tab t (fun a b => if a = i ∧ b = j2 then y i j2 - 1 else y a b) := tbl_set hi _
        rw [fr]
        have go := ih (k - 2) (by omega) fuel j2 (fun a b => if a = i ∧ b = j2 then y i j2 - 1 else y a b) (by omega) hj2 (fun q hq => by rw [hshift]; exact al _ (by omega)) (by rw [hshift, show k - 2 + 2 = k by omega]; exact nk) (by rw [hshift, show k - 2 + 2 = k by omega]; exact rlt) (by rw [hshift, show k - 2 + 2 = k by omega]; exact rh) ⟨fun a b => ?_, fun a ha => ?_, fun b hb => ?_, fun a b ha hb hp => ?_⟩ (fun c hc q hq hlt => ?_)
        · obtain ⟨x', h', fn, eq⟩ := go
          refine ⟨x', h', fn, ?_⟩
          rw [← eq]
          show (if (0 : Int) ≤ (j2 : Int) then _ else _) = _
          rw [if_pos (by omega), ix_nat gy, ix_nat gy2, gd_pos (by omega), ix_nat gy2, show Int.toNat (i : Int) = i from rfl, show Int.toNat (j2 : Int) = j2 from rfl, st2]
        · have := y_nn a b
          show 0 ≤ (if a = i ∧ b = j2 then y i j2 - 1 else y a b)
          split <;> omega
        · have := mid.row a ha
          show sumN t.demand.length (fun b => if a = i ∧ b = j2 then y i j2 - 1 else y a b) + h a = _
          rw [row_upd _ hj2, y_row]
          split <;> omega
        · have := mid.col b hb
          show sumN t.supply.length (fun a => if a = i ∧ b = j2 then y i j2 - 1 else y a b) + w b = _
          rw [col_upd _ hi, y_col]
          split at this <;> rename_i e
          · rw [if_pos e]
            split <;> omega
          · rw [if_neg e]
            split <;> omega
        · have hp' : 0 < (if a = i ∧ b = j2 then y i j2 - 1 else y a b) := hp
          split at hp'
          · rename_i hc
            rw [hc.1, hc.2]
            exact y_t i j2 hi hj2 (by omega)
          · exact y_t a b ha hb hp'
        · have ne : itp s (c + 2) (t.supply.length + j) ≠ i := by
            intro hcc
            exact chain_inj al nk (a := 1) (b := c + 2) (by omega) (by omega) (by rw [i1, hcc])
          rw [hshift] at hlt ⊢
          have b := xf (c + 2) (by omega) q hq hlt
          show _ ≤ (if itp s (c + 2) (t.supply.length + j) = i ∧ q = j2 then y i j2 - 1 else y (itp s (c + 2) (t.supply.length + j)) q)
          rw [if_neg (fun h => ne h.1), y_eq, if_neg (fun h => ne h.1)]
          exact b
  · have e1' : t.supply.length + j = i := e1
    omega
def lastTo (w d : Nat → Int) : Nat → Int
  | 0 => -1
  | j + 1 => if 0 < w j then (if lastTo w d j < 0 ∨ d j < d (Int.toNat (lastTo w d j)) then (j : Int) else lastTo w d j) else lastTo w d j
theorem lastTo_spec (w d : Nat → Int) : ∀ j : Nat, (lastTo w d j = -1 ∧ ∀ q, q < j → ¬ 0 < w q) ∨ ∃ q, q < j ∧ lastTo w d j = (q : Int) ∧ 0 < w q
  | 0 => .inl ⟨rfl, fun q hq => by omega⟩
  | j + 1 => by
    have ih := lastTo_spec w d j
    unfold lastTo
    by_cases hw : 0 < w j
    · rw [if_pos hw]
      split
      · exact .inr ⟨j, by omega, rfl, hw⟩
      · rename_i hc
        rcases ih with ⟨a, b⟩ | ⟨q, a, b, c⟩
        · exact absurd (.inl (by omega)) hc
        · exact .inr ⟨q, by omega, b, c⟩
    · rw [if_neg hw]
      rcases ih with ⟨a, b⟩ | ⟨q, a, b, c⟩
      · refine .inl ⟨a, fun q hq => ?_⟩
        by_cases e : q = j
        · rw [e]; exact hw
        · exact b q (by omega)
      · exact .inr ⟨q, by omega, b, c⟩
theorem ref_next (ht : okT t = true) {s : BS} (m3 : List (List Int)) (l5 : List Int) (rec1 : List (List Int) → List Int → List Int → Option (List (List Int))) (l2 l3 : List Int) :
    ref07_best_k5 m3 l5 (tb t.demand.length w) rec1 (buL t s) l2 l3 = ref07_best_k2 m3 l5 (tb t.demand.length w) rec1 l2 l3 (lastTo w (fun j => s.d (t.supply.length + j)) t.demand.length) := by
  have hd := (okT_spec ht).2.1.2.1
  unfold ref07_best_k5
  refine for0 t.demand.length (fun j => lastTo w (fun j => s.d (t.supply.length + j)) j) (fun k x j => ref07_best_L2 m3 l5 (tb t.demand.length w) rec1 (buL t s) l2 l3 k x j) _ (s0 := (-1 : Int)) rfl (fun k j hj => ?_) (fun k => ?_) (by omega)
  · have gw : (tb t.demand.length w)[j]? = some (w j) := tb_at hj
    have gj : (buL t s)[j]? = some (s.d (t.supply.length + j)) := tb_at hj
    have sp := lastTo_spec w (fun j => s.d (t.supply.length + j)) j
    have e : lastTo w (fun j => s.d (t.supply.length + j)) (j + 1) = if 0 < w j then (if lastTo w (fun j => s.d (t.supply.length + j)) j < 0 ∨ s.d (t.supply.length + j) < s.d (t.supply.length + Int.toNat (lastTo w (fun j => s.d (t.supply.length + j)) j)) then (j : Int) else lastTo w (fun j => s.d (t.supply.length + j)) j) else lastTo w (fun j => s.d (t.supply.length + j)) j := rfl
    rw [e]
    generalize lastTo w (fun j => s.d (t.supply.length + j)) j = la at *
    show ref07_best_B2 m3 l5 (tb t.demand.length w) rec1 (buL t s) l2 l3 (ref07_best_L2 m3 l5 (tb t.demand.length w) rec1 (buL t s) l2 l3 k) la (j : Int) = _
    unfold ref07_best_B2 ref07_best_k4 ref07_best_k3
    rw [if_pos (by rw [tb_len]; omega), ix_nat gw]
    by_cases hw : 0 < w j
    · rw [if_pos hw, if_pos hw]
      by_cases hl : la < 0
      · rw [if_pos hl, if_pos rfl, gd_pos (by omega), if_pos (.inl hl)]; rfl
      · rcases sp with ⟨a, _⟩ | ⟨q, a, b, c⟩
        · omega
        · subst b
          have gq : (buL t s)[q]? = some (s.d (t.supply.length + q)) := tb_at (by omega)
          rw [if_neg hl, ix_nat gj, ix_nat gq, show Int.toNat (q : Int) = q from rfl]
          by_cases hc : s.d (t.supply.length + j) < s.d (t.supply.length + q)
          · rw [decide_eq_true hc, if_pos rfl, gd_pos (by omega), if_pos (.inr hc)]; rfl
          · rw [decide_eq_false hc, if_neg (by simp), gd_pos (by omega), if_neg (fun h => by rcases h with h | h <;> omega)]; rfl
    · rw [if_neg hw, if_neg (by simp), gd_pos (by omega), if_neg hw]; rfl
  · show ref07_best_B2 m3 l5 (tb t.demand.length w) rec1 (buL t s) l2 l3 (ref07_best_L2 m3 l5 (tb t.demand.length w) rec1 (buL t s) l2 l3 k) _ _ = _
    unfold ref07_best_B2
    rw [if_neg (by rw [tb_len]; omega)]
theorem sumN_pos {g : Nat → Int} : ∀ {n : Nat}, (∀ i, 0 ≤ g i) → 0 < sumN n g → ∃ i, i < n ∧ 0 < g i
  | 0, _, hp => by simp [sumN] at hp
  | n + 1, hg, hp => by
    by_cases hx : 0 < g n
    · exact ⟨n, by omega, hx⟩
    · have : sumN (n + 1) g = sumN n g + g n := rfl
      obtain ⟨i, hi, h⟩ := sumN_pos (n := n) hg (by omega)
      exact ⟨i, by omega, h⟩
theorem Part.sums (ht : okT t = true) (hp : Part t f h w) : sumN t.supply.length h = sumN t.demand.length w := by
  have e1 := (okT_spec ht).2.2.1
  rw [tot_sumN, tot_sumN] at e1
  have s1 : sumN t.supply.length (fun p => sumN t.demand.length (f p)) + sumN t.supply.length h = sumN t.supply.length (gi t.supply) := by
    rw [← sumN_add]
    exact sumN_congr _ fun i hi => hp.row i hi
  have s2 : sumN t.demand.length (fun q => sumN t.supply.length (fun i => f i q)) + sumN t.demand.length w = sumN t.demand.length (gi t.demand) := by
    rw [← sumN_add]
    exact sumN_congr _ fun i hi => hp.col i hi
  have s3 : sumN t.supply.length (fun p => sumN t.demand.length (f p)) = sumN t.demand.length (fun q => sumN t.supply.length (fun i => f i q)) := sumN_swap f t.demand.length t.supply.length
  omega
/-- One ton more. -/
theorem ref_ton (ht : okT t = true) (hp : Part t f h w) (hpos : 0 < sumN t.supply.length h) (rec1 : List (List Int) → List Int → List Int → Option (List (List Int))) :
    ∃ f' h' w', Part t f' h' w' ∧ sumN t.supply.length h' = sumN t.supply.length h - 1 ∧ ref07_best_k16 t (tab t f) (tb t.supply.length h) (tb t.demand.length w) rec1 (List.replicate t.supply.length 0) (List.replicate t.demand.length 0) = rec1 (tab t f') (tb t.supply.length h') (tb t.demand.length w') := by
  have h1 := (okT_spec ht).1
  have h2 := (okT_spec ht).2.1
  have hN : nN t = t.supply.length + t.demand.length := rfl
  have hF : FAR = 1073741824 := rfl
  rw [ref_start ht]
  have stable := hp.stable ht
  have near := fun {i0} (hi0 : i0 < t.supply.length) (h0 : 0 < h i0) {j} (hj : j < t.demand.length) => hp.near ht hi0 h0 hj
  have root := fun {v} (hv : v < nN t) => hp.root (nN t + 1) hv
  have hmem := rK_mem (t := t) (f := f) (h := h) (nN t + 1)
  have hinv := rK_inv (t := t) (f := f) (h := h) (nN t + 1)
  generalize hS : rK t f h (nN t + 1) = S at *
  show ∃ f' h' w', _ ∧ _ ∧ ref07_best_k5 (tab t f) (tb t.supply.length h) (tb t.demand.length w) rec1 (buL t S) (byL t S) (frL t S) = _
  rw [ref_next ht]
  obtain ⟨i0, hi0, h0⟩ := sumN_pos hp.hn hpos
  have hw := hp.sums ht
  obtain ⟨j0, hj0, w0⟩ := sumN_pos hp.wn (by rw [← hw]; exact hpos)
  rcases lastTo_spec w (fun j => S.d (t.supply.length + j)) t.demand.length with ⟨_, b⟩ | ⟨j, a, b, c⟩
  · exact absurd w0 (b j0 hj0)
  · rw [b]
    have gw : (tb t.demand.length w)[j]? = some (w j) := tb_at a
    have fin : ∀ q, q < t.demand.length → S.d (t.supply.length + q) < FAR := fun q hq => near hi0 h0 hq
    have tight_of : ∀ i q, i < t.supply.length → q < t.demand.length → S.d i + cc t i q ≤ S.d (t.supply.length + q) → Tight t S i q := fun i q hi hq hle => by
      have hb := cost_pos ht hi hq
      have := stable ⟨i, t.supply.length + q, cc t i q⟩ (eds_mem.2 ⟨i, q, hi, hq, .inl rfl⟩) (by have := fin q hq; show S.d i < FAR; omega)
      have this' : S.d (t.supply.length + q) ≤ S.d i + cc t i q := this
      unfold Tight; omega
    have tf : ∀ i q, i < t.supply.length → q < t.demand.length → 0 < f i q → Tight t S i q := fun i q hi hq hfp => by
      have := stable ⟨t.supply.length + q, i, -cc t i q⟩ (eds_mem.2 ⟨i, q, hi, hq, .inr ⟨rfl, hfp⟩⟩) (fin q hq)
      have this' : S.d i ≤ S.d (t.supply.length + q) + -cc t i q := this
      exact tight_of i q hi hq (by omega)
    have htb : ∀ i q, i < t.supply.length → q < t.demand.length → S.by_ (t.supply.length + q) = some ⟨i, t.supply.length + q, cc t i q⟩ → Tight t S i q := fun i q hi hq hby => by
      obtain ⟨T, τ, hv⟩ := hinv
      have := hv.low _ _ hby
      exact tight_of i q hi hq this
    obtain ⟨k, k1, k2, k3⟩ := root (v := t.supply.length + j) (by omega)
    -- the beginning is a store that has tons
    have rfar : S.d (itp S k (t.supply.length + j)) < FAR := by
      obtain ⟨T, τ, hv⟩ := hinv
      exact chain_far hv (fin j a) k
    have rd0 : S.d (itp S k (t.supply.length + j)) = d0h t h (itp S k (t.supply.length + j)) := by
      obtain ⟨T, τ, hv⟩ := hinv
      exact hv.nil _ k2
    rw [rd0] at rfar
    have rst : itp S k (t.supply.length + j) < t.supply.length ∧ 0 < h (itp S k (t.supply.length + j)) := by
      unfold d0h at rfar
      split at rfar
      · rename_i hlt
        refine ⟨hlt, ?_⟩
        split at rfar
        · omega
        · have := hp.hn (itp S k (t.supply.length + j)); omega
      · omega
    have wcol := hp.col j a
    have wb : w j ≤ 30 := by
      have := demand_bnd ht a
      have := sumN_nn (f := fun i => f i j) (n := t.supply.length) (fun i _ => hp.nn i j)
      omega
    obtain ⟨x', h', hfin, hrun⟩ := ref_path (w := fun q => if q = j then w j - 1 else w q) ht hp.hn hmem htb (tb t.demand.length w) rec1 (j : Int) (w j) k FU j f (by have := FU_pos; omega) a k3 k2 rst.1 rst.2
      ⟨hp.nn, hp.row, fun q hq => by
        have := hp.col q hq
        by_cases e : q = j
        · subst e; rw [if_pos rfl, if_pos rfl]; omega
        · rw [if_neg e, if_neg e]; omega, tf⟩ (fun c _ q _ _ => Int.le_refl _)
    refine ⟨x', h', fun q => if q = j then w j - 1 else w q, ⟨hfin.nn, hfin.hn, fun q => ?_, hfin.row, hfin.col, fun i => -S.d i, fun q => S.d (t.supply.length + q), fun i q hi hq => ?_, fun i q hi hq hx => ?_⟩, hfin.sum, ?_⟩
    · have := hp.wn q
      split <;> omega
    · show -S.d i + S.d (t.supply.length + q) ≤ cc t i q
      have hb := cost_pos ht hi hq
      by_cases hlt : S.d i < FAR
      · have := stable ⟨i, t.supply.length + q, cc t i q⟩ (eds_mem.2 ⟨i, q, hi, hq, .inl rfl⟩) hlt
        have this' : S.d (t.supply.length + q) ≤ S.d i + cc t i q := this
        omega
      · have := fin q hq; omega
    · have := hfin.tight i q hi hq hx
      unfold Tight at this
      show -S.d i + S.d (t.supply.length + q) = cc t i q
      omega
    · unfold ref07_best_k2
      rw [ix_nat gw, gd_pos (by omega), ix_nat gw, hrun, show Int.toNat (j : Int) = j from rfl, tb_set]
theorem ref_loop (ht : okT t = true) : ∀ (c fuel : Nat) (f : Nat → Nat → Int) (h w : Nat → Int), Part t f h w → sumN t.supply.length h ≤ (c : Int) → c < fuel → ∃ g, BestF t g ∧ ref07_best_L8 t fuel (tab t f) (tb t.supply.length h) (tb t.demand.length w) = some (tab t g)
  | c, 0, f, h, w, hp, hc, hf => by omega
  | c, fuel + 1, f, h, w, hp, hc, hf => by
    have h1 := (okT_spec ht).1
    have h2 := (okT_spec ht).2.1
    have hsum : ref07_sum (tb t.supply.length h) = some (sumN t.supply.length h) := by
      have := rsum_eq (M := 30) (by decide) (l := tb t.supply.length h) (by rw [tb_len]; omega) (fun x hx => by
        unfold tb at hx
        obtain ⟨i, hi, rfl⟩ := List.mem_map.1 hx
        have hi := List.mem_range.1 hi
        have a := hp.row i hi
        have b := supply_bnd ht hi
        have d := sumN_nn (f := f i) (n := t.demand.length) (fun q _ => hp.nn i q)
        exact ⟨hp.hn i, by omega⟩)
      rw [this, tot_sumN, tb_len]
      congr 1
      exact sumN_congr _ fun i hi => tb_gi hi
    have e : ref07_best_L8 t (fuel + 1) (tab t f) (tb t.supply.length h) (tb t.demand.length w) = ref07_best_B8 t (ref07_best_L8 t fuel) (tab t f) (tb t.supply.length h) (tb t.demand.length w) := rfl
    rw [e]
    unfold ref07_best_B8
    rw [bnd_eq hsum]
    by_cases hpos : 0 < sumN t.supply.length h
    · rw [if_pos hpos, tb_len, tb_len, gd_pos (by omega), gd_pos (by omega), show Int.toNat (t.supply.length : Int) = t.supply.length from rfl, show Int.toNat (t.demand.length : Int) = t.demand.length from rfl]
      obtain ⟨f', h', w', p1, p2, p3⟩ := ref_ton ht hp hpos (ref07_best_L8 t fuel)
      rw [p3]
      obtain ⟨c, rfl⟩ : ∃ q, c = q + 1 := ⟨c - 1, by omega⟩
      exact ref_loop ht c fuel f' h' w' p1 (by omega) (by omega)
    · rw [if_neg hpos]
      have hz : sumN t.supply.length h = 0 := by
        have := sumN_nn (f := h) (n := t.supply.length) (fun i _ => hp.hn i)
        omega
      have wz : sumN t.demand.length w = 0 := by rw [← hp.sums ht]; exact hz
      refine ⟨f, ⟨⟨hp.nn, fun i hi => ?_, fun j hj => ?_⟩, hp.cert⟩, rfl⟩
      · have := hp.row i hi
        have := sumN_zero_of (fun i _ => hp.hn i) hz i hi
        omega
      · have := hp.col j hj
        have := sumN_zero_of (fun i _ => hp.wn i) wz j hj
        omega
theorem gi_nn {l : List Int} (h : ∀ x ∈ l, 0 ≤ x ∧ x ≤ 30) (i : Nat) : 0 ≤ gi l i := by
  by_cases hi : i < l.length
  · exact (h _ (List.mem_of_getElem? (gi_at hi))).1
  · unfold gi List.getD
    rw [List.getElem?_eq_none (by omega)]; exact Int.le_refl _
theorem rbest_eq (ht : okT t = true) : ∃ g, BestF t g ∧ ref07_best t = some (tab t g) := by
  have h1 := (okT_spec ht).1
  have h2 := (okT_spec ht).2.1
  obtain ⟨g, a, b⟩ := ref_loop ht 120 FU (fun _ _ => 0) (gi t.supply) (gi t.demand)
    ⟨fun _ _ => Int.le_refl _, gi_nn h1.2.2, gi_nn h2.2.2, fun i hi => by rw [sumN_zero]; omega, fun j hj => by rw [sumN_zero]; omega, fun _ => 0, fun _ => 0, fun i j hi hj => by have := cost_pos ht hi hj; omega, fun i j _ _ h => by omega⟩
    (by
      have := (sumN_bnd (M := 30) t.supply.length (f := gi t.supply) (fun i hi => supply_bnd ht hi)).2
      omega) (by have := FU_pos; omega)
  refine ⟨g, a, ?_⟩
  unfold ref07_best ref07_best_k17
  rw [bnd_eq (rempty_eq (by omega) (by omega)), gd_pos (by simp; omega), gd_pos (by simp; omega)]
  rw [tb_self, tb_self] at b
  exact b
end
end Go.D7

set_option linter.unusedVariables false
set_option linter.unusedSimpArgs false
namespace Go.D7
open Go.Tb
/-- The smallest cost. -/
def IsLeast (t : Trade) (c : Int) : Prop := ∃ g, BestF t g ∧ costF t g = c
section
variable {t : Trade} {f : Nat → Nat → Int} {c : Int}
theorem IsLeast.le (h : IsLeast t c) (hp : PlanF t f) : c ≤ costF t f := by
  obtain ⟨g, hg, rfl⟩ := h
  exact hg.le hp
theorem IsLeast.eq (h : IsLeast t c) (hp : BestF t f) : c = costF t f := by
  obtain ⟨g, hg, rfl⟩ := h
  exact hg.same hp
theorem IsLeast.same {d : Int} (h : IsLeast t c) (h' : IsLeast t d) : c = d := by
  obtain ⟨g, hg, rfl⟩ := h'
  exact h.eq hg
theorem val0 (hv : okT t = true) : validate t = 0 := if_pos hv
theorem val1 (hv : ¬ okT t = true) : validate t = 1 := if_neg hv
theorem tabT (ht : okT t = true) (hp : PlanF t f) : tabB t (tab t f) 120 = true := (check0 (plan_check ht hp)).2.1
theorem cost_plan (ht : okT t = true) (hp : PlanF t f) : bulk_cost t (tab t f) = some (costF t f) := by rw [cost_eq ht (tabT ht hp), costN_tab]
theorem rcost_plan (ht : okT t = true) (hp : PlanF t f) : ref07_cost t (tab t f) = some (costF t f) := by rw [rcost_eq ht (tabT ht hp), costN_tab]
theorem Least_ok (hs : Tsmall t) (ht : okT t = true) : ∃ c, IsLeast t c ∧ bulk_Least t = some (c, 0) ∧ ref07_Least t = some (c, 0) := by
  obtain ⟨g, d, hp, hst, hb⟩ := best_eq ht
  obtain ⟨g', hg', hb'⟩ := rbest_eq ht
  have hg := hst.best hp
  refine ⟨costF t g, ⟨g, hg, rfl⟩, ?_, ?_⟩
  · unfold bulk_Least
    rw [bnd_eq (Validate_eq hs), val0 ht, if_pos rfl, bnd_eq hb]
    show bnd (bulk_cost t (tab t g)) _ = _
    rw [bnd_eq (cost_plan ht hp)]
  · unfold ref07_Least
    rw [bnd_eq (rValidate_eq hs), val0 ht, if_pos rfl, bnd_eq hb', bnd_eq (rcost_plan ht hg'.plan), hg'.same hg]
end
section
variable {t : Trade} {f : Nat → Nat → Int} {c : Int}
end
end Go.D7

set_option linter.unusedVariables false
set_option linter.unusedSimpArgs false
namespace Go.D7
open Go.Tb
section
variable {t : Trade}
theorem copied_eq (hs : Tsmall t) : bulk_copied t = some t := by
  unfold bulk_copied
  have := hs.1
  have := hs.2.1
  rw [bnd_eq (clone_eq (by omega)), bnd_eq (clone_eq (by omega)), bnd_eq (clone_tab ⟨hs.2.2.1, hs.2.2.2⟩)]
theorem rcopy_eq (hs : Tsmall t) : ref07_Copy t = some t := by
  unfold ref07_Copy
  have := hs.1
  have := hs.2.1
  rw [gd_pos (by simp; omega), gd_pos (by simp; omega), bnd_eq (copy_tab ⟨hs.2.2.1, hs.2.2.2⟩)]; rfl
theorem Same_self (hs : Tsmall t) : ref07_Same t t = some true := by
  unfold ref07_Same
  have := hs.1
  have := hs.2.1
  rw [bnd_eq (SameInts_self (by omega)), if_pos rfl, bnd_eq (SameInts_self (by omega)), if_pos rfl, bnd_eq (SameTables_self ⟨hs.2.2.1, hs.2.2.2⟩)]
theorem none_small : Tsmall ⟨[], [], []⟩ := ⟨by simp, by simp, by simp, by simp⟩
end
end Go.D7

set_option linter.unusedVariables false
set_option linter.unusedSimpArgs false
namespace Go.D7
open Go.Tb
/-- The sums of the amounts. -/
def sm (a b : List Int) : List Int := tb a.length fun i => gi a i + gi b i
def addT (t o : Trade) : Trade := ⟨sm t.supply o.supply, sm t.demand o.demand, t.cost⟩
section
variable {t o : Trade}
theorem ints_ext {a b : List Int} (h : a.length = b.length) (h2 : ∀ i, i < a.length → gi a i = gi b i) : a = b := by
  rw [← tb_self a, ← tb_self b, h]
  exact tb_congr fun k hk => h2 k (by omega)
theorem tables_ext {a b : List (List Int)} (h : a.length = b.length) (h2 : ∀ i, i < a.length → gr a i = gr b i) : a = b := by
  apply List.ext_getElem?
  intro i
  by_cases hi : i < a.length
  · rw [gr_at hi, gr_at (by omega), h2 i hi]
  · rw [List.getElem?_eq_none (by omega), List.getElem?_eq_none (by omega)]
theorem SameInts_eq {a b : List Int} (hl : a.length ≤ 1000) : ref07_SameInts a b = some (decide (a = b)) := by
  unfold ref07_SameInts
  by_cases h : a.length = b.length
  · rw [if_pos (by omega)]
    refine Eq.trans (scan_inv0 a.length (fun i => decide (gi a i = gi b i)) (fun _ => ()) (fun k _ i => ref07_SameInts_L1 a b k i) (some true) (some false) (s0 := ()) rfl (fun k i hi _ => ?_) (fun k _ => ?_) (by omega)) ?_
    · show ref07_SameInts_B1 a b (ref07_SameInts_L1 a b k) _ = _
      unfold ref07_SameInts_B1
      rw [if_pos (by omega), ix_nat (gi_at hi), ix_nat (gi_at (by omega))]
      by_cases he : gi a i = gi b i
      · rw [if_pos he, gd_pos (by omega), if_pos (by simpa using he)]; rfl
      · rw [if_neg he, if_neg (by simpa using he)]
    · show ref07_SameInts_B1 a b (ref07_SameInts_L1 a b k) _ = _
      unfold ref07_SameInts_B1
      rw [if_neg (by omega)]; rfl
    · by_cases he : a = b
      · subst he; rw [if_pos (by simp), decide_eq_true rfl]
      · rw [decide_eq_false he, if_neg]
        intro hc
        exact he (ints_ext h fun i hi => by simpa using hc i hi)
  · rw [if_neg (by omega), decide_eq_false (fun e => h (by rw [e]))]
theorem SameTables_eq {a b : List (List Int)} (hl : Lsmall a) : ref07_SameTables a b = some (decide (a = b)) := by
  have h1 := hl.1
  unfold ref07_SameTables
  by_cases h : a.length = b.length
  · rw [if_pos (by omega)]
    refine Eq.trans (scan_inv0 a.length (fun i => decide (gr a i = gr b i)) (fun _ => ()) (fun k _ i => ref07_SameTables_L1 a b k i) (some true) (some false) (s0 := ()) rfl (fun k i hi _ => ?_) (fun k _ => ?_) (by omega)) ?_
    · have hr := hl.2 _ (List.mem_of_getElem? (gr_at hi))
      show ref07_SameTables_B1 a b (ref07_SameTables_L1 a b k) _ = _
      unfold ref07_SameTables_B1
      rw [if_pos (by omega), ix_nat (gr_at hi), ix_nat (gr_at (by omega)), bnd_eq (SameInts_eq (by omega))]
      by_cases he : gr a i = gr b i
      · rw [decide_eq_true he, if_pos rfl, gd_pos (by omega), if_pos rfl]; rfl
      · rw [decide_eq_false he, if_neg (by simp), if_neg (by simp)]
    · show ref07_SameTables_B1 a b (ref07_SameTables_L1 a b k) _ = _
      unfold ref07_SameTables_B1
      rw [if_neg (by omega)]; rfl
    · by_cases he : a = b
      · subst he; rw [if_pos (by simp), decide_eq_true rfl]
      · rw [decide_eq_false he, if_neg]
        intro hc
        exact he (tables_ext h fun i hi => by simpa using hc i hi)
  · rw [if_neg (by omega), decide_eq_false (fun e => h (by rw [e]))]
theorem EqualF_eq {a b : List (List Int)} (hl : Lsmall a) : slices_EqualFunc_int_int_int_int a b = some (decide (a = b)) := by
  have h1 := hl.1
  unfold slices_EqualFunc_int_int_int_int
  by_cases h : a.length = b.length
  · rw [if_pos (by omega)]
    refine Eq.trans (scan_inv0 a.length (fun i => decide (gr a i = gr b i)) (fun _ => ()) (fun k _ i => slices_EqualFunc_int_int_int_int_L1 a b k i) (some true) (some false) (s0 := ()) rfl (fun k i hi _ => ?_) (fun k _ => ?_) (by omega)) ?_
    · have hr := hl.2 _ (List.mem_of_getElem? (gr_at hi))
      show slices_EqualFunc_int_int_int_int_B1 a b (slices_EqualFunc_int_int_int_int_L1 a b k) _ = _
      unfold slices_EqualFunc_int_int_int_int_B1
      rw [if_pos (by omega), ix_nat (gr_at hi), ix_nat (gr_at (by omega)), bnd_eq (equal_eq (by omega))]
      by_cases he : gr a i = gr b i
      · rw [decide_eq_true he, if_pos rfl, gd_pos (by omega), if_pos rfl]; rfl
      · rw [decide_eq_false he, if_neg (by simp), if_neg (by simp)]
    · show slices_EqualFunc_int_int_int_int_B1 a b (slices_EqualFunc_int_int_int_int_L1 a b k) _ = _
      unfold slices_EqualFunc_int_int_int_int_B1
      rw [if_neg (by omega)]; rfl
    · by_cases he : a = b
      · subst he; rw [if_pos (by simp), decide_eq_true rfl]
      · rw [decide_eq_false he, if_neg]
        intro hc
        exact he (tables_ext h fun i hi => by simpa using hc i hi)
  · rw [if_neg (by omega), decide_eq_false (fun e => h (by rw [e]))]
/-- Two trades with the same ways. -/
def Alike (t o : Trade) : Prop := t.supply.length = o.supply.length ∧ t.demand.length = o.demand.length ∧ t.cost = o.cost
instance (t o : Trade) : Decidable (Alike t o) := by unfold Alike; infer_instance
def addR (t o : Trade) : Trade × Int :=
  if okT t = true then if okT o = true then if Alike t o then (if (amtB (sm t.supply o.supply) && amtB (sm t.demand o.demand)) = true then (addT t o, 0) else (⟨[], [], []⟩, 3)) else (⟨[], [], []⟩, 1) else (⟨[], [], []⟩, 1) else (⟨[], [], []⟩, 1)
def smK (a b : List Int) (k : Nat) : List Int := tb a.length fun i => if i < k then gi a i + gi b i else gi a i
theorem smK_set (a b : List Int) (k : Nat) : (smK a b k).set k (gi a k + gi b k) = smK a b (k + 1) := by
  unfold smK
  rw [tb_set]
  refine tb_congr fun i _ => ?_
  by_cases e : i = k
  · subst e; rw [if_pos rfl, if_pos (by omega)]
  · rw [if_neg e]
    by_cases e2 : i < k
    · rw [if_pos e2, if_pos (by omega)]
    · rw [if_neg e2, if_neg (by omega)]
theorem smK_0 (a b : List Int) : smK a b 0 = a := by
  unfold smK
  conv => rhs; rw [← tb_self a]
  exact tb_congr fun i _ => by rw [if_neg (by omega)]
theorem smK_n (a b : List Int) : smK a b a.length = sm a b := tb_congr fun i hi => if_pos hi
theorem smK_len (a b : List Int) (k : Nat) : (smK a b k).length = a.length := tb_len _ _
theorem smK_at {a b : List Int} {k : Nat} (h : k < a.length) : (smK a b k)[k]? = some (gi a k) := by
  unfold smK
  rw [tb_at h, if_neg (by omega)]
theorem sm_len (a b : List Int) : (sm a b).length = a.length := tb_len _ _
theorem sm_gi {a b : List Int} {i : Nat} (h : i < a.length) : gi (sm a b) i = gi a i + gi b i := tb_gi h
theorem sm_tot {a b : List Int} (h : a.length = b.length) : tot (sm a b) = tot a + tot b := by
  rw [tot_sumN, tot_sumN, tot_sumN, sm_len, h, ← sumN_add]
  exact sumN_congr _ fun i hi => sm_gi (by omega)
theorem add_small (hs : Tsmall t) : Tsmall (addT t o) := ⟨by show (sm _ _).length ≤ 50; rw [sm_len]; exact hs.1, by show (sm _ _).length ≤ 50; rw [sm_len]; exact hs.2.1, hs.2.2.1, hs.2.2.2⟩
theorem add_ok (h1 : okT t = true) (h2 : okT o = true) (ha : Alike t o) : okT (addT t o) = (amtB (sm t.supply o.supply) && amtB (sm t.demand o.demand)) := by
  have e1 := (okT_spec h1).2.2.1
  have e2 := (okT_spec h2).2.2.1
  have e3 : tabB (addT t o) (addT t o).cost 99 = true := by
    have := (okT_spec h1).2.2.2
    unfold tabB at this ⊢
    show (decide (t.cost.length = (sm t.supply o.supply).length) && t.cost.all (rowB (sm t.demand o.demand).length 99)) = true
    rw [sm_len, sm_len]; exact this
  show (amtB (sm t.supply o.supply) && amtB (sm t.demand o.demand) && decide (tot (sm t.supply o.supply) = tot (sm t.demand o.demand)) && tabB (addT t o) (addT t o).cost 99) = _
  rw [e3, decide_eq_true (by rw [sm_tot ha.1, sm_tot ha.2.1]; omega), Bool.and_true, Bool.and_true]
theorem Add_eq (hs : Tsmall t) (ho : Tsmall o) : bulk_Add t o = some (addR t o) := by
  unfold bulk_Add addR
  rw [bnd_eq (Validate_eq hs)]
  by_cases hv : okT t = true
  · rw [val0 hv, if_pos rfl, if_pos hv, bnd_eq (Validate_eq ho)]
    by_cases hw : okT o = true
    · rw [val0 hw, if_pos rfl, if_pos hw]
      have no : bulk_Add_k4 t o true = some (⟨[], [], []⟩, 1) := by
        unfold bulk_Add_k4
        rw [if_pos rfl]
      by_cases l1 : t.supply.length = o.supply.length
      · rw [if_pos (by omega)]
        by_cases l2 : t.demand.length = o.demand.length
        · rw [if_pos (by omega), bnd_eq (EqualF_eq ⟨hs.2.2.1, hs.2.2.2⟩)]
          by_cases l3 : t.cost = o.cost
          · rw [decide_eq_true l3, if_pos (show Alike t o from ⟨l1, l2, l3⟩)]
            unfold bulk_Add_k4
            have hs1 := hs.1
            have hs2 := hs.2.1
            rw [if_neg (by simp), bnd_eq (copied_eq hs)]
            refine Eq.trans (for0 t.supply.length (fun k => smK t.supply o.supply k) (fun k x j => bulk_Add_L2 o t k j x) (bulk_Add_k3 o t (sm t.supply o.supply)) (smK_0 _ _) (fun k i hi => ?_) (fun k => ?_) (by omega)) ?_
            · have b1 := supply_bnd hv hi
              have b2 := supply_bnd hw (i := i) (by omega)
              show bulk_Add_B2 o t (bulk_Add_L2 o t k) _ _ = _
              unfold bulk_Add_B2
              rw [if_pos (by omega), ix_nat (gi_at (by omega)), ix_nat (smK_at hi), gd_pos (by omega), ix_nat (smK_at hi), gd_pos (by omega), show Int.toNat (i : Int) = i from rfl, smK_set]; rfl
            · show bulk_Add_B2 o t (bulk_Add_L2 o t k) _ _ = _
              unfold bulk_Add_B2
              rw [if_neg (by omega), smK_n]
            · unfold bulk_Add_k3
              refine Eq.trans (for0 t.demand.length (fun k => smK t.demand o.demand k) (fun k x j => bulk_Add_L1 o t (sm t.supply o.supply) k j x) (bulk_Add_k2 t (sm t.supply o.supply) (sm t.demand o.demand)) (smK_0 _ _) (fun k i hi => ?_) (fun k => ?_) (by omega)) ?_
              · have b1 := demand_bnd hv hi
                have b2 := demand_bnd hw (i := i) (by omega)
                show bulk_Add_B1 o t (sm t.supply o.supply) (bulk_Add_L1 o t (sm t.supply o.supply) k) _ _ = _
                unfold bulk_Add_B1
                rw [if_pos (by omega), ix_nat (gi_at (by omega)), ix_nat (smK_at hi), gd_pos (by omega), ix_nat (smK_at hi), gd_pos (by omega), show Int.toNat (i : Int) = i from rfl, smK_set]; rfl
              · show bulk_Add_B1 o t (sm t.supply o.supply) (bulk_Add_L1 o t (sm t.supply o.supply) k) _ _ = _
                unfold bulk_Add_B1
                rw [if_neg (by omega), smK_n]
              · unfold bulk_Add_k2 bulk_Add_k1
                rw [bnd_eq (amounts_eq (by rw [sm_len]; omega))]
                cases amtB (sm t.supply o.supply)
                · rw [if_neg (by simp), if_pos rfl]; rfl
                · rw [if_pos rfl, bnd_eq (amounts_eq (by rw [sm_len]; omega))]
                  cases amtB (sm t.demand o.demand) <;> rfl
          · rw [decide_eq_false l3, if_neg (fun h : Alike t o => l3 h.2.2)]
            exact no
        · rw [if_neg (by omega), no, if_neg (fun h : Alike t o => l2 h.2.1)]
      · rw [if_neg (by omega), no, if_neg (fun h : Alike t o => l1 h.1)]
    · rw [val1 hw, if_neg (by decide), if_neg hw]
  · rw [val1 hv, if_neg (by decide), if_neg hv]
theorem rAdd_eq (hs : Tsmall t) (ho : Tsmall o) : ref07_Add t o = some (addR t o) := by
  unfold ref07_Add addR
  have no : ref07_Add_k3 t o true = some (⟨[], [], []⟩, 1) := by
    unfold ref07_Add_k3
    rw [if_pos rfl]
  rw [bnd_eq (rValidate_eq hs)]
  by_cases hv : okT t = true
  · rw [val0 hv, if_pos rfl, if_pos hv, bnd_eq (rValidate_eq ho)]
    by_cases hw : okT o = true
    · rw [val0 hw, if_pos rfl, if_pos hw]
      by_cases l1 : t.supply.length = o.supply.length
      · rw [if_pos (by omega)]
        by_cases l2 : t.demand.length = o.demand.length
        · rw [if_pos (by omega), bnd_eq (SameTables_eq ⟨hs.2.2.1, hs.2.2.2⟩)]
          by_cases l3 : t.cost = o.cost
          · rw [decide_eq_true l3, if_pos (show Alike t o from ⟨l1, l2, l3⟩)]
            unfold ref07_Add_k3
            have hs1 := hs.1
            have hs2 := hs.2.1
            rw [if_neg (by simp), bnd_eq (rcopy_eq hs)]
            refine Eq.trans (for0 t.supply.length (fun k => smK t.supply o.supply k) (fun k x j => ref07_Add_L2 o t k j x) (ref07_Add_k2 o t (sm t.supply o.supply)) (smK_0 _ _) (fun k i hi => ?_) (fun k => ?_) (by omega)) ?_
            · have b1 := supply_bnd hv hi
              have b2 := supply_bnd hw (i := i) (by omega)
              show ref07_Add_B2 o t (ref07_Add_L2 o t k) _ _ = _
              unfold ref07_Add_B2
              rw [if_pos (by rw [smK_len]; omega), ix_nat (smK_at hi), ix_nat (gi_at (by omega)), gd_pos (by omega), ix_nat (smK_at hi), gd_pos (by omega), show Int.toNat (i : Int) = i from rfl, smK_set]; rfl
            · show ref07_Add_B2 o t (ref07_Add_L2 o t k) _ _ = _
              unfold ref07_Add_B2
              rw [if_neg (by rw [smK_len]; omega), smK_n]
            · unfold ref07_Add_k2
              refine Eq.trans (for0 t.demand.length (fun k => smK t.demand o.demand k) (fun k x j => ref07_Add_L1 o t (sm t.supply o.supply) k j x) (ref07_Add_k1 t (sm t.supply o.supply) (sm t.demand o.demand)) (smK_0 _ _) (fun k i hi => ?_) (fun k => ?_) (by omega)) ?_
              · have b1 := demand_bnd hv hi
                have b2 := demand_bnd hw (i := i) (by omega)
                show ref07_Add_B1 o t (sm t.supply o.supply) (ref07_Add_L1 o t (sm t.supply o.supply) k) _ _ = _
                unfold ref07_Add_B1
                rw [if_pos (by rw [smK_len]; omega), ix_nat (smK_at hi), ix_nat (gi_at (by omega)), gd_pos (by omega), ix_nat (smK_at hi), gd_pos (by omega), show Int.toNat (i : Int) = i from rfl, smK_set]; rfl
              · show ref07_Add_B1 o t (sm t.supply o.supply) (ref07_Add_L1 o t (sm t.supply o.supply) k) _ _ = _
                unfold ref07_Add_B1
                rw [if_neg (by rw [smK_len]; omega), smK_n]
              · unfold ref07_Add_k1
                show bnd (ref07_Validate (addT t o)) _ = _
                rw [bnd_eq (rValidate_eq (add_small hs))]
                have ok := add_ok hv hw ⟨l1, l2, l3⟩
                by_cases hok : (amtB (sm t.supply o.supply) && amtB (sm t.demand o.demand)) = true
                · rw [val0 (by rw [ok]; exact hok), if_pos rfl, if_pos hok]; rfl
                · rw [val1 (by rw [ok]; exact hok), if_neg (by decide), if_neg hok]
          · rw [decide_eq_false l3, if_neg (fun h : Alike t o => l3 h.2.2)]
            exact no
        · rw [if_neg (by omega), no, if_neg (fun h : Alike t o => l2 h.2.1)]
      · rw [if_neg (by omega), no, if_neg (fun h : Alike t o => l1 h.1)]
    · rw [val1 hw, if_neg (by decide), if_neg hw, no]
  · rw [val1 hv, if_neg (by decide), if_neg hv, no]
theorem add_plan {f g : Nat → Nat → Int} (ha : Alike t o) (hf : PlanF t f) (hg : PlanF o g) : PlanF (addT t o) (fun i j => f i j + g i j) where
  nn := fun i j => by have := hf.nn i j; have := hg.nn i j; omega
  row := fun i hi_ => by
    have hi : i < t.supply.length := by rw [← sm_len t.supply o.supply]; exact hi_
    show sumN (sm t.demand o.demand).length (fun j => f i j + g i j) = gi (sm t.supply o.supply) i
    have r1 := hf.row i hi
    have r2 := hg.row i (by rw [← ha.1]; exact hi)
    rw [sm_len, sm_gi hi, sumN_add, ← r1, ← r2, ha.2.1]
  col := fun j hj_ => by
    have hj : j < t.demand.length := by rw [← sm_len t.demand o.demand]; exact hj_
    show sumN (sm t.supply o.supply).length (fun i => f i j + g i j) = gi (sm t.demand o.demand) j
    have r1 := hf.col j hj
    have r2 := hg.col j (by rw [← ha.2.1]; exact hj)
    rw [sm_len, sm_gi hj, sumN_add, ← r1, ← r2, ha.1]
theorem add_cost {f g : Nat → Nat → Int} (ha : Alike t o) : costF (addT t o) (fun i j => f i j + g i j) = costF t f + costF o g := by
  unfold costF
  show sumN (sm t.supply o.supply).length (fun i => sumN (sm t.demand o.demand).length fun j => (f i j + g i j) * cc (addT t o) i j) = _
  rw [sm_len, sm_len, ← ha.1, ← ha.2.1, ← sumN_add]
  refine sumN_congr _ fun i hi => ?_
  rw [← sumN_add]
  refine sumN_congr _ fun j hj => ?_
  have e1 : cc (addT t o) i j = cc t i j := rfl
  have e2 : cc o i j = cc t i j := by unfold cc; rw [ha.2.2]
  rw [e1, e2, Int.add_mul]
end
theorem law_BulkAdds (t o : Trade) (h3 : t.cost.length ≤ 9223372036854775807) (h4 : o.cost.length ≤ 9223372036854775807) : law07_BulkAdds t o = some true := by
  unfold law07_BulkAdds
  have yes : law07_BulkAdds_k2 t o true = some true := by
    unfold law07_BulkAdds_k2
    rw [if_pos rfl, bnd_eq sane_eq]
  rcases Long0 (t := t) h3 with h | ⟨h, hs⟩
  · rw [bnd_eq h, if_pos rfl, yes]
  · rw [bnd_eq h, if_neg (by simp)]
    rcases Long0 (t := o) h4 with h' | ⟨h', ho⟩
    · rw [bnd_eq h', yes]
    · have hsm : Tsmall (addR t o).1 := by
        unfold addR
        split
        · split
          · split
            · split
              · exact add_small hs
              · exact none_small
            · exact none_small
          · exact none_small
        · exact none_small
      rw [bnd_eq h']
      unfold law07_BulkAdds_k2
      rw [if_neg (by simp), bnd_eq (Add_eq hs ho), bnd_eq (rAdd_eq hs ho), bnd_eq (Same_self hsm), if_pos rfl]
      unfold law07_BulkAdds_k1
      rw [if_neg (by simp)]
      by_cases h0 : (addR t o).2 = 0
      · rw [if_pos h0]
        unfold addR at h0 ⊢
        split at h0
        · rename_i hv
          split at h0
          · rename_i hw
            split at h0
            · rename_i ha
              split at h0
              · rename_i hk
                rw [if_pos hv, if_pos hw, if_pos ha, if_pos hk]
                obtain ⟨c, k1, k2, _⟩ := Least_ok hs hv
                obtain ⟨c', l1, l2, _⟩ := Least_ok ho hw
                obtain ⟨c'', m1, m2, _⟩ := Least_ok (add_small (o := o) hs) (by rw [add_ok hv hw ha]; exact hk)
                show bnd (bulk_Least (addT t o)) _ = _
                rw [bnd_eq m2, bnd_eq k2, bnd_eq l2, if_pos rfl, if_pos rfl, if_pos rfl]
                obtain ⟨g, hg, rfl⟩ := k1
                obtain ⟨g', hg', rfl⟩ := l1
                have cb := costF_bnd hv hg.plan
                have cb' := costF_bnd hw hg'.plan
                have le := m1.le (add_plan ha hg.plan hg'.plan)
                rw [add_cost ha] at le
                rw [gd_pos (by show InR (costF t g + costF o g'); omega), if_pos le, bnd_eq sane_eq]
              · cases h0
            · cases h0
          · cases h0
        · cases h0
      · rw [if_neg h0, bnd_eq sane_eq]
end Go.D7
