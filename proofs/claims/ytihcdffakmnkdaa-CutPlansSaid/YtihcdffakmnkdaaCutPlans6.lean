/- Lemmas and walks that the proof of this claim uses: D4p4, D4p5, D4p6, D4p7. -/
import Derived.Test.YtihcdffakmnkdaaCutPlans5
set_option linter.unusedVariables false
set_option linter.unusedSimpArgs false
namespace Go.D4
open Go.Tb

def inCols (b : Bog) (c : Int) : Bool := within c 0 ((b.worth.length : Int) - 1)
/-- The hollow after the first i columns of an order (a column that is not open changes nothing). -/
def ordN (b : Bog) (o : List Int) : Nat → List Int
  | 0 => List.replicate b.worth.length 0
  | i + 1 => if openB b (ordN b o i) (gi o i).toNat = true then bump (ordN b o i) (gi o i).toNat else ordN b o i
theorem okL_zero {b : Bog} (hb : Ok b) : okL b (List.replicate b.worth.length 0) = true :=
  okL_iff.2 ⟨by simp, fun x hx => by have := List.eq_of_mem_replicate hx; have := hb.d1; omega⟩
theorem okL_bump {b : Bog} {h : List Int} (hb : Ok b) (ho : okL b h = true) {c : Nat} (hop : openB b h c = true) : okL b (bump h c) = true := by
  by_cases hc : c < h.length
  · exact (hollow0.1 (bump_hollow hb ho hc hop)).2.1
  · have : bump h c = h := by unfold bump; exact List.set_eq_of_length_le (by omega)
    rw [this]; exact ho
theorem ordN_ok {b : Bog} (hb : Ok b) (o : List Int) : ∀ i, okL b (ordN b o i) = true
  | 0 => okL_zero hb
  | i + 1 => by
    unfold ordN
    split
    · rename_i h; exact okL_bump hb (ordN_ok hb o i) h
    · exact ordN_ok hb o i
def ordP (b : Bog) (o : List Int) (i : Nat) : Bool := openB b (ordN b o i) (gi o i).toNat
def orderR (b : Bog) (o : List Int) : List Int × Int × Int :=
  match (List.range' 0 o.length).find? (fun j => !ordP b o j) with
  | none => (ordN b o o.length, (o.length : Int), 0)
  | some j => ([], (j : Int), 6)
def checkR (b : Bog) (o : List Int) : List Int × Int × Int :=
  if validate b = 0 then (if (24 : Int) < o.length then ([], 0, 3) else if o.all (inCols b) = true then orderR b o else ([], 0, 4)) else ([], 0, validate b)
theorem col_in {b : Bog} {o : List Int} (hall : o.all (inCols b) = true) {i : Nat} {x : Int} (hx : o[i]? = some x) : 0 ≤ x ∧ x.toNat < b.worth.length := by
  have := within_iff.1 (List.all_eq_true.1 hall x (List.mem_of_getElem? hx))
  omega
theorem scanR {S R : Type} (N : Nat) (p : Nat → Bool) (g : Nat → S) (L : Nat → S → Int → Option R) (yes : R) (no : Nat → R) {s0 : S} (h0 : g 0 = s0)
    (step : ∀ n i : Nat, i < N → L (n + 1) (g i) (i : Int) = if p i = true then L n (g (i + 1)) ((i + 1 : Nat) : Int) else some (no i))
    (stop : ∀ n : Nat, L (n + 1) (g N) (N : Int) = some yes) (hN : N ≤ 9223372036854775807) : L FU s0 0 = some (match (List.range' 0 N).find? (fun j => !p j) with | none => yes | some j => no j) := by
  rw [← h0]
  refine Eq.trans (scan_loop N p g L (some yes) (fun j => some (no j)) step stop N FU 0 (by omega) (by have := FU_pos; omega)) ?_
  cases (List.range' 0 N).find? (fun j => !p j) <;> rfl
theorem CheckOrder_eq {b : Bog} {o : List Int} (hs : Short b) (hl : o.length ≤ 1000000) : cut_CheckOrder b o = some (checkR b o) := by
  unfold cut_CheckOrder checkR
  rw [bnd_eq (Validate_eq hs)]
  by_cases hv : validate b = 0
  · have hb := val0.1 hv
    have h6 := hb.n6
    rw [if_pos hv, if_pos hv]
    by_cases h24 : (24 : Int) < o.length
    · rw [if_pos h24, if_pos h24]
    · rw [if_neg h24, if_neg h24]
      have hf : ∀ x, cut_CheckOrder_1 b x = some (!inCols b x) := fun x => by
        unfold cut_CheckOrder_1
        rw [gd_pos (by omega), bnd_eq (from_eq _ _ _)]; rfl
      have hn : ∀ l : List Int, (l.any fun x => !inCols b x) = !(l.all (inCols b)) := fun l => by
        induction l with
        | nil => rfl
        | cons x r ih => simp only [List.any_cons, List.all_cons, ih, Bool.not_and]
      rw [bnd_eq (ContainsFunc_eq o _ _ hf (by omega)), hn]
      cases hall : o.all (inCols b)
      · rfl
      · simp only [Bool.not_true, Bool.false_eq_true, if_false, if_true]
        rw [gd_pos (by omega)]
        unfold orderR
        refine Eq.trans (scanR o.length (ordP b o) (ordN b o) (fun n s i => cut_CheckOrder_L1 b o n i s) (ordN b o o.length, (o.length : Int), 0) (fun j => ([], (j : Int), 6)) (by simp [ordN]) (fun n i hi => ?_) (fun n => ?_) (by omega)) rfl
        · have hx := gi_at hi
          have hc := col_in hall hx
          have hok := ordN_ok hb o i
          have ⟨hln, hxx⟩ := okL_iff.1 hok
          have hcl : (gi o i).toNat < (ordN b o i).length := by omega
          have hcast : (gi o i) = (((gi o i).toNat : Nat) : Int) := by omega
          have hopn : cut_open b (ordN b o i) (gi o i) = some (ordP b o i) := by
            have := open_eq hb hok hcl
            rw [← hcast] at this; exact this
          have hat := gi_at hcl
          have hg := hxx _ (gi_mem hcl)
          have hd := hb.d4
          show cut_CheckOrder_B1 b o (cut_CheckOrder_L1 b o n) _ _ = _
          unfold cut_CheckOrder_B1
          rw [if_pos (by omega), ix_nat hx, bnd_eq hopn]
          by_cases hp : ordP b o i = true
          · rw [if_pos hp, if_pos hp, ix_eq hc.1 hat, gd_pos (by omega), ix_eq hc.1 hat, gd_pos (by omega)]
            unfold ordP at hp
            simp only [ordN, hp, if_true]; rfl
          · rw [if_neg hp, if_neg hp]
        · show cut_CheckOrder_B1 b o (cut_CheckOrder_L1 b o n) _ _ = _
          unfold cut_CheckOrder_B1
          rw [if_neg (by omega)]; rfl
  · rw [if_neg hv, if_neg hv]
theorem Has_eq {l : List Int} (x : Int) (hl : l.length ≤ 1000000) : ref04_Has l x = some (decide (x ∈ l)) := by
  unfold ref04_Has
  rw [list_loop0 l (fun y => !decide (y = x)) (ref04_Has_L1 l x) (some false) (some true) (fun n i y hy => ?_) (fun n => ?_) (by omega)]
  · by_cases h : x ∈ l
    · rw [if_neg (fun ha => by have := List.all_eq_true.1 ha x h; simp at this)]; simp [h]
    · rw [if_pos (List.all_eq_true.2 fun y hy => by simp; intro e; subst e; exact h hy)]; simp [h]
  · have := lt_of_at hy
    show ref04_Has_B1 l x (ref04_Has_L1 l x n) _ = _
    unfold ref04_Has_B1
    rw [if_pos (by omega), ix_nat hy, gd_pos (by omega)]
    by_cases h : y = x <;> simp [h]
  · show ref04_Has_B1 l x (ref04_Has_L1 l x n) _ = _
    unfold ref04_Has_B1
    rw [if_neg (by omega)]; rfl
theorem rCheckOrder_eq {b : Bog} {o : List Int} (hs : Short b) (hl : o.length ≤ 1000000) : ref04_CheckOrder b o = some (checkR b o) := by
  unfold ref04_CheckOrder checkR
  rw [bnd_eq (rValidate_eq hs)]
  by_cases hv : validate b = 0
  · have hb := val0.1 hv
    have h6 := hb.n6
    rw [if_pos hv, if_pos hv]
    by_cases h24 : (24 : Int) < o.length
    · rw [if_pos h24, if_pos h24]
    · rw [if_neg h24, if_neg h24, list_loop0 o (inCols b) (ref04_CheckOrder_L2 b o) (ref04_CheckOrder_k2 b o) (some ([], 0, 4)) (fun n i x hx => ?_) (fun n => ?_) (by omega)]
      · cases hall : o.all (inCols b)
        · rfl
        · simp only [if_true]
          unfold ref04_CheckOrder_k2 orderR
          rw [gd_pos (by omega)]
          refine Eq.trans (scanR o.length (ordP b o) (ordN b o) (fun n s i => ref04_CheckOrder_L1 b o n i s) (ordN b o o.length, (o.length : Int), 0) (fun j => ([], (j : Int), 6)) (by simp [ordN]) (fun n i hi => ?_) (fun n => ?_) (by omega)) rfl
          · have hx := gi_at hi
            have hc := col_in hall hx
            have hok := ordN_ok hb o i
            have ⟨hln, hxx⟩ := okL_iff.1 hok
            have hcl : (gi o i).toNat < (ordN b o i).length := by omega
            have hcast : (gi o i) = (((gi o i).toNat : Nat) : Int) := by omega
            have hol := opens_len b (ordN b o i) (ordN b o i).length
            have hmem : decide (gi o i ∈ opens b (ordN b o i) (ordN b o i).length) = ordP b o i := by
              by_cases hp : ordP b o i = true
              · rw [hp, decide_eq_true_eq]
                exact (opens_mem _ _).2 ⟨_, hcl, hcast, hp⟩
              · rw [Bool.eq_false_iff.2 hp, decide_eq_false_iff_not]
                intro hm
                obtain ⟨c, h1, h2, h3⟩ := (opens_mem _ _).1 hm
                refine hp ?_
                unfold ordP
                rw [h2]; exact h3
            have hat := gi_at hcl
            have hg := hxx _ (gi_mem hcl)
            have hd := hb.d4
            show ref04_CheckOrder_B1 b o (ref04_CheckOrder_L1 b o n) _ _ = _
            unfold ref04_CheckOrder_B1
            rw [if_pos (by omega), bnd_eq (ropen_eq hb hok), ix_nat hx, bnd_eq (Has_eq _ (by omega)), hmem]
            by_cases hp : ordP b o i = true
            · rw [if_pos hp, if_pos hp, ix_nat hx, ix_eq hc.1 hat, gd_pos (by omega), ix_eq hc.1 hat, gd_pos (by omega)]
              unfold ordP at hp
              simp only [ordN, hp, if_true]; rfl
            · rw [if_neg hp, if_neg hp]
          · show ref04_CheckOrder_B1 b o (ref04_CheckOrder_L1 b o n) _ _ = _
            unfold ref04_CheckOrder_B1
            rw [if_neg (by omega)]; rfl
      · have := lt_of_at hx
        show ref04_CheckOrder_B2 b o (ref04_CheckOrder_L2 b o n) _ = _
        unfold ref04_CheckOrder_B2 ref04_CheckOrder_k3
        rw [if_pos (by omega), ix_nat hx]
        by_cases hx0 : x < 0
        · rw [if_pos hx0]; simp [inCols, within]; omega
        · rw [if_neg hx0, ix_nat hx, gd_pos (by omega)]
          by_cases hx1 : (b.worth.length : Int) ≤ x
          · simp [hx1, inCols, within]; omega
          · have : inCols b x = true := within_iff.2 (by omega)
            simp [hx1, this]
      · show ref04_CheckOrder_B2 b o (ref04_CheckOrder_L2 b o n) _ = _
        unfold ref04_CheckOrder_B2
        rw [if_neg (by omega)]
  · rw [if_neg hv, if_neg hv]
theorem ordN_len {b : Bog} (o : List Int) : ∀ i, (ordN b o i).length = b.worth.length
  | 0 => by simp [ordN]
  | i + 1 => by
    have := ordN_len (b := b) o i
    unfold ordN
    split
    · simp [bump, this]
    · exact this
theorem checkR_len {b : Bog} {o : List Int} (hs : Short b) : (checkR b o).1.length ≤ 1000000 := by
  have h := hs.1
  unfold checkR orderR
  split
  · split
    · simp
    · split
      · split
        · have := ordN_len (b := b) o o.length; simp only; omega
        · simp
      · simp
  · simp
theorem law_CutOrders (b : Bog) (o : List Int) (hb : b.worth.length ≤ 9223372036854775807) : law04_CutOrders b o = some true := by
  unfold law04_CutOrders
  rw [bnd_eq (Long_eq (by simp) hb)]
  cases hL : longB b [o]
  · obtain ⟨hs, h2⟩ := long_short hL
    have hl := h2 o (by simp)
    rw [if_neg (by simp), bnd_eq (CheckOrder_eq hs (by omega)), bnd_eq (rCheckOrder_eq hs (by omega)), bnd_eq (SameInts_self (checkR_len hs)), if_pos rfl, if_pos rfl, if_pos rfl, bnd_eq sane_eq]
  · rw [if_pos rfl, bnd_eq sane_eq]
end Go.D4

set_option linter.unusedVariables false
set_option linter.unusedSimpArgs false
namespace Go.D4
open Go.Tb

theorem zw_at {f : Int → Int → Int} {h k : List Int} {i : Nat} {x y : Int} (hx : h[i]? = some x) (hy : k[i]? = some y) : (List.zipWith f h k)[i]? = some (f x y) := by
  rw [List.getElem?_zipWith, hx, hy]
theorem zw_gi {f : Int → Int → Int} {h k : List Int} (hl : k.length = h.length) {i : Nat} (hi : i < h.length) : gi (List.zipWith f h k) i = f (gi h i) (gi k i) :=
  gi_of (zw_at (gi_at hi) (gi_at (by omega)))
theorem joined_eq {h k : List Int} {F : Int → Int → Option Int} {f : Int → Int → Int} (hF : ∀ x y, F x y = some (f x y)) (hl : k.length = h.length) (hn : h.length ≤ 1000) : cut_joined h k F = some (List.zipWith f h k) := by
  unfold cut_joined
  have hzl : (List.zipWith f h k).length = h.length := by simp; omega
  refine Eq.trans (for0 h.length (fun i => (List.zipWith f h k).take i) (fun n s i => cut_joined_L1 h k F n i s) (some (List.zipWith f h k)) (by simp) (fun n i hi => ?_) (fun n => ?_) (by omega)) rfl
  · show cut_joined_B1 h k F (cut_joined_L1 h k F n) _ _ = _
    unfold cut_joined_B1
    have hz := zw_at (f := f) (gi_at hi) (gi_at (h := k) (c := i) (by omega))
    have e : (List.zipWith f h k).take (i + 1) = (List.zipWith f h k).take i ++ [f (gi h i) (gi k i)] := by
      rw [List.take_add_one, hz]; rfl
    rw [if_pos (by omega), ix_nat (gi_at hi), ix_nat (gi_at (by omega)), bnd_eq (hF _ _), gd_pos (by simp; omega), gd_pos (by omega), e]; rfl
  · show cut_joined_B1 h k F (cut_joined_L1 h k F n) _ _ = _
    unfold cut_joined_B1
    rw [if_neg (by omega)]
    unfold cut_joined_k1
    rw [List.take_of_length_le (by omega)]
theorem smaller_eq (x y : Int) : cut_smaller x y = some (min x y) := rfl
theorem greater_eq (x y : Int) : cut_greater x y = some (max x y) := rfl

/-- One row taken in, the first j columns of it. -/
def mixN (f : Int → Int → Int) (s r : List Int) (j : Nat) : List Int := (List.zipWith f s r).take j ++ s.drop j
theorem mix_step {f : Int → Int → Int} {s r : List Int} (hl : r.length = s.length) {j : Nat} (hj : j < s.length) : (mixN f s r j)[j]? = some (gi s j) ∧ (mixN f s r j).set j (f (gi s j) (gi r j)) = mixN f s r (j + 1) ∧ (mixN f s r j).length = s.length := by
  have hz := zw_at (f := f) (gi_at hj) (gi_at (h := r) (c := j) (by omega))
  have hzl : ((List.zipWith f s r).take j).length = j := by simp; omega
  have hd : s.drop j = gi s j :: s.drop (j + 1) := by
    rw [List.drop_eq_getElem_cons hj]
    congr 1
    have := gi_at hj
    rw [List.getElem?_eq_getElem hj] at this
    exact Option.some.inj this
  refine ⟨?_, ?_, by unfold mixN; simp; omega⟩
  · unfold mixN
    rw [List.getElem?_append_right (by omega), hzl, hd]; simp
  · unfold mixN
    rw [List.set_append_right _ _ (by omega), hzl, hd, Nat.sub_self, List.set_cons_zero, List.take_add_one, hz]
    simp
def foldN (f : Int → Int → Int) (x : List Int) (ll : List (List Int)) : List Int := ll.foldl (fun s r => List.zipWith f s r) x
theorem fold_len {f : Int → Int → Int} {m : Nat} : ∀ (ll : List (List Int)) (x : List Int), x.length = m → (∀ r ∈ ll, r.length = m) → (foldN f x ll).length = m
  | [], x, hx, h => hx
  | r :: ll, x, hx, h => by
    refine fold_len ll _ ?_ (fun q hq => h q (List.mem_cons_of_mem _ hq))
    have := h r (List.mem_cons_self ..)
    simp; omega
theorem fold_take {f : Int → Int → Int} {x : List Int} {ll : List (List Int)} {i : Nat} {r : List Int} (h : ll[i]? = some r) : foldN f x (ll.take (i + 1)) = List.zipWith f (foldN f x (ll.take i)) r := by
  have hi := lt_of_at h
  rw [List.take_add_one, h]
  simp [foldN, List.foldl_append]
theorem least_eq {ll : List (List Int)} {x : List Int} (hx : ll[0]? = some x) (hl : ∀ r ∈ ll, r.length = x.length) (hn : x.length ≤ 1000) (hm : ll.length ≤ 1000000) : ref04_least ll = some (foldN min x ll) := by
  unfold ref04_least
  rw [ix0 hx, gd_pos (by simp; omega), List.nil_append]
  refine Eq.trans (for0 ll.length (fun i => foldN min x (ll.take i)) (fun n s i => ref04_least_L2 ll n i s) (some (foldN min x ll)) rfl (fun n i hi => ?_) (fun n => ?_) (by omega)) rfl
  · have hr : ll[i]? = some ll[i] := by simp [hi]
    have hrl := hl ll[i] (List.getElem_mem _)
    have hfl := fold_len (f := min) (ll.take i) x rfl (fun r hr => hl r (List.mem_of_mem_take hr))
    show ref04_least_B2 ll (ref04_least_L2 ll n) _ _ = _
    unfold ref04_least_B2
    rw [if_pos (by omega)]
    refine Eq.trans (for0 x.length (mixN min (foldN min x (ll.take i)) ll[i]) (fun m s j => ref04_least_L1 ll i (ref04_least_L2 ll n) m j s) (ref04_least_L2 ll n ((i + 1 : Nat) : Int) (foldN min x (ll.take (i + 1)))) (by simp [mixN]) (fun m j hj => ?_) (fun m => ?_) (by omega)) rfl
    · have hj' : j < (foldN min x (ll.take i)).length := by omega
      obtain ⟨m1, m2, m3⟩ := mix_step (f := min) (s := foldN min x (ll.take i)) (r := ll[i]) (by omega) hj'
      show ref04_least_B1 ll i (ref04_least_L2 ll n) (ref04_least_L1 ll i (ref04_least_L2 ll n) m) _ _ = _
      unfold ref04_least_B1
      rw [if_pos (by omega), ix_nat m1, ix_nat hr, ix_nat (gi_at (by omega)), ix_nat m1, gd_pos (by omega), ← m2]; rfl
    · show ref04_least_B1 ll i (ref04_least_L2 ll n) (ref04_least_L1 ll i (ref04_least_L2 ll n) m) _ _ = _
      unfold ref04_least_B1
      have e : mixN min (foldN min x (ll.take i)) ll[i] x.length = foldN min x (ll.take (i + 1)) := by
        rw [fold_take hr]; unfold mixN
        rw [List.take_of_length_le (by simp; omega), List.drop_of_length_le (by omega), List.append_nil]
      have hel := fold_len (f := min) (ll.take (i + 1)) x rfl (fun r hr => hl r (List.mem_of_mem_take hr))
      rw [e, if_neg (by omega)]
      unfold ref04_least_k2
      rw [gd_pos (by omega)]; rfl
  · show ref04_least_B2 ll (ref04_least_L2 ll n) _ _ = _
    unfold ref04_least_B2
    rw [if_neg (by omega), List.take_length]; rfl
theorem most_eq {ll : List (List Int)} {x : List Int} (hx : ll[0]? = some x) (hl : ∀ r ∈ ll, r.length = x.length) (hn : x.length ≤ 1000) (hm : ll.length ≤ 1000000) : ref04_most ll = some (foldN max x ll) := by
  unfold ref04_most
  rw [ix0 hx, gd_pos (by simp; omega), List.nil_append]
  refine Eq.trans (for0 ll.length (fun i => foldN max x (ll.take i)) (fun n s i => ref04_most_L2 ll n i s) (some (foldN max x ll)) rfl (fun n i hi => ?_) (fun n => ?_) (by omega)) rfl
  · have hr : ll[i]? = some ll[i] := by simp [hi]
    have hrl := hl ll[i] (List.getElem_mem _)
    have hfl := fold_len (f := max) (ll.take i) x rfl (fun r hr => hl r (List.mem_of_mem_take hr))
    show ref04_most_B2 ll (ref04_most_L2 ll n) _ _ = _
    unfold ref04_most_B2
    rw [if_pos (by omega)]
    refine Eq.trans (for0 x.length (mixN max (foldN max x (ll.take i)) ll[i]) (fun m s j => ref04_most_L1 ll i (ref04_most_L2 ll n) m j s) (ref04_most_L2 ll n ((i + 1 : Nat) : Int) (foldN max x (ll.take (i + 1)))) (by simp [mixN]) (fun m j hj => ?_) (fun m => ?_) (by omega)) rfl
    · have hj' : j < (foldN max x (ll.take i)).length := by omega
      obtain ⟨m1, m2, m3⟩ := mix_step (f := max) (s := foldN max x (ll.take i)) (r := ll[i]) (by omega) hj'
      show ref04_most_B1 ll i (ref04_most_L2 ll n) (ref04_most_L1 ll i (ref04_most_L2 ll n) m) _ _ = _
      unfold ref04_most_B1
      rw [if_pos (by omega), ix_nat m1, ix_nat hr, ix_nat (gi_at (by omega)), ix_nat m1, gd_pos (by omega), ← m2]; rfl
    · show ref04_most_B1 ll i (ref04_most_L2 ll n) (ref04_most_L1 ll i (ref04_most_L2 ll n) m) _ _ = _
      unfold ref04_most_B1
      have e : mixN max (foldN max x (ll.take i)) ll[i] x.length = foldN max x (ll.take (i + 1)) := by
        rw [fold_take hr]; unfold mixN
        rw [List.take_of_length_le (by simp; omega), List.drop_of_length_le (by omega), List.append_nil]
      have hel := fold_len (f := max) (ll.take (i + 1)) x rfl (fun r hr => hl r (List.mem_of_mem_take hr))
      rw [e, if_neg (by omega)]
      unfold ref04_most_k2
      rw [gd_pos (by omega)]; rfl
  · show ref04_most_B2 ll (ref04_most_L2 ll n) _ _ = _
    unfold ref04_most_B2
    rw [if_neg (by omega), List.take_length]; rfl

def twoE (b : Bog) (h k : List Int) : Int := if hollowE b h = 0 then hollowE b k else hollowE b h
theorem two_eq {b : Bog} {h k : List Int} (hs : Short b) (hl : h.length ≤ 1000000) (kl : k.length ≤ 1000000) : cut_two b h k = some (twoE b h k) := by
  unfold cut_two twoE
  rw [bnd_eq (CheckHollow_eq hs hl)]
  by_cases h0 : hollowE b h = 0
  · rw [if_pos h0, if_pos h0, bnd_eq (CheckHollow_eq hs kl)]
  · rw [if_neg h0, if_neg h0]
theorem rtwo_eq {b : Bog} {h k : List Int} (hs : Short b) (hl : h.length ≤ 1000000) (kl : k.length ≤ 1000000) : ref04_two b h k = some (twoE b h k) := by
  unfold ref04_two twoE
  rw [bnd_eq (rCheckHollow_eq hs hl)]
  by_cases h0 : hollowE b h = 0
  · rw [if_pos h0, if_pos h0, bnd_eq (rCheckHollow_eq hs kl)]
  · rw [if_neg h0, if_neg h0]
theorem two0 {b : Bog} {h k : List Int} (h0 : twoE b h k = 0) : hollowE b h = 0 ∧ hollowE b k = 0 := by
  unfold twoE at h0
  split at h0
  · rename_i h; exact ⟨h, h0⟩
  · rename_i h; exact absurd h0 h
def joinR (f : Int → Int → Int) (b : Bog) (h k : List Int) : List Int × Int := if twoE b h k = 0 then (List.zipWith f h k, 0) else ([], twoE b h k)
theorem lens {b : Bog} {h k : List Int} (h0 : hollowE b h = 0) (k0 : hollowE b k = 0) : k.length = h.length ∧ h.length ≤ 6 := by
  have ⟨hb, ho, _⟩ := hollow0.1 h0
  have ⟨_, ko, _⟩ := hollow0.1 k0
  have := (okL_iff.1 ho).1; have := (okL_iff.1 ko).1; have := hb.n6
  omega
theorem Both_eq {b : Bog} {h k : List Int} (hs : Short b) (hl : h.length ≤ 1000000) (kl : k.length ≤ 1000000) : cut_Both b h k = some (joinR min b h k) := by
  unfold cut_Both joinR
  rw [bnd_eq (two_eq hs hl kl)]
  by_cases h0 : twoE b h k = 0
  · have ⟨a1, a2⟩ := two0 h0
    have ⟨l1, l2⟩ := lens a1 a2
    rw [if_pos h0, if_pos h0, bnd_eq (joined_eq smaller_eq l1 (by omega))]
  · rw [if_neg h0, if_neg h0]
theorem Either_eq {b : Bog} {h k : List Int} (hs : Short b) (hl : h.length ≤ 1000000) (kl : k.length ≤ 1000000) : cut_Either b h k = some (joinR max b h k) := by
  unfold cut_Either joinR
  rw [bnd_eq (two_eq hs hl kl)]
  by_cases h0 : twoE b h k = 0
  · have ⟨a1, a2⟩ := two0 h0
    have ⟨l1, l2⟩ := lens a1 a2
    rw [if_pos h0, if_pos h0, bnd_eq (joined_eq greater_eq l1 (by omega))]
  · rw [if_neg h0, if_neg h0]
theorem zw_self {f : Int → Int → Int} (hf : ∀ x, f x x = x) : ∀ h : List Int, List.zipWith f h h = h
  | [] => rfl
  | x :: r => by simp [hf, zw_self hf r]
theorem fold_two {f : Int → Int → Int} (hf : ∀ x, f x x = x) (h k : List Int) : foldN f h [h, k] = List.zipWith f h k := by
  show List.zipWith f (List.zipWith f h h) k = _
  rw [zw_self hf]
theorem rBoth_eq {b : Bog} {h k : List Int} (hs : Short b) (hl : h.length ≤ 1000000) (kl : k.length ≤ 1000000) : ref04_Both b h k = some (joinR min b h k) := by
  unfold ref04_Both joinR
  rw [bnd_eq (rtwo_eq hs hl kl)]
  by_cases h0 : twoE b h k = 0
  · have ⟨a1, a2⟩ := two0 h0
    have ⟨l1, l2⟩ := lens a1 a2
    rw [if_pos h0, if_pos h0, bnd_eq (least_eq (x := h) rfl (by simp; exact l1) (by omega) (by simp)), fold_two (fun x => by omega)]
  · rw [if_neg h0, if_neg h0]
theorem rEither_eq {b : Bog} {h k : List Int} (hs : Short b) (hl : h.length ≤ 1000000) (kl : k.length ≤ 1000000) : ref04_Either b h k = some (joinR max b h k) := by
  unfold ref04_Either joinR
  rw [bnd_eq (rtwo_eq hs hl kl)]
  by_cases h0 : twoE b h k = 0
  · have ⟨a1, a2⟩ := two0 h0
    have ⟨l1, l2⟩ := lens a1 a2
    rw [if_pos h0, if_pos h0, bnd_eq (most_eq (x := h) rfl (by simp; exact l1) (by omega) (by simp)), fold_two (fun x => by omega)]
  · rw [if_neg h0, if_neg h0]
theorem rightB_iff {h : List Int} : rightB h = true ↔ ∀ j, j < h.length → 1 ≤ j → -1 ≤ gi h j - gi h (j - 1) ∧ gi h j - gi h (j - 1) ≤ 1 := by
  unfold rightB
  simp only [decide_eq_true_eq, within_iff]
theorem hollow_zip {b : Bog} {h k : List Int} {f : Int → Int → Int} (hf : (∀ x y, f x y = min x y) ∨ (∀ x y, f x y = max x y)) (h0 : hollowE b h = 0) (k0 : hollowE b k = 0) : hollowE b (List.zipWith f h k) = 0 := by
  have ⟨l1, l2⟩ := lens h0 k0
  have ⟨hb, ho, hr⟩ := hollow0.1 h0
  have ⟨_, ko, kr⟩ := hollow0.1 k0
  have hzl : (List.zipWith f h k).length = h.length := by simp; omega
  refine hollow0.2 ⟨hb, okL_iff.2 ⟨by rw [hzl]; exact (okL_iff.1 ho).1, fun x hx => ?_⟩, rightB_iff.2 fun j hj h1 => ?_⟩
  · obtain ⟨i, hi⟩ := List.getElem?_of_mem hx
    have hlt := lt_of_at hi
    rw [zw_at (gi_at (by omega)) (gi_at (by omega))] at hi
    have e := Option.some.inj hi
    have b1 := (okL_iff.1 ho).2 _ (gi_mem (h := h) (c := i) (by omega))
    have b2 := (okL_iff.1 ko).2 _ (gi_mem (h := k) (c := i) (by omega))
    rcases hf with hf | hf <;> rw [hf] at e <;> omega
  · rw [hzl] at hj
    have r1 := rightB_iff.1 hr j hj h1
    have r2 := rightB_iff.1 kr j (by omega) h1
    rw [zw_gi l1 hj, zw_gi l1 (by omega)]
    rcases hf with hf | hf <;> rw [hf, hf] <;> omega
theorem colW_mm (b : Bog) (c : Nat) (x y : Int) : colW b c (min x y) + colW b c (max x y) = colW b c x + colW b c y := by
  by_cases h : x ≤ y
  · rw [show min x y = x by omega, show max x y = y by omega]
  · rw [show min x y = y by omega, show max x y = x by omega]; omega
theorem wsum_mm {b : Bog} {h k : List Int} (hl : k.length = h.length) : ∀ i, i ≤ h.length → wsum b (List.zipWith min h k) i + wsum b (List.zipWith max h k) i = wsum b h i + wsum b k i
  | 0, _ => rfl
  | i + 1, hi => by
    have ih := wsum_mm (b := b) hl i (by omega)
    have := colW_mm b i (gi h i) (gi k i)
    simp only [wsum]
    rw [zw_gi hl (by omega), zw_gi hl (by omega)]
    omega
theorem joinR_len {f : Int → Int → Int} {b : Bog} {h k : List Int} (hl : h.length ≤ 100) : (joinR f b h k).1.length ≤ 100 := by
  unfold joinR
  split
  · simp; omega
  · simp
theorem law_CutJoins (b : Bog) (h k : List Int) (hb : b.worth.length ≤ 9223372036854775807) : law04_CutJoins b h k = some true := by
  unfold law04_CutJoins
  rw [bnd_eq (Long_eq (by simp) hb)]
  cases hL : longB b [h, k]
  · obtain ⟨hs, h2⟩ := long_short hL
    have hl := h2 h (by simp)
    have kl := h2 k (by simp)
    have j1 := joinR_len (f := min) (b := b) (k := k) hl
    have j2 := joinR_len (f := max) (b := b) (k := k) hl
    rw [if_neg (by simp), bnd_eq (Both_eq hs (by omega) (by omega)), bnd_eq (rBoth_eq hs (by omega) (by omega)), bnd_eq (Either_eq hs (by omega) (by omega)), bnd_eq (rEither_eq hs (by omega) (by omega)), bnd_eq (SameInts_self (by omega)), if_pos rfl, if_pos rfl, bnd_eq (SameInts_self (by omega)), if_pos rfl]
    unfold law04_CutJoins_k1
    rw [if_neg (by simp)]
    by_cases h0 : twoE b h k = 0
    · have ⟨a1, a2⟩ := two0 h0
      have ⟨l1, l2⟩ := lens a1 a2
      have hb := (hollow0.1 a1).1
      have z1 := hollow_zip (f := min) (.inl fun _ _ => rfl) a1 a2
      have z2 := hollow_zip (f := max) (.inr fun _ _ => rfl) a1 a2
      have e1 : joinR min b h k = (List.zipWith min h k, 0) := by unfold joinR; rw [if_pos h0]
      have e2 : joinR max b h k = (List.zipWith max h k, 0) := by unfold joinR; rw [if_pos h0]
      have hz1 : (List.zipWith min h k).length = h.length := by simp; omega
      have hz2 : (List.zipWith max h k).length = h.length := by simp; omega
      have w1 : worthR b (List.zipWith min h k) = (wsum b (List.zipWith min h k) h.length, 0) := by unfold worthR; rw [if_pos z1, hz1]
      have w2 : worthR b (List.zipWith max h k) = (wsum b (List.zipWith max h k) h.length, 0) := by unfold worthR; rw [if_pos z2, hz2]
      have w3 : worthR b h = (wsum b h h.length, 0) := by unfold worthR; rw [if_pos a1]
      have w4 : worthR b k = (wsum b k h.length, 0) := by unfold worthR; rw [if_pos a2, l1]
      have b1 := wsum_bnd hb (List.zipWith min h k) h.length
      have b2 := wsum_bnd hb (List.zipWith max h k) h.length
      have b3 := wsum_bnd hb h h.length
      have b4 := wsum_bnd hb k h.length
      have hsum := wsum_mm (b := b) l1 h.length (Nat.le_refl _)
      rw [e1, e2, if_pos rfl, bnd_eq (Worth_eq hs (by simp only; omega)), bnd_eq (Worth_eq hs (by simp only; omega)), bnd_eq (Worth_eq hs (by omega)), bnd_eq (Worth_eq hs (by omega)), w1, w2, w3, w4, if_pos rfl, if_pos rfl, gd_pos (by omega), gd_pos (by omega), if_pos hsum, bnd_eq sane_eq]
    · have e1 : joinR min b h k = ([], twoE b h k) := by unfold joinR; rw [if_neg h0]
      rw [e1, if_neg h0, bnd_eq sane_eq]
  · rw [if_pos rfl, bnd_eq sane_eq]
end Go.D4

set_option linter.unusedVariables false
set_option linter.unusedSimpArgs false
namespace Go.D4
open Go.Tb

theorem find_loop {α R : Type} (l : List α) (P : α → Bool) (L : Nat → Int → Option R) (yes : Option R) (no : α → Option R)
    (step : ∀ (n i : Nat) (x : α), l[i]? = some x → L (n + 1) (i : Int) = if P x = true then no x else L n ((i + 1 : Nat) : Int))
    (stop : ∀ n : Nat, L (n + 1) (l.length : Int) = yes) : ∀ (d n i : Nat), l.length = i + d → d < n → L n (i : Int) = match (l.drop i).find? P with | none => yes | some x => no x
  | 0, n + 1, i, hd, hn => by
    have hi : i = l.length := by omega
    subst hi
    rw [stop n, List.drop_length]; rfl
  | d + 1, n + 1, i, hd, hn => by
    have hlt : i < l.length := by omega
    rw [step n i l[i] (by simp [hlt]), List.drop_eq_getElem_cons hlt, List.find?_cons]
    cases hp : P l[i]
    · rw [if_neg (by simp), find_loop l P L yes no step stop d n (i + 1) (by omega) (by omega)]
    · simp
theorem find_loop0 {α R : Type} (l : List α) (P : α → Bool) (L : Nat → Int → Option R) (yes : Option R) (no : α → Option R)
    (step : ∀ (n i : Nat) (x : α), l[i]? = some x → L (n + 1) (i : Int) = if P x = true then no x else L n ((i + 1 : Nat) : Int))
    (stop : ∀ n : Nat, L (n + 1) (l.length : Int) = yes) (hl : l.length ≤ 1000000) : L FU 0 = match l.find? P with | none => yes | some x => no x := by
  have := find_loop l P L yes no step stop l.length FU 0 (by omega) (by have := FU_pos; omega)
  simpa using this
theorem find_congr {α : Type} {P Q : α → Bool} : ∀ {l : List α}, (∀ x ∈ l, P x = Q x) → l.find? P = l.find? Q
  | [], _ => rfl
  | x :: r, h => by
    rw [List.find?_cons, List.find?_cons, h x (List.mem_cons_self ..), find_congr fun y hy => h y (List.mem_cons_of_mem _ hy)]

/-- The first column that is open and not as deep as it shall be. -/
def nextC (b : Bog) (h at_ : List Int) : Option Nat := (List.range at_.length).find? fun c => decide (gi at_ c < gi h c) && openB b at_ c
def plan (b : Bog) (h : List Int) : Nat → List Int → List Int → List Int
  | 0, out, at_ => out
  | r + 1, out, at_ => match nextC b h at_ with
    | some c => plan b h r (out ++ [(c : Int)]) (bump at_ c)
    | none => out
structure Inv (b : Bog) (h at_ : List Int) (r : Nat) : Prop where
  ok : Ok b
  lh : okL b h = true
  rh : rightB h = true
  la : okL b at_ = true
  ra : rightB at_ = true
  le : ∀ c, c < h.length → gi at_ c ≤ gi h c
  r_ : isum h - isum at_ = (r : Int)
theorem Inv.len {b : Bog} {h at_ : List Int} {r : Nat} (i : Inv b h at_ r) : at_.length = h.length ∧ h.length ≤ 6 := by
  have := (okL_iff.1 i.lh).1; have := (okL_iff.1 i.la).1; have := i.ok.n6
  omega
theorem isum_bump : ∀ {l : List Int} {c : Nat}, c < l.length → isum (bump l c) = isum l + 1
  | x :: r, 0, _ => by simp [bump, isum, gi]; omega
  | x :: r, c + 1, h => by
    have := isum_bump (l := r) (c := c) (by simpa using h)
    simp only [bump, isum, List.set_cons_succ] at this ⊢
    have e : gi (x :: r) (c + 1) = gi r c := by simp [gi, List.getD]
    rw [e]; omega
theorem isum_le : ∀ {l m : List Int}, l.length = m.length → (∀ c, c < m.length → gi l c ≤ gi m c) → isum l ≤ isum m ∧ (isum l = isum m → l = m)
  | [], [], _, _ => by simp
  | x :: r, y :: s, hl, h => by
    have h0 := h 0 (by simp)
    have ih := isum_le (l := r) (m := s) (by simpa using hl) (fun c hc => by
      have := h (c + 1) (by simpa using hc)
      simpa [gi, List.getD] using this)
    simp only [gi, List.getD, List.getElem?_cons_zero, Option.getD_some] at h0
    simp only [isum]
    refine ⟨by omega, fun e => ?_⟩
    have e1 : x = y := by omega
    have e2 := ih.2 (by omega)
    rw [e1, e2]
theorem gi_bump {l : List Int} {c j : Nat} (hc : c < l.length) : gi (bump l c) j = if j = c then gi l c + 1 else gi l j := by
  unfold bump gi
  simp only [List.getD, List.getElem?_set]
  by_cases h : c = j
  · subst h; simp [hc]
  · rw [if_neg h, if_neg (fun e => h e.symm)]
/-- Among finitely many columns one with the smallest value. -/
theorem min_ex (P : Nat → Prop) (v : Nat → Int) : ∀ n : Nat, (∃ c, c < n ∧ P c) → ∃ c, c < n ∧ P c ∧ ∀ d, d < n → P d → v c ≤ v d
  | 0, ⟨c, h, _⟩ => absurd h (by omega)
  | n + 1, ⟨c, hc, hp⟩ => by
    by_cases h : ∃ c, c < n ∧ P c
    · obtain ⟨m, h1, h2, h3⟩ := min_ex P v n h
      by_cases hn : P n ∧ v n < v m
      · refine ⟨n, by omega, hn.1, fun d hd hpd => ?_⟩
        by_cases e : d = n
        · subst e; omega
        · have := h3 d (by omega) hpd; omega
      · refine ⟨m, by omega, h2, fun d hd hpd => ?_⟩
        by_cases e : d = n
        · subst e
          by_cases hv : v d < v m
          · exact absurd ⟨hpd, hv⟩ hn
          · omega
        · exact h3 d (by omega) hpd
    · have e : c = n := by
        by_cases e : c = n
        · exact e
        · exact absurd ⟨c, by omega, hp⟩ h
      subst e
      refine ⟨c, by omega, hp, fun d hd hpd => ?_⟩
      by_cases e : d = c
      · subst e; omega
      · exact absurd ⟨d, by omega, hpd⟩ h
theorem next_ex {b : Bog} {h at_ : List Int} {r : Nat} (i : Inv b h at_ (r + 1)) : ∃ c, nextC b h at_ = some c ∧ c < at_.length ∧ gi at_ c < gi h c ∧ openB b at_ c = true := by
  have ⟨hl, h6⟩ := i.len
  have hex : ∃ c, c < at_.length ∧ gi at_ c < gi h c := by
    refine Classical.byContradiction fun hno => ?_
    have e : at_ = h := (isum_le hl i.le).2 (by
      have h1 := (isum_le hl i.le).1
      have h2 := (isum_le (l := h) (m := at_) hl.symm (fun c hc => by
        have := Classical.byContradiction (p := ¬ gi at_ c < gi h c) (fun hh => hno ⟨c, hc, Classical.byContradiction hh⟩)
        omega)).1
      omega)
    have := i.r_
    rw [e] at this; omega
  obtain ⟨c, hc, hlt, hmin⟩ := min_ex (fun c => gi at_ c < gi h c) (gi at_) at_.length hex
  have hop : openB b at_ c = true := by
    unfold openB
    rw [Bool.and_eq_true, decide_eq_true_eq]
    have hx := (okL_iff.1 i.lh).2 _ (gi_mem (h := h) (c := c) (by omega))
    refine ⟨by omega, rightB_iff.2 fun j hj h1 => ?_⟩
    have hj' : j < at_.length := by simpa [bump] using hj
    have ra := rightB_iff.1 i.ra
    have rh := rightB_iff.1 i.rh
    rw [gi_bump hc, gi_bump hc]
    have r1 := ra j hj' h1
    have q1 := rh j (by omega) h1
    by_cases e1 : j = c
    · rw [if_pos e1, if_neg (by omega)]
      subst e1
      by_cases hm : gi at_ (j - 1) < gi h (j - 1)
      · have := hmin (j - 1) (by omega) hm; omega
      · have := i.le (j - 1) (by omega); omega
    · rw [if_neg e1]
      by_cases e2 : j - 1 = c
      · rw [if_pos e2]
        by_cases hm : gi at_ j < gi h j
        · have := hmin j hj' hm; rw [e2] at r1; omega
        · have := i.le j (by omega); rw [e2] at r1 q1; omega
      · rw [if_neg e2]; exact r1
  cases hn : nextC b h at_ with
  | none =>
    unfold nextC at hn
    rw [List.find?_eq_none] at hn
    exact absurd (by simp [hlt, hop]) (hn c (List.mem_range.2 hc))
  | some d =>
    unfold nextC at hn
    have h1 := List.find?_some hn
    have h2 := List.mem_range.1 (List.mem_of_find?_eq_some hn)
    simp only [Bool.and_eq_true, decide_eq_true_eq] at h1
    exact ⟨d, rfl, h2, h1.1, h1.2⟩
theorem Inv.next {b : Bog} {h at_ : List Int} {r c : Nat} (i : Inv b h at_ (r + 1)) (hc : c < at_.length) (hlt : gi at_ c < gi h c) (hop : openB b at_ c = true) : Inv b h (bump at_ c) r := by
  have hh := hollow0.1 (bump_hollow i.ok i.la hc hop)
  refine ⟨i.ok, i.lh, i.rh, hh.2.1, hh.2.2, fun j hj => ?_, ?_⟩
  · rw [gi_bump hc]
    split
    · rename_i e; subst e; omega
    · exact i.le j hj
  · rw [isum_bump hc]; have := i.r_; omega
theorem Inv.zero {b : Bog} {h : List Int} (h0 : hollowE b h = 0) : Inv b h (List.replicate h.length 0) (isum h).toNat ∧ (isum h).toNat ≤ 24 := by
  have ⟨hb, ho, hr⟩ := hollow0.1 h0
  have ⟨hl, hx⟩ := okL_iff.1 ho
  have g0 : ∀ c, gi (List.replicate h.length 0) c = 0 := fun c => by
    unfold gi; simp only [List.getD, List.getElem?_replicate]; split <;> rfl
  have s0 : ∀ n, isum (List.replicate n 0) = 0 := fun n => by
    induction n with
    | zero => rfl
    | succ n ih => simp [List.replicate_succ, isum, ih]
  have nn : 0 ≤ isum h ∧ isum h ≤ 4 * (h.length : Int) := by
    have hd := hb.d4
    clear hl ho hr h0 g0
    induction h with
    | nil => simp [isum]
    | cons x r ih =>
      have := ih (fun y hy => hx y (List.mem_cons_of_mem _ hy))
      have := hx x (List.mem_cons_self ..)
      simp only [isum, List.length_cons]; omega
  have h6 := hb.n6
  refine ⟨⟨hb, ho, hr, by rw [hl]; exact okL_zero hb, rightB_iff.2 fun j hj h1 => by rw [g0, g0]; omega, fun c hc => ?_, ?_⟩, by omega⟩
  · rw [g0]; exact (hx _ (gi_mem hc)).1
  · rw [s0]; omega
theorem Equal_eq {l m : List Int} (hl : l.length ≤ 1000) (hm : m.length = l.length) : slices_Equal_int l m = some (decide (l = m)) := by
  unfold slices_Equal_int
  rw [if_pos (by omega), list_loop0 (List.range l.length) (fun i => decide (gi l i = gi m i)) (slices_Equal_int_L1 l m) (some true) (some false) (fun n i x hx => ?_) (fun n => ?_) (by simp; omega)]
  · by_cases h : l = m
    · rw [if_pos (List.all_eq_true.2 fun i _ => by rw [h]; simp)]; simp [h]
    · rw [if_neg (fun ha => h (List.ext_getElem? fun i => ?_))]; simp [h]
      by_cases hi : i < l.length
      · have := List.all_eq_true.1 ha i (List.mem_range.2 hi)
        rw [gi_at hi, gi_at (by omega)]; simpa using this
      · rw [List.getElem?_eq_none (by omega), List.getElem?_eq_none (by omega)]
  · have hi := lt_of_at hx
    simp at hi
    have e : x = i := by simp [hi] at hx; exact hx.symm
    subst e
    show slices_Equal_int_B1 l m (slices_Equal_int_L1 l m n) _ = _
    unfold slices_Equal_int_B1
    rw [if_pos (by omega), ix_nat (gi_at hi), ix_nat (gi_at (by omega)), gd_pos (by omega)]
    by_cases h : gi l x = gi m x <;> simp [h]
  · show slices_Equal_int_B1 l m (slices_Equal_int_L1 l m n) _ = _
    unfold slices_Equal_int_B1
    rw [List.length_range, if_neg (by omega)]; rfl
theorem Same_eq {l m : List Int} (hl : l.length ≤ 1000) (hm : m.length = l.length) : ref04_SameInts l m = some (decide (l = m)) := by
  unfold ref04_SameInts
  rw [if_pos (by omega), list_loop0 (List.range l.length) (fun i => decide (gi l i = gi m i)) (ref04_SameInts_L1 l m) (some true) (some false) (fun n i x hx => ?_) (fun n => ?_) (by simp; omega)]
  · by_cases h : l = m
    · rw [if_pos (List.all_eq_true.2 fun i _ => by rw [h]; simp)]; simp [h]
    · rw [if_neg (fun ha => h (List.ext_getElem? fun i => ?_))]; simp [h]
      by_cases hi : i < l.length
      · have := List.all_eq_true.1 ha i (List.mem_range.2 hi)
        rw [gi_at hi, gi_at (by omega)]; simpa using this
      · rw [List.getElem?_eq_none (by omega), List.getElem?_eq_none (by omega)]
  · have hi := lt_of_at hx
    simp at hi
    have e : x = i := by simp [hi] at hx; exact hx.symm
    subst e
    show ref04_SameInts_B1 l m (ref04_SameInts_L1 l m n) _ = _
    unfold ref04_SameInts_B1
    rw [if_pos (by omega), ix_nat (gi_at hi), ix_nat (gi_at (by omega)), gd_pos (by omega)]
    by_cases h : gi l x = gi m x <;> simp [h]
  · show ref04_SameInts_B1 l m (ref04_SameInts_L1 l m n) _ = _
    unfold ref04_SameInts_B1
    rw [List.length_range, if_neg (by omega)]; rfl
theorem Inv.done {b : Bog} {h at_ : List Int} (i : Inv b h at_ 0) : at_ = h := by
  have ⟨hl, _⟩ := i.len
  exact (isum_le hl i.le).2 (by have := i.r_; omega)
theorem Inv.not_done {b : Bog} {h at_ : List Int} {r : Nat} (i : Inv b h at_ (r + 1)) : at_ ≠ h := fun e => by
  have := i.r_
  rw [e] at this; omega
theorem Order_loop {b : Bog} {h : List Int} : ∀ (r n : Nat) (out at_ : List Int), Inv b h at_ r → out.length + r ≤ 24 → r < n → cut_Order_L2 b h n out at_ = some (plan b h r out at_, 0)
  | 0, n + 1, out, at_, i, hr, hn => by
    have ⟨hl, h6⟩ := i.len
    show cut_Order_B2 b h (cut_Order_L2 b h n) out at_ = _
    unfold cut_Order_B2
    rw [bnd_eq (Equal_eq (by omega) hl.symm), i.done]; simp [cut_Order_k1, plan]
  | r + 1, n + 1, out, at_, i, hr, hn => by
    have ⟨hl, h6⟩ := i.len
    obtain ⟨c, hnx, hc, hlt, hop⟩ := next_ex i
    show cut_Order_B2 b h (cut_Order_L2 b h n) out at_ = _
    unfold cut_Order_B2
    rw [bnd_eq (Equal_eq (by omega) hl.symm), if_neg (by simp; exact i.not_done)]
    have hx := (okL_iff.1 i.la).2
    have hd := i.ok.d4
    rw [find_loop0 (List.range at_.length) (fun c => decide (gi at_ c < gi h c) && openB b at_ c) (cut_Order_L1 b h out at_ (cut_Order_L2 b h n)) (cut_Order_L2 b h n out at_) (fun c => cut_Order_L2 b h n (out ++ [(c : Int)]) (bump at_ c)) (fun m j x hx' => ?_) (fun m => ?_) (by simp; omega)]
    · have e := hnx
      unfold nextC at e
      rw [e]
      show cut_Order_L2 b h n (out ++ [(c : Int)]) (bump at_ c) = _
      rw [Order_loop r n _ _ (i.next hc hlt hop) (by simp; omega) (by omega)]
      simp only [plan, hnx]
    · have hj := lt_of_at hx'
      simp at hj
      have e : x = j := by simp [hj] at hx'; exact hx'.symm
      subst e
      have hg := hx _ (gi_mem hj)
      show cut_Order_B1 b h out at_ (cut_Order_L2 b h n) (cut_Order_L1 b h out at_ (cut_Order_L2 b h n) m) _ = _
      unfold cut_Order_B1 cut_Order_k2
      rw [if_pos (by omega), ix_nat (gi_at hj), ix_nat (gi_at (by omega))]
      by_cases h1 : gi at_ x < gi h x
      · rw [if_pos h1, bnd_eq (open_eq i.ok i.la hj)]
        by_cases h2 : openB b at_ x = true
        · rw [if_pos h2, ix_nat (gi_at hj), gd_pos (by omega), ix_nat (gi_at hj), gd_pos (by simp; omega)]
          simp only [h1, h2, decide_true, Bool.true_and, if_true]; rfl
        · rw [if_neg h2, gd_pos (by omega)]
          simp only [h1, h2, decide_true, Bool.true_and, if_false]; rfl
      · rw [if_neg h1, if_neg (by simp), gd_pos (by omega)]
        simp only [h1, decide_false, Bool.false_and, if_false]; rfl
    · show cut_Order_B1 b h out at_ (cut_Order_L2 b h n) (cut_Order_L1 b h out at_ (cut_Order_L2 b h n) m) _ = _
      unfold cut_Order_B1
      rw [List.length_range, if_neg (by omega)]
end Go.D4

set_option linter.unusedVariables false
set_option linter.unusedSimpArgs false
namespace Go.D4
open Go.Tb

theorem opens_filter (b : Bog) (h : List Int) : ∀ n, opens b h n = ((List.range n).filter (openB b h)).map fun (c : Nat) => (c : Int)
  | 0 => rfl
  | n + 1 => by
    rw [List.range_succ, List.filter_append, List.map_append, ← opens_filter b h n]
    show (if openB b h n = true then opens b h n ++ [(n : Int)] else opens b h n) = _
    by_cases ho : openB b h n = true
    · rw [if_pos ho]; simp [ho]
    · rw [if_neg ho]; simp [ho]
theorem find_filter {α : Type} {p q : α → Bool} : ∀ l : List α, (l.filter p).find? q = l.find? fun x => q x && p x
  | [] => rfl
  | x :: r => by
    rw [List.filter_cons, List.find?_cons]
    cases hp : p x
    · simp [find_filter r]
    · simp only [if_true, List.find?_cons]
      cases hq : q x <;> simp [find_filter r]
theorem rnext {b : Bog} {h at_ : List Int} {r : Nat} (i : Inv b h at_ (r + 1)) {c : Nat} (hn : nextC b h at_ = some c) :
    (opens b at_ at_.length).find? (fun x => !decide (gi at_ x.toNat = gi h x.toNat)) = some (c : Int) := by
  have ⟨hl, h6⟩ := i.len
  rw [opens_filter, List.find?_map]
  have e : (fun x : Int => !decide (gi at_ x.toNat = gi h x.toNat)) ∘ (fun c : Nat => (c : Int)) = fun c : Nat => !decide (gi at_ c = gi h c) := by
    funext c; simp
  rw [e, find_filter]
  unfold nextC at hn
  rw [find_congr (Q := fun c => decide (gi at_ c < gi h c) && openB b at_ c) (fun x hx => ?_), hn]; · rfl
  have := i.le x (by have := List.mem_range.1 hx; omega)
  by_cases h1 : gi at_ x < gi h x
  · have : ¬ gi at_ x = gi h x := by omega
    simp [h1, this]
  · have : gi at_ x = gi h x := by omega
    simp [h1, this]
theorem ix_none {α β : Type} {l : List α} {i : Nat} {k : α → Option β} (h : l.length ≤ i) : ix l (i : Int) k = none := by
  cases he : ix l (i : Int) k with
  | none => rfl
  | some r =>
    obtain ⟨x, hx, _⟩ := ix_some he
    omega
theorem rOrder_loop {b : Bog} {h : List Int} : ∀ (r n : Nat) (out at_ : List Int), Inv b h at_ r → out.length + r ≤ 24 → r < n → ref04_Order_L2 b h n at_ out = some (plan b h r out at_, 0)
  | 0, n + 1, out, at_, i, hr, hn => by
    have ⟨hl, h6⟩ := i.len
    show ref04_Order_B2 b h (ref04_Order_L2 b h n) at_ out = _
    unfold ref04_Order_B2
    rw [bnd_eq (Same_eq (by omega) hl.symm), i.done]; simp [ref04_Order_k1, plan]
  | r + 1, n + 1, out, at_, i, hr, hn => by
    have ⟨hl, h6⟩ := i.len
    obtain ⟨c, hnx, hc, hlt, hop⟩ := next_ex i
    have hx := (okL_iff.1 i.la).2
    have hd := i.ok.d4
    have hol := opens_len b at_ at_.length
    show ref04_Order_B2 b h (ref04_Order_L2 b h n) at_ out = _
    unfold ref04_Order_B2
    rw [bnd_eq (Same_eq (by omega) hl.symm), if_neg (by simp; exact i.not_done), bnd_eq (ropen_eq i.ok i.la)]
    rw [find_loop0 (opens b at_ at_.length) (fun x => !decide (gi at_ x.toNat = gi h x.toNat)) (ref04_Order_L1 h at_ out (ref04_Order_L2 b h n) (opens b at_ at_.length)) none (fun x => ref04_Order_L2 b h n (bump at_ x.toNat) (out ++ [x])) (fun m j x hx' => ?_) (fun m => ?_) (by omega)]
    · rw [rnext i hnx]
      show ref04_Order_L2 b h n (bump at_ c) (out ++ [(c : Int)]) = _
      rw [rOrder_loop r n _ _ (i.next hc hlt hop) (by simp; omega) (by omega)]
      simp only [plan, hnx]
    · obtain ⟨c', hc', rfl, hop'⟩ := (opens_mem _ _).1 (List.mem_of_getElem? hx')
      have hj := lt_of_at hx'
      have hg := hx _ (gi_mem hc')
      show ref04_Order_B1 h at_ out (ref04_Order_L2 b h n) (opens b at_ at_.length) (ref04_Order_L1 h at_ out (ref04_Order_L2 b h n) (opens b at_ at_.length) m) _ = _
      unfold ref04_Order_B1
      rw [ix_nat hx', ix_nat (gi_at hc'), ix_nat hx', ix_nat (gi_at (by omega))]
      have et : ((c' : Int)).toNat = c' := by omega
      by_cases h1 : gi at_ c' = gi h c'
      · rw [if_pos h1, gd_pos (by omega)]
        simp only [et, h1, decide_true, Bool.not_true, Bool.false_eq_true, if_false]; rfl
      · rw [if_neg h1]
        unfold ref04_Order_k2
        rw [ix_nat hx', ix_nat (gi_at hc'), gd_pos (by omega), ix_nat (gi_at hc'), ix_nat hx', gd_pos (by simp; omega)]
        simp only [et, h1, decide_false, Bool.not_false, if_true]; rfl
    · show ref04_Order_B1 h at_ out (ref04_Order_L2 b h n) (opens b at_ at_.length) (ref04_Order_L1 h at_ out (ref04_Order_L2 b h n) (opens b at_ at_.length) m) _ = _
      unfold ref04_Order_B1
      rw [ix_none (Nat.le_refl _)]
def planR (b : Bog) (h : List Int) : List Int × Int := if hollowE b h = 0 then (plan b h (isum h).toNat [] (List.replicate h.length 0), 0) else ([], hollowE b h)
theorem Order_eq {b : Bog} {h : List Int} (hs : Short b) (hl : h.length ≤ 1000000) : cut_Order b h = some (planR b h) := by
  unfold cut_Order planR
  rw [bnd_eq (CheckHollow_eq hs hl)]
  by_cases h0 : hollowE b h = 0
  · have ⟨i, h24⟩ := Inv.zero h0
    have ⟨_, h6⟩ := i.len
    have e : Int.toNat (h.length : Int) = h.length := by omega
    rw [if_pos h0, if_pos h0, gd_pos (by omega), e, Order_loop _ FU _ _ i (by simpa using h24) (by have := FU_pos; omega)]
  · rw [if_neg h0, if_neg h0]
theorem rOrder_eq {b : Bog} {h : List Int} (hs : Short b) (hl : h.length ≤ 1000000) : ref04_Order b h = some (planR b h) := by
  unfold ref04_Order planR
  rw [bnd_eq (rCheckHollow_eq hs hl)]
  by_cases h0 : hollowE b h = 0
  · have ⟨i, h24⟩ := Inv.zero h0
    have ⟨_, h6⟩ := i.len
    have e : Int.toNat (h.length : Int) = h.length := by omega
    rw [if_pos h0, if_pos h0, gd_pos (by omega), e, rOrder_loop _ FU _ _ i (by simpa using h24) (by have := FU_pos; omega)]
  · rw [if_neg h0, if_neg h0]

/-! ### the order leads to the hollow -/
/-- What is known of an order that has been made so far. -/
structure Led (b : Bog) (out at_ : List Int) : Prop where
  cols : ∀ x ∈ out, inCols b x = true
  all : ∀ j, j < out.length → ordP b out j = true
  to : ordN b out out.length = at_
theorem ordN_pre {b : Bog} {o s : List Int} : ∀ i, i ≤ o.length → ordN b (o ++ s) i = ordN b o i
  | 0, _ => rfl
  | i + 1, h => by
    have ih := ordN_pre (b := b) (o := o) (s := s) i (by omega)
    have e : gi (o ++ s) i = gi o i := by
      have hlt : i < o.length := by omega
      unfold gi
      simp only [List.getD, List.getElem?_append_left hlt]
    show (if openB b (ordN b (o ++ s) i) (gi (o ++ s) i).toNat = true then _ else _) = (if _ then _ else _)
    rw [ih, e]
theorem Led.next {b : Bog} {out at_ : List Int} {c : Nat} (l : Led b out at_) (hc : c < b.worth.length) (hop : openB b at_ c = true) : Led b (out ++ [(c : Int)]) (bump at_ c) := by
  have e : gi (out ++ [(c : Int)]) out.length = (c : Int) := gi_of (by simp)
  have e2 : ordN b (out ++ [(c : Int)]) out.length = at_ := by rw [ordN_pre _ (Nat.le_refl _), l.to]
  refine ⟨fun x hx => ?_, fun j hj => ?_, ?_⟩
  · rcases List.mem_append.1 hx with h | h
    · exact l.cols x h
    · have : x = (c : Int) := by simpa using h
      rw [this]; exact within_iff.2 (by omega)
  · by_cases hjl : j < out.length
    · have h1 := l.all j hjl
      unfold ordP at h1 ⊢
      have e3 : gi (out ++ [(c : Int)]) j = gi out j := by
        unfold gi
        simp only [List.getD, List.getElem?_append_left hjl]
      rw [ordN_pre _ (by omega), e3]; exact h1
    · have : j = out.length := by simp at hj; omega
      subst this
      unfold ordP
      rw [e2, e]; exact hop
  · rw [List.length_append, List.length_singleton]
    show (if openB b (ordN b (out ++ [(c : Int)]) out.length) (gi (out ++ [(c : Int)]) out.length).toNat = true then _ else _) = _
    rw [e2, e]
    have et : ((c : Int)).toNat = c := by omega
    rw [et, if_pos hop]
theorem plan_led {b : Bog} {h : List Int} : ∀ (r : Nat) (out at_ : List Int), Inv b h at_ r → Led b out at_ → Led b (plan b h r out at_) h ∧ (plan b h r out at_).length = out.length + r
  | 0, out, at_, i, l => by
    have e := i.done
    subst e
    exact ⟨l, rfl⟩
  | r + 1, out, at_, i, l => by
    obtain ⟨c, hnx, hc, hlt, hop⟩ := next_ex i
    have hcl : c < b.worth.length := by have := (okL_iff.1 i.la).1; omega
    have := plan_led r _ _ (i.next hc hlt hop) (l.next hcl hop)
    simp only [plan, hnx]
    refine ⟨this.1, by rw [this.2]; simp; omega⟩
theorem Led.check {b : Bog} {o h : List Int} (hb : Ok b) (l : Led b o h) (h24 : o.length ≤ 24) : checkR b o = (h, (o.length : Int), 0) := by
  unfold checkR orderR
  rw [if_pos (val0.2 hb), if_neg (by omega), if_pos (List.all_eq_true.2 l.cols)]
  have hf : (List.range' 0 o.length).find? (fun j => !ordP b o j) = none := find_all.2 fun j _ hj => l.all j (by omega)
  rw [hf, l.to]
theorem law_CutPlans (b : Bog) (h : List Int) (hb : b.worth.length ≤ 9223372036854775807) : law04_CutPlans b h = some true := by
  unfold law04_CutPlans
  rw [bnd_eq (Long_eq (by simp) hb)]
  cases hL : longB b [h]
  · obtain ⟨hs, h2⟩ := long_short hL
    have hl := h2 h (by simp)
    by_cases h0 : hollowE b h = 0
    · have ⟨i, h24⟩ := Inv.zero h0
      have hbo := (hollow0.1 h0).1
      have e0 : List.replicate b.worth.length (0 : Int) = List.replicate h.length 0 := by rw [(okL_iff.1 i.lh).1]
      have l0 : Led b [] (List.replicate h.length 0) := ⟨fun x hx => (List.not_mem_nil hx).elim, fun j hj => absurd hj (Nat.not_lt_zero _), e0⟩
      have ⟨ld, ln⟩ := plan_led _ _ _ i l0
      have e : planR b h = (plan b h (isum h).toNat [] (List.replicate h.length 0), 0) := by unfold planR; rw [if_pos h0]
      have hpl : (plan b h (isum h).toNat [] (List.replicate h.length 0)).length ≤ 24 := by rw [ln]; simpa using h24
      rw [if_neg (by simp), bnd_eq (Order_eq hs (by omega)), bnd_eq (rOrder_eq hs (by omega)), e, bnd_eq (SameInts_self (by simp only; omega)), if_pos rfl]
      unfold law04_CutPlans_k1
      rw [if_neg (by simp), if_pos rfl, bnd_eq (CheckOrder_eq hs (by simp only; omega)), ld.check hbo hpl, if_pos rfl, if_pos rfl, bnd_eq (SameInts_self (by simp only; omega)), if_pos rfl, bnd_eq sane_eq]
    · have e : planR b h = ([], hollowE b h) := by unfold planR; rw [if_neg h0]
      rw [if_neg (by simp), bnd_eq (Order_eq hs (by omega)), bnd_eq (rOrder_eq hs (by omega)), e, bnd_eq (SameInts_self (by simp)), if_pos rfl]
      unfold law04_CutPlans_k1
      rw [if_neg (by simp), if_neg h0, bnd_eq sane_eq]
  · rw [if_pos rfl, bnd_eq sane_eq]
end Go.D4

