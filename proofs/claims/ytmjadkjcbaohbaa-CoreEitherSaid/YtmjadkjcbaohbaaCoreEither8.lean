/- Lemmas and walks that the proof of this claim uses: D3p4, D3p5, D3p6. -/
import Derived.Test.YtmjadkjcbaohbaaCoreEither7
set_option linter.unusedVariables false
set_option linter.unusedSimpArgs false
namespace Go.D3
open Go.Tb Go.Core

/-! ### shifted cores -/
def shiftB (l : List Int) (x : Bound) : Bound := ⟨x.a, x.b, x.most + (gi l x.b - gi l x.a)⟩
def shift (c : Core) (l : List Int) : Core := ⟨c.layers, c.bounds.map (shiftB l)⟩
def shiftR (c : Core) (l : List Int) : Core × Int :=
  if datedE c l = 0 then (if c.bounds.all (fun x => right (shiftB l x) c.layers) = true then (shift c l, 0) else (⟨0, []⟩, 1)) else (⟨0, []⟩, datedE c l)
theorem shift_at {c : Core} {l : List Int} (hd : datedE c l = 0) {x : Bound} {i : Nat} (hx : c.bounds[i]? = some x) : ∃ p q, l[x.b.toNat]? = some p ∧ l[x.a.toNat]? = some q ∧ -1000000 ≤ p ∧ p ≤ 1000000 ∧ -1000000 ≤ q ∧ q ≤ 1000000 ∧ 0 ≤ x.a ∧ 0 ≤ x.b ∧ -10000 ≤ x.most ∧ x.most ≤ 10000 ∧ shiftB l x = ⟨x.a, x.b, x.most + (p - q)⟩ := by
  obtain ⟨hv, h1, h2⟩ := datedE_ok hd
  have hb := bound_ok hv hx
  obtain ⟨p, hp⟩ := ex_at (l := l) (j := x.b.toNat) (by omega)
  obtain ⟨q, hq⟩ := ex_at (l := l) (j := x.a.toNat) (by omega)
  have b1 := h2 p (List.mem_of_getElem? hp)
  have b2 := h2 q (List.mem_of_getElem? hq)
  refine ⟨p, q, hp, hq, b1.1, b1.2, b2.1, b2.2, hb.1, hb.2.2.1, hb.2.2.2.2.2.1, hb.2.2.2.2.2.2, ?_⟩
  unfold shiftB; rw [gi_of hp, gi_of hq]
theorem Shift_eq (c : Core) (l : List Int) (hc : c.bounds.length ≤ 100) (hl : l.length ≤ 1000000) : core_Shift c l = some (shiftR c l) := by
  unfold core_Shift shiftR
  rw [bnd_eq (dated_eq c l hc hl)]
  by_cases hd : datedE c l = 0
  · have hv := (datedE_ok hd).1
    have hvo := validate_ok hv
    rw [if_pos hd, if_pos hd]
    have h := scan_loop0 c.bounds.length (fun i => (c.bounds[i]?.map fun x => right (shiftB l x) c.layers).getD true) (fun i => (c.bounds.take i).map (shiftB l)) (fun n s i => core_Shift_L1 c l n i s) (some (shift c l, 0)) (some (⟨0, []⟩, 1)) (fun n i hi => ?_) (fun n => ?_) (by omega)
    · refine Eq.trans h ?_
      by_cases ha : c.bounds.all (fun x => right (shiftB l x) c.layers) = true
      · rw [if_pos ha, if_pos]
        intro j hj
        have := List.all_eq_true.1 ha c.bounds[j] (List.getElem_mem hj)
        simp [hj, this]
      · rw [if_neg ha, if_neg]
        intro hcc
        refine ha (List.all_eq_true.2 fun x hx => ?_)
        obtain ⟨j, hj⟩ := List.getElem?_of_mem hx
        have := hcc j (lt_of_at hj)
        simpa [hj] using this
    · obtain ⟨x, hx⟩ := ex_at hi
      obtain ⟨p, q, hp, hq, b1, b2, b3, b4, ha, hb, m1, m2, he⟩ := shift_at hd hx
      show core_Shift_B1 c l (core_Shift_L1 c l n) _ _ = _
      unfold core_Shift_B1
      rw [if_pos (by omega), ix_nat hx, ix_eq hb hp, ix_eq ha hq, gd_pos (by omega), gd_pos (by omega), bnd_eq (right_eq _ _ (by omega)), hx]
      simp only [Option.map_some, Option.getD_some, he]
      cases hr : right ⟨x.a, x.b, x.most + (p - q)⟩ c.layers
      · simp
      · simp only [if_true]
        rw [gd_pos (by simp; omega), gd_pos (by omega), take_succ_at hx, List.map_append, List.map_singleton, he]
        rfl
    · show core_Shift_B1 c l (core_Shift_L1 c l n) _ _ = _
      unfold core_Shift_B1
      rw [if_neg (by omega), List.take_length]
      rfl
  · rw [if_neg hd, if_neg hd]
theorem validate_shift {c : Core} {l : List Int} (hv : validate c = 0) : validate (shift c l) = if c.bounds.all (fun x => right (shiftB l x) c.layers) = true then 0 else 1 := by
  have hvo := validate_ok hv
  unfold validate shift
  simp only [List.length_map, List.all_map]
  have hw : within c.layers 1 8 = true := Core.within_iff.2 (by omega)
  rw [if_neg (by rw [hw]; decide), if_neg (by omega)]
  rfl
theorem rShift_eq (c : Core) (l : List Int) (hc : c.bounds.length ≤ 100) (hl : l.length ≤ 1000000) : ref03_Shift c l = some (shiftR c l) := by
  unfold ref03_Shift shiftR
  rw [bnd_eq (rValidate_eq c hc)]
  by_cases hv : validate c = 0
  · have hvo := validate_ok hv
    rw [if_pos hv, bnd_eq (isDates_eq c l hl)]
    cases hi : isDatesS c l
    · have hd : datedE c l = 1 := by unfold datedE; rw [if_pos hv, hi]; rfl
      rw [hd]; rfl
    · have hd : datedE c l = 0 := by unfold datedE; rw [if_pos hv, hi]; rfl
      rw [if_pos hd, if_pos rfl, bnd_eq (Copy_eq c (by omega))]
      have hlen : ∀ i, ((c.bounds.take i).map (shiftB l) ++ c.bounds.drop i).length = c.bounds.length := by intro i; simp; omega
      have := for_loop0 c.bounds.length (fun i => (c.bounds.take i).map (shiftB l) ++ c.bounds.drop i) (fun n s i => ref03_Shift_L1 l c n i s) (ref03_Shift_k1 c (c.bounds.map (shiftB l))) (fun n i hi => ?_) (fun n => ?_) (by omega)
      · refine Eq.trans (by simpa using this) ?_
        unfold ref03_Shift_k1
        have e : (⟨c.layers, c.bounds.map (shiftB l)⟩ : Core) = shift c l := rfl
        rw [e, bnd_eq (rValidate_eq (shift c l) (by unfold shift; simpa using hc)), validate_shift hv]
        by_cases ha : c.bounds.all (fun x => right (shiftB l x) c.layers) = true
        · rw [if_pos ha, if_pos ha]; rfl
        · rw [if_neg ha, if_neg ha]; rfl
      · obtain ⟨x, hx⟩ := ex_at hi
        obtain ⟨p, q, hp, hq, b1, b2, b3, b4, ha, hb, m1, m2, he⟩ := shift_at hd hx
        have hs : ((c.bounds.take i).map (shiftB l) ++ c.bounds.drop i)[i]? = some x := by
          rw [List.getElem?_append_right (by simp; omega)]
          simp [List.getElem?_drop]
          rw [show min i c.bounds.length = i by omega]; simpa using hx
        show ref03_Shift_B1 l c (ref03_Shift_L1 l c n) _ _ = _
        unfold ref03_Shift_B1
        simp only [Int.toNat_natCast]
        rw [if_pos (by rw [hlen]; omega), ix_nat hs, ix_eq hb hp, gd_pos (by omega), ix_eq ha hq, gd_pos (by omega), ix_nat hs, gd_pos (by omega)]
        have e : ((c.bounds.take i).map (shiftB l) ++ c.bounds.drop i).set i ⟨x.a, x.b, x.most + p - q⟩ = (c.bounds.take (i + 1)).map (shiftB l) ++ c.bounds.drop (i + 1) := by
          rw [take_succ_at hx, List.map_append, List.set_append_right _ _ (by simp; omega)]
          have e1 : i - ((c.bounds.take i).map (shiftB l)).length = 0 := by simp; omega
          rw [e1]
          have e2 : c.bounds.drop i = x :: c.bounds.drop (i + 1) := by
            obtain ⟨h1, h2⟩ := List.getElem?_eq_some_iff.1 hx
            rw [← h2]; exact List.drop_eq_getElem_cons h1
          rw [e2, List.map_singleton, he]
          have e3 : x.most + p - q = x.most + (p - q) := by omega
          simp [e3]
        rw [e]; rfl
      · show ref03_Shift_B1 l c (ref03_Shift_L1 l c n) _ _ = _
        unfold ref03_Shift_B1
        rw [if_neg (by rw [hlen]; omega), List.take_length, List.drop_length, List.append_nil]
  · have hd : datedE c l = validate c := by unfold datedE; rw [if_neg hv]
    rw [if_neg hv, if_neg (by rw [hd]; exact hv), hd]

theorem clash_path {c : Core} (hv : validate c = 0) : clashes c = true ↔ ∃ u e, u < c.layers.toNat ∧ Path c u e u ∧ wt e < 0 := by
  constructor
  · intro h
    exact neg_of (lay_of hv) (by rw [← clash_iff hv]; exact h)
  · rintro ⟨u, e, hu, hp, hw⟩
    cases hc : clashes c with
    | true => rfl
    | false =>
      have := hp.pot (pot_of hv hc)
      omega
theorem Path.shift {c : Core} (l : List Int) {u v : Nat} {e : List Bound} (h : Path c u e v) : Path (shift c l) u (e.map (shiftB l)) v ∧ wt (e.map (shiftB l)) = wt e + (l.getD v 0 - l.getD u 0) := by
  induction h with
  | nil => exact ⟨.nil _, by simp [wt]⟩
  | cons hx _ ih =>
    rename_i x v' e' hp
    refine ⟨.cons (x := shiftB l x) (List.mem_map_of_mem hx) ih.1, ?_⟩
    simp only [List.map_cons, wt, ih.2]
    show x.most + (l.getD x.b.toNat 0 - l.getD x.a.toNat 0) + _ = _
    omega
theorem shift_back {c : Core} {l : List Int} : shift (shift c l) (l.map fun n => -n) = c := by
  have e : ∀ v : Nat, (l.map fun n => -n).getD v 0 = -(l.getD v 0) := by
    intro v
    simp only [List.getD, List.getElem?_map]
    cases l[v]? <;> simp
  unfold shift
  simp only [List.map_map]
  have : (shiftB (l.map fun n => -n) ∘ shiftB l) = id := by
    funext x
    cases x
    simp only [Function.comp, shiftB, gi, e, id]
    congr 1
    omega
  rw [this, List.map_id]
theorem clash_shift {c : Core} {l : List Int} (hv : validate c = 0) (hs : validate (shift c l) = 0) : clashes (shift c l) = clashes c := by
  have one : ∀ (c : Core) (l : List Int), validate c = 0 → validate (shift c l) = 0 → clashes c = true → clashes (shift c l) = true := by
    intro c l hv hs h
    obtain ⟨u, e, hu, hp, hw⟩ := (clash_path hv).1 h
    have := Path.shift l hp
    exact (clash_path hs).2 ⟨u, _, hu, this.1, by rw [this.2]; omega⟩
  cases h : clashes c with
  | true => exact one c l hv hs h
  | false =>
    cases h' : clashes (shift c l) with
    | false => rfl
    | true =>
      have := one (shift c l) (l.map fun n => -n) hs (by rw [shift_back]; exact hv) h'
      rw [shift_back, h] at this
      exact this.symm
/-- Dates moved by as much. -/
def later (d b : List Int) : List Int := List.zipWith (fun x y => x + y) d b
theorem later_at {d b : List Int} (hl : b.length = d.length) {i : Int} (h : i.toNat < d.length) : gi (later d b) i = gi d i + gi b i := by
  unfold gi later
  simp [List.getD, List.getElem?_zipWith, h, hl]
theorem checkDates_shift {c : Core} {d b : List Int} (hd : datedE c d = 0) (hb : datedE c b = 0) (ha : c.bounds.all (fun x => right (shiftB b x) c.layers) = true) : checkDates (shift c b) (later d b) = checkDates c d ∨ checkDates (shift c b) (later d b) = 1 := by
  obtain ⟨hv, l1, _⟩ := datedE_ok hd
  obtain ⟨_, l2, _⟩ := datedE_ok hb
  have hs : validate (shift c b) = 0 := by rw [validate_shift hv, if_pos ha]
  have hlen : (later d b).length = d.length := by unfold later; simp; omega
  by_cases hr : (later d b).all okD = true
  · left
    have e1 : datedE (shift c b) (later d b) = 0 := by
      unfold datedE
      rw [if_pos hs, if_pos]
      unfold isDatesS
      rw [hr, Bool.and_true, decide_eq_true_eq, hlen]
      exact l1
    unfold checkDates
    rw [if_pos e1, if_pos hd]
    have : (shift c b).bounds.all (keeps (later d b)) = c.bounds.all (keeps d) := by
      unfold shift
      simp only [List.all_map]
      have key : ∀ x : Bound, x ∈ c.bounds → keeps (later d b) (shiftB b x) = keeps d x := by
        intro x hx
        obtain ⟨j, hj⟩ := List.getElem?_of_mem hx
        have hbb := bound_ok hv hj
        have ea := later_at (d := d) (b := b) (by omega) (i := x.a) (by omega)
        have eb := later_at (d := d) (b := b) (by omega) (i := x.b) (by omega)
        have e : (gi (later d b) (shiftB b x).b - gi (later d b) (shiftB b x).a ≤ (shiftB b x).most) ↔ (gi d x.b - gi d x.a ≤ x.most) := by
          show (gi (later d b) x.b - gi (later d b) x.a ≤ x.most + (gi b x.b - gi b x.a)) ↔ _
          rw [ea, eb]; omega
        exact decide_eq_decide.2 e
      apply Bool.eq_iff_iff.2
      simp only [List.all_eq_true]
      constructor <;> intro h x hx <;> have hk := h x hx <;> have := key x hx
      · rw [← this]; exact hk
      · show keeps (later d b) (shiftB b x) = true
        rw [this]; exact hk
    rw [this]
  · right
    have e1 : datedE (shift c b) (later d b) = 1 := by
      unfold datedE
      rw [if_pos hs, if_neg]
      unfold isDatesS
      simp [hr]
    unfold checkDates
    rw [if_neg (by omega), e1]
theorem law_CoreShifts (c : Core) (b d : List Int) : law03_CoreShifts c b d = some true := by
  unfold law03_CoreShifts
  rw [bnd_eq (Long_eq c)]
  have hk : law03_CoreShifts_k4 c b d true = some true := by unfold law03_CoreShifts_k4; rw [if_pos rfl, bnd_eq known_eq]
  by_cases h1 : (100 : Int) < c.bounds.length
  · simp only [h1, decide_true, if_true]; exact hk
  simp only [h1, decide_false, Bool.false_eq_true, if_false]
  by_cases h2 : (100 : Int) < b.length
  · rw [if_pos h2]; exact hk
  rw [if_neg h2]
  by_cases h3 : (100 : Int) < d.length
  · simp only [h3, decide_true]; exact hk
  simp only [h3, decide_false]
  have hc : c.bounds.length ≤ 100 := by omega
  have hk2 : ∀ r1 r2, law03_CoreShifts_k2 c b d r1 r2 true = some true := by intro r1 r2; unfold law03_CoreShifts_k2; rw [if_pos rfl, bnd_eq known_eq]
  unfold law03_CoreShifts_k4
  rw [if_neg (by simp), bnd_eq (Shift_eq c b hc (by omega)), bnd_eq (rShift_eq c b hc (by omega))]
  have hle : (shiftR c b).1.bounds.length ≤ 100 := by
    unfold shiftR
    split
    · split
      · unfold shift; simpa using hc
      · simp
    · simp
  rw [bnd_eq (Equal_self _ (by omega)), if_pos rfl]
  unfold law03_CoreShifts_k3
  rw [if_neg (by simp), bnd_eq (CheckDates_eq c d hc (by omega))]
  by_cases he : (shiftR c b).2 = 0
  · rw [if_pos he]
    have hb : datedE c b = 0 := by
      by_cases hb : datedE c b = 0
      · exact hb
      · unfold shiftR at he; rw [if_neg hb] at he; exact absurd he hb
    have ha : c.bounds.all (fun x => right (shiftB b x) c.layers) = true := by
      by_cases ha : c.bounds.all (fun x => right (shiftB b x) c.layers) = true
      · exact ha
      · unfold shiftR at he; rw [if_pos hb, if_neg ha] at he; exact absurd he (by decide)
    have hS : shiftR c b = (shift c b, 0) := by unfold shiftR; rw [if_pos hb, if_pos ha]
    obtain ⟨hv, l2, r2⟩ := datedE_ok hb
    have hs : validate (shift c b) = 0 := by rw [validate_shift hv, if_pos ha]
    have hsl : (shift c b).bounds.length ≤ 100 := by unfold shift; simpa using hc
    have main : (checkDates c d = 0 ∨ checkDates c d = 7) → ∀ t, t = (!decide (((b.length : Int)) = ((d.length : Int)))) → law03_CoreShifts_k2 c b d (shiftR c b) (checkDates c d) t = some true := by
      intro h07 t ht
      by_cases hl : (b.length : Int) = d.length
      · have : t = false := by rw [ht]; simp [hl]
        subst this
        have hd : datedE c d = 0 := by
          by_cases hd : datedE c d = 0
          · exact hd
          · have e1 : checkDates c d = datedE c d := by unfold checkDates; rw [if_neg hd]
            rw [e1] at h07
            exfalso
            unfold datedE at h07 hd
            rw [if_pos hv] at h07 hd
            split at h07
            · rename_i h; rw [if_pos h] at hd; exact hd rfl
            · omega
        obtain ⟨_, l1, r1⟩ := datedE_ok hd
        unfold law03_CoreShifts_k2
        rw [if_neg (by simp)]
        have hlen : (later d b).length = d.length := by unfold later; simp; omega
        refine for_loop0 d.length (fun i => (later d b).take i) (fun n s i => law03_CoreShifts_L1 c b d (shiftR c b) (checkDates c d) n i s) _ (fun n i hi => ?_) (fun n => ?_) (by omega)
        · obtain ⟨x, hx⟩ := ex_at hi
          obtain ⟨y, hy⟩ := ex_at (l := b) (j := i) (by omega)
          have b1 := r1 x (List.mem_of_getElem? hx)
          have b2 := r2 y (List.mem_of_getElem? hy)
          have hz : (later d b)[i]? = some (x + y) := by unfold later; simp [List.getElem?_zipWith, hx, hy]
          show law03_CoreShifts_B1 c b d (shiftR c b) (checkDates c d) (law03_CoreShifts_L1 c b d (shiftR c b) (checkDates c d) n) _ _ = _
          unfold law03_CoreShifts_B1
          rw [if_pos (by omega), ix_nat hx, ix_nat hy, gd_pos (by omega), gd_pos (by simp; omega), gd_pos (by omega), take_succ_at hz]
          rfl
        · show law03_CoreShifts_B1 c b d (shiftR c b) (checkDates c d) (law03_CoreShifts_L1 c b d (shiftR c b) (checkDates c d) n) _ _ = _
          unfold law03_CoreShifts_B1
          rw [if_neg (by omega), ← hlen, List.take_length]
          unfold law03_CoreShifts_k1
          rw [hS]
          simp only
          rw [bnd_eq (CheckDates_eq _ _ hsl (by omega)), bnd_eq (IsPossible_eq c hc), bnd_eq (IsPossible_eq _ hsl), if_pos hv, if_pos hs, clash_shift hv hs]
          rcases checkDates_shift hd hb ha with h | h
          · rw [h, if_pos rfl, if_pos rfl, if_pos rfl, if_pos (by simp), bnd_eq known_eq]
          · rw [h]
            by_cases e1 : (1 : Int) = checkDates c d
            · rw [if_pos e1, if_pos rfl, if_pos rfl, if_pos (by simp), bnd_eq known_eq]
            · rw [if_neg e1, if_pos rfl, if_pos rfl, if_pos rfl, if_pos (by simp), bnd_eq known_eq]
      · have : t = true := by rw [ht]; simp [hl]
        subst this
        exact hk2 _ _
    by_cases h0 : checkDates c d = 0
    · rw [if_pos h0]; exact main (.inl h0) _ rfl
    · rw [if_neg h0]
      by_cases h7 : checkDates c d = 7
      · rw [if_pos h7]; exact main (.inr h7) _ rfl
      · rw [if_neg h7]; exact hk2 _ _
  · rw [if_neg he]; exact hk2 _ _
end Go.D3

set_option linter.unusedVariables false
set_option linter.unusedSimpArgs false
namespace Go.D3
open Go.Tb Go.Core

/-! ### rounds that prove a clash -/
def bAt (c : Core) (k : Int) : Bound := c.bounds.getD k.toNat ⟨0, 0, 0⟩
theorem bAt_of {c : Core} {k : Int} {x : Bound} (h : c.bounds[k.toNat]? = some x) : bAt c k = x := by simp [bAt, List.getD, h]
def nx (l : List Int) (i : Nat) : Int := l.getD ((i + 1) % l.length) 0
def link (c : Core) (l : List Int) (i : Nat) : Bool := decide ((bAt c (l.getD i 0)).b = (bAt c (nx l i)).a)
def msum (c : Core) (l : List Int) : Nat → Int
  | 0 => 0
  | i + 1 => msum c l i + (bAt c (l.getD i 0)).most
def checkClash (c : Core) (l : List Int) : Int :=
  if validate c = 0 then
    if (20 : Int) < l.length then 3
    else if l.all (fun k => within k 0 ((c.bounds.length : Int) - 1)) = true then (if (∀ j, j < l.length → link c l j = true) then (if 0 ≤ msum c l l.length then 7 else 0) else 7) else 4
  else validate c
theorem msum_bnd {c : Core} (hv : validate c = 0) {l : List Int} (hw : l.all (fun k => within k 0 ((c.bounds.length : Int) - 1)) = true) : ∀ i, i ≤ l.length → -10000 * (i : Int) ≤ msum c l i ∧ msum c l i ≤ 10000 * (i : Int)
  | 0, _ => by simp [msum]
  | i + 1, hi => by
    have ih := msum_bnd hv hw i (by omega)
    obtain ⟨k, hk⟩ := ex_at (l := l) (j := i) (by omega)
    have hin := Core.within_iff.1 (List.all_eq_true.1 hw k (List.mem_of_getElem? hk))
    obtain ⟨x, hx⟩ := ex_at (l := c.bounds) (j := k.toNat) (by omega)
    have hb := bound_ok hv hx
    have e : l.getD i 0 = k := by simp [List.getD, hk]
    simp only [msum, e, bAt_of hx]
    omega
theorem round_at {c : Core} (hv : validate c = 0) {l : List Int} (hw : l.all (fun k => within k 0 ((c.bounds.length : Int) - 1)) = true) {i : Nat} (hi : i < l.length) : ∃ k x, l[i]? = some k ∧ 0 ≤ k ∧ c.bounds[k.toNat]? = some x ∧ l.getD i 0 = k ∧ bAt c k = x ∧ -10000 ≤ x.most ∧ x.most ≤ 10000 := by
  obtain ⟨k, hk⟩ := ex_at hi
  have hin := Core.within_iff.1 (List.all_eq_true.1 hw k (List.mem_of_getElem? hk))
  obtain ⟨x, hx⟩ := ex_at (l := c.bounds) (j := k.toNat) (by omega)
  have hb := bound_ok hv hx
  exact ⟨k, x, hk, hin.1, hx, by simp [List.getD, hk], bAt_of hx, by omega, by omega⟩
theorem tmod_nat (i n : Nat) : Int.tmod ((i : Int) + 1) (n : Int) = (((i + 1) % n : Nat) : Int) := by
  have := Int.ofNat_tmod (i + 1) n
  rw [this]; rfl
theorem CheckClash_eq (c : Core) (l : List Int) (hc : c.bounds.length ≤ 100) (hl : l.length ≤ 100) : core_CheckClash c l = some (checkClash c l) := by
  unfold core_CheckClash checkClash
  rw [bnd_eq (Validate_eq c hc)]
  by_cases hv : validate c = 0
  · rw [if_pos hv, if_pos hv]
    by_cases h20 : (20 : Int) < l.length
    · rw [if_pos h20, if_pos h20]
    · rw [if_neg h20, if_neg h20]
      rw [list_loop0 l (fun k => within k 0 ((c.bounds.length : Int) - 1)) (core_CheckClash_L2 c l) (core_CheckClash_k2 c l) (some 4) (fun n i x hx => ?_) (fun n => ?_) (by omega)]
      · by_cases hw : l.all (fun k => within k 0 ((c.bounds.length : Int) - 1)) = true
        · rw [if_pos hw, if_pos hw]
          unfold core_CheckClash_k2
          have h := scan_loop0 l.length (link c l) (msum c l) (fun n s i => core_CheckClash_L1 c l n s i) (core_CheckClash_k1 (msum c l l.length)) (some 7) (fun n i hi => ?_) (fun n => ?_) (by omega)
          · refine Eq.trans h ?_
            unfold core_CheckClash_k1
            by_cases ha : ∀ j, j < l.length → link c l j = true
            · rw [if_pos ha, if_pos ha]; by_cases h0 : 0 ≤ msum c l l.length <;> simp [h0]
            · rw [if_neg ha, if_neg ha]
          · obtain ⟨k, x, hk, h0, hx, e1, e2, m1, m2⟩ := round_at hv hw hi
            have hmod : (i + 1) % l.length < l.length := Nat.mod_lt _ (by omega)
            obtain ⟨k', x', hk', h0', hx', e1', e2', _, _⟩ := round_at hv hw hmod
            have hs := msum_bnd hv hw i (by omega)
            show core_CheckClash_B1 c l (core_CheckClash_L1 c l n) _ _ = _
            unfold core_CheckClash_B1
            rw [if_pos (by omega), ix_nat hk, gd_pos (by omega), tmod_nat, gd_pos (by omega), ix_nat hk', ix_eq h0' hx', ix_eq h0 hx]
            unfold link nx
            rw [e1, e2, e1', e2']
            by_cases hb : x.b = x'.a
            · rw [if_pos hb, ix_eq h0 hx, gd_pos (by omega), gd_pos (by omega), if_pos (by simpa using hb)]
              have : msum c l (i + 1) = msum c l i + x.most := by simp only [msum, e1, e2]
              rw [this]; rfl
            · rw [if_neg hb, if_neg (by simpa using hb)]
          · show core_CheckClash_B1 c l (core_CheckClash_L1 c l n) _ _ = _
            unfold core_CheckClash_B1
            rw [if_neg (by omega)]
        · rw [if_neg hw, if_neg hw]
      · have := lt_of_at hx
        show core_CheckClash_B2 c l (core_CheckClash_L2 c l n) _ = _
        unfold core_CheckClash_B2
        rw [if_pos (by omega), ix_nat hx, gd_pos (by omega), bnd_eq (within_eq _ _ _), gd_pos (by omega)]; rfl
      · show core_CheckClash_B2 c l (core_CheckClash_L2 c l n) _ = _
        unfold core_CheckClash_B2
        rw [if_neg (by omega)]
  · rw [if_neg hv, if_neg hv]
theorem rCheckClash_eq (c : Core) (l : List Int) (hc : c.bounds.length ≤ 100) (hl : l.length ≤ 100) : ref03_CheckClash c l = some (checkClash c l) := by
  unfold ref03_CheckClash checkClash
  rw [bnd_eq (rValidate_eq c hc)]
  by_cases hv : validate c = 0
  · rw [if_pos hv, if_pos hv]
    by_cases h20 : (20 : Int) < l.length
    · rw [if_pos h20, if_pos h20]
    · rw [if_neg h20, if_neg h20]
      rw [list_loop0 l (fun k => within k 0 ((c.bounds.length : Int) - 1)) (ref03_CheckClash_L2 c l) (ref03_CheckClash_k3 c l) (some 4) (fun n i x hx => ?_) (fun n => ?_) (by omega)]
      · by_cases hw : l.all (fun k => within k 0 ((c.bounds.length : Int) - 1)) = true
        · rw [if_pos hw, if_pos hw]
          unfold ref03_CheckClash_k3
          have h := scan_loop0 l.length (link c l) (msum c l) (fun n s i => ref03_CheckClash_L1 c l n s i) (ref03_CheckClash_k2 l (msum c l l.length)) (some 7) (fun n i hi => ?_) (fun n => ?_) (by omega)
          · refine Eq.trans h ?_
            unfold ref03_CheckClash_k2 ref03_CheckClash_k1
            by_cases ha : ∀ j, j < l.length → link c l j = true
            · rw [if_pos ha, if_pos ha]
              by_cases hz : (l.length : Int) = 0
              · have : l.length = 0 := by omega
                rw [if_pos hz, this]; simp [msum]
              · rw [if_neg hz]; by_cases h0 : 0 ≤ msum c l l.length <;> simp [h0]
            · rw [if_neg ha, if_neg ha]
          · obtain ⟨k, x, hk, h0, hx, e1, e2, m1, m2⟩ := round_at hv hw hi
            have hmod : (i + 1) % l.length < l.length := Nat.mod_lt _ (by omega)
            obtain ⟨k', x', hk', h0', hx', e1', e2', _, _⟩ := round_at hv hw hmod
            have hs := msum_bnd hv hw i (by omega)
            show ref03_CheckClash_B1 c l (ref03_CheckClash_L1 c l n) _ _ = _
            unfold ref03_CheckClash_B1
            rw [if_pos (by omega), ix_nat hk, ix_eq h0 hx, gd_pos (by omega), tmod_nat, gd_pos (by omega), ix_nat hk', ix_eq h0' hx']
            unfold link nx
            rw [e1, e2, e1', e2']
            by_cases hb : x.b = x'.a
            · rw [if_pos hb, ix_nat hk, ix_eq h0 hx, gd_pos (by omega), gd_pos (by omega), if_pos (by simpa using hb)]
              have : msum c l (i + 1) = msum c l i + x.most := by simp only [msum, e1, e2]
              rw [this]; rfl
            · rw [if_neg hb, if_neg (by simpa using hb)]
          · show ref03_CheckClash_B1 c l (ref03_CheckClash_L1 c l n) _ _ = _
            unfold ref03_CheckClash_B1
            rw [if_neg (by omega)]
        · rw [if_neg hw, if_neg hw]
      · have := lt_of_at hx
        show ref03_CheckClash_B2 c l (ref03_CheckClash_L2 c l n) _ = _
        unfold ref03_CheckClash_B2
        rw [if_pos (by omega), ix_nat hx, gd_pos (by omega), bnd_eq (rwithin_eq _ _ _), gd_pos (by omega)]; rfl
      · show ref03_CheckClash_B2 c l (ref03_CheckClash_L2 c l n) _ = _
        unfold ref03_CheckClash_B2
        rw [if_neg (by omega)]
  · rw [if_neg hv, if_neg hv]

/-! ### who was lowered by whom -/
def PE (c : Core) (s : RS) (x : Bound) : Prop := ∃ k : Nat, c.bounds[k]? = some x ∧ s.2.1[x.b.toNat]? = some (k : Int)
structure PI (c : Core) (r j : Nat) (s : RS) (lev : Nat → Nat) : Prop where
  l1 : s.1.length = c.layers.toNat
  l2 : s.2.1.length = c.layers.toNat
  le : ∀ v, lev v ≤ r
  zero : ∀ v, v < c.layers.toNat → lev v = 0 → s.2.1[v]? = some (-1)
  par : ∀ v, v < c.layers.toNat → lev v ≠ 0 → ∃ (k : Nat) (x : Bound), c.bounds[k]? = some x ∧ x.b.toNat = v ∧ s.2.1[v]? = some (k : Int) ∧ ds s x.a.toNat + x.most ≤ ds s v ∧ lev v ≤ lev x.a.toNat + 1
  cyc : ∀ u e, Path c u e u → e ≠ [] → (∀ x ∈ e, PE c s x) → wt e < 0
  chk : ∀ (i : Nat) (x : Bound), c.bounds[i]? = some x → (i < j ∧ lev x.a.toNat + 1 ≤ r) ∨ lev x.a.toNat + 2 ≤ r → ds s x.b.toNat ≤ ds s x.a.toNat + x.most
  last : s.2.2 < 0 ∨ (lev s.2.2.toNat = r ∧ s.2.2 < c.layers)
theorem PI.edge {c : Core} (hv : validate c = 0) {r j : Nat} {s : RS} {lev : Nat → Nat} (h : PI c r j s lev) {x : Bound} (hx : PE c s x) : ds s x.a.toNat + x.most ≤ ds s x.b.toNat := by
  obtain ⟨k, hk, hb⟩ := hx
  have hbo := bound_ok hv hk
  by_cases h0 : lev x.b.toNat = 0
  · have := h.zero _ (by omega) h0
    rw [hb] at this
    cases this
  · obtain ⟨k', x', hk', hb', hs', hd, _⟩ := h.par _ (by omega) h0
    rw [hb] at hs'
    have e : k = k' := by have := Option.some.inj hs'; omega
    subst e
    rw [hk] at hk'
    cases hk'
    exact hd
theorem tele {c : Core} {D : Nat → Int} {u v : Nat} {e : List Bound} (h : Path c u e v) : (∀ x ∈ e, D x.a.toNat + x.most ≤ D x.b.toNat) → wt e ≤ D v - D u ∧ ∀ y ∈ e, D y.a.toNat + y.most < D y.b.toNat → wt e < D v - D u := by
  induction h with
  | nil => intro _; simp [wt]
  | cons hx hp ih =>
    intro hall
    obtain ⟨i1, i2⟩ := ih fun y hy => hall y (by simp [hy])
    have h0 := hall _ (List.mem_cons_self)
    simp only [wt]
    refine ⟨by omega, fun y hy hlt => ?_⟩
    rcases List.mem_cons.1 hy with rfl | hy
    · omega
    · have := i2 y hy hlt; omega
theorem PI.step {c : Core} (hv : validate c = 0) {r j : Nat} {s : RS} {lev : Nat → Nat} (h : PI c r j s lev) (hr : 1 ≤ r) {x : Bound} (hx : c.bounds[j]? = some x) : ∃ lev', PI c r (j + 1) (relaxB s j x) lev' := by
  have hb := bound_ok hv hx
  have hD : ∀ v, ds (relaxB s j x) v = if v = x.b.toNat ∧ ds s x.a.toNat + x.most < ds s x.b.toNat then ds s x.a.toNat + x.most else ds s v := relaxB_ds h.l1 (by omega)
  by_cases hlt : ds s x.a.toNat + x.most < ds s x.b.toNat
  · have hS : relaxB s j x = (s.1.set x.b.toNat (ds s x.a.toNat + x.most), s.2.1.set x.b.toNat (j : Int), x.b) := by
      unfold relaxB; rw [gi_ds, gi_ds, if_pos hlt]
    have hDb : ds (relaxB s j x) x.b.toNat = ds s x.a.toNat + x.most := by rw [hD, if_pos ⟨rfl, hlt⟩]
    have hDn : ∀ v, v ≠ x.b.toNat → ds (relaxB s j x) v = ds s v := fun v hn => by rw [hD, if_neg (fun h => hn h.1)]
    have hDl : ∀ v, ds (relaxB s j x) v ≤ ds s v := fun v => by
      by_cases hn : v = x.b.toNat
      · subst hn; rw [hDb]; omega
      · rw [hDn v hn]; exact Int.le_refl _
    have hB2 : (relaxB s j x).2.1 = s.2.1.set x.b.toNat (j : Int) := by rw [hS]
    have hbn : ∀ v, v ≠ x.b.toNat → (relaxB s j x).2.1[v]? = s.2.1[v]? := fun v hn => by rw [hB2, List.getElem?_set_ne (Ne.symm hn)]
    have hbb : (relaxB s j x).2.1[x.b.toNat]? = some (j : Int) := by rw [hB2, List.getElem?_set_self (by rw [h.l2]; omega)]
    have hab : x.a.toNat ≠ x.b.toNat := by omega
    refine ⟨fun v => if v = x.b.toNat then r else lev v, ?_, ?_, ?_, ?_, ?_, ?_, ?_, ?_⟩
    · rw [hS]; simp [h.l1]
    · rw [hS]; simp [h.l2]
    · intro v
      show (if v = x.b.toNat then r else lev v) ≤ r
      split
      · exact Nat.le_refl _
      · exact h.le v
    · intro v hvn h0
      have hn : v ≠ x.b.toNat := fun e => by simp [e] at h0; omega
      simp only [if_neg hn] at h0
      rw [hbn v hn]; exact h.zero v hvn h0
    · intro v hvn h0
      by_cases hn : v = x.b.toNat
      · subst hn
        refine ⟨j, x, hx, rfl, hbb, by rw [hDb, hDn _ hab]; exact Int.le_refl _, ?_⟩
        simp only [if_true, if_neg hab]
        by_cases hl : lev x.a.toNat + 2 ≤ r
        · have := h.chk j x hx (.inr hl); omega
        · omega
      · simp only [if_neg hn] at h0 ⊢
        obtain ⟨k, y, hk, hy, hs, hd, hl⟩ := h.par v hvn h0
        refine ⟨k, y, hk, hy, by rw [hbn v hn]; exact hs, ?_, ?_⟩
        · have := hDl y.a.toNat; rw [hDn v hn]; omega
        · by_cases hya : y.a.toNat = x.b.toNat
          · rw [if_pos hya]; have := h.le v; omega
          · rw [if_neg hya]; exact hl
    · intro u e hp hne hall
      have hold : ∀ y ∈ e, y = x ∨ PE c s y := fun y hy => by
        obtain ⟨k, hk, hs⟩ := hall y hy
        by_cases hyb : y.b.toNat = x.b.toNat
        · rw [hyb, hbb] at hs
          have e1 : j = k := by have := Option.some.inj hs; omega
          subst e1
          rw [hx] at hk; cases hk
          exact .inl rfl
        · exact .inr ⟨k, hk, by rw [hbn _ hyb] at hs; exact hs⟩
      by_cases hxe : x ∈ e
      · have ht := tele (D := ds s) hp fun y hy => by
          rcases hold y hy with rfl | hy
          · omega
          · exact h.edge hv hy
        have := ht.2 x hxe hlt
        omega
      · exact h.cyc u e hp hne fun y hy => by
          rcases hold y hy with rfl | h'
          · exact absurd hy hxe
          · exact h'
    · intro i y hy hcase
      by_cases hya : y.a.toNat = x.b.toNat
      · simp only [if_pos hya] at hcase; omega
      · simp only [if_neg hya] at hcase
        rw [hDn _ hya]
        by_cases hij : i = j
        · subst hij
          rw [hx] at hy; cases hy
          rw [hDb]; exact Int.le_refl _
        · have := h.chk i y hy (by omega)
          have := hDl y.b.toNat
          omega
    · right
      rw [hS]
      exact ⟨by simp, hb.2.2.2.1⟩
  · have hS : relaxB s j x = s := by unfold relaxB; rw [gi_ds, gi_ds, if_neg hlt]
    rw [hS]
    refine ⟨lev, h.l1, h.l2, h.le, h.zero, h.par, h.cyc, fun i y hy hcase => ?_, h.last⟩
    by_cases hij : i = j
    · subst hij
      rw [hx] at hy; cases hy
      omega
    · exact h.chk i y hy (by omega)
theorem PI.to {c : Core} (hv : validate c = 0) {r : Nat} {s : RS} {lev : Nat → Nat} (h : PI c r 0 s lev) (hr : 1 ≤ r) : ∀ j, j ≤ c.bounds.length → ∃ lev', PI c r j (relaxTo c.bounds s j) lev'
  | 0, _ => ⟨lev, h⟩
  | j + 1, hj => by
    obtain ⟨lev', h'⟩ := PI.to hv h hr j (by omega)
    obtain ⟨x, hx⟩ := ex_at (l := c.bounds) (j := j) (by omega)
    rw [relaxTo_succ hx]
    exact h'.step hv hr hx
theorem PI.rounds {c : Core} (hv : validate c = 0) : ∀ r, ∃ lev, PI c r c.bounds.length (relaxN c r) lev
  | 0 => by
    have hvo := validate_ok hv
    refine ⟨fun _ => 0, by simp [relaxN], by simp [relaxN], fun _ => Nat.le_refl _, fun v hvn _ => by simp [relaxN, List.getElem?_replicate, hvn], fun v _ h => absurd rfl h, fun u e hp hne hall => ?_, fun i x _ hc => by omega, ?_⟩
    · cases e with
      | nil => exact absurd rfl hne
      | cons y e =>
        obtain ⟨k, hk, hs⟩ := hall y (by simp)
        simp only [relaxN, List.getElem?_replicate] at hs
        split at hs
        · cases hs
        · cases hs
    · right
      simp only [relaxN]
      exact ⟨trivial, by omega⟩
  | r + 1 => by
    obtain ⟨lev, h⟩ := PI.rounds hv r
    have h0 : PI c (r + 1) 0 ((relaxN c r).1, (relaxN c r).2.1, -1) lev :=
      ⟨h.l1, h.l2, fun v => by have := h.le v; omega, h.zero, h.par, h.cyc, fun i x hx hc => h.chk i x hx (by have := lt_of_at hx; omega), .inl (by show (-1 : Int) < 0; decide)⟩
    exact h0.to hv (by omega) c.bounds.length (Nat.le_refl _)
end Go.D3

set_option linter.unusedVariables false
set_option linter.unusedSimpArgs false
namespace Go.D3
open Go.Tb Go.Core

/-- Back along the bounds by which layers were lowered. -/
def back (c : Core) (by_ : List Int) (s : Int) : Nat → Int
  | 0 => s
  | i + 1 => (bAt c (gi by_ (back c by_ s i))).a
theorem back_add (c : Core) (b : List Int) (s : Int) (i : Nat) : ∀ j, back c b s (i + j) = back c b (back c b s i) j
  | 0 => rfl
  | j + 1 => by rw [← Nat.add_assoc]; simp only [back, back_add c b s i j]
structure On (c : Core) (s : RS) (lev : Nat → Nat) (v : Int) (m : Nat) : Prop where
  lo : 0 ≤ v
  hi : v < c.layers
  lev : m ≤ lev v.toNat
theorem On.next {c : Core} (hv : validate c = 0) {r j : Nat} {s : RS} {lev : Nat → Nat} (h : PI c r j s lev) {v : Int} {m : Nat} (o : On c s lev v (m + 1)) :
    ∃ (k : Nat) (x : Bound), c.bounds[k]? = some x ∧ x.b = v ∧ s.2.1[v.toNat]? = some (k : Int) ∧ gi s.2.1 v = k ∧ bAt c (gi s.2.1 v) = x ∧ PE c s x ∧ On c s lev x.a m := by
  have h1 := o.lev
  have h2 := o.lo
  have h3 := o.hi
  obtain ⟨k, x, hk, hb, hs, _, hl⟩ := h.par v.toNat (by omega) (by omega)
  have hbo := bound_ok hv hk
  have hg : gi s.2.1 v = k := gi_of hs
  refine ⟨k, x, hk, by omega, hs, hg, ?_, ⟨k, hk, by rw [hb]; exact hs⟩, hbo.1, hbo.2.1, by omega⟩
  rw [hg]; exact bAt_of (by simpa using hk)
theorem back_on {c : Core} (hv : validate c = 0) {r j : Nat} {s : RS} {lev : Nat → Nat} (h : PI c r j s lev) {v : Int} {n : Nat} (o : On c s lev v n) : ∀ i, i ≤ n → On c s lev (back c s.2.1 v i) (n - i)
  | 0, _ => o
  | i + 1, hi => by
    have ih := back_on hv h o i (by omega)
    have e : n - i = (n - (i + 1)) + 1 := by omega
    rw [e] at ih
    obtain ⟨k, x, _, _, _, _, hb, _, ho⟩ := ih.next hv h
    show On c s lev (bAt c (gi s.2.1 (back c s.2.1 v i))).a _
    rw [hb]; exact ho
/-- Somewhere the way back goes round. -/
theorem pigeon (f : Nat → Nat) (n : Nat) (hf : ∀ i, i ≤ n → f i < n) : ∃ i j, i < j ∧ j ≤ n ∧ f i = f j := by
  by_cases h : ((List.range (n + 1)).map f).Nodup
  · have := nodup_len n _ h (by intro x hx; obtain ⟨i, hi, rfl⟩ := List.mem_map.1 hx; exact hf i (by have := List.mem_range.1 hi; omega))
    simp at this
    exact absurd this (by omega)
  · rw [List.nodup_iff_pairwise_ne, List.pairwise_iff_getElem] at h
    simp only [List.length_map, List.length_range, List.getElem_map, List.getElem_range] at h
    obtain ⟨i, h⟩ := Classical.not_forall.1 h
    obtain ⟨j, h⟩ := Classical.not_forall.1 h
    obtain ⟨hi, h⟩ := Classical.not_forall.1 h
    obtain ⟨hj, h⟩ := Classical.not_forall.1 h
    obtain ⟨hij, h⟩ := Classical.not_forall.1 h
    exact ⟨i, j, hij, by omega, Classical.not_not.1 h⟩
theorem least {p : Nat → Prop} : ∀ n, p n → ∃ m, p m ∧ m ≤ n ∧ ∀ k, k < m → ¬ p k := by
  intro n
  induction n using Nat.strongRecOn with
  | _ n ih =>
    intro hn
    by_cases h : ∃ k, k < n ∧ p k
    · obtain ⟨k, hk, hpk⟩ := h
      obtain ⟨m, h1, h2, h3⟩ := ih k hk hpk
      exact ⟨m, h1, by omega, h3⟩
    · exact ⟨n, hn, Nat.le_refl _, fun k hk hpk => h ⟨k, hk, hpk⟩⟩
/-- The round: begin, and how long it is. -/
theorem round_of {c : Core} (hv : validate c = 0) {s : RS} {lev : Nat → Nat} {j : Nat} (h : PI c c.layers.toNat j s lev) (hl : 0 ≤ s.2.2) :
    (∀ i, i < c.layers.toNat → ∃ (k : Nat) (x : Bound), c.bounds[k]? = some x ∧ x.b = back c s.2.1 s.2.2 i ∧ s.2.1[(back c s.2.1 s.2.2 i).toNat]? = some (k : Int) ∧ 0 ≤ back c s.2.1 s.2.2 i ∧ x.a = back c s.2.1 s.2.2 (i + 1)) ∧
    ∃ q, 1 ≤ q ∧ q ≤ c.layers.toNat ∧ back c s.2.1 s.2.2 (c.layers.toNat + q) = back c s.2.1 s.2.2 c.layers.toNat ∧ (∀ t, 1 ≤ t → t < q → back c s.2.1 s.2.2 (c.layers.toNat + t) ≠ back c s.2.1 s.2.2 c.layers.toNat) ∧
      ∀ t, ∃ (k : Nat) (x : Bound), c.bounds[k]? = some x ∧ x.b = back c s.2.1 s.2.2 (c.layers.toNat + t) ∧ s.2.1[(back c s.2.1 s.2.2 (c.layers.toNat + t)).toNat]? = some (k : Int) ∧ 0 ≤ back c s.2.1 s.2.2 (c.layers.toNat + t) ∧ x.a = back c s.2.1 s.2.2 (c.layers.toNat + (t + 1)) ∧ PE c s x := by
  have hvo := validate_ok hv
  obtain ⟨hll, hlh⟩ : lev s.2.2.toNat = c.layers.toNat ∧ s.2.2 < c.layers := by
    rcases h.last with h' | h'
    · omega
    · exact h'
  have o : On c s lev s.2.2 c.layers.toNat := ⟨hl, hlh, by omega⟩
  have hon := back_on hv h o
  generalize hN : c.layers.toNat = N at *
  have good : ∀ i, i < N → ∃ (k : Nat) (x : Bound), c.bounds[k]? = some x ∧ x.b = back c s.2.1 s.2.2 i ∧ s.2.1[(back c s.2.1 s.2.2 i).toNat]? = some (k : Int) ∧ 0 ≤ back c s.2.1 s.2.2 i ∧ x.a = back c s.2.1 s.2.2 (i + 1) ∧ PE c s x := by
    intro i hi
    have o1 := hon i (by omega)
    rw [show N - i = (N - i - 1) + 1 by omega] at o1
    obtain ⟨k, x, h1, h2, h3, h4, h5, h6, _⟩ := o1.next hv h
    exact ⟨k, x, h1, h2, h3, o1.lo, by show x.a = (bAt c (gi s.2.1 (back c s.2.1 s.2.2 i))).a; rw [h5], h6⟩
  obtain ⟨i, j', hij, hj, heq⟩ := pigeon (fun i => (back c s.2.1 s.2.2 i).toNat) N (fun i hi => by have := (hon i hi).lo; have := (hon i hi).hi; omega)
  have heq' : back c s.2.1 s.2.2 i = back c s.2.1 s.2.2 j' := by
    have h1 := (hon i (by omega)).lo
    have h2 := (hon j' hj).lo
    have : (back c s.2.1 s.2.2 i).toNat = (back c s.2.1 s.2.2 j').toNat := heq
    omega
  have per : ∀ m, i ≤ m → back c s.2.1 s.2.2 (m + (j' - i)) = back c s.2.1 s.2.2 m := by
    intro m hm
    rw [show m + (j' - i) = j' + (m - i) by omega, back_add, ← heq', ← back_add, show i + (m - i) = m by omega]
  have all : ∀ m, ∃ (k : Nat) (x : Bound), c.bounds[k]? = some x ∧ x.b = back c s.2.1 s.2.2 m ∧ s.2.1[(back c s.2.1 s.2.2 m).toNat]? = some (k : Int) ∧ 0 ≤ back c s.2.1 s.2.2 m ∧ x.a = back c s.2.1 s.2.2 (m + 1) ∧ PE c s x := by
    intro m
    induction m using Nat.strongRecOn with
    | _ m ih =>
      by_cases hm : m < N
      · exact good m hm
      · obtain ⟨k, x, h1, h2, h3, h4, h5, h6⟩ := ih (m - (j' - i)) (by omega)
        have e1 := per (m - (j' - i)) (by omega)
        have e2 := per (m - (j' - i) + 1) (by omega)
        rw [show m - (j' - i) + (j' - i) = m by omega] at e1
        rw [show m - (j' - i) + 1 + (j' - i) = m + 1 by omega] at e2
        rw [← e1] at h2 h3 h4
        rw [← e2] at h5
        exact ⟨k, x, h1, h2, h3, h4, h5, h6⟩
  refine ⟨fun i hi => ?_, ?_⟩
  · obtain ⟨k, x, h1, h2, h3, h4, h5, _⟩ := good i hi
    exact ⟨k, x, h1, h2, h3, h4, h5⟩
  · obtain ⟨q, ⟨hq1, hq2⟩, hq3, hq4⟩ := least (p := fun q => 1 ≤ q ∧ back c s.2.1 s.2.2 (N + q) = back c s.2.1 s.2.2 N) (j' - i) ⟨by omega, per N (by omega)⟩
    exact ⟨q, hq1, by omega, hq2, fun t ht1 ht2 hc => hq4 t ht2 ⟨ht1, hc⟩, fun t => all (N + t)⟩

/-! ### turning a list round -/
theorem Reverse_eq (l : List Int) (hl : l.length ≤ 1000000) : slices_Reverse_int l = some l.reverse := by
  unfold slices_Reverse_int
  rw [gd_pos (by omega)]
  -- after i rounds the first i and the last i have changed places
  have key : ∀ (d n i : Nat) (m : List Int), l.length ≤ 2 * i + d → d < n → m.length = l.length → (∀ j, j < l.length → m[j]? = if j < i ∨ l.length ≤ j + i then l.reverse[j]? else l[j]?) → i ≤ l.length →
      slices_Reverse_int_L1 n (i : Int) ((l.length : Int) - 1 - i) m = some l.reverse := by
    intro d
    induction d with
    | zero =>
      intro n i m hd hn hm hj hi
      obtain ⟨n, rfl⟩ : ∃ k, n = k + 1 := ⟨n - 1, by omega⟩
      show slices_Reverse_int_B1 (slices_Reverse_int_L1 n) _ _ _ = _
      unfold slices_Reverse_int_B1
      rw [if_neg (by omega)]
      congr 1
      apply List.ext_getElem?
      intro j
      by_cases hjl : j < l.length
      · rw [hj j hjl, if_pos (by omega)]
      · rw [List.getElem?_eq_none (by omega), List.getElem?_eq_none (by simp; omega)]
    | succ d ih =>
      intro n i m hd hn hm hj hi
      obtain ⟨n, rfl⟩ : ∃ k, n = k + 1 := ⟨n - 1, by omega⟩
      show slices_Reverse_int_B1 (slices_Reverse_int_L1 n) _ _ _ = _
      unfold slices_Reverse_int_B1
      by_cases hlt : (i : Int) < (l.length : Int) - 1 - i
      · have hi2 : i < l.length := by omega
        have hk2 : l.length - 1 - i < l.length := by omega
        have e1 : ((l.length : Int) - 1 - i).toNat = l.length - 1 - i := by omega
        have a1 : m[l.length - 1 - i]? = some l[l.length - 1 - i] := by rw [hj _ hk2, if_neg (by omega)]; simp [hk2]
        have a2 : m[i]? = some l[i] := by rw [hj _ hi2, if_neg (by omega)]; simp [hi2]
        rw [if_pos hlt, ix_eq (by omega) (by rw [e1]; exact a1), ix_nat a2, ix_nat a2, ix_eq (x := l[l.length - 1 - i]) (by omega) (by rw [e1, Int.toNat_natCast, List.getElem?_set_ne (by omega)]; exact a1), gd_pos (by omega), gd_pos (by omega), e1, Int.toNat_natCast]
        have := ih n (i + 1) ((m.set i l[l.length - 1 - i]).set (l.length - 1 - i) l[i]) (by omega) (by omega) (by simp [hm]) (fun j hjl => ?_) (by omega)
        · rw [show (l.length : Int) - 1 - i - 1 = (l.length : Int) - 1 - ((i + 1 : Nat) : Int) by omega]
          exact this
        · by_cases hj1 : j = l.length - 1 - i
          · subst hj1
            rw [List.getElem?_set_self (by simp [hm]; omega), if_pos (by omega)]
            rw [List.getElem?_reverse (by omega)]
            rw [show l.length - 1 - (l.length - 1 - i) = i by omega]; simp [hi2]
          · rw [List.getElem?_set_ne (Ne.symm hj1)]
            by_cases hj2 : j = i
            · subst hj2
              rw [List.getElem?_set_self (by omega), if_pos (by omega), List.getElem?_reverse (by omega)]; simp [hk2]
            · rw [List.getElem?_set_ne (Ne.symm hj2), hj j hjl]
              by_cases hc : j < i ∨ l.length ≤ j + i
              · rw [if_pos hc, if_pos (by omega)]
              · rw [if_neg hc, if_neg (by omega)]
      · rw [if_neg hlt]
        congr 1
        apply List.ext_getElem?
        intro j
        by_cases hjl : j < l.length
        · rw [hj j hjl]
          by_cases hc : j < i ∨ l.length ≤ j + i
          · rw [if_pos hc]
          · rw [if_neg hc, List.getElem?_reverse hjl]
            rw [show l.length - 1 - j = j by omega]
        · rw [List.getElem?_eq_none (by omega), List.getElem?_eq_none (by simp; omega)]
  have := key l.length FU 0 l (by omega) (by have := FU_pos; omega) rfl (fun j hj => by rw [if_neg (by omega)]) (by omega)
  simpa using this

/-! ### the round that is returned -/
def outs (c : Core) (s : RS) (t : Nat) : List Int := (List.range t).map fun i => gi s.2.1 (back c s.2.1 s.2.2 (c.layers.toNat + i))
theorem outs_succ (c : Core) (s : RS) (t : Nat) : outs c s (t + 1) = outs c s t ++ [gi s.2.1 (back c s.2.1 s.2.2 (c.layers.toNat + t))] := by
  unfold outs; rw [List.range_succ, List.map_append]; rfl
theorem outs_len (c : Core) (s : RS) (t : Nat) : (outs c s t).length = t := by simp [outs]
theorem outs_at (c : Core) (s : RS) {t i : Nat} (h : i < t) : (outs c s t)[i]? = some (gi s.2.1 (back c s.2.1 s.2.2 (c.layers.toNat + i))) := by
  unfold outs; simp [h]
theorem msum_wt (c : Core) (l : List Int) : ∀ i, i ≤ l.length → msum c l i = wt ((l.take i).map (bAt c))
  | 0, _ => by simp [msum, wt]
  | i + 1, hi => by
    obtain ⟨k, hk⟩ := ex_at (l := l) (j := i) (by omega)
    rw [take_succ_at hk, List.map_append, wt_append, ← msum_wt c l i (by omega)]
    have e : l.getD i 0 = k := by simp [List.getD, hk]
    simp only [msum, e, List.map_cons, List.map_nil, wt]; omega
theorem Clash_eq (c : Core) (hc : c.bounds.length ≤ 100) : ∃ l, core_Clash c = some (if validate c = 0 then (if clashes c = true then (l, true, 0) else ([], false, 0)) else ([], false, validate c)) ∧ (validate c = 0 → clashes c = true → checkClash c l = 0) ∧ l.length ≤ 8 := by
  unfold core_Clash
  rw [bnd_eq (Validate_eq c hc)]
  by_cases hv' : ¬ validate c = 0
  · exact ⟨[], by rw [if_neg hv', if_neg hv'], fun h => absurd h hv', by simp⟩
  have hv := Classical.not_not.1 hv'
  rw [if_pos hv]
  simp only [if_pos hv]
  rw [bnd_eq (relax_eq hv)]
  have hvo := validate_ok hv
  cases hcl : clashes c
  · refine ⟨[], ?_, fun _ h => by simp at h, by simp⟩
    unfold clashes at hcl
    have : (relax c).2.2 < 0 := by simpa using hcl
    rw [if_pos this]; simp
  have hl : 0 ≤ (relax c).2.2 := by unfold clashes at hcl; simpa using hcl
  obtain ⟨lev, hPI⟩ := PI.rounds hv c.layers.toNat
  have hPI' : PI c c.layers.toNat c.bounds.length (relax c) lev := hPI
  obtain ⟨g1, q, hq1, hq2, hq3, hq4, g2⟩ := round_of hv hPI' hl
  generalize hS : relax c = s at *
  have hgi : ∀ t, ∃ k : Nat, ∃ x, c.bounds[k]? = some x ∧ gi s.2.1 (back c s.2.1 s.2.2 (c.layers.toNat + t)) = k ∧ x.b = back c s.2.1 s.2.2 (c.layers.toNat + t) ∧ x.a = back c s.2.1 s.2.2 (c.layers.toNat + (t + 1)) ∧ PE c s x ∧ bAt c (gi s.2.1 (back c s.2.1 s.2.2 (c.layers.toNat + t))) = x := by
    intro t
    obtain ⟨k, x, h1, h2, h3, h4, h5, h6⟩ := g2 t
    have e : gi s.2.1 (back c s.2.1 s.2.2 (c.layers.toNat + t)) = k := gi_of h3
    exact ⟨k, x, h1, e, h2, h5, h6, by rw [e]; exact bAt_of (by simpa using h1)⟩
  refine ⟨(outs c s q).reverse, ?_, fun _ _ => ?_, by rw [List.length_reverse, outs_len]; omega⟩
  · rw [if_neg (by omega)]
    simp only [if_true]
    refine for_loop0 c.layers.toNat (fun i => back c s.2.1 s.2.2 i) (fun n b i => core_Clash_L2 c s n b i) _ (fun n i hi => ?_) (fun n => ?_) (by omega)
    · obtain ⟨k, x, h1, h2, h3, h4, h5⟩ := g1 i hi
      show core_Clash_B2 c s (core_Clash_L2 c s n) _ _ = _
      unfold core_Clash_B2
      rw [if_pos (by omega), ix_eq h4 h3, ix_eq (by omega) (by simpa using h1), gd_pos (by omega), h5]
      rfl
    · show core_Clash_B2 c s (core_Clash_L2 c s n) _ _ = _
      unfold core_Clash_B2
      rw [if_neg (by omega)]
      unfold core_Clash_k3
      refine for_loop0 q (fun t => (back c s.2.1 s.2.2 (c.layers.toNat + t), outs c s t)) (fun n p _ => core_Clash_L1 c s (back c s.2.1 s.2.2 c.layers.toNat) n p.1 p.2) _ (fun n t ht => ?_) (fun n => ?_) (by omega)
      · obtain ⟨k, x, h1, h2, h3, h4, h5, h6⟩ := g2 t
        have e : gi s.2.1 (back c s.2.1 s.2.2 (c.layers.toNat + t)) = k := gi_of h3
        have go : core_Clash_k2 c s (back c s.2.1 s.2.2 (c.layers.toNat + t)) (outs c s t) (core_Clash_L1 c s (back c s.2.1 s.2.2 c.layers.toNat) n) true = core_Clash_L1 c s (back c s.2.1 s.2.2 c.layers.toNat) n (back c s.2.1 s.2.2 (c.layers.toNat + (t + 1))) (outs c s (t + 1)) := by
          unfold core_Clash_k2
          rw [if_pos rfl, ix_eq h4 h3, gd_pos (by rw [outs_len]; simp; omega), ix_eq h4 h3, ix_eq (by omega) (by simpa using h1), h5, outs_succ, e]
        show core_Clash_B1 c s (back c s.2.1 s.2.2 c.layers.toNat) (core_Clash_L1 c s (back c s.2.1 s.2.2 c.layers.toNat) n) _ _ = _
        unfold core_Clash_B1
        simp only [outs_len]
        by_cases h0 : (t : Int) = 0
        · rw [if_pos h0]; exact go
        · rw [if_neg h0]
          have := hq4 t (by omega) ht
          have e2 : (!decide (back c s.2.1 s.2.2 (c.layers.toNat + t) = back c s.2.1 s.2.2 c.layers.toNat)) = true := by simp [this]
          rw [e2]; exact go
      · show core_Clash_B1 c s (back c s.2.1 s.2.2 c.layers.toNat) (core_Clash_L1 c s (back c s.2.1 s.2.2 c.layers.toNat) n) _ _ = _
        unfold core_Clash_B1
        simp only [outs_len]
        rw [if_neg (by omega), hq3]
        have e2 : (!decide (back c s.2.1 s.2.2 c.layers.toNat = back c s.2.1 s.2.2 c.layers.toNat)) = false := by simp
        rw [e2]
        unfold core_Clash_k2 core_Clash_k1
        rw [if_neg (by simp), bnd_eq (Reverse_eq _ (by rw [outs_len]; omega))]
  · -- the round proves a clash
    have hlen : ((outs c s q).reverse).length = q := by rw [List.length_reverse, outs_len]
    have hat : ∀ i, i < q → ((outs c s q).reverse)[i]? = some (gi s.2.1 (back c s.2.1 s.2.2 (c.layers.toNat + (q - 1 - i)))) := by
      intro i hi
      rw [List.getElem?_reverse (by rw [outs_len]; exact hi), outs_len, outs_at c s (by omega)]
    unfold checkClash
    rw [if_pos hv, if_neg (by rw [hlen]; omega), if_pos, if_pos, if_neg]
    · -- the sum
      rw [msum_wt c _ _ (Nat.le_refl _), List.take_length]
      have path : ∀ t, Path c (back c s.2.1 s.2.2 (c.layers.toNat + t)).toNat (((outs c s t).reverse).map (bAt c)) (back c s.2.1 s.2.2 c.layers.toNat).toNat := by
        intro t
        induction t with
        | zero => simp [outs]; exact .nil _
        | succ t ih =>
          obtain ⟨k, x, h1, h2, h3, h4, h5, h6⟩ := hgi t
          rw [outs_succ, List.reverse_append]
          simp only [List.reverse_cons, List.reverse_nil, List.nil_append, List.singleton_append, List.map_cons, h6]
          rw [← h4]
          refine .cons (List.mem_of_getElem? h1) ?_
          rw [h3]; exact ih
      have hp := path q
      rw [hq3] at hp
      have := hPI'.cyc _ _ hp (by
        intro h0
        have := congrArg List.length h0
        simp [outs_len] at this
        omega) (fun x hx => by
        obtain ⟨k, hk, rfl⟩ := List.mem_map.1 hx
        obtain ⟨i, hi, rfl⟩ := List.mem_map.1 (List.mem_reverse.1 hk)
        obtain ⟨k', x', h1, h2, h3, h4, h5, h6⟩ := hgi i
        rw [h6]; exact h5)
      omega
    · -- links
      intro i hi
      rw [hlen] at hi
      unfold link nx
      rw [hlen]
      have e1 : ((outs c s q).reverse).getD i 0 = gi s.2.1 (back c s.2.1 s.2.2 (c.layers.toNat + (q - 1 - i))) := by simp only [List.getD, hat i hi]; rfl
      obtain ⟨k, x, h1, h2, h3, h4, h5, h6⟩ := hgi (q - 1 - i)
      rw [e1, h6, h3]
      by_cases hw : i + 1 = q
      · have e0 : (i + 1) % q = 0 := by rw [hw]; exact Nat.mod_self q
        have e2 : ((outs c s q).reverse).getD ((i + 1) % q) 0 = gi s.2.1 (back c s.2.1 s.2.2 (c.layers.toNat + (q - 1))) := by rw [e0]; simp only [List.getD, hat 0 (by omega)]; rfl
        obtain ⟨k', x', h1', h2', h3', h4', h5', h6'⟩ := hgi (q - 1)
        rw [e2, h6', h4', show q - 1 + 1 = q by omega, hq3, show q - 1 - i = 0 by omega]
        simp
      · have e0 : (i + 1) % q = i + 1 := Nat.mod_eq_of_lt (by omega)
        have e2 : ((outs c s q).reverse).getD ((i + 1) % q) 0 = gi s.2.1 (back c s.2.1 s.2.2 (c.layers.toNat + (q - 1 - (i + 1)))) := by rw [e0]; simp only [List.getD, hat (i + 1) (by omega)]; rfl
        obtain ⟨k', x', h1', h2', h3', h4', h5', h6'⟩ := hgi (q - 1 - (i + 1))
        rw [e2, h6', h4', show q - 1 - (i + 1) + 1 = q - 1 - i by omega]
        simp
    · refine List.all_eq_true.2 fun k hk => ?_
      obtain ⟨i, hi, rfl⟩ := List.mem_map.1 (List.mem_reverse.1 hk)
      obtain ⟨k', x', h1, h2, _⟩ := hgi i
      have := lt_of_at h1
      rw [h2, Core.within_iff]
      omega
theorem law_CoreClashes (c : Core) (l : List Int) : law03_CoreClashes c l = some true := by
  unfold law03_CoreClashes
  rw [bnd_eq (Long_eq c)]
  have hk : law03_CoreClashes_k2 c l true = some true := by unfold law03_CoreClashes_k2; rw [if_pos rfl, bnd_eq known_eq]
  by_cases h1 : (100 : Int) < c.bounds.length
  · simp only [h1, decide_true, if_true]; exact hk
  simp only [h1, decide_false, Bool.false_eq_true, if_false]
  by_cases h2 : (100 : Int) < l.length
  · simp only [h2, decide_true]; exact hk
  simp only [h2, decide_false]
  have hc : c.bounds.length ≤ 100 := by omega
  unfold law03_CoreClashes_k2
  obtain ⟨r, hr, hchk, hlen⟩ := Clash_eq c hc
  rw [if_neg (by simp), bnd_eq (CheckClash_eq c l hc (by omega)), bnd_eq (rCheckClash_eq c l hc (by omega)), if_pos rfl, bnd_eq hr, bnd_eq (rIsPossible_eq c hc)]
  by_cases hv : validate c = 0
  · simp only [hv, if_true]
    cases hcl : clashes c
    · simp only [Bool.false_eq_true, if_false, if_true, Bool.not_false]
      unfold law03_CoreClashes_k1
      rw [if_neg (by simp), if_neg (by simp), if_neg (by simp), if_pos (by simp), bnd_eq known_eq]
    · simp only [if_true, Bool.not_true]
      unfold law03_CoreClashes_k1
      rw [if_neg (by simp), if_neg (by simp), if_pos rfl, bnd_eq (rCheckClash_eq c r hc (by omega)), hchk hv hcl, if_pos rfl, bnd_eq known_eq]
  · simp only [hv, if_false, if_true]
    unfold law03_CoreClashes_k1
    rw [if_neg (by simp), if_neg (by simp), if_pos (by simp), bnd_eq known_eq]
theorem law_CoreEither (c : Core) : law03_CoreEither c = some true := by
  unfold law03_CoreEither
  rw [bnd_eq (Long_eq c)]
  by_cases h1 : (100 : Int) < c.bounds.length
  · simp only [h1, decide_true, if_true]; rw [bnd_eq known_eq]
  simp only [h1, decide_false, Bool.false_eq_true, if_false]
  have hc : c.bounds.length ≤ 100 := by omega
  obtain ⟨r, hr, hchk, hlen⟩ := Clash_eq c hc
  rw [bnd_eq (Dates_eq c hc), bnd_eq hr]
  by_cases hv : validate c = 0
  · simp only [hv, if_true]
    cases hcl : clashes c
    · simp only [Bool.false_eq_true, if_false, if_true]
      rw [if_neg (by simp), bnd_eq (CheckDates_eq c (relax c).1 hc (by have := validate_ok hv; have e : (relax c).1.length = c.layers.toNat := (relaxN_inv hv c.layers.toNat).l1; omega)), dates_keep hv hcl, if_pos rfl, bnd_eq known_eq]
    · simp only [if_true]
      rw [if_neg (by simp), if_neg (by simp), bnd_eq (CheckClash_eq c r hc (by omega)), hchk hv hcl, if_pos rfl, bnd_eq known_eq]
  · simp only [hv, if_false, if_true]
    rw [bnd_eq known_eq]
end Go.D3

