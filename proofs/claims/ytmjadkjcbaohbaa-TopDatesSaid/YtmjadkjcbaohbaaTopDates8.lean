/- Lemmas and walks that the proof of this claim uses: D3t6. -/
import Derived.Test.YtmjadkjcbaohbaaTopDates7
set_option linter.unusedVariables false
set_option linter.unusedSimpArgs false
namespace Go.D3
open Go.Tb Go.Core
theorem fixed0 : core_Fixed ⟨2, [⟨0, 1, 7⟩, ⟨1, 0, -7⟩]⟩ 0 1 = some (7, true, 0) := by decide +kernel
theorem layers_eq (c : Core) (l : List Int) (hc : c.bounds.length ≤ 100) (hl : l.length ≤ 1000000) : core_layers c l = some (layersE c l) := by
  unfold core_layers layersE
  rw [bnd_eq (Validate_eq c hc)]
  by_cases hv : validate c = 0
  · have hvo := validate_ok hv
    rw [if_pos hv, if_pos hv]
    refine Eq.trans (all_loop0 l (fun n => within n 0 (c.layers - 1)) (core_layers_L1 c l) (some 0) (some 4) (fun k i x hx => ?_) (fun k => ?_) hl) (by split <;> rfl)
    · have hi := lt_of_at hx
      show core_layers_B1 c l (core_layers_L1 c l k) _ = _
      unfold core_layers_B1
      rw [if_pos (by omega), ix_nat hx, gd_pos (by omega), bnd_eq (within_eq _ _ _), gd_pos (by omega)]; rfl
    · show core_layers_B1 c l (core_layers_L1 c l k) _ = _
      unfold core_layers_B1
      rw [if_neg (by omega)]; rfl
  · rw [if_neg hv, if_neg hv]
def followsE (c : Core) (x : Bound) : Bool × Int :=
  if layersE c [x.a, x.b] = 0 then (if right x c.layers = true then (if clashes c = true then (false, 10) else (fl c x, 0)) else (false, 1)) else (false, layersE c [x.a, x.b])
theorem Follows_eq (c : Core) (x : Bound) (hc : c.bounds.length ≤ 100) : core_Follows c x = some (followsE c x) := by
  unfold core_Follows followsE
  rw [bnd_eq (layers_eq c [x.a, x.b] hc (by simp))]
  by_cases h0 : layersE c [x.a, x.b] = 0
  · have hv := (layers_ok h0).1
    have hvo := validate_ok hv
    rw [if_pos h0, if_pos h0, bnd_eq (right_eq x c.layers (by omega))]
    by_cases hr : right x c.layers = true
    · rw [if_pos hr, if_pos hr, bnd_eq (tables_eq hv)]
      unfold tables
      cases hcl : clashes c
      · simp only [Bool.false_eq_true, if_false, if_true]
        rw [bnd_eq (follows_eq hv hcl hr)]
      · simp
    · rw [if_neg hr, if_neg hr]
  · rw [if_neg h0, if_neg h0]
theorem cut_path {c d : Core} {p q : Nat} {m : Int} (hm : ∀ z ∈ d.bounds, z ∈ c.bounds ∨ (z.a.toNat = q ∧ z.b.toNat = p ∧ z.most = -m - 1)) (hmin : ∀ e, Path c p e q → m + 1 ≤ wt e) : ∀ {u v : Nat} {e : List Bound}, Path d u e v →
    (∃ e', Path c u e' v ∧ wt e' = wt e) ∨ (∃ e1 e2, Path c u e1 q ∧ Path c p e2 v ∧ wt e1 + (-m - 1) + wt e2 ≤ wt e)
  | _, _, _, .nil a => .inl ⟨[], .nil a, rfl⟩
  | _, _, _, .cons (x := z) (es := es) hz h => by
    have ew : wt (z :: es) = z.most + wt es := rfl
    rcases hm z hz with h3 | ⟨ha, hb, hmo⟩
    · rcases cut_path hm hmin h with ⟨e', h1, h2⟩ | ⟨e1, e2, h1, h2, h4⟩
      · exact .inl ⟨z :: e', .cons h3 h1, by show z.most + wt e' = z.most + wt es; omega⟩
      · exact .inr ⟨z :: e1, e2, .cons h3 h1, h2, by show z.most + wt e1 + (-m - 1) + wt e2 ≤ z.most + wt es; omega⟩
    · rcases cut_path hm hmin h with ⟨e', h1, h2⟩ | ⟨e1, e2, h1, h2, h4⟩
      · rw [hb] at h1
        exact .inr ⟨[], e', by rw [ha]; exact .nil _, h1, by rw [ew]; show 0 + (-m - 1) + wt e' ≤ z.most + wt es; omega⟩
      · rw [hb] at h1
        have := hmin e1 h1
        exact .inr ⟨[], e2, by rw [ha]; exact .nil _, h2, by rw [ew]; show 0 + (-m - 1) + wt e2 ≤ z.most + wt es; omega⟩
theorem broken_clash {c : Core} (hv : validate c = 0) (hc : clashes c = false) {x : Bound} (hr : right x c.layers = true) {d : Core} (hd : d = ⟨c.layers, c.bounds ++ [⟨x.b, x.a, -x.most - 1⟩]⟩) (vd : validate d = 0) : clashes d = fl c x := by
  have hb := right_ok hr
  have hvo := validate_ok hv
  have ha : x.a.toNat < c.layers.toNat := by omega
  have hb' : x.b.toNat < c.layers.toNat := by omega
  obtain ⟨t1, t2⟩ := table_spec hv hc ha hb'
  have mD : ∀ z ∈ c.bounds, z ∈ d.bounds := fun z hz => by rw [hd]; exact List.mem_append_left _ hz
  cases hf : fl c x with
  | true =>
    unfold fl at hf
    rw [Bool.and_eq_true, decide_eq_true_eq] at hf
    obtain ⟨e, p, w⟩ := t1 hf.1
    have p' : Path d x.a.toNat e x.b.toNat := sub_path (c := d) (d := c) mD p
    have hy : (⟨x.b, x.a, -x.most - 1⟩ : Bound) ∈ d.bounds := by rw [hd]; simp
    have q : Path d x.a.toNat (e ++ [⟨x.b, x.a, -x.most - 1⟩]) x.a.toNat := p'.append (Path.single hy)
    refine (clash_path vd).2 ⟨x.a.toNat, _, by rw [hd]; exact ha, q, ?_⟩
    rw [wt_append]
    show wt e + (-x.most - 1 + 0) < 0
    have := hf.2
    unfold mT at this
    omega
  | false =>
    cases hcd : clashes d with
    | false => rfl
    | true =>
      exfalso
      obtain ⟨u, e, hu, p, w⟩ := (clash_path vd).1 hcd
      have hmin : ∀ e, Path c x.a.toNat e x.b.toNat → x.most + 1 ≤ wt e := fun e pe => by
        have := t2 e pe
        unfold fl at hf
        have hk : kT c x.a.toNat x.b.toNat = true := this.1
        rw [hk, Bool.true_and, decide_eq_false_iff_not] at hf
        unfold mT at hf
        omega
      have nn : ∀ {v : Nat} {e : List Bound}, v < c.layers.toNat → Path c v e v → 0 ≤ wt e := fun {v e} hv' pe => by
        by_cases h : wt e < 0
        · have := (clash_path hv).2 ⟨v, e, hv', pe, h⟩
          rw [hc] at this; cases this
        · omega
      have hu' : u < c.layers.toNat := by rw [hd] at hu; exact hu
      rcases cut_path (c := c) (d := d) (p := x.a.toNat) (q := x.b.toNat) (m := x.most) (fun z hz => by
        rw [hd] at hz
        rcases List.mem_append.1 hz with h | h
        · exact .inl h
        · have : z = ⟨x.b, x.a, -x.most - 1⟩ := by simpa using h
          subst this
          exact .inr ⟨rfl, rfl, rfl⟩) hmin p with ⟨e', h1, h2⟩ | ⟨e1, e2, h1, h2, h4⟩
      · have := nn hu' h1
        omega
      · have := hmin _ (h2.append h1)
        rw [wt_append] at this
        omega
theorem keeps_plain {c : Core} (hv : validate c = 0) (hc : clashes c = false) (l : List Int) : (plainR c).all (keeps l) = c.bounds.all (keeps l) := by
  have hvo := validate_ok hv
  have key : (plainR c).all (keeps l) = true ↔ c.bounds.all (keeps l) = true := by
    rw [List.all_eq_true, List.all_eq_true]
    constructor
    · intro h x hx
      have hb := right_ok (hvo.2.2.2 x hx)
      have t := (table_spec hv hc (i := x.a.toNat) (j := x.b.toNat) (by omega) (by omega)).2 [x] (Path.single hx)
      have hm : (⟨(x.a.toNat : Int), (x.b.toNat : Int), mT c x.a.toNat x.b.toNat⟩ : Bound) ∈ plainR c := by
        unfold plainR
        exact mem_allP.2 ⟨x.a.toNat, x.b.toNat, by omega, by omega, by omega, t.1, rfl⟩
      have := h _ hm
      unfold keeps at this ⊢
      rw [decide_eq_true_eq] at this ⊢
      have e1 : ((x.a.toNat : Nat) : Int) = x.a := by omega
      have e2 : ((x.b.toNat : Nat) : Int) = x.b := by omega
      simp only [e1, e2] at this
      have t2 := t.2
      have ew : wt [x] = x.most + 0 := rfl
      unfold mT at this
      omega
    · intro h x hx
      unfold plainR at hx
      obtain ⟨a, b, ha, hb, hne, hk, rfl⟩ := mem_allP.1 hx
      obtain ⟨e, p, w⟩ := (table_spec hv hc ha hb).1 hk
      have hp : Pot c (fun i => l.getD i 0) := fun z hz => by
        have := h z hz
        unfold keeps at this
        rw [decide_eq_true_eq] at this
        exact this
      have := p.pot hp
      unfold keeps
      rw [decide_eq_true_eq]
      show gi l (b : Int) - gi l (a : Int) ≤ mT c a b
      unfold gi mT
      simp only [Int.toNat_natCast]
      omega
  cases h1 : (plainR c).all (keeps l) <;> cases h2 : c.bounds.all (keeps l) <;> simp_all
theorem law_TopDates (c : Core) (l : List Int) (x : Bound) : top_TopDates c l x = some true := by
  unfold top_TopDates
  rw [bnd_eq fixed0, if_pos rfl, if_pos rfl]
  show top_TopDates_k11 c l x false = _
  unfold top_TopDates_k11
  rw [if_neg (by simp), bnd_eq (Long_eq c)]
  have ten : ∀ t, t = true → top_TopDates_k10 c l x t = some true := fun t ht => by unfold top_TopDates_k10; rw [if_pos ht]
  by_cases h1 : (100 : Int) < (c.bounds.length : Int)
  · rw [if_pos (by simpa using h1)]; exact ten _ rfl
  rw [if_neg (by simpa using h1)]
  by_cases h2 : (100 : Int) < (l.length : Int)
  · rw [decide_eq_true h2]; exact ten _ rfl
  rw [decide_eq_false h2]
  have hl : c.bounds.length ≤ 100 := by omega
  unfold top_TopDates_k10
  obtain ⟨r, hr, hchk, hrl⟩ := Clash_eq c hl
  rw [if_neg (by simp), bnd_eq (Dates_eq c hl), bnd_eq hr]
  by_cases hvn : ¬ validate c = 0
  · rw [if_neg hvn, if_neg hvn, if_neg hvn]
    unfold top_TopDates_k9
    rw [if_pos rfl, decide_eq_true rfl]
  have hv := Classical.not_not.1 hvn
  have hvo := validate_ok hv
  rw [if_pos hv, if_pos hv]
  by_cases hc1 : clashes c = true
  · have hc := hc1
    simp only [hc, if_true]
    unfold top_TopDates_k9
    rw [if_neg (by simp), if_neg (by simp), if_neg (by simp), if_pos rfl, bnd_eq (CheckClash_eq c r hl (by omega)), hchk hv hc]
    unfold top_TopDates_k8
    rw [if_neg (by simp), bnd_eq (Plain_eq c hl).1, if_neg (by simp)]
    unfold plainE
    rw [if_pos hv, if_pos hc]; rfl
  have hc : clashes c = false := by simpa using hc1
  simp only [hc, Bool.false_eq_true, if_false, if_true]
  unfold top_TopDates_k9
  have e1 : (relax c).1.length = c.layers.toNat := (relaxN_inv hv c.layers.toNat).l1
  rw [if_neg (by simp), if_neg (by simp), if_pos rfl, bnd_eq (CheckDates_eq c (relax c).1 hl (by omega)), dates_keep hv hc, if_pos rfl, if_neg (by simp)]
  unfold top_TopDates_k8
  have ePl : plainE c = (plainR c, 0) := by unfold plainE; rw [if_pos hv, hc]; simp
  rw [if_neg (by simp), bnd_eq (Plain_eq c hl).1, ePl, if_pos rfl, if_pos rfl, bnd_eq (CheckDates_eq c l hl (by omega))]
  have last : top_TopDates_k3 c x = some true := by
    unfold top_TopDates_k3
    have eR : reduceE c = (subC c (redN c c.bounds.length), 0) := by unfold reduceE; rw [if_pos hv, hc]; simp
    have hI := redN_RI hv hc c.bounds.length (Nat.le_refl _)
    have hlen := hI.len1
    rw [bnd_eq (Reduce_eq c hl).1, eR, bnd_eq (reduce_same hv hc hl), if_pos rfl, if_pos rfl, if_pos rfl, decide_eq_false (show ¬ (c.bounds.length : Int) < ((subC c (redN c c.bounds.length)).bounds.length : Int) by show ¬ (c.bounds.length : Int) < ((redN c c.bounds.length).length : Int); omega)]
    unfold top_TopDates_k2
    rw [if_neg (by simp), bnd_eq (Follows_eq c x hl)]
    have one : ∀ t, t = true → top_TopDates_k1 c x (followsE c x) t = some true := fun t ht => by unfold top_TopDates_k1; rw [if_pos ht]
    by_cases hfn : ¬ (followsE c x).2 = 0
    · rw [if_neg hfn]; exact one _ rfl
    have hf := Classical.not_not.1 hfn
    rw [if_pos hf]
    by_cases hm : x.most = 10000
    · rw [decide_eq_true hm]; exact one _ rfl
    rw [decide_eq_false hm]
    have hfe : right x c.layers = true ∧ followsE c x = (fl c x, 0) := by
      unfold followsE at hf ⊢
      by_cases g1 : layersE c [x.a, x.b] = 0
      · rw [if_pos g1] at hf ⊢
        by_cases g2 : right x c.layers = true
        · rw [if_pos g2, hc]
          exact ⟨g2, by simp⟩
        · rw [if_neg g2] at hf; cases hf
      · rw [if_neg g1] at hf; exact absurd hf g1
    obtain ⟨hrx, hfe⟩ := hfe
    have hb := right_ok hrx
    rw [hfe]
    unfold top_TopDates_k1
    have hB := (Both_eq (c := c) (d := ⟨c.layers, [⟨x.b, x.a, -x.most - 1⟩]⟩) hl (by simp)).1
    have hBs := bothR_small (c := c) (d := ⟨c.layers, [⟨x.b, x.a, -x.most - 1⟩]⟩) hl (by simp)
    rw [if_neg (by simp), gd_pos (by omega), gd_pos (by omega), bnd_eq hB]
    by_cases hzn : ¬ (bothR c ⟨c.layers, [⟨x.b, x.a, -x.most - 1⟩]⟩).2 = 0
    · rw [if_neg hzn]
    have hz := Classical.not_not.1 hzn
    rw [if_pos hz]
    obtain ⟨_, v2, _, hsz, he⟩ := both_ok hz
    have vd := both_valid hv v2 rfl hsz
    have hcl := broken_clash hv hc hrx (d := ⟨c.layers, c.bounds ++ [⟨x.b, x.a, -x.most - 1⟩]⟩) rfl vd
    rw [bnd_eq (IsPossible_eq _ hBs), he]
    rw [if_pos vd, hcl]
    simp
  by_cases h7n : ¬ (checkDates c l = 0 ∨ checkDates c l = 7)
  · have n0 : ¬ checkDates c l = 0 := fun h => h7n (.inl h)
    have n7 : ¬ checkDates c l = 7 := fun h => h7n (.inr h)
    rw [if_neg n0, decide_eq_false n7]
    unfold top_TopDates_k7
    rw [if_neg (by simp)]; exact last
  have h7 := Classical.not_not.1 h7n
  have hd : datedE c l = 0 := by
    unfold checkDates at h7
    by_cases h : datedE c l = 0
    · exact h
    · rw [if_neg h] at h7
      exfalso
      by_cases g : isDatesS c l = true
      · exact h (by unfold datedE; rw [if_pos hv, if_pos g])
      · have e : datedE c l = 1 := by unfold datedE; rw [if_pos hv, if_neg g]
        omega
  obtain ⟨_, hdl, hdr⟩ := datedE_ok hd
  have hcv : checkDates c l = if c.bounds.all (keeps l) = true then 0 else 7 := by unfold checkDates; rw [if_pos hd]
  have go : top_TopDates_k7 c l x (plainR c, 0) (checkDates c l) true = some true := by
    unfold top_TopDates_k7
    rw [if_pos rfl]
    have hpl := plainR_len hv
    have hall : ∀ y ∈ plainR c, 0 ≤ y.a ∧ y.a < (l.length : Int) ∧ 0 ≤ y.b ∧ y.b < (l.length : Int) := fun y hy => by
      unfold plainR at hy
      obtain ⟨a, b, ha, hb, _, _, rfl⟩ := mem_allP.1 hy
      simp only
      omega
    rw [← last]
    refine for_loop0 (plainR c).length (fun i => ((plainR c).take i).all (keeps l)) (fun n t i => top_TopDates_L1 c l x (plainR c, 0) (checkDates c l) n t i) _ (fun n i hi => ?_) (fun n => ?_) (by omega)
    · obtain ⟨y, hy⟩ := ex_at hi
      obtain ⟨y1, y2, y3, y4⟩ := hall y (List.mem_of_getElem? hy)
      obtain ⟨pb, hpb⟩ := ex_at (l := l) (j := y.b.toNat) (by omega)
      obtain ⟨pa, hpa⟩ := ex_at (l := l) (j := y.a.toNat) (by omega)
      have b1 := hdr pb (List.mem_of_getElem? hpb)
      have b2 := hdr pa (List.mem_of_getElem? hpa)
      show top_TopDates_B1 c l x (plainR c, 0) (checkDates c l) (top_TopDates_L1 c l x (plainR c, 0) (checkDates c l) n) _ _ = _
      simp only [List.take_add_one, hy, Option.toList_some, List.all_append, List.all_cons, List.all_nil, Bool.and_true]
      generalize ((plainR c).take i).all (keeps l) = t
      unfold top_TopDates_B1 top_TopDates_k6 top_TopDates_k5
      simp only
      rw [if_pos (by omega), ix_nat hy, if_neg (by omega), ix_nat hy, if_neg (by omega), ix_nat hy, if_neg (by omega), ix_nat hy, decide_eq_false (by omega), if_neg (by simp)]
      have hk : keeps l y = decide (pb - pa ≤ y.most) := by unfold keeps; rw [gi_of hpb, gi_of hpa]
      cases t
      · rw [if_neg (by simp), gd_pos (by omega)]; rfl
      · rw [if_pos rfl, ix_nat hy, ix_eq y3 hpb, ix_nat hy, ix_eq y1 hpa, gd_pos (by omega), ix_nat hy, gd_pos (by omega), Bool.true_and, hk]; rfl
    · show top_TopDates_B1 c l x (plainR c, 0) (checkDates c l) (top_TopDates_L1 c l x (plainR c, 0) (checkDates c l) n) _ _ = _
      unfold top_TopDates_B1 top_TopDates_k4
      simp only
      rw [if_neg (by omega), List.take_length, keeps_plain hv hc, hcv]
      cases hk : c.bounds.all (keeps l)
      · simp
      · simp
  rcases h7 with h | h
  · rw [if_pos h]; exact go
  · rw [if_neg (by omega), decide_eq_true h]; exact go
end Go.D3
