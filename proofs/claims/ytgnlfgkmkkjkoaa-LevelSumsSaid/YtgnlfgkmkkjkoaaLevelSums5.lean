/- Lemmas and walks that the proof of this claim uses: D1q8, D1q9, D1p4, D1p5, D1p7, D1r1, D1r2, D1r3, D1r4. -/
import Derived.Test.YtgnlfgkmkkjkoaaLevelSums4
set_option linter.unusedVariables false
set_option linter.unusedSimpArgs false
namespace Go.D1
open Go.Tb
/-- Heights whose flow goes from i to j. -/
structure Un (s : Survey) (i j : Int) (u : Int → Int) (D : Int) : Prop where
  pos : 0 < D
  dv : ∀ p, 0 ≤ p → p < s.points → dv s.readings (fun r => r.weight * (u r.from_ - u r.to_)) p = (if p = i then D else 0) - (if p = j then D else 0)
def RS (s : Survey) (i j N D : Int) : Prop := ∃ u, Un s i j u D ∧ N = u i - u j
theorem dv_zero (l : List Reading) (p : Int) : dv l (fun _ => 0) p = 0 := by
  induction l with
  | nil => rfl
  | cons r l ih => simp only [dv]; rw [ih]; split <;> split <;> rfl
theorem dv_touch {l : List Reading} {f g : Reading → Int} {p : Int} (h : ∀ r ∈ l, r.from_ = p ∨ r.to_ = p → f r = g r) : dv l f p = dv l g p := by
  induction l with
  | nil => rfl
  | cons r l ih =>
    have ih := ih fun r hr => h r (by simp [hr])
    have hr := h r (by simp)
    simp only [dv]
    rw [ih]
    by_cases h1 : r.from_ = p
    · rw [if_pos h1, if_pos h1, hr (.inl h1)]
    · rw [if_neg h1, if_neg h1]
      by_cases h2 : r.to_ = p
      · rw [if_pos h2, if_pos h2, hr (.inr h2)]
      · rw [if_neg h2, if_neg h2]
theorem con_const {s : Survey} {j : Nat} {u : Int → Int} (h : ∀ i, i < j → i < s.readings.length → u (gr s.readings i).from_ = u (gr s.readings i).to_) {a b : Int} (hc : Con s j a b) : u a = u b := by
  induction hc with
  | refl a => rfl
  | edge h1 h2 => exact h _ h1 h2
  | symm _ ih => exact ih.symm
  | trans _ _ i1 i2 => exact i1.trans i2
theorem edge_of {s : Survey} {r : Reading} (h : r ∈ s.readings) : Con s s.readings.length r.from_ r.to_ := by
  obtain ⟨k, hk, e⟩ := List.getElem_of_mem h
  have : gr s.readings k = r := by
    have := gr_at hk
    rw [List.getElem?_eq_getElem hk] at this
    rw [← Option.some.inj this, e]
  rw [← this]
  exact .edge hk hk
/-- No flow: no differences. -/
theorem flat {s : Survey} (hs : SvOk s) {u : Int → Int} (h : ∀ p, 0 ≤ p → p < s.points → dv s.readings (fun r => r.weight * (u r.from_ - u r.to_)) p = 0) : ∀ r ∈ s.readings, u r.from_ = u r.to_ := by
  intro r hr
  by_cases e : u r.from_ = u r.to_
  · exact e
  · exfalso
    have hg := green s.readings u (fun r => r.weight * (u r.from_ - u r.to_)) s.points.toNat (sv_in hs)
    have hp1 := hs.p1
    rw [sumN_zero fun k hk => by rw [h k (by omega) (by omega), Int.mul_zero]] at hg
    have sq : ∀ r ∈ s.readings, 0 ≤ (u r.from_ - u r.to_) * (r.weight * (u r.from_ - u r.to_)) := fun r hr => by
      have hw := (hs.rd r hr).2.2.2.2
      have : (u r.from_ - u r.to_) * (r.weight * (u r.from_ - u r.to_)) = r.weight * ((u r.from_ - u r.to_) * (u r.from_ - u r.to_)) := by grind
      rw [this]
      refine Int.mul_nonneg (by omega) ?_
      generalize u r.from_ - u r.to_ = x
      rcases Int.le_total 0 x with h | h
      · exact Int.mul_nonneg h h
      · exact Int.mul_nonneg_of_nonpos_of_nonpos h h
    have hne : 0 < (u r.from_ - u r.to_) * (r.weight * (u r.from_ - u r.to_)) := by
      have h0 := sq r hr
      have hw := (hs.rd r hr).2.2.2.2
      have : (u r.from_ - u r.to_) * (r.weight * (u r.from_ - u r.to_)) ≠ 0 := Int.mul_ne_zero (by omega) (Int.mul_ne_zero (by omega) (by omega))
      omega
    have := rs_gt sq hr hne
    omega
theorem flat_con {s : Survey} (hs : SvOk s) {u : Int → Int} (h : ∀ p, 0 ≤ p → p < s.points → dv s.readings (fun r => r.weight * (u r.from_ - u r.to_)) p = 0) {a b : Int} (hc : Con s s.readings.length a b) : u a = u b :=
  con_const (fun i _ hi => flat hs h _ (gr_mem hi)) hc
theorem rs_uniq {s : Survey} (hs : SvOk s) {i j N D N' D' : Int} (hc : Con s s.readings.length i j) (h : RS s i j N D) (h' : RS s i j N' D') : N * D' = N' * D := by
  obtain ⟨u, hu, rfl⟩ := h
  obtain ⟨v, hv, rfl⟩ := h'
  have := flat_con hs (u := fun p => u p * D' - v p * D) (fun p p0 p1 => by
    have e : dv s.readings (fun r => r.weight * (u r.from_ * D' - v r.from_ * D - (u r.to_ * D' - v r.to_ * D))) p = D' * dv s.readings (fun r => r.weight * (u r.from_ - u r.to_)) p - D * dv s.readings (fun r => r.weight * (v r.from_ - v r.to_)) p := by
      rw [← dv_mul, ← dv_mul, ← dv_sub]
      exact dv_congr (fun r _ => by grind) p
    rw [e, hu.dv p p0 p1, hv.dv p p0 p1]
    split <;> split <;> grind) hc
  grind
theorem rs_symm {s : Survey} {i j N D : Int} (h : RS s i j N D) : RS s j i N D := by
  obtain ⟨u, hu, rfl⟩ := h
  refine ⟨fun p => -u p, ⟨hu.pos, fun p p0 p1 => ?_⟩, by show u i - u j = -u j - -u i; omega⟩
  have e : dv s.readings (fun r => r.weight * (-u r.from_ - -u r.to_)) p = -dv s.readings (fun r => r.weight * (u r.from_ - u r.to_)) p := by
    rw [← dv_neg]; exact dv_congr (fun r _ => by grind) p
  rw [e, hu.dv p p0 p1]
  omega
theorem rs_self (s : Survey) (i : Int) : RS s i i 0 1 := by
  refine ⟨fun _ => 0, ⟨by omega, fun p _ _ => ?_⟩, rfl⟩
  have : dv s.readings (fun r => r.weight * ((0 : Int) - 0)) p = dv s.readings (fun _ => 0) p := dv_congr (fun r _ => by simp) p
  rw [this, dv_zero]; omega
theorem sumN_but {f : Nat → Int} {n c : Nat} (hc : c < n) (h : ∀ k, k < n → k ≠ c → f k = 0) : sumN f n = f c := by
  rw [← sumN_at f hc]
  refine sumN_congr fun k hk => ?_
  by_cases e : k = c
  · rw [if_pos e]
  · rw [if_neg e, h k hk e]
theorem sumN_unit {i : Int} {n : Nat} (D : Int) (h : 0 ≤ i ∧ i < n) : sumN (fun k => if (k : Int) = i then D else 0) n = D := by
  rw [sumN_but (c := i.toNat) (by omega) fun k hk hne => if_neg (by omega), if_pos (by omega)]
/-- All flows add up to 0. -/
theorem dv_total {s : Survey} (hs : SvOk s) (f : Reading → Int) : sumN (fun k => dv s.readings f (k : Int)) s.points.toNat = 0 := by
  have hg := green s.readings (fun _ => 1) f s.points.toNat (sv_in hs)
  have : rs s.readings (fun r => ((1 : Int) - 1) * f r) = 0 := by
    have : ∀ l : List Reading, rs l (fun r => ((1 : Int) - 1) * f r) = 0 := by
      intro l
      induction l with
      | nil => rfl
      | cons r l ih => simp only [rs]; rw [ih]; simp
    exact this _
  rw [this] at hg
  rw [← hg]
  exact sumN_congr fun k _ => (Int.one_mul _).symm
theorem iota_nodup (n : Nat) : (iota n).Nodup := by
  induction n with
  | zero => exact List.nodup_nil
  | succ n ih =>
    rw [iota_succ, List.nodup_append]
    refine ⟨ih, by simp, fun a ha b hb => ?_⟩
    obtain ⟨k, hk, e⟩ := gi_ex ha
    rw [iota_len] at hk
    rw [iota_gi hk] at e
    simp at hb
    omega
theorem mem_iota {n : Nat} {p : Int} : p ∈ iota n ↔ 0 ≤ p ∧ p < n := by
  constructor
  · intro h
    obtain ⟨k, hk, e⟩ := gi_ex h
    rw [iota_len] at hk
    rw [iota_gi hk] at e
    omega
  · intro h
    have : gi (iota n) p.toNat ∈ iota n := gi_mem (by rw [iota_len]; omega)
    rw [iota_gi (by omega)] at this
    rw [show p = ((p.toNat : Nat) : Int) by omega]; exact this
theorem mem_nodesOf {n : Nat} {f : Int → Bool} {p : Int} : p ∈ nodesOf n f ↔ (0 ≤ p ∧ p < n) ∧ f p = true := by
  unfold nodesOf
  rw [List.mem_filter, mem_iota]
theorem nodesOf_nodup (n : Nat) (f : Int → Bool) : (nodesOf n f).Nodup := (iota_nodup n).filter _
theorem nodesOf_lt {n : Nat} {f : Int → Bool} {p : Int} (hp : 0 ≤ p ∧ p < n) (h : f p = false) : (nodesOf n f).length < n := by
  unfold nodesOf
  have h1 := List.length_filter_lt_length_iff_exists (l := iota n) (p := f)
  have : (List.filter f (iota n)).length < (iota n).length := h1.2 ⟨p, mem_iota.2 hp, by rw [h]; simp⟩
  rwa [iota_len] at this
abbrev rtOf (s : Survey) (p : Int) : Int := gi (rootsOf s) p.toNat
theorem con_rt {s : Survey} (hs : SvOk s) {a b : Int} (ha : 0 ≤ a ∧ a < s.points) (hb : 0 ≤ b ∧ b < s.points) : Con s s.readings.length a b ↔ rtOf s a = rtOf s b := by
  have hR := rootsOf_ok hs
  have hl := hR.len
  constructor
  · intro h
    exact (hR.eq_of hs h).2 ha
  · intro h
    have h1 := hR.con a.toNat (by omega)
    have h2 := hR.con b.toNat (by omega)
    rw [show ((a.toNat : Nat) : Int) = a by omega] at h1
    rw [show ((b.toNat : Nat) : Int) = b by omega] at h2
    unfold rtOf at h
    rw [h] at h1
    exact h1.symm.trans h2
theorem rt_same {s : Survey} (hs : SvOk s) {r : Reading} (hr : r ∈ s.readings) : rtOf s r.from_ = rtOf s r.to_ := by
  have h := hs.rd r hr
  exact (con_rt hs h.1 h.2.1).1 (edge_of hr)
theorem mem_oneOf {s : Survey} (hs : SvOk s) {i p : Int} : p ∈ oneOf s i ↔ (0 ≤ p ∧ p < s.points) ∧ rtOf s p = rtOf s i ∧ p ≠ i := by
  have hp1 := hs.p1
  unfold oneOf
  rw [mem_nodesOf]
  simp only [Bool.and_eq_true, decide_eq_true_eq, Bool.not_eq_true', decide_eq_false_iff_not, ne_eq]
  unfold rtOf
  constructor <;> intro h <;> refine ⟨by omega, h.2⟩
theorem fr_one {s : Survey} (hs : SvOk s) {i : Int} (hi : 0 ≤ i ∧ i < s.points) : Fr s (oneOf s i) := by
  have hp5 := hs.p5
  refine ⟨nodesOf_nodup _ _, ?_, fun p hp => ?_⟩
  · have : (oneOf s i).length < s.points.toNat := nodesOf_lt (p := i) (by omega) (by simp)
    omega
  · have h := (mem_oneOf hs).1 hp
    exact ⟨i, fun h' => ((mem_oneOf hs).1 h').2.2 rfl, (con_rt hs h.1 hi).2 h.2.1⟩
def unitB (pts : List Int) (c : Int) (k : Nat) : Int := if gi pts k = c then 1 else 0
theorem rh_unit (s : Survey) (pts : List Int) (c : Int) : Rh s pts (unitB pts c) (fun _ => 0) 0 1 c := by
  refine ⟨by omega, by omega, by omega, fun _ _ => by omega, fun j hj => ?_⟩
  have : dv s.readings (fun r => r.weight * 0) (gi pts j) = 0 := by
    rw [dv_congr (g := fun _ => 0) (fun r _ => Int.mul_zero _), dv_zero]
  rw [this]
  unfold unitB
  omega
/-- The part of i, j without j: elimination's heights have a flow from i to j. -/
theorem un_one {s : Survey} (hs : SvOk s) {i j : Int} (hi : 0 ≤ i ∧ i < s.points) (hj : 0 ≤ j ∧ j < s.points) (hij : i ≠ j) (hr : rtOf s i = rtOf s j) {k : Nat} (hk : k < (oneOf s j).length) (hki : gi (oneOf s j) k = i) :
    RS s i j (Nm (Am s (oneOf s j) (unitB (oneOf s j) i)) (oneOf s j).length k (oneOf s j).length) (Dm (Am s (oneOf s j) (unitB (oneOf s j) i)) (oneOf s j).length) := by
  have hF := fr_one hs hj
  have hb := rh_unit s (oneOf s j) i
  have hD := D_pos (b := unitB (oneOf s j) i) hs hF (oneOf s j).length (Nat.le_refl _)
  have hn := hF.n4
  have hXd := fun (m : Nat) (hm : m < (oneOf s j).length) => Xb_dv hs hF hb (i := (oneOf s j).length) (j := m) (Nat.le_refl _) hm
  have hp1 := hs.p1
  refine ⟨ext (oneOf s j) (Xb (Am s (oneOf s j) (unitB (oneOf s j) i)) (oneOf s j).length (oneOf s j).length), ⟨hD, ?_⟩, ?_⟩
  · generalize hX : ext (oneOf s j) (Xb (Am s (oneOf s j) (unitB (oneOf s j) i)) (oneOf s j).length (oneOf s j).length) = u at *
    generalize hDD : Dm (Am s (oneOf s j) (unitB (oneOf s j) i)) (oneOf s j).length = D at *
    have hin : ∀ p ∈ oneOf s j, dv s.readings (fun r => r.weight * (u r.from_ - u r.to_)) p = (if p = i then D else 0) := fun p hp => by
      obtain ⟨m, hm, e⟩ := gi_ex hp
      have h1 := hXd m hm
      rw [cramer _ (by omega) hm, e] at h1
      simp only [Int.mul_zero, Int.add_zero, Int.mul_one, Int.sub_zero] at h1
      exact h1
    have hout : ∀ p, 0 ≤ p → p < s.points → rtOf s p ≠ rtOf s j → dv s.readings (fun r => r.weight * (u r.from_ - u r.to_)) p = 0 := fun p p0 p1 hne => by
      rw [← dv_zero s.readings p]
      have hu0 : ∀ q, rtOf s q = rtOf s p → u q = 0 := fun q hq => by
        rw [← hX]
        exact ext_out _ fun hh => hne (hq ▸ ((mem_oneOf hs).1 hh).2.1)
      refine dv_touch fun r hr' htouch => ?_
      have hsame := rt_same hs hr'
      rcases htouch with e | e
      · rw [hu0 r.from_ (by rw [e]), hu0 r.to_ (by rw [← hsame, e])]; simp
      · rw [hu0 r.from_ (by rw [hsame, e]), hu0 r.to_ (by rw [e])]; simp
    have hjj : dv s.readings (fun r => r.weight * (u r.from_ - u r.to_)) j = -D := by
      have h1 : sumN (fun k => dv s.readings (fun r => r.weight * (u r.from_ - u r.to_)) (k : Int) - (if (k : Int) = i then D else 0)) s.points.toNat = dv s.readings (fun r => r.weight * (u r.from_ - u r.to_)) (j.toNat : Int) - (if (j.toNat : Int) = i then D else 0) := by
        refine sumN_but (f := fun k => dv s.readings (fun r => r.weight * (u r.from_ - u r.to_)) (k : Int) - (if (k : Int) = i then D else 0)) (c := j.toNat) (by omega) fun k hk hne => ?_
        by_cases hm : (k : Int) ∈ oneOf s j
        · rw [hin _ hm]; omega
        · have : rtOf s (k : Int) ≠ rtOf s j := fun e => hm ((mem_oneOf hs).2 ⟨by omega, e, by omega⟩)
          rw [hout k (by omega) (by omega) this, if_neg (fun e => this (by rw [e, hr]))]; rfl
      rw [sumN_sub, dv_total hs, sumN_unit D (by omega), show ((j.toNat : Nat) : Int) = j by omega, if_neg (fun e => hij e.symm)] at h1
      omega
    intro p p0 p1
    by_cases e : p = j
    · rw [e, hjj, if_neg (fun e => hij e.symm), if_pos rfl]; omega
    · rw [if_neg e, Int.sub_zero]
      by_cases hm : p ∈ oneOf s j
      · exact hin p hm
      · have : rtOf s p ≠ rtOf s j := fun e' => hm ((mem_oneOf hs).2 ⟨by omega, e', e⟩)
        rw [hout p p0 p1 this, if_neg (fun e => this (by rw [e, hr]))]
  · have h1 : ext (oneOf s j) (Xb (Am s (oneOf s j) (unitB (oneOf s j) i)) (oneOf s j).length (oneOf s j).length) i = Nm (Am s (oneOf s j) (unitB (oneOf s j) i)) (oneOf s j).length k (oneOf s j).length := by
      have := ext_at hF.nd (Xb (Am s (oneOf s j) (unitB (oneOf s j) i)) (oneOf s j).length (oneOf s j).length) hk
      rw [hki] at this
      rw [this]
      unfold Xb
      rw [if_pos hk]
    rw [h1, ext_out _ (fun h => ((mem_oneOf hs).1 h).2.2 rfl)]; omega
end Go.D1

set_option linter.unusedVariables false
set_option linter.unusedSimpArgs false
namespace Go.D1
open Go.Tb
theorem is_int (x : Int) : Is ⟨x, 1⟩ x 1 := ⟨⟨by show (0 : Int) < 1; omega, by show Int.gcd x 1 = 1; simp⟩, rfl⟩
theorem rt_rowI {l : List Int} {c : Nat} (h : c < l.length) : rt (rowI l) c = ⟨gi l c, 1⟩ := by
  unfold rt
  rw [List.getD_eq_getElem?_getD, rowI_at h]; rfl
theorem bal_rg {s : Survey} {pts : List Int} (b : Nat → Int) {j : Nat} (hj : j < pts.length) : rg (balR s pts b) j = rowI ((brow s pts j s.readings.length).set pts.length (b j)) := by
  unfold rg balR
  rw [List.getD_eq_getElem?_getD, List.getElem?_map, List.getElem?_range hj]; rfl
theorem bal_row {s : Survey} {pts : List Int} (b : Nat → Int) {j : Nat} (hj : j < pts.length) : (rg (balR s pts b) j).length = pts.length + 1 ∧ ∀ c, c ≤ pts.length → Is (rt (rg (balR s pts b) j) c) (Am s pts b j c) 1 := by
  rw [bal_rg b hj]
  refine ⟨by unfold rowI; rw [List.length_map, List.length_set, brow_len], fun c hc => ?_⟩
  rw [rt_rowI (by rw [List.length_set, brow_len]; omega), gi_set, brow_len]
  unfold Am
  by_cases e : c < pts.length
  · rw [if_neg (by omega), if_pos e, brow_gi e]; exact is_int _
  · rw [if_pos (by omega), if_neg e]; exact is_int _
theorem bal_solve {s : Survey} (hs : SvOk s) {pts : List Int} (hF : Fr s pts) {b : Nat → Int} {t : Reading → Int} {T0 S c : Int} (hb : Rh s pts b t T0 S c) {f : Int → Option Int} (hf : ∀ i, i < pts.length → f (gi pts i) = some (b i)) :
    ∃ m xs m', level_balance s pts f = some m ∧ level_solve m = some (xs, m') ∧ xs.length = pts.length ∧ ∀ j, j < pts.length → Is (rt xs j) (Nm (Am s pts b) pts.length j pts.length) (Dm (Am s pts b) pts.length) := by
  have hn := hF.n4
  obtain ⟨xs, m', h1, h2, h3⟩ := solve_eq (sol_of hs hF hb) (m := balR s pts b) (by unfold balR; simp) (fun j hj => bal_row b hj)
  exact ⟨_, xs, m', balance_eq hs (by omega) hF.nd hf, h1, h2, h3⟩
theorem cut_filter {j : Int} : ∀ (l : List Int) (c : Nat), l.Nodup → c < l.length → gi l c = j → l.take c ++ l.drop (c + 1) = l.filter (fun k => !decide (k = j))
  | [], c, _, h, _ => by simp at h
  | x :: r, 0, hd, h, e => by
    have e' : x = j := e
    subst e'
    have hn := (List.nodup_cons.1 hd).1
    rw [List.filter_cons, if_neg (by simp)]
    show r = _
    symm
    rw [List.filter_eq_self]
    intro a ha
    have : a ≠ x := fun e => hn (e ▸ ha)
    simp [this]
  | x :: r, c + 1, hd, h, e => by
    have hc := List.nodup_cons.1 hd
    have h' : c < r.length := by simpa using h
    have e' : gi r c = j := by rw [← e]; simp [gi]
    have hm : j ∈ r := e' ▸ gi_mem h'
    have : x ≠ j := fun e2 => hc.1 (e2 ▸ hm)
    rw [List.filter_cons, if_pos (by simp [this]), ← cut_filter r c hc.2 h' e']; rfl
theorem root_in {s : Survey} (hs : SvOk s) {p : Int} (hp : 0 ≤ p ∧ p < s.points) : (0 ≤ rtOf s p ∧ rtOf s p ≤ p) ∧ rtOf s (rtOf s p) = rtOf s p := by
  have hR := rootsOf_ok hs
  have hl := hR.len
  have h1 := hR.le p.toNat (by omega)
  have h2 := hR.con p.toNat (by omega)
  have h3 : 0 ≤ rtOf s p ∧ rtOf s p ≤ p := by unfold rtOf; omega
  rw [show ((p.toNat : Nat) : Int) = p by omega] at h2
  exact ⟨h3, (con_rt hs (by omega) hp).1 h2⟩
theorem part_mem {s : Survey} (hs : SvOk s) {q : Int} {p : Int} : p ∈ partOf (rootsOf s) q ↔ (0 ≤ p ∧ p < s.points) ∧ rtOf s p = q := by
  have hp1 := hs.p1
  have hl := (rootsOf_ok hs).len
  unfold partOf
  rw [mem_nodesOf, hl]
  simp only [decide_eq_true_eq]
  unfold rtOf
  constructor <;> intro h <;> exact ⟨by omega, h.2⟩
theorem parts_mem {s : Survey} (hs : SvOk s) {l : List Int} : l ∈ partsR s ↔ ∃ q, (0 ≤ q ∧ q < s.points) ∧ rtOf s q = q ∧ l = partOf (rootsOf s) q := by
  have hp1 := hs.p1
  unfold partsR partsL
  rw [List.mem_map]
  constructor
  · rintro ⟨q, hq, rfl⟩
    have := mem_nodesOf.1 hq
    exact ⟨q, by omega, of_decide_eq_true this.2, rfl⟩
  · rintro ⟨q, h1, h2, rfl⟩
    exact ⟨q, mem_nodesOf.2 ⟨by omega, decide_eq_true h2⟩, rfl⟩
theorem part_cut {s : Survey} (hs : SvOk s) (j : Int) : (partOf (rootsOf s) (rtOf s j)).filter (fun k => !decide (k = j)) = oneOf s j := by
  have hl := (rootsOf_ok hs).len
  unfold partOf oneOf nodesOf
  rw [List.filter_filter, hl]
  congr 1
  funext k
  exact Bool.and_comm _ _
theorem part_nodup {s : Survey} (q : Int) : (partOf (rootsOf s) q).Nodup := nodesOf_nodup _ _
theorem part_len {s : Survey} (hs : SvOk s) (q : Int) : (partOf (rootsOf s) q).length ≤ 5 := by
  have hl := (rootsOf_ok hs).len
  have hp5 := hs.p5
  have := nodesOf_len (rootsOf s).length fun k => decide (gi (rootsOf s) k.toNat = q)
  show (nodesOf _ _).length ≤ _
  omega
theorem parts_len {s : Survey} (hs : SvOk s) : (partsR s).length ≤ 5 := by
  have := partsL_len (rootsOf s) s.points.toNat
  have hp5 := hs.p5
  show (partsL _ _).length ≤ _
  omega
/-- The program's error of two joined points. -/
theorem resist_eq {s : Survey} (hs : SvOk s) {i j : Int} (hi : 0 ≤ i ∧ i < s.points) (hj : 0 ≤ j ∧ j < s.points) (hr : rtOf s i = rtOf s j) :
    ∃ x N D, level_resist s i j = some x ∧ Is x N D ∧ RS s i j N D ∧ D ≤ 20736 ∧ N.natAbs ≤ 4000 * D.natAbs := by
  unfold level_resist
  by_cases hij : i = j
  · subst hij
    rw [if_pos rfl]
    exact ⟨_, 0, 1, rfl, is_int 0, rs_self s i, by omega, by omega⟩
  · rw [if_neg hij, bnd_eq (parts_eq hs)]
    have hF := fr_one hs hj
    have hb := rh_unit s (oneOf s j) i
    have hm : i ∈ oneOf s j := (mem_oneOf hs).2 ⟨hi, hr, hij⟩
    obtain ⟨k0, hk0, hki⟩ := gi_ex hm
    obtain ⟨m, xs, m', h1, h2, h3, h4⟩ := bal_solve hs hF hb (f := fun x2 => level_resist_1 i x2) (fun k hk => by
      unfold level_resist_1 unitB
      by_cases e : gi (oneOf s j) k = i
      · rw [if_pos e, if_pos e]
      · rw [if_neg e, if_neg e])
    have hRS := un_one hs hi hj hij hr hk0 hki
    have hD20 := (sol_of hs hF hb).D20736
    have hPl := parts_len hs
    refine ⟨rt xs k0, _, _, ?_, h4 k0 hk0, hRS, by omega, (sol_of hs hF hb).Nb _ k0 hk0 (Nat.le_refl _)⟩
    have key : ∀ d k t, (partsR s).length = t + d → d < k → (∃ t', t ≤ t' ∧ ∃ l, (partsR s)[t']? = some l ∧ j ∈ l) → level_resist_L1 s i j (partsR s) k (t : Int) = some (rt xs k0) := by
      intro d
      induction d with
      | zero =>
        intro k t h1 _ ⟨t', h2, l, h3, _⟩
        rw [List.getElem?_eq_none (by omega)] at h3
        cases h3
      | succ d ih =>
        intro k t hl hk ⟨t', ht, l, hl', hjl⟩
        cases k with
        | zero => omega
        | succ k =>
          show level_resist_B1 s i j (partsR s) (level_resist_L1 s i j (partsR s) k) (t : Int) = _
          have hx : (partsR s)[t]? = some (partsR s)[t] := List.getElem?_eq_getElem (by omega)
          generalize (partsR s)[t] = pt at hx
          obtain ⟨q, hq1, hq2, rfl⟩ := (parts_mem hs).1 (List.mem_of_getElem? hx)
          have hlen := part_len hs q
          obtain ⟨c, c1, c2, c3, c4⟩ := index_eq (by omega) (part_nodup (s := s) q) j
          unfold level_resist_B1
          rw [if_pos (by omega), ix_nat hx, bnd_eq c1]
          by_cases hc : 0 ≤ c
          · have hcj := (c4 c.toNat (by omega)).1 (by omega)
            have hjm : j ∈ partOf (rootsOf s) q := hcj ▸ gi_mem (by omega)
            have hqr := ((part_mem hs).1 hjm).2
            have hcut := cut_filter (j := j) _ c.toNat (part_nodup (s := s) q) (by omega) hcj
            have hdel : slices_Delete_int (partOf (rootsOf s) q) c (c + 1) = some (oneOf s j) := by
              unfold slices_Delete_int
              rw [gd_pos (by omega), show (c + 1).toNat = c.toNat + 1 by omega, hcut, ← hqr, part_cut hs]
            obtain ⟨c', d1, d2, d3, d4⟩ := index_eq (show (oneOf s j).length ≤ 1000 by have := hF.n4; omega) hF.nd i
            have hc' := (d4 k0 hk0).2 hki
            rw [if_pos hc, gd_pos (by omega), bnd_eq hdel, bnd_eq h1, bnd_eq h2, bnd_eq d1, hc', ix_nat (rt_at (show k0 < xs.length by omega))]
          · rw [if_neg hc, gd_pos (by omega)]
            refine ih k (t + 1) (by omega) (by omega) ⟨t', ?_, l, hl', hjl⟩
            have : t ≠ t' := fun e => by
              subst e
              rw [hx] at hl'
              cases hl'
              obtain ⟨k1, e1, e2⟩ := gi_ex hjl
              have := (c4 k1 e1).2 e2
              omega
            omega
    refine key (partsR s).length FU 0 (by omega) (by have := FU_pos; omega) ?_
    have hj' := root_in hs hj
    have hin : partOf (rootsOf s) (rtOf s j) ∈ partsR s := (parts_mem hs).2 ⟨rtOf s j, by omega, hj'.2, rfl⟩
    obtain ⟨t', ht', e⟩ := List.getElem_of_mem hin
    exact ⟨t', by omega, _, by rw [List.getElem?_eq_getElem ht', e], (part_mem hs).2 ⟨hj, rfl⟩⟩
theorem sk_inj {q a b : Nat} (h : sk q a = sk q b) : a = b := by
  unfold sk at h
  split at h <;> split at h <;> omega
theorem two_cut {s : Survey} (i j : Int) {k : Nat} (hd : (oneOf s i).Nodup) (hk : k < (oneOf s i).length) (hkj : gi (oneOf s i) k = j) : twoOf s i j = cutC k (oneOf s i) := by
  unfold cutC
  rw [cut_filter _ k hd hk hkj]
  unfold twoOf oneOf nodesOf
  rw [List.filter_filter]
  congr 1
  funext p
  exact Bool.and_comm _ _
theorem rs_ref {s : Survey} (hs : SvOk s) {i j : Int} (hi : 0 ≤ i ∧ i < s.points) (hj : 0 ≤ j ∧ j < s.points) (hij : i ≠ j) (hr : rtOf s i = rtOf s j) :
    RS s i j (detL s (twoOf s i j)) (detL s (oneOf s i)) := by
  have hF := fr_one hs hi
  have hn := hF.n4
  have hm : j ∈ oneOf s i := (mem_oneOf hs).2 ⟨hj, hr.symm, fun e => hij e.symm⟩
  obtain ⟨k, hk, hkj⟩ := gi_ex hm
  have h := rs_symm (un_one hs hj hi (fun e => hij e.symm) hr.symm hk hkj)
  rw [detL_Dm hn (unitB (oneOf s i) j)]
  have hcut := two_cut i j hF.nd hk hkj
  have hlen : (twoOf s i j).length + 1 = (oneOf s i).length := by
    rw [hcut]; unfold cutC
    rw [List.length_append, List.length_take, List.length_drop]; omega
  have e1 : Nm (Am s (oneOf s i) (unitB (oneOf s i) j)) (oneOf s i).length k (oneOf s i).length = detL s (twoOf s i j) := by
    have hu := Nm_unit (a := Am s (oneOf s i) (unitB (oneOf s i) j)) (n := (twoOf s i j).length) (k := k) (by omega) (by omega) (c := (oneOf s i).length) (fun m hm => by
      unfold Am unitB
      rw [if_neg (by omega)]
      by_cases e : m = k
      · subst e; rw [if_pos hkj, if_pos rfl]
      · rw [if_neg e, if_neg fun h => e (gi_inj hF.nd (by omega) hk (h.trans hkj.symm))])
    rw [hlen] at hu
    rw [hu, detL_Dm (by omega) (fun _ => 0)]
    refine Dm_congr (by omega) fun a b ha hb => ?_
    have sa : sk k a < (oneOf s i).length := by unfold sk; split <;> omega
    have sb : sk k b < (oneOf s i).length := by unfold sk; split <;> omega
    unfold Am
    rw [if_pos sb, if_pos hb]
    unfold lent
    rw [hcut, gi_cut, gi_cut]
    congr 1
    by_cases e : a = b
    · subst e; simp
    · rw [decide_eq_false e, decide_eq_false fun h => e (sk_inj h)]
  rw [e1] at h
  exact h
/-- The document's error is the program's. -/
theorem resistance_same {s : Survey} (hs : SvOk s) {i j : Int} (hi : 0 ≤ i ∧ i < s.points) (hj : 0 ≤ j ∧ j < s.points) (hr : rtOf s i = rtOf s j) {x : Rat} {N D : Int} (hx : Is x N D) (hRS : RS s i j N D) : ref01_resistance s i j = some x := by
  have hDp : 0 < D := by obtain ⟨u, hu, _⟩ := hRS; exact hu.pos
  by_cases hij : i = j
  · subst hij
    rw [resistance_eq hs hi (fun h => absurd rfl h), if_pos rfl]
    have := rs_uniq hs (.refl i) hRS (rs_self s i)
    congr 1
    exact Is.uniq (n := 0) (d := 1) (by omega) (is_int 0) ⟨hx.1, by
      have h1 := hx.2
      have : N = 0 := by omega
      subst this
      have : x.num * D = 0 := by rw [h1]; simp
      rcases Int.mul_eq_zero.1 this with h | h
      · rw [h]; simp
      · omega⟩
  · have h2 := rs_ref hs hi hj hij hr
    have hd : 0 < detL s (oneOf s i) := by obtain ⟨u, hu, _⟩ := h2; exact hu.pos
    rw [resistance_eq hs hi (fun _ => by omega), if_neg hij]
    congr 1
    have hc := (con_rt hs hi hj).2 hr
    have hu := rs_uniq hs hc hRS h2
    refine Is.uniq (n := detL s (twoOf s i j)) (d := detL s (oneOf s i)) (by omega) (.red (by omega)) ⟨hx.1, ?_⟩
    have h1 := hx.2
    refine Int.eq_of_mul_eq_mul_right (show D ≠ 0 by omega) ?_
    grind
end Go.D1

set_option linter.unusedVariables false
set_option linter.unusedSimpArgs false
namespace Go.D1
open Go.Tb
def gb (l : List Bool) (i : Nat) : Bool := l.getD i false
abbrev HK := List Int × List Bool
/-- One reading of the tree is gone along, if one of its points alone is known. -/
def go1 (r : Reading) (x : HK) : HK :=
  if gb x.2 r.from_.toNat = true ∧ gb x.2 r.to_.toNat = false then (x.1.set r.to_.toNat (gi x.1 r.from_.toNat + r.rise), x.2.set r.to_.toNat true)
  else if gb x.2 r.to_.toNat = true ∧ gb x.2 r.from_.toNat = false then (x.1.set r.from_.toNat (gi x.1 r.to_.toNat - r.rise), x.2.set r.from_.toNat true)
  else x
structure HB (s : Survey) (B : Int) (x : HK) : Prop where
  l1 : x.1.length = s.points.toNat
  l2 : x.2.length = s.points.toNat
  bd : ∀ i, -B ≤ gi x.1 i ∧ gi x.1 i ≤ B
theorem HB.mono {s : Survey} {B B' : Int} {x : HK} (h : HB s B x) (hb : B ≤ B') : HB s B' x := ⟨h.l1, h.l2, fun i => by have := h.bd i; omega⟩
theorem HB.go {s : Survey} {B : Int} {x : HK} (h : HB s B x) (hB : 0 ≤ B) {r : Reading} (hr : -1000 ≤ r.rise ∧ r.rise ≤ 1000) : HB s (B + 1000) (go1 r x) := by
  have hf := h.bd r.from_.toNat
  have ht := h.bd r.to_.toNat
  unfold go1
  split
  · refine ⟨by simp [h.l1], by simp [h.l2], fun i => ?_⟩
    have := h.bd i
    rw [gi_set]
    split <;> omega
  · split
    · refine ⟨by simp [h.l1], by simp [h.l2], fun i => ?_⟩
      have := h.bd i
      rw [gi_set]
      split <;> omega
    · exact h.mono (by omega)
def op (x : HK) (r : Reading) : Bool := !(gb x.2 r.from_.toNat && gb x.2 r.to_.toNat)
end Go.D1

set_option linter.unusedVariables false
set_option linter.unusedSimpArgs false
namespace Go.D1
open Go.Tb
/-- Where the heights begin. -/
def start (s : Survey) : HK := (List.replicate s.points.toNat 0, (iota s.points.toNat).map (isRoot (rootsOf s)))
end Go.D1

set_option linter.unusedVariables false
set_option linter.unusedSimpArgs false
namespace Go.D1
open Go.Tb
def readingR (s : Survey) (k : Int) : Int := if validate s = 0 then (if within k 0 ((s.readings.length : Int) - 1) = true then 0 else 4) else validate s
theorem reading_eq {s : Survey} (hb : s.readings.length ≤ 1000) (k : Int) : level_reading s k = some (readingR s k) := by
  unfold level_reading readingR
  rw [bnd_eq (Validate_eq s)]
  by_cases hv : validate s = 0
  · rw [if_pos hv, if_pos hv, gd_pos (by omega), bnd_eq (lwithin_eq _ _ _)]
    split <;> rfl
  · rw [if_neg hv, if_neg hv]
theorem numbered_eq {s : Survey} (hb : s.readings.length ≤ 1000) (k : Int) : ref01_numbered s k = some (readingR s k) := by
  unfold ref01_numbered readingR
  rw [bnd_eq (rValidate_eq s)]
  by_cases hv : validate s = 0
  · rw [if_pos hv, if_pos hv, gd_pos (by omega), bnd_eq (rwithin_eq _ _ _)]
    split <;> rfl
  · rw [if_neg hv, if_neg hv]
theorem reading0 {s : Survey} {k : Int} (h : readingR s k = 0) : SvOk s ∧ 0 ≤ k ∧ k < (s.readings.length : Int) := by
  unfold readingR at h
  split at h
  · rename_i hv
    split at h
    · rename_i hw
      have := within_iff.1 hw
      exact ⟨val0.1 hv, by omega, by omega⟩
    · omega
  · rename_i hv; exact absurd h hv
end Go.D1

set_option linter.unusedVariables false
set_option linter.unusedSimpArgs false
namespace Go.D1
open Go.Tb
theorem inr_mul {x y : Int} {A B : Nat} (hx : x.natAbs ≤ A) (hy : y.natAbs ≤ B) (h : A * B ≤ 9223372036854775807) : (x * y).natAbs ≤ A * B ∧ InR (x * y) := by
  have : (x * y).natAbs ≤ A * B := by rw [Int.natAbs_mul]; exact Nat.mul_le_mul hx hy
  exact ⟨this, by omega⟩
end Go.D1

set_option linter.unusedVariables false
set_option linter.unusedSimpArgs false
namespace Go.D1
open Go.Tb
theorem RS.pos {s : Survey} {i j N D : Int} (h : RS s i j N D) : 0 < D := by obtain ⟨u, hu, _⟩ := h; exact hu.pos
end Go.D1

set_option linter.unusedVariables false
set_option linter.unusedSimpArgs false
namespace Go.D1
open Go.Tb
theorem Share_0 {s : Survey} (hb : s.readings.length ≤ 1000) {k : Int} (h : readingR s k = 0) : ∃ x N D, level_Share s k = some (x, 0) ∧ ref01_Share s k = some (x, 0) ∧
    Is x ((gr s.readings k.toNat).weight * N) D ∧ RS s (gr s.readings k.toNat).from_ (gr s.readings k.toNat).to_ N D ∧ D ≤ 20736 ∧ N.natAbs ≤ 4000 * D.natAbs := by
  obtain ⟨hs, h0, h1⟩ := reading0 h
  have hx : s.readings[k.toNat]? = some (gr s.readings k.toNat) := gr_at (by omega)
  have hr := gr_ok hs (i := k.toNat) (by omega)
  have hm : gr s.readings k.toNat ∈ s.readings := gr_mem (by omega)
  generalize gr s.readings k.toNat = r at *
  obtain ⟨y, N, D, a1, a2, a3, a4, a5⟩ := resist_eq hs hr.1 hr.2.1 (rt_same hs hm)
  have a6 := resistance_same hs hr.1 hr.2.1 (rt_same hs hm) a2 a3
  have hD := a3.pos
  have hl := a2.le (by omega)
  have hNw : (r.weight * N).natAbs ≤ 3 * 82944000 := na_mul (by omega) (by omega)
  have hv := a2.2
  obtain ⟨z, z1, z2⟩ := mul_is (is_int r.weight).1 a2.1 ⟨sm_abs.2 (by show r.weight.natAbs ≤ _; omega), sm_abs.2 (by show (1 : Int).natAbs ≤ _; omega)⟩ ⟨sm_abs.2 (by omega), sm_abs.2 (by omega)⟩ (N := r.weight * N) (D := D) (by omega) (by
    show r.weight * y.num * D = r.weight * N * (1 * y.den)
    grind) (sm_abs.2 (by omega)) (sm_abs.2 (by omega))
  have hNy : (r.weight * y.num).natAbs ≤ 3 * 82944000 := na_mul (by omega) (by omega)
  have hq := a2.1.pos
  have hz : red (r.weight * y.num) y.den = z := by
    refine Is.uniq (n := r.weight * N) (d := D) (by omega) ?_ z2
    exact (Is.red (n := r.weight * y.num) (d := y.den) (by omega)).of_eq (by omega) (by grind)
  refine ⟨z, N, D, ?_, ?_, z2, a3, a4, a5⟩
  · unfold level_Share
    rw [bnd_eq (reading_eq hb k), if_pos h, ix_eq h0 hx, bnd_eq a1, bnd_eq z1]
  · unfold ref01_Share
    rw [bnd_eq (numbered_eq hb k), if_pos h, ix_eq h0 hx, bnd_eq a6, gd_pos (by omega), bnd_eq (Ratio_eq (by omega) (sm_abs.2 (by omega)) (sm_abs.2 (by omega))), hz]
end Go.D1

set_option linter.unusedVariables false
set_option linter.unusedSimpArgs false
namespace Go.D1
open Go.Tb
/-- Flows at the smallest point of a part. -/
theorem dv_root {s : Survey} (hs : SvOk s) (f : Reading → Int) (e : Int → Int) (hfree : ∀ p, 0 ≤ p → p < s.points → rtOf s p ≠ p → dv s.readings f p = e p) {q : Int} (hq : 0 ≤ q ∧ q < s.points) (hr : rtOf s q = q)
    (he : sumN (fun k => if rtOf s (k : Int) = q then e (k : Int) else 0) s.points.toNat = 0) : dv s.readings f q = e q := by
  have hg := green s.readings (fun p => if rtOf s p = q then 1 else 0) f s.points.toNat (sv_in hs)
  have h0 : rs s.readings (fun r => ((if rtOf s r.from_ = q then (1 : Int) else 0) - (if rtOf s r.to_ = q then 1 else 0)) * f r) = 0 := by
    have : rs s.readings (fun r => ((if rtOf s r.from_ = q then (1 : Int) else 0) - (if rtOf s r.to_ = q then 1 else 0)) * f r) = rs s.readings (fun _ => 0 * 0) := rs_congr fun r hr => by rw [rt_same hs hr, Int.sub_self]; simp
    rw [this, rs_mul s.readings 0 (fun _ => 0), Int.zero_mul]
  rw [h0] at hg
  have hb := sumN_but (n := s.points.toNat) (c := q.toNat) (f := fun k => (if rtOf s (k : Int) = q then 1 else 0) * dv s.readings f (k : Int) - (if rtOf s (k : Int) = q then e (k : Int) else 0)) (by omega) (fun k hk hne => by
    show (if rtOf s (k : Int) = q then (1 : Int) else 0) * dv s.readings f (k : Int) - (if rtOf s (k : Int) = q then e (k : Int) else 0) = 0
    by_cases h : rtOf s (k : Int) = q
    · rw [if_pos h, if_pos h, hfree (k : Int) (by omega) (by omega) (by omega)]; omega
    · rw [if_neg h, if_neg h]; omega)
  rw [sumN_sub, hg, he] at hb
  have hb' : (0 : Int) - 0 = (if rtOf s (q.toNat : Int) = q then 1 else 0) * dv s.readings f (q.toNat : Int) - (if rtOf s (q.toNat : Int) = q then e (q.toNat : Int) else 0) := hb
  rw [show ((q.toNat : Nat) : Int) = q by omega, if_pos hr, if_pos hr] at hb'
  omega
def freeL (s : Survey) : List Int := nodesOf s.points.toNat fun k => !decide (gi (rootsOf s) k.toNat = k)
theorem mem_free {s : Survey} (hs : SvOk s) {p : Int} : p ∈ freeL s ↔ (0 ≤ p ∧ p < s.points) ∧ rtOf s p ≠ p := by
  have hp1 := hs.p1
  unfold freeL
  rw [mem_nodesOf]
  simp only [Bool.not_eq_true', decide_eq_false_iff_not]
  unfold rtOf
  constructor <;> intro h <;> exact ⟨by omega, h.2⟩
theorem fr_free {s : Survey} (hs : SvOk s) : Fr s (freeL s) := by
  have hp5 := hs.p5
  have hp1 := hs.p1
  refine ⟨nodesOf_nodup _ _, ?_, fun p hp => ?_⟩
  · have h0 := (root_in hs (p := 0) (by omega)).1
    have : (freeL s).length < s.points.toNat := nodesOf_lt (p := 0) (by omega) (by
      have : gi (rootsOf s) (0 : Int).toNat = 0 := by have : rtOf s 0 = 0 := by omega
                                                      exact this
      simp
      exact this)
    omega
  · have h := (mem_free hs).1 hp
    have hr := root_in hs h.1
    exact ⟨rtOf s p, fun h' => ((mem_free hs).1 h').2 hr.2, (con_rt hs h.1 (by omega)).2 hr.2.symm⟩
theorem sumN_nodes (p : Int → Bool) (D : Int) : ∀ n : Nat, sumN (fun k => if p (k : Int) = true then D else 0) n = D * ((nodesOf n p).length : Int)
  | 0 => by simp [sumN, nodesOf, iota]
  | n + 1 => by
    simp only [sumN]
    rw [sumN_nodes p D n, nodesOf_succ]
    by_cases h : p (n : Int) = true
    · rw [if_pos h, if_pos h, List.length_append, List.length_singleton, Int.natCast_add, Int.mul_add]; simp
    · rw [if_neg h, if_neg h]; simp
theorem nodes_not (p : Int → Bool) : ∀ n : Nat, (nodesOf n p).length + (nodesOf n fun k => !p k).length = n
  | 0 => by simp [nodesOf, iota]
  | n + 1 => by
    have ih := nodes_not p n
    rw [nodesOf_succ, nodesOf_succ]
    by_cases h : p (n : Int) = true
    · rw [if_pos h, if_neg (by simp [h])]; simp; omega
    · rw [if_neg h, if_pos (by simpa using h)]; simp; omega
theorem parts_free {s : Survey} (hs : SvOk s) : ((partsR s).length : Int) + ((freeL s).length : Int) = s.points := by
  have hp1 := hs.p1
  have h := nodes_not (isRoot (rootsOf s)) s.points.toNat
  have e : (partsR s).length = (nodesOf s.points.toNat (isRoot (rootsOf s))).length := by
    unfold partsR partsL; rw [List.length_map]
  have e2 : freeL s = nodesOf s.points.toNat fun k => !isRoot (rootsOf s) k := rfl
  rw [e, e2]
  omega
theorem sum_dv (F : Int → Reading → Int) (n : Nat) : ∀ (l : List Reading), (∀ r ∈ l, (0 ≤ r.from_ ∧ r.from_ < n) ∧ (0 ≤ r.to_ ∧ r.to_ < n)) → sumN (fun k => dv l (F (k : Int)) (k : Int)) n = rs l (fun r => F r.from_ r - F r.to_ r)
  | [], _ => by simp only [dv, rs]; exact sumN_zero fun _ _ => rfl
  | r :: l, h => by
    have ih := sum_dv F n l fun x hx => h x (by simp [hx])
    have hr := h r (by simp)
    simp only [dv, rs]
    rw [← ih, sumN_add, sumN_sub]
    have pick : ∀ p : Int, 0 ≤ p ∧ p < n → sumN (fun k => if p = (k : Int) then F (k : Int) r else 0) n = F p r := fun p hp => by
      rw [sumN_but (c := p.toNat) (by omega) fun k hk hne => if_neg (by omega), if_pos (by omega), show ((p.toNat : Nat) : Int) = p by omega]
    rw [pick _ hr.1, pick _ hr.2]
/-- The flow of one unit from each free point, over one denominator. -/
def gD (s : Survey) : Int := Dm (Am s (freeL s) (fun _ => 0)) (freeL s).length
def gG (s : Survey) (p q : Int) : Int := if p ∈ freeL s then ext (freeL s) (Xb (Am s (freeL s) (unitB (freeL s) p)) (freeL s).length (freeL s).length) q else 0
theorem Dm_any {s : Survey} {pts : List Int} (hn : pts.length ≤ 4) (b b' : Nat → Int) : Dm (Am s pts b) pts.length = Dm (Am s pts b') pts.length :=
  Dm_congr hn fun i j hi hj => by unfold Am; rw [if_pos hj, if_pos hj]
theorem gD_ok {s : Survey} (hs : SvOk s) : 0 < gD s ∧ gD s ≤ 20736 := by
  have hF := fr_free hs
  have hn := hF.n4
  have hb := rh_unit s (freeL s) 0
  have h1 := D_pos (b := fun _ => 0) hs hF _ (Nat.le_refl _)
  have h2 := (sol_of hs hF hb).D20736
  rw [Dm_any hn _ (fun _ => 0)] at h2
  unfold gD
  omega
theorem gG_dv {s : Survey} (hs : SvOk s) (p : Int) {q : Int} (hq : q ∈ freeL s) : dv s.readings (fun r => r.weight * (gG s p r.from_ - gG s p r.to_)) q = if q = p then gD s else 0 := by
  have hF := fr_free hs
  have hn := hF.n4
  unfold gG
  by_cases hp : p ∈ freeL s
  · simp only [if_pos hp]
    obtain ⟨m, hm, e⟩ := gi_ex hq
    have h1 := Xb_dv hs hF (rh_unit s (freeL s) p) (i := (freeL s).length) (j := m) (Nat.le_refl _) hm
    rw [cramer _ (by omega) hm, e] at h1
    simp only [Int.mul_zero, Int.add_zero, Int.mul_one, Int.sub_zero] at h1
    rw [h1, Dm_any hn _ (fun _ => 0)]; rfl
  · simp only [if_neg hp]
    rw [dv_congr (g := fun _ => 0) (fun r _ => by simp), dv_zero, if_neg (show ¬ q = p from fun e => hp (e ▸ hq))]
def gN (s : Survey) (r : Reading) : Int := (gG s r.from_ r.from_ - gG s r.to_ r.from_) - (gG s r.from_ r.to_ - gG s r.to_ r.to_)
theorem gN_rs {s : Survey} (hs : SvOk s) {r : Reading} (hr : r ∈ s.readings) : RS s r.from_ r.to_ (gN s r) (gD s) := by
  have hp1 := hs.p1
  have hrr := hs.rd r hr
  have hrt := rt_same hs hr
  have hfree : ∀ p, 0 ≤ p → p < s.points → rtOf s p ≠ p → dv s.readings (fun x => x.weight * ((gG s r.from_ x.from_ - gG s r.to_ x.from_) - (gG s r.from_ x.to_ - gG s r.to_ x.to_))) p = (if p = r.from_ then gD s else 0) - (if p = r.to_ then gD s else 0) := fun p p0 p1 hp => by
    have hm := (mem_free hs).2 ⟨⟨p0, p1⟩, hp⟩
    rw [← gG_dv hs r.from_ hm, ← gG_dv hs r.to_ hm, ← dv_sub]
    exact dv_congr (fun x _ => by grind) p
  refine ⟨fun q => gG s r.from_ q - gG s r.to_ q, ⟨(gD_ok hs).1, fun p p0 p1 => ?_⟩, rfl⟩
  by_cases hp : rtOf s p = p
  · refine dv_root hs _ (fun p => (if p = r.from_ then gD s else 0) - (if p = r.to_ then gD s else 0)) hfree ⟨p0, p1⟩ hp ?_
    have e : sumN (fun k => if rtOf s (k : Int) = p then (if (k : Int) = r.from_ then gD s else 0) - (if (k : Int) = r.to_ then gD s else 0) else 0) s.points.toNat = sumN (fun k => (if (k : Int) = r.from_ then (if rtOf s r.from_ = p then gD s else 0) else 0) - (if (k : Int) = r.to_ then (if rtOf s r.from_ = p then gD s else 0) else 0)) s.points.toNat := by
      refine sumN_congr fun k hk => ?_
      have hne := hrr.2.2.1
      by_cases h1 : (k : Int) = r.from_
      · have n2 : ¬ (k : Int) = r.to_ := by omega
        rw [if_pos h1, if_neg n2, if_pos h1, if_neg n2, h1]
        split <;> omega
      · by_cases h2 : (k : Int) = r.to_
        · rw [if_neg h1, if_pos h2, if_neg h1, if_pos h2, h2, hrt]
          split <;> omega
        · rw [if_neg h1, if_neg h2, if_neg h1, if_neg h2]
          split <;> omega
    show sumN (fun k => if rtOf s (k : Int) = p then (if (k : Int) = r.from_ then gD s else 0) - (if (k : Int) = r.to_ then gD s else 0) else 0) s.points.toNat = 0
    rw [e, sumN_sub, sumN_unit _ (by omega), sumN_unit _ (by omega), Int.sub_self]
  · exact hfree p p0 p1 hp
/-- All shares. -/
theorem foster {s : Survey} (hs : SvOk s) : rs s.readings (fun r => r.weight * gN s r) = gD s * ((freeL s).length : Int) := by
  have h1 := sum_dv (fun p r => r.weight * (gG s p r.from_ - gG s p r.to_)) s.points.toNat s.readings (sv_in hs)
  have h2 : rs s.readings (fun r => r.weight * gN s r) = rs s.readings (fun r => r.weight * (gG s r.from_ r.from_ - gG s r.from_ r.to_) - r.weight * (gG s r.to_ r.from_ - gG s r.to_ r.to_)) := rs_congr fun r _ => by unfold gN; grind
  have h3 : sumN (fun k => dv s.readings (fun r => r.weight * (gG s (k : Int) r.from_ - gG s (k : Int) r.to_)) (k : Int)) s.points.toNat = sumN (fun k => if (!decide (gi (rootsOf s) (k : Int).toNat = (k : Int))) = true then gD s else 0) s.points.toNat := by
    refine sumN_congr fun k hk => ?_
    by_cases hm : (k : Int) ∈ freeL s
    · have := ((mem_free hs).1 hm).2
      unfold rtOf at this
      rw [gG_dv hs _ hm, if_pos rfl, if_pos (by rw [Bool.not_eq_true', decide_eq_false_iff_not]; exact this)]
    · have : rtOf s (k : Int) = (k : Int) := by
        by_cases h : rtOf s (k : Int) = (k : Int)
        · exact h
        · exact absurd ((mem_free hs).2 ⟨by omega, h⟩) hm
      unfold rtOf at this
      rw [if_neg (by rw [Bool.not_eq_true', decide_eq_false_iff_not]; exact fun h => h this), ← dv_zero s.readings (k : Int)]
      exact dv_congr (fun r _ => by unfold gG; rw [if_neg hm, if_neg hm]; simp) _
  rw [h2, ← h1, h3]
  exact sumN_nodes (fun k => !decide (gi (rootsOf s) k.toNat = k)) (gD s) s.points.toNat
theorem rs_take (f : Reading → Int) : ∀ (l : List Reading) (i : Nat), i < l.length → rs (l.take (i + 1)) f = rs (l.take i) f + f (gr l i)
  | [], i, h => by simp at h
  | x :: l, 0, h => by simp [rs, gr]
  | x :: l, i + 1, h => by
    have ih := rs_take f l i (by simpa using h)
    have e : gr (x :: l) (i + 1) = gr l i := by simp [gr]
    rw [e, List.take_succ_cons, List.take_succ_cons]
    simp only [rs]
    rw [ih]; omega
theorem share_add {c x : Rat} {S T D : Int} (hc : Is c S D) (hx : Is x T D) (hD : 0 < D) (hD2 : D ≤ 20736) (hS : S.natAbs ≤ 1990656000) (hT : T.natAbs ≤ 248832000) :
    (InR (c.num * x.den) ∧ InR (x.num * c.den) ∧ InR (c.num * x.den + x.num * c.den) ∧ InR (c.den * x.den)) ∧ ∃ z, ref01_Ratio (c.num * x.den + x.num * c.den) (c.den * x.den) = some z ∧ Is z (S + T) D := by
  have l1 := hc.le (by omega)
  have l2 := hx.le (by omega)
  have m1 := inr_mul (x := c.num) (y := x.den) (A := 1990656000) (B := 20736) (by omega) (by omega) (by omega)
  have m2 := inr_mul (x := x.num) (y := c.den) (A := 248832000) (B := 20736) (by omega) (by omega) (by omega)
  have m3 := inr_mul (x := c.den) (y := x.den) (A := 20736) (B := 20736) (by omega) (by omega) (by omega)
  have q1 := hc.1.pos
  have q2 := hx.1.pos
  have q3 : 0 < c.den * x.den := Int.mul_pos q1 q2
  refine ⟨⟨m1.2, m2.2, by omega, m3.2⟩, _, Ratio_eq (by omega) (sm_abs.2 (by omega)) (sm_abs.2 (by omega)), ?_⟩
  refine (Is.red (by omega)).of_eq (by omega) ?_
  have v1 := hc.2
  have v2 := hx.2
  have : (c.num * x.den + x.num * c.den) * D = (c.num * D) * x.den + (x.num * D) * c.den := by grind
  rw [this, v1, v2]; grind
theorem share_at {s : Survey} (hs : SvOk s) {k : Nat} (hk : k < s.readings.length) : ∃ x, level_Share s (k : Int) = some (x, 0) ∧ Is x ((gr s.readings k).weight * gN s (gr s.readings k)) (gD s) ∧ ((gr s.readings k).weight * gN s (gr s.readings k)).natAbs ≤ 248832000 := by
  have h8 := hs.len
  have hR : readingR s (k : Int) = 0 := by
    unfold readingR
    rw [if_pos (val0.2 hs), if_pos (within_iff.2 (by omega))]
  obtain ⟨x, N, D, a1, _, a3, a4, a5, a6⟩ := Share_0 (by omega) hR
  rw [Int.toNat_natCast] at a3 a4
  have hr := gr_ok hs hk
  have hm := gr_mem hk
  generalize gr s.readings k = r at *
  have hg := gN_rs hs hm
  have hu := rs_uniq hs (edge_of hm) a4 hg
  have hD := a4.pos
  have hG := gD_ok hs
  refine ⟨x, a1, a3.of_eq (by omega) (by grind), ?_⟩
  have e1 : (gN s r).natAbs * D.natAbs = N.natAbs * (gD s).natAbs := by rw [← Int.natAbs_mul, ← Int.natAbs_mul, hu]
  have e2 : N.natAbs * (gD s).natAbs ≤ (4000 * (gD s).natAbs) * D.natAbs := by
    have := Nat.mul_le_mul_right (gD s).natAbs a6
    rw [Nat.mul_right_comm] at this
    exact this
  rw [← e1] at e2
  have e3 := Nat.le_of_mul_le_mul_right e2 (by omega)
  have := na_mul (a := r.weight) (b := gN s r) (A := 3) (B := 82944000) (by omega) (by omega)
  omega
def psum (s : Survey) (i : Nat) : Int := rs (s.readings.take i) (fun r => r.weight * gN s r)
theorem psum_abs {s : Survey} (hs : SvOk s) : ∀ i, i ≤ s.readings.length → (psum s i).natAbs ≤ i * 248832000
  | 0, _ => by simp [psum, rs]
  | i + 1, hi => by
    have ih := psum_abs hs i (by omega)
    obtain ⟨_, _, _, h⟩ := share_at hs (k := i) (by omega)
    have e : psum s (i + 1) = psum s i + (gr s.readings i).weight * gN s (gr s.readings i) := rs_take _ _ _ (by omega)
    rw [e]
    omega
theorem psum_end {s : Survey} (hs : SvOk s) : psum s s.readings.length = gD s * ((freeL s).length : Int) := by
  unfold psum
  rw [List.take_length]
  exact foster hs
theorem law_LevelSums (s : Survey) (hb : s.readings.length ≤ 9223372036854775807) : law01_LevelSums s = some true := by
  unfold law01_LevelSums
  rw [bnd_eq (Long_eq s)]
  by_cases hL : (100 : Int) < (s.readings.length : Int)
  · rw [if_pos (by simpa using hL), bnd_eq known_eq]
  rw [if_neg (by simpa using hL), bnd_eq (Parts_eq s)]
  by_cases hv : validate s = 0
  · have hs := val0.1 hv
    have h8 := hs.len
    have hp5 := hs.p5
    have hp1 := hs.p1
    have hG := gD_ok hs
    rw [if_pos hv, if_pos rfl]
    obtain ⟨st, h1, h2⟩ := ex_loop s.readings.length (fun i (st : Int × Int) => Is ⟨st.1, st.2⟩ (psum s i) (gD s)) (fun n st i => law01_LevelSums_L1 s (partsR s, 0) n i st.1 st.2) (fun st => law01_LevelSums_k1 s (partsR s, 0) st.1 st.2) (fun n i st hi hst => by
      obtain ⟨x, a1, a2, a3⟩ := share_at hs hi
      have hps := psum_abs hs i (by omega)
      obtain ⟨⟨g1, g2, g3, g4⟩, z, z1, z2⟩ := share_add hst a2 hG.1 hG.2 (by omega) a3
      have q2 := a2.1.pos
      have l2 := a2.le (by omega)
      have l1 := hst.le (by omega)
      simp only at g1 g2 g3 g4 z1 l1
      refine ⟨(z.num, z.den), ?_, ?_⟩
      · have e : psum s (i + 1) = psum s i + (gr s.readings i).weight * gN s (gr s.readings i) := rs_take _ _ _ (by omega)
        rw [e]; exact z2
      · show law01_LevelSums_B1 s (partsR s, 0) (law01_LevelSums_L1 s (partsR s, 0) n) (i : Int) st.1 st.2 = _
        unfold law01_LevelSums_B1 law01_LevelSums_k2
        rw [if_pos (by omega), bnd_eq a1, if_pos rfl]
        show (if x.den < 1 then _ else _) = _
        rw [if_neg (by omega), if_neg (by simp only; omega), if_neg (by simp only [decide_eq_true_eq]; omega), gd_pos g1, gd_pos g2, gd_pos g3, gd_pos g4, bnd_eq z1, gd_pos (by omega)]; rfl) (fun n st hst => by
      show law01_LevelSums_B1 s (partsR s, 0) (law01_LevelSums_L1 s (partsR s, 0) n) _ st.1 st.2 = _
      unfold law01_LevelSums_B1
      rw [if_neg (by omega)]) (by omega) (i0 := 0) (by omega) (s0 := (0, 1)) (by
      show Is ⟨0, 1⟩ (psum s 0) (gD s)
      exact (is_int 0).of_eq (by omega) (by simp [psum, rs]))
    refine h2.trans ?_
    rw [psum_end hs] at h1
    have hpf := parts_free hs
    have e := h1.uniq (show gD s ≠ 0 by omega) (y := ⟨((freeL s).length : Int), 1⟩) ((is_int _).of_eq (by omega) (by grind))
    have e1 : st.1 = ((freeL s).length : Int) := congrArg Rat.num e
    have e2 : st.2 = 1 := congrArg Rat.den e
    unfold law01_LevelSums_k1
    rw [gd_pos (by simp only; omega), if_pos (by rw [e1, e2, Bool.and_eq_true, beq_iff_eq, beq_iff_eq]; exact ⟨by simp only; omega, rfl⟩), bnd_eq known_eq]
  · rw [if_neg hv, if_neg hv, bnd_eq known_eq]
end Go.D1
