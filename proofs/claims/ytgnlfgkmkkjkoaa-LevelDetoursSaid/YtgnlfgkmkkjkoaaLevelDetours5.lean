/- Lemmas and walks that the proof of this claim uses: D1q8, D1q9, D1p4, D1p5, D1r1. -/
import Derived.Test.YtgnlfgkmkkjkoaaLevelDetours4
set_option linter.unusedVariables false
set_option linter.unusedSimpArgs false
namespace Go.D1
open Go.Tb
/-- Heights whose flow goes from i to j. -/
structure Un (s : Survey) (i j : Int) (u : Int → Int) (D : Int) : Prop where
  pos : 0 < D
  dv : ∀ p, 0 ≤ p → p < s.points → dv s.readings (fun r => r.weight * (u r.from_ - u r.to_)) p = (if p = i then D else 0) - (if p = j then D else 0)
def RS (s : Survey) (i j N D : Int) : Prop := ∃ u, Un s i j u D ∧ N = u i - u j
theorem dv_zero (l : List Reading) (p : Int) : dv l (fun _ => 0) p = 0 := by
  induction l with
  | nil => rfl
  | cons r l ih => simp only [dv]; rw [ih]; split <;> split <;> rfl
theorem dv_touch {l : List Reading} {f g : Reading → Int} {p : Int} (h : ∀ r ∈ l, r.from_ = p ∨ r.to_ = p → f r = g r) : dv l f p = dv l g p := by
  induction l with
  | nil => rfl
  | cons r l ih =>
    have ih := ih fun r hr => h r (by simp [hr])
    have hr := h r (by simp)
    simp only [dv]
    rw [ih]
    by_cases h1 : r.from_ = p
    · rw [if_pos h1, if_pos h1, hr (.inl h1)]
    · rw [if_neg h1, if_neg h1]
      by_cases h2 : r.to_ = p
      · rw [if_pos h2, if_pos h2, hr (.inr h2)]
      · rw [if_neg h2, if_neg h2]
theorem con_const {s : Survey} {j : Nat} {u : Int → Int} (h : ∀ i, i < j → i < s.readings.length → u (gr s.readings i).from_ = u (gr s.readings i).to_) {a b : Int} (hc : Con s j a b) : u a = u b := by
  induction hc with
  | refl a => rfl
  | edge h1 h2 => exact h _ h1 h2
  | symm _ ih => exact ih.symm
  | trans _ _ i1 i2 => exact i1.trans i2
theorem edge_of {s : Survey} {r : Reading} (h : r ∈ s.readings) : Con s s.readings.length r.from_ r.to_ := by
  obtain ⟨k, hk, e⟩ := List.getElem_of_mem h
  have : gr s.readings k = r := by
    have := gr_at hk
    rw [List.getElem?_eq_getElem hk] at this
    rw [← Option.some.inj this, e]
  rw [← this]
  exact .edge hk hk
/-- No flow: no differences. -/
theorem flat {s : Survey} (hs : SvOk s) {u : Int → Int} (h : ∀ p, 0 ≤ p → p < s.points → dv s.readings (fun r => r.weight * (u r.from_ - u r.to_)) p = 0) : ∀ r ∈ s.readings, u r.from_ = u r.to_ := by
  intro r hr
  by_cases e : u r.from_ = u r.to_
  · exact e
  · exfalso
    have hg := green s.readings u (fun r => r.weight * (u r.from_ - u r.to_)) s.points.toNat (sv_in hs)
    have hp1 := hs.p1
    rw [sumN_zero fun k hk => by rw [h k (by omega) (by omega), Int.mul_zero]] at hg
    have sq : ∀ r ∈ s.readings, 0 ≤ (u r.from_ - u r.to_) * (r.weight * (u r.from_ - u r.to_)) := fun r hr => by
      have hw := (hs.rd r hr).2.2.2.2
      have : (u r.from_ - u r.to_) * (r.weight * (u r.from_ - u r.to_)) = r.weight * ((u r.from_ - u r.to_) * (u r.from_ - u r.to_)) := by grind
      rw [this]
      refine Int.mul_nonneg (by omega) ?_
      generalize u r.from_ - u r.to_ = x
      rcases Int.le_total 0 x with h | h
      · exact Int.mul_nonneg h h
      · exact Int.mul_nonneg_of_nonpos_of_nonpos h h
    have hne : 0 < (u r.from_ - u r.to_) * (r.weight * (u r.from_ - u r.to_)) := by
      have h0 := sq r hr
      have hw := (hs.rd r hr).2.2.2.2
      have : (u r.from_ - u r.to_) * (r.weight * (u r.from_ - u r.to_)) ≠ 0 := Int.mul_ne_zero (by omega) (Int.mul_ne_zero (by omega) (by omega))
      omega
    have := rs_gt sq hr hne
    omega
theorem flat_con {s : Survey} (hs : SvOk s) {u : Int → Int} (h : ∀ p, 0 ≤ p → p < s.points → dv s.readings (fun r => r.weight * (u r.from_ - u r.to_)) p = 0) {a b : Int} (hc : Con s s.readings.length a b) : u a = u b :=
  con_const (fun i _ hi => flat hs h _ (gr_mem hi)) hc
theorem rs_uniq {s : Survey} (hs : SvOk s) {i j N D N' D' : Int} (hc : Con s s.readings.length i j) (h : RS s i j N D) (h' : RS s i j N' D') : N * D' = N' * D := by
  obtain ⟨u, hu, rfl⟩ := h
  obtain ⟨v, hv, rfl⟩ := h'
  have := flat_con hs (u := fun p => u p * D' - v p * D) (fun p p0 p1 => by
    have e : dv s.readings (fun r => r.weight * (u r.from_ * D' - v r.from_ * D - (u r.to_ * D' - v r.to_ * D))) p = D' * dv s.readings (fun r => r.weight * (u r.from_ - u r.to_)) p - D * dv s.readings (fun r => r.weight * (v r.from_ - v r.to_)) p := by
      rw [← dv_mul, ← dv_mul, ← dv_sub]
      exact dv_congr (fun r _ => by grind) p
    rw [e, hu.dv p p0 p1, hv.dv p p0 p1]
    split <;> split <;> grind) hc
  grind
theorem rs_symm {s : Survey} {i j N D : Int} (h : RS s i j N D) : RS s j i N D := by
  obtain ⟨u, hu, rfl⟩ := h
  refine ⟨fun p => -u p, ⟨hu.pos, fun p p0 p1 => ?_⟩, by show u i - u j = -u j - -u i; omega⟩
  have e : dv s.readings (fun r => r.weight * (-u r.from_ - -u r.to_)) p = -dv s.readings (fun r => r.weight * (u r.from_ - u r.to_)) p := by
    rw [← dv_neg]; exact dv_congr (fun r _ => by grind) p
  rw [e, hu.dv p p0 p1]
  omega
theorem rs_self (s : Survey) (i : Int) : RS s i i 0 1 := by
  refine ⟨fun _ => 0, ⟨by omega, fun p _ _ => ?_⟩, rfl⟩
  have : dv s.readings (fun r => r.weight * ((0 : Int) - 0)) p = dv s.readings (fun _ => 0) p := dv_congr (fun r _ => by simp) p
  rw [this, dv_zero]; omega
theorem sumN_but {f : Nat → Int} {n c : Nat} (hc : c < n) (h : ∀ k, k < n → k ≠ c → f k = 0) : sumN f n = f c := by
  rw [← sumN_at f hc]
  refine sumN_congr fun k hk => ?_
  by_cases e : k = c
  · rw [if_pos e]
  · rw [if_neg e, h k hk e]
theorem sumN_unit {i : Int} {n : Nat} (D : Int) (h : 0 ≤ i ∧ i < n) : sumN (fun k => if (k : Int) = i then D else 0) n = D := by
  rw [sumN_but (c := i.toNat) (by omega) fun k hk hne => if_neg (by omega), if_pos (by omega)]
/-- All flows add up to 0. -/
theorem dv_total {s : Survey} (hs : SvOk s) (f : Reading → Int) : sumN (fun k => dv s.readings f (k : Int)) s.points.toNat = 0 := by
  have hg := green s.readings (fun _ => 1) f s.points.toNat (sv_in hs)
  have : rs s.readings (fun r => ((1 : Int) - 1) * f r) = 0 := by
    have : ∀ l : List Reading, rs l (fun r => ((1 : Int) - 1) * f r) = 0 := by
      intro l
      induction l with
      | nil => rfl
      | cons r l ih => simp only [rs]; rw [ih]; simp
    exact this _
  rw [this] at hg
  rw [← hg]
  exact sumN_congr fun k _ => (Int.one_mul _).symm
theorem iota_nodup (n : Nat) : (iota n).Nodup := by
  induction n with
  | zero => exact List.nodup_nil
  | succ n ih =>
    rw [iota_succ, List.nodup_append]
    refine ⟨ih, by simp, fun a ha b hb => ?_⟩
    obtain ⟨k, hk, e⟩ := gi_ex ha
    rw [iota_len] at hk
    rw [iota_gi hk] at e
    simp at hb
    omega
theorem mem_iota {n : Nat} {p : Int} : p ∈ iota n ↔ 0 ≤ p ∧ p < n := by
  constructor
  · intro h
    obtain ⟨k, hk, e⟩ := gi_ex h
    rw [iota_len] at hk
    rw [iota_gi hk] at e
    omega
  · intro h
    have : gi (iota n) p.toNat ∈ iota n := gi_mem (by rw [iota_len]; omega)
    rw [iota_gi (by omega)] at this
    rw [show p = ((p.toNat : Nat) : Int) by omega]; exact this
theorem mem_nodesOf {n : Nat} {f : Int → Bool} {p : Int} : p ∈ nodesOf n f ↔ (0 ≤ p ∧ p < n) ∧ f p = true := by
  unfold nodesOf
  rw [List.mem_filter, mem_iota]
theorem nodesOf_nodup (n : Nat) (f : Int → Bool) : (nodesOf n f).Nodup := (iota_nodup n).filter _
theorem nodesOf_lt {n : Nat} {f : Int → Bool} {p : Int} (hp : 0 ≤ p ∧ p < n) (h : f p = false) : (nodesOf n f).length < n := by
  unfold nodesOf
  have h1 := List.length_filter_lt_length_iff_exists (l := iota n) (p := f)
  have : (List.filter f (iota n)).length < (iota n).length := h1.2 ⟨p, mem_iota.2 hp, by rw [h]; simp⟩
  rwa [iota_len] at this
abbrev rtOf (s : Survey) (p : Int) : Int := gi (rootsOf s) p.toNat
theorem con_rt {s : Survey} (hs : SvOk s) {a b : Int} (ha : 0 ≤ a ∧ a < s.points) (hb : 0 ≤ b ∧ b < s.points) : Con s s.readings.length a b ↔ rtOf s a = rtOf s b := by
  have hR := rootsOf_ok hs
  have hl := hR.len
  constructor
  · intro h
    exact (hR.eq_of hs h).2 ha
  · intro h
    have h1 := hR.con a.toNat (by omega)
    have h2 := hR.con b.toNat (by omega)
    rw [show ((a.toNat : Nat) : Int) = a by omega] at h1
    rw [show ((b.toNat : Nat) : Int) = b by omega] at h2
    unfold rtOf at h
    rw [h] at h1
    exact h1.symm.trans h2
theorem rt_same {s : Survey} (hs : SvOk s) {r : Reading} (hr : r ∈ s.readings) : rtOf s r.from_ = rtOf s r.to_ := by
  have h := hs.rd r hr
  exact (con_rt hs h.1 h.2.1).1 (edge_of hr)
theorem mem_oneOf {s : Survey} (hs : SvOk s) {i p : Int} : p ∈ oneOf s i ↔ (0 ≤ p ∧ p < s.points) ∧ rtOf s p = rtOf s i ∧ p ≠ i := by
  have hp1 := hs.p1
  unfold oneOf
  rw [mem_nodesOf]
  simp only [Bool.and_eq_true, decide_eq_true_eq, Bool.not_eq_true', decide_eq_false_iff_not, ne_eq]
  unfold rtOf
  constructor <;> intro h <;> refine ⟨by omega, h.2⟩
theorem fr_one {s : Survey} (hs : SvOk s) {i : Int} (hi : 0 ≤ i ∧ i < s.points) : Fr s (oneOf s i) := by
  have hp5 := hs.p5
  refine ⟨nodesOf_nodup _ _, ?_, fun p hp => ?_⟩
  · have : (oneOf s i).length < s.points.toNat := nodesOf_lt (p := i) (by omega) (by simp)
    omega
  · have h := (mem_oneOf hs).1 hp
    exact ⟨i, fun h' => ((mem_oneOf hs).1 h').2.2 rfl, (con_rt hs h.1 hi).2 h.2.1⟩
def unitB (pts : List Int) (c : Int) (k : Nat) : Int := if gi pts k = c then 1 else 0
theorem rh_unit (s : Survey) (pts : List Int) (c : Int) : Rh s pts (unitB pts c) (fun _ => 0) 0 1 c := by
  refine ⟨by omega, by omega, by omega, fun _ _ => by omega, fun j hj => ?_⟩
  have : dv s.readings (fun r => r.weight * 0) (gi pts j) = 0 := by
    rw [dv_congr (g := fun _ => 0) (fun r _ => Int.mul_zero _), dv_zero]
  rw [this]
  unfold unitB
  omega
/-- The part of i, j without j: elimination's heights have a flow from i to j. -/
theorem un_one {s : Survey} (hs : SvOk s) {i j : Int} (hi : 0 ≤ i ∧ i < s.points) (hj : 0 ≤ j ∧ j < s.points) (hij : i ≠ j) (hr : rtOf s i = rtOf s j) {k : Nat} (hk : k < (oneOf s j).length) (hki : gi (oneOf s j) k = i) :
    RS s i j (Nm (Am s (oneOf s j) (unitB (oneOf s j) i)) (oneOf s j).length k (oneOf s j).length) (Dm (Am s (oneOf s j) (unitB (oneOf s j) i)) (oneOf s j).length) := by
  have hF := fr_one hs hj
  have hb := rh_unit s (oneOf s j) i
  have hD := D_pos (b := unitB (oneOf s j) i) hs hF (oneOf s j).length (Nat.le_refl _)
  have hn := hF.n4
  have hXd := fun (m : Nat) (hm : m < (oneOf s j).length) => Xb_dv hs hF hb (i := (oneOf s j).length) (j := m) (Nat.le_refl _) hm
  have hp1 := hs.p1
  refine ⟨ext (oneOf s j) (Xb (Am s (oneOf s j) (unitB (oneOf s j) i)) (oneOf s j).length (oneOf s j).length), ⟨hD, ?_⟩, ?_⟩
  · generalize hX : ext (oneOf s j) (Xb (Am s (oneOf s j) (unitB (oneOf s j) i)) (oneOf s j).length (oneOf s j).length) = u at *
    generalize hDD : Dm (Am s (oneOf s j) (unitB (oneOf s j) i)) (oneOf s j).length = D at *
    have hin : ∀ p ∈ oneOf s j, dv s.readings (fun r => r.weight * (u r.from_ - u r.to_)) p = (if p = i then D else 0) := fun p hp => by
      obtain ⟨m, hm, e⟩ := gi_ex hp
      have h1 := hXd m hm
      rw [cramer _ (by omega) hm, e] at h1
      simp only [Int.mul_zero, Int.add_zero, Int.mul_one, Int.sub_zero] at h1
      exact h1
    have hout : ∀ p, 0 ≤ p → p < s.points → rtOf s p ≠ rtOf s j → dv s.readings (fun r => r.weight * (u r.from_ - u r.to_)) p = 0 := fun p p0 p1 hne => by
      rw [← dv_zero s.readings p]
      have hu0 : ∀ q, rtOf s q = rtOf s p → u q = 0 := fun q hq => by
        rw [← hX]
        exact ext_out _ fun hh => hne (hq ▸ ((mem_oneOf hs).1 hh).2.1)
      refine dv_touch fun r hr' htouch => ?_
      have hsame := rt_same hs hr'
      rcases htouch with e | e
      · rw [hu0 r.from_ (by rw [e]), hu0 r.to_ (by rw [← hsame, e])]; simp
      · rw [hu0 r.from_ (by rw [hsame, e]), hu0 r.to_ (by rw [e])]; simp
    have hjj : dv s.readings (fun r => r.weight * (u r.from_ - u r.to_)) j = -D := by
      have h1 : sumN (fun k => dv s.readings (fun r => r.weight * (u r.from_ - u r.to_)) (k : Int) - (if (k : Int) = i then D else 0)) s.points.toNat = dv s.readings (fun r => r.weight * (u r.from_ - u r.to_)) (j.toNat : Int) - (if (j.toNat : Int) = i then D else 0) := by
        refine sumN_but (f := fun k => dv s.readings (fun r => r.weight * (u r.from_ - u r.to_)) (k : Int) - (if (k : Int) = i then D else 0)) (c := j.toNat) (by omega) fun k hk hne => ?_
        by_cases hm : (k : Int) ∈ oneOf s j
        · rw [hin _ hm]; omega
        · have : rtOf s (k : Int) ≠ rtOf s j := fun e => hm ((mem_oneOf hs).2 ⟨by omega, e, by omega⟩)
          rw [hout k (by omega) (by omega) this, if_neg (fun e => this (by rw [e, hr]))]; rfl
      rw [sumN_sub, dv_total hs, sumN_unit D (by omega), show ((j.toNat : Nat) : Int) = j by omega, if_neg (fun e => hij e.symm)] at h1
      omega
    intro p p0 p1
    by_cases e : p = j
    · rw [e, hjj, if_neg (fun e => hij e.symm), if_pos rfl]; omega
    · rw [if_neg e, Int.sub_zero]
      by_cases hm : p ∈ oneOf s j
      · exact hin p hm
      · have : rtOf s p ≠ rtOf s j := fun e' => hm ((mem_oneOf hs).2 ⟨by omega, e', e⟩)
        rw [hout p p0 p1 this, if_neg (fun e => this (by rw [e, hr]))]
  · have h1 : ext (oneOf s j) (Xb (Am s (oneOf s j) (unitB (oneOf s j) i)) (oneOf s j).length (oneOf s j).length) i = Nm (Am s (oneOf s j) (unitB (oneOf s j) i)) (oneOf s j).length k (oneOf s j).length := by
      have := ext_at hF.nd (Xb (Am s (oneOf s j) (unitB (oneOf s j) i)) (oneOf s j).length (oneOf s j).length) hk
      rw [hki] at this
      rw [this]
      unfold Xb
      rw [if_pos hk]
    rw [h1, ext_out _ (fun h => ((mem_oneOf hs).1 h).2.2 rfl)]; omega
end Go.D1

set_option linter.unusedVariables false
set_option linter.unusedSimpArgs false
namespace Go.D1
open Go.Tb
theorem is_int (x : Int) : Is ⟨x, 1⟩ x 1 := ⟨⟨by show (0 : Int) < 1; omega, by show Int.gcd x 1 = 1; simp⟩, rfl⟩
theorem rt_rowI {l : List Int} {c : Nat} (h : c < l.length) : rt (rowI l) c = ⟨gi l c, 1⟩ := by
  unfold rt
  rw [List.getD_eq_getElem?_getD, rowI_at h]; rfl
theorem bal_rg {s : Survey} {pts : List Int} (b : Nat → Int) {j : Nat} (hj : j < pts.length) : rg (balR s pts b) j = rowI ((brow s pts j s.readings.length).set pts.length (b j)) := by
  unfold rg balR
  rw [List.getD_eq_getElem?_getD, List.getElem?_map, List.getElem?_range hj]; rfl
theorem bal_row {s : Survey} {pts : List Int} (b : Nat → Int) {j : Nat} (hj : j < pts.length) : (rg (balR s pts b) j).length = pts.length + 1 ∧ ∀ c, c ≤ pts.length → Is (rt (rg (balR s pts b) j) c) (Am s pts b j c) 1 := by
  rw [bal_rg b hj]
  refine ⟨by unfold rowI; rw [List.length_map, List.length_set, brow_len], fun c hc => ?_⟩
  rw [rt_rowI (by rw [List.length_set, brow_len]; omega), gi_set, brow_len]
  unfold Am
  by_cases e : c < pts.length
  · rw [if_neg (by omega), if_pos e, brow_gi e]; exact is_int _
  · rw [if_pos (by omega), if_neg e]; exact is_int _
theorem bal_solve {s : Survey} (hs : SvOk s) {pts : List Int} (hF : Fr s pts) {b : Nat → Int} {t : Reading → Int} {T0 S c : Int} (hb : Rh s pts b t T0 S c) {f : Int → Option Int} (hf : ∀ i, i < pts.length → f (gi pts i) = some (b i)) :
    ∃ m xs m', level_balance s pts f = some m ∧ level_solve m = some (xs, m') ∧ xs.length = pts.length ∧ ∀ j, j < pts.length → Is (rt xs j) (Nm (Am s pts b) pts.length j pts.length) (Dm (Am s pts b) pts.length) := by
  have hn := hF.n4
  obtain ⟨xs, m', h1, h2, h3⟩ := solve_eq (sol_of hs hF hb) (m := balR s pts b) (by unfold balR; simp) (fun j hj => bal_row b hj)
  exact ⟨_, xs, m', balance_eq hs (by omega) hF.nd hf, h1, h2, h3⟩
theorem cut_filter {j : Int} : ∀ (l : List Int) (c : Nat), l.Nodup → c < l.length → gi l c = j → l.take c ++ l.drop (c + 1) = l.filter (fun k => !decide (k = j))
  | [], c, _, h, _ => by simp at h
  | x :: r, 0, hd, h, e => by
    have e' : x = j := e
    subst e'
    have hn := (List.nodup_cons.1 hd).1
    rw [List.filter_cons, if_neg (by simp)]
    show r = _
    symm
    rw [List.filter_eq_self]
    intro a ha
    have : a ≠ x := fun e => hn (e ▸ ha)
    simp [this]
  | x :: r, c + 1, hd, h, e => by
    have hc := List.nodup_cons.1 hd
    have h' : c < r.length := by simpa using h
    have e' : gi r c = j := by rw [← e]; simp [gi]
    have hm : j ∈ r := e' ▸ gi_mem h'
    have : x ≠ j := fun e2 => hc.1 (e2 ▸ hm)
    rw [List.filter_cons, if_pos (by simp [this]), ← cut_filter r c hc.2 h' e']; rfl
theorem root_in {s : Survey} (hs : SvOk s) {p : Int} (hp : 0 ≤ p ∧ p < s.points) : (0 ≤ rtOf s p ∧ rtOf s p ≤ p) ∧ rtOf s (rtOf s p) = rtOf s p := by
  have hR := rootsOf_ok hs
  have hl := hR.len
  have h1 := hR.le p.toNat (by omega)
  have h2 := hR.con p.toNat (by omega)
  have h3 : 0 ≤ rtOf s p ∧ rtOf s p ≤ p := by unfold rtOf; omega
  rw [show ((p.toNat : Nat) : Int) = p by omega] at h2
  exact ⟨h3, (con_rt hs (by omega) hp).1 h2⟩
theorem part_mem {s : Survey} (hs : SvOk s) {q : Int} {p : Int} : p ∈ partOf (rootsOf s) q ↔ (0 ≤ p ∧ p < s.points) ∧ rtOf s p = q := by
  have hp1 := hs.p1
  have hl := (rootsOf_ok hs).len
  unfold partOf
  rw [mem_nodesOf, hl]
  simp only [decide_eq_true_eq]
  unfold rtOf
  constructor <;> intro h <;> exact ⟨by omega, h.2⟩
theorem parts_mem {s : Survey} (hs : SvOk s) {l : List Int} : l ∈ partsR s ↔ ∃ q, (0 ≤ q ∧ q < s.points) ∧ rtOf s q = q ∧ l = partOf (rootsOf s) q := by
  have hp1 := hs.p1
  unfold partsR partsL
  rw [List.mem_map]
  constructor
  · rintro ⟨q, hq, rfl⟩
    have := mem_nodesOf.1 hq
    exact ⟨q, by omega, of_decide_eq_true this.2, rfl⟩
  · rintro ⟨q, h1, h2, rfl⟩
    exact ⟨q, mem_nodesOf.2 ⟨by omega, decide_eq_true h2⟩, rfl⟩
theorem part_cut {s : Survey} (hs : SvOk s) (j : Int) : (partOf (rootsOf s) (rtOf s j)).filter (fun k => !decide (k = j)) = oneOf s j := by
  have hl := (rootsOf_ok hs).len
  unfold partOf oneOf nodesOf
  rw [List.filter_filter, hl]
  congr 1
  funext k
  exact Bool.and_comm _ _
theorem part_nodup {s : Survey} (q : Int) : (partOf (rootsOf s) q).Nodup := nodesOf_nodup _ _
theorem part_len {s : Survey} (hs : SvOk s) (q : Int) : (partOf (rootsOf s) q).length ≤ 5 := by
  have hl := (rootsOf_ok hs).len
  have hp5 := hs.p5
  have := nodesOf_len (rootsOf s).length fun k => decide (gi (rootsOf s) k.toNat = q)
  show (nodesOf _ _).length ≤ _
  omega
theorem parts_len {s : Survey} (hs : SvOk s) : (partsR s).length ≤ 5 := by
  have := partsL_len (rootsOf s) s.points.toNat
  have hp5 := hs.p5
  show (partsL _ _).length ≤ _
  omega
/-- The program's error of two joined points. -/
theorem resist_eq {s : Survey} (hs : SvOk s) {i j : Int} (hi : 0 ≤ i ∧ i < s.points) (hj : 0 ≤ j ∧ j < s.points) (hr : rtOf s i = rtOf s j) :
    ∃ x N D, level_resist s i j = some x ∧ Is x N D ∧ RS s i j N D ∧ D ≤ 20736 ∧ N.natAbs ≤ 4000 * D.natAbs := by
  unfold level_resist
  by_cases hij : i = j
  · subst hij
    rw [if_pos rfl]
    exact ⟨_, 0, 1, rfl, is_int 0, rs_self s i, by omega, by omega⟩
  · rw [if_neg hij, bnd_eq (parts_eq hs)]
    have hF := fr_one hs hj
    have hb := rh_unit s (oneOf s j) i
    have hm : i ∈ oneOf s j := (mem_oneOf hs).2 ⟨hi, hr, hij⟩
    obtain ⟨k0, hk0, hki⟩ := gi_ex hm
    obtain ⟨m, xs, m', h1, h2, h3, h4⟩ := bal_solve hs hF hb (f := fun x2 => level_resist_1 i x2) (fun k hk => by
      unfold level_resist_1 unitB
      by_cases e : gi (oneOf s j) k = i
      · rw [if_pos e, if_pos e]
      · rw [if_neg e, if_neg e])
    have hRS := un_one hs hi hj hij hr hk0 hki
    have hD20 := (sol_of hs hF hb).D20736
    have hPl := parts_len hs
    refine ⟨rt xs k0, _, _, ?_, h4 k0 hk0, hRS, by omega, (sol_of hs hF hb).Nb _ k0 hk0 (Nat.le_refl _)⟩
    have key : ∀ d k t, (partsR s).length = t + d → d < k → (∃ t', t ≤ t' ∧ ∃ l, (partsR s)[t']? = some l ∧ j ∈ l) → level_resist_L1 s i j (partsR s) k (t : Int) = some (rt xs k0) := by
      intro d
      induction d with
      | zero =>
        intro k t h1 _ ⟨t', h2, l, h3, _⟩
        rw [List.getElem?_eq_none (by omega)] at h3
        cases h3
      | succ d ih =>
        intro k t hl hk ⟨t', ht, l, hl', hjl⟩
        cases k with
        | zero => omega
        | succ k =>
          show level_resist_B1 s i j (partsR s) (level_resist_L1 s i j (partsR s) k) (t : Int) = _
          have hx : (partsR s)[t]? = some (partsR s)[t] := List.getElem?_eq_getElem (by omega)
          generalize (partsR s)[t] = pt at hx
          obtain ⟨q, hq1, hq2, rfl⟩ := (parts_mem hs).1 (List.mem_of_getElem? hx)
          have hlen := part_len hs q
          obtain ⟨c, c1, c2, c3, c4⟩ := index_eq (by omega) (part_nodup (s := s) q) j
          unfold level_resist_B1
          rw [if_pos (by omega), ix_nat hx, bnd_eq c1]
          by_cases hc : 0 ≤ c
          · have hcj := (c4 c.toNat (by omega)).1 (by omega)
            have hjm : j ∈ partOf (rootsOf s) q := hcj ▸ gi_mem (by omega)
            have hqr := ((part_mem hs).1 hjm).2
            have hcut := cut_filter (j := j) _ c.toNat (part_nodup (s := s) q) (by omega) hcj
            have hdel : slices_Delete_int (partOf (rootsOf s) q) c (c + 1) = some (oneOf s j) := by
              unfold slices_Delete_int
              rw [gd_pos (by omega), show (c + 1).toNat = c.toNat + 1 by omega, hcut, ← hqr, part_cut hs]
            obtain ⟨c', d1, d2, d3, d4⟩ := index_eq (show (oneOf s j).length ≤ 1000 by have := hF.n4; omega) hF.nd i
            have hc' := (d4 k0 hk0).2 hki
            rw [if_pos hc, gd_pos (by omega), bnd_eq hdel, bnd_eq h1, bnd_eq h2, bnd_eq d1, hc', ix_nat (rt_at (show k0 < xs.length by omega))]
          · rw [if_neg hc, gd_pos (by omega)]
            refine ih k (t + 1) (by omega) (by omega) ⟨t', ?_, l, hl', hjl⟩
            have : t ≠ t' := fun e => by
              subst e
              rw [hx] at hl'
              cases hl'
              obtain ⟨k1, e1, e2⟩ := gi_ex hjl
              have := (c4 k1 e1).2 e2
              omega
            omega
    refine key (partsR s).length FU 0 (by omega) (by have := FU_pos; omega) ?_
    have hj' := root_in hs hj
    have hin : partOf (rootsOf s) (rtOf s j) ∈ partsR s := (parts_mem hs).2 ⟨rtOf s j, by omega, hj'.2, rfl⟩
    obtain ⟨t', ht', e⟩ := List.getElem_of_mem hin
    exact ⟨t', by omega, _, by rw [List.getElem?_eq_getElem ht', e], (part_mem hs).2 ⟨hj, rfl⟩⟩
theorem sk_inj {q a b : Nat} (h : sk q a = sk q b) : a = b := by
  unfold sk at h
  split at h <;> split at h <;> omega
theorem two_cut {s : Survey} (i j : Int) {k : Nat} (hd : (oneOf s i).Nodup) (hk : k < (oneOf s i).length) (hkj : gi (oneOf s i) k = j) : twoOf s i j = cutC k (oneOf s i) := by
  unfold cutC
  rw [cut_filter _ k hd hk hkj]
  unfold twoOf oneOf nodesOf
  rw [List.filter_filter]
  congr 1
  funext p
  exact Bool.and_comm _ _
theorem rs_ref {s : Survey} (hs : SvOk s) {i j : Int} (hi : 0 ≤ i ∧ i < s.points) (hj : 0 ≤ j ∧ j < s.points) (hij : i ≠ j) (hr : rtOf s i = rtOf s j) :
    RS s i j (detL s (twoOf s i j)) (detL s (oneOf s i)) := by
  have hF := fr_one hs hi
  have hn := hF.n4
  have hm : j ∈ oneOf s i := (mem_oneOf hs).2 ⟨hj, hr.symm, fun e => hij e.symm⟩
  obtain ⟨k, hk, hkj⟩ := gi_ex hm
  have h := rs_symm (un_one hs hj hi (fun e => hij e.symm) hr.symm hk hkj)
  rw [detL_Dm hn (unitB (oneOf s i) j)]
  have hcut := two_cut i j hF.nd hk hkj
  have hlen : (twoOf s i j).length + 1 = (oneOf s i).length := by
    rw [hcut]; unfold cutC
    rw [List.length_append, List.length_take, List.length_drop]; omega
  have e1 : Nm (Am s (oneOf s i) (unitB (oneOf s i) j)) (oneOf s i).length k (oneOf s i).length = detL s (twoOf s i j) := by
    have hu := Nm_unit (a := Am s (oneOf s i) (unitB (oneOf s i) j)) (n := (twoOf s i j).length) (k := k) (by omega) (by omega) (c := (oneOf s i).length) (fun m hm => by
      unfold Am unitB
      rw [if_neg (by omega)]
      by_cases e : m = k
      · subst e; rw [if_pos hkj, if_pos rfl]
      · rw [if_neg e, if_neg fun h => e (gi_inj hF.nd (by omega) hk (h.trans hkj.symm))])
    rw [hlen] at hu
    rw [hu, detL_Dm (by omega) (fun _ => 0)]
    refine Dm_congr (by omega) fun a b ha hb => ?_
    have sa : sk k a < (oneOf s i).length := by unfold sk; split <;> omega
    have sb : sk k b < (oneOf s i).length := by unfold sk; split <;> omega
    unfold Am
    rw [if_pos sb, if_pos hb]
    unfold lent
    rw [hcut, gi_cut, gi_cut]
    congr 1
    by_cases e : a = b
    · subst e; simp
    · rw [decide_eq_false e, decide_eq_false fun h => e (sk_inj h)]
  rw [e1] at h
  exact h
/-- The document's error is the program's. -/
theorem resistance_same {s : Survey} (hs : SvOk s) {i j : Int} (hi : 0 ≤ i ∧ i < s.points) (hj : 0 ≤ j ∧ j < s.points) (hr : rtOf s i = rtOf s j) {x : Rat} {N D : Int} (hx : Is x N D) (hRS : RS s i j N D) : ref01_resistance s i j = some x := by
  have hDp : 0 < D := by obtain ⟨u, hu, _⟩ := hRS; exact hu.pos
  by_cases hij : i = j
  · subst hij
    rw [resistance_eq hs hi (fun h => absurd rfl h), if_pos rfl]
    have := rs_uniq hs (.refl i) hRS (rs_self s i)
    congr 1
    exact Is.uniq (n := 0) (d := 1) (by omega) (is_int 0) ⟨hx.1, by
      have h1 := hx.2
      have : N = 0 := by omega
      subst this
      have : x.num * D = 0 := by rw [h1]; simp
      rcases Int.mul_eq_zero.1 this with h | h
      · rw [h]; simp
      · omega⟩
  · have h2 := rs_ref hs hi hj hij hr
    have hd : 0 < detL s (oneOf s i) := by obtain ⟨u, hu, _⟩ := h2; exact hu.pos
    rw [resistance_eq hs hi (fun _ => by omega), if_neg hij]
    congr 1
    have hc := (con_rt hs hi hj).2 hr
    have hu := rs_uniq hs hc hRS h2
    refine Is.uniq (n := detL s (twoOf s i j)) (d := detL s (oneOf s i)) (by omega) (.red (by omega)) ⟨hx.1, ?_⟩
    have h1 := hx.2
    refine Int.eq_of_mul_eq_mul_right (show D ≠ 0 by omega) ?_
    grind
end Go.D1

set_option linter.unusedVariables false
set_option linter.unusedSimpArgs false
namespace Go.D1
open Go.Tb
def gb (l : List Bool) (i : Nat) : Bool := l.getD i false
abbrev HK := List Int × List Bool
/-- One reading of the tree is gone along, if one of its points alone is known. -/
def go1 (r : Reading) (x : HK) : HK :=
  if gb x.2 r.from_.toNat = true ∧ gb x.2 r.to_.toNat = false then (x.1.set r.to_.toNat (gi x.1 r.from_.toNat + r.rise), x.2.set r.to_.toNat true)
  else if gb x.2 r.to_.toNat = true ∧ gb x.2 r.from_.toNat = false then (x.1.set r.from_.toNat (gi x.1 r.to_.toNat - r.rise), x.2.set r.from_.toNat true)
  else x
structure HB (s : Survey) (B : Int) (x : HK) : Prop where
  l1 : x.1.length = s.points.toNat
  l2 : x.2.length = s.points.toNat
  bd : ∀ i, -B ≤ gi x.1 i ∧ gi x.1 i ≤ B
theorem HB.mono {s : Survey} {B B' : Int} {x : HK} (h : HB s B x) (hb : B ≤ B') : HB s B' x := ⟨h.l1, h.l2, fun i => by have := h.bd i; omega⟩
theorem HB.go {s : Survey} {B : Int} {x : HK} (h : HB s B x) (hB : 0 ≤ B) {r : Reading} (hr : -1000 ≤ r.rise ∧ r.rise ≤ 1000) : HB s (B + 1000) (go1 r x) := by
  have hf := h.bd r.from_.toNat
  have ht := h.bd r.to_.toNat
  unfold go1
  split
  · refine ⟨by simp [h.l1], by simp [h.l2], fun i => ?_⟩
    have := h.bd i
    rw [gi_set]
    split <;> omega
  · split
    · refine ⟨by simp [h.l1], by simp [h.l2], fun i => ?_⟩
      have := h.bd i
      rw [gi_set]
      split <;> omega
    · exact h.mono (by omega)
def op (x : HK) (r : Reading) : Bool := !(gb x.2 r.from_.toNat && gb x.2 r.to_.toNat)
end Go.D1

set_option linter.unusedVariables false
set_option linter.unusedSimpArgs false
namespace Go.D1
open Go.Tb
/-- Where the heights begin. -/
def start (s : Survey) : HK := (List.replicate s.points.toNat 0, (iota s.points.toNat).map (isRoot (rootsOf s)))
end Go.D1

set_option linter.unusedVariables false
set_option linter.unusedSimpArgs false
namespace Go.D1
open Go.Tb
def errC (s : Survey) (i j : Int) : Int :=
  if validate s = 0 then (if (0 ≤ i ∧ i < s.points) ∧ (0 ≤ j ∧ j < s.points) then (if rtOf s i = rtOf s j then 0 else 9) else 4) else validate s
theorem errC0 {s : Survey} {i j : Int} (h : errC s i j = 0) : SvOk s ∧ (0 ≤ i ∧ i < s.points) ∧ (0 ≤ j ∧ j < s.points) ∧ rtOf s i = rtOf s j := by
  unfold errC at h
  split at h
  · rename_i hv
    split at h
    · rename_i hp
      split at h
      · rename_i hr; exact ⟨val0.1 hv, hp.1, hp.2, hr⟩
      · omega
    · omega
  · rename_i hv; exact absurd h hv
theorem Error_0 {s : Survey} {i j : Int} (h : errC s i j = 0) :
    ∃ x N D, level_Error s i j = some (x, 0) ∧ ref01_Error s i j = some (x, 0) ∧ Is x N D ∧ RS s i j N D ∧ D ≤ 20736 ∧ N.natAbs ≤ 4000 * D.natAbs := by
  obtain ⟨hs, hi, hj, hr⟩ := errC0 h
  obtain ⟨x, N, D, h1, h2, h3, h4, h5⟩ := resist_eq hs hi hj hr
  have h6 := resistance_same hs hi hj hr h2 h3
  have hp5 := hs.p5
  have hl := (rootsOf_ok hs).len
  have wi : within i 0 (s.points - 1) = true := within_iff.2 (by omega)
  have wj : within j 0 (s.points - 1) = true := within_iff.2 (by omega)
  have xi : (rootsOf s)[i.toNat]? = some (rtOf s i) := gi_at (by omega)
  have xj : (rootsOf s)[j.toNat]? = some (rtOf s j) := gi_at (by omega)
  refine ⟨x, N, D, ?_, ?_, h2, h3, h4, h5⟩
  · unfold level_Error level_Error_k1
    rw [bnd_eq (Validate_eq s), if_pos (val0.2 hs), gd_pos (by omega), bnd_eq (lwithin_eq _ _ _), wi, if_pos rfl, gd_pos (by omega), bnd_eq (lwithin_eq _ _ _), wj, if_neg (by simp), bnd_eq (forest_eq hs)]
    show ix (rootsOf s) i _ = _
    rw [ix_eq hi.1 xi]
    show ix (rootsOf s) j _ = _
    rw [ix_eq hj.1 xj, if_pos hr, bnd_eq h1]
  · unfold ref01_Error ref01_pair ref01_pair_k1
    rw [bnd_eq (rValidate_eq s), if_pos (val0.2 hs), gd_pos (by omega), bnd_eq (rwithin_eq _ _ _), wi, if_pos rfl, gd_pos (by omega), bnd_eq (rwithin_eq _ _ _), wj, if_neg (by simp), bnd_eq (whole_eq hs), ix_eq hi.1 xi, ix_eq hj.1 xj, if_pos hr, bnd_eq rfl, if_pos rfl, bnd_eq h6]
theorem Error_1 {s : Survey} {i j : Int} (h : errC s i j ≠ 0) : level_Error s i j = some (⟨0, 0⟩, errC s i j) ∧ ref01_Error s i j = some (⟨0, 0⟩, errC s i j) := by
  unfold errC at *
  by_cases hv : validate s = 0
  · have hs := val0.1 hv
    have hp5 := hs.p5
    have hp1 := hs.p1
    have hl := (rootsOf_ok hs).len
    rw [if_pos hv] at *
    by_cases wi : within i 0 (s.points - 1) = true
    · have wi' := within_iff.1 wi
      by_cases wj : within j 0 (s.points - 1) = true
      · have wj' := within_iff.1 wj
        have hp : (0 ≤ i ∧ i < s.points) ∧ (0 ≤ j ∧ j < s.points) := by omega
        have xi : (rootsOf s)[i.toNat]? = some (rtOf s i) := gi_at (by omega)
        have xj : (rootsOf s)[j.toNat]? = some (rtOf s j) := gi_at (by omega)
        rw [if_pos hp] at *
        by_cases hr : rtOf s i = rtOf s j
        · rw [if_pos hr] at h; exact absurd rfl h
        · rw [if_neg hr]
          constructor
          · unfold level_Error level_Error_k1
            rw [bnd_eq (Validate_eq s), if_pos hv, gd_pos (by omega), bnd_eq (lwithin_eq _ _ _), wi, if_pos rfl, gd_pos (by omega), bnd_eq (lwithin_eq _ _ _), wj, if_neg (by simp), bnd_eq (forest_eq hs)]
            show ix (rootsOf s) i _ = _
            rw [ix_eq wi'.1 xi]
            show ix (rootsOf s) j _ = _
            rw [ix_eq wj'.1 xj, if_neg hr]
          · unfold ref01_Error ref01_pair ref01_pair_k1
            rw [bnd_eq (rValidate_eq s), if_pos hv, gd_pos (by omega), bnd_eq (rwithin_eq _ _ _), wi, if_pos rfl, gd_pos (by omega), bnd_eq (rwithin_eq _ _ _), wj, if_neg (by simp), bnd_eq (whole_eq hs), ix_eq wi'.1 xi, ix_eq wj'.1 xj, if_neg hr]; rfl
      · have hp : ¬ ((0 ≤ i ∧ i < s.points) ∧ (0 ≤ j ∧ j < s.points)) := fun hp => wj (within_iff.2 (by omega))
        rw [if_neg hp]
        constructor
        · unfold level_Error level_Error_k1
          rw [bnd_eq (Validate_eq s), if_pos hv, gd_pos (by omega), bnd_eq (lwithin_eq _ _ _), wi, if_pos rfl, gd_pos (by omega), bnd_eq (lwithin_eq _ _ _), if_pos (by simpa using wj)]
        · unfold ref01_Error ref01_pair ref01_pair_k1
          rw [bnd_eq (rValidate_eq s), if_pos hv, gd_pos (by omega), bnd_eq (rwithin_eq _ _ _), wi, if_pos rfl, gd_pos (by omega), bnd_eq (rwithin_eq _ _ _), if_pos (by simpa using wj)]; rfl
    · have hp : ¬ ((0 ≤ i ∧ i < s.points) ∧ (0 ≤ j ∧ j < s.points)) := fun hp => wi (within_iff.2 (by omega))
      rw [if_neg hp]
      constructor
      · unfold level_Error level_Error_k1
        rw [bnd_eq (Validate_eq s), if_pos hv, gd_pos (by omega), bnd_eq (lwithin_eq _ _ _), if_neg wi, if_pos rfl]
      · unfold ref01_Error ref01_pair ref01_pair_k1
        rw [bnd_eq (rValidate_eq s), if_pos hv, gd_pos (by omega), bnd_eq (rwithin_eq _ _ _), if_neg wi, if_pos rfl]; rfl
  · rw [if_neg hv] at *
    constructor
    · unfold level_Error
      rw [bnd_eq (Validate_eq s), if_neg hv]
    · unfold ref01_Error ref01_pair
      rw [bnd_eq (rValidate_eq s), if_neg hv, bnd_eq rfl, if_neg hv]
theorem un_sum {s : Survey} (hs : SvOk s) {i j D : Int} {u : Int → Int} (hi : 0 ≤ i ∧ i < s.points) (hj : 0 ≤ j ∧ j < s.points) (h : Un s i j u D) (g : Int → Int) :
    rs s.readings (fun r => (g r.from_ - g r.to_) * (r.weight * (u r.from_ - u r.to_))) = D * (g i - g j) := by
  have hp1 := hs.p1
  rw [← green s.readings g (fun r => r.weight * (u r.from_ - u r.to_)) s.points.toNat (sv_in hs)]
  have e : sumN (fun k => g (k : Int) * dv s.readings (fun r => r.weight * (u r.from_ - u r.to_)) (k : Int)) s.points.toNat = sumN (fun k => g (k : Int) * (if i = (k : Int) then D else 0) - g (k : Int) * (if j = (k : Int) then D else 0)) s.points.toNat := by
    refine sumN_congr fun k hk => ?_
    rw [h.dv (k : Int) (by omega) (by omega), Int.mul_sub]
    congr 2
    · by_cases e : i = (k : Int)
      · rw [if_pos e, if_pos e.symm]
      · rw [if_neg e, if_neg fun h => e h.symm]
    · by_cases e : j = (k : Int)
      · rw [if_pos e, if_pos e.symm]
      · rw [if_neg e, if_neg fun h => e h.symm]
  rw [e, sumN_sub, sumN_pick (fun k => g (k : Int)) D i _ (by omega), sumN_pick (fun k => g (k : Int)) D j _ (by omega), show ((i.toNat : Nat) : Int) = i by omega, show ((j.toNat : Nat) : Int) = j by omega]
  grind
theorem un_low {s : Survey} (hs : SvOk s) {i j D : Int} {u : Int → Int} (hi : 0 ≤ i ∧ i < s.points) (hj : 0 ≤ j ∧ j < s.points) (h : Un s i j u D) {p : Int} (hc : Con s s.readings.length p j) : u j ≤ u p := by
  by_cases hlt : u j ≤ u p
  · exact hlt
  · exfalso
    obtain ⟨r, hr, hne⟩ := cross (fun q => decide (u q < u j)) hc (by simp; omega)
    have hsum := un_sum hs hi hj h (fun q => -(if u q < u j then 1 else 0))
    have hD := h.pos
    have hpos : ∀ r ∈ s.readings, 0 ≤ (-(if u r.from_ < u j then (1 : Int) else 0) - -(if u r.to_ < u j then 1 else 0)) * (r.weight * (u r.from_ - u r.to_)) ∧ ((decide (u r.from_ < u j)) ≠ (decide (u r.to_ < u j)) → 0 < (-(if u r.from_ < u j then (1 : Int) else 0) - -(if u r.to_ < u j then 1 else 0)) * (r.weight * (u r.from_ - u r.to_))) := fun r hr => by
      have hw := (hs.rd r hr).2.2.2.2
      by_cases h1 : u r.from_ < u j
      · by_cases h2 : u r.to_ < u j
        · rw [if_pos h1, if_pos h2]; simp [h1, h2]
        · rw [if_pos h1, if_neg h2]
          have : 0 < r.weight * (u r.to_ - u r.from_) := Int.mul_pos (by omega) (by omega)
          have e : (-(1 : Int) - -0) * (r.weight * (u r.from_ - u r.to_)) = r.weight * (u r.to_ - u r.from_) := by grind
          rw [e]; exact ⟨by omega, fun _ => this⟩
      · by_cases h2 : u r.to_ < u j
        · rw [if_neg h1, if_pos h2]
          have : 0 < r.weight * (u r.from_ - u r.to_) := Int.mul_pos (by omega) (by omega)
          have e : (-(0 : Int) - -1) * (r.weight * (u r.from_ - u r.to_)) = r.weight * (u r.from_ - u r.to_) := by grind
          rw [e]; exact ⟨by omega, fun _ => this⟩
        · rw [if_neg h1, if_neg h2]; simp [h1, h2]
    have hgt := rs_gt (fun r hr => (hpos r hr).1) hr ((hpos r hr).2 hne)
    rw [hsum, if_neg (show ¬ u j < u j by omega)] at hgt
    split at hgt
    · have : D * (-1 - -0) = -D := by grind
      omega
    · simp at hgt
theorem un_neg {s : Survey} {i j D : Int} {u : Int → Int} (h : Un s i j u D) : Un s j i (fun p => -u p) D := by
  refine ⟨h.pos, fun p p0 p1 => ?_⟩
  have e : dv s.readings (fun r => r.weight * (-u r.from_ - -u r.to_)) p = -dv s.readings (fun r => r.weight * (u r.from_ - u r.to_)) p := by
    rw [← dv_neg]; exact dv_congr (fun r _ => by grind) p
  rw [e, h.dv p p0 p1]
  omega
theorem un_high {s : Survey} (hs : SvOk s) {i j D : Int} {u : Int → Int} (hi : 0 ≤ i ∧ i < s.points) (hj : 0 ≤ j ∧ j < s.points) (h : Un s i j u D) {p : Int} (hc : Con s s.readings.length p i) : u p ≤ u i := by
  have := un_low hs hj hi (un_neg h) hc
  omega
theorem un_add {s : Survey} {i j k D E : Int} {u v : Int → Int} (h : Un s i k u D) (g : Un s k j v E) : Un s i j (fun p => E * u p + D * v p) (D * E) := by
  refine ⟨Int.mul_pos h.pos g.pos, fun p p0 p1 => ?_⟩
  have e : dv s.readings (fun r => r.weight * (E * u r.from_ + D * v r.from_ - (E * u r.to_ + D * v r.to_))) p = E * dv s.readings (fun r => r.weight * (u r.from_ - u r.to_)) p + D * dv s.readings (fun r => r.weight * (v r.from_ - v r.to_)) p := by
    rw [← dv_mul, ← dv_mul, ← dv_add]; exact dv_congr (fun r _ => by grind) p
  rw [e, h.dv p p0 p1, g.dv p p0 p1]
  split <;> split <;> split <;> grind
/-- A detour is not shorter. -/
theorem rs_detour {s : Survey} (hs : SvOk s) {i j k N1 D1 N2 D2 N3 D3 : Int} (hi : 0 ≤ i ∧ i < s.points) (hj : 0 ≤ j ∧ j < s.points) (hk : 0 ≤ k ∧ k < s.points) (hij : Con s s.readings.length i j) (hik : Con s s.readings.length i k)
    (h1 : RS s i j N1 D1) (h2 : RS s i k N2 D2) (h3 : RS s k j N3 D3) : N1 * (D2 * D3) ≤ (N2 * D3 + N3 * D2) * D1 := by
  obtain ⟨u, hu, eu⟩ := h2
  obtain ⟨v, hv, ev⟩ := h3
  have hw := un_add hu hv
  have := rs_uniq hs hij h1 ⟨_, hw, rfl⟩
  have a1 := un_low hs hi hk hu (p := j) (hij.symm.trans hik)
  have a2 := un_high hs hk hj hv (p := i) hik
  have hD1 : 0 < D1 := by obtain ⟨u, hu, _⟩ := h1; exact hu.pos
  have p2 := hu.pos
  have p3 := hv.pos
  rw [this]
  refine Int.mul_le_mul_of_nonneg_right ?_ (by omega)
  have b1 : D3 * (u i - u j) ≤ D3 * N2 := Int.mul_le_mul_of_nonneg_left (by omega) (by omega)
  have b2 : D2 * (v i - v j) ≤ D2 * N3 := Int.mul_le_mul_of_nonneg_left (by omega) (by omega)
  grind
theorem inr_mul {x y : Int} {A B : Nat} (hx : x.natAbs ≤ A) (hy : y.natAbs ≤ B) (h : A * B ≤ 9223372036854775807) : (x * y).natAbs ≤ A * B ∧ InR (x * y) := by
  have : (x * y).natAbs ≤ A * B := by rw [Int.natAbs_mul]; exact Nat.mul_le_mul hx hy
  exact ⟨this, by omega⟩
theorem detour_le {y1 y2 y3 : Rat} {N1 D1 N2 D2 N3 D3 : Int} (v1 : y1.num * D1 = N1 * y1.den) (v2 : y2.num * D2 = N2 * y2.den) (v3 : y3.num * D3 = N3 * y3.den) (p1 : 0 < D1) (p2 : 0 < D2) (p3 : 0 < D3) (q1 : 0 < y1.den) (q2 : 0 < y2.den) (q3 : 0 < y3.den)
    (hdet : N1 * (D2 * D3) ≤ (N2 * D3 + N3 * D2) * D1) : y1.num * y2.den * y3.den ≤ (y2.num * y3.den + y3.num * y2.den) * y1.den := by
  refine Int.le_of_mul_le_mul_right ?_ (Int.mul_pos (Int.mul_pos p1 p2) p3)
  have f1 : y1.num * y2.den * y3.den * (D1 * D2 * D3) = N1 * (D2 * D3) * (y1.den * y2.den * y3.den) := by
    have : y1.num * y2.den * y3.den * (D1 * D2 * D3) = (y1.num * D1) * (y2.den * y3.den * (D2 * D3)) := by grind
    rw [this, v1]; grind
  have f2 : (y2.num * y3.den + y3.num * y2.den) * y1.den * (D1 * D2 * D3) = (N2 * D3 + N3 * D2) * D1 * (y1.den * y2.den * y3.den) := by
    have : (y2.num * y3.den + y3.num * y2.den) * y1.den * (D1 * D2 * D3) = (y2.num * D2) * (y3.den * y1.den * D1 * D3) + (y3.num * D3) * (y2.den * y1.den * D1 * D2) := by grind
    rw [this, v2, v3]; grind
  rw [f1, f2]
  exact Int.mul_le_mul_of_nonneg_right hdet (Int.le_of_lt (Int.mul_pos (Int.mul_pos q1 q2) q3))
theorem detours_k1 {y1 y2 y3 : Rat} {e1 e2 e3 : Int} (b1 : y1.num.natAbs ≤ 82944000 ∧ y1.den.natAbs ≤ 20736) (b2 : y2.num.natAbs ≤ 82944000 ∧ y2.den.natAbs ≤ 20736) (b3 : y3.num.natAbs ≤ 82944000 ∧ y3.den.natAbs ≤ 20736)
    (hle : y1.num * y2.den * y3.den ≤ (y2.num * y3.den + y3.num * y2.den) * y1.den) : law01_LevelDetours_k1 (y1, e1) (y2, e2) (y3, e3) false = some true := by
  unfold law01_LevelDetours_k1
  have m1 := inr_mul b1.1 b2.2 (by omega)
  have m2 := inr_mul m1.1 b3.2 (by omega)
  have m3 := inr_mul b2.1 b3.2 (by omega)
  have m4 := inr_mul b3.1 b2.2 (by omega)
  have m5 := inr_mul (x := y2.num * y3.den + y3.num * y2.den) (y := y1.den) (A := 2 * (82944000 * 20736)) (B := 20736) (by omega) b1.2 (by omega)
  rw [if_neg (by simp), gd_pos m1.2, gd_pos m2.2, gd_pos m3.2, gd_pos m4.2, gd_pos (show InR (y2.num * y3.den + y3.num * y2.den) by omega), gd_pos m5.2, if_pos hle, bnd_eq known_eq]
theorem law_LevelDetours (s : Survey) (x : Three) (hb : s.readings.length ≤ 9223372036854775807) : law01_LevelDetours s x = some true := by
  unfold law01_LevelDetours
  rw [bnd_eq (Long_eq s)]
  by_cases hL : (100 : Int) < (s.readings.length : Int)
  · rw [if_pos (by simpa using hL), bnd_eq known_eq]
  rw [if_neg (by simpa using hL)]
  have hE : ∀ i j, ∃ r, level_Error s i j = some r ∧ r.2 = errC s i j := fun i j => by
    by_cases h : errC s i j = 0
    · obtain ⟨x, N, D, h1, _⟩ := Error_0 h
      exact ⟨_, h1, h.symm⟩
    · exact ⟨_, (Error_1 h).1, rfl⟩
  obtain ⟨r1, e1, c1⟩ := hE x.i x.j
  obtain ⟨r2, e2, c2⟩ := hE x.i x.k
  obtain ⟨r3, e3, c3⟩ := hE x.k x.j
  rw [bnd_eq e1, bnd_eq e2, bnd_eq e3]
  have hk2 : law01_LevelDetours_k2 r1 r2 r3 true = some true := by
    unfold law01_LevelDetours_k2
    rw [if_pos rfl, bnd_eq known_eq]
  by_cases h1 : errC s x.i x.j = 0
  · by_cases h2 : errC s x.i x.k = 0
    · by_cases h3 : errC s x.k x.j = 0
      · obtain ⟨hs, hi, hj, hr⟩ := errC0 h1
        obtain ⟨_, _, hk, hr2⟩ := errC0 h2
        obtain ⟨y1, N1, D1, a1, _, i1, s1, d1, n1⟩ := Error_0 h1
        obtain ⟨y2, N2, D2, a2, _, i2, s2, d2, n2⟩ := Error_0 h2
        obtain ⟨y3, N3, D3, a3, _, i3, s3, d3, n3⟩ := Error_0 h3
        have hdet := rs_detour hs hi hj hk ((con_rt hs hi hj).2 hr) ((con_rt hs hi hk).2 hr2) s1 s2 s3
        rw [e1] at a1; cases a1
        rw [e2] at a2; cases a2
        rw [e3] at a3; cases a3
        have p1 : 0 < D1 := by obtain ⟨u, hu, _⟩ := s1; exact hu.pos
        have p2 : 0 < D2 := by obtain ⟨u, hu, _⟩ := s2; exact hu.pos
        have p3 : 0 < D3 := by obtain ⟨u, hu, _⟩ := s3; exact hu.pos
        have b1 := i1.le (by omega)
        have b2 := i2.le (by omega)
        have b3 := i3.le (by omega)
        have q1 := i1.1.pos
        have q2 := i2.1.pos
        have q3 := i3.1.pos
        have v1 := i1.2
        have v2 := i2.2
        have v3 := i3.2
        rw [if_pos rfl, if_pos rfl]
        unfold law01_LevelDetours_k2
        rw [if_neg (by simp)]
        show (if y1.den < 1 then _ else _) = _
        rw [if_neg (by omega), if_neg (show ¬ y2.den < 1 by omega), if_neg (show ¬ y3.den < 1 by omega), if_neg (show ¬ (1000000 : Int) < y1.den by omega), if_neg (show ¬ (1000000 : Int) < y2.den by omega)]
        have hle := detour_le v1 v2 v3 p1 p2 p3 q1 q2 q3 hdet
        show law01_LevelDetours_k1 (y1, 0) (y2, 0) (y3, 0) (decide ((1000000 : Int) < y3.den)) = _
        rw [decide_eq_false (show ¬ (1000000 : Int) < y3.den by omega)]
        exact detours_k1 (by omega) (by omega) (by omega) hle
      · rw [if_pos (c1.trans h1), if_pos (c2.trans h2), decide_eq_false (by rw [c3]; exact h3)]
        exact hk2
    · rw [if_pos (c1.trans h1), if_neg (by rw [c2]; exact h2)]
      exact hk2
  · rw [if_neg (by rw [c1]; exact h1)]
    exact hk2
end Go.D1
