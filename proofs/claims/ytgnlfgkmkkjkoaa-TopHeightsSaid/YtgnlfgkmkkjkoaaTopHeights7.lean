/- Lemmas and walks that the proof of this claim uses: D1r2, D1r3, D1r4, D1r5, D1r6, D1r7, D1rB. -/
import Derived.Test.YtgnlfgkmkkjkoaaTopHeights6
set_option linter.unusedVariables false
set_option linter.unusedSimpArgs false
namespace Go.D1
open Go.Tb
theorem rs_append (l m : List Reading) (f : Reading → Int) : rs (l ++ m) f = rs l f + rs m f := by
  induction l with
  | nil => simp [rs]
  | cons r l ih => simp only [List.cons_append, rs]; rw [ih]; omega
theorem con_lift {s t : Survey} (h : ∀ r ∈ s.readings, Con t t.readings.length r.from_ r.to_) {j : Nat} {a b : Int} (hc : Con s j a b) : Con t t.readings.length a b := by
  induction hc with
  | refl a => exact .refl a
  | edge h1 h2 => exact h _ (gr_mem h2)
  | symm _ ih => exact ih.symm
  | trans _ _ i1 i2 => exact i1.trans i2
theorem sq_nonneg (x : Int) : 0 ≤ x * x := by
  rcases Int.le_total 0 x with h | h
  · exact Int.mul_nonneg h h
  · exact Int.mul_nonneg_of_nonpos_of_nonpos h h
theorem RS.pos {s : Survey} {i j N D : Int} (h : RS s i j N D) : 0 < D := by obtain ⟨u, hu, _⟩ := h; exact hu.pos
theorem rs_more {s : Survey} (hs : SvOk s) {r : Reading} (ht : SvOk ⟨s.points, s.readings ++ [r]⟩) {i j N D N' D' : Int} (hi : 0 ≤ i ∧ i < s.points) (hj : 0 ≤ j ∧ j < s.points)
    (h : RS s i j N D) (h' : RS ⟨s.points, s.readings ++ [r]⟩ i j N' D') : N' * D ≤ N * D' := by
  obtain ⟨u, hu, rfl⟩ := h
  obtain ⟨v, hv, rfl⟩ := h'
  have e1 := un_sum hs hi hj hu u
  have e2 := un_sum hs hi hj hu v
  have e3 := un_sum ht hi hj hv v
  have e3' : rs (s.readings ++ [r]) (fun r => (v r.from_ - v r.to_) * (r.weight * (v r.from_ - v r.to_))) = D' * (v i - v j) := e3
  rw [rs_append] at e3'
  have hr := (ht.rd r (by simp)).2.2.2.2
  have e4 : 0 ≤ rs [r] (fun r => (v r.from_ - v r.to_) * (r.weight * (v r.from_ - v r.to_))) := by
    refine rs_nonneg fun x hx => ?_
    have hx' : x = r := by simpa using hx
    subst hx'
    have e : (v x.from_ - v x.to_) * (x.weight * (v x.from_ - v x.to_)) = x.weight * ((v x.from_ - v x.to_) * (v x.from_ - v x.to_)) := by grind
    rw [e]
    exact Int.mul_nonneg (by omega) (sq_nonneg _)
  have e5 : 0 ≤ rs s.readings (fun r => (D' * (u r.from_ - u r.to_) - D * (v r.from_ - v r.to_)) * (r.weight * (D' * (u r.from_ - u r.to_) - D * (v r.from_ - v r.to_)))) := by
    refine rs_nonneg fun x hx => ?_
    have hw := (hs.rd x hx).2.2.2.2
    generalize D' * (u x.from_ - u x.to_) - D * (v x.from_ - v x.to_) = y
    have e : y * (x.weight * y) = x.weight * (y * y) := by grind
    rw [e]
    exact Int.mul_nonneg (by omega) (sq_nonneg _)
  have e6 : rs s.readings (fun r => (D' * (u r.from_ - u r.to_) - D * (v r.from_ - v r.to_)) * (r.weight * (D' * (u r.from_ - u r.to_) - D * (v r.from_ - v r.to_)))) = (D' * D') * rs s.readings (fun r => (u r.from_ - u r.to_) * (r.weight * (u r.from_ - u r.to_))) + ((-2 * D' * D) * rs s.readings (fun r => (v r.from_ - v r.to_) * (r.weight * (u r.from_ - u r.to_))) + (D * D) * rs s.readings (fun r => (v r.from_ - v r.to_) * (r.weight * (v r.from_ - v r.to_)))) := by
    rw [← rs_mul, ← rs_mul, ← rs_mul, ← rs_add, ← rs_add]
    exact rs_congr fun r _ => by grind
  have hD := hu.pos
  have hD' := hv.pos
  rw [e6, e1, e2] at e5
  generalize rs s.readings (fun r => (v r.from_ - v r.to_) * (r.weight * (v r.from_ - v r.to_))) = S at *
  generalize rs [r] (fun r => (v r.from_ - v r.to_) * (r.weight * (v r.from_ - v r.to_))) = T at *
  have e7 : S = D' * (v i - v j) - T := by omega
  subst e7
  have e8 : D' * D' * (D * (u i - u j)) + (-2 * D' * D * (D * (v i - v j)) + D * D * (D' * (v i - v j) - T)) = D * D' * ((u i - u j) * D' - (v i - v j) * D) - D * D * T := by grind
  rw [e8] at e5
  have e9 : 0 ≤ D * D * T := Int.mul_nonneg (Int.mul_nonneg (by omega) (by omega)) e4
  have e10 : 0 ≤ D * D' * ((u i - u j) * D' - (v i - v j) * D) := by omega
  have := Int.nonneg_of_mul_nonneg_right e10 (Int.mul_pos hD hD')
  omega
def moreR (s : Survey) (r : Reading) : Survey := ⟨s.points, s.readings ++ [r]⟩
def withR (s : Survey) (r : Reading) : Survey × Int := if validate s = 0 then (if validate (moreR s r) = 0 then (moreR s r, 0) else (nilS, validate (moreR s r))) else (nilS, validate s)
theorem With_eq {s : Survey} (hb : s.readings.length ≤ 1000) (r : Reading) : level_With s r = some (withR s r) := by
  unfold level_With withR
  rw [bnd_eq (Validate_eq s)]
  by_cases hv : validate s = 0
  · rw [if_pos hv, if_pos hv, bnd_eq (clone_eq hb), gd_pos (by simp; omega)]
    show bnd (level_Validate (moreR s r)) _ = _
    rw [bnd_eq (Validate_eq _)]
    by_cases h2 : validate (moreR s r) = 0
    · rw [if_pos h2, if_pos h2]; rfl
    · rw [if_neg h2, if_neg h2]; rfl
  · rw [if_neg hv, if_neg hv]; rfl
theorem withR0 {s : Survey} {r : Reading} (h : (withR s r).2 = 0) : SvOk s ∧ SvOk (moreR s r) ∧ withR s r = (moreR s r, 0) := by
  unfold withR at *
  split at h
  · rename_i hv
    split at h
    · rename_i h2
      exact ⟨val0.1 hv, val0.1 h2, by first | rw [if_pos hv, if_pos h2] | rw [if_pos hv] | rw [if_pos h2]⟩
    · rename_i h2; exact absurd h h2
  · rename_i hv; exact absurd h hv
theorem Error_any (s : Survey) (i j : Int) : ∃ r, level_Error s i j = some r ∧ r.2 = errC s i j := by
  by_cases h : errC s i j = 0
  · obtain ⟨x, N, D, h1, _⟩ := Error_0 h
    exact ⟨_, h1, h.symm⟩
  · exact ⟨_, (Error_1 h).1, rfl⟩
theorem frac_le {x y : Rat} {N D N' D' : Int} (hx : Is x N D) (hy : Is y N' D') (hD : 0 < D) (hD' : 0 < D') (h : N' * D ≤ N * D') : y.num * x.den ≤ x.num * y.den := by
  have q1 := hx.1.pos
  have q2 := hy.1.pos
  have v1 := hx.2
  have v2 := hy.2
  refine Int.le_of_mul_le_mul_right ?_ (Int.mul_pos hD hD')
  have f1 : y.num * x.den * (D * D') = N' * D * (x.den * y.den) := by
    have : y.num * x.den * (D * D') = (y.num * D') * (x.den * D) := by grind
    rw [this, v2]; grind
  have f2 : x.num * y.den * (D * D') = N * D' * (x.den * y.den) := by
    have : x.num * y.den * (D * D') = (x.num * D) * (y.den * D') := by grind
    rw [this, v1]; grind
  rw [f1, f2]
  exact Int.mul_le_mul_of_nonneg_right h (Int.le_of_lt (Int.mul_pos q1 q2))
/-- What the error of more readings is. -/
theorem more_le {s : Survey} {r : Reading} {i j : Int} (h : errC s i j = 0) (ht : SvOk (moreR s r)) : ∃ x y, level_Error s i j = some (x, 0) ∧ level_Error (moreR s r) i j = some (y, 0) ∧ 0 < x.den ∧ 0 < y.den ∧ y.num * x.den ≤ x.num * y.den ∧ (x.num.natAbs ≤ 82944000 ∧ x.den.natAbs ≤ 20736) ∧ (y.num.natAbs ≤ 82944000 ∧ y.den.natAbs ≤ 20736) := by
  obtain ⟨hs, hi, hj, hr⟩ := errC0 h
  have hc := (con_rt hs hi hj).2 hr
  have hc' : Con (moreR s r) (moreR s r).readings.length i j := con_lift (fun x hx => edge_of (by unfold moreR; simp [hx])) hc
  have hr' := (con_rt ht (show 0 ≤ i ∧ i < (moreR s r).points from hi) (show 0 ≤ j ∧ j < (moreR s r).points from hj)).1 hc'
  obtain ⟨x, N, D, a1, _, a3, a4, a5, a6⟩ := Error_0 h
  obtain ⟨y, N', D', b1, _, b3, b4, b5, b6⟩ := Error_0 (errC_ok ht hi hj hr')
  have hD := a4.pos
  have hD' := b4.pos
  have l1 := a3.le (by omega)
  have l2 := b3.le (by omega)
  exact ⟨x, y, a1, b1, a3.1.pos, b3.1.pos, frac_le a3 b3 hD hD' (rs_more hs ht hi hj a4 b4), by omega, by omega⟩
end Go.D1

set_option linter.unusedVariables false
set_option linter.unusedSimpArgs false
namespace Go.D1
open Go.Tb
theorem Share_0 {s : Survey} (hb : s.readings.length ≤ 1000) {k : Int} (h : readingR s k = 0) : ∃ x N D, level_Share s k = some (x, 0) ∧ ref01_Share s k = some (x, 0) ∧
    Is x ((gr s.readings k.toNat).weight * N) D ∧ RS s (gr s.readings k.toNat).from_ (gr s.readings k.toNat).to_ N D ∧ D ≤ 20736 ∧ N.natAbs ≤ 4000 * D.natAbs := by
  obtain ⟨hs, h0, h1⟩ := reading0 h
  have hx : s.readings[k.toNat]? = some (gr s.readings k.toNat) := gr_at (by omega)
  have hr := gr_ok hs (i := k.toNat) (by omega)
  have hm : gr s.readings k.toNat ∈ s.readings := gr_mem (by omega)
  generalize gr s.readings k.toNat = r at *
  obtain ⟨y, N, D, a1, a2, a3, a4, a5⟩ := resist_eq hs hr.1 hr.2.1 (rt_same hs hm)
  have a6 := resistance_same hs hr.1 hr.2.1 (rt_same hs hm) a2 a3
  have hD := a3.pos
  have hl := a2.le (by omega)
  have hNw : (r.weight * N).natAbs ≤ 3 * 82944000 := na_mul (by omega) (by omega)
  have hv := a2.2
  obtain ⟨z, z1, z2⟩ := mul_is (is_int r.weight).1 a2.1 ⟨sm_abs.2 (by show r.weight.natAbs ≤ _; omega), sm_abs.2 (by show (1 : Int).natAbs ≤ _; omega)⟩ ⟨sm_abs.2 (by omega), sm_abs.2 (by omega)⟩ (N := r.weight * N) (D := D) (by omega) (by
    show r.weight * y.num * D = r.weight * N * (1 * y.den)
    grind) (sm_abs.2 (by omega)) (sm_abs.2 (by omega))
  have hNy : (r.weight * y.num).natAbs ≤ 3 * 82944000 := na_mul (by omega) (by omega)
  have hq := a2.1.pos
  have hz : red (r.weight * y.num) y.den = z := by
    refine Is.uniq (n := r.weight * N) (d := D) (by omega) ?_ z2
    exact (Is.red (n := r.weight * y.num) (d := y.den) (by omega)).of_eq (by omega) (by grind)
  refine ⟨z, N, D, ?_, ?_, z2, a3, a4, a5⟩
  · unfold level_Share
    rw [bnd_eq (reading_eq hb k), if_pos h, ix_eq h0 hx, bnd_eq a1, bnd_eq z1]
  · unfold ref01_Share
    rw [bnd_eq (numbered_eq hb k), if_pos h, ix_eq h0 hx, bnd_eq a6, gd_pos (by omega), bnd_eq (Ratio_eq (by omega) (sm_abs.2 (by omega)) (sm_abs.2 (by omega))), hz]
end Go.D1

set_option linter.unusedVariables false
set_option linter.unusedSimpArgs false
namespace Go.D1
open Go.Tb
/-- Flows at the smallest point of a part. -/
theorem dv_root {s : Survey} (hs : SvOk s) (f : Reading → Int) (e : Int → Int) (hfree : ∀ p, 0 ≤ p → p < s.points → rtOf s p ≠ p → dv s.readings f p = e p) {q : Int} (hq : 0 ≤ q ∧ q < s.points) (hr : rtOf s q = q)
    (he : sumN (fun k => if rtOf s (k : Int) = q then e (k : Int) else 0) s.points.toNat = 0) : dv s.readings f q = e q := by
  have hg := green s.readings (fun p => if rtOf s p = q then 1 else 0) f s.points.toNat (sv_in hs)
  have h0 : rs s.readings (fun r => ((if rtOf s r.from_ = q then (1 : Int) else 0) - (if rtOf s r.to_ = q then 1 else 0)) * f r) = 0 := by
    have : rs s.readings (fun r => ((if rtOf s r.from_ = q then (1 : Int) else 0) - (if rtOf s r.to_ = q then 1 else 0)) * f r) = rs s.readings (fun _ => 0 * 0) := rs_congr fun r hr => by rw [rt_same hs hr, Int.sub_self]; simp
    rw [this, rs_mul s.readings 0 (fun _ => 0), Int.zero_mul]
  rw [h0] at hg
  have hb := sumN_but (n := s.points.toNat) (c := q.toNat) (f := fun k => (if rtOf s (k : Int) = q then 1 else 0) * dv s.readings f (k : Int) - (if rtOf s (k : Int) = q then e (k : Int) else 0)) (by omega) (fun k hk hne => by
    show (if rtOf s (k : Int) = q then (1 : Int) else 0) * dv s.readings f (k : Int) - (if rtOf s (k : Int) = q then e (k : Int) else 0) = 0
    by_cases h : rtOf s (k : Int) = q
    · rw [if_pos h, if_pos h, hfree (k : Int) (by omega) (by omega) (by omega)]; omega
    · rw [if_neg h, if_neg h]; omega)
  rw [sumN_sub, hg, he] at hb
  have hb' : (0 : Int) - 0 = (if rtOf s (q.toNat : Int) = q then 1 else 0) * dv s.readings f (q.toNat : Int) - (if rtOf s (q.toNat : Int) = q then e (q.toNat : Int) else 0) := hb
  rw [show ((q.toNat : Nat) : Int) = q by omega, if_pos hr, if_pos hr] at hb'
  omega
def freeL (s : Survey) : List Int := nodesOf s.points.toNat fun k => !decide (gi (rootsOf s) k.toNat = k)
theorem mem_free {s : Survey} (hs : SvOk s) {p : Int} : p ∈ freeL s ↔ (0 ≤ p ∧ p < s.points) ∧ rtOf s p ≠ p := by
  have hp1 := hs.p1
  unfold freeL
  rw [mem_nodesOf]
  simp only [Bool.not_eq_true', decide_eq_false_iff_not]
  unfold rtOf
  constructor <;> intro h <;> exact ⟨by omega, h.2⟩
theorem fr_free {s : Survey} (hs : SvOk s) : Fr s (freeL s) := by
  have hp5 := hs.p5
  have hp1 := hs.p1
  refine ⟨nodesOf_nodup _ _, ?_, fun p hp => ?_⟩
  · have h0 := (root_in hs (p := 0) (by omega)).1
    have : (freeL s).length < s.points.toNat := nodesOf_lt (p := 0) (by omega) (by
      have : gi (rootsOf s) (0 : Int).toNat = 0 := by have : rtOf s 0 = 0 := by omega
                                                      exact this
      simp
      exact this)
    omega
  · have h := (mem_free hs).1 hp
    have hr := root_in hs h.1
    exact ⟨rtOf s p, fun h' => ((mem_free hs).1 h').2 hr.2, (con_rt hs h.1 (by omega)).2 hr.2.symm⟩
theorem sumN_nodes (p : Int → Bool) (D : Int) : ∀ n : Nat, sumN (fun k => if p (k : Int) = true then D else 0) n = D * ((nodesOf n p).length : Int)
  | 0 => by simp [sumN, nodesOf, iota]
  | n + 1 => by
    simp only [sumN]
    rw [sumN_nodes p D n, nodesOf_succ]
    by_cases h : p (n : Int) = true
    · rw [if_pos h, if_pos h, List.length_append, List.length_singleton, Int.natCast_add, Int.mul_add]; simp
    · rw [if_neg h, if_neg h]; simp
theorem nodes_not (p : Int → Bool) : ∀ n : Nat, (nodesOf n p).length + (nodesOf n fun k => !p k).length = n
  | 0 => by simp [nodesOf, iota]
  | n + 1 => by
    have ih := nodes_not p n
    rw [nodesOf_succ, nodesOf_succ]
    by_cases h : p (n : Int) = true
    · rw [if_pos h, if_neg (by simp [h])]; simp; omega
    · rw [if_neg h, if_pos (by simpa using h)]; simp; omega
theorem parts_free {s : Survey} (hs : SvOk s) : ((partsR s).length : Int) + ((freeL s).length : Int) = s.points := by
  have hp1 := hs.p1
  have h := nodes_not (isRoot (rootsOf s)) s.points.toNat
  have e : (partsR s).length = (nodesOf s.points.toNat (isRoot (rootsOf s))).length := by
    unfold partsR partsL; rw [List.length_map]
  have e2 : freeL s = nodesOf s.points.toNat fun k => !isRoot (rootsOf s) k := rfl
  rw [e, e2]
  omega
theorem sum_dv (F : Int → Reading → Int) (n : Nat) : ∀ (l : List Reading), (∀ r ∈ l, (0 ≤ r.from_ ∧ r.from_ < n) ∧ (0 ≤ r.to_ ∧ r.to_ < n)) → sumN (fun k => dv l (F (k : Int)) (k : Int)) n = rs l (fun r => F r.from_ r - F r.to_ r)
  | [], _ => by simp only [dv, rs]; exact sumN_zero fun _ _ => rfl
  | r :: l, h => by
    have ih := sum_dv F n l fun x hx => h x (by simp [hx])
    have hr := h r (by simp)
    simp only [dv, rs]
    rw [← ih, sumN_add, sumN_sub]
    have pick : ∀ p : Int, 0 ≤ p ∧ p < n → sumN (fun k => if p = (k : Int) then F (k : Int) r else 0) n = F p r := fun p hp => by
      rw [sumN_but (c := p.toNat) (by omega) fun k hk hne => if_neg (by omega), if_pos (by omega), show ((p.toNat : Nat) : Int) = p by omega]
    rw [pick _ hr.1, pick _ hr.2]
/-- The flow of one unit from each free point, over one denominator. -/
def gD (s : Survey) : Int := Dm (Am s (freeL s) (fun _ => 0)) (freeL s).length
def gG (s : Survey) (p q : Int) : Int := if p ∈ freeL s then ext (freeL s) (Xb (Am s (freeL s) (unitB (freeL s) p)) (freeL s).length (freeL s).length) q else 0
theorem Dm_any {s : Survey} {pts : List Int} (hn : pts.length ≤ 4) (b b' : Nat → Int) : Dm (Am s pts b) pts.length = Dm (Am s pts b') pts.length :=
  Dm_congr hn fun i j hi hj => by unfold Am; rw [if_pos hj, if_pos hj]
theorem gD_ok {s : Survey} (hs : SvOk s) : 0 < gD s ∧ gD s ≤ 20736 := by
  have hF := fr_free hs
  have hn := hF.n4
  have hb := rh_unit s (freeL s) 0
  have h1 := D_pos (b := fun _ => 0) hs hF _ (Nat.le_refl _)
  have h2 := (sol_of hs hF hb).D20736
  rw [Dm_any hn _ (fun _ => 0)] at h2
  unfold gD
  omega
theorem gG_dv {s : Survey} (hs : SvOk s) (p : Int) {q : Int} (hq : q ∈ freeL s) : dv s.readings (fun r => r.weight * (gG s p r.from_ - gG s p r.to_)) q = if q = p then gD s else 0 := by
  have hF := fr_free hs
  have hn := hF.n4
  unfold gG
  by_cases hp : p ∈ freeL s
  · simp only [if_pos hp]
    obtain ⟨m, hm, e⟩ := gi_ex hq
    have h1 := Xb_dv hs hF (rh_unit s (freeL s) p) (i := (freeL s).length) (j := m) (Nat.le_refl _) hm
    rw [cramer _ (by omega) hm, e] at h1
    simp only [Int.mul_zero, Int.add_zero, Int.mul_one, Int.sub_zero] at h1
    rw [h1, Dm_any hn _ (fun _ => 0)]; rfl
  · simp only [if_neg hp]
    rw [dv_congr (g := fun _ => 0) (fun r _ => by simp), dv_zero, if_neg (show ¬ q = p from fun e => hp (e ▸ hq))]
def gN (s : Survey) (r : Reading) : Int := (gG s r.from_ r.from_ - gG s r.to_ r.from_) - (gG s r.from_ r.to_ - gG s r.to_ r.to_)
theorem gN_rs {s : Survey} (hs : SvOk s) {r : Reading} (hr : r ∈ s.readings) : RS s r.from_ r.to_ (gN s r) (gD s) := by
  have hp1 := hs.p1
  have hrr := hs.rd r hr
  have hrt := rt_same hs hr
  have hfree : ∀ p, 0 ≤ p → p < s.points → rtOf s p ≠ p → dv s.readings (fun x => x.weight * ((gG s r.from_ x.from_ - gG s r.to_ x.from_) - (gG s r.from_ x.to_ - gG s r.to_ x.to_))) p = (if p = r.from_ then gD s else 0) - (if p = r.to_ then gD s else 0) := fun p p0 p1 hp => by
    have hm := (mem_free hs).2 ⟨⟨p0, p1⟩, hp⟩
    rw [← gG_dv hs r.from_ hm, ← gG_dv hs r.to_ hm, ← dv_sub]
    exact dv_congr (fun x _ => by grind) p
  refine ⟨fun q => gG s r.from_ q - gG s r.to_ q, ⟨(gD_ok hs).1, fun p p0 p1 => ?_⟩, rfl⟩
  by_cases hp : rtOf s p = p
  · refine dv_root hs _ (fun p => (if p = r.from_ then gD s else 0) - (if p = r.to_ then gD s else 0)) hfree ⟨p0, p1⟩ hp ?_
    have e : sumN (fun k => if rtOf s (k : Int) = p then (if (k : Int) = r.from_ then gD s else 0) - (if (k : Int) = r.to_ then gD s else 0) else 0) s.points.toNat = sumN (fun k => (if (k : Int) = r.from_ then (if rtOf s r.from_ = p then gD s else 0) else 0) - (if (k : Int) = r.to_ then (if rtOf s r.from_ = p then gD s else 0) else 0)) s.points.toNat := by
      refine sumN_congr fun k hk => ?_
      have hne := hrr.2.2.1
      by_cases h1 : (k : Int) = r.from_
      · have n2 : ¬ (k : Int) = r.to_ := by omega
        rw [if_pos h1, if_neg n2, if_pos h1, if_neg n2, h1]
        split <;> omega
      · by_cases h2 : (k : Int) = r.to_
        · rw [if_neg h1, if_pos h2, if_neg h1, if_pos h2, h2, hrt]
          split <;> omega
        · rw [if_neg h1, if_neg h2, if_neg h1, if_neg h2]
          split <;> omega
    show sumN (fun k => if rtOf s (k : Int) = p then (if (k : Int) = r.from_ then gD s else 0) - (if (k : Int) = r.to_ then gD s else 0) else 0) s.points.toNat = 0
    rw [e, sumN_sub, sumN_unit _ (by omega), sumN_unit _ (by omega), Int.sub_self]
  · exact hfree p p0 p1 hp
/-- All shares. -/
theorem foster {s : Survey} (hs : SvOk s) : rs s.readings (fun r => r.weight * gN s r) = gD s * ((freeL s).length : Int) := by
  have h1 := sum_dv (fun p r => r.weight * (gG s p r.from_ - gG s p r.to_)) s.points.toNat s.readings (sv_in hs)
  have h2 : rs s.readings (fun r => r.weight * gN s r) = rs s.readings (fun r => r.weight * (gG s r.from_ r.from_ - gG s r.from_ r.to_) - r.weight * (gG s r.to_ r.from_ - gG s r.to_ r.to_)) := rs_congr fun r _ => by unfold gN; grind
  have h3 : sumN (fun k => dv s.readings (fun r => r.weight * (gG s (k : Int) r.from_ - gG s (k : Int) r.to_)) (k : Int)) s.points.toNat = sumN (fun k => if (!decide (gi (rootsOf s) (k : Int).toNat = (k : Int))) = true then gD s else 0) s.points.toNat := by
    refine sumN_congr fun k hk => ?_
    by_cases hm : (k : Int) ∈ freeL s
    · have := ((mem_free hs).1 hm).2
      unfold rtOf at this
      rw [gG_dv hs _ hm, if_pos rfl, if_pos (by rw [Bool.not_eq_true', decide_eq_false_iff_not]; exact this)]
    · have : rtOf s (k : Int) = (k : Int) := by
        by_cases h : rtOf s (k : Int) = (k : Int)
        · exact h
        · exact absurd ((mem_free hs).2 ⟨by omega, h⟩) hm
      unfold rtOf at this
      rw [if_neg (by rw [Bool.not_eq_true', decide_eq_false_iff_not]; exact fun h => h this), ← dv_zero s.readings (k : Int)]
      exact dv_congr (fun r _ => by unfold gG; rw [if_neg hm, if_neg hm]; simp) _
  rw [h2, ← h1, h3]
  exact sumN_nodes (fun k => !decide (gi (rootsOf s) k.toNat = k)) (gD s) s.points.toNat
theorem rs_take (f : Reading → Int) : ∀ (l : List Reading) (i : Nat), i < l.length → rs (l.take (i + 1)) f = rs (l.take i) f + f (gr l i)
  | [], i, h => by simp at h
  | x :: l, 0, h => by simp [rs, gr]
  | x :: l, i + 1, h => by
    have ih := rs_take f l i (by simpa using h)
    have e : gr (x :: l) (i + 1) = gr l i := by simp [gr]
    rw [e, List.take_succ_cons, List.take_succ_cons]
    simp only [rs]
    rw [ih]; omega
theorem share_add {c x : Rat} {S T D : Int} (hc : Is c S D) (hx : Is x T D) (hD : 0 < D) (hD2 : D ≤ 20736) (hS : S.natAbs ≤ 1990656000) (hT : T.natAbs ≤ 248832000) :
    (InR (c.num * x.den) ∧ InR (x.num * c.den) ∧ InR (c.num * x.den + x.num * c.den) ∧ InR (c.den * x.den)) ∧ ∃ z, ref01_Ratio (c.num * x.den + x.num * c.den) (c.den * x.den) = some z ∧ Is z (S + T) D := by
  have l1 := hc.le (by omega)
  have l2 := hx.le (by omega)
  have m1 := inr_mul (x := c.num) (y := x.den) (A := 1990656000) (B := 20736) (by omega) (by omega) (by omega)
  have m2 := inr_mul (x := x.num) (y := c.den) (A := 248832000) (B := 20736) (by omega) (by omega) (by omega)
  have m3 := inr_mul (x := c.den) (y := x.den) (A := 20736) (B := 20736) (by omega) (by omega) (by omega)
  have q1 := hc.1.pos
  have q2 := hx.1.pos
  have q3 : 0 < c.den * x.den := Int.mul_pos q1 q2
  refine ⟨⟨m1.2, m2.2, by omega, m3.2⟩, _, Ratio_eq (by omega) (sm_abs.2 (by omega)) (sm_abs.2 (by omega)), ?_⟩
  refine (Is.red (by omega)).of_eq (by omega) ?_
  have v1 := hc.2
  have v2 := hx.2
  have : (c.num * x.den + x.num * c.den) * D = (c.num * D) * x.den + (x.num * D) * c.den := by grind
  rw [this, v1, v2]; grind
theorem share_at {s : Survey} (hs : SvOk s) {k : Nat} (hk : k < s.readings.length) : ∃ x, level_Share s (k : Int) = some (x, 0) ∧ Is x ((gr s.readings k).weight * gN s (gr s.readings k)) (gD s) ∧ ((gr s.readings k).weight * gN s (gr s.readings k)).natAbs ≤ 248832000 := by
  have h8 := hs.len
  have hR : readingR s (k : Int) = 0 := by
    unfold readingR
    rw [if_pos (val0.2 hs), if_pos (within_iff.2 (by omega))]
  obtain ⟨x, N, D, a1, _, a3, a4, a5, a6⟩ := Share_0 (by omega) hR
  rw [Int.toNat_natCast] at a3 a4
  have hr := gr_ok hs hk
  have hm := gr_mem hk
  generalize gr s.readings k = r at *
  have hg := gN_rs hs hm
  have hu := rs_uniq hs (edge_of hm) a4 hg
  have hD := a4.pos
  have hG := gD_ok hs
  refine ⟨x, a1, a3.of_eq (by omega) (by grind), ?_⟩
  have e1 : (gN s r).natAbs * D.natAbs = N.natAbs * (gD s).natAbs := by rw [← Int.natAbs_mul, ← Int.natAbs_mul, hu]
  have e2 : N.natAbs * (gD s).natAbs ≤ (4000 * (gD s).natAbs) * D.natAbs := by
    have := Nat.mul_le_mul_right (gD s).natAbs a6
    rw [Nat.mul_right_comm] at this
    exact this
  rw [← e1] at e2
  have e3 := Nat.le_of_mul_le_mul_right e2 (by omega)
  have := na_mul (a := r.weight) (b := gN s r) (A := 3) (B := 82944000) (by omega) (by omega)
  omega
def psum (s : Survey) (i : Nat) : Int := rs (s.readings.take i) (fun r => r.weight * gN s r)
theorem psum_abs {s : Survey} (hs : SvOk s) : ∀ i, i ≤ s.readings.length → (psum s i).natAbs ≤ i * 248832000
  | 0, _ => by simp [psum, rs]
  | i + 1, hi => by
    have ih := psum_abs hs i (by omega)
    obtain ⟨_, _, _, h⟩ := share_at hs (k := i) (by omega)
    have e : psum s (i + 1) = psum s i + (gr s.readings i).weight * gN s (gr s.readings i) := rs_take _ _ _ (by omega)
    rw [e]
    omega
theorem psum_end {s : Survey} (hs : SvOk s) : psum s s.readings.length = gD s * ((freeL s).length : Int) := by
  unfold psum
  rw [List.take_length]
  exact foster hs
end Go.D1

set_option linter.unusedVariables false
set_option linter.unusedSimpArgs false
namespace Go.D1
open Go.Tb
/-- Heights h / D whose residuals balance at each point. -/
structure BH (s : Survey) (h : Int → Int) (D : Int) : Prop where
  pos : 0 < D
  root : ∀ p, 0 ≤ p → p < s.points → rtOf s p = p → h p = 0
  dv : ∀ p, 0 ≤ p → p < s.points → dv s.readings (fun r => r.weight * (h r.from_ - h r.to_ + D * r.rise)) p = 0
/-- What the rises ask of the points of a list. -/
def rB (s : Survey) (pts : List Int) (k : Nat) : Int := -dv s.readings (fun r => r.weight * r.rise) (gi pts k)
theorem rh_rise {s : Survey} (hs : SvOk s) (pts : List Int) : Rh s pts (rB s pts) (fun r => r.rise) 1000 0 (-1) := by
  refine ⟨by omega, by omega, by omega, fun r hr => ?_, fun j hj => ?_⟩
  · have := (hs.rd r hr).2.2.2.1; omega
  · unfold rB; split <;> omega
def hX (s : Survey) (pts : List Int) (p : Int) : Int := ext pts (Xb (Am s pts (rB s pts)) pts.length pts.length) p
theorem hX_dv {s : Survey} (hs : SvOk s) {pts : List Int} (hF : Fr s pts) {q : Int} (hq : q ∈ pts) : dv s.readings (fun r => r.weight * (hX s pts r.from_ - hX s pts r.to_ + Dm (Am s pts (rB s pts)) pts.length * r.rise)) q = 0 := by
  have hn := hF.n4
  obtain ⟨m, hm, e⟩ := gi_ex hq
  have h1 := Xb_dv hs hF (rh_rise hs pts) (i := pts.length) (j := m) (Nat.le_refl _) hm
  rw [cramer _ (by omega) hm, e] at h1
  have h2 : (if q = -1 then Dm (Am s pts (rB s pts)) pts.length * 0 else 0) - (0 : Int) = 0 := by split <;> omega
  rw [h2] at h1
  exact h1
theorem hX_abs {s : Survey} (hs : SvOk s) {pts : List Int} (hF : Fr s pts) (p : Int) : (hX s pts p).natAbs ≤ 4000 * (Dm (Am s pts (rB s pts)) pts.length).natAbs := by
  by_cases hp : p ∈ pts
  · obtain ⟨k, hk, e⟩ := gi_ex hp
    have h1 := Nb_small hs hF (rh_rise hs pts) (i := pts.length) (k := k) (Nat.le_refl _) hk
    have hD := D_pos (b := rB s pts) hs hF _ (Nat.le_refl _)
    have hn := hF.n4
    have h2 : hX s pts p = Xb (Am s pts (rB s pts)) pts.length pts.length k := by unfold hX; rw [← e, ext_at hF.nd _ hk]
    rw [h2]
    generalize Xb (Am s pts (rB s pts)) pts.length pts.length k = X at *
    generalize Dm (Am s pts (rB s pts)) pts.length = D at *
    have h3 : (pts.length : Int) * (D * (1000 + 0)) ≤ 4 * (D * (1000 + 0)) := Int.mul_le_mul_of_nonneg_right (by omega) (by omega)
    omega
  · have : hX s pts p = 0 := ext_out _ hp
    rw [this]; omega
def hB (s : Survey) (p : Int) : Int := hX s (freeL s) p
theorem gD_r {s : Survey} (hs : SvOk s) : Dm (Am s (freeL s) (rB s (freeL s))) (freeL s).length = gD s := Dm_any (fr_free hs).n4 _ _
theorem bh_best {s : Survey} (hs : SvOk s) : BH s (hB s) (gD s) := by
  have hF := fr_free hs
  refine ⟨(gD_ok hs).1, fun p p0 p1 hr => ext_out _ fun h => ((mem_free hs).1 h).2 hr, fun p p0 p1 => ?_⟩
  have hfree : ∀ p, 0 ≤ p → p < s.points → rtOf s p ≠ p → dv s.readings (fun r => r.weight * (hB s r.from_ - hB s r.to_ + gD s * r.rise)) p = 0 := fun p p0 p1 hp => by
    have := hX_dv hs hF ((mem_free hs).2 ⟨⟨p0, p1⟩, hp⟩)
    rw [gD_r hs] at this
    exact this
  by_cases hp : rtOf s p = p
  · exact dv_root hs _ (fun _ => 0) hfree ⟨p0, p1⟩ hp (sumN_zero fun k _ => by split <;> rfl)
  · exact hfree p p0 p1 hp
theorem hB_abs {s : Survey} (hs : SvOk s) (p : Int) : (hB s p).natAbs ≤ 4000 * (gD s).natAbs := by
  have := hX_abs hs (fr_free hs) p
  rw [gD_r hs] at this
  exact this
/-- The heights of one part alone. -/
theorem part_best {s : Survey} (hs : SvOk s) {q : Int} (hq : 0 ≤ q ∧ q < s.points) (hr : rtOf s q = q) {p : Int} (hp : p ∈ oneOf s q) :
    hX s (oneOf s q) p * gD s = hB s p * Dm (Am s (oneOf s q) (rB s (oneOf s q))) (oneOf s q).length := by
  have hF := fr_one hs hq
  have hbest := bh_best hs
  have hpp := (mem_oneOf hs).1 hp
  have hc := (con_rt hs hpp.1 hq).2 hpp.2.1
  have hdvq := fun (x : Int) (hx : x ∈ oneOf s q) => hX_dv hs hF hx
  have hq0 : hX s (oneOf s q) q = 0 := ext_out _ fun h => ((mem_oneOf hs).1 h).2.2 rfl
  generalize hX s (oneOf s q) = X at *
  generalize Dm (Am s (oneOf s q) (rB s (oneOf s q))) (oneOf s q).length = E at *
  have hin : ∀ x, 0 ≤ x → x < s.points → rtOf s x ≠ x → dv s.readings (fun r => r.weight * ((if rtOf s r.from_ = q then X r.from_ * gD s - hB s r.from_ * E else 0) - (if rtOf s r.to_ = q then X r.to_ * gD s - hB s r.to_ * E else 0))) x = 0 := fun x x0 x1 hx => by
    by_cases hxq : rtOf s x = q
    · have hm : x ∈ oneOf s q := (mem_oneOf hs).2 ⟨⟨x0, x1⟩, by rw [hxq, hr], fun e => hx (by rw [hxq, e])⟩
      have e : dv s.readings (fun r => r.weight * ((if rtOf s r.from_ = q then X r.from_ * gD s - hB s r.from_ * E else 0) - (if rtOf s r.to_ = q then X r.to_ * gD s - hB s r.to_ * E else 0))) x = dv s.readings (fun r => gD s * (r.weight * (X r.from_ - X r.to_ + E * r.rise)) - E * (r.weight * (hB s r.from_ - hB s r.to_ + gD s * r.rise))) x := by
        refine dv_touch fun r hr' htouch => ?_
        have hsame := rt_same hs hr'
        have h1 : rtOf s r.from_ = q ∧ rtOf s r.to_ = q := by
          rcases htouch with e | e
          · rw [← hsame, e, hxq]; exact ⟨rfl, rfl⟩
          · rw [hsame, e, hxq]; exact ⟨rfl, rfl⟩
        simp only [if_pos h1.1, if_pos h1.2]
        grind
      rw [e, dv_sub, dv_mul, dv_mul, hdvq x hm, hbest.dv x x0 x1]; omega
    · rw [← dv_zero s.readings x]
      refine dv_touch fun r hr' htouch => ?_
      have hsame := rt_same hs hr'
      have h1 : rtOf s r.from_ ≠ q ∧ rtOf s r.to_ ≠ q := by
        rcases htouch with e | e
        · rw [← hsame, e]; exact ⟨hxq, hxq⟩
        · rw [hsame, e]; exact ⟨hxq, hxq⟩
      simp only [if_neg h1.1, if_neg h1.2]; simp
  have := flat_con hs (u := fun p => if rtOf s p = q then X p * gD s - hB s p * E else 0) (fun x x0 x1 => by
    by_cases hx : rtOf s x = x
    · exact dv_root hs _ (fun _ => 0) hin ⟨x0, x1⟩ hx (sumN_zero fun k _ => by split <;> rfl)
    · exact hin x x0 x1 hx) hc
  rw [if_pos (by rw [hpp.2.1, hr]), if_pos hr, hq0, hbest.root q hq.1 hq.2 hr] at this
  omega
def bestV (s : Survey) (p : Int) : Rat := red (hB s p) (gD s)
theorem bestV_is {s : Survey} (hs : SvOk s) (p : Int) : Is (bestV s p) (hB s p) (gD s) := .red (by have := gD_ok hs; omega)
theorem bestV_root {s : Survey} (hs : SvOk s) {p : Int} (hp : 0 ≤ p ∧ p < s.points) (hr : rtOf s p = p) : bestV s p = ⟨0, 1⟩ := by
  have hG := gD_ok hs
  have h := bestV_is hs p
  rw [(bh_best hs).root p hp.1 hp.2 hr] at h
  exact h.uniq (by omega) ((is_int 0).of_eq (by omega) (by omega))
theorem dv_take (f : Reading → Int) (p : Int) : ∀ (l : List Reading) (i : Nat), i < l.length → dv (l.take (i + 1)) f p = dv (l.take i) f p + ((if (gr l i).from_ = p then f (gr l i) else 0) - (if (gr l i).to_ = p then f (gr l i) else 0))
  | [], i, h => by simp at h
  | x :: l, 0, h => by simp [dv, gr]
  | x :: l, i + 1, h => by
    have ih := dv_take f p l i (by simpa using h)
    have e : gr (x :: l) (i + 1) = gr l i := by simp [gr]
    rw [e, List.take_succ_cons, List.take_succ_cons]
    simp only [dv]
    rw [ih]; omega
def dw (s : Survey) (p : Int) (i : Nat) : Int := -dv (s.readings.take i) (fun r => r.weight * r.rise) p
theorem dw_succ {s : Survey} (p : Int) {i : Nat} (h : i < s.readings.length) : dw s p (i + 1) = dw s p i + ((if (gr s.readings i).to_ = p then (gr s.readings i).weight * (gr s.readings i).rise else 0) - (if (gr s.readings i).from_ = p then (gr s.readings i).weight * (gr s.readings i).rise else 0)) := by
  unfold dw
  rw [dv_take _ _ _ _ h]; omega
theorem wr_abs {s : Survey} (hs : SvOk s) {i : Nat} (h : i < s.readings.length) : ((gr s.readings i).weight * (gr s.readings i).rise).natAbs ≤ 3000 := by
  have := gr_ok hs h
  exact na_mul (A := 3) (B := 1000) (by omega) (by omega)
theorem dw_abs {s : Survey} (hs : SvOk s) (p : Int) : ∀ i, i ≤ s.readings.length → (dw s p i).natAbs ≤ i * 3000
  | 0, _ => by simp [dw, dv]
  | i + 1, hi => by
    have ih := dw_abs hs p i (by omega)
    have hw := wr_abs hs (i := i) (by omega)
    have hne := (gr_ok hs (i := i) (by omega)).2.2.1
    rw [dw_succ p (by omega)]
    generalize (gr s.readings i).weight * (gr s.readings i).rise = x at *
    split <;> split <;> omega
theorem dw_end (s : Survey) (pts : List Int) (k : Nat) : dw s (gi pts k) s.readings.length = rB s pts k := by unfold dw rB; rw [List.take_length]
theorem best_1_eq {s : Survey} (hs : SvOk s) (pts : List Int) (k : Nat) : level_best_1 s (gi pts k) = some (rB s pts k) := by
  have h8 := hs.len
  unfold level_best_1
  rw [← dw_end]
  refine for0 s.readings.length (dw s (gi pts k)) (fun n x i => level_best_1_L1 (gi pts k) s n x i) _ (by simp [dw, dv]) (fun n i hi => ?_) (fun n => ?_) (by omega)
  · have hr := gr_ok hs hi
    have hw := wr_abs hs hi
    have ha := dw_abs hs (gi pts k) i (by omega)
    show level_best_1_B1 (gi pts k) s (level_best_1_L1 (gi pts k) s n) _ _ = _
    unfold level_best_1_B1 level_best_1_k2
    rw [if_pos (by omega), ix_nat (gr_at hi), dw_succ _ hi]
    by_cases h1 : gi pts k = (gr s.readings i).to_
    · rw [if_pos h1, gd_pos (by omega), gd_pos (by omega), gd_pos (by omega), if_pos h1.symm, if_neg (by omega), Int.sub_zero]; rfl
    · rw [if_neg h1, if_neg (show ¬ (gr s.readings i).to_ = gi pts k by omega)]
      by_cases h2 : gi pts k = (gr s.readings i).from_
      · rw [if_pos h2, gd_pos (by omega), gd_pos (by omega), gd_pos (by omega), if_pos h2.symm, show ∀ x y : Int, x + (0 - y) = x - y from fun x y => by omega]; rfl
      · rw [if_neg h2, if_neg (show ¬ (gr s.readings i).from_ = gi pts k by omega), gd_pos (by omega), Int.sub_zero, Int.add_zero]; rfl
  · show level_best_1_B1 (gi pts k) s (level_best_1_L1 (gi pts k) s n) _ _ = _
    unfold level_best_1_B1 level_best_1_k1
    rw [if_neg (by omega)]
theorem iota_sorted (n : Nat) : (iota n).Pairwise (· < ·) := by
  induction n with
  | zero => exact List.Pairwise.nil
  | succ n ih =>
    rw [iota_succ, List.pairwise_append]
    refine ⟨ih, by simp, fun a ha b hb => ?_⟩
    have := mem_iota.1 ha
    simp at hb
    omega
theorem part_drop {s : Survey} (hs : SvOk s) {q : Int} (hq : 0 ≤ q ∧ q < s.points) (hr : rtOf s q = q) : 1 ≤ (partOf (rootsOf s) q).length ∧ (partOf (rootsOf s) q).drop 1 = oneOf s q := by
  have hm : q ∈ partOf (rootsOf s) q := (part_mem hs).2 ⟨hq, hr⟩
  have hnd := part_nodup (s := s) q
  have hso : (partOf (rootsOf s) q).Pairwise (· < ·) := (iota_sorted _).filter _
  have hcut := part_cut hs q
  rw [hr] at hcut
  have hmem := fun x => part_mem hs (q := q) (p := x)
  generalize partOf (rootsOf s) q = l at *
  cases l with
  | nil => simp at hm
  | cons x l =>
    have hx := (hmem x).1 (by simp)
    have hle := (root_in hs hx.1).1
    have hxq : x = q := by
      rcases List.mem_cons.1 hm with h | h
      · exact h.symm
      · have := (List.pairwise_cons.1 hso).1 q h
        omega
    refine ⟨by simp, ?_⟩
    have := cut_filter (j := q) (x :: l) 0 hnd (by simp) hxq
    rw [← hcut, ← this]; rfl
theorem level_best_eq {s : Survey} (hs : SvOk s) : ∃ l, level_best s = some l ∧ l.length = s.points.toNat ∧ ∀ p : Nat, p < s.points.toNat → rt l p = bestV s p := by
  have hp1 := hs.p1
  have hp5 := hs.p5
  have hPl := parts_len hs
  have hG := gD_ok hs
  unfold level_best
  have hrep : slices_Repeat_Rat ([(⟨0, 1⟩ : Rat)] : List Rat) s.points = some (List.replicate s.points.toNat ⟨0, 1⟩) := by
    show gd (1 ≤ s.points ∧ s.points ≤ 8) _ = _
    rw [gd_pos (by omega)]
  rw [bnd_eq hrep, bnd_eq (parts_eq hs)]
  obtain ⟨l, ⟨l1, l2⟩, l3⟩ := ex_loop (partsR s).length (fun t (l : List Rat) => l.length = s.points.toNat ∧ ∀ p : Nat, p < s.points.toNat → ((rtOf s p = p ∨ ∃ t' x, t' < t ∧ (partsR s)[t']? = some x ∧ (p : Int) ∈ x) → rt l p = bestV s p))
    (fun n l t => level_best_L2 s (partsR s) n t l) (fun l => some l) (fun n t l ht ⟨i1, i2⟩ => by
      have hx : (partsR s)[t]? = some (partsR s)[t] := List.getElem?_eq_getElem ht
      generalize (partsR s)[t] = pt at hx
      obtain ⟨q, hq1, hq2, rfl⟩ := (parts_mem hs).1 (List.mem_of_getElem? hx)
      obtain ⟨d1, d2⟩ := part_drop hs hq1 hq2
      have hF := fr_one hs hq1
      have hn := hF.n4
      obtain ⟨m, xs, m', b1, b2, b3, b4⟩ := bal_solve hs hF (rh_rise hs (oneOf s q)) (f := fun x5 => level_best_1 s x5) (fun k hk => best_1_eq hs _ k)
      have hval : ∀ k, k < (oneOf s q).length → rt xs k = bestV s (gi (oneOf s q) k) := fun k hk => by
        have h1 := b4 k hk
        have h2 := part_best hs hq1 hq2 (gi_mem hk)
        have hD := D_pos (b := rB s (oneOf s q)) hs hF _ (Nat.le_refl _)
        have h3 : hX s (oneOf s q) (gi (oneOf s q) k) = Nm (Am s (oneOf s q) (rB s (oneOf s q))) (oneOf s q).length k (oneOf s q).length := by
          unfold hX
          rw [ext_at hF.nd _ hk]
          unfold Xb
          rw [if_pos hk]
        rw [h3] at h2
        exact (h1.of_eq (by omega) h2).red_eq (by omega)
      obtain ⟨l', ⟨j1, j2, j3⟩, j4⟩ := ex_loop (oneOf s q).length (fun k (l : List Rat) => l.length = s.points.toNat ∧ (∀ p : Nat, p < s.points.toNat → ((rtOf s p = p ∨ ∃ t' x, t' < t ∧ (partsR s)[t']? = some x ∧ (p : Int) ∈ x) → rt l p = bestV s p)) ∧ ∀ k', k' < k → rt l (gi (oneOf s q) k').toNat = bestV s (gi (oneOf s q) k'))
        (fun n' l k => level_best_L1 (t : Int) (level_best_L2 s (partsR s) n) (partOf (rootsOf s) q) (xs, m') n' k l) (fun l => level_best_L2 s (partsR s) n ((t + 1 : Nat) : Int) l) (fun n' k l hk ⟨k1, k2, k3⟩ => by
          have hmk := (mem_oneOf hs).1 (gi_mem hk)
          have hset : ∀ p : Nat, p < s.points.toNat → rt (l.set (gi (oneOf s q) k).toNat (rt xs k)) p = if (gi (oneOf s q) k).toNat = p then bestV s p else rt l p := fun p hp => by
            rw [rt_set]
            by_cases e : (gi (oneOf s q) k).toNat = p
            · rw [if_pos ⟨e, by omega⟩, if_pos e, hval k hk, ← e, show (((gi (oneOf s q) k).toNat : Nat) : Int) = gi (oneOf s q) k by omega]
            · rw [if_neg (by omega), if_neg e]
          refine ⟨l.set (gi (oneOf s q) k).toNat (rt xs k), ⟨by rw [List.length_set, k1], fun p hp h => ?_, fun k' hk' => ?_⟩, ?_⟩
          · rw [hset p hp]
            split
            · rfl
            · exact k2 p hp h
          · have hmk' := (mem_oneOf hs).1 (gi_mem (show k' < (oneOf s q).length by omega))
            rw [hset _ (by omega)]
            split
            · rw [show (((gi (oneOf s q) k').toNat : Nat) : Int) = gi (oneOf s q) k' by omega]
            · rename_i hne
              have hkk : k' ≠ k := fun e => hne (by rw [e])
              exact k3 k' (by omega)
          · show level_best_B1 (t : Int) (level_best_L2 s (partsR s) n) (partOf (rootsOf s) q) (xs, m') (level_best_L1 (t : Int) (level_best_L2 s (partsR s) n) (partOf (rootsOf s) q) (xs, m') n') _ _ = _
            unfold level_best_B1
            have hd' : List.drop (Int.toNat 1) (partOf (rootsOf s) q) = oneOf s q := d2
            rw [hd', if_pos (by omega), ix_nat (gi_at hk), ix_nat (rt_at (show k < xs.length by omega)), ix_eq hmk.1.1 (rt_at (show (gi (oneOf s q) k).toNat < l.length by omega)), gd_pos (by omega)]; rfl) (fun n' l ⟨k1, k2, k3⟩ => by
          show level_best_B1 (t : Int) (level_best_L2 s (partsR s) n) (partOf (rootsOf s) q) (xs, m') (level_best_L1 (t : Int) (level_best_L2 s (partsR s) n) (partOf (rootsOf s) q) (xs, m') n') _ _ = _
          unfold level_best_B1 level_best_k2
          have hd' : List.drop (Int.toNat 1) (partOf (rootsOf s) q) = oneOf s q := d2
          rw [hd', if_neg (by omega), gd_pos (by omega)]; rfl) (by omega) (i0 := 0) (by omega) (s0 := l) ⟨i1, i2, fun k' h => by omega⟩
      refine ⟨l', ⟨j1, fun p hp h => ?_⟩, ?_⟩
      · rcases h with h | ⟨t', x, ht', hx', hpx⟩
        · exact j2 p hp (.inl h)
        · by_cases e : t' = t
          · subst e
            rw [hx] at hx'
            cases hx'
            have hpm := (part_mem hs).1 hpx
            by_cases e2 : (p : Int) = q
            · exact j2 p hp (.inl (by rw [hpm.2, e2]))
            · obtain ⟨k, hk, hkp⟩ := gi_ex ((mem_oneOf hs).2 ⟨hpm.1, by rw [hpm.2, hq2], e2⟩)
              have := j3 k hk
              rw [hkp, Int.toNat_natCast] at this
              exact this
          · exact j2 p hp (.inr ⟨t', x, by omega, hx', hpx⟩)
      · show level_best_B2 s (partsR s) (level_best_L2 s (partsR s) n) _ _ = _
        unfold level_best_B2
        have hd' : List.drop (Int.toNat 1) (partOf (rootsOf s) q) = oneOf s q := d2
        rw [if_pos (by omega), ix_nat hx, gd_pos (by omega), hd', bnd_eq b1, bnd_eq b2, gd_pos (by omega)]
        exact j4) (fun n l _ => by
      show level_best_B2 s (partsR s) (level_best_L2 s (partsR s) n) _ _ = _
      unfold level_best_B2 level_best_k1
      rw [if_neg (by omega)]) (by omega) (i0 := 0) (by omega) (s0 := List.replicate s.points.toNat ⟨0, 1⟩) ⟨by simp, fun p hp h => by
        rcases h with h | ⟨_, _, h, _⟩
        · rw [bestV_root hs (by omega) h]
          simp [rt, List.getD_eq_getElem?_getD, hp]
        · omega⟩
  refine ⟨l, l3, l1, fun p hp => l2 p hp (.inr ?_)⟩
  have hpp : 0 ≤ (p : Int) ∧ (p : Int) < s.points := by omega
  have hr := root_in hs hpp
  have hin : partOf (rootsOf s) (rtOf s p) ∈ partsR s := (parts_mem hs).2 ⟨rtOf s p, by omega, hr.2, rfl⟩
  obtain ⟨t', ht', e⟩ := List.getElem_of_mem hin
  exact ⟨t', _, ht', by rw [List.getElem?_eq_getElem ht', e], (part_mem hs).2 ⟨hpp, rfl⟩⟩
def bestL (s : Survey) : List Rat := (iota s.points.toNat).map (bestV s)
theorem best_list {s : Survey} {l : List Rat} (h1 : l.length = s.points.toNat) (h2 : ∀ p : Nat, p < s.points.toNat → rt l p = bestV s p) : l = bestL s := by
  apply List.ext_getElem?
  intro p
  by_cases hp : p < s.points.toNat
  · rw [rt_at (by omega), h2 p hp]
    unfold bestL
    rw [List.getElem?_map, gi_at (by rw [iota_len]; exact hp), iota_gi hp]; rfl
  · rw [List.getElem?_eq_none (by omega), List.getElem?_eq_none (by unfold bestL; rw [List.length_map, iota_len]; omega)]
theorem lbest_eq {s : Survey} (hs : SvOk s) : level_best s = some (bestL s) := by
  obtain ⟨l, h1, h2, h3⟩ := level_best_eq hs
  rw [h1, best_list h2 h3]
end Go.D1

set_option linter.unusedVariables false
set_option linter.unusedSimpArgs false
namespace Go.D1
open Go.Tb
theorem bestL_at {s : Survey} {p : Int} (h : 0 ≤ p ∧ p < s.points) : (bestL s)[p.toNat]? = some (bestV s p) := by
  unfold bestL
  rw [List.getElem?_map, gi_at (by rw [iota_len]; omega), iota_gi (by omega), show ((p.toNat : Nat) : Int) = p by omega]; rfl
theorem take_at {α β : Type} (f : α → β) {l : List α} {t : Nat} {x : α} (h : l[t]? = some x) : (l.take (t + 1)).map f = (l.take t).map f ++ [f x] := by
  rw [List.take_add_one, h, List.map_append]; rfl
def resN (s : Survey) (r : Reading) : Int := r.rise * gD s - hB s r.to_ + hB s r.from_
theorem resN_abs {s : Survey} (hs : SvOk s) {r : Reading} (hr : r ∈ s.readings) : (r.rise * gD s).natAbs ≤ 1000 * (gD s).natAbs ∧ (resN s r).natAbs ≤ 9000 * (gD s).natAbs := by
  have h1 := (hs.rd r hr).2.2.2.1
  have h2 := na_mul (a := r.rise) (b := gD s) (A := 1000) (B := (gD s).natAbs) (by omega) (Nat.le_refl _)
  have h3 := hB_abs hs r.to_
  have h4 := hB_abs hs r.from_
  unfold resN
  omega
def resV (s : Survey) (r : Reading) : Rat := red (resN s r) (gD s)
theorem resV_is {s : Survey} (hs : SvOk s) (r : Reading) : Is (resV s r) (resN s r) (gD s) := .red (by have := gD_ok hs; omega)
def resL (s : Survey) : List Rat := s.readings.map (resV s)
theorem sub_sm {x y : Rat} (hx : Low x) (hy : Low y) (a : x.num.natAbs ≤ 200000000) (b : y.num.natAbs ≤ 200000000) (c : x.den.natAbs ≤ 20736) (d : y.den.natAbs ≤ 20736) : ∃ z, level_sub x y = some z ∧ Is z (x.num * y.den - y.num * x.den) (x.den * y.den) := by
  have m1 := (inr_mul a d (by omega)).1
  have m2 := (inr_mul b c (by omega)).1
  have m3 := (inr_mul c d (by omega)).1
  clear a b c d
  refine sub_is hx hy (sm_abs.2 ?_) (sm_abs.2 ?_) (sm_abs.2 ?_) (sm_abs.2 ?_)
  · exact Nat.le_trans m1 (by decide)
  · exact Nat.le_trans m2 (by decide)
  · generalize x.num * y.den = u at *
    generalize y.num * x.den = v at *
    clear m3
    omega
  · exact Nat.le_trans m3 (by decide)
theorem sub_same {x y : Rat} {p q D : Int} (hx : Is x p D) (hy : Is y q D) (hD : 0 < D ∧ D ≤ 20736) (hp : p.natAbs ≤ 82944000) (hq : q.natAbs ≤ 82944000) : ∃ z, level_sub x y = some z ∧ Is z (p - q) D := by
  have l1 := hx.le (by omega)
  have l2 := hy.le (by omega)
  obtain ⟨z, z1, z2⟩ := sub_sm hx.1 hy.1 (by omega) (by omega) (by omega) (by omega)
  have q1 := hx.1.den_ne
  have q2 := hy.1.den_ne
  refine ⟨z, z1, z2.of_eq (Int.mul_ne_zero q1 q2) ?_⟩
  have v1 := hx.2
  have v2 := hy.2
  have : (x.num * y.den - y.num * x.den) * D = (x.num * D) * y.den - (y.num * D) * x.den := by grind
  rw [this, v1, v2]; grind
theorem sub_int {y : Rat} {w q D : Int} (hy : Is y q D) (hD : 0 < D ∧ D ≤ 20736) (hw : w.natAbs ≤ 1000) (hq : q.natAbs ≤ 165888000) : ∃ z, level_sub ⟨w, 1⟩ y = some z ∧ Is z (w * D - q) D := by
  have l2 := hy.le (by omega)
  obtain ⟨z, z1, z2⟩ := sub_sm (is_int w).1 hy.1 (by show w.natAbs ≤ _; omega) (by omega) (by show (1 : Int).natAbs ≤ _; omega) (by omega)
  have q2 := hy.1.den_ne
  refine ⟨z, z1, z2.of_eq (Int.mul_ne_zero (by show (1 : Int) ≠ 0; omega) q2) ?_⟩
  have v2 := hy.2
  show (w * y.den - y.num * 1) * D = (w * D - q) * (1 * y.den)
  have : (w * y.den - y.num * 1) * D = w * y.den * D - y.num * D := by grind
  rw [this, v2]; grind
theorem res_sub {s : Survey} (hs : SvOk s) {r : Reading} (hr : r ∈ s.readings) : ∃ z, level_sub (bestV s r.to_) (bestV s r.from_) = some z ∧ level_sub ⟨r.rise, 1⟩ z = some (resV s r) := by
  have hG := gD_ok hs
  have h1 := (hs.rd r hr).2.2.2.1
  have ha := hB_abs hs r.to_
  have hb := hB_abs hs r.from_
  obtain ⟨z, z1, z2⟩ := sub_same (bestV_is hs r.to_) (bestV_is hs r.from_) hG (by omega) (by omega)
  obtain ⟨y, y1, y2⟩ := sub_int (w := r.rise) z2 hG (by omega) (by omega)
  refine ⟨z, z1, ?_⟩
  rw [y1]
  congr 1
  refine Is.red_eq (n := resN s r) ?_ (by omega)
  have e : resN s r = r.rise * gD s - (hB s r.to_ - hB s r.from_) := by unfold resN; omega
  rw [e]; exact y2
theorem residuals_eq {s : Survey} (hs : SvOk s) : level_residuals s = some (resL s) := by
  have h8 := hs.len
  unfold level_residuals
  rw [bnd_eq (lbest_eq hs)]
  refine for0 s.readings.length (fun t => (s.readings.take t).map (resV s)) (fun n l t => level_residuals_L1 s (bestL s) n t l) _ rfl (fun n t ht => ?_) (fun n => ?_) (by omega)
  · have hx := gr_at ht
    have hr := gr_ok hs ht
    have hm := gr_mem ht
    generalize gr s.readings t = r at *
    obtain ⟨z, z1, y1⟩ := res_sub hs hm
    show level_residuals_B1 s (bestL s) (level_residuals_L1 s (bestL s) n) _ _ = _
    unfold level_residuals_B1
    rw [if_pos (by omega), ix_nat hx, ix_eq hr.2.1.1 (bestL_at hr.2.1), ix_eq hr.1.1 (bestL_at hr.1), bnd_eq z1, bnd_eq y1, gd_pos (by simp; omega), gd_pos (by omega), take_at _ hx]; rfl
  · show level_residuals_B1 s (bestL s) (level_residuals_L1 s (bestL s) n) _ _ = _
    unfold level_residuals_B1 level_residuals_k1
    rw [if_neg (by omega), List.take_of_length_le (by omega)]; rfl
end Go.D1

set_option linter.unusedVariables false
set_option linter.unusedSimpArgs false
namespace Go.D1
open Go.Tb
theorem lcm_step {a b D : Int} (ha : 0 < a) (hb : 0 < b) (hD : 0 < D) (h1 : a ∣ D) (h2 : b ∣ D) :
    (Int.gcd a b : Int) ≠ 0 ∧ (0 < Int.tdiv a (Int.gcd a b) ∧ Int.tdiv a (Int.gcd a b) ≤ a) ∧ 0 < Int.tdiv a (Int.gcd a b) * b ∧ Int.tdiv a (Int.gcd a b) * b ∣ D ∧ a ∣ Int.tdiv a (Int.gcd a b) * b ∧ b ∣ Int.tdiv a (Int.gcd a b) * b := by
  have hg : 0 < Int.gcd a b := Int.gcd_pos_of_ne_zero_left b (by omega)
  obtain ⟨c, hc⟩ := Int.gcd_dvd_left (a := a) (b := b)
  have e1 : Int.tdiv a (Int.gcd a b) = c := Int.tdiv_eq_of_eq_mul_right (by omega) hc
  have hc0 : 0 < c := by
    rcases Int.lt_trichotomy c 0 with h | h | h
    · have := Int.mul_neg_of_pos_of_neg (show (0 : Int) < Int.gcd a b by omega) h; omega
    · rw [h, Int.mul_zero] at hc; omega
    · exact h
  have hca : c ≤ a := by
    have : 1 * c ≤ (Int.gcd a b : Int) * c := Int.mul_le_mul_of_nonneg_right (by omega) (by omega)
    omega
  have e2 : c * b = (Int.lcm a b : Int) := by
    have h3 := Int.gcd_mul_lcm a b
    have h4 : (Int.gcd a b : Int) * (Int.lcm a b : Int) = a * b := by
      rw [← Int.natCast_mul, h3, Int.natCast_mul]
      rw [show (a.natAbs : Int) = a by omega, show (b.natAbs : Int) = b by omega]
    refine Int.eq_of_mul_eq_mul_left (show (Int.gcd a b : Int) ≠ 0 by omega) ?_
    rw [h4, ← Int.mul_assoc, ← hc]
  have hDn : D = ((D.toNat : Nat) : Int) := by omega
  rw [e1]
  refine ⟨by omega, ⟨hc0, hca⟩, Int.mul_pos hc0 hb, ?_, ?_, Int.dvd_mul_left _ _⟩
  · rw [e2, hDn]
    rw [hDn] at h1 h2
    exact Int.natCast_dvd_natCast.2 (Int.lcm_dvd h1 h2)
  · rw [e2]; exact Int.dvd_lcm_left a b
/-- Weighted squares. -/
def sqs (s : Survey) (t : Nat) : Int := rs (s.readings.take t) (fun r => r.weight * resN s r * resN s r)
def SS (s : Survey) : Int := rs s.readings (fun r => r.weight * resN s r * resN s r)
theorem sqs_end (s : Survey) : sqs s s.readings.length = SS s := by unfold sqs SS; rw [List.take_length]
theorem sq_abs {w x : Int} (hw : 1 ≤ w ∧ w ≤ 3) (hx : x.natAbs ≤ 186624000) : (w * x).natAbs ≤ 559872000 ∧ (w * x * x).natAbs ≤ 104485552128000000 ∧ 0 ≤ w * x * x := by
  have h1 := na_mul (a := w) (b := x) (A := 3) (B := 186624000) (by omega) hx
  have h2 := na_mul (a := w * x) (b := x) h1 hx
  refine ⟨h1, h2, ?_⟩
  have : w * x * x = w * (x * x) := by grind
  rw [this]
  exact Int.mul_nonneg (by omega) (sq_nonneg x)
theorem resN_abs' {s : Survey} (hs : SvOk s) {r : Reading} (hr : r ∈ s.readings) : (resN s r).natAbs ≤ 186624000 := by
  have h1 := (resN_abs hs hr).2
  have h2 := gD_ok hs
  omega
theorem sqs_succ {s : Survey} {t : Nat} (ht : t < s.readings.length) : sqs s (t + 1) = sqs s t + (gr s.readings t).weight * resN s (gr s.readings t) * resN s (gr s.readings t) := rs_take _ _ _ ht
theorem sqs_abs {s : Survey} (hs : SvOk s) : ∀ t, t ≤ s.readings.length → 0 ≤ sqs s t ∧ sqs s t ≤ t * 104485552128000000
  | 0, _ => by simp [sqs, rs]
  | t + 1, ht => by
    have ih := sqs_abs hs t (by omega)
    have hr := (gr_ok hs (i := t) (by omega)).2.2.2.2
    have hq := sq_abs hr (resN_abs' hs (gr_mem (t := t) (by omega)))
    rw [sqs_succ (by omega)]
    generalize (gr s.readings t).weight * resN s (gr s.readings t) * resN s (gr s.readings t) = x at *
    omega
theorem SS_abs {s : Survey} (hs : SvOk s) : 0 ≤ SS s ∧ SS s ≤ 835884417024000000 := by
  have h8 := hs.len
  have := sqs_abs hs s.readings.length (Nat.le_refl _)
  rw [sqs_end] at this
  omega
/-- The residuals over the common denominator that the program finds. -/
theorem misfit_end {s : Survey} (hs : SvOk s) {L S : Int} (hL : 0 < L ∧ L ≤ 20736) (hS : 0 ≤ S ∧ S ≤ 835884417024000000) (he : S * (gD s * gD s) = SS s * (L * L)) : level_Misfit_k1 L S = some (red (SS s) (gD s * gD s), 0) := by
  have hG := gD_ok hs
  have hGp : 0 < gD s * gD s := Int.mul_pos hG.1 hG.1
  have hLp : 0 < L * L := Int.mul_pos hL.1 hL.1
  have hLL := na_mul (a := L) (b := L) (A := 20736) (B := 20736) (by omega) (by omega)
  have hR := Is.red (n := S) (d := L) (by omega)
  have hsm := hR.sm (by omega) (sm_abs.2 (by omega)) (sm_abs.2 (by omega))
  obtain ⟨z, z1, z2⟩ := div_is hR.1 (is_int L).1 (show L ≠ 0 by omega) hsm ⟨sm_abs.2 (by show L.natAbs ≤ _; omega), sm_abs.2 (by show (1 : Int).natAbs ≤ _; omega)⟩ (N := S) (D := L * L) (by omega) (by
    have v := hR.2
    show (red S L).num * 1 * (L * L) = S * ((red S L).den * L)
    have : (red S L).num * 1 * (L * L) = ((red S L).num * L) * L := by grind
    rw [this, v]; grind) (sm_abs.2 (by omega)) (sm_abs.2 (by omega))
  unfold level_Misfit_k1
  rw [bnd_eq (ratio_eq (by omega) (sm_abs.2 (by omega)) (sm_abs.2 (by omega))), bnd_eq z1]
  congr 2
  exact (z2.of_eq (by omega) he).red_eq (by omega)
theorem res_over {s : Survey} (hs : SvOk s) {r : Reading} (hr : r ∈ s.readings) {L : Int} (hL : 0 < L ∧ L ≤ 20736) (hd : (resV s r).den ∣ L) :
    (resV s r).den ≠ 0 ∧ (Int.tdiv L (resV s r).den).natAbs ≤ 20736 ∧ ((resV s r).num * Int.tdiv L (resV s r).den).natAbs ≤ 186624000 ∧ ((resV s r).num * Int.tdiv L (resV s r).den) * gD s = resN s r * L := by
  have hG := gD_ok hs
  have hI := resV_is hs r
  have hq := hI.1.pos
  obtain ⟨c, hc⟩ := hd
  have e1 : Int.tdiv L (resV s r).den = c := Int.tdiv_eq_of_eq_mul_right (by omega) hc
  have v := hI.2
  have e2 : (resV s r).num * c * gD s = resN s r * L := by
    have : (resV s r).num * c * gD s = ((resV s r).num * gD s) * c := by grind
    rw [this, v, hc]; grind
  have hb := (resN_abs hs hr).2
  rw [e1]
  refine ⟨by omega, ?_, ?_, e2⟩
  · have h1 : L.natAbs = (resV s r).den.natAbs * c.natAbs := by rw [← Int.natAbs_mul, ← hc]
    have h2 : c.natAbs ≤ (resV s r).den.natAbs * c.natAbs := Nat.le_mul_of_pos_left _ (by omega)
    omega
  · have h1 : ((resV s r).num * c).natAbs * (gD s).natAbs = (resN s r).natAbs * L.natAbs := by rw [← Int.natAbs_mul, ← Int.natAbs_mul, e2]
    have h2 : (resN s r).natAbs * L.natAbs ≤ (9000 * L.natAbs) * (gD s).natAbs := by
      have := Nat.mul_le_mul_right L.natAbs hb
      rw [Nat.mul_right_comm] at this
      exact this
    rw [← h1] at h2
    have := Nat.le_of_mul_le_mul_right h2 (by omega)
    omega
theorem Misfit_eq {s : Survey} (hs : SvOk s) : level_Misfit s = some (red (SS s) (gD s * gD s), 0) := by
  have h8 := hs.len
  have hG := gD_ok hs
  have hlen : (resL s).length = s.readings.length := by unfold resL; rw [List.length_map]
  have hat : ∀ t, t < s.readings.length → (resL s)[t]? = some (resV s (gr s.readings t)) := fun t ht => by
    unfold resL
    rw [List.getElem?_map, gr_at ht]; rfl
  unfold level_Misfit
  rw [bnd_eq (Validate_eq s), if_pos (val0.2 hs), bnd_eq (residuals_eq hs)]
  obtain ⟨L, ⟨hL, hLd, hdv⟩, e⟩ := ex_loop s.readings.length (fun t (L : Int) => 0 < L ∧ L ∣ gD s ∧ ∀ k, k < t → (resV s (gr s.readings k)).den ∣ L) (fun n L t => level_Misfit_L2 s (resL s) n L t) (fun L => level_Misfit_k2 s (resL s) L) (fun n t L ht ⟨i1, i2, i3⟩ => by
    have hI := resV_is hs (gr s.readings t)
    have hdd : (resV s (gr s.readings t)).den ∣ gD s := by
      obtain ⟨q, _, _, h⟩ := hI.parts (by omega)
      exact ⟨q, h⟩
    have hst := lcm_step i1 hI.1.pos hG.1 i2 hdd
    have hLle := Int.le_of_dvd hG.1 i2
    have hle := hI.le (by omega)
    have hle2 := Int.le_of_dvd hG.1 hst.2.2.2.1
    refine ⟨_, ⟨hst.2.2.1, hst.2.2.2.1, fun k hk => ?_⟩, ?_⟩
    · by_cases e : k = t
      · subst e; exact hst.2.2.2.2.2
      · exact Int.dvd_trans (i3 k (by omega)) hst.2.2.2.2.1
    · show level_Misfit_B2 s (resL s) (level_Misfit_L2 s (resL s) n) _ _ = _
      unfold level_Misfit_B2
      rw [if_pos (by omega), ix_nat (hat t ht), bnd_eq (gcd_eq (sm_abs.2 (by omega)) (sm_abs.2 (by omega))), gd_pos (by have := hst.1; have := hst.2.1; omega), gd_pos (by have := hst.2.2.1; omega), gd_pos (by omega)]; rfl) (fun n L _ => by
    show level_Misfit_B2 s (resL s) (level_Misfit_L2 s (resL s) n) _ _ = _
    unfold level_Misfit_B2
    rw [if_neg (by omega)]) (by omega) (i0 := 0) (by omega) (s0 := 1) ⟨by omega, Int.one_dvd _, fun k h => by omega⟩
  refine e.trans ?_
  have hL2 : 0 < L ∧ L ≤ 20736 := ⟨hL, by have := Int.le_of_dvd hG.1 hLd; omega⟩
  unfold level_Misfit_k2
  obtain ⟨S, ⟨hS1, hS2, hS3⟩, e2⟩ := ex_loop s.readings.length (fun t (S : Int) => S * (gD s * gD s) = sqs s t * (L * L) ∧ 0 ≤ S ∧ S ≤ t * 104485552128000000) (fun n S t => level_Misfit_L1 s (resL s) L n S t) (fun S => level_Misfit_k1 L S) (fun n t S ht ⟨i1, i2, i3⟩ => by
    have ho := res_over hs (gr_mem ht) hL2 (hdv t ht)
    have hr := (gr_ok hs (i := t) (by omega)).2.2.2.2
    have hx := gr_at ht
    have hx2 := hat t ht
    rw [sqs_succ ht]
    generalize gr s.readings t = r at *
    have hq := sq_abs hr ho.2.2.1
    refine ⟨S + r.weight * ((resV s r).num * Int.tdiv L (resV s r).den) * ((resV s r).num * Int.tdiv L (resV s r).den), ⟨?_, by omega, by omega⟩, ?_⟩
    · have h4 := ho.2.2.2
      generalize (resV s r).num * Int.tdiv L (resV s r).den = x at *
      have : (S + r.weight * x * x) * (gD s * gD s) = S * (gD s * gD s) + r.weight * (x * gD s) * (x * gD s) := by grind
      rw [this, i1, h4]; grind
    · show level_Misfit_B1 s (resL s) L (level_Misfit_L1 s (resL s) L n) _ _ = _
      unfold level_Misfit_B1
      rw [if_pos (by omega), ix_nat hx2, gd_pos ⟨ho.1, by have := ho.2.1; omega⟩, gd_pos (by have := ho.2.2.1; omega), ix_nat hx, gd_pos (by omega), gd_pos (by omega), gd_pos (by omega), gd_pos (by omega)]; rfl) (fun n S _ => by
    show level_Misfit_B1 s (resL s) L (level_Misfit_L1 s (resL s) L n) _ _ = _
    unfold level_Misfit_B1
    rw [if_neg (by omega)]) (by omega) (i0 := 0) (by omega) (s0 := 0) ⟨by simp [sqs, rs], by omega, by omega⟩
  refine e2.trans ?_
  rw [sqs_end] at hS1
  exact misfit_end hs hL2 ⟨hS2, by omega⟩ hS1
theorem Misfit_ne {s : Survey} (h : validate s ≠ 0) : level_Misfit s = some (⟨0, 0⟩, validate s) ∧ ref01_Misfit s = some (⟨0, 0⟩, validate s) := by
  constructor
  · unfold level_Misfit
    rw [bnd_eq (Validate_eq s), if_neg h]
  · unfold ref01_Misfit
    rw [bnd_eq (rValidate_eq s), if_neg h]
end Go.D1

set_option linter.unusedVariables false
set_option linter.unusedSimpArgs false
namespace Go.D1
open Go.Tb
/-- No heights fit better than the best ones. -/
theorem energy {s : Survey} (hs : SvOk s) (y : Int → Int) (E : Int) : SS s * (E * E) ≤ gD s * gD s * rs s.readings (fun r => r.weight * (r.rise * E - y r.to_ + y r.from_) * (r.rise * E - y r.to_ + y r.from_)) := by
  have hb := bh_best hs
  have hg := green s.readings (fun p => E * hB s p - gD s * y p) (fun r => r.weight * (hB s r.from_ - hB s r.to_ + gD s * r.rise)) s.points.toNat (sv_in hs)
  have hp1 := hs.p1
  rw [sumN_zero fun k hk => by rw [hb.dv k (by omega) (by omega), Int.mul_zero]] at hg
  have h1 : gD s * gD s * rs s.readings (fun r => r.weight * (r.rise * E - y r.to_ + y r.from_) * (r.rise * E - y r.to_ + y r.from_)) = (E * E) * SS s + ((-2 * E) * rs s.readings (fun r => ((E * hB s r.from_ - gD s * y r.from_) - (E * hB s r.to_ - gD s * y r.to_)) * (r.weight * (hB s r.from_ - hB s r.to_ + gD s * r.rise))) + rs s.readings (fun r => r.weight * ((E * hB s r.from_ - gD s * y r.from_) - (E * hB s r.to_ - gD s * y r.to_)) * ((E * hB s r.from_ - gD s * y r.from_) - (E * hB s r.to_ - gD s * y r.to_)))) := by
    unfold SS
    rw [← rs_mul, ← rs_mul, ← rs_mul, ← rs_add, ← rs_add]
    exact rs_congr fun r _ => by unfold resN; grind
  rw [h1, ← hg, Int.mul_zero, Int.zero_add, Int.mul_comm]
  have h2 : 0 ≤ rs s.readings (fun r => r.weight * ((E * hB s r.from_ - gD s * y r.from_) - (E * hB s r.to_ - gD s * y r.to_)) * ((E * hB s r.from_ - gD s * y r.from_) - (E * hB s r.to_ - gD s * y r.to_))) := by
    refine rs_nonneg fun r hr => ?_
    have hw := (hs.rd r hr).2.2.2.2
    rw [Int.mul_assoc]
    exact Int.mul_nonneg (by omega) (sq_nonneg _)
  omega
theorem SS_more {s : Survey} (hs : SvOk s) {r : Reading} (ht : SvOk (moreR s r)) : SS s * (gD (moreR s r) * gD (moreR s r)) ≤ SS (moreR s r) * (gD s * gD s) := by
  have h1 := energy hs (hB (moreR s r)) (gD (moreR s r))
  have h2 : SS (moreR s r) = rs s.readings (fun x => x.weight * resN (moreR s r) x * resN (moreR s r) x) + rs [r] (fun x => x.weight * resN (moreR s r) x * resN (moreR s r) x) := rs_append s.readings [r] _
  have h3 : 0 ≤ rs [r] (fun x => x.weight * resN (moreR s r) x * resN (moreR s r) x) := by
    refine rs_nonneg fun x hx => ?_
    have hx' : x = r := by simpa using hx
    subst hx'
    have hw := (ht.rd x (by unfold moreR; simp)).2.2.2.2
    rw [Int.mul_assoc]
    exact Int.mul_nonneg (by omega) (sq_nonneg _)
  have hG := gD_ok hs
  have hGp : 0 < gD s * gD s := Int.mul_pos hG.1 hG.1
  refine Int.le_trans h1 ?_
  rw [Int.mul_comm (SS (moreR s r))]
  refine Int.mul_le_mul_of_nonneg_left ?_ (by omega)
  rw [h2]
  have e : rs s.readings (fun x => x.weight * (x.rise * gD (moreR s r) - hB (moreR s r) x.to_ + hB (moreR s r) x.from_) * (x.rise * gD (moreR s r) - hB (moreR s r) x.to_ + hB (moreR s r) x.from_)) = rs s.readings (fun x => x.weight * resN (moreR s r) x * resN (moreR s r) x) := rfl
  rw [e]
  omega
theorem tdiv_ok {n d : Int} (hn : 0 ≤ n) (hd : 0 < d) : 0 ≤ Int.tdiv n d ∧ Int.tdiv n d ≤ n ∧ Int.tdiv n d * d ≤ n ∧ 0 ≤ Int.tmod n d ∧ Int.tmod n d = n - Int.tdiv n d * d ∧ (∀ q : Int, q * d ≤ n → q ≤ Int.tdiv n d) := by
  rw [Int.tdiv_eq_ediv_of_nonneg hn, Int.tmod_eq_emod_of_nonneg hn]
  have h1 : n / d * d ≤ n := Int.ediv_mul_le n (by omega)
  have h2 : 0 ≤ n / d := Int.ediv_nonneg hn (by omega)
  have h3 := Int.emod_nonneg n (show d ≠ 0 by omega)
  have h4 := Int.mul_ediv_add_emod n d
  have h5 : n / d ≤ n := by
    have : n / d * 1 ≤ n / d * d := Int.mul_le_mul_of_nonneg_left (by omega) h2
    omega
  refine ⟨h2, h5, h1, h3, ?_, fun q hq => (Int.le_ediv_iff_mul_le hd).2 hq⟩
  rw [Int.mul_comm]; omega
theorem misfit_is {s : Survey} (hs : SvOk s) : Is (red (SS s) (gD s * gD s)) (SS s) (gD s * gD s) ∧ 0 ≤ (red (SS s) (gD s * gD s)).num ∧ (red (SS s) (gD s * gD s)).num ≤ 835884417024000000 ∧ 0 < (red (SS s) (gD s * gD s)).den ∧ (red (SS s) (gD s * gD s)).den ≤ 429981696 ∧ 0 < gD s * gD s := by
  have hG := gD_ok hs
  have hGp : 0 < gD s * gD s := Int.mul_pos hG.1 hG.1
  have hGG := na_mul (a := gD s) (b := gD s) (A := 20736) (B := 20736) (by omega) (by omega)
  have hS := SS_abs hs
  have hI := Is.red (n := SS s) (d := gD s * gD s) (by omega)
  have hle := hI.le (by omega)
  have hq := hI.1.pos
  have v := hI.2
  have hn : 0 ≤ (red (SS s) (gD s * gD s)).num := by
    have h1 : 0 ≤ (red (SS s) (gD s * gD s)).num * (gD s * gD s) := by rw [v]; exact Int.mul_nonneg hS.1 (by omega)
    exact Int.nonneg_of_mul_nonneg_left h1 hGp
  exact ⟨hI, hn, by omega, hq, by omega, hGp⟩
theorem tri_eq : ∃ y : Rat, level_Error (⟨3, ([(⟨0, 1, 0, 1⟩ : Reading), (⟨1, 2, 0, 1⟩ : Reading), (⟨0, 2, 0, 1⟩ : Reading)] : List Reading)⟩ : Survey) 0 2 = some (y, 0) ∧ y.num = 2 ∧ y.den = 3 := by
  have h : ((level_Error (⟨3, ([(⟨0, 1, 0, 1⟩ : Reading), (⟨1, 2, 0, 1⟩ : Reading), (⟨0, 2, 0, 1⟩ : Reading)] : List Reading)⟩ : Survey) 0 2).map fun r => (r.1.num, r.1.den, r.2)) = some (2, 3, 0) := by decide +kernel
  obtain ⟨r, h1, h2⟩ := Option.map_eq_some_iff.1 h
  obtain ⟨y, e⟩ := r
  simp only [Prod.mk.injEq] at h2
  exact ⟨y, by rw [h1, h2.2.2], h2.1, h2.2.1⟩
section
variable {s : Survey} {x : Claim} {r : Reading}
def lst (s : Survey) : Rat × Int := (red (SS s) (gD s * gD s), 0)
theorem th_k2 (hs : SvOk s) (h100 : s.readings.length ≤ 1000) {c d : Int} (hc : c = ((freeL s).length : Int)) (hd : d = 1) : top_TopHeights_k2 s x r (partsR s, 0) (lst s) c d = some true := by
  have hp1 := hs.p1
  have hp5 := hs.p5
  have hpf := parts_free hs
  have hPl := parts_len hs
  subst hc hd
  unfold top_TopHeights_k2
  simp only
  rw [gd_pos (by omega), if_pos (by rw [Bool.and_eq_true, beq_iff_eq, beq_iff_eq]; exact ⟨by omega, rfl⟩), bnd_eq (With_eq h100 r)]
  obtain ⟨r1, e1, c1⟩ := Error_any s x.i x.j
  obtain ⟨r2, e2, c2⟩ := Error_any (withR s r).1 x.i x.j
  rw [bnd_eq e1, bnd_eq e2]
  by_cases hw : (withR s r).2 = 0
  · obtain ⟨_, ht, ew⟩ := withR0 hw
    have em : level_Misfit (withR s r).1 = some (lst (moreR s r)) := by rw [ew]; exact Misfit_eq ht
    obtain ⟨i1, i2, i3, i4, i5, i6⟩ := misfit_is hs
    obtain ⟨j1, j2, j3, j4, j5, j6⟩ := misfit_is ht
    have hle : (red (SS s) (gD s * gD s)).num * (red (SS (moreR s r)) (gD (moreR s r) * gD (moreR s r))).den ≤ (red (SS (moreR s r)) (gD (moreR s r) * gD (moreR s r))).num * (red (SS s) (gD s * gD s)).den := frac_le j1 i1 j6 i6 (SS_more hs ht)
    rw [bnd_eq em, if_pos hw, if_pos (show (lst (moreR s r)).2 = 0 from rfl)]
    unfold lst
    simp only
    generalize red (SS s) (gD s * gD s) = a at *
    generalize red (SS (moreR s r)) (gD (moreR s r) * gD (moreR s r)) = b at *
    have ta := tdiv_ok i2 i4
    have tb := tdiv_ok j2 j4
    have hq : Int.tdiv a.num a.den ≤ Int.tdiv b.num b.den := by
      refine tb.2.2.2.2.2 _ (Int.le_of_mul_le_mul_right (a := a.den) ?_ i4)
      have : Int.tdiv a.num a.den * b.den * a.den = (Int.tdiv a.num a.den * a.den) * b.den := by grind
      rw [this]
      exact Int.le_trans (Int.mul_le_mul_of_nonneg_right ta.2.2.1 (by omega)) hle
    rw [if_neg (by omega), gd_pos (by omega), gd_pos (by omega), gd_pos (by omega), decide_eq_false (by omega)]
    unfold top_TopHeights_k1
    rw [if_neg (by simp)]
    by_cases h1 : errC s x.i x.j = 0
    · obtain ⟨y1, y2, a1, a2, p1, p2, hle2, n1, n2⟩ := more_le h1 ht
      rw [ew] at e2
      rw [e1] at a1; cases a1
      rw [show level_Error (moreR s r) x.i x.j = some r2 from e2] at a2; cases a2
      have m1 := inr_mul n2.1 n1.2 (by omega)
      have m2 := inr_mul n1.1 n2.2 (by omega)
      rw [if_pos rfl, if_pos rfl, if_pos p1, if_pos p2, gd_pos m1.2, gd_pos m2.2, decide_eq_true hle2]
    · rw [if_neg (by rw [c1]; exact h1)]
  · have em : ∃ m, level_Misfit (withR s r).1 = some m := by
      by_cases hv : validate (withR s r).1 = 0
      · exact ⟨_, Misfit_eq (val0.1 hv)⟩
      · exact ⟨_, (Misfit_ne hv).1⟩
    obtain ⟨m, em⟩ := em
    rw [bnd_eq em, if_neg hw]
theorem th_k4 (hs : SvOk s) : top_TopHeights_k4 s x r (partsR s, 0) (lst s) = some true := by
  have h8 := hs.len
  have hG := gD_ok hs
  unfold top_TopHeights_k4
  obtain ⟨st, h1, h2⟩ := ex_loop s.readings.length (fun i (st : Int × Int) => Is ⟨st.1, st.2⟩ (psum s i) (gD s)) (fun n st i => top_TopHeights_L1 s x r (partsR s, 0) (lst s) n i st.1 st.2) (fun st => top_TopHeights_k2 s x r (partsR s, 0) (lst s) st.1 st.2) (fun n i st hi hst => by
    obtain ⟨y, a1, a2, a3⟩ := share_at hs hi
    have hps := psum_abs hs i (by omega)
    obtain ⟨⟨g1, g2, g3, g4⟩, z, z1, z2⟩ := share_add hst a2 hG.1 hG.2 (by omega) a3
    have q2 := a2.1.pos
    have l2 := a2.le (by omega)
    have l1 := hst.le (by omega)
    simp only at g1 g2 g3 g4 z1 l1
    refine ⟨(z.num, z.den), ?_, ?_⟩
    · have e : psum s (i + 1) = psum s i + (gr s.readings i).weight * gN s (gr s.readings i) := rs_take _ _ _ (by omega)
      rw [e]; exact z2
    · show top_TopHeights_B1 s x r (partsR s, 0) (lst s) (top_TopHeights_L1 s x r (partsR s, 0) (lst s) n) (i : Int) st.1 st.2 = _
      unfold top_TopHeights_B1 top_TopHeights_k3
      rw [if_pos (by omega), bnd_eq a1, if_pos rfl]
      show (if y.den < 1 then _ else _) = _
      rw [if_neg (by omega), if_neg (by simp only; omega), if_neg (by simp only [decide_eq_true_eq]; omega), gd_pos g1, gd_pos g2, gd_pos g3, gd_pos g4, bnd_eq z1, gd_pos (by omega)]; rfl) (fun n st hst => by
    show top_TopHeights_B1 s x r (partsR s, 0) (lst s) (top_TopHeights_L1 s x r (partsR s, 0) (lst s) n) _ st.1 st.2 = _
    unfold top_TopHeights_B1
    rw [if_neg (by omega)]) (by omega) (i0 := 0) (by omega) (s0 := (0, 1)) (by
    show Is ⟨0, 1⟩ (psum s 0) (gD s)
    exact (is_int 0).of_eq (by omega) (by simp [psum, rs]))
  refine h2.trans ?_
  rw [psum_end hs] at h1
  have e := h1.uniq (show gD s ≠ 0 by omega) (y := ⟨((freeL s).length : Int), 1⟩) ((is_int _).of_eq (by omega) (by grind))
  exact th_k2 hs (by omega) (congrArg Rat.num e) (congrArg Rat.den e)
theorem th_k5 (hs : SvOk s) : top_TopHeights_k5 s x r (partsR s, 0) (lst s) false = some true := by
  unfold top_TopHeights_k5
  rw [if_neg (by simp)]
  exact th_k4 hs
theorem th_k6 (hs : SvOk s) (y : Int → Int) {T : Int} (hT : T = rs s.readings (fun r => r.weight * (r.rise - y r.to_ + y r.from_) * (r.rise - y r.to_ + y r.from_))) : top_TopHeights_k6 s x r (partsR s, 0) (lst s) T = some true := by
  obtain ⟨i1, i2, i3, i4, i5, i6⟩ := misfit_is hs
  have he := energy hs y 1
  have e : rs s.readings (fun r => r.weight * (r.rise * 1 - y r.to_ + y r.from_) * (r.rise * 1 - y r.to_ + y r.from_)) = T := by
    rw [hT]; exact rs_congr fun r _ => by simp
  rw [e, Int.mul_one, Int.mul_one] at he
  have hk5 := th_k5 (x := x) (r := r) hs
  unfold top_TopHeights_k6
  unfold lst at hk5 ⊢
  simp only
  generalize red (SS s) (gD s * gD s) = a at *
  have hle : a.num ≤ T * a.den := by
    refine Int.le_of_mul_le_mul_right (a := gD s * gD s) ?_ i6
    rw [i1.2]
    have : T * a.den * (gD s * gD s) = (gD s * gD s * T) * a.den := by grind
    rw [this]
    exact Int.mul_le_mul_of_nonneg_right he (by omega)
  have ta := tdiv_ok i2 i4
  have hq : Int.tdiv a.num a.den ≤ T := by
    refine Int.le_of_mul_le_mul_right (a := a.den) (Int.le_trans ta.2.2.1 hle) i4
  rw [gd_pos (by omega), if_neg (by omega), gd_pos (by omega)]
  by_cases h : Int.tdiv a.num a.den = T
  · rw [h] at ta
    have hmod : Int.tmod a.num a.den = 0 := by omega
    rw [if_pos h, hmod, gd_pos (by omega)]
    exact hk5
  · rw [if_neg h]
    exact hk5
def yH (x : Claim) (small : Bool) (p : Int) : Int := if small = true then gi x.heights p.toNat else 0
def sumT (s : Survey) (x : Claim) (small : Bool) (t : Nat) : Int := rs (s.readings.take t) (fun r => r.weight * (r.rise - yH x small r.to_ + yH x small r.from_) * (r.rise - yH x small r.to_ + yH x small r.from_))
theorem th_sq {w d : Int} (hw : 1 ≤ w ∧ w ≤ 3) (hd : d.natAbs ≤ 9000) : (w * d).natAbs ≤ 27000 ∧ (w * d * d).natAbs ≤ 243000000 := by
  have h1 := na_mul (a := w) (b := d) (A := 3) (B := 9000) (by omega) hd
  exact ⟨h1, na_mul (a := w * d) (b := d) h1 hd⟩
theorem th_k8 (hs : SvOk s) {small : Bool} (hl : (x.heights.length : Int) = s.points) (hsm : small = true → ∀ v ∈ x.heights, -4000 ≤ v ∧ v ≤ 4000) : top_TopHeights_k8 s x r (partsR s, 0) (lst s) small = some true := by
  have h8 := hs.len
  have hd : ∀ t, t < s.readings.length → ((gr s.readings t).rise - yH x small (gr s.readings t).to_ + yH x small (gr s.readings t).from_).natAbs ≤ 9000 := fun t ht => by
    have hr := gr_ok hs ht
    cases small
    · simp only [yH]; simp; omega
    · have x1 := gi_at (l := x.heights) (i := (gr s.readings t).to_.toNat) (by omega)
      have x2 := gi_at (l := x.heights) (i := (gr s.readings t).from_.toNat) (by omega)
      have b1 := hsm rfl _ (List.mem_of_getElem? x1)
      have b2 := hsm rfl _ (List.mem_of_getElem? x2)
      simp only [yH, if_true]; omega
  have hab : ∀ t, t ≤ s.readings.length → (sumT s x small t).natAbs ≤ t * 243000000 := by
    intro t
    induction t with
    | zero => intro _; simp [sumT, rs]
    | succ t ih =>
      intro ht
      have ih := ih (by omega)
      have hq := (th_sq (gr_ok hs (i := t) (by omega)).2.2.2.2 (hd t (by omega))).2
      have e : sumT s x small (t + 1) = sumT s x small t + _ := rs_take _ _ _ (by omega)
      rw [e]
      omega
  unfold top_TopHeights_k8
  refine for0 s.readings.length (sumT s x small) (fun n a t => top_TopHeights_L2 s x r (partsR s, 0) (lst s) small n a t) _ (by simp [sumT, rs]) (fun n t ht => ?_) (fun n => ?_) (by omega)
  · have hx := gr_at ht
    have hr := gr_ok hs ht
    have hdt := hd t ht
    have hq := th_sq hr.2.2.2.2 hdt
    have ha := hab t (by omega)
    have e : sumT s x small (t + 1) = sumT s x small t + (gr s.readings t).weight * ((gr s.readings t).rise - yH x small (gr s.readings t).to_ + yH x small (gr s.readings t).from_) * ((gr s.readings t).rise - yH x small (gr s.readings t).to_ + yH x small (gr s.readings t).from_) := rs_take _ _ _ ht
    generalize gr s.readings t = q at *
    show top_TopHeights_B2 s x r (partsR s, 0) (lst s) small (top_TopHeights_L2 s x r (partsR s, 0) (lst s) small n) _ _ = _
    unfold top_TopHeights_B2 top_TopHeights_k7
    rw [if_pos (by omega), ix_nat hx, e]
    cases small
    · have e0 : ∀ p, yH x false p = 0 := fun p => rfl
      rw [e0, e0, Int.sub_zero, Int.add_zero] at hq hdt ⊢
      rw [if_neg (by simp), ix_nat hx, gd_pos (by omega), gd_pos (by omega), gd_pos (by omega), gd_pos (by omega)]; rfl
    · have e0 : ∀ p, yH x true p = gi x.heights p.toNat := fun p => rfl
      have x1 := gi_at (l := x.heights) (i := q.to_.toNat) (by omega)
      have x2 := gi_at (l := x.heights) (i := q.from_.toNat) (by omega)
      have b1 := hsm rfl _ (List.mem_of_getElem? x1)
      have b2 := hsm rfl _ (List.mem_of_getElem? x2)
      rw [e0, e0] at hq hdt ⊢
      rw [if_pos rfl, ix_nat hx, ix_eq hr.2.1.1 x1, gd_pos (by omega), ix_nat hx, ix_eq hr.1.1 x2, gd_pos (by omega), ix_nat hx, gd_pos (by omega), gd_pos (by omega), gd_pos (by omega), gd_pos (by omega)]; rfl
  · show top_TopHeights_B2 s x r (partsR s, 0) (lst s) small (top_TopHeights_L2 s x r (partsR s, 0) (lst s) small n) _ _ = _
    unfold top_TopHeights_B2
    rw [if_neg (by omega)]
    refine th_k6 hs (yH x small) ?_
    unfold sumT
    rw [List.take_length]
theorem th_k10 (hs : SvOk s) : top_TopHeights_k10 s x r (partsR s, 0) (lst s) false = some true := by
  have hp5 := hs.p5
  unfold top_TopHeights_k10
  rw [if_neg (by simp)]
  by_cases hl : (x.heights.length : Int) = s.points
  · rw [if_pos hl]
    refine for0 x.heights.length (fun t => (x.heights.take t).all fun v => within v (-4000) 4000) (fun n b t => top_TopHeights_L3 s x r (partsR s, 0) (lst s) n b t) _ (by simp) (fun n t ht => ?_) (fun n => ?_) (by omega)
    · have hx := gi_at ht
      have e : ((x.heights.take (t + 1)).all fun v => within v (-4000) 4000) = ((x.heights.take t).all (fun v => within v (-4000) 4000) && within (gi x.heights t) (-4000) 4000) := by
        rw [List.take_add_one, hx, List.all_append]; simp
      show top_TopHeights_B3 s x r (partsR s, 0) (lst s) (top_TopHeights_L3 s x r (partsR s, 0) (lst s) n) _ _ = _
      unfold top_TopHeights_B3 top_TopHeights_k9
      rw [if_pos (by omega), e]
      cases (x.heights.take t).all fun v => within v (-4000) 4000
      · rw [if_neg (by simp), gd_pos (by omega), Bool.false_and]; rfl
      · rw [if_pos rfl, ix_nat hx, Bool.true_and]
        by_cases h1 : (-4000 : Int) ≤ gi x.heights t
        · have : within (gi x.heights t) (-4000) 4000 = decide (gi x.heights t ≤ 4000) := by
            unfold within; simp [h1]
          rw [if_pos h1, ix_nat hx, gd_pos (by omega), this]; rfl
        · have : within (gi x.heights t) (-4000) 4000 = false := by
            unfold within; simp [h1]
          rw [if_neg h1, gd_pos (by omega), this]; rfl
    · show top_TopHeights_B3 s x r (partsR s, 0) (lst s) (top_TopHeights_L3 s x r (partsR s, 0) (lst s) n) _ _ = _
      unfold top_TopHeights_B3
      rw [if_neg (by omega)]
      refine th_k8 hs hl fun h v hv => ?_
      rw [List.take_length] at h
      exact within_iff.1 (List.all_eq_true.1 h v hv)
  · rw [if_neg hl]
    exact th_k4 hs
end
theorem law_TopHeights (s : Survey) (x : Claim) (r : Reading) (hb : s.readings.length ≤ 9223372036854775807) (hb2 : x.heights.length ≤ 9223372036854775807) : top_TopHeights s x r = some true := by
  obtain ⟨y, e, y1, y2⟩ := tri_eq
  have hk12 : top_TopHeights_k12 s x r true = some true := by unfold top_TopHeights_k12; rw [if_pos rfl]
  unfold top_TopHeights
  rw [bnd_eq e, if_pos rfl]
  show top_TopHeights_k13 s x r (!((y.num == 2) && (y.den == 3))) = _
  rw [y1, y2]
  unfold top_TopHeights_k13
  rw [if_neg (by simp), bnd_eq (Long_eq s)]
  by_cases hL : (100 : Int) < (s.readings.length : Int)
  · rw [if_pos (by simpa using hL)]; exact hk12
  rw [if_neg (by simpa using hL)]
  by_cases hT : (100 : Int) < (x.heights.length : Int)
  · rw [decide_eq_true hT]; exact hk12
  rw [decide_eq_false hT]
  unfold top_TopHeights_k12
  rw [if_neg (by simp), bnd_eq (Parts_eq s)]
  by_cases hv : validate s = 0
  · have hs := val0.1 hv
    obtain ⟨i1, i2, i3, i4, i5, i6⟩ := misfit_is hs
    have hk10 := th_k10 (x := x) (r := r) hs
    rw [bnd_eq (Misfit_eq hs), if_pos hv, if_pos rfl]
    show top_TopHeights_k11 s x r (partsR s, 0) (lst s) (!(decide ((0 : Int) = 0))) = _
    unfold top_TopHeights_k11
    rw [if_neg (by simp)]
    have e1 : (lst s).1 = red (SS s) (gD s * gD s) := rfl
    rw [e1, if_neg (by omega), if_neg (by omega), decide_eq_false (by omega)]
    exact hk10
  · rw [bnd_eq (Misfit_ne hv).1, if_neg hv, if_neg hv]
    unfold top_TopHeights_k11
    rw [if_pos rfl, decide_eq_true rfl]
end Go.D1
