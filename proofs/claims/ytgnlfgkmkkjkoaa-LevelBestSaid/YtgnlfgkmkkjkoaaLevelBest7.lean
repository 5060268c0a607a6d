/- Lemmas and walks that the proof of this claim uses: D1r4, D1r5, D1r6, D1r7. -/
import Derived.Test.YtgnlfgkmkkjkoaaLevelBest6
set_option linter.unusedVariables false
set_option linter.unusedSimpArgs false
namespace Go.D1
open Go.Tb
/-- Flows at the smallest point of a part. -/
theorem dv_root {s : Survey} (hs : SvOk s) (f : Reading → Int) (e : Int → Int) (hfree : ∀ p, 0 ≤ p → p < s.points → rtOf s p ≠ p → dv s.readings f p = e p) {q : Int} (hq : 0 ≤ q ∧ q < s.points) (hr : rtOf s q = q)
    (he : sumN (fun k => if rtOf s (k : Int) = q then e (k : Int) else 0) s.points.toNat = 0) : dv s.readings f q = e q := by
  have hg := green s.readings (fun p => if rtOf s p = q then 1 else 0) f s.points.toNat (sv_in hs)
  have h0 : rs s.readings (fun r => ((if rtOf s r.from_ = q then (1 : Int) else 0) - (if rtOf s r.to_ = q then 1 else 0)) * f r) = 0 := by
    have : rs s.readings (fun r => ((if rtOf s r.from_ = q then (1 : Int) else 0) - (if rtOf s r.to_ = q then 1 else 0)) * f r) = rs s.readings (fun _ => 0 * 0) := rs_congr fun r hr => by rw [rt_same hs hr, Int.sub_self]; simp
    rw [this, rs_mul s.readings 0 (fun _ => 0), Int.zero_mul]
  rw [h0] at hg
  have hb := sumN_but (n := s.points.toNat) (c := q.toNat) (f := fun k => (if rtOf s (k : Int) = q then 1 else 0) * dv s.readings f (k : Int) - (if rtOf s (k : Int) = q then e (k : Int) else 0)) (by omega) (fun k hk hne => by
    show (if rtOf s (k : Int) = q then (1 : Int) else 0) * dv s.readings f (k : Int) - (if rtOf s (k : Int) = q then e (k : Int) else 0) = 0
    by_cases h : rtOf s (k : Int) = q
    · rw [if_pos h, if_pos h, hfree (k : Int) (by omega) (by omega) (by omega)]; omega
    · rw [if_neg h, if_neg h]; omega)
  rw [sumN_sub, hg, he] at hb
  have hb' : (0 : Int) - 0 = (if rtOf s (q.toNat : Int) = q then 1 else 0) * dv s.readings f (q.toNat : Int) - (if rtOf s (q.toNat : Int) = q then e (q.toNat : Int) else 0) := hb
  rw [show ((q.toNat : Nat) : Int) = q by omega, if_pos hr, if_pos hr] at hb'
  omega
def freeL (s : Survey) : List Int := nodesOf s.points.toNat fun k => !decide (gi (rootsOf s) k.toNat = k)
theorem mem_free {s : Survey} (hs : SvOk s) {p : Int} : p ∈ freeL s ↔ (0 ≤ p ∧ p < s.points) ∧ rtOf s p ≠ p := by
  have hp1 := hs.p1
  unfold freeL
  rw [mem_nodesOf]
  simp only [Bool.not_eq_true', decide_eq_false_iff_not]
  unfold rtOf
  constructor <;> intro h <;> exact ⟨by omega, h.2⟩
theorem fr_free {s : Survey} (hs : SvOk s) : Fr s (freeL s) := by
  have hp5 := hs.p5
  have hp1 := hs.p1
  refine ⟨nodesOf_nodup _ _, ?_, fun p hp => ?_⟩
  · have h0 := (root_in hs (p := 0) (by omega)).1
    have : (freeL s).length < s.points.toNat := nodesOf_lt (p := 0) (by omega) (by
      have : gi (rootsOf s) (0 : Int).toNat = 0 := by have : rtOf s 0 = 0 := by omega
                                                      exact this
      simp
      exact this)
    omega
  · have h := (mem_free hs).1 hp
    have hr := root_in hs h.1
    exact ⟨rtOf s p, fun h' => ((mem_free hs).1 h').2 hr.2, (con_rt hs h.1 (by omega)).2 hr.2.symm⟩
/-- The flow of one unit from each free point, over one denominator. -/
def gD (s : Survey) : Int := Dm (Am s (freeL s) (fun _ => 0)) (freeL s).length
theorem Dm_any {s : Survey} {pts : List Int} (hn : pts.length ≤ 4) (b b' : Nat → Int) : Dm (Am s pts b) pts.length = Dm (Am s pts b') pts.length :=
  Dm_congr hn fun i j hi hj => by unfold Am; rw [if_pos hj, if_pos hj]
theorem gD_ok {s : Survey} (hs : SvOk s) : 0 < gD s ∧ gD s ≤ 20736 := by
  have hF := fr_free hs
  have hn := hF.n4
  have hb := rh_unit s (freeL s) 0
  have h1 := D_pos (b := fun _ => 0) hs hF _ (Nat.le_refl _)
  have h2 := (sol_of hs hF hb).D20736
  rw [Dm_any hn _ (fun _ => 0)] at h2
  unfold gD
  omega
theorem rs_take (f : Reading → Int) : ∀ (l : List Reading) (i : Nat), i < l.length → rs (l.take (i + 1)) f = rs (l.take i) f + f (gr l i)
  | [], i, h => by simp at h
  | x :: l, 0, h => by simp [rs, gr]
  | x :: l, i + 1, h => by
    have ih := rs_take f l i (by simpa using h)
    have e : gr (x :: l) (i + 1) = gr l i := by simp [gr]
    rw [e, List.take_succ_cons, List.take_succ_cons]
    simp only [rs]
    rw [ih]; omega
end Go.D1

set_option linter.unusedVariables false
set_option linter.unusedSimpArgs false
namespace Go.D1
open Go.Tb
/-- Heights h / D whose residuals balance at each point. -/
structure BH (s : Survey) (h : Int → Int) (D : Int) : Prop where
  pos : 0 < D
  root : ∀ p, 0 ≤ p → p < s.points → rtOf s p = p → h p = 0
  dv : ∀ p, 0 ≤ p → p < s.points → dv s.readings (fun r => r.weight * (h r.from_ - h r.to_ + D * r.rise)) p = 0
/-- What the rises ask of the points of a list. -/
def rB (s : Survey) (pts : List Int) (k : Nat) : Int := -dv s.readings (fun r => r.weight * r.rise) (gi pts k)
theorem rh_rise {s : Survey} (hs : SvOk s) (pts : List Int) : Rh s pts (rB s pts) (fun r => r.rise) 1000 0 (-1) := by
  refine ⟨by omega, by omega, by omega, fun r hr => ?_, fun j hj => ?_⟩
  · have := (hs.rd r hr).2.2.2.1; omega
  · unfold rB; split <;> omega
def hX (s : Survey) (pts : List Int) (p : Int) : Int := ext pts (Xb (Am s pts (rB s pts)) pts.length pts.length) p
theorem hX_dv {s : Survey} (hs : SvOk s) {pts : List Int} (hF : Fr s pts) {q : Int} (hq : q ∈ pts) : dv s.readings (fun r => r.weight * (hX s pts r.from_ - hX s pts r.to_ + Dm (Am s pts (rB s pts)) pts.length * r.rise)) q = 0 := by
  have hn := hF.n4
  obtain ⟨m, hm, e⟩ := gi_ex hq
  have h1 := Xb_dv hs hF (rh_rise hs pts) (i := pts.length) (j := m) (Nat.le_refl _) hm
  rw [cramer _ (by omega) hm, e] at h1
  have h2 : (if q = -1 then Dm (Am s pts (rB s pts)) pts.length * 0 else 0) - (0 : Int) = 0 := by split <;> omega
  rw [h2] at h1
  exact h1
theorem hX_abs {s : Survey} (hs : SvOk s) {pts : List Int} (hF : Fr s pts) (p : Int) : (hX s pts p).natAbs ≤ 4000 * (Dm (Am s pts (rB s pts)) pts.length).natAbs := by
  by_cases hp : p ∈ pts
  · obtain ⟨k, hk, e⟩ := gi_ex hp
    have h1 := Nb_small hs hF (rh_rise hs pts) (i := pts.length) (k := k) (Nat.le_refl _) hk
    have hD := D_pos (b := rB s pts) hs hF _ (Nat.le_refl _)
    have hn := hF.n4
    have h2 : hX s pts p = Xb (Am s pts (rB s pts)) pts.length pts.length k := by unfold hX; rw [← e, ext_at hF.nd _ hk]
    rw [h2]
    generalize Xb (Am s pts (rB s pts)) pts.length pts.length k = X at *
    generalize Dm (Am s pts (rB s pts)) pts.length = D at *
    have h3 : (pts.length : Int) * (D * (1000 + 0)) ≤ 4 * (D * (1000 + 0)) := Int.mul_le_mul_of_nonneg_right (by omega) (by omega)
    omega
  · have : hX s pts p = 0 := ext_out _ hp
    rw [this]; omega
def hB (s : Survey) (p : Int) : Int := hX s (freeL s) p
theorem gD_r {s : Survey} (hs : SvOk s) : Dm (Am s (freeL s) (rB s (freeL s))) (freeL s).length = gD s := Dm_any (fr_free hs).n4 _ _
theorem bh_best {s : Survey} (hs : SvOk s) : BH s (hB s) (gD s) := by
  have hF := fr_free hs
  refine ⟨(gD_ok hs).1, fun p p0 p1 hr => ext_out _ fun h => ((mem_free hs).1 h).2 hr, fun p p0 p1 => ?_⟩
  have hfree : ∀ p, 0 ≤ p → p < s.points → rtOf s p ≠ p → dv s.readings (fun r => r.weight * (hB s r.from_ - hB s r.to_ + gD s * r.rise)) p = 0 := fun p p0 p1 hp => by
    have := hX_dv hs hF ((mem_free hs).2 ⟨⟨p0, p1⟩, hp⟩)
    rw [gD_r hs] at this
    exact this
  by_cases hp : rtOf s p = p
  · exact dv_root hs _ (fun _ => 0) hfree ⟨p0, p1⟩ hp (sumN_zero fun k _ => by split <;> rfl)
  · exact hfree p p0 p1 hp
theorem hB_abs {s : Survey} (hs : SvOk s) (p : Int) : (hB s p).natAbs ≤ 4000 * (gD s).natAbs := by
  have := hX_abs hs (fr_free hs) p
  rw [gD_r hs] at this
  exact this
/-- The heights of one part alone. -/
theorem part_best {s : Survey} (hs : SvOk s) {q : Int} (hq : 0 ≤ q ∧ q < s.points) (hr : rtOf s q = q) {p : Int} (hp : p ∈ oneOf s q) :
    hX s (oneOf s q) p * gD s = hB s p * Dm (Am s (oneOf s q) (rB s (oneOf s q))) (oneOf s q).length := by
  have hF := fr_one hs hq
  have hbest := bh_best hs
  have hpp := (mem_oneOf hs).1 hp
  have hc := (con_rt hs hpp.1 hq).2 hpp.2.1
  have hdvq := fun (x : Int) (hx : x ∈ oneOf s q) => hX_dv hs hF hx
  have hq0 : hX s (oneOf s q) q = 0 := ext_out _ fun h => ((mem_oneOf hs).1 h).2.2 rfl
  generalize hX s (oneOf s q) = X at *
  generalize Dm (Am s (oneOf s q) (rB s (oneOf s q))) (oneOf s q).length = E at *
  have hin : ∀ x, 0 ≤ x → x < s.points → rtOf s x ≠ x → dv s.readings (fun r => r.weight * ((if rtOf s r.from_ = q then X r.from_ * gD s - hB s r.from_ * E else 0) - (if rtOf s r.to_ = q then X r.to_ * gD s - hB s r.to_ * E else 0))) x = 0 := fun x x0 x1 hx => by
    by_cases hxq : rtOf s x = q
    · have hm : x ∈ oneOf s q := (mem_oneOf hs).2 ⟨⟨x0, x1⟩, by rw [hxq, hr], fun e => hx (by rw [hxq, e])⟩
      have e : dv s.readings (fun r => r.weight * ((if rtOf s r.from_ = q then X r.from_ * gD s - hB s r.from_ * E else 0) - (if rtOf s r.to_ = q then X r.to_ * gD s - hB s r.to_ * E else 0))) x = dv s.readings (fun r => gD s * (r.weight * (X r.from_ - X r.to_ + E * r.rise)) - E * (r.weight * (hB s r.from_ - hB s r.to_ + gD s * r.rise))) x := by
        refine dv_touch fun r hr' htouch => ?_
        have hsame := rt_same hs hr'
        have h1 : rtOf s r.from_ = q ∧ rtOf s r.to_ = q := by
          rcases htouch with e | e
          · rw [← hsame, e, hxq]; exact ⟨rfl, rfl⟩
          · rw [hsame, e, hxq]; exact ⟨rfl, rfl⟩
        simp only [if_pos h1.1, if_pos h1.2]
        grind
      rw [e, dv_sub, dv_mul, dv_mul, hdvq x hm, hbest.dv x x0 x1]; omega
    · rw [← dv_zero s.readings x]
      refine dv_touch fun r hr' htouch => ?_
      have hsame := rt_same hs hr'
      have h1 : rtOf s r.from_ ≠ q ∧ rtOf s r.to_ ≠ q := by
        rcases htouch with e | e
        · rw [← hsame, e]; exact ⟨hxq, hxq⟩
        · rw [hsame, e]; exact ⟨hxq, hxq⟩
      simp only [if_neg h1.1, if_neg h1.2]; simp
  have := flat_con hs (u := fun p => if rtOf s p = q then X p * gD s - hB s p * E else 0) (fun x x0 x1 => by
    by_cases hx : rtOf s x = x
    · exact dv_root hs _ (fun _ => 0) hin ⟨x0, x1⟩ hx (sumN_zero fun k _ => by split <;> rfl)
    · exact hin x x0 x1 hx) hc
  rw [if_pos (by rw [hpp.2.1, hr]), if_pos hr, hq0, hbest.root q hq.1 hq.2 hr] at this
  omega
def bestV (s : Survey) (p : Int) : Rat := red (hB s p) (gD s)
theorem bestV_is {s : Survey} (hs : SvOk s) (p : Int) : Is (bestV s p) (hB s p) (gD s) := .red (by have := gD_ok hs; omega)
theorem bestV_root {s : Survey} (hs : SvOk s) {p : Int} (hp : 0 ≤ p ∧ p < s.points) (hr : rtOf s p = p) : bestV s p = ⟨0, 1⟩ := by
  have hG := gD_ok hs
  have h := bestV_is hs p
  rw [(bh_best hs).root p hp.1 hp.2 hr] at h
  exact h.uniq (by omega) ((is_int 0).of_eq (by omega) (by omega))
theorem dv_take (f : Reading → Int) (p : Int) : ∀ (l : List Reading) (i : Nat), i < l.length → dv (l.take (i + 1)) f p = dv (l.take i) f p + ((if (gr l i).from_ = p then f (gr l i) else 0) - (if (gr l i).to_ = p then f (gr l i) else 0))
  | [], i, h => by simp at h
  | x :: l, 0, h => by simp [dv, gr]
  | x :: l, i + 1, h => by
    have ih := dv_take f p l i (by simpa using h)
    have e : gr (x :: l) (i + 1) = gr l i := by simp [gr]
    rw [e, List.take_succ_cons, List.take_succ_cons]
    simp only [dv]
    rw [ih]; omega
def dw (s : Survey) (p : Int) (i : Nat) : Int := -dv (s.readings.take i) (fun r => r.weight * r.rise) p
theorem dw_succ {s : Survey} (p : Int) {i : Nat} (h : i < s.readings.length) : dw s p (i + 1) = dw s p i + ((if (gr s.readings i).to_ = p then (gr s.readings i).weight * (gr s.readings i).rise else 0) - (if (gr s.readings i).from_ = p then (gr s.readings i).weight * (gr s.readings i).rise else 0)) := by
  unfold dw
  rw [dv_take _ _ _ _ h]; omega
theorem wr_abs {s : Survey} (hs : SvOk s) {i : Nat} (h : i < s.readings.length) : ((gr s.readings i).weight * (gr s.readings i).rise).natAbs ≤ 3000 := by
  have := gr_ok hs h
  exact na_mul (A := 3) (B := 1000) (by omega) (by omega)
theorem dw_abs {s : Survey} (hs : SvOk s) (p : Int) : ∀ i, i ≤ s.readings.length → (dw s p i).natAbs ≤ i * 3000
  | 0, _ => by simp [dw, dv]
  | i + 1, hi => by
    have ih := dw_abs hs p i (by omega)
    have hw := wr_abs hs (i := i) (by omega)
    have hne := (gr_ok hs (i := i) (by omega)).2.2.1
    rw [dw_succ p (by omega)]
    generalize (gr s.readings i).weight * (gr s.readings i).rise = x at *
    split <;> split <;> omega
theorem dw_end (s : Survey) (pts : List Int) (k : Nat) : dw s (gi pts k) s.readings.length = rB s pts k := by unfold dw rB; rw [List.take_length]
theorem best_1_eq {s : Survey} (hs : SvOk s) (pts : List Int) (k : Nat) : level_best_1 s (gi pts k) = some (rB s pts k) := by
  have h8 := hs.len
  unfold level_best_1
  rw [← dw_end]
  refine for0 s.readings.length (dw s (gi pts k)) (fun n x i => level_best_1_L1 (gi pts k) s n x i) _ (by simp [dw, dv]) (fun n i hi => ?_) (fun n => ?_) (by omega)
  · have hr := gr_ok hs hi
    have hw := wr_abs hs hi
    have ha := dw_abs hs (gi pts k) i (by omega)
    show level_best_1_B1 (gi pts k) s (level_best_1_L1 (gi pts k) s n) _ _ = _
    unfold level_best_1_B1 level_best_1_k2
    rw [if_pos (by omega), ix_nat (gr_at hi), dw_succ _ hi]
    by_cases h1 : gi pts k = (gr s.readings i).to_
    · rw [if_pos h1, gd_pos (by omega), gd_pos (by omega), gd_pos (by omega), if_pos h1.symm, if_neg (by omega), Int.sub_zero]; rfl
    · rw [if_neg h1, if_neg (show ¬ (gr s.readings i).to_ = gi pts k by omega)]
      by_cases h2 : gi pts k = (gr s.readings i).from_
      · rw [if_pos h2, gd_pos (by omega), gd_pos (by omega), gd_pos (by omega), if_pos h2.symm, show ∀ x y : Int, x + (0 - y) = x - y from fun x y => by omega]; rfl
      · rw [if_neg h2, if_neg (show ¬ (gr s.readings i).from_ = gi pts k by omega), gd_pos (by omega), Int.sub_zero, Int.add_zero]; rfl
  · show level_best_1_B1 (gi pts k) s (level_best_1_L1 (gi pts k) s n) _ _ = _
    unfold level_best_1_B1 level_best_1_k1
    rw [if_neg (by omega)]
theorem iota_sorted (n : Nat) : (iota n).Pairwise (· < ·) := by
  induction n with
  | zero => exact List.Pairwise.nil
  | succ n ih =>
    rw [iota_succ, List.pairwise_append]
    refine ⟨ih, by simp, fun a ha b hb => ?_⟩
    have := mem_iota.1 ha
    simp at hb
    omega
theorem part_drop {s : Survey} (hs : SvOk s) {q : Int} (hq : 0 ≤ q ∧ q < s.points) (hr : rtOf s q = q) : 1 ≤ (partOf (rootsOf s) q).length ∧ (partOf (rootsOf s) q).drop 1 = oneOf s q := by
  have hm : q ∈ partOf (rootsOf s) q := (part_mem hs).2 ⟨hq, hr⟩
  have hnd := part_nodup (s := s) q
  have hso : (partOf (rootsOf s) q).Pairwise (· < ·) := (iota_sorted _).filter _
  have hcut := part_cut hs q
  rw [hr] at hcut
  have hmem := fun x => part_mem hs (q := q) (p := x)
  generalize partOf (rootsOf s) q = l at *
  cases l with
  | nil => simp at hm
  | cons x l =>
    have hx := (hmem x).1 (by simp)
    have hle := (root_in hs hx.1).1
    have hxq : x = q := by
      rcases List.mem_cons.1 hm with h | h
      · exact h.symm
      · have := (List.pairwise_cons.1 hso).1 q h
        omega
    refine ⟨by simp, ?_⟩
    have := cut_filter (j := q) (x :: l) 0 hnd (by simp) hxq
    rw [← hcut, ← this]; rfl
theorem level_best_eq {s : Survey} (hs : SvOk s) : ∃ l, level_best s = some l ∧ l.length = s.points.toNat ∧ ∀ p : Nat, p < s.points.toNat → rt l p = bestV s p := by
  have hp1 := hs.p1
  have hp5 := hs.p5
  have hPl := parts_len hs
  have hG := gD_ok hs
  unfold level_best
  have hrep : slices_Repeat_Rat ([(⟨0, 1⟩ : Rat)] : List Rat) s.points = some (List.replicate s.points.toNat ⟨0, 1⟩) := by
    show gd (1 ≤ s.points ∧ s.points ≤ 8) _ = _
    rw [gd_pos (by omega)]
  rw [bnd_eq hrep, bnd_eq (parts_eq hs)]
  obtain ⟨l, ⟨l1, l2⟩, l3⟩ := ex_loop (partsR s).length (fun t (l : List Rat) => l.length = s.points.toNat ∧ ∀ p : Nat, p < s.points.toNat → ((rtOf s p = p ∨ ∃ t' x, t' < t ∧ (partsR s)[t']? = some x ∧ (p : Int) ∈ x) → rt l p = bestV s p))
    (fun n l t => level_best_L2 s (partsR s) n t l) (fun l => some l) (fun n t l ht ⟨i1, i2⟩ => by
      have hx : (partsR s)[t]? = some (partsR s)[t] := List.getElem?_eq_getElem ht
      generalize (partsR s)[t] = pt at hx
      obtain ⟨q, hq1, hq2, rfl⟩ := (parts_mem hs).1 (List.mem_of_getElem? hx)
      obtain ⟨d1, d2⟩ := part_drop hs hq1 hq2
      have hF := fr_one hs hq1
      have hn := hF.n4
      obtain ⟨m, xs, m', b1, b2, b3, b4⟩ := bal_solve hs hF (rh_rise hs (oneOf s q)) (f := fun x5 => level_best_1 s x5) (fun k hk => best_1_eq hs _ k)
      have hval : ∀ k, k < (oneOf s q).length → rt xs k = bestV s (gi (oneOf s q) k) := fun k hk => by
        have h1 := b4 k hk
        have h2 := part_best hs hq1 hq2 (gi_mem hk)
        have hD := D_pos (b := rB s (oneOf s q)) hs hF _ (Nat.le_refl _)
        have h3 : hX s (oneOf s q) (gi (oneOf s q) k) = Nm (Am s (oneOf s q) (rB s (oneOf s q))) (oneOf s q).length k (oneOf s q).length := by
          unfold hX
          rw [ext_at hF.nd _ hk]
          unfold Xb
          rw [if_pos hk]
        rw [h3] at h2
        exact (h1.of_eq (by omega) h2).red_eq (by omega)
      obtain ⟨l', ⟨j1, j2, j3⟩, j4⟩ := ex_loop (oneOf s q).length (fun k (l : List Rat) => l.length = s.points.toNat ∧ (∀ p : Nat, p < s.points.toNat → ((rtOf s p = p ∨ ∃ t' x, t' < t ∧ (partsR s)[t']? = some x ∧ (p : Int) ∈ x) → rt l p = bestV s p)) ∧ ∀ k', k' < k → rt l (gi (oneOf s q) k').toNat = bestV s (gi (oneOf s q) k'))
        (fun n' l k => level_best_L1 (t : Int) (level_best_L2 s (partsR s) n) (partOf (rootsOf s) q) (xs, m') n' k l) (fun l => level_best_L2 s (partsR s) n ((t + 1 : Nat) : Int) l) (fun n' k l hk ⟨k1, k2, k3⟩ => by
          have hmk := (mem_oneOf hs).1 (gi_mem hk)
          have hset : ∀ p : Nat, p < s.points.toNat → rt (l.set (gi (oneOf s q) k).toNat (rt xs k)) p = if (gi (oneOf s q) k).toNat = p then bestV s p else rt l p := fun p hp => by
            rw [rt_set]
            by_cases e : (gi (oneOf s q) k).toNat = p
            · rw [if_pos ⟨e, by omega⟩, if_pos e, hval k hk, ← e, show (((gi (oneOf s q) k).toNat : Nat) : Int) = gi (oneOf s q) k by omega]
            · rw [if_neg (by omega), if_neg e]
          refine ⟨l.set (gi (oneOf s q) k).toNat (rt xs k), ⟨by rw [List.length_set, k1], fun p hp h => ?_, fun k' hk' => ?_⟩, ?_⟩
          · rw [hset p hp]
            split
            · rfl
            · exact k2 p hp h
          · have hmk' := (mem_oneOf hs).1 (gi_mem (show k' < (oneOf s q).length by omega))
            rw [hset _ (by omega)]
            split
            · rw [show (((gi (oneOf s q) k').toNat : Nat) : Int) = gi (oneOf s q) k' by omega]
            · rename_i hne
              have hkk : k' ≠ k := fun e => hne (by rw [e])
              exact k3 k' (by omega)
          · show level_best_B1 (t : Int) (level_best_L2 s (partsR s) n) (partOf (rootsOf s) q) (xs, m') (level_best_L1 (t : Int) (level_best_L2 s (partsR s) n) (partOf (rootsOf s) q) (xs, m') n') _ _ = _
            unfold level_best_B1
            have hd' : List.drop (Int.toNat 1) (partOf (rootsOf s) q) = oneOf s q := d2
            rw [hd', if_pos (by omega), ix_nat (gi_at hk), ix_nat (rt_at (show k < xs.length by omega)), ix_eq hmk.1.1 (rt_at (show (gi (oneOf s q) k).toNat < l.length by omega)), gd_pos (by omega)]; rfl) (fun n' l ⟨k1, k2, k3⟩ => by
          show level_best_B1 (t : Int) (level_best_L2 s (partsR s) n) (partOf (rootsOf s) q) (xs, m') (level_best_L1 (t : Int) (level_best_L2 s (partsR s) n) (partOf (rootsOf s) q) (xs, m') n') _ _ = _
          unfold level_best_B1 level_best_k2
          have hd' : List.drop (Int.toNat 1) (partOf (rootsOf s) q) = oneOf s q := d2
          rw [hd', if_neg (by omega), gd_pos (by omega)]; rfl) (by omega) (i0 := 0) (by omega) (s0 := l) ⟨i1, i2, fun k' h => by omega⟩
      refine ⟨l', ⟨j1, fun p hp h => ?_⟩, ?_⟩
      · rcases h with h | ⟨t', x, ht', hx', hpx⟩
        · exact j2 p hp (.inl h)
        · by_cases e : t' = t
          · subst e
            rw [hx] at hx'
            cases hx'
            have hpm := (part_mem hs).1 hpx
            by_cases e2 : (p : Int) = q
            · exact j2 p hp (.inl (by rw [hpm.2, e2]))
            · obtain ⟨k, hk, hkp⟩ := gi_ex ((mem_oneOf hs).2 ⟨hpm.1, by rw [hpm.2, hq2], e2⟩)
              have := j3 k hk
              rw [hkp, Int.toNat_natCast] at this
              exact this
          · exact j2 p hp (.inr ⟨t', x, by omega, hx', hpx⟩)
      · show level_best_B2 s (partsR s) (level_best_L2 s (partsR s) n) _ _ = _
        unfold level_best_B2
        have hd' : List.drop (Int.toNat 1) (partOf (rootsOf s) q) = oneOf s q := d2
        rw [if_pos (by omega), ix_nat hx, gd_pos (by omega), hd', bnd_eq b1, bnd_eq b2, gd_pos (by omega)]
        exact j4) (fun n l _ => by
      show level_best_B2 s (partsR s) (level_best_L2 s (partsR s) n) _ _ = _
      unfold level_best_B2 level_best_k1
      rw [if_neg (by omega)]) (by omega) (i0 := 0) (by omega) (s0 := List.replicate s.points.toNat ⟨0, 1⟩) ⟨by simp, fun p hp h => by
        rcases h with h | ⟨_, _, h, _⟩
        · rw [bestV_root hs (by omega) h]
          simp [rt, List.getD_eq_getElem?_getD, hp]
        · omega⟩
  refine ⟨l, l3, l1, fun p hp => l2 p hp (.inr ?_)⟩
  have hpp : 0 ≤ (p : Int) ∧ (p : Int) < s.points := by omega
  have hr := root_in hs hpp
  have hin : partOf (rootsOf s) (rtOf s p) ∈ partsR s := (parts_mem hs).2 ⟨rtOf s p, by omega, hr.2, rfl⟩
  obtain ⟨t', ht', e⟩ := List.getElem_of_mem hin
  exact ⟨t', _, ht', by rw [List.getElem?_eq_getElem ht', e], (part_mem hs).2 ⟨hpp, rfl⟩⟩
def bestL (s : Survey) : List Rat := (iota s.points.toNat).map (bestV s)
theorem best_list {s : Survey} {l : List Rat} (h1 : l.length = s.points.toNat) (h2 : ∀ p : Nat, p < s.points.toNat → rt l p = bestV s p) : l = bestL s := by
  apply List.ext_getElem?
  intro p
  by_cases hp : p < s.points.toNat
  · rw [rt_at (by omega), h2 p hp]
    unfold bestL
    rw [List.getElem?_map, gi_at (by rw [iota_len]; exact hp), iota_gi hp]; rfl
  · rw [List.getElem?_eq_none (by omega), List.getElem?_eq_none (by unfold bestL; rw [List.length_map, iota_len]; omega)]
theorem lbest_eq {s : Survey} (hs : SvOk s) : level_best s = some (bestL s) := by
  obtain ⟨l, h1, h2, h3⟩ := level_best_eq hs
  rw [h1, best_list h2 h3]
end Go.D1

set_option linter.unusedVariables false
set_option linter.unusedSimpArgs false
namespace Go.D1
open Go.Tb
theorem free_eq {s : Survey} (hs : SvOk s) : ref01_free s = some (freeL s) := by
  have hp1 := hs.p1
  have hp5 := hs.p5
  have hl := (rootsOf_ok hs).len
  unfold ref01_free
  rw [bnd_eq (whole_eq hs)]
  refine for0 s.points.toNat (fun q => nodesOf q fun k => !decide (gi (rootsOf s) k.toNat = k)) (fun k l q => ref01_free_L1 s (rootsOf s) k q l) _ rfl (fun k q hq => ?_) (fun k => ?_) (by omega)
  · have hll := nodesOf_len q fun k => !decide (gi (rootsOf s) k.toNat = k)
    show ref01_free_B1 s (rootsOf s) (ref01_free_L1 s (rootsOf s) k) _ _ = _
    unfold ref01_free_B1 ref01_free_k2
    rw [if_pos (by omega), ix_nat (gi_at (by omega)), nodesOf_succ]
    by_cases h : gi (rootsOf s) q = (q : Int)
    · rw [if_pos h, gd_pos (by omega), if_neg (by simp [h]), List.append_nil]; rfl
    · rw [if_neg h, gd_pos (by simp; omega), gd_pos (by omega), if_pos (by simpa using h)]; rfl
  · show ref01_free_B1 s (rootsOf s) (ref01_free_L1 s (rootsOf s) k) _ _ = _
    unfold ref01_free_B1 ref01_free_k1
    rw [if_neg (by omega)]; rfl
theorem rB_abs {s : Survey} (hs : SvOk s) (pts : List Int) (k : Nat) : (rB s pts k).natAbs ≤ 24000 := by
  have h8 := hs.len
  have := dw_abs hs (gi pts k) s.readings.length (Nat.le_refl _)
  rw [dw_end] at this
  omega
/-- The table with one column changed. -/
def chg (s : Survey) (pts : List Int) (k t : Nat) : List (List Int) := (List.range t).map fun i => (lrow s pts i).set k (rB s pts i)
theorem lrow_at {s : Survey} {pts : List Int} {i : Nat} (hi : i < pts.length) : (lapR s pts)[i]? = some (lrow s pts i) := by
  unfold lapR
  rw [List.getElem?_map, List.getElem?_range hi]; rfl
theorem lrow_ok {s : Survey} (hs : SvOk s) {pts : List Int} {i : Nat} (hi : i < pts.length) : (lrow s pts i).length = pts.length ∧ ∀ x ∈ lrow s pts i, -24 ≤ x ∧ x ≤ 24 :=
  (lap_sq hs pts).row _ (List.mem_of_getElem? (lrow_at hi))
theorem chg_sq {s : Survey} (hs : SvOk s) (pts : List Int) (k : Nat) : Sq pts.length 24000 (chg s pts k pts.length) := by
  refine ⟨by unfold chg; simp, fun r hr => ?_⟩
  unfold chg at hr
  obtain ⟨i, hi, rfl⟩ := List.mem_map.1 hr
  have hl := lrow_ok hs (pts := pts) (i := i) (by simpa using hi)
  refine ⟨by rw [List.length_set]; exact hl.1, fun x hx => ?_⟩
  rcases List.mem_or_eq_of_mem_set hx with h | rfl
  · have := hl.2 x h; omega
  · have := rB_abs hs pts i; omega
theorem chg_dt {s : Survey} {pts : List Int} (hn : pts.length ≤ 4) {k : Nat} (hk : k < pts.length) : dt pts.length (chg s pts k pts.length) = Nm (Am s pts (rB s pts)) pts.length k pts.length := by
  rw [dt_dtf, dtf_Dm hn, Nm_Dm hn hk]
  refine Dm_congr hn fun i j hi hj => ?_
  have h1 : gl (chg s pts k pts.length) i = (lrow s pts i).set k (rB s pts i) := by
    unfold gl chg
    rw [List.getD_eq_getElem?_getD, List.getElem?_map, List.getElem?_range hi]; rfl
  have h2 : gi (lrow s pts i) j = lent s pts i j := by
    have := en_lap (s := s) hi hj
    unfold en at this
    have e : gl (lapR s pts) i = lrow s pts i := by
      unfold gl
      rw [List.getD_eq_getElem?_getD, lrow_at hi]; rfl
    rw [e] at this
    exact this
  unfold en
  rw [h1, gi_set]
  have hll : (lrow s pts i).length = pts.length := by unfold lrow; simp
  by_cases e : j = k
  · subst e
    rw [if_pos ⟨rfl, by omega⟩]
    simp only [if_true]
    unfold Am; rw [if_neg (by omega)]
  · rw [if_neg (by omega), h2, if_neg e]
    unfold Am; rw [if_pos hj]
theorem chg_det {s : Survey} (hs : SvOk s) {pts : List Int} (hn : pts.length ≤ 4) {k : Nat} (hk : k < pts.length) : ref01_det (chg s pts k pts.length) = some (Nm (Am s pts (rB s pts)) pts.length k pts.length) := by
  rw [← chg_dt hn hk]
  have hbd : ∀ m, m < 5 → bd 24000 m ≤ 9223372036854775807 := by decide
  exact det_F_eq (B := 24000) (by omega) pts.length FU _ (by omega) (hbd _ (by omega)) (chg_sq hs pts k) (by have := FU_pos; omega)
def rbL (s : Survey) (pts : List Int) (t : Nat) : List Int := (List.range t).map (rB s pts)
theorem rbL_gi {s : Survey} {pts : List Int} {t i : Nat} (h : i < t) : (rbL s pts t)[i]? = some (rB s pts i) := by
  unfold rbL
  rw [List.getElem?_map, List.getElem?_range h]; rfl
theorem rbest_eq {s : Survey} (hs : SvOk s) : ref01_best s = some ((iota s.points.toNat).map (hB s), gD s) := by
  have hp1 := hs.p1
  have hp5 := hs.p5
  have h8 := hs.len
  have hF := fr_free hs
  have hn := hF.n4
  unfold ref01_best
  rw [bnd_eq (free_eq hs), bnd_eq (laplace_eq hs (by omega))]
  refine for0 (freeL s).length (rbL s (freeL s)) (fun k l i => ref01_best_L4 s (freeL s) (lapR s (freeL s)) k i l) _ rfl (fun k i hi => ?_) (fun k => ?_) (by omega)
  · show ref01_best_B4 s (freeL s) (lapR s (freeL s)) (ref01_best_L4 s (freeL s) (lapR s (freeL s)) k) _ _ = _
    unfold ref01_best_B4
    rw [if_pos (by omega)]
    refine for0 s.readings.length (dw s (gi (freeL s) i)) (fun n x t => ref01_best_L3 s (freeL s) (i : Int) (rbL s (freeL s) i) (ref01_best_L4 s (freeL s) (lapR s (freeL s)) k) n x t) _ (by simp [dw, dv]) (fun n t ht => ?_) (fun n => ?_) (by omega)
    · have hr := gr_ok hs ht
      have hw := wr_abs hs ht
      have ha := dw_abs hs (gi (freeL s) i) t (by omega)
      show ref01_best_B3 s (freeL s) (i : Int) (rbL s (freeL s) i) (ref01_best_L4 s (freeL s) (lapR s (freeL s)) k) (ref01_best_L3 s (freeL s) (i : Int) (rbL s (freeL s) i) (ref01_best_L4 s (freeL s) (lapR s (freeL s)) k) n) _ _ = _
      unfold ref01_best_B3 ref01_best_k8 ref01_best_k7
      rw [if_pos (by omega), ix_nat (gr_at ht), ix_nat (gi_at hi), dw_succ _ ht]
      by_cases h1 : (gr s.readings t).to_ = gi (freeL s) i
      · have h2 : ¬ (gr s.readings t).from_ = gi (freeL s) i := by omega
        rw [if_pos h1, gd_pos (by omega), gd_pos (by omega), ix_nat (gi_at hi), if_neg h2, gd_pos (by omega), if_pos h1, if_neg h2, Int.sub_zero]; rfl
      · rw [if_neg h1, ix_nat (gi_at hi)]
        by_cases h2 : (gr s.readings t).from_ = gi (freeL s) i
        · rw [if_pos h2, gd_pos (by omega), gd_pos (by omega), gd_pos (by omega), if_neg h1, if_pos h2, show ∀ x y : Int, x + (0 - y) = x - y from fun x y => by omega]; rfl
        · rw [if_neg h2, gd_pos (by omega), if_neg h1, if_neg h2, Int.sub_zero, Int.add_zero]; rfl
    · show ref01_best_B3 s (freeL s) (i : Int) (rbL s (freeL s) i) (ref01_best_L4 s (freeL s) (lapR s (freeL s)) k) (ref01_best_L3 s (freeL s) (i : Int) (rbL s (freeL s) i) (ref01_best_L4 s (freeL s) (lapR s (freeL s)) k) n) _ _ = _
      have hlen : (rbL s (freeL s) i).length = i := by unfold rbL; simp
      unfold ref01_best_B3 ref01_best_k6 ref01_best_k5
      rw [if_neg (by omega), gd_pos (by simp; omega), gd_pos (by omega), dw_end]
      have : rbL s (freeL s) (i + 1) = rbL s (freeL s) i ++ [rB s (freeL s) i] := by unfold rbL; rw [List.range_succ, List.map_append]; rfl
      rw [this]; rfl
  · show ref01_best_B4 s (freeL s) (lapR s (freeL s)) (ref01_best_L4 s (freeL s) (lapR s (freeL s)) k) _ _ = _
    unfold ref01_best_B4 ref01_best_k4
    rw [if_neg (by omega), gd_pos (by omega)]
    obtain ⟨l, ⟨l1, l2⟩, l3⟩ := ex_loop (freeL s).length (fun t (l : List Int) => l.length = s.points.toNat ∧ ∀ p : Nat, p < s.points.toNat → gi l p = ext (freeL s) (fun j => if j < t then Nm (Am s (freeL s) (rB s (freeL s))) (freeL s).length j (freeL s).length else 0) p)
      (fun n l t => ref01_best_L2 (freeL s) (lapR s (freeL s)) (rbL s (freeL s) (freeL s).length) n t l) (fun l => some (l, gD s)) (fun n t l ht ⟨i1, i2⟩ => by
        have hm := (mem_free hs).1 (gi_mem ht)
        refine ⟨l.set (gi (freeL s) t).toNat (Nm (Am s (freeL s) (rB s (freeL s))) (freeL s).length t (freeL s).length), ⟨by rw [List.length_set, i1], fun p hp => ?_⟩, ?_⟩
        · rw [gi_set]
          by_cases e : (gi (freeL s) t).toNat = p
          · have e' : (p : Int) = gi (freeL s) t := by omega
            rw [if_pos ⟨e, by omega⟩, e', ext_at hF.nd _ ht, if_pos (by omega)]
          · rw [if_neg (by omega), i2 p hp]
            unfold ext
            refine sumN_congr fun j hj => ?_
            by_cases e2 : j = t
            · subst e2
              rw [if_neg (by omega), if_neg (by omega)]
            · by_cases e3 : j < t
              · simp only []
                rw [if_pos e3, if_pos (show j < t + 1 by omega)]
              · simp only []
                rw [if_neg e3, if_neg (show ¬ j < t + 1 by omega)]
        · show ref01_best_B2 (freeL s) (lapR s (freeL s)) (rbL s (freeL s) (freeL s).length) (ref01_best_L2 (freeL s) (lapR s (freeL s)) (rbL s (freeL s) (freeL s).length) n) _ _ = _
          unfold ref01_best_B2
          rw [if_pos (by omega)]
          refine for0 (freeL s).length (chg s (freeL s) t) (fun n' m i => ref01_best_L1 (freeL s) (lapR s (freeL s)) (rbL s (freeL s) (freeL s).length) (t : Int) l (ref01_best_L2 (freeL s) (lapR s (freeL s)) (rbL s (freeL s) (freeL s).length) n) n' i m) _ rfl (fun n' i hi => ?_) (fun n' => ?_) (by omega)
          · show ref01_best_B1 (freeL s) (lapR s (freeL s)) (rbL s (freeL s) (freeL s).length) (t : Int) l (ref01_best_L2 (freeL s) (lapR s (freeL s)) (rbL s (freeL s) (freeL s).length) n) (ref01_best_L1 (freeL s) (lapR s (freeL s)) (rbL s (freeL s) (freeL s).length) (t : Int) l (ref01_best_L2 (freeL s) (lapR s (freeL s)) (rbL s (freeL s) (freeL s).length) n) n') _ _ = _
            have hll := (lrow_ok hs hi).1
            have hlap : (lapR s (freeL s)).length = (freeL s).length := by unfold lapR; simp
            have hcl : (chg s (freeL s) t i).length = i := by unfold chg; simp
            have hc : chg s (freeL s) t (i + 1) = chg s (freeL s) t i ++ [(lrow s (freeL s) i).set t (rB s (freeL s) i)] := by unfold chg; rw [List.range_succ, List.map_append]; rfl
            unfold ref01_best_B1
            rw [if_pos (by omega), ix_nat (lrow_at hi), gd_pos (by simp; omega), ix_nat (rbL_gi hi), List.nil_append, ix_nat (gi_at (show t < (lrow s (freeL s) i).length by omega)), gd_pos (by omega), gd_pos (by omega), hc]; rfl
          · show ref01_best_B1 (freeL s) (lapR s (freeL s)) (rbL s (freeL s) (freeL s).length) (t : Int) l (ref01_best_L2 (freeL s) (lapR s (freeL s)) (rbL s (freeL s) (freeL s).length) n) (ref01_best_L1 (freeL s) (lapR s (freeL s)) (rbL s (freeL s) (freeL s).length) (t : Int) l (ref01_best_L2 (freeL s) (lapR s (freeL s)) (rbL s (freeL s) (freeL s).length) n) n') _ _ = _
            have hlap : (lapR s (freeL s)).length = (freeL s).length := by unfold lapR; simp
            unfold ref01_best_B1 ref01_best_k3 ref01_best_k2
            rw [if_neg (by omega), ix_nat (gi_at ht), bnd_eq (chg_det hs hn ht), ix_eq hm.1.1 (gi_at (show (gi (freeL s) t).toNat < l.length by omega)), gd_pos (by omega)]; rfl) (fun n l _ => by
        show ref01_best_B2 (freeL s) (lapR s (freeL s)) (rbL s (freeL s) (freeL s).length) (ref01_best_L2 (freeL s) (lapR s (freeL s)) (rbL s (freeL s) (freeL s).length) n) _ _ = _
        unfold ref01_best_B2 ref01_best_k1
        rw [if_neg (by omega), bnd_eq (detL_eq hs (by omega)), detL_Dm hn (fun _ => 0)]; rfl) (by omega) (i0 := 0) (by omega) (s0 := List.replicate s.points.toNat 0) ⟨by simp, fun p hp => by
        have e1 : gi (List.replicate s.points.toNat (0 : Int)) p = 0 := by simp [gi, List.getD_eq_getElem?_getD, hp]
        rw [e1]
        unfold ext
        exact (sumN_zero fun j _ => by simp).symm⟩
    have e : l = (iota s.points.toNat).map (hB s) := by
      apply List.ext_getElem?
      intro p
      by_cases hp : p < s.points.toNat
      · rw [gi_at (by omega), l2 p hp, List.getElem?_map, gi_at (by rw [iota_len]; exact hp), iota_gi hp]; rfl
      · rw [List.getElem?_eq_none (by omega), List.getElem?_eq_none (by rw [List.length_map, iota_len]; omega)]
    rw [← e]
    exact l3
theorem hBL_at {s : Survey} {p : Int} (h : 0 ≤ p ∧ p < s.points) : ((iota s.points.toNat).map (hB s))[p.toNat]? = some (hB s p) := by
  rw [List.getElem?_map, gi_at (by rw [iota_len]; omega), iota_gi (by omega), show ((p.toNat : Nat) : Int) = p by omega]; rfl
theorem bestL_at {s : Survey} {p : Int} (h : 0 ≤ p ∧ p < s.points) : (bestL s)[p.toNat]? = some (bestV s p) := by
  unfold bestL
  rw [List.getElem?_map, gi_at (by rw [iota_len]; omega), iota_gi (by omega), show ((p.toNat : Nat) : Int) = p by omega]; rfl
theorem bestL_len (s : Survey) : (bestL s).length = s.points.toNat := by unfold bestL; rw [List.length_map, iota_len]
theorem hBL_len (s : Survey) : ((iota s.points.toNat).map (hB s)).length = s.points.toNat := by rw [List.length_map, iota_len]
theorem Best_eq (s : Survey) : level_Best s = some (if validate s = 0 then (bestL s, 0) else ([], validate s)) := by
  unfold level_Best
  rw [bnd_eq (Validate_eq s)]
  by_cases hv : validate s = 0
  · rw [if_pos hv, if_pos hv, bnd_eq (lbest_eq (val0.1 hv))]
  · rw [if_neg hv, if_neg hv]
theorem take_at {α β : Type} (f : α → β) {l : List α} {t : Nat} {x : α} (h : l[t]? = some x) : (l.take (t + 1)).map f = (l.take t).map f ++ [f x] := by
  rw [List.take_add_one, h, List.map_append]; rfl
theorem rBest_eq (s : Survey) : ref01_Best s = some (if validate s = 0 then (bestL s, 0) else ([], validate s)) := by
  unfold ref01_Best
  rw [bnd_eq (rValidate_eq s)]
  by_cases hv : validate s = 0
  · have hs := val0.1 hv
    have hp5 := hs.p5
    have hG := gD_ok hs
    rw [if_pos hv, if_pos hv, bnd_eq (rbest_eq hs)]
    refine for0 s.points.toNat (fun t => ((iota s.points.toNat).take t).map (bestV s)) (fun n l t => ref01_Best_L1 ((iota s.points.toNat).map (hB s), gD s) n t l) _ rfl (fun n t ht => ?_) (fun n => ?_) (by omega)
    · have hx : ((iota s.points.toNat).map (hB s))[t]? = some (hB s (t : Int)) := hBL_at (s := s) (p := (t : Int)) (by omega)
      have hi : (iota s.points.toNat)[t]? = some (t : Int) := by rw [gi_at (by rw [iota_len]; exact ht), iota_gi ht]
      have hl := hBL_len s
      have ha := hB_abs hs (t : Int)
      show ref01_Best_B1 ((iota s.points.toNat).map (hB s), gD s) (ref01_Best_L1 ((iota s.points.toNat).map (hB s), gD s) n) _ _ = _
      unfold ref01_Best_B1
      rw [if_pos (by simp only; omega)]
      simp only
      rw [ix_nat hx, bnd_eq (Ratio_eq (by omega) (sm_abs.2 (by omega)) (sm_abs.2 (by omega))), gd_pos (by simp [iota_len]; omega), gd_pos (by omega), take_at _ hi]; rfl
    · have hl := hBL_len s
      show ref01_Best_B1 ((iota s.points.toNat).map (hB s), gD s) (ref01_Best_L1 ((iota s.points.toNat).map (hB s), gD s) n) _ _ = _
      unfold ref01_Best_B1 ref01_Best_k1
      rw [if_neg (by simp only; omega), List.take_of_length_le (by rw [iota_len]; omega)]; rfl
  · rw [if_neg hv, if_neg hv]
def resN (s : Survey) (r : Reading) : Int := r.rise * gD s - hB s r.to_ + hB s r.from_
theorem resN_abs {s : Survey} (hs : SvOk s) {r : Reading} (hr : r ∈ s.readings) : (r.rise * gD s).natAbs ≤ 1000 * (gD s).natAbs ∧ (resN s r).natAbs ≤ 9000 * (gD s).natAbs := by
  have h1 := (hs.rd r hr).2.2.2.1
  have h2 := na_mul (a := r.rise) (b := gD s) (A := 1000) (B := (gD s).natAbs) (by omega) (Nat.le_refl _)
  have h3 := hB_abs hs r.to_
  have h4 := hB_abs hs r.from_
  unfold resN
  omega
def resV (s : Survey) (r : Reading) : Rat := red (resN s r) (gD s)
theorem resV_is {s : Survey} (hs : SvOk s) (r : Reading) : Is (resV s r) (resN s r) (gD s) := .red (by have := gD_ok hs; omega)
def resL (s : Survey) : List Rat := s.readings.map (resV s)
theorem sub_sm {x y : Rat} (hx : Low x) (hy : Low y) (a : x.num.natAbs ≤ 200000000) (b : y.num.natAbs ≤ 200000000) (c : x.den.natAbs ≤ 20736) (d : y.den.natAbs ≤ 20736) : ∃ z, level_sub x y = some z ∧ Is z (x.num * y.den - y.num * x.den) (x.den * y.den) := by
  have m1 := (inr_mul a d (by omega)).1
  have m2 := (inr_mul b c (by omega)).1
  have m3 := (inr_mul c d (by omega)).1
  clear a b c d
  refine sub_is hx hy (sm_abs.2 ?_) (sm_abs.2 ?_) (sm_abs.2 ?_) (sm_abs.2 ?_)
  · exact Nat.le_trans m1 (by decide)
  · exact Nat.le_trans m2 (by decide)
  · generalize x.num * y.den = u at *
    generalize y.num * x.den = v at *
    clear m3
    omega
  · exact Nat.le_trans m3 (by decide)
theorem sub_same {x y : Rat} {p q D : Int} (hx : Is x p D) (hy : Is y q D) (hD : 0 < D ∧ D ≤ 20736) (hp : p.natAbs ≤ 82944000) (hq : q.natAbs ≤ 82944000) : ∃ z, level_sub x y = some z ∧ Is z (p - q) D := by
  have l1 := hx.le (by omega)
  have l2 := hy.le (by omega)
  obtain ⟨z, z1, z2⟩ := sub_sm hx.1 hy.1 (by omega) (by omega) (by omega) (by omega)
  have q1 := hx.1.den_ne
  have q2 := hy.1.den_ne
  refine ⟨z, z1, z2.of_eq (Int.mul_ne_zero q1 q2) ?_⟩
  have v1 := hx.2
  have v2 := hy.2
  have : (x.num * y.den - y.num * x.den) * D = (x.num * D) * y.den - (y.num * D) * x.den := by grind
  rw [this, v1, v2]; grind
theorem sub_int {y : Rat} {w q D : Int} (hy : Is y q D) (hD : 0 < D ∧ D ≤ 20736) (hw : w.natAbs ≤ 1000) (hq : q.natAbs ≤ 165888000) : ∃ z, level_sub ⟨w, 1⟩ y = some z ∧ Is z (w * D - q) D := by
  have l2 := hy.le (by omega)
  obtain ⟨z, z1, z2⟩ := sub_sm (is_int w).1 hy.1 (by show w.natAbs ≤ _; omega) (by omega) (by show (1 : Int).natAbs ≤ _; omega) (by omega)
  have q2 := hy.1.den_ne
  refine ⟨z, z1, z2.of_eq (Int.mul_ne_zero (by show (1 : Int) ≠ 0; omega) q2) ?_⟩
  have v2 := hy.2
  show (w * y.den - y.num * 1) * D = (w * D - q) * (1 * y.den)
  have : (w * y.den - y.num * 1) * D = w * y.den * D - y.num * D := by grind
  rw [this, v2]; grind
theorem res_sub {s : Survey} (hs : SvOk s) {r : Reading} (hr : r ∈ s.readings) : ∃ z, level_sub (bestV s r.to_) (bestV s r.from_) = some z ∧ level_sub ⟨r.rise, 1⟩ z = some (resV s r) := by
  have hG := gD_ok hs
  have h1 := (hs.rd r hr).2.2.2.1
  have ha := hB_abs hs r.to_
  have hb := hB_abs hs r.from_
  obtain ⟨z, z1, z2⟩ := sub_same (bestV_is hs r.to_) (bestV_is hs r.from_) hG (by omega) (by omega)
  obtain ⟨y, y1, y2⟩ := sub_int (w := r.rise) z2 hG (by omega) (by omega)
  refine ⟨z, z1, ?_⟩
  rw [y1]
  congr 1
  refine Is.red_eq (n := resN s r) ?_ (by omega)
  have e : resN s r = r.rise * gD s - (hB s r.to_ - hB s r.from_) := by unfold resN; omega
  rw [e]; exact y2
theorem residuals_eq {s : Survey} (hs : SvOk s) : level_residuals s = some (resL s) := by
  have h8 := hs.len
  unfold level_residuals
  rw [bnd_eq (lbest_eq hs)]
  refine for0 s.readings.length (fun t => (s.readings.take t).map (resV s)) (fun n l t => level_residuals_L1 s (bestL s) n t l) _ rfl (fun n t ht => ?_) (fun n => ?_) (by omega)
  · have hx := gr_at ht
    have hr := gr_ok hs ht
    have hm := gr_mem ht
    generalize gr s.readings t = r at *
    obtain ⟨z, z1, y1⟩ := res_sub hs hm
    show level_residuals_B1 s (bestL s) (level_residuals_L1 s (bestL s) n) _ _ = _
    unfold level_residuals_B1
    rw [if_pos (by omega), ix_nat hx, ix_eq hr.2.1.1 (bestL_at hr.2.1), ix_eq hr.1.1 (bestL_at hr.1), bnd_eq z1, bnd_eq y1, gd_pos (by simp; omega), gd_pos (by omega), take_at _ hx]; rfl
  · show level_residuals_B1 s (bestL s) (level_residuals_L1 s (bestL s) n) _ _ = _
    unfold level_residuals_B1 level_residuals_k1
    rw [if_neg (by omega), List.take_of_length_le (by omega)]; rfl
theorem rresiduals_eq {s : Survey} (hs : SvOk s) : ref01_residuals s = some (s.readings.map (resN s), gD s) := by
  have h8 := hs.len
  have hp5 := hs.p5
  have hG := gD_ok hs
  unfold ref01_residuals
  rw [bnd_eq (rbest_eq hs)]
  refine for0 s.readings.length (fun t => (s.readings.take t).map (resN s)) (fun n l t => ref01_residuals_L1 s ((iota s.points.toNat).map (hB s), gD s) n t l) _ rfl (fun n t ht => ?_) (fun n => ?_) (by omega)
  · have hx := gr_at ht
    have hr := gr_ok hs ht
    have hm := gr_mem ht
    generalize gr s.readings t = r at *
    have ha := hB_abs hs r.to_
    have hb := hB_abs hs r.from_
    have hc := resN_abs hs hm
    show ref01_residuals_B1 s ((iota s.points.toNat).map (hB s), gD s) (ref01_residuals_L1 s ((iota s.points.toNat).map (hB s), gD s) n) _ _ = _
    unfold ref01_residuals_B1
    rw [if_pos (by omega), ix_nat hx, gd_pos (by simp only; omega), ix_eq hr.2.1.1 (hBL_at hr.2.1), gd_pos (by simp only; omega), ix_eq hr.1.1 (hBL_at hr.1), gd_pos (by simp only; omega), gd_pos (by simp; omega), gd_pos (by omega), take_at _ hx]; rfl
  · show ref01_residuals_B1 s ((iota s.points.toNat).map (hB s), gD s) (ref01_residuals_L1 s ((iota s.points.toNat).map (hB s), gD s) n) _ _ = _
    unfold ref01_residuals_B1 ref01_residuals_k1
    rw [if_neg (by omega), List.take_of_length_le (by omega)]
theorem Residuals_eq (s : Survey) : level_Residuals s = some (if validate s = 0 then (resL s, 0) else ([], validate s)) := by
  unfold level_Residuals
  rw [bnd_eq (Validate_eq s)]
  by_cases hv : validate s = 0
  · rw [if_pos hv, if_pos hv, bnd_eq (residuals_eq (val0.1 hv))]
  · rw [if_neg hv, if_neg hv]
theorem rResiduals_eq (s : Survey) : ref01_Residuals s = some (if validate s = 0 then (resL s, 0) else ([], validate s)) := by
  unfold ref01_Residuals
  rw [bnd_eq (rValidate_eq s)]
  by_cases hv : validate s = 0
  · have hs := val0.1 hv
    have h8 := hs.len
    have hG := gD_ok hs
    rw [if_pos hv, if_pos hv, bnd_eq (rresiduals_eq hs)]
    refine for0 s.readings.length (fun t => (s.readings.take t).map (resV s)) (fun n l t => ref01_Residuals_L1 (s.readings.map (resN s), gD s) n t l) _ rfl (fun n t ht => ?_) (fun n => ?_) (by omega)
    · have hx := gr_at ht
      have hm := gr_mem ht
      generalize gr s.readings t = r at *
      have hc := resN_abs hs hm
      have hx2 : (s.readings.map (resN s))[t]? = some (resN s r) := by rw [List.getElem?_map, hx]; rfl
      show ref01_Residuals_B1 (s.readings.map (resN s), gD s) (ref01_Residuals_L1 (s.readings.map (resN s), gD s) n) _ _ = _
      unfold ref01_Residuals_B1
      rw [if_pos (by simp only [List.length_map]; omega), ix_nat hx2, bnd_eq (Ratio_eq (by simp only; omega) (sm_abs.2 (by omega)) (sm_abs.2 (by simp only; omega))), gd_pos (by simp; omega), gd_pos (by omega), take_at _ hx]; rfl
    · show ref01_Residuals_B1 (s.readings.map (resN s), gD s) (ref01_Residuals_L1 (s.readings.map (resN s), gD s) n) _ _ = _
      unfold ref01_Residuals_B1 ref01_Residuals_k1
      rw [if_neg (by simp only [List.length_map]; omega), List.take_of_length_le (by omega)]; rfl
  · rw [if_neg hv, if_neg hv]
end Go.D1

set_option linter.unusedVariables false
set_option linter.unusedSimpArgs false
namespace Go.D1
open Go.Tb
theorem lcm_step {a b D : Int} (ha : 0 < a) (hb : 0 < b) (hD : 0 < D) (h1 : a ∣ D) (h2 : b ∣ D) :
    (Int.gcd a b : Int) ≠ 0 ∧ (0 < Int.tdiv a (Int.gcd a b) ∧ Int.tdiv a (Int.gcd a b) ≤ a) ∧ 0 < Int.tdiv a (Int.gcd a b) * b ∧ Int.tdiv a (Int.gcd a b) * b ∣ D ∧ a ∣ Int.tdiv a (Int.gcd a b) * b ∧ b ∣ Int.tdiv a (Int.gcd a b) * b := by
  have hg : 0 < Int.gcd a b := Int.gcd_pos_of_ne_zero_left b (by omega)
  obtain ⟨c, hc⟩ := Int.gcd_dvd_left (a := a) (b := b)
  have e1 : Int.tdiv a (Int.gcd a b) = c := Int.tdiv_eq_of_eq_mul_right (by omega) hc
  have hc0 : 0 < c := by
    rcases Int.lt_trichotomy c 0 with h | h | h
    · have := Int.mul_neg_of_pos_of_neg (show (0 : Int) < Int.gcd a b by omega) h; omega
    · rw [h, Int.mul_zero] at hc; omega
    · exact h
  have hca : c ≤ a := by
    have : 1 * c ≤ (Int.gcd a b : Int) * c := Int.mul_le_mul_of_nonneg_right (by omega) (by omega)
    omega
  have e2 : c * b = (Int.lcm a b : Int) := by
    have h3 := Int.gcd_mul_lcm a b
    have h4 : (Int.gcd a b : Int) * (Int.lcm a b : Int) = a * b := by
      rw [← Int.natCast_mul, h3, Int.natCast_mul]
      rw [show (a.natAbs : Int) = a by omega, show (b.natAbs : Int) = b by omega]
    refine Int.eq_of_mul_eq_mul_left (show (Int.gcd a b : Int) ≠ 0 by omega) ?_
    rw [h4, ← Int.mul_assoc, ← hc]
  have hDn : D = ((D.toNat : Nat) : Int) := by omega
  rw [e1]
  refine ⟨by omega, ⟨hc0, hca⟩, Int.mul_pos hc0 hb, ?_, ?_, Int.dvd_mul_left _ _⟩
  · rw [e2, hDn]
    rw [hDn] at h1 h2
    exact Int.natCast_dvd_natCast.2 (Int.lcm_dvd h1 h2)
  · rw [e2]; exact Int.dvd_lcm_left a b
/-- Weighted squares. -/
def sqs (s : Survey) (t : Nat) : Int := rs (s.readings.take t) (fun r => r.weight * resN s r * resN s r)
def SS (s : Survey) : Int := rs s.readings (fun r => r.weight * resN s r * resN s r)
theorem sqs_end (s : Survey) : sqs s s.readings.length = SS s := by unfold sqs SS; rw [List.take_length]
theorem sq_abs {w x : Int} (hw : 1 ≤ w ∧ w ≤ 3) (hx : x.natAbs ≤ 186624000) : (w * x).natAbs ≤ 559872000 ∧ (w * x * x).natAbs ≤ 104485552128000000 ∧ 0 ≤ w * x * x := by
  have h1 := na_mul (a := w) (b := x) (A := 3) (B := 186624000) (by omega) hx
  have h2 := na_mul (a := w * x) (b := x) h1 hx
  refine ⟨h1, h2, ?_⟩
  have : w * x * x = w * (x * x) := by grind
  rw [this]
  exact Int.mul_nonneg (by omega) (sq_nonneg x)
theorem resN_abs' {s : Survey} (hs : SvOk s) {r : Reading} (hr : r ∈ s.readings) : (resN s r).natAbs ≤ 186624000 := by
  have h1 := (resN_abs hs hr).2
  have h2 := gD_ok hs
  omega
theorem sqs_succ {s : Survey} {t : Nat} (ht : t < s.readings.length) : sqs s (t + 1) = sqs s t + (gr s.readings t).weight * resN s (gr s.readings t) * resN s (gr s.readings t) := rs_take _ _ _ ht
theorem sqs_abs {s : Survey} (hs : SvOk s) : ∀ t, t ≤ s.readings.length → 0 ≤ sqs s t ∧ sqs s t ≤ t * 104485552128000000
  | 0, _ => by simp [sqs, rs]
  | t + 1, ht => by
    have ih := sqs_abs hs t (by omega)
    have hr := (gr_ok hs (i := t) (by omega)).2.2.2.2
    have hq := sq_abs hr (resN_abs' hs (gr_mem (t := t) (by omega)))
    rw [sqs_succ (by omega)]
    generalize (gr s.readings t).weight * resN s (gr s.readings t) * resN s (gr s.readings t) = x at *
    omega
theorem SS_abs {s : Survey} (hs : SvOk s) : 0 ≤ SS s ∧ SS s ≤ 835884417024000000 := by
  have h8 := hs.len
  have := sqs_abs hs s.readings.length (Nat.le_refl _)
  rw [sqs_end] at this
  omega
theorem rMisfit_eq {s : Survey} (hs : SvOk s) : ref01_Misfit s = some (red (SS s) (gD s * gD s), 0) := by
  have h8 := hs.len
  have hG := gD_ok hs
  have hGG := inr_mul (x := gD s) (y := gD s) (A := 20736) (B := 20736) (by omega) (by omega) (by omega)
  have hSS := SS_abs hs
  have hGp : 0 < gD s * gD s := Int.mul_pos hG.1 hG.1
  unfold ref01_Misfit
  rw [bnd_eq (rValidate_eq s), if_pos (val0.2 hs), bnd_eq (rresiduals_eq hs)]
  refine for0 s.readings.length (sqs s) (fun n x t => ref01_Misfit_L1 s (s.readings.map (resN s), gD s) n x t) _ (by simp [sqs, rs]) (fun n t ht => ?_) (fun n => ?_) (by omega)
  · have hx := gr_at ht
    have hx2 : (s.readings.map (resN s))[t]? = some (resN s (gr s.readings t)) := by rw [List.getElem?_map, hx]; rfl
    have hr := (gr_ok hs (i := t) (by omega)).2.2.2.2
    have hq := sq_abs hr (resN_abs' hs (gr_mem (t := t) (by omega)))
    have ha := sqs_abs hs t (by omega)
    have hs' := sqs_succ ht
    show ref01_Misfit_B1 s (s.readings.map (resN s), gD s) (ref01_Misfit_L1 s (s.readings.map (resN s), gD s) n) _ _ = _
    unfold ref01_Misfit_B1
    simp only
    rw [if_pos (by simp only [List.length_map]; omega), ix_nat hx, ix_nat hx2]
    generalize gr s.readings t = r at *
    rw [gd_pos (by omega), ix_nat hx2, gd_pos (by omega), gd_pos (by omega), gd_pos (by omega), hs']; rfl
  · show ref01_Misfit_B1 s (s.readings.map (resN s), gD s) (ref01_Misfit_L1 s (s.readings.map (resN s), gD s) n) _ _ = _
    unfold ref01_Misfit_B1 ref01_Misfit_k1
    simp only
    rw [if_neg (by simp only [List.length_map]; omega), gd_pos hGG.2, sqs_end, bnd_eq (Ratio_eq (by omega) (sm_abs.2 (by omega)) (sm_abs.2 (by omega)))]
/-- The residuals over the common denominator that the program finds. -/
theorem misfit_end {s : Survey} (hs : SvOk s) {L S : Int} (hL : 0 < L ∧ L ≤ 20736) (hS : 0 ≤ S ∧ S ≤ 835884417024000000) (he : S * (gD s * gD s) = SS s * (L * L)) : level_Misfit_k1 L S = some (red (SS s) (gD s * gD s), 0) := by
  have hG := gD_ok hs
  have hGp : 0 < gD s * gD s := Int.mul_pos hG.1 hG.1
  have hLp : 0 < L * L := Int.mul_pos hL.1 hL.1
  have hLL := na_mul (a := L) (b := L) (A := 20736) (B := 20736) (by omega) (by omega)
  have hR := Is.red (n := S) (d := L) (by omega)
  have hsm := hR.sm (by omega) (sm_abs.2 (by omega)) (sm_abs.2 (by omega))
  obtain ⟨z, z1, z2⟩ := div_is hR.1 (is_int L).1 (show L ≠ 0 by omega) hsm ⟨sm_abs.2 (by show L.natAbs ≤ _; omega), sm_abs.2 (by show (1 : Int).natAbs ≤ _; omega)⟩ (N := S) (D := L * L) (by omega) (by
    have v := hR.2
    show (red S L).num * 1 * (L * L) = S * ((red S L).den * L)
    have : (red S L).num * 1 * (L * L) = ((red S L).num * L) * L := by grind
    rw [this, v]; grind) (sm_abs.2 (by omega)) (sm_abs.2 (by omega))
  unfold level_Misfit_k1
  rw [bnd_eq (ratio_eq (by omega) (sm_abs.2 (by omega)) (sm_abs.2 (by omega))), bnd_eq z1]
  congr 2
  exact (z2.of_eq (by omega) he).red_eq (by omega)
theorem res_over {s : Survey} (hs : SvOk s) {r : Reading} (hr : r ∈ s.readings) {L : Int} (hL : 0 < L ∧ L ≤ 20736) (hd : (resV s r).den ∣ L) :
    (resV s r).den ≠ 0 ∧ (Int.tdiv L (resV s r).den).natAbs ≤ 20736 ∧ ((resV s r).num * Int.tdiv L (resV s r).den).natAbs ≤ 186624000 ∧ ((resV s r).num * Int.tdiv L (resV s r).den) * gD s = resN s r * L := by
  have hG := gD_ok hs
  have hI := resV_is hs r
  have hq := hI.1.pos
  obtain ⟨c, hc⟩ := hd
  have e1 : Int.tdiv L (resV s r).den = c := Int.tdiv_eq_of_eq_mul_right (by omega) hc
  have v := hI.2
  have e2 : (resV s r).num * c * gD s = resN s r * L := by
    have : (resV s r).num * c * gD s = ((resV s r).num * gD s) * c := by grind
    rw [this, v, hc]; grind
  have hb := (resN_abs hs hr).2
  rw [e1]
  refine ⟨by omega, ?_, ?_, e2⟩
  · have h1 : L.natAbs = (resV s r).den.natAbs * c.natAbs := by rw [← Int.natAbs_mul, ← hc]
    have h2 : c.natAbs ≤ (resV s r).den.natAbs * c.natAbs := Nat.le_mul_of_pos_left _ (by omega)
    omega
  · have h1 : ((resV s r).num * c).natAbs * (gD s).natAbs = (resN s r).natAbs * L.natAbs := by rw [← Int.natAbs_mul, ← Int.natAbs_mul, e2]
    have h2 : (resN s r).natAbs * L.natAbs ≤ (9000 * L.natAbs) * (gD s).natAbs := by
      have := Nat.mul_le_mul_right L.natAbs hb
      rw [Nat.mul_right_comm] at this
      exact this
    rw [← h1] at h2
    have := Nat.le_of_mul_le_mul_right h2 (by omega)
    omega
theorem Misfit_eq {s : Survey} (hs : SvOk s) : level_Misfit s = some (red (SS s) (gD s * gD s), 0) := by
  have h8 := hs.len
  have hG := gD_ok hs
  have hlen : (resL s).length = s.readings.length := by unfold resL; rw [List.length_map]
  have hat : ∀ t, t < s.readings.length → (resL s)[t]? = some (resV s (gr s.readings t)) := fun t ht => by
    unfold resL
    rw [List.getElem?_map, gr_at ht]; rfl
  unfold level_Misfit
  rw [bnd_eq (Validate_eq s), if_pos (val0.2 hs), bnd_eq (residuals_eq hs)]
  obtain ⟨L, ⟨hL, hLd, hdv⟩, e⟩ := ex_loop s.readings.length (fun t (L : Int) => 0 < L ∧ L ∣ gD s ∧ ∀ k, k < t → (resV s (gr s.readings k)).den ∣ L) (fun n L t => level_Misfit_L2 s (resL s) n L t) (fun L => level_Misfit_k2 s (resL s) L) (fun n t L ht ⟨i1, i2, i3⟩ => by
    have hI := resV_is hs (gr s.readings t)
    have hdd : (resV s (gr s.readings t)).den ∣ gD s := by
      obtain ⟨q, _, _, h⟩ := hI.parts (by omega)
      exact ⟨q, h⟩
    have hst := lcm_step i1 hI.1.pos hG.1 i2 hdd
    have hLle := Int.le_of_dvd hG.1 i2
    have hle := hI.le (by omega)
    have hle2 := Int.le_of_dvd hG.1 hst.2.2.2.1
    refine ⟨_, ⟨hst.2.2.1, hst.2.2.2.1, fun k hk => ?_⟩, ?_⟩
    · by_cases e : k = t
      · subst e; exact hst.2.2.2.2.2
      · exact Int.dvd_trans (i3 k (by omega)) hst.2.2.2.2.1
    · show level_Misfit_B2 s (resL s) (level_Misfit_L2 s (resL s) n) _ _ = _
      unfold level_Misfit_B2
      rw [if_pos (by omega), ix_nat (hat t ht), bnd_eq (gcd_eq (sm_abs.2 (by omega)) (sm_abs.2 (by omega))), gd_pos (by have := hst.1; have := hst.2.1; omega), gd_pos (by have := hst.2.2.1; omega), gd_pos (by omega)]; rfl) (fun n L _ => by
    show level_Misfit_B2 s (resL s) (level_Misfit_L2 s (resL s) n) _ _ = _
    unfold level_Misfit_B2
    rw [if_neg (by omega)]) (by omega) (i0 := 0) (by omega) (s0 := 1) ⟨by omega, Int.one_dvd _, fun k h => by omega⟩
  refine e.trans ?_
  have hL2 : 0 < L ∧ L ≤ 20736 := ⟨hL, by have := Int.le_of_dvd hG.1 hLd; omega⟩
  unfold level_Misfit_k2
  obtain ⟨S, ⟨hS1, hS2, hS3⟩, e2⟩ := ex_loop s.readings.length (fun t (S : Int) => S * (gD s * gD s) = sqs s t * (L * L) ∧ 0 ≤ S ∧ S ≤ t * 104485552128000000) (fun n S t => level_Misfit_L1 s (resL s) L n S t) (fun S => level_Misfit_k1 L S) (fun n t S ht ⟨i1, i2, i3⟩ => by
    have ho := res_over hs (gr_mem ht) hL2 (hdv t ht)
    have hr := (gr_ok hs (i := t) (by omega)).2.2.2.2
    have hx := gr_at ht
    have hx2 := hat t ht
    rw [sqs_succ ht]
    generalize gr s.readings t = r at *
    have hq := sq_abs hr ho.2.2.1
    refine ⟨S + r.weight * ((resV s r).num * Int.tdiv L (resV s r).den) * ((resV s r).num * Int.tdiv L (resV s r).den), ⟨?_, by omega, by omega⟩, ?_⟩
    · have h4 := ho.2.2.2
      generalize (resV s r).num * Int.tdiv L (resV s r).den = x at *
      have : (S + r.weight * x * x) * (gD s * gD s) = S * (gD s * gD s) + r.weight * (x * gD s) * (x * gD s) := by grind
      rw [this, i1, h4]; grind
    · show level_Misfit_B1 s (resL s) L (level_Misfit_L1 s (resL s) L n) _ _ = _
      unfold level_Misfit_B1
      rw [if_pos (by omega), ix_nat hx2, gd_pos ⟨ho.1, by have := ho.2.1; omega⟩, gd_pos (by have := ho.2.2.1; omega), ix_nat hx, gd_pos (by omega), gd_pos (by omega), gd_pos (by omega), gd_pos (by omega)]; rfl) (fun n S _ => by
    show level_Misfit_B1 s (resL s) L (level_Misfit_L1 s (resL s) L n) _ _ = _
    unfold level_Misfit_B1
    rw [if_neg (by omega)]) (by omega) (i0 := 0) (by omega) (s0 := 0) ⟨by simp [sqs, rs], by omega, by omega⟩
  refine e2.trans ?_
  rw [sqs_end] at hS1
  exact misfit_end hs hL2 ⟨hS2, by omega⟩ hS1
theorem Misfit_ne {s : Survey} (h : validate s ≠ 0) : level_Misfit s = some (⟨0, 0⟩, validate s) ∧ ref01_Misfit s = some (⟨0, 0⟩, validate s) := by
  constructor
  · unfold level_Misfit
    rw [bnd_eq (Validate_eq s), if_neg h]
  · unfold ref01_Misfit
    rw [bnd_eq (rValidate_eq s), if_neg h]
theorem SameRats_self {l : List Rat} (hl : l.length ≤ 1000000) : ref01_SameRats l l = some true := by
  unfold ref01_SameRats
  rw [if_pos rfl, list_loop0 l (fun _ => true) (ref01_SameRats_L1 l l) (some true) (some false) (fun k i x hx => ?_) (fun k => ?_) (by omega)]
  · rw [if_pos (by simp)]
  · have := lt_of_at hx
    show ref01_SameRats_B1 l l (ref01_SameRats_L1 l l k) _ = _
    unfold ref01_SameRats_B1
    rw [if_pos (by omega), ix_nat hx, ix_nat hx, if_pos (by simp), gd_pos (by omega), if_pos rfl]; rfl
  · show ref01_SameRats_B1 l l (ref01_SameRats_L1 l l k) _ = _
    unfold ref01_SameRats_B1
    rw [if_neg (by omega)]; rfl
theorem law_LevelBest (s : Survey) (hb : s.readings.length ≤ 9223372036854775807) : law01_LevelBest s = some true := by
  unfold law01_LevelBest
  rw [bnd_eq (Long_eq s)]
  by_cases hL : (100 : Int) < (s.readings.length : Int)
  · rw [if_pos (by simpa using hL), bnd_eq known_eq]
  rw [if_neg (by simpa using hL), bnd_eq (Best_eq s), bnd_eq (rBest_eq s), bnd_eq (Residuals_eq s), bnd_eq (rResiduals_eq s)]
  by_cases hv : validate s = 0
  · have hs := val0.1 hv
    have h8 := hs.len
    have hp5 := hs.p5
    have h1 := bestL_len s
    have h2 : (resL s).length = s.readings.length := by unfold resL; rw [List.length_map]
    rw [bnd_eq (Misfit_eq hs), bnd_eq (rMisfit_eq hs), if_pos hv, if_pos hv, bnd_eq (SameRats_self (by simp only; omega)), if_pos rfl, if_pos rfl, bnd_eq (SameRats_self (by simp only; omega)), if_pos rfl, if_pos rfl, if_pos (by simp), if_pos rfl, bnd_eq known_eq]
  · rw [bnd_eq (Misfit_ne hv).1, bnd_eq (Misfit_ne hv).2, if_neg hv, if_neg hv, bnd_eq (SameRats_self (by simp)), if_pos rfl, if_pos rfl, bnd_eq (SameRats_self (by simp)), if_pos rfl, if_pos rfl, if_pos (by simp), if_pos rfl, bnd_eq known_eq]
end Go.D1
