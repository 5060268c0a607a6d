/- Lemmas and walks that the proof of this claim uses: D1p8, D1q1, D1q2, D1q3, D1q4, D1p9, D1pA, D1pB, D1pC, D1q5, D1q6, D1q7, D1q8, D1q9, D1p4, D1p5, D1p7, D1r1. -/
import Derived.Test.YtgnlfgkmkkjkoaaTopHeights5
set_option linter.unusedVariables false
set_option linter.unusedSimpArgs false
namespace Go.D1
open Go.Tb
/-- Numbers whose negative is a number, too. -/
def Sm (x : Int) : Prop := -9223372036854775807 ≤ x ∧ x ≤ 9223372036854775807
theorem Sm.inR {x : Int} (h : Sm x) : InR x := by unfold Sm at h; omega
theorem Sm.neg {x : Int} (h : Sm x) : Sm (-x) := by unfold Sm at *; omega
theorem sm_abs {x : Int} : Sm x ↔ x.natAbs ≤ 9223372036854775807 := by unfold Sm; omega
theorem gcd_tmod (a b : Int) : Int.gcd b (Int.tmod a b) = Int.gcd a b := by
  unfold Int.gcd
  rw [Int.natAbs_tmod, Nat.gcd_comm, ← Nat.gcd_rec, Nat.gcd_comm]
theorem sm_tmod {a b : Int} (h : Sm a) : Sm (Int.tmod a b) := by
  rw [sm_abs] at h ⊢
  rw [Int.natAbs_tmod]
  exact Nat.le_trans (Nat.mod_le _ _) h
theorem gcd_loop : ∀ (q k : Nat) (a b : Int), b.natAbs ≤ q → q < k → Sm a → Sm b → level_gcd_L1 k a b = some (Int.gcd a b : Int)
  | q, k + 1, a, b, hq, hk, ha, hb => by
    show level_gcd_B1 (level_gcd_L1 k) a b = _
    unfold level_gcd_B1 level_gcd_k1
    by_cases h0 : b = 0
    · subst h0
      rw [if_pos rfl, gd_pos ha.neg.inR, Int.gcd_zero_right]
      congr 1; omega
    · have hlt : (Int.tmod a b).natAbs < b.natAbs := by
        rw [Int.natAbs_tmod]
        exact Nat.mod_lt _ (by omega)
      rw [if_neg h0, gd_pos ⟨h0, (sm_tmod ha).inR⟩]
      cases q with
      | zero => omega
      | succ q => rw [gcd_loop q k b (Int.tmod a b) (by omega) (by omega) hb (sm_tmod ha), gcd_tmod]
theorem gcd_eq {a b : Int} (ha : Sm a) (hb : Sm b) : level_gcd a b = some (Int.gcd a b : Int) :=
  gcd_loop b.natAbs FU a b (Nat.le_refl _) (by have := FU_pos; have := sm_abs.1 hb; omega) ha hb
/-- n / d in lowest terms. -/
def red (n d : Int) : Rat := if d < 0 then ⟨Int.tdiv n (-(Int.gcd n d : Int)), Int.tdiv d (-(Int.gcd n d : Int))⟩ else ⟨Int.tdiv n (Int.gcd n d : Int), Int.tdiv d (Int.gcd n d : Int)⟩
theorem gcd_pos_ {n d : Int} (hd : d ≠ 0) : 0 < Int.gcd n d := Int.gcd_pos_of_ne_zero_right n hd
theorem red_parts {n d : Int} (hd : d ≠ 0) : ∃ g : Int, g ≠ 0 ∧ g.natAbs = Int.gcd n d ∧ (g < 0 ↔ d < 0) ∧ n = (red n d).num * g ∧ d = (red n d).den * g := by
  have hg := gcd_pos_ (n := n) hd
  have h1 : (Int.gcd n d : Int) ∣ n := Int.gcd_dvd_left ..
  have h2 : (Int.gcd n d : Int) ∣ d := Int.gcd_dvd_right ..
  unfold red
  by_cases hlt : d < 0
  · rw [if_pos hlt]
    refine ⟨-(Int.gcd n d : Int), by omega, by omega, by omega, ?_, ?_⟩
    · exact (Int.tdiv_mul_cancel (Int.neg_dvd.2 h1)).symm
    · exact (Int.tdiv_mul_cancel (Int.neg_dvd.2 h2)).symm
  · rw [if_neg hlt]
    refine ⟨(Int.gcd n d : Int), by omega, by omega, by omega, ?_, ?_⟩
    · exact (Int.tdiv_mul_cancel h1).symm
    · exact (Int.tdiv_mul_cancel h2).symm
/-- In lowest terms. -/
structure Low (x : Rat) : Prop where
  pos : 0 < x.den
  cop : Int.gcd x.num x.den = 1
theorem red_low {n d : Int} (hd : d ≠ 0) : Low (red n d) ∧ (red n d).num * d = n * (red n d).den := by
  obtain ⟨g, g0, g1, g2, g3, g4⟩ := red_parts (n := n) hd
  generalize red n d = x at *
  refine ⟨⟨?_, ?_⟩, ?_⟩
  · rcases Int.lt_trichotomy x.den 0 with h | h | h
    · exfalso
      by_cases hg : g < 0
      · have := Int.mul_pos_of_neg_of_neg h hg
        have := g2.1 hg
        omega
      · have := Int.mul_neg_of_neg_of_pos h (show 0 < g by omega)
        exact hg (g2.2 (by omega))
    · exfalso; rw [h, Int.zero_mul] at g4; exact hd g4
    · exact h
  · have h := g1
    rw [g3, g4, Int.gcd_mul_right] at h
    have hp : 0 < g.natAbs := by omega
    exact (Nat.eq_of_mul_eq_mul_right hp (by rw [Nat.one_mul]; exact h)).symm
  · calc x.num * d = x.num * (x.den * g) := by rw [← g4]
      _ = x.num * g * x.den := by rw [Int.mul_assoc, Int.mul_comm x.den g]
      _ = n * x.den := by rw [← g3]
theorem red_sm {n d : Int} (hd : d ≠ 0) (hn : Sm n) (hd' : Sm d) : Sm (red n d).num ∧ Sm (red n d).den := by
  obtain ⟨g, g0, g1, g2, g3, g4⟩ := red_parts (n := n) hd
  rw [sm_abs] at hn hd'
  rw [sm_abs, sm_abs]
  have hp : 1 ≤ g.natAbs := by omega
  have e1 : n.natAbs = (red n d).num.natAbs * g.natAbs := by rw [← Int.natAbs_mul, ← g3]
  have e2 : d.natAbs = (red n d).den.natAbs * g.natAbs := by rw [← Int.natAbs_mul, ← g4]
  have := Nat.le_mul_of_pos_right (red n d).num.natAbs hp
  have := Nat.le_mul_of_pos_right (red n d).den.natAbs hp
  omega
theorem cop_dvd {a b c : Int} (h : Int.gcd b a = 1) (hd : a ∣ b * c) : a ∣ c := by
  rw [← Int.natAbs_dvd_natAbs] at hd ⊢
  rw [Int.natAbs_mul] at hd
  have hc : Nat.gcd a.natAbs b.natAbs = 1 := by rw [Nat.gcd_comm]; exact h
  exact Nat.Coprime.dvd_of_dvd_mul_left hc hd
/-- Two fractions in lowest terms with the same value are the same. -/
theorem low_eq {x y : Rat} (hx : Low x) (hy : Low y) (h : x.num * y.den = y.num * x.den) : x = y := by
  have h1 : x.den ∣ y.den := by
    have : x.den ∣ x.num * y.den := by rw [h]; exact Int.dvd_mul_left ..
    exact cop_dvd hx.cop this
  have h2 : y.den ∣ x.den := by
    have : y.den ∣ y.num * x.den := by rw [← h]; exact Int.dvd_mul_left ..
    exact cop_dvd hy.cop this
  have hd : x.den = y.den := Int.le_antisymm (Int.le_of_dvd hy.pos h1) (Int.le_of_dvd hx.pos h2)
  have hn : x.num = y.num := by
    rw [hd] at h
    exact Int.eq_of_mul_eq_mul_right (by have := hy.pos; omega) h
  cases x; cases y
  simp only at hd hn
  rw [hd, hn]
theorem ratio_eq {n d : Int} (hd : d ≠ 0) (hn : Sm n) (hd' : Sm d) : level_ratio n d = some (red n d) := by
  have hg := gcd_pos_ (n := n) hd
  have ⟨s1, s2⟩ := red_sm hd hn hd'
  have hgs : Sm (Int.gcd n d : Int) := by
    rw [sm_abs]
    have := Nat.le_of_dvd (show 0 < d.natAbs by omega) (Nat.gcd_dvd_right n.natAbs d.natAbs)
    have h3 := sm_abs.1 hd'
    show (Nat.gcd n.natAbs d.natAbs) ≤ _
    omega
  unfold level_ratio level_ratio_k1
  rw [bnd_eq (gcd_eq hn hd')]
  unfold red at s1 s2 ⊢
  by_cases hlt : d < 0
  · rw [if_pos hlt] at s1 s2 ⊢
    rw [if_pos hlt, gd_pos hgs.neg.inR, gd_pos ⟨by omega, s1.inR⟩, gd_pos ⟨by omega, s2.inR⟩]
  · rw [if_neg hlt] at s1 s2 ⊢
    rw [if_neg hlt, gd_pos ⟨by omega, s1.inR⟩, gd_pos ⟨by omega, s2.inR⟩]
/-- x is n / d. -/
def Is (x : Rat) (n d : Int) : Prop := Low x ∧ x.num * d = n * x.den
theorem Is.red {n d : Int} (hd : d ≠ 0) : Is (red n d) n d := red_low hd
theorem Is.uniq {x y : Rat} {n d : Int} (hd : d ≠ 0) (hx : Is x n d) (hy : Is y n d) : x = y := by
  refine low_eq hx.1 hy.1 ?_
  have h1 := hx.2
  have h2 := hy.2
  have : (x.num * y.den - y.num * x.den) * d = 0 := by grind
  rcases Int.mul_eq_zero.1 this with h | h
  · omega
  · exact absurd h hd
theorem Low.den_ne {x : Rat} (h : Low x) : x.den ≠ 0 := by have := h.pos; omega
theorem sub_eq {x y : Rat} (hx : Low x) (hy : Low y) (h1 : Sm (x.num * y.den)) (h2 : Sm (y.num * x.den)) (h3 : Sm (x.num * y.den - y.num * x.den)) (h4 : Sm (x.den * y.den)) : level_sub x y = some (red (x.num * y.den - y.num * x.den) (x.den * y.den)) := by
  have hd : x.den * y.den ≠ 0 := Int.mul_ne_zero hx.den_ne hy.den_ne
  unfold level_sub
  rw [gd_pos h1.inR, gd_pos h2.inR, gd_pos h3.inR, gd_pos h4.inR, bnd_eq (ratio_eq hd h3 h4)]
theorem mul_parts {a b c d : Int} (hb : b ≠ 0) (hd : d ≠ 0) (hab : Int.gcd a b = 1) (hcd : Int.gcd c d = 1) : Low ⟨(D1.red a d).num * (D1.red c b).num, (D1.red a d).den * (D1.red c b).den⟩ := by
  obtain ⟨⟨p1, c1⟩, _⟩ := red_low (n := a) hd
  obtain ⟨⟨p2, c2⟩, _⟩ := red_low (n := c) hb
  obtain ⟨g, g0, _, _, g3, g4⟩ := red_parts (n := a) hd
  obtain ⟨k, k0, _, _, k3, k4⟩ := red_parts (n := c) hb
  have n1 : Int.gcd (D1.red a d).num (D1.red c b).den = 1 := by
    have q1 : (Int.gcd (D1.red a d).num (D1.red c b).den : Int) ∣ a := Int.dvd_trans (Int.gcd_dvd_left ..) ⟨g, g3⟩
    have q2 : (Int.gcd (D1.red a d).num (D1.red c b).den : Int) ∣ b := Int.dvd_trans (Int.gcd_dvd_right ..) ⟨k, k4⟩
    have := Int.dvd_coe_gcd q1 q2
    rw [hab] at this
    exact Nat.dvd_one.1 (Int.natCast_dvd_natCast.1 this)
  have n2 : Int.gcd (D1.red c b).num (D1.red a d).den = 1 := by
    have q1 : (Int.gcd (D1.red c b).num (D1.red a d).den : Int) ∣ c := Int.dvd_trans (Int.gcd_dvd_left ..) ⟨k, k3⟩
    have q2 : (Int.gcd (D1.red c b).num (D1.red a d).den : Int) ∣ d := Int.dvd_trans (Int.gcd_dvd_right ..) ⟨g, g4⟩
    have := Int.dvd_coe_gcd q1 q2
    rw [hcd] at this
    exact Nat.dvd_one.1 (Int.natCast_dvd_natCast.1 this)
  refine ⟨Int.mul_pos p1 p2, ?_⟩
  unfold Int.gcd at *
  simp only [Int.natAbs_mul]
  exact Nat.Coprime.mul_left (Nat.Coprime.mul_right c1 n1) (Nat.Coprime.mul_right n2 c2)
theorem Is.parts {x : Rat} {n d : Int} (h : Is x n d) (hd : d ≠ 0) : ∃ q : Int, q ≠ 0 ∧ n = x.num * q ∧ d = x.den * q := by
  have h1 : x.den ∣ d := cop_dvd h.1.cop (by rw [h.2]; exact Int.dvd_mul_left ..)
  obtain ⟨q, hq⟩ := h1
  refine ⟨q, fun e => hd (by rw [hq, e, Int.mul_zero]), ?_, hq⟩
  have h2 := h.2
  rw [hq] at h2
  have h3 : x.den * (x.num * q) = x.den * n := by grind
  exact (Int.eq_of_mul_eq_mul_left h.1.den_ne h3).symm
theorem Is.le {x : Rat} {n d : Int} (h : Is x n d) (hd : d ≠ 0) : x.num.natAbs ≤ n.natAbs ∧ x.den.natAbs ≤ d.natAbs := by
  obtain ⟨q, q0, q1, q2⟩ := h.parts hd
  have hp : 1 ≤ q.natAbs := by omega
  rw [q1, q2, Int.natAbs_mul, Int.natAbs_mul]
  exact ⟨Nat.le_mul_of_pos_right _ hp, Nat.le_mul_of_pos_right _ hp⟩
theorem Is.sm {x : Rat} {n d : Int} (h : Is x n d) (hd : d ≠ 0) (hn : Sm n) (hd' : Sm d) : Sm x.num ∧ Sm x.den := by
  have := h.le hd
  rw [sm_abs] at *
  rw [sm_abs]
  omega
theorem Is.red_eq {x : Rat} {n d : Int} (h : Is x n d) (hd : d ≠ 0) : x = D1.red n d := h.uniq hd (.red hd)
theorem sub_is {x y : Rat} (hx : Low x) (hy : Low y) (h1 : Sm (x.num * y.den)) (h2 : Sm (y.num * x.den)) (h3 : Sm (x.num * y.den - y.num * x.den)) (h4 : Sm (x.den * y.den)) : ∃ z, level_sub x y = some z ∧ Is z (x.num * y.den - y.num * x.den) (x.den * y.den) :=
  ⟨_, sub_eq hx hy h1 h2 h3 h4, .red (Int.mul_ne_zero hx.den_ne hy.den_ne)⟩
theorem mul_is {x y : Rat} (hx : Low x) (hy : Low y) (s1 : Sm x.num ∧ Sm x.den) (s2 : Sm y.num ∧ Sm y.den) {N D : Int} (hD : D ≠ 0) (hv : x.num * y.num * D = N * (x.den * y.den)) (hN : Sm N) (hD' : Sm D) : ∃ z, level_mul x y = some z ∧ Is z N D := by
  have hlow := mul_parts (a := x.num) (b := x.den) (c := y.num) (d := y.den) hx.den_ne hy.den_ne hx.cop hy.cop
  obtain ⟨_, e1⟩ := red_low (n := x.num) hy.den_ne
  obtain ⟨_, e2⟩ := red_low (n := y.num) hx.den_ne
  have hz : Is ⟨(D1.red x.num y.den).num * (D1.red y.num x.den).num, (D1.red x.num y.den).den * (D1.red y.num x.den).den⟩ N D := by
    refine ⟨hlow, ?_⟩
    simp only
    have hne : x.den * y.den ≠ 0 := Int.mul_ne_zero hx.den_ne hy.den_ne
    refine Int.eq_of_mul_eq_mul_right hne ?_
    generalize (D1.red x.num y.den).num = p at *
    generalize (D1.red x.num y.den).den = q at *
    generalize (D1.red y.num x.den).num = u at *
    generalize (D1.red y.num x.den).den = v at *
    clear hlow
    have : p * y.den * (u * x.den) = x.num * q * (y.num * v) := by rw [e1, e2]
    grind
  have ⟨z1, z2⟩ := hz.sm hD hN hD'
  refine ⟨_, ?_, hz⟩
  unfold level_mul level_mul_k1
  rw [bnd_eq (ratio_eq hy.den_ne s1.1 s2.2), bnd_eq (ratio_eq hx.den_ne s2.1 s1.2), gd_pos z1.inR, gd_pos z2.inR]
theorem div_is {x y : Rat} (hx : Low x) (hy : Low y) (hy0 : y.num ≠ 0) (s1 : Sm x.num ∧ Sm x.den) (s2 : Sm y.num ∧ Sm y.den) {N D : Int} (hD : D ≠ 0) (hv : x.num * y.den * D = N * (x.den * y.num)) (hN : Sm N) (hD' : Sm D) : ∃ z, level_div x y = some z ∧ Is z N D := by
  obtain ⟨l1, l2⟩ := red_low (n := y.den) hy0
  obtain ⟨z, h1, h2⟩ := mul_is hx l1 s1 (red_sm hy0 s2.2 s2.1) hD (by
    generalize (D1.red y.den y.num).num = p at *
    generalize hq : (D1.red y.den y.num).den = q at *
    have : (x.num * p * D - N * (x.den * q)) * y.num = 0 := by grind
    rcases Int.mul_eq_zero.1 this with h | h
    · omega
    · exact absurd h hy0) hN hD'
  refine ⟨z, ?_, h2⟩
  unfold level_div
  rw [bnd_eq (ratio_eq hy0 s2.2 s2.1), bnd_eq h1]
theorem Ratio_loop {n d : Int} (hd : d ≠ 0) (hn : Sm n) (hd' : Sm d) : ∀ (q k : Nat) (a b : Int), b.natAbs ≤ q → q < k → Sm a → Sm b → Int.gcd a b = Int.gcd n d → ref01_Ratio_L1 n d k a b = some (D1.red n d)
  | q, k + 1, a, b, hq, hk, ha, hb, hg => by
    have hg0 := gcd_pos_ (n := n) hd
    show ref01_Ratio_B1 n d (ref01_Ratio_L1 n d k) a b = _
    unfold ref01_Ratio_B1 ref01_Ratio_k2 ref01_Ratio_k1
    by_cases h0 : b = 0
    · subst h0
      rw [Int.gcd_zero_right] at hg
      have ⟨s1, s2⟩ := red_sm hd hn hd'
      rw [if_pos rfl]
      unfold D1.red at s1 s2 ⊢
      by_cases hlt : d < 0
      · rw [if_pos hlt] at s1 s2 ⊢
        by_cases ha0 : a < 0
        · have e : -(Int.gcd n d : Int) = a := by omega
          rw [e] at s1 s2 ⊢
          rw [if_pos (by simp [hlt, ha0]), gd_pos ⟨by omega, s1.inR⟩, gd_pos ⟨by omega, s2.inR⟩]
        · have e : -(Int.gcd n d : Int) = -a := by omega
          rw [e] at s1 s2 ⊢
          rw [if_neg (by simp [hlt, ha0]), gd_pos ha.neg.inR, gd_pos ⟨by omega, s1.inR⟩, gd_pos ⟨by omega, s2.inR⟩]
      · rw [if_neg hlt] at s1 s2 ⊢
        by_cases ha0 : a < 0
        · have e : (Int.gcd n d : Int) = -a := by omega
          rw [e] at s1 s2 ⊢
          rw [if_neg (by simp [hlt, ha0]), gd_pos ha.neg.inR, gd_pos ⟨by omega, s1.inR⟩, gd_pos ⟨by omega, s2.inR⟩]
        · have e : (Int.gcd n d : Int) = a := by omega
          rw [e] at s1 s2 ⊢
          rw [if_pos (by simp [hlt, ha0]), gd_pos ⟨by omega, s1.inR⟩, gd_pos ⟨by omega, s2.inR⟩]
    · have hlt : (Int.tmod a b).natAbs < b.natAbs := by
        rw [Int.natAbs_tmod]
        exact Nat.mod_lt _ (by omega)
      rw [if_neg h0, gd_pos ⟨h0, (sm_tmod ha).inR⟩]
      cases q with
      | zero => omega
      | succ q => exact Ratio_loop hd hn hd' q k b (Int.tmod a b) (by omega) (by omega) hb (sm_tmod ha) ((gcd_tmod a b).trans hg)
theorem Ratio_eq {n d : Int} (hd : d ≠ 0) (hn : Sm n) (hd' : Sm d) : ref01_Ratio n d = some (D1.red n d) :=
  Ratio_loop hd hn hd' d.natAbs FU n d (Nat.le_refl _) (by have := FU_pos; have := sm_abs.1 hd'; omega) hn hd' rfl
end Go.D1

set_option linter.unusedVariables false
set_option linter.unusedSimpArgs false
namespace Go.D1
open Go.Tb
abbrev Mt := Nat → Nat → Int
def e2 (a : Mt) (c0 c1 : Nat) : Int := a 0 c0 * a 1 c1 - a 0 c1 * a 1 c0
def e3 (a : Mt) (c0 c1 c2 : Nat) : Int := a 0 c0 * (a 1 c1 * a 2 c2 - a 1 c2 * a 2 c1) - a 0 c1 * (a 1 c0 * a 2 c2 - a 1 c2 * a 2 c0) + a 0 c2 * (a 1 c0 * a 2 c1 - a 1 c1 * a 2 c0)
def f3 (a : Mt) (c0 c1 c2 : Nat) : Int := a 1 c0 * (a 2 c1 * a 3 c2 - a 2 c2 * a 3 c1) - a 1 c1 * (a 2 c0 * a 3 c2 - a 2 c2 * a 3 c0) + a 1 c2 * (a 2 c0 * a 3 c1 - a 2 c1 * a 3 c0)
def e4 (a : Mt) (c0 c1 c2 c3 : Nat) : Int := a 0 c0 * f3 a c1 c2 c3 - a 0 c1 * f3 a c0 c2 c3 + a 0 c2 * f3 a c0 c1 c3 - a 0 c3 * f3 a c0 c1 c2
/-- The determinant of the first i rows and columns. -/
def Dm (a : Mt) : Nat → Int
  | 0 => 1
  | 1 => a 0 0
  | 2 => e2 a 0 1
  | 3 => e3 a 0 1 2
  | 4 => e4 a 0 1 2 3
  | _ => 0
/-- The same with column c in place of column k. -/
def Nm (a : Mt) : Nat → Nat → Nat → Int
  | 1, 0, c => a 0 c
  | 2, 0, c => e2 a c 1
  | 2, 1, c => e2 a 0 c
  | 3, 0, c => e3 a c 1 2
  | 3, 1, c => e3 a 0 c 2
  | 3, 2, c => e3 a 0 1 c
  | 4, 0, c => e4 a c 1 2 3
  | 4, 1, c => e4 a 0 c 2 3
  | 4, 2, c => e4 a 0 1 c 3
  | 4, 3, c => e4 a 0 1 2 c
  | _, _, _ => 0
def sumN (f : Nat → Int) : Nat → Int
  | 0 => 0
  | k + 1 => sumN f k + f k
/-- What is left of row j at column c, times the determinant. -/
def mn (a : Mt) (i j c : Nat) : Int := Dm a i * a j c - sumN (fun k => a j k * Nm a i k c) i
theorem mn_zero (a : Mt) (j c : Nat) : mn a 0 j c = a j c := by simp [mn, Dm, sumN]
theorem Dm_succ (a : Mt) {i : Nat} (h : i < 4) : Dm a (i + 1) = mn a i i i := by
  match i, h with
  | 0, _ => simp [mn, Dm, sumN]
  | 1, _ => simp only [mn, Dm, sumN, Nm, e2]; grind
  | 2, _ => simp only [mn, Dm, sumN, Nm, e2, e3]; grind
  | 3, _ => simp only [mn, Dm, sumN, Nm, e3, e4, f3]; grind
theorem Nm_last (a : Mt) {i : Nat} (h : i < 4) (c : Nat) : Nm a (i + 1) i c = mn a i i c := by
  match i, h with
  | 0, _ => simp [mn, Dm, sumN, Nm]
  | 1, _ => simp only [mn, Dm, sumN, Nm, e2]; grind
  | 2, _ => simp only [mn, Dm, sumN, Nm, e2, e3]; grind
  | 3, _ => simp only [mn, Dm, sumN, Nm, e3, e4, f3]; grind
/-- Cramer's rule. -/
theorem cramer (a : Mt) {i j : Nat} (h : i ≤ 4) (hj : j < i) (c : Nat) : mn a i j c = 0 := by
  match i, j, h, hj with
  | 1, 0, _, _ => simp only [mn, Dm, sumN, Nm]; grind
  | 2, 0, _, _ => simp only [mn, Dm, sumN, Nm, e2]; grind
  | 2, 1, _, _ => simp only [mn, Dm, sumN, Nm, e2]; grind
  | 3, 0, _, _ => simp only [mn, Dm, sumN, Nm, e3]; grind
  | 3, 1, _, _ => simp only [mn, Dm, sumN, Nm, e3]; grind
  | 3, 2, _, _ => simp only [mn, Dm, sumN, Nm, e3]; grind
  | 4, 0, _, _ => simp only [mn, Dm, sumN, Nm, e4, f3]; grind
  | 4, 1, _, _ => simp only [mn, Dm, sumN, Nm, e4, f3]; grind
  | 4, 2, _, _ => simp only [mn, Dm, sumN, Nm, e4, f3]; grind
  | 4, 3, _, _ => simp only [mn, Dm, sumN, Nm, e4, f3]; grind
theorem Nm_succ (a : Mt) {i j : Nat} (h : i < 4) (hj : j < i) (c : Nat) : Nm a (i + 1) j c * Dm a i = Nm a i j c * Dm a (i + 1) - Nm a i j i * mn a i i c := by
  match i, j, h, hj with
  | 1, 0, _, _ => simp only [mn, Dm, sumN, Nm, e2]; grind
  | 2, 0, _, _ => simp only [mn, Dm, sumN, Nm, e2, e3]; grind
  | 2, 1, _, _ => simp only [mn, Dm, sumN, Nm, e2, e3]; grind
  | 3, 0, _, _ => rw [← Nm_last a (by omega)]; simp only [Dm, Nm, e3, e4, f3]; grind
  | 3, 1, _, _ => rw [← Nm_last a (by omega)]; simp only [Dm, Nm, e3, e4, f3]; grind
  | 3, 2, _, _ => rw [← Nm_last a (by omega)]; simp only [Dm, Nm, e3, e4, f3]; grind
theorem sumN_congr {f g : Nat → Int} {n : Nat} (h : ∀ k, k < n → f k = g k) : sumN f n = sumN g n := by
  induction n with
  | zero => rfl
  | succ n ih => simp only [sumN]; rw [ih fun k hk => h k (by omega), h n (by omega)]
theorem sumN_mul (f : Nat → Int) (c : Int) (n : Nat) : sumN f n * c = sumN (fun k => f k * c) n := by
  induction n with
  | zero => simp [sumN]
  | succ n ih => simp only [sumN]; rw [Int.add_mul, ih]
theorem sumN_sub (f g : Nat → Int) (n : Nat) : sumN (fun k => f k - g k) n = sumN f n - sumN g n := by
  induction n with
  | zero => simp [sumN]
  | succ n ih => simp only [sumN]; rw [ih]; omega
theorem sumN_add (f g : Nat → Int) (n : Nat) : sumN (fun k => f k + g k) n = sumN f n + sumN g n := by
  induction n with
  | zero => simp [sumN]
  | succ n ih => simp only [sumN]; rw [ih]; omega
/-- One step of elimination. -/
theorem bareiss (a : Mt) {i : Nat} (h : i < 4) (j c : Nat) : mn a (i + 1) j c * Dm a i = Dm a (i + 1) * mn a i j c - mn a i j i * mn a i i c := by
  have hl := Nm_last a h c
  have hs : sumN (fun k => a j k * Nm a (i + 1) k c) i * Dm a i = sumN (fun k => a j k * Nm a i k c) i * Dm a (i + 1) - sumN (fun k => a j k * Nm a i k i) i * mn a i i c := by
    rw [sumN_mul, sumN_mul, sumN_mul, ← sumN_sub]
    refine sumN_congr fun k hk => ?_
    have := Nm_succ a h hk c
    grind
  have e1 : mn a (i + 1) j c = Dm a (i + 1) * a j c - (sumN (fun k => a j k * Nm a (i + 1) k c) i + a j i * Nm a (i + 1) i c) := rfl
  have e2 : mn a i j c = Dm a i * a j c - sumN (fun k => a j k * Nm a i k c) i := rfl
  have e3 : mn a i j i = Dm a i * a j i - sumN (fun k => a j k * Nm a i k i) i := rfl
  rw [e1, e2, e3, hl]
  generalize sumN (fun k => a j k * Nm a (i + 1) k c) i = S at *
  generalize sumN (fun k => a j k * Nm a i k c) i = S1 at *
  generalize sumN (fun k => a j k * Nm a i k i) i = S2 at *
  generalize mn a i i c = M at *
  generalize Dm a (i + 1) = D1 at *
  generalize Dm a i = D0 at *
  grind
def Ev (a : Mt) (i j c : Nat) : Int := if j < i then (if j + 1 = i then Nm a i j c else Dm a (j + 1) * Nm a i j c) else mn a i j c
def Fv (a : Mt) (i j : Nat) : Int := if j < i then (if j + 1 = i then Dm a j else Dm a j * Dm a i) else Dm a i
theorem Ev_self (a : Mt) (i c : Nat) : Ev a i i c = mn a i i c := by simp [Ev]
theorem Fv_self (a : Mt) (i : Nat) : Fv a i i = Dm a i := by simp [Fv]
theorem Ev_next (a : Mt) {i : Nat} (h : i < 4) (c : Nat) : Ev a (i + 1) i c = mn a i i c := by simp [Ev, Nm_last a h]
theorem Fv_next (a : Mt) (i : Nat) : Fv a (i + 1) i = Dm a i := by simp [Fv]
theorem EF (a : Mt) {i j : Nat} (h : i < 4) (hj : j ≠ i) (c : Nat) : Ev a (i + 1) j c * (Fv a i j * Dm a (i + 1)) = (Ev a i j c * Dm a (i + 1) - Ev a i j i * mn a i i c) * Fv a (i + 1) j := by
  by_cases h1 : j < i
  · have hn := Nm_succ a h h1 c
    by_cases h2 : j + 1 = i
    · subst h2
      simp only [Ev, Fv, show j < j + 1 + 1 by omega, show j < j + 1 by omega, show ¬ (j + 1 = j + 1 + 1) by omega, if_true, if_false]
      grind
    · simp only [Ev, Fv, show j < i + 1 by omega, h1, h2, show ¬ (j + 1 = i + 1) by omega, if_true, if_false]
      generalize Nm a (i + 1) j c = x at *
      generalize Nm a i j c = y at *
      generalize Nm a i j i = z at *
      generalize mn a i i c = w at *
      generalize Dm a (i + 1) = D' at *
      generalize Dm a (j + 1) = Dj' at *
      generalize Dm a i = Di at *
      generalize Dm a j = Dj at *
      have e : Dj' * x * (Dj * Di * D') = (x * Di) * (Dj' * Dj * D') := by grind
      rw [e, hn]
      grind
  · have hb := bareiss a h j c
    simp only [Ev, Fv, show ¬ j < i by omega, show ¬ j < i + 1 by omega, if_false]
    rw [← Int.mul_assoc, hb]
    grind
end Go.D1

set_option linter.unusedVariables false
set_option linter.unusedSimpArgs false
namespace Go.D1
open Go.Tb
/-- A table whose elimination is small. -/
structure Sol (n : Nat) (a : Mt) (d : Nat → Nat) : Prop where
  n4 : n ≤ 4
  pos : ∀ i, i ≤ n → 0 < Dm a i
  le : ∀ i, i < n → (Dm a (i + 1)).natAbs ≤ d i * (Dm a i).natAbs
  d1 : ∀ i, i < n → 1 ≤ d i ∧ d i ≤ 24
  sum : n = 4 → d 0 + d 1 + d 2 + d 3 ≤ 48
  N1 : ∀ i k c, k < i → i ≤ c → c < n → (Nm a i k c).natAbs ≤ (Dm a i).natAbs
  Nb : ∀ i k, k < i → i ≤ n → (Nm a i k n).natAbs ≤ 4000 * (Dm a i).natAbs
  M1 : ∀ i j c, i ≤ j → i ≤ c → j < n → c < n → (mn a i j c).natAbs ≤ d j * (Dm a i).natAbs
  Mb : ∀ i j, i ≤ j → j < n → (mn a i j n).natAbs ≤ 4000 * d j * (Dm a i).natAbs
/-- The guards of one step. -/
structure Gd (P Pi Mi Q D' Di : Int) : Prop where
  s : (P.natAbs * (Q.natAbs * D'.natAbs)) + (Pi.natAbs * Mi.natAbs) * Q.natAbs ≤ 9223372036854775807
  q : Q.natAbs * (Q.natAbs * D'.natAbs) ≤ 9223372036854775807
  f : Pi.natAbs * Di.natAbs ≤ 9223372036854775807
theorem na_mul {a b : Int} {A B : Nat} (ha : a.natAbs ≤ A) (hb : b.natAbs ≤ B) : (a * b).natAbs ≤ A * B := by rw [Int.natAbs_mul]; exact Nat.mul_le_mul ha hb
theorem big4 {d0 d1 d2 d3 : Nat} (h0 : 1 ≤ d0 ∧ d0 ≤ 24) (h1 : 1 ≤ d1 ∧ d1 ≤ 24) (h2 : 1 ≤ d2 ∧ d2 ≤ 24) (h : d0 + d1 + d2 + d3 ≤ 48) : d0 ^ 5 * d1 ^ 4 * d2 ^ 3 * d3 ≤ 600000000000000 := by
  have key : ∀ x, x < 25 → ∀ y, y < 25 → ∀ z, z < 25 → x ^ 5 * y ^ 4 * z ^ 3 * (48 - x - y - z) ≤ 600000000000000 := by decide +kernel
  exact Nat.le_trans (Nat.mul_le_mul_left _ (show d3 ≤ 48 - d0 - d1 - d2 by omega)) (key d0 (by omega) d1 (by omega) d2 (by omega))
theorem prod4 {d0 d1 d2 d3 : Nat} (h0 : 1 ≤ d0 ∧ d0 ≤ 24) (h1 : 1 ≤ d1 ∧ d1 ≤ 24) (h2 : 1 ≤ d2 ∧ d2 ≤ 24) (h : d0 + d1 + d2 + d3 ≤ 48) : d0 * d1 * d2 * d3 ≤ 20736 := by
  have key : ∀ x, x < 25 → ∀ y, y < 25 → ∀ z, z < 25 → x * y * z * (48 - x - y - z) ≤ 20736 := by decide +kernel
  exact Nat.le_trans (Nat.mul_le_mul_left _ (show d3 ≤ 48 - d0 - d1 - d2 by omega)) (key d0 (by omega) d1 (by omega) d2 (by omega))
variable {n : Nat} {a : Mt} {d : Nat → Nat}
theorem Sol.Dp (h : Sol n a d) : (Dm a 0).natAbs = 1 ∧ (1 ≤ n → (Dm a 1).natAbs ≤ d 0) ∧ (2 ≤ n → (Dm a 2).natAbs ≤ d 0 * d 1) ∧ (3 ≤ n → (Dm a 3).natAbs ≤ d 0 * d 1 * d 2) ∧ (4 ≤ n → (Dm a 4).natAbs ≤ d 0 * d 1 * d 2 * d 3) := by
  have z : (Dm a 0).natAbs = 1 := rfl
  have s1 : 1 ≤ n → (Dm a 1).natAbs ≤ d 0 := fun hn => by have := h.le 0 (by omega); rw [z, Nat.mul_one] at this; exact this
  have s2 : 2 ≤ n → (Dm a 2).natAbs ≤ d 0 * d 1 := fun hn => by
    rw [Nat.mul_comm]; exact Nat.le_trans (h.le 1 (by omega)) (Nat.mul_le_mul_left _ (s1 (by omega)))
  have s3 : 3 ≤ n → (Dm a 3).natAbs ≤ d 0 * d 1 * d 2 := fun hn => by
    rw [Nat.mul_comm]; exact Nat.le_trans (h.le 2 (by omega)) (Nat.mul_le_mul_left _ (s2 (by omega)))
  have s4 : 4 ≤ n → (Dm a 4).natAbs ≤ d 0 * d 1 * d 2 * d 3 := fun hn => by
    rw [Nat.mul_comm]; exact Nat.le_trans (h.le 3 (by omega)) (Nat.mul_le_mul_left _ (s3 (by omega)))
  exact ⟨z, s1, s2, s3, s4⟩
theorem Sol.Dc (h : Sol n a d) {i : Nat} (hi : i ≤ n) : (Dm a i).natAbs ≤ 24 ^ i := by
  induction i with
  | zero => exact Nat.le_refl 1
  | succ i ih =>
    rw [Nat.pow_succ, Nat.mul_comm]
    exact Nat.le_trans (h.le i (by omega)) (Nat.mul_le_mul (h.d1 i (by omega)).2 (ih (by omega)))
theorem Sol.D20736 (h : Sol n a d) : (Dm a n).natAbs ≤ 20736 := by
  have hn := h.n4
  by_cases h4 : n = 4
  · subst h4
    exact Nat.le_trans (h.Dp.2.2.2.2 (by omega)) (prod4 (h.d1 0 (by omega)) (h.d1 1 (by omega)) (h.d1 2 (by omega)) (h.sum rfl))
  · refine Nat.le_trans (h.Dc (Nat.le_refl _)) ?_
    have : ∀ m, m < 4 → 24 ^ m ≤ 20736 := by decide
    exact this n (by omega)
/-- Any column but the one at hand. -/
theorem Sol.N4 (h : Sol n a d) {i k c : Nat} (hk : k < i) (hi : i ≤ c) (hc : c ≤ n) : (Nm a i k c).natAbs ≤ 4000 * (Dm a i).natAbs := by
  by_cases hc2 : c = n
  · subst hc2; exact h.Nb i k hk hi
  · have := h.N1 i k c hk hi (by omega)
    omega
theorem Sol.M4 (h : Sol n a d) {i j c : Nat} (hj : i ≤ j) (hjn : j < n) (hi : i ≤ c) (hc : c ≤ n) : (mn a i j c).natAbs ≤ 4000 * d j * (Dm a i).natAbs := by
  by_cases hc2 : c = n
  · subst hc2; exact h.Mb i j hj hjn
  · have := h.M1 i j c hj hi hjn (by omega)
    have e : 4000 * d j * (Dm a i).natAbs = 4000 * (d j * (Dm a i).natAbs) := Nat.mul_assoc ..
    omega
theorem gd_of {P Pi Mi Q D' Di : Int} {p pi mi q d' di : Nat} (hP : P.natAbs ≤ p) (hPi : Pi.natAbs ≤ pi) (hMi : Mi.natAbs ≤ mi) (hQ : Q.natAbs ≤ q) (hD' : D'.natAbs ≤ d') (hDi : Di.natAbs ≤ di)
    (h1 : p * (q * d') + (pi * mi) * q ≤ 9223372036854775807) (h2 : q * (q * d') ≤ 9223372036854775807) (h3 : pi * di ≤ 9223372036854775807) : Gd P Pi Mi Q D' Di :=
  ⟨Nat.le_trans (Nat.add_le_add (Nat.mul_le_mul hP (Nat.mul_le_mul hQ hD')) (Nat.mul_le_mul (Nat.mul_le_mul hPi hMi) hQ)) h1,
   Nat.le_trans (Nat.mul_le_mul hQ (Nat.mul_le_mul hQ hD')) h2, Nat.le_trans (Nat.mul_le_mul hPi hDi) h3⟩
theorem Sol.gd (h : Sol n a d) {i j c : Nat} (hi : i < n) (hj : j < n) (hji : j ≠ i) (hc : i ≤ c ∧ c ≤ n) : Gd (Ev a i j c) (Ev a i j i) (mn a i i c) (Fv a i j) (Dm a (i + 1)) (Dm a i) := by
  have hn := h.n4
  have hdi := h.d1 i hi
  have hdj := h.d1 j hj
  have cD := h.Dc (i := i) (by omega)
  have cD' := h.Dc (i := i + 1) (by omega)
  have cDj := h.Dc (i := j) (by omega)
  have hmi : (mn a i i c).natAbs ≤ 4000 * 24 * 24 ^ i := Nat.le_trans (h.M4 (Nat.le_refl _) hi hc.1 hc.2) (Nat.mul_le_mul (Nat.mul_le_mul_left _ hdi.2) cD)
  by_cases h1 : j < i
  · by_cases h2 : j + 1 = i
    · subst h2
      have eE : ∀ c, Ev a (j + 1) j c = mn a j j c := fun c => by simp [Ev, Nm_last a (show j < 4 by omega)]
      have eF : Fv a (j + 1) j = Dm a j := by simp [Fv]
      rw [eE, eE, eF]
      refine gd_of (Nat.le_trans (h.M4 (Nat.le_refl _) hj (by omega) hc.2) (Nat.mul_le_mul (Nat.mul_le_mul_left _ hdj.2) cDj)) (Nat.le_trans (h.M1 j j (j + 1) (by omega) (by omega) hj hi) (Nat.mul_le_mul hdj.2 cDj)) hmi cDj cD' cD ?_ ?_ ?_
      · have : ∀ j, j < 3 → 4000 * 24 * 24 ^ j * (24 ^ j * 24 ^ (j + 1 + 1)) + 24 * 24 ^ j * (4000 * 24 * 24 ^ (j + 1)) * 24 ^ j ≤ 9223372036854775807 := by decide
        exact this j (by omega)
      · have : ∀ j, j < 3 → 24 ^ j * (24 ^ j * 24 ^ (j + 1 + 1)) ≤ 9223372036854775807 := by decide
        exact this j (by omega)
      · have : ∀ j, j < 3 → 24 * 24 ^ j * 24 ^ (j + 1) ≤ 9223372036854775807 := by decide
        exact this j (by omega)
    · have eE : ∀ c, Ev a i j c = Dm a (j + 1) * Nm a i j c := fun c => by simp [Ev, h1, h2]
      have eF : Fv a i j = Dm a j * Dm a i := by simp [Fv, h1, h2]
      rw [eE, eE, eF]
      have cDs := h.Dc (i := j + 1) (by omega)
      have bN := h.N4 h1 hc.1 hc.2
      have bN1 := h.N1 i j i h1 (Nat.le_refl _) hi
      by_cases h3 : i = 3
      · subst h3
        have hn4 : n = 4 := by omega
        subst hn4
        obtain ⟨z0, z1, z2, z3, z4⟩ := h.Dp
        replace z1 := z1 (by omega); replace z2 := z2 (by omega); replace z3 := z3 (by omega); replace z4 := z4 (by omega)
        have g0 := h.d1 0 (by omega)
        have g1 := h.d1 1 (by omega)
        have g2 := h.d1 2 (by omega)
        have g3 := h.d1 3 (by omega)
        have hb := big4 g0 g1 g2 (h.sum rfl)
        have hM : (mn a 3 3 c).natAbs ≤ 4000 * d 3 * (d 0 * d 1 * d 2) := Nat.le_trans (h.M4 (Nat.le_refl _) (by omega) hc.1 hc.2) (Nat.mul_le_mul_left _ z3)
        have u1 : 1 ≤ d 0 * d 1 * d 2 * d 3 := Nat.mul_pos (Nat.mul_pos (Nat.mul_pos g0.1 g1.1) g2.1) g3.1
        have hX : d 0 ^ 4 * d 1 ^ 3 * d 2 ^ 3 * d 3 ≤ d 0 ^ 5 * d 1 ^ 4 * d 2 ^ 3 * d 3 := by
          refine Nat.mul_le_mul_right _ (Nat.mul_le_mul_right _ (Nat.mul_le_mul ?_ ?_))
          · exact Nat.pow_le_pow_right g0.1 (by omega)
          · exact Nat.pow_le_pow_right g1.1 (by omega)
        match j, h1, h2 with
        | 0, _, _ =>
          have eq0 : (Dm a 0 * Dm a 3).natAbs ≤ d 0 * d 1 * d 2 := by rw [Int.natAbs_mul, z0, Nat.one_mul]; exact z3
          refine gd_of (na_mul z1 (Nat.le_trans bN (Nat.mul_le_mul_left _ z3))) (na_mul z1 (Nat.le_trans bN1 z3)) hM eq0 z4 z3 ?_ ?_ ?_
          · have : d 0 * (4000 * (d 0 * d 1 * d 2)) * (d 0 * d 1 * d 2 * (d 0 * d 1 * d 2 * d 3)) + d 0 * (d 0 * d 1 * d 2) * (4000 * d 3 * (d 0 * d 1 * d 2)) * (d 0 * d 1 * d 2) = 8000 * (d 0 ^ 4 * d 1 ^ 3 * d 2 ^ 3 * d 3) := by grind
            omega
          · have e : d 0 * d 1 * d 2 * (d 0 * d 1 * d 2 * (d 0 * d 1 * d 2 * d 3)) = d 0 ^ 3 * d 1 ^ 3 * d 2 ^ 3 * d 3 := by grind
            have : d 0 ^ 3 * d 1 ^ 3 * d 2 ^ 3 * d 3 ≤ d 0 ^ 4 * d 1 ^ 3 * d 2 ^ 3 * d 3 := Nat.mul_le_mul_right _ (Nat.mul_le_mul_right _ (Nat.mul_le_mul_right _ (Nat.pow_le_pow_right g0.1 (by omega))))
            omega
          · refine Nat.le_trans (Nat.mul_le_mul (Nat.mul_le_mul g0.2 (Nat.mul_le_mul (Nat.mul_le_mul g0.2 g1.2) g2.2)) (Nat.mul_le_mul (Nat.mul_le_mul g0.2 g1.2) g2.2)) (by decide)
        | 1, _, _ =>
          refine gd_of (na_mul z2 (Nat.le_trans bN (Nat.mul_le_mul_left _ z3))) (na_mul z2 (Nat.le_trans bN1 z3)) hM (na_mul z1 z3) z4 z3 ?_ ?_ ?_
          · have : d 0 * d 1 * (4000 * (d 0 * d 1 * d 2)) * (d 0 * (d 0 * d 1 * d 2) * (d 0 * d 1 * d 2 * d 3)) + d 0 * d 1 * (d 0 * d 1 * d 2) * (4000 * d 3 * (d 0 * d 1 * d 2)) * (d 0 * (d 0 * d 1 * d 2)) = 8000 * (d 0 ^ 5 * d 1 ^ 4 * d 2 ^ 3 * d 3) := by grind
            omega
          · have e : d 0 * (d 0 * d 1 * d 2) * (d 0 * (d 0 * d 1 * d 2) * (d 0 * d 1 * d 2 * d 3)) = d 0 ^ 5 * d 1 ^ 3 * d 2 ^ 3 * d 3 := by grind
            have : d 0 ^ 5 * d 1 ^ 3 * d 2 ^ 3 * d 3 ≤ d 0 ^ 5 * d 1 ^ 4 * d 2 ^ 3 * d 3 := Nat.mul_le_mul_right _ (Nat.mul_le_mul_right _ (Nat.mul_le_mul_left _ (Nat.pow_le_pow_right g1.1 (by omega))))
            omega
          · refine Nat.le_trans (Nat.mul_le_mul (Nat.mul_le_mul (Nat.mul_le_mul g0.2 g1.2) (Nat.mul_le_mul (Nat.mul_le_mul g0.2 g1.2) g2.2)) (Nat.mul_le_mul (Nat.mul_le_mul g0.2 g1.2) g2.2)) (by decide)
        | j + 2, q1, q2 => exact absurd (show j + 2 + 1 = 3 by omega) q2
      · have hj0 : j = 0 := by omega
        have hi2 : i = 2 := by omega
        subst hj0 hi2
        refine gd_of (na_mul cDs (Nat.le_trans bN (Nat.mul_le_mul_left _ cD))) (na_mul cDs (Nat.le_trans bN1 cD)) hmi (na_mul cDj cD) cD' cD (by decide) (by decide) (by decide)
  · have eE : ∀ c, Ev a i j c = mn a i j c := fun c => by simp [Ev, h1]
    have eF : Fv a i j = Dm a i := by simp [Fv, h1]
    rw [eE, eE, eF]
    refine gd_of (Nat.le_trans (h.M4 (by omega) hj hc.1 hc.2) (Nat.mul_le_mul (Nat.mul_le_mul_left _ hdj.2) cD)) (Nat.le_trans (h.M1 i j i (by omega) (by omega) hj hi) (Nat.mul_le_mul hdj.2 cD)) hmi cD cD' cD ?_ ?_ ?_
    · have : ∀ i, i < 3 → 4000 * 24 * 24 ^ i * (24 ^ i * 24 ^ (i + 1)) + 24 * 24 ^ i * (4000 * 24 * 24 ^ i) * 24 ^ i ≤ 9223372036854775807 := by decide
      exact this i (by omega)
    · have : ∀ i, i < 3 → 24 ^ i * (24 ^ i * 24 ^ (i + 1)) ≤ 9223372036854775807 := by decide
      exact this i (by omega)
    · have : ∀ i, i < 3 → 24 * 24 ^ i * 24 ^ i ≤ 9223372036854775807 := by decide
      exact this i (by omega)
theorem Sol.Fne (h : Sol n a d) {i j : Nat} (hi : i ≤ n) (hj : j < n) : Fv a i j ≠ 0 := by
  have p1 := h.pos i hi
  have p2 := h.pos j (by omega)
  unfold Fv
  split
  · split
    · omega
    · exact Int.mul_ne_zero (by omega) (by omega)
  · omega
end Go.D1

set_option linter.unusedVariables false
set_option linter.unusedSimpArgs false
namespace Go.D1
open Go.Tb
theorem Is.of_eq {x : Rat} {n d n' d' : Int} (h : Is x n d) (hd : d ≠ 0) (e : n * d' = n' * d) : Is x n' d' := by
  refine ⟨h.1, ?_⟩
  have h2 := h.2
  refine Int.eq_of_mul_eq_mul_right hd ?_
  generalize x.num = p at *
  generalize x.den = q at *
  have e1 : p * d' * d = p * d * d' := by grind
  have e2 : n' * q * d = n' * d * q := by grind
  rw [e1, e2, h2, ← e]
  grind
theorem Is.mul_left {x : Rat} {n d k : Int} (h : Is x n d) (hd : d ≠ 0) : Is x (k * n) (k * d) := h.of_eq hd (by grind)
theorem Is.num0 {x : Rat} {n d : Int} (h : Is x n d) (hd : d ≠ 0) : x.num = 0 ↔ n = 0 := by
  have h2 := h.2
  have hq := h.1.den_ne
  constructor
  · intro e
    rw [e, Int.zero_mul] at h2
    rcases Int.mul_eq_zero.1 h2.symm with h | h
    · exact h
    · exact absurd h hq
  · intro e
    rw [e, Int.zero_mul] at h2
    rcases Int.mul_eq_zero.1 h2 with h | h
    · exact h
    · exact absurd h hd
theorem sm_of {x : Int} {B : Nat} (h : x.natAbs ≤ B) (hB : B ≤ 9223372036854775807) : Sm x := sm_abs.2 (Nat.le_trans h hB)
/-- A loop whose states are known by a property alone. -/
theorem ex_loop {S R : Type} (N : Nat) (Inv : Nat → S → Prop) (L : Nat → S → Int → Option R) (post : S → Option R)
    (step : ∀ n i s, i < N → Inv i s → ∃ s', Inv (i + 1) s' ∧ L (n + 1) s (i : Int) = L n s' ((i + 1 : Nat) : Int))
    (stop : ∀ n s, Inv N s → L (n + 1) s (N : Int) = post s) (hN : N ≤ 9223372036854775807) {i0 : Nat} (hi : i0 ≤ N) {s0 : S} (h0 : Inv i0 s0) : ∃ s', Inv N s' ∧ L FU s0 (i0 : Int) = post s' := by
  have key : ∀ (d i k : Nat) (s : S), N = i + d → d < k → Inv i s → ∃ s', Inv N s' ∧ L k s (i : Int) = post s' := by
    intro d
    induction d with
    | zero =>
      intro i k s hd hk hs
      cases k with
      | zero => omega
      | succ k =>
        have : i = N := by omega
        subst this
        exact ⟨s, hs, stop k s hs⟩
    | succ d ih =>
      intro i k s hd hk hs
      cases k with
      | zero => omega
      | succ k =>
        obtain ⟨s1, h1, h2⟩ := step k i s (by omega) hs
        obtain ⟨s', h3, h4⟩ := ih (i + 1) k s1 (by omega) (by omega) h1
        exact ⟨s', h3, h2.trans h4⟩
  exact key (N - i0) i0 FU s0 (by omega) (by have := FU_pos; omega) h0
variable {n : Nat} {a : Mt} {d : Nat → Nat}
/-- One place of one step. -/
theorem place_is (h : Sol n a d) {i j c : Nat} (hi : i < n) (hj : j < n) (hji : j ≠ i) (hc : i ≤ c ∧ c ≤ n) (hPi : Ev a i j i ≠ 0) {p f y : Rat} (hp : Is p (Ev a i j c) (Fv a i j)) (hf : Is f (Ev a i j i * Dm a i) (Fv a i j * Dm a (i + 1))) (hy : Is y (mn a i i c) (Dm a i)) :
    ∃ q z, level_mul f y = some q ∧ level_sub p q = some z ∧ Is z (Ev a (i + 1) j c) (Fv a (i + 1) j) := by
  have hn := h.n4
  have g := h.gd hi hj hji hc
  have hF := h.Fne (i := i) (by omega) hj
  have hF1 := h.Fne (i := i + 1) (by omega) hj
  have hDi : Dm a i ≠ 0 := by have := h.pos i (by omega); omega
  have hD' : Dm a (i + 1) ≠ 0 := by have := h.pos (i + 1) (by omega); omega
  have hef := EF a (show i < 4 by omega) hji c
  have g1 := g.s
  have g2 := g.q
  have g3 := g.f
  have hFD : Fv a i j * Dm a (i + 1) ≠ 0 := Int.mul_ne_zero hF hD'
  generalize Ev a i j c = P at *
  generalize Ev a i j i = Pi at *
  generalize mn a i i c = Mi at *
  generalize Fv a i j = Q at *
  generalize Dm a (i + 1) = D' at *
  generalize Dm a i = Di at *
  generalize Ev a (i + 1) j c = P1 at *
  generalize Fv a (i + 1) j = Q1 at *
  have fa : 1 ≤ Q.natAbs := by omega
  have da : 1 ≤ D'.natAbs := by omega
  have dia : 1 ≤ Di.natAbs := by omega
  have c1 : Pi.natAbs * Mi.natAbs ≤ (Pi.natAbs * Mi.natAbs) * Q.natAbs := Nat.le_mul_of_pos_right _ fa
  have c2 : Q.natAbs * D'.natAbs ≤ Q.natAbs * (Q.natAbs * D'.natAbs) := Nat.le_mul_of_pos_left _ fa
  have sFD : Sm (Q * D') := sm_of (B := Q.natAbs * D'.natAbs) (by rw [Int.natAbs_mul]; exact Nat.le_refl _) (by omega)
  have sPD : Sm (Pi * Di) := sm_of (B := Pi.natAbs * Di.natAbs) (by rw [Int.natAbs_mul]; exact Nat.le_refl _) (by omega)
  have sPM : Sm (Pi * Mi) := sm_of (B := Pi.natAbs * Mi.natAbs) (by rw [Int.natAbs_mul]; exact Nat.le_refl _) (by omega)
  have sy : Sm y.num ∧ Sm y.den := by
    have := hy.le hDi
    have e1 : Mi.natAbs ≤ Pi.natAbs * Mi.natAbs := Nat.le_mul_of_pos_left _ (by omega)
    have e2 : Di.natAbs ≤ Pi.natAbs * Di.natAbs := Nat.le_mul_of_pos_left _ (by omega)
    exact ⟨sm_of this.1 (by omega), sm_of this.2 (by omega)⟩
  obtain ⟨q, hq1, hq2⟩ := mul_is hf.1 hy.1 (hf.sm hFD sPD sFD) sy hFD (N := Pi * Mi) (by
    have e1 := hf.2
    have e2 := hy.2
    generalize f.num = u at *
    generalize f.den = v at *
    generalize y.num = s at *
    generalize y.den = t at *
    have : u * s * (Q * D') * Di = Pi * Mi * (v * t) * Di := by
      have e3 : u * s * (Q * D') * Di = (u * (Q * D')) * (s * Di) := by grind
      rw [e3, e1, e2]; grind
    exact Int.eq_of_mul_eq_mul_right hDi this) sPM sFD
  have lp := hp.le hF
  have lq := hq2.le hFD
  rw [Int.natAbs_mul, Int.natAbs_mul] at lq
  have b1 : (p.num * q.den).natAbs ≤ P.natAbs * (Q.natAbs * D'.natAbs) := na_mul lp.1 lq.2
  have b2 : (q.num * p.den).natAbs ≤ (Pi.natAbs * Mi.natAbs) * Q.natAbs := na_mul lq.1 lp.2
  have b3 : (p.den * q.den).natAbs ≤ Q.natAbs * (Q.natAbs * D'.natAbs) := na_mul lp.2 lq.2
  obtain ⟨z, hz1, hz2⟩ := sub_is hp.1 hq2.1 (sm_of b1 (by omega)) (sm_of b2 (by omega)) (sm_abs.2 (by omega)) (sm_of b3 g2)
  refine ⟨q, z, hq1, hz1, hz2.of_eq (Int.mul_ne_zero hp.1.den_ne hq2.1.den_ne) ?_⟩
  have e1 := hp.2
  have e2 := hq2.2
  clear g g1 g2 g3 c1 c2 sFD sPD sPM sy lp lq b1 b2 b3 hz1 hz2 hq1 hq2 hf hy hp
  generalize p.num = u at *
  generalize p.den = v at *
  generalize q.num = s at *
  generalize q.den = t at *
  refine Int.eq_of_mul_eq_mul_right hFD ?_
  have e3 : (u * t - s * v) * Q1 * (Q * D') = (u * Q) * (t * D' * Q1) - (s * (Q * D')) * (v * Q1) := by grind
  have e4 : P1 * (v * t) * (Q * D') = (P1 * (Q * D')) * (v * t) := by grind
  rw [e3, e4, e1, e2, hef]
  grind
end Go.D1

set_option linter.unusedVariables false
set_option linter.unusedSimpArgs false
namespace Go.D1
open Go.Tb
def rg (m : List (List Rat)) (j : Nat) : List Rat := m.getD j []
def rt (row : List Rat) (c : Nat) : Rat := row.getD c ⟨0, 1⟩
theorem rg_at {m : List (List Rat)} {j : Nat} (h : j < m.length) : m[j]? = some (rg m j) := by simp [rg, List.getD, h]
theorem rt_at {m : List Rat} {j : Nat} (h : j < m.length) : m[j]? = some (rt m j) := by simp [rt, List.getD, h]
theorem rg_set {l : List (List Rat)} {i j : Nat} {x : List Rat} : rg (l.set i x) j = if i = j ∧ j < l.length then x else rg l j := by
  unfold rg
  simp only [List.getD_eq_getElem?_getD, List.getElem?_set]
  by_cases h : i = j
  · subst h
    by_cases h2 : i < l.length
    · simp [h2]
    · simp [h2]
  · simp [h]
theorem rt_set {l : List Rat} {i j : Nat} {x : Rat} : rt (l.set i x) j = if i = j ∧ j < l.length then x else rt l j := by
  unfold rt
  simp only [List.getD_eq_getElem?_getD, List.getElem?_set]
  by_cases h : i = j
  · subst h
    by_cases h2 : i < l.length
    · simp [h2]
    · simp [h2]
  · simp [h]
theorem rg_self {l : List (List Rat)} {k : Nat} (hk : k < l.length) : l.set k (rg l k) = l := by
  apply List.ext_getElem?
  intro j
  rw [List.getElem?_set]
  by_cases h : k = j
  · subst h; rw [if_pos rfl, if_pos hk, rg_at hk]
  · rw [if_neg h]
structure RowOk (n : Nat) (a : Mt) (i j : Nat) (row : List Rat) : Prop where
  len : row.length = n + 1
  is_ : ∀ c, i ≤ c → c ≤ n → Is (rt row c) (Ev a i j c) (Fv a i j)
  pv : j < i → Is (rt row j) (Dm a (j + 1)) (Dm a j)
variable {n : Nat} {a : Mt} {d : Nat → Nat}
theorem row_loop (h : Sol n a d) {i j : Nat} (hi : i < n) (hj : j < n) (hji : j ≠ i) (hPi : Ev a i j i ≠ 0) {m : List (List Rat)} (hm : m.length = n) (hri : RowOk n a i i (rg m i)) (hrj : RowOk n a i j (rg m j)) {u v : Int} (hf : Is ⟨u, v⟩ (Ev a i j i * Dm a i) (Fv a i j * Dm a (i + 1))) (rec3 : Int → List (List Rat) → Option (List Rat × List (List Rat))) :
    ∃ row, RowOk n a (i + 1) j row ∧ level_solve_k5 (i : Int) (j : Int) m rec3 u v = level_solve_k4 (j : Int) rec3 (m.set j row) := by
  have hn := h.n4
  have hl := hrj.len
  have hli := hri.len
  obtain ⟨row, ⟨_, q1, q2, q3, q4⟩, e⟩ := ex_loop (n + 1) (fun c (row : List Rat) => i ≤ c ∧ row.length = n + 1 ∧ (∀ c', c ≤ c' → c' ≤ n → rt row c' = rt (rg m j) c') ∧ (∀ c', c' < i → rt row c' = rt (rg m j) c') ∧ (∀ c', i + 1 ≤ c' → c' < c → Is (rt row c') (Ev a (i + 1) j c') (Fv a (i + 1) j)))
    (fun k (row : List Rat) c => level_solve_L2 (i : Int) (j : Int) rec3 u v k c (m.set j row)) (fun row => level_solve_k4 (j : Int) rec3 (m.set j row)) (fun k c row hc ⟨p0, p1, p2, p3, p4⟩ => by
      have hp := hrj.is_ c p0 (by omega)
      have hy := hri.is_ c p0 (by omega)
      rw [Ev_self, Fv_self] at hy
      obtain ⟨q, z, hq, hz, hI⟩ := place_is h hi hj hji ⟨p0, by omega⟩ hPi hp hf hy
      refine ⟨row.set c z, ⟨by omega, by rw [List.length_set]; exact p1, fun c' h1 h2 => ?_, fun c' h1 => ?_, fun c' h1 h2 => ?_⟩, ?_⟩
      · rw [rt_set, if_neg (by omega)]; exact p2 c' (by omega) h2
      · rw [rt_set, if_neg (by omega)]; exact p3 c' h1
      · rw [rt_set]
        by_cases e : c = c'
        · subst e; rw [if_pos ⟨rfl, by omega⟩]; exact hI
        · rw [if_neg (by omega)]; exact p4 c' h1 (by omega)
      · show level_solve_B2 (i : Int) (j : Int) rec3 u v (level_solve_L2 (i : Int) (j : Int) rec3 u v k) _ _ = _
        have hmj : (m.set j row)[j]? = some row := by rw [List.getElem?_set, if_pos rfl, if_pos (by omega)]
        have hmi : (m.set j row)[i]? = some (rg m i) := by rw [List.getElem?_set, if_neg hji]; exact rg_at (by omega)
        have hrc : row[c]? = some (rt (rg m j) c) := by rw [← p2 c (Nat.le_refl _) (by omega)]; exact rt_at (by omega)
        unfold level_solve_B2
        rw [if_pos (by rw [List.length_set, hm]; omega), ix_nat hmj, ix_nat hmj, ix_nat hrc, ix_nat hmi, ix_nat (rt_at (show c < (rg m i).length by omega)), bnd_eq hq, bnd_eq hz, ix_nat hrc, gd_pos (by omega), Int.toNat_natCast, Int.toNat_natCast, List.set_set]; rfl) (fun k row ⟨p0, p1, p2, p3, p4⟩ => by
      show level_solve_B2 (i : Int) (j : Int) rec3 u v (level_solve_L2 (i : Int) (j : Int) rec3 u v k) _ _ = _
      unfold level_solve_B2
      rw [if_neg (by rw [List.length_set, hm]; omega)]) (by omega) (i0 := i) (by omega) (s0 := rg m j) ⟨Nat.le_refl _, hl, fun _ _ _ => rfl, fun _ _ => rfl, fun c' h1 h2 => by omega⟩
  refine ⟨row, ⟨q1, fun c h1 h2 => q4 c h1 (by omega), fun hlt => ?_⟩, ?_⟩
  · rw [q3 j (by omega)]; exact hrj.pv (by omega)
  · rw [rg_self (by omega)] at e
    exact e
/-- The rows before row q are done. -/
def St (n : Nat) (a : Mt) (i q : Nat) (m : List (List Rat)) : Prop := m.length = n ∧ RowOk n a i i (rg m i) ∧ ∀ j, j < n → j ≠ i → RowOk n a (if j < q then i + 1 else i) j (rg m j)
theorem skip_ok (h : Sol n a d) {i j : Nat} (hi : i < n) (hj : j < n) (hji : j ≠ i) (hPi : Ev a i j i = 0) {row : List Rat} (hr : RowOk n a i j row) : RowOk n a (i + 1) j row := by
  have hn := h.n4
  refine ⟨hr.len, fun c h1 h2 => ?_, fun hlt => hr.pv (by omega)⟩
  have hef := EF a (show i < 4 by omega) hji c
  rw [hPi, Int.zero_mul, Int.sub_zero] at hef
  have hD' : Dm a (i + 1) ≠ 0 := by have := h.pos (i + 1) (by omega); omega
  have hF := h.Fne (i := i) (by omega) hj
  refine (hr.is_ c (by omega) h2).of_eq hF ?_
  refine Int.eq_of_mul_eq_mul_right hD' ?_
  generalize Ev a i j c = P at *
  generalize Fv a i j = Q at *
  generalize Ev a (i + 1) j c = P1 at *
  generalize Fv a (i + 1) j = Q1 at *
  generalize Dm a (i + 1) = D' at *
  grind
theorem piv_ok (h : Sol n a d) {i : Nat} (hi : i < n) {row : List Rat} (hr : RowOk n a i i row) : RowOk n a (i + 1) i row := by
  have hn := h.n4
  refine ⟨hr.len, fun c h1 h2 => ?_, fun _ => ?_⟩
  · have := hr.is_ c (by omega) h2
    rw [Ev_self, Fv_self] at this
    rw [Ev_next a (by omega), Fv_next]; exact this
  · have := hr.is_ i (by omega) (by omega)
    rw [Ev_self, Fv_self] at this
    rw [Dm_succ a (by omega)]; exact this
theorem stage_row (h : Sol n a d) {i j : Nat} (hi : i < n) (hj : j < n) {m m6 : List (List Rat)} (hm6 : m6.length = n) (hs : St n a i j m) (rec2 rec3 : Int → List (List Rat) → Option (List Rat × List (List Rat))) :
    ∃ m', St n a i (j + 1) m' ∧ level_solve_B3 (i : Int) m6 rec2 rec3 (j : Int) m = rec3 ((j + 1 : Nat) : Int) m' := by
  have hn := h.n4
  obtain ⟨hm, hri, hr⟩ := hs
  have hli := hri.len
  unfold level_solve_B3
  rw [if_pos (by omega)]
  by_cases hji : j = i
  · subst hji
    refine ⟨m, ⟨hm, hri, fun k hk hki => ?_⟩, ?_⟩
    · have := hr k hk hki
      by_cases e : k < j
      · rw [if_pos e] at this; rw [if_pos (by omega)]; exact this
      · rw [if_neg e] at this; rw [if_neg (by omega)]; exact this
    · rw [if_pos rfl]
      unfold level_solve_k6 level_solve_k4
      rw [if_pos rfl, gd_pos (by omega)]; rfl
  · have hrj := hr j hj hji
    rw [if_neg (by omega)] at hrj
    have hl := hrj.len
    have hI := hrj.is_ i (Nat.le_refl _) (by omega)
    have hF := h.Fne (i := i) (by omega) hj
    rw [if_neg (by omega), ix_nat (rg_at (show j < m.length by omega)), ix_nat (rt_at (show i < (rg m j).length by omega))]
    by_cases h0 : (rt (rg m j) i).num = 0
    · have hPi := (hI.num0 hF).1 h0
      refine ⟨m, ⟨hm, hri, fun k hk hki => ?_⟩, ?_⟩
      · by_cases e : k = j
        · subst e; rw [if_pos (by omega)]; exact skip_ok h hi hk hki hPi hrj
        · have := hr k hk hki
          by_cases e2 : k < j
          · rw [if_pos e2] at this; rw [if_pos (by omega)]; exact this
          · rw [if_neg e2] at this; rw [if_neg (by omega)]; exact this
      · unfold level_solve_k6 level_solve_k4
        rw [decide_eq_true h0, if_pos rfl, gd_pos (by omega)]; rfl
    · have hPi : Ev a i j i ≠ 0 := fun e => h0 ((hI.num0 hF).2 e)
      have hy := hri.is_ i (Nat.le_refl _) (by omega)
      rw [Ev_self, Fv_self, ← Dm_succ a (by omega)] at hy
      have hDi : Dm a i ≠ 0 := by have := h.pos i (by omega); omega
      have hD' : Dm a (i + 1) ≠ 0 := by have := h.pos (i + 1) (by omega); omega
      have g := h.gd hi hj hji ⟨Nat.le_refl i, by omega⟩
      have g1 := g.s
      have g2 := g.q
      have g3 := g.f
      rw [← Dm_succ a (by omega)] at g1
      have hy0 : (rt (rg m i) i).num ≠ 0 := fun e => hD' ((hy.num0 hDi).1 e)
      obtain ⟨f, hf1, hf2⟩ : ∃ f, level_div (rt (rg m j) i) (rt (rg m i) i) = some f ∧ Is f (Ev a i j i * Dm a i) (Fv a i j * Dm a (i + 1)) := by
        generalize rt (rg m j) i = x at *
        generalize rt (rg m i) i = y at *
        generalize Ev a i j i = Pi at *
        generalize Fv a i j = Q at *
        generalize Dm a (i + 1) = D' at *
        generalize Dm a i = Di at *
        have fa : 1 ≤ Q.natAbs := by omega
        have pa : 1 ≤ Pi.natAbs := by omega
        have da : 1 ≤ D'.natAbs := by omega
        have dia : 1 ≤ Di.natAbs := by omega
        have c1 : Q.natAbs ≤ Q.natAbs * D'.natAbs := Nat.le_mul_of_pos_right _ da
        have c2 : Q.natAbs * D'.natAbs ≤ Q.natAbs * (Q.natAbs * D'.natAbs) := Nat.le_mul_of_pos_left _ fa
        have c3 : D'.natAbs ≤ Q.natAbs * D'.natAbs := Nat.le_mul_of_pos_left _ fa
        have c4 : Pi.natAbs ≤ Pi.natAbs * Di.natAbs := Nat.le_mul_of_pos_right _ dia
        have c5 : Di.natAbs ≤ Pi.natAbs * Di.natAbs := Nat.le_mul_of_pos_left _ pa
        refine div_is hI.1 hy.1 hy0 (hI.sm hF (sm_abs.2 (by omega)) (sm_abs.2 (by omega))) (hy.sm hDi (sm_abs.2 (by omega)) (sm_abs.2 (by omega))) (Int.mul_ne_zero hF hD') ?_ (sm_of (B := Pi.natAbs * Di.natAbs) (by rw [Int.natAbs_mul]; exact Nat.le_refl _) (by omega)) (sm_of (B := Q.natAbs * D'.natAbs) (by rw [Int.natAbs_mul]; exact Nat.le_refl _) (by omega))
        have e1 := hI.2
        have e2 := hy.2
        generalize x.num = xu at *
        generalize x.den = xv at *
        generalize y.num = yu at *
        generalize y.den = yv at *
        have e3 : xu * yv * (Q * D') = (xu * Q) * (D' * yv) := by grind
        rw [e3, e1, ← e2]; grind
      obtain ⟨row, hrow, hk⟩ := row_loop h hi hj hji hPi hm hri hrj (u := f.num) (v := f.den) hf2 rec3
      refine ⟨m.set j row, ⟨by rw [List.length_set]; exact hm, ?_, fun k hk hki => ?_⟩, ?_⟩
      · rw [rg_set, if_neg (by omega)]; exact hri
      · by_cases e : j = k
        · subst e
          have e3 : rg (m.set j row) j = row := by rw [rg_set, if_pos ⟨rfl, by omega⟩]
          rw [e3, if_pos (by omega)]; exact hrow
        · have := hr k hk hki
          have e3 : rg (m.set j row) k = rg m k := by rw [rg_set, if_neg (by omega)]
          rw [e3]
          by_cases e2 : k < j
          · rw [if_pos e2] at this; rw [if_pos (by omega)]; exact this
          · rw [if_neg e2] at this; rw [if_neg (by omega)]; exact this
      · unfold level_solve_k6
        rw [decide_eq_false h0, if_neg (by simp), ix_nat (rg_at (show j < m.length by omega)), ix_nat (rt_at (show i < (rg m j).length by omega)), ix_nat (rg_at (show i < m.length by omega)), ix_nat (rt_at (show i < (rg m i).length by omega)), bnd_eq hf1, hk]
        unfold level_solve_k4
        rw [gd_pos (by omega)]; rfl
/-- All rows after i steps. -/
def Sg (n : Nat) (a : Mt) (i : Nat) (m : List (List Rat)) : Prop := m.length = n ∧ ∀ j, j < n → RowOk n a i j (rg m j)
theorem stage (h : Sol n a d) {i : Nat} (hi : i < n) {m : List (List Rat)} (hs : Sg n a i m) (a0 : List (List Rat)) (ha0 : a0.length = n) (rec2 : Int → List (List Rat) → Option (List Rat × List (List Rat))) :
    ∃ m', Sg n a (i + 1) m' ∧ level_solve_B5 a0 rec2 (i : Int) m = rec2 ((i + 1 : Nat) : Int) m' := by
  have hn := h.n4
  obtain ⟨hm, hr⟩ := hs
  have hri := hr i hi
  have hli := hri.len
  have hy := hri.is_ i (Nat.le_refl _) (by omega)
  rw [Ev_self, Fv_self, ← Dm_succ a (by omega)] at hy
  have hDi : Dm a i ≠ 0 := by have := h.pos i (by omega); omega
  have hD' : Dm a (i + 1) ≠ 0 := by have := h.pos (i + 1) (by omega); omega
  have hy0 : (rt (rg m i) i).num ≠ 0 := fun e => hD' ((hy.num0 hDi).1 e)
  obtain ⟨m', ⟨e1, e2, e3⟩, e4⟩ := ex_loop n (fun q m' => St n a i q m') (fun k m' q => level_solve_L3 (i : Int) m rec2 k q m') (fun m' => level_solve_k3 (i : Int) rec2 m') (fun k q m' hq hs' => stage_row h hi hq hm hs' rec2 _) (fun k m' hs' => by
      show level_solve_B3 (i : Int) m rec2 (level_solve_L3 (i : Int) m rec2 k) _ _ = _
      unfold level_solve_B3
      rw [if_neg (by omega)]) (by omega) (i0 := 0) (by omega) (s0 := m) ⟨hm, hri, fun j hj hji => by rw [if_neg (by omega)]; exact hr j hj⟩
  refine ⟨m', ⟨e1, fun j hj => ?_⟩, ?_⟩
  · by_cases e : j = i
    · subst e; exact piv_ok h hi e2
    · have := e3 j hj e; rw [if_pos hj] at this; exact this
  · obtain ⟨k, hk⟩ : ∃ k, FU = k + 1 := ⟨FU - 1, by have := FU_pos; omega⟩
    unfold level_solve_B5
    rw [if_pos (by omega), hk]
    show level_solve_B4 (i : Int) m rec2 (level_solve_L4 (i : Int) m rec2 k) _ = _
    have hmi := rg_at (show i < m.length by omega)
    unfold level_solve_B4 level_solve_k7
    rw [ix_nat hmi, ix_nat (rt_at (show i < (rg m i).length by omega)), if_neg hy0, ix_nat hmi, ix_nat hmi, ix_nat hmi, ix_nat hmi, Int.toNat_natCast, rg_self (by omega), rg_self (by omega)]
    refine e4.trans ?_
    unfold level_solve_k3
    rw [gd_pos (by omega)]; rfl
/-- What solve returns: by Cramer's rule. -/
theorem solve_eq (h : Sol n a d) {m : List (List Rat)} (hm : m.length = n) (hr : ∀ j, j < n → (rg m j).length = n + 1 ∧ ∀ c, c ≤ n → Is (rt (rg m j) c) (a j c) 1) :
    ∃ (xs : List Rat) (m' : List (List Rat)), level_solve m = some (xs, m') ∧ xs.length = n ∧ ∀ j, j < n → Is (rt xs j) (Nm a n j n) (Dm a n) := by
  have hn := h.n4
  obtain ⟨m', ⟨s1, s2⟩, e⟩ := ex_loop n (fun i m' => Sg n a i m') (fun k m' i => level_solve_L5 m k i m') (fun m' => level_solve_k2 m') (fun k i m' hi hs => stage h hi hs m hm _) (fun k m' hs => by
      show level_solve_B5 m (level_solve_L5 m k) _ _ = _
      unfold level_solve_B5
      rw [if_neg (by omega)]) (by omega) (i0 := 0) (by omega) (s0 := m) ⟨hm, fun j hj => ⟨(hr j hj).1, fun c _ h2 => by
        rw [show Ev a 0 j c = a j c by simp [Ev, mn_zero], show Fv a 0 j = 1 by simp [Fv, Dm]]
        exact (hr j hj).2 c h2, fun h => by omega⟩⟩
  obtain ⟨xs, ⟨x1, x2⟩, e2⟩ := ex_loop n (fun i (xs : List Rat) => xs.length = i ∧ ∀ j, j < i → Is (rt xs j) (Nm a n j n) (Dm a n)) (fun k xs i => level_solve_L1 m' k i xs) (fun xs => some (xs, m')) (fun k j xs hj ⟨p1, p2⟩ => by
      have hrj := s2 j hj
      have hl := hrj.len
      have hx := hrj.is_ n (by omega) (by omega)
      have hy := hrj.pv hj
      have hF := h.Fne (i := n) (Nat.le_refl _) hj
      have hDj : Dm a j ≠ 0 := by have := h.pos j (by omega); omega
      have hDs : Dm a (j + 1) ≠ 0 := by have := h.pos (j + 1) (by omega); omega
      have hDn : Dm a n ≠ 0 := by have := h.pos n (by omega); omega
      have cj := h.Dc (i := j) (by omega)
      have cs := h.Dc (i := j + 1) (by omega)
      have cn := h.Dc (i := n) (by omega)
      have bn := Nat.le_trans (h.Nb n j hj (Nat.le_refl _)) (Nat.mul_le_mul_left _ cn)
      have m24 : ∀ i, i ≤ n → 24 ^ i ≤ 331776 := fun i hi => by
        have : ∀ m, m < 5 → 24 ^ m ≤ 331776 := by decide
        exact this i (by omega)
      have k1 := m24 j (by omega)
      have k2 := m24 (j + 1) (by omega)
      have k3 := m24 n (by omega)
      have hid : Ev a n j n * Dm a j * Dm a n = Nm a n j n * Fv a n j * Dm a (j + 1) := by
        unfold Ev Fv
        rw [if_pos hj, if_pos hj]
        by_cases e : j + 1 = n
        · rw [if_pos e, if_pos e, e]
        · rw [if_neg e, if_neg e]; grind
      have hEF : (Ev a n j n).natAbs ≤ 331776 * (4000 * 331776) ∧ (Fv a n j).natAbs ≤ 331776 * 331776 := by
        unfold Ev Fv
        rw [if_pos hj, if_pos hj]
        by_cases e : j + 1 = n
        · rw [if_pos e, if_pos e]; omega
        · rw [if_neg e, if_neg e]
          exact ⟨na_mul (by omega) (by omega), na_mul (by omega) (by omega)⟩
      have hy0 : (rt (rg m' j) j).num ≠ 0 := fun e => hDs ((hy.num0 hDj).1 e)
      obtain ⟨z, hz1, hz2⟩ : ∃ z, level_div (rt (rg m' j) n) (rt (rg m' j) j) = some z ∧ Is z (Nm a n j n) (Dm a n) := by
        generalize rt (rg m' j) n = x at *
        generalize rt (rg m' j) j = y at *
        refine div_is hx.1 hy.1 hy0 (hx.sm hF (sm_of hEF.1 (by decide)) (sm_of hEF.2 (by decide))) (hy.sm hDj (sm_abs.2 (by omega)) (sm_abs.2 (by omega))) hDn ?_ (sm_of bn (by omega)) (sm_abs.2 (by omega))
        have e1 := hx.2
        have e2 := hy.2
        refine Int.eq_of_mul_eq_mul_right (Int.mul_ne_zero hF hDs) ?_
        clear hx hy hy0 cj cs cn bn m24 k1 k2 k3 hEF
        generalize x.num = xu at *
        generalize x.den = xv at *
        generalize y.num = yu at *
        generalize y.den = yv at *
        generalize Ev a n j n = E at *
        generalize Fv a n j = F at *
        generalize Nm a n j n = N at *
        generalize Dm a n = Dn at *
        generalize Dm a (j + 1) = Ds at *
        generalize Dm a j = Dj at *
        have e3 : xu * yv * Dn * (F * Ds) = (xu * F) * (Ds * yv) * Dn := by grind
        rw [e3, e1, ← e2]
        have e4 : E * xv * (yu * Dj) * Dn = (E * Dj * Dn) * (xv * yu) := by grind
        rw [e4, hid]
        grind
      refine ⟨xs ++ [z], ⟨by simp [p1], fun k hk => ?_⟩, ?_⟩
      · by_cases e : k = j
        · subst e
          have : rt (xs ++ [z]) k = z := by simp [rt, List.getD_eq_getElem?_getD, ← p1]
          rw [this]; exact hz2
        · have : rt (xs ++ [z]) k = rt xs k := by
            simp only [rt, List.getD_eq_getElem?_getD]
            rw [List.getElem?_append_left (by omega)]
          rw [this]; exact p2 k (by omega)
      · show level_solve_B1 m' (level_solve_L1 m' k) _ _ = _
        have hmj := rg_at (show j < m'.length by omega)
        unfold level_solve_B1
        rw [if_pos (by omega), ix_nat hmj, s1, ix_nat (rt_at (show n < (rg m' j).length by omega)), ix_nat hmj, ix_nat (rt_at (show j < (rg m' j).length by omega)), bnd_eq hz1, gd_pos (by simp; omega), gd_pos (by omega)]; rfl) (fun k xs ⟨p1, p2⟩ => by
      show level_solve_B1 m' (level_solve_L1 m' k) _ _ = _
      unfold level_solve_B1 level_solve_k1
      rw [if_neg (by omega)]) (by omega) (i0 := 0) (by omega) (s0 := []) ⟨rfl, fun j hj => by omega⟩
  exact ⟨xs, m', e.trans e2, x1, x2⟩
end Go.D1

set_option linter.unusedVariables false
set_option linter.unusedSimpArgs false
namespace Go.D1
open Go.Tb
def gl (m : List (List Int)) (i : Nat) : List Int := m.getD i []
theorem gl_at {m : List (List Int)} {i : Nat} (h : i < m.length) : m[i]? = some (gl m i) := by simp [gl, List.getD, h]
def cutC (q : Nat) (r : List Int) : List Int := r.take q ++ r.drop (q + 1)
def minor (m : List (List Int)) (q : Nat) : List (List Int) := (m.drop 1).map (cutC q)
def sg (q : Nat) : Int := if q % 2 = 0 then 1 else -1
theorem sg_succ (q : Nat) : sg (q + 1) = -sg q := by
  unfold sg
  split <;> split <;> omega
def dsum (f : List (List Int) → Int) (m : List (List Int)) : Nat → Int
  | 0 => 0
  | q + 1 => dsum f m q + sg q * gi (gl m 0) q * f (minor m q)
def dt : Nat → List (List Int) → Int
  | 0, _ => 1
  | n + 1, m => dsum (dt n) m (n + 1)
structure Sq (n : Nat) (B : Int) (m : List (List Int)) : Prop where
  len : m.length = n
  row : ∀ r ∈ m, r.length = n ∧ ∀ x ∈ r, -B ≤ x ∧ x ≤ B
theorem Sq.at_ {n : Nat} {B : Int} {m : List (List Int)} (h : Sq n B m) {i : Nat} (hi : i < n) : (gl m i).length = n ∧ ∀ j, j < n → -B ≤ gi (gl m i) j ∧ gi (gl m i) j ≤ B := by
  have h1 := h.row _ (List.mem_of_getElem? (gl_at (by rw [h.len]; exact hi)))
  exact ⟨h1.1, fun j hj => h1.2 _ (List.mem_of_getElem? (gi_at (by rw [h1.1]; exact hj)))⟩
theorem Sq.minor {n : Nat} {B : Int} {m : List (List Int)} (h : Sq (n + 1) B m) {q : Nat} (hq : q < n + 1) : Sq n B (minor m q) := by
  refine ⟨by unfold D1.minor; simp [h.len], fun r hr => ?_⟩
  unfold D1.minor at hr
  obtain ⟨r0, h0, rfl⟩ := List.mem_map.1 hr
  have h1 := h.row r0 (List.mem_of_mem_drop h0)
  refine ⟨by unfold cutC; simp [h1.1]; omega, fun x hx => ?_⟩
  unfold cutC at hx
  rcases List.mem_append.1 hx with hx | hx
  · exact h1.2 x (List.mem_of_mem_take hx)
  · exact h1.2 x (List.mem_of_mem_drop hx)
def bd (B : Nat) : Nat → Nat
  | 0 => 1
  | n + 1 => (n + 1) * (B * bd B n)
theorem mul_abs {a b : Int} {A B : Nat} (ha : a.natAbs ≤ A) (hb : b.natAbs ≤ B) : (a * b).natAbs ≤ A * B := by
  rw [Int.natAbs_mul]; exact Nat.mul_le_mul ha hb
theorem sg_abs (q : Nat) : (sg q).natAbs = 1 := by unfold sg; split <;> rfl
theorem term_abs {B : Nat} {x r : Int} {C : Nat} (q : Nat) (hx : -(B : Int) ≤ x ∧ x ≤ B) (hr : r.natAbs ≤ C) : (sg q * x).natAbs ≤ B ∧ (sg q * x * r).natAbs ≤ B * C := by
  have h1 : (sg q * x).natAbs ≤ B := by
    have := mul_abs (a := sg q) (b := x) (A := 1) (B := B) (by rw [sg_abs]; exact Nat.le_refl _) (by omega)
    omega
  exact ⟨h1, mul_abs h1 hr⟩
theorem dsum_abs {B C n : Nat} {f : List (List Int) → Int} {m : List (List Int)} (hm : Sq (n + 1) B m) (hf : ∀ q, q < n + 1 → (f (minor m q)).natAbs ≤ C) : ∀ q, q ≤ n + 1 → (dsum f m q).natAbs ≤ q * (B * C)
  | 0, _ => by simp [dsum]
  | q + 1, hq => by
    have ih := dsum_abs hm hf q (by omega)
    have ht := (term_abs q ((hm.at_ (i := 0) (by omega)).2 q (by omega)) (hf q (by omega))).2
    have : (dsum f m (q + 1)).natAbs ≤ (dsum f m q).natAbs + (sg q * gi (gl m 0) q * f (minor m q)).natAbs := Int.natAbs_add_le _ _
    rw [Nat.succ_mul]
    omega
theorem dt_abs {B : Nat} : ∀ (n : Nat) (m : List (List Int)), Sq n B m → (dt n m).natAbs ≤ bd B n
  | 0, _, _ => Nat.le_refl _
  | n + 1, m, h => dsum_abs h (fun q hq => dt_abs n _ (h.minor hq)) (n + 1) (Nat.le_refl _)
theorem bd_mono {B : Nat} (hB : 1 ≤ B) : ∀ n, bd B n ≤ bd B (n + 1) := fun n => by
  show bd B n ≤ (n + 1) * (B * bd B n)
  have h1 : bd B n ≤ B * bd B n := Nat.le_mul_of_pos_left _ hB
  have h2 : B * bd B n ≤ (n + 1) * (B * bd B n) := Nat.le_mul_of_pos_left _ (by omega)
  omega
theorem loop1 {S R : Type} (N : Nat) (g : Nat → S) (L : Nat → S → Int → Option R) (yes : Option R)
    (step : ∀ n i : Nat, 1 ≤ i → i < N → L (n + 1) (g i) (i : Int) = L n (g (i + 1)) ((i + 1 : Nat) : Int))
    (stop : ∀ n : Nat, L (n + 1) (g N) (N : Int) = yes) : ∀ (d n i : Nat), 1 ≤ i → N = i + d → d < n → L n (g i) (i : Int) = yes
  | 0, n + 1, i, h1, hd, hn => by
    have hi : i = N := by omega
    subst hi
    exact stop n
  | d + 1, n + 1, i, h1, hd, hn => by
    rw [step n i h1 (by omega)]
    exact loop1 N g L yes step stop d n (i + 1) (by omega) (by omega) (by omega)
theorem det_F_eq {B : Nat} (hB : 1 ≤ B ∧ B ≤ 1000000) : ∀ (n k : Nat) (m : List (List Int)), n ≤ 1000 → bd B n ≤ 9223372036854775807 → Sq n B m → n < k → ref01_det_F k m = some (dt n m)
  | 0, k + 1, m, _, _, hm, _ => by
    show ref01_det_body (ref01_det_F k) m = _
    unfold ref01_det_body
    rw [if_pos (by have := hm.len; omega)]; rfl
  | n + 1, k + 1, m, hn, hb, hm, hk => by
    have hml := hm.len
    have hb0 : bd B n ≤ 9223372036854775807 := by have := bd_mono hB.1 n; omega
    have hbn : bd B (n + 1) = (n + 1) * (B * bd B n) := rfl
    show ref01_det_body (ref01_det_F k) m = _
    unfold ref01_det_body
    rw [if_neg (by omega)]
    refine for0 (n + 1) (fun q => (dsum (dt n) m q, sg q)) (fun k' st i => ref01_det_L2 m (ref01_det_F k) k' st.1 st.2 i) _ (s0 := (0, 1)) rfl (fun k' q hq => ?_) (fun k' => ?_) (by omega)
    · show ref01_det_B2 m (ref01_det_F k) (ref01_det_L2 m (ref01_det_F k) k') (dsum (dt n) m q) (sg q) (q : Int) = _
      unfold ref01_det_B2
      rw [if_pos (by omega)]
      have hcut : ∀ i, i < n + 1 → (cutC q (gl m i)).length = n := fun i hi => by
        have := (hm.at_ hi).1
        unfold cutC; simp [this]; omega
      have key := loop1 (n + 1) (fun i => (((m.take i).drop 1).map (cutC q))) (fun k'' l i => ref01_det_L1 m (ref01_det_F k) (dsum (dt n) m q) (sg q) (q : Int) (ref01_det_L2 m (ref01_det_F k) k') k'' i l) (ref01_det_L2 m (ref01_det_F k) k' (dsum (dt n) m (q + 1)) (sg (q + 1)) ((q + 1 : Nat) : Int)) (fun k'' i h1 hi => ?_) (fun k'' => ?_) n FU 1 (Nat.le_refl _) (by omega) (by have := FU_pos; omega)
      · have e0 : ((m.take 1).drop 1).map (cutC q) = [] := by simp
        simp only [e0] at key
        exact key
      · show ref01_det_B1 m (ref01_det_F k) _ _ _ _ (ref01_det_L1 m (ref01_det_F k) _ _ _ _ k'') _ _ = _
        have hx := gl_at (m := m) (i := i) (by omega)
        have hl := (hm.at_ hi).1
        have hln : (((m.take i).drop 1).map (cutC q)).length ≤ i := by simp; omega
        unfold ref01_det_B1
        rw [if_pos (by omega), ix_nat hx, gd_pos (by omega), gd_pos (by simp [hl]; omega), ix_nat hx, gd_pos (by omega), gd_pos (by omega), gd_pos (by simp [hl]; omega), gd_pos (by omega), gd_pos (by omega)]
        have e : ((m.take (i + 1)).drop 1).map (cutC q) = ((m.take i).drop 1).map (cutC q) ++ [([] ++ List.take (Int.toNat (q : Int)) (gl m i)) ++ List.drop (Int.toNat ((q : Int) + 1)) (gl m i)] := by
          rw [List.take_add_one, hx, List.drop_append_of_le_length (by rw [List.length_take]; omega), List.map_append]
          rfl
        simp only [e]
        rfl
      · show ref01_det_B1 m (ref01_det_F k) _ _ _ _ (ref01_det_L1 m (ref01_det_F k) _ _ _ _ k'') _ _ = _
        unfold ref01_det_B1 ref01_det_k3 ref01_det_k2
        have h0 := hm.at_ (i := 0) (by omega)
        have hr := dt_abs n _ (hm.minor hq)
        have ht := term_abs q (h0.2 q hq) hr
        have hs := dsum_abs hm (fun q hq => dt_abs n _ (hm.minor hq)) q (by omega)
        have hs1 := dsum_abs hm (fun q hq => dt_abs n _ (hm.minor hq)) (q + 1) (by omega)
        have hmono : (q + 1) * (B * bd B n) ≤ (n + 1) * (B * bd B n) := Nat.mul_le_mul_right _ (by omega)
        have hle : B * bd B n ≤ (n + 1) * (B * bd B n) := Nat.le_mul_of_pos_left _ (by omega)
        have e : ((m.take (n + 1)).drop 1).map (cutC q) = minor m q := by rw [List.take_of_length_le (by omega)]; rfl
        have hsg := sg_abs q
        have hsx : dsum (dt n) m (q + 1) = dsum (dt n) m q + sg q * gi (gl m 0) q * dt n (minor m q) := rfl
        rw [hsx] at hs1
        rw [if_neg (by omega), ix0 (gl_at (by omega)), ix_nat (gi_at (by rw [h0.1]; exact hq)), gd_pos (by have := ht.1; omega), e, bnd_eq (det_F_eq hB n k (minor m q) (by omega) hb0 (hm.minor hq) (by omega)), gd_pos (by have := ht.2; omega), gd_pos (by omega), gd_pos (by omega), gd_pos (by omega), hsx, sg_succ]; rfl
    · show ref01_det_B2 m (ref01_det_F k) (ref01_det_L2 m (ref01_det_F k) k') (dsum (dt n) m (n + 1)) (sg (n + 1)) _ = _
      unfold ref01_det_B2
      rw [if_neg (by omega)]; rfl
end Go.D1

set_option linter.unusedVariables false
set_option linter.unusedSimpArgs false
namespace Go.D1
open Go.Tb
/-- What a reading gives to a place of the table of weights of points p, q. -/
def lc (p q : Int) (same : Bool) (r : Reading) : Int :=
  if same = true then (if r.from_ = p ∨ r.to_ = p then r.weight else 0) else (if (r.from_ = p ∧ r.to_ = q) ∨ (r.to_ = p ∧ r.from_ = q) then -r.weight else 0)
def lsum (s : Survey) (p q : Int) (same : Bool) : Nat → Int
  | 0 => 0
  | t + 1 => lsum s p q same t + lc p q same (gr s.readings t)
theorem lc_abs {s : Survey} (hs : SvOk s) {t : Nat} (ht : t < s.readings.length) (p q : Int) (same : Bool) : -3 ≤ lc p q same (gr s.readings t) ∧ lc p q same (gr s.readings t) ≤ 3 := by
  have := (gr_ok hs ht).2.2.2.2
  unfold lc
  split <;> split <;> omega
theorem lsum_abs {s : Survey} (hs : SvOk s) (p q : Int) (same : Bool) : ∀ t : Nat, t ≤ s.readings.length → -(3 * (t : Int)) ≤ lsum s p q same t ∧ lsum s p q same t ≤ 3 * (t : Int)
  | 0, _ => by simp [lsum]
  | t + 1, ht => by
    have ih := lsum_abs hs p q same t (by omega)
    have := lc_abs hs (t := t) (by omega) p q same
    simp only [lsum]
    omega
def lent (s : Survey) (pts : List Int) (i k : Nat) : Int := lsum s (gi pts i) (gi pts k) (decide (i = k)) s.readings.length
theorem set_self {l : List Int} {k : Nat} (hk : k < l.length) : l.set k (gi l k) = l := by
  refine gi_ext (by simp) fun j hj => ?_
  rw [gi_set]
  split
  · rename_i h; rw [h.1]
  · rfl
theorem lap_step {s : Survey} (hs : SvOk s) {pts : List Int} (hp : pts.length ≤ 1000) {i k t : Nat} (hi : i < pts.length) (hk : k < pts.length) (ht : t < s.readings.length) {l : List Int} (hl : l.length = pts.length) (hb : -1000 ≤ gi l k ∧ gi l k ≤ 1000) (rec2 rec3 : Int → List Int → Option (List (List Int))) :
    ref01_laplace_B1 s pts (i : Int) (k : Int) rec2 rec3 (t : Int) l = rec3 ((t + 1 : Nat) : Int) (l.set k (gi l k + lc (gi pts i) (gi pts k) (decide (i = k)) (gr s.readings t))) := by
  have h8 := hs.len
  have hw := (gr_ok hs ht).2.2.2.2
  have hx : l[k]? = some (gi l k) := gi_at (by omega)
  have hpi := gi_at hi
  have hpk := gi_at hk
  have hne := (gr_ok hs ht).2.2.1
  have yes : ∀ v : Int, lc (gi pts i) (gi pts k) (decide (i = k)) (gr s.readings t) = v → rec3 ((t : Int) + 1) (l.set k (gi l k + v)) = rec3 ((t + 1 : Nat) : Int) (l.set k (gi l k + lc (gi pts i) (gi pts k) (decide (i = k)) (gr s.readings t))) := fun v hv => by rw [hv]; rfl
  have no : lc (gi pts i) (gi pts k) (decide (i = k)) (gr s.readings t) = 0 → rec3 ((t : Int) + 1) l = rec3 ((t + 1 : Nat) : Int) (l.set k (gi l k + lc (gi pts i) (gi pts k) (decide (i = k)) (gr s.readings t))) := fun hv => by rw [hv, Int.add_zero, set_self (by omega)]; rfl
  have yes' : lc (gi pts i) (gi pts k) (decide (i = k)) (gr s.readings t) = -(gr s.readings t).weight → rec3 ((t : Int) + 1) (l.set k (gi l k - (gr s.readings t).weight)) = rec3 ((t + 1 : Nat) : Int) (l.set k (gi l k + lc (gi pts i) (gi pts k) (decide (i = k)) (gr s.readings t))) := fun hv => by rw [← yes _ hv, Int.sub_eq_add_neg]
  generalize hR : rec3 ((t + 1 : Nat) : Int) (l.set k (gi l k + lc (gi pts i) (gi pts k) (decide (i = k)) (gr s.readings t))) = RR at *
  unfold ref01_laplace_B1 ref01_laplace_k8 ref01_laplace_k7 ref01_laplace_k6 ref01_laplace_k5
  rw [if_pos (by omega), ix_nat (gr_at ht)]
  by_cases e : i = k
  · subst e
    rw [if_pos rfl, ix_nat hpi]
    by_cases h1 : (gr s.readings t).from_ = gi pts i
    · rw [if_pos h1, if_pos rfl, ix_nat hx, gd_pos (by omega), ix_nat hx, if_pos rfl, if_neg (by simp), gd_pos (by omega)]
      exact yes _ (by unfold lc; simp [h1])
    · rw [if_neg h1, ix_nat hpi]
      by_cases h2 : (gr s.readings t).to_ = gi pts i
      · rw [if_pos (decide_eq_true h2), ix_nat hx, gd_pos (by omega), ix_nat hx, if_pos rfl, if_neg (by simp), gd_pos (by omega)]
        exact yes _ (by unfold lc; simp [h2])
      · rw [if_neg (by simpa using h2), if_pos rfl, if_neg (by simp), gd_pos (by omega)]
        exact no (by unfold lc; simp [h1, h2])
  · have ei : ¬ ((i : Int) = (k : Int)) := by omega
    rw [if_neg ei, if_neg (by simp), if_neg ei, ix_nat hpi]
    by_cases h1 : (gr s.readings t).from_ = gi pts i
    · rw [if_pos h1, ix_nat hpk]
      by_cases h2 : (gr s.readings t).to_ = gi pts k
      · rw [if_pos h2, if_pos rfl, ix_nat hx, gd_pos (by omega), ix_nat hx, gd_pos (by omega)]
        exact yes' (by unfold lc; simp [e, h1, h2])
      · rw [if_neg h2, ix_nat hpi]
        by_cases h3 : (gr s.readings t).to_ = gi pts i
        · exact absurd (h1.trans h3.symm) hne
        · rw [if_neg h3, if_neg (by simp), gd_pos (by omega)]
          exact no (by unfold lc; simp [e, h2, h3])
    · rw [if_neg h1, ix_nat hpi]
      by_cases h3 : (gr s.readings t).to_ = gi pts i
      · rw [if_pos h3, ix_nat hpk]
        by_cases h4 : (gr s.readings t).from_ = gi pts k
        · rw [if_pos (decide_eq_true h4), ix_nat hx, gd_pos (by omega), ix_nat hx, gd_pos (by omega)]
          exact yes' (by unfold lc; simp [e, h3, h4])
        · rw [if_neg (by simpa using h4), gd_pos (by omega)]
          exact no (by unfold lc; simp [e, h1, h4])
      · rw [if_neg h3, if_neg (by simp), gd_pos (by omega)]
        exact no (by unfold lc; simp [e, h1, h3])
def lrow (s : Survey) (pts : List Int) (i : Nat) : List Int := (List.range pts.length).map (lent s pts i)
def lapR (s : Survey) (pts : List Int) : List (List Int) := (List.range pts.length).map (lrow s pts)
theorem laplace_eq {s : Survey} (hs : SvOk s) {pts : List Int} (hp : pts.length ≤ 1000) : ref01_laplace s pts = some (lapR s pts) := by
  have h8 := hs.len
  unfold ref01_laplace
  refine for0 pts.length (fun i => (List.range i).map (lrow s pts)) (fun k m i => ref01_laplace_L3 s pts k i m) _ rfl (fun k i hi => ?_) (fun k => ?_) (by omega)
  · show ref01_laplace_B3 s pts (ref01_laplace_L3 s pts k) _ _ = _
    unfold ref01_laplace_B3
    rw [if_pos (by omega), gd_pos (by omega)]
    refine for0 pts.length (fun c => (List.range c).map (lent s pts i) ++ List.replicate (pts.length - c) 0) (fun k' l c => ref01_laplace_L2 s pts (i : Int) ((List.range i).map (lrow s pts)) (ref01_laplace_L3 s pts k) k' c l) _ (by simp) (fun k' c hc => ?_) (fun k' => ?_) (by omega)
    · show ref01_laplace_B2 s pts _ _ _ (ref01_laplace_L2 s pts _ _ _ k') _ _ = _
      have hlen : ((List.range c).map (lent s pts i) ++ List.replicate (pts.length - c) (0 : Int)).length = pts.length := by simp; omega
      have hgc : ∀ v : Int, ((List.range c).map (lent s pts i) ++ List.replicate (pts.length - c) (0 : Int)).set c v = (List.range c).map (lent s pts i) ++ v :: List.replicate (pts.length - (c + 1)) 0 := fun v => by
        rw [List.set_append_right _ _ (by simp), show pts.length - c = (pts.length - (c + 1)) + 1 by omega, List.replicate_succ]
        simp
      unfold ref01_laplace_B2
      rw [if_pos (by omega)]
      refine for0 s.readings.length (fun t => ((List.range c).map (lent s pts i) ++ List.replicate (pts.length - c) (0 : Int)).set c (lsum s (gi pts i) (gi pts c) (decide (i = c)) t)) (fun k'' l t => ref01_laplace_L1 s pts (i : Int) (c : Int) (ref01_laplace_L2 s pts (i : Int) ((List.range i).map (lrow s pts)) (ref01_laplace_L3 s pts k) k') k'' t l) _ ?_ (fun k'' t ht => ?_) (fun k'' => ?_) (by omega)
      · simp only [lsum, hgc]
        rw [show pts.length - c = (pts.length - (c + 1)) + 1 by omega, List.replicate_succ]
      · have hv : gi (((List.range c).map (lent s pts i) ++ List.replicate (pts.length - c) (0 : Int)).set c (lsum s (gi pts i) (gi pts c) (decide (i = c)) t)) c = lsum s (gi pts i) (gi pts c) (decide (i = c)) t := by
          rw [gi_set, if_pos ⟨rfl, by rw [hlen]; exact hc⟩]
        have hb := lsum_abs hs (gi pts i) (gi pts c) (decide (i = c)) t (by omega)
        show ref01_laplace_B1 s pts _ _ _ (ref01_laplace_L1 s pts _ _ _ k'') _ _ = _
        rw [lap_step hs hp hi hc ht (by rw [List.length_set, hlen]) (by rw [hv]; omega), hv, List.set_set]; rfl
      · show ref01_laplace_B1 s pts _ _ _ (ref01_laplace_L1 s pts _ _ _ k'') _ _ = _
        unfold ref01_laplace_B1 ref01_laplace_k4
        rw [if_neg (by omega), gd_pos (by omega), hgc]
        have : (List.range (c + 1)).map (lent s pts i) ++ List.replicate (pts.length - (c + 1)) 0 = (List.range c).map (lent s pts i) ++ lsum s (gi pts i) (gi pts c) (decide (i = c)) s.readings.length :: List.replicate (pts.length - (c + 1)) 0 := by
          rw [List.range_succ, List.map_append]; simp [lent]
        rw [← this]; rfl
    · show ref01_laplace_B2 s pts _ _ _ (ref01_laplace_L2 s pts _ _ _ k') _ _ = _
      unfold ref01_laplace_B2 ref01_laplace_k3 ref01_laplace_k2
      rw [if_neg (by omega), gd_pos (by simp; omega), gd_pos (by omega), Nat.sub_self, List.replicate_zero, List.append_nil, List.range_succ, List.map_append]; rfl
  · show ref01_laplace_B3 s pts (ref01_laplace_L3 s pts k) _ _ = _
    unfold ref01_laplace_B3
    rw [if_neg (by omega)]; rfl
end Go.D1

set_option linter.unusedVariables false
set_option linter.unusedSimpArgs false
namespace Go.D1
open Go.Tb
theorem lap_sq {s : Survey} (hs : SvOk s) (pts : List Int) : Sq pts.length 24 (lapR s pts) := by
  have h8 := hs.len
  refine ⟨by unfold lapR; simp, fun r hr => ?_⟩
  unfold lapR at hr
  obtain ⟨i, _, rfl⟩ := List.mem_map.1 hr
  refine ⟨by unfold lrow; simp, fun x hx => ?_⟩
  unfold lrow at hx
  obtain ⟨k, _, rfl⟩ := List.mem_map.1 hx
  have := lsum_abs hs (gi pts i) (gi pts k) (decide (i = k)) s.readings.length (Nat.le_refl _)
  show -24 ≤ lsum _ _ _ _ _ ∧ lsum _ _ _ _ _ ≤ 24
  omega
def detL (s : Survey) (pts : List Int) : Int := dt pts.length (lapR s pts)
theorem bd24 {n : Nat} (h : n ≤ 5) : bd 24 n ≤ 1000000000000 := by
  have : ∀ m, m < 6 → bd 24 m ≤ 1000000000000 := by decide
  exact this n (by omega)
theorem detL_eq {s : Survey} (hs : SvOk s) {pts : List Int} (hp : pts.length ≤ 5) : ref01_det (lapR s pts) = some (detL s pts) :=
  det_F_eq (B := 24) (by omega) pts.length FU (lapR s pts) (by omega) (by have := bd24 hp; omega) (lap_sq hs pts) (by have := FU_pos; omega)
theorem detL_sm {s : Survey} (hs : SvOk s) {pts : List Int} (hp : pts.length ≤ 5) : Sm (detL s pts) := by
  have h1 := dt_abs (B := 24) pts.length (lapR s pts) (lap_sq hs pts)
  have h2 := bd24 hp
  rw [sm_abs]
  show (dt _ _).natAbs ≤ _
  omega
def oneOf (s : Survey) (i : Int) : List Int := nodesOf s.points.toNat fun k => decide (gi (rootsOf s) k.toNat = gi (rootsOf s) i.toNat) && !decide (k = i)
def twoOf (s : Survey) (i j : Int) : List Int := nodesOf s.points.toNat fun k => decide (gi (rootsOf s) k.toNat = gi (rootsOf s) i.toNat) && !decide (k = i) && !decide (k = j)
theorem resistance_eq {s : Survey} (hs : SvOk s) {i j : Int} (hi : 0 ≤ i ∧ i < s.points) (hd : i ≠ j → detL s (oneOf s i) ≠ 0) : ref01_resistance s i j = some (if i = j then ⟨0, 1⟩ else red (detL s (twoOf s i j)) (detL s (oneOf s i))) := by
  have hp := hs.p1
  have hp5 := hs.p5
  have hrl := (rootsOf_ok hs).len
  unfold ref01_resistance
  by_cases he : i = j
  · rw [if_pos he, if_pos he]
  · rw [if_neg he, if_neg he, bnd_eq (whole_eq hs)]
    let p1 : Int → Bool := fun k => decide (gi (rootsOf s) k.toNat = gi (rootsOf s) i.toNat) && !decide (k = i)
    let p2 : Int → Bool := fun k => decide (gi (rootsOf s) k.toNat = gi (rootsOf s) i.toNat) && !decide (k = i) && !decide (k = j)
    have hA : (rootsOf s)[i.toNat]? = some (gi (rootsOf s) i.toNat) := gi_at (by omega)
    refine for0 s.points.toNat (fun q => (nodesOf q p1, nodesOf q p2)) (fun k st q => ref01_resistance_L1 s i j (rootsOf s) k q st.1 st.2) _ (s0 := ([], [])) rfl (fun k q hq => ?_) (fun k => ?_) (by omega)
    · show ref01_resistance_B1 s i j (rootsOf s) (ref01_resistance_L1 s i j (rootsOf s) k) (q : Int) (nodesOf q p1) (nodesOf q p2) = _
      have l1 := nodesOf_len q p1
      have l2 := nodesOf_len q p2
      have e1 : nodesOf (q + 1) p1 = nodesOf q p1 ++ (if p1 (q : Int) = true then [(q : Int)] else []) := nodesOf_succ q p1
      have e2 : nodesOf (q + 1) p2 = nodesOf q p2 ++ (if p2 (q : Int) = true then [(q : Int)] else []) := nodesOf_succ q p2
      have v1 : p1 (q : Int) = (decide (gi (rootsOf s) q = gi (rootsOf s) i.toNat) && !decide ((q : Int) = i)) := rfl
      have v2 : p2 (q : Int) = (decide (gi (rootsOf s) q = gi (rootsOf s) i.toNat) && !decide ((q : Int) = i) && !decide ((q : Int) = j)) := rfl
      unfold ref01_resistance_B1 ref01_resistance_k3 ref01_resistance_k2
      simp only [e1, e2, v1, v2]
      rw [if_pos (by omega), ix_nat (gi_at (by omega)), ix_eq hi.1 hA]
      by_cases h1 : gi (rootsOf s) q = gi (rootsOf s) i.toNat
      · rw [if_pos h1, decide_eq_true h1]
        by_cases h2 : (q : Int) = i
        · rw [decide_eq_true h2, if_neg (by simp), gd_pos (by omega), if_neg (by simp), if_neg (by simp), List.append_nil, List.append_nil]; rfl
        · rw [decide_eq_false h2, if_pos (by rfl), gd_pos (by simp; omega)]
          by_cases h3 : (q : Int) = j
          · rw [if_pos h3, gd_pos (by omega), decide_eq_true h3, if_pos (by rfl), if_neg (by simp), List.append_nil]; rfl
          · rw [if_neg h3, gd_pos (by simp; omega), gd_pos (by omega), decide_eq_false h3, if_pos (by rfl), if_pos (by rfl)]; rfl
      · rw [if_neg h1, if_neg (by simp), gd_pos (by omega), decide_eq_false h1, if_neg (by simp), if_neg (by simp), List.append_nil, List.append_nil]; rfl
    · show ref01_resistance_B1 s i j (rootsOf s) (ref01_resistance_L1 s i j (rootsOf s) k) _ (nodesOf s.points.toNat p1) (nodesOf s.points.toNat p2) = _
      have l1 := nodesOf_len s.points.toNat p1
      have l2 := nodesOf_len s.points.toNat p2
      unfold ref01_resistance_B1 ref01_resistance_k1
      rw [if_neg (by omega), bnd_eq (laplace_eq hs (by omega)), bnd_eq (detL_eq hs (by omega)), bnd_eq (laplace_eq hs (by omega)), bnd_eq (detL_eq hs (by omega))]
      have hr : ref01_Ratio (detL s (nodesOf s.points.toNat p2)) (detL s (nodesOf s.points.toNat p1)) = some (red (detL s (twoOf s i j)) (detL s (oneOf s i))) := Ratio_eq (hd he) (detL_sm hs (pts := nodesOf s.points.toNat p2) (by omega)) (detL_sm hs (pts := nodesOf s.points.toNat p1) (by omega))
      rw [bnd_eq hr]
end Go.D1

set_option linter.unusedVariables false
set_option linter.unusedSimpArgs false
namespace Go.D1
open Go.Tb
def rowI (l : List Int) : List Rat := l.map fun x => ⟨x, 1⟩
theorem rowI_at {l : List Int} {i : Nat} (h : i < l.length) : (rowI l)[i]? = some ⟨gi l i, 1⟩ := by
  unfold rowI
  rw [List.getElem?_map, gi_at h]; rfl
theorem rowI_set {l : List Int} {i : Nat} {x : Int} : (rowI l).set i ⟨x, 1⟩ = rowI (l.set i x) := by
  unfold rowI
  rw [List.map_set]
def addI (l : List Int) (c n : Int) : List Int := if 0 ≤ c then l.set c.toNat (gi l c.toNat + n) else l
theorem addI_len (l : List Int) (c n : Int) : (addI l c n).length = l.length := by unfold addI; split <;> simp
theorem add_eq {l : List Int} {c n : Int} (hc : c < (l.length : Int)) (hb : 0 ≤ c → InR (gi l c.toNat + n)) : level_balance_1 (rowI l) c n = some (rowI (addI l c n)) := by
  unfold level_balance_1 addI
  by_cases h : 0 ≤ c
  · have hx := rowI_at (l := l) (i := c.toNat) (by omega)
    rw [if_pos h, if_pos h, ix_eq h hx, gd_pos (hb h), ix_eq h hx, rowI_set]
  · rw [if_neg h, if_neg h]
theorem addI_gi {l : List Int} {c n : Int} {k : Nat} (hk : k < l.length) : gi (addI l c n) k = gi l k + (if c = (k : Int) then n else 0) := by
  unfold addI
  by_cases h : 0 ≤ c
  · rw [if_pos h, gi_set]
    by_cases e : c = (k : Int)
    · subst e
      rw [if_pos ⟨rfl, hk⟩, if_pos rfl]; rfl
    · rw [if_neg (by omega), if_neg e]; omega
  · rw [if_neg h, if_neg (by omega)]; omega
/-- Where a number lies. -/
theorem index_eq {l : List Int} (hl : l.length ≤ 1000) (hd : l.Nodup) (x : Int) : ∃ c : Int, slices_Index_int l x = some c ∧ c < (l.length : Int) ∧ -1 ≤ c ∧ ∀ k : Nat, k < l.length → (c = (k : Int) ↔ gi l k = x) := by
  have key : ∀ (d i k : Nat), l.length = i + d → d < k → (∃ r : Nat, slices_Index_int_L1 l x k (i : Int) = some (r : Int) ∧ r < l.length ∧ gi l r = x) ∨ (slices_Index_int_L1 l x k (i : Int) = some (-1) ∧ ∀ j, i ≤ j → j < l.length → gi l j ≠ x) := by
    intro d
    induction d with
    | zero =>
      intro i k hd' hk
      cases k with
      | zero => omega
      | succ k =>
        right
        refine ⟨?_, fun j h1 h2 => by omega⟩
        show slices_Index_int_B1 l x (slices_Index_int_L1 l x k) _ = _
        unfold slices_Index_int_B1
        rw [if_neg (by omega)]; rfl
    | succ d ih =>
      intro i k hd' hk
      cases k with
      | zero => omega
      | succ k =>
        have e : slices_Index_int_L1 l x (k + 1) (i : Int) = slices_Index_int_B1 l x (slices_Index_int_L1 l x k) (i : Int) := rfl
        rw [e]
        unfold slices_Index_int_B1
        rw [if_pos (by omega), ix_nat (gi_at (show i < l.length by omega))]
        by_cases h : x = gi l i
        · rw [if_pos h]
          exact .inl ⟨i, rfl, by omega, h.symm⟩
        · rw [if_neg h, gd_pos (by omega)]
          rcases ih (i + 1) k (by omega) (by omega) with ⟨r, h1, h2, h3⟩ | ⟨h1, h2⟩
          · exact .inl ⟨r, h1, h2, h3⟩
          · refine .inr ⟨h1, fun j j1 j2 => ?_⟩
            by_cases hj : j = i
            · subst hj; exact fun h' => h h'.symm
            · exact h2 j (by omega) j2
  rcases key l.length 0 FU (by omega) (by have := FU_pos; omega) with ⟨r, h1, h2, h3⟩ | ⟨h1, h2⟩
  · refine ⟨r, h1, by omega, by omega, fun k hk => ⟨fun e => ?_, fun e => ?_⟩⟩
    · have : r = k := by omega
      rw [← this]; exact h3
    · have h4 : ∀ a b : Nat, a < b → b < l.length → gi l a ≠ gi l b := fun a b hab hb e => by
        have := List.pairwise_iff_getElem.1 hd a b (by omega) hb hab
        have e1 := gi_at (l := l) (i := a) (by omega)
        have e2 := gi_at (l := l) (i := b) hb
        rw [List.getElem?_eq_getElem (by omega)] at e1 e2
        exact this (by rw [Option.some.inj e1, Option.some.inj e2, e])
      rcases Nat.lt_trichotomy r k with h | h | h
      · exact absurd (h3.trans e.symm) (h4 r k h hk)
      · omega
      · exact absurd (e.trans h3.symm) (h4 k r h h2)
  · exact ⟨-1, h1, by omega, by omega, fun k hk => ⟨fun e => by omega, fun e => absurd e (h2 k (by omega) hk)⟩⟩
/-- What one direction of a reading gives to the row of point p. -/
theorem dir_eq {pts : List Int} (hp : pts.length ≤ 1000) (hd : pts.Nodup) {l : List Int} (hl : l.length = pts.length + 1) {B : Int} (hb : ∀ k, -B ≤ gi l k ∧ gi l k ≤ B) (hB : 0 ≤ B ∧ B ≤ 100000) (p : Int) {a b w : Int} (hw : 1 ≤ w ∧ w ≤ 3) (x4 : Arr2) (h0 : x4.at0 = a) (h1 : x4.at1 = b) (t32 t47 : Int) (ht : InR (t47 + 1)) (rec3 : Int → List Rat → Option (List (List Rat))) (x3 : Reading) (hx3 : x3.weight = w) :
    ∃ l' : List Int, l'.length = pts.length + 1 ∧ (∀ k, k < pts.length → gi l' k = gi l k + (if a = p then (if gi pts k = p then w else 0) + (if gi pts k = b then -w else 0) else 0)) ∧ gi l' pts.length = gi l pts.length ∧ (∀ k, -(B + 6) ≤ gi l' k ∧ gi l' k ≤ B + 6) ∧
      (ix (([x4.at0, x4.at1] : List Int)) 0 fun x5 => if x5 = p then bnd (slices_Index_int pts p) fun r2 => bnd (level_balance_1 (rowI l) r2 x3.weight) fun r3 => ix (([x4.at0, x4.at1] : List Int)) 1 fun x6 => bnd (slices_Index_int pts x6) fun r4 => gd (InR (-x3.weight)) <| bnd (level_balance_1 r3 r4 (-x3.weight)) fun r5 => level_balance_k5 t47 rec3 r5 else level_balance_k5 t47 rec3 (rowI l)) = rec3 (t47 + 1) (rowI l') := by
  obtain ⟨c, c1, c2, c3, c4⟩ := index_eq hp hd p
  obtain ⟨e, e1, e2, e3, e4⟩ := index_eq hp hd b
  have g1 : ∀ (m : List Int) (C : Int) (q n : Int), (∀ k, -C ≤ gi m k ∧ gi m k ≤ C) → -3 ≤ n → n ≤ 3 → ∀ k, -(C + 3) ≤ gi (addI m q n) k ∧ gi (addI m q n) k ≤ C + 3 := fun m C q n hm h1 h2 k => by
    have := hm k
    by_cases hk : k < m.length
    · rw [addI_gi hk]; split <;> omega
    · have hz : ∀ m : List Int, ¬ k < m.length → gi m k = 0 := fun m h => by unfold gi; simp [List.getD_eq_getElem?_getD, h]
      rw [hz _ hk] at this
      rw [hz _ (by rw [addI_len]; exact hk)]
      omega
  unfold level_balance_k5
  rw [ix0 (show ([x4.at0, x4.at1] : List Int)[0]? = some x4.at0 from rfl), h0]
  by_cases ha : a = p
  · have b1 := g1 l B c w hb (by omega) (by omega)
    have b2 := g1 (addI l c w) (B + 3) e (-w) b1 (by omega) (by omega)
    refine ⟨addI (addI l c w) e (-w), by rw [addI_len, addI_len, hl], fun k hk => ?_, ?_, fun k => by have := b2 k; omega, ?_⟩
    · rw [addI_gi (by rw [addI_len]; omega), addI_gi (by omega), if_pos ha]
      have q1 := c4 k hk
      have q2 := e4 k hk
      have f : ∀ (P Q : Prop) [Decidable P] [Decidable Q] (v : Int), (P ↔ Q) → (if P then v else 0) = (if Q then v else 0) := fun P Q _ _ v h => by
        by_cases hP : P
        · rw [if_pos hP, if_pos (h.1 hP)]
        · rw [if_neg hP, if_neg (fun hQ => hP (h.2 hQ))]
      rw [f _ _ w q1, f _ _ (-w) q2, Int.add_assoc]
    · rw [addI_gi (by rw [addI_len]; omega), addI_gi (by omega), if_neg (by omega), if_neg (by omega)]; omega
    · have i1 := hb c.toNat
      have i2 := b1 e.toNat
      rw [if_pos ha, bnd_eq c1, hx3, bnd_eq (add_eq (by omega) (fun _ => by omega)), show ix (([a, x4.at1] : List Int)) 1 = ix (([a, x4.at1] : List Int)) ((1 : Nat) : Int) from rfl, ix_nat (show ([a, x4.at1] : List Int)[1]? = some x4.at1 from rfl), h1, bnd_eq e1, gd_pos (by omega), bnd_eq (add_eq (by rw [addI_len]; omega) (fun _ => by omega)), gd_pos ht]
  · refine ⟨l, hl, fun k _ => by rw [if_neg ha]; omega, rfl, fun k => by have := hb k; omega, ?_⟩
    rw [if_neg ha, gd_pos ht]
def brow (s : Survey) (pts : List Int) (i t : Nat) : List Int := (List.range pts.length).map (fun k => lsum s (gi pts i) (gi pts k) (decide (i = k)) t) ++ [0]
theorem brow_len (s : Survey) (pts : List Int) (i t : Nat) : (brow s pts i t).length = pts.length + 1 := by unfold brow; simp
theorem brow_gi {s : Survey} {pts : List Int} {i t k : Nat} (hk : k < pts.length) : gi (brow s pts i t) k = lsum s (gi pts i) (gi pts k) (decide (i = k)) t := by
  apply gi_of
  unfold brow
  rw [List.getElem?_append_left (by simpa using hk), List.getElem?_map, List.getElem?_range hk]; rfl
theorem brow_end {s : Survey} {pts : List Int} {i t : Nat} : gi (brow s pts i t) pts.length = 0 := by
  apply gi_of
  unfold brow
  rw [List.getElem?_append_right (by simp)]; simp
theorem read_eq {s : Survey} (hs : SvOk s) {pts : List Int} (hp : pts.length ≤ 1000) (hd : pts.Nodup) {i t : Nat} (hi : i < pts.length) (ht : t < s.readings.length) (rec2 : Int → List Rat → Option (List (List Rat))) :
    level_balance_L1 pts (gi pts i) (t : Int) rec2 (gr s.readings t) FU 0 (rowI (brow s pts i t)) = rec2 ((t + 1 : Nat) : Int) (rowI (brow s pts i (t + 1))) := by
  have h8 := hs.len
  have hr := gr_ok hs ht
  have hb : ∀ k, -100 ≤ gi (brow s pts i t) k ∧ gi (brow s pts i t) k ≤ 100 := fun k => by
    by_cases hk : k < pts.length
    · rw [brow_gi hk]
      have := lsum_abs hs (gi pts i) (gi pts k) (decide (i = k)) t (by omega)
      omega
    · by_cases hk2 : k = pts.length
      · rw [hk2, brow_end]; omega
      · have : gi (brow s pts i t) k = 0 := by unfold gi; simp [List.getD_eq_getElem?_getD, brow_len, show ¬ k < pts.length + 1 by omega]
        omega
  obtain ⟨k0, hk0⟩ : ∃ k0, FU = k0 + 1 + 1 + 1 := ⟨FU - 3, by have := FU_pos; omega⟩
  obtain ⟨l1, a1, a2, a3, a4, a5⟩ := dir_eq hp hd (brow_len s pts i t) hb (by omega) (gi pts i) hr.2.2.2.2 ⟨(gr s.readings t).from_, (gr s.readings t).to_⟩ rfl rfl (t : Int) 0 (by omega) (level_balance_L1 pts (gi pts i) (t : Int) rec2 (gr s.readings t) (k0 + 1 + 1)) (gr s.readings t) rfl
  obtain ⟨l2, b1, b2, b3, b4, b5⟩ := dir_eq hp hd a1 a4 (by omega) (gi pts i) hr.2.2.2.2 ⟨(gr s.readings t).to_, (gr s.readings t).from_⟩ rfl rfl (t : Int) 1 (by omega) (level_balance_L1 pts (gi pts i) (t : Int) rec2 (gr s.readings t) (k0 + 1)) (gr s.readings t) rfl
  have hfin : l2 = brow s pts i (t + 1) := by
    refine gi_ext (by rw [b1, brow_len]) fun k hk => ?_
    rw [b1] at hk
    by_cases hk2 : k < pts.length
    · rw [b2 k hk2, a2 k hk2, brow_gi hk2, brow_gi hk2]
      simp only [lsum]
      have hik : i = k ↔ gi pts k = gi pts i := by
        constructor
        · rintro rfl; rfl
        · intro e
          obtain ⟨c, _, _, _, c4⟩ := index_eq hp hd (gi pts i)
          have q1 := (c4 k hk2).2 e
          have q2 := (c4 i hi).2 rfl
          omega
      have hne := hr.2.2.1
      unfold lc
      by_cases e : i = k
      · have e' := hik.1 e
        rw [decide_eq_true e, if_pos rfl, e']
        by_cases f1 : (gr s.readings t).from_ = gi pts i
        · have f2 : ¬ (gr s.readings t).to_ = gi pts i := fun f2 => hne (f1.trans f2.symm)
          rw [if_pos f1, if_pos rfl, if_neg (fun h => f2 h.symm), if_neg f2, if_pos (.inl f1)]; omega
        · by_cases f2 : (gr s.readings t).to_ = gi pts i
          · rw [if_neg f1, if_pos f2, if_pos rfl, if_neg (fun h => f1 h.symm), if_pos (.inr f2)]; omega
          · rw [if_neg f1, if_neg f2, if_neg (by omega)]; omega
      · have e' : ¬ gi pts k = gi pts i := fun h => e (hik.2 h)
        rw [decide_eq_false e, if_neg (show ¬ ((false : Bool) = true) by simp), if_neg e']
        by_cases f1 : (gr s.readings t).from_ = gi pts i
        · have f2 : ¬ (gr s.readings t).to_ = gi pts i := fun f2 => hne (f1.trans f2.symm)
          rw [if_pos f1, if_neg f2]
          by_cases f3 : gi pts k = (gr s.readings t).to_
          · rw [if_pos f3, if_pos (.inl ⟨f1, f3.symm⟩)]; omega
          · rw [if_neg f3, if_neg (by omega)]; omega
        · rw [if_neg f1]
          by_cases f2 : (gr s.readings t).to_ = gi pts i
          · rw [if_pos f2]
            by_cases f3 : gi pts k = (gr s.readings t).from_
            · rw [if_pos f3, if_pos (.inr ⟨f2, f3.symm⟩)]; omega
            · rw [if_neg f3, if_neg (by omega)]; omega
          · rw [if_neg f2, if_neg (by omega)]; omega
    · have hk3 : k = pts.length := by omega
      rw [hk3, b3, a3, brow_end, brow_end]
  rw [hk0]
  show level_balance_B1 pts (gi pts i) (t : Int) rec2 (gr s.readings t) (level_balance_L1 pts (gi pts i) (t : Int) rec2 (gr s.readings t) (k0 + 1 + 1)) 0 _ = _
  unfold level_balance_B1
  rw [if_pos (by omega), ix0 (show ([(⟨(gr s.readings t).from_, (gr s.readings t).to_⟩ : Arr2), (⟨(gr s.readings t).to_, (gr s.readings t).from_⟩ : Arr2)] : List Arr2)[0]? = some _ from rfl)]
  refine a5.trans ?_
  show level_balance_B1 pts (gi pts i) (t : Int) rec2 (gr s.readings t) (level_balance_L1 pts (gi pts i) (t : Int) rec2 (gr s.readings t) (k0 + 1)) 1 _ = _
  unfold level_balance_B1
  rw [if_pos (by omega), show (1 : Int) = ((1 : Nat) : Int) from rfl, ix_nat (show ([(⟨(gr s.readings t).from_, (gr s.readings t).to_⟩ : Arr2), (⟨(gr s.readings t).to_, (gr s.readings t).from_⟩ : Arr2)] : List Arr2)[1]? = some _ from rfl)]
  refine b5.trans ?_
  show level_balance_B1 pts (gi pts i) (t : Int) rec2 (gr s.readings t) (level_balance_L1 pts (gi pts i) (t : Int) rec2 (gr s.readings t) k0) 2 _ = _
  unfold level_balance_B1 level_balance_k4
  rw [if_neg (by omega), gd_pos (by omega), hfin]; rfl
/-- The equations of some points, with right sides. -/
def balR (s : Survey) (pts : List Int) (rt : Nat → Int) : List (List Rat) := (List.range pts.length).map fun i => rowI ((brow s pts i s.readings.length).set pts.length (rt i))
theorem balance_eq {s : Survey} (hs : SvOk s) {pts : List Int} (hp : pts.length ≤ 7) (hd : pts.Nodup) {f : Int → Option Int} {rt : Nat → Int} (hf : ∀ i, i < pts.length → f (gi pts i) = some (rt i)) : level_balance s pts f = some (balR s pts rt) := by
  have h8 := hs.len
  unfold level_balance
  refine for0 pts.length (fun i => (List.range i).map fun i => rowI ((brow s pts i s.readings.length).set pts.length (rt i))) (fun k m i => level_balance_L3 s pts f k i m) _ rfl (fun k i hi => ?_) (fun k => ?_) (by omega)
  · show level_balance_B3 s pts f (level_balance_L3 s pts f k) _ _ = _
    have hrep : slices_Repeat_Rat ([(⟨0, 1⟩ : Rat)] : List Rat) ((pts.length : Int) + 1) = some (rowI (brow s pts i 0)) := by
      show gd (1 ≤ (pts.length : Int) + 1 ∧ (pts.length : Int) + 1 ≤ 8) (some (List.replicate (Int.toNat ((pts.length : Int) + 1)) (⟨0, 1⟩ : Rat))) = _
      rw [gd_pos (by omega), show ((pts.length : Int) + 1).toNat = pts.length + 1 by omega]
      congr 1
      apply List.ext_getElem?
      intro j
      rw [List.getElem?_replicate]
      by_cases hj : j < pts.length + 1
      · rw [if_pos hj, rowI_at (by rw [brow_len]; exact hj)]
        congr 2
        by_cases hj2 : j < pts.length
        · rw [brow_gi hj2]; rfl
        · rw [show j = pts.length by omega, brow_end]
      · rw [if_neg hj, List.getElem?_eq_none (by unfold rowI; rw [List.length_map, brow_len]; omega)]
    unfold level_balance_B3
    rw [if_pos (by omega), ix_nat (gi_at hi), gd_pos (by omega), bnd_eq hrep]
    refine for0 s.readings.length (fun t => rowI (brow s pts i t)) (fun k' l t => level_balance_L2 s pts f (i : Int) ((List.range i).map fun i => rowI ((brow s pts i s.readings.length).set pts.length (rt i))) (level_balance_L3 s pts f k) (gi pts i) k' t l) _ rfl (fun k' t ht => ?_) (fun k' => ?_) (by omega)
    · show level_balance_B2 s pts f _ _ _ _ (level_balance_L2 s pts f _ _ _ _ k') _ _ = _
      unfold level_balance_B2
      rw [if_pos (by omega), ix_nat (gr_at ht)]
      exact read_eq hs (by omega) hd hi ht _
    · show level_balance_B2 s pts f _ _ _ _ (level_balance_L2 s pts f _ _ _ _ k') _ _ = _
      unfold level_balance_B2 level_balance_k3 level_balance_k2
      have hx := rowI_at (l := brow s pts i s.readings.length) (i := pts.length) (by rw [brow_len]; omega)
      rw [if_neg (by omega), bnd_eq (hf i hi), ix_nat hx, gd_pos (by simp; omega), gd_pos (by omega), show Int.toNat (pts.length : Int) = pts.length from rfl, rowI_set, List.range_succ, List.map_append]; rfl
  · show level_balance_B3 s pts f (level_balance_L3 s pts f k) _ _ = _
    unfold level_balance_B3
    rw [if_neg (by omega)]; rfl
end Go.D1

set_option linter.unusedVariables false
set_option linter.unusedSimpArgs false
namespace Go.D1
open Go.Tb
/-- What flows out of a point. -/
def dv : List Reading → (Reading → Int) → Int → Int
  | [], _, _ => 0
  | r :: l, f, p => (if r.from_ = p then f r else 0) - (if r.to_ = p then f r else 0) + dv l f p
def rs : List Reading → (Reading → Int) → Int
  | [], _ => 0
  | r :: l, f => f r + rs l f
theorem rs_congr {l : List Reading} {f g : Reading → Int} (h : ∀ r ∈ l, f r = g r) : rs l f = rs l g := by
  induction l with
  | nil => rfl
  | cons r l ih => simp only [rs]; rw [h r (by simp), ih fun r hr => h r (by simp [hr])]
theorem rs_add (l : List Reading) (f g : Reading → Int) : rs l (fun r => f r + g r) = rs l f + rs l g := by
  induction l with
  | nil => rfl
  | cons r l ih => simp only [rs]; rw [ih]; omega
theorem rs_mul (l : List Reading) (c : Int) (f : Reading → Int) : rs l (fun r => c * f r) = c * rs l f := by
  induction l with
  | nil => simp [rs]
  | cons r l ih => simp only [rs]; rw [ih, Int.mul_add]
theorem rs_nonneg {l : List Reading} {f : Reading → Int} (h : ∀ r ∈ l, 0 ≤ f r) : 0 ≤ rs l f := by
  induction l with
  | nil => exact Int.le_refl 0
  | cons r l ih =>
    have h1 := h r (by simp)
    have h2 := ih fun r hr => h r (by simp [hr])
    simp only [rs]; omega
theorem rs_gt {l : List Reading} {f : Reading → Int} {S : Int} (h : ∀ r ∈ l, 0 ≤ f r) {r : Reading} (hr : r ∈ l) (hS : S < f r) : S < rs l f := by
  induction l with
  | nil => simp at hr
  | cons r' l ih =>
    have h1 := h r' (by simp)
    have h2 := rs_nonneg fun r hr => h r (List.mem_cons_of_mem _ hr)
    simp only [rs]
    rcases List.mem_cons.1 hr with e | e
    · subst e; omega
    · have := ih (fun r hr => h r (by simp [hr])) e
      omega
theorem dv_congr {l : List Reading} {f g : Reading → Int} (h : ∀ r ∈ l, f r = g r) (p : Int) : dv l f p = dv l g p := by
  induction l with
  | nil => rfl
  | cons r l ih => simp only [dv]; rw [h r (by simp), ih fun r hr => h r (by simp [hr])]
theorem dv_add (l : List Reading) (f g : Reading → Int) (p : Int) : dv l (fun r => f r + g r) p = dv l f p + dv l g p := by
  induction l with
  | nil => rfl
  | cons r l ih => simp only [dv]; rw [ih]; split <;> split <;> omega
theorem dv_sub (l : List Reading) (f g : Reading → Int) (p : Int) : dv l (fun r => f r - g r) p = dv l f p - dv l g p := by
  induction l with
  | nil => rfl
  | cons r l ih => simp only [dv]; rw [ih]; split <;> split <;> omega
theorem dv_mul (l : List Reading) (c : Int) (f : Reading → Int) (p : Int) : dv l (fun r => c * f r) p = c * dv l f p := by
  induction l with
  | nil => simp [dv]
  | cons r l ih => simp only [dv]; rw [ih]; split <;> split <;> grind
theorem dv_neg (l : List Reading) (f : Reading → Int) (p : Int) : dv l (fun r => -f r) p = -dv l f p := by
  induction l with
  | nil => rfl
  | cons r l ih => simp only [dv]; rw [ih]; split <;> split <;> omega
theorem sumN_pick (g : Nat → Int) (x p : Int) (n : Nat) (h : 0 ≤ p ∧ p < n) : sumN (fun k => g k * (if p = (k : Int) then x else 0)) n = g p.toNat * x := by
  have key : ∀ m, sumN (fun k => g k * (if p = (k : Int) then x else 0)) m = if p < m then g p.toNat * x else 0 := by
    intro m
    induction m with
    | zero => rw [if_neg (by omega)]; rfl
    | succ m ih =>
      simp only [sumN]
      rw [ih]
      by_cases e : p = (m : Int)
      · rw [if_pos e, if_neg (by omega), if_pos (by omega), show p.toNat = m by omega]; omega
      · rw [if_neg e, Int.mul_zero, Int.add_zero]
        by_cases e2 : p < m
        · rw [if_pos e2, if_pos (by omega)]
        · rw [if_neg e2, if_neg (by omega)]
  rw [key n, if_pos h.2]
/-- Green's identity. -/
theorem green (l : List Reading) (g : Int → Int) (f : Reading → Int) (n : Nat) (h : ∀ r ∈ l, (0 ≤ r.from_ ∧ r.from_ < n) ∧ (0 ≤ r.to_ ∧ r.to_ < n)) : sumN (fun k => g (k : Int) * dv l f (k : Int)) n = rs l (fun r => (g r.from_ - g r.to_) * f r) := by
  induction l with
  | nil =>
    simp only [dv, rs, Int.mul_zero]
    induction n with
    | zero => rfl
    | succ n ih => simp only [sumN]; rw [ih (by simp)]; rfl
  | cons r l ih =>
    have hr := h r (by simp)
    have ih := ih fun r hr => h r (by simp [hr])
    simp only [dv, rs]
    rw [← ih]
    have e1 := sumN_pick (fun k => g (k : Int)) (f r) r.from_ n hr.1
    have e2 := sumN_pick (fun k => g (k : Int)) (f r) r.to_ n hr.2
    simp only [show ((r.from_.toNat : Nat) : Int) = r.from_ by omega, show ((r.to_.toNat : Nat) : Int) = r.to_ by omega] at e1 e2
    rw [Int.sub_mul, ← e1, ← e2, ← sumN_sub, ← sumN_add]
    exact sumN_congr fun k _ => by grind
theorem cross {s : Survey} {j : Nat} (U : Int → Bool) {a b : Int} (h : Con s j a b) (hab : U a ≠ U b) : ∃ r ∈ s.readings, U r.from_ ≠ U r.to_ := by
  induction h with
  | refl a => exact absurd rfl hab
  | edge h1 h2 => exact ⟨_, List.mem_of_getElem? (gr_at h2), hab⟩
  | symm _ ih => exact ih hab.symm
  | trans _ _ i1 i2 =>
    rename_i a b c _ _
    by_cases e : U a = U b
    · exact i2 (by rw [← e]; exact hab)
    · exact i1 e
theorem countP_lt {l : List Int} {p q : Int → Bool} (h : ∀ x ∈ l, p x = true → q x = true) {x : Int} (hx : x ∈ l) (hq : q x = true) (hp : p x = false) : l.countP p < l.countP q := by
  induction l with
  | nil => simp at hx
  | cons y l ih =>
    have mono : l.countP p ≤ l.countP q := List.countP_mono_left fun z hz => h z (by simp [hz])
    rw [List.countP_cons, List.countP_cons]
    rcases List.mem_cons.1 hx with e | e
    · subst e
      rw [hp, hq]; simp; omega
    · have := ih (fun z hz => h z (by simp [hz])) e
      have hy := h y (by simp)
      cases hpy : p y
      · simp; omega
      · rw [hy hpy]; simp; omega
theorem sumN_le {f g : Nat → Int} {n : Nat} (h : ∀ k, k < n → f k ≤ g k) : sumN f n ≤ sumN g n := by
  induction n with
  | zero => exact Int.le_refl _
  | succ n ih =>
    have h1 := ih fun k hk => h k (by omega)
    have h2 := h n (by omega)
    simp only [sumN]; omega
theorem sumN_one (c S : Int) (hS : 0 ≤ S) (n : Nat) : sumN (fun k => if (k : Int) = c then S else 0) n ≤ S := by
  have key : ∀ m : Nat, sumN (fun k => if (k : Int) = c then S else 0) m ≤ S ∧ (c ≥ m → sumN (fun k => if (k : Int) = c then S else 0) m = 0) := by
    intro m
    induction m with
    | zero => exact ⟨hS, fun _ => rfl⟩
    | succ m ih =>
      simp only [sumN]
      by_cases e : (m : Int) = c
      · rw [if_pos e, ih.2 (by omega)]
        exact ⟨by omega, fun h => by omega⟩
      · rw [if_neg e]
        exact ⟨by omega, fun h => by rw [ih.2 (by omega)]; rfl⟩
  exact (key n).1
theorem sv_in {s : Survey} (hs : SvOk s) : ∀ r ∈ s.readings, (0 ≤ r.from_ ∧ r.from_ < (s.points.toNat : Int)) ∧ (0 ≤ r.to_ ∧ r.to_ < (s.points.toNat : Int)) := fun r hr => by
  have := hs.rd r hr
  omega
/-- How high heights are: they fall over readings, and flows are small. -/
theorem mp {s : Survey} (hs : SvOk s) {F : List Int} {h : Int → Int} {t : Reading → Int} {T0 S B c : Int} (hT0 : 0 ≤ T0) (hS : 0 ≤ S) (ht : ∀ r ∈ s.readings, -T0 ≤ t r ∧ t r ≤ T0)
    (hF : ∀ p ∈ F, dv s.readings (fun r => r.weight * (h r.from_ - h r.to_ + t r)) p ≤ if p = c then S else 0) (hB : ∀ p, p ∉ F → h p ≤ B)
    (hO : ∀ p ∈ F, ∃ q, q ∉ F ∧ Con s s.readings.length p q) : ∀ p ∈ F, h p ≤ B + (F.length : Int) * (T0 + S) := by
  let T := T0 + S
  let cc : Nat → Nat := fun k => F.countP fun p => decide (B + (k : Int) * T < h p)
  have hTk : ∀ k : Nat, 0 ≤ (k : Int) * T := fun k => Int.mul_nonneg (by omega) (by show 0 ≤ T0 + S; omega)
  have hk1 : ∀ k : Nat, ((k + 1 : Nat) : Int) * T = (k : Int) * T + T := fun k => by
    rw [Int.natCast_add, Int.add_mul]; simp
  have key : ∀ k : Nat, cc k = 0 ∨ cc k + k ≤ F.length := by
    intro k
    induction k with
    | zero => right; exact List.countP_le_length
    | succ k ih =>
      by_cases h0 : cc (k + 1) = 0
      · exact .inl h0
      have hpos : 0 < cc (k + 1) := by omega
      obtain ⟨p0, hp0, hp0'⟩ := List.countP_pos_iff.1 hpos
      have hp0' := of_decide_eq_true hp0'
      have hkk := hk1 k
      have mono : ∀ x, B + ((k + 1 : Nat) : Int) * T < h x → B + (k : Int) * T < h x := fun x hx => by
        have hT : 0 ≤ T := by show 0 ≤ T0 + S; omega
        omega
      by_cases hgap : ∃ x ∈ F, B + (k : Int) * T < h x ∧ ¬ B + ((k + 1 : Nat) : Int) * T < h x
      · obtain ⟨x, x1, x2, x3⟩ := hgap
        have hlt : cc (k + 1) < cc k := countP_lt (fun y _ hy => decide_eq_true (mono y (of_decide_eq_true hy))) x1 (decide_eq_true x2) (decide_eq_false x3)
        right
        rcases ih with ih | ih <;> omega
      · exfalso
        have hno : ∀ x ∈ F, B + (k : Int) * T < h x → B + (k : Int) * T + T < h x := fun x hx hlt => by
          by_cases hh : B + ((k + 1 : Nat) : Int) * T < h x
          · omega
          · exact absurd ⟨x, hx, hlt, hh⟩ hgap
        let U : Int → Bool := fun p => decide (p ∈ F ∧ B + (k : Int) * T < h p)
        let g : Int → Int := fun p => if U p = true then 1 else 0
        have hUp : U p0 = true := decide_eq_true ⟨hp0, mono p0 hp0'⟩
        obtain ⟨q, hq1, hq2⟩ := hO p0 hp0
        have hUq : U q = false := decide_eq_false fun hh => hq1 hh.1
        obtain ⟨r, hr, hcr⟩ := cross U hq2 (by rw [hUp, hUq]; simp)
        have hin : ∀ x, U x = true → B + (k : Int) * T + T < h x := fun x hx => hno x (of_decide_eq_true hx).1 (of_decide_eq_true hx).2
        have hout : ∀ x, U x = false → h x ≤ B + (k : Int) * T := fun x hx => by
          have := of_decide_eq_false hx
          by_cases hxF : x ∈ F
          · have : ¬ B + (k : Int) * T < h x := fun hh => this ⟨hxF, hh⟩
            omega
          · have := hB x hxF
            have := hTk k
            omega
        have hg := green s.readings g (fun r => r.weight * (h r.from_ - h r.to_ + t r)) s.points.toNat (sv_in hs)
        have hle : sumN (fun k' => g (k' : Int) * dv s.readings (fun r => r.weight * (h r.from_ - h r.to_ + t r)) (k' : Int)) s.points.toNat ≤ S := by
          refine Int.le_trans (sumN_le (g := fun k' => if (k' : Int) = c then S else 0) fun k' _ => ?_) (sumN_one c S hS _)
          show (if U (k' : Int) = true then (1 : Int) else 0) * _ ≤ _
          cases hU : U (k' : Int)
          · rw [if_neg (by simp), Int.zero_mul]; split <;> omega
          · rw [if_pos rfl, Int.one_mul]; exact hF _ (of_decide_eq_true hU).1
        have hbig : ∀ r ∈ s.readings, U r.from_ ≠ U r.to_ → S < (g r.from_ - g r.to_) * (r.weight * (h r.from_ - h r.to_ + t r)) := fun r hr hne => by
          have hw := (hs.rd r hr).2.2.2.2
          have htr := ht r hr
          have hmul : ∀ x : Int, S < x → S < r.weight * x := fun x hx => by
            have : 0 ≤ (r.weight - 1) * x := Int.mul_nonneg (by omega) (by omega)
            have : r.weight * x = (r.weight - 1) * x + x := by grind
            omega
          show S < ((if U r.from_ = true then (1 : Int) else 0) - (if U r.to_ = true then (1 : Int) else 0)) * _
          cases h1 : U r.from_ <;> cases h2 : U r.to_
          · exact absurd (h1.trans h2.symm) hne
          · rw [if_neg (by simp), if_pos rfl]
            have i1 := hin _ h2
            have i2 := hout _ h1
            have : (0 - 1) * (r.weight * (h r.from_ - h r.to_ + t r)) = r.weight * (h r.to_ - h r.from_ - t r) := by grind
            rw [this]
            exact hmul _ (by have : T = T0 + S := rfl; omega)
          · rw [if_pos rfl, if_neg (by simp)]
            have i1 := hin _ h1
            have i2 := hout _ h2
            have : (1 - 0) * (r.weight * (h r.from_ - h r.to_ + t r)) = r.weight * (h r.from_ - h r.to_ + t r) := by grind
            rw [this]
            exact hmul _ (by have : T = T0 + S := rfl; omega)
          · exact absurd (h1.trans h2.symm) hne
        have hgt := rs_gt (l := s.readings) (f := fun r => (g r.from_ - g r.to_) * (r.weight * (h r.from_ - h r.to_ + t r))) (S := S) (fun r hr => by
          by_cases e : U r.from_ = U r.to_
          · show 0 ≤ ((if U r.from_ = true then (1 : Int) else 0) - (if U r.to_ = true then (1 : Int) else 0)) * _
            rw [e, Int.sub_self, Int.zero_mul]; exact Int.le_refl 0
          · have := hbig r hr e; omega) hr (hbig r hr hcr)
        omega
  intro p hp
  have hz : cc F.length = 0 := by rcases key F.length with h | h <;> omega
  have := List.countP_eq_zero.1 hz p hp
  have : ¬ B + (F.length : Int) * T < h p := fun hh => this (decide_eq_true hh)
  show h p ≤ B + (F.length : Int) * T
  omega
/-- How low heights are. -/
theorem mp_low {s : Survey} (hs : SvOk s) {F : List Int} {h : Int → Int} {t : Reading → Int} {T0 S B c : Int} (hT0 : 0 ≤ T0) (hS : 0 ≤ S) (ht : ∀ r ∈ s.readings, -T0 ≤ t r ∧ t r ≤ T0)
    (hF : ∀ p ∈ F, -(if p = c then S else 0) ≤ dv s.readings (fun r => r.weight * (h r.from_ - h r.to_ + t r)) p) (hB : ∀ p, p ∉ F → B ≤ h p)
    (hO : ∀ p ∈ F, ∃ q, q ∉ F ∧ Con s s.readings.length p q) : ∀ p ∈ F, B - (F.length : Int) * (T0 + S) ≤ h p := fun p hp => by
  have := mp (h := fun p => -h p) (t := fun r => -t r) (T0 := T0) (S := S) (B := -B) (c := c) hs hT0 hS (fun r hr => by have := ht r hr; omega) (fun p hp => by
    have := hF p hp
    have e : dv s.readings (fun r => r.weight * (-h r.from_ - -h r.to_ + -t r)) p = -dv s.readings (fun r => r.weight * (h r.from_ - h r.to_ + t r)) p := by
      rw [← dv_neg]; exact dv_congr (fun r _ => by grind) p
    rw [e]; omega) (fun p hp => by have := hB p hp; omega) hO p hp
  omega
end Go.D1

set_option linter.unusedVariables false
set_option linter.unusedSimpArgs false
namespace Go.D1
open Go.Tb
/-- Free points: from each one readings lead to a point that is not free. -/
structure Fr (s : Survey) (pts : List Int) : Prop where
  nd : pts.Nodup
  n4 : pts.length ≤ 4
  out : ∀ p ∈ pts, ∃ q, q ∉ pts ∧ Con s s.readings.length p q
/-- Heights of points of a list; 0 elsewhere. -/
def ext (pts : List Int) (X : Nat → Int) (p : Int) : Int := sumN (fun k => if gi pts k = p then X k else 0) pts.length
theorem gi_mem {l : List Int} {k : Nat} (h : k < l.length) : gi l k ∈ l := List.mem_of_getElem? (gi_at h)
theorem gi_inj {l : List Int} (hd : l.Nodup) {i k : Nat} (hi : i < l.length) (hk : k < l.length) (e : gi l i = gi l k) : i = k := by
  have h4 : ∀ a b : Nat, a < b → b < l.length → gi l a ≠ gi l b := fun a b hab hb e => by
    have := List.pairwise_iff_getElem.1 hd a b (by omega) hb hab
    have e1 := gi_at (l := l) (i := a) (by omega)
    have e2 := gi_at (l := l) (i := b) hb
    rw [List.getElem?_eq_getElem (by omega)] at e1 e2
    exact this (by rw [Option.some.inj e1, Option.some.inj e2, e])
  rcases Nat.lt_trichotomy i k with h | h | h
  · exact absurd e (h4 i k h hk)
  · exact h
  · exact absurd e.symm (h4 k i h hi)
theorem gi_ex {l : List Int} {p : Int} (h : p ∈ l) : ∃ k, k < l.length ∧ gi l k = p := by
  obtain ⟨k, hk, e⟩ := List.getElem_of_mem h
  exact ⟨k, hk, gi_of (by rw [List.getElem?_eq_getElem hk, e])⟩
theorem sumN_zero {f : Nat → Int} {n : Nat} (h : ∀ k, k < n → f k = 0) : sumN f n = 0 := by
  induction n with
  | zero => rfl
  | succ n ih => simp only [sumN]; rw [ih fun k hk => h k (by omega), h n (by omega)]; rfl
theorem sumN_lt (f : Nat → Int) {i n : Nat} (h : i ≤ n) : sumN (fun k => if k < i then f k else 0) n = sumN f i := by
  obtain ⟨m, rfl⟩ : ∃ m, n = i + m := ⟨n - i, by omega⟩
  induction m with
  | zero => exact sumN_congr fun k hk => if_pos hk
  | succ m ih =>
    rw [show i + (m + 1) = (i + m) + 1 by omega]
    simp only [sumN]
    rw [ih (by omega), if_neg (by omega)]; omega
theorem sumN_at (f : Nat → Int) {c n : Nat} (h : c < n) : sumN (fun k => if k = c then f k else 0) n = f c := by
  induction n with
  | zero => omega
  | succ n ih =>
    simp only [sumN]
    by_cases e : n = c
    · subst e
      rw [if_pos rfl, sumN_zero fun k hk => if_neg (by omega)]; omega
    · rw [if_neg e, ih (by omega)]; omega
theorem ext_at {pts : List Int} (hd : pts.Nodup) (X : Nat → Int) {k : Nat} (hk : k < pts.length) : ext pts X (gi pts k) = X k := by
  unfold ext
  rw [← sumN_at X hk]
  refine sumN_congr fun j hj => ?_
  by_cases e : j = k
  · subst e; rw [if_pos rfl, if_pos rfl]
  · rw [if_neg (fun h => e (gi_inj hd hj hk h)), if_neg e]
theorem ext_out {pts : List Int} (X : Nat → Int) {p : Int} (hp : p ∉ pts) : ext pts X p = 0 := by
  unfold ext
  exact sumN_zero fun k hk => if_neg fun e => hp (by rw [← e]; exact gi_mem hk)
theorem gr_mem {s : Survey} {t : Nat} (h : t < s.readings.length) : gr s.readings t ∈ s.readings := List.mem_of_getElem? (gr_at h)
/-- One reading's part of a row. -/
theorem row_one {pts : List Int} (hd : pts.Nodup) (X : Nat → Int) {j : Nat} (hj : j < pts.length) (r : Reading) (hne : r.from_ ≠ r.to_) :
    sumN (fun k => lc (gi pts j) (gi pts k) (decide (j = k)) r * X k) pts.length = (if r.from_ = gi pts j then r.weight * (ext pts X r.from_ - ext pts X r.to_) else 0) - (if r.to_ = gi pts j then r.weight * (ext pts X r.from_ - ext pts X r.to_) else 0) := by
  have key : ∀ q : Int, q ≠ gi pts j → sumN (fun k => (if k = j then r.weight * X k else 0) - r.weight * (if gi pts k = q then X k else 0)) pts.length = r.weight * (X j - ext pts X q) := fun q hq => by
    rw [sumN_sub, sumN_at (fun k => r.weight * X k) hj]
    have : sumN (fun k => r.weight * (if gi pts k = q then X k else 0)) pts.length = r.weight * ext pts X q := by
      unfold ext
      rw [Int.mul_comm, sumN_mul]
      exact sumN_congr fun k _ => Int.mul_comm ..
    rw [this, Int.mul_sub]
  by_cases h1 : r.from_ = gi pts j
  · have h2 : ¬ r.to_ = gi pts j := fun h2 => hne (h1.trans h2.symm)
    rw [if_pos h1, if_neg h2, h1, ext_at hd X hj, Int.sub_zero, ← key r.to_ h2]
    refine sumN_congr fun k hk => ?_
    unfold lc
    by_cases e : j = k
    · subst e
      rw [decide_eq_true rfl, if_pos (show true = true from rfl), if_pos (show r.from_ = gi pts j ∨ r.to_ = gi pts j from .inl h1), if_pos (show j = j from rfl), if_neg (show ¬ gi pts j = r.to_ from fun e => h2 e.symm)]; omega
    · rw [decide_eq_false e, if_neg (show ¬ (false = true) by simp), if_neg (show ¬ k = j from fun h => e h.symm)]
      by_cases e2 : gi pts k = r.to_
      · rw [if_pos (show (r.from_ = gi pts j ∧ r.to_ = gi pts k) ∨ (r.to_ = gi pts j ∧ r.from_ = gi pts k) from .inl ⟨h1, e2.symm⟩), if_pos e2, Int.neg_mul]; omega
      · rw [if_neg (show ¬ ((r.from_ = gi pts j ∧ r.to_ = gi pts k) ∨ (r.to_ = gi pts j ∧ r.from_ = gi pts k)) from fun h => by rcases h with h | h; exact e2 h.2.symm; exact h2 h.1), if_neg e2]; omega
  · rw [if_neg h1]
    by_cases h2 : r.to_ = gi pts j
    · rw [if_pos h2, h2, ext_at hd X hj]
      have e0 : (0 : Int) - r.weight * (ext pts X r.from_ - X j) = r.weight * (X j - ext pts X r.from_) := by grind
      rw [e0, ← key r.from_ h1]
      refine sumN_congr fun k hk => ?_
      unfold lc
      by_cases e : j = k
      · subst e
        rw [decide_eq_true rfl, if_pos (show true = true from rfl), if_pos (show r.from_ = gi pts j ∨ r.to_ = gi pts j from .inr h2), if_pos (show j = j from rfl), if_neg (show ¬ gi pts j = r.from_ from fun e => h1 e.symm)]; omega
      · rw [decide_eq_false e, if_neg (show ¬ (false = true) by simp), if_neg (show ¬ k = j from fun h => e h.symm)]
        by_cases e2 : gi pts k = r.from_
        · rw [if_pos (show (r.from_ = gi pts j ∧ r.to_ = gi pts k) ∨ (r.to_ = gi pts j ∧ r.from_ = gi pts k) from .inr ⟨h2, e2.symm⟩), if_pos e2, Int.neg_mul]; omega
        · rw [if_neg (show ¬ ((r.from_ = gi pts j ∧ r.to_ = gi pts k) ∨ (r.to_ = gi pts j ∧ r.from_ = gi pts k)) from fun h => by rcases h with h | h; exact h1 h.1; exact e2 h.2.symm), if_neg e2]; omega
    · rw [if_neg h2]
      refine (sumN_zero fun k hk => ?_).trans (by omega)
      unfold lc
      by_cases e : j = k
      · rw [decide_eq_true e, if_pos rfl, if_neg (show ¬ (r.from_ = gi pts j ∨ r.to_ = gi pts j) by omega), Int.zero_mul]
      · rw [decide_eq_false e, if_neg (show ¬ (false = true) by simp), if_neg (show ¬ ((r.from_ = gi pts j ∧ r.to_ = gi pts k) ∨ (r.to_ = gi pts j ∧ r.from_ = gi pts k)) by omega), Int.zero_mul]
def lsumL (p q : Int) (same : Bool) : List Reading → Int
  | [] => 0
  | r :: l => lc p q same r + lsumL p q same l
theorem lsumL_snoc (p q : Int) (same : Bool) (l : List Reading) (r : Reading) : lsumL p q same (l ++ [r]) = lsumL p q same l + lc p q same r := by
  induction l with
  | nil => simp [lsumL]
  | cons x l ih => simp only [List.cons_append, lsumL]; rw [ih]; omega
theorem lsum_list (s : Survey) (p q : Int) (same : Bool) : lsum s p q same s.readings.length = lsumL p q same s.readings := by
  have key : ∀ t, t ≤ s.readings.length → lsum s p q same t = lsumL p q same (s.readings.take t) := by
    intro t
    induction t with
    | zero => intro _; simp [lsum, lsumL]
    | succ t ih =>
      intro ht
      have : s.readings.take (t + 1) = s.readings.take t ++ [gr s.readings t] := by
        have e := gr_at (show t < s.readings.length by omega)
        rw [List.getElem?_eq_getElem (by omega)] at e
        rw [← List.take_append_getElem (by omega), Option.some.inj e]
      rw [this, lsumL_snoc, ← ih (by omega)]; rfl
  rw [key _ (Nat.le_refl _), List.take_length]
/-- A row times heights is what flows out. -/
theorem row_dv {s : Survey} (hs : SvOk s) {pts : List Int} (hd : pts.Nodup) (X : Nat → Int) {j : Nat} (hj : j < pts.length) :
    sumN (fun k => lent s pts j k * X k) pts.length = dv s.readings (fun r => r.weight * (ext pts X r.from_ - ext pts X r.to_)) (gi pts j) := by
  have key : ∀ l : List Reading, (∀ r ∈ l, r.from_ ≠ r.to_) → sumN (fun k => lsumL (gi pts j) (gi pts k) (decide (j = k)) l * X k) pts.length = dv l (fun r => r.weight * (ext pts X r.from_ - ext pts X r.to_)) (gi pts j) := by
    intro l
    induction l with
    | nil => intro _; exact sumN_zero fun k _ => by simp [lsumL]
    | cons r l ih =>
      intro h
      have ih := ih fun r hr => h r (by simp [hr])
      have h1 := row_one hd X hj r (h r (by simp))
      simp only [lsumL, dv]
      rw [← ih, ← h1, ← sumN_add]
      exact sumN_congr fun k _ => Int.add_mul ..
  rw [← key s.readings fun r hr => (hs.rd r hr).2.2.1]
  exact sumN_congr fun k _ => by unfold lent; rw [lsum_list]
def deg (l : List Reading) (p : Int) : Nat := match l with
  | [] => 0
  | r :: l => (if r.from_ = p then r.weight.toNat else 0) + (if r.to_ = p then r.weight.toNat else 0) + deg l p
theorem dv_abs {l : List Reading} {f : Reading → Int} {p : Int} {M : Nat} (h : ∀ r ∈ l, r.from_ = p ∨ r.to_ = p → (f r).natAbs ≤ r.weight.toNat * M) : (dv l f p).natAbs ≤ deg l p * M := by
  induction l with
  | nil => simp [dv]
  | cons r l ih =>
    have ih := ih fun r hr => h r (by simp [hr])
    have hr := h r (by simp)
    simp only [dv, deg]
    rw [Nat.add_mul, Nat.add_mul]
    by_cases h1 : r.from_ = p
    · rw [if_pos h1, if_pos h1]
      have := hr (.inl h1)
      by_cases h2 : r.to_ = p
      · rw [if_pos h2, if_pos h2]; omega
      · rw [if_neg h2, if_neg h2]; omega
    · rw [if_neg h1, if_neg h1]
      by_cases h2 : r.to_ = p
      · have := hr (.inr h2)
        rw [if_pos h2, if_pos h2]; omega
      · rw [if_neg h2, if_neg h2]; omega
theorem deg24 {s : Survey} (hs : SvOk s) (p : Int) : deg s.readings p ≤ 24 := by
  have key : ∀ l : List Reading, (∀ r ∈ l, r.from_ ≠ r.to_ ∧ 1 ≤ r.weight ∧ r.weight ≤ 3) → deg l p ≤ 3 * l.length := by
    intro l
    induction l with
    | nil => intro _; simp [deg]
    | cons r l ih =>
      intro h
      have ih := ih fun r hr => h r (by simp [hr])
      have hr := h r (by simp)
      simp only [deg, List.length_cons]
      split <;> split <;> omega
  have := key s.readings fun r hr => by have := hs.rd r hr; omega
  have := hs.len
  omega
theorem degsum {s : Survey} (hs : SvOk s) {p0 p1 p2 p3 : Int} (h01 : p0 ≠ p1) (h02 : p0 ≠ p2) (h03 : p0 ≠ p3) (h12 : p1 ≠ p2) (h13 : p1 ≠ p3) (h23 : p2 ≠ p3) : deg s.readings p0 + deg s.readings p1 + deg s.readings p2 + deg s.readings p3 ≤ 48 := by
  have key : ∀ l : List Reading, (∀ r ∈ l, r.from_ ≠ r.to_ ∧ 1 ≤ r.weight ∧ r.weight ≤ 3) → deg l p0 + deg l p1 + deg l p2 + deg l p3 ≤ 6 * l.length := by
    intro l
    induction l with
    | nil => intro _; simp [deg]
    | cons r l ih =>
      intro h
      have ih := ih fun r hr => h r (by simp [hr])
      have hr := h r (by simp)
      have one : ∀ x : Int, (if x = p0 then r.weight.toNat else 0) + (if x = p1 then r.weight.toNat else 0) + (if x = p2 then r.weight.toNat else 0) + (if x = p3 then r.weight.toNat else 0) ≤ 3 := fun x => by
        split <;> split <;> split <;> split <;> omega
      have a := one r.from_
      have b := one r.to_
      simp only [deg, List.length_cons]
      omega
  have := key s.readings fun r hr => by have := hs.rd r hr; omega
  have := hs.len
  omega
theorem deg_pos {s : Survey} (hs : SvOk s) {p q : Int} (hc : Con s s.readings.length p q) (hne : p ≠ q) : 1 ≤ deg s.readings p := by
  obtain ⟨r, hr, hx⟩ := cross (fun x => decide (x = p)) hc (by simp; exact fun e => hne e.symm)
  have key : ∀ l : List Reading, r ∈ l → (r.from_ = p ∨ r.to_ = p) → 1 ≤ r.weight → 1 ≤ deg l p := by
    intro l
    induction l with
    | nil => intro h; simp at h
    | cons r' l ih =>
      intro h h1 h2
      simp only [deg]
      rcases List.mem_cons.1 h with e | e
      · subst e
        rcases h1 with h1 | h1
        · rw [if_pos h1]; omega
        · rw [if_pos h1]; omega
      · have := ih e h1 h2
        omega
  refine key s.readings hr ?_ (hs.rd r hr).2.2.2.2.1
  by_cases e : r.from_ = p
  · exact .inl e
  · by_cases e2 : r.to_ = p
    · exact .inr e2
    · exact absurd (by rw [decide_eq_false e, decide_eq_false e2]) hx
/-- Right sides: of rises, or of one point's flow. -/
structure Rh (s : Survey) (pts : List Int) (b : Nat → Int) (t : Reading → Int) (T0 S c : Int) : Prop where
  t0 : 0 ≤ T0
  s0 : 0 ≤ S
  le : T0 + S ≤ 1000
  tr : ∀ r ∈ s.readings, -T0 ≤ t r ∧ t r ≤ T0
  eq : ∀ j, j < pts.length → b j = -dv s.readings (fun r => r.weight * t r) (gi pts j) + if gi pts j = c then S else 0
/-- The table with its right sides. -/
def Am (s : Survey) (pts : List Int) (b : Nat → Int) : Mt := fun j c => if c < pts.length then lent s pts j c else b j
section
variable {s : Survey} {pts : List Int} {b : Nat → Int}
def Xv (a : Mt) (i c k : Nat) : Int := (if k < i then -Nm a i k c else 0) + (if k = c then Dm a i else 0)
def Xb (a : Mt) (n i k : Nat) : Int := if k < i then Nm a i k n else 0
theorem Xv_sum {i c j : Nat} (hi : i ≤ c) (hc : c < pts.length) (hj : j < pts.length) : sumN (fun k => lent s pts j k * Xv (Am s pts b) i c k) pts.length = mn (Am s pts b) i j c := by
  have e : sumN (fun k => lent s pts j k * Xv (Am s pts b) i c k) pts.length = sumN (fun k => (if k < i then -(Am s pts b j k * Nm (Am s pts b) i k c) else 0) + (if k = c then Dm (Am s pts b) i * Am s pts b j k else 0)) pts.length := by
    refine sumN_congr fun k hk => ?_
    have : Am s pts b j k = lent s pts j k := by unfold Am; rw [if_pos hk]
    rw [this]
    unfold Xv
    split <;> split <;> grind
  rw [e, sumN_add, sumN_lt (fun k => -(Am s pts b j k * Nm (Am s pts b) i k c)) (by omega), sumN_at (fun k => Dm (Am s pts b) i * Am s pts b j k) hc]
  unfold mn
  have : ∀ (f : Nat → Int) n, sumN (fun k => -f k) n = -sumN f n := fun f n => by
    induction n with
    | zero => rfl
    | succ n ih => simp only [sumN]; rw [ih]; omega
  rw [this]; omega
theorem Xb_sum {i j : Nat} (hi : i ≤ pts.length) (hj : j < pts.length) : sumN (fun k => lent s pts j k * Xb (Am s pts b) pts.length i k) pts.length = Dm (Am s pts b) i * b j - mn (Am s pts b) i j pts.length := by
  have e : sumN (fun k => lent s pts j k * Xb (Am s pts b) pts.length i k) pts.length = sumN (fun k => if k < i then Am s pts b j k * Nm (Am s pts b) i k pts.length else 0) pts.length := by
    refine sumN_congr fun k hk => ?_
    have : Am s pts b j k = lent s pts j k := by unfold Am; rw [if_pos hk]
    rw [this]
    unfold Xb
    split <;> simp
  rw [e, sumN_lt _ hi]
  have hb : Am s pts b j pts.length = b j := by unfold Am; rw [if_neg (by omega)]
  unfold mn
  rw [hb]; omega
theorem mem_take {l : List Int} {i : Nat} {p : Int} (h : p ∈ l.take i) : ∃ k, k < i ∧ k < l.length ∧ gi l k = p := by
  obtain ⟨k, hk, e⟩ := List.getElem_of_mem h
  rw [List.length_take] at hk
  refine ⟨k, by omega, by omega, gi_of ?_⟩
  rw [List.getElem_take] at e
  rw [List.getElem?_eq_getElem (by omega), e]
theorem take_mem {l : List Int} {i k : Nat} (h : k < i) (hk : k < l.length) : gi l k ∈ l.take i := by
  apply List.mem_of_getElem? (i := k)
  rw [List.getElem?_take, if_pos h]; exact gi_at hk
theorem Fr.out_take (h : Fr s pts) (i : Nat) : ∀ p ∈ pts.take i, ∃ q, q ∉ pts.take i ∧ Con s s.readings.length p q := fun p hp => by
  obtain ⟨q, h1, h2⟩ := h.out p (List.mem_of_mem_take hp)
  exact ⟨q, fun hh => h1 (List.mem_of_mem_take hh), h2⟩
theorem not_take {i : Nat} {p : Int} (hp : p ∉ pts.take i) (hp2 : p ∈ pts) : ∃ k, i ≤ k ∧ k < pts.length ∧ gi pts k = p := by
  obtain ⟨k, h1, h2⟩ := gi_ex hp2
  refine ⟨k, ?_, h1, h2⟩
  by_cases e : k < i
  · exact absurd (by rw [← h2]; exact take_mem e h1) hp
  · omega
/-- Heights with one free point lifted lie between. -/
theorem Xv_range (hs : SvOk s) (h : Fr s pts) {i c : Nat} (hi : i ≤ c) (hc : c < pts.length) (hD : 0 < Dm (Am s pts b) i) (p : Int) : 0 ≤ ext pts (Xv (Am s pts b) i c) p ∧ ext pts (Xv (Am s pts b) i c) p ≤ Dm (Am s pts b) i := by
  have hn := h.n4
  have hout : ∀ p, p ∉ pts.take i → 0 ≤ ext pts (Xv (Am s pts b) i c) p ∧ ext pts (Xv (Am s pts b) i c) p ≤ Dm (Am s pts b) i := fun p hp => by
    by_cases hp2 : p ∈ pts
    · obtain ⟨k, h1, h2, h3⟩ := not_take hp hp2
      rw [← h3, ext_at h.nd _ h2]
      unfold Xv
      rw [if_neg (by omega)]
      split <;> omega
    · rw [ext_out _ hp2]; omega
  have hdv : ∀ p ∈ pts.take i, dv s.readings (fun r => r.weight * (ext pts (Xv (Am s pts b) i c) r.from_ - ext pts (Xv (Am s pts b) i c) r.to_ + 0)) p = 0 := fun p hp => by
    obtain ⟨k, h1, h2, h3⟩ := mem_take hp
    simp only [Int.add_zero]
    rw [← h3, ← row_dv hs h.nd _ h2, Xv_sum hi hc h2, cramer _ (by omega) h1]
  by_cases hp : p ∈ pts.take i
  · have u := mp (t := fun _ => 0) (T0 := 0) (S := 0) (c := 0) (B := Dm (Am s pts b) i) hs (by omega) (by omega) (fun _ _ => by omega) (fun p hp => by rw [hdv p hp]; split <;> omega) (fun p hp => (hout p hp).2) (h.out_take i) p hp
    have l := mp_low (t := fun _ => 0) (T0 := 0) (S := 0) (c := 0) (B := 0) hs (by omega) (by omega) (fun _ _ => by omega) (fun p hp => by rw [hdv p hp]; split <;> omega) (fun p hp => (hout p hp).1) (h.out_take i) p hp
    simp only [Int.add_zero, Int.mul_zero, Int.sub_zero] at u l
    exact ⟨l, u⟩
  · exact hout p hp
theorem D_pos (hs : SvOk s) (h : Fr s pts) : ∀ i, i ≤ pts.length → 0 < Dm (Am s pts b) i := by
  have hn := h.n4
  intro i
  induction i with
  | zero => intro _; exact Int.one_pos
  | succ i ih =>
    intro hi
    have hD := ih (by omega)
    have e : Dm (Am s pts b) (i + 1) = dv s.readings (fun r => r.weight * (ext pts (Xv (Am s pts b) i i) r.from_ - ext pts (Xv (Am s pts b) i i) r.to_)) (gi pts i) := by
      rw [Dm_succ _ (by omega), ← Xv_sum (Nat.le_refl i) (by omega) (by omega), row_dv hs h.nd _ (by omega)]
    by_cases h0 : 0 < Dm (Am s pts b) (i + 1)
    · exact h0
    · exfalso
      have u := mp (F := pts.take (i + 1)) (h := ext pts (Xv (Am s pts b) i i)) (t := fun _ => 0) (T0 := 0) (S := 0) (c := 0) (B := 0) hs (by omega) (by omega) (fun _ _ => by omega) (fun p hp => by
        obtain ⟨k, h1, h2, h3⟩ := mem_take hp
        simp only [Int.add_zero]
        by_cases hk : k = i
        · subst hk
          rw [← h3, ← e]; split <;> omega
        · rw [← h3, ← row_dv hs h.nd _ h2, Xv_sum (Nat.le_refl i) (by omega) h2, cramer _ (by omega) (by omega)]; split <;> omega) (fun p hp => by
        by_cases hp2 : p ∈ pts
        · obtain ⟨k, h1, h2, h3⟩ := not_take hp hp2
          rw [← h3, ext_at h.nd _ h2]
          unfold Xv
          rw [if_neg (by omega), if_neg (by omega)]; omega
        · rw [ext_out _ hp2]; omega) (h.out_take (i + 1)) (gi pts i) (take_mem (by omega) (by omega))
      rw [ext_at h.nd _ (by omega)] at u
      unfold Xv at u
      rw [if_neg (by omega), if_pos rfl] at u
      simp at u
      omega
theorem N_small (hs : SvOk s) (h : Fr s pts) {i k c : Nat} (hk : k < i) (hi : i ≤ c) (hc : c < pts.length) : -Dm (Am s pts b) i ≤ Nm (Am s pts b) i k c ∧ Nm (Am s pts b) i k c ≤ 0 := by
  have := Xv_range (b := b) hs h hi hc (D_pos hs h i (by omega)) (gi pts k)
  rw [ext_at h.nd _ (by omega)] at this
  unfold Xv at this
  rw [if_pos hk, if_neg (by omega)] at this
  omega
theorem M_small (hs : SvOk s) (h : Fr s pts) {i j c : Nat} (hi : i ≤ c) (hc : c < pts.length) (hj : j < pts.length) : (mn (Am s pts b) i j c).natAbs ≤ deg s.readings (gi pts j) * (Dm (Am s pts b) i).natAbs := by
  rw [← Xv_sum hi hc hj, row_dv hs h.nd _ hj]
  refine dv_abs fun r hr _ => ?_
  have hw := (hs.rd r hr).2.2.2.2
  have h1 := Xv_range (b := b) hs h hi hc (D_pos hs h i (by omega)) r.from_
  have h2 := Xv_range (b := b) hs h hi hc (D_pos hs h i (by omega)) r.to_
  rw [Int.natAbs_mul]
  exact Nat.mul_le_mul (by omega) (by omega)
variable {t : Reading → Int} {T0 S c : Int}
/-- Heights of free points, the others held. -/
theorem Xb_dv (hs : SvOk s) (h : Fr s pts) (hb : Rh s pts b t T0 S c) {i j : Nat} (hi : i ≤ pts.length) (hj : j < pts.length) :
    dv s.readings (fun r => r.weight * (ext pts (Xb (Am s pts b) pts.length i) r.from_ - ext pts (Xb (Am s pts b) pts.length i) r.to_ + Dm (Am s pts b) i * t r)) (gi pts j) = (if gi pts j = c then Dm (Am s pts b) i * S else 0) - mn (Am s pts b) i j pts.length := by
  have e1 := row_dv hs h.nd (Xb (Am s pts b) pts.length i) hj
  rw [Xb_sum hi hj] at e1
  have e2 := hb.eq j hj
  have e3 : dv s.readings (fun r => r.weight * (ext pts (Xb (Am s pts b) pts.length i) r.from_ - ext pts (Xb (Am s pts b) pts.length i) r.to_ + Dm (Am s pts b) i * t r)) (gi pts j) = dv s.readings (fun r => r.weight * (ext pts (Xb (Am s pts b) pts.length i) r.from_ - ext pts (Xb (Am s pts b) pts.length i) r.to_)) (gi pts j) + Dm (Am s pts b) i * dv s.readings (fun r => r.weight * t r) (gi pts j) := by
    rw [← dv_mul, ← dv_add]
    exact dv_congr (fun r _ => by grind) _
  rw [e3, ← e1, e2]
  split <;> grind
theorem Nb_small (hs : SvOk s) (h : Fr s pts) (hb : Rh s pts b t T0 S c) {i k : Nat} (hi : i ≤ pts.length) (hk : k < pts.length) : -((i : Int) * (Dm (Am s pts b) i * (T0 + S))) ≤ Xb (Am s pts b) pts.length i k ∧ Xb (Am s pts b) pts.length i k ≤ (i : Int) * (Dm (Am s pts b) i * (T0 + S)) := by
  have hn := h.n4
  have hD := D_pos (b := b) hs h i hi
  have t0 := hb.t0
  have s0 := hb.s0
  have n1 : 0 ≤ Dm (Am s pts b) i * T0 := Int.mul_nonneg (by omega) t0
  have n2 : 0 ≤ Dm (Am s pts b) i * S := Int.mul_nonneg (by omega) s0
  have n3 : 0 ≤ (i : Int) * (Dm (Am s pts b) i * (T0 + S)) := Int.mul_nonneg (by omega) (Int.mul_nonneg (by omega) (by omega))
  by_cases hki : k < i
  · have hlen : (pts.take i).length = i := by rw [List.length_take]; omega
    have htr : ∀ r ∈ s.readings, -(Dm (Am s pts b) i * T0) ≤ Dm (Am s pts b) i * t r ∧ Dm (Am s pts b) i * t r ≤ Dm (Am s pts b) i * T0 := fun r hr => by
      have := hb.tr r hr
      have a := Int.mul_le_mul_of_nonneg_left this.1 (show 0 ≤ Dm (Am s pts b) i by omega)
      have b' := Int.mul_le_mul_of_nonneg_left this.2 (show 0 ≤ Dm (Am s pts b) i by omega)
      rw [Int.mul_neg] at a
      exact ⟨a, b'⟩
    have hdv : ∀ p ∈ pts.take i, dv s.readings (fun r => r.weight * (ext pts (Xb (Am s pts b) pts.length i) r.from_ - ext pts (Xb (Am s pts b) pts.length i) r.to_ + Dm (Am s pts b) i * t r)) p = if p = c then Dm (Am s pts b) i * S else 0 := fun p hp => by
      obtain ⟨k, h1, h2, h3⟩ := mem_take hp
      rw [← h3, Xb_dv hs h hb hi h2, cramer _ (by omega) h1, Int.sub_zero]
    have hout : ∀ p, p ∉ pts.take i → ext pts (Xb (Am s pts b) pts.length i) p = 0 := fun p hp => by
      by_cases hp2 : p ∈ pts
      · obtain ⟨k, h1, h2, h3⟩ := not_take hp hp2
        rw [← h3, ext_at h.nd _ h2]
        unfold Xb
        rw [if_neg (by omega)]
      · exact ext_out _ hp2
    have u := mp (T0 := Dm (Am s pts b) i * T0) (S := Dm (Am s pts b) i * S) (c := c) (B := 0) hs n1 n2 htr (fun p hp => by rw [hdv p hp]; exact Int.le_refl _) (fun p hp => by rw [hout p hp]; exact Int.le_refl 0) (h.out_take i) (gi pts k) (take_mem hki hk)
    have l := mp_low (T0 := Dm (Am s pts b) i * T0) (S := Dm (Am s pts b) i * S) (c := c) (B := 0) hs n1 n2 htr (fun p hp => by rw [hdv p hp]; split <;> omega) (fun p hp => by rw [hout p hp]; exact Int.le_refl 0) (h.out_take i) (gi pts k) (take_mem hki hk)
    rw [ext_at h.nd _ hk, hlen, ← Int.mul_add] at u l
    omega
  · unfold Xb
    rw [if_neg hki]; omega
/-- The table of free points is small. -/
theorem sol_of (hs : SvOk s) (h : Fr s pts) (hb : Rh s pts b t T0 S c) : Sol pts.length (Am s pts b) (fun j => deg s.readings (gi pts j)) := by
  have hn := h.n4
  have t0 := hb.t0
  have s0 := hb.s0
  have ts := hb.le
  have hT : ∀ i, i ≤ pts.length → ∀ m : Int, 0 ≤ m → m * (Dm (Am s pts b) i * (T0 + S)) ≤ m * (1000 * Dm (Am s pts b) i) := fun i hi m hm => by
    have hD := D_pos (b := b) hs h i hi
    have : Dm (Am s pts b) i * (T0 + S) ≤ Dm (Am s pts b) i * 1000 := Int.mul_le_mul_of_nonneg_left ts (by omega)
    exact Int.mul_le_mul_of_nonneg_left (by omega) hm
  refine ⟨hn, D_pos hs h, fun i hi => ?_, fun i hi => ?_, fun e => ?_, fun i k c hk hi hc => ?_, fun i k hk hi => ?_, fun i j c hj hi hjn hc => M_small hs h hi hc hjn, fun i j hij hj => ?_⟩
  · rw [Dm_succ _ (by omega)]; exact M_small hs h (Nat.le_refl _) hi hi
  · obtain ⟨q, h1, h2⟩ := h.out _ (gi_mem hi)
    exact ⟨deg_pos hs h2 fun e => h1 (e ▸ gi_mem hi), deg24 hs _⟩
  · have hne : ∀ i k, i < pts.length → k < pts.length → i ≠ k → gi pts i ≠ gi pts k := fun i k hi hk hik e => hik (gi_inj h.nd hi hk e)
    exact degsum hs (hne 0 1 (by omega) (by omega) (by omega)) (hne 0 2 (by omega) (by omega) (by omega)) (hne 0 3 (by omega) (by omega) (by omega)) (hne 1 2 (by omega) (by omega) (by omega)) (hne 1 3 (by omega) (by omega) (by omega)) (hne 2 3 (by omega) (by omega) (by omega))
  · have := N_small (b := b) hs h hk hi hc
    omega
  · have hD := D_pos (b := b) hs h i hi
    have h1 := Nb_small hs h hb (i := i) (k := k) hi (by omega)
    have h2 := hT i hi i (by omega)
    unfold Xb at h1
    rw [if_pos hk] at h1
    have h3 : (i : Int) * (1000 * Dm (Am s pts b) i) ≤ 4 * (1000 * Dm (Am s pts b) i) := Int.mul_le_mul_of_nonneg_right (by omega) (by omega)
    omega
  · have hi : i ≤ pts.length := by omega
    have hD := D_pos (b := b) hs h i hi
    have e := Xb_dv hs h hb (i := i) hi hj
    have h0 : Xb (Am s pts b) pts.length i j = 0 := by unfold Xb; rw [if_neg (by omega)]
    have hX : ∀ p, (ext pts (Xb (Am s pts b) pts.length i) p).natAbs ≤ 3000 * (Dm (Am s pts b) i).natAbs := fun p => by
      by_cases hp : p ∈ pts
      · obtain ⟨k, k1, k2⟩ := gi_ex hp
        rw [← k2, ext_at h.nd _ k1]
        have h1 := Nb_small hs h hb (i := i) (k := k) hi k1
        have h2 := hT i hi i (by omega)
        have h3 : (i : Int) * (1000 * Dm (Am s pts b) i) ≤ 3 * (1000 * Dm (Am s pts b) i) := Int.mul_le_mul_of_nonneg_right (by omega) (by omega)
        omega
      · rw [ext_out _ hp]; simp
    have hdg : 1 ≤ deg s.readings (gi pts j) := by
      obtain ⟨q, h1, h2⟩ := h.out _ (gi_mem hj)
      exact deg_pos hs h2 fun e => h1 (e ▸ gi_mem hj)
    have hX0 := ext_at h.nd (Xb (Am s pts b) pts.length i) hj
    rw [h0] at hX0
    obtain ⟨T, hTT⟩ : ∃ T : Nat, (T : Int) = T0 := ⟨T0.toNat, by omega⟩
    obtain ⟨S', hSS⟩ : ∃ S' : Nat, (S' : Int) = S := ⟨S.toNat, by omega⟩
    have hdv := dv_abs (l := s.readings) (p := gi pts j) (M := 3000 * (Dm (Am s pts b) i).natAbs + (Dm (Am s pts b) i).natAbs * T) (f := fun r => r.weight * (ext pts (Xb (Am s pts b) pts.length i) r.from_ - ext pts (Xb (Am s pts b) pts.length i) r.to_ + Dm (Am s pts b) i * t r)) fun r hr htouch => by
      have hw := (hs.rd r hr).2.2.2.2
      have htr := hb.tr r hr
      rw [Int.natAbs_mul]
      refine Nat.mul_le_mul (by omega) ?_
      have a1 := hX r.from_
      have a2 := hX r.to_
      have a3 : (Dm (Am s pts b) i * t r).natAbs ≤ (Dm (Am s pts b) i).natAbs * T := na_mul (Nat.le_refl _) (by omega)
      rcases htouch with e | e
      · rw [e, hX0] at *; omega
      · rw [e, hX0] at *; omega
    rw [e] at hdv
    have hS : (if gi pts j = c then Dm (Am s pts b) i * S else 0).natAbs ≤ (Dm (Am s pts b) i).natAbs * S' := by
      split
      · exact na_mul (Nat.le_refl _) (by omega)
      · simp
    have f1 : (mn (Am s pts b) i j pts.length).natAbs ≤ (Dm (Am s pts b) i).natAbs * S' + deg s.readings (gi pts j) * (3000 * (Dm (Am s pts b) i).natAbs + (Dm (Am s pts b) i).natAbs * T) := by
      generalize deg s.readings (gi pts j) * (3000 * (Dm (Am s pts b) i).natAbs + (Dm (Am s pts b) i).natAbs * T) = W at *
      generalize (Dm (Am s pts b) i).natAbs * S' = V at *
      omega
    refine Nat.le_trans f1 ?_
    generalize (Dm (Am s pts b) i).natAbs = D at *
    generalize deg s.readings (gi pts j) = dg at *
    have f2 : D * S' ≤ dg * (D * S') := Nat.le_mul_of_pos_left _ hdg
    have f3 : dg * (D * S') + dg * (3000 * D + D * T) = dg * (D * (3000 + T + S')) := by grind
    have f4 : dg * (D * (3000 + T + S')) ≤ dg * (D * 4000) := Nat.mul_le_mul_left _ (Nat.mul_le_mul_left _ (by omega))
    have f5 : dg * (D * 4000) = 4000 * dg * D := by grind
    omega
end
end Go.D1

set_option linter.unusedVariables false
set_option linter.unusedSimpArgs false
namespace Go.D1
open Go.Tb
/-- The place that stands behind place k once place q is taken out. -/
def sk (q k : Nat) : Nat := if k < q then k else k + 1
def dsf (f : Mt → Int) (a : Mt) : Nat → Int
  | 0 => 0
  | q + 1 => dsf f a q + sg q * a 0 q * f (fun i j => a (i + 1) (sk q j))
def dtf : Nat → Mt → Int
  | 0, _ => 1
  | n + 1, a => dsf (dtf n) a (n + 1)
theorem gi_cut (q : Nat) (r : List Int) (k : Nat) : gi (cutC q r) k = gi r (sk q k) := by
  unfold gi cutC sk
  simp only [List.getD_eq_getElem?_getD]
  by_cases hk : k < q
  · rw [if_pos hk]
    by_cases hr : k < r.length
    · rw [List.getElem?_append_left (by rw [List.length_take]; omega), List.getElem?_take, if_pos hk]
    · rw [List.getElem?_eq_none (by rw [List.length_append, List.length_take, List.length_drop]; omega), List.getElem?_eq_none (by omega)]
  · rw [if_neg hk]
    by_cases hr : q ≤ r.length
    · rw [List.getElem?_append_right (by rw [List.length_take]; omega), List.length_take, List.getElem?_drop]
      congr 2; omega
    · rw [List.getElem?_eq_none (by rw [List.length_append, List.length_take, List.length_drop]; omega), List.getElem?_eq_none (by omega)]
theorem gl_minor (m : List (List Int)) (q i : Nat) : gl (minor m q) i = cutC q (gl m (i + 1)) := by
  unfold gl minor
  simp only [List.getD_eq_getElem?_getD, List.getElem?_map, List.getElem?_drop, Nat.add_comm 1 i]
  cases m[i + 1]? with
  | none => simp [cutC]
  | some x => rfl
def en (m : List (List Int)) : Mt := fun i j => gi (gl m i) j
theorem dt_dtf : ∀ (n : Nat) (m : List (List Int)), dt n m = dtf n (en m)
  | 0, _ => rfl
  | n + 1, m => by
    show dsum (dt n) m (n + 1) = dsf (dtf n) (en m) (n + 1)
    have key : ∀ q, dsum (dt n) m q = dsf (dtf n) (en m) q := by
      intro q
      induction q with
      | zero => rfl
      | succ q ih =>
        simp only [dsum, dsf]
        rw [ih, dt_dtf n (minor m q)]
        have : en (minor m q) = fun i j => en m (i + 1) (sk q j) := by
          funext i j
          unfold en
          rw [gl_minor, gi_cut]
        rw [this]; rfl
    exact key (n + 1)
theorem dtf_Dm {n : Nat} (hn : n ≤ 4) (a : Mt) : dtf n a = Dm a n := by
  match n, hn with
  | 0, _ => rfl
  | 1, _ => simp [dtf, dsf, Dm, sg]
  | 2, _ => simp [dtf, dsf, Dm, sg, sk, e2]; grind
  | 3, _ => simp [dtf, dsf, Dm, sg, sk, e3]; grind
  | 4, _ => simp [dtf, dsf, Dm, sg, sk, e4, f3]; grind
theorem Dm_congr {a b : Mt} {n : Nat} (hn : n ≤ 4) (h : ∀ i j, i < n → j < n → a i j = b i j) : Dm a n = Dm b n := by
  match n, hn with
  | 0, _ => rfl
  | 1, _ => exact h 0 0 (by omega) (by omega)
  | 2, _ =>
    simp only [Dm, e2]
    rw [h 0 0 (by omega) (by omega), h 0 1 (by omega) (by omega), h 1 0 (by omega) (by omega), h 1 1 (by omega) (by omega)]
  | 3, _ =>
    simp only [Dm, e3]
    rw [h 0 0 (by omega) (by omega), h 0 1 (by omega) (by omega), h 0 2 (by omega) (by omega), h 1 0 (by omega) (by omega), h 1 1 (by omega) (by omega), h 1 2 (by omega) (by omega), h 2 0 (by omega) (by omega), h 2 1 (by omega) (by omega), h 2 2 (by omega) (by omega)]
  | 4, _ =>
    simp only [Dm, e4, f3]
    rw [h 0 0 (by omega) (by omega), h 0 1 (by omega) (by omega), h 0 2 (by omega) (by omega), h 0 3 (by omega) (by omega), h 1 0 (by omega) (by omega), h 1 1 (by omega) (by omega), h 1 2 (by omega) (by omega), h 1 3 (by omega) (by omega), h 2 0 (by omega) (by omega), h 2 1 (by omega) (by omega), h 2 2 (by omega) (by omega), h 2 3 (by omega) (by omega), h 3 0 (by omega) (by omega), h 3 1 (by omega) (by omega), h 3 2 (by omega) (by omega), h 3 3 (by omega) (by omega)]
/-- With a unit in the column: a determinant with one row and column less. -/
theorem Nm_unit {a : Mt} {n k : Nat} (hn : n + 1 ≤ 4) (hk : k < n + 1) {c : Nat} (h : ∀ i, i < n + 1 → a i c = if i = k then 1 else 0) : Nm a (n + 1) k c = Dm (fun i j => a (sk k i) (sk k j)) n := by
  match n, k, hn, hk with
  | 0, 0, _, _ => simp [Dm, Nm, h 0 (by omega)] <;> grind
  | 1, 0, _, _ => simp [Dm, Nm, e2, sk, h 0 (by omega), h 1 (by omega)] <;> grind
  | 1, 1, _, _ => simp [Dm, Nm, e2, sk, h 0 (by omega), h 1 (by omega)] <;> grind
  | 2, 0, _, _ => simp [Dm, Nm, e2, e3, sk, h 0 (by omega), h 1 (by omega), h 2 (by omega)] <;> grind
  | 2, 1, _, _ => simp [Dm, Nm, e2, e3, sk, h 0 (by omega), h 1 (by omega), h 2 (by omega)] <;> grind
  | 2, 2, _, _ => simp [Dm, Nm, e2, e3, sk, h 0 (by omega), h 1 (by omega), h 2 (by omega)] <;> grind
  | 3, 0, _, _ => simp [Dm, Nm, e3, e4, f3, sk, h 0 (by omega), h 1 (by omega), h 2 (by omega), h 3 (by omega)] <;> grind
  | 3, 1, _, _ => simp [Dm, Nm, e3, e4, f3, sk, h 0 (by omega), h 1 (by omega), h 2 (by omega), h 3 (by omega)] <;> grind
  | 3, 2, _, _ => simp [Dm, Nm, e3, e4, f3, sk, h 0 (by omega), h 1 (by omega), h 2 (by omega), h 3 (by omega)] <;> grind
  | 3, 3, _, _ => simp [Dm, Nm, e3, e4, f3, sk, h 0 (by omega), h 1 (by omega), h 2 (by omega), h 3 (by omega)] <;> grind
theorem en_lap {s : Survey} {pts : List Int} {i j : Nat} (hi : i < pts.length) (hj : j < pts.length) : en (lapR s pts) i j = lent s pts i j := by
  unfold en
  have h1 : gl (lapR s pts) i = lrow s pts i := by
    unfold gl lapR
    simp [List.getD_eq_getElem?_getD, hi]
  rw [h1]
  apply gi_of
  unfold lrow
  rw [List.getElem?_map, List.getElem?_range hj]; rfl
theorem detL_Dm {s : Survey} {pts : List Int} (hn : pts.length ≤ 4) (b : Nat → Int) : detL s pts = Dm (Am s pts b) pts.length := by
  unfold detL
  rw [dt_dtf, dtf_Dm hn]
  refine Dm_congr hn fun i j hi hj => ?_
  rw [en_lap hi hj]
  unfold Am; rw [if_pos hj]
end Go.D1

set_option linter.unusedVariables false
set_option linter.unusedSimpArgs false
namespace Go.D1
open Go.Tb
/-- Heights whose flow goes from i to j. -/
structure Un (s : Survey) (i j : Int) (u : Int → Int) (D : Int) : Prop where
  pos : 0 < D
  dv : ∀ p, 0 ≤ p → p < s.points → dv s.readings (fun r => r.weight * (u r.from_ - u r.to_)) p = (if p = i then D else 0) - (if p = j then D else 0)
def RS (s : Survey) (i j N D : Int) : Prop := ∃ u, Un s i j u D ∧ N = u i - u j
theorem dv_zero (l : List Reading) (p : Int) : dv l (fun _ => 0) p = 0 := by
  induction l with
  | nil => rfl
  | cons r l ih => simp only [dv]; rw [ih]; split <;> split <;> rfl
theorem dv_touch {l : List Reading} {f g : Reading → Int} {p : Int} (h : ∀ r ∈ l, r.from_ = p ∨ r.to_ = p → f r = g r) : dv l f p = dv l g p := by
  induction l with
  | nil => rfl
  | cons r l ih =>
    have ih := ih fun r hr => h r (by simp [hr])
    have hr := h r (by simp)
    simp only [dv]
    rw [ih]
    by_cases h1 : r.from_ = p
    · rw [if_pos h1, if_pos h1, hr (.inl h1)]
    · rw [if_neg h1, if_neg h1]
      by_cases h2 : r.to_ = p
      · rw [if_pos h2, if_pos h2, hr (.inr h2)]
      · rw [if_neg h2, if_neg h2]
theorem con_const {s : Survey} {j : Nat} {u : Int → Int} (h : ∀ i, i < j → i < s.readings.length → u (gr s.readings i).from_ = u (gr s.readings i).to_) {a b : Int} (hc : Con s j a b) : u a = u b := by
  induction hc with
  | refl a => rfl
  | edge h1 h2 => exact h _ h1 h2
  | symm _ ih => exact ih.symm
  | trans _ _ i1 i2 => exact i1.trans i2
theorem edge_of {s : Survey} {r : Reading} (h : r ∈ s.readings) : Con s s.readings.length r.from_ r.to_ := by
  obtain ⟨k, hk, e⟩ := List.getElem_of_mem h
  have : gr s.readings k = r := by
    have := gr_at hk
    rw [List.getElem?_eq_getElem hk] at this
    rw [← Option.some.inj this, e]
  rw [← this]
  exact .edge hk hk
/-- No flow: no differences. -/
theorem flat {s : Survey} (hs : SvOk s) {u : Int → Int} (h : ∀ p, 0 ≤ p → p < s.points → dv s.readings (fun r => r.weight * (u r.from_ - u r.to_)) p = 0) : ∀ r ∈ s.readings, u r.from_ = u r.to_ := by
  intro r hr
  by_cases e : u r.from_ = u r.to_
  · exact e
  · exfalso
    have hg := green s.readings u (fun r => r.weight * (u r.from_ - u r.to_)) s.points.toNat (sv_in hs)
    have hp1 := hs.p1
    rw [sumN_zero fun k hk => by rw [h k (by omega) (by omega), Int.mul_zero]] at hg
    have sq : ∀ r ∈ s.readings, 0 ≤ (u r.from_ - u r.to_) * (r.weight * (u r.from_ - u r.to_)) := fun r hr => by
      have hw := (hs.rd r hr).2.2.2.2
      have : (u r.from_ - u r.to_) * (r.weight * (u r.from_ - u r.to_)) = r.weight * ((u r.from_ - u r.to_) * (u r.from_ - u r.to_)) := by grind
      rw [this]
      refine Int.mul_nonneg (by omega) ?_
      generalize u r.from_ - u r.to_ = x
      rcases Int.le_total 0 x with h | h
      · exact Int.mul_nonneg h h
      · exact Int.mul_nonneg_of_nonpos_of_nonpos h h
    have hne : 0 < (u r.from_ - u r.to_) * (r.weight * (u r.from_ - u r.to_)) := by
      have h0 := sq r hr
      have hw := (hs.rd r hr).2.2.2.2
      have : (u r.from_ - u r.to_) * (r.weight * (u r.from_ - u r.to_)) ≠ 0 := Int.mul_ne_zero (by omega) (Int.mul_ne_zero (by omega) (by omega))
      omega
    have := rs_gt sq hr hne
    omega
theorem flat_con {s : Survey} (hs : SvOk s) {u : Int → Int} (h : ∀ p, 0 ≤ p → p < s.points → dv s.readings (fun r => r.weight * (u r.from_ - u r.to_)) p = 0) {a b : Int} (hc : Con s s.readings.length a b) : u a = u b :=
  con_const (fun i _ hi => flat hs h _ (gr_mem hi)) hc
theorem rs_uniq {s : Survey} (hs : SvOk s) {i j N D N' D' : Int} (hc : Con s s.readings.length i j) (h : RS s i j N D) (h' : RS s i j N' D') : N * D' = N' * D := by
  obtain ⟨u, hu, rfl⟩ := h
  obtain ⟨v, hv, rfl⟩ := h'
  have := flat_con hs (u := fun p => u p * D' - v p * D) (fun p p0 p1 => by
    have e : dv s.readings (fun r => r.weight * (u r.from_ * D' - v r.from_ * D - (u r.to_ * D' - v r.to_ * D))) p = D' * dv s.readings (fun r => r.weight * (u r.from_ - u r.to_)) p - D * dv s.readings (fun r => r.weight * (v r.from_ - v r.to_)) p := by
      rw [← dv_mul, ← dv_mul, ← dv_sub]
      exact dv_congr (fun r _ => by grind) p
    rw [e, hu.dv p p0 p1, hv.dv p p0 p1]
    split <;> split <;> grind) hc
  grind
theorem rs_symm {s : Survey} {i j N D : Int} (h : RS s i j N D) : RS s j i N D := by
  obtain ⟨u, hu, rfl⟩ := h
  refine ⟨fun p => -u p, ⟨hu.pos, fun p p0 p1 => ?_⟩, by show u i - u j = -u j - -u i; omega⟩
  have e : dv s.readings (fun r => r.weight * (-u r.from_ - -u r.to_)) p = -dv s.readings (fun r => r.weight * (u r.from_ - u r.to_)) p := by
    rw [← dv_neg]; exact dv_congr (fun r _ => by grind) p
  rw [e, hu.dv p p0 p1]
  omega
theorem rs_self (s : Survey) (i : Int) : RS s i i 0 1 := by
  refine ⟨fun _ => 0, ⟨by omega, fun p _ _ => ?_⟩, rfl⟩
  have : dv s.readings (fun r => r.weight * ((0 : Int) - 0)) p = dv s.readings (fun _ => 0) p := dv_congr (fun r _ => by simp) p
  rw [this, dv_zero]; omega
theorem sumN_but {f : Nat → Int} {n c : Nat} (hc : c < n) (h : ∀ k, k < n → k ≠ c → f k = 0) : sumN f n = f c := by
  rw [← sumN_at f hc]
  refine sumN_congr fun k hk => ?_
  by_cases e : k = c
  · rw [if_pos e]
  · rw [if_neg e, h k hk e]
theorem sumN_unit {i : Int} {n : Nat} (D : Int) (h : 0 ≤ i ∧ i < n) : sumN (fun k => if (k : Int) = i then D else 0) n = D := by
  rw [sumN_but (c := i.toNat) (by omega) fun k hk hne => if_neg (by omega), if_pos (by omega)]
/-- All flows add up to 0. -/
theorem dv_total {s : Survey} (hs : SvOk s) (f : Reading → Int) : sumN (fun k => dv s.readings f (k : Int)) s.points.toNat = 0 := by
  have hg := green s.readings (fun _ => 1) f s.points.toNat (sv_in hs)
  have : rs s.readings (fun r => ((1 : Int) - 1) * f r) = 0 := by
    have : ∀ l : List Reading, rs l (fun r => ((1 : Int) - 1) * f r) = 0 := by
      intro l
      induction l with
      | nil => rfl
      | cons r l ih => simp only [rs]; rw [ih]; simp
    exact this _
  rw [this] at hg
  rw [← hg]
  exact sumN_congr fun k _ => (Int.one_mul _).symm
theorem iota_nodup (n : Nat) : (iota n).Nodup := by
  induction n with
  | zero => exact List.nodup_nil
  | succ n ih =>
    rw [iota_succ, List.nodup_append]
    refine ⟨ih, by simp, fun a ha b hb => ?_⟩
    obtain ⟨k, hk, e⟩ := gi_ex ha
    rw [iota_len] at hk
    rw [iota_gi hk] at e
    simp at hb
    omega
theorem mem_iota {n : Nat} {p : Int} : p ∈ iota n ↔ 0 ≤ p ∧ p < n := by
  constructor
  · intro h
    obtain ⟨k, hk, e⟩ := gi_ex h
    rw [iota_len] at hk
    rw [iota_gi hk] at e
    omega
  · intro h
    have : gi (iota n) p.toNat ∈ iota n := gi_mem (by rw [iota_len]; omega)
    rw [iota_gi (by omega)] at this
    rw [show p = ((p.toNat : Nat) : Int) by omega]; exact this
theorem mem_nodesOf {n : Nat} {f : Int → Bool} {p : Int} : p ∈ nodesOf n f ↔ (0 ≤ p ∧ p < n) ∧ f p = true := by
  unfold nodesOf
  rw [List.mem_filter, mem_iota]
theorem nodesOf_nodup (n : Nat) (f : Int → Bool) : (nodesOf n f).Nodup := (iota_nodup n).filter _
theorem nodesOf_lt {n : Nat} {f : Int → Bool} {p : Int} (hp : 0 ≤ p ∧ p < n) (h : f p = false) : (nodesOf n f).length < n := by
  unfold nodesOf
  have h1 := List.length_filter_lt_length_iff_exists (l := iota n) (p := f)
  have : (List.filter f (iota n)).length < (iota n).length := h1.2 ⟨p, mem_iota.2 hp, by rw [h]; simp⟩
  rwa [iota_len] at this
abbrev rtOf (s : Survey) (p : Int) : Int := gi (rootsOf s) p.toNat
theorem con_rt {s : Survey} (hs : SvOk s) {a b : Int} (ha : 0 ≤ a ∧ a < s.points) (hb : 0 ≤ b ∧ b < s.points) : Con s s.readings.length a b ↔ rtOf s a = rtOf s b := by
  have hR := rootsOf_ok hs
  have hl := hR.len
  constructor
  · intro h
    exact (hR.eq_of hs h).2 ha
  · intro h
    have h1 := hR.con a.toNat (by omega)
    have h2 := hR.con b.toNat (by omega)
    rw [show ((a.toNat : Nat) : Int) = a by omega] at h1
    rw [show ((b.toNat : Nat) : Int) = b by omega] at h2
    unfold rtOf at h
    rw [h] at h1
    exact h1.symm.trans h2
theorem rt_same {s : Survey} (hs : SvOk s) {r : Reading} (hr : r ∈ s.readings) : rtOf s r.from_ = rtOf s r.to_ := by
  have h := hs.rd r hr
  exact (con_rt hs h.1 h.2.1).1 (edge_of hr)
theorem mem_oneOf {s : Survey} (hs : SvOk s) {i p : Int} : p ∈ oneOf s i ↔ (0 ≤ p ∧ p < s.points) ∧ rtOf s p = rtOf s i ∧ p ≠ i := by
  have hp1 := hs.p1
  unfold oneOf
  rw [mem_nodesOf]
  simp only [Bool.and_eq_true, decide_eq_true_eq, Bool.not_eq_true', decide_eq_false_iff_not, ne_eq]
  unfold rtOf
  constructor <;> intro h <;> refine ⟨by omega, h.2⟩
theorem fr_one {s : Survey} (hs : SvOk s) {i : Int} (hi : 0 ≤ i ∧ i < s.points) : Fr s (oneOf s i) := by
  have hp5 := hs.p5
  refine ⟨nodesOf_nodup _ _, ?_, fun p hp => ?_⟩
  · have : (oneOf s i).length < s.points.toNat := nodesOf_lt (p := i) (by omega) (by simp)
    omega
  · have h := (mem_oneOf hs).1 hp
    exact ⟨i, fun h' => ((mem_oneOf hs).1 h').2.2 rfl, (con_rt hs h.1 hi).2 h.2.1⟩
def unitB (pts : List Int) (c : Int) (k : Nat) : Int := if gi pts k = c then 1 else 0
theorem rh_unit (s : Survey) (pts : List Int) (c : Int) : Rh s pts (unitB pts c) (fun _ => 0) 0 1 c := by
  refine ⟨by omega, by omega, by omega, fun _ _ => by omega, fun j hj => ?_⟩
  have : dv s.readings (fun r => r.weight * 0) (gi pts j) = 0 := by
    rw [dv_congr (g := fun _ => 0) (fun r _ => Int.mul_zero _), dv_zero]
  rw [this]
  unfold unitB
  omega
/-- The part of i, j without j: elimination's heights have a flow from i to j. -/
theorem un_one {s : Survey} (hs : SvOk s) {i j : Int} (hi : 0 ≤ i ∧ i < s.points) (hj : 0 ≤ j ∧ j < s.points) (hij : i ≠ j) (hr : rtOf s i = rtOf s j) {k : Nat} (hk : k < (oneOf s j).length) (hki : gi (oneOf s j) k = i) :
    RS s i j (Nm (Am s (oneOf s j) (unitB (oneOf s j) i)) (oneOf s j).length k (oneOf s j).length) (Dm (Am s (oneOf s j) (unitB (oneOf s j) i)) (oneOf s j).length) := by
  have hF := fr_one hs hj
  have hb := rh_unit s (oneOf s j) i
  have hD := D_pos (b := unitB (oneOf s j) i) hs hF (oneOf s j).length (Nat.le_refl _)
  have hn := hF.n4
  have hXd := fun (m : Nat) (hm : m < (oneOf s j).length) => Xb_dv hs hF hb (i := (oneOf s j).length) (j := m) (Nat.le_refl _) hm
  have hp1 := hs.p1
  refine ⟨ext (oneOf s j) (Xb (Am s (oneOf s j) (unitB (oneOf s j) i)) (oneOf s j).length (oneOf s j).length), ⟨hD, ?_⟩, ?_⟩
  · generalize hX : ext (oneOf s j) (Xb (Am s (oneOf s j) (unitB (oneOf s j) i)) (oneOf s j).length (oneOf s j).length) = u at *
    generalize hDD : Dm (Am s (oneOf s j) (unitB (oneOf s j) i)) (oneOf s j).length = D at *
    have hin : ∀ p ∈ oneOf s j, dv s.readings (fun r => r.weight * (u r.from_ - u r.to_)) p = (if p = i then D else 0) := fun p hp => by
      obtain ⟨m, hm, e⟩ := gi_ex hp
      have h1 := hXd m hm
      rw [cramer _ (by omega) hm, e] at h1
      simp only [Int.mul_zero, Int.add_zero, Int.mul_one, Int.sub_zero] at h1
      exact h1
    have hout : ∀ p, 0 ≤ p → p < s.points → rtOf s p ≠ rtOf s j → dv s.readings (fun r => r.weight * (u r.from_ - u r.to_)) p = 0 := fun p p0 p1 hne => by
      rw [← dv_zero s.readings p]
      have hu0 : ∀ q, rtOf s q = rtOf s p → u q = 0 := fun q hq => by
        rw [← hX]
        exact ext_out _ fun hh => hne (hq ▸ ((mem_oneOf hs).1 hh).2.1)
      refine dv_touch fun r hr' htouch => ?_
      have hsame := rt_same hs hr'
      rcases htouch with e | e
      · rw [hu0 r.from_ (by rw [e]), hu0 r.to_ (by rw [← hsame, e])]; simp
      · rw [hu0 r.from_ (by rw [hsame, e]), hu0 r.to_ (by rw [e])]; simp
    have hjj : dv s.readings (fun r => r.weight * (u r.from_ - u r.to_)) j = -D := by
      have h1 : sumN (fun k => dv s.readings (fun r => r.weight * (u r.from_ - u r.to_)) (k : Int) - (if (k : Int) = i then D else 0)) s.points.toNat = dv s.readings (fun r => r.weight * (u r.from_ - u r.to_)) (j.toNat : Int) - (if (j.toNat : Int) = i then D else 0) := by
        refine sumN_but (f := fun k => dv s.readings (fun r => r.weight * (u r.from_ - u r.to_)) (k : Int) - (if (k : Int) = i then D else 0)) (c := j.toNat) (by omega) fun k hk hne => ?_
        by_cases hm : (k : Int) ∈ oneOf s j
        · rw [hin _ hm]; omega
        · have : rtOf s (k : Int) ≠ rtOf s j := fun e => hm ((mem_oneOf hs).2 ⟨by omega, e, by omega⟩)
          rw [hout k (by omega) (by omega) this, if_neg (fun e => this (by rw [e, hr]))]; rfl
      rw [sumN_sub, dv_total hs, sumN_unit D (by omega), show ((j.toNat : Nat) : Int) = j by omega, if_neg (fun e => hij e.symm)] at h1
      omega
    intro p p0 p1
    by_cases e : p = j
    · rw [e, hjj, if_neg (fun e => hij e.symm), if_pos rfl]; omega
    · rw [if_neg e, Int.sub_zero]
      by_cases hm : p ∈ oneOf s j
      · exact hin p hm
      · have : rtOf s p ≠ rtOf s j := fun e' => hm ((mem_oneOf hs).2 ⟨by omega, e', e⟩)
        rw [hout p p0 p1 this, if_neg (fun e => this (by rw [e, hr]))]
  · have h1 : ext (oneOf s j) (Xb (Am s (oneOf s j) (unitB (oneOf s j) i)) (oneOf s j).length (oneOf s j).length) i = Nm (Am s (oneOf s j) (unitB (oneOf s j) i)) (oneOf s j).length k (oneOf s j).length := by
      have := ext_at hF.nd (Xb (Am s (oneOf s j) (unitB (oneOf s j) i)) (oneOf s j).length (oneOf s j).length) hk
      rw [hki] at this
      rw [this]
      unfold Xb
      rw [if_pos hk]
    rw [h1, ext_out _ (fun h => ((mem_oneOf hs).1 h).2.2 rfl)]; omega
end Go.D1

set_option linter.unusedVariables false
set_option linter.unusedSimpArgs false
namespace Go.D1
open Go.Tb
theorem is_int (x : Int) : Is ⟨x, 1⟩ x 1 := ⟨⟨by show (0 : Int) < 1; omega, by show Int.gcd x 1 = 1; simp⟩, rfl⟩
theorem rt_rowI {l : List Int} {c : Nat} (h : c < l.length) : rt (rowI l) c = ⟨gi l c, 1⟩ := by
  unfold rt
  rw [List.getD_eq_getElem?_getD, rowI_at h]; rfl
theorem bal_rg {s : Survey} {pts : List Int} (b : Nat → Int) {j : Nat} (hj : j < pts.length) : rg (balR s pts b) j = rowI ((brow s pts j s.readings.length).set pts.length (b j)) := by
  unfold rg balR
  rw [List.getD_eq_getElem?_getD, List.getElem?_map, List.getElem?_range hj]; rfl
theorem bal_row {s : Survey} {pts : List Int} (b : Nat → Int) {j : Nat} (hj : j < pts.length) : (rg (balR s pts b) j).length = pts.length + 1 ∧ ∀ c, c ≤ pts.length → Is (rt (rg (balR s pts b) j) c) (Am s pts b j c) 1 := by
  rw [bal_rg b hj]
  refine ⟨by unfold rowI; rw [List.length_map, List.length_set, brow_len], fun c hc => ?_⟩
  rw [rt_rowI (by rw [List.length_set, brow_len]; omega), gi_set, brow_len]
  unfold Am
  by_cases e : c < pts.length
  · rw [if_neg (by omega), if_pos e, brow_gi e]; exact is_int _
  · rw [if_pos (by omega), if_neg e]; exact is_int _
theorem bal_solve {s : Survey} (hs : SvOk s) {pts : List Int} (hF : Fr s pts) {b : Nat → Int} {t : Reading → Int} {T0 S c : Int} (hb : Rh s pts b t T0 S c) {f : Int → Option Int} (hf : ∀ i, i < pts.length → f (gi pts i) = some (b i)) :
    ∃ m xs m', level_balance s pts f = some m ∧ level_solve m = some (xs, m') ∧ xs.length = pts.length ∧ ∀ j, j < pts.length → Is (rt xs j) (Nm (Am s pts b) pts.length j pts.length) (Dm (Am s pts b) pts.length) := by
  have hn := hF.n4
  obtain ⟨xs, m', h1, h2, h3⟩ := solve_eq (sol_of hs hF hb) (m := balR s pts b) (by unfold balR; simp) (fun j hj => bal_row b hj)
  exact ⟨_, xs, m', balance_eq hs (by omega) hF.nd hf, h1, h2, h3⟩
theorem cut_filter {j : Int} : ∀ (l : List Int) (c : Nat), l.Nodup → c < l.length → gi l c = j → l.take c ++ l.drop (c + 1) = l.filter (fun k => !decide (k = j))
  | [], c, _, h, _ => by simp at h
  | x :: r, 0, hd, h, e => by
    have e' : x = j := e
    subst e'
    have hn := (List.nodup_cons.1 hd).1
    rw [List.filter_cons, if_neg (by simp)]
    show r = _
    symm
    rw [List.filter_eq_self]
    intro a ha
    have : a ≠ x := fun e => hn (e ▸ ha)
    simp [this]
  | x :: r, c + 1, hd, h, e => by
    have hc := List.nodup_cons.1 hd
    have h' : c < r.length := by simpa using h
    have e' : gi r c = j := by rw [← e]; simp [gi]
    have hm : j ∈ r := e' ▸ gi_mem h'
    have : x ≠ j := fun e2 => hc.1 (e2 ▸ hm)
    rw [List.filter_cons, if_pos (by simp [this]), ← cut_filter r c hc.2 h' e']; rfl
theorem root_in {s : Survey} (hs : SvOk s) {p : Int} (hp : 0 ≤ p ∧ p < s.points) : (0 ≤ rtOf s p ∧ rtOf s p ≤ p) ∧ rtOf s (rtOf s p) = rtOf s p := by
  have hR := rootsOf_ok hs
  have hl := hR.len
  have h1 := hR.le p.toNat (by omega)
  have h2 := hR.con p.toNat (by omega)
  have h3 : 0 ≤ rtOf s p ∧ rtOf s p ≤ p := by unfold rtOf; omega
  rw [show ((p.toNat : Nat) : Int) = p by omega] at h2
  exact ⟨h3, (con_rt hs (by omega) hp).1 h2⟩
theorem part_mem {s : Survey} (hs : SvOk s) {q : Int} {p : Int} : p ∈ partOf (rootsOf s) q ↔ (0 ≤ p ∧ p < s.points) ∧ rtOf s p = q := by
  have hp1 := hs.p1
  have hl := (rootsOf_ok hs).len
  unfold partOf
  rw [mem_nodesOf, hl]
  simp only [decide_eq_true_eq]
  unfold rtOf
  constructor <;> intro h <;> exact ⟨by omega, h.2⟩
theorem parts_mem {s : Survey} (hs : SvOk s) {l : List Int} : l ∈ partsR s ↔ ∃ q, (0 ≤ q ∧ q < s.points) ∧ rtOf s q = q ∧ l = partOf (rootsOf s) q := by
  have hp1 := hs.p1
  unfold partsR partsL
  rw [List.mem_map]
  constructor
  · rintro ⟨q, hq, rfl⟩
    have := mem_nodesOf.1 hq
    exact ⟨q, by omega, of_decide_eq_true this.2, rfl⟩
  · rintro ⟨q, h1, h2, rfl⟩
    exact ⟨q, mem_nodesOf.2 ⟨by omega, decide_eq_true h2⟩, rfl⟩
theorem part_cut {s : Survey} (hs : SvOk s) (j : Int) : (partOf (rootsOf s) (rtOf s j)).filter (fun k => !decide (k = j)) = oneOf s j := by
  have hl := (rootsOf_ok hs).len
  unfold partOf oneOf nodesOf
  rw [List.filter_filter, hl]
  congr 1
  funext k
  exact Bool.and_comm _ _
theorem part_nodup {s : Survey} (q : Int) : (partOf (rootsOf s) q).Nodup := nodesOf_nodup _ _
theorem part_len {s : Survey} (hs : SvOk s) (q : Int) : (partOf (rootsOf s) q).length ≤ 5 := by
  have hl := (rootsOf_ok hs).len
  have hp5 := hs.p5
  have := nodesOf_len (rootsOf s).length fun k => decide (gi (rootsOf s) k.toNat = q)
  show (nodesOf _ _).length ≤ _
  omega
theorem parts_len {s : Survey} (hs : SvOk s) : (partsR s).length ≤ 5 := by
  have := partsL_len (rootsOf s) s.points.toNat
  have hp5 := hs.p5
  show (partsL _ _).length ≤ _
  omega
/-- The program's error of two joined points. -/
theorem resist_eq {s : Survey} (hs : SvOk s) {i j : Int} (hi : 0 ≤ i ∧ i < s.points) (hj : 0 ≤ j ∧ j < s.points) (hr : rtOf s i = rtOf s j) :
    ∃ x N D, level_resist s i j = some x ∧ Is x N D ∧ RS s i j N D ∧ D ≤ 20736 ∧ N.natAbs ≤ 4000 * D.natAbs := by
  unfold level_resist
  by_cases hij : i = j
  · subst hij
    rw [if_pos rfl]
    exact ⟨_, 0, 1, rfl, is_int 0, rs_self s i, by omega, by omega⟩
  · rw [if_neg hij, bnd_eq (parts_eq hs)]
    have hF := fr_one hs hj
    have hb := rh_unit s (oneOf s j) i
    have hm : i ∈ oneOf s j := (mem_oneOf hs).2 ⟨hi, hr, hij⟩
    obtain ⟨k0, hk0, hki⟩ := gi_ex hm
    obtain ⟨m, xs, m', h1, h2, h3, h4⟩ := bal_solve hs hF hb (f := fun x2 => level_resist_1 i x2) (fun k hk => by
      unfold level_resist_1 unitB
      by_cases e : gi (oneOf s j) k = i
      · rw [if_pos e, if_pos e]
      · rw [if_neg e, if_neg e])
    have hRS := un_one hs hi hj hij hr hk0 hki
    have hD20 := (sol_of hs hF hb).D20736
    have hPl := parts_len hs
    refine ⟨rt xs k0, _, _, ?_, h4 k0 hk0, hRS, by omega, (sol_of hs hF hb).Nb _ k0 hk0 (Nat.le_refl _)⟩
    have key : ∀ d k t, (partsR s).length = t + d → d < k → (∃ t', t ≤ t' ∧ ∃ l, (partsR s)[t']? = some l ∧ j ∈ l) → level_resist_L1 s i j (partsR s) k (t : Int) = some (rt xs k0) := by
      intro d
      induction d with
      | zero =>
        intro k t h1 _ ⟨t', h2, l, h3, _⟩
        rw [List.getElem?_eq_none (by omega)] at h3
        cases h3
      | succ d ih =>
        intro k t hl hk ⟨t', ht, l, hl', hjl⟩
        cases k with
        | zero => omega
        | succ k =>
          show level_resist_B1 s i j (partsR s) (level_resist_L1 s i j (partsR s) k) (t : Int) = _
          have hx : (partsR s)[t]? = some (partsR s)[t] := List.getElem?_eq_getElem (by omega)
          generalize (partsR s)[t] = pt at hx
          obtain ⟨q, hq1, hq2, rfl⟩ := (parts_mem hs).1 (List.mem_of_getElem? hx)
          have hlen := part_len hs q
          obtain ⟨c, c1, c2, c3, c4⟩ := index_eq (by omega) (part_nodup (s := s) q) j
          unfold level_resist_B1
          rw [if_pos (by omega), ix_nat hx, bnd_eq c1]
          by_cases hc : 0 ≤ c
          · have hcj := (c4 c.toNat (by omega)).1 (by omega)
            have hjm : j ∈ partOf (rootsOf s) q := hcj ▸ gi_mem (by omega)
            have hqr := ((part_mem hs).1 hjm).2
            have hcut := cut_filter (j := j) _ c.toNat (part_nodup (s := s) q) (by omega) hcj
            have hdel : slices_Delete_int (partOf (rootsOf s) q) c (c + 1) = some (oneOf s j) := by
              unfold slices_Delete_int
              rw [gd_pos (by omega), show (c + 1).toNat = c.toNat + 1 by omega, hcut, ← hqr, part_cut hs]
            obtain ⟨c', d1, d2, d3, d4⟩ := index_eq (show (oneOf s j).length ≤ 1000 by have := hF.n4; omega) hF.nd i
            have hc' := (d4 k0 hk0).2 hki
            rw [if_pos hc, gd_pos (by omega), bnd_eq hdel, bnd_eq h1, bnd_eq h2, bnd_eq d1, hc', ix_nat (rt_at (show k0 < xs.length by omega))]
          · rw [if_neg hc, gd_pos (by omega)]
            refine ih k (t + 1) (by omega) (by omega) ⟨t', ?_, l, hl', hjl⟩
            have : t ≠ t' := fun e => by
              subst e
              rw [hx] at hl'
              cases hl'
              obtain ⟨k1, e1, e2⟩ := gi_ex hjl
              have := (c4 k1 e1).2 e2
              omega
            omega
    refine key (partsR s).length FU 0 (by omega) (by have := FU_pos; omega) ?_
    have hj' := root_in hs hj
    have hin : partOf (rootsOf s) (rtOf s j) ∈ partsR s := (parts_mem hs).2 ⟨rtOf s j, by omega, hj'.2, rfl⟩
    obtain ⟨t', ht', e⟩ := List.getElem_of_mem hin
    exact ⟨t', by omega, _, by rw [List.getElem?_eq_getElem ht', e], (part_mem hs).2 ⟨hj, rfl⟩⟩
theorem sk_inj {q a b : Nat} (h : sk q a = sk q b) : a = b := by
  unfold sk at h
  split at h <;> split at h <;> omega
theorem two_cut {s : Survey} (i j : Int) {k : Nat} (hd : (oneOf s i).Nodup) (hk : k < (oneOf s i).length) (hkj : gi (oneOf s i) k = j) : twoOf s i j = cutC k (oneOf s i) := by
  unfold cutC
  rw [cut_filter _ k hd hk hkj]
  unfold twoOf oneOf nodesOf
  rw [List.filter_filter]
  congr 1
  funext p
  exact Bool.and_comm _ _
theorem rs_ref {s : Survey} (hs : SvOk s) {i j : Int} (hi : 0 ≤ i ∧ i < s.points) (hj : 0 ≤ j ∧ j < s.points) (hij : i ≠ j) (hr : rtOf s i = rtOf s j) :
    RS s i j (detL s (twoOf s i j)) (detL s (oneOf s i)) := by
  have hF := fr_one hs hi
  have hn := hF.n4
  have hm : j ∈ oneOf s i := (mem_oneOf hs).2 ⟨hj, hr.symm, fun e => hij e.symm⟩
  obtain ⟨k, hk, hkj⟩ := gi_ex hm
  have h := rs_symm (un_one hs hj hi (fun e => hij e.symm) hr.symm hk hkj)
  rw [detL_Dm hn (unitB (oneOf s i) j)]
  have hcut := two_cut i j hF.nd hk hkj
  have hlen : (twoOf s i j).length + 1 = (oneOf s i).length := by
    rw [hcut]; unfold cutC
    rw [List.length_append, List.length_take, List.length_drop]; omega
  have e1 : Nm (Am s (oneOf s i) (unitB (oneOf s i) j)) (oneOf s i).length k (oneOf s i).length = detL s (twoOf s i j) := by
    have hu := Nm_unit (a := Am s (oneOf s i) (unitB (oneOf s i) j)) (n := (twoOf s i j).length) (k := k) (by omega) (by omega) (c := (oneOf s i).length) (fun m hm => by
      unfold Am unitB
      rw [if_neg (by omega)]
      by_cases e : m = k
      · subst e; rw [if_pos hkj, if_pos rfl]
      · rw [if_neg e, if_neg fun h => e (gi_inj hF.nd (by omega) hk (h.trans hkj.symm))])
    rw [hlen] at hu
    rw [hu, detL_Dm (by omega) (fun _ => 0)]
    refine Dm_congr (by omega) fun a b ha hb => ?_
    have sa : sk k a < (oneOf s i).length := by unfold sk; split <;> omega
    have sb : sk k b < (oneOf s i).length := by unfold sk; split <;> omega
    unfold Am
    rw [if_pos sb, if_pos hb]
    unfold lent
    rw [hcut, gi_cut, gi_cut]
    congr 1
    by_cases e : a = b
    · subst e; simp
    · rw [decide_eq_false e, decide_eq_false fun h => e (sk_inj h)]
  rw [e1] at h
  exact h
/-- The document's error is the program's. -/
theorem resistance_same {s : Survey} (hs : SvOk s) {i j : Int} (hi : 0 ≤ i ∧ i < s.points) (hj : 0 ≤ j ∧ j < s.points) (hr : rtOf s i = rtOf s j) {x : Rat} {N D : Int} (hx : Is x N D) (hRS : RS s i j N D) : ref01_resistance s i j = some x := by
  have hDp : 0 < D := by obtain ⟨u, hu, _⟩ := hRS; exact hu.pos
  by_cases hij : i = j
  · subst hij
    rw [resistance_eq hs hi (fun h => absurd rfl h), if_pos rfl]
    have := rs_uniq hs (.refl i) hRS (rs_self s i)
    congr 1
    exact Is.uniq (n := 0) (d := 1) (by omega) (is_int 0) ⟨hx.1, by
      have h1 := hx.2
      have : N = 0 := by omega
      subst this
      have : x.num * D = 0 := by rw [h1]; simp
      rcases Int.mul_eq_zero.1 this with h | h
      · rw [h]; simp
      · omega⟩
  · have h2 := rs_ref hs hi hj hij hr
    have hd : 0 < detL s (oneOf s i) := by obtain ⟨u, hu, _⟩ := h2; exact hu.pos
    rw [resistance_eq hs hi (fun _ => by omega), if_neg hij]
    congr 1
    have hc := (con_rt hs hi hj).2 hr
    have hu := rs_uniq hs hc hRS h2
    refine Is.uniq (n := detL s (twoOf s i j)) (d := detL s (oneOf s i)) (by omega) (.red (by omega)) ⟨hx.1, ?_⟩
    have h1 := hx.2
    refine Int.eq_of_mul_eq_mul_right (show D ≠ 0 by omega) ?_
    grind
end Go.D1

set_option linter.unusedVariables false
set_option linter.unusedSimpArgs false
namespace Go.D1
open Go.Tb
def gb (l : List Bool) (i : Nat) : Bool := l.getD i false
abbrev HK := List Int × List Bool
/-- One reading of the tree is gone along, if one of its points alone is known. -/
def go1 (r : Reading) (x : HK) : HK :=
  if gb x.2 r.from_.toNat = true ∧ gb x.2 r.to_.toNat = false then (x.1.set r.to_.toNat (gi x.1 r.from_.toNat + r.rise), x.2.set r.to_.toNat true)
  else if gb x.2 r.to_.toNat = true ∧ gb x.2 r.from_.toNat = false then (x.1.set r.from_.toNat (gi x.1 r.to_.toNat - r.rise), x.2.set r.from_.toNat true)
  else x
structure HB (s : Survey) (B : Int) (x : HK) : Prop where
  l1 : x.1.length = s.points.toNat
  l2 : x.2.length = s.points.toNat
  bd : ∀ i, -B ≤ gi x.1 i ∧ gi x.1 i ≤ B
theorem HB.mono {s : Survey} {B B' : Int} {x : HK} (h : HB s B x) (hb : B ≤ B') : HB s B' x := ⟨h.l1, h.l2, fun i => by have := h.bd i; omega⟩
theorem HB.go {s : Survey} {B : Int} {x : HK} (h : HB s B x) (hB : 0 ≤ B) {r : Reading} (hr : -1000 ≤ r.rise ∧ r.rise ≤ 1000) : HB s (B + 1000) (go1 r x) := by
  have hf := h.bd r.from_.toNat
  have ht := h.bd r.to_.toNat
  unfold go1
  split
  · refine ⟨by simp [h.l1], by simp [h.l2], fun i => ?_⟩
    have := h.bd i
    rw [gi_set]
    split <;> omega
  · split
    · refine ⟨by simp [h.l1], by simp [h.l2], fun i => ?_⟩
      have := h.bd i
      rw [gi_set]
      split <;> omega
    · exact h.mono (by omega)
def op (x : HK) (r : Reading) : Bool := !(gb x.2 r.from_.toNat && gb x.2 r.to_.toNat)
end Go.D1

set_option linter.unusedVariables false
set_option linter.unusedSimpArgs false
namespace Go.D1
open Go.Tb
/-- Where the heights begin. -/
def start (s : Survey) : HK := (List.replicate s.points.toNat 0, (iota s.points.toNat).map (isRoot (rootsOf s)))
end Go.D1

set_option linter.unusedVariables false
set_option linter.unusedSimpArgs false
namespace Go.D1
open Go.Tb
def readingR (s : Survey) (k : Int) : Int := if validate s = 0 then (if within k 0 ((s.readings.length : Int) - 1) = true then 0 else 4) else validate s
theorem reading_eq {s : Survey} (hb : s.readings.length ≤ 1000) (k : Int) : level_reading s k = some (readingR s k) := by
  unfold level_reading readingR
  rw [bnd_eq (Validate_eq s)]
  by_cases hv : validate s = 0
  · rw [if_pos hv, if_pos hv, gd_pos (by omega), bnd_eq (lwithin_eq _ _ _)]
    split <;> rfl
  · rw [if_neg hv, if_neg hv]
theorem numbered_eq {s : Survey} (hb : s.readings.length ≤ 1000) (k : Int) : ref01_numbered s k = some (readingR s k) := by
  unfold ref01_numbered readingR
  rw [bnd_eq (rValidate_eq s)]
  by_cases hv : validate s = 0
  · rw [if_pos hv, if_pos hv, gd_pos (by omega), bnd_eq (rwithin_eq _ _ _)]
    split <;> rfl
  · rw [if_neg hv, if_neg hv]
theorem reading0 {s : Survey} {k : Int} (h : readingR s k = 0) : SvOk s ∧ 0 ≤ k ∧ k < (s.readings.length : Int) := by
  unfold readingR at h
  split at h
  · rename_i hv
    split at h
    · rename_i hw
      have := within_iff.1 hw
      exact ⟨val0.1 hv, by omega, by omega⟩
    · omega
  · rename_i hv; exact absurd h hv
theorem clone_eq {l : List Reading} (h : l.length ≤ 1000) : slices_Clone_Reading l = some l := by
  unfold slices_Clone_Reading
  rw [gd_pos (by simp; omega)]; rfl
def nilS : Survey := ⟨0, []⟩
end Go.D1

set_option linter.unusedVariables false
set_option linter.unusedSimpArgs false
namespace Go.D1
open Go.Tb
def errC (s : Survey) (i j : Int) : Int :=
  if validate s = 0 then (if (0 ≤ i ∧ i < s.points) ∧ (0 ≤ j ∧ j < s.points) then (if rtOf s i = rtOf s j then 0 else 9) else 4) else validate s
theorem errC0 {s : Survey} {i j : Int} (h : errC s i j = 0) : SvOk s ∧ (0 ≤ i ∧ i < s.points) ∧ (0 ≤ j ∧ j < s.points) ∧ rtOf s i = rtOf s j := by
  unfold errC at h
  split at h
  · rename_i hv
    split at h
    · rename_i hp
      split at h
      · rename_i hr; exact ⟨val0.1 hv, hp.1, hp.2, hr⟩
      · omega
    · omega
  · rename_i hv; exact absurd h hv
theorem errC_ok {s : Survey} (hs : SvOk s) {i j : Int} (hi : 0 ≤ i ∧ i < s.points) (hj : 0 ≤ j ∧ j < s.points) (hr : rtOf s i = rtOf s j) : errC s i j = 0 := by
  unfold errC
  rw [if_pos (val0.2 hs), if_pos ⟨hi, hj⟩, if_pos hr]
theorem Error_0 {s : Survey} {i j : Int} (h : errC s i j = 0) :
    ∃ x N D, level_Error s i j = some (x, 0) ∧ ref01_Error s i j = some (x, 0) ∧ Is x N D ∧ RS s i j N D ∧ D ≤ 20736 ∧ N.natAbs ≤ 4000 * D.natAbs := by
  obtain ⟨hs, hi, hj, hr⟩ := errC0 h
  obtain ⟨x, N, D, h1, h2, h3, h4, h5⟩ := resist_eq hs hi hj hr
  have h6 := resistance_same hs hi hj hr h2 h3
  have hp5 := hs.p5
  have hl := (rootsOf_ok hs).len
  have wi : within i 0 (s.points - 1) = true := within_iff.2 (by omega)
  have wj : within j 0 (s.points - 1) = true := within_iff.2 (by omega)
  have xi : (rootsOf s)[i.toNat]? = some (rtOf s i) := gi_at (by omega)
  have xj : (rootsOf s)[j.toNat]? = some (rtOf s j) := gi_at (by omega)
  refine ⟨x, N, D, ?_, ?_, h2, h3, h4, h5⟩
  · unfold level_Error level_Error_k1
    rw [bnd_eq (Validate_eq s), if_pos (val0.2 hs), gd_pos (by omega), bnd_eq (lwithin_eq _ _ _), wi, if_pos rfl, gd_pos (by omega), bnd_eq (lwithin_eq _ _ _), wj, if_neg (by simp), bnd_eq (forest_eq hs)]
    show ix (rootsOf s) i _ = _
    rw [ix_eq hi.1 xi]
    show ix (rootsOf s) j _ = _
    rw [ix_eq hj.1 xj, if_pos hr, bnd_eq h1]
  · unfold ref01_Error ref01_pair ref01_pair_k1
    rw [bnd_eq (rValidate_eq s), if_pos (val0.2 hs), gd_pos (by omega), bnd_eq (rwithin_eq _ _ _), wi, if_pos rfl, gd_pos (by omega), bnd_eq (rwithin_eq _ _ _), wj, if_neg (by simp), bnd_eq (whole_eq hs), ix_eq hi.1 xi, ix_eq hj.1 xj, if_pos hr, bnd_eq rfl, if_pos rfl, bnd_eq h6]
theorem Error_1 {s : Survey} {i j : Int} (h : errC s i j ≠ 0) : level_Error s i j = some (⟨0, 0⟩, errC s i j) ∧ ref01_Error s i j = some (⟨0, 0⟩, errC s i j) := by
  unfold errC at *
  by_cases hv : validate s = 0
  · have hs := val0.1 hv
    have hp5 := hs.p5
    have hp1 := hs.p1
    have hl := (rootsOf_ok hs).len
    rw [if_pos hv] at *
    by_cases wi : within i 0 (s.points - 1) = true
    · have wi' := within_iff.1 wi
      by_cases wj : within j 0 (s.points - 1) = true
      · have wj' := within_iff.1 wj
        have hp : (0 ≤ i ∧ i < s.points) ∧ (0 ≤ j ∧ j < s.points) := by omega
        have xi : (rootsOf s)[i.toNat]? = some (rtOf s i) := gi_at (by omega)
        have xj : (rootsOf s)[j.toNat]? = some (rtOf s j) := gi_at (by omega)
        rw [if_pos hp] at *
        by_cases hr : rtOf s i = rtOf s j
        · rw [if_pos hr] at h; exact absurd rfl h
        · rw [if_neg hr]
          constructor
          · unfold level_Error level_Error_k1
            rw [bnd_eq (Validate_eq s), if_pos hv, gd_pos (by omega), bnd_eq (lwithin_eq _ _ _), wi, if_pos rfl, gd_pos (by omega), bnd_eq (lwithin_eq _ _ _), wj, if_neg (by simp), bnd_eq (forest_eq hs)]
            show ix (rootsOf s) i _ = _
            rw [ix_eq wi'.1 xi]
            show ix (rootsOf s) j _ = _
            rw [ix_eq wj'.1 xj, if_neg hr]
          · unfold ref01_Error ref01_pair ref01_pair_k1
            rw [bnd_eq (rValidate_eq s), if_pos hv, gd_pos (by omega), bnd_eq (rwithin_eq _ _ _), wi, if_pos rfl, gd_pos (by omega), bnd_eq (rwithin_eq _ _ _), wj, if_neg (by simp), bnd_eq (whole_eq hs), ix_eq wi'.1 xi, ix_eq wj'.1 xj, if_neg hr]; rfl
      · have hp : ¬ ((0 ≤ i ∧ i < s.points) ∧ (0 ≤ j ∧ j < s.points)) := fun hp => wj (within_iff.2 (by omega))
        rw [if_neg hp]
        constructor
        · unfold level_Error level_Error_k1
          rw [bnd_eq (Validate_eq s), if_pos hv, gd_pos (by omega), bnd_eq (lwithin_eq _ _ _), wi, if_pos rfl, gd_pos (by omega), bnd_eq (lwithin_eq _ _ _), if_pos (by simpa using wj)]
        · unfold ref01_Error ref01_pair ref01_pair_k1
          rw [bnd_eq (rValidate_eq s), if_pos hv, gd_pos (by omega), bnd_eq (rwithin_eq _ _ _), wi, if_pos rfl, gd_pos (by omega), bnd_eq (rwithin_eq _ _ _), if_pos (by simpa using wj)]; rfl
    · have hp : ¬ ((0 ≤ i ∧ i < s.points) ∧ (0 ≤ j ∧ j < s.points)) := fun hp => wi (within_iff.2 (by omega))
      rw [if_neg hp]
      constructor
      · unfold level_Error level_Error_k1
        rw [bnd_eq (Validate_eq s), if_pos hv, gd_pos (by omega), bnd_eq (lwithin_eq _ _ _), if_neg wi, if_pos rfl]
      · unfold ref01_Error ref01_pair ref01_pair_k1
        rw [bnd_eq (rValidate_eq s), if_pos hv, gd_pos (by omega), bnd_eq (rwithin_eq _ _ _), if_neg wi, if_pos rfl]; rfl
  · rw [if_neg hv] at *
    constructor
    · unfold level_Error
      rw [bnd_eq (Validate_eq s), if_neg hv]
    · unfold ref01_Error ref01_pair
      rw [bnd_eq (rValidate_eq s), if_neg hv, bnd_eq rfl, if_neg hv]
theorem un_sum {s : Survey} (hs : SvOk s) {i j D : Int} {u : Int → Int} (hi : 0 ≤ i ∧ i < s.points) (hj : 0 ≤ j ∧ j < s.points) (h : Un s i j u D) (g : Int → Int) :
    rs s.readings (fun r => (g r.from_ - g r.to_) * (r.weight * (u r.from_ - u r.to_))) = D * (g i - g j) := by
  have hp1 := hs.p1
  rw [← green s.readings g (fun r => r.weight * (u r.from_ - u r.to_)) s.points.toNat (sv_in hs)]
  have e : sumN (fun k => g (k : Int) * dv s.readings (fun r => r.weight * (u r.from_ - u r.to_)) (k : Int)) s.points.toNat = sumN (fun k => g (k : Int) * (if i = (k : Int) then D else 0) - g (k : Int) * (if j = (k : Int) then D else 0)) s.points.toNat := by
    refine sumN_congr fun k hk => ?_
    rw [h.dv (k : Int) (by omega) (by omega), Int.mul_sub]
    congr 2
    · by_cases e : i = (k : Int)
      · rw [if_pos e, if_pos e.symm]
      · rw [if_neg e, if_neg fun h => e h.symm]
    · by_cases e : j = (k : Int)
      · rw [if_pos e, if_pos e.symm]
      · rw [if_neg e, if_neg fun h => e h.symm]
  rw [e, sumN_sub, sumN_pick (fun k => g (k : Int)) D i _ (by omega), sumN_pick (fun k => g (k : Int)) D j _ (by omega), show ((i.toNat : Nat) : Int) = i by omega, show ((j.toNat : Nat) : Int) = j by omega]
  grind
theorem inr_mul {x y : Int} {A B : Nat} (hx : x.natAbs ≤ A) (hy : y.natAbs ≤ B) (h : A * B ≤ 9223372036854775807) : (x * y).natAbs ≤ A * B ∧ InR (x * y) := by
  have : (x * y).natAbs ≤ A * B := by rw [Int.natAbs_mul]; exact Nat.mul_le_mul hx hy
  exact ⟨this, by omega⟩
end Go.D1
