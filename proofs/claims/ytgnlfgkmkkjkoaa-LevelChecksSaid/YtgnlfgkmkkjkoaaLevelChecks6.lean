/- Lemmas and walks that the proof of this claim uses: D1p8, D1q1, D1q2, D1q3, D1p9, D1pA, D1pB, D1q5, D1q6, D1q7, D1q8, D1q9, D1p4, D1p5, D1p6, D1r2, D1r4, D1r5, D1r6, D1r8. -/
import Derived.Test.YtgnlfgkmkkjkoaaLevelChecks5
set_option linter.unusedVariables false
set_option linter.unusedSimpArgs false
namespace Go.D1
open Go.Tb
/-- Numbers whose negative is a number, too. -/
def Sm (x : Int) : Prop := -9223372036854775807 ≤ x ∧ x ≤ 9223372036854775807
theorem Sm.inR {x : Int} (h : Sm x) : InR x := by unfold Sm at h; omega
theorem Sm.neg {x : Int} (h : Sm x) : Sm (-x) := by unfold Sm at *; omega
theorem sm_abs {x : Int} : Sm x ↔ x.natAbs ≤ 9223372036854775807 := by unfold Sm; omega
theorem gcd_tmod (a b : Int) : Int.gcd b (Int.tmod a b) = Int.gcd a b := by
  unfold Int.gcd
  rw [Int.natAbs_tmod, Nat.gcd_comm, ← Nat.gcd_rec, Nat.gcd_comm]
theorem sm_tmod {a b : Int} (h : Sm a) : Sm (Int.tmod a b) := by
  rw [sm_abs] at h ⊢
  rw [Int.natAbs_tmod]
  exact Nat.le_trans (Nat.mod_le _ _) h
/-- n / d in lowest terms. -/
def red (n d : Int) : Rat := if d < 0 then ⟨Int.tdiv n (-(Int.gcd n d : Int)), Int.tdiv d (-(Int.gcd n d : Int))⟩ else ⟨Int.tdiv n (Int.gcd n d : Int), Int.tdiv d (Int.gcd n d : Int)⟩
theorem gcd_pos_ {n d : Int} (hd : d ≠ 0) : 0 < Int.gcd n d := Int.gcd_pos_of_ne_zero_right n hd
theorem red_parts {n d : Int} (hd : d ≠ 0) : ∃ g : Int, g ≠ 0 ∧ g.natAbs = Int.gcd n d ∧ (g < 0 ↔ d < 0) ∧ n = (red n d).num * g ∧ d = (red n d).den * g := by
  have hg := gcd_pos_ (n := n) hd
  have h1 : (Int.gcd n d : Int) ∣ n := Int.gcd_dvd_left ..
  have h2 : (Int.gcd n d : Int) ∣ d := Int.gcd_dvd_right ..
  unfold red
  by_cases hlt : d < 0
  · rw [if_pos hlt]
    refine ⟨-(Int.gcd n d : Int), by omega, by omega, by omega, ?_, ?_⟩
    · exact (Int.tdiv_mul_cancel (Int.neg_dvd.2 h1)).symm
    · exact (Int.tdiv_mul_cancel (Int.neg_dvd.2 h2)).symm
  · rw [if_neg hlt]
    refine ⟨(Int.gcd n d : Int), by omega, by omega, by omega, ?_, ?_⟩
    · exact (Int.tdiv_mul_cancel h1).symm
    · exact (Int.tdiv_mul_cancel h2).symm
/-- In lowest terms. -/
structure Low (x : Rat) : Prop where
  pos : 0 < x.den
  cop : Int.gcd x.num x.den = 1
theorem red_low {n d : Int} (hd : d ≠ 0) : Low (red n d) ∧ (red n d).num * d = n * (red n d).den := by
  obtain ⟨g, g0, g1, g2, g3, g4⟩ := red_parts (n := n) hd
  generalize red n d = x at *
  refine ⟨⟨?_, ?_⟩, ?_⟩
  · rcases Int.lt_trichotomy x.den 0 with h | h | h
    · exfalso
      by_cases hg : g < 0
      · have := Int.mul_pos_of_neg_of_neg h hg
        have := g2.1 hg
        omega
      · have := Int.mul_neg_of_neg_of_pos h (show 0 < g by omega)
        exact hg (g2.2 (by omega))
    · exfalso; rw [h, Int.zero_mul] at g4; exact hd g4
    · exact h
  · have h := g1
    rw [g3, g4, Int.gcd_mul_right] at h
    have hp : 0 < g.natAbs := by omega
    exact (Nat.eq_of_mul_eq_mul_right hp (by rw [Nat.one_mul]; exact h)).symm
  · calc x.num * d = x.num * (x.den * g) := by rw [← g4]
      _ = x.num * g * x.den := by rw [Int.mul_assoc, Int.mul_comm x.den g]
      _ = n * x.den := by rw [← g3]
theorem red_sm {n d : Int} (hd : d ≠ 0) (hn : Sm n) (hd' : Sm d) : Sm (red n d).num ∧ Sm (red n d).den := by
  obtain ⟨g, g0, g1, g2, g3, g4⟩ := red_parts (n := n) hd
  rw [sm_abs] at hn hd'
  rw [sm_abs, sm_abs]
  have hp : 1 ≤ g.natAbs := by omega
  have e1 : n.natAbs = (red n d).num.natAbs * g.natAbs := by rw [← Int.natAbs_mul, ← g3]
  have e2 : d.natAbs = (red n d).den.natAbs * g.natAbs := by rw [← Int.natAbs_mul, ← g4]
  have := Nat.le_mul_of_pos_right (red n d).num.natAbs hp
  have := Nat.le_mul_of_pos_right (red n d).den.natAbs hp
  omega
theorem cop_dvd {a b c : Int} (h : Int.gcd b a = 1) (hd : a ∣ b * c) : a ∣ c := by
  rw [← Int.natAbs_dvd_natAbs] at hd ⊢
  rw [Int.natAbs_mul] at hd
  have hc : Nat.gcd a.natAbs b.natAbs = 1 := by rw [Nat.gcd_comm]; exact h
  exact Nat.Coprime.dvd_of_dvd_mul_left hc hd
/-- Two fractions in lowest terms with the same value are the same. -/
theorem low_eq {x y : Rat} (hx : Low x) (hy : Low y) (h : x.num * y.den = y.num * x.den) : x = y := by
  have h1 : x.den ∣ y.den := by
    have : x.den ∣ x.num * y.den := by rw [h]; exact Int.dvd_mul_left ..
    exact cop_dvd hx.cop this
  have h2 : y.den ∣ x.den := by
    have : y.den ∣ y.num * x.den := by rw [← h]; exact Int.dvd_mul_left ..
    exact cop_dvd hy.cop this
  have hd : x.den = y.den := Int.le_antisymm (Int.le_of_dvd hy.pos h1) (Int.le_of_dvd hx.pos h2)
  have hn : x.num = y.num := by
    rw [hd] at h
    exact Int.eq_of_mul_eq_mul_right (by have := hy.pos; omega) h
  cases x; cases y
  simp only at hd hn
  rw [hd, hn]
/-- x is n / d. -/
def Is (x : Rat) (n d : Int) : Prop := Low x ∧ x.num * d = n * x.den
theorem Is.red {n d : Int} (hd : d ≠ 0) : Is (red n d) n d := red_low hd
theorem Is.uniq {x y : Rat} {n d : Int} (hd : d ≠ 0) (hx : Is x n d) (hy : Is y n d) : x = y := by
  refine low_eq hx.1 hy.1 ?_
  have h1 := hx.2
  have h2 := hy.2
  have : (x.num * y.den - y.num * x.den) * d = 0 := by grind
  rcases Int.mul_eq_zero.1 this with h | h
  · omega
  · exact absurd h hd
theorem Low.den_ne {x : Rat} (h : Low x) : x.den ≠ 0 := by have := h.pos; omega
theorem Is.parts {x : Rat} {n d : Int} (h : Is x n d) (hd : d ≠ 0) : ∃ q : Int, q ≠ 0 ∧ n = x.num * q ∧ d = x.den * q := by
  have h1 : x.den ∣ d := cop_dvd h.1.cop (by rw [h.2]; exact Int.dvd_mul_left ..)
  obtain ⟨q, hq⟩ := h1
  refine ⟨q, fun e => hd (by rw [hq, e, Int.mul_zero]), ?_, hq⟩
  have h2 := h.2
  rw [hq] at h2
  have h3 : x.den * (x.num * q) = x.den * n := by grind
  exact (Int.eq_of_mul_eq_mul_left h.1.den_ne h3).symm
theorem Is.le {x : Rat} {n d : Int} (h : Is x n d) (hd : d ≠ 0) : x.num.natAbs ≤ n.natAbs ∧ x.den.natAbs ≤ d.natAbs := by
  obtain ⟨q, q0, q1, q2⟩ := h.parts hd
  have hp : 1 ≤ q.natAbs := by omega
  rw [q1, q2, Int.natAbs_mul, Int.natAbs_mul]
  exact ⟨Nat.le_mul_of_pos_right _ hp, Nat.le_mul_of_pos_right _ hp⟩
theorem Is.red_eq {x : Rat} {n d : Int} (h : Is x n d) (hd : d ≠ 0) : x = D1.red n d := h.uniq hd (.red hd)
theorem Ratio_loop {n d : Int} (hd : d ≠ 0) (hn : Sm n) (hd' : Sm d) : ∀ (q k : Nat) (a b : Int), b.natAbs ≤ q → q < k → Sm a → Sm b → Int.gcd a b = Int.gcd n d → ref01_Ratio_L1 n d k a b = some (D1.red n d)
  | q, k + 1, a, b, hq, hk, ha, hb, hg => by
    have hg0 := gcd_pos_ (n := n) hd
    show ref01_Ratio_B1 n d (ref01_Ratio_L1 n d k) a b = _
    unfold ref01_Ratio_B1 ref01_Ratio_k2 ref01_Ratio_k1
    by_cases h0 : b = 0
    · subst h0
      rw [Int.gcd_zero_right] at hg
      have ⟨s1, s2⟩ := red_sm hd hn hd'
      rw [if_pos rfl]
      unfold D1.red at s1 s2 ⊢
      by_cases hlt : d < 0
      · rw [if_pos hlt] at s1 s2 ⊢
        by_cases ha0 : a < 0
        · have e : -(Int.gcd n d : Int) = a := by omega
          rw [e] at s1 s2 ⊢
          rw [if_pos (by simp [hlt, ha0]), gd_pos ⟨by omega, s1.inR⟩, gd_pos ⟨by omega, s2.inR⟩]
        · have e : -(Int.gcd n d : Int) = -a := by omega
          rw [e] at s1 s2 ⊢
          rw [if_neg (by simp [hlt, ha0]), gd_pos ha.neg.inR, gd_pos ⟨by omega, s1.inR⟩, gd_pos ⟨by omega, s2.inR⟩]
      · rw [if_neg hlt] at s1 s2 ⊢
        by_cases ha0 : a < 0
        · have e : (Int.gcd n d : Int) = -a := by omega
          rw [e] at s1 s2 ⊢
          rw [if_neg (by simp [hlt, ha0]), gd_pos ha.neg.inR, gd_pos ⟨by omega, s1.inR⟩, gd_pos ⟨by omega, s2.inR⟩]
        · have e : (Int.gcd n d : Int) = a := by omega
          rw [e] at s1 s2 ⊢
          rw [if_pos (by simp [hlt, ha0]), gd_pos ⟨by omega, s1.inR⟩, gd_pos ⟨by omega, s2.inR⟩]
    · have hlt : (Int.tmod a b).natAbs < b.natAbs := by
        rw [Int.natAbs_tmod]
        exact Nat.mod_lt _ (by omega)
      rw [if_neg h0, gd_pos ⟨h0, (sm_tmod ha).inR⟩]
      cases q with
      | zero => omega
      | succ q => exact Ratio_loop hd hn hd' q k b (Int.tmod a b) (by omega) (by omega) hb (sm_tmod ha) ((gcd_tmod a b).trans hg)
theorem Ratio_eq {n d : Int} (hd : d ≠ 0) (hn : Sm n) (hd' : Sm d) : ref01_Ratio n d = some (D1.red n d) :=
  Ratio_loop hd hn hd' d.natAbs FU n d (Nat.le_refl _) (by have := FU_pos; have := sm_abs.1 hd'; omega) hn hd' rfl
end Go.D1

set_option linter.unusedVariables false
set_option linter.unusedSimpArgs false
namespace Go.D1
open Go.Tb
abbrev Mt := Nat → Nat → Int
def e2 (a : Mt) (c0 c1 : Nat) : Int := a 0 c0 * a 1 c1 - a 0 c1 * a 1 c0
def e3 (a : Mt) (c0 c1 c2 : Nat) : Int := a 0 c0 * (a 1 c1 * a 2 c2 - a 1 c2 * a 2 c1) - a 0 c1 * (a 1 c0 * a 2 c2 - a 1 c2 * a 2 c0) + a 0 c2 * (a 1 c0 * a 2 c1 - a 1 c1 * a 2 c0)
def f3 (a : Mt) (c0 c1 c2 : Nat) : Int := a 1 c0 * (a 2 c1 * a 3 c2 - a 2 c2 * a 3 c1) - a 1 c1 * (a 2 c0 * a 3 c2 - a 2 c2 * a 3 c0) + a 1 c2 * (a 2 c0 * a 3 c1 - a 2 c1 * a 3 c0)
def e4 (a : Mt) (c0 c1 c2 c3 : Nat) : Int := a 0 c0 * f3 a c1 c2 c3 - a 0 c1 * f3 a c0 c2 c3 + a 0 c2 * f3 a c0 c1 c3 - a 0 c3 * f3 a c0 c1 c2
/-- The determinant of the first i rows and columns. -/
def Dm (a : Mt) : Nat → Int
  | 0 => 1
  | 1 => a 0 0
  | 2 => e2 a 0 1
  | 3 => e3 a 0 1 2
  | 4 => e4 a 0 1 2 3
  | _ => 0
/-- The same with column c in place of column k. -/
def Nm (a : Mt) : Nat → Nat → Nat → Int
  | 1, 0, c => a 0 c
  | 2, 0, c => e2 a c 1
  | 2, 1, c => e2 a 0 c
  | 3, 0, c => e3 a c 1 2
  | 3, 1, c => e3 a 0 c 2
  | 3, 2, c => e3 a 0 1 c
  | 4, 0, c => e4 a c 1 2 3
  | 4, 1, c => e4 a 0 c 2 3
  | 4, 2, c => e4 a 0 1 c 3
  | 4, 3, c => e4 a 0 1 2 c
  | _, _, _ => 0
def sumN (f : Nat → Int) : Nat → Int
  | 0 => 0
  | k + 1 => sumN f k + f k
/-- What is left of row j at column c, times the determinant. -/
def mn (a : Mt) (i j c : Nat) : Int := Dm a i * a j c - sumN (fun k => a j k * Nm a i k c) i
theorem Dm_succ (a : Mt) {i : Nat} (h : i < 4) : Dm a (i + 1) = mn a i i i := by
  match i, h with
  | 0, _ => simp [mn, Dm, sumN]
  | 1, _ => simp only [mn, Dm, sumN, Nm, e2]; grind
  | 2, _ => simp only [mn, Dm, sumN, Nm, e2, e3]; grind
  | 3, _ => simp only [mn, Dm, sumN, Nm, e3, e4, f3]; grind
theorem Nm_last (a : Mt) {i : Nat} (h : i < 4) (c : Nat) : Nm a (i + 1) i c = mn a i i c := by
  match i, h with
  | 0, _ => simp [mn, Dm, sumN, Nm]
  | 1, _ => simp only [mn, Dm, sumN, Nm, e2]; grind
  | 2, _ => simp only [mn, Dm, sumN, Nm, e2, e3]; grind
  | 3, _ => simp only [mn, Dm, sumN, Nm, e3, e4, f3]; grind
/-- Cramer's rule. -/
theorem cramer (a : Mt) {i j : Nat} (h : i ≤ 4) (hj : j < i) (c : Nat) : mn a i j c = 0 := by
  match i, j, h, hj with
  | 1, 0, _, _ => simp only [mn, Dm, sumN, Nm]; grind
  | 2, 0, _, _ => simp only [mn, Dm, sumN, Nm, e2]; grind
  | 2, 1, _, _ => simp only [mn, Dm, sumN, Nm, e2]; grind
  | 3, 0, _, _ => simp only [mn, Dm, sumN, Nm, e3]; grind
  | 3, 1, _, _ => simp only [mn, Dm, sumN, Nm, e3]; grind
  | 3, 2, _, _ => simp only [mn, Dm, sumN, Nm, e3]; grind
  | 4, 0, _, _ => simp only [mn, Dm, sumN, Nm, e4, f3]; grind
  | 4, 1, _, _ => simp only [mn, Dm, sumN, Nm, e4, f3]; grind
  | 4, 2, _, _ => simp only [mn, Dm, sumN, Nm, e4, f3]; grind
  | 4, 3, _, _ => simp only [mn, Dm, sumN, Nm, e4, f3]; grind
theorem sumN_congr {f g : Nat → Int} {n : Nat} (h : ∀ k, k < n → f k = g k) : sumN f n = sumN g n := by
  induction n with
  | zero => rfl
  | succ n ih => simp only [sumN]; rw [ih fun k hk => h k (by omega), h n (by omega)]
theorem sumN_mul (f : Nat → Int) (c : Int) (n : Nat) : sumN f n * c = sumN (fun k => f k * c) n := by
  induction n with
  | zero => simp [sumN]
  | succ n ih => simp only [sumN]; rw [Int.add_mul, ih]
theorem sumN_sub (f g : Nat → Int) (n : Nat) : sumN (fun k => f k - g k) n = sumN f n - sumN g n := by
  induction n with
  | zero => simp [sumN]
  | succ n ih => simp only [sumN]; rw [ih]; omega
theorem sumN_add (f g : Nat → Int) (n : Nat) : sumN (fun k => f k + g k) n = sumN f n + sumN g n := by
  induction n with
  | zero => simp [sumN]
  | succ n ih => simp only [sumN]; rw [ih]; omega
def Ev (a : Mt) (i j c : Nat) : Int := if j < i then (if j + 1 = i then Nm a i j c else Dm a (j + 1) * Nm a i j c) else mn a i j c
def Fv (a : Mt) (i j : Nat) : Int := if j < i then (if j + 1 = i then Dm a j else Dm a j * Dm a i) else Dm a i
end Go.D1

set_option linter.unusedVariables false
set_option linter.unusedSimpArgs false
namespace Go.D1
open Go.Tb
/-- A table whose elimination is small. -/
structure Sol (n : Nat) (a : Mt) (d : Nat → Nat) : Prop where
  n4 : n ≤ 4
  pos : ∀ i, i ≤ n → 0 < Dm a i
  le : ∀ i, i < n → (Dm a (i + 1)).natAbs ≤ d i * (Dm a i).natAbs
  d1 : ∀ i, i < n → 1 ≤ d i ∧ d i ≤ 24
  sum : n = 4 → d 0 + d 1 + d 2 + d 3 ≤ 48
  N1 : ∀ i k c, k < i → i ≤ c → c < n → (Nm a i k c).natAbs ≤ (Dm a i).natAbs
  Nb : ∀ i k, k < i → i ≤ n → (Nm a i k n).natAbs ≤ 4000 * (Dm a i).natAbs
  M1 : ∀ i j c, i ≤ j → i ≤ c → j < n → c < n → (mn a i j c).natAbs ≤ d j * (Dm a i).natAbs
  Mb : ∀ i j, i ≤ j → j < n → (mn a i j n).natAbs ≤ 4000 * d j * (Dm a i).natAbs
/-- The guards of one step. -/
structure Gd (P Pi Mi Q D' Di : Int) : Prop where
  s : (P.natAbs * (Q.natAbs * D'.natAbs)) + (Pi.natAbs * Mi.natAbs) * Q.natAbs ≤ 9223372036854775807
  q : Q.natAbs * (Q.natAbs * D'.natAbs) ≤ 9223372036854775807
  f : Pi.natAbs * Di.natAbs ≤ 9223372036854775807
theorem na_mul {a b : Int} {A B : Nat} (ha : a.natAbs ≤ A) (hb : b.natAbs ≤ B) : (a * b).natAbs ≤ A * B := by rw [Int.natAbs_mul]; exact Nat.mul_le_mul ha hb
theorem big4 {d0 d1 d2 d3 : Nat} (h0 : 1 ≤ d0 ∧ d0 ≤ 24) (h1 : 1 ≤ d1 ∧ d1 ≤ 24) (h2 : 1 ≤ d2 ∧ d2 ≤ 24) (h : d0 + d1 + d2 + d3 ≤ 48) : d0 ^ 5 * d1 ^ 4 * d2 ^ 3 * d3 ≤ 600000000000000 := by
  have key : ∀ x, x < 25 → ∀ y, y < 25 → ∀ z, z < 25 → x ^ 5 * y ^ 4 * z ^ 3 * (48 - x - y - z) ≤ 600000000000000 := by decide +kernel
  exact Nat.le_trans (Nat.mul_le_mul_left _ (show d3 ≤ 48 - d0 - d1 - d2 by omega)) (key d0 (by omega) d1 (by omega) d2 (by omega))
theorem prod4 {d0 d1 d2 d3 : Nat} (h0 : 1 ≤ d0 ∧ d0 ≤ 24) (h1 : 1 ≤ d1 ∧ d1 ≤ 24) (h2 : 1 ≤ d2 ∧ d2 ≤ 24) (h : d0 + d1 + d2 + d3 ≤ 48) : d0 * d1 * d2 * d3 ≤ 20736 := by
  have key : ∀ x, x < 25 → ∀ y, y < 25 → ∀ z, z < 25 → x * y * z * (48 - x - y - z) ≤ 20736 := by decide +kernel
  exact Nat.le_trans (Nat.mul_le_mul_left _ (show d3 ≤ 48 - d0 - d1 - d2 by omega)) (key d0 (by omega) d1 (by omega) d2 (by omega))
variable {n : Nat} {a : Mt} {d : Nat → Nat}
theorem Sol.Dp (h : Sol n a d) : (Dm a 0).natAbs = 1 ∧ (1 ≤ n → (Dm a 1).natAbs ≤ d 0) ∧ (2 ≤ n → (Dm a 2).natAbs ≤ d 0 * d 1) ∧ (3 ≤ n → (Dm a 3).natAbs ≤ d 0 * d 1 * d 2) ∧ (4 ≤ n → (Dm a 4).natAbs ≤ d 0 * d 1 * d 2 * d 3) := by
  have z : (Dm a 0).natAbs = 1 := rfl
  have s1 : 1 ≤ n → (Dm a 1).natAbs ≤ d 0 := fun hn => by have := h.le 0 (by omega); rw [z, Nat.mul_one] at this; exact this
  have s2 : 2 ≤ n → (Dm a 2).natAbs ≤ d 0 * d 1 := fun hn => by
    rw [Nat.mul_comm]; exact Nat.le_trans (h.le 1 (by omega)) (Nat.mul_le_mul_left _ (s1 (by omega)))
  have s3 : 3 ≤ n → (Dm a 3).natAbs ≤ d 0 * d 1 * d 2 := fun hn => by
    rw [Nat.mul_comm]; exact Nat.le_trans (h.le 2 (by omega)) (Nat.mul_le_mul_left _ (s2 (by omega)))
  have s4 : 4 ≤ n → (Dm a 4).natAbs ≤ d 0 * d 1 * d 2 * d 3 := fun hn => by
    rw [Nat.mul_comm]; exact Nat.le_trans (h.le 3 (by omega)) (Nat.mul_le_mul_left _ (s3 (by omega)))
  exact ⟨z, s1, s2, s3, s4⟩
theorem Sol.Dc (h : Sol n a d) {i : Nat} (hi : i ≤ n) : (Dm a i).natAbs ≤ 24 ^ i := by
  induction i with
  | zero => exact Nat.le_refl 1
  | succ i ih =>
    rw [Nat.pow_succ, Nat.mul_comm]
    exact Nat.le_trans (h.le i (by omega)) (Nat.mul_le_mul (h.d1 i (by omega)).2 (ih (by omega)))
theorem Sol.D20736 (h : Sol n a d) : (Dm a n).natAbs ≤ 20736 := by
  have hn := h.n4
  by_cases h4 : n = 4
  · subst h4
    exact Nat.le_trans (h.Dp.2.2.2.2 (by omega)) (prod4 (h.d1 0 (by omega)) (h.d1 1 (by omega)) (h.d1 2 (by omega)) (h.sum rfl))
  · refine Nat.le_trans (h.Dc (Nat.le_refl _)) ?_
    have : ∀ m, m < 4 → 24 ^ m ≤ 20736 := by decide
    exact this n (by omega)
/-- Any column but the one at hand. -/
theorem Sol.N4 (h : Sol n a d) {i k c : Nat} (hk : k < i) (hi : i ≤ c) (hc : c ≤ n) : (Nm a i k c).natAbs ≤ 4000 * (Dm a i).natAbs := by
  by_cases hc2 : c = n
  · subst hc2; exact h.Nb i k hk hi
  · have := h.N1 i k c hk hi (by omega)
    omega
theorem Sol.M4 (h : Sol n a d) {i j c : Nat} (hj : i ≤ j) (hjn : j < n) (hi : i ≤ c) (hc : c ≤ n) : (mn a i j c).natAbs ≤ 4000 * d j * (Dm a i).natAbs := by
  by_cases hc2 : c = n
  · subst hc2; exact h.Mb i j hj hjn
  · have := h.M1 i j c hj hi hjn (by omega)
    have e : 4000 * d j * (Dm a i).natAbs = 4000 * (d j * (Dm a i).natAbs) := Nat.mul_assoc ..
    omega
theorem gd_of {P Pi Mi Q D' Di : Int} {p pi mi q d' di : Nat} (hP : P.natAbs ≤ p) (hPi : Pi.natAbs ≤ pi) (hMi : Mi.natAbs ≤ mi) (hQ : Q.natAbs ≤ q) (hD' : D'.natAbs ≤ d') (hDi : Di.natAbs ≤ di)
    (h1 : p * (q * d') + (pi * mi) * q ≤ 9223372036854775807) (h2 : q * (q * d') ≤ 9223372036854775807) (h3 : pi * di ≤ 9223372036854775807) : Gd P Pi Mi Q D' Di :=
  ⟨Nat.le_trans (Nat.add_le_add (Nat.mul_le_mul hP (Nat.mul_le_mul hQ hD')) (Nat.mul_le_mul (Nat.mul_le_mul hPi hMi) hQ)) h1,
   Nat.le_trans (Nat.mul_le_mul hQ (Nat.mul_le_mul hQ hD')) h2, Nat.le_trans (Nat.mul_le_mul hPi hDi) h3⟩
theorem Sol.gd (h : Sol n a d) {i j c : Nat} (hi : i < n) (hj : j < n) (hji : j ≠ i) (hc : i ≤ c ∧ c ≤ n) : Gd (Ev a i j c) (Ev a i j i) (mn a i i c) (Fv a i j) (Dm a (i + 1)) (Dm a i) := by
  have hn := h.n4
  have hdi := h.d1 i hi
  have hdj := h.d1 j hj
  have cD := h.Dc (i := i) (by omega)
  have cD' := h.Dc (i := i + 1) (by omega)
  have cDj := h.Dc (i := j) (by omega)
  have hmi : (mn a i i c).natAbs ≤ 4000 * 24 * 24 ^ i := Nat.le_trans (h.M4 (Nat.le_refl _) hi hc.1 hc.2) (Nat.mul_le_mul (Nat.mul_le_mul_left _ hdi.2) cD)
  by_cases h1 : j < i
  · by_cases h2 : j + 1 = i
    · subst h2
      have eE : ∀ c, Ev a (j + 1) j c = mn a j j c := fun c => by simp [Ev, Nm_last a (show j < 4 by omega)]
      have eF : Fv a (j + 1) j = Dm a j := by simp [Fv]
      rw [eE, eE, eF]
      refine gd_of (Nat.le_trans (h.M4 (Nat.le_refl _) hj (by omega) hc.2) (Nat.mul_le_mul (Nat.mul_le_mul_left _ hdj.2) cDj)) (Nat.le_trans (h.M1 j j (j + 1) (by omega) (by omega) hj hi) (Nat.mul_le_mul hdj.2 cDj)) hmi cDj cD' cD ?_ ?_ ?_
      · have : ∀ j, j < 3 → 4000 * 24 * 24 ^ j * (24 ^ j * 24 ^ (j + 1 + 1)) + 24 * 24 ^ j * (4000 * 24 * 24 ^ (j + 1)) * 24 ^ j ≤ 9223372036854775807 := by decide
        exact this j (by omega)
      · have : ∀ j, j < 3 → 24 ^ j * (24 ^ j * 24 ^ (j + 1 + 1)) ≤ 9223372036854775807 := by decide
        exact this j (by omega)
      · have : ∀ j, j < 3 → 24 * 24 ^ j * 24 ^ (j + 1) ≤ 9223372036854775807 := by decide
        exact this j (by omega)
    · have eE : ∀ c, Ev a i j c = Dm a (j + 1) * Nm a i j c := fun c => by simp [Ev, h1, h2]
      have eF : Fv a i j = Dm a j * Dm a i := by simp [Fv, h1, h2]
      rw [eE, eE, eF]
      have cDs := h.Dc (i := j + 1) (by omega)
      have bN := h.N4 h1 hc.1 hc.2
      have bN1 := h.N1 i j i h1 (Nat.le_refl _) hi
      by_cases h3 : i = 3
      · subst h3
        have hn4 : n = 4 := by omega
        subst hn4
        obtain ⟨z0, z1, z2, z3, z4⟩ := h.Dp
        replace z1 := z1 (by omega); replace z2 := z2 (by omega); replace z3 := z3 (by omega); replace z4 := z4 (by omega)
        have g0 := h.d1 0 (by omega)
        have g1 := h.d1 1 (by omega)
        have g2 := h.d1 2 (by omega)
        have g3 := h.d1 3 (by omega)
        have hb := big4 g0 g1 g2 (h.sum rfl)
        have hM : (mn a 3 3 c).natAbs ≤ 4000 * d 3 * (d 0 * d 1 * d 2) := Nat.le_trans (h.M4 (Nat.le_refl _) (by omega) hc.1 hc.2) (Nat.mul_le_mul_left _ z3)
        have u1 : 1 ≤ d 0 * d 1 * d 2 * d 3 := Nat.mul_pos (Nat.mul_pos (Nat.mul_pos g0.1 g1.1) g2.1) g3.1
        have hX : d 0 ^ 4 * d 1 ^ 3 * d 2 ^ 3 * d 3 ≤ d 0 ^ 5 * d 1 ^ 4 * d 2 ^ 3 * d 3 := by
          refine Nat.mul_le_mul_right _ (Nat.mul_le_mul_right _ (Nat.mul_le_mul ?_ ?_))
          · exact Nat.pow_le_pow_right g0.1 (by omega)
          · exact Nat.pow_le_pow_right g1.1 (by omega)
        match j, h1, h2 with
        | 0, _, _ =>
          have eq0 : (Dm a 0 * Dm a 3).natAbs ≤ d 0 * d 1 * d 2 := by rw [Int.natAbs_mul, z0, Nat.one_mul]; exact z3
          refine gd_of (na_mul z1 (Nat.le_trans bN (Nat.mul_le_mul_left _ z3))) (na_mul z1 (Nat.le_trans bN1 z3)) hM eq0 z4 z3 ?_ ?_ ?_
          · have : d 0 * (4000 * (d 0 * d 1 * d 2)) * (d 0 * d 1 * d 2 * (d 0 * d 1 * d 2 * d 3)) + d 0 * (d 0 * d 1 * d 2) * (4000 * d 3 * (d 0 * d 1 * d 2)) * (d 0 * d 1 * d 2) = 8000 * (d 0 ^ 4 * d 1 ^ 3 * d 2 ^ 3 * d 3) := by grind
            omega
          · have e : d 0 * d 1 * d 2 * (d 0 * d 1 * d 2 * (d 0 * d 1 * d 2 * d 3)) = d 0 ^ 3 * d 1 ^ 3 * d 2 ^ 3 * d 3 := by grind
            have : d 0 ^ 3 * d 1 ^ 3 * d 2 ^ 3 * d 3 ≤ d 0 ^ 4 * d 1 ^ 3 * d 2 ^ 3 * d 3 := Nat.mul_le_mul_right _ (Nat.mul_le_mul_right _ (Nat.mul_le_mul_right _ (Nat.pow_le_pow_right g0.1 (by omega))))
            omega
          · refine Nat.le_trans (Nat.mul_le_mul (Nat.mul_le_mul g0.2 (Nat.mul_le_mul (Nat.mul_le_mul g0.2 g1.2) g2.2)) (Nat.mul_le_mul (Nat.mul_le_mul g0.2 g1.2) g2.2)) (by decide)
        | 1, _, _ =>
          refine gd_of (na_mul z2 (Nat.le_trans bN (Nat.mul_le_mul_left _ z3))) (na_mul z2 (Nat.le_trans bN1 z3)) hM (na_mul z1 z3) z4 z3 ?_ ?_ ?_
          · have : d 0 * d 1 * (4000 * (d 0 * d 1 * d 2)) * (d 0 * (d 0 * d 1 * d 2) * (d 0 * d 1 * d 2 * d 3)) + d 0 * d 1 * (d 0 * d 1 * d 2) * (4000 * d 3 * (d 0 * d 1 * d 2)) * (d 0 * (d 0 * d 1 * d 2)) = 8000 * (d 0 ^ 5 * d 1 ^ 4 * d 2 ^ 3 * d 3) := by grind
            omega
          · have e : d 0 * (d 0 * d 1 * d 2) * (d 0 * (d 0 * d 1 * d 2) * (d 0 * d 1 * d 2 * d 3)) = d 0 ^ 5 * d 1 ^ 3 * d 2 ^ 3 * d 3 := by grind
            have : d 0 ^ 5 * d 1 ^ 3 * d 2 ^ 3 * d 3 ≤ d 0 ^ 5 * d 1 ^ 4 * d 2 ^ 3 * d 3 := Nat.mul_le_mul_right _ (Nat.mul_le_mul_right _ (Nat.mul_le_mul_left _ (Nat.pow_le_pow_right g1.1 (by omega))))
            omega
          · refine Nat.le_trans (Nat.mul_le_mul (Nat.mul_le_mul (Nat.mul_le_mul g0.2 g1.2) (Nat.mul_le_mul (Nat.mul_le_mul g0.2 g1.2) g2.2)) (Nat.mul_le_mul (Nat.mul_le_mul g0.2 g1.2) g2.2)) (by decide)
        | j + 2, q1, q2 => exact absurd (show j + 2 + 1 = 3 by omega) q2
      · have hj0 : j = 0 := by omega
        have hi2 : i = 2 := by omega
        subst hj0 hi2
        refine gd_of (na_mul cDs (Nat.le_trans bN (Nat.mul_le_mul_left _ cD))) (na_mul cDs (Nat.le_trans bN1 cD)) hmi (na_mul cDj cD) cD' cD (by decide) (by decide) (by decide)
  · have eE : ∀ c, Ev a i j c = mn a i j c := fun c => by simp [Ev, h1]
    have eF : Fv a i j = Dm a i := by simp [Fv, h1]
    rw [eE, eE, eF]
    refine gd_of (Nat.le_trans (h.M4 (by omega) hj hc.1 hc.2) (Nat.mul_le_mul (Nat.mul_le_mul_left _ hdj.2) cD)) (Nat.le_trans (h.M1 i j i (by omega) (by omega) hj hi) (Nat.mul_le_mul hdj.2 cD)) hmi cD cD' cD ?_ ?_ ?_
    · have : ∀ i, i < 3 → 4000 * 24 * 24 ^ i * (24 ^ i * 24 ^ (i + 1)) + 24 * 24 ^ i * (4000 * 24 * 24 ^ i) * 24 ^ i ≤ 9223372036854775807 := by decide
      exact this i (by omega)
    · have : ∀ i, i < 3 → 24 ^ i * (24 ^ i * 24 ^ (i + 1)) ≤ 9223372036854775807 := by decide
      exact this i (by omega)
    · have : ∀ i, i < 3 → 24 * 24 ^ i * 24 ^ i ≤ 9223372036854775807 := by decide
      exact this i (by omega)
end Go.D1

set_option linter.unusedVariables false
set_option linter.unusedSimpArgs false
namespace Go.D1
open Go.Tb
theorem Is.of_eq {x : Rat} {n d n' d' : Int} (h : Is x n d) (hd : d ≠ 0) (e : n * d' = n' * d) : Is x n' d' := by
  refine ⟨h.1, ?_⟩
  have h2 := h.2
  refine Int.eq_of_mul_eq_mul_right hd ?_
  generalize x.num = p at *
  generalize x.den = q at *
  have e1 : p * d' * d = p * d * d' := by grind
  have e2 : n' * q * d = n' * d * q := by grind
  rw [e1, e2, h2, ← e]
  grind
/-- A loop whose states are known by a property alone. -/
theorem ex_loop {S R : Type} (N : Nat) (Inv : Nat → S → Prop) (L : Nat → S → Int → Option R) (post : S → Option R)
    (step : ∀ n i s, i < N → Inv i s → ∃ s', Inv (i + 1) s' ∧ L (n + 1) s (i : Int) = L n s' ((i + 1 : Nat) : Int))
    (stop : ∀ n s, Inv N s → L (n + 1) s (N : Int) = post s) (hN : N ≤ 9223372036854775807) {i0 : Nat} (hi : i0 ≤ N) {s0 : S} (h0 : Inv i0 s0) : ∃ s', Inv N s' ∧ L FU s0 (i0 : Int) = post s' := by
  have key : ∀ (d i k : Nat) (s : S), N = i + d → d < k → Inv i s → ∃ s', Inv N s' ∧ L k s (i : Int) = post s' := by
    intro d
    induction d with
    | zero =>
      intro i k s hd hk hs
      cases k with
      | zero => omega
      | succ k =>
        have : i = N := by omega
        subst this
        exact ⟨s, hs, stop k s hs⟩
    | succ d ih =>
      intro i k s hd hk hs
      cases k with
      | zero => omega
      | succ k =>
        obtain ⟨s1, h1, h2⟩ := step k i s (by omega) hs
        obtain ⟨s', h3, h4⟩ := ih (i + 1) k s1 (by omega) (by omega) h1
        exact ⟨s', h3, h2.trans h4⟩
  exact key (N - i0) i0 FU s0 (by omega) (by have := FU_pos; omega) h0
variable {n : Nat} {a : Mt} {d : Nat → Nat}
end Go.D1

set_option linter.unusedVariables false
set_option linter.unusedSimpArgs false
namespace Go.D1
open Go.Tb
def gl (m : List (List Int)) (i : Nat) : List Int := m.getD i []
theorem gl_at {m : List (List Int)} {i : Nat} (h : i < m.length) : m[i]? = some (gl m i) := by simp [gl, List.getD, h]
def cutC (q : Nat) (r : List Int) : List Int := r.take q ++ r.drop (q + 1)
def minor (m : List (List Int)) (q : Nat) : List (List Int) := (m.drop 1).map (cutC q)
def sg (q : Nat) : Int := if q % 2 = 0 then 1 else -1
theorem sg_succ (q : Nat) : sg (q + 1) = -sg q := by
  unfold sg
  split <;> split <;> omega
def dsum (f : List (List Int) → Int) (m : List (List Int)) : Nat → Int
  | 0 => 0
  | q + 1 => dsum f m q + sg q * gi (gl m 0) q * f (minor m q)
def dt : Nat → List (List Int) → Int
  | 0, _ => 1
  | n + 1, m => dsum (dt n) m (n + 1)
structure Sq (n : Nat) (B : Int) (m : List (List Int)) : Prop where
  len : m.length = n
  row : ∀ r ∈ m, r.length = n ∧ ∀ x ∈ r, -B ≤ x ∧ x ≤ B
theorem Sq.at_ {n : Nat} {B : Int} {m : List (List Int)} (h : Sq n B m) {i : Nat} (hi : i < n) : (gl m i).length = n ∧ ∀ j, j < n → -B ≤ gi (gl m i) j ∧ gi (gl m i) j ≤ B := by
  have h1 := h.row _ (List.mem_of_getElem? (gl_at (by rw [h.len]; exact hi)))
  exact ⟨h1.1, fun j hj => h1.2 _ (List.mem_of_getElem? (gi_at (by rw [h1.1]; exact hj)))⟩
theorem Sq.minor {n : Nat} {B : Int} {m : List (List Int)} (h : Sq (n + 1) B m) {q : Nat} (hq : q < n + 1) : Sq n B (minor m q) := by
  refine ⟨by unfold D1.minor; simp [h.len], fun r hr => ?_⟩
  unfold D1.minor at hr
  obtain ⟨r0, h0, rfl⟩ := List.mem_map.1 hr
  have h1 := h.row r0 (List.mem_of_mem_drop h0)
  refine ⟨by unfold cutC; simp [h1.1]; omega, fun x hx => ?_⟩
  unfold cutC at hx
  rcases List.mem_append.1 hx with hx | hx
  · exact h1.2 x (List.mem_of_mem_take hx)
  · exact h1.2 x (List.mem_of_mem_drop hx)
def bd (B : Nat) : Nat → Nat
  | 0 => 1
  | n + 1 => (n + 1) * (B * bd B n)
theorem mul_abs {a b : Int} {A B : Nat} (ha : a.natAbs ≤ A) (hb : b.natAbs ≤ B) : (a * b).natAbs ≤ A * B := by
  rw [Int.natAbs_mul]; exact Nat.mul_le_mul ha hb
theorem sg_abs (q : Nat) : (sg q).natAbs = 1 := by unfold sg; split <;> rfl
theorem term_abs {B : Nat} {x r : Int} {C : Nat} (q : Nat) (hx : -(B : Int) ≤ x ∧ x ≤ B) (hr : r.natAbs ≤ C) : (sg q * x).natAbs ≤ B ∧ (sg q * x * r).natAbs ≤ B * C := by
  have h1 : (sg q * x).natAbs ≤ B := by
    have := mul_abs (a := sg q) (b := x) (A := 1) (B := B) (by rw [sg_abs]; exact Nat.le_refl _) (by omega)
    omega
  exact ⟨h1, mul_abs h1 hr⟩
theorem dsum_abs {B C n : Nat} {f : List (List Int) → Int} {m : List (List Int)} (hm : Sq (n + 1) B m) (hf : ∀ q, q < n + 1 → (f (minor m q)).natAbs ≤ C) : ∀ q, q ≤ n + 1 → (dsum f m q).natAbs ≤ q * (B * C)
  | 0, _ => by simp [dsum]
  | q + 1, hq => by
    have ih := dsum_abs hm hf q (by omega)
    have ht := (term_abs q ((hm.at_ (i := 0) (by omega)).2 q (by omega)) (hf q (by omega))).2
    have : (dsum f m (q + 1)).natAbs ≤ (dsum f m q).natAbs + (sg q * gi (gl m 0) q * f (minor m q)).natAbs := Int.natAbs_add_le _ _
    rw [Nat.succ_mul]
    omega
theorem dt_abs {B : Nat} : ∀ (n : Nat) (m : List (List Int)), Sq n B m → (dt n m).natAbs ≤ bd B n
  | 0, _, _ => Nat.le_refl _
  | n + 1, m, h => dsum_abs h (fun q hq => dt_abs n _ (h.minor hq)) (n + 1) (Nat.le_refl _)
theorem bd_mono {B : Nat} (hB : 1 ≤ B) : ∀ n, bd B n ≤ bd B (n + 1) := fun n => by
  show bd B n ≤ (n + 1) * (B * bd B n)
  have h1 : bd B n ≤ B * bd B n := Nat.le_mul_of_pos_left _ hB
  have h2 : B * bd B n ≤ (n + 1) * (B * bd B n) := Nat.le_mul_of_pos_left _ (by omega)
  omega
theorem loop1 {S R : Type} (N : Nat) (g : Nat → S) (L : Nat → S → Int → Option R) (yes : Option R)
    (step : ∀ n i : Nat, 1 ≤ i → i < N → L (n + 1) (g i) (i : Int) = L n (g (i + 1)) ((i + 1 : Nat) : Int))
    (stop : ∀ n : Nat, L (n + 1) (g N) (N : Int) = yes) : ∀ (d n i : Nat), 1 ≤ i → N = i + d → d < n → L n (g i) (i : Int) = yes
  | 0, n + 1, i, h1, hd, hn => by
    have hi : i = N := by omega
    subst hi
    exact stop n
  | d + 1, n + 1, i, h1, hd, hn => by
    rw [step n i h1 (by omega)]
    exact loop1 N g L yes step stop d n (i + 1) (by omega) (by omega) (by omega)
theorem det_F_eq {B : Nat} (hB : 1 ≤ B ∧ B ≤ 1000000) : ∀ (n k : Nat) (m : List (List Int)), n ≤ 1000 → bd B n ≤ 9223372036854775807 → Sq n B m → n < k → ref01_det_F k m = some (dt n m)
  | 0, k + 1, m, _, _, hm, _ => by
    show ref01_det_body (ref01_det_F k) m = _
    unfold ref01_det_body
    rw [if_pos (by have := hm.len; omega)]; rfl
  | n + 1, k + 1, m, hn, hb, hm, hk => by
    have hml := hm.len
    have hb0 : bd B n ≤ 9223372036854775807 := by have := bd_mono hB.1 n; omega
    have hbn : bd B (n + 1) = (n + 1) * (B * bd B n) := rfl
    show ref01_det_body (ref01_det_F k) m = _
    unfold ref01_det_body
    rw [if_neg (by omega)]
    refine for0 (n + 1) (fun q => (dsum (dt n) m q, sg q)) (fun k' st i => ref01_det_L2 m (ref01_det_F k) k' st.1 st.2 i) _ (s0 := (0, 1)) rfl (fun k' q hq => ?_) (fun k' => ?_) (by omega)
    · show ref01_det_B2 m (ref01_det_F k) (ref01_det_L2 m (ref01_det_F k) k') (dsum (dt n) m q) (sg q) (q : Int) = _
      unfold ref01_det_B2
      rw [if_pos (by omega)]
      have hcut : ∀ i, i < n + 1 → (cutC q (gl m i)).length = n := fun i hi => by
        have := (hm.at_ hi).1
        unfold cutC; simp [this]; omega
      have key := loop1 (n + 1) (fun i => (((m.take i).drop 1).map (cutC q))) (fun k'' l i => ref01_det_L1 m (ref01_det_F k) (dsum (dt n) m q) (sg q) (q : Int) (ref01_det_L2 m (ref01_det_F k) k') k'' i l) (ref01_det_L2 m (ref01_det_F k) k' (dsum (dt n) m (q + 1)) (sg (q + 1)) ((q + 1 : Nat) : Int)) (fun k'' i h1 hi => ?_) (fun k'' => ?_) n FU 1 (Nat.le_refl _) (by omega) (by have := FU_pos; omega)
      · have e0 : ((m.take 1).drop 1).map (cutC q) = [] := by simp
        simp only [e0] at key
        exact key
      · show ref01_det_B1 m (ref01_det_F k) _ _ _ _ (ref01_det_L1 m (ref01_det_F k) _ _ _ _ k'') _ _ = _
        have hx := gl_at (m := m) (i := i) (by omega)
        have hl := (hm.at_ hi).1
        have hln : (((m.take i).drop 1).map (cutC q)).length ≤ i := by simp; omega
        unfold ref01_det_B1
        rw [if_pos (by omega), ix_nat hx, gd_pos (by omega), gd_pos (by simp [hl]; omega), ix_nat hx, gd_pos (by omega), gd_pos (by omega), gd_pos (by simp [hl]; omega), gd_pos (by omega), gd_pos (by omega)]
        have e : ((m.take (i + 1)).drop 1).map (cutC q) = ((m.take i).drop 1).map (cutC q) ++ [([] ++ List.take (Int.toNat (q : Int)) (gl m i)) ++ List.drop (Int.toNat ((q : Int) + 1)) (gl m i)] := by
          rw [List.take_add_one, hx, List.drop_append_of_le_length (by rw [List.length_take]; omega), List.map_append]
          rfl
        simp only [e]
        rfl
      · show ref01_det_B1 m (ref01_det_F k) _ _ _ _ (ref01_det_L1 m (ref01_det_F k) _ _ _ _ k'') _ _ = _
        unfold ref01_det_B1 ref01_det_k3 ref01_det_k2
        have h0 := hm.at_ (i := 0) (by omega)
        have hr := dt_abs n _ (hm.minor hq)
        have ht := term_abs q (h0.2 q hq) hr
        have hs := dsum_abs hm (fun q hq => dt_abs n _ (hm.minor hq)) q (by omega)
        have hs1 := dsum_abs hm (fun q hq => dt_abs n _ (hm.minor hq)) (q + 1) (by omega)
        have hmono : (q + 1) * (B * bd B n) ≤ (n + 1) * (B * bd B n) := Nat.mul_le_mul_right _ (by omega)
        have hle : B * bd B n ≤ (n + 1) * (B * bd B n) := Nat.le_mul_of_pos_left _ (by omega)
        have e : ((m.take (n + 1)).drop 1).map (cutC q) = minor m q := by rw [List.take_of_length_le (by omega)]; rfl
        have hsg := sg_abs q
        have hsx : dsum (dt n) m (q + 1) = dsum (dt n) m q + sg q * gi (gl m 0) q * dt n (minor m q) := rfl
        rw [hsx] at hs1
        rw [if_neg (by omega), ix0 (gl_at (by omega)), ix_nat (gi_at (by rw [h0.1]; exact hq)), gd_pos (by have := ht.1; omega), e, bnd_eq (det_F_eq hB n k (minor m q) (by omega) hb0 (hm.minor hq) (by omega)), gd_pos (by have := ht.2; omega), gd_pos (by omega), gd_pos (by omega), gd_pos (by omega), hsx, sg_succ]; rfl
    · show ref01_det_B2 m (ref01_det_F k) (ref01_det_L2 m (ref01_det_F k) k') (dsum (dt n) m (n + 1)) (sg (n + 1)) _ = _
      unfold ref01_det_B2
      rw [if_neg (by omega)]; rfl
end Go.D1

set_option linter.unusedVariables false
set_option linter.unusedSimpArgs false
namespace Go.D1
open Go.Tb
/-- What a reading gives to a place of the table of weights of points p, q. -/
def lc (p q : Int) (same : Bool) (r : Reading) : Int :=
  if same = true then (if r.from_ = p ∨ r.to_ = p then r.weight else 0) else (if (r.from_ = p ∧ r.to_ = q) ∨ (r.to_ = p ∧ r.from_ = q) then -r.weight else 0)
def lsum (s : Survey) (p q : Int) (same : Bool) : Nat → Int
  | 0 => 0
  | t + 1 => lsum s p q same t + lc p q same (gr s.readings t)
theorem lc_abs {s : Survey} (hs : SvOk s) {t : Nat} (ht : t < s.readings.length) (p q : Int) (same : Bool) : -3 ≤ lc p q same (gr s.readings t) ∧ lc p q same (gr s.readings t) ≤ 3 := by
  have := (gr_ok hs ht).2.2.2.2
  unfold lc
  split <;> split <;> omega
theorem lsum_abs {s : Survey} (hs : SvOk s) (p q : Int) (same : Bool) : ∀ t : Nat, t ≤ s.readings.length → -(3 * (t : Int)) ≤ lsum s p q same t ∧ lsum s p q same t ≤ 3 * (t : Int)
  | 0, _ => by simp [lsum]
  | t + 1, ht => by
    have ih := lsum_abs hs p q same t (by omega)
    have := lc_abs hs (t := t) (by omega) p q same
    simp only [lsum]
    omega
def lent (s : Survey) (pts : List Int) (i k : Nat) : Int := lsum s (gi pts i) (gi pts k) (decide (i = k)) s.readings.length
theorem set_self {l : List Int} {k : Nat} (hk : k < l.length) : l.set k (gi l k) = l := by
  refine gi_ext (by simp) fun j hj => ?_
  rw [gi_set]
  split
  · rename_i h; rw [h.1]
  · rfl
theorem lap_step {s : Survey} (hs : SvOk s) {pts : List Int} (hp : pts.length ≤ 1000) {i k t : Nat} (hi : i < pts.length) (hk : k < pts.length) (ht : t < s.readings.length) {l : List Int} (hl : l.length = pts.length) (hb : -1000 ≤ gi l k ∧ gi l k ≤ 1000) (rec2 rec3 : Int → List Int → Option (List (List Int))) :
    ref01_laplace_B1 s pts (i : Int) (k : Int) rec2 rec3 (t : Int) l = rec3 ((t + 1 : Nat) : Int) (l.set k (gi l k + lc (gi pts i) (gi pts k) (decide (i = k)) (gr s.readings t))) := by
  have h8 := hs.len
  have hw := (gr_ok hs ht).2.2.2.2
  have hx : l[k]? = some (gi l k) := gi_at (by omega)
  have hpi := gi_at hi
  have hpk := gi_at hk
  have hne := (gr_ok hs ht).2.2.1
  have yes : ∀ v : Int, lc (gi pts i) (gi pts k) (decide (i = k)) (gr s.readings t) = v → rec3 ((t : Int) + 1) (l.set k (gi l k + v)) = rec3 ((t + 1 : Nat) : Int) (l.set k (gi l k + lc (gi pts i) (gi pts k) (decide (i = k)) (gr s.readings t))) := fun v hv => by rw [hv]; rfl
  have no : lc (gi pts i) (gi pts k) (decide (i = k)) (gr s.readings t) = 0 → rec3 ((t : Int) + 1) l = rec3 ((t + 1 : Nat) : Int) (l.set k (gi l k + lc (gi pts i) (gi pts k) (decide (i = k)) (gr s.readings t))) := fun hv => by rw [hv, Int.add_zero, set_self (by omega)]; rfl
  have yes' : lc (gi pts i) (gi pts k) (decide (i = k)) (gr s.readings t) = -(gr s.readings t).weight → rec3 ((t : Int) + 1) (l.set k (gi l k - (gr s.readings t).weight)) = rec3 ((t + 1 : Nat) : Int) (l.set k (gi l k + lc (gi pts i) (gi pts k) (decide (i = k)) (gr s.readings t))) := fun hv => by rw [← yes _ hv, Int.sub_eq_add_neg]
  generalize hR : rec3 ((t + 1 : Nat) : Int) (l.set k (gi l k + lc (gi pts i) (gi pts k) (decide (i = k)) (gr s.readings t))) = RR at *
  unfold ref01_laplace_B1 ref01_laplace_k8 ref01_laplace_k7 ref01_laplace_k6 ref01_laplace_k5
  rw [if_pos (by omega), ix_nat (gr_at ht)]
  by_cases e : i = k
  · subst e
    rw [if_pos rfl, ix_nat hpi]
    by_cases h1 : (gr s.readings t).from_ = gi pts i
    · rw [if_pos h1, if_pos rfl, ix_nat hx, gd_pos (by omega), ix_nat hx, if_pos rfl, if_neg (by simp), gd_pos (by omega)]
      exact yes _ (by unfold lc; simp [h1])
    · rw [if_neg h1, ix_nat hpi]
      by_cases h2 : (gr s.readings t).to_ = gi pts i
      · rw [if_pos (decide_eq_true h2), ix_nat hx, gd_pos (by omega), ix_nat hx, if_pos rfl, if_neg (by simp), gd_pos (by omega)]
        exact yes _ (by unfold lc; simp [h2])
      · rw [if_neg (by simpa using h2), if_pos rfl, if_neg (by simp), gd_pos (by omega)]
        exact no (by unfold lc; simp [h1, h2])
  · have ei : ¬ ((i : Int) = (k : Int)) := by omega
    rw [if_neg ei, if_neg (by simp), if_neg ei, ix_nat hpi]
    by_cases h1 : (gr s.readings t).from_ = gi pts i
    · rw [if_pos h1, ix_nat hpk]
      by_cases h2 : (gr s.readings t).to_ = gi pts k
      · rw [if_pos h2, if_pos rfl, ix_nat hx, gd_pos (by omega), ix_nat hx, gd_pos (by omega)]
        exact yes' (by unfold lc; simp [e, h1, h2])
      · rw [if_neg h2, ix_nat hpi]
        by_cases h3 : (gr s.readings t).to_ = gi pts i
        · exact absurd (h1.trans h3.symm) hne
        · rw [if_neg h3, if_neg (by simp), gd_pos (by omega)]
          exact no (by unfold lc; simp [e, h2, h3])
    · rw [if_neg h1, ix_nat hpi]
      by_cases h3 : (gr s.readings t).to_ = gi pts i
      · rw [if_pos h3, ix_nat hpk]
        by_cases h4 : (gr s.readings t).from_ = gi pts k
        · rw [if_pos (decide_eq_true h4), ix_nat hx, gd_pos (by omega), ix_nat hx, gd_pos (by omega)]
          exact yes' (by unfold lc; simp [e, h3, h4])
        · rw [if_neg (by simpa using h4), gd_pos (by omega)]
          exact no (by unfold lc; simp [e, h1, h4])
      · rw [if_neg h3, if_neg (by simp), gd_pos (by omega)]
        exact no (by unfold lc; simp [e, h1, h3])
def lrow (s : Survey) (pts : List Int) (i : Nat) : List Int := (List.range pts.length).map (lent s pts i)
def lapR (s : Survey) (pts : List Int) : List (List Int) := (List.range pts.length).map (lrow s pts)
theorem laplace_eq {s : Survey} (hs : SvOk s) {pts : List Int} (hp : pts.length ≤ 1000) : ref01_laplace s pts = some (lapR s pts) := by
  have h8 := hs.len
  unfold ref01_laplace
  refine for0 pts.length (fun i => (List.range i).map (lrow s pts)) (fun k m i => ref01_laplace_L3 s pts k i m) _ rfl (fun k i hi => ?_) (fun k => ?_) (by omega)
  · show ref01_laplace_B3 s pts (ref01_laplace_L3 s pts k) _ _ = _
    unfold ref01_laplace_B3
    rw [if_pos (by omega), gd_pos (by omega)]
    refine for0 pts.length (fun c => (List.range c).map (lent s pts i) ++ List.replicate (pts.length - c) 0) (fun k' l c => ref01_laplace_L2 s pts (i : Int) ((List.range i).map (lrow s pts)) (ref01_laplace_L3 s pts k) k' c l) _ (by simp) (fun k' c hc => ?_) (fun k' => ?_) (by omega)
    · show ref01_laplace_B2 s pts _ _ _ (ref01_laplace_L2 s pts _ _ _ k') _ _ = _
      have hlen : ((List.range c).map (lent s pts i) ++ List.replicate (pts.length - c) (0 : Int)).length = pts.length := by simp; omega
      have hgc : ∀ v : Int, ((List.range c).map (lent s pts i) ++ List.replicate (pts.length - c) (0 : Int)).set c v = (List.range c).map (lent s pts i) ++ v :: List.replicate (pts.length - (c + 1)) 0 := fun v => by
        rw [List.set_append_right _ _ (by simp), show pts.length - c = (pts.length - (c + 1)) + 1 by omega, List.replicate_succ]
        simp
      unfold ref01_laplace_B2
      rw [if_pos (by omega)]
      refine for0 s.readings.length (fun t => ((List.range c).map (lent s pts i) ++ List.replicate (pts.length - c) (0 : Int)).set c (lsum s (gi pts i) (gi pts c) (decide (i = c)) t)) (fun k'' l t => ref01_laplace_L1 s pts (i : Int) (c : Int) (ref01_laplace_L2 s pts (i : Int) ((List.range i).map (lrow s pts)) (ref01_laplace_L3 s pts k) k') k'' t l) _ ?_ (fun k'' t ht => ?_) (fun k'' => ?_) (by omega)
      · simp only [lsum, hgc]
        rw [show pts.length - c = (pts.length - (c + 1)) + 1 by omega, List.replicate_succ]
      · have hv : gi (((List.range c).map (lent s pts i) ++ List.replicate (pts.length - c) (0 : Int)).set c (lsum s (gi pts i) (gi pts c) (decide (i = c)) t)) c = lsum s (gi pts i) (gi pts c) (decide (i = c)) t := by
          rw [gi_set, if_pos ⟨rfl, by rw [hlen]; exact hc⟩]
        have hb := lsum_abs hs (gi pts i) (gi pts c) (decide (i = c)) t (by omega)
        show ref01_laplace_B1 s pts _ _ _ (ref01_laplace_L1 s pts _ _ _ k'') _ _ = _
        rw [lap_step hs hp hi hc ht (by rw [List.length_set, hlen]) (by rw [hv]; omega), hv, List.set_set]; rfl
      · show ref01_laplace_B1 s pts _ _ _ (ref01_laplace_L1 s pts _ _ _ k'') _ _ = _
        unfold ref01_laplace_B1 ref01_laplace_k4
        rw [if_neg (by omega), gd_pos (by omega), hgc]
        have : (List.range (c + 1)).map (lent s pts i) ++ List.replicate (pts.length - (c + 1)) 0 = (List.range c).map (lent s pts i) ++ lsum s (gi pts i) (gi pts c) (decide (i = c)) s.readings.length :: List.replicate (pts.length - (c + 1)) 0 := by
          rw [List.range_succ, List.map_append]; simp [lent]
        rw [← this]; rfl
    · show ref01_laplace_B2 s pts _ _ _ (ref01_laplace_L2 s pts _ _ _ k') _ _ = _
      unfold ref01_laplace_B2 ref01_laplace_k3 ref01_laplace_k2
      rw [if_neg (by omega), gd_pos (by simp; omega), gd_pos (by omega), Nat.sub_self, List.replicate_zero, List.append_nil, List.range_succ, List.map_append]; rfl
  · show ref01_laplace_B3 s pts (ref01_laplace_L3 s pts k) _ _ = _
    unfold ref01_laplace_B3
    rw [if_neg (by omega)]; rfl
end Go.D1

set_option linter.unusedVariables false
set_option linter.unusedSimpArgs false
namespace Go.D1
open Go.Tb
theorem lap_sq {s : Survey} (hs : SvOk s) (pts : List Int) : Sq pts.length 24 (lapR s pts) := by
  have h8 := hs.len
  refine ⟨by unfold lapR; simp, fun r hr => ?_⟩
  unfold lapR at hr
  obtain ⟨i, _, rfl⟩ := List.mem_map.1 hr
  refine ⟨by unfold lrow; simp, fun x hx => ?_⟩
  unfold lrow at hx
  obtain ⟨k, _, rfl⟩ := List.mem_map.1 hx
  have := lsum_abs hs (gi pts i) (gi pts k) (decide (i = k)) s.readings.length (Nat.le_refl _)
  show -24 ≤ lsum _ _ _ _ _ ∧ lsum _ _ _ _ _ ≤ 24
  omega
def detL (s : Survey) (pts : List Int) : Int := dt pts.length (lapR s pts)
theorem bd24 {n : Nat} (h : n ≤ 5) : bd 24 n ≤ 1000000000000 := by
  have : ∀ m, m < 6 → bd 24 m ≤ 1000000000000 := by decide
  exact this n (by omega)
theorem detL_eq {s : Survey} (hs : SvOk s) {pts : List Int} (hp : pts.length ≤ 5) : ref01_det (lapR s pts) = some (detL s pts) :=
  det_F_eq (B := 24) (by omega) pts.length FU (lapR s pts) (by omega) (by have := bd24 hp; omega) (lap_sq hs pts) (by have := FU_pos; omega)
def oneOf (s : Survey) (i : Int) : List Int := nodesOf s.points.toNat fun k => decide (gi (rootsOf s) k.toNat = gi (rootsOf s) i.toNat) && !decide (k = i)
end Go.D1

set_option linter.unusedVariables false
set_option linter.unusedSimpArgs false
namespace Go.D1
open Go.Tb
/-- What flows out of a point. -/
def dv : List Reading → (Reading → Int) → Int → Int
  | [], _, _ => 0
  | r :: l, f, p => (if r.from_ = p then f r else 0) - (if r.to_ = p then f r else 0) + dv l f p
def rs : List Reading → (Reading → Int) → Int
  | [], _ => 0
  | r :: l, f => f r + rs l f
theorem rs_congr {l : List Reading} {f g : Reading → Int} (h : ∀ r ∈ l, f r = g r) : rs l f = rs l g := by
  induction l with
  | nil => rfl
  | cons r l ih => simp only [rs]; rw [h r (by simp), ih fun r hr => h r (by simp [hr])]
theorem rs_mul (l : List Reading) (c : Int) (f : Reading → Int) : rs l (fun r => c * f r) = c * rs l f := by
  induction l with
  | nil => simp [rs]
  | cons r l ih => simp only [rs]; rw [ih, Int.mul_add]
theorem rs_nonneg {l : List Reading} {f : Reading → Int} (h : ∀ r ∈ l, 0 ≤ f r) : 0 ≤ rs l f := by
  induction l with
  | nil => exact Int.le_refl 0
  | cons r l ih =>
    have h1 := h r (by simp)
    have h2 := ih fun r hr => h r (by simp [hr])
    simp only [rs]; omega
theorem rs_gt {l : List Reading} {f : Reading → Int} {S : Int} (h : ∀ r ∈ l, 0 ≤ f r) {r : Reading} (hr : r ∈ l) (hS : S < f r) : S < rs l f := by
  induction l with
  | nil => simp at hr
  | cons r' l ih =>
    have h1 := h r' (by simp)
    have h2 := rs_nonneg fun r hr => h r (List.mem_cons_of_mem _ hr)
    simp only [rs]
    rcases List.mem_cons.1 hr with e | e
    · subst e; omega
    · have := ih (fun r hr => h r (by simp [hr])) e
      omega
theorem dv_congr {l : List Reading} {f g : Reading → Int} (h : ∀ r ∈ l, f r = g r) (p : Int) : dv l f p = dv l g p := by
  induction l with
  | nil => rfl
  | cons r l ih => simp only [dv]; rw [h r (by simp), ih fun r hr => h r (by simp [hr])]
theorem dv_add (l : List Reading) (f g : Reading → Int) (p : Int) : dv l (fun r => f r + g r) p = dv l f p + dv l g p := by
  induction l with
  | nil => rfl
  | cons r l ih => simp only [dv]; rw [ih]; split <;> split <;> omega
theorem dv_sub (l : List Reading) (f g : Reading → Int) (p : Int) : dv l (fun r => f r - g r) p = dv l f p - dv l g p := by
  induction l with
  | nil => rfl
  | cons r l ih => simp only [dv]; rw [ih]; split <;> split <;> omega
theorem dv_mul (l : List Reading) (c : Int) (f : Reading → Int) (p : Int) : dv l (fun r => c * f r) p = c * dv l f p := by
  induction l with
  | nil => simp [dv]
  | cons r l ih => simp only [dv]; rw [ih]; split <;> split <;> grind
theorem dv_neg (l : List Reading) (f : Reading → Int) (p : Int) : dv l (fun r => -f r) p = -dv l f p := by
  induction l with
  | nil => rfl
  | cons r l ih => simp only [dv]; rw [ih]; split <;> split <;> omega
theorem sumN_pick (g : Nat → Int) (x p : Int) (n : Nat) (h : 0 ≤ p ∧ p < n) : sumN (fun k => g k * (if p = (k : Int) then x else 0)) n = g p.toNat * x := by
  have key : ∀ m, sumN (fun k => g k * (if p = (k : Int) then x else 0)) m = if p < m then g p.toNat * x else 0 := by
    intro m
    induction m with
    | zero => rw [if_neg (by omega)]; rfl
    | succ m ih =>
      simp only [sumN]
      rw [ih]
      by_cases e : p = (m : Int)
      · rw [if_pos e, if_neg (by omega), if_pos (by omega), show p.toNat = m by omega]; omega
      · rw [if_neg e, Int.mul_zero, Int.add_zero]
        by_cases e2 : p < m
        · rw [if_pos e2, if_pos (by omega)]
        · rw [if_neg e2, if_neg (by omega)]
  rw [key n, if_pos h.2]
/-- Green's identity. -/
theorem green (l : List Reading) (g : Int → Int) (f : Reading → Int) (n : Nat) (h : ∀ r ∈ l, (0 ≤ r.from_ ∧ r.from_ < n) ∧ (0 ≤ r.to_ ∧ r.to_ < n)) : sumN (fun k => g (k : Int) * dv l f (k : Int)) n = rs l (fun r => (g r.from_ - g r.to_) * f r) := by
  induction l with
  | nil =>
    simp only [dv, rs, Int.mul_zero]
    induction n with
    | zero => rfl
    | succ n ih => simp only [sumN]; rw [ih (by simp)]; rfl
  | cons r l ih =>
    have hr := h r (by simp)
    have ih := ih fun r hr => h r (by simp [hr])
    simp only [dv, rs]
    rw [← ih]
    have e1 := sumN_pick (fun k => g (k : Int)) (f r) r.from_ n hr.1
    have e2 := sumN_pick (fun k => g (k : Int)) (f r) r.to_ n hr.2
    simp only [show ((r.from_.toNat : Nat) : Int) = r.from_ by omega, show ((r.to_.toNat : Nat) : Int) = r.to_ by omega] at e1 e2
    rw [Int.sub_mul, ← e1, ← e2, ← sumN_sub, ← sumN_add]
    exact sumN_congr fun k _ => by grind
theorem cross {s : Survey} {j : Nat} (U : Int → Bool) {a b : Int} (h : Con s j a b) (hab : U a ≠ U b) : ∃ r ∈ s.readings, U r.from_ ≠ U r.to_ := by
  induction h with
  | refl a => exact absurd rfl hab
  | edge h1 h2 => exact ⟨_, List.mem_of_getElem? (gr_at h2), hab⟩
  | symm _ ih => exact ih hab.symm
  | trans _ _ i1 i2 =>
    rename_i a b c _ _
    by_cases e : U a = U b
    · exact i2 (by rw [← e]; exact hab)
    · exact i1 e
theorem countP_lt {l : List Int} {p q : Int → Bool} (h : ∀ x ∈ l, p x = true → q x = true) {x : Int} (hx : x ∈ l) (hq : q x = true) (hp : p x = false) : l.countP p < l.countP q := by
  induction l with
  | nil => simp at hx
  | cons y l ih =>
    have mono : l.countP p ≤ l.countP q := List.countP_mono_left fun z hz => h z (by simp [hz])
    rw [List.countP_cons, List.countP_cons]
    rcases List.mem_cons.1 hx with e | e
    · subst e
      rw [hp, hq]; simp; omega
    · have := ih (fun z hz => h z (by simp [hz])) e
      have hy := h y (by simp)
      cases hpy : p y
      · simp; omega
      · rw [hy hpy]; simp; omega
theorem sumN_le {f g : Nat → Int} {n : Nat} (h : ∀ k, k < n → f k ≤ g k) : sumN f n ≤ sumN g n := by
  induction n with
  | zero => exact Int.le_refl _
  | succ n ih =>
    have h1 := ih fun k hk => h k (by omega)
    have h2 := h n (by omega)
    simp only [sumN]; omega
theorem sumN_one (c S : Int) (hS : 0 ≤ S) (n : Nat) : sumN (fun k => if (k : Int) = c then S else 0) n ≤ S := by
  have key : ∀ m : Nat, sumN (fun k => if (k : Int) = c then S else 0) m ≤ S ∧ (c ≥ m → sumN (fun k => if (k : Int) = c then S else 0) m = 0) := by
    intro m
    induction m with
    | zero => exact ⟨hS, fun _ => rfl⟩
    | succ m ih =>
      simp only [sumN]
      by_cases e : (m : Int) = c
      · rw [if_pos e, ih.2 (by omega)]
        exact ⟨by omega, fun h => by omega⟩
      · rw [if_neg e]
        exact ⟨by omega, fun h => by rw [ih.2 (by omega)]; rfl⟩
  exact (key n).1
theorem sv_in {s : Survey} (hs : SvOk s) : ∀ r ∈ s.readings, (0 ≤ r.from_ ∧ r.from_ < (s.points.toNat : Int)) ∧ (0 ≤ r.to_ ∧ r.to_ < (s.points.toNat : Int)) := fun r hr => by
  have := hs.rd r hr
  omega
/-- How high heights are: they fall over readings, and flows are small. -/
theorem mp {s : Survey} (hs : SvOk s) {F : List Int} {h : Int → Int} {t : Reading → Int} {T0 S B c : Int} (hT0 : 0 ≤ T0) (hS : 0 ≤ S) (ht : ∀ r ∈ s.readings, -T0 ≤ t r ∧ t r ≤ T0)
    (hF : ∀ p ∈ F, dv s.readings (fun r => r.weight * (h r.from_ - h r.to_ + t r)) p ≤ if p = c then S else 0) (hB : ∀ p, p ∉ F → h p ≤ B)
    (hO : ∀ p ∈ F, ∃ q, q ∉ F ∧ Con s s.readings.length p q) : ∀ p ∈ F, h p ≤ B + (F.length : Int) * (T0 + S) := by
  let T := T0 + S
  let cc : Nat → Nat := fun k => F.countP fun p => decide (B + (k : Int) * T < h p)
  have hTk : ∀ k : Nat, 0 ≤ (k : Int) * T := fun k => Int.mul_nonneg (by omega) (by show 0 ≤ T0 + S; omega)
  have hk1 : ∀ k : Nat, ((k + 1 : Nat) : Int) * T = (k : Int) * T + T := fun k => by
    rw [Int.natCast_add, Int.add_mul]; simp
  have key : ∀ k : Nat, cc k = 0 ∨ cc k + k ≤ F.length := by
    intro k
    induction k with
    | zero => right; exact List.countP_le_length
    | succ k ih =>
      by_cases h0 : cc (k + 1) = 0
      · exact .inl h0
      have hpos : 0 < cc (k + 1) := by omega
      obtain ⟨p0, hp0, hp0'⟩ := List.countP_pos_iff.1 hpos
      have hp0' := of_decide_eq_true hp0'
      have hkk := hk1 k
      have mono : ∀ x, B + ((k + 1 : Nat) : Int) * T < h x → B + (k : Int) * T < h x := fun x hx => by
        have hT : 0 ≤ T := by show 0 ≤ T0 + S; omega
        omega
      by_cases hgap : ∃ x ∈ F, B + (k : Int) * T < h x ∧ ¬ B + ((k + 1 : Nat) : Int) * T < h x
      · obtain ⟨x, x1, x2, x3⟩ := hgap
        have hlt : cc (k + 1) < cc k := countP_lt (fun y _ hy => decide_eq_true (mono y (of_decide_eq_true hy))) x1 (decide_eq_true x2) (decide_eq_false x3)
        right
        rcases ih with ih | ih <;> omega
      · exfalso
        have hno : ∀ x ∈ F, B + (k : Int) * T < h x → B + (k : Int) * T + T < h x := fun x hx hlt => by
          by_cases hh : B + ((k + 1 : Nat) : Int) * T < h x
          · omega
          · exact absurd ⟨x, hx, hlt, hh⟩ hgap
        let U : Int → Bool := fun p => decide (p ∈ F ∧ B + (k : Int) * T < h p)
        let g : Int → Int := fun p => if U p = true then 1 else 0
        have hUp : U p0 = true := decide_eq_true ⟨hp0, mono p0 hp0'⟩
        obtain ⟨q, hq1, hq2⟩ := hO p0 hp0
        have hUq : U q = false := decide_eq_false fun hh => hq1 hh.1
        obtain ⟨r, hr, hcr⟩ := cross U hq2 (by rw [hUp, hUq]; simp)
        have hin : ∀ x, U x = true → B + (k : Int) * T + T < h x := fun x hx => hno x (of_decide_eq_true hx).1 (of_decide_eq_true hx).2
        have hout : ∀ x, U x = false → h x ≤ B + (k : Int) * T := fun x hx => by
          have := of_decide_eq_false hx
          by_cases hxF : x ∈ F
          · have : ¬ B + (k : Int) * T < h x := fun hh => this ⟨hxF, hh⟩
            omega
          · have := hB x hxF
            have := hTk k
            omega
        have hg := green s.readings g (fun r => r.weight * (h r.from_ - h r.to_ + t r)) s.points.toNat (sv_in hs)
        have hle : sumN (fun k' => g (k' : Int) * dv s.readings (fun r => r.weight * (h r.from_ - h r.to_ + t r)) (k' : Int)) s.points.toNat ≤ S := by
          refine Int.le_trans (sumN_le (g := fun k' => if (k' : Int) = c then S else 0) fun k' _ => ?_) (sumN_one c S hS _)
          show (if U (k' : Int) = true then (1 : Int) else 0) * _ ≤ _
          cases hU : U (k' : Int)
          · rw [if_neg (by simp), Int.zero_mul]; split <;> omega
          · rw [if_pos rfl, Int.one_mul]; exact hF _ (of_decide_eq_true hU).1
        have hbig : ∀ r ∈ s.readings, U r.from_ ≠ U r.to_ → S < (g r.from_ - g r.to_) * (r.weight * (h r.from_ - h r.to_ + t r)) := fun r hr hne => by
          have hw := (hs.rd r hr).2.2.2.2
          have htr := ht r hr
          have hmul : ∀ x : Int, S < x → S < r.weight * x := fun x hx => by
            have : 0 ≤ (r.weight - 1) * x := Int.mul_nonneg (by omega) (by omega)
            have : r.weight * x = (r.weight - 1) * x + x := by grind
            omega
          show S < ((if U r.from_ = true then (1 : Int) else 0) - (if U r.to_ = true then (1 : Int) else 0)) * _
          cases h1 : U r.from_ <;> cases h2 : U r.to_
          · exact absurd (h1.trans h2.symm) hne
          · rw [if_neg (by simp), if_pos rfl]
            have i1 := hin _ h2
            have i2 := hout _ h1
            have : (0 - 1) * (r.weight * (h r.from_ - h r.to_ + t r)) = r.weight * (h r.to_ - h r.from_ - t r) := by grind
            rw [this]
            exact hmul _ (by have : T = T0 + S := rfl; omega)
          · rw [if_pos rfl, if_neg (by simp)]
            have i1 := hin _ h1
            have i2 := hout _ h2
            have : (1 - 0) * (r.weight * (h r.from_ - h r.to_ + t r)) = r.weight * (h r.from_ - h r.to_ + t r) := by grind
            rw [this]
            exact hmul _ (by have : T = T0 + S := rfl; omega)
          · exact absurd (h1.trans h2.symm) hne
        have hgt := rs_gt (l := s.readings) (f := fun r => (g r.from_ - g r.to_) * (r.weight * (h r.from_ - h r.to_ + t r))) (S := S) (fun r hr => by
          by_cases e : U r.from_ = U r.to_
          · show 0 ≤ ((if U r.from_ = true then (1 : Int) else 0) - (if U r.to_ = true then (1 : Int) else 0)) * _
            rw [e, Int.sub_self, Int.zero_mul]; exact Int.le_refl 0
          · have := hbig r hr e; omega) hr (hbig r hr hcr)
        omega
  intro p hp
  have hz : cc F.length = 0 := by rcases key F.length with h | h <;> omega
  have := List.countP_eq_zero.1 hz p hp
  have : ¬ B + (F.length : Int) * T < h p := fun hh => this (decide_eq_true hh)
  show h p ≤ B + (F.length : Int) * T
  omega
/-- How low heights are. -/
theorem mp_low {s : Survey} (hs : SvOk s) {F : List Int} {h : Int → Int} {t : Reading → Int} {T0 S B c : Int} (hT0 : 0 ≤ T0) (hS : 0 ≤ S) (ht : ∀ r ∈ s.readings, -T0 ≤ t r ∧ t r ≤ T0)
    (hF : ∀ p ∈ F, -(if p = c then S else 0) ≤ dv s.readings (fun r => r.weight * (h r.from_ - h r.to_ + t r)) p) (hB : ∀ p, p ∉ F → B ≤ h p)
    (hO : ∀ p ∈ F, ∃ q, q ∉ F ∧ Con s s.readings.length p q) : ∀ p ∈ F, B - (F.length : Int) * (T0 + S) ≤ h p := fun p hp => by
  have := mp (h := fun p => -h p) (t := fun r => -t r) (T0 := T0) (S := S) (B := -B) (c := c) hs hT0 hS (fun r hr => by have := ht r hr; omega) (fun p hp => by
    have := hF p hp
    have e : dv s.readings (fun r => r.weight * (-h r.from_ - -h r.to_ + -t r)) p = -dv s.readings (fun r => r.weight * (h r.from_ - h r.to_ + t r)) p := by
      rw [← dv_neg]; exact dv_congr (fun r _ => by grind) p
    rw [e]; omega) (fun p hp => by have := hB p hp; omega) hO p hp
  omega
end Go.D1

set_option linter.unusedVariables false
set_option linter.unusedSimpArgs false
namespace Go.D1
open Go.Tb
/-- Free points: from each one readings lead to a point that is not free. -/
structure Fr (s : Survey) (pts : List Int) : Prop where
  nd : pts.Nodup
  n4 : pts.length ≤ 4
  out : ∀ p ∈ pts, ∃ q, q ∉ pts ∧ Con s s.readings.length p q
/-- Heights of points of a list; 0 elsewhere. -/
def ext (pts : List Int) (X : Nat → Int) (p : Int) : Int := sumN (fun k => if gi pts k = p then X k else 0) pts.length
theorem gi_mem {l : List Int} {k : Nat} (h : k < l.length) : gi l k ∈ l := List.mem_of_getElem? (gi_at h)
theorem gi_inj {l : List Int} (hd : l.Nodup) {i k : Nat} (hi : i < l.length) (hk : k < l.length) (e : gi l i = gi l k) : i = k := by
  have h4 : ∀ a b : Nat, a < b → b < l.length → gi l a ≠ gi l b := fun a b hab hb e => by
    have := List.pairwise_iff_getElem.1 hd a b (by omega) hb hab
    have e1 := gi_at (l := l) (i := a) (by omega)
    have e2 := gi_at (l := l) (i := b) hb
    rw [List.getElem?_eq_getElem (by omega)] at e1 e2
    exact this (by rw [Option.some.inj e1, Option.some.inj e2, e])
  rcases Nat.lt_trichotomy i k with h | h | h
  · exact absurd e (h4 i k h hk)
  · exact h
  · exact absurd e.symm (h4 k i h hi)
theorem gi_ex {l : List Int} {p : Int} (h : p ∈ l) : ∃ k, k < l.length ∧ gi l k = p := by
  obtain ⟨k, hk, e⟩ := List.getElem_of_mem h
  exact ⟨k, hk, gi_of (by rw [List.getElem?_eq_getElem hk, e])⟩
theorem sumN_zero {f : Nat → Int} {n : Nat} (h : ∀ k, k < n → f k = 0) : sumN f n = 0 := by
  induction n with
  | zero => rfl
  | succ n ih => simp only [sumN]; rw [ih fun k hk => h k (by omega), h n (by omega)]; rfl
theorem sumN_lt (f : Nat → Int) {i n : Nat} (h : i ≤ n) : sumN (fun k => if k < i then f k else 0) n = sumN f i := by
  obtain ⟨m, rfl⟩ : ∃ m, n = i + m := ⟨n - i, by omega⟩
  induction m with
  | zero => exact sumN_congr fun k hk => if_pos hk
  | succ m ih =>
    rw [show i + (m + 1) = (i + m) + 1 by omega]
    simp only [sumN]
    rw [ih (by omega), if_neg (by omega)]; omega
theorem sumN_at (f : Nat → Int) {c n : Nat} (h : c < n) : sumN (fun k => if k = c then f k else 0) n = f c := by
  induction n with
  | zero => omega
  | succ n ih =>
    simp only [sumN]
    by_cases e : n = c
    · subst e
      rw [if_pos rfl, sumN_zero fun k hk => if_neg (by omega)]; omega
    · rw [if_neg e, ih (by omega)]; omega
theorem ext_at {pts : List Int} (hd : pts.Nodup) (X : Nat → Int) {k : Nat} (hk : k < pts.length) : ext pts X (gi pts k) = X k := by
  unfold ext
  rw [← sumN_at X hk]
  refine sumN_congr fun j hj => ?_
  by_cases e : j = k
  · subst e; rw [if_pos rfl, if_pos rfl]
  · rw [if_neg (fun h => e (gi_inj hd hj hk h)), if_neg e]
theorem ext_out {pts : List Int} (X : Nat → Int) {p : Int} (hp : p ∉ pts) : ext pts X p = 0 := by
  unfold ext
  exact sumN_zero fun k hk => if_neg fun e => hp (by rw [← e]; exact gi_mem hk)
theorem gr_mem {s : Survey} {t : Nat} (h : t < s.readings.length) : gr s.readings t ∈ s.readings := List.mem_of_getElem? (gr_at h)
/-- One reading's part of a row. -/
theorem row_one {pts : List Int} (hd : pts.Nodup) (X : Nat → Int) {j : Nat} (hj : j < pts.length) (r : Reading) (hne : r.from_ ≠ r.to_) :
    sumN (fun k => lc (gi pts j) (gi pts k) (decide (j = k)) r * X k) pts.length = (if r.from_ = gi pts j then r.weight * (ext pts X r.from_ - ext pts X r.to_) else 0) - (if r.to_ = gi pts j then r.weight * (ext pts X r.from_ - ext pts X r.to_) else 0) := by
  have key : ∀ q : Int, q ≠ gi pts j → sumN (fun k => (if k = j then r.weight * X k else 0) - r.weight * (if gi pts k = q then X k else 0)) pts.length = r.weight * (X j - ext pts X q) := fun q hq => by
    rw [sumN_sub, sumN_at (fun k => r.weight * X k) hj]
    have : sumN (fun k => r.weight * (if gi pts k = q then X k else 0)) pts.length = r.weight * ext pts X q := by
      unfold ext
      rw [Int.mul_comm, sumN_mul]
      exact sumN_congr fun k _ => Int.mul_comm ..
    rw [this, Int.mul_sub]
  by_cases h1 : r.from_ = gi pts j
  · have h2 : ¬ r.to_ = gi pts j := fun h2 => hne (h1.trans h2.symm)
    rw [if_pos h1, if_neg h2, h1, ext_at hd X hj, Int.sub_zero, ← key r.to_ h2]
    refine sumN_congr fun k hk => ?_
    unfold lc
    by_cases e : j = k
    · subst e
      rw [decide_eq_true rfl, if_pos (show true = true from rfl), if_pos (show r.from_ = gi pts j ∨ r.to_ = gi pts j from .inl h1), if_pos (show j = j from rfl), if_neg (show ¬ gi pts j = r.to_ from fun e => h2 e.symm)]; omega
    · rw [decide_eq_false e, if_neg (show ¬ (false = true) by simp), if_neg (show ¬ k = j from fun h => e h.symm)]
      by_cases e2 : gi pts k = r.to_
      · rw [if_pos (show (r.from_ = gi pts j ∧ r.to_ = gi pts k) ∨ (r.to_ = gi pts j ∧ r.from_ = gi pts k) from .inl ⟨h1, e2.symm⟩), if_pos e2, Int.neg_mul]; omega
      · rw [if_neg (show ¬ ((r.from_ = gi pts j ∧ r.to_ = gi pts k) ∨ (r.to_ = gi pts j ∧ r.from_ = gi pts k)) from fun h => by rcases h with h | h; exact e2 h.2.symm; exact h2 h.1), if_neg e2]; omega
  · rw [if_neg h1]
    by_cases h2 : r.to_ = gi pts j
    · rw [if_pos h2, h2, ext_at hd X hj]
      have e0 : (0 : Int) - r.weight * (ext pts X r.from_ - X j) = r.weight * (X j - ext pts X r.from_) := by grind
      rw [e0, ← key r.from_ h1]
      refine sumN_congr fun k hk => ?_
      unfold lc
      by_cases e : j = k
      · subst e
        rw [decide_eq_true rfl, if_pos (show true = true from rfl), if_pos (show r.from_ = gi pts j ∨ r.to_ = gi pts j from .inr h2), if_pos (show j = j from rfl), if_neg (show ¬ gi pts j = r.from_ from fun e => h1 e.symm)]; omega
      · rw [decide_eq_false e, if_neg (show ¬ (false = true) by simp), if_neg (show ¬ k = j from fun h => e h.symm)]
        by_cases e2 : gi pts k = r.from_
        · rw [if_pos (show (r.from_ = gi pts j ∧ r.to_ = gi pts k) ∨ (r.to_ = gi pts j ∧ r.from_ = gi pts k) from .inr ⟨h2, e2.symm⟩), if_pos e2, Int.neg_mul]; omega
        · rw [if_neg (show ¬ ((r.from_ = gi pts j ∧ r.to_ = gi pts k) ∨ (r.to_ = gi pts j ∧ r.from_ = gi pts k)) from fun h => by rcases h with h | h; exact h1 h.1; exact e2 h.2.symm), if_neg e2]; omega
    · rw [if_neg h2]
      refine (sumN_zero fun k hk => ?_).trans (by omega)
      unfold lc
      by_cases e : j = k
      · rw [decide_eq_true e, if_pos rfl, if_neg (show ¬ (r.from_ = gi pts j ∨ r.to_ = gi pts j) by omega), Int.zero_mul]
      · rw [decide_eq_false e, if_neg (show ¬ (false = true) by simp), if_neg (show ¬ ((r.from_ = gi pts j ∧ r.to_ = gi pts k) ∨ (r.to_ = gi pts j ∧ r.from_ = gi pts k)) by omega), Int.zero_mul]
def lsumL (p q : Int) (same : Bool) : List Reading → Int
  | [] => 0
  | r :: l => lc p q same r + lsumL p q same l
theorem lsumL_snoc (p q : Int) (same : Bool) (l : List Reading) (r : Reading) : lsumL p q same (l ++ [r]) = lsumL p q same l + lc p q same r := by
  induction l with
  | nil => simp [lsumL]
  | cons x l ih => simp only [List.cons_append, lsumL]; rw [ih]; omega
theorem lsum_list (s : Survey) (p q : Int) (same : Bool) : lsum s p q same s.readings.length = lsumL p q same s.readings := by
  have key : ∀ t, t ≤ s.readings.length → lsum s p q same t = lsumL p q same (s.readings.take t) := by
    intro t
    induction t with
    | zero => intro _; simp [lsum, lsumL]
    | succ t ih =>
      intro ht
      have : s.readings.take (t + 1) = s.readings.take t ++ [gr s.readings t] := by
        have e := gr_at (show t < s.readings.length by omega)
        rw [List.getElem?_eq_getElem (by omega)] at e
        rw [← List.take_append_getElem (by omega), Option.some.inj e]
      rw [this, lsumL_snoc, ← ih (by omega)]; rfl
  rw [key _ (Nat.le_refl _), List.take_length]
/-- A row times heights is what flows out. -/
theorem row_dv {s : Survey} (hs : SvOk s) {pts : List Int} (hd : pts.Nodup) (X : Nat → Int) {j : Nat} (hj : j < pts.length) :
    sumN (fun k => lent s pts j k * X k) pts.length = dv s.readings (fun r => r.weight * (ext pts X r.from_ - ext pts X r.to_)) (gi pts j) := by
  have key : ∀ l : List Reading, (∀ r ∈ l, r.from_ ≠ r.to_) → sumN (fun k => lsumL (gi pts j) (gi pts k) (decide (j = k)) l * X k) pts.length = dv l (fun r => r.weight * (ext pts X r.from_ - ext pts X r.to_)) (gi pts j) := by
    intro l
    induction l with
    | nil => intro _; exact sumN_zero fun k _ => by simp [lsumL]
    | cons r l ih =>
      intro h
      have ih := ih fun r hr => h r (by simp [hr])
      have h1 := row_one hd X hj r (h r (by simp))
      simp only [lsumL, dv]
      rw [← ih, ← h1, ← sumN_add]
      exact sumN_congr fun k _ => Int.add_mul ..
  rw [← key s.readings fun r hr => (hs.rd r hr).2.2.1]
  exact sumN_congr fun k _ => by unfold lent; rw [lsum_list]
def deg (l : List Reading) (p : Int) : Nat := match l with
  | [] => 0
  | r :: l => (if r.from_ = p then r.weight.toNat else 0) + (if r.to_ = p then r.weight.toNat else 0) + deg l p
theorem dv_abs {l : List Reading} {f : Reading → Int} {p : Int} {M : Nat} (h : ∀ r ∈ l, r.from_ = p ∨ r.to_ = p → (f r).natAbs ≤ r.weight.toNat * M) : (dv l f p).natAbs ≤ deg l p * M := by
  induction l with
  | nil => simp [dv]
  | cons r l ih =>
    have ih := ih fun r hr => h r (by simp [hr])
    have hr := h r (by simp)
    simp only [dv, deg]
    rw [Nat.add_mul, Nat.add_mul]
    by_cases h1 : r.from_ = p
    · rw [if_pos h1, if_pos h1]
      have := hr (.inl h1)
      by_cases h2 : r.to_ = p
      · rw [if_pos h2, if_pos h2]; omega
      · rw [if_neg h2, if_neg h2]; omega
    · rw [if_neg h1, if_neg h1]
      by_cases h2 : r.to_ = p
      · have := hr (.inr h2)
        rw [if_pos h2, if_pos h2]; omega
      · rw [if_neg h2, if_neg h2]; omega
theorem deg24 {s : Survey} (hs : SvOk s) (p : Int) : deg s.readings p ≤ 24 := by
  have key : ∀ l : List Reading, (∀ r ∈ l, r.from_ ≠ r.to_ ∧ 1 ≤ r.weight ∧ r.weight ≤ 3) → deg l p ≤ 3 * l.length := by
    intro l
    induction l with
    | nil => intro _; simp [deg]
    | cons r l ih =>
      intro h
      have ih := ih fun r hr => h r (by simp [hr])
      have hr := h r (by simp)
      simp only [deg, List.length_cons]
      split <;> split <;> omega
  have := key s.readings fun r hr => by have := hs.rd r hr; omega
  have := hs.len
  omega
theorem degsum {s : Survey} (hs : SvOk s) {p0 p1 p2 p3 : Int} (h01 : p0 ≠ p1) (h02 : p0 ≠ p2) (h03 : p0 ≠ p3) (h12 : p1 ≠ p2) (h13 : p1 ≠ p3) (h23 : p2 ≠ p3) : deg s.readings p0 + deg s.readings p1 + deg s.readings p2 + deg s.readings p3 ≤ 48 := by
  have key : ∀ l : List Reading, (∀ r ∈ l, r.from_ ≠ r.to_ ∧ 1 ≤ r.weight ∧ r.weight ≤ 3) → deg l p0 + deg l p1 + deg l p2 + deg l p3 ≤ 6 * l.length := by
    intro l
    induction l with
    | nil => intro _; simp [deg]
    | cons r l ih =>
      intro h
      have ih := ih fun r hr => h r (by simp [hr])
      have hr := h r (by simp)
      have one : ∀ x : Int, (if x = p0 then r.weight.toNat else 0) + (if x = p1 then r.weight.toNat else 0) + (if x = p2 then r.weight.toNat else 0) + (if x = p3 then r.weight.toNat else 0) ≤ 3 := fun x => by
        split <;> split <;> split <;> split <;> omega
      have a := one r.from_
      have b := one r.to_
      simp only [deg, List.length_cons]
      omega
  have := key s.readings fun r hr => by have := hs.rd r hr; omega
  have := hs.len
  omega
theorem deg_pos {s : Survey} (hs : SvOk s) {p q : Int} (hc : Con s s.readings.length p q) (hne : p ≠ q) : 1 ≤ deg s.readings p := by
  obtain ⟨r, hr, hx⟩ := cross (fun x => decide (x = p)) hc (by simp; exact fun e => hne e.symm)
  have key : ∀ l : List Reading, r ∈ l → (r.from_ = p ∨ r.to_ = p) → 1 ≤ r.weight → 1 ≤ deg l p := by
    intro l
    induction l with
    | nil => intro h; simp at h
    | cons r' l ih =>
      intro h h1 h2
      simp only [deg]
      rcases List.mem_cons.1 h with e | e
      · subst e
        rcases h1 with h1 | h1
        · rw [if_pos h1]; omega
        · rw [if_pos h1]; omega
      · have := ih e h1 h2
        omega
  refine key s.readings hr ?_ (hs.rd r hr).2.2.2.2.1
  by_cases e : r.from_ = p
  · exact .inl e
  · by_cases e2 : r.to_ = p
    · exact .inr e2
    · exact absurd (by rw [decide_eq_false e, decide_eq_false e2]) hx
/-- Right sides: of rises, or of one point's flow. -/
structure Rh (s : Survey) (pts : List Int) (b : Nat → Int) (t : Reading → Int) (T0 S c : Int) : Prop where
  t0 : 0 ≤ T0
  s0 : 0 ≤ S
  le : T0 + S ≤ 1000
  tr : ∀ r ∈ s.readings, -T0 ≤ t r ∧ t r ≤ T0
  eq : ∀ j, j < pts.length → b j = -dv s.readings (fun r => r.weight * t r) (gi pts j) + if gi pts j = c then S else 0
/-- The table with its right sides. -/
def Am (s : Survey) (pts : List Int) (b : Nat → Int) : Mt := fun j c => if c < pts.length then lent s pts j c else b j
section
variable {s : Survey} {pts : List Int} {b : Nat → Int}
def Xv (a : Mt) (i c k : Nat) : Int := (if k < i then -Nm a i k c else 0) + (if k = c then Dm a i else 0)
def Xb (a : Mt) (n i k : Nat) : Int := if k < i then Nm a i k n else 0
theorem Xv_sum {i c j : Nat} (hi : i ≤ c) (hc : c < pts.length) (hj : j < pts.length) : sumN (fun k => lent s pts j k * Xv (Am s pts b) i c k) pts.length = mn (Am s pts b) i j c := by
  have e : sumN (fun k => lent s pts j k * Xv (Am s pts b) i c k) pts.length = sumN (fun k => (if k < i then -(Am s pts b j k * Nm (Am s pts b) i k c) else 0) + (if k = c then Dm (Am s pts b) i * Am s pts b j k else 0)) pts.length := by
    refine sumN_congr fun k hk => ?_
    have : Am s pts b j k = lent s pts j k := by unfold Am; rw [if_pos hk]
    rw [this]
    unfold Xv
    split <;> split <;> grind
  rw [e, sumN_add, sumN_lt (fun k => -(Am s pts b j k * Nm (Am s pts b) i k c)) (by omega), sumN_at (fun k => Dm (Am s pts b) i * Am s pts b j k) hc]
  unfold mn
  have : ∀ (f : Nat → Int) n, sumN (fun k => -f k) n = -sumN f n := fun f n => by
    induction n with
    | zero => rfl
    | succ n ih => simp only [sumN]; rw [ih]; omega
  rw [this]; omega
theorem Xb_sum {i j : Nat} (hi : i ≤ pts.length) (hj : j < pts.length) : sumN (fun k => lent s pts j k * Xb (Am s pts b) pts.length i k) pts.length = Dm (Am s pts b) i * b j - mn (Am s pts b) i j pts.length := by
  have e : sumN (fun k => lent s pts j k * Xb (Am s pts b) pts.length i k) pts.length = sumN (fun k => if k < i then Am s pts b j k * Nm (Am s pts b) i k pts.length else 0) pts.length := by
    refine sumN_congr fun k hk => ?_
    have : Am s pts b j k = lent s pts j k := by unfold Am; rw [if_pos hk]
    rw [this]
    unfold Xb
    split <;> simp
  rw [e, sumN_lt _ hi]
  have hb : Am s pts b j pts.length = b j := by unfold Am; rw [if_neg (by omega)]
  unfold mn
  rw [hb]; omega
theorem mem_take {l : List Int} {i : Nat} {p : Int} (h : p ∈ l.take i) : ∃ k, k < i ∧ k < l.length ∧ gi l k = p := by
  obtain ⟨k, hk, e⟩ := List.getElem_of_mem h
  rw [List.length_take] at hk
  refine ⟨k, by omega, by omega, gi_of ?_⟩
  rw [List.getElem_take] at e
  rw [List.getElem?_eq_getElem (by omega), e]
theorem take_mem {l : List Int} {i k : Nat} (h : k < i) (hk : k < l.length) : gi l k ∈ l.take i := by
  apply List.mem_of_getElem? (i := k)
  rw [List.getElem?_take, if_pos h]; exact gi_at hk
theorem Fr.out_take (h : Fr s pts) (i : Nat) : ∀ p ∈ pts.take i, ∃ q, q ∉ pts.take i ∧ Con s s.readings.length p q := fun p hp => by
  obtain ⟨q, h1, h2⟩ := h.out p (List.mem_of_mem_take hp)
  exact ⟨q, fun hh => h1 (List.mem_of_mem_take hh), h2⟩
theorem not_take {i : Nat} {p : Int} (hp : p ∉ pts.take i) (hp2 : p ∈ pts) : ∃ k, i ≤ k ∧ k < pts.length ∧ gi pts k = p := by
  obtain ⟨k, h1, h2⟩ := gi_ex hp2
  refine ⟨k, ?_, h1, h2⟩
  by_cases e : k < i
  · exact absurd (by rw [← h2]; exact take_mem e h1) hp
  · omega
/-- Heights with one free point lifted lie between. -/
theorem Xv_range (hs : SvOk s) (h : Fr s pts) {i c : Nat} (hi : i ≤ c) (hc : c < pts.length) (hD : 0 < Dm (Am s pts b) i) (p : Int) : 0 ≤ ext pts (Xv (Am s pts b) i c) p ∧ ext pts (Xv (Am s pts b) i c) p ≤ Dm (Am s pts b) i := by
  have hn := h.n4
  have hout : ∀ p, p ∉ pts.take i → 0 ≤ ext pts (Xv (Am s pts b) i c) p ∧ ext pts (Xv (Am s pts b) i c) p ≤ Dm (Am s pts b) i := fun p hp => by
    by_cases hp2 : p ∈ pts
    · obtain ⟨k, h1, h2, h3⟩ := not_take hp hp2
      rw [← h3, ext_at h.nd _ h2]
      unfold Xv
      rw [if_neg (by omega)]
      split <;> omega
    · rw [ext_out _ hp2]; omega
  have hdv : ∀ p ∈ pts.take i, dv s.readings (fun r => r.weight * (ext pts (Xv (Am s pts b) i c) r.from_ - ext pts (Xv (Am s pts b) i c) r.to_ + 0)) p = 0 := fun p hp => by
    obtain ⟨k, h1, h2, h3⟩ := mem_take hp
    simp only [Int.add_zero]
    rw [← h3, ← row_dv hs h.nd _ h2, Xv_sum hi hc h2, cramer _ (by omega) h1]
  by_cases hp : p ∈ pts.take i
  · have u := mp (t := fun _ => 0) (T0 := 0) (S := 0) (c := 0) (B := Dm (Am s pts b) i) hs (by omega) (by omega) (fun _ _ => by omega) (fun p hp => by rw [hdv p hp]; split <;> omega) (fun p hp => (hout p hp).2) (h.out_take i) p hp
    have l := mp_low (t := fun _ => 0) (T0 := 0) (S := 0) (c := 0) (B := 0) hs (by omega) (by omega) (fun _ _ => by omega) (fun p hp => by rw [hdv p hp]; split <;> omega) (fun p hp => (hout p hp).1) (h.out_take i) p hp
    simp only [Int.add_zero, Int.mul_zero, Int.sub_zero] at u l
    exact ⟨l, u⟩
  · exact hout p hp
theorem D_pos (hs : SvOk s) (h : Fr s pts) : ∀ i, i ≤ pts.length → 0 < Dm (Am s pts b) i := by
  have hn := h.n4
  intro i
  induction i with
  | zero => intro _; exact Int.one_pos
  | succ i ih =>
    intro hi
    have hD := ih (by omega)
    have e : Dm (Am s pts b) (i + 1) = dv s.readings (fun r => r.weight * (ext pts (Xv (Am s pts b) i i) r.from_ - ext pts (Xv (Am s pts b) i i) r.to_)) (gi pts i) := by
      rw [Dm_succ _ (by omega), ← Xv_sum (Nat.le_refl i) (by omega) (by omega), row_dv hs h.nd _ (by omega)]
    by_cases h0 : 0 < Dm (Am s pts b) (i + 1)
    · exact h0
    · exfalso
      have u := mp (F := pts.take (i + 1)) (h := ext pts (Xv (Am s pts b) i i)) (t := fun _ => 0) (T0 := 0) (S := 0) (c := 0) (B := 0) hs (by omega) (by omega) (fun _ _ => by omega) (fun p hp => by
        obtain ⟨k, h1, h2, h3⟩ := mem_take hp
        simp only [Int.add_zero]
        by_cases hk : k = i
        · subst hk
          rw [← h3, ← e]; split <;> omega
        · rw [← h3, ← row_dv hs h.nd _ h2, Xv_sum (Nat.le_refl i) (by omega) h2, cramer _ (by omega) (by omega)]; split <;> omega) (fun p hp => by
        by_cases hp2 : p ∈ pts
        · obtain ⟨k, h1, h2, h3⟩ := not_take hp hp2
          rw [← h3, ext_at h.nd _ h2]
          unfold Xv
          rw [if_neg (by omega), if_neg (by omega)]; omega
        · rw [ext_out _ hp2]; omega) (h.out_take (i + 1)) (gi pts i) (take_mem (by omega) (by omega))
      rw [ext_at h.nd _ (by omega)] at u
      unfold Xv at u
      rw [if_neg (by omega), if_pos rfl] at u
      simp at u
      omega
theorem N_small (hs : SvOk s) (h : Fr s pts) {i k c : Nat} (hk : k < i) (hi : i ≤ c) (hc : c < pts.length) : -Dm (Am s pts b) i ≤ Nm (Am s pts b) i k c ∧ Nm (Am s pts b) i k c ≤ 0 := by
  have := Xv_range (b := b) hs h hi hc (D_pos hs h i (by omega)) (gi pts k)
  rw [ext_at h.nd _ (by omega)] at this
  unfold Xv at this
  rw [if_pos hk, if_neg (by omega)] at this
  omega
theorem M_small (hs : SvOk s) (h : Fr s pts) {i j c : Nat} (hi : i ≤ c) (hc : c < pts.length) (hj : j < pts.length) : (mn (Am s pts b) i j c).natAbs ≤ deg s.readings (gi pts j) * (Dm (Am s pts b) i).natAbs := by
  rw [← Xv_sum hi hc hj, row_dv hs h.nd _ hj]
  refine dv_abs fun r hr _ => ?_
  have hw := (hs.rd r hr).2.2.2.2
  have h1 := Xv_range (b := b) hs h hi hc (D_pos hs h i (by omega)) r.from_
  have h2 := Xv_range (b := b) hs h hi hc (D_pos hs h i (by omega)) r.to_
  rw [Int.natAbs_mul]
  exact Nat.mul_le_mul (by omega) (by omega)
variable {t : Reading → Int} {T0 S c : Int}
/-- Heights of free points, the others held. -/
theorem Xb_dv (hs : SvOk s) (h : Fr s pts) (hb : Rh s pts b t T0 S c) {i j : Nat} (hi : i ≤ pts.length) (hj : j < pts.length) :
    dv s.readings (fun r => r.weight * (ext pts (Xb (Am s pts b) pts.length i) r.from_ - ext pts (Xb (Am s pts b) pts.length i) r.to_ + Dm (Am s pts b) i * t r)) (gi pts j) = (if gi pts j = c then Dm (Am s pts b) i * S else 0) - mn (Am s pts b) i j pts.length := by
  have e1 := row_dv hs h.nd (Xb (Am s pts b) pts.length i) hj
  rw [Xb_sum hi hj] at e1
  have e2 := hb.eq j hj
  have e3 : dv s.readings (fun r => r.weight * (ext pts (Xb (Am s pts b) pts.length i) r.from_ - ext pts (Xb (Am s pts b) pts.length i) r.to_ + Dm (Am s pts b) i * t r)) (gi pts j) = dv s.readings (fun r => r.weight * (ext pts (Xb (Am s pts b) pts.length i) r.from_ - ext pts (Xb (Am s pts b) pts.length i) r.to_)) (gi pts j) + Dm (Am s pts b) i * dv s.readings (fun r => r.weight * t r) (gi pts j) := by
    rw [← dv_mul, ← dv_add]
    exact dv_congr (fun r _ => by grind) _
  rw [e3, ← e1, e2]
  split <;> grind
theorem Nb_small (hs : SvOk s) (h : Fr s pts) (hb : Rh s pts b t T0 S c) {i k : Nat} (hi : i ≤ pts.length) (hk : k < pts.length) : -((i : Int) * (Dm (Am s pts b) i * (T0 + S))) ≤ Xb (Am s pts b) pts.length i k ∧ Xb (Am s pts b) pts.length i k ≤ (i : Int) * (Dm (Am s pts b) i * (T0 + S)) := by
  have hn := h.n4
  have hD := D_pos (b := b) hs h i hi
  have t0 := hb.t0
  have s0 := hb.s0
  have n1 : 0 ≤ Dm (Am s pts b) i * T0 := Int.mul_nonneg (by omega) t0
  have n2 : 0 ≤ Dm (Am s pts b) i * S := Int.mul_nonneg (by omega) s0
  have n3 : 0 ≤ (i : Int) * (Dm (Am s pts b) i * (T0 + S)) := Int.mul_nonneg (by omega) (Int.mul_nonneg (by omega) (by omega))
  by_cases hki : k < i
  · have hlen : (pts.take i).length = i := by rw [List.length_take]; omega
    have htr : ∀ r ∈ s.readings, -(Dm (Am s pts b) i * T0) ≤ Dm (Am s pts b) i * t r ∧ Dm (Am s pts b) i * t r ≤ Dm (Am s pts b) i * T0 := fun r hr => by
      have := hb.tr r hr
      have a := Int.mul_le_mul_of_nonneg_left this.1 (show 0 ≤ Dm (Am s pts b) i by omega)
      have b' := Int.mul_le_mul_of_nonneg_left this.2 (show 0 ≤ Dm (Am s pts b) i by omega)
      rw [Int.mul_neg] at a
      exact ⟨a, b'⟩
    have hdv : ∀ p ∈ pts.take i, dv s.readings (fun r => r.weight * (ext pts (Xb (Am s pts b) pts.length i) r.from_ - ext pts (Xb (Am s pts b) pts.length i) r.to_ + Dm (Am s pts b) i * t r)) p = if p = c then Dm (Am s pts b) i * S else 0 := fun p hp => by
      obtain ⟨k, h1, h2, h3⟩ := mem_take hp
      rw [← h3, Xb_dv hs h hb hi h2, cramer _ (by omega) h1, Int.sub_zero]
    have hout : ∀ p, p ∉ pts.take i → ext pts (Xb (Am s pts b) pts.length i) p = 0 := fun p hp => by
      by_cases hp2 : p ∈ pts
      · obtain ⟨k, h1, h2, h3⟩ := not_take hp hp2
        rw [← h3, ext_at h.nd _ h2]
        unfold Xb
        rw [if_neg (by omega)]
      · exact ext_out _ hp2
    have u := mp (T0 := Dm (Am s pts b) i * T0) (S := Dm (Am s pts b) i * S) (c := c) (B := 0) hs n1 n2 htr (fun p hp => by rw [hdv p hp]; exact Int.le_refl _) (fun p hp => by rw [hout p hp]; exact Int.le_refl 0) (h.out_take i) (gi pts k) (take_mem hki hk)
    have l := mp_low (T0 := Dm (Am s pts b) i * T0) (S := Dm (Am s pts b) i * S) (c := c) (B := 0) hs n1 n2 htr (fun p hp => by rw [hdv p hp]; split <;> omega) (fun p hp => by rw [hout p hp]; exact Int.le_refl 0) (h.out_take i) (gi pts k) (take_mem hki hk)
    rw [ext_at h.nd _ hk, hlen, ← Int.mul_add] at u l
    omega
  · unfold Xb
    rw [if_neg hki]; omega
/-- The table of free points is small. -/
theorem sol_of (hs : SvOk s) (h : Fr s pts) (hb : Rh s pts b t T0 S c) : Sol pts.length (Am s pts b) (fun j => deg s.readings (gi pts j)) := by
  have hn := h.n4
  have t0 := hb.t0
  have s0 := hb.s0
  have ts := hb.le
  have hT : ∀ i, i ≤ pts.length → ∀ m : Int, 0 ≤ m → m * (Dm (Am s pts b) i * (T0 + S)) ≤ m * (1000 * Dm (Am s pts b) i) := fun i hi m hm => by
    have hD := D_pos (b := b) hs h i hi
    have : Dm (Am s pts b) i * (T0 + S) ≤ Dm (Am s pts b) i * 1000 := Int.mul_le_mul_of_nonneg_left ts (by omega)
    exact Int.mul_le_mul_of_nonneg_left (by omega) hm
  refine ⟨hn, D_pos hs h, fun i hi => ?_, fun i hi => ?_, fun e => ?_, fun i k c hk hi hc => ?_, fun i k hk hi => ?_, fun i j c hj hi hjn hc => M_small hs h hi hc hjn, fun i j hij hj => ?_⟩
  · rw [Dm_succ _ (by omega)]; exact M_small hs h (Nat.le_refl _) hi hi
  · obtain ⟨q, h1, h2⟩ := h.out _ (gi_mem hi)
    exact ⟨deg_pos hs h2 fun e => h1 (e ▸ gi_mem hi), deg24 hs _⟩
  · have hne : ∀ i k, i < pts.length → k < pts.length → i ≠ k → gi pts i ≠ gi pts k := fun i k hi hk hik e => hik (gi_inj h.nd hi hk e)
    exact degsum hs (hne 0 1 (by omega) (by omega) (by omega)) (hne 0 2 (by omega) (by omega) (by omega)) (hne 0 3 (by omega) (by omega) (by omega)) (hne 1 2 (by omega) (by omega) (by omega)) (hne 1 3 (by omega) (by omega) (by omega)) (hne 2 3 (by omega) (by omega) (by omega))
  · have := N_small (b := b) hs h hk hi hc
    omega
  · have hD := D_pos (b := b) hs h i hi
    have h1 := Nb_small hs h hb (i := i) (k := k) hi (by omega)
    have h2 := hT i hi i (by omega)
    unfold Xb at h1
    rw [if_pos hk] at h1
    have h3 : (i : Int) * (1000 * Dm (Am s pts b) i) ≤ 4 * (1000 * Dm (Am s pts b) i) := Int.mul_le_mul_of_nonneg_right (by omega) (by omega)
    omega
  · have hi : i ≤ pts.length := by omega
    have hD := D_pos (b := b) hs h i hi
    have e := Xb_dv hs h hb (i := i) hi hj
    have h0 : Xb (Am s pts b) pts.length i j = 0 := by unfold Xb; rw [if_neg (by omega)]
    have hX : ∀ p, (ext pts (Xb (Am s pts b) pts.length i) p).natAbs ≤ 3000 * (Dm (Am s pts b) i).natAbs := fun p => by
      by_cases hp : p ∈ pts
      · obtain ⟨k, k1, k2⟩ := gi_ex hp
        rw [← k2, ext_at h.nd _ k1]
        have h1 := Nb_small hs h hb (i := i) (k := k) hi k1
        have h2 := hT i hi i (by omega)
        have h3 : (i : Int) * (1000 * Dm (Am s pts b) i) ≤ 3 * (1000 * Dm (Am s pts b) i) := Int.mul_le_mul_of_nonneg_right (by omega) (by omega)
        omega
      · rw [ext_out _ hp]; simp
    have hdg : 1 ≤ deg s.readings (gi pts j) := by
      obtain ⟨q, h1, h2⟩ := h.out _ (gi_mem hj)
      exact deg_pos hs h2 fun e => h1 (e ▸ gi_mem hj)
    have hX0 := ext_at h.nd (Xb (Am s pts b) pts.length i) hj
    rw [h0] at hX0
    obtain ⟨T, hTT⟩ : ∃ T : Nat, (T : Int) = T0 := ⟨T0.toNat, by omega⟩
    obtain ⟨S', hSS⟩ : ∃ S' : Nat, (S' : Int) = S := ⟨S.toNat, by omega⟩
    have hdv := dv_abs (l := s.readings) (p := gi pts j) (M := 3000 * (Dm (Am s pts b) i).natAbs + (Dm (Am s pts b) i).natAbs * T) (f := fun r => r.weight * (ext pts (Xb (Am s pts b) pts.length i) r.from_ - ext pts (Xb (Am s pts b) pts.length i) r.to_ + Dm (Am s pts b) i * t r)) fun r hr htouch => by
      have hw := (hs.rd r hr).2.2.2.2
      have htr := hb.tr r hr
      rw [Int.natAbs_mul]
      refine Nat.mul_le_mul (by omega) ?_
      have a1 := hX r.from_
      have a2 := hX r.to_
      have a3 : (Dm (Am s pts b) i * t r).natAbs ≤ (Dm (Am s pts b) i).natAbs * T := na_mul (Nat.le_refl _) (by omega)
      rcases htouch with e | e
      · rw [e, hX0] at *; omega
      · rw [e, hX0] at *; omega
    rw [e] at hdv
    have hS : (if gi pts j = c then Dm (Am s pts b) i * S else 0).natAbs ≤ (Dm (Am s pts b) i).natAbs * S' := by
      split
      · exact na_mul (Nat.le_refl _) (by omega)
      · simp
    have f1 : (mn (Am s pts b) i j pts.length).natAbs ≤ (Dm (Am s pts b) i).natAbs * S' + deg s.readings (gi pts j) * (3000 * (Dm (Am s pts b) i).natAbs + (Dm (Am s pts b) i).natAbs * T) := by
      generalize deg s.readings (gi pts j) * (3000 * (Dm (Am s pts b) i).natAbs + (Dm (Am s pts b) i).natAbs * T) = W at *
      generalize (Dm (Am s pts b) i).natAbs * S' = V at *
      omega
    refine Nat.le_trans f1 ?_
    generalize (Dm (Am s pts b) i).natAbs = D at *
    generalize deg s.readings (gi pts j) = dg at *
    have f2 : D * S' ≤ dg * (D * S') := Nat.le_mul_of_pos_left _ hdg
    have f3 : dg * (D * S') + dg * (3000 * D + D * T) = dg * (D * (3000 + T + S')) := by grind
    have f4 : dg * (D * (3000 + T + S')) ≤ dg * (D * 4000) := Nat.mul_le_mul_left _ (Nat.mul_le_mul_left _ (by omega))
    have f5 : dg * (D * 4000) = 4000 * dg * D := by grind
    omega
end
end Go.D1

set_option linter.unusedVariables false
set_option linter.unusedSimpArgs false
namespace Go.D1
open Go.Tb
/-- The place that stands behind place k once place q is taken out. -/
def sk (q k : Nat) : Nat := if k < q then k else k + 1
def dsf (f : Mt → Int) (a : Mt) : Nat → Int
  | 0 => 0
  | q + 1 => dsf f a q + sg q * a 0 q * f (fun i j => a (i + 1) (sk q j))
def dtf : Nat → Mt → Int
  | 0, _ => 1
  | n + 1, a => dsf (dtf n) a (n + 1)
theorem gi_cut (q : Nat) (r : List Int) (k : Nat) : gi (cutC q r) k = gi r (sk q k) := by
  unfold gi cutC sk
  simp only [List.getD_eq_getElem?_getD]
  by_cases hk : k < q
  · rw [if_pos hk]
    by_cases hr : k < r.length
    · rw [List.getElem?_append_left (by rw [List.length_take]; omega), List.getElem?_take, if_pos hk]
    · rw [List.getElem?_eq_none (by rw [List.length_append, List.length_take, List.length_drop]; omega), List.getElem?_eq_none (by omega)]
  · rw [if_neg hk]
    by_cases hr : q ≤ r.length
    · rw [List.getElem?_append_right (by rw [List.length_take]; omega), List.length_take, List.getElem?_drop]
      congr 2; omega
    · rw [List.getElem?_eq_none (by rw [List.length_append, List.length_take, List.length_drop]; omega), List.getElem?_eq_none (by omega)]
theorem gl_minor (m : List (List Int)) (q i : Nat) : gl (minor m q) i = cutC q (gl m (i + 1)) := by
  unfold gl minor
  simp only [List.getD_eq_getElem?_getD, List.getElem?_map, List.getElem?_drop, Nat.add_comm 1 i]
  cases m[i + 1]? with
  | none => simp [cutC]
  | some x => rfl
def en (m : List (List Int)) : Mt := fun i j => gi (gl m i) j
theorem dt_dtf : ∀ (n : Nat) (m : List (List Int)), dt n m = dtf n (en m)
  | 0, _ => rfl
  | n + 1, m => by
    show dsum (dt n) m (n + 1) = dsf (dtf n) (en m) (n + 1)
    have key : ∀ q, dsum (dt n) m q = dsf (dtf n) (en m) q := by
      intro q
      induction q with
      | zero => rfl
      | succ q ih =>
        simp only [dsum, dsf]
        rw [ih, dt_dtf n (minor m q)]
        have : en (minor m q) = fun i j => en m (i + 1) (sk q j) := by
          funext i j
          unfold en
          rw [gl_minor, gi_cut]
        rw [this]; rfl
    exact key (n + 1)
theorem dtf_Dm {n : Nat} (hn : n ≤ 4) (a : Mt) : dtf n a = Dm a n := by
  match n, hn with
  | 0, _ => rfl
  | 1, _ => simp [dtf, dsf, Dm, sg]
  | 2, _ => simp [dtf, dsf, Dm, sg, sk, e2]; grind
  | 3, _ => simp [dtf, dsf, Dm, sg, sk, e3]; grind
  | 4, _ => simp [dtf, dsf, Dm, sg, sk, e4, f3]; grind
theorem Dm_congr {a b : Mt} {n : Nat} (hn : n ≤ 4) (h : ∀ i j, i < n → j < n → a i j = b i j) : Dm a n = Dm b n := by
  match n, hn with
  | 0, _ => rfl
  | 1, _ => exact h 0 0 (by omega) (by omega)
  | 2, _ =>
    simp only [Dm, e2]
    rw [h 0 0 (by omega) (by omega), h 0 1 (by omega) (by omega), h 1 0 (by omega) (by omega), h 1 1 (by omega) (by omega)]
  | 3, _ =>
    simp only [Dm, e3]
    rw [h 0 0 (by omega) (by omega), h 0 1 (by omega) (by omega), h 0 2 (by omega) (by omega), h 1 0 (by omega) (by omega), h 1 1 (by omega) (by omega), h 1 2 (by omega) (by omega), h 2 0 (by omega) (by omega), h 2 1 (by omega) (by omega), h 2 2 (by omega) (by omega)]
  | 4, _ =>
    simp only [Dm, e4, f3]
    rw [h 0 0 (by omega) (by omega), h 0 1 (by omega) (by omega), h 0 2 (by omega) (by omega), h 0 3 (by omega) (by omega), h 1 0 (by omega) (by omega), h 1 1 (by omega) (by omega), h 1 2 (by omega) (by omega), h 1 3 (by omega) (by omega), h 2 0 (by omega) (by omega), h 2 1 (by omega) (by omega), h 2 2 (by omega) (by omega), h 2 3 (by omega) (by omega), h 3 0 (by omega) (by omega), h 3 1 (by omega) (by omega), h 3 2 (by omega) (by omega), h 3 3 (by omega) (by omega)]
theorem Nm_Dm {a : Mt} {n k : Nat} (hn : n ≤ 4) (hk : k < n) (c : Nat) : Nm a n k c = Dm (fun i j => if j = k then a i c else a i j) n := by
  match n, k, hn, hk with
  | 1, 0, _, _ => simp [Dm, Nm]
  | 2, 0, _, _ => simp [Dm, Nm, e2]
  | 2, 1, _, _ => simp [Dm, Nm, e2]
  | 3, 0, _, _ => simp [Dm, Nm, e3]
  | 3, 1, _, _ => simp [Dm, Nm, e3]
  | 3, 2, _, _ => simp [Dm, Nm, e3]
  | 4, 0, _, _ => simp [Dm, Nm, e4, f3]
  | 4, 1, _, _ => simp [Dm, Nm, e4, f3]
  | 4, 2, _, _ => simp [Dm, Nm, e4, f3]
  | 4, 3, _, _ => simp [Dm, Nm, e4, f3]
theorem en_lap {s : Survey} {pts : List Int} {i j : Nat} (hi : i < pts.length) (hj : j < pts.length) : en (lapR s pts) i j = lent s pts i j := by
  unfold en
  have h1 : gl (lapR s pts) i = lrow s pts i := by
    unfold gl lapR
    simp [List.getD_eq_getElem?_getD, hi]
  rw [h1]
  apply gi_of
  unfold lrow
  rw [List.getElem?_map, List.getElem?_range hj]; rfl
theorem detL_Dm {s : Survey} {pts : List Int} (hn : pts.length ≤ 4) (b : Nat → Int) : detL s pts = Dm (Am s pts b) pts.length := by
  unfold detL
  rw [dt_dtf, dtf_Dm hn]
  refine Dm_congr hn fun i j hi hj => ?_
  rw [en_lap hi hj]
  unfold Am; rw [if_pos hj]
end Go.D1

set_option linter.unusedVariables false
set_option linter.unusedSimpArgs false
namespace Go.D1
open Go.Tb
/-- Heights whose flow goes from i to j. -/
structure Un (s : Survey) (i j : Int) (u : Int → Int) (D : Int) : Prop where
  pos : 0 < D
  dv : ∀ p, 0 ≤ p → p < s.points → dv s.readings (fun r => r.weight * (u r.from_ - u r.to_)) p = (if p = i then D else 0) - (if p = j then D else 0)
def RS (s : Survey) (i j N D : Int) : Prop := ∃ u, Un s i j u D ∧ N = u i - u j
theorem dv_zero (l : List Reading) (p : Int) : dv l (fun _ => 0) p = 0 := by
  induction l with
  | nil => rfl
  | cons r l ih => simp only [dv]; rw [ih]; split <;> split <;> rfl
theorem con_const {s : Survey} {j : Nat} {u : Int → Int} (h : ∀ i, i < j → i < s.readings.length → u (gr s.readings i).from_ = u (gr s.readings i).to_) {a b : Int} (hc : Con s j a b) : u a = u b := by
  induction hc with
  | refl a => rfl
  | edge h1 h2 => exact h _ h1 h2
  | symm _ ih => exact ih.symm
  | trans _ _ i1 i2 => exact i1.trans i2
theorem edge_of {s : Survey} {r : Reading} (h : r ∈ s.readings) : Con s s.readings.length r.from_ r.to_ := by
  obtain ⟨k, hk, e⟩ := List.getElem_of_mem h
  have : gr s.readings k = r := by
    have := gr_at hk
    rw [List.getElem?_eq_getElem hk] at this
    rw [← Option.some.inj this, e]
  rw [← this]
  exact .edge hk hk
/-- No flow: no differences. -/
theorem flat {s : Survey} (hs : SvOk s) {u : Int → Int} (h : ∀ p, 0 ≤ p → p < s.points → dv s.readings (fun r => r.weight * (u r.from_ - u r.to_)) p = 0) : ∀ r ∈ s.readings, u r.from_ = u r.to_ := by
  intro r hr
  by_cases e : u r.from_ = u r.to_
  · exact e
  · exfalso
    have hg := green s.readings u (fun r => r.weight * (u r.from_ - u r.to_)) s.points.toNat (sv_in hs)
    have hp1 := hs.p1
    rw [sumN_zero fun k hk => by rw [h k (by omega) (by omega), Int.mul_zero]] at hg
    have sq : ∀ r ∈ s.readings, 0 ≤ (u r.from_ - u r.to_) * (r.weight * (u r.from_ - u r.to_)) := fun r hr => by
      have hw := (hs.rd r hr).2.2.2.2
      have : (u r.from_ - u r.to_) * (r.weight * (u r.from_ - u r.to_)) = r.weight * ((u r.from_ - u r.to_) * (u r.from_ - u r.to_)) := by grind
      rw [this]
      refine Int.mul_nonneg (by omega) ?_
      generalize u r.from_ - u r.to_ = x
      rcases Int.le_total 0 x with h | h
      · exact Int.mul_nonneg h h
      · exact Int.mul_nonneg_of_nonpos_of_nonpos h h
    have hne : 0 < (u r.from_ - u r.to_) * (r.weight * (u r.from_ - u r.to_)) := by
      have h0 := sq r hr
      have hw := (hs.rd r hr).2.2.2.2
      have : (u r.from_ - u r.to_) * (r.weight * (u r.from_ - u r.to_)) ≠ 0 := Int.mul_ne_zero (by omega) (Int.mul_ne_zero (by omega) (by omega))
      omega
    have := rs_gt sq hr hne
    omega
theorem flat_con {s : Survey} (hs : SvOk s) {u : Int → Int} (h : ∀ p, 0 ≤ p → p < s.points → dv s.readings (fun r => r.weight * (u r.from_ - u r.to_)) p = 0) {a b : Int} (hc : Con s s.readings.length a b) : u a = u b :=
  con_const (fun i _ hi => flat hs h _ (gr_mem hi)) hc
theorem sumN_but {f : Nat → Int} {n c : Nat} (hc : c < n) (h : ∀ k, k < n → k ≠ c → f k = 0) : sumN f n = f c := by
  rw [← sumN_at f hc]
  refine sumN_congr fun k hk => ?_
  by_cases e : k = c
  · rw [if_pos e]
  · rw [if_neg e, h k hk e]
theorem iota_nodup (n : Nat) : (iota n).Nodup := by
  induction n with
  | zero => exact List.nodup_nil
  | succ n ih =>
    rw [iota_succ, List.nodup_append]
    refine ⟨ih, by simp, fun a ha b hb => ?_⟩
    obtain ⟨k, hk, e⟩ := gi_ex ha
    rw [iota_len] at hk
    rw [iota_gi hk] at e
    simp at hb
    omega
theorem mem_iota {n : Nat} {p : Int} : p ∈ iota n ↔ 0 ≤ p ∧ p < n := by
  constructor
  · intro h
    obtain ⟨k, hk, e⟩ := gi_ex h
    rw [iota_len] at hk
    rw [iota_gi hk] at e
    omega
  · intro h
    have : gi (iota n) p.toNat ∈ iota n := gi_mem (by rw [iota_len]; omega)
    rw [iota_gi (by omega)] at this
    rw [show p = ((p.toNat : Nat) : Int) by omega]; exact this
theorem mem_nodesOf {n : Nat} {f : Int → Bool} {p : Int} : p ∈ nodesOf n f ↔ (0 ≤ p ∧ p < n) ∧ f p = true := by
  unfold nodesOf
  rw [List.mem_filter, mem_iota]
theorem nodesOf_nodup (n : Nat) (f : Int → Bool) : (nodesOf n f).Nodup := (iota_nodup n).filter _
theorem nodesOf_lt {n : Nat} {f : Int → Bool} {p : Int} (hp : 0 ≤ p ∧ p < n) (h : f p = false) : (nodesOf n f).length < n := by
  unfold nodesOf
  have h1 := List.length_filter_lt_length_iff_exists (l := iota n) (p := f)
  have : (List.filter f (iota n)).length < (iota n).length := h1.2 ⟨p, mem_iota.2 hp, by rw [h]; simp⟩
  rwa [iota_len] at this
abbrev rtOf (s : Survey) (p : Int) : Int := gi (rootsOf s) p.toNat
theorem con_rt {s : Survey} (hs : SvOk s) {a b : Int} (ha : 0 ≤ a ∧ a < s.points) (hb : 0 ≤ b ∧ b < s.points) : Con s s.readings.length a b ↔ rtOf s a = rtOf s b := by
  have hR := rootsOf_ok hs
  have hl := hR.len
  constructor
  · intro h
    exact (hR.eq_of hs h).2 ha
  · intro h
    have h1 := hR.con a.toNat (by omega)
    have h2 := hR.con b.toNat (by omega)
    rw [show ((a.toNat : Nat) : Int) = a by omega] at h1
    rw [show ((b.toNat : Nat) : Int) = b by omega] at h2
    unfold rtOf at h
    rw [h] at h1
    exact h1.symm.trans h2
theorem rt_same {s : Survey} (hs : SvOk s) {r : Reading} (hr : r ∈ s.readings) : rtOf s r.from_ = rtOf s r.to_ := by
  have h := hs.rd r hr
  exact (con_rt hs h.1 h.2.1).1 (edge_of hr)
theorem mem_oneOf {s : Survey} (hs : SvOk s) {i p : Int} : p ∈ oneOf s i ↔ (0 ≤ p ∧ p < s.points) ∧ rtOf s p = rtOf s i ∧ p ≠ i := by
  have hp1 := hs.p1
  unfold oneOf
  rw [mem_nodesOf]
  simp only [Bool.and_eq_true, decide_eq_true_eq, Bool.not_eq_true', decide_eq_false_iff_not, ne_eq]
  unfold rtOf
  constructor <;> intro h <;> refine ⟨by omega, h.2⟩
def unitB (pts : List Int) (c : Int) (k : Nat) : Int := if gi pts k = c then 1 else 0
theorem rh_unit (s : Survey) (pts : List Int) (c : Int) : Rh s pts (unitB pts c) (fun _ => 0) 0 1 c := by
  refine ⟨by omega, by omega, by omega, fun _ _ => by omega, fun j hj => ?_⟩
  have : dv s.readings (fun r => r.weight * 0) (gi pts j) = 0 := by
    rw [dv_congr (g := fun _ => 0) (fun r _ => Int.mul_zero _), dv_zero]
  rw [this]
  unfold unitB
  omega
end Go.D1

set_option linter.unusedVariables false
set_option linter.unusedSimpArgs false
namespace Go.D1
open Go.Tb
theorem cut_filter {j : Int} : ∀ (l : List Int) (c : Nat), l.Nodup → c < l.length → gi l c = j → l.take c ++ l.drop (c + 1) = l.filter (fun k => !decide (k = j))
  | [], c, _, h, _ => by simp at h
  | x :: r, 0, hd, h, e => by
    have e' : x = j := e
    subst e'
    have hn := (List.nodup_cons.1 hd).1
    rw [List.filter_cons, if_neg (by simp)]
    show r = _
    symm
    rw [List.filter_eq_self]
    intro a ha
    have : a ≠ x := fun e => hn (e ▸ ha)
    simp [this]
  | x :: r, c + 1, hd, h, e => by
    have hc := List.nodup_cons.1 hd
    have h' : c < r.length := by simpa using h
    have e' : gi r c = j := by rw [← e]; simp [gi]
    have hm : j ∈ r := e' ▸ gi_mem h'
    have : x ≠ j := fun e2 => hc.1 (e2 ▸ hm)
    rw [List.filter_cons, if_pos (by simp [this]), ← cut_filter r c hc.2 h' e']; rfl
theorem root_in {s : Survey} (hs : SvOk s) {p : Int} (hp : 0 ≤ p ∧ p < s.points) : (0 ≤ rtOf s p ∧ rtOf s p ≤ p) ∧ rtOf s (rtOf s p) = rtOf s p := by
  have hR := rootsOf_ok hs
  have hl := hR.len
  have h1 := hR.le p.toNat (by omega)
  have h2 := hR.con p.toNat (by omega)
  have h3 : 0 ≤ rtOf s p ∧ rtOf s p ≤ p := by unfold rtOf; omega
  rw [show ((p.toNat : Nat) : Int) = p by omega] at h2
  exact ⟨h3, (con_rt hs (by omega) hp).1 h2⟩
theorem part_mem {s : Survey} (hs : SvOk s) {q : Int} {p : Int} : p ∈ partOf (rootsOf s) q ↔ (0 ≤ p ∧ p < s.points) ∧ rtOf s p = q := by
  have hp1 := hs.p1
  have hl := (rootsOf_ok hs).len
  unfold partOf
  rw [mem_nodesOf, hl]
  simp only [decide_eq_true_eq]
  unfold rtOf
  constructor <;> intro h <;> exact ⟨by omega, h.2⟩
theorem parts_mem {s : Survey} (hs : SvOk s) {l : List Int} : l ∈ partsR s ↔ ∃ q, (0 ≤ q ∧ q < s.points) ∧ rtOf s q = q ∧ l = partOf (rootsOf s) q := by
  have hp1 := hs.p1
  unfold partsR partsL
  rw [List.mem_map]
  constructor
  · rintro ⟨q, hq, rfl⟩
    have := mem_nodesOf.1 hq
    exact ⟨q, by omega, of_decide_eq_true this.2, rfl⟩
  · rintro ⟨q, h1, h2, rfl⟩
    exact ⟨q, mem_nodesOf.2 ⟨by omega, decide_eq_true h2⟩, rfl⟩
theorem part_cut {s : Survey} (hs : SvOk s) (j : Int) : (partOf (rootsOf s) (rtOf s j)).filter (fun k => !decide (k = j)) = oneOf s j := by
  have hl := (rootsOf_ok hs).len
  unfold partOf oneOf nodesOf
  rw [List.filter_filter, hl]
  congr 1
  funext k
  exact Bool.and_comm _ _
theorem part_nodup {s : Survey} (q : Int) : (partOf (rootsOf s) q).Nodup := nodesOf_nodup _ _
theorem parts_len {s : Survey} (hs : SvOk s) : (partsR s).length ≤ 5 := by
  have := partsL_len (rootsOf s) s.points.toNat
  have hp5 := hs.p5
  show (partsL _ _).length ≤ _
  omega
end Go.D1

set_option linter.unusedVariables false
set_option linter.unusedSimpArgs false
namespace Go.D1
open Go.Tb
def gb (l : List Bool) (i : Nat) : Bool := l.getD i false
abbrev HK := List Int × List Bool
/-- One reading of the tree is gone along, if one of its points alone is known. -/
def go1 (r : Reading) (x : HK) : HK :=
  if gb x.2 r.from_.toNat = true ∧ gb x.2 r.to_.toNat = false then (x.1.set r.to_.toNat (gi x.1 r.from_.toNat + r.rise), x.2.set r.to_.toNat true)
  else if gb x.2 r.to_.toNat = true ∧ gb x.2 r.from_.toNat = false then (x.1.set r.from_.toNat (gi x.1 r.to_.toNat - r.rise), x.2.set r.from_.toNat true)
  else x
structure HB (s : Survey) (B : Int) (x : HK) : Prop where
  l1 : x.1.length = s.points.toNat
  l2 : x.2.length = s.points.toNat
  bd : ∀ i, -B ≤ gi x.1 i ∧ gi x.1 i ≤ B
theorem HB.mono {s : Survey} {B B' : Int} {x : HK} (h : HB s B x) (hb : B ≤ B') : HB s B' x := ⟨h.l1, h.l2, fun i => by have := h.bd i; omega⟩
theorem HB.go {s : Survey} {B : Int} {x : HK} (h : HB s B x) (hB : 0 ≤ B) {r : Reading} (hr : -1000 ≤ r.rise ∧ r.rise ≤ 1000) : HB s (B + 1000) (go1 r x) := by
  have hf := h.bd r.from_.toNat
  have ht := h.bd r.to_.toNat
  unfold go1
  split
  · refine ⟨by simp [h.l1], by simp [h.l2], fun i => ?_⟩
    have := h.bd i
    rw [gi_set]
    split <;> omega
  · split
    · refine ⟨by simp [h.l1], by simp [h.l2], fun i => ?_⟩
      have := h.bd i
      rw [gi_set]
      split <;> omega
    · exact h.mono (by omega)
def op (x : HK) (r : Reading) : Bool := !(gb x.2 r.from_.toNat && gb x.2 r.to_.toNat)
end Go.D1

set_option linter.unusedVariables false
set_option linter.unusedSimpArgs false
namespace Go.D1
open Go.Tb
/-- Where the heights begin. -/
def start (s : Survey) : HK := (List.replicate s.points.toNat 0, (iota s.points.toNat).map (isRoot (rootsOf s)))
end Go.D1

set_option linter.unusedVariables false
set_option linter.unusedSimpArgs false
namespace Go.D1
open Go.Tb
/-- Whether a list holds a number with a property. -/
theorem has_eq {l : List Int} (hl : l.length ≤ 1000) {f : Int → Option Bool} {p : Int → Bool} (hf : ∀ x ∈ l, f x = some (p x)) : slices_ContainsFunc_int l f = some (l.any p) := by
  unfold slices_ContainsFunc_int slices_IndexFunc_int
  have h := scan_loop l.length (fun i => (l[i]?.map fun x => !p x).getD true) (fun _ => ()) (fun n _ i => slices_IndexFunc_int_L1 l f n i) (some (-1)) (fun j => some (j : Int)) (fun n i hi => ?_) (fun n => ?_) l.length FU 0 (by omega) (by have := FU_pos; omega)
  · have h' : slices_IndexFunc_int_L1 l f FU 0 = _ := h
    cases hf' : (List.range' 0 l.length).find? (fun j => !((l[j]?.map fun x => !p x).getD true)) with
    | none =>
      rw [hf'] at h'
      rw [bnd_eq h']
      have hall := find_all.1 hf'
      have : l.any p = false := by
        rw [List.any_eq_false]
        intro x hx hpx
        obtain ⟨i, hi⟩ := List.getElem?_of_mem hx
        have := hall i (by omega) (by have := lt_of_at hi; omega)
        simp [hi, hpx] at this
      rw [this]; rfl
    | some j =>
      rw [hf'] at h'
      rw [bnd_eq h']
      have hj := List.find?_some hf'
      have hm := List.mem_of_find?_eq_some hf'
      rw [List.mem_range'] at hm
      obtain ⟨q, hq, hjq⟩ := hm
      have hlt : j < l.length := by omega
      have hx : l[j]? = some l[j] := by simp [hlt]
      rw [hx] at hj
      simp at hj
      have : l.any p = true := List.any_eq_true.2 ⟨_, List.getElem_mem hlt, hj⟩
      rw [this, decide_eq_true (by omega)]
  · have hx : l[i]? = some l[i] := by simp [hi]
    show slices_IndexFunc_int_B1 l f (slices_IndexFunc_int_L1 l f n) _ = _
    unfold slices_IndexFunc_int_B1
    rw [if_pos (by omega), ix_nat hx, bnd_eq (hf _ (List.getElem_mem hi))]
    simp only [hx, Option.map_some, Option.getD_some]
    cases hp : p l[i]
    · rw [if_neg (by simp), gd_pos (by omega), if_pos (by rfl)]; rfl
    · rw [if_pos rfl, if_neg (by simp)]
  · show slices_IndexFunc_int_B1 l f (slices_IndexFunc_int_L1 l f n) _ = _
    unfold slices_IndexFunc_int_B1
    rw [if_neg (by omega)]; rfl
end Go.D1

set_option linter.unusedVariables false
set_option linter.unusedSimpArgs false
namespace Go.D1
open Go.Tb
theorem RS.pos {s : Survey} {i j N D : Int} (h : RS s i j N D) : 0 < D := by obtain ⟨u, hu, _⟩ := h; exact hu.pos
end Go.D1

set_option linter.unusedVariables false
set_option linter.unusedSimpArgs false
namespace Go.D1
open Go.Tb
/-- Flows at the smallest point of a part. -/
theorem dv_root {s : Survey} (hs : SvOk s) (f : Reading → Int) (e : Int → Int) (hfree : ∀ p, 0 ≤ p → p < s.points → rtOf s p ≠ p → dv s.readings f p = e p) {q : Int} (hq : 0 ≤ q ∧ q < s.points) (hr : rtOf s q = q)
    (he : sumN (fun k => if rtOf s (k : Int) = q then e (k : Int) else 0) s.points.toNat = 0) : dv s.readings f q = e q := by
  have hg := green s.readings (fun p => if rtOf s p = q then 1 else 0) f s.points.toNat (sv_in hs)
  have h0 : rs s.readings (fun r => ((if rtOf s r.from_ = q then (1 : Int) else 0) - (if rtOf s r.to_ = q then 1 else 0)) * f r) = 0 := by
    have : rs s.readings (fun r => ((if rtOf s r.from_ = q then (1 : Int) else 0) - (if rtOf s r.to_ = q then 1 else 0)) * f r) = rs s.readings (fun _ => 0 * 0) := rs_congr fun r hr => by rw [rt_same hs hr, Int.sub_self]; simp
    rw [this, rs_mul s.readings 0 (fun _ => 0), Int.zero_mul]
  rw [h0] at hg
  have hb := sumN_but (n := s.points.toNat) (c := q.toNat) (f := fun k => (if rtOf s (k : Int) = q then 1 else 0) * dv s.readings f (k : Int) - (if rtOf s (k : Int) = q then e (k : Int) else 0)) (by omega) (fun k hk hne => by
    show (if rtOf s (k : Int) = q then (1 : Int) else 0) * dv s.readings f (k : Int) - (if rtOf s (k : Int) = q then e (k : Int) else 0) = 0
    by_cases h : rtOf s (k : Int) = q
    · rw [if_pos h, if_pos h, hfree (k : Int) (by omega) (by omega) (by omega)]; omega
    · rw [if_neg h, if_neg h]; omega)
  rw [sumN_sub, hg, he] at hb
  have hb' : (0 : Int) - 0 = (if rtOf s (q.toNat : Int) = q then 1 else 0) * dv s.readings f (q.toNat : Int) - (if rtOf s (q.toNat : Int) = q then e (q.toNat : Int) else 0) := hb
  rw [show ((q.toNat : Nat) : Int) = q by omega, if_pos hr, if_pos hr] at hb'
  omega
def freeL (s : Survey) : List Int := nodesOf s.points.toNat fun k => !decide (gi (rootsOf s) k.toNat = k)
theorem mem_free {s : Survey} (hs : SvOk s) {p : Int} : p ∈ freeL s ↔ (0 ≤ p ∧ p < s.points) ∧ rtOf s p ≠ p := by
  have hp1 := hs.p1
  unfold freeL
  rw [mem_nodesOf]
  simp only [Bool.not_eq_true', decide_eq_false_iff_not]
  unfold rtOf
  constructor <;> intro h <;> exact ⟨by omega, h.2⟩
theorem fr_free {s : Survey} (hs : SvOk s) : Fr s (freeL s) := by
  have hp5 := hs.p5
  have hp1 := hs.p1
  refine ⟨nodesOf_nodup _ _, ?_, fun p hp => ?_⟩
  · have h0 := (root_in hs (p := 0) (by omega)).1
    have : (freeL s).length < s.points.toNat := nodesOf_lt (p := 0) (by omega) (by
      have : gi (rootsOf s) (0 : Int).toNat = 0 := by have : rtOf s 0 = 0 := by omega
                                                      exact this
      simp
      exact this)
    omega
  · have h := (mem_free hs).1 hp
    have hr := root_in hs h.1
    exact ⟨rtOf s p, fun h' => ((mem_free hs).1 h').2 hr.2, (con_rt hs h.1 (by omega)).2 hr.2.symm⟩
/-- The flow of one unit from each free point, over one denominator. -/
def gD (s : Survey) : Int := Dm (Am s (freeL s) (fun _ => 0)) (freeL s).length
theorem Dm_any {s : Survey} {pts : List Int} (hn : pts.length ≤ 4) (b b' : Nat → Int) : Dm (Am s pts b) pts.length = Dm (Am s pts b') pts.length :=
  Dm_congr hn fun i j hi hj => by unfold Am; rw [if_pos hj, if_pos hj]
theorem gD_ok {s : Survey} (hs : SvOk s) : 0 < gD s ∧ gD s ≤ 20736 := by
  have hF := fr_free hs
  have hn := hF.n4
  have hb := rh_unit s (freeL s) 0
  have h1 := D_pos (b := fun _ => 0) hs hF _ (Nat.le_refl _)
  have h2 := (sol_of hs hF hb).D20736
  rw [Dm_any hn _ (fun _ => 0)] at h2
  unfold gD
  omega
end Go.D1

set_option linter.unusedVariables false
set_option linter.unusedSimpArgs false
namespace Go.D1
open Go.Tb
/-- Heights h / D whose residuals balance at each point. -/
structure BH (s : Survey) (h : Int → Int) (D : Int) : Prop where
  pos : 0 < D
  root : ∀ p, 0 ≤ p → p < s.points → rtOf s p = p → h p = 0
  dv : ∀ p, 0 ≤ p → p < s.points → dv s.readings (fun r => r.weight * (h r.from_ - h r.to_ + D * r.rise)) p = 0
theorem bh_uniq {s : Survey} (hs : SvOk s) {h h' : Int → Int} {D D' : Int} (a : BH s h D) (b : BH s h' D') {p : Int} (hp : 0 ≤ p ∧ p < s.points) : h p * D' = h' p * D := by
  have hr := root_in hs hp
  have hc := (con_rt hs hp (show 0 ≤ rtOf s p ∧ rtOf s p < s.points by omega)).2 hr.2.symm
  have := flat_con hs (u := fun p => h p * D' - h' p * D) (fun p p0 p1 => by
    have e : dv s.readings (fun r => r.weight * (h r.from_ * D' - h' r.from_ * D - (h r.to_ * D' - h' r.to_ * D))) p = D' * dv s.readings (fun r => r.weight * (h r.from_ - h r.to_ + D * r.rise)) p - D * dv s.readings (fun r => r.weight * (h' r.from_ - h' r.to_ + D' * r.rise)) p := by
      rw [← dv_mul, ← dv_mul, ← dv_sub]
      exact dv_congr (fun r _ => by grind) p
    rw [e, a.dv p p0 p1, b.dv p p0 p1]; omega) hc
  rw [a.root (rtOf s p) (by omega) (by omega) hr.2, b.root (rtOf s p) (by omega) (by omega) hr.2] at this
  omega
/-- What the rises ask of the points of a list. -/
def rB (s : Survey) (pts : List Int) (k : Nat) : Int := -dv s.readings (fun r => r.weight * r.rise) (gi pts k)
theorem rh_rise {s : Survey} (hs : SvOk s) (pts : List Int) : Rh s pts (rB s pts) (fun r => r.rise) 1000 0 (-1) := by
  refine ⟨by omega, by omega, by omega, fun r hr => ?_, fun j hj => ?_⟩
  · have := (hs.rd r hr).2.2.2.1; omega
  · unfold rB; split <;> omega
def hX (s : Survey) (pts : List Int) (p : Int) : Int := ext pts (Xb (Am s pts (rB s pts)) pts.length pts.length) p
theorem hX_dv {s : Survey} (hs : SvOk s) {pts : List Int} (hF : Fr s pts) {q : Int} (hq : q ∈ pts) : dv s.readings (fun r => r.weight * (hX s pts r.from_ - hX s pts r.to_ + Dm (Am s pts (rB s pts)) pts.length * r.rise)) q = 0 := by
  have hn := hF.n4
  obtain ⟨m, hm, e⟩ := gi_ex hq
  have h1 := Xb_dv hs hF (rh_rise hs pts) (i := pts.length) (j := m) (Nat.le_refl _) hm
  rw [cramer _ (by omega) hm, e] at h1
  have h2 : (if q = -1 then Dm (Am s pts (rB s pts)) pts.length * 0 else 0) - (0 : Int) = 0 := by split <;> omega
  rw [h2] at h1
  exact h1
theorem hX_abs {s : Survey} (hs : SvOk s) {pts : List Int} (hF : Fr s pts) (p : Int) : (hX s pts p).natAbs ≤ 4000 * (Dm (Am s pts (rB s pts)) pts.length).natAbs := by
  by_cases hp : p ∈ pts
  · obtain ⟨k, hk, e⟩ := gi_ex hp
    have h1 := Nb_small hs hF (rh_rise hs pts) (i := pts.length) (k := k) (Nat.le_refl _) hk
    have hD := D_pos (b := rB s pts) hs hF _ (Nat.le_refl _)
    have hn := hF.n4
    have h2 : hX s pts p = Xb (Am s pts (rB s pts)) pts.length pts.length k := by unfold hX; rw [← e, ext_at hF.nd _ hk]
    rw [h2]
    generalize Xb (Am s pts (rB s pts)) pts.length pts.length k = X at *
    generalize Dm (Am s pts (rB s pts)) pts.length = D at *
    have h3 : (pts.length : Int) * (D * (1000 + 0)) ≤ 4 * (D * (1000 + 0)) := Int.mul_le_mul_of_nonneg_right (by omega) (by omega)
    omega
  · have : hX s pts p = 0 := ext_out _ hp
    rw [this]; omega
def hB (s : Survey) (p : Int) : Int := hX s (freeL s) p
theorem gD_r {s : Survey} (hs : SvOk s) : Dm (Am s (freeL s) (rB s (freeL s))) (freeL s).length = gD s := Dm_any (fr_free hs).n4 _ _
theorem bh_best {s : Survey} (hs : SvOk s) : BH s (hB s) (gD s) := by
  have hF := fr_free hs
  refine ⟨(gD_ok hs).1, fun p p0 p1 hr => ext_out _ fun h => ((mem_free hs).1 h).2 hr, fun p p0 p1 => ?_⟩
  have hfree : ∀ p, 0 ≤ p → p < s.points → rtOf s p ≠ p → dv s.readings (fun r => r.weight * (hB s r.from_ - hB s r.to_ + gD s * r.rise)) p = 0 := fun p p0 p1 hp => by
    have := hX_dv hs hF ((mem_free hs).2 ⟨⟨p0, p1⟩, hp⟩)
    rw [gD_r hs] at this
    exact this
  by_cases hp : rtOf s p = p
  · exact dv_root hs _ (fun _ => 0) hfree ⟨p0, p1⟩ hp (sumN_zero fun k _ => by split <;> rfl)
  · exact hfree p p0 p1 hp
theorem hB_abs {s : Survey} (hs : SvOk s) (p : Int) : (hB s p).natAbs ≤ 4000 * (gD s).natAbs := by
  have := hX_abs hs (fr_free hs) p
  rw [gD_r hs] at this
  exact this
def bestV (s : Survey) (p : Int) : Rat := red (hB s p) (gD s)
theorem bestV_is {s : Survey} (hs : SvOk s) (p : Int) : Is (bestV s p) (hB s p) (gD s) := .red (by have := gD_ok hs; omega)
theorem dv_take (f : Reading → Int) (p : Int) : ∀ (l : List Reading) (i : Nat), i < l.length → dv (l.take (i + 1)) f p = dv (l.take i) f p + ((if (gr l i).from_ = p then f (gr l i) else 0) - (if (gr l i).to_ = p then f (gr l i) else 0))
  | [], i, h => by simp at h
  | x :: l, 0, h => by simp [dv, gr]
  | x :: l, i + 1, h => by
    have ih := dv_take f p l i (by simpa using h)
    have e : gr (x :: l) (i + 1) = gr l i := by simp [gr]
    rw [e, List.take_succ_cons, List.take_succ_cons]
    simp only [dv]
    rw [ih]; omega
def dw (s : Survey) (p : Int) (i : Nat) : Int := -dv (s.readings.take i) (fun r => r.weight * r.rise) p
theorem dw_succ {s : Survey} (p : Int) {i : Nat} (h : i < s.readings.length) : dw s p (i + 1) = dw s p i + ((if (gr s.readings i).to_ = p then (gr s.readings i).weight * (gr s.readings i).rise else 0) - (if (gr s.readings i).from_ = p then (gr s.readings i).weight * (gr s.readings i).rise else 0)) := by
  unfold dw
  rw [dv_take _ _ _ _ h]; omega
theorem wr_abs {s : Survey} (hs : SvOk s) {i : Nat} (h : i < s.readings.length) : ((gr s.readings i).weight * (gr s.readings i).rise).natAbs ≤ 3000 := by
  have := gr_ok hs h
  exact na_mul (A := 3) (B := 1000) (by omega) (by omega)
theorem dw_abs {s : Survey} (hs : SvOk s) (p : Int) : ∀ i, i ≤ s.readings.length → (dw s p i).natAbs ≤ i * 3000
  | 0, _ => by simp [dw, dv]
  | i + 1, hi => by
    have ih := dw_abs hs p i (by omega)
    have hw := wr_abs hs (i := i) (by omega)
    have hne := (gr_ok hs (i := i) (by omega)).2.2.1
    rw [dw_succ p (by omega)]
    generalize (gr s.readings i).weight * (gr s.readings i).rise = x at *
    split <;> split <;> omega
theorem dw_end (s : Survey) (pts : List Int) (k : Nat) : dw s (gi pts k) s.readings.length = rB s pts k := by unfold dw rB; rw [List.take_length]
theorem iota_sorted (n : Nat) : (iota n).Pairwise (· < ·) := by
  induction n with
  | zero => exact List.Pairwise.nil
  | succ n ih =>
    rw [iota_succ, List.pairwise_append]
    refine ⟨ih, by simp, fun a ha b hb => ?_⟩
    have := mem_iota.1 ha
    simp at hb
    omega
theorem part_drop {s : Survey} (hs : SvOk s) {q : Int} (hq : 0 ≤ q ∧ q < s.points) (hr : rtOf s q = q) : 1 ≤ (partOf (rootsOf s) q).length ∧ (partOf (rootsOf s) q).drop 1 = oneOf s q := by
  have hm : q ∈ partOf (rootsOf s) q := (part_mem hs).2 ⟨hq, hr⟩
  have hnd := part_nodup (s := s) q
  have hso : (partOf (rootsOf s) q).Pairwise (· < ·) := (iota_sorted _).filter _
  have hcut := part_cut hs q
  rw [hr] at hcut
  have hmem := fun x => part_mem hs (q := q) (p := x)
  generalize partOf (rootsOf s) q = l at *
  cases l with
  | nil => simp at hm
  | cons x l =>
    have hx := (hmem x).1 (by simp)
    have hle := (root_in hs hx.1).1
    have hxq : x = q := by
      rcases List.mem_cons.1 hm with h | h
      · exact h.symm
      · have := (List.pairwise_cons.1 hso).1 q h
        omega
    refine ⟨by simp, ?_⟩
    have := cut_filter (j := q) (x :: l) 0 hnd (by simp) hxq
    rw [← hcut, ← this]; rfl
def bestL (s : Survey) : List Rat := (iota s.points.toNat).map (bestV s)
end Go.D1

set_option linter.unusedVariables false
set_option linter.unusedSimpArgs false
namespace Go.D1
open Go.Tb
theorem free_eq {s : Survey} (hs : SvOk s) : ref01_free s = some (freeL s) := by
  have hp1 := hs.p1
  have hp5 := hs.p5
  have hl := (rootsOf_ok hs).len
  unfold ref01_free
  rw [bnd_eq (whole_eq hs)]
  refine for0 s.points.toNat (fun q => nodesOf q fun k => !decide (gi (rootsOf s) k.toNat = k)) (fun k l q => ref01_free_L1 s (rootsOf s) k q l) _ rfl (fun k q hq => ?_) (fun k => ?_) (by omega)
  · have hll := nodesOf_len q fun k => !decide (gi (rootsOf s) k.toNat = k)
    show ref01_free_B1 s (rootsOf s) (ref01_free_L1 s (rootsOf s) k) _ _ = _
    unfold ref01_free_B1 ref01_free_k2
    rw [if_pos (by omega), ix_nat (gi_at (by omega)), nodesOf_succ]
    by_cases h : gi (rootsOf s) q = (q : Int)
    · rw [if_pos h, gd_pos (by omega), if_neg (by simp [h]), List.append_nil]; rfl
    · rw [if_neg h, gd_pos (by simp; omega), gd_pos (by omega), if_pos (by simpa using h)]; rfl
  · show ref01_free_B1 s (rootsOf s) (ref01_free_L1 s (rootsOf s) k) _ _ = _
    unfold ref01_free_B1 ref01_free_k1
    rw [if_neg (by omega)]; rfl
theorem rB_abs {s : Survey} (hs : SvOk s) (pts : List Int) (k : Nat) : (rB s pts k).natAbs ≤ 24000 := by
  have h8 := hs.len
  have := dw_abs hs (gi pts k) s.readings.length (Nat.le_refl _)
  rw [dw_end] at this
  omega
/-- The table with one column changed. -/
def chg (s : Survey) (pts : List Int) (k t : Nat) : List (List Int) := (List.range t).map fun i => (lrow s pts i).set k (rB s pts i)
theorem lrow_at {s : Survey} {pts : List Int} {i : Nat} (hi : i < pts.length) : (lapR s pts)[i]? = some (lrow s pts i) := by
  unfold lapR
  rw [List.getElem?_map, List.getElem?_range hi]; rfl
theorem lrow_ok {s : Survey} (hs : SvOk s) {pts : List Int} {i : Nat} (hi : i < pts.length) : (lrow s pts i).length = pts.length ∧ ∀ x ∈ lrow s pts i, -24 ≤ x ∧ x ≤ 24 :=
  (lap_sq hs pts).row _ (List.mem_of_getElem? (lrow_at hi))
theorem chg_sq {s : Survey} (hs : SvOk s) (pts : List Int) (k : Nat) : Sq pts.length 24000 (chg s pts k pts.length) := by
  refine ⟨by unfold chg; simp, fun r hr => ?_⟩
  unfold chg at hr
  obtain ⟨i, hi, rfl⟩ := List.mem_map.1 hr
  have hl := lrow_ok hs (pts := pts) (i := i) (by simpa using hi)
  refine ⟨by rw [List.length_set]; exact hl.1, fun x hx => ?_⟩
  rcases List.mem_or_eq_of_mem_set hx with h | rfl
  · have := hl.2 x h; omega
  · have := rB_abs hs pts i; omega
theorem chg_dt {s : Survey} {pts : List Int} (hn : pts.length ≤ 4) {k : Nat} (hk : k < pts.length) : dt pts.length (chg s pts k pts.length) = Nm (Am s pts (rB s pts)) pts.length k pts.length := by
  rw [dt_dtf, dtf_Dm hn, Nm_Dm hn hk]
  refine Dm_congr hn fun i j hi hj => ?_
  have h1 : gl (chg s pts k pts.length) i = (lrow s pts i).set k (rB s pts i) := by
    unfold gl chg
    rw [List.getD_eq_getElem?_getD, List.getElem?_map, List.getElem?_range hi]; rfl
  have h2 : gi (lrow s pts i) j = lent s pts i j := by
    have := en_lap (s := s) hi hj
    unfold en at this
    have e : gl (lapR s pts) i = lrow s pts i := by
      unfold gl
      rw [List.getD_eq_getElem?_getD, lrow_at hi]; rfl
    rw [e] at this
    exact this
  unfold en
  rw [h1, gi_set]
  have hll : (lrow s pts i).length = pts.length := by unfold lrow; simp
  by_cases e : j = k
  · subst e
    rw [if_pos ⟨rfl, by omega⟩]
    simp only [if_true]
    unfold Am; rw [if_neg (by omega)]
  · rw [if_neg (by omega), h2, if_neg e]
    unfold Am; rw [if_pos hj]
theorem chg_det {s : Survey} (hs : SvOk s) {pts : List Int} (hn : pts.length ≤ 4) {k : Nat} (hk : k < pts.length) : ref01_det (chg s pts k pts.length) = some (Nm (Am s pts (rB s pts)) pts.length k pts.length) := by
  rw [← chg_dt hn hk]
  have hbd : ∀ m, m < 5 → bd 24000 m ≤ 9223372036854775807 := by decide
  exact det_F_eq (B := 24000) (by omega) pts.length FU _ (by omega) (hbd _ (by omega)) (chg_sq hs pts k) (by have := FU_pos; omega)
def rbL (s : Survey) (pts : List Int) (t : Nat) : List Int := (List.range t).map (rB s pts)
theorem rbL_gi {s : Survey} {pts : List Int} {t i : Nat} (h : i < t) : (rbL s pts t)[i]? = some (rB s pts i) := by
  unfold rbL
  rw [List.getElem?_map, List.getElem?_range h]; rfl
theorem rbest_eq {s : Survey} (hs : SvOk s) : ref01_best s = some ((iota s.points.toNat).map (hB s), gD s) := by
  have hp1 := hs.p1
  have hp5 := hs.p5
  have h8 := hs.len
  have hF := fr_free hs
  have hn := hF.n4
  unfold ref01_best
  rw [bnd_eq (free_eq hs), bnd_eq (laplace_eq hs (by omega))]
  refine for0 (freeL s).length (rbL s (freeL s)) (fun k l i => ref01_best_L4 s (freeL s) (lapR s (freeL s)) k i l) _ rfl (fun k i hi => ?_) (fun k => ?_) (by omega)
  · show ref01_best_B4 s (freeL s) (lapR s (freeL s)) (ref01_best_L4 s (freeL s) (lapR s (freeL s)) k) _ _ = _
    unfold ref01_best_B4
    rw [if_pos (by omega)]
    refine for0 s.readings.length (dw s (gi (freeL s) i)) (fun n x t => ref01_best_L3 s (freeL s) (i : Int) (rbL s (freeL s) i) (ref01_best_L4 s (freeL s) (lapR s (freeL s)) k) n x t) _ (by simp [dw, dv]) (fun n t ht => ?_) (fun n => ?_) (by omega)
    · have hr := gr_ok hs ht
      have hw := wr_abs hs ht
      have ha := dw_abs hs (gi (freeL s) i) t (by omega)
      show ref01_best_B3 s (freeL s) (i : Int) (rbL s (freeL s) i) (ref01_best_L4 s (freeL s) (lapR s (freeL s)) k) (ref01_best_L3 s (freeL s) (i : Int) (rbL s (freeL s) i) (ref01_best_L4 s (freeL s) (lapR s (freeL s)) k) n) _ _ = _
      unfold ref01_best_B3 ref01_best_k8 ref01_best_k7
      rw [if_pos (by omega), ix_nat (gr_at ht), ix_nat (gi_at hi), dw_succ _ ht]
      by_cases h1 : (gr s.readings t).to_ = gi (freeL s) i
      · have h2 : ¬ (gr s.readings t).from_ = gi (freeL s) i := by omega
        rw [if_pos h1, gd_pos (by omega), gd_pos (by omega), ix_nat (gi_at hi), if_neg h2, gd_pos (by omega), if_pos h1, if_neg h2, Int.sub_zero]; rfl
      · rw [if_neg h1, ix_nat (gi_at hi)]
        by_cases h2 : (gr s.readings t).from_ = gi (freeL s) i
        · rw [if_pos h2, gd_pos (by omega), gd_pos (by omega), gd_pos (by omega), if_neg h1, if_pos h2, show ∀ x y : Int, x + (0 - y) = x - y from fun x y => by omega]; rfl
        · rw [if_neg h2, gd_pos (by omega), if_neg h1, if_neg h2, Int.sub_zero, Int.add_zero]; rfl
    · show ref01_best_B3 s (freeL s) (i : Int) (rbL s (freeL s) i) (ref01_best_L4 s (freeL s) (lapR s (freeL s)) k) (ref01_best_L3 s (freeL s) (i : Int) (rbL s (freeL s) i) (ref01_best_L4 s (freeL s) (lapR s (freeL s)) k) n) _ _ = _
      have hlen : (rbL s (freeL s) i).length = i := by unfold rbL; simp
      unfold ref01_best_B3 ref01_best_k6 ref01_best_k5
      rw [if_neg (by omega), gd_pos (by simp; omega), gd_pos (by omega), dw_end]
      have : rbL s (freeL s) (i + 1) = rbL s (freeL s) i ++ [rB s (freeL s) i] := by unfold rbL; rw [List.range_succ, List.map_append]; rfl
      rw [this]; rfl
  · show ref01_best_B4 s (freeL s) (lapR s (freeL s)) (ref01_best_L4 s (freeL s) (lapR s (freeL s)) k) _ _ = _
    unfold ref01_best_B4 ref01_best_k4
    rw [if_neg (by omega), gd_pos (by omega)]
    obtain ⟨l, ⟨l1, l2⟩, l3⟩ := ex_loop (freeL s).length (fun t (l : List Int) => l.length = s.points.toNat ∧ ∀ p : Nat, p < s.points.toNat → gi l p = ext (freeL s) (fun j => if j < t then Nm (Am s (freeL s) (rB s (freeL s))) (freeL s).length j (freeL s).length else 0) p)
      (fun n l t => ref01_best_L2 (freeL s) (lapR s (freeL s)) (rbL s (freeL s) (freeL s).length) n t l) (fun l => some (l, gD s)) (fun n t l ht ⟨i1, i2⟩ => by
        have hm := (mem_free hs).1 (gi_mem ht)
        refine ⟨l.set (gi (freeL s) t).toNat (Nm (Am s (freeL s) (rB s (freeL s))) (freeL s).length t (freeL s).length), ⟨by rw [List.length_set, i1], fun p hp => ?_⟩, ?_⟩
        · rw [gi_set]
          by_cases e : (gi (freeL s) t).toNat = p
          · have e' : (p : Int) = gi (freeL s) t := by omega
            rw [if_pos ⟨e, by omega⟩, e', ext_at hF.nd _ ht, if_pos (by omega)]
          · rw [if_neg (by omega), i2 p hp]
            unfold ext
            refine sumN_congr fun j hj => ?_
            by_cases e2 : j = t
            · subst e2
              rw [if_neg (by omega), if_neg (by omega)]
            · by_cases e3 : j < t
              · simp only []
                rw [if_pos e3, if_pos (show j < t + 1 by omega)]
              · simp only []
                rw [if_neg e3, if_neg (show ¬ j < t + 1 by omega)]
        · show ref01_best_B2 (freeL s) (lapR s (freeL s)) (rbL s (freeL s) (freeL s).length) (ref01_best_L2 (freeL s) (lapR s (freeL s)) (rbL s (freeL s) (freeL s).length) n) _ _ = _
          unfold ref01_best_B2
          rw [if_pos (by omega)]
          refine for0 (freeL s).length (chg s (freeL s) t) (fun n' m i => ref01_best_L1 (freeL s) (lapR s (freeL s)) (rbL s (freeL s) (freeL s).length) (t : Int) l (ref01_best_L2 (freeL s) (lapR s (freeL s)) (rbL s (freeL s) (freeL s).length) n) n' i m) _ rfl (fun n' i hi => ?_) (fun n' => ?_) (by omega)
          · show ref01_best_B1 (freeL s) (lapR s (freeL s)) (rbL s (freeL s) (freeL s).length) (t : Int) l (ref01_best_L2 (freeL s) (lapR s (freeL s)) (rbL s (freeL s) (freeL s).length) n) (ref01_best_L1 (freeL s) (lapR s (freeL s)) (rbL s (freeL s) (freeL s).length) (t : Int) l (ref01_best_L2 (freeL s) (lapR s (freeL s)) (rbL s (freeL s) (freeL s).length) n) n') _ _ = _
            have hll := (lrow_ok hs hi).1
            have hlap : (lapR s (freeL s)).length = (freeL s).length := by unfold lapR; simp
            have hcl : (chg s (freeL s) t i).length = i := by unfold chg; simp
            have hc : chg s (freeL s) t (i + 1) = chg s (freeL s) t i ++ [(lrow s (freeL s) i).set t (rB s (freeL s) i)] := by unfold chg; rw [List.range_succ, List.map_append]; rfl
            unfold ref01_best_B1
            rw [if_pos (by omega), ix_nat (lrow_at hi), gd_pos (by simp; omega), ix_nat (rbL_gi hi), List.nil_append, ix_nat (gi_at (show t < (lrow s (freeL s) i).length by omega)), gd_pos (by omega), gd_pos (by omega), hc]; rfl
          · show ref01_best_B1 (freeL s) (lapR s (freeL s)) (rbL s (freeL s) (freeL s).length) (t : Int) l (ref01_best_L2 (freeL s) (lapR s (freeL s)) (rbL s (freeL s) (freeL s).length) n) (ref01_best_L1 (freeL s) (lapR s (freeL s)) (rbL s (freeL s) (freeL s).length) (t : Int) l (ref01_best_L2 (freeL s) (lapR s (freeL s)) (rbL s (freeL s) (freeL s).length) n) n') _ _ = _
            have hlap : (lapR s (freeL s)).length = (freeL s).length := by unfold lapR; simp
            unfold ref01_best_B1 ref01_best_k3 ref01_best_k2
            rw [if_neg (by omega), ix_nat (gi_at ht), bnd_eq (chg_det hs hn ht), ix_eq hm.1.1 (gi_at (show (gi (freeL s) t).toNat < l.length by omega)), gd_pos (by omega)]; rfl) (fun n l _ => by
        show ref01_best_B2 (freeL s) (lapR s (freeL s)) (rbL s (freeL s) (freeL s).length) (ref01_best_L2 (freeL s) (lapR s (freeL s)) (rbL s (freeL s) (freeL s).length) n) _ _ = _
        unfold ref01_best_B2 ref01_best_k1
        rw [if_neg (by omega), bnd_eq (detL_eq hs (by omega)), detL_Dm hn (fun _ => 0)]; rfl) (by omega) (i0 := 0) (by omega) (s0 := List.replicate s.points.toNat 0) ⟨by simp, fun p hp => by
        have e1 : gi (List.replicate s.points.toNat (0 : Int)) p = 0 := by simp [gi, List.getD_eq_getElem?_getD, hp]
        rw [e1]
        unfold ext
        exact (sumN_zero fun j _ => by simp).symm⟩
    have e : l = (iota s.points.toNat).map (hB s) := by
      apply List.ext_getElem?
      intro p
      by_cases hp : p < s.points.toNat
      · rw [gi_at (by omega), l2 p hp, List.getElem?_map, gi_at (by rw [iota_len]; exact hp), iota_gi hp]; rfl
      · rw [List.getElem?_eq_none (by omega), List.getElem?_eq_none (by rw [List.length_map, iota_len]; omega)]
    rw [← e]
    exact l3
theorem hBL_at {s : Survey} {p : Int} (h : 0 ≤ p ∧ p < s.points) : ((iota s.points.toNat).map (hB s))[p.toNat]? = some (hB s p) := by
  rw [List.getElem?_map, gi_at (by rw [iota_len]; omega), iota_gi (by omega), show ((p.toNat : Nat) : Int) = p by omega]; rfl
theorem bestL_at {s : Survey} {p : Int} (h : 0 ≤ p ∧ p < s.points) : (bestL s)[p.toNat]? = some (bestV s p) := by
  unfold bestL
  rw [List.getElem?_map, gi_at (by rw [iota_len]; omega), iota_gi (by omega), show ((p.toNat : Nat) : Int) = p by omega]; rfl
theorem hBL_len (s : Survey) : ((iota s.points.toNat).map (hB s)).length = s.points.toNat := by rw [List.length_map, iota_len]
theorem take_at {α β : Type} (f : α → β) {l : List α} {t : Nat} {x : α} (h : l[t]? = some x) : (l.take (t + 1)).map f = (l.take t).map f ++ [f x] := by
  rw [List.take_add_one, h, List.map_append]; rfl
theorem rBest_eq (s : Survey) : ref01_Best s = some (if validate s = 0 then (bestL s, 0) else ([], validate s)) := by
  unfold ref01_Best
  rw [bnd_eq (rValidate_eq s)]
  by_cases hv : validate s = 0
  · have hs := val0.1 hv
    have hp5 := hs.p5
    have hG := gD_ok hs
    rw [if_pos hv, if_pos hv, bnd_eq (rbest_eq hs)]
    refine for0 s.points.toNat (fun t => ((iota s.points.toNat).take t).map (bestV s)) (fun n l t => ref01_Best_L1 ((iota s.points.toNat).map (hB s), gD s) n t l) _ rfl (fun n t ht => ?_) (fun n => ?_) (by omega)
    · have hx : ((iota s.points.toNat).map (hB s))[t]? = some (hB s (t : Int)) := hBL_at (s := s) (p := (t : Int)) (by omega)
      have hi : (iota s.points.toNat)[t]? = some (t : Int) := by rw [gi_at (by rw [iota_len]; exact ht), iota_gi ht]
      have hl := hBL_len s
      have ha := hB_abs hs (t : Int)
      show ref01_Best_B1 ((iota s.points.toNat).map (hB s), gD s) (ref01_Best_L1 ((iota s.points.toNat).map (hB s), gD s) n) _ _ = _
      unfold ref01_Best_B1
      rw [if_pos (by simp only; omega)]
      simp only
      rw [ix_nat hx, bnd_eq (Ratio_eq (by omega) (sm_abs.2 (by omega)) (sm_abs.2 (by omega))), gd_pos (by simp [iota_len]; omega), gd_pos (by omega), take_at _ hi]; rfl
    · have hl := hBL_len s
      show ref01_Best_B1 ((iota s.points.toNat).map (hB s), gD s) (ref01_Best_L1 ((iota s.points.toNat).map (hB s), gD s) n) _ _ = _
      unfold ref01_Best_B1 ref01_Best_k1
      rw [if_neg (by simp only; omega), List.take_of_length_le (by rw [iota_len]; omega)]; rfl
  · rw [if_neg hv, if_neg hv]
end Go.D1

set_option linter.unusedVariables false
set_option linter.unusedSimpArgs false
namespace Go.D1
open Go.Tb
/-- A claim is right. -/
def GoodT (s : Survey) (t : Table) : Prop := ∀ p : Nat, p < s.points.toNat → gi t.num p * gD s = hB s p * t.den
def tR (t : Table) (r : Reading) : Int := r.weight * (r.rise * t.den - gi t.num r.to_.toNat + gi t.num r.from_.toNat)
theorem part_head {s : Survey} (hs : SvOk s) {q : Int} (hq : 0 ≤ q ∧ q < s.points) (hr : rtOf s q = q) : (partOf (rootsOf s) q)[0]? = some q := by
  obtain ⟨h1, h2⟩ := part_drop hs hq hr
  have hm : q ∈ partOf (rootsOf s) q := (part_mem hs).2 ⟨hq, hr⟩
  generalize partOf (rootsOf s) q = l at *
  cases l with
  | nil => simp at h1
  | cons x l =>
    rcases List.mem_cons.1 hm with h | h
    · rw [h]; rfl
    · have : q ∈ oneOf s q := by rw [← h2]; exact h
      exact absurd rfl ((mem_oneOf hs).1 this).2.2
theorem good_bh {s : Survey} (hs : SvOk s) {t : Table} (hd : 0 < t.den) : BH s (fun p => gi t.num p.toNat) t.den ↔ GoodT s t := by
  have hG := gD_ok hs
  have hb := bh_best hs
  constructor
  · intro h p hp
    have := bh_uniq hs h hb (p := (p : Int)) (by omega)
    rw [Int.toNat_natCast] at this
    exact this
  · intro h
    have h' : ∀ p : Int, 0 ≤ p → p < s.points → gi t.num p.toNat * gD s = hB s p * t.den := fun p p0 p1 => by
      have := h p.toNat (by omega)
      rw [show ((p.toNat : Nat) : Int) = p by omega] at this
      exact this
    refine ⟨hd, fun p p0 p1 hr => ?_, fun p p0 p1 => ?_⟩
    · have := h' p p0 p1
      rw [hb.root p p0 p1 hr, Int.zero_mul] at this
      rcases Int.mul_eq_zero.1 this with h | h
      · exact h
      · omega
    · have e : gD s * dv s.readings (fun r => r.weight * (gi t.num r.from_.toNat - gi t.num r.to_.toNat + t.den * r.rise)) p = t.den * dv s.readings (fun r => r.weight * (hB s r.from_ - hB s r.to_ + gD s * r.rise)) p := by
        rw [← dv_mul, ← dv_mul]
        refine dv_congr (fun r hr => ?_) p
        have hrr := hs.rd r hr
        have h1 := h' r.from_ hrr.1.1 hrr.1.2
        have h2 := h' r.to_ hrr.2.1.1 hrr.2.1.2
        grind
      rw [hb.dv p p0 p1, Int.mul_zero] at e
      rcases Int.mul_eq_zero.1 e with h | h
      · omega
      · exact h
/-- The sums of a claim. -/
def sumL (s : Survey) (t : Table) (k : Nat) : List Int := (iota s.points.toNat).map fun p => -dv (s.readings.take k) (tR t) p
theorem sumL_gi {s : Survey} {t : Table} {k p : Nat} (h : p < s.points.toNat) : gi (sumL s t k) p = -dv (s.readings.take k) (tR t) (p : Int) := by
  apply gi_of
  unfold sumL
  rw [List.getElem?_map, gi_at (by rw [iota_len]; exact h), iota_gi h]; rfl
theorem sumL_len (s : Survey) (t : Table) (k : Nat) : (sumL s t k).length = s.points.toNat := by unfold sumL; rw [List.length_map, iota_len]
theorem sumL_succ {s : Survey} (hs : SvOk s) {t : Table} {k : Nat} (hk : k < s.readings.length) :
    ((sumL s t k).set (gr s.readings k).to_.toNat (gi (sumL s t k) (gr s.readings k).to_.toNat + tR t (gr s.readings k))).set (gr s.readings k).from_.toNat (gi (sumL s t k) (gr s.readings k).from_.toNat - tR t (gr s.readings k)) = sumL s t (k + 1) := by
  have hr := gr_ok hs hk
  have hl := sumL_len s t k
  refine gi_ext (by rw [List.length_set, List.length_set, hl, sumL_len]) fun j hj => ?_
  rw [List.length_set, List.length_set, hl] at hj
  rw [gi_set, gi_set, List.length_set, hl, sumL_gi (k := k + 1) hj, dv_take _ _ _ _ hk]
  rw [show dv (s.readings.take k) (tR t) (j : Int) = -gi (sumL s t k) j by rw [sumL_gi hj]; omega]
  generalize gr s.readings k = r at *
  by_cases h1 : r.from_.toNat = j
  · rw [if_pos ⟨h1, hj⟩, if_pos (by omega), if_neg (by omega), h1]; omega
  · rw [if_neg (fun h => h1 h.1), if_neg (show ¬ r.from_ = (j : Int) by omega)]
    by_cases h2 : r.to_.toNat = j
    · rw [if_pos ⟨h2, hj⟩, if_pos (by omega), h2]; omega
    · rw [if_neg (fun h => h2 h.1), if_neg (show ¬ r.to_ = (j : Int) by omega)]; omega
def okT (s : Survey) (t : Table) : Bool := within t.den 1 1000000 && decide ((t.num.length : Int) = s.points) && t.num.all fun x => within x (-1000000000) 1000000000
theorem okT_iff {s : Survey} {t : Table} : okT s t = true ↔ (1 ≤ t.den ∧ t.den ≤ 1000000) ∧ (t.num.length : Int) = s.points ∧ ∀ x ∈ t.num, -1000000000 ≤ x ∧ x ≤ 1000000000 := by
  unfold okT
  rw [Bool.and_eq_true, Bool.and_eq_true, within_iff, decide_eq_true_eq, List.all_eq_true]
  constructor
  · intro ⟨⟨h1, h2⟩, h3⟩; exact ⟨h1, h2, fun x hx => within_iff.1 (h3 x hx)⟩
  · intro ⟨h1, h2, h3⟩; exact ⟨⟨h1, h2⟩, fun x hx => within_iff.2 (h3 x hx)⟩
theorem tR_abs {s : Survey} (hs : SvOk s) {t : Table} (ht : okT s t = true) {r : Reading} (hr : r ∈ s.readings) :
    t.num[r.to_.toNat]? = some (gi t.num r.to_.toNat) ∧ t.num[r.from_.toNat]? = some (gi t.num r.from_.toNat) ∧ InR (r.rise * t.den) ∧ InR (r.rise * t.den - gi t.num r.to_.toNat) ∧ InR (r.rise * t.den - gi t.num r.to_.toNat + gi t.num r.from_.toNat) ∧ (tR t r).natAbs ≤ 9000000000 := by
  obtain ⟨h1, h2, h3⟩ := okT_iff.1 ht
  have hrr := hs.rd r hr
  have x1 := gi_at (l := t.num) (i := r.to_.toNat) (by omega)
  have x2 := gi_at (l := t.num) (i := r.from_.toNat) (by omega)
  have b1 := h3 _ (List.mem_of_getElem? x1)
  have b2 := h3 _ (List.mem_of_getElem? x2)
  have m1 := na_mul (a := r.rise) (b := t.den) (A := 1000) (B := 1000000) (by omega) (by omega)
  have m2 := na_mul (a := r.weight) (b := r.rise * t.den - gi t.num r.to_.toNat + gi t.num r.from_.toNat) (A := 3) (B := 3000000000) (by omega) (by omega)
  exact ⟨x1, x2, by omega, by omega, by omega, m2⟩
theorem sumL_abs {s : Survey} (hs : SvOk s) {t : Table} (ht : okT s t = true) (p : Int) : ∀ k, k ≤ s.readings.length → (dv (s.readings.take k) (tR t) p).natAbs ≤ k * 9000000000
  | 0, _ => by simp [dv]
  | k + 1, hk => by
    have ih := sumL_abs hs ht p k (by omega)
    have h := (tR_abs hs ht (gr_mem (t := k) (by omega))).2.2.2.2.2
    have hne := (gr_ok hs (i := k) (by omega)).2.2.1
    rw [dv_take _ _ _ _ (by omega)]
    split <;> split <;> omega
/-- The program's check of a claim that is in its bounds. -/
theorem check_loop {s : Survey} (hs : SvOk s) {t : Table} (ht : okT s t = true) : (GoodT s t → level_CheckBest_k3 s t false = some 0) ∧ (¬ GoodT s t → level_CheckBest_k3 s t false = some 7) := by
  obtain ⟨h1, h2, h3⟩ := okT_iff.1 ht
  have hp1 := hs.p1
  have hp5 := hs.p5
  have h8 := hs.len
  have hPl := parts_len hs
  have e : level_CheckBest_k3 s t false = level_CheckBest_k2 s t (sumL s t s.readings.length) := by
    unfold level_CheckBest_k3
    rw [if_neg (by simp), gd_pos (by omega)]
    refine for0 s.readings.length (sumL s t) (fun n l k => level_CheckBest_L2 s t n k l) _ (by
      unfold sumL
      simp only [List.take_zero, dv]
      apply List.ext_getElem?
      intro j
      rw [List.getElem?_map, List.getElem?_replicate]
      by_cases hj : j < s.points.toNat
      · rw [if_pos hj, gi_at (by rw [iota_len]; exact hj)]; rfl
      · rw [if_neg hj, List.getElem?_eq_none (by rw [iota_len]; omega)]; rfl) (fun n k hk => ?_) (fun n => ?_) (by omega)
    · have hr := gr_ok hs hk
      obtain ⟨x1, x2, g1, g2, g3, g4⟩ := tR_abs hs ht (gr_mem hk)
      have a1 := sumL_abs hs ht (gr s.readings k).to_ k (by omega)
      have a2 := sumL_abs hs ht (gr s.readings k).from_ k (by omega)
      have hl := sumL_len s t k
      have hx := gr_at hk
      have hsucc := sumL_succ hs (t := t) hk
      generalize gr s.readings k = r at *
      have y1 := gi_at (l := sumL s t k) (i := r.to_.toNat) (by omega)
      have y2 := gi_at (l := sumL s t k) (i := r.from_.toNat) (by omega)
      have v1 : gi (sumL s t k) r.to_.toNat = -dv (s.readings.take k) (tR t) r.to_ := by rw [sumL_gi (by omega), show ((r.to_.toNat : Nat) : Int) = r.to_ by omega]
      have v2 : gi (sumL s t k) r.from_.toNat = -dv (s.readings.take k) (tR t) r.from_ := by rw [sumL_gi (by omega), show ((r.from_.toNat : Nat) : Int) = r.from_ by omega]
      have y3 : ((sumL s t k).set r.to_.toNat (gi (sumL s t k) r.to_.toNat + tR t r))[r.from_.toNat]? = some (gi (sumL s t k) r.from_.toNat) := by
        rw [List.getElem?_set, if_neg (by omega)]; exact y2
      show level_CheckBest_B2 s t (level_CheckBest_L2 s t n) _ _ = _
      unfold level_CheckBest_B2
      rw [if_pos (by omega), ix_nat hx, gd_pos g1, ix_eq hr.2.1.1 x1, gd_pos g2, ix_eq hr.1.1 x2, gd_pos g3]
      show gd (InR (tR t r)) (ix (sumL s t k) r.to_ fun x7 => gd (InR (x7 + tR t r)) <| ix (sumL s t k) r.to_ fun x8 => ix ((sumL s t k).set (Int.toNat r.to_) (x7 + tR t r)) r.from_ fun x9 => gd (InR (x9 - tR t r)) <| ix ((sumL s t k).set (Int.toNat r.to_) (x7 + tR t r)) r.from_ fun x10 => gd (InR ((k : Int) + 1)) <| level_CheckBest_L2 s t n ((k : Int) + 1) (((sumL s t k).set (Int.toNat r.to_) (x7 + tR t r)).set (Int.toNat r.from_) (x9 - tR t r))) = _
      rw [gd_pos (by omega), ix_eq hr.2.1.1 y1, gd_pos (by omega), ix_eq hr.2.1.1 y1, ix_eq hr.1.1 y3, gd_pos (by omega), ix_eq hr.1.1 y3, gd_pos (by omega), hsucc]; rfl
    · show level_CheckBest_B2 s t (level_CheckBest_L2 s t n) _ _ = _
      unfold level_CheckBest_B2
      rw [if_neg (by omega)]
  have hk1 : level_CheckBest_k1 (sumL s t s.readings.length) = some (if (sumL s t s.readings.length).any (fun x => !decide (x = 0)) = true then 7 else 0) := by
    have hl := sumL_len s t s.readings.length
    unfold level_CheckBest_k1
    rw [bnd_eq (has_eq (f := level_CheckBest_2) (p := fun x => !decide (x = 0)) (by omega) (fun x _ => rfl))]
    split <;> rfl
  have e2 : level_CheckBest_k2 s t (sumL s t s.readings.length) = if (partsR s).all (fun x => decide (gi t.num (gi x 0).toNat = 0)) = true then some (if (sumL s t s.readings.length).any (fun x => !decide (x = 0)) = true then 7 else 0) else some 7 := by
    unfold level_CheckBest_k2
    rw [bnd_eq (parts_eq hs)]
    refine list_loop0 (partsR s) (fun x => decide (gi t.num (gi x 0).toNat = 0)) (level_CheckBest_L1 t (sumL s t s.readings.length) (partsR s)) _ _ (fun n i x hx => ?_) (fun n => ?_) (by omega)
    · have hi := lt_of_at hx
      obtain ⟨q, hq1, hq2, rfl⟩ := (parts_mem hs).1 (List.mem_of_getElem? hx)
      have hh := part_head hs hq1 hq2
      have hg : gi (partOf (rootsOf s) q) 0 = q := gi_of hh
      show level_CheckBest_B1 t (sumL s t s.readings.length) (partsR s) (level_CheckBest_L1 t (sumL s t s.readings.length) (partsR s) n) _ = _
      unfold level_CheckBest_B1
      rw [if_pos (by omega), ix_nat hx, ix0 hh, ix_eq hq1.1 (gi_at (show q.toNat < t.num.length by omega)), hg, gd_pos (by omega)]
      by_cases h0 : gi t.num q.toNat = 0
      · rw [if_pos h0, if_pos (decide_eq_true h0)]; rfl
      · rw [if_neg h0, if_neg (by simpa using h0)]
    · show level_CheckBest_B1 t (sumL s t s.readings.length) (partsR s) (level_CheckBest_L1 t (sumL s t s.readings.length) (partsR s) n) _ = _
      unfold level_CheckBest_B1
      rw [if_neg (by omega), hk1]
  have hroots : (partsR s).all (fun x => decide (gi t.num (gi x 0).toNat = 0)) = true ↔ ∀ p, 0 ≤ p → p < s.points → rtOf s p = p → gi t.num p.toNat = 0 := by
    rw [List.all_eq_true]
    constructor
    · intro h p p0 p1 hr
      have := of_decide_eq_true (h _ ((parts_mem hs).2 ⟨p, ⟨p0, p1⟩, hr, rfl⟩))
      rw [gi_of (part_head hs ⟨p0, p1⟩ hr)] at this
      exact this
    · intro h x hx
      obtain ⟨q, hq1, hq2, rfl⟩ := (parts_mem hs).1 hx
      rw [gi_of (part_head hs hq1 hq2)]
      exact decide_eq_true (h q hq1.1 hq1.2 hq2)
  have hdv : ∀ p, dv s.readings (fun r => r.weight * (gi t.num r.from_.toNat - gi t.num r.to_.toNat + t.den * r.rise)) p = dv s.readings (tR t) p := fun p => dv_congr (fun r _ => by unfold tR; grind) p
  have hany : (sumL s t s.readings.length).any (fun x => !decide (x = 0)) = true ↔ ¬ ∀ p, 0 ≤ p → p < s.points → dv s.readings (tR t) p = 0 := by
    rw [List.any_eq_true]
    constructor
    · intro ⟨x, hx, hx0⟩ hall
      unfold sumL at hx
      obtain ⟨p, hp, rfl⟩ := List.mem_map.1 hx
      have hp' := mem_iota.1 hp
      rw [List.take_length, hall p hp'.1 (by omega)] at hx0
      simp at hx0
    · intro hn
      by_cases hex : ∃ x ∈ sumL s t s.readings.length, (!decide (x = 0)) = true
      · exact hex
      · exfalso
        refine hn fun p p0 p1 => ?_
        by_cases h0 : dv s.readings (tR t) p = 0
        · exact h0
        · exfalso
          refine hex ⟨-dv s.readings (tR t) p, ?_, by simp; omega⟩
          unfold sumL
          rw [List.take_length]
          exact List.mem_map.2 ⟨p, mem_iota.2 (by omega), rfl⟩
  rw [e, e2, ← good_bh hs (by omega)]
  constructor
  · intro h
    rw [if_pos (hroots.2 h.root), if_neg]
    intro ha
    refine hany.1 ha fun p p0 p1 => ?_
    rw [← hdv]; exact h.dv p p0 p1
  · intro h
    by_cases hR : (partsR s).all (fun x => decide (gi t.num (gi x 0).toNat = 0)) = true
    · rw [if_pos hR, if_pos]
      refine hany.2 fun hall => h ⟨by omega, hroots.1 hR, fun p p0 p1 => ?_⟩
      exact (hdv p).trans (hall p p0 p1)
    · rw [if_neg hR]
theorem CheckBest_eq {s : Survey} {t : Table} (hl : t.num.length ≤ 1000) : level_CheckBest s t = if validate s = 0 then (if okT s t = true then level_CheckBest_k3 s t false else some 1) else some (validate s) := by
  unfold level_CheckBest okT
  rw [bnd_eq (Validate_eq s)]
  by_cases hv : validate s = 0
  · rw [if_pos hv, if_pos hv, bnd_eq (lwithin_eq _ _ _)]
    cases h1 : within t.den 1 1000000
    · rw [if_neg (by simp), if_neg (by simp)]; rfl
    · rw [if_pos rfl]
      by_cases h2 : (t.num.length : Int) = s.points
      · rw [if_pos h2, decide_eq_true h2, bnd_eq (has_eq (f := level_CheckBest_1) (p := fun x => !within x (-1000000000) 1000000000) hl (fun x _ => by
          unfold level_CheckBest_1
          rw [bnd_eq (lwithin_eq _ _ _)]))]
        cases h3 : t.num.any fun x => !within x (-1000000000) 1000000000
        · have : (t.num.all fun x => within x (-1000000000) 1000000000) = true := by
            rw [List.any_eq_false] at h3
            rw [List.all_eq_true]
            intro x hx
            have := h3 x hx
            simpa using this
          rw [this, if_pos (by rfl)]
        · have : (t.num.all fun x => within x (-1000000000) 1000000000) = false := by
            rw [List.any_eq_true] at h3
            obtain ⟨x, hx, h⟩ := h3
            rw [List.all_eq_false]
            exact ⟨x, hx, by simpa using h⟩
          rw [this, if_neg (by simp)]; rfl
      · rw [if_neg h2, decide_eq_false h2, if_neg (by simp)]; rfl
  · rw [if_neg hv, if_neg hv]
theorem rcheck_loop {s : Survey} (hs : SvOk s) {t : Table} (ht : okT s t = true) : (GoodT s t → ref01_CheckBest_k2 s t = some 0) ∧ (¬ GoodT s t → ref01_CheckBest_k2 s t = some 7) := by
  obtain ⟨h1, h2, h3⟩ := okT_iff.1 ht
  have hp1 := hs.p1
  have hp5 := hs.p5
  have hG := gD_ok hs
  have e : ref01_CheckBest_k2 s t = if (∀ j, j < t.num.length → (fun i => decide (gi t.num i * gD s = hB s (i : Int) * t.den)) j = true) then some 0 else some 7 := by
    unfold ref01_CheckBest_k2
    rw [bnd_eq (rBest_eq s), if_pos (val0.2 hs)]
    refine scan_loop0 t.num.length (fun i => decide (gi t.num i * gD s = hB s (i : Int) * t.den)) (fun _ => ()) (fun n _ i => ref01_CheckBest_L1 t (bestL s, 0) n i) _ _ (fun n i hi => ?_) (fun n => ?_) (by omega)
    · have hx := gi_at hi
      have hb := h3 _ (List.mem_of_getElem? hx)
      have hx2 : (bestL s)[i]? = some (bestV s (i : Int)) := bestL_at (s := s) (p := (i : Int)) (by omega)
      have hI := Is.red (n := gi t.num i) (d := t.den) (by omega)
      show ref01_CheckBest_B1 t (bestL s, 0) (ref01_CheckBest_L1 t (bestL s, 0) n) _ = _
      unfold ref01_CheckBest_B1
      rw [if_pos (by omega), ix_nat hx, bnd_eq (Ratio_eq (by omega) (sm_abs.2 (by omega)) (sm_abs.2 (by omega)))]
      simp only
      rw [ix_nat hx2, gd_pos (by omega)]
      by_cases h0 : gi t.num i * gD s = hB s (i : Int) * t.den
      · have : red (gi t.num i) t.den = bestV s (i : Int) := (hI.of_eq (by omega) h0).red_eq (by omega)
        rw [this, if_pos (by simp), if_pos (decide_eq_true h0)]; rfl
      · rw [if_neg, if_neg (by simpa using h0)]
        intro hc
        rw [Bool.and_eq_true, beq_iff_eq, beq_iff_eq] at hc
        have hB' := (bestV_is hs (i : Int)).2
        have v := hI.2
        rw [hc.1, hc.2] at v
        refine h0 (Int.eq_of_mul_eq_mul_right (bestV_is hs (i : Int)).1.den_ne ?_)
        grind
    · show ref01_CheckBest_B1 t (bestL s, 0) (ref01_CheckBest_L1 t (bestL s, 0) n) _ = _
      unfold ref01_CheckBest_B1
      rw [if_neg (by omega)]; rfl
  rw [e]
  constructor
  · intro h
    rw [if_pos]
    intro j hj
    exact decide_eq_true (h j (by omega))
  · intro h
    rw [if_neg]
    intro hc
    exact h fun p hp => of_decide_eq_true (hc p (by omega))
theorem rCheckBest_eq {s : Survey} {t : Table} (hl : t.num.length ≤ 1000) : ref01_CheckBest s t = if validate s = 0 then (if okT s t = true then ref01_CheckBest_k2 s t else some 1) else some (validate s) := by
  unfold ref01_CheckBest okT
  rw [bnd_eq (rValidate_eq s)]
  by_cases hv : validate s = 0
  · rw [if_pos hv, if_pos hv, bnd_eq (rwithin_eq _ _ _)]
    cases h1 : within t.den 1 1000000
    · rw [if_neg (by simp), if_neg (by simp)]; rfl
    · rw [if_pos rfl]
      by_cases h2 : (t.num.length : Int) = s.points
      · rw [decide_eq_true h2]
        unfold ref01_CheckBest_k3
        rw [if_neg (by simp)]
        rw [list_loop0 t.num (fun x => within x (-1000000000) 1000000000) (ref01_CheckBest_L2 s t) (ref01_CheckBest_k2 s t) (some 1) (fun n i x hx => ?_) (fun n => ?_) (by omega)]
        · simp
        · have := lt_of_at hx
          show ref01_CheckBest_B2 s t (ref01_CheckBest_L2 s t n) _ = _
          unfold ref01_CheckBest_B2
          rw [if_pos (by omega), ix_nat hx, bnd_eq (rwithin_eq _ _ _), gd_pos (by omega)]; rfl
        · show ref01_CheckBest_B2 s t (ref01_CheckBest_L2 s t n) _ = _
          unfold ref01_CheckBest_B2
          rw [if_neg (by omega)]
      · rw [decide_eq_false h2, if_neg (by simp)]; rfl
  · rw [if_neg hv, if_neg hv]
theorem law_LevelChecks (s : Survey) (t : Table) (hb : s.readings.length ≤ 9223372036854775807) (hb2 : t.num.length ≤ 9223372036854775807) : law01_LevelChecks s t = some true := by
  have hk : law01_LevelChecks_k1 s t true = some true := by
    unfold law01_LevelChecks_k1
    rw [if_pos rfl, bnd_eq known_eq]
  unfold law01_LevelChecks
  rw [bnd_eq (Long_eq s)]
  by_cases hL : (100 : Int) < (s.readings.length : Int)
  · rw [if_pos (by simpa using hL)]; exact hk
  rw [if_neg (by simpa using hL)]
  by_cases hT : (100 : Int) < (t.num.length : Int)
  · rw [decide_eq_true hT]; exact hk
  rw [decide_eq_false hT]
  unfold law01_LevelChecks_k1
  have same : ∃ x, level_CheckBest s t = some x ∧ ref01_CheckBest s t = some x := by
    rw [CheckBest_eq (by omega), rCheckBest_eq (by omega)]
    by_cases hv : validate s = 0
    · have hs := val0.1 hv
      rw [if_pos hv, if_pos hv]
      by_cases ho : okT s t = true
      · rw [if_pos ho, if_pos ho]
        by_cases hg : GoodT s t
        · exact ⟨0, (check_loop hs ho).1 hg, (rcheck_loop hs ho).1 hg⟩
        · exact ⟨7, (check_loop hs ho).2 hg, (rcheck_loop hs ho).2 hg⟩
      · rw [if_neg ho, if_neg ho]; exact ⟨_, rfl, rfl⟩
    · rw [if_neg hv, if_neg hv]; exact ⟨_, rfl, rfl⟩
  obtain ⟨x, e1, e2⟩ := same
  rw [if_neg (by simp), bnd_eq e1, bnd_eq e2, if_pos rfl, bnd_eq known_eq]
end Go.D1
