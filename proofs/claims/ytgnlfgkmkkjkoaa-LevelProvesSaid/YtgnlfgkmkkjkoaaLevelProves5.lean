/- Lemmas and walks that the proof of this claim uses: D1q6, D1q7, D1q8, D1q9, D1p4, D1p5, D1p6, D1r2, D1r4, D1r5, D1r6, D1r7, D1r8, D1r9. -/
import Derived.Test.YtgnlfgkmkkjkoaaLevelProves4
set_option linter.unusedVariables false
set_option linter.unusedSimpArgs false
namespace Go.D1
open Go.Tb
/-- Free points: from each one readings lead to a point that is not free. -/
structure Fr (s : Survey) (pts : List Int) : Prop where
  nd : pts.Nodup
  n4 : pts.length ≤ 4
  out : ∀ p ∈ pts, ∃ q, q ∉ pts ∧ Con s s.readings.length p q
/-- Heights of points of a list; 0 elsewhere. -/
def ext (pts : List Int) (X : Nat → Int) (p : Int) : Int := sumN (fun k => if gi pts k = p then X k else 0) pts.length
theorem gi_mem {l : List Int} {k : Nat} (h : k < l.length) : gi l k ∈ l := List.mem_of_getElem? (gi_at h)
theorem gi_inj {l : List Int} (hd : l.Nodup) {i k : Nat} (hi : i < l.length) (hk : k < l.length) (e : gi l i = gi l k) : i = k := by
  have h4 : ∀ a b : Nat, a < b → b < l.length → gi l a ≠ gi l b := fun a b hab hb e => by
    have := List.pairwise_iff_getElem.1 hd a b (by omega) hb hab
    have e1 := gi_at (l := l) (i := a) (by omega)
    have e2 := gi_at (l := l) (i := b) hb
    rw [List.getElem?_eq_getElem (by omega)] at e1 e2
    exact this (by rw [Option.some.inj e1, Option.some.inj e2, e])
  rcases Nat.lt_trichotomy i k with h | h | h
  · exact absurd e (h4 i k h hk)
  · exact h
  · exact absurd e.symm (h4 k i h hi)
theorem gi_ex {l : List Int} {p : Int} (h : p ∈ l) : ∃ k, k < l.length ∧ gi l k = p := by
  obtain ⟨k, hk, e⟩ := List.getElem_of_mem h
  exact ⟨k, hk, gi_of (by rw [List.getElem?_eq_getElem hk, e])⟩
theorem sumN_zero {f : Nat → Int} {n : Nat} (h : ∀ k, k < n → f k = 0) : sumN f n = 0 := by
  induction n with
  | zero => rfl
  | succ n ih => simp only [sumN]; rw [ih fun k hk => h k (by omega), h n (by omega)]; rfl
theorem sumN_lt (f : Nat → Int) {i n : Nat} (h : i ≤ n) : sumN (fun k => if k < i then f k else 0) n = sumN f i := by
  obtain ⟨m, rfl⟩ : ∃ m, n = i + m := ⟨n - i, by omega⟩
  induction m with
  | zero => exact sumN_congr fun k hk => if_pos hk
  | succ m ih =>
    rw [show i + (m + 1) = (i + m) + 1 by omega]
    simp only [sumN]
    rw [ih (by omega), if_neg (by omega)]; omega
theorem sumN_at (f : Nat → Int) {c n : Nat} (h : c < n) : sumN (fun k => if k = c then f k else 0) n = f c := by
  induction n with
  | zero => omega
  | succ n ih =>
    simp only [sumN]
    by_cases e : n = c
    · subst e
      rw [if_pos rfl, sumN_zero fun k hk => if_neg (by omega)]; omega
    · rw [if_neg e, ih (by omega)]; omega
theorem ext_at {pts : List Int} (hd : pts.Nodup) (X : Nat → Int) {k : Nat} (hk : k < pts.length) : ext pts X (gi pts k) = X k := by
  unfold ext
  rw [← sumN_at X hk]
  refine sumN_congr fun j hj => ?_
  by_cases e : j = k
  · subst e; rw [if_pos rfl, if_pos rfl]
  · rw [if_neg (fun h => e (gi_inj hd hj hk h)), if_neg e]
theorem ext_out {pts : List Int} (X : Nat → Int) {p : Int} (hp : p ∉ pts) : ext pts X p = 0 := by
  unfold ext
  exact sumN_zero fun k hk => if_neg fun e => hp (by rw [← e]; exact gi_mem hk)
theorem gr_mem {s : Survey} {t : Nat} (h : t < s.readings.length) : gr s.readings t ∈ s.readings := List.mem_of_getElem? (gr_at h)
/-- One reading's part of a row. -/
theorem row_one {pts : List Int} (hd : pts.Nodup) (X : Nat → Int) {j : Nat} (hj : j < pts.length) (r : Reading) (hne : r.from_ ≠ r.to_) :
    sumN (fun k => lc (gi pts j) (gi pts k) (decide (j = k)) r * X k) pts.length = (if r.from_ = gi pts j then r.weight * (ext pts X r.from_ - ext pts X r.to_) else 0) - (if r.to_ = gi pts j then r.weight * (ext pts X r.from_ - ext pts X r.to_) else 0) := by
  have key : ∀ q : Int, q ≠ gi pts j → sumN (fun k => (if k = j then r.weight * X k else 0) - r.weight * (if gi pts k = q then X k else 0)) pts.length = r.weight * (X j - ext pts X q) := fun q hq => by
    rw [sumN_sub, sumN_at (fun k => r.weight * X k) hj]
    have : sumN (fun k => r.weight * (if gi pts k = q then X k else 0)) pts.length = r.weight * ext pts X q := by
      unfold ext
      rw [Int.mul_comm, sumN_mul]
      exact sumN_congr fun k _ => Int.mul_comm ..
    rw [this, Int.mul_sub]
  by_cases h1 : r.from_ = gi pts j
  · have h2 : ¬ r.to_ = gi pts j := fun h2 => hne (h1.trans h2.symm)
    rw [if_pos h1, if_neg h2, h1, ext_at hd X hj, Int.sub_zero, ← key r.to_ h2]
    refine sumN_congr fun k hk => ?_
    unfold lc
    by_cases e : j = k
    · subst e
      rw [decide_eq_true rfl, if_pos (show true = true from rfl), if_pos (show r.from_ = gi pts j ∨ r.to_ = gi pts j from .inl h1), if_pos (show j = j from rfl), if_neg (show ¬ gi pts j = r.to_ from fun e => h2 e.symm)]; omega
    · rw [decide_eq_false e, if_neg (show ¬ (false = true) by simp), if_neg (show ¬ k = j from fun h => e h.symm)]
      by_cases e2 : gi pts k = r.to_
      · rw [if_pos (show (r.from_ = gi pts j ∧ r.to_ = gi pts k) ∨ (r.to_ = gi pts j ∧ r.from_ = gi pts k) from .inl ⟨h1, e2.symm⟩), if_pos e2, Int.neg_mul]; omega
      · rw [if_neg (show ¬ ((r.from_ = gi pts j ∧ r.to_ = gi pts k) ∨ (r.to_ = gi pts j ∧ r.from_ = gi pts k)) from fun h => by rcases h with h | h; exact e2 h.2.symm; exact h2 h.1), if_neg e2]; omega
  · rw [if_neg h1]
    by_cases h2 : r.to_ = gi pts j
    · rw [if_pos h2, h2, ext_at hd X hj]
      have e0 : (0 : Int) - r.weight * (ext pts X r.from_ - X j) = r.weight * (X j - ext pts X r.from_) := by grind
      rw [e0, ← key r.from_ h1]
      refine sumN_congr fun k hk => ?_
      unfold lc
      by_cases e : j = k
      · subst e
        rw [decide_eq_true rfl, if_pos (show true = true from rfl), if_pos (show r.from_ = gi pts j ∨ r.to_ = gi pts j from .inr h2), if_pos (show j = j from rfl), if_neg (show ¬ gi pts j = r.from_ from fun e => h1 e.symm)]; omega
      · rw [decide_eq_false e, if_neg (show ¬ (false = true) by simp), if_neg (show ¬ k = j from fun h => e h.symm)]
        by_cases e2 : gi pts k = r.from_
        · rw [if_pos (show (r.from_ = gi pts j ∧ r.to_ = gi pts k) ∨ (r.to_ = gi pts j ∧ r.from_ = gi pts k) from .inr ⟨h2, e2.symm⟩), if_pos e2, Int.neg_mul]; omega
        · rw [if_neg (show ¬ ((r.from_ = gi pts j ∧ r.to_ = gi pts k) ∨ (r.to_ = gi pts j ∧ r.from_ = gi pts k)) from fun h => by rcases h with h | h; exact h1 h.1; exact e2 h.2.symm), if_neg e2]; omega
    · rw [if_neg h2]
      refine (sumN_zero fun k hk => ?_).trans (by omega)
      unfold lc
      by_cases e : j = k
      · rw [decide_eq_true e, if_pos rfl, if_neg (show ¬ (r.from_ = gi pts j ∨ r.to_ = gi pts j) by omega), Int.zero_mul]
      · rw [decide_eq_false e, if_neg (show ¬ (false = true) by simp), if_neg (show ¬ ((r.from_ = gi pts j ∧ r.to_ = gi pts k) ∨ (r.to_ = gi pts j ∧ r.from_ = gi pts k)) by omega), Int.zero_mul]
def lsumL (p q : Int) (same : Bool) : List Reading → Int
  | [] => 0
  | r :: l => lc p q same r + lsumL p q same l
theorem lsumL_snoc (p q : Int) (same : Bool) (l : List Reading) (r : Reading) : lsumL p q same (l ++ [r]) = lsumL p q same l + lc p q same r := by
  induction l with
  | nil => simp [lsumL]
  | cons x l ih => simp only [List.cons_append, lsumL]; rw [ih]; omega
theorem lsum_list (s : Survey) (p q : Int) (same : Bool) : lsum s p q same s.readings.length = lsumL p q same s.readings := by
  have key : ∀ t, t ≤ s.readings.length → lsum s p q same t = lsumL p q same (s.readings.take t) := by
    intro t
    induction t with
    | zero => intro _; simp [lsum, lsumL]
    | succ t ih =>
      intro ht
      have : s.readings.take (t + 1) = s.readings.take t ++ [gr s.readings t] := by
        have e := gr_at (show t < s.readings.length by omega)
        rw [List.getElem?_eq_getElem (by omega)] at e
        rw [← List.take_append_getElem (by omega), Option.some.inj e]
      rw [this, lsumL_snoc, ← ih (by omega)]; rfl
  rw [key _ (Nat.le_refl _), List.take_length]
/-- A row times heights is what flows out. -/
theorem row_dv {s : Survey} (hs : SvOk s) {pts : List Int} (hd : pts.Nodup) (X : Nat → Int) {j : Nat} (hj : j < pts.length) :
    sumN (fun k => lent s pts j k * X k) pts.length = dv s.readings (fun r => r.weight * (ext pts X r.from_ - ext pts X r.to_)) (gi pts j) := by
  have key : ∀ l : List Reading, (∀ r ∈ l, r.from_ ≠ r.to_) → sumN (fun k => lsumL (gi pts j) (gi pts k) (decide (j = k)) l * X k) pts.length = dv l (fun r => r.weight * (ext pts X r.from_ - ext pts X r.to_)) (gi pts j) := by
    intro l
    induction l with
    | nil => intro _; exact sumN_zero fun k _ => by simp [lsumL]
    | cons r l ih =>
      intro h
      have ih := ih fun r hr => h r (by simp [hr])
      have h1 := row_one hd X hj r (h r (by simp))
      simp only [lsumL, dv]
      rw [← ih, ← h1, ← sumN_add]
      exact sumN_congr fun k _ => Int.add_mul ..
  rw [← key s.readings fun r hr => (hs.rd r hr).2.2.1]
  exact sumN_congr fun k _ => by unfold lent; rw [lsum_list]
def deg (l : List Reading) (p : Int) : Nat := match l with
  | [] => 0
  | r :: l => (if r.from_ = p then r.weight.toNat else 0) + (if r.to_ = p then r.weight.toNat else 0) + deg l p
theorem dv_abs {l : List Reading} {f : Reading → Int} {p : Int} {M : Nat} (h : ∀ r ∈ l, r.from_ = p ∨ r.to_ = p → (f r).natAbs ≤ r.weight.toNat * M) : (dv l f p).natAbs ≤ deg l p * M := by
  induction l with
  | nil => simp [dv]
  | cons r l ih =>
    have ih := ih fun r hr => h r (by simp [hr])
    have hr := h r (by simp)
    simp only [dv, deg]
    rw [Nat.add_mul, Nat.add_mul]
    by_cases h1 : r.from_ = p
    · rw [if_pos h1, if_pos h1]
      have := hr (.inl h1)
      by_cases h2 : r.to_ = p
      · rw [if_pos h2, if_pos h2]; omega
      · rw [if_neg h2, if_neg h2]; omega
    · rw [if_neg h1, if_neg h1]
      by_cases h2 : r.to_ = p
      · have := hr (.inr h2)
        rw [if_pos h2, if_pos h2]; omega
      · rw [if_neg h2, if_neg h2]; omega
theorem deg24 {s : Survey} (hs : SvOk s) (p : Int) : deg s.readings p ≤ 24 := by
  have key : ∀ l : List Reading, (∀ r ∈ l, r.from_ ≠ r.to_ ∧ 1 ≤ r.weight ∧ r.weight ≤ 3) → deg l p ≤ 3 * l.length := by
    intro l
    induction l with
    | nil => intro _; simp [deg]
    | cons r l ih =>
      intro h
      have ih := ih fun r hr => h r (by simp [hr])
      have hr := h r (by simp)
      simp only [deg, List.length_cons]
      split <;> split <;> omega
  have := key s.readings fun r hr => by have := hs.rd r hr; omega
  have := hs.len
  omega
theorem degsum {s : Survey} (hs : SvOk s) {p0 p1 p2 p3 : Int} (h01 : p0 ≠ p1) (h02 : p0 ≠ p2) (h03 : p0 ≠ p3) (h12 : p1 ≠ p2) (h13 : p1 ≠ p3) (h23 : p2 ≠ p3) : deg s.readings p0 + deg s.readings p1 + deg s.readings p2 + deg s.readings p3 ≤ 48 := by
  have key : ∀ l : List Reading, (∀ r ∈ l, r.from_ ≠ r.to_ ∧ 1 ≤ r.weight ∧ r.weight ≤ 3) → deg l p0 + deg l p1 + deg l p2 + deg l p3 ≤ 6 * l.length := by
    intro l
    induction l with
    | nil => intro _; simp [deg]
    | cons r l ih =>
      intro h
      have ih := ih fun r hr => h r (by simp [hr])
      have hr := h r (by simp)
      have one : ∀ x : Int, (if x = p0 then r.weight.toNat else 0) + (if x = p1 then r.weight.toNat else 0) + (if x = p2 then r.weight.toNat else 0) + (if x = p3 then r.weight.toNat else 0) ≤ 3 := fun x => by
        split <;> split <;> split <;> split <;> omega
      have a := one r.from_
      have b := one r.to_
      simp only [deg, List.length_cons]
      omega
  have := key s.readings fun r hr => by have := hs.rd r hr; omega
  have := hs.len
  omega
theorem deg_pos {s : Survey} (hs : SvOk s) {p q : Int} (hc : Con s s.readings.length p q) (hne : p ≠ q) : 1 ≤ deg s.readings p := by
  obtain ⟨r, hr, hx⟩ := cross (fun x => decide (x = p)) hc (by simp; exact fun e => hne e.symm)
  have key : ∀ l : List Reading, r ∈ l → (r.from_ = p ∨ r.to_ = p) → 1 ≤ r.weight → 1 ≤ deg l p := by
    intro l
    induction l with
    | nil => intro h; simp at h
    | cons r' l ih =>
      intro h h1 h2
      simp only [deg]
      rcases List.mem_cons.1 h with e | e
      · subst e
        rcases h1 with h1 | h1
        · rw [if_pos h1]; omega
        · rw [if_pos h1]; omega
      · have := ih e h1 h2
        omega
  refine key s.readings hr ?_ (hs.rd r hr).2.2.2.2.1
  by_cases e : r.from_ = p
  · exact .inl e
  · by_cases e2 : r.to_ = p
    · exact .inr e2
    · exact absurd (by rw [decide_eq_false e, decide_eq_false e2]) hx
/-- Right sides: of rises, or of one point's flow. -/
structure Rh (s : Survey) (pts : List Int) (b : Nat → Int) (t : Reading → Int) (T0 S c : Int) : Prop where
  t0 : 0 ≤ T0
  s0 : 0 ≤ S
  le : T0 + S ≤ 1000
  tr : ∀ r ∈ s.readings, -T0 ≤ t r ∧ t r ≤ T0
  eq : ∀ j, j < pts.length → b j = -dv s.readings (fun r => r.weight * t r) (gi pts j) + if gi pts j = c then S else 0
/-- The table with its right sides. -/
def Am (s : Survey) (pts : List Int) (b : Nat → Int) : Mt := fun j c => if c < pts.length then lent s pts j c else b j
section
variable {s : Survey} {pts : List Int} {b : Nat → Int}
def Xv (a : Mt) (i c k : Nat) : Int := (if k < i then -Nm a i k c else 0) + (if k = c then Dm a i else 0)
def Xb (a : Mt) (n i k : Nat) : Int := if k < i then Nm a i k n else 0
theorem Xv_sum {i c j : Nat} (hi : i ≤ c) (hc : c < pts.length) (hj : j < pts.length) : sumN (fun k => lent s pts j k * Xv (Am s pts b) i c k) pts.length = mn (Am s pts b) i j c := by
  have e : sumN (fun k => lent s pts j k * Xv (Am s pts b) i c k) pts.length = sumN (fun k => (if k < i then -(Am s pts b j k * Nm (Am s pts b) i k c) else 0) + (if k = c then Dm (Am s pts b) i * Am s pts b j k else 0)) pts.length := by
    refine sumN_congr fun k hk => ?_
    have : Am s pts b j k = lent s pts j k := by unfold Am; rw [if_pos hk]
    rw [this]
    unfold Xv
    split <;> split <;> grind
  rw [e, sumN_add, sumN_lt (fun k => -(Am s pts b j k * Nm (Am s pts b) i k c)) (by omega), sumN_at (fun k => Dm (Am s pts b) i * Am s pts b j k) hc]
  unfold mn
  have : ∀ (f : Nat → Int) n, sumN (fun k => -f k) n = -sumN f n := fun f n => by
    induction n with
    | zero => rfl
    | succ n ih => simp only [sumN]; rw [ih]; omega
  rw [this]; omega
theorem Xb_sum {i j : Nat} (hi : i ≤ pts.length) (hj : j < pts.length) : sumN (fun k => lent s pts j k * Xb (Am s pts b) pts.length i k) pts.length = Dm (Am s pts b) i * b j - mn (Am s pts b) i j pts.length := by
  have e : sumN (fun k => lent s pts j k * Xb (Am s pts b) pts.length i k) pts.length = sumN (fun k => if k < i then Am s pts b j k * Nm (Am s pts b) i k pts.length else 0) pts.length := by
    refine sumN_congr fun k hk => ?_
    have : Am s pts b j k = lent s pts j k := by unfold Am; rw [if_pos hk]
    rw [this]
    unfold Xb
    split <;> simp
  rw [e, sumN_lt _ hi]
  have hb : Am s pts b j pts.length = b j := by unfold Am; rw [if_neg (by omega)]
  unfold mn
  rw [hb]; omega
theorem mem_take {l : List Int} {i : Nat} {p : Int} (h : p ∈ l.take i) : ∃ k, k < i ∧ k < l.length ∧ gi l k = p := by
  obtain ⟨k, hk, e⟩ := List.getElem_of_mem h
  rw [List.length_take] at hk
  refine ⟨k, by omega, by omega, gi_of ?_⟩
  rw [List.getElem_take] at e
  rw [List.getElem?_eq_getElem (by omega), e]
theorem take_mem {l : List Int} {i k : Nat} (h : k < i) (hk : k < l.length) : gi l k ∈ l.take i := by
  apply List.mem_of_getElem? (i := k)
  rw [List.getElem?_take, if_pos h]; exact gi_at hk
theorem Fr.out_take (h : Fr s pts) (i : Nat) : ∀ p ∈ pts.take i, ∃ q, q ∉ pts.take i ∧ Con s s.readings.length p q := fun p hp => by
  obtain ⟨q, h1, h2⟩ := h.out p (List.mem_of_mem_take hp)
  exact ⟨q, fun hh => h1 (List.mem_of_mem_take hh), h2⟩
theorem not_take {i : Nat} {p : Int} (hp : p ∉ pts.take i) (hp2 : p ∈ pts) : ∃ k, i ≤ k ∧ k < pts.length ∧ gi pts k = p := by
  obtain ⟨k, h1, h2⟩ := gi_ex hp2
  refine ⟨k, ?_, h1, h2⟩
  by_cases e : k < i
  · exact absurd (by rw [← h2]; exact take_mem e h1) hp
  · omega
/-- Heights with one free point lifted lie between. -/
theorem Xv_range (hs : SvOk s) (h : Fr s pts) {i c : Nat} (hi : i ≤ c) (hc : c < pts.length) (hD : 0 < Dm (Am s pts b) i) (p : Int) : 0 ≤ ext pts (Xv (Am s pts b) i c) p ∧ ext pts (Xv (Am s pts b) i c) p ≤ Dm (Am s pts b) i := by
  have hn := h.n4
  have hout : ∀ p, p ∉ pts.take i → 0 ≤ ext pts (Xv (Am s pts b) i c) p ∧ ext pts (Xv (Am s pts b) i c) p ≤ Dm (Am s pts b) i := fun p hp => by
    by_cases hp2 : p ∈ pts
    · obtain ⟨k, h1, h2, h3⟩ := not_take hp hp2
      rw [← h3, ext_at h.nd _ h2]
      unfold Xv
      rw [if_neg (by omega)]
      split <;> omega
    · rw [ext_out _ hp2]; omega
  have hdv : ∀ p ∈ pts.take i, dv s.readings (fun r => r.weight * (ext pts (Xv (Am s pts b) i c) r.from_ - ext pts (Xv (Am s pts b) i c) r.to_ + 0)) p = 0 := fun p hp => by
    obtain ⟨k, h1, h2, h3⟩ := mem_take hp
    simp only [Int.add_zero]
    rw [← h3, ← row_dv hs h.nd _ h2, Xv_sum hi hc h2, cramer _ (by omega) h1]
  by_cases hp : p ∈ pts.take i
  · have u := mp (t := fun _ => 0) (T0 := 0) (S := 0) (c := 0) (B := Dm (Am s pts b) i) hs (by omega) (by omega) (fun _ _ => by omega) (fun p hp => by rw [hdv p hp]; split <;> omega) (fun p hp => (hout p hp).2) (h.out_take i) p hp
    have l := mp_low (t := fun _ => 0) (T0 := 0) (S := 0) (c := 0) (B := 0) hs (by omega) (by omega) (fun _ _ => by omega) (fun p hp => by rw [hdv p hp]; split <;> omega) (fun p hp => (hout p hp).1) (h.out_take i) p hp
    simp only [Int.add_zero, Int.mul_zero, Int.sub_zero] at u l
    exact ⟨l, u⟩
  · exact hout p hp
theorem D_pos (hs : SvOk s) (h : Fr s pts) : ∀ i, i ≤ pts.length → 0 < Dm (Am s pts b) i := by
  have hn := h.n4
  intro i
  induction i with
  | zero => intro _; exact Int.one_pos
  | succ i ih =>
    intro hi
    have hD := ih (by omega)
    have e : Dm (Am s pts b) (i + 1) = dv s.readings (fun r => r.weight * (ext pts (Xv (Am s pts b) i i) r.from_ - ext pts (Xv (Am s pts b) i i) r.to_)) (gi pts i) := by
      rw [Dm_succ _ (by omega), ← Xv_sum (Nat.le_refl i) (by omega) (by omega), row_dv hs h.nd _ (by omega)]
    by_cases h0 : 0 < Dm (Am s pts b) (i + 1)
    · exact h0
    · exfalso
      have u := mp (F := pts.take (i + 1)) (h := ext pts (Xv (Am s pts b) i i)) (t := fun _ => 0) (T0 := 0) (S := 0) (c := 0) (B := 0) hs (by omega) (by omega) (fun _ _ => by omega) (fun p hp => by
        obtain ⟨k, h1, h2, h3⟩ := mem_take hp
        simp only [Int.add_zero]
        by_cases hk : k = i
        · subst hk
          rw [← h3, ← e]; split <;> omega
        · rw [← h3, ← row_dv hs h.nd _ h2, Xv_sum (Nat.le_refl i) (by omega) h2, cramer _ (by omega) (by omega)]; split <;> omega) (fun p hp => by
        by_cases hp2 : p ∈ pts
        · obtain ⟨k, h1, h2, h3⟩ := not_take hp hp2
          rw [← h3, ext_at h.nd _ h2]
          unfold Xv
          rw [if_neg (by omega), if_neg (by omega)]; omega
        · rw [ext_out _ hp2]; omega) (h.out_take (i + 1)) (gi pts i) (take_mem (by omega) (by omega))
      rw [ext_at h.nd _ (by omega)] at u
      unfold Xv at u
      rw [if_neg (by omega), if_pos rfl] at u
      simp at u
      omega
theorem N_small (hs : SvOk s) (h : Fr s pts) {i k c : Nat} (hk : k < i) (hi : i ≤ c) (hc : c < pts.length) : -Dm (Am s pts b) i ≤ Nm (Am s pts b) i k c ∧ Nm (Am s pts b) i k c ≤ 0 := by
  have := Xv_range (b := b) hs h hi hc (D_pos hs h i (by omega)) (gi pts k)
  rw [ext_at h.nd _ (by omega)] at this
  unfold Xv at this
  rw [if_pos hk, if_neg (by omega)] at this
  omega
theorem M_small (hs : SvOk s) (h : Fr s pts) {i j c : Nat} (hi : i ≤ c) (hc : c < pts.length) (hj : j < pts.length) : (mn (Am s pts b) i j c).natAbs ≤ deg s.readings (gi pts j) * (Dm (Am s pts b) i).natAbs := by
  rw [← Xv_sum hi hc hj, row_dv hs h.nd _ hj]
  refine dv_abs fun r hr _ => ?_
  have hw := (hs.rd r hr).2.2.2.2
  have h1 := Xv_range (b := b) hs h hi hc (D_pos hs h i (by omega)) r.from_
  have h2 := Xv_range (b := b) hs h hi hc (D_pos hs h i (by omega)) r.to_
  rw [Int.natAbs_mul]
  exact Nat.mul_le_mul (by omega) (by omega)
variable {t : Reading → Int} {T0 S c : Int}
/-- Heights of free points, the others held. -/
theorem Xb_dv (hs : SvOk s) (h : Fr s pts) (hb : Rh s pts b t T0 S c) {i j : Nat} (hi : i ≤ pts.length) (hj : j < pts.length) :
    dv s.readings (fun r => r.weight * (ext pts (Xb (Am s pts b) pts.length i) r.from_ - ext pts (Xb (Am s pts b) pts.length i) r.to_ + Dm (Am s pts b) i * t r)) (gi pts j) = (if gi pts j = c then Dm (Am s pts b) i * S else 0) - mn (Am s pts b) i j pts.length := by
  have e1 := row_dv hs h.nd (Xb (Am s pts b) pts.length i) hj
  rw [Xb_sum hi hj] at e1
  have e2 := hb.eq j hj
  have e3 : dv s.readings (fun r => r.weight * (ext pts (Xb (Am s pts b) pts.length i) r.from_ - ext pts (Xb (Am s pts b) pts.length i) r.to_ + Dm (Am s pts b) i * t r)) (gi pts j) = dv s.readings (fun r => r.weight * (ext pts (Xb (Am s pts b) pts.length i) r.from_ - ext pts (Xb (Am s pts b) pts.length i) r.to_)) (gi pts j) + Dm (Am s pts b) i * dv s.readings (fun r => r.weight * t r) (gi pts j) := by
    rw [← dv_mul, ← dv_add]
    exact dv_congr (fun r _ => by grind) _
  rw [e3, ← e1, e2]
  split <;> grind
theorem Nb_small (hs : SvOk s) (h : Fr s pts) (hb : Rh s pts b t T0 S c) {i k : Nat} (hi : i ≤ pts.length) (hk : k < pts.length) : -((i : Int) * (Dm (Am s pts b) i * (T0 + S))) ≤ Xb (Am s pts b) pts.length i k ∧ Xb (Am s pts b) pts.length i k ≤ (i : Int) * (Dm (Am s pts b) i * (T0 + S)) := by
  have hn := h.n4
  have hD := D_pos (b := b) hs h i hi
  have t0 := hb.t0
  have s0 := hb.s0
  have n1 : 0 ≤ Dm (Am s pts b) i * T0 := Int.mul_nonneg (by omega) t0
  have n2 : 0 ≤ Dm (Am s pts b) i * S := Int.mul_nonneg (by omega) s0
  have n3 : 0 ≤ (i : Int) * (Dm (Am s pts b) i * (T0 + S)) := Int.mul_nonneg (by omega) (Int.mul_nonneg (by omega) (by omega))
  by_cases hki : k < i
  · have hlen : (pts.take i).length = i := by rw [List.length_take]; omega
    have htr : ∀ r ∈ s.readings, -(Dm (Am s pts b) i * T0) ≤ Dm (Am s pts b) i * t r ∧ Dm (Am s pts b) i * t r ≤ Dm (Am s pts b) i * T0 := fun r hr => by
      have := hb.tr r hr
      have a := Int.mul_le_mul_of_nonneg_left this.1 (show 0 ≤ Dm (Am s pts b) i by omega)
      have b' := Int.mul_le_mul_of_nonneg_left this.2 (show 0 ≤ Dm (Am s pts b) i by omega)
      rw [Int.mul_neg] at a
      exact ⟨a, b'⟩
    have hdv : ∀ p ∈ pts.take i, dv s.readings (fun r => r.weight * (ext pts (Xb (Am s pts b) pts.length i) r.from_ - ext pts (Xb (Am s pts b) pts.length i) r.to_ + Dm (Am s pts b) i * t r)) p = if p = c then Dm (Am s pts b) i * S else 0 := fun p hp => by
      obtain ⟨k, h1, h2, h3⟩ := mem_take hp
      rw [← h3, Xb_dv hs h hb hi h2, cramer _ (by omega) h1, Int.sub_zero]
    have hout : ∀ p, p ∉ pts.take i → ext pts (Xb (Am s pts b) pts.length i) p = 0 := fun p hp => by
      by_cases hp2 : p ∈ pts
      · obtain ⟨k, h1, h2, h3⟩ := not_take hp hp2
        rw [← h3, ext_at h.nd _ h2]
        unfold Xb
        rw [if_neg (by omega)]
      · exact ext_out _ hp2
    have u := mp (T0 := Dm (Am s pts b) i * T0) (S := Dm (Am s pts b) i * S) (c := c) (B := 0) hs n1 n2 htr (fun p hp => by rw [hdv p hp]; exact Int.le_refl _) (fun p hp => by rw [hout p hp]; exact Int.le_refl 0) (h.out_take i) (gi pts k) (take_mem hki hk)
    have l := mp_low (T0 := Dm (Am s pts b) i * T0) (S := Dm (Am s pts b) i * S) (c := c) (B := 0) hs n1 n2 htr (fun p hp => by rw [hdv p hp]; split <;> omega) (fun p hp => by rw [hout p hp]; exact Int.le_refl 0) (h.out_take i) (gi pts k) (take_mem hki hk)
    rw [ext_at h.nd _ hk, hlen, ← Int.mul_add] at u l
    omega
  · unfold Xb
    rw [if_neg hki]; omega
/-- The table of free points is small. -/
theorem sol_of (hs : SvOk s) (h : Fr s pts) (hb : Rh s pts b t T0 S c) : Sol pts.length (Am s pts b) (fun j => deg s.readings (gi pts j)) := by
  have hn := h.n4
  have t0 := hb.t0
  have s0 := hb.s0
  have ts := hb.le
  have hT : ∀ i, i ≤ pts.length → ∀ m : Int, 0 ≤ m → m * (Dm (Am s pts b) i * (T0 + S)) ≤ m * (1000 * Dm (Am s pts b) i) := fun i hi m hm => by
    have hD := D_pos (b := b) hs h i hi
    have : Dm (Am s pts b) i * (T0 + S) ≤ Dm (Am s pts b) i * 1000 := Int.mul_le_mul_of_nonneg_left ts (by omega)
    exact Int.mul_le_mul_of_nonneg_left (by omega) hm
  refine ⟨hn, D_pos hs h, fun i hi => ?_, fun i hi => ?_, fun e => ?_, fun i k c hk hi hc => ?_, fun i k hk hi => ?_, fun i j c hj hi hjn hc => M_small hs h hi hc hjn, fun i j hij hj => ?_⟩
  · rw [Dm_succ _ (by omega)]; exact M_small hs h (Nat.le_refl _) hi hi
  · obtain ⟨q, h1, h2⟩ := h.out _ (gi_mem hi)
    exact ⟨deg_pos hs h2 fun e => h1 (e ▸ gi_mem hi), deg24 hs _⟩
  · have hne : ∀ i k, i < pts.length → k < pts.length → i ≠ k → gi pts i ≠ gi pts k := fun i k hi hk hik e => hik (gi_inj h.nd hi hk e)
    exact degsum hs (hne 0 1 (by omega) (by omega) (by omega)) (hne 0 2 (by omega) (by omega) (by omega)) (hne 0 3 (by omega) (by omega) (by omega)) (hne 1 2 (by omega) (by omega) (by omega)) (hne 1 3 (by omega) (by omega) (by omega)) (hne 2 3 (by omega) (by omega) (by omega))
  · have := N_small (b := b) hs h hk hi hc
    omega
  · have hD := D_pos (b := b) hs h i hi
    have h1 := Nb_small hs h hb (i := i) (k := k) hi (by omega)
    have h2 := hT i hi i (by omega)
    unfold Xb at h1
    rw [if_pos hk] at h1
    have h3 : (i : Int) * (1000 * Dm (Am s pts b) i) ≤ 4 * (1000 * Dm (Am s pts b) i) := Int.mul_le_mul_of_nonneg_right (by omega) (by omega)
    omega
  · have hi : i ≤ pts.length := by omega
    have hD := D_pos (b := b) hs h i hi
    have e := Xb_dv hs h hb (i := i) hi hj
    have h0 : Xb (Am s pts b) pts.length i j = 0 := by unfold Xb; rw [if_neg (by omega)]
    have hX : ∀ p, (ext pts (Xb (Am s pts b) pts.length i) p).natAbs ≤ 3000 * (Dm (Am s pts b) i).natAbs := fun p => by
      by_cases hp : p ∈ pts
      · obtain ⟨k, k1, k2⟩ := gi_ex hp
        rw [← k2, ext_at h.nd _ k1]
        have h1 := Nb_small hs h hb (i := i) (k := k) hi k1
        have h2 := hT i hi i (by omega)
        have h3 : (i : Int) * (1000 * Dm (Am s pts b) i) ≤ 3 * (1000 * Dm (Am s pts b) i) := Int.mul_le_mul_of_nonneg_right (by omega) (by omega)
        omega
      · rw [ext_out _ hp]; simp
    have hdg : 1 ≤ deg s.readings (gi pts j) := by
      obtain ⟨q, h1, h2⟩ := h.out _ (gi_mem hj)
      exact deg_pos hs h2 fun e => h1 (e ▸ gi_mem hj)
    have hX0 := ext_at h.nd (Xb (Am s pts b) pts.length i) hj
    rw [h0] at hX0
    obtain ⟨T, hTT⟩ : ∃ T : Nat, (T : Int) = T0 := ⟨T0.toNat, by omega⟩
    obtain ⟨S', hSS⟩ : ∃ S' : Nat, (S' : Int) = S := ⟨S.toNat, by omega⟩
    have hdv := dv_abs (l := s.readings) (p := gi pts j) (M := 3000 * (Dm (Am s pts b) i).natAbs + (Dm (Am s pts b) i).natAbs * T) (f := fun r => r.weight * (ext pts (Xb (Am s pts b) pts.length i) r.from_ - ext pts (Xb (Am s pts b) pts.length i) r.to_ + Dm (Am s pts b) i * t r)) fun r hr htouch => by
      have hw := (hs.rd r hr).2.2.2.2
      have htr := hb.tr r hr
      rw [Int.natAbs_mul]
      refine Nat.mul_le_mul (by omega) ?_
      have a1 := hX r.from_
      have a2 := hX r.to_
      have a3 : (Dm (Am s pts b) i * t r).natAbs ≤ (Dm (Am s pts b) i).natAbs * T := na_mul (Nat.le_refl _) (by omega)
      rcases htouch with e | e
      · rw [e, hX0] at *; omega
      · rw [e, hX0] at *; omega
    rw [e] at hdv
    have hS : (if gi pts j = c then Dm (Am s pts b) i * S else 0).natAbs ≤ (Dm (Am s pts b) i).natAbs * S' := by
      split
      · exact na_mul (Nat.le_refl _) (by omega)
      · simp
    have f1 : (mn (Am s pts b) i j pts.length).natAbs ≤ (Dm (Am s pts b) i).natAbs * S' + deg s.readings (gi pts j) * (3000 * (Dm (Am s pts b) i).natAbs + (Dm (Am s pts b) i).natAbs * T) := by
      generalize deg s.readings (gi pts j) * (3000 * (Dm (Am s pts b) i).natAbs + (Dm (Am s pts b) i).natAbs * T) = W at *
      generalize (Dm (Am s pts b) i).natAbs * S' = V at *
      omega
    refine Nat.le_trans f1 ?_
    generalize (Dm (Am s pts b) i).natAbs = D at *
    generalize deg s.readings (gi pts j) = dg at *
    have f2 : D * S' ≤ dg * (D * S') := Nat.le_mul_of_pos_left _ hdg
    have f3 : dg * (D * S') + dg * (3000 * D + D * T) = dg * (D * (3000 + T + S')) := by grind
    have f4 : dg * (D * (3000 + T + S')) ≤ dg * (D * 4000) := Nat.mul_le_mul_left _ (Nat.mul_le_mul_left _ (by omega))
    have f5 : dg * (D * 4000) = 4000 * dg * D := by grind
    omega
end
end Go.D1

set_option linter.unusedVariables false
set_option linter.unusedSimpArgs false
namespace Go.D1
open Go.Tb
theorem Dm_congr {a b : Mt} {n : Nat} (hn : n ≤ 4) (h : ∀ i j, i < n → j < n → a i j = b i j) : Dm a n = Dm b n := by
  match n, hn with
  | 0, _ => rfl
  | 1, _ => exact h 0 0 (by omega) (by omega)
  | 2, _ =>
    simp only [Dm, e2]
    rw [h 0 0 (by omega) (by omega), h 0 1 (by omega) (by omega), h 1 0 (by omega) (by omega), h 1 1 (by omega) (by omega)]
  | 3, _ =>
    simp only [Dm, e3]
    rw [h 0 0 (by omega) (by omega), h 0 1 (by omega) (by omega), h 0 2 (by omega) (by omega), h 1 0 (by omega) (by omega), h 1 1 (by omega) (by omega), h 1 2 (by omega) (by omega), h 2 0 (by omega) (by omega), h 2 1 (by omega) (by omega), h 2 2 (by omega) (by omega)]
  | 4, _ =>
    simp only [Dm, e4, f3]
    rw [h 0 0 (by omega) (by omega), h 0 1 (by omega) (by omega), h 0 2 (by omega) (by omega), h 0 3 (by omega) (by omega), h 1 0 (by omega) (by omega), h 1 1 (by omega) (by omega), h 1 2 (by omega) (by omega), h 1 3 (by omega) (by omega), h 2 0 (by omega) (by omega), h 2 1 (by omega) (by omega), h 2 2 (by omega) (by omega), h 2 3 (by omega) (by omega), h 3 0 (by omega) (by omega), h 3 1 (by omega) (by omega), h 3 2 (by omega) (by omega), h 3 3 (by omega) (by omega)]
end Go.D1

set_option linter.unusedVariables false
set_option linter.unusedSimpArgs false
namespace Go.D1
open Go.Tb
/-- Heights whose flow goes from i to j. -/
structure Un (s : Survey) (i j : Int) (u : Int → Int) (D : Int) : Prop where
  pos : 0 < D
  dv : ∀ p, 0 ≤ p → p < s.points → dv s.readings (fun r => r.weight * (u r.from_ - u r.to_)) p = (if p = i then D else 0) - (if p = j then D else 0)
def RS (s : Survey) (i j N D : Int) : Prop := ∃ u, Un s i j u D ∧ N = u i - u j
theorem dv_zero (l : List Reading) (p : Int) : dv l (fun _ => 0) p = 0 := by
  induction l with
  | nil => rfl
  | cons r l ih => simp only [dv]; rw [ih]; split <;> split <;> rfl
theorem dv_touch {l : List Reading} {f g : Reading → Int} {p : Int} (h : ∀ r ∈ l, r.from_ = p ∨ r.to_ = p → f r = g r) : dv l f p = dv l g p := by
  induction l with
  | nil => rfl
  | cons r l ih =>
    have ih := ih fun r hr => h r (by simp [hr])
    have hr := h r (by simp)
    simp only [dv]
    rw [ih]
    by_cases h1 : r.from_ = p
    · rw [if_pos h1, if_pos h1, hr (.inl h1)]
    · rw [if_neg h1, if_neg h1]
      by_cases h2 : r.to_ = p
      · rw [if_pos h2, if_pos h2, hr (.inr h2)]
      · rw [if_neg h2, if_neg h2]
theorem con_const {s : Survey} {j : Nat} {u : Int → Int} (h : ∀ i, i < j → i < s.readings.length → u (gr s.readings i).from_ = u (gr s.readings i).to_) {a b : Int} (hc : Con s j a b) : u a = u b := by
  induction hc with
  | refl a => rfl
  | edge h1 h2 => exact h _ h1 h2
  | symm _ ih => exact ih.symm
  | trans _ _ i1 i2 => exact i1.trans i2
theorem edge_of {s : Survey} {r : Reading} (h : r ∈ s.readings) : Con s s.readings.length r.from_ r.to_ := by
  obtain ⟨k, hk, e⟩ := List.getElem_of_mem h
  have : gr s.readings k = r := by
    have := gr_at hk
    rw [List.getElem?_eq_getElem hk] at this
    rw [← Option.some.inj this, e]
  rw [← this]
  exact .edge hk hk
/-- No flow: no differences. -/
theorem flat {s : Survey} (hs : SvOk s) {u : Int → Int} (h : ∀ p, 0 ≤ p → p < s.points → dv s.readings (fun r => r.weight * (u r.from_ - u r.to_)) p = 0) : ∀ r ∈ s.readings, u r.from_ = u r.to_ := by
  intro r hr
  by_cases e : u r.from_ = u r.to_
  · exact e
  · exfalso
    have hg := green s.readings u (fun r => r.weight * (u r.from_ - u r.to_)) s.points.toNat (sv_in hs)
    have hp1 := hs.p1
    rw [sumN_zero fun k hk => by rw [h k (by omega) (by omega), Int.mul_zero]] at hg
    have sq : ∀ r ∈ s.readings, 0 ≤ (u r.from_ - u r.to_) * (r.weight * (u r.from_ - u r.to_)) := fun r hr => by
      have hw := (hs.rd r hr).2.2.2.2
      have : (u r.from_ - u r.to_) * (r.weight * (u r.from_ - u r.to_)) = r.weight * ((u r.from_ - u r.to_) * (u r.from_ - u r.to_)) := by grind
      rw [this]
      refine Int.mul_nonneg (by omega) ?_
      generalize u r.from_ - u r.to_ = x
      rcases Int.le_total 0 x with h | h
      · exact Int.mul_nonneg h h
      · exact Int.mul_nonneg_of_nonpos_of_nonpos h h
    have hne : 0 < (u r.from_ - u r.to_) * (r.weight * (u r.from_ - u r.to_)) := by
      have h0 := sq r hr
      have hw := (hs.rd r hr).2.2.2.2
      have : (u r.from_ - u r.to_) * (r.weight * (u r.from_ - u r.to_)) ≠ 0 := Int.mul_ne_zero (by omega) (Int.mul_ne_zero (by omega) (by omega))
      omega
    have := rs_gt sq hr hne
    omega
theorem flat_con {s : Survey} (hs : SvOk s) {u : Int → Int} (h : ∀ p, 0 ≤ p → p < s.points → dv s.readings (fun r => r.weight * (u r.from_ - u r.to_)) p = 0) {a b : Int} (hc : Con s s.readings.length a b) : u a = u b :=
  con_const (fun i _ hi => flat hs h _ (gr_mem hi)) hc
theorem sumN_but {f : Nat → Int} {n c : Nat} (hc : c < n) (h : ∀ k, k < n → k ≠ c → f k = 0) : sumN f n = f c := by
  rw [← sumN_at f hc]
  refine sumN_congr fun k hk => ?_
  by_cases e : k = c
  · rw [if_pos e]
  · rw [if_neg e, h k hk e]
theorem iota_nodup (n : Nat) : (iota n).Nodup := by
  induction n with
  | zero => exact List.nodup_nil
  | succ n ih =>
    rw [iota_succ, List.nodup_append]
    refine ⟨ih, by simp, fun a ha b hb => ?_⟩
    obtain ⟨k, hk, e⟩ := gi_ex ha
    rw [iota_len] at hk
    rw [iota_gi hk] at e
    simp at hb
    omega
theorem mem_iota {n : Nat} {p : Int} : p ∈ iota n ↔ 0 ≤ p ∧ p < n := by
  constructor
  · intro h
    obtain ⟨k, hk, e⟩ := gi_ex h
    rw [iota_len] at hk
    rw [iota_gi hk] at e
    omega
  · intro h
    have : gi (iota n) p.toNat ∈ iota n := gi_mem (by rw [iota_len]; omega)
    rw [iota_gi (by omega)] at this
    rw [show p = ((p.toNat : Nat) : Int) by omega]; exact this
theorem mem_nodesOf {n : Nat} {f : Int → Bool} {p : Int} : p ∈ nodesOf n f ↔ (0 ≤ p ∧ p < n) ∧ f p = true := by
  unfold nodesOf
  rw [List.mem_filter, mem_iota]
theorem nodesOf_nodup (n : Nat) (f : Int → Bool) : (nodesOf n f).Nodup := (iota_nodup n).filter _
theorem nodesOf_lt {n : Nat} {f : Int → Bool} {p : Int} (hp : 0 ≤ p ∧ p < n) (h : f p = false) : (nodesOf n f).length < n := by
  unfold nodesOf
  have h1 := List.length_filter_lt_length_iff_exists (l := iota n) (p := f)
  have : (List.filter f (iota n)).length < (iota n).length := h1.2 ⟨p, mem_iota.2 hp, by rw [h]; simp⟩
  rwa [iota_len] at this
abbrev rtOf (s : Survey) (p : Int) : Int := gi (rootsOf s) p.toNat
theorem con_rt {s : Survey} (hs : SvOk s) {a b : Int} (ha : 0 ≤ a ∧ a < s.points) (hb : 0 ≤ b ∧ b < s.points) : Con s s.readings.length a b ↔ rtOf s a = rtOf s b := by
  have hR := rootsOf_ok hs
  have hl := hR.len
  constructor
  · intro h
    exact (hR.eq_of hs h).2 ha
  · intro h
    have h1 := hR.con a.toNat (by omega)
    have h2 := hR.con b.toNat (by omega)
    rw [show ((a.toNat : Nat) : Int) = a by omega] at h1
    rw [show ((b.toNat : Nat) : Int) = b by omega] at h2
    unfold rtOf at h
    rw [h] at h1
    exact h1.symm.trans h2
theorem rt_same {s : Survey} (hs : SvOk s) {r : Reading} (hr : r ∈ s.readings) : rtOf s r.from_ = rtOf s r.to_ := by
  have h := hs.rd r hr
  exact (con_rt hs h.1 h.2.1).1 (edge_of hr)
theorem mem_oneOf {s : Survey} (hs : SvOk s) {i p : Int} : p ∈ oneOf s i ↔ (0 ≤ p ∧ p < s.points) ∧ rtOf s p = rtOf s i ∧ p ≠ i := by
  have hp1 := hs.p1
  unfold oneOf
  rw [mem_nodesOf]
  simp only [Bool.and_eq_true, decide_eq_true_eq, Bool.not_eq_true', decide_eq_false_iff_not, ne_eq]
  unfold rtOf
  constructor <;> intro h <;> refine ⟨by omega, h.2⟩
theorem fr_one {s : Survey} (hs : SvOk s) {i : Int} (hi : 0 ≤ i ∧ i < s.points) : Fr s (oneOf s i) := by
  have hp5 := hs.p5
  refine ⟨nodesOf_nodup _ _, ?_, fun p hp => ?_⟩
  · have : (oneOf s i).length < s.points.toNat := nodesOf_lt (p := i) (by omega) (by simp)
    omega
  · have h := (mem_oneOf hs).1 hp
    exact ⟨i, fun h' => ((mem_oneOf hs).1 h').2.2 rfl, (con_rt hs h.1 hi).2 h.2.1⟩
def unitB (pts : List Int) (c : Int) (k : Nat) : Int := if gi pts k = c then 1 else 0
theorem rh_unit (s : Survey) (pts : List Int) (c : Int) : Rh s pts (unitB pts c) (fun _ => 0) 0 1 c := by
  refine ⟨by omega, by omega, by omega, fun _ _ => by omega, fun j hj => ?_⟩
  have : dv s.readings (fun r => r.weight * 0) (gi pts j) = 0 := by
    rw [dv_congr (g := fun _ => 0) (fun r _ => Int.mul_zero _), dv_zero]
  rw [this]
  unfold unitB
  omega
end Go.D1

set_option linter.unusedVariables false
set_option linter.unusedSimpArgs false
namespace Go.D1
open Go.Tb
theorem is_int (x : Int) : Is ⟨x, 1⟩ x 1 := ⟨⟨by show (0 : Int) < 1; omega, by show Int.gcd x 1 = 1; simp⟩, rfl⟩
theorem rt_rowI {l : List Int} {c : Nat} (h : c < l.length) : rt (rowI l) c = ⟨gi l c, 1⟩ := by
  unfold rt
  rw [List.getD_eq_getElem?_getD, rowI_at h]; rfl
theorem bal_rg {s : Survey} {pts : List Int} (b : Nat → Int) {j : Nat} (hj : j < pts.length) : rg (balR s pts b) j = rowI ((brow s pts j s.readings.length).set pts.length (b j)) := by
  unfold rg balR
  rw [List.getD_eq_getElem?_getD, List.getElem?_map, List.getElem?_range hj]; rfl
theorem bal_row {s : Survey} {pts : List Int} (b : Nat → Int) {j : Nat} (hj : j < pts.length) : (rg (balR s pts b) j).length = pts.length + 1 ∧ ∀ c, c ≤ pts.length → Is (rt (rg (balR s pts b) j) c) (Am s pts b j c) 1 := by
  rw [bal_rg b hj]
  refine ⟨by unfold rowI; rw [List.length_map, List.length_set, brow_len], fun c hc => ?_⟩
  rw [rt_rowI (by rw [List.length_set, brow_len]; omega), gi_set, brow_len]
  unfold Am
  by_cases e : c < pts.length
  · rw [if_neg (by omega), if_pos e, brow_gi e]; exact is_int _
  · rw [if_pos (by omega), if_neg e]; exact is_int _
theorem bal_solve {s : Survey} (hs : SvOk s) {pts : List Int} (hF : Fr s pts) {b : Nat → Int} {t : Reading → Int} {T0 S c : Int} (hb : Rh s pts b t T0 S c) {f : Int → Option Int} (hf : ∀ i, i < pts.length → f (gi pts i) = some (b i)) :
    ∃ m xs m', level_balance s pts f = some m ∧ level_solve m = some (xs, m') ∧ xs.length = pts.length ∧ ∀ j, j < pts.length → Is (rt xs j) (Nm (Am s pts b) pts.length j pts.length) (Dm (Am s pts b) pts.length) := by
  have hn := hF.n4
  obtain ⟨xs, m', h1, h2, h3⟩ := solve_eq (sol_of hs hF hb) (m := balR s pts b) (by unfold balR; simp) (fun j hj => bal_row b hj)
  exact ⟨_, xs, m', balance_eq hs (by omega) hF.nd hf, h1, h2, h3⟩
theorem cut_filter {j : Int} : ∀ (l : List Int) (c : Nat), l.Nodup → c < l.length → gi l c = j → l.take c ++ l.drop (c + 1) = l.filter (fun k => !decide (k = j))
  | [], c, _, h, _ => by simp at h
  | x :: r, 0, hd, h, e => by
    have e' : x = j := e
    subst e'
    have hn := (List.nodup_cons.1 hd).1
    rw [List.filter_cons, if_neg (by simp)]
    show r = _
    symm
    rw [List.filter_eq_self]
    intro a ha
    have : a ≠ x := fun e => hn (e ▸ ha)
    simp [this]
  | x :: r, c + 1, hd, h, e => by
    have hc := List.nodup_cons.1 hd
    have h' : c < r.length := by simpa using h
    have e' : gi r c = j := by rw [← e]; simp [gi]
    have hm : j ∈ r := e' ▸ gi_mem h'
    have : x ≠ j := fun e2 => hc.1 (e2 ▸ hm)
    rw [List.filter_cons, if_pos (by simp [this]), ← cut_filter r c hc.2 h' e']; rfl
theorem root_in {s : Survey} (hs : SvOk s) {p : Int} (hp : 0 ≤ p ∧ p < s.points) : (0 ≤ rtOf s p ∧ rtOf s p ≤ p) ∧ rtOf s (rtOf s p) = rtOf s p := by
  have hR := rootsOf_ok hs
  have hl := hR.len
  have h1 := hR.le p.toNat (by omega)
  have h2 := hR.con p.toNat (by omega)
  have h3 : 0 ≤ rtOf s p ∧ rtOf s p ≤ p := by unfold rtOf; omega
  rw [show ((p.toNat : Nat) : Int) = p by omega] at h2
  exact ⟨h3, (con_rt hs (by omega) hp).1 h2⟩
theorem part_mem {s : Survey} (hs : SvOk s) {q : Int} {p : Int} : p ∈ partOf (rootsOf s) q ↔ (0 ≤ p ∧ p < s.points) ∧ rtOf s p = q := by
  have hp1 := hs.p1
  have hl := (rootsOf_ok hs).len
  unfold partOf
  rw [mem_nodesOf, hl]
  simp only [decide_eq_true_eq]
  unfold rtOf
  constructor <;> intro h <;> exact ⟨by omega, h.2⟩
theorem parts_mem {s : Survey} (hs : SvOk s) {l : List Int} : l ∈ partsR s ↔ ∃ q, (0 ≤ q ∧ q < s.points) ∧ rtOf s q = q ∧ l = partOf (rootsOf s) q := by
  have hp1 := hs.p1
  unfold partsR partsL
  rw [List.mem_map]
  constructor
  · rintro ⟨q, hq, rfl⟩
    have := mem_nodesOf.1 hq
    exact ⟨q, by omega, of_decide_eq_true this.2, rfl⟩
  · rintro ⟨q, h1, h2, rfl⟩
    exact ⟨q, mem_nodesOf.2 ⟨by omega, decide_eq_true h2⟩, rfl⟩
theorem part_cut {s : Survey} (hs : SvOk s) (j : Int) : (partOf (rootsOf s) (rtOf s j)).filter (fun k => !decide (k = j)) = oneOf s j := by
  have hl := (rootsOf_ok hs).len
  unfold partOf oneOf nodesOf
  rw [List.filter_filter, hl]
  congr 1
  funext k
  exact Bool.and_comm _ _
theorem part_nodup {s : Survey} (q : Int) : (partOf (rootsOf s) q).Nodup := nodesOf_nodup _ _
theorem parts_len {s : Survey} (hs : SvOk s) : (partsR s).length ≤ 5 := by
  have := partsL_len (rootsOf s) s.points.toNat
  have hp5 := hs.p5
  show (partsL _ _).length ≤ _
  omega
end Go.D1

set_option linter.unusedVariables false
set_option linter.unusedSimpArgs false
namespace Go.D1
open Go.Tb
def gb (l : List Bool) (i : Nat) : Bool := l.getD i false
abbrev HK := List Int × List Bool
/-- One reading of the tree is gone along, if one of its points alone is known. -/
def go1 (r : Reading) (x : HK) : HK :=
  if gb x.2 r.from_.toNat = true ∧ gb x.2 r.to_.toNat = false then (x.1.set r.to_.toNat (gi x.1 r.from_.toNat + r.rise), x.2.set r.to_.toNat true)
  else if gb x.2 r.to_.toNat = true ∧ gb x.2 r.from_.toNat = false then (x.1.set r.from_.toNat (gi x.1 r.to_.toNat - r.rise), x.2.set r.from_.toNat true)
  else x
structure HB (s : Survey) (B : Int) (x : HK) : Prop where
  l1 : x.1.length = s.points.toNat
  l2 : x.2.length = s.points.toNat
  bd : ∀ i, -B ≤ gi x.1 i ∧ gi x.1 i ≤ B
theorem HB.mono {s : Survey} {B B' : Int} {x : HK} (h : HB s B x) (hb : B ≤ B') : HB s B' x := ⟨h.l1, h.l2, fun i => by have := h.bd i; omega⟩
theorem HB.go {s : Survey} {B : Int} {x : HK} (h : HB s B x) (hB : 0 ≤ B) {r : Reading} (hr : -1000 ≤ r.rise ∧ r.rise ≤ 1000) : HB s (B + 1000) (go1 r x) := by
  have hf := h.bd r.from_.toNat
  have ht := h.bd r.to_.toNat
  unfold go1
  split
  · refine ⟨by simp [h.l1], by simp [h.l2], fun i => ?_⟩
    have := h.bd i
    rw [gi_set]
    split <;> omega
  · split
    · refine ⟨by simp [h.l1], by simp [h.l2], fun i => ?_⟩
      have := h.bd i
      rw [gi_set]
      split <;> omega
    · exact h.mono (by omega)
def op (x : HK) (r : Reading) : Bool := !(gb x.2 r.from_.toNat && gb x.2 r.to_.toNat)
end Go.D1

set_option linter.unusedVariables false
set_option linter.unusedSimpArgs false
namespace Go.D1
open Go.Tb
/-- Where the heights begin. -/
def start (s : Survey) : HK := (List.replicate s.points.toNat 0, (iota s.points.toNat).map (isRoot (rootsOf s)))
end Go.D1

set_option linter.unusedVariables false
set_option linter.unusedSimpArgs false
namespace Go.D1
open Go.Tb
/-- Whether a list holds a number with a property. -/
theorem has_eq {l : List Int} (hl : l.length ≤ 1000) {f : Int → Option Bool} {p : Int → Bool} (hf : ∀ x ∈ l, f x = some (p x)) : slices_ContainsFunc_int l f = some (l.any p) := by
  unfold slices_ContainsFunc_int slices_IndexFunc_int
  have h := scan_loop l.length (fun i => (l[i]?.map fun x => !p x).getD true) (fun _ => ()) (fun n _ i => slices_IndexFunc_int_L1 l f n i) (some (-1)) (fun j => some (j : Int)) (fun n i hi => ?_) (fun n => ?_) l.length FU 0 (by omega) (by have := FU_pos; omega)
  · have h' : slices_IndexFunc_int_L1 l f FU 0 = _ := h
    cases hf' : (List.range' 0 l.length).find? (fun j => !((l[j]?.map fun x => !p x).getD true)) with
    | none =>
      rw [hf'] at h'
      rw [bnd_eq h']
      have hall := find_all.1 hf'
      have : l.any p = false := by
        rw [List.any_eq_false]
        intro x hx hpx
        obtain ⟨i, hi⟩ := List.getElem?_of_mem hx
        have := hall i (by omega) (by have := lt_of_at hi; omega)
        simp [hi, hpx] at this
      rw [this]; rfl
    | some j =>
      rw [hf'] at h'
      rw [bnd_eq h']
      have hj := List.find?_some hf'
      have hm := List.mem_of_find?_eq_some hf'
      rw [List.mem_range'] at hm
      obtain ⟨q, hq, hjq⟩ := hm
      have hlt : j < l.length := by omega
      have hx : l[j]? = some l[j] := by simp [hlt]
      rw [hx] at hj
      simp at hj
      have : l.any p = true := List.any_eq_true.2 ⟨_, List.getElem_mem hlt, hj⟩
      rw [this, decide_eq_true (by omega)]
  · have hx : l[i]? = some l[i] := by simp [hi]
    show slices_IndexFunc_int_B1 l f (slices_IndexFunc_int_L1 l f n) _ = _
    unfold slices_IndexFunc_int_B1
    rw [if_pos (by omega), ix_nat hx, bnd_eq (hf _ (List.getElem_mem hi))]
    simp only [hx, Option.map_some, Option.getD_some]
    cases hp : p l[i]
    · rw [if_neg (by simp), gd_pos (by omega), if_pos (by rfl)]; rfl
    · rw [if_pos rfl, if_neg (by simp)]
  · show slices_IndexFunc_int_B1 l f (slices_IndexFunc_int_L1 l f n) _ = _
    unfold slices_IndexFunc_int_B1
    rw [if_neg (by omega)]; rfl
end Go.D1

set_option linter.unusedVariables false
set_option linter.unusedSimpArgs false
namespace Go.D1
open Go.Tb
theorem RS.pos {s : Survey} {i j N D : Int} (h : RS s i j N D) : 0 < D := by obtain ⟨u, hu, _⟩ := h; exact hu.pos
end Go.D1

set_option linter.unusedVariables false
set_option linter.unusedSimpArgs false
namespace Go.D1
open Go.Tb
/-- Flows at the smallest point of a part. -/
theorem dv_root {s : Survey} (hs : SvOk s) (f : Reading → Int) (e : Int → Int) (hfree : ∀ p, 0 ≤ p → p < s.points → rtOf s p ≠ p → dv s.readings f p = e p) {q : Int} (hq : 0 ≤ q ∧ q < s.points) (hr : rtOf s q = q)
    (he : sumN (fun k => if rtOf s (k : Int) = q then e (k : Int) else 0) s.points.toNat = 0) : dv s.readings f q = e q := by
  have hg := green s.readings (fun p => if rtOf s p = q then 1 else 0) f s.points.toNat (sv_in hs)
  have h0 : rs s.readings (fun r => ((if rtOf s r.from_ = q then (1 : Int) else 0) - (if rtOf s r.to_ = q then 1 else 0)) * f r) = 0 := by
    have : rs s.readings (fun r => ((if rtOf s r.from_ = q then (1 : Int) else 0) - (if rtOf s r.to_ = q then 1 else 0)) * f r) = rs s.readings (fun _ => 0 * 0) := rs_congr fun r hr => by rw [rt_same hs hr, Int.sub_self]; simp
    rw [this, rs_mul s.readings 0 (fun _ => 0), Int.zero_mul]
  rw [h0] at hg
  have hb := sumN_but (n := s.points.toNat) (c := q.toNat) (f := fun k => (if rtOf s (k : Int) = q then 1 else 0) * dv s.readings f (k : Int) - (if rtOf s (k : Int) = q then e (k : Int) else 0)) (by omega) (fun k hk hne => by
    show (if rtOf s (k : Int) = q then (1 : Int) else 0) * dv s.readings f (k : Int) - (if rtOf s (k : Int) = q then e (k : Int) else 0) = 0
    by_cases h : rtOf s (k : Int) = q
    · rw [if_pos h, if_pos h, hfree (k : Int) (by omega) (by omega) (by omega)]; omega
    · rw [if_neg h, if_neg h]; omega)
  rw [sumN_sub, hg, he] at hb
  have hb' : (0 : Int) - 0 = (if rtOf s (q.toNat : Int) = q then 1 else 0) * dv s.readings f (q.toNat : Int) - (if rtOf s (q.toNat : Int) = q then e (q.toNat : Int) else 0) := hb
  rw [show ((q.toNat : Nat) : Int) = q by omega, if_pos hr, if_pos hr] at hb'
  omega
def freeL (s : Survey) : List Int := nodesOf s.points.toNat fun k => !decide (gi (rootsOf s) k.toNat = k)
theorem mem_free {s : Survey} (hs : SvOk s) {p : Int} : p ∈ freeL s ↔ (0 ≤ p ∧ p < s.points) ∧ rtOf s p ≠ p := by
  have hp1 := hs.p1
  unfold freeL
  rw [mem_nodesOf]
  simp only [Bool.not_eq_true', decide_eq_false_iff_not]
  unfold rtOf
  constructor <;> intro h <;> exact ⟨by omega, h.2⟩
theorem fr_free {s : Survey} (hs : SvOk s) : Fr s (freeL s) := by
  have hp5 := hs.p5
  have hp1 := hs.p1
  refine ⟨nodesOf_nodup _ _, ?_, fun p hp => ?_⟩
  · have h0 := (root_in hs (p := 0) (by omega)).1
    have : (freeL s).length < s.points.toNat := nodesOf_lt (p := 0) (by omega) (by
      have : gi (rootsOf s) (0 : Int).toNat = 0 := by have : rtOf s 0 = 0 := by omega
                                                      exact this
      simp
      exact this)
    omega
  · have h := (mem_free hs).1 hp
    have hr := root_in hs h.1
    exact ⟨rtOf s p, fun h' => ((mem_free hs).1 h').2 hr.2, (con_rt hs h.1 (by omega)).2 hr.2.symm⟩
/-- The flow of one unit from each free point, over one denominator. -/
def gD (s : Survey) : Int := Dm (Am s (freeL s) (fun _ => 0)) (freeL s).length
theorem Dm_any {s : Survey} {pts : List Int} (hn : pts.length ≤ 4) (b b' : Nat → Int) : Dm (Am s pts b) pts.length = Dm (Am s pts b') pts.length :=
  Dm_congr hn fun i j hi hj => by unfold Am; rw [if_pos hj, if_pos hj]
theorem gD_ok {s : Survey} (hs : SvOk s) : 0 < gD s ∧ gD s ≤ 20736 := by
  have hF := fr_free hs
  have hn := hF.n4
  have hb := rh_unit s (freeL s) 0
  have h1 := D_pos (b := fun _ => 0) hs hF _ (Nat.le_refl _)
  have h2 := (sol_of hs hF hb).D20736
  rw [Dm_any hn _ (fun _ => 0)] at h2
  unfold gD
  omega
end Go.D1

set_option linter.unusedVariables false
set_option linter.unusedSimpArgs false
namespace Go.D1
open Go.Tb
/-- Heights h / D whose residuals balance at each point. -/
structure BH (s : Survey) (h : Int → Int) (D : Int) : Prop where
  pos : 0 < D
  root : ∀ p, 0 ≤ p → p < s.points → rtOf s p = p → h p = 0
  dv : ∀ p, 0 ≤ p → p < s.points → dv s.readings (fun r => r.weight * (h r.from_ - h r.to_ + D * r.rise)) p = 0
theorem bh_uniq {s : Survey} (hs : SvOk s) {h h' : Int → Int} {D D' : Int} (a : BH s h D) (b : BH s h' D') {p : Int} (hp : 0 ≤ p ∧ p < s.points) : h p * D' = h' p * D := by
  have hr := root_in hs hp
  have hc := (con_rt hs hp (show 0 ≤ rtOf s p ∧ rtOf s p < s.points by omega)).2 hr.2.symm
  have := flat_con hs (u := fun p => h p * D' - h' p * D) (fun p p0 p1 => by
    have e : dv s.readings (fun r => r.weight * (h r.from_ * D' - h' r.from_ * D - (h r.to_ * D' - h' r.to_ * D))) p = D' * dv s.readings (fun r => r.weight * (h r.from_ - h r.to_ + D * r.rise)) p - D * dv s.readings (fun r => r.weight * (h' r.from_ - h' r.to_ + D' * r.rise)) p := by
      rw [← dv_mul, ← dv_mul, ← dv_sub]
      exact dv_congr (fun r _ => by grind) p
    rw [e, a.dv p p0 p1, b.dv p p0 p1]; omega) hc
  rw [a.root (rtOf s p) (by omega) (by omega) hr.2, b.root (rtOf s p) (by omega) (by omega) hr.2] at this
  omega
/-- What the rises ask of the points of a list. -/
def rB (s : Survey) (pts : List Int) (k : Nat) : Int := -dv s.readings (fun r => r.weight * r.rise) (gi pts k)
theorem rh_rise {s : Survey} (hs : SvOk s) (pts : List Int) : Rh s pts (rB s pts) (fun r => r.rise) 1000 0 (-1) := by
  refine ⟨by omega, by omega, by omega, fun r hr => ?_, fun j hj => ?_⟩
  · have := (hs.rd r hr).2.2.2.1; omega
  · unfold rB; split <;> omega
def hX (s : Survey) (pts : List Int) (p : Int) : Int := ext pts (Xb (Am s pts (rB s pts)) pts.length pts.length) p
theorem hX_dv {s : Survey} (hs : SvOk s) {pts : List Int} (hF : Fr s pts) {q : Int} (hq : q ∈ pts) : dv s.readings (fun r => r.weight * (hX s pts r.from_ - hX s pts r.to_ + Dm (Am s pts (rB s pts)) pts.length * r.rise)) q = 0 := by
  have hn := hF.n4
  obtain ⟨m, hm, e⟩ := gi_ex hq
  have h1 := Xb_dv hs hF (rh_rise hs pts) (i := pts.length) (j := m) (Nat.le_refl _) hm
  rw [cramer _ (by omega) hm, e] at h1
  have h2 : (if q = -1 then Dm (Am s pts (rB s pts)) pts.length * 0 else 0) - (0 : Int) = 0 := by split <;> omega
  rw [h2] at h1
  exact h1
theorem hX_abs {s : Survey} (hs : SvOk s) {pts : List Int} (hF : Fr s pts) (p : Int) : (hX s pts p).natAbs ≤ 4000 * (Dm (Am s pts (rB s pts)) pts.length).natAbs := by
  by_cases hp : p ∈ pts
  · obtain ⟨k, hk, e⟩ := gi_ex hp
    have h1 := Nb_small hs hF (rh_rise hs pts) (i := pts.length) (k := k) (Nat.le_refl _) hk
    have hD := D_pos (b := rB s pts) hs hF _ (Nat.le_refl _)
    have hn := hF.n4
    have h2 : hX s pts p = Xb (Am s pts (rB s pts)) pts.length pts.length k := by unfold hX; rw [← e, ext_at hF.nd _ hk]
    rw [h2]
    generalize Xb (Am s pts (rB s pts)) pts.length pts.length k = X at *
    generalize Dm (Am s pts (rB s pts)) pts.length = D at *
    have h3 : (pts.length : Int) * (D * (1000 + 0)) ≤ 4 * (D * (1000 + 0)) := Int.mul_le_mul_of_nonneg_right (by omega) (by omega)
    omega
  · have : hX s pts p = 0 := ext_out _ hp
    rw [this]; omega
def hB (s : Survey) (p : Int) : Int := hX s (freeL s) p
theorem gD_r {s : Survey} (hs : SvOk s) : Dm (Am s (freeL s) (rB s (freeL s))) (freeL s).length = gD s := Dm_any (fr_free hs).n4 _ _
theorem bh_best {s : Survey} (hs : SvOk s) : BH s (hB s) (gD s) := by
  have hF := fr_free hs
  refine ⟨(gD_ok hs).1, fun p p0 p1 hr => ext_out _ fun h => ((mem_free hs).1 h).2 hr, fun p p0 p1 => ?_⟩
  have hfree : ∀ p, 0 ≤ p → p < s.points → rtOf s p ≠ p → dv s.readings (fun r => r.weight * (hB s r.from_ - hB s r.to_ + gD s * r.rise)) p = 0 := fun p p0 p1 hp => by
    have := hX_dv hs hF ((mem_free hs).2 ⟨⟨p0, p1⟩, hp⟩)
    rw [gD_r hs] at this
    exact this
  by_cases hp : rtOf s p = p
  · exact dv_root hs _ (fun _ => 0) hfree ⟨p0, p1⟩ hp (sumN_zero fun k _ => by split <;> rfl)
  · exact hfree p p0 p1 hp
theorem hB_abs {s : Survey} (hs : SvOk s) (p : Int) : (hB s p).natAbs ≤ 4000 * (gD s).natAbs := by
  have := hX_abs hs (fr_free hs) p
  rw [gD_r hs] at this
  exact this
/-- The heights of one part alone. -/
theorem part_best {s : Survey} (hs : SvOk s) {q : Int} (hq : 0 ≤ q ∧ q < s.points) (hr : rtOf s q = q) {p : Int} (hp : p ∈ oneOf s q) :
    hX s (oneOf s q) p * gD s = hB s p * Dm (Am s (oneOf s q) (rB s (oneOf s q))) (oneOf s q).length := by
  have hF := fr_one hs hq
  have hbest := bh_best hs
  have hpp := (mem_oneOf hs).1 hp
  have hc := (con_rt hs hpp.1 hq).2 hpp.2.1
  have hdvq := fun (x : Int) (hx : x ∈ oneOf s q) => hX_dv hs hF hx
  have hq0 : hX s (oneOf s q) q = 0 := ext_out _ fun h => ((mem_oneOf hs).1 h).2.2 rfl
  generalize hX s (oneOf s q) = X at *
  generalize Dm (Am s (oneOf s q) (rB s (oneOf s q))) (oneOf s q).length = E at *
  have hin : ∀ x, 0 ≤ x → x < s.points → rtOf s x ≠ x → dv s.readings (fun r => r.weight * ((if rtOf s r.from_ = q then X r.from_ * gD s - hB s r.from_ * E else 0) - (if rtOf s r.to_ = q then X r.to_ * gD s - hB s r.to_ * E else 0))) x = 0 := fun x x0 x1 hx => by
    by_cases hxq : rtOf s x = q
    · have hm : x ∈ oneOf s q := (mem_oneOf hs).2 ⟨⟨x0, x1⟩, by rw [hxq, hr], fun e => hx (by rw [hxq, e])⟩
      have e : dv s.readings (fun r => r.weight * ((if rtOf s r.from_ = q then X r.from_ * gD s - hB s r.from_ * E else 0) - (if rtOf s r.to_ = q then X r.to_ * gD s - hB s r.to_ * E else 0))) x = dv s.readings (fun r => gD s * (r.weight * (X r.from_ - X r.to_ + E * r.rise)) - E * (r.weight * (hB s r.from_ - hB s r.to_ + gD s * r.rise))) x := by
        refine dv_touch fun r hr' htouch => ?_
        have hsame := rt_same hs hr'
        have h1 : rtOf s r.from_ = q ∧ rtOf s r.to_ = q := by
          rcases htouch with e | e
          · rw [← hsame, e, hxq]; exact ⟨rfl, rfl⟩
          · rw [hsame, e, hxq]; exact ⟨rfl, rfl⟩
        simp only [if_pos h1.1, if_pos h1.2]
        grind
      rw [e, dv_sub, dv_mul, dv_mul, hdvq x hm, hbest.dv x x0 x1]; omega
    · rw [← dv_zero s.readings x]
      refine dv_touch fun r hr' htouch => ?_
      have hsame := rt_same hs hr'
      have h1 : rtOf s r.from_ ≠ q ∧ rtOf s r.to_ ≠ q := by
        rcases htouch with e | e
        · rw [← hsame, e]; exact ⟨hxq, hxq⟩
        · rw [hsame, e]; exact ⟨hxq, hxq⟩
      simp only [if_neg h1.1, if_neg h1.2]; simp
  have := flat_con hs (u := fun p => if rtOf s p = q then X p * gD s - hB s p * E else 0) (fun x x0 x1 => by
    by_cases hx : rtOf s x = x
    · exact dv_root hs _ (fun _ => 0) hin ⟨x0, x1⟩ hx (sumN_zero fun k _ => by split <;> rfl)
    · exact hin x x0 x1 hx) hc
  rw [if_pos (by rw [hpp.2.1, hr]), if_pos hr, hq0, hbest.root q hq.1 hq.2 hr] at this
  omega
def bestV (s : Survey) (p : Int) : Rat := red (hB s p) (gD s)
theorem bestV_is {s : Survey} (hs : SvOk s) (p : Int) : Is (bestV s p) (hB s p) (gD s) := .red (by have := gD_ok hs; omega)
theorem bestV_root {s : Survey} (hs : SvOk s) {p : Int} (hp : 0 ≤ p ∧ p < s.points) (hr : rtOf s p = p) : bestV s p = ⟨0, 1⟩ := by
  have hG := gD_ok hs
  have h := bestV_is hs p
  rw [(bh_best hs).root p hp.1 hp.2 hr] at h
  exact h.uniq (by omega) ((is_int 0).of_eq (by omega) (by omega))
theorem dv_take (f : Reading → Int) (p : Int) : ∀ (l : List Reading) (i : Nat), i < l.length → dv (l.take (i + 1)) f p = dv (l.take i) f p + ((if (gr l i).from_ = p then f (gr l i) else 0) - (if (gr l i).to_ = p then f (gr l i) else 0))
  | [], i, h => by simp at h
  | x :: l, 0, h => by simp [dv, gr]
  | x :: l, i + 1, h => by
    have ih := dv_take f p l i (by simpa using h)
    have e : gr (x :: l) (i + 1) = gr l i := by simp [gr]
    rw [e, List.take_succ_cons, List.take_succ_cons]
    simp only [dv]
    rw [ih]; omega
def dw (s : Survey) (p : Int) (i : Nat) : Int := -dv (s.readings.take i) (fun r => r.weight * r.rise) p
theorem dw_succ {s : Survey} (p : Int) {i : Nat} (h : i < s.readings.length) : dw s p (i + 1) = dw s p i + ((if (gr s.readings i).to_ = p then (gr s.readings i).weight * (gr s.readings i).rise else 0) - (if (gr s.readings i).from_ = p then (gr s.readings i).weight * (gr s.readings i).rise else 0)) := by
  unfold dw
  rw [dv_take _ _ _ _ h]; omega
theorem wr_abs {s : Survey} (hs : SvOk s) {i : Nat} (h : i < s.readings.length) : ((gr s.readings i).weight * (gr s.readings i).rise).natAbs ≤ 3000 := by
  have := gr_ok hs h
  exact na_mul (A := 3) (B := 1000) (by omega) (by omega)
theorem dw_abs {s : Survey} (hs : SvOk s) (p : Int) : ∀ i, i ≤ s.readings.length → (dw s p i).natAbs ≤ i * 3000
  | 0, _ => by simp [dw, dv]
  | i + 1, hi => by
    have ih := dw_abs hs p i (by omega)
    have hw := wr_abs hs (i := i) (by omega)
    have hne := (gr_ok hs (i := i) (by omega)).2.2.1
    rw [dw_succ p (by omega)]
    generalize (gr s.readings i).weight * (gr s.readings i).rise = x at *
    split <;> split <;> omega
theorem dw_end (s : Survey) (pts : List Int) (k : Nat) : dw s (gi pts k) s.readings.length = rB s pts k := by unfold dw rB; rw [List.take_length]
theorem best_1_eq {s : Survey} (hs : SvOk s) (pts : List Int) (k : Nat) : level_best_1 s (gi pts k) = some (rB s pts k) := by
  have h8 := hs.len
  unfold level_best_1
  rw [← dw_end]
  refine for0 s.readings.length (dw s (gi pts k)) (fun n x i => level_best_1_L1 (gi pts k) s n x i) _ (by simp [dw, dv]) (fun n i hi => ?_) (fun n => ?_) (by omega)
  · have hr := gr_ok hs hi
    have hw := wr_abs hs hi
    have ha := dw_abs hs (gi pts k) i (by omega)
    show level_best_1_B1 (gi pts k) s (level_best_1_L1 (gi pts k) s n) _ _ = _
    unfold level_best_1_B1 level_best_1_k2
    rw [if_pos (by omega), ix_nat (gr_at hi), dw_succ _ hi]
    by_cases h1 : gi pts k = (gr s.readings i).to_
    · rw [if_pos h1, gd_pos (by omega), gd_pos (by omega), gd_pos (by omega), if_pos h1.symm, if_neg (by omega), Int.sub_zero]; rfl
    · rw [if_neg h1, if_neg (show ¬ (gr s.readings i).to_ = gi pts k by omega)]
      by_cases h2 : gi pts k = (gr s.readings i).from_
      · rw [if_pos h2, gd_pos (by omega), gd_pos (by omega), gd_pos (by omega), if_pos h2.symm, show ∀ x y : Int, x + (0 - y) = x - y from fun x y => by omega]; rfl
      · rw [if_neg h2, if_neg (show ¬ (gr s.readings i).from_ = gi pts k by omega), gd_pos (by omega), Int.sub_zero, Int.add_zero]; rfl
  · show level_best_1_B1 (gi pts k) s (level_best_1_L1 (gi pts k) s n) _ _ = _
    unfold level_best_1_B1 level_best_1_k1
    rw [if_neg (by omega)]
theorem iota_sorted (n : Nat) : (iota n).Pairwise (· < ·) := by
  induction n with
  | zero => exact List.Pairwise.nil
  | succ n ih =>
    rw [iota_succ, List.pairwise_append]
    refine ⟨ih, by simp, fun a ha b hb => ?_⟩
    have := mem_iota.1 ha
    simp at hb
    omega
theorem part_drop {s : Survey} (hs : SvOk s) {q : Int} (hq : 0 ≤ q ∧ q < s.points) (hr : rtOf s q = q) : 1 ≤ (partOf (rootsOf s) q).length ∧ (partOf (rootsOf s) q).drop 1 = oneOf s q := by
  have hm : q ∈ partOf (rootsOf s) q := (part_mem hs).2 ⟨hq, hr⟩
  have hnd := part_nodup (s := s) q
  have hso : (partOf (rootsOf s) q).Pairwise (· < ·) := (iota_sorted _).filter _
  have hcut := part_cut hs q
  rw [hr] at hcut
  have hmem := fun x => part_mem hs (q := q) (p := x)
  generalize partOf (rootsOf s) q = l at *
  cases l with
  | nil => simp at hm
  | cons x l =>
    have hx := (hmem x).1 (by simp)
    have hle := (root_in hs hx.1).1
    have hxq : x = q := by
      rcases List.mem_cons.1 hm with h | h
      · exact h.symm
      · have := (List.pairwise_cons.1 hso).1 q h
        omega
    refine ⟨by simp, ?_⟩
    have := cut_filter (j := q) (x :: l) 0 hnd (by simp) hxq
    rw [← hcut, ← this]; rfl
theorem level_best_eq {s : Survey} (hs : SvOk s) : ∃ l, level_best s = some l ∧ l.length = s.points.toNat ∧ ∀ p : Nat, p < s.points.toNat → rt l p = bestV s p := by
  have hp1 := hs.p1
  have hp5 := hs.p5
  have hPl := parts_len hs
  have hG := gD_ok hs
  unfold level_best
  have hrep : slices_Repeat_Rat ([(⟨0, 1⟩ : Rat)] : List Rat) s.points = some (List.replicate s.points.toNat ⟨0, 1⟩) := by
    show gd (1 ≤ s.points ∧ s.points ≤ 8) _ = _
    rw [gd_pos (by omega)]
  rw [bnd_eq hrep, bnd_eq (parts_eq hs)]
  obtain ⟨l, ⟨l1, l2⟩, l3⟩ := ex_loop (partsR s).length (fun t (l : List Rat) => l.length = s.points.toNat ∧ ∀ p : Nat, p < s.points.toNat → ((rtOf s p = p ∨ ∃ t' x, t' < t ∧ (partsR s)[t']? = some x ∧ (p : Int) ∈ x) → rt l p = bestV s p))
    (fun n l t => level_best_L2 s (partsR s) n t l) (fun l => some l) (fun n t l ht ⟨i1, i2⟩ => by
      have hx : (partsR s)[t]? = some (partsR s)[t] := List.getElem?_eq_getElem ht
      generalize (partsR s)[t] = pt at hx
      obtain ⟨q, hq1, hq2, rfl⟩ := (parts_mem hs).1 (List.mem_of_getElem? hx)
      obtain ⟨d1, d2⟩ := part_drop hs hq1 hq2
      have hF := fr_one hs hq1
      have hn := hF.n4
      obtain ⟨m, xs, m', b1, b2, b3, b4⟩ := bal_solve hs hF (rh_rise hs (oneOf s q)) (f := fun x5 => level_best_1 s x5) (fun k hk => best_1_eq hs _ k)
      have hval : ∀ k, k < (oneOf s q).length → rt xs k = bestV s (gi (oneOf s q) k) := fun k hk => by
        have h1 := b4 k hk
        have h2 := part_best hs hq1 hq2 (gi_mem hk)
        have hD := D_pos (b := rB s (oneOf s q)) hs hF _ (Nat.le_refl _)
        have h3 : hX s (oneOf s q) (gi (oneOf s q) k) = Nm (Am s (oneOf s q) (rB s (oneOf s q))) (oneOf s q).length k (oneOf s q).length := by
          unfold hX
          rw [ext_at hF.nd _ hk]
          unfold Xb
          rw [if_pos hk]
        rw [h3] at h2
        exact (h1.of_eq (by omega) h2).red_eq (by omega)
      obtain ⟨l', ⟨j1, j2, j3⟩, j4⟩ := ex_loop (oneOf s q).length (fun k (l : List Rat) => l.length = s.points.toNat ∧ (∀ p : Nat, p < s.points.toNat → ((rtOf s p = p ∨ ∃ t' x, t' < t ∧ (partsR s)[t']? = some x ∧ (p : Int) ∈ x) → rt l p = bestV s p)) ∧ ∀ k', k' < k → rt l (gi (oneOf s q) k').toNat = bestV s (gi (oneOf s q) k'))
        (fun n' l k => level_best_L1 (t : Int) (level_best_L2 s (partsR s) n) (partOf (rootsOf s) q) (xs, m') n' k l) (fun l => level_best_L2 s (partsR s) n ((t + 1 : Nat) : Int) l) (fun n' k l hk ⟨k1, k2, k3⟩ => by
          have hmk := (mem_oneOf hs).1 (gi_mem hk)
          have hset : ∀ p : Nat, p < s.points.toNat → rt (l.set (gi (oneOf s q) k).toNat (rt xs k)) p = if (gi (oneOf s q) k).toNat = p then bestV s p else rt l p := fun p hp => by
            rw [rt_set]
            by_cases e : (gi (oneOf s q) k).toNat = p
            · rw [if_pos ⟨e, by omega⟩, if_pos e, hval k hk, ← e, show (((gi (oneOf s q) k).toNat : Nat) : Int) = gi (oneOf s q) k by omega]
            · rw [if_neg (by omega), if_neg e]
          refine ⟨l.set (gi (oneOf s q) k).toNat (rt xs k), ⟨by rw [List.length_set, k1], fun p hp h => ?_, fun k' hk' => ?_⟩, ?_⟩
          · rw [hset p hp]
            split
            · rfl
            · exact k2 p hp h
          · have hmk' := (mem_oneOf hs).1 (gi_mem (show k' < (oneOf s q).length by omega))
            rw [hset _ (by omega)]
            split
            · rw [show (((gi (oneOf s q) k').toNat : Nat) : Int) = gi (oneOf s q) k' by omega]
            · rename_i hne
              have hkk : k' ≠ k := fun e => hne (by rw [e])
              exact k3 k' (by omega)
          · show level_best_B1 (t : Int) (level_best_L2 s (partsR s) n) (partOf (rootsOf s) q) (xs, m') (level_best_L1 (t : Int) (level_best_L2 s (partsR s) n) (partOf (rootsOf s) q) (xs, m') n') _ _ = _
            unfold level_best_B1
            have hd' : List.drop (Int.toNat 1) (partOf (rootsOf s) q) = oneOf s q := d2
            rw [hd', if_pos (by omega), ix_nat (gi_at hk), ix_nat (rt_at (show k < xs.length by omega)), ix_eq hmk.1.1 (rt_at (show (gi (oneOf s q) k).toNat < l.length by omega)), gd_pos (by omega)]; rfl) (fun n' l ⟨k1, k2, k3⟩ => by
          show level_best_B1 (t : Int) (level_best_L2 s (partsR s) n) (partOf (rootsOf s) q) (xs, m') (level_best_L1 (t : Int) (level_best_L2 s (partsR s) n) (partOf (rootsOf s) q) (xs, m') n') _ _ = _
          unfold level_best_B1 level_best_k2
          have hd' : List.drop (Int.toNat 1) (partOf (rootsOf s) q) = oneOf s q := d2
          rw [hd', if_neg (by omega), gd_pos (by omega)]; rfl) (by omega) (i0 := 0) (by omega) (s0 := l) ⟨i1, i2, fun k' h => by omega⟩
      refine ⟨l', ⟨j1, fun p hp h => ?_⟩, ?_⟩
      · rcases h with h | ⟨t', x, ht', hx', hpx⟩
        · exact j2 p hp (.inl h)
        · by_cases e : t' = t
          · subst e
            rw [hx] at hx'
            cases hx'
            have hpm := (part_mem hs).1 hpx
            by_cases e2 : (p : Int) = q
            · exact j2 p hp (.inl (by rw [hpm.2, e2]))
            · obtain ⟨k, hk, hkp⟩ := gi_ex ((mem_oneOf hs).2 ⟨hpm.1, by rw [hpm.2, hq2], e2⟩)
              have := j3 k hk
              rw [hkp, Int.toNat_natCast] at this
              exact this
          · exact j2 p hp (.inr ⟨t', x, by omega, hx', hpx⟩)
      · show level_best_B2 s (partsR s) (level_best_L2 s (partsR s) n) _ _ = _
        unfold level_best_B2
        have hd' : List.drop (Int.toNat 1) (partOf (rootsOf s) q) = oneOf s q := d2
        rw [if_pos (by omega), ix_nat hx, gd_pos (by omega), hd', bnd_eq b1, bnd_eq b2, gd_pos (by omega)]
        exact j4) (fun n l _ => by
      show level_best_B2 s (partsR s) (level_best_L2 s (partsR s) n) _ _ = _
      unfold level_best_B2 level_best_k1
      rw [if_neg (by omega)]) (by omega) (i0 := 0) (by omega) (s0 := List.replicate s.points.toNat ⟨0, 1⟩) ⟨by simp, fun p hp h => by
        rcases h with h | ⟨_, _, h, _⟩
        · rw [bestV_root hs (by omega) h]
          simp [rt, List.getD_eq_getElem?_getD, hp]
        · omega⟩
  refine ⟨l, l3, l1, fun p hp => l2 p hp (.inr ?_)⟩
  have hpp : 0 ≤ (p : Int) ∧ (p : Int) < s.points := by omega
  have hr := root_in hs hpp
  have hin : partOf (rootsOf s) (rtOf s p) ∈ partsR s := (parts_mem hs).2 ⟨rtOf s p, by omega, hr.2, rfl⟩
  obtain ⟨t', ht', e⟩ := List.getElem_of_mem hin
  exact ⟨t', _, ht', by rw [List.getElem?_eq_getElem ht', e], (part_mem hs).2 ⟨hpp, rfl⟩⟩
def bestL (s : Survey) : List Rat := (iota s.points.toNat).map (bestV s)
theorem best_list {s : Survey} {l : List Rat} (h1 : l.length = s.points.toNat) (h2 : ∀ p : Nat, p < s.points.toNat → rt l p = bestV s p) : l = bestL s := by
  apply List.ext_getElem?
  intro p
  by_cases hp : p < s.points.toNat
  · rw [rt_at (by omega), h2 p hp]
    unfold bestL
    rw [List.getElem?_map, gi_at (by rw [iota_len]; exact hp), iota_gi hp]; rfl
  · rw [List.getElem?_eq_none (by omega), List.getElem?_eq_none (by unfold bestL; rw [List.length_map, iota_len]; omega)]
theorem lbest_eq {s : Survey} (hs : SvOk s) : level_best s = some (bestL s) := by
  obtain ⟨l, h1, h2, h3⟩ := level_best_eq hs
  rw [h1, best_list h2 h3]
end Go.D1

set_option linter.unusedVariables false
set_option linter.unusedSimpArgs false
namespace Go.D1
open Go.Tb
theorem bestL_at {s : Survey} {p : Int} (h : 0 ≤ p ∧ p < s.points) : (bestL s)[p.toNat]? = some (bestV s p) := by
  unfold bestL
  rw [List.getElem?_map, gi_at (by rw [iota_len]; omega), iota_gi (by omega), show ((p.toNat : Nat) : Int) = p by omega]; rfl
theorem bestL_len (s : Survey) : (bestL s).length = s.points.toNat := by unfold bestL; rw [List.length_map, iota_len]
theorem Best_eq (s : Survey) : level_Best s = some (if validate s = 0 then (bestL s, 0) else ([], validate s)) := by
  unfold level_Best
  rw [bnd_eq (Validate_eq s)]
  by_cases hv : validate s = 0
  · rw [if_pos hv, if_pos hv, bnd_eq (lbest_eq (val0.1 hv))]
  · rw [if_neg hv, if_neg hv]
theorem take_at {α β : Type} (f : α → β) {l : List α} {t : Nat} {x : α} (h : l[t]? = some x) : (l.take (t + 1)).map f = (l.take t).map f ++ [f x] := by
  rw [List.take_add_one, h, List.map_append]; rfl
end Go.D1

set_option linter.unusedVariables false
set_option linter.unusedSimpArgs false
namespace Go.D1
open Go.Tb
theorem lcm_step {a b D : Int} (ha : 0 < a) (hb : 0 < b) (hD : 0 < D) (h1 : a ∣ D) (h2 : b ∣ D) :
    (Int.gcd a b : Int) ≠ 0 ∧ (0 < Int.tdiv a (Int.gcd a b) ∧ Int.tdiv a (Int.gcd a b) ≤ a) ∧ 0 < Int.tdiv a (Int.gcd a b) * b ∧ Int.tdiv a (Int.gcd a b) * b ∣ D ∧ a ∣ Int.tdiv a (Int.gcd a b) * b ∧ b ∣ Int.tdiv a (Int.gcd a b) * b := by
  have hg : 0 < Int.gcd a b := Int.gcd_pos_of_ne_zero_left b (by omega)
  obtain ⟨c, hc⟩ := Int.gcd_dvd_left (a := a) (b := b)
  have e1 : Int.tdiv a (Int.gcd a b) = c := Int.tdiv_eq_of_eq_mul_right (by omega) hc
  have hc0 : 0 < c := by
    rcases Int.lt_trichotomy c 0 with h | h | h
    · have := Int.mul_neg_of_pos_of_neg (show (0 : Int) < Int.gcd a b by omega) h; omega
    · rw [h, Int.mul_zero] at hc; omega
    · exact h
  have hca : c ≤ a := by
    have : 1 * c ≤ (Int.gcd a b : Int) * c := Int.mul_le_mul_of_nonneg_right (by omega) (by omega)
    omega
  have e2 : c * b = (Int.lcm a b : Int) := by
    have h3 := Int.gcd_mul_lcm a b
    have h4 : (Int.gcd a b : Int) * (Int.lcm a b : Int) = a * b := by
      rw [← Int.natCast_mul, h3, Int.natCast_mul]
      rw [show (a.natAbs : Int) = a by omega, show (b.natAbs : Int) = b by omega]
    refine Int.eq_of_mul_eq_mul_left (show (Int.gcd a b : Int) ≠ 0 by omega) ?_
    rw [h4, ← Int.mul_assoc, ← hc]
  have hDn : D = ((D.toNat : Nat) : Int) := by omega
  rw [e1]
  refine ⟨by omega, ⟨hc0, hca⟩, Int.mul_pos hc0 hb, ?_, ?_, Int.dvd_mul_left _ _⟩
  · rw [e2, hDn]
    rw [hDn] at h1 h2
    exact Int.natCast_dvd_natCast.2 (Int.lcm_dvd h1 h2)
  · rw [e2]; exact Int.dvd_lcm_left a b
end Go.D1

set_option linter.unusedVariables false
set_option linter.unusedSimpArgs false
namespace Go.D1
open Go.Tb
/-- A claim is right. -/
def GoodT (s : Survey) (t : Table) : Prop := ∀ p : Nat, p < s.points.toNat → gi t.num p * gD s = hB s p * t.den
def tR (t : Table) (r : Reading) : Int := r.weight * (r.rise * t.den - gi t.num r.to_.toNat + gi t.num r.from_.toNat)
theorem part_head {s : Survey} (hs : SvOk s) {q : Int} (hq : 0 ≤ q ∧ q < s.points) (hr : rtOf s q = q) : (partOf (rootsOf s) q)[0]? = some q := by
  obtain ⟨h1, h2⟩ := part_drop hs hq hr
  have hm : q ∈ partOf (rootsOf s) q := (part_mem hs).2 ⟨hq, hr⟩
  generalize partOf (rootsOf s) q = l at *
  cases l with
  | nil => simp at h1
  | cons x l =>
    rcases List.mem_cons.1 hm with h | h
    · rw [h]; rfl
    · have : q ∈ oneOf s q := by rw [← h2]; exact h
      exact absurd rfl ((mem_oneOf hs).1 this).2.2
theorem good_bh {s : Survey} (hs : SvOk s) {t : Table} (hd : 0 < t.den) : BH s (fun p => gi t.num p.toNat) t.den ↔ GoodT s t := by
  have hG := gD_ok hs
  have hb := bh_best hs
  constructor
  · intro h p hp
    have := bh_uniq hs h hb (p := (p : Int)) (by omega)
    rw [Int.toNat_natCast] at this
    exact this
  · intro h
    have h' : ∀ p : Int, 0 ≤ p → p < s.points → gi t.num p.toNat * gD s = hB s p * t.den := fun p p0 p1 => by
      have := h p.toNat (by omega)
      rw [show ((p.toNat : Nat) : Int) = p by omega] at this
      exact this
    refine ⟨hd, fun p p0 p1 hr => ?_, fun p p0 p1 => ?_⟩
    · have := h' p p0 p1
      rw [hb.root p p0 p1 hr, Int.zero_mul] at this
      rcases Int.mul_eq_zero.1 this with h | h
      · exact h
      · omega
    · have e : gD s * dv s.readings (fun r => r.weight * (gi t.num r.from_.toNat - gi t.num r.to_.toNat + t.den * r.rise)) p = t.den * dv s.readings (fun r => r.weight * (hB s r.from_ - hB s r.to_ + gD s * r.rise)) p := by
        rw [← dv_mul, ← dv_mul]
        refine dv_congr (fun r hr => ?_) p
        have hrr := hs.rd r hr
        have h1 := h' r.from_ hrr.1.1 hrr.1.2
        have h2 := h' r.to_ hrr.2.1.1 hrr.2.1.2
        grind
      rw [hb.dv p p0 p1, Int.mul_zero] at e
      rcases Int.mul_eq_zero.1 e with h | h
      · omega
      · exact h
/-- The sums of a claim. -/
def sumL (s : Survey) (t : Table) (k : Nat) : List Int := (iota s.points.toNat).map fun p => -dv (s.readings.take k) (tR t) p
theorem sumL_gi {s : Survey} {t : Table} {k p : Nat} (h : p < s.points.toNat) : gi (sumL s t k) p = -dv (s.readings.take k) (tR t) (p : Int) := by
  apply gi_of
  unfold sumL
  rw [List.getElem?_map, gi_at (by rw [iota_len]; exact h), iota_gi h]; rfl
theorem sumL_len (s : Survey) (t : Table) (k : Nat) : (sumL s t k).length = s.points.toNat := by unfold sumL; rw [List.length_map, iota_len]
theorem sumL_succ {s : Survey} (hs : SvOk s) {t : Table} {k : Nat} (hk : k < s.readings.length) :
    ((sumL s t k).set (gr s.readings k).to_.toNat (gi (sumL s t k) (gr s.readings k).to_.toNat + tR t (gr s.readings k))).set (gr s.readings k).from_.toNat (gi (sumL s t k) (gr s.readings k).from_.toNat - tR t (gr s.readings k)) = sumL s t (k + 1) := by
  have hr := gr_ok hs hk
  have hl := sumL_len s t k
  refine gi_ext (by rw [List.length_set, List.length_set, hl, sumL_len]) fun j hj => ?_
  rw [List.length_set, List.length_set, hl] at hj
  rw [gi_set, gi_set, List.length_set, hl, sumL_gi (k := k + 1) hj, dv_take _ _ _ _ hk]
  rw [show dv (s.readings.take k) (tR t) (j : Int) = -gi (sumL s t k) j by rw [sumL_gi hj]; omega]
  generalize gr s.readings k = r at *
  by_cases h1 : r.from_.toNat = j
  · rw [if_pos ⟨h1, hj⟩, if_pos (by omega), if_neg (by omega), h1]; omega
  · rw [if_neg (fun h => h1 h.1), if_neg (show ¬ r.from_ = (j : Int) by omega)]
    by_cases h2 : r.to_.toNat = j
    · rw [if_pos ⟨h2, hj⟩, if_pos (by omega), h2]; omega
    · rw [if_neg (fun h => h2 h.1), if_neg (show ¬ r.to_ = (j : Int) by omega)]; omega
def okT (s : Survey) (t : Table) : Bool := within t.den 1 1000000 && decide ((t.num.length : Int) = s.points) && t.num.all fun x => within x (-1000000000) 1000000000
theorem okT_iff {s : Survey} {t : Table} : okT s t = true ↔ (1 ≤ t.den ∧ t.den ≤ 1000000) ∧ (t.num.length : Int) = s.points ∧ ∀ x ∈ t.num, -1000000000 ≤ x ∧ x ≤ 1000000000 := by
  unfold okT
  rw [Bool.and_eq_true, Bool.and_eq_true, within_iff, decide_eq_true_eq, List.all_eq_true]
  constructor
  · intro ⟨⟨h1, h2⟩, h3⟩; exact ⟨h1, h2, fun x hx => within_iff.1 (h3 x hx)⟩
  · intro ⟨h1, h2, h3⟩; exact ⟨⟨h1, h2⟩, fun x hx => within_iff.2 (h3 x hx)⟩
theorem tR_abs {s : Survey} (hs : SvOk s) {t : Table} (ht : okT s t = true) {r : Reading} (hr : r ∈ s.readings) :
    t.num[r.to_.toNat]? = some (gi t.num r.to_.toNat) ∧ t.num[r.from_.toNat]? = some (gi t.num r.from_.toNat) ∧ InR (r.rise * t.den) ∧ InR (r.rise * t.den - gi t.num r.to_.toNat) ∧ InR (r.rise * t.den - gi t.num r.to_.toNat + gi t.num r.from_.toNat) ∧ (tR t r).natAbs ≤ 9000000000 := by
  obtain ⟨h1, h2, h3⟩ := okT_iff.1 ht
  have hrr := hs.rd r hr
  have x1 := gi_at (l := t.num) (i := r.to_.toNat) (by omega)
  have x2 := gi_at (l := t.num) (i := r.from_.toNat) (by omega)
  have b1 := h3 _ (List.mem_of_getElem? x1)
  have b2 := h3 _ (List.mem_of_getElem? x2)
  have m1 := na_mul (a := r.rise) (b := t.den) (A := 1000) (B := 1000000) (by omega) (by omega)
  have m2 := na_mul (a := r.weight) (b := r.rise * t.den - gi t.num r.to_.toNat + gi t.num r.from_.toNat) (A := 3) (B := 3000000000) (by omega) (by omega)
  exact ⟨x1, x2, by omega, by omega, by omega, m2⟩
theorem sumL_abs {s : Survey} (hs : SvOk s) {t : Table} (ht : okT s t = true) (p : Int) : ∀ k, k ≤ s.readings.length → (dv (s.readings.take k) (tR t) p).natAbs ≤ k * 9000000000
  | 0, _ => by simp [dv]
  | k + 1, hk => by
    have ih := sumL_abs hs ht p k (by omega)
    have h := (tR_abs hs ht (gr_mem (t := k) (by omega))).2.2.2.2.2
    have hne := (gr_ok hs (i := k) (by omega)).2.2.1
    rw [dv_take _ _ _ _ (by omega)]
    split <;> split <;> omega
/-- The program's check of a claim that is in its bounds. -/
theorem check_loop {s : Survey} (hs : SvOk s) {t : Table} (ht : okT s t = true) : (GoodT s t → level_CheckBest_k3 s t false = some 0) ∧ (¬ GoodT s t → level_CheckBest_k3 s t false = some 7) := by
  obtain ⟨h1, h2, h3⟩ := okT_iff.1 ht
  have hp1 := hs.p1
  have hp5 := hs.p5
  have h8 := hs.len
  have hPl := parts_len hs
  have e : level_CheckBest_k3 s t false = level_CheckBest_k2 s t (sumL s t s.readings.length) := by
    unfold level_CheckBest_k3
    rw [if_neg (by simp), gd_pos (by omega)]
    refine for0 s.readings.length (sumL s t) (fun n l k => level_CheckBest_L2 s t n k l) _ (by
      unfold sumL
      simp only [List.take_zero, dv]
      apply List.ext_getElem?
      intro j
      rw [List.getElem?_map, List.getElem?_replicate]
      by_cases hj : j < s.points.toNat
      · rw [if_pos hj, gi_at (by rw [iota_len]; exact hj)]; rfl
      · rw [if_neg hj, List.getElem?_eq_none (by rw [iota_len]; omega)]; rfl) (fun n k hk => ?_) (fun n => ?_) (by omega)
    · have hr := gr_ok hs hk
      obtain ⟨x1, x2, g1, g2, g3, g4⟩ := tR_abs hs ht (gr_mem hk)
      have a1 := sumL_abs hs ht (gr s.readings k).to_ k (by omega)
      have a2 := sumL_abs hs ht (gr s.readings k).from_ k (by omega)
      have hl := sumL_len s t k
      have hx := gr_at hk
      have hsucc := sumL_succ hs (t := t) hk
      generalize gr s.readings k = r at *
      have y1 := gi_at (l := sumL s t k) (i := r.to_.toNat) (by omega)
      have y2 := gi_at (l := sumL s t k) (i := r.from_.toNat) (by omega)
      have v1 : gi (sumL s t k) r.to_.toNat = -dv (s.readings.take k) (tR t) r.to_ := by rw [sumL_gi (by omega), show ((r.to_.toNat : Nat) : Int) = r.to_ by omega]
      have v2 : gi (sumL s t k) r.from_.toNat = -dv (s.readings.take k) (tR t) r.from_ := by rw [sumL_gi (by omega), show ((r.from_.toNat : Nat) : Int) = r.from_ by omega]
      have y3 : ((sumL s t k).set r.to_.toNat (gi (sumL s t k) r.to_.toNat + tR t r))[r.from_.toNat]? = some (gi (sumL s t k) r.from_.toNat) := by
        rw [List.getElem?_set, if_neg (by omega)]; exact y2
      show level_CheckBest_B2 s t (level_CheckBest_L2 s t n) _ _ = _
      unfold level_CheckBest_B2
      rw [if_pos (by omega), ix_nat hx, gd_pos g1, ix_eq hr.2.1.1 x1, gd_pos g2, ix_eq hr.1.1 x2, gd_pos g3]
      show gd (InR (tR t r)) (ix (sumL s t k) r.to_ fun x7 => gd (InR (x7 + tR t r)) <| ix (sumL s t k) r.to_ fun x8 => ix ((sumL s t k).set (Int.toNat r.to_) (x7 + tR t r)) r.from_ fun x9 => gd (InR (x9 - tR t r)) <| ix ((sumL s t k).set (Int.toNat r.to_) (x7 + tR t r)) r.from_ fun x10 => gd (InR ((k : Int) + 1)) <| level_CheckBest_L2 s t n ((k : Int) + 1) (((sumL s t k).set (Int.toNat r.to_) (x7 + tR t r)).set (Int.toNat r.from_) (x9 - tR t r))) = _
      rw [gd_pos (by omega), ix_eq hr.2.1.1 y1, gd_pos (by omega), ix_eq hr.2.1.1 y1, ix_eq hr.1.1 y3, gd_pos (by omega), ix_eq hr.1.1 y3, gd_pos (by omega), hsucc]; rfl
    · show level_CheckBest_B2 s t (level_CheckBest_L2 s t n) _ _ = _
      unfold level_CheckBest_B2
      rw [if_neg (by omega)]
  have hk1 : level_CheckBest_k1 (sumL s t s.readings.length) = some (if (sumL s t s.readings.length).any (fun x => !decide (x = 0)) = true then 7 else 0) := by
    have hl := sumL_len s t s.readings.length
    unfold level_CheckBest_k1
    rw [bnd_eq (has_eq (f := level_CheckBest_2) (p := fun x => !decide (x = 0)) (by omega) (fun x _ => rfl))]
    split <;> rfl
  have e2 : level_CheckBest_k2 s t (sumL s t s.readings.length) = if (partsR s).all (fun x => decide (gi t.num (gi x 0).toNat = 0)) = true then some (if (sumL s t s.readings.length).any (fun x => !decide (x = 0)) = true then 7 else 0) else some 7 := by
    unfold level_CheckBest_k2
    rw [bnd_eq (parts_eq hs)]
    refine list_loop0 (partsR s) (fun x => decide (gi t.num (gi x 0).toNat = 0)) (level_CheckBest_L1 t (sumL s t s.readings.length) (partsR s)) _ _ (fun n i x hx => ?_) (fun n => ?_) (by omega)
    · have hi := lt_of_at hx
      obtain ⟨q, hq1, hq2, rfl⟩ := (parts_mem hs).1 (List.mem_of_getElem? hx)
      have hh := part_head hs hq1 hq2
      have hg : gi (partOf (rootsOf s) q) 0 = q := gi_of hh
      show level_CheckBest_B1 t (sumL s t s.readings.length) (partsR s) (level_CheckBest_L1 t (sumL s t s.readings.length) (partsR s) n) _ = _
      unfold level_CheckBest_B1
      rw [if_pos (by omega), ix_nat hx, ix0 hh, ix_eq hq1.1 (gi_at (show q.toNat < t.num.length by omega)), hg, gd_pos (by omega)]
      by_cases h0 : gi t.num q.toNat = 0
      · rw [if_pos h0, if_pos (decide_eq_true h0)]; rfl
      · rw [if_neg h0, if_neg (by simpa using h0)]
    · show level_CheckBest_B1 t (sumL s t s.readings.length) (partsR s) (level_CheckBest_L1 t (sumL s t s.readings.length) (partsR s) n) _ = _
      unfold level_CheckBest_B1
      rw [if_neg (by omega), hk1]
  have hroots : (partsR s).all (fun x => decide (gi t.num (gi x 0).toNat = 0)) = true ↔ ∀ p, 0 ≤ p → p < s.points → rtOf s p = p → gi t.num p.toNat = 0 := by
    rw [List.all_eq_true]
    constructor
    · intro h p p0 p1 hr
      have := of_decide_eq_true (h _ ((parts_mem hs).2 ⟨p, ⟨p0, p1⟩, hr, rfl⟩))
      rw [gi_of (part_head hs ⟨p0, p1⟩ hr)] at this
      exact this
    · intro h x hx
      obtain ⟨q, hq1, hq2, rfl⟩ := (parts_mem hs).1 hx
      rw [gi_of (part_head hs hq1 hq2)]
      exact decide_eq_true (h q hq1.1 hq1.2 hq2)
  have hdv : ∀ p, dv s.readings (fun r => r.weight * (gi t.num r.from_.toNat - gi t.num r.to_.toNat + t.den * r.rise)) p = dv s.readings (tR t) p := fun p => dv_congr (fun r _ => by unfold tR; grind) p
  have hany : (sumL s t s.readings.length).any (fun x => !decide (x = 0)) = true ↔ ¬ ∀ p, 0 ≤ p → p < s.points → dv s.readings (tR t) p = 0 := by
    rw [List.any_eq_true]
    constructor
    · intro ⟨x, hx, hx0⟩ hall
      unfold sumL at hx
      obtain ⟨p, hp, rfl⟩ := List.mem_map.1 hx
      have hp' := mem_iota.1 hp
      rw [List.take_length, hall p hp'.1 (by omega)] at hx0
      simp at hx0
    · intro hn
      by_cases hex : ∃ x ∈ sumL s t s.readings.length, (!decide (x = 0)) = true
      · exact hex
      · exfalso
        refine hn fun p p0 p1 => ?_
        by_cases h0 : dv s.readings (tR t) p = 0
        · exact h0
        · exfalso
          refine hex ⟨-dv s.readings (tR t) p, ?_, by simp; omega⟩
          unfold sumL
          rw [List.take_length]
          exact List.mem_map.2 ⟨p, mem_iota.2 (by omega), rfl⟩
  rw [e, e2, ← good_bh hs (by omega)]
  constructor
  · intro h
    rw [if_pos (hroots.2 h.root), if_neg]
    intro ha
    refine hany.1 ha fun p p0 p1 => ?_
    rw [← hdv]; exact h.dv p p0 p1
  · intro h
    by_cases hR : (partsR s).all (fun x => decide (gi t.num (gi x 0).toNat = 0)) = true
    · rw [if_pos hR, if_pos]
      refine hany.2 fun hall => h ⟨by omega, hroots.1 hR, fun p p0 p1 => ?_⟩
      exact (hdv p).trans (hall p p0 p1)
    · rw [if_neg hR]
theorem CheckBest_eq {s : Survey} {t : Table} (hl : t.num.length ≤ 1000) : level_CheckBest s t = if validate s = 0 then (if okT s t = true then level_CheckBest_k3 s t false else some 1) else some (validate s) := by
  unfold level_CheckBest okT
  rw [bnd_eq (Validate_eq s)]
  by_cases hv : validate s = 0
  · rw [if_pos hv, if_pos hv, bnd_eq (lwithin_eq _ _ _)]
    cases h1 : within t.den 1 1000000
    · rw [if_neg (by simp), if_neg (by simp)]; rfl
    · rw [if_pos rfl]
      by_cases h2 : (t.num.length : Int) = s.points
      · rw [if_pos h2, decide_eq_true h2, bnd_eq (has_eq (f := level_CheckBest_1) (p := fun x => !within x (-1000000000) 1000000000) hl (fun x _ => by
          unfold level_CheckBest_1
          rw [bnd_eq (lwithin_eq _ _ _)]))]
        cases h3 : t.num.any fun x => !within x (-1000000000) 1000000000
        · have : (t.num.all fun x => within x (-1000000000) 1000000000) = true := by
            rw [List.any_eq_false] at h3
            rw [List.all_eq_true]
            intro x hx
            have := h3 x hx
            simpa using this
          rw [this, if_pos (by rfl)]
        · have : (t.num.all fun x => within x (-1000000000) 1000000000) = false := by
            rw [List.any_eq_true] at h3
            obtain ⟨x, hx, h⟩ := h3
            rw [List.all_eq_false]
            exact ⟨x, hx, by simpa using h⟩
          rw [this, if_neg (by simp)]; rfl
      · rw [if_neg h2, decide_eq_false h2, if_neg (by simp)]; rfl
  · rw [if_neg hv, if_neg hv]
end Go.D1

set_option linter.unusedVariables false
set_option linter.unusedSimpArgs false
namespace Go.D1
open Go.Tb
theorem proves_gcd {r5 : List Rat × Int} {t c : Int} {rec2 : Int → Int → Option Bool} : ∀ (q k : Nat) (a b : Int), b.natAbs ≤ q → q < k → 0 ≤ a ∧ Sm a → 0 ≤ b ∧ Sm b → law01_LevelProves_L2 r5 t c rec2 k a b = law01_LevelProves_k7 r5 t c rec2 (Int.gcd a b)
  | q, k + 1, a, b, hq, hk, ha, hb => by
    show law01_LevelProves_B2 r5 t c rec2 (law01_LevelProves_L2 r5 t c rec2 k) a b = _
    unfold law01_LevelProves_B2
    by_cases h0 : b = 0
    · subst h0
      rw [if_pos rfl, Int.gcd_zero_right, show (a.natAbs : Int) = a by omega]
    · have hlt : (Int.tmod a b).natAbs < b.natAbs := by
        rw [Int.natAbs_tmod]
        exact Nat.mod_lt _ (by omega)
      rw [if_neg h0, gd_pos ⟨h0, (sm_tmod ha.2).inR⟩]
      cases q with
      | zero => omega
      | succ q => rw [proves_gcd q k b (Int.tmod a b) (by omega) (by omega) hb ⟨Int.tmod_nonneg b ha.1, sm_tmod ha.2⟩, gcd_tmod]
def overV (s : Survey) (M p : Int) : Int := (bestV s p).num * Int.tdiv M (bestV s p).den
theorem over_ok {s : Survey} (hs : SvOk s) {p M : Int} (hM : 0 < M ∧ M ≤ 186624) (hd : (bestV s p).den ∣ M) :
    (bestV s p).den ≠ 0 ∧ (Int.tdiv M (bestV s p).den).natAbs ≤ 186624 ∧ (overV s M p).natAbs ≤ 746496000 ∧ overV s M p * gD s = hB s p * M := by
  have hG := gD_ok hs
  have hI := bestV_is hs p
  have hq := hI.1.pos
  obtain ⟨c, hc⟩ := hd
  have e1 : Int.tdiv M (bestV s p).den = c := Int.tdiv_eq_of_eq_mul_right (by omega) hc
  have v := hI.2
  have e2 : (bestV s p).num * c * gD s = hB s p * M := by
    have : (bestV s p).num * c * gD s = ((bestV s p).num * gD s) * c := by grind
    rw [this, v, hc]; grind
  have hb := hB_abs hs p
  unfold overV
  rw [e1]
  refine ⟨by omega, ?_, ?_, e2⟩
  · have h1 : M.natAbs = (bestV s p).den.natAbs * c.natAbs := by rw [← Int.natAbs_mul, ← hc]
    have h2 : c.natAbs ≤ (bestV s p).den.natAbs * c.natAbs := Nat.le_mul_of_pos_left _ (by omega)
    omega
  · have h1 : ((bestV s p).num * c).natAbs * (gD s).natAbs = (hB s p).natAbs * M.natAbs := by rw [← Int.natAbs_mul, ← Int.natAbs_mul, e2]
    have h2 : (hB s p).natAbs * M.natAbs ≤ (4000 * M.natAbs) * (gD s).natAbs := by
      have := Nat.mul_le_mul_right M.natAbs hb
      rw [Nat.mul_right_comm] at this
      exact this
    rw [← h1] at h2
    have := Nat.le_of_mul_le_mul_right h2 (by omega)
    omega
def overL (s : Survey) (M : Int) : List Int := (iota s.points.toNat).map (overV s M)
theorem overL_len (s : Survey) (M : Int) : (overL s M).length = s.points.toNat := by unfold overL; rw [List.length_map, iota_len]
theorem overL_at {s : Survey} {M : Int} {p : Nat} (h : p < s.points.toNat) : (overL s M)[p]? = some (overV s M p) := by
  unfold overL
  rw [List.getElem?_map, gi_at (by rw [iota_len]; exact h), iota_gi h]; rfl
theorem proves_k2 {s : Survey} (hs : SvOk s) {L m : Int} (a2 : Int) (hM : 0 < L * m ∧ L * m ≤ 186624) (hd : ∀ p : Nat, p < s.points.toNat → (bestV s p).den ∣ L * m) : law01_LevelProves_k2 s a2 L m (overL s (L * m)) = some true := by
  have hp1 := hs.p1
  have hp5 := hs.p5
  have hG := gD_ok hs
  generalize hMM : L * m = M at *
  have hl := overL_len s M
  have hok : okT s ⟨M, overL s M⟩ = true := okT_iff.2 ⟨by simp only; omega, by simp only; omega, fun x hx => by
    have hx' : x ∈ (iota s.points.toNat).map (overV s M) := hx
    obtain ⟨p, hp, rfl⟩ := List.mem_map.1 hx'
    have hp' := mem_iota.1 hp
    have := (over_ok hs hM (by have := hd p.toNat (by omega); rwa [show ((p.toNat : Nat) : Int) = p by omega] at this)).2.2.1
    omega⟩
  have hgood : GoodT s ⟨M, overL s M⟩ := fun p hp => by
    show gi (overL s M) p * gD s = hB s p * M
    rw [gi_of (overL_at hp)]
    exact (over_ok hs hM (hd p hp)).2.2.2
  have hc : level_CheckBest s ⟨M, overL s M⟩ = some 0 := by
    rw [CheckBest_eq (by simp only; omega), if_pos (val0.2 hs), if_pos hok]
    exact (check_loop hs hok).1 hgood
  have hk : law01_LevelProves_k1 s a2 L m (overL s M) true = some true := by
    unfold law01_LevelProves_k1
    rw [if_pos rfl, bnd_eq known_eq]
  unfold law01_LevelProves_k2
  rw [hMM, bnd_eq hc, if_pos rfl]
  by_cases h1 : a2 < 0
  · rw [if_pos h1]; exact hk
  rw [if_neg h1]
  by_cases h2 : ((overL s M).length : Int) ≤ a2
  · rw [if_pos h2]; exact hk
  have hx := overL_at (s := s) (M := M) (p := a2.toNat) (by omega)
  rw [show ((a2.toNat : Nat) : Int) = a2 by omega] at hx
  rw [if_neg h2, ix_eq (by omega) hx]
  by_cases h3 : (1000000000 : Int) ≤ overV s M a2
  · rw [decide_eq_true h3]; exact hk
  rw [decide_eq_false h3]
  have hv := over_ok hs hM (by have := hd a2.toNat (by omega); rwa [show ((a2.toNat : Nat) : Int) = a2 by omega] at this)
  unfold law01_LevelProves_k1
  rw [if_neg (by simp), ix_eq (by omega) hx, gd_pos (by omega), ix_eq (by omega) hx, hMM]
  have hok2 : okT s ⟨M, (overL s M).set a2.toNat (overV s M a2 + 1)⟩ = true := okT_iff.2 ⟨by simp only; omega, by simp only [List.length_set]; omega, fun x hx => by
    rcases List.mem_or_eq_of_mem_set hx with h | rfl
    · exact (okT_iff.1 hok).2.2 x h
    · omega⟩
  have hbad : ¬ GoodT s ⟨M, (overL s M).set a2.toNat (overV s M a2 + 1)⟩ := fun h => by
    have := h a2.toNat (by omega)
    have e : gi ((overL s M).set a2.toNat (overV s M a2 + 1)) a2.toNat = overV s M a2 + 1 := by rw [gi_set, if_pos ⟨rfl, by omega⟩]
    have this' : gi ((overL s M).set a2.toNat (overV s M a2 + 1)) a2.toNat * gD s = hB s (a2.toNat : Int) * M := this
    rw [e, show ((a2.toNat : Nat) : Int) = a2 by omega, Int.add_mul, hv.2.2.2] at this'
    omega
  have hc2 : level_CheckBest s ⟨M, (overL s M).set a2.toNat (overV s M a2 + 1)⟩ = some 7 := by
    rw [CheckBest_eq (by simp only [List.length_set]; omega), if_pos (val0.2 hs), if_pos hok2]
    exact (check_loop hs hok2).2 hbad
  rw [bnd_eq hc2, if_pos rfl, bnd_eq known_eq]
theorem proves_k3 {s : Survey} (hs : SvOk s) {L m : Int} (a2 : Int) (hM : 0 < L * m ∧ L * m ≤ 186624) (hd : ∀ p : Nat, p < s.points.toNat → (bestV s p).den ∣ L * m) : law01_LevelProves_k3 s a2 (bestL s, 0) L m = some true := by
  have hp1 := hs.p1
  have hp5 := hs.p5
  have hl := bestL_len s
  unfold law01_LevelProves_k3
  rw [gd_pos (by omega), ← proves_k2 hs a2 hM hd]
  refine for0 s.points.toNat (fun t => ((iota s.points.toNat).take t).map (overV s (L * m))) (fun n l t => law01_LevelProves_L1 s a2 (bestL s, 0) L m n t l) _ rfl (fun n t ht => ?_) (fun n => ?_) (by omega)
  · have hx : (bestL s)[t]? = some (bestV s (t : Int)) := bestL_at (s := s) (p := (t : Int)) (by omega)
    have hi : (iota s.points.toNat)[t]? = some (t : Int) := by rw [gi_at (by rw [iota_len]; exact ht), iota_gi ht]
    have hv := over_ok hs hM (hd t ht)
    show law01_LevelProves_B1 s a2 (bestL s, 0) L m (law01_LevelProves_L1 s a2 (bestL s, 0) L m n) _ _ = _
    unfold law01_LevelProves_B1
    simp only
    rw [if_pos (by omega), ix_nat hx, ix_nat hx, gd_pos ⟨hv.1, by have := hv.2.1; omega⟩, gd_pos (by have := hv.2.2.1; unfold overV at this; omega), gd_pos (by simp; omega), gd_pos (by omega), take_at _ hi]; rfl
  · show law01_LevelProves_B1 s a2 (bestL s, 0) L m (law01_LevelProves_L1 s a2 (bestL s, 0) L m n) _ _ = _
    unfold law01_LevelProves_B1
    simp only
    rw [if_neg (by omega), List.take_of_length_le (by rw [iota_len]; omega)]; rfl
theorem law_LevelProves (s : Survey) (a1 a2 : Int) (hb : s.readings.length ≤ 9223372036854775807) : law01_LevelProves s a1 a2 = some true := by
  unfold law01_LevelProves
  rw [bnd_eq (Long_eq s)]
  by_cases hL : (100 : Int) < (s.readings.length : Int)
  · rw [if_pos (by simpa using hL), bnd_eq known_eq]
  rw [if_neg (by simpa using hL), bnd_eq (Best_eq s)]
  by_cases hv : validate s = 0
  · have hs := val0.1 hv
    have hp1 := hs.p1
    have hp5 := hs.p5
    have hl := bestL_len s
    have hG := gD_ok hs
    rw [if_pos hv, if_pos rfl]
    obtain ⟨L, ⟨hL1, hL2, hL3⟩, e⟩ := ex_loop s.points.toNat (fun t (L : Int) => 0 < L ∧ L ∣ gD s ∧ ∀ k : Nat, k < t → (bestV s k).den ∣ L) (fun n L t => law01_LevelProves_L3 s a1 a2 (bestL s, 0) n t L) (fun L => law01_LevelProves_k5 s a1 a2 (bestL s, 0) L) (fun n t L ht ⟨i1, i2, i3⟩ => by
      have hx : (bestL s)[t]? = some (bestV s (t : Int)) := bestL_at (s := s) (p := (t : Int)) (by omega)
      have hI := bestV_is hs (t : Int)
      have hdd : (bestV s (t : Int)).den ∣ gD s := by
        obtain ⟨q, _, _, h⟩ := hI.parts (by omega)
        exact ⟨q, h⟩
      have hst := lcm_step i1 hI.1.pos hG.1 i2 hdd
      have hLle := Int.le_of_dvd hG.1 i2
      have hle := hI.le (by omega)
      have hq := hI.1.pos
      have hle2 := Int.le_of_dvd hG.1 hst.2.2.2.1
      refine ⟨_, ⟨hst.2.2.1, hst.2.2.2.1, fun k hk => ?_⟩, ?_⟩
      · by_cases e : k = t
        · subst e; exact hst.2.2.2.2.2
        · exact Int.dvd_trans (i3 k (by omega)) hst.2.2.2.2.1
      · show law01_LevelProves_B3 s a1 a2 (bestL s, 0) (law01_LevelProves_L3 s a1 a2 (bestL s, 0) n) _ _ = _
        unfold law01_LevelProves_B3 law01_LevelProves_k8
        simp only
        rw [if_pos (by omega), ix_nat hx, if_neg (by omega), ix_nat hx, if_neg (by simp only [decide_eq_true_eq]; omega), ix_nat hx, proves_gcd (bestV s (t : Int)).den.natAbs FU L _ (Nat.le_refl _) (by have := FU_pos; omega) ⟨by omega, sm_abs.2 (by omega)⟩ ⟨by omega, sm_abs.2 (by omega)⟩]
        unfold law01_LevelProves_k7 law01_LevelProves_k6
        rw [gd_pos ⟨hst.1, by have := hst.2.1; omega⟩, ix_nat hx, gd_pos (by have := hst.2.2.1; omega), if_neg (by omega), gd_pos (by omega)]; rfl) (fun n L _ => by
      show law01_LevelProves_B3 s a1 a2 (bestL s, 0) (law01_LevelProves_L3 s a1 a2 (bestL s, 0) n) _ _ = _
      unfold law01_LevelProves_B3
      simp only
      rw [if_neg (by omega)]) (by omega) (i0 := 0) (by omega) (s0 := 1) ⟨by omega, Int.one_dvd _, fun k h => by omega⟩
    refine e.trans ?_
    have hLle := Int.le_of_dvd hG.1 hL2
    have hk4 : law01_LevelProves_k4 s a1 a2 (bestL s, 0) L true = some true := by
      unfold law01_LevelProves_k4
      rw [if_pos rfl]
      exact proves_k3 hs a2 (by omega) (fun p hp => by rw [Int.mul_one]; exact hL3 p hp)
    unfold law01_LevelProves_k5
    by_cases h1 : a1 < 1
    · rw [if_pos h1]; exact hk4
    rw [if_neg h1]
    by_cases h2 : (9 : Int) < a1
    · rw [if_pos h2]; exact hk4
    have hp : 0 < L * a1 := Int.mul_pos hL1 (by omega)
    have hle : L * a1 ≤ 20736 * 9 := by
      have x1 : L * a1 ≤ L * 9 := Int.mul_le_mul_of_nonneg_left (by omega) (by omega)
      omega
    rw [if_neg h2, gd_pos (by omega), decide_eq_false (by omega)]
    unfold law01_LevelProves_k4
    rw [if_neg (by simp)]
    exact proves_k3 hs a2 (by omega) (fun p hp => Int.dvd_trans (hL3 p hp) (Int.dvd_mul_right _ _))
  · rw [if_neg hv, if_neg hv, bnd_eq known_eq]
end Go.D1
