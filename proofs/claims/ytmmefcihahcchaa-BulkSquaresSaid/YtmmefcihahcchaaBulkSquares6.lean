/- Lemmas and walks that the proof of this claim uses: D7qA. -/
import Derived.Test.YtmmefcihahcchaaBulkSquares5
set_option linter.unusedVariables false
set_option linter.unusedSimpArgs false
namespace Go.D7
open Go.Tb
theorem scan_from {R : Type} (lo N : Nat) (p : Nat → Bool) (L : Nat → Int → Option R) (yes no : Option R)
    (step : ∀ n i : Nat, lo ≤ i → i < N → L (n + 1) (i : Int) = if p i = true then L n ((i + 1 : Nat) : Int) else no)
    (stop : ∀ n : Nat, L (n + 1) (N : Int) = yes) : ∀ (d n i : Nat), lo ≤ i → N = i + d → d < n → (∀ j, j < i → p j = true) → L n (i : Int) = if (∀ j, j < N → p j = true) then yes else no
  | 0, n + 1, i, hl, hd, hn, hi => by
    have e : i = N := by omega
    subst e
    rw [stop n, if_pos hi]
  | d + 1, n + 1, i, hl, hd, hn, hi => by
    rw [step n i hl (by omega)]
    by_cases hp : p i = true
    · rw [if_pos hp]
      exact scan_from lo N p L yes no step stop d n (i + 1) (by omega) (by omega) (by omega) (fun j hj => by
        by_cases h : j = i
        · subst h; exact hp
        · exact hi j (by omega))
    · rw [if_neg hp, if_neg (fun h => hp (h i (by omega)))]
/-- Ways that cross are never cheaper. -/
def Sq (t : Trade) : Prop := ∀ i, i < t.supply.length → ∀ k, k < i → ∀ j, j < t.demand.length → ∀ l, l < j → cc t k l + cc t i j ≤ cc t k j + cc t i l
def q4 (t : Trade) (i k j l : Nat) : Bool := decide (cc t k l + cc t i j ≤ cc t k j + cc t i l)
def q3 (t : Trade) (i k j : Nat) : Bool := decide (∀ l, l < j → q4 t i k j l = true)
def q2 (t : Trade) (i k : Nat) : Bool := decide (∀ j, j < t.demand.length → q3 t i k j = true)
def q1 (t : Trade) (i : Nat) : Bool := decide (∀ k, k < i → q2 t i k = true)
def r4 (t : Trade) (i k j l : Nat) : Bool := decide (j < l → cc t i j + cc t k l ≤ cc t i l + cc t k j)
def r3 (t : Trade) (i k j : Nat) : Bool := decide (∀ l, l < t.demand.length → r4 t i k j l = true)
def r2 (t : Trade) (i k : Nat) : Bool := decide (i < k → ∀ j, j < t.demand.length → r3 t i k j = true)
def r1 (t : Trade) (i : Nat) : Bool := decide (∀ k, k < t.supply.length → r2 t i k = true)
section
variable {t : Trade}
theorem sq_q : (∀ i, i < t.supply.length → q1 t i = true) ↔ Sq t := by
  unfold Sq q1 q2 q3 q4
  simp only [decide_eq_true_eq]
theorem sq_r : (∀ i, i < t.supply.length → r1 t i = true) ↔ Sq t := by
  unfold Sq r1 r2 r3 r4
  simp only [decide_eq_true_eq]
  constructor
  · intro h i hi k hk j hj l hl
    have := h k (by omega) i hi hk l (by omega) j hj hl
    omega
  · intro h i hi k hk hik j hj l hl hjl
    have := h k hk i hik l hl j hjl
    omega
instance : Decidable (Sq t) := decidable_of_iff _ (sq_q (t := t))
theorem IsSquare_eq (hs : Tsmall t) (hv : okT t = true) : bulk_IsSquare t = some (decide (Sq t), 0) := by
  have hsl := (okT_spec hv).1.2.1
  have hdl := (okT_spec hv).2.1.2.1
  obtain ⟨c1, c2⟩ := tab_spec (okT_spec hv).2.2.2
  have ca : ∀ i, i < t.supply.length → t.cost[i]? = some (gr t.cost i) := fun i hi => gr_at (by omega)
  have cx : ∀ i j, i < t.supply.length → j < t.demand.length → (gr t.cost i)[j]? = some (cc t i j) := fun i j hi hj => gi_at (by have := (c2 i (by omega)).1; omega)
  unfold bulk_IsSquare
  rw [bnd_eq (Validate_eq hs), show validate t = 0 from if_pos hv, if_pos rfl]
  refine Eq.trans (scan_inv0 t.supply.length (q1 t) (fun _ => ()) (fun k _ i => bulk_IsSquare_L4 t k i) (some (true, 0)) (some (false, 0)) (s0 := ()) rfl (fun n4 i hi _ => ?_) (fun n4 _ => ?_) (by omega)) ?_
  · show bulk_IsSquare_B4 t (bulk_IsSquare_L4 t n4) _ = _
    unfold bulk_IsSquare_B4
    rw [if_pos (by omega)]
    refine Eq.trans (scan_inv0 i (q2 t i) (fun _ => ()) (fun k _ j => bulk_IsSquare_L3 t (i : Int) (bulk_IsSquare_L4 t n4) k j) (bulk_IsSquare_L4 t n4 ((i + 1 : Nat) : Int)) (some (false, 0)) (s0 := ()) rfl (fun n3 k hk _ => ?_) (fun n3 _ => ?_) (by omega)) ?_
    · show bulk_IsSquare_B3 t (i : Int) (bulk_IsSquare_L4 t n4) (bulk_IsSquare_L3 t (i : Int) (bulk_IsSquare_L4 t n4) n3) _ = _
      unfold bulk_IsSquare_B3
      rw [if_pos (by omega)]
      refine Eq.trans (scan_inv0 t.demand.length (q3 t i k) (fun _ => ()) (fun q _ j => bulk_IsSquare_L2 t (i : Int) (k : Int) (bulk_IsSquare_L3 t (i : Int) (bulk_IsSquare_L4 t n4) n3) q j) (bulk_IsSquare_L3 t (i : Int) (bulk_IsSquare_L4 t n4) n3 ((k + 1 : Nat) : Int)) (some (false, 0)) (s0 := ()) rfl (fun n2 j hj _ => ?_) (fun n2 _ => ?_) (by omega)) ?_
      · show bulk_IsSquare_B2 t (i : Int) (k : Int) (bulk_IsSquare_L3 t (i : Int) (bulk_IsSquare_L4 t n4) n3) (bulk_IsSquare_L2 t (i : Int) (k : Int) (bulk_IsSquare_L3 t (i : Int) (bulk_IsSquare_L4 t n4) n3) n2) _ = _
        unfold bulk_IsSquare_B2
        rw [if_pos (by omega)]
        generalize hr2 : bulk_IsSquare_L3 t (i : Int) (bulk_IsSquare_L4 t n4) n3 = rec2
        generalize hr3 : bulk_IsSquare_L2 t (i : Int) (k : Int) rec2 n2 = rec3
        refine Eq.trans (scan_inv0 j (q4 t i k j) (fun _ => ()) (fun q _ l => bulk_IsSquare_L1 t (i : Int) (k : Int) (j : Int) rec3 q l) (rec3 ((j + 1 : Nat) : Int)) (some (false, 0)) (s0 := ()) rfl (fun n1 l hl _ => ?_) (fun n1 _ => ?_) (by omega)) ?_
        · have b1 := cost_pos hv (i := k) (j := l) (by omega) (by omega)
          have b2 := cost_pos hv (i := i) (j := j) (by omega) (by omega)
          have b3 := cost_pos hv (i := k) (j := j) (by omega) (by omega)
          have b4 := cost_pos hv (i := i) (j := l) (by omega) (by omega)
          show bulk_IsSquare_B1 t (i : Int) (k : Int) (j : Int) rec3 (bulk_IsSquare_L1 t (i : Int) (k : Int) (j : Int) rec3 n1) _ = _
          unfold bulk_IsSquare_B1 q4
          rw [if_pos (by omega), ix_nat (ca k (by omega)), ix_nat (cx k l (by omega) (by omega)), ix_nat (ca i hi), ix_nat (cx i j hi hj), gd_pos (by omega), ix_nat (ca k (by omega)), ix_nat (cx k j (by omega) hj), ix_nat (ca i hi), ix_nat (cx i l hi (by omega)), gd_pos (by omega)]
          by_cases hc : cc t k l + cc t i j ≤ cc t k j + cc t i l
          · rw [if_neg (by omega), gd_pos (by omega), if_pos (by simpa using hc)]; rfl
          · rw [if_pos (by omega), if_neg (by simpa using hc)]
        · show bulk_IsSquare_B1 t (i : Int) (k : Int) (j : Int) rec3 (bulk_IsSquare_L1 t (i : Int) (k : Int) (j : Int) rec3 n1) _ = _
          unfold bulk_IsSquare_B1 bulk_IsSquare_k4
          rw [if_neg (by omega), gd_pos (by omega)]; rfl
        · unfold q3
          by_cases hc : ∀ l, l < j → q4 t i k j l = true
          · rw [if_pos hc, if_pos (by simpa using hc)]
          · rw [if_neg hc, if_neg (by simpa using hc)]
      · show bulk_IsSquare_B2 t (i : Int) (k : Int) (bulk_IsSquare_L3 t (i : Int) (bulk_IsSquare_L4 t n4) n3) (bulk_IsSquare_L2 t (i : Int) (k : Int) (bulk_IsSquare_L3 t (i : Int) (bulk_IsSquare_L4 t n4) n3) n2) _ = _
        unfold bulk_IsSquare_B2 bulk_IsSquare_k3
        rw [if_neg (by omega), gd_pos (by omega)]; rfl
      · unfold q2
        by_cases hc : ∀ j, j < t.demand.length → q3 t i k j = true
        · rw [if_pos hc, if_pos (by simpa using hc)]
        · rw [if_neg hc, if_neg (by simpa using hc)]
    · show bulk_IsSquare_B3 t (i : Int) (bulk_IsSquare_L4 t n4) (bulk_IsSquare_L3 t (i : Int) (bulk_IsSquare_L4 t n4) n3) _ = _
      unfold bulk_IsSquare_B3 bulk_IsSquare_k2
      rw [if_neg (by omega), gd_pos (by omega)]; rfl
    · unfold q1
      by_cases hc : ∀ k, k < i → q2 t i k = true
      · rw [if_pos hc, if_pos (by simpa using hc)]
      · rw [if_neg hc, if_neg (by simpa using hc)]
  · show bulk_IsSquare_B4 t (bulk_IsSquare_L4 t n4) _ = _
    unfold bulk_IsSquare_B4
    rw [if_neg (by omega)]; rfl
  · by_cases hc : Sq t
    · rw [if_pos (sq_q.2 hc), decide_eq_true hc]
    · rw [if_neg (fun h => hc (sq_q.1 h)), decide_eq_false hc]
theorem rIsSquare_eq (hs : Tsmall t) (hv : okT t = true) : ref07_IsSquare t = some (decide (Sq t), 0) := by
  have hsl := (okT_spec hv).1.2.1
  have hdl := (okT_spec hv).2.1.2.1
  obtain ⟨c1, c2⟩ := tab_spec (okT_spec hv).2.2.2
  have ca : ∀ i, i < t.supply.length → t.cost[i]? = some (gr t.cost i) := fun i hi => gr_at (by omega)
  have cx : ∀ i j, i < t.supply.length → j < t.demand.length → (gr t.cost i)[j]? = some (cc t i j) := fun i j hi hj => gi_at (by have := (c2 i (by omega)).1; omega)
  have F := FU_pos
  unfold ref07_IsSquare
  rw [bnd_eq (rValidate_eq hs), show validate t = 0 from if_pos hv, if_pos rfl]
  refine Eq.trans (scan_inv0 t.supply.length (r1 t) (fun _ => ()) (fun k _ i => ref07_IsSquare_L4 t k i) (some (true, 0)) (some (false, 0)) (s0 := ()) rfl (fun n4 i hi _ => ?_) (fun n4 _ => ?_) (by omega)) ?_
  · show ref07_IsSquare_B4 t (ref07_IsSquare_L4 t n4) _ = _
    unfold ref07_IsSquare_B4
    rw [if_pos (by omega), gd_pos (by omega)]
    refine Eq.trans (scan_from (i + 1) t.supply.length (r2 t i) (fun k j => ref07_IsSquare_L3 t (i : Int) (ref07_IsSquare_L4 t n4) k j) (ref07_IsSquare_L4 t n4 ((i + 1 : Nat) : Int)) (some (false, 0)) (fun n3 k hik hk => ?_) (fun n3 => ?_) (t.supply.length - (i + 1)) FU (i + 1) (Nat.le_refl _) (by omega) (by omega) (fun j hj => by unfold r2; rw [decide_eq_true_eq]; intro h; omega)) ?_
    · show ref07_IsSquare_B3 t (i : Int) (ref07_IsSquare_L4 t n4) (ref07_IsSquare_L3 t (i : Int) (ref07_IsSquare_L4 t n4) n3) _ = _
      unfold ref07_IsSquare_B3
      rw [if_pos (by omega)]
      · refine Eq.trans (scan_inv0 t.demand.length (r3 t i k) (fun _ => ()) (fun q _ j => ref07_IsSquare_L2 t (i : Int) (k : Int) (ref07_IsSquare_L3 t (i : Int) (ref07_IsSquare_L4 t n4) n3) q j) (ref07_IsSquare_L3 t (i : Int) (ref07_IsSquare_L4 t n4) n3 ((k + 1 : Nat) : Int)) (some (false, 0)) (s0 := ()) rfl (fun n2 j hj _ => ?_) (fun n2 _ => ?_) (by omega)) ?_
        · show ref07_IsSquare_B2 t (i : Int) (k : Int) (ref07_IsSquare_L3 t (i : Int) (ref07_IsSquare_L4 t n4) n3) (ref07_IsSquare_L2 t (i : Int) (k : Int) (ref07_IsSquare_L3 t (i : Int) (ref07_IsSquare_L4 t n4) n3) n2) _ = _
          unfold ref07_IsSquare_B2
          rw [if_pos (by omega), gd_pos (by omega)]
          generalize hr2 : ref07_IsSquare_L3 t (i : Int) (ref07_IsSquare_L4 t n4) n3 = rec2
          generalize hr3 : ref07_IsSquare_L2 t (i : Int) (k : Int) rec2 n2 = rec3
          refine Eq.trans (scan_from (j + 1) t.demand.length (r4 t i k j) (fun q l => ref07_IsSquare_L1 t (i : Int) (k : Int) (j : Int) rec3 q l) (rec3 ((j + 1 : Nat) : Int)) (some (false, 0)) (fun n1 l hjl hl => ?_) (fun n1 => ?_) (t.demand.length - (j + 1)) FU (j + 1) (Nat.le_refl _) (by omega) (by omega) (fun l hl => by unfold r4; rw [decide_eq_true_eq]; intro h; omega)) ?_
          · have b1 := cost_pos hv (i := k) (j := l) (by omega) (by omega)
            have b2 := cost_pos hv (i := i) (j := j) (by omega) (by omega)
            have b3 := cost_pos hv (i := k) (j := j) (by omega) (by omega)
            have b4 := cost_pos hv (i := i) (j := l) (by omega) (by omega)
            show ref07_IsSquare_B1 t (i : Int) (k : Int) (j : Int) rec3 (ref07_IsSquare_L1 t (i : Int) (k : Int) (j : Int) rec3 n1) _ = _
            unfold ref07_IsSquare_B1 r4
            rw [if_pos (by omega), ix_nat (ca i hi), ix_nat (cx i j hi hj), ix_nat (ca k hk), ix_nat (cx k l hk hl), gd_pos (by omega), ix_nat (ca i hi), ix_nat (cx i l hi hl), ix_nat (ca k hk), ix_nat (cx k j hk hj), gd_pos (by omega)]
            by_cases hc : cc t i j + cc t k l ≤ cc t i l + cc t k j
            · rw [if_neg (by omega), gd_pos (by omega), if_pos (by rw [decide_eq_true_eq]; intro _; exact hc)]; rfl
            · rw [if_pos (by omega), if_neg (by rw [decide_eq_true_eq]; exact fun h => hc (h hjl))]
          · show ref07_IsSquare_B1 t (i : Int) (k : Int) (j : Int) rec3 (ref07_IsSquare_L1 t (i : Int) (k : Int) (j : Int) rec3 n1) _ = _
            unfold ref07_IsSquare_B1 ref07_IsSquare_k4
            rw [if_neg (by omega), gd_pos (by omega)]; rfl
          · unfold r3
            by_cases hc : ∀ l, l < t.demand.length → r4 t i k j l = true
            · rw [if_pos hc, if_pos (by simpa using hc)]
            · rw [if_neg hc, if_neg (by simpa using hc)]
        · show ref07_IsSquare_B2 t (i : Int) (k : Int) (ref07_IsSquare_L3 t (i : Int) (ref07_IsSquare_L4 t n4) n3) (ref07_IsSquare_L2 t (i : Int) (k : Int) (ref07_IsSquare_L3 t (i : Int) (ref07_IsSquare_L4 t n4) n3) n2) _ = _
          unfold ref07_IsSquare_B2 ref07_IsSquare_k3
          rw [if_neg (by omega), gd_pos (by omega)]; rfl
        · unfold r2
          by_cases hc : ∀ j, j < t.demand.length → r3 t i k j = true
          · rw [if_pos hc, if_pos (by rw [decide_eq_true_eq]; exact fun _ => hc)]
          · rw [if_neg hc, if_neg (by rw [decide_eq_true_eq]; exact fun h => hc (h hik))]
    · show ref07_IsSquare_B3 t (i : Int) (ref07_IsSquare_L4 t n4) (ref07_IsSquare_L3 t (i : Int) (ref07_IsSquare_L4 t n4) n3) _ = _
      unfold ref07_IsSquare_B3 ref07_IsSquare_k2
      rw [if_neg (by omega), gd_pos (by omega)]; rfl
    · unfold r1
      by_cases hc : ∀ k, k < t.supply.length → r2 t i k = true
      · rw [if_pos hc, if_pos (by simpa using hc)]
      · rw [if_neg hc, if_neg (by simpa using hc)]
  · show ref07_IsSquare_B4 t (ref07_IsSquare_L4 t n4) _ = _
    unfold ref07_IsSquare_B4
    rw [if_neg (by omega)]; rfl
  · by_cases hc : Sq t
    · rw [if_pos (sq_r.2 hc), decide_eq_true hc]
    · rw [if_neg (fun h => hc (sq_r.1 h)), decide_eq_false hc]
structure Stair (t : Trade) (ci cj : Nat) (f : Nat → Nat → Int) (p q : Nat → Int) : Prop where
  le : ∀ a b, a ≤ ci → b ≤ cj → p a + q b ≤ cc t a b
  at_ : p ci + q cj = cc t ci cj
  on : ∀ a b, 0 < f a b → a ≤ ci ∧ b ≤ cj ∧ p a + q b = cc t a b
theorem stair_set {ci cj : Nat} {f : Nat → Nat → Int} {p q : Nat → Int} (h : Stair t ci cj f p q) (v : Int) : Stair t ci cj (fun a b => if a = ci ∧ b = cj then v else f a b) p q where
  le := h.le
  at_ := h.at_
  on := fun a b hp => by
    have hp' : 0 < (if a = ci ∧ b = cj then v else f a b) := hp
    split at hp'
    · rename_i hc
      rw [hc.1, hc.2]
      exact ⟨Nat.le_refl _, Nat.le_refl _, h.at_⟩
    · exact h.on a b hp'
theorem stair_right (hsq : Sq t) {ci cj : Nat} {f : Nat → Nat → Int} {p q : Nat → Int} (h : Stair t ci cj f p q) (hi : ci < t.supply.length) (hj : cj + 1 < t.demand.length) : ∃ q', Stair t ci (cj + 1) f p q' := by
  refine ⟨fun b => if b = cj + 1 then cc t ci (cj + 1) - p ci else q b, fun a b ha hb => ?_, ?_, fun a b hp => ?_⟩
  · show p a + (if b = cj + 1 then cc t ci (cj + 1) - p ci else q b) ≤ cc t a b
    by_cases e : b = cj + 1
    · rw [if_pos e, e]
      by_cases e2 : a = ci
      · subst e2; omega
      · have h1 := h.le a cj ha (Nat.le_refl _)
        have h2 := h.at_
        have h3 := hsq ci hi a (by omega) (cj + 1) hj cj (by omega)
        omega
    · rw [if_neg e]; exact h.le a b ha (by omega)
  · show p ci + (if cj + 1 = cj + 1 then cc t ci (cj + 1) - p ci else _) = _
    rw [if_pos rfl]; omega
  · obtain ⟨a1, a2, a3⟩ := h.on a b hp
    refine ⟨a1, by omega, ?_⟩
    show p a + (if b = cj + 1 then cc t ci (cj + 1) - p ci else q b) = cc t a b
    rw [if_neg (by omega)]; exact a3
theorem stair_down (hsq : Sq t) {ci cj : Nat} {f : Nat → Nat → Int} {p q : Nat → Int} (h : Stair t ci cj f p q) (hi : ci + 1 < t.supply.length) (hj : cj < t.demand.length) : ∃ p', Stair t (ci + 1) cj f p' q := by
  refine ⟨fun a => if a = ci + 1 then cc t (ci + 1) cj - q cj else p a, fun a b ha hb => ?_, ?_, fun a b hp => ?_⟩
  · show (if a = ci + 1 then cc t (ci + 1) cj - q cj else p a) + q b ≤ cc t a b
    by_cases e : a = ci + 1
    · rw [if_pos e, e]
      by_cases e2 : b = cj
      · subst e2; omega
      · have h1 := h.le ci b (Nat.le_refl _) hb
        have h2 := h.at_
        have h3 := hsq (ci + 1) hi ci (by omega) cj hj b (by omega)
        omega
    · rw [if_neg e]; exact h.le a b (by omega) hb
  · show (if ci + 1 = ci + 1 then cc t (ci + 1) cj - q cj else _) + q cj = _
    rw [if_pos rfl]; omega
  · obtain ⟨a1, a2, a3⟩ := h.on a b hp
    refine ⟨by omega, a2, ?_⟩
    show (if a = ci + 1 then cc t (ci + 1) cj - q cj else p a) + q b = cc t a b
    rw [if_neg (by omega)]; exact a3
theorem stair_end (hsq : Sq t) {f : Nat → Nat → Int} : ∀ (d ci cj : Nat) (p q : Nat → Int), Stair t ci cj f p q → ci < t.supply.length → cj < t.demand.length → (t.supply.length - ci) + (t.demand.length - cj) ≤ d → ∃ p q, Cert t f p q
  | 0, ci, cj, p, q, h, hi, hj, hd => by omega
  | d + 1, ci, cj, p, q, h, hi, hj, hd => by
    by_cases h1 : ci + 1 < t.supply.length
    · obtain ⟨p', h'⟩ := stair_down hsq h h1 hj
      exact stair_end hsq d (ci + 1) cj p' q h' h1 hj (by omega)
    · by_cases h2 : cj + 1 < t.demand.length
      · obtain ⟨q', h'⟩ := stair_right hsq h hi h2
        exact stair_end hsq d ci (cj + 1) p q' h' hi h2 (by omega)
      · exact ⟨p, q, fun i j hi hj => h.le i j (by omega) (by omega), fun i j hi hj h0 => (h.on i j h0).2.2⟩
theorem corner_best (ht : okT t = true) (hsq : Sq t) : ∀ (d i j k : Nat) (f : Nat → Nat → Int) (a b p q : Nat → Int), Cor t i j f a b → Stair t (min i (t.supply.length - 1)) (min j (t.demand.length - 1)) f p q → i ≤ t.supply.length → j ≤ t.demand.length → (t.supply.length - i) + (t.demand.length - j) ≤ d → d < k →
    ∃ g, BestF t g ∧ bulk_corner_L1 k (i : Int) (j : Int) (tab t f) (tb t.supply.length a) (tb t.demand.length b) = some (tab t g) := by
  have hs := (okT_spec ht).1
  have hd := (okT_spec ht).2.1
  intro d
  induction d with
  | zero =>
    intro i j k f a b p q h st hi hj hdd hk
    obtain ⟨k, rfl⟩ : ∃ k', k = k' + 1 := ⟨k - 1, by omega⟩
    refine ⟨f, ⟨cor_done ht h (.inl (by omega)), stair_end hsq _ _ _ _ _ st (by omega) (by omega) (Nat.le_refl _)⟩, ?_⟩
    show bulk_corner_B1 (bulk_corner_L1 k) _ _ _ _ _ = _
    unfold bulk_corner_B1 bulk_corner_k2
    rw [if_neg (by rw [tb_len]; omega), if_neg (by simp)]; rfl
  | succ d ih =>
    intro i j k f a b p q h st hi hj hdd hk
    obtain ⟨k, rfl⟩ : ∃ k', k = k' + 1 := ⟨k - 1, by omega⟩
    by_cases hi' : i < t.supply.length
    · by_cases hj' : j < t.demand.length
      · have hst := cor_step h hi' hj'
        have hai := h.ai i hi'
        have hbj := h.bi j hj'
        have han := h.an i
        have hbn := h.bn j
        have x1 : (tb t.supply.length a)[i]? = some (a i) := tb_at hi'
        have x2 : (tb t.demand.length b)[j]? = some (b j) := tb_at hj'
        have x3 : (tab t f)[i]? = some (tb t.demand.length (f i)) := tbl_at hi'
        have x4 : (tb t.demand.length (f i))[j]? = some (f i j) := tb_at hj'
        have e1 : (tb t.supply.length a).set i (a i - min (a i) (b j)) = tb t.supply.length (fun p => if p = i then a i - min (a i) (b j) else a p) := tb_set _
        have e2 : (tb t.demand.length b).set j (b j - min (a i) (b j)) = tb t.demand.length (fun q => if q = j then b j - min (a i) (b j) else b q) := tb_set _
        have e3 : (tab t f).set i ((tb t.demand.length (f i)).set j (min (a i) (b j))) = tab t (fun p q => if p = i ∧ q = j then min (a i) (b j) else f p q) := tbl_set hi' _
        have x5 : (tb t.supply.length (fun p => if p = i then a i - min (a i) (b j) else a p))[i]? = some (a i - min (a i) (b j)) := by rw [tb_at hi', if_pos rfl]
        have nat1 : Int.toNat (i : Int) = i := rfl
        have nat2 : Int.toNat (j : Int) = j := rfl
        have P : bulk_corner_L1 (k + 1) (i : Int) (j : Int) (tab t f) (tb t.supply.length a) (tb t.demand.length b) =
            if a i - min (a i) (b j) = 0 then bulk_corner_L1 k ((i + 1 : Nat) : Int) (j : Int) (tab t (fun p q => if p = i ∧ q = j then min (a i) (b j) else f p q)) (tb t.supply.length (fun p => if p = i then a i - min (a i) (b j) else a p)) (tb t.demand.length (fun q => if q = j then b j - min (a i) (b j) else b q))
            else bulk_corner_L1 k (i : Int) ((j + 1 : Nat) : Int) (tab t (fun p q => if p = i ∧ q = j then min (a i) (b j) else f p q)) (tb t.supply.length (fun p => if p = i then a i - min (a i) (b j) else a p)) (tb t.demand.length (fun q => if q = j then b j - min (a i) (b j) else b q)) := by
          show bulk_corner_B1 (bulk_corner_L1 k) _ _ _ _ _ = _
          unfold bulk_corner_B1 bulk_corner_k2
          rw [if_pos (by rw [tb_len]; omega), if_pos (by rw [tb_len]; simp; omega), ix_nat x1, ix_nat x2, ix_nat x3, ix_nat x4, ix_nat x1, gd_pos (by omega), ix_nat x1, ix_nat x2, gd_pos (by omega), ix_nat x2, nat1, nat2, e1, e2, e3, ix_nat x5]
          by_cases hz : a i - min (a i) (b j) = 0
          · rw [if_pos hz, if_pos hz, gd_pos (by omega)]; rfl
          · rw [if_neg hz, if_neg hz, gd_pos (by omega)]; rfl
        rw [P]
        rw [show min i (t.supply.length - 1) = i by omega, show min j (t.demand.length - 1) = j by omega] at st
        have st2 := stair_set st (min (a i) (b j))
        by_cases hz : a i - min (a i) (b j) = 0
        · rw [if_pos hz]
          by_cases hl : i + 1 < t.supply.length
          · obtain ⟨p', st3⟩ := stair_down hsq st2 hl hj'
            exact ih (i + 1) j k _ _ _ p' q (hst.1 hz) (by rw [show min (i + 1) (t.supply.length - 1) = i + 1 by omega, show min j (t.demand.length - 1) = j by omega]; exact st3) (by omega) hj (by omega) (by omega)
          · exact ih (i + 1) j k _ _ _ p q (hst.1 hz) (by rw [show min (i + 1) (t.supply.length - 1) = i by omega, show min j (t.demand.length - 1) = j by omega]; exact st2) (by omega) hj (by omega) (by omega)
        · rw [if_neg hz]
          by_cases hl : j + 1 < t.demand.length
          · obtain ⟨q', st3⟩ := stair_right hsq st2 hi' hl
            exact ih i (j + 1) k _ _ _ p q' (hst.2 hz) (by rw [show min i (t.supply.length - 1) = i by omega, show min (j + 1) (t.demand.length - 1) = j + 1 by omega]; exact st3) hi (by omega) (by omega) (by omega)
          · exact ih i (j + 1) k _ _ _ p q (hst.2 hz) (by rw [show min i (t.supply.length - 1) = i by omega, show min (j + 1) (t.demand.length - 1) = j by omega]; exact st2) hi (by omega) (by omega) (by omega)
      · refine ⟨f, ⟨cor_done ht h (.inr (by omega)), stair_end hsq _ _ _ _ _ st (by omega) (by omega) (Nat.le_refl _)⟩, ?_⟩
        show bulk_corner_B1 (bulk_corner_L1 k) _ _ _ _ _ = _
        unfold bulk_corner_B1 bulk_corner_k2
        rw [if_pos (by rw [tb_len]; omega), if_neg (by rw [tb_len]; simp; omega)]; rfl
    · refine ⟨f, ⟨cor_done ht h (.inl (by omega)), stair_end hsq _ _ _ _ _ st (by omega) (by omega) (Nat.le_refl _)⟩, ?_⟩
      show bulk_corner_B1 (bulk_corner_L1 k) _ _ _ _ _ = _
      unfold bulk_corner_B1 bulk_corner_k2
      rw [if_neg (by rw [tb_len]; omega), if_neg (by simp)]; rfl
theorem Corner_best (hs : Tsmall t) (ht : okT t = true) (hsq : Sq t) : ∃ g, BestF t g ∧ bulk_Corner t = some (tab t g, 0) := by
  have h1 := (okT_spec ht).1
  have h2 := (okT_spec ht).2.1
  obtain ⟨g, g1, g2⟩ := corner_best ht hsq 8 0 0 FU _ _ _ (fun _ => cc t 0 0) (fun _ => 0) (cor_start ht) (by
    rw [show min 0 (t.supply.length - 1) = 0 by omega, show min 0 (t.demand.length - 1) = 0 by omega]
    exact ⟨fun a b ha hb => by obtain rfl : a = 0 := by omega
                               obtain rfl : b = 0 := by omega
                               show cc t 0 0 + 0 ≤ cc t 0 0; omega, by show cc t 0 0 + 0 = cc t 0 0; omega, fun a b h => absurd h (by decide)⟩) (by omega) (by omega) (by omega) (by have := FU_pos; omega)
  have e1 : tb t.supply.length (fun p => if p < t.supply.length then gi t.supply p else 0) = t.supply := by
    conv => rhs; rw [← tb_self t.supply]
    exact tb_congr fun k hk => by rw [if_pos hk]
  have e2 : tb t.demand.length (fun p => if p < t.demand.length then gi t.demand p else 0) = t.demand := by
    conv => rhs; rw [← tb_self t.demand]
    exact tb_congr fun k hk => by rw [if_pos hk]
  rw [e1, e2] at g2
  refine ⟨g, g1, ?_⟩
  unfold bulk_Corner bulk_corner
  rw [bnd_eq (Validate_eq hs), show validate t = 0 from if_pos ht, if_pos rfl, bnd_eq (empty_eq (by omega) (by omega)), bnd_eq (clone_eq (by omega)), bnd_eq (clone_eq (by omega))]
  have g2' : bulk_corner_L1 FU 0 0 (tab t fun _ _ => 0) t.supply t.demand = some (tab t g) := g2
  rw [bnd_eq g2']
end
theorem law_BulkSquares (t : Trade) (h3 : t.cost.length ≤ 9223372036854775807) : law07_BulkSquares t = some true := by
  unfold law07_BulkSquares
  rcases Long0 (t := t) h3 with h | ⟨h, ht⟩
  · rw [bnd_eq h, if_pos rfl, bnd_eq sane_eq]
  · rw [bnd_eq h, if_neg (by simp)]
    by_cases hv : okT t = true
    · rw [bnd_eq (IsSquare_eq ht hv), bnd_eq (rIsSquare_eq ht hv), if_pos (by simp)]
      unfold law07_BulkSquares_k1
      rw [if_neg (by simp)]
      by_cases hsq : Sq t
      · obtain ⟨g, hg, hc⟩ := Corner_best ht hv hsq
        obtain ⟨c, hl, _, _⟩ := Least_ok ht hv
        rw [if_pos (by simpa using hsq), bnd_eq hc]
        show bnd (bulk_IsBest t (tab t g)) _ = _
        rw [bnd_eq (IsBest_ok ht hv hg.plan hl).1, if_pos rfl, if_pos rfl, if_pos (by simpa using hl.eq hg), bnd_eq sane_eq]
      · rw [if_neg (by simpa using hsq), bnd_eq sane_eq]
    · have e1 : bulk_IsSquare t = some (false, 1) := by
        unfold bulk_IsSquare
        rw [bnd_eq (Validate_eq ht), val1 hv, if_neg (by decide)]
      have e2 : ref07_IsSquare t = some (false, 1) := by
        unfold ref07_IsSquare
        rw [bnd_eq (rValidate_eq ht), val1 hv, if_neg (by decide)]
      rw [bnd_eq e1, bnd_eq e2, if_pos (by simp)]
      unfold law07_BulkSquares_k1
      rw [if_neg (by simp), if_neg (by simp), bnd_eq sane_eq]
end Go.D7
