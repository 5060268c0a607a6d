/- Lemmas and walks that the proof of this claim uses: TbCoreSpec2. -/
import Derived.Test.YtmjadkjcbaohbaaTbCoreB
set_option linter.unusedVariables false
set_option linter.unusedSimpArgs false
namespace Go.Core
open Go.Tb

def clashes (c : Core) : Bool := decide (0 ≤ (relax c).2.2)
def layersE (c : Core) (l : List Int) : Int :=
  if validate c = 0 then (if l.all (fun n => within n 0 (c.layers - 1)) then 0 else 4) else validate c

/-! ### tables of tightest bounds -/
abbrev TM := List (List Tight)
def mg (m : TM) (i j : Nat) : Tight := (m.getD i []).getD j ⟨false, 0⟩
def put (m : TM) (i j : Nat) (y : Tight) : TM := m.set i ((m.getD i []).set j y)
theorem mg_of {m : TM} {i j : Nat} {r : List Tight} {t : Tight} (h1 : m[i]? = some r) (h2 : r[j]? = some t) : mg m i j = t := by simp [mg, List.getD, h1, h2]
theorem put_of {m : TM} {i j : Nat} {y : Tight} {r : List Tight} (h1 : m[i]? = some r) : put m i j y = m.set i (r.set j y) := by simp [put, List.getD, h1]

structure Sq (n : Nat) (m : TM) : Prop where
  len : m.length = n
  row : ∀ r ∈ m, r.length = n
theorem Sq.rowAt {n : Nat} {m : TM} (h : Sq n m) {i : Nat} {r : List Tight} (hr : m[i]? = some r) : r.length = n := h.row r (List.mem_of_getElem? hr)
theorem Sq.getD {n : Nat} {m : TM} (h : Sq n m) {i : Nat} (hi : i < n) : (m.getD i []).length = n := by
  have hl : i < m.length := by rw [h.len]; exact hi
  have : m[i]? = some m[i] := by simp [hl]
  simp only [List.getD, this, Option.getD_some]
  exact h.rowAt this
theorem Sq.put {n : Nat} {m : TM} (h : Sq n m) {i j : Nat} {y : Tight} : Sq n (Core.put m i j y) := by
  refine ⟨by simp [Core.put, h.len], fun r hr => ?_⟩
  unfold Core.put at hr
  by_cases hi : i < n
  · rcases List.mem_or_eq_of_mem_set hr with hr | rfl
    · exact h.row r hr
    · rw [List.length_set]; exact h.getD hi
  · rw [List.set_eq_of_length_le (by rw [h.len]; omega)] at hr
    exact h.row r hr
theorem mg_put {n : Nat} {m : TM} (h : Sq n m) {i j : Nat} {y : Tight} (hi : i < n) (hj : j < n) (a b : Nat) : mg (put m i j y) a b = if a = i ∧ b = j then y else mg m a b := by
  have hl : i < m.length := by rw [h.len]; exact hi
  have hrl := h.getD hi
  unfold mg put
  by_cases ha : a = i
  · subst ha
    simp only [List.getD, List.getElem?_set_self hl, Option.getD_some]
    by_cases hb : b = j
    · subst hb
      have : b < (m[a]?.getD []).length := by simpa [List.getD] using (by rw [hrl]; exact hj : b < (m.getD a []).length)
      simp [List.getElem?_set_self this]
    · rw [List.getElem?_set_ne (Ne.symm hb)]; simp [hb]
  · simp [List.getD, List.getElem?_set_ne (Ne.symm ha), ha]

def tI (n : Nat) : Nat → TM
  | 0 => List.replicate n []
  | i + 1 => (tI n i).set i ((List.replicate n ⟨false, 0⟩).set i ⟨true, 0⟩)
def tB (n : Nat) (bs : List Bound) : Nat → TM
  | 0 => tI n n
  | j + 1 => match bs[j]? with
    | some x => put (tB n bs j) x.a.toNat x.b.toNat (tighter (mg (tB n bs j) x.a.toNat x.b.toNat) ⟨true, x.most⟩)
    | none => tB n bs j
def fwAt (m : TM) (k i j : Nat) : TM := put m i j (tighter (mg m i j) (tover (mg m i k) (mg m k j)))
def fwJ (m : TM) (k i : Nat) : Nat → TM
  | 0 => m
  | j + 1 => fwAt (fwJ m k i j) k i j
def fwI (n : Nat) (m : TM) (k : Nat) : Nat → TM
  | 0 => m
  | i + 1 => fwJ (fwI n m k i) k i n
def fwK (n : Nat) (m : TM) : Nat → TM
  | 0 => m
  | k + 1 => fwI n (fwK n m k) k n
def table (c : Core) : TM := fwK c.layers.toNat (tB c.layers.toNat c.bounds c.bounds.length) c.layers.toNat
def tables (c : Core) : TM × Int := if clashes c then ([], 10) else (table c, 0)

theorem tI_len (n : Nat) : ∀ i : Nat, (tI n i).length = n
  | 0 => by simp [tI]
  | i + 1 => by simp [tI, tI_len n i]
theorem tI_at (n : Nat) : ∀ i : Nat, i ≤ n → ∀ j : Nat, j < i → (tI n i)[j]? = some ((List.replicate n ⟨false, 0⟩).set j ⟨true, 0⟩)
  | 0, _, j, h => by omega
  | i + 1, hi, j, h => by
    unfold tI
    by_cases hj : j = i
    · subst hj; rw [List.getElem?_set_self (by rw [tI_len]; omega)]
    · rw [List.getElem?_set_ne (by omega)]; exact tI_at n i (by omega) j (by omega)
theorem tI_sq (n : Nat) : Sq n (tI n n) := by
  refine ⟨tI_len n n, fun r hr => ?_⟩
  obtain ⟨j, hj⟩ := List.getElem?_of_mem hr
  have hlt := lt_of_at hj
  rw [tI_len] at hlt
  rw [tI_at n n (Nat.le_refl n) j hlt] at hj
  cases hj
  simp
theorem tI_mg {n i j : Nat} (hi : i < n) (hj : j < n) : mg (tI n n) i j = if i = j then ⟨true, 0⟩ else ⟨false, 0⟩ := by
  rw [mg_of (tI_at n n (Nat.le_refl n) i hi) (t := if i = j then ⟨true, 0⟩ else ⟨false, 0⟩)]
  rw [List.getElem?_set]
  by_cases h : i = j
  · subst h; simp [hi]
  · simp [h, List.getElem?_replicate, hj]

/-- A table whose known entries are bounds that the potential p keeps. -/
structure TInv (n : Nat) (p : Nat → Int) (B : Int) (m : TM) : Prop where
  sq : Sq n m
  diag : ∀ i : Nat, i < n → mg m i i = ⟨true, 0⟩
  pot : ∀ i j : Nat, i < n → j < n → (mg m i j).known = true → p j - p i ≤ (mg m i j).most
  bnd : ∀ i j : Nat, i < n → j < n → -B ≤ (mg m i j).most ∧ (mg m i j).most ≤ B
theorem TInv.mono {n : Nat} {p : Nat → Int} {B B' : Int} {m : TM} (h : TInv n p B m) (hB : B ≤ B') : TInv n p B' m :=
  ⟨h.sq, h.diag, h.pot, fun i j hi hj => by have := h.bnd i j hi hj; omega⟩

theorem tI_inv (n : Nat) (p : Nat → Int) : TInv n p 10000 (tI n n) := by
  refine ⟨tI_sq n, fun i hi => by rw [tI_mg hi hi]; simp, fun i j hi hj hk => ?_, fun i j hi hj => ?_⟩
  · rw [tI_mg hi hj] at *
    by_cases h : i = j
    · subst h; simp
    · simp [h] at hk
  · rw [tI_mg hi hj]
    by_cases h : i = j <;> simp [h]
theorem tighter_most {t o : Tight} {B : Int} (h1 : -B ≤ t.most ∧ t.most ≤ B) (h2 : -B ≤ o.most ∧ o.most ≤ B) : -B ≤ (tighter t o).most ∧ (tighter t o).most ≤ B := by
  unfold tighter; split <;> assumption
theorem tighter_pot {t o : Tight} {q : Int} (h1 : t.known = true → q ≤ t.most) (h2 : o.known = true → q ≤ o.most) : (tighter t o).known = true → q ≤ (tighter t o).most := by
  unfold tighter; split <;> assumption
theorem tighter_zero {o : Tight} (h : o.known = true → 0 ≤ o.most) : tighter ⟨true, 0⟩ o = ⟨true, 0⟩ := by
  unfold tighter
  split
  · rename_i hc
    simp at hc
    have := h hc.1
    omega
  · rfl
theorem tighter_self (t : Tight) : tighter t (tover t ⟨true, 0⟩) = t := by
  unfold tighter tover
  cases t with
  | mk k m => cases k <;> simp
theorem tighter_self' (t : Tight) : tighter t (tover ⟨true, 0⟩ t) = t := by
  unfold tighter tover
  cases t with
  | mk k m => cases k <;> simp

def Pot (c : Core) (p : Nat → Int) : Prop := ∀ x ∈ c.bounds, p x.b.toNat - p x.a.toNat ≤ x.most
theorem tB_succ {n : Nat} {bs : List Bound} {j : Nat} {x : Bound} (hx : bs[j]? = some x) : tB n bs (j + 1) = put (tB n bs j) x.a.toNat x.b.toNat (tighter (mg (tB n bs j) x.a.toNat x.b.toNat) ⟨true, x.most⟩) := by
  simp only [tB, hx]
theorem tB_inv {c : Core} {p : Nat → Int} (hv : validate c = 0) (hp : Pot c p) : ∀ j : Nat, TInv c.layers.toNat p 10000 (tB c.layers.toNat c.bounds j)
  | 0 => tI_inv _ p
  | j + 1 => by
    have ih := tB_inv hv hp j
    cases hx : c.bounds[j]? with
    | none => simp only [tB, hx]; exact ih
    | some x =>
      rw [tB_succ hx]
      have hb := bound_ok hv hx
      have ha : x.a.toNat < c.layers.toNat := by omega
      have hb' : x.b.toNat < c.layers.toNat := by omega
      have hne : x.a.toNat ≠ x.b.toNat := by omega
      have hpx := hp x (List.mem_of_getElem? hx)
      refine ⟨ih.sq.put, fun i hi => ?_, fun i k hi hk => ?_, fun i k hi hk => ?_⟩
      · rw [mg_put ih.sq ha hb', if_neg (by omega)]; exact ih.diag i hi
      · rw [mg_put ih.sq ha hb']
        split
        · rename_i h
          obtain ⟨rfl, rfl⟩ := h
          exact tighter_pot (ih.pot _ _ ha hb') (fun _ => hpx)
        · exact ih.pot i k hi hk
      · rw [mg_put ih.sq ha hb']
        split
        · exact tighter_most (ih.bnd _ _ ha hb') (by simp; omega)
        · exact ih.bnd i k hi hk

/-- In round k: row k and column k stay as they were. -/
structure FInv (n : Nat) (p : Nat → Int) (B : Int) (m0 : TM) (k : Nat) (m : TM) : Prop where
  inv : TInv n p (2 * B) m
  row : ∀ j : Nat, j < n → mg m k j = mg m0 k j
  col : ∀ i : Nat, i < n → mg m i k = mg m0 i k
theorem FInv.step {n : Nat} {p : Nat → Int} {B : Int} {m0 m : TM} {k i j : Nat} (hB : 0 ≤ B) (h0 : TInv n p B m0) (h : FInv n p B m0 k m) (hk : k < n) (hi : i < n) (hj : j < n) : FInv n p B m0 k (fwAt m k i j) := by
  have e1 := h.col i hi
  have e2 := h.row j hj
  have d0 := h0.diag k hk
  have b1 := h0.bnd i k hi hk
  have b2 := h0.bnd k j hk hj
  have p1 := h0.pot i k hi hk
  have p2 := h0.pot k j hk hj
  unfold fwAt
  rw [e1, e2]
  have over_pot : (tover (mg m0 i k) (mg m0 k j)).known = true → p j - p i ≤ (tover (mg m0 i k) (mg m0 k j)).most := by
    simp only [tover, Bool.and_eq_true]
    intro ⟨q1, q2⟩
    have := p1 q1
    have := p2 q2
    omega
  have hI := h.inv
  refine ⟨⟨hI.sq.put, fun a ha => ?_, fun a b ha hb => ?_, fun a b ha hb => ?_⟩, fun b hb => ?_, fun a ha => ?_⟩
  · rw [mg_put hI.sq hi hj]
    split
    · rename_i he
      obtain ⟨rfl, rfl⟩ := he
      rw [hI.diag a ha]
      exact tighter_zero (fun q => by have := over_pot q; omega)
    · exact hI.diag a ha
  · rw [mg_put hI.sq hi hj]
    split
    · rename_i he
      obtain ⟨rfl, rfl⟩ := he
      exact tighter_pot (hI.pot _ _ ha hb) over_pot
    · exact hI.pot a b ha hb
  · rw [mg_put hI.sq hi hj]
    split
    · rename_i he
      obtain ⟨rfl, rfl⟩ := he
      exact tighter_most (hI.bnd _ _ ha hb) (by simp only [tover]; omega)
    · exact hI.bnd a b ha hb
  · rw [mg_put hI.sq hi hj]
    split
    · rename_i he
      obtain ⟨rfl, rfl⟩ := he
      rw [h.row b hb, d0]
      exact tighter_self' _
    · exact h.row b hb
  · rw [mg_put hI.sq hi hj]
    split
    · rename_i he
      obtain ⟨rfl, rfl⟩ := he
      rw [h.col a ha, d0]
      exact tighter_self _
    · exact h.col a ha
theorem FInv.zero {n : Nat} {p : Nat → Int} {B : Int} {m0 : TM} {k : Nat} (hB : 0 ≤ B) (h0 : TInv n p B m0) : FInv n p B m0 k m0 := ⟨h0.mono (by omega), fun _ _ => rfl, fun _ _ => rfl⟩
theorem fwJ_inv {n : Nat} {p : Nat → Int} {B : Int} {m0 m : TM} {k i : Nat} (hB : 0 ≤ B) (h0 : TInv n p B m0) (h : FInv n p B m0 k m) (hk : k < n) (hi : i < n) : ∀ j : Nat, j ≤ n → FInv n p B m0 k (fwJ m k i j)
  | 0, _ => h
  | j + 1, hj => (fwJ_inv hB h0 h hk hi j (by omega)).step hB h0 hk hi (by omega)
theorem fwI_inv {n : Nat} {p : Nat → Int} {B : Int} {m0 : TM} {k : Nat} (hB : 0 ≤ B) (h0 : TInv n p B m0) (hk : k < n) : ∀ i : Nat, i ≤ n → FInv n p B m0 k (fwI n m0 k i)
  | 0, _ => FInv.zero hB h0
  | i + 1, hi => fwJ_inv hB h0 (fwI_inv hB h0 hk i (by omega)) hk (by omega) n (Nat.le_refl n)
theorem fwK_inv {n : Nat} {p : Nat → Int} {m0 : TM} (h0 : TInv n p 10000 m0) : ∀ k : Nat, k ≤ n → TInv n p (10000 * 2 ^ k) (fwK n m0 k)
  | 0, _ => h0.mono (by omega)
  | k + 1, hk => by
    have ih := fwK_inv h0 k (by omega)
    have := (fwI_inv (k := k) (Int.mul_nonneg (by omega) (Int.le_of_lt (Int.pow_pos (by omega)))) ih (by omega) n (Nat.le_refl n)).inv
    refine this.mono ?_
    rw [Int.pow_succ]; omega
theorem pow8 {k : Nat} (hk : k ≤ 8) : (10000 : Int) * 2 ^ k ≤ 2560000 := by
  have : k = 0 ∨ k = 1 ∨ k = 2 ∨ k = 3 ∨ k = 4 ∨ k = 5 ∨ k = 6 ∨ k = 7 ∨ k = 8 := by omega
  rcases this with rfl | rfl | rfl | rfl | rfl | rfl | rfl | rfl | rfl <;> decide
/-- The table of round k. -/
def tK (c : Core) (k : Nat) : TM := fwK c.layers.toNat (tB c.layers.toNat c.bounds c.bounds.length) k
theorem tK_inv {c : Core} {p : Nat → Int} (hv : validate c = 0) (hp : Pot c p) {k : Nat} (hk : k ≤ c.layers.toNat) : TInv c.layers.toNat p 2560000 (tK c k) :=
  (fwK_inv (tB_inv hv hp c.bounds.length) k hk).mono (pow8 (k := k) (by have := validate_ok hv; omega))
theorem tR_inv {c : Core} {p : Nat → Int} (hv : validate c = 0) (hp : Pot c p) {k i j : Nat} (hk : k < c.layers.toNat) (hi : i < c.layers.toNat) (hj : j ≤ c.layers.toNat) : TInv c.layers.toNat p 5120000 (fwJ (fwI c.layers.toNat (tK c k) k i) k i j) := by
  have h0 := tK_inv hv hp (k := k) (Nat.le_of_lt hk)
  exact (fwJ_inv (B := 2560000) (by omega) h0 (fwI_inv (by omega) h0 hk i (Nat.le_of_lt hi)) hk hi j hj).inv
theorem tI2_inv {c : Core} {p : Nat → Int} (hv : validate c = 0) (hp : Pot c p) {k i : Nat} (hk : k < c.layers.toNat) (hi : i ≤ c.layers.toNat) : TInv c.layers.toNat p 5120000 (fwI c.layers.toNat (tK c k) k i) := by
  have h0 := tK_inv hv hp (k := k) (Nat.le_of_lt hk)
  exact (fwI_inv (B := 2560000) (by omega) h0 hk i hi).inv
theorem fwAt_of {m : TM} {k i j : Nat} {r0 r1 r2 r3 : List Tight} {t1 t2 t3 : Tight} (h0 : m[i]? = some r0) (h1 : m[i]? = some r1) (q1 : r1[j]? = some t1) (h2 : m[i]? = some r2) (q2 : r2[k]? = some t2) (h3 : m[k]? = some r3) (q3 : r3[j]? = some t3) :
    fwAt m k i j = m.set i (r0.set j (tighter t1 (tover t2 t3))) := by
  unfold fwAt
  rw [put_of h0, mg_of h1 q1, mg_of h2 q2, mg_of h3 q3]
/-! ### a core that does not clash has a potential -/
end Go.Core
