/- Lemmas and walks that the proof of this claim uses: D2p3, D2p4, D2p5, D2p7. -/
import Derived.Test.YtmpmomboclhjoaaDrainCuts3
set_option linter.unusedVariables false
set_option linter.unusedSimpArgs false
namespace Go.D2
open Go.Tb
def inS (m : Nat) (v : Int) : Bool := m.testBit v.toNat
theorem in_eq {m : Nat} {v : Int} (hm : m < 9223372036854775808) (hv : 0 ≤ v ∧ v ≤ 60) : ref02_in (m : Int) v = some (inS m v) := by
  have hw : IntKind.u64.wrap v = v := IntWalk.u64_in _ (by omega)
  have hs : shrI (m : Int) v = ((m / 2 ^ v.toNat : Nat) : Int) := by
    unfold shrI
    rw [show min v.toNat 64 = v.toNat by omega, Int.fdiv_eq_ediv_of_nonneg _ (by exact Int.le_of_lt (Int.pow_pos (by decide)))]
    norm_cast
  have hle : m / 2 ^ v.toNat ≤ m := Nat.div_le_self _ _
  have hnn : NN ((m / 2 ^ v.toNat : Nat) : Int) := by
    generalize m / 2 ^ v.toNat = q at hle ⊢
    omega
  unfold ref02_in
  rw [hw, gd_pos hv.1, hs, gd_pos ⟨hnn, by decide⟩]
  congr 1
  unfold inS bitAnd
  rw [Nat.testBit_eq_decide_div_mod_eq]
  have : ((((m / 2 ^ v.toNat : Nat) : Int).toNat &&& (1 : Int).toNat : Nat) : Int) = ((m / 2 ^ v.toNat % 2 : Nat) : Int) := by
    rw [show (1 : Int).toNat = 1 from rfl, Nat.and_one_is_mod, Int.toNat_natCast]
  rw [this]
  by_cases h : m / 2 ^ v.toNat % 2 = 1
  · rw [decide_eq_true (by omega), decide_eq_true h]
  · rw [decide_eq_false (by omega), decide_eq_false h]
theorem set_of : ∀ (k : Nat) (S : Nat → Bool), ∃ m, m < 2 ^ k ∧ ∀ v, v < k → m.testBit v = S v
  | 0, S => ⟨0, by decide, fun v hv => by omega⟩
  | k + 1, S => by
    obtain ⟨m, h1, h2⟩ := set_of k (fun v => S (v + 1))
    refine ⟨2 * m + (S 0).toNat, ?_, fun v hv => ?_⟩
    · rw [Nat.pow_succ]
      have : (S 0).toNat ≤ 1 := Bool.toNat_le _
      omega
    · cases v with
      | zero =>
        rw [Nat.testBit_zero]
        cases S 0 <;> simp
      | succ v =>
        rw [Nat.testBit_succ]
        have : (2 * m + (S 0).toNat) / 2 = m := by
          have : (S 0).toNat ≤ 1 := Bool.toNat_le _
          omega
        rw [this]; exact h2 v (by omega)
def cutD (S : Int → Bool) : List Drain → Int
  | [] => 0
  | d :: r => (if S d.from_ = true ∧ S d.to_ = false then d.width else 0) + cutD S r
theorem cutW_eds (S : Int → Bool) : ∀ l : List Left, cutW S (Eds l) = cutD S (l.map Left.drain)
  | [] => rfl
  | d :: r => by
    have := cutW_eds S r
    have e : cutW S (Eds (d :: r)) = (if S d.drain.from_ = true ∧ S d.drain.to_ = false then d.drain.width else 0) + cutW S (Eds r) := rfl
    rw [e, this]; rfl
theorem cutD_congr {S T : Int → Bool} : ∀ l : List Drain, (∀ d ∈ l, S d.from_ = T d.from_ ∧ S d.to_ = T d.to_) → cutD S l = cutD T l
  | [], _ => rfl
  | d :: r, h => by
    have := h d (List.mem_cons_self ..)
    simp only [cutD, this.1, this.2, cutD_congr r (fun x hx => h x (List.mem_cons_of_mem _ hx))]
theorem cutD_bnd (S : Int → Bool) : ∀ l : List Drain, (∀ d ∈ l, 0 ≤ d.width ∧ d.width ≤ 1000) → 0 ≤ cutD S l ∧ cutD S l ≤ 1000 * (l.length : Int)
  | [], _ => ⟨Int.le_refl _, Int.le_refl _⟩
  | d :: r, h => by
    have ih := cutD_bnd S r (fun x hx => h x (List.mem_cons_of_mem _ hx))
    have := h d (List.mem_cons_self ..)
    simp only [cutD, List.length_cons]
    split <;> omega
theorem cutD_take {S : Int → Bool} {d : Drain} : ∀ {l : List Drain} {i : Nat}, l[i]? = some d → cutD S (l.take (i + 1)) = cutD S (l.take i) + (if S d.from_ = true ∧ S d.to_ = false then d.width else 0)
  | [], i, h => by simp at h
  | x :: r, 0, h => by simp at h; subst h; simp [cutD]
  | x :: r, i + 1, h => by
    have := cutD_take (S := S) (d := d) (l := r) (i := i) (by simpa using h)
    simp only [List.take_succ_cons, cutD, this]; omega
theorem width_eq {n : Net} (hn : Net0 n) {m : Nat} (hm : m < 9223372036854775808) : ref02_width n (m : Int) = some (cutD (inS m) n.drains) := by
  have hl := hn.len
  have h8 := hn.n8
  unfold ref02_width
  refine Eq.trans (for0 n.drains.length (fun i => cutD (inS m) (n.drains.take i)) (fun k s i => ref02_width_L1 n m k s i) (some (cutD (inS m) n.drains)) rfl (fun k i hi => ?_) (fun k => ?_) (by omega)) rfl
  · have hx : n.drains[i]? = some n.drains[i] := by simp [hi]
    have hd := hn.dr _ (List.getElem_mem hi)
    have hb := cutD_bnd (inS m) (n.drains.take i) (fun d hd => by have := hn.dr d (List.mem_of_mem_take hd); omega)
    have hlt : (n.drains.take i).length ≤ 16 := by rw [List.length_take]; omega
    show ref02_width_B1 n m (ref02_width_L1 n m k) _ _ = _
    unfold ref02_width_B1
    rw [if_pos (by omega), ix_nat hx, bnd_eq (in_eq hm (by omega)), cutD_take hx]
    unfold ref02_width_k3 ref02_width_k2
    cases h1 : inS m n.drains[i].from_
    · rw [if_neg (by simp), if_neg (by simp), gd_pos (by omega), if_neg (by simp), Int.add_zero]; rfl
    · rw [if_pos rfl, bnd_eq (in_eq hm (by omega))]
      cases h2 : inS m n.drains[i].to_
      · rw [if_pos (by rfl), gd_pos (by omega), gd_pos (by omega), if_pos ⟨rfl, rfl⟩]; rfl
      · rw [if_neg (by simp), gd_pos (by omega), if_neg (by simp), Int.add_zero]; rfl
  · show ref02_width_B1 n m (ref02_width_L1 n m k) _ _ = _
    unfold ref02_width_B1
    rw [if_neg (by omega)]
    unfold ref02_width_k1
    rw [List.take_length]
def cutB (n : Net) (m : Nat) : Bool := inS m n.from_ && !inS m n.to_
theorem isCut_eq {n : Net} (hn : Net0 n) {m : Nat} (hm : m < 9223372036854775808) : ref02_isCut n (m : Int) = some (cutB n m) := by
  have h8 := hn.n8
  have hs := hn.s0
  have ht := hn.t0
  unfold ref02_isCut cutB
  rw [bnd_eq (in_eq hm (by omega))]
  cases inS m n.from_
  · rfl
  · rw [if_pos rfl, bnd_eq (in_eq hm (by omega))]; rfl
def bestC (n : Net) : Nat → Int
  | 0 => -1
  | i + 1 => if cutB n i = true then (if bestC n i < 0 ∨ cutD (inS i) n.drains < bestC n i then cutD (inS i) n.drains else bestC n i) else bestC n i
theorem bestC_spec {n : Net} (hn : Net0 n) : ∀ i, ((∀ j, j < i → cutB n j = false) ∧ bestC n i = -1) ∨ (0 ≤ bestC n i ∧ (∀ j, j < i → cutB n j = true → bestC n i ≤ cutD (inS j) n.drains) ∧ ∃ j, j < i ∧ cutB n j = true ∧ cutD (inS j) n.drains = bestC n i)
  | 0 => .inl ⟨fun j hj => by omega, rfl⟩
  | i + 1 => by
    have ih := bestC_spec hn i
    have hb := (cutD_bnd (inS i) n.drains (fun d hd => by have := hn.dr d hd; omega)).1
    simp only [bestC]
    by_cases hc : cutB n i = true
    · rw [if_pos hc]
      refine .inr ?_
      rcases ih with ⟨h1, h2⟩ | ⟨h1, h2, j, h3, h4, h5⟩
      · rw [if_pos (.inl (by omega))]
        refine ⟨hb, fun j hj hcj => ?_, i, by omega, hc, rfl⟩
        by_cases hji : j = i
        · subst hji; exact Int.le_refl _
        · rw [h1 j (by omega)] at hcj; cases hcj
      · by_cases hlt : cutD (inS i) n.drains < bestC n i
        · rw [if_pos (.inr hlt)]
          refine ⟨hb, fun j hj hcj => ?_, i, by omega, hc, rfl⟩
          by_cases hji : j = i
          · subst hji; exact Int.le_refl _
          · have := h2 j (by omega) hcj; omega
        · rw [if_neg (by omega)]
          refine ⟨h1, fun j hj hcj => ?_, j, by omega, h4, h5⟩
          by_cases hji : j = i
          · subst hji; omega
          · exact h2 j (by omega) hcj
    · rw [if_neg hc]
      rcases ih with ⟨h1, h2⟩ | ⟨h1, h2, j, h3, h4, h5⟩
      · refine .inl ⟨fun j hj => ?_, h2⟩
        by_cases hji : j = i
        · subst hji; simpa using hc
        · exact h1 j (by omega)
      · refine .inr ⟨h1, fun j hj hcj => ?_, j, by omega, h4, h5⟩
        by_cases hji : j = i
        · subst hji; exact absurd hcj hc
        · exact h2 j (by omega) hcj
def mostN (n : Net) : Int := bestC n (2 ^ n.nodes.toNat)
theorem pow_bnd {n : Net} (hn : Net0 n) : 2 ^ n.nodes.toNat ≤ 256 := by
  have := hn.n8
  have h : 2 ^ n.nodes.toNat ≤ 2 ^ 8 := Nat.pow_le_pow_right (by decide) (by omega)
  simpa using h
theorem shl_eq {n : Net} (hn : Net0 n) : shlI 1 (IntKind.u64.wrap n.nodes) = ((2 ^ n.nodes.toNat : Nat) : Int) ∧ IntKind.u64.wrap n.nodes = n.nodes := by
  have h2 := hn.n2
  have h8 := hn.n8
  have hw : IntKind.u64.wrap n.nodes = n.nodes := IntWalk.u64_in _ (by omega)
  refine ⟨?_, hw⟩
  rw [hw]
  unfold shlI
  rw [show min n.nodes.toNat 64 = n.nodes.toNat by omega, Int.one_mul]
  norm_cast
theorem rmost_eq {n : Net} (hn : Net0 n) : ref02_most n = some (mostN n) := by
  have hp := pow_bnd hn
  have ⟨hsh, hw⟩ := shl_eq hn
  have h2 := hn.n2
  have hg : 0 ≤ IntKind.u64.wrap n.nodes ∧ InR (shlI 1 (IntKind.u64.wrap n.nodes)) := ⟨by rw [hw]; omega, by rw [hsh]; exact Int.le_trans (by decide) (Int.natCast_nonneg _), by rw [hsh]; exact Int.le_trans (Int.ofNat_le.2 hp) (by decide)⟩
  unfold ref02_most
  refine Eq.trans (for0 (2 ^ n.nodes.toNat) (bestC n) (fun k s i => ref02_most_L1 n k s i) (some (mostN n)) rfl (fun k i hi => ?_) (fun k => ?_) (by omega)) rfl
  · show ref02_most_B1 n (ref02_most_L1 n k) _ _ = _
    unfold ref02_most_B1
    rw [gd_pos hg, hsh, if_pos (by omega), bnd_eq (isCut_eq hn (by omega))]
    unfold ref02_most_k3 ref02_most_k2
    have eb : bestC n (i + 1) = (if cutB n i = true then (if bestC n i < 0 ∨ cutD (inS i) n.drains < bestC n i then cutD (inS i) n.drains else bestC n i) else bestC n i) := rfl
    rw [eb]
    by_cases hc : cutB n i = true
    · rw [if_pos hc, if_pos hc, bnd_eq (width_eq hn (by omega))]
      by_cases h1 : bestC n i < 0
      · rw [if_pos h1, if_pos rfl, gd_pos (by omega), if_pos (.inl h1)]; rfl
      · rw [if_neg h1]
        by_cases h3 : cutD (inS i) n.drains < bestC n i
        · rw [if_pos (by simpa using h3), gd_pos (by omega), if_pos (.inr h3)]; rfl
        · rw [if_neg (by simpa using h3), gd_pos (by omega), if_neg (by omega)]; rfl
    · rw [if_neg hc, if_neg hc, gd_pos (by omega)]; rfl
  · show ref02_most_B1 n (ref02_most_L1 n k) _ _ = _
    unfold ref02_most_B1
    rw [gd_pos hg, hsh, if_neg (by omega)]; rfl
/-- A set as a number, and its width. -/
theorem cut_num {n : Net} (hn : Net0 n) (S : Int → Bool) : ∃ m, m < 2 ^ n.nodes.toNat ∧ (∀ v : Int, 0 ≤ v → v < n.nodes → inS m v = S v) ∧ cutD (inS m) n.drains = cutD S n.drains := by
  obtain ⟨m, h1, h2⟩ := set_of n.nodes.toNat (fun v => S (v : Int))
  have key : ∀ v : Int, 0 ≤ v → v < n.nodes → inS m v = S v := fun v v0 v1 => by
    unfold inS
    rw [h2 v.toNat (by omega), show ((v.toNat : Nat) : Int) = v by omega]
  exact ⟨m, h1, key, cutD_congr _ fun d hd => by have := hn.dr d hd; exact ⟨key _ this.1.1 this.1.2, key _ this.2.1.1 this.2.1.2⟩⟩
theorem most_le {n : Net} (hn : Net0 n) {S : Int → Bool} (h1 : S n.from_ = true) (h2 : S n.to_ = false) : mostN n ≤ cutD S n.drains := by
  obtain ⟨m, m1, m2, m3⟩ := cut_num hn S
  have hc : cutB n m = true := by
    unfold cutB
    rw [m2 _ hn.s0.1 hn.s0.2, m2 _ hn.t0.1 hn.t0.2, h1, h2]; rfl
  rcases bestC_spec hn (2 ^ n.nodes.toNat) with ⟨h3, _⟩ | ⟨_, h3, _⟩
  · rw [h3 m m1] at hc; cases hc
  · have := h3 m m1 hc
    rw [m3] at this; exact this
theorem most_at {n : Net} (hn : Net0 n) : ∃ S : Int → Bool, S n.from_ = true ∧ S n.to_ = false ∧ cutD S n.drains = mostN n := by
  obtain ⟨m, m1, m2, m3⟩ := cut_num hn (fun v => decide (v = n.from_))
  have hne := hn.ne
  have hc : cutB n m = true := by
    unfold cutB
    rw [m2 _ hn.s0.1 hn.s0.2, m2 _ hn.t0.1 hn.t0.2]; simp; omega
  rcases bestC_spec hn (2 ^ n.nodes.toNat) with ⟨h3, _⟩ | ⟨_, _, j, j1, j2, j3⟩
  · rw [h3 m m1] at hc; cases hc
  · unfold cutB at j2
    simp only [Bool.and_eq_true, Bool.not_eq_true'] at j2
    exact ⟨inS j, j2.1, j2.2, j3⟩
theorem maxed_val {n : Net} (hn : Net0 n) {l : List Left} (h : Maxed n l) : out (Eds l) n.from_ = mostN n := by
  obtain ⟨hf, S, s1, s2, s3, _⟩ := h
  have hs : 0 ≤ n.from_ ∧ n.from_ < ((n.nodes.toNat : Nat) : Int) := by have := hn.s0; omega
  have h1 : out (Eds l) n.from_ = cutW S (Eds l) := (tight_iff hf.flow hs s1 s2).2 ((closed_tight hf.flow.cap).1 s3)
  rw [cutW_eds, hf.drains] at h1
  have h2 := most_le hn s1 s2
  obtain ⟨T, t1, t2, t3⟩ := most_at hn
  have h3 := weak hf.flow hs t1 t2
  rw [cutW_eds, hf.drains, t3] at h3
  omega
end Go.D2

set_option linter.unusedVariables false
set_option linter.unusedSimpArgs false
namespace Go.D2
open Go.Tb
def gi (l : List Int) (i : Nat) : Int := l.getD i 0
theorem gi_at {l : List Int} {i : Nat} (h : i < l.length) : l[i]? = some (gi l i) := by simp [gi, List.getD, h]
theorem gi_of {l : List Int} {i : Nat} {x : Int} (h : l[i]? = some x) : gi l i = x := by simp [gi, List.getD, h]
theorem Long_eq (n : Net) : law02_Long n = some (decide ((100 : Int) < (n.drains.length : Int))) := rfl
end Go.D2

set_option linter.unusedVariables false
set_option linter.unusedSimpArgs false
namespace Go.D2
open Go.Tb
theorem index_eq {l : List Int} (x : Int) (hl : l.length ≤ 1000) : ∀ (suf pre : List Int) (k : Nat), l = pre ++ suf → suf.length < k → ∃ i : Int, slices_Index_int_L1 l x k (pre.length : Int) = some i ∧ (0 ≤ i ↔ x ∈ suf)
  | [], pre, k + 1, h, hk => by
    refine ⟨-1, ?_, by simp⟩
    show slices_Index_int_B1 l x (slices_Index_int_L1 l x k) _ = _
    unfold slices_Index_int_B1
    rw [if_neg (by rw [h]; simp)]; rfl
  | y :: r, pre, k + 1, h, hk => by
    have hy : l[pre.length]? = some y := by rw [h, List.getElem?_append_right (Nat.le_refl _)]; simp
    have := lt_of_at hy
    obtain ⟨i, h1, h2⟩ := index_eq x hl r (pre ++ [y]) k (by rw [h]; simp) (by simp at hk; omega)
    have e : slices_Index_int_L1 l x (k + 1) (pre.length : Int) = slices_Index_int_B1 l x (slices_Index_int_L1 l x k) (pre.length : Int) := rfl
    rw [e]
    unfold slices_Index_int_B1
    rw [if_pos (by omega), ix_nat hy]
    by_cases hxy : x = y
    · rw [if_pos hxy]
      exact ⟨_, rfl, by simp [hxy]⟩
    · rw [if_neg hxy, gd_pos (by omega)]
      rw [show (((pre ++ [y]).length : Nat) : Int) = (pre.length : Int) + 1 by simp] at h1
      exact ⟨i, h1, by rw [h2]; simp [hxy]⟩
def mem (l : List Int) (x : Int) : Bool := decide (x ∈ l)
theorem contains_eq {l : List Int} (x : Int) (hl : l.length ≤ 1000) : slices_Contains_int l x = some (mem l x) := by
  obtain ⟨i, h1, h2⟩ := index_eq x hl l [] FU rfl (by have := FU_pos; omega)
  unfold slices_Contains_int slices_Index_int
  have h1' : slices_Index_int_L1 l x FU 0 = some i := h1
  rw [bnd_eq h1']
  congr 1
  unfold mem
  exact decide_eq_decide.2 h2
theorem across_eq {n : Net} (hn : Net0 n) {l : List Int} (hl : l.length ≤ 1000) : drain_across n l = some (cutD (mem l) n.drains) := by
  have hlen := hn.len
  unfold drain_across
  refine Eq.trans (for0 n.drains.length (fun i => cutD (mem l) (n.drains.take i)) (fun k s i => drain_across_L1 n l k s i) (some (cutD (mem l) n.drains)) rfl (fun k i hi => ?_) (fun k => ?_) (by omega)) rfl
  · have hx : n.drains[i]? = some n.drains[i] := by simp [hi]
    have hd := hn.dr _ (List.getElem_mem hi)
    have hb := cutD_bnd (mem l) (n.drains.take i) (fun d hd => by have := hn.dr d (List.mem_of_mem_take hd); omega)
    have hlt : (n.drains.take i).length ≤ 16 := by rw [List.length_take]; omega
    show drain_across_B1 n l (drain_across_L1 n l k) _ _ = _
    unfold drain_across_B1
    rw [if_pos (by omega), ix_nat hx, bnd_eq (contains_eq _ hl), cutD_take hx]
    unfold drain_across_k3 drain_across_k2
    cases h1 : mem l n.drains[i].from_
    · rw [if_neg (by simp), if_neg (by simp), gd_pos (by omega), if_neg (by simp), Int.add_zero]; rfl
    · rw [if_pos rfl, bnd_eq (contains_eq _ hl)]
      cases h2 : mem l n.drains[i].to_
      · rw [if_pos (by rfl), gd_pos (by omega), gd_pos (by omega), if_pos ⟨rfl, rfl⟩]; rfl
      · rw [if_neg (by simp), gd_pos (by omega), if_neg (by simp), Int.add_zero]; rfl
  · show drain_across_B1 n l (drain_across_L1 n l k) _ _ = _
    unfold drain_across_B1
    rw [if_neg (by omega)]
    unfold drain_across_k1
    rw [List.take_length]
def ascAt (n : Net) (l : List Int) (i : Nat) : Bool := isNode n (gi l i) && (decide (i = 0) || decide (gi l (i - 1) < gi l i))
def ascB (n : Net) (l : List Int) : Bool := decide (∀ i, i < l.length → ascAt n l i = true)
def acrossR (n : Net) (l : List Int) : Int × Int :=
  if validate n = 0 then (if ascB n l = true ∧ mem l n.from_ = true ∧ mem l n.to_ = false then (cutD (mem l) n.drains, 0) else (0, 1)) else (0, validate n)
theorem Across_eq {n : Net} (hl : n.drains.length ≤ 1000) {l : List Int} (hf : l.length ≤ 1000) : drain_Across n l = some (acrossR n l) := by
  unfold drain_Across acrossR
  rw [bnd_eq (Validate_eq hl)]
  by_cases hv : validate n = 0
  · have hn := val0.1 hv
    have h8 := hn.n8
    have h2 := hn.n2
    rw [if_pos hv, if_pos hv]
    have h := scan_loop0 l.length (ascAt n l) (fun _ => ()) (fun k _ i => drain_Across_L1 n l k i) (drain_Across_k2 n l) (some ((0 : Int), (1 : Int))) (fun k i hi => ?_) (fun k => ?_) (by omega)
    · refine Eq.trans h ?_
      unfold ascB
      by_cases hc : ∀ i, i < l.length → ascAt n l i = true
      · rw [if_pos hc, decide_eq_true hc]
        unfold drain_Across_k2 drain_Across_k1
        rw [bnd_eq (contains_eq _ hf)]
        cases h1 : mem l n.from_
        · rw [if_neg (by simp), if_pos rfl, if_neg (by simp)]
        · rw [if_pos rfl, bnd_eq (contains_eq _ hf)]
          cases h2 : mem l n.to_
          · rw [if_neg (by simp), bnd_eq (across_eq hn.toNet0 hf), if_pos ⟨rfl, rfl, rfl⟩]
          · rw [if_pos rfl, if_neg (by simp)]
      · rw [if_neg hc, decide_eq_false hc, if_neg (by simp)]
    · show drain_Across_B1 n l (drain_Across_L1 n l k) _ = _
      unfold drain_Across_B1 ascAt drain_Across_k3
      rw [if_pos (by omega), ix_nat (gi_at hi), bnd_eq (isNode_eq (by omega) _)]
      cases h1 : isNode n (gi l i)
      · rw [if_neg (by simp), if_pos rfl, if_neg (by simp)]
      · rw [if_pos rfl]
        by_cases h0 : i = 0
        · rw [if_neg (by omega), if_neg (by simp), gd_pos (by omega), if_pos (by simp [h0])]; rfl
        · have h3 : l[i - 1]? = some (gi l (i - 1)) := gi_at (by omega)
          rw [if_pos (by omega), gd_pos (by omega), show (i : Int) - 1 = ((i - 1 : Nat) : Int) by omega, ix_nat h3]
          by_cases h4 : gi l i ≤ gi l (i - 1)
          · rw [if_pos (by simpa using h4), if_neg (by simp; omega)]
          · rw [if_neg (by simpa using h4), gd_pos (by omega), if_pos (by simp; omega)]; rfl
    · show drain_Across_B1 n l (drain_Across_L1 n l k) _ = _
      unfold drain_Across_B1
      rw [if_neg (by omega)]
  · rw [if_neg hv, if_neg hv]
end Go.D2

set_option linter.unusedVariables false
set_option linter.unusedSimpArgs false
namespace Go.D2
open Go.Tb
theorem shl1 {x : Int} (h : 0 ≤ x ∧ x ≤ 8) : shlI 1 (IntKind.u64.wrap x) = ((2 ^ x.toNat : Nat) : Int) ∧ IntKind.u64.wrap x = x := by
  have hw : IntKind.u64.wrap x = x := IntWalk.u64_in _ (by omega)
  refine ⟨?_, hw⟩
  rw [hw]
  unfold shlI
  rw [show min x.toNat 64 = x.toNat by omega, Int.one_mul]
  norm_cast
theorem pow8 {k : Nat} (h : k ≤ 8) : 2 ^ k ≤ 256 := by
  have h : 2 ^ k ≤ 2 ^ 8 := Nat.pow_le_pow_right (by decide) h
  simpa using h
def bitN (x : Int) : Nat := if 0 ≤ x ∧ x < 8 then 2 ^ x.toNat else 0
theorem bitN_lt (x : Int) : bitN x < 2 ^ 8 := by
  unfold bitN
  split
  · exact Nat.pow_lt_pow_right (by decide) (by omega)
  · decide
def maskN (l : List Int) : Nat → Nat
  | 0 => 0
  | i + 1 => maskN l i ||| bitN (gi l i)
theorem maskN_lt (l : List Int) : ∀ i, maskN l i < 2 ^ 8
  | 0 => by show 0 < 2 ^ 8; decide
  | i + 1 => Nat.or_lt_two_pow (maskN_lt l i) (bitN_lt _)
theorem maskN_bit {l : List Int} {v : Nat} : ∀ i, (∀ j, j < i → 0 ≤ gi l j ∧ gi l j < 8) → ((maskN l i).testBit v = true ↔ ∃ j, j < i ∧ gi l j = (v : Int))
  | 0, _ => by simp [maskN]
  | i + 1, h => by
    have ih := maskN_bit (l := l) (v := v) i (fun j hj => h j (by omega))
    have hi := h i (by omega)
    simp only [maskN, Nat.testBit_or, Bool.or_eq_true, ih]
    have e : (bitN (gi l i)).testBit v = true ↔ gi l i = (v : Int) := by
      unfold bitN
      rw [if_pos hi, Nat.testBit_two_pow]
      simp only [decide_eq_true_eq]
      omega
    rw [e]
    constructor
    · rintro (⟨j, h1, h2⟩ | h1)
      · exact ⟨j, by omega, h2⟩
      · exact ⟨i, by omega, h1⟩
    · rintro ⟨j, h1, h2⟩
      by_cases hj : j = i
      · subst hj; exact .inr h2
      · exact .inl ⟨j, by omega, h2⟩
theorem mem_gi {l : List Int} {x : Int} : mem l x = true ↔ ∃ j, j < l.length ∧ gi l j = x := by
  unfold mem
  rw [decide_eq_true_eq, List.mem_iff_getElem?]
  constructor
  · rintro ⟨j, h⟩; exact ⟨j, lt_of_at h, gi_of h⟩
  · rintro ⟨j, h, e⟩; exact ⟨j, by rw [gi_at h, e]⟩
theorem isNode_iff {n : Net} {x : Int} : isNode n x = true ↔ 0 ≤ x ∧ x < n.nodes := by
  unfold isNode
  rw [within_iff]; omega
theorem ascB_node {n : Net} {l : List Int} (h : ascB n l = true) : ∀ j, j < l.length → 0 ≤ gi l j ∧ gi l j < n.nodes := fun j hj => by
  have := of_decide_eq_true h j hj
  unfold ascAt at this
  simp only [Bool.and_eq_true] at this
  exact isNode_iff.1 this.1
theorem mask_mem {n : Net} (hn : Net0 n) {l : List Int} (h : ascB n l = true) {v : Int} (hv : 0 ≤ v) : inS (maskN l l.length) v = mem l v := by
  have h8 := hn.n8
  unfold inS
  rw [Bool.eq_iff_iff, maskN_bit l.length (fun j hj => by have := ascB_node h j hj; omega), mem_gi, show ((v.toNat : Nat) : Int) = v by omega]
theorem mask_eq {n : Net} (hn : Net0 n) {l : List Int} (hf : l.length ≤ 1000) : ref02_mask n l = some (if ascB n l = true then (((maskN l l.length : Nat) : Int), mem l n.from_ && !mem l n.to_) else (0, false)) := by
  have h2 := hn.n2
  have h8 := hn.n8
  have hs := hn.s0
  have ht := hn.t0
  unfold ref02_mask
  have h := scan_loop0 l.length (ascAt n l) (fun i => ((maskN l i : Nat) : Int)) (fun k s i => ref02_mask_L1 n l k s i) (ref02_mask_k1 n (maskN l l.length : Nat)) (some ((0 : Int), false)) (fun k i hi => ?_) (fun k => ?_) (by omega)
  · refine Eq.trans h ?_
    by_cases hc : ∀ i, i < l.length → ascAt n l i = true
    · have ha : ascB n l = true := decide_eq_true hc
      have hm := maskN_lt l l.length
      have hm' : maskN l l.length < 256 := hm
      rw [if_pos hc, if_pos ha]
      unfold ref02_mask_k1
      rw [bnd_eq (isCut_eq hn (by omega))]
      unfold cutB
      rw [mask_mem hn ha hs.1, mask_mem hn ha ht.1]
    · have ha : ¬ ascB n l = true := fun h => hc (of_decide_eq_true h)
      rw [if_neg hc, if_neg ha]
  · show ref02_mask_B1 n l (ref02_mask_L1 n l k) _ _ = _
    have hm : maskN l i < 256 := maskN_lt l i
    unfold ref02_mask_B1 ascAt
    rw [if_pos (by omega), ix_nat (gi_at hi), gd_pos (by omega), bnd_eq (within_eq _ _ _)]
    have done : isNode n (gi l i) = true → ref02_mask_k2 l ((maskN l i : Nat) : Int) (i : Int) (ref02_mask_L1 n l k) false = ref02_mask_L1 n l k ((maskN l (i + 1) : Nat) : Int) ((i + 1 : Nat) : Int) := fun hnode => by
      have hx := isNode_iff.1 hnode
      have ⟨e1, e2⟩ := shl1 (x := gi l i) (by omega)
      have hp := pow8 (k := (gi l i).toNat) (by omega)
      have hp' : ((2 ^ (gi l i).toNat : Nat) : Int) ≤ 256 := Int.ofNat_le.2 hp
      have hp0 : 0 ≤ ((2 ^ (gi l i).toNat : Nat) : Int) := Int.natCast_nonneg _
      unfold ref02_mask_k2
      rw [if_neg (by simp), ix_nat (gi_at hi), gd_pos (by rw [e1, e2]; exact ⟨hx.1, by generalize ((2 ^ (gi l i).toNat : Nat) : Int) = q at *; omega⟩), e1, gd_pos (by generalize ((2 ^ (gi l i).toNat : Nat) : Int) = q at *; omega), gd_pos (by omega)]
      congr 1
      show ((((maskN l i : Nat) : Int).toNat ||| ((2 ^ (gi l i).toNat : Nat) : Int).toNat : Nat) : Int) = _
      rw [Int.toNat_natCast, Int.toNat_natCast]
      simp only [maskN, bitN]
      rw [if_pos (by omega)]
    have hw : within (gi l i) 0 (n.nodes - 1) = isNode n (gi l i) := rfl
    rw [hw]
    cases h1 : isNode n (gi l i)
    · rw [if_neg (by simp)]
      unfold ref02_mask_k2
      rw [if_pos rfl, if_neg (by simp)]
    · rw [if_pos rfl]
      by_cases h0 : i = 0
      · rw [if_neg (by omega), done h1, if_pos (by simp [h0])]
      · have h3 : l[i - 1]? = some (gi l (i - 1)) := gi_at (by omega)
        rw [if_pos (by omega), ix_nat (gi_at hi), gd_pos (by omega), show (i : Int) - 1 = ((i - 1 : Nat) : Int) by omega, ix_nat h3]
        by_cases h4 : gi l i ≤ gi l (i - 1)
        · rw [decide_eq_true h4, if_neg (by simp; omega)]; rfl
        · rw [decide_eq_false h4, done h1, if_pos (by simp; omega)]
  · show ref02_mask_B1 n l (ref02_mask_L1 n l k) _ _ = _
    unfold ref02_mask_B1
    rw [if_neg (by omega)]
theorem rAcross_eq {n : Net} (hl : n.drains.length ≤ 1000) {l : List Int} (hf : l.length ≤ 1000) : ref02_Across n l = some (acrossR n l) := by
  unfold ref02_Across acrossR
  rw [bnd_eq (rValidate_eq hl)]
  by_cases hv : validate n = 0
  · have hn := val0.1 hv
    rw [if_pos hv, if_pos hv, bnd_eq (mask_eq hn.toNet0 hf)]
    by_cases ha : ascB n l = true
    · have hm : maskN l l.length < 256 := maskN_lt l l.length
      rw [if_pos ha]
      by_cases hc : mem l n.from_ = true ∧ mem l n.to_ = false
      · rw [if_pos (by rw [hc.1, hc.2]; rfl), bnd_eq (width_eq hn.toNet0 (by omega)), if_pos ⟨ha, hc⟩]
        have e : cutD (inS (maskN l l.length)) n.drains = cutD (mem l) n.drains := cutD_congr _ fun d hd => by
          have := hn.dr d hd
          exact ⟨mask_mem hn.toNet0 ha this.1.1, mask_mem hn.toNet0 ha this.2.1.1⟩
        rw [e]
      · rw [if_neg (by intro h; simp only [Bool.and_eq_true, Bool.not_eq_true'] at h; exact hc h), if_neg (fun h => hc h.2)]
    · rw [if_neg ha, if_neg (by simp), if_neg (fun h => ha h.1)]
  · rw [if_neg hv, if_neg hv]
def nodesOf (n : Nat) (p : Int → Bool) : List Int := ((List.range n).map (fun (i : Nat) => (i : Int))).filter p
theorem nodesOf_len (n : Nat) (p : Int → Bool) : (nodesOf n p).length ≤ n := by
  unfold nodesOf
  refine Nat.le_trans (List.length_filter_le _ _) ?_
  simp
theorem nodesOf_succ (n : Nat) (p : Int → Bool) : nodesOf (n + 1) p = nodesOf n p ++ (if p (n : Int) = true then [(n : Int)] else []) := by
  unfold nodesOf
  rw [List.range_succ, List.map_append, List.filter_append]
  congr 1
  by_cases h : p (n : Int) = true
  · rw [if_pos h]; simp [h]
  · rw [if_neg h]; simp [h]
theorem nodes_eq {n : Net} (hn : Net0 n) {f : Int → Option Bool} {p : Int → Bool} (hf : ∀ v : Int, 0 ≤ v → v < n.nodes → f v = some (p v)) : drain_nodes n f = some (nodesOf n.nodes.toNat p) := by
  have h2 := hn.n2
  have h8 := hn.n8
  unfold drain_nodes
  refine for0 n.nodes.toNat (fun i => nodesOf i p) (fun k s i => drain_nodes_L1 n f k i s) _ rfl (fun k i hi => ?_) (fun k => ?_) (by omega)
  · have hl := nodesOf_len i p
    show drain_nodes_B1 n f (drain_nodes_L1 n f k) _ _ = _
    unfold drain_nodes_B1 drain_nodes_k2
    rw [if_pos (by omega), bnd_eq (hf _ (by omega) (by omega)), nodesOf_succ]
    by_cases h : p (i : Int) = true
    · rw [if_pos h, if_pos h, gd_pos (by simp; omega), gd_pos (by omega)]; rfl
    · rw [if_neg h, if_neg h, gd_pos (by omega), List.append_nil]; rfl
  · show drain_nodes_B1 n f (drain_nodes_L1 n f k) _ _ = _
    unfold drain_nodes_B1
    rw [if_neg (by omega)]; rfl
theorem list_eq {m : Nat} (hm : m < 9223372036854775808) {n : Net} (hn : Net0 n) : ref02_list (m : Int) n.nodes = some (nodesOf n.nodes.toNat (inS m)) := by
  have h2 := hn.n2
  have h8 := hn.n8
  unfold ref02_list
  refine for0 n.nodes.toNat (fun i => nodesOf i (inS m)) (fun k s i => ref02_list_L1 m n.nodes k i s) _ rfl (fun k i hi => ?_) (fun k => ?_) (by omega)
  · have hl := nodesOf_len i (inS m)
    show ref02_list_B1 m n.nodes (ref02_list_L1 m n.nodes k) _ _ = _
    unfold ref02_list_B1 ref02_list_k2
    rw [if_pos (by omega), bnd_eq (in_eq hm (by omega)), nodesOf_succ]
    by_cases h : inS m (i : Int) = true
    · rw [if_pos h, if_pos h, gd_pos (by simp; omega), gd_pos (by omega)]; rfl
    · rw [if_neg h, if_neg h, gd_pos (by omega), List.append_nil]; rfl
  · show ref02_list_B1 m n.nodes (ref02_list_L1 m n.nodes k) _ _ = _
    unfold ref02_list_B1
    rw [if_neg (by omega)]; rfl
def narrow (n : Net) (i : Nat) : Bool := cutB n i && decide (cutD (inS i) n.drains = mostN n)
def andN (n : Net) : Nat → Nat
  | 0 => 2 ^ n.nodes.toNat - 1
  | i + 1 => if narrow n i = true then andN n i &&& i else andN n i
def orN (n : Net) : Nat → Nat
  | 0 => 0
  | i + 1 => if narrow n i = true then orN n i ||| i else orN n i
theorem andN_lt {n : Net} (hn : Net0 n) : ∀ i, andN n i < 256
  | 0 => by have := pow_bnd hn; have : 0 < 2 ^ n.nodes.toNat := Nat.pow_pos (by decide); simp only [andN]; omega
  | i + 1 => by
    have ih := andN_lt hn i
    simp only [andN]
    split
    · exact Nat.lt_of_le_of_lt Nat.and_le_left ih
    · exact ih
theorem orN_lt {n : Net} : ∀ i, i ≤ 256 → orN n i < 2 ^ 8
  | 0, _ => by show 0 < 2 ^ 8; decide
  | i + 1, h => by
    have ih := orN_lt (n := n) i (by omega)
    simp only [orN]
    split
    · exact Nat.or_lt_two_pow ih (by omega)
    · exact ih
theorem andN_bit {n : Net} {v : Nat} (hv : v < n.nodes.toNat) : ∀ i, (andN n i).testBit v = true ↔ ∀ j, j < i → narrow n j = true → j.testBit v = true
  | 0 => by simp [andN, Nat.testBit_two_pow_sub_one, hv]
  | i + 1 => by
    have ih := andN_bit (n := n) hv i
    simp only [andN]
    by_cases h : narrow n i = true
    · rw [if_pos h, Nat.testBit_and, Bool.and_eq_true, ih]
      constructor
      · rintro ⟨h1, h2⟩ j hj hn
        by_cases hji : j = i
        · subst hji; exact h2
        · exact h1 j (by omega) hn
      · intro h1
        exact ⟨fun j hj => h1 j (by omega), h1 i (by omega) h⟩
    · rw [if_neg h, ih]
      constructor
      · intro h1 j hj hn
        by_cases hji : j = i
        · subst hji; exact absurd hn h
        · exact h1 j (by omega) hn
      · intro h1 j hj; exact h1 j (by omega)
theorem orN_bit {n : Net} {v : Nat} : ∀ i, (orN n i).testBit v = true ↔ ∃ j, j < i ∧ narrow n j = true ∧ j.testBit v = true
  | 0 => by simp [orN]
  | i + 1 => by
    have ih := orN_bit (n := n) (v := v) i
    simp only [orN]
    by_cases h : narrow n i = true
    · rw [if_pos h, Nat.testBit_or, Bool.or_eq_true, ih]
      constructor
      · rintro (⟨j, h1, h2⟩ | h1)
        · exact ⟨j, by omega, h2⟩
        · exact ⟨i, by omega, h, h1⟩
      · rintro ⟨j, h1, h2, h3⟩
        by_cases hji : j = i
        · subst hji; exact .inr h3
        · exact .inl ⟨j, by omega, h2, h3⟩
    · rw [if_neg h, ih]
      constructor
      · rintro ⟨j, h1, h2⟩; exact ⟨j, by omega, h2⟩
      · rintro ⟨j, h1, h2, h3⟩
        by_cases hji : j = i
        · subst hji; exact absurd h2 h
        · exact ⟨j, by omega, h2, h3⟩
theorem shl_guard {n : Net} (hn : Net0 n) : 0 ≤ IntKind.u64.wrap n.nodes ∧ InR (shlI ((1 : Int)) (IntKind.u64.wrap n.nodes)) := by
  have hp := pow_bnd hn
  have ⟨hsh, hw⟩ := shl_eq hn
  have h2 := hn.n2
  exact ⟨by rw [hw]; omega, by rw [hsh]; exact Int.le_trans (by decide) (Int.natCast_nonneg _), by rw [hsh]; exact Int.le_trans (Int.ofNat_le.2 hp) (by decide)⟩
def least (n : Net) : List Int := nodesOf n.nodes.toNat (inS (andN n (2 ^ n.nodes.toNat)))
def greatest (n : Net) : List Int := nodesOf n.nodes.toNat (inS (orN n (2 ^ n.nodes.toNat)))
theorem rLeast_eq {n : Net} (hn : NetOk n) : ref02_Least n = some (least n, 0) := by
  have hp := pow_bnd hn.toNet0
  have ⟨hsh, hw⟩ := shl_eq hn.toNet0
  have h2 := hn.n2
  have hl := hn.len
  have hg := shl_guard hn.toNet0
  have hp1 : 0 < 2 ^ n.nodes.toNat := Nat.pow_pos (by decide)
  unfold ref02_Least
  rw [bnd_eq (rValidate_eq (by omega)), if_pos (val0.2 hn), gd_pos hg, hsh, gd_pos (by omega), bnd_eq (rmost_eq hn.toNet0)]
  refine for0 (2 ^ n.nodes.toNat) (fun i => ((andN n i : Nat) : Int)) (fun k s i => ref02_Least_L1 n (mostN n) k s i) _ (by simp only [andN]; omega) (fun k i hi => ?_) (fun k => ?_) (by omega)
  · have ha := andN_lt hn.toNet0 i
    show ref02_Least_B1 n (mostN n) (ref02_Least_L1 n (mostN n) k) _ _ = _
    unfold ref02_Least_B1
    rw [gd_pos hg, hsh, if_pos (by omega), bnd_eq (isCut_eq hn.toNet0 (by omega))]
    have e : andN n (i + 1) = if narrow n i = true then andN n i &&& i else andN n i := rfl
    rw [e]
    unfold ref02_Least_k3 ref02_Least_k2 narrow
    by_cases hc : cutB n i = true
    · rw [if_pos hc, bnd_eq (width_eq hn.toNet0 (by omega)), hc, Bool.true_and]
      by_cases hm : cutD (inS i) n.drains = mostN n
      · rw [decide_eq_true hm, if_pos rfl, if_pos rfl, gd_pos (by omega), gd_pos (by omega)]; rfl
      · rw [decide_eq_false hm, if_neg (by simp), if_neg (by simp), gd_pos (by omega)]; rfl
    · rw [if_neg hc, if_neg (by simp), if_neg (by simp [hc]), gd_pos (by omega)]; rfl
  · have ha := andN_lt hn.toNet0 (2 ^ n.nodes.toNat)
    show ref02_Least_B1 n (mostN n) (ref02_Least_L1 n (mostN n) k) _ _ = _
    unfold ref02_Least_B1
    rw [gd_pos hg, hsh, if_neg (by omega)]
    unfold ref02_Least_k1
    rw [bnd_eq (list_eq (by omega) hn.toNet0)]; rfl
theorem rGreatest_eq {n : Net} (hn : NetOk n) : ref02_Greatest n = some (greatest n, 0) := by
  have hp := pow_bnd hn.toNet0
  have ⟨hsh, hw⟩ := shl_eq hn.toNet0
  have h2 := hn.n2
  have hl := hn.len
  have hg := shl_guard hn.toNet0
  have hp1 : 0 < 2 ^ n.nodes.toNat := Nat.pow_pos (by decide)
  unfold ref02_Greatest
  rw [bnd_eq (rValidate_eq (by omega)), if_pos (val0.2 hn), bnd_eq (rmost_eq hn.toNet0)]
  refine for0 (2 ^ n.nodes.toNat) (fun i => ((orN n i : Nat) : Int)) (fun k s i => ref02_Greatest_L1 n (mostN n) k s i) _ rfl (fun k i hi => ?_) (fun k => ?_) (by omega)
  · have ha : orN n i < 256 := orN_lt (n := n) i (by omega)
    show ref02_Greatest_B1 n (mostN n) (ref02_Greatest_L1 n (mostN n) k) _ _ = _
    unfold ref02_Greatest_B1
    rw [gd_pos hg, hsh, if_pos (by omega), bnd_eq (isCut_eq hn.toNet0 (by omega))]
    have e : orN n (i + 1) = if narrow n i = true then orN n i ||| i else orN n i := rfl
    rw [e]
    unfold ref02_Greatest_k3 ref02_Greatest_k2 narrow
    by_cases hc : cutB n i = true
    · rw [if_pos hc, bnd_eq (width_eq hn.toNet0 (by omega)), hc, Bool.true_and]
      by_cases hm : cutD (inS i) n.drains = mostN n
      · rw [decide_eq_true hm, if_pos rfl, if_pos rfl, gd_pos (by omega), gd_pos (by omega)]; rfl
      · rw [decide_eq_false hm, if_neg (by simp), if_neg (by simp), gd_pos (by omega)]; rfl
    · rw [if_neg hc, if_neg (by simp), if_neg (by simp [hc]), gd_pos (by omega)]; rfl
  · have ha : orN n (2 ^ n.nodes.toNat) < 256 := orN_lt (n := n) _ hp
    show ref02_Greatest_B1 n (mostN n) (ref02_Greatest_L1 n (mostN n) k) _ _ = _
    unfold ref02_Greatest_B1
    rw [gd_pos hg, hsh, if_neg (by omega)]
    unfold ref02_Greatest_k1
    rw [bnd_eq (list_eq (by omega) hn.toNet0)]; rfl
theorem sp_reach {E : List Ed} : ∀ (ks : List Nat) (vis : List Int) (u v : Int), SP E vis u ks v → Reach E u v
  | [], vis, u, v, h => by have h : u = v := h; subst h; exact .here
  | i :: r, vis, u, v, h => by
    obtain ⟨e, he, hu, hp, hn, hr⟩ := h
    exact reach_other (List.mem_of_getElem? he) hu hp (sp_reach r _ _ _ hr)
/-- A cut is narrowest exactly if nothing more can leave it. -/
theorem closed_iff {n : Net} (hn : Net0 n) {l : List Left} (h : Maxed n l) {S : Int → Bool} (h1 : S n.from_ = true) (h2 : S n.to_ = false) : cutD S n.drains = mostN n ↔ Closed S (Eds l) := by
  have hs : 0 ≤ n.from_ ∧ n.from_ < ((n.nodes.toNat : Nat) : Int) := by have := hn.s0; omega
  rw [closed_tight h.1.flow.cap, ← tight_iff h.1.flow hs h1 h2, maxed_val hn h, cutW_eds, h.1.drains]
  exact ⟨fun e => e.symm, fun e => e.symm⟩
theorem closed_num {n : Net} (hn : Net0 n) {l : List Left} (h : Maxed n l) {S : Int → Bool} (h1 : S n.from_ = true) (h2 : S n.to_ = false) (hc : Closed S (Eds l)) : ∃ j, j < 2 ^ n.nodes.toNat ∧ narrow n j = true ∧ ∀ v : Int, 0 ≤ v → v < n.nodes → inS j v = S v := by
  obtain ⟨j, j1, j2, j3⟩ := cut_num hn S
  refine ⟨j, j1, ?_, j2⟩
  unfold narrow cutB
  rw [j2 _ hn.s0.1 hn.s0.2, j2 _ hn.t0.1 hn.t0.2, h1, h2, decide_eq_true (j3.trans ((closed_iff hn h h1 h2).2 hc))]; rfl
theorem narrow_cl {n : Net} (hn : Net0 n) {l : List Left} (h : Maxed n l) {j : Nat} (hj : narrow n j = true) : inS j n.from_ = true ∧ inS j n.to_ = false ∧ Closed (inS j) (Eds l) := by
  unfold narrow cutB at hj
  simp only [Bool.and_eq_true, Bool.not_eq_true', decide_eq_true_eq] at hj
  exact ⟨hj.1.1, hj.1.2, (closed_iff hn h hj.1.1 hj.1.2).1 hj.2⟩
/-- Where the program's search gets to. -/
theorem least_at {n : Net} (hn : Net0 n) {l : List Left} (h : Maxed n l) {v : Int} (hv : 0 ≤ v ∧ v < n.nodes) : drain_Least_1 n l v = some (inS (andN n (2 ^ n.nodes.toNat)) v) := by
  have h2 := hn.n2
  unfold drain_Least_1
  have key : inS (andN n (2 ^ n.nodes.toNat)) v = true ↔ Reach (Eds l) n.from_ v := by
    unfold inS
    rw [andN_bit (by omega)]
    constructor
    · intro hall
      have h' := h
      obtain ⟨_, S, s1, s2, s3, s4⟩ := h'
      obtain ⟨j, j1, j2, j3⟩ := closed_num hn h s1 s2 s3
      have := hall j j1 j2
      exact s4 v (by rw [← j3 v hv.1 hv.2]; exact this)
    · intro hr j _ hj
      obtain ⟨c1, c2, c3⟩ := narrow_cl hn h hj
      exact hr.sub c3 c1
  by_cases e : v = n.from_
  · rw [if_pos e, key.2 (by rw [e]; exact .here)]
  · rw [if_neg e]
    rcases search_eq hn h.1 (s := n.from_) (t := v) hn.s0 (fun x => e x.symm) with ⟨ks, k1, _, k3, k4⟩ | ⟨k1, S, s1, s2, s3, s4⟩
    · rw [bnd_eq k3, key.2 (sp_reach _ _ _ _ k4), decide_eq_false (by unfold ints; simpa using k1)]; rfl
    · rw [bnd_eq k1]
      have : ¬ inS (andN n (2 ^ n.nodes.toNat)) v = true := fun hc => by
        have := (key.1 hc).sub s3 s1
        rw [s2] at this; cases this
      rw [decide_eq_true rfl]
      cases hq : inS (andN n (2 ^ n.nodes.toNat)) v
      · rfl
      · exact absurd hq this
open Classical in
theorem greatest_cl {n : Net} (hn : Net0 n) {l : List Left} (h : Maxed n l) : ∃ S : Int → Bool, S n.from_ = true ∧ S n.to_ = false ∧ Closed S (Eds l) ∧ ∀ v, S v = true ↔ ¬ Coreach (Eds l) n.to_ v := by
  refine ⟨fun v => decide (¬ Coreach (Eds l) n.to_ v), ?_, ?_, fun e he => ⟨fun h1 h2 => ?_, fun h1 h2 => ?_⟩, fun v => by simp⟩
  · obtain ⟨_, S, s1, s2, s3, s4⟩ := h
    simp only [decide_eq_true_eq]
    intro hc
    have := hc.reach.sub s3 s1
    rw [s2] at this; cases this
  · simp only [decide_eq_false_iff_not, Decidable.not_not]
    exact .here
  · simp only [decide_eq_true_eq] at h1 ⊢
    exact fun hc => h1 (.on he hc h2)
  · simp only [decide_eq_true_eq] at h1 ⊢
    exact fun hc => h1 (.back he hc h2)
theorem greatest_at {n : Net} (hn : Net0 n) {l : List Left} (h : Maxed n l) {v : Int} (hv : 0 ≤ v ∧ v < n.nodes) : drain_Greatest_1 n l v = some (inS (orN n (2 ^ n.nodes.toNat)) v) := by
  have h2 := hn.n2
  unfold drain_Greatest_1
  have key : inS (orN n (2 ^ n.nodes.toNat)) v = true ↔ ¬ Coreach (Eds l) n.to_ v := by
    unfold inS
    rw [orN_bit]
    constructor
    · rintro ⟨j, _, hj, hb⟩ hr
      obtain ⟨c1, c2, c3⟩ := narrow_cl hn h hj
      have : inS j v = false := hr.sub c3 c2
      unfold inS at this
      rw [hb] at this; cases this
    · intro hr
      obtain ⟨S, s1, s2, s3, s4⟩ := greatest_cl hn h
      obtain ⟨j, j1, j2, j3⟩ := closed_num hn h s1 s2 s3
      exact ⟨j, j1, j2, (j3 v hv.1 hv.2).trans ((s4 v).2 hr)⟩
  by_cases e : v = n.to_
  · rw [if_pos e]
    cases hq : inS (orN n (2 ^ n.nodes.toNat)) v
    · rfl
    · exact absurd (by rw [e]; exact Coreach.here) (key.1 hq)
  · rw [if_neg e]
    rcases search_eq hn h.1 (s := v) (t := n.to_) hv e with ⟨ks, k1, _, k3, k4⟩ | ⟨k1, S, s1, s2, s3, s4⟩
    · rw [bnd_eq k3]
      have : ¬ inS (orN n (2 ^ n.nodes.toNat)) v = true := fun hc => key.1 hc (sp_reach _ _ _ _ k4).co
      rw [decide_eq_false (by unfold ints; simpa using k1)]
      cases hq : inS (orN n (2 ^ n.nodes.toNat)) v
      · rfl
      · exact absurd hq this
    · rw [bnd_eq k1, decide_eq_true rfl, key.2 (fun hc => by
        have := hc.reach.sub s3 s1
        rw [s2] at this; cases this)]
theorem Least_eq {n : Net} (hl : n.drains.length ≤ 1000) : drain_Least n = some (if validate n = 0 then (least n, 0) else ([], validate n)) := by
  unfold drain_Least
  rw [bnd_eq (Validate_eq hl)]
  by_cases hv : validate n = 0
  · have hn := val0.1 hv
    obtain ⟨l, l1, l2⟩ := run_eq hn.toNet0
    rw [if_pos hv, if_pos hv, bnd_eq l1, bnd_eq (nodes_eq hn.toNet0 (fun v v0 v1 => least_at hn.toNet0 l2 ⟨v0, v1⟩))]; rfl
  · rw [if_neg hv, if_neg hv]
theorem Greatest_eq {n : Net} (hl : n.drains.length ≤ 1000) : drain_Greatest n = some (if validate n = 0 then (greatest n, 0) else ([], validate n)) := by
  unfold drain_Greatest
  rw [bnd_eq (Validate_eq hl)]
  by_cases hv : validate n = 0
  · have hn := val0.1 hv
    obtain ⟨l, l1, l2⟩ := run_eq hn.toNet0
    rw [if_pos hv, if_pos hv, bnd_eq l1, bnd_eq (nodes_eq hn.toNet0 (fun v v0 v1 => greatest_at hn.toNet0 l2 ⟨v0, v1⟩))]; rfl
  · rw [if_neg hv, if_neg hv]
theorem SameInts_self {l : List Int} (hl : l.length ≤ 1000000) : ref01_SameInts l l = some true := by
  unfold ref01_SameInts
  rw [if_pos rfl, list_loop0 l (fun _ => true) (ref01_SameInts_L1 l l) (some true) (some false) (fun k i x hx => ?_) (fun k => ?_) (by omega)]
  · rw [if_pos (by simp)]
  · have := lt_of_at hx
    show ref01_SameInts_B1 l l (ref01_SameInts_L1 l l k) _ = _
    unfold ref01_SameInts_B1
    rw [if_pos (by omega), ix_nat hx, ix_nat hx, if_pos rfl, gd_pos (by omega), if_pos rfl]; rfl
  · show ref01_SameInts_B1 l l (ref01_SameInts_L1 l l k) _ = _
    unfold ref01_SameInts_B1
    rw [if_neg (by omega)]; rfl
theorem law_DrainCuts (n : Net) (l : List Int) (hb : n.drains.length ≤ 9223372036854775807) : law02_DrainCuts n l = some true := by
  unfold law02_DrainCuts
  rw [bnd_eq (Long_eq n)]
  unfold law02_DrainCuts_k1
  by_cases hL : (100 : Int) < (n.drains.length : Int)
  · rw [if_pos (by simpa using hL), if_pos rfl, bnd_eq known_eq]
  · have hl : n.drains.length ≤ 1000 := by omega
    rw [if_neg (by simpa using hL)]
    by_cases hs : (100 : Int) < (l.length : Int)
    · rw [if_pos (by simpa using hs), bnd_eq known_eq]
    · have hsl : l.length ≤ 1000 := by omega
      rw [if_neg (by simpa using hs), bnd_eq (Across_eq hl hsl), bnd_eq (rAcross_eq hl hsl), bnd_eq (Least_eq hl)]
      by_cases hv : validate n = 0
      · have hn := val0.1 hv
        have h8 := hn.n8
        have n1 := nodesOf_len n.nodes.toNat (inS (andN n (2 ^ n.nodes.toNat)))
        have n2 := nodesOf_len n.nodes.toNat (inS (orN n (2 ^ n.nodes.toNat)))
        rw [bnd_eq (rLeast_eq hn), bnd_eq (Greatest_eq hl), bnd_eq (rGreatest_eq hn), if_pos rfl, if_pos rfl, if_pos hv, if_pos hv]
        rw [bnd_eq (SameInts_self (l := least n) (by unfold least; omega)), if_pos rfl, if_pos rfl, bnd_eq (SameInts_self (l := greatest n) (by unfold greatest; omega)), if_pos rfl, if_pos rfl, bnd_eq known_eq]
      · have r1 : ref02_Least n = some ([], validate n) := by
          unfold ref02_Least
          rw [bnd_eq (rValidate_eq hl), if_neg hv]
        have r2 : ref02_Greatest n = some ([], validate n) := by
          unfold ref02_Greatest
          rw [bnd_eq (rValidate_eq hl), if_neg hv]
        rw [bnd_eq r1, bnd_eq (Greatest_eq hl), bnd_eq r2, if_pos rfl, if_pos rfl, if_neg hv, if_neg hv, bnd_eq (SameInts_self (by simp)), if_pos rfl, if_pos rfl, bnd_eq (SameInts_self (by simp)), if_pos rfl, if_pos rfl, bnd_eq known_eq]
end Go.D2
