/- Lemmas and walks that the proof of this claim uses: D2p4, D2p5, D2p7, D2pC, D2pD, D2pE, D2pF, D2pG. -/
import Derived.Test.YtmpmomboclhjoaaDrainBack3
set_option linter.unusedVariables false
set_option linter.unusedSimpArgs false
namespace Go.D2
open Go.Tb
def gi (l : List Int) (i : Nat) : Int := l.getD i 0
theorem gi_at {l : List Int} {i : Nat} (h : i < l.length) : l[i]? = some (gi l i) := by simp [gi, List.getD, h]
theorem gi_of {l : List Int} {i : Nat} {x : Int} (h : l[i]? = some x) : gi l i = x := by simp [gi, List.getD, h]
def gd_ (l : List Drain) (i : Nat) : Drain := l.getD i ⟨0, 0, 0⟩
theorem gd_at {l : List Drain} {i : Nat} (h : i < l.length) : l[i]? = some (gd_ l i) := by simp [gd_, List.getD, h]
def capsB (n : Net) (fl : List Int) : Bool := decide (∀ i, i < fl.length → within (gi fl i) 0 (gd_ n.drains i).width = true)
def conB (n : Net) (fl : List Int) : Bool := decide (∀ v, v < n.nodes.toNat → (decide ((v : Int) = n.from_) || decide ((v : Int) = n.to_) || decide (out (En n fl) v = 0)) = true)
def checkR (n : Net) (fl : List Int) : Int × Int :=
  if validate n = 0 then (if fl.length = n.drains.length then (if capsB n fl = true then (if conB n fl = true then (out (En n fl) n.from_, 0) else (0, 7)) else (0, 6)) else (0, 1)) else (0, validate n)
theorem caps_fbnd {n : Net} (hn : NetOk n) {fl : List Int} (hl : fl.length = n.drains.length) (h : capsB n fl = true) : ∀ x ∈ fl, 0 ≤ x ∧ x ≤ 20 := fun x hx => by
  obtain ⟨i, hi⟩ := List.getElem?_of_mem hx
  have hlt := lt_at hi
  have := within_iff.1 (of_decide_eq_true h i hlt)
  rw [gi_of hi] at this
  have hd := hn.w20 _ (List.mem_of_getElem? (gd_at (l := n.drains) (i := i) (by omega)))
  omega
theorem con_loop {R : Type} {n : Net} (hn : Net0 n) (fl : List Int) (L : Nat → Int → Option R) (yes no : Option R)
    (step : ∀ k v : Nat, v < n.nodes.toNat → L (k + 1) (v : Int) = if (decide ((v : Int) = n.from_) || decide ((v : Int) = n.to_) || decide (out (En n fl) v = 0)) = true then L k ((v + 1 : Nat) : Int) else no)
    (stop : ∀ k : Nat, L (k + 1) (n.nodes.toNat : Int) = yes) : L FU 0 = if conB n fl = true then yes else no := by
  have h8 := hn.n8
  have h := scan_loop0 n.nodes.toNat (fun v => (decide ((v : Int) = n.from_) || decide ((v : Int) = n.to_) || decide (out (En n fl) v = 0))) (fun _ => ()) (fun k _ i => L k i) yes no step stop (by omega)
  refine Eq.trans h ?_
  unfold conB
  by_cases hc : ∀ v, v < n.nodes.toNat → (decide ((v : Int) = n.from_) || decide ((v : Int) = n.to_) || decide (out (En n fl) v = 0)) = true
  · rw [if_pos hc, decide_eq_true hc, if_pos rfl]
  · rw [if_neg hc, decide_eq_false hc, if_neg (by simp)]
theorem CheckFlow_eq {n : Net} (hl : n.drains.length ≤ 1000) {fl : List Int} (hf : fl.length ≤ 1000) : drain_CheckFlow n fl = some (checkR n fl) := by
  unfold drain_CheckFlow checkR
  rw [bnd_eq (Validate_eq hl)]
  by_cases hv : validate n = 0
  · have hn := val0.1 hv
    have h8 := hn.n8
    have h2 := hn.n2
    rw [if_pos hv, if_pos hv]
    by_cases hln : fl.length = n.drains.length
    · rw [if_pos (by omega), if_pos hln]
      have h := scan_loop0 fl.length (fun i => within (gi fl i) 0 (gd_ n.drains i).width) (fun _ => ()) (fun k _ i => drain_CheckFlow_L2 n fl k i) (drain_CheckFlow_k3 n fl) (some ((0 : Int), (6 : Int))) (fun k i hi => ?_) (fun k => ?_) (by omega)
      · refine Eq.trans h ?_
        unfold capsB
        by_cases hc : ∀ i, i < fl.length → within (gi fl i) 0 (gd_ n.drains i).width = true
        · have hcb : capsB n fl = true := decide_eq_true hc
          have hfb := caps_fbnd hn hln hcb
          have hfb' : FBnd fl := fun x hx => by have := hfb x hx; omega
          rw [if_pos hc, decide_eq_true hc, if_pos rfl]
          unfold drain_CheckFlow_k3
          rw [con_loop hn.toNet0 fl (drain_CheckFlow_L1 n fl) (some (out (En n fl) n.from_, 0)) (some ((0 : Int), (7 : Int))) (fun k v hv => ?_) (fun k => ?_)]
          · split <;> rfl
          · show drain_CheckFlow_B1 n fl (drain_CheckFlow_L1 n fl k) _ = _
            unfold drain_CheckFlow_B1 drain_CheckFlow_k2
            rw [if_pos (by omega)]
            by_cases h1 : (v : Int) = n.from_
            · rw [if_pos h1, if_neg (by simp), gd_pos (by omega), if_pos (by simp [h1])]; rfl
            · rw [if_neg h1]
              by_cases h3 : (v : Int) = n.to_
              · rw [if_pos h3, if_neg (by simp), gd_pos (by omega), if_pos (by simp [h3])]; rfl
              · rw [if_neg h3, bnd_eq (value_eq hln hl hfb' _)]
                by_cases h4 : out (En n fl) v = 0
                · rw [if_neg (by simp [h4]), gd_pos (by omega), if_pos (by simp [h4])]; rfl
                · rw [if_pos (by simp [h4]), if_neg (by simp [h1, h3, h4])]
          · show drain_CheckFlow_B1 n fl (drain_CheckFlow_L1 n fl k) _ = _
            unfold drain_CheckFlow_B1
            rw [if_neg (by omega)]
            unfold drain_CheckFlow_k1
            rw [bnd_eq (value_eq hln hl hfb' _)]
        · rw [if_neg hc, decide_eq_false hc, if_neg (by simp)]
      · show drain_CheckFlow_B2 n fl (drain_CheckFlow_L2 n fl k) _ = _
        unfold drain_CheckFlow_B2
        rw [if_pos (by omega), ix_nat (gi_at hi), ix_nat (gd_at (by omega)), bnd_eq (from_eq _ _ _)]
        by_cases hw : within (gi fl i) 0 (gd_ n.drains i).width = true
        · rw [if_pos hw, gd_pos (by omega), if_pos hw]; rfl
        · rw [if_neg hw, if_neg hw]
      · show drain_CheckFlow_B2 n fl (drain_CheckFlow_L2 n fl k) _ = _
        unfold drain_CheckFlow_B2
        rw [if_neg (by omega)]
    · rw [if_neg (by omega), if_neg hln]
  · rw [if_neg hv, if_neg hv]
theorem maxed_check {n : Net} (hn : NetOk n) {l : List Left} (h : Maxed n l) : checkR n (l.map Left.runs) = (mostN n, 0) := by
  have hll := maxed_len h
  have hE := flowL_en h.1.drains
  have hc : capsB n (l.map Left.runs) = true := decide_eq_true fun i hi => by
    have hi' : i < l.length := by simpa using hi
    have hx : l[i]? = some l[i] := by simp [hi']
    have h1 : (l.map Left.runs)[i]? = some l[i].runs := by rw [List.getElem?_map, hx]; rfl
    have h2 : n.drains[i]? = some l[i].drain := by rw [← h.1.drains, List.getElem?_map, hx]; rfl
    have h3 : gd_ n.drains i = l[i].drain := by simp [gd_, List.getD, h2]
    rw [gi_of h1, h3]
    have := h.1.caps l[i] (List.getElem_mem _)
    exact within_iff.2 ⟨this.1, this.2.1⟩
  have hcon : conB n (l.map Left.runs) = true := decide_eq_true fun v hv => by
    simp only [Bool.or_eq_true, decide_eq_true_eq]
    by_cases h1 : (v : Int) = n.from_
    · exact .inl (.inl h1)
    · by_cases h2 : (v : Int) = n.to_
      · exact .inl (.inr h2)
      · right
        rw [← hE]
        exact h.1.flow.con v (by omega) (by omega) h1 h2
  unfold checkR
  rw [if_pos (val0.2 hn), if_pos (by simpa using hll), if_pos hc, if_pos hcon, ← hE, maxed_val hn.toNet0 h]
/-- What Flow returns. -/
theorem Flow_eq {n : Net} (hl : n.drains.length ≤ 1000) : (NetOk n ∧ ∃ l, Maxed n l ∧ drain_run n = some l ∧ drain_Flow n = some (l.map Left.runs, 0)) ∨ (validate n ≠ 0 ∧ drain_Flow n = some ([], validate n)) := by
  unfold drain_Flow
  rw [bnd_eq (Validate_eq hl)]
  by_cases hv : validate n = 0
  · have hn := val0.1 hv
    obtain ⟨l, l1, l2⟩ := run_eq hn.toNet0
    have := maxed_len l2
    refine .inl ⟨hn, l, l2, l1, ?_⟩
    rw [if_pos hv, bnd_eq l1, bnd_eq (flowOf_eq (by omega))]
  · exact .inr ⟨hv, by rw [if_neg hv]⟩
theorem Long_eq (n : Net) : law02_Long n = some (decide ((100 : Int) < (n.drains.length : Int))) := rfl
end Go.D2

set_option linter.unusedVariables false
set_option linter.unusedSimpArgs false
namespace Go.D2
open Go.Tb
theorem index_eq {l : List Int} (x : Int) (hl : l.length ≤ 1000) : ∀ (suf pre : List Int) (k : Nat), l = pre ++ suf → suf.length < k → ∃ i : Int, slices_Index_int_L1 l x k (pre.length : Int) = some i ∧ (0 ≤ i ↔ x ∈ suf)
  | [], pre, k + 1, h, hk => by
    refine ⟨-1, ?_, by simp⟩
    show slices_Index_int_B1 l x (slices_Index_int_L1 l x k) _ = _
    unfold slices_Index_int_B1
    rw [if_neg (by rw [h]; simp)]; rfl
  | y :: r, pre, k + 1, h, hk => by
    have hy : l[pre.length]? = some y := by rw [h, List.getElem?_append_right (Nat.le_refl _)]; simp
    have := lt_of_at hy
    obtain ⟨i, h1, h2⟩ := index_eq x hl r (pre ++ [y]) k (by rw [h]; simp) (by simp at hk; omega)
    have e : slices_Index_int_L1 l x (k + 1) (pre.length : Int) = slices_Index_int_B1 l x (slices_Index_int_L1 l x k) (pre.length : Int) := rfl
    rw [e]
    unfold slices_Index_int_B1
    rw [if_pos (by omega), ix_nat hy]
    by_cases hxy : x = y
    · rw [if_pos hxy]
      exact ⟨_, rfl, by simp [hxy]⟩
    · rw [if_neg hxy, gd_pos (by omega)]
      rw [show (((pre ++ [y]).length : Nat) : Int) = (pre.length : Int) + 1 by simp] at h1
      exact ⟨i, h1, by rw [h2]; simp [hxy]⟩
def mem (l : List Int) (x : Int) : Bool := decide (x ∈ l)
theorem contains_eq {l : List Int} (x : Int) (hl : l.length ≤ 1000) : slices_Contains_int l x = some (mem l x) := by
  obtain ⟨i, h1, h2⟩ := index_eq x hl l [] FU rfl (by have := FU_pos; omega)
  unfold slices_Contains_int slices_Index_int
  have h1' : slices_Index_int_L1 l x FU 0 = some i := h1
  rw [bnd_eq h1']
  congr 1
  unfold mem
  exact decide_eq_decide.2 h2
end Go.D2

set_option linter.unusedVariables false
set_option linter.unusedSimpArgs false
namespace Go.D2
open Go.Tb
theorem SameInts_self {l : List Int} (hl : l.length ≤ 1000000) : ref01_SameInts l l = some true := by
  unfold ref01_SameInts
  rw [if_pos rfl, list_loop0 l (fun _ => true) (ref01_SameInts_L1 l l) (some true) (some false) (fun k i x hx => ?_) (fun k => ?_) (by omega)]
  · rw [if_pos (by simp)]
  · have := lt_of_at hx
    show ref01_SameInts_B1 l l (ref01_SameInts_L1 l l k) _ = _
    unfold ref01_SameInts_B1
    rw [if_pos (by omega), ix_nat hx, ix_nat hx, if_pos rfl, gd_pos (by omega), if_pos rfl]; rfl
  · show ref01_SameInts_B1 l l (ref01_SameInts_L1 l l k) _ = _
    unfold ref01_SameInts_B1
    rw [if_neg (by omega)]; rfl
end Go.D2

set_option linter.unusedVariables false
set_option linter.unusedSimpArgs false
namespace Go.D2
open Go.Tb
theorem scan_inv {S R : Type} (N : Nat) (p : Nat → Bool) (g : Nat → S) (L : Nat → S → Int → Option R) (yes no : Option R)
    (step : ∀ n i : Nat, i < N → (∀ j, j < i → p j = true) → L (n + 1) (g i) (i : Int) = if p i = true then L n (g (i + 1)) ((i + 1 : Nat) : Int) else no)
    (stop : ∀ n : Nat, (∀ j, j < N → p j = true) → L (n + 1) (g N) (N : Int) = yes) : ∀ (d n i : Nat), N = i + d → d < n → (∀ j, j < i → p j = true) → L n (g i) (i : Int) = if (∀ j, j < N → p j = true) then yes else no
  | 0, n + 1, i, hd, hn, hi => by
    have e : i = N := by omega
    subst e
    rw [stop n hi, if_pos hi]
  | d + 1, n + 1, i, hd, hn, hi => by
    rw [step n i (by omega) hi]
    by_cases hp : p i = true
    · rw [if_pos hp]
      exact scan_inv N p g L yes no step stop d n (i + 1) (by omega) (by omega) (fun j hj => by
        by_cases h : j = i
        · subst h; exact hp
        · exact hi j (by omega))
    · rw [if_neg hp, if_neg (fun h => hp (h i (by omega)))]
theorem scan_inv0 {S R : Type} (N : Nat) (p : Nat → Bool) (g : Nat → S) (L : Nat → S → Int → Option R) (yes no : Option R) {s0 : S} (h0 : g 0 = s0)
    (step : ∀ n i : Nat, i < N → (∀ j, j < i → p j = true) → L (n + 1) (g i) (i : Int) = if p i = true then L n (g (i + 1)) ((i + 1 : Nat) : Int) else no)
    (stop : ∀ n : Nat, (∀ j, j < N → p j = true) → L (n + 1) (g N) (N : Int) = yes) (hN : N ≤ 9223372036854775807) : L FU s0 0 = if (∀ j, j < N → p j = true) then yes else no := by
  rw [← h0]
  exact scan_inv N p g L yes no step stop N FU 0 (by omega) (by have := FU_pos; omega) (fun j hj => by omega)
def kOf (t : Trail) (i : Nat) : Int := gi t.drains i
def dOf (n : Net) (t : Trail) (i : Nat) : Drain := gd_ n.drains (kOf t i).toNat
def okAt (n : Net) (t : Trail) (i : Nat) : Bool :=
  within (kOf t i) 0 ((n.drains.length : Int) - 1) && !mem (t.drains.take i) (kOf t i) && (decide (i = 0) || decide ((dOf n t (i - 1)).to_ = (dOf n t i).from_))
def pathB (n : Net) (t : Trail) : Bool := decide (0 < t.drains.length) && within t.amount 1 20 && decide (∀ i, i < t.drains.length → okAt n t i = true)
def isTrailR (n : Net) (t : Trail) : Bool :=
  pathB n t && (decide ((dOf n t 0).from_ = (dOf n t (t.drains.length - 1)).to_) || (decide ((dOf n t 0).from_ = n.from_) && decide ((dOf n t (t.drains.length - 1)).to_ = n.to_)))
theorem ok_range {n : Net} {t : Trail} {i : Nat} (h : okAt n t i = true) : 0 ≤ kOf t i ∧ kOf t i < (n.drains.length : Int) := by
  unfold okAt at h
  simp only [Bool.and_eq_true, within_iff] at h
  omega
theorem dOf_at {n : Net} {t : Trail} {i : Nat} (h : okAt n t i = true) : n.drains[(kOf t i).toNat]? = some (dOf n t i) := gd_at (by have := ok_range h; omega)
theorem trail_end {n : Net} {t : Trail} (hl : t.drains.length ≤ 1000) (h0 : 0 < t.drains.length) (h : ∀ i, i < t.drains.length → okAt n t i = true) : drain_isTrail_k1 n t = some (decide ((dOf n t 0).from_ = (dOf n t (t.drains.length - 1)).to_) || (decide ((dOf n t 0).from_ = n.from_) && decide ((dOf n t (t.drains.length - 1)).to_ = n.to_))) := by
  have o1 := h 0 h0
  have o2 := h (t.drains.length - 1) (by omega)
  unfold drain_isTrail_k1
  rw [ix0 (gi_at h0)]
  rw [ix_eq (show 0 ≤ gi t.drains 0 from (ok_range o1).1) (dOf_at o1), gd_pos (by omega), show (t.drains.length : Int) - 1 = ((t.drains.length - 1 : Nat) : Int) by omega, ix_nat (gi_at (by omega)), ix_eq (show 0 ≤ gi t.drains (t.drains.length - 1) from (ok_range o2).1) (dOf_at o2)]
  by_cases h1 : (dOf n t 0).from_ = (dOf n t (t.drains.length - 1)).to_
  · rw [if_pos h1, decide_eq_true h1]; rfl
  · rw [if_neg h1, decide_eq_false h1]
    by_cases h2 : (dOf n t 0).from_ = n.from_
    · rw [if_pos h2, decide_eq_true h2]; rfl
    · rw [if_neg h2, decide_eq_false h2]; rfl
theorem isTrail_eq {n : Net} (hd : n.drains.length ≤ 1000) {t : Trail} (hl : t.drains.length ≤ 1000) : drain_isTrail n t = some (isTrailR n t) := by
  unfold drain_isTrail drain_isTrail_k3 isTrailR pathB
  by_cases h0 : 0 < t.drains.length
  · rw [if_neg (by omega), bnd_eq (from_eq _ _ _), decide_eq_true h0]
    cases h1 : within t.amount 1 20
    · rw [if_pos (by rfl)]; rfl
    · rw [if_neg (by simp)]
      have h := scan_inv0 t.drains.length (okAt n t) (fun _ => ()) (fun k _ i => drain_isTrail_L1 n t k i) (drain_isTrail_k1 n t) (some false) (s0 := ()) rfl (fun k i hi hp => ?_) (fun k hp => ?_) (by omega)
      · refine Eq.trans h ?_
        by_cases hc : ∀ i, i < t.drains.length → okAt n t i = true
        · rw [if_pos hc, decide_eq_true hc, trail_end hl h0 hc]; rfl
        · rw [if_neg hc, decide_eq_false hc]; rfl
      · show drain_isTrail_B1 n t (drain_isTrail_L1 n t k) _ = _
        unfold drain_isTrail_B1 drain_isTrail_k2
        rw [if_pos (by omega), ix_nat (gi_at hi), gd_pos (by omega), bnd_eq (from_eq _ _ _)]
        have e : okAt n t i = (within (kOf t i) 0 ((n.drains.length : Int) - 1) && !mem (t.drains.take i) (kOf t i) && (decide (i = 0) || decide ((dOf n t (i - 1)).to_ = (dOf n t i).from_))) := rfl
        rw [e]
        show (if within (kOf t i) 0 ((n.drains.length : Int) - 1) = true then _ else _) = _
        cases hw : within (kOf t i) 0 ((n.drains.length : Int) - 1)
        · rw [if_neg (by simp), if_pos rfl, if_neg (by simp)]
        · have hr := within_iff.1 hw
          rw [if_pos rfl, gd_pos (by omega)]
          rw [show Int.toNat (i : Int) = i from rfl, bnd_eq (contains_eq _ (by rw [List.length_take]; omega))]
          show (if mem (t.drains.take i) (kOf t i) = true then _ else _) = _
          cases hm : mem (t.drains.take i) (kOf t i)
          · rw [if_neg (by simp)]
            by_cases hi0 : i = 0
            · rw [if_neg (by omega), if_neg (by simp), gd_pos (by omega), if_pos (by simp [hi0])]; rfl
            · have ho := hp (i - 1) (by omega)
              have hx : n.drains[(kOf t i).toNat]? = some (dOf n t i) := gd_at (by omega)
              rw [if_pos (by omega), gd_pos (by omega), show (i : Int) - 1 = ((i - 1 : Nat) : Int) by omega, ix_nat (gi_at (by omega)), ix_eq (show 0 ≤ gi t.drains (i - 1) from (ok_range ho).1) (dOf_at ho), ix_eq (show 0 ≤ gi t.drains i from hr.1) hx]
              by_cases h4 : (dOf n t (i - 1)).to_ = (dOf n t i).from_
              · rw [decide_eq_true h4, if_neg (by simp), gd_pos (by omega), if_pos (by simp)]; rfl
              · rw [decide_eq_false h4, if_pos (by rfl), if_neg (by simp [hi0])]
          · rw [if_pos rfl, if_pos rfl, if_neg (by simp)]
      · show drain_isTrail_B1 n t (drain_isTrail_L1 n t k) _ = _
        unfold drain_isTrail_B1
        rw [if_neg (by omega)]
  · rw [if_pos (by omega), if_pos rfl, decide_eq_false h0]; rfl
def addK (a : Int) (l : List Int) (k : Int) : List Int := l.set k.toNat (gi l k.toNat + a)
def addT (l : List Int) (t : Trail) : List Int := t.drains.foldl (addK t.amount) l
def SB (m : Nat) (B : Int) (l : List Int) : Prop := l.length = m ∧ ∀ x ∈ l, 0 ≤ x ∧ x ≤ B
theorem SB.gi {m : Nat} {B : Int} {l : List Int} (h : SB m B l) {i : Nat} (hi : i < m) : 0 ≤ gi l i ∧ gi l i ≤ B := h.2 _ (List.mem_of_getElem? (gi_at (by rw [h.1]; exact hi)))
theorem SB.add {m : Nat} {B a : Int} {l : List Int} {k : Int} (h : SB m B l) (ha : 0 ≤ a ∧ a ≤ 20) (hk : k.toNat < m) : SB m (B + 20) (addK a l k) := by
  refine ⟨by unfold addK; rw [List.length_set, h.1], fun x hx => ?_⟩
  unfold addK at hx
  rcases List.mem_or_eq_of_mem_set hx with h1 | rfl
  · have := h.2 x h1; omega
  · have := h.gi hk; omega
theorem SB.fold {m : Nat} {a : Int} (ha : 0 ≤ a ∧ a ≤ 20) : ∀ (ks : List Int) (B : Int) (l : List Int), SB m B l → (∀ k ∈ ks, k.toNat < m) → SB m (B + 20 * (ks.length : Int)) (ks.foldl (addK a) l)
  | [], B, l, h, _ => by simpa using h
  | k :: r, B, l, h, hk => by
    have := SB.fold ha r (B + 20) (addK a l k) (h.add ha (hk k (List.mem_cons_self ..))) (fun x hx => hk x (List.mem_cons_of_mem _ hx))
    rw [List.foldl_cons, List.length_cons, show B + 20 * ((r.length + 1 : Nat) : Int) = B + 20 + 20 * (r.length : Int) by omega]
    exact this
theorem SB.mono {m : Nat} {B B' : Int} {l : List Int} (h : SB m B l) (hb : B ≤ B') : SB m B' l := ⟨h.1, fun x hx => by have := h.2 x hx; omega⟩
theorem trail_ks {n : Net} {t : Trail} (h : pathB n t = true) : (0 ≤ t.amount ∧ t.amount ≤ 20) ∧ ∀ i, i < t.drains.length → 0 ≤ gi t.drains i ∧ gi t.drains i < (n.drains.length : Int) := by
  unfold pathB at h
  simp only [Bool.and_eq_true, within_iff] at h
  exact ⟨by omega, fun i hi => ok_range (of_decide_eq_true h.2 i hi)⟩
theorem SB.addT {n : Net} {t : Trail} (h : pathB n t = true) (hl : t.drains.length ≤ 100) {B : Int} {l : List Int} (hs : SB n.drains.length B l) : SB n.drains.length (B + 2000) (addT l t) := by
  obtain ⟨h1, h2⟩ := trail_ks h
  have := SB.fold h1 t.drains B l hs (fun k hk => by
    obtain ⟨i, hi⟩ := List.getElem?_of_mem hk
    have := h2 i (lt_of_at hi)
    rw [gi_of hi] at this; omega)
  exact this.mono (by omega)
theorem fold_take {a : Int} {ks : List Int} {l : List Int} {i : Nat} (hi : i < ks.length) : (ks.take (i + 1)).foldl (addK a) l = addK a ((ks.take i).foldl (addK a) l) (gi ks i) := by
  rw [List.take_add_one, gi_at hi, List.foldl_append]; rfl
theorem SB.take {n : Net} {t : Trail} (h : pathB n t = true) (hl : t.drains.length ≤ 100) {B : Int} {l : List Int} (hs : SB n.drains.length B l) (i : Nat) : SB n.drains.length (B + 2000) ((t.drains.take i).foldl (addK t.amount) l) := by
  obtain ⟨h1, h2⟩ := trail_ks h
  have := SB.fold h1 (t.drains.take i) B l hs (fun k hk => by
    obtain ⟨j, hj⟩ := List.getElem?_of_mem (List.mem_of_mem_take hk)
    have := h2 j (lt_of_at hj)
    rw [gi_of hj] at this; omega)
  rw [List.length_take] at this
  exact this.mono (by omega)
def gt_ (l : List Trail) (i : Nat) : Trail := l.getD i ⟨[], 0⟩
theorem gt_at {l : List Trail} {i : Nat} (h : i < l.length) : l[i]? = some (gt_ l i) := by simp [gt_, List.getD, h]
theorem sum_in {n : Net} {t : Trail} (h : pathB n t = true) (hl : t.drains.length ≤ 100) {B : Int} {l : List Int} (hs : SB n.drains.length B l) (hB : B ≤ 1000000) (i : Int) (rec1 : Int → List Int → Option (List Int × Int)) :
    drain_Sum_L1 i rec1 t FU 0 l = drain_Sum_k2 i rec1 (addT l t) := by
  obtain ⟨h1, h2⟩ := trail_ks h
  refine Eq.trans (for0 t.drains.length (fun j => (t.drains.take j).foldl (addK t.amount) l) (fun k s j => drain_Sum_L1 i rec1 t k j s) (drain_Sum_k2 i rec1 (addT l t)) rfl (fun k j hj => ?_) (fun k => ?_) (by omega)) rfl
  · have hb := hs.take h hl j
    have hk := h2 j hj
    have hx : ((t.drains.take j).foldl (addK t.amount) l)[(gi t.drains j).toNat]? = some (gi ((t.drains.take j).foldl (addK t.amount) l) (gi t.drains j).toNat) := gi_at (by rw [hb.1]; omega)
    have hg := hb.gi (i := (gi t.drains j).toNat) (by omega)
    show drain_Sum_B1 i rec1 t (drain_Sum_L1 i rec1 t k) _ _ = _
    unfold drain_Sum_B1
    rw [if_pos (by omega), ix_nat (gi_at hj), ix_eq hk.1 hx, gd_pos (by omega), ix_eq hk.1 hx, gd_pos (by omega), fold_take hj]; rfl
  · show drain_Sum_B1 i rec1 t (drain_Sum_L1 i rec1 t k) _ _ = _
    unfold drain_Sum_B1
    rw [if_neg (by omega), List.take_length]; rfl
def zeros (n : Net) : List Int := List.replicate n.drains.length 0
def sumTo_ (n : Net) (ls : List Trail) (i : Nat) : List Int := (ls.take i).foldl addT (zeros n)
theorem sumTo_succ {n : Net} {ls : List Trail} {i : Nat} (hi : i < ls.length) : sumTo_ n ls (i + 1) = addT (sumTo_ n ls i) (gt_ ls i) := by
  unfold sumTo_
  rw [List.take_add_one, gt_at hi, List.foldl_append]; rfl
theorem sum_SB {n : Net} {ls : List Trail} (hl : ∀ t ∈ ls, t.drains.length ≤ 100) : ∀ i, i ≤ ls.length → (∀ j, j < i → isTrailR n (gt_ ls j) = true) → SB n.drains.length (2000 * (i : Int)) (sumTo_ n ls i)
  | 0, _, _ => ⟨by unfold sumTo_ zeros; simp, fun x hx => by
    unfold sumTo_ zeros at hx
    rw [List.take_zero, List.foldl_nil] at hx
    have := List.eq_of_mem_replicate hx
    omega⟩
  | i + 1, hi, h => by
    have ih := sum_SB hl i (by omega) (fun j hj => h j (by omega))
    rw [sumTo_succ (by omega)]
    have hp : pathB n (gt_ ls i) = true := by
      have := h i (by omega)
      unfold isTrailR at this
      rw [Bool.and_eq_true] at this
      exact this.1
    exact (ih.addT hp (hl _ (List.mem_of_getElem? (gt_at (by omega))))).mono (by omega)
def sumsR (n : Net) (ls : List Trail) : List Int × Int :=
  if validate n = 0 then (if 40 < ls.length then ([], 3) else if (∀ j, j < ls.length → isTrailR n (gt_ ls j) = true) then (sumTo_ n ls ls.length, 0) else ([], 1)) else ([], validate n)
theorem Sum_eq {n : Net} (hd : n.drains.length ≤ 1000) {ls : List Trail} (hl : ∀ t ∈ ls, t.drains.length ≤ 100) (hn : ls.length ≤ 100) : drain_Sum n ls = some (sumsR n ls) := by
  unfold drain_Sum sumsR
  rw [bnd_eq (Validate_eq hd)]
  by_cases hv : validate n = 0
  · rw [if_pos hv, if_pos hv]
    by_cases h4 : 40 < ls.length
    · rw [if_pos (by omega), if_pos h4]
    · rw [if_neg (by omega), if_neg h4, gd_pos (by omega)]
      refine Eq.trans (scan_inv0 ls.length (fun j => isTrailR n (gt_ ls j)) (sumTo_ n ls) (fun k s i => drain_Sum_L2 n ls k i s) (some (sumTo_ n ls ls.length, 0)) (some ([], 1)) rfl (fun k i hi hp => ?_) (fun k hp => ?_) (by omega)) (by split <;> rfl)
      · have hx := gt_at hi
        have hll := hl _ (List.mem_of_getElem? hx)
        show drain_Sum_B2 n ls (drain_Sum_L2 n ls k) _ _ = _
        unfold drain_Sum_B2
        rw [if_pos (by omega), ix_nat hx, bnd_eq (isTrail_eq hd (by omega))]
        by_cases ht : isTrailR n (gt_ ls i) = true
        · have hp' : pathB n (gt_ ls i) = true := by
            unfold isTrailR at ht
            rw [Bool.and_eq_true] at ht
            exact ht.1
          rw [if_pos ht, if_pos ht, sum_in hp' hll (sum_SB hl i (by omega) hp) (by omega)]
          unfold drain_Sum_k2
          rw [gd_pos (by omega), sumTo_succ hi]; rfl
        · rw [if_neg ht, if_neg ht]
      · show drain_Sum_B2 n ls (drain_Sum_L2 n ls k) _ _ = _
        unfold drain_Sum_B2
        rw [if_neg (by omega)]; rfl
  · rw [if_neg hv, if_neg hv]
end Go.D2

set_option linter.unusedVariables false
set_option linter.unusedSimpArgs false
namespace Go.D2
open Go.Tb
def fr (n : Net) (k : Int) : Int := (gd_ n.drains k.toNat).from_
def tt (n : Net) (k : Int) : Int := (gd_ n.drains k.toNat).to_
/-- What a trail puts on a drain. -/
def cf (a : Int) : List Int → Nat → Int
  | [], _ => 0
  | k :: r, j => (if k.toNat = j then a else 0) + cf a r j
theorem gi_addK {a k : Int} {l : List Int} {j : Nat} (hk : k.toNat < l.length) : gi (addK a l k) j = gi l j + (if k.toNat = j then a else 0) := by
  unfold addK gi
  simp only [List.getD_eq_getElem?_getD, List.getElem?_set]
  by_cases h : k.toNat = j
  · subst h; rw [if_pos rfl, if_pos hk, if_pos rfl]; rfl
  · rw [if_neg h, if_neg h]; omega
theorem fold_len (a : Int) : ∀ (ks : List Int) (l : List Int), (ks.foldl (addK a) l).length = l.length
  | [], _ => rfl
  | k :: r, l => by rw [List.foldl_cons, fold_len a r]; unfold addK; rw [List.length_set]
theorem gi_fold {a : Int} {j : Nat} : ∀ (ks : List Int) (l : List Int), (∀ k ∈ ks, k.toNat < l.length) → gi (ks.foldl (addK a) l) j = gi l j + cf a ks j
  | [], l, _ => by simp [cf]
  | k :: r, l, h => by
    have hk := h k (List.mem_cons_self ..)
    rw [List.foldl_cons, gi_fold r (addK a l k) (fun x hx => by
      unfold addK; rw [List.length_set]; exact h x (List.mem_cons_of_mem _ hx)), gi_addK hk]
    simp only [cf]; omega
theorem cf_nodup {a : Int} {j : Nat} : ∀ ks : List Int, ks.Nodup → (∀ k ∈ ks, 0 ≤ k) → cf a ks j = if (j : Int) ∈ ks then a else 0
  | [], _, _ => rfl
  | k :: r, hd, h0 => by
    have hk := h0 k (List.mem_cons_self ..)
    rw [List.nodup_cons] at hd
    simp only [cf]
    rw [cf_nodup r hd.2 (fun x hx => h0 x (List.mem_cons_of_mem _ hx))]
    by_cases e : k.toNat = j
    · have e' : (j : Int) = k := by omega
      rw [if_pos e, e', if_neg hd.1, if_pos (List.mem_cons_self ..)]; omega
    · rw [if_neg e]
      by_cases hm : (j : Int) ∈ r
      · rw [if_pos hm, if_pos (List.mem_cons_of_mem _ hm)]; omega
      · rw [if_neg hm, if_neg]
        · omega
        · intro hc
          rcases List.mem_cons.1 hc with h | h
          · omega
          · exact hm h
theorem gi_ext {l l' : List Int} (hl : l.length = l'.length) (h : ∀ j, j < l.length → gi l j = gi l' j) : l = l' := by
  apply List.ext_getElem?
  intro j
  by_cases hj : j < l.length
  · rw [gi_at hj, gi_at (by omega), h j hj]
  · rw [List.getElem?_eq_none (by omega), List.getElem?_eq_none (by omega)]
theorem en_set {n : Net} {x : List Int} {k : Nat} {f : Int} (hx : x.length = n.drains.length) (hk : k < x.length) : En n (x.set k f) = (En n x).set k ⟨(gd_ n.drains k).from_, (gd_ n.drains k).to_, (gd_ n.drains k).width, f⟩ := by
  apply List.ext_getElem?
  intro j
  rw [List.getElem?_set]
  by_cases e : k = j
  · subst e
    rw [if_pos rfl, if_pos (by rw [en_len hx]; omega)]
    exact en_at (gd_at (by omega)) (by rw [List.getElem?_set, if_pos rfl, if_pos hk])
  · rw [if_neg e]
    by_cases hj : j < x.length
    · rw [en_at (gd_at (by omega)) (gi_at hj)]
      exact en_at (gd_at (by omega)) (by rw [List.getElem?_set, if_neg e, gi_at hj])
    · rw [List.getElem?_eq_none (by rw [en_len (by rw [List.length_set]; exact hx)]; omega), List.getElem?_eq_none (by rw [en_len hx]; omega)]
theorem out_addK {n : Net} {x : List Int} {k a v : Int} (hx : x.length = n.drains.length) (hk : k.toNat < x.length) : out (En n (addK a x k)) v = out (En n x) v + ((if fr n k = v then a else 0) - (if tt n k = v then a else 0)) := by
  unfold addK
  rw [en_set hx hk, out_set (en_at (gd_at (by omega)) (gi_at hk))]
  unfold con1 fr tt
  simp only
  by_cases h1 : (gd_ n.drains k.toNat).from_ = v <;> by_cases h2 : (gd_ n.drains k.toNat).to_ = v <;> simp only [h1, h2, if_true, if_false] <;> omega
theorem out_chain {n : Net} {x : List Int} {a v : Int} {K : List Int} (hx : x.length = n.drains.length) (hr : ∀ i, i < K.length → 0 ≤ gi K i ∧ gi K i < (n.drains.length : Int)) (hlk : ∀ i, i + 1 < K.length → tt n (gi K i) = fr n (gi K (i + 1))) :
    ∀ i, i < K.length → out (En n ((K.take (i + 1)).foldl (addK a) x)) v = out (En n x) v + ((if fr n (gi K 0) = v then a else 0) - (if tt n (gi K i) = v then a else 0))
  | 0, hi => by
    have h0 := hr 0 hi
    rw [fold_take hi, List.take_zero, List.foldl_nil, out_addK hx (by omega)]
  | i + 1, hi => by
    have h0 := hr (i + 1) hi
    have ih := out_chain hx hr hlk i (by omega) (a := a) (v := v)
    have hl := fold_len a (K.take (i + 1)) x
    rw [fold_take hi, out_addK (by rw [hl]; exact hx) (by rw [hl]; omega), ih, hlk i hi]
    omega
/-- A flow, or what is left of one. -/
structure Rem (n : Net) (x : List Int) : Prop where
  len : x.length = n.drains.length
  bnd : ∀ i, 0 ≤ gi x i ∧ gi x i ≤ 20
  con : ∀ v : Int, 0 ≤ v → v < n.nodes → v ≠ n.from_ → v ≠ n.to_ → out (En n x) v = 0
theorem Rem.fb {n : Net} {x : List Int} (h : Rem n x) : FBnd x := fun y hy => by
  obtain ⟨i, hi⟩ := List.getElem?_of_mem hy
  have := h.bnd i
  rw [gi_of hi] at this; omega
theorem net_true : ∀ E : List Ed, netS (fun _ => true) E = 0
  | [] => rfl
  | e :: r => by simp [netS, net_true r]
theorem en_mem {n : Net} {x : List Int} (hx : x.length = n.drains.length) {e : Ed} (he : e ∈ En n x) : ∃ i, i < x.length ∧ e = ⟨(gd_ n.drains i).from_, (gd_ n.drains i).to_, (gd_ n.drains i).width, gi x i⟩ := by
  obtain ⟨i, hi⟩ := List.getElem?_of_mem he
  have hl := lt_of_at hi
  rw [en_len hx] at hl
  rw [en_at (gd_at hl) (gi_at (by omega))] at hi
  cases hi
  exact ⟨i, by omega, rfl⟩
theorem drain_in {n : Net} (hn : Net0 n) {i : Nat} (hi : i < n.drains.length) : (0 ≤ (gd_ n.drains i).from_ ∧ (gd_ n.drains i).from_ < n.nodes) ∧ (0 ≤ (gd_ n.drains i).to_ ∧ (gd_ n.drains i).to_ < n.nodes) ∧ (gd_ n.drains i).from_ ≠ (gd_ n.drains i).to_ := by
  have h := hn.dr _ (List.mem_of_getElem? (gd_at hi))
  exact ⟨h.1, h.2.1, h.2.2.1⟩
theorem en_in {n : Net} (hn : Net0 n) {x : List Int} (hx : x.length = n.drains.length) : In n.nodes.toNat (En n x) := fun e he => by
  obtain ⟨i, hi, rfl⟩ := en_mem hx he
  have := drain_in hn (i := i) (by omega)
  have := hn.n2
  simp only; omega
/-- What leaves at one end comes in at the other. -/
theorem Rem.total {n : Net} (hn : Net0 n) {x : List Int} (h : Rem n x) : out (En n x) n.from_ + out (En n x) n.to_ = 0 := by
  have h1 := net_sum (fun _ => true) (En n x) (en_in hn h.len)
  rw [net_true] at h1
  rw [sumTo_congr (h := fun v => (if n.from_ = v then out (En n x) n.from_ else 0) + (if n.to_ = v then out (En n x) n.to_ else 0)) _ (fun v v1 v2 => ?_), sumTo_add, sumTo_point, sumTo_point] at h1
  · have := hn.s0
    have := hn.t0
    rw [if_pos (by omega), if_pos (by omega)] at h1
    exact h1
  · rw [if_pos rfl]
    by_cases e1 : n.from_ = v
    · subst e1
      rw [if_pos rfl, if_neg (fun h => hn.ne h.symm)]; omega
    · rw [if_neg e1]
      by_cases e2 : n.to_ = v
      · subst e2
        rw [if_pos rfl]; omega
      · rw [if_neg e2, h.con v v1 (by omega) (fun h => e1 h.symm) (fun h => e2 h.symm)]; rfl
theorem out_none {v : Int} : ∀ E : List Ed, (∀ e ∈ E, 0 ≤ e.f) → (∀ e ∈ E, e.a = v → e.f = 0) → out E v ≤ 0 ∧ ((∃ e ∈ E, e.b = v ∧ 0 < e.f) → out E v < 0)
  | [], _, _ => ⟨Int.le_refl _, by rintro ⟨e, he, _⟩; cases he⟩
  | e :: r, h1, h2 => by
    have ⟨i1, i2⟩ := out_none r (fun x hx => h1 x (List.mem_cons_of_mem _ hx)) (fun x hx => h2 x (List.mem_cons_of_mem _ hx))
    have f0 := h1 e (List.mem_cons_self ..)
    have f1 := h2 e (List.mem_cons_self ..)
    simp only [out]
    refine ⟨by split <;> split <;> (try have := f1 ‹_›) <;> omega, ?_⟩
    rintro ⟨y, hy, y1, y2⟩
    rcases List.mem_cons.1 hy with rfl | hy
    · rw [if_pos y1]
      split
      · have := f1 ‹_›; omega
      · omega
    · have := i2 ⟨y, hy, y1, y2⟩
      split <;> split <;> (try have := f1 ‹_›) <;> omega
theorem leaves_some {n : Net} {x : List Int} (h : Rem n x) {v : Int} (hv : 0 < out (En n x) v ∨ (0 ≤ out (En n x) v ∧ ∃ i, i < x.length ∧ tt n (i : Int) = v ∧ 0 < gi x i)) : ∃ i : Nat, i < x.length ∧ fr n (i : Int) = v ∧ 0 < gi x i := by
  apply Classical.byContradiction
  intro hc
  have key := out_none (v := v) (En n x) (fun e he => by
    obtain ⟨i, hi, rfl⟩ := en_mem h.len he
    exact (h.bnd i).1) (fun e he ha => by
    obtain ⟨i, hi, rfl⟩ := en_mem h.len he
    have := (h.bnd i).1
    rcases Int.lt_or_le 0 (gi x i) with h0 | h0
    · exact absurd ⟨i, hi, ha, h0⟩ hc
    · simp only; omega)
  rcases hv with h1 | ⟨h1, i, hi, h2, h3⟩
  · omega
  · have := key.2 ⟨_, List.mem_of_getElem? (en_at (gd_at (show i < n.drains.length by have := h.len; omega)) (gi_at hi)), h2, h3⟩
    omega
end Go.D2

set_option linter.unusedVariables false
set_option linter.unusedSimpArgs false
namespace Go.D2
open Go.Tb
theorem clone_eq {l : List Int} (h : l.length ≤ 1000000) : slices_Clone_int l = some l := by
  unfold slices_Clone_int
  rw [gd_pos (by simpa using h)]; rfl
/-- Where a number lies first. -/
theorem indexL {l : List Int} (x : Int) (hl : l.length ≤ 1000) : ∀ (d i k : Nat), l.length = i + d → d < k → (∃ r : Nat, slices_Index_int_L1 l x k (i : Int) = some (r : Int) ∧ r < l.length ∧ gi l r = x) ∨ (slices_Index_int_L1 l x k (i : Int) = some (-1) ∧ ∀ j, i ≤ j → j < l.length → gi l j ≠ x)
  | 0, i, k + 1, hd, hk => by
    right
    refine ⟨?_, fun j h1 h2 => by omega⟩
    show slices_Index_int_B1 l x (slices_Index_int_L1 l x k) _ = _
    unfold slices_Index_int_B1
    rw [if_neg (by omega)]; rfl
  | d + 1, i, k + 1, hd, hk => by
    have e : slices_Index_int_L1 l x (k + 1) (i : Int) = slices_Index_int_B1 l x (slices_Index_int_L1 l x k) (i : Int) := rfl
    rw [e]
    unfold slices_Index_int_B1
    rw [if_pos (by omega), ix_nat (gi_at (show i < l.length by omega))]
    by_cases h : x = gi l i
    · rw [if_pos h]
      exact .inl ⟨i, rfl, by omega, h.symm⟩
    · rw [if_neg h, gd_pos (by omega)]
      rcases indexL x hl d (i + 1) k (by omega) (by omega) with ⟨r, h1, h2, h3⟩ | ⟨h1, h2⟩
      · exact .inl ⟨r, h1, h2, h3⟩
      · refine .inr ⟨h1, fun j j1 j2 => ?_⟩
        by_cases hj : j = i
        · subst hj; exact fun h' => h h'.symm
        · exact h2 j (by omega) j2
theorem index0 {l : List Int} (x : Int) (hl : l.length ≤ 1000) : (∃ r : Nat, slices_Index_int l x = some (r : Int) ∧ r < l.length ∧ gi l r = x) ∨ (slices_Index_int l x = some (-1) ∧ x ∉ l) := by
  rcases indexL x hl l.length 0 FU (by omega) (by have := FU_pos; omega) with h | ⟨h1, h2⟩
  · exact .inl h
  · refine .inr ⟨h1, fun hm => ?_⟩
    obtain ⟨j, hj⟩ := List.getElem?_of_mem hm
    exact h2 j (by omega) (lt_of_at hj) (gi_of hj)
/-- The drains of a trail in a flow. -/
structure Good (n : Net) (x : List Int) (K : List Int) : Prop where
  ne : 0 < K.length
  rng : ∀ i, i < K.length → 0 ≤ gi K i ∧ gi K i < (n.drains.length : Int)
  pos : ∀ i, i < K.length → 0 < gi x (gi K i).toNat
  link : ∀ i, i + 1 < K.length → tt n (gi K i) = fr n (gi K (i + 1))
  nd : K.Nodup
theorem gi_mem {l : List Int} {i : Nat} (h : i < l.length) : gi l i ∈ l := List.mem_of_getElem? (gi_at h)
theorem mem_gi' {l : List Int} {k : Int} (h : k ∈ l) : ∃ i, i < l.length ∧ gi l i = k := by
  obtain ⟨i, hi⟩ := List.getElem?_of_mem h
  exact ⟨i, lt_of_at hi, gi_of hi⟩
theorem Good.len {n : Net} {x K : List Int} (h : Good n x K) : K.length ≤ n.drains.length := by
  have := nodup_len n.drains.length (K.map Int.toNat) (fun i hi => by
    obtain ⟨k, hk, rfl⟩ := List.mem_map.1 hi
    obtain ⟨j, hj, rfl⟩ := mem_gi' hk
    have := h.rng j hj
    omega) (by
    unfold List.Nodup
    rw [List.pairwise_map]
    refine List.Pairwise.imp_of_mem (fun {a b} ha hb hab => ?_) h.nd
    obtain ⟨i, hi, rfl⟩ := mem_gi' ha
    obtain ⟨j, hj, rfl⟩ := mem_gi' hb
    have := h.rng i hi
    have := h.rng j hj
    omega)
  rwa [List.length_map] at this
/-- The most that a trail can take. -/
def mn (x K : List Int) (m : Int) (i : Nat) : Int := (K.take i).foldl (fun s k => min s (gi x k.toNat)) m
theorem mn_succ {x K : List Int} {m : Int} {i : Nat} (hi : i < K.length) : mn x K m (i + 1) = min (mn x K m i) (gi x (gi K i).toNat) := by
  unfold mn
  rw [List.take_add_one, gi_at hi, List.foldl_append]; rfl
theorem mn_spec {n : Net} {x K : List Int} (h : Good n x K) {m : Int} (hm : 0 < m) : ∀ i, i ≤ K.length → 0 < mn x K m i ∧ mn x K m i ≤ m ∧ (∀ j, j < i → mn x K m i ≤ gi x (gi K j).toNat) ∧ (mn x K m i = m ∨ ∃ j, j < i ∧ gi x (gi K j).toNat = mn x K m i)
  | 0, _ => ⟨hm, Int.le_refl _, fun j hj => by omega, .inl rfl⟩
  | i + 1, hi => by
    have ⟨h1, h2, h3, h4⟩ := mn_spec h hm i (by omega)
    have hp := h.pos i (by omega)
    rw [mn_succ (by omega)]
    refine ⟨by omega, by omega, fun j hj => ?_, ?_⟩
    · by_cases e : j = i
      · subst e; omega
      · have := h3 j (by omega); omega
    · by_cases hc : mn x K m i ≤ gi x (gi K i).toNat
      · rw [show min (mn x K m i) (gi x (gi K i).toNat) = mn x K m i by omega]
        rcases h4 with h4 | ⟨j, j1, j2⟩
        · exact .inl h4
        · exact .inr ⟨j, by omega, j2⟩
      · exact .inr ⟨i, by omega, by omega⟩
/-- What is left when a trail is taken. -/
def taken (x K : List Int) (m : Int) : List Int := K.foldl (addK (-m)) x
theorem taken_gi {n : Net} {x K : List Int} (hx : x.length = n.drains.length) (h : Good n x K) (m : Int) (j : Nat) : gi (taken x K m) j = gi x j - (if (j : Int) ∈ K then m else 0) := by
  unfold taken
  rw [gi_fold K x (fun k hk => by
    obtain ⟨i, hi, rfl⟩ := mem_gi' hk
    have := h.rng i hi
    omega), cf_nodup K h.nd (fun k hk => by
    obtain ⟨i, hi, rfl⟩ := mem_gi' hk
    exact (h.rng i hi).1)]
  split <;> omega
theorem part_gi {n : Net} {x K : List Int} (hx : x.length = n.drains.length) (h : Good n x K) (m : Int) (i : Nat) (hi : i < K.length) : gi ((K.take i).foldl (addK (-m)) x) (gi K i).toNat = gi x (gi K i).toNat := by
  have h0 := h.rng i hi
  rw [gi_fold _ x (fun k hk => by
    obtain ⟨j, hj, rfl⟩ := mem_gi' (List.mem_of_mem_take hk)
    have := h.rng j hj
    omega), cf_nodup _ (h.nd.sublist (List.take_sublist i K)) (fun k hk => by
    obtain ⟨j, hj, rfl⟩ := mem_gi' (List.mem_of_mem_take hk)
    exact (h.rng j hj).1), if_neg]
  · omega
  · intro hm
    rw [show (((gi K i).toNat : Nat) : Int) = gi K i by omega] at hm
    have h1 := h.nd
    rw [← List.take_append_drop i K, List.drop_eq_getElem_cons hi] at h1
    have h2 := (List.nodup_append.1 h1).2.2 _ hm K[i] (List.mem_cons_self ..)
    apply h2
    have := gi_at hi
    rw [List.getElem?_eq_getElem hi] at this
    exact (Option.some.inj this).symm
theorem k3_eq {n : Net} (hn : Net0 n) {x : List Int} (hx : Rem n x) {K0 : List Int} {lo : Nat} {K : List Int} (hK : K0.drop lo = K) (h : Good n x K) {m : Int} (hm : 0 < m ∧ m ≤ 1000) :
    drain_trail_k3 x m K0 lo = some (⟨K, mn x K m K.length⟩, taken x K (mn x K m K.length)) := by
  have h16 := hn.len
  have hl := h.len
  have hxl := hx.len
  unfold drain_trail_k3
  refine Eq.trans (for0 K.length (fun i => mn x K m i) (fun k s i => drain_trail_L2 x K0 lo k s i) (drain_trail_k2 x K0 lo (mn x K m K.length)) rfl (fun k i hi => ?_) (fun k => ?_) (by omega)) ?_
  · have h0 := h.rng i hi
    show drain_trail_B2 x K0 lo (drain_trail_L2 x K0 lo k) _ _ = _
    unfold drain_trail_B2
    rw [hK, if_pos (by omega), ix_nat (gi_at hi), ix_eq h0.1 (gi_at (show (gi K i).toNat < x.length by omega)), gd_pos (by omega), mn_succ hi]; rfl
  · show drain_trail_B2 x K0 lo (drain_trail_L2 x K0 lo k) _ _ = _
    unfold drain_trail_B2
    rw [hK, if_neg (by omega)]
  · have ⟨m1, m2, m3, m4⟩ := mn_spec h hm.1 K.length (Nat.le_refl _)
    generalize mn x K m K.length = a at *
    unfold drain_trail_k2
    refine Eq.trans (for0 K.length (fun j => (K.take j).foldl (addK (-a)) x) (fun k s j => drain_trail_L1 K0 lo a k j s) (some (⟨K, a⟩, taken x K a)) rfl (fun k i hi => ?_) (fun k => ?_) (by omega)) rfl
    · have h0 := h.rng i hi
      have hg := part_gi hxl h a i hi
      have hb := hx.bnd (gi K i).toNat
      have hl2 := fold_len (-a) (K.take i) x
      have e : gi ((K.take i).foldl (addK (-a)) x) (gi K i).toNat - a = gi ((K.take i).foldl (addK (-a)) x) (gi K i).toNat + -a := by omega
      show drain_trail_B1 K0 lo a (drain_trail_L1 K0 lo a k) _ _ = _
      unfold drain_trail_B1
      rw [hK, if_pos (by omega), ix_nat (gi_at hi), ix_eq h0.1 (gi_at (by omega)), gd_pos (by rw [hg]; omega), ix_eq h0.1 (gi_at (by omega)), gd_pos (by omega), fold_take hi, e]; rfl
    · show drain_trail_B1 K0 lo a (drain_trail_L1 K0 lo a k) _ _ = _
      unfold drain_trail_B1 drain_trail_k1
      rw [hK, if_neg (by omega), bnd_eq (clone_eq (by omega)), List.take_length]; rfl
structure Walk (n : Net) (x : List Int) (u0 at_ : Int) (F ks : List Int) : Prop where
  frs : ks.map (fr n) = F
  head : gi (F ++ [at_]) 0 = u0
  tos : ks.map (tt n) = (F ++ [at_]).tail
  nd : (F ++ [at_]).Nodup
  node : ∀ v ∈ F ++ [at_], 0 ≤ v ∧ v < n.nodes
  rng : ∀ k ∈ ks, 0 ≤ k ∧ k < (n.drains.length : Int)
  pos : ∀ k ∈ ks, 0 < gi x k.toNat
theorem gi_map {f : Int → Int} {l : List Int} {i : Nat} (h : i < l.length) : gi (l.map f) i = f (gi l i) := by
  apply gi_of
  rw [List.getElem?_map, gi_at h]; rfl
theorem gi_tail {l : List Int} {i : Nat} : gi l.tail i = gi l (i + 1) := by
  unfold gi
  simp only [List.getD_eq_getElem?_getD, List.getElem?_tail]
theorem gi_app1 {l l' : List Int} {i : Nat} (h : i < l.length) : gi (l ++ l') i = gi l i := by
  unfold gi
  simp only [List.getD_eq_getElem?_getD, List.getElem?_append_left h]
theorem gi_app2 {l : List Int} {y : Int} : gi (l ++ [y]) l.length = y := gi_of (by simp)
theorem gi_drop {l : List Int} {q i : Nat} : gi (l.drop q) i = gi l (q + i) := by
  unfold gi
  simp only [List.getD_eq_getElem?_getD, List.getElem?_drop]
theorem Walk.flen {n : Net} {x : List Int} {u0 at_ : Int} {F ks : List Int} (w : Walk n x u0 at_ F ks) : F.length = ks.length := by rw [← w.frs, List.length_map]
theorem Walk.slen {n : Net} (hn : Net0 n) {x : List Int} {u0 at_ : Int} {F ks : List Int} (w : Walk n x u0 at_ F ks) : F.length + 1 ≤ n.nodes.toNat := by
  have := nodup_len n.nodes.toNat ((F ++ [at_]).map Int.toNat) (fun i hi => by
    obtain ⟨k, hk, rfl⟩ := List.mem_map.1 hi
    have := w.node k hk
    omega) (by
    unfold List.Nodup
    rw [List.pairwise_map]
    refine List.Pairwise.imp_of_mem (fun {a b} ha hb hab => ?_) w.nd
    have := w.node a ha
    have := w.node b hb
    omega)
  simpa using this
/-- A walk's drains, from any place on, are a trail's. -/
theorem walk_good {n : Net} {x F : List Int} {ks : List Int} {a : Int} (frs : ks.map (fr n) = F) (tos : ∀ i, i + 1 < ks.length → tt n (gi ks i) = gi F (i + 1)) (nd : F.Nodup) (rng : ∀ k ∈ ks, 0 ≤ k ∧ k < (n.drains.length : Int)) (pos : ∀ k ∈ ks, 0 < gi x k.toNat) {r : Nat} (hr : r < ks.length) : Good n x (ks.drop r) where
  ne := by rw [List.length_drop]; omega
  rng := fun i hi => rng _ (List.mem_of_mem_drop (gi_mem hi))
  pos := fun i hi => pos _ (List.mem_of_mem_drop (gi_mem hi))
  link := fun i hi => by
    rw [List.length_drop] at hi
    rw [gi_drop, gi_drop, tos _ (by omega), ← frs, show r + i + 1 = r + (i + 1) by omega, gi_map (by omega)]
  nd := by
    have h : ks.Nodup := by
      rw [← frs] at nd
      unfold List.Nodup at nd ⊢
      rw [List.pairwise_map] at nd
      exact nd.imp (fun h e => h (by rw [e]))
    exact h.sublist (List.drop_sublist _ _)
theorem scan_L3 {n : Net} {x : List Int} (hx : x.length = n.drains.length) (hl : n.drains.length ≤ 1000) {u : Int} {l4 l5 : List Int} (rec3 : Int → List Int → List Int → Option (Trail × List Int)) {j : Nat} (hj : j < x.length) (h1 : fr n (j : Int) = u) (h2 : gi x j ≠ 0) :
    ∀ (d i k : Nat), j = i + d → d < k → ∃ q : Nat, q < x.length ∧ fr n (q : Int) = u ∧ gi x q ≠ 0 ∧ drain_trail_L3 n x u l4 l5 rec3 k (i : Int) = drain_trail_k4 n x l4 l5 rec3 (q : Int)
  | d, i, k + 1, hd, hk => by
    have e : drain_trail_L3 n x u l4 l5 rec3 (k + 1) (i : Int) = drain_trail_B3 n x u l4 l5 rec3 (drain_trail_L3 n x u l4 l5 rec3 k) (i : Int) := rfl
    by_cases hi : fr n (i : Int) = u ∧ gi x i ≠ 0
    · refine ⟨i, by omega, hi.1, hi.2, ?_⟩
      rw [e]
      unfold drain_trail_B3 drain_trail_k5
      rw [ix_nat (gd_at (by omega)), if_pos (show (gd_ n.drains i).from_ = u from hi.1), ix_nat (gi_at (by omega)), if_neg (by simpa using hi.2)]
    · cases d with
      | zero =>
        have : j = i := by omega
        subst this
        exact absurd ⟨h1, h2⟩ hi
      | succ d =>
        obtain ⟨q, q1, q2, q3, q4⟩ := scan_L3 hx hl rec3 hj h1 h2 d (i + 1) k (by omega) (by omega)
        refine ⟨q, q1, q2, q3, ?_⟩
        rw [e, ← q4]
        unfold drain_trail_B3 drain_trail_k5
        rw [ix_nat (gd_at (by omega))]
        by_cases h3 : fr n (i : Int) = u
        · have h4 : gi x i = 0 := Classical.byContradiction fun h4 => hi ⟨h3, h4⟩
          rw [if_pos (show (gd_ n.drains i).from_ = u from h3), ix_nat (gi_at (by omega)), if_pos (by simpa using h4), gd_pos (by omega)]; rfl
        · rw [if_neg (show ¬ (gd_ n.drains i).from_ = u from h3), if_pos rfl, gd_pos (by omega)]; rfl
/-- How a trail ends. -/
def Ends (n : Net) (u0 to most : Int) (K : List Int) (m : Int) : Prop :=
  (m = most ∧ fr n (gi K 0) = u0 ∧ tt n (gi K (K.length - 1)) = to) ∨ (m = 20 ∧ fr n (gi K 0) = tt n (gi K (K.length - 1)))
theorem trail_loop {n : Net} (hn : Net0 n) {x : List Int} (hx : Rem n x) {u0 to most : Int}
    (hout : ∀ at_ F ks, Walk n x u0 at_ F ks → ¬ (at_ = to ∧ ks ≠ []) → ∃ i : Nat, i < x.length ∧ fr n (i : Int) = at_ ∧ 0 < gi x i) :
    ∀ (q k : Nat) (at_ : Int) (F ks : List Int), Walk n x u0 at_ F ks → n.nodes.toNat ≤ F.length + q → q < k →
      ∃ K0 lo m, drain_trail_L4 n x to most k at_ (F ++ [at_]) ks = drain_trail_k3 x m K0 lo ∧ Good n x (K0.drop lo) ∧ Ends n u0 to most (K0.drop lo) m
  | 0, k, at_, F, ks, w, hq, hk => by
    have := w.slen hn
    omega
  | q + 1, k + 1, at_, F, ks, w, hq, hk => by
    have hsl := w.slen hn
    have hfl := w.flen
    have h8 := hn.n8
    have h16 := hn.len
    have hxl := hx.len
    have hF : F.Nodup := (List.nodup_append.1 w.nd).1
    have e : drain_trail_L4 n x to most (k + 1) at_ (F ++ [at_]) ks = drain_trail_B4 n x to most (drain_trail_L4 n x to most k) at_ (F ++ [at_]) ks := rfl
    have tosi : ∀ i, i < ks.length → tt n (gi ks i) = gi (F ++ [at_]) (i + 1) := fun i hi => by
      rw [← gi_map (f := tt n) hi, w.tos, gi_tail]
    rw [e]
    unfold drain_trail_B4 drain_trail_k6
    by_cases hend : at_ = to ∧ ks ≠ []
    · have hks : 0 < ks.length := List.length_pos_iff.2 hend.2
      refine ⟨ks, 0, most, ?_, ?_, ?_⟩
      · rw [if_pos hend.1, if_neg (by simp; exact hend.2)]
      · exact walk_good (a := at_) w.frs (fun i hi => by rw [tosi i (by omega), gi_app1 (by omega)]) hF w.rng w.pos hks
      · left
        rw [List.drop_zero]
        refine ⟨rfl, ?_, ?_⟩
        · rw [← gi_map (f := fr n) hks, w.frs, ← w.head, gi_app1 (by omega)]
        · rw [tosi _ (by omega), show ks.length - 1 + 1 = F.length by omega, gi_app2, hend.1]
    · obtain ⟨j, j1, j2, j3⟩ := hout at_ F ks w hend
      obtain ⟨p, p1, p2, p3, p4⟩ := scan_L3 (l4 := F ++ [at_]) (l5 := ks) hxl (by omega) (drain_trail_L4 n x to most k) j1 j2 (by omega) j 0 FU (by omega) (by have := FU_pos; omega)
      have hlen : (F ++ [at_]).length = F.length + 1 := by simp
      have eq1 : drain_trail_B4 n x to most (drain_trail_L4 n x to most k) at_ (F ++ [at_]) ks = drain_trail_k4 n x (F ++ [at_]) ks (drain_trail_L4 n x to most k) (p : Int) := by
        rw [← p4]
        unfold drain_trail_B4 drain_trail_k6
        by_cases h1 : at_ = to
        · have h2 : ks = [] := Classical.byContradiction fun h2 => hend ⟨h1, h2⟩
          rw [if_pos h1, if_pos (by simp [h2])]; rfl
        · rw [if_neg h1, if_pos rfl]; rfl
      unfold drain_trail_B4 drain_trail_k6 at eq1
      rw [eq1]
      have hin := drain_in hn (i := p) (by omega)
      have frs' : (ks ++ [(p : Int)]).map (fr n) = F ++ [at_] := by rw [List.map_append, w.frs, List.map_singleton, p2]
      have rng' : ∀ y ∈ ks ++ [(p : Int)], 0 ≤ y ∧ y < (n.drains.length : Int) := fun y hy => by
        rcases List.mem_append.1 hy with hy | hy
        · exact w.rng y hy
        · rw [List.mem_singleton] at hy; omega
      have pos' : ∀ y ∈ ks ++ [(p : Int)], 0 < gi x y.toNat := fun y hy => by
        rcases List.mem_append.1 hy with hy | hy
        · exact w.pos y hy
        · rw [List.mem_singleton] at hy
          subst hy
          have := (hx.bnd p).1
          show 0 < gi x p
          omega
      unfold drain_trail_k4
      rw [gd_pos (by simp; omega), ix_nat (gd_at (show p < n.drains.length by omega))]
      rcases index0 (l := F ++ [at_]) (gd_ n.drains p).to_ (by omega) with ⟨r, r1, r2, r3⟩ | ⟨r1, r2⟩
      · rw [bnd_eq r1, if_pos (by omega), gd_pos (by simp; omega)]
        refine ⟨ks ++ [(p : Int)], r, 20, rfl, ?_, .inr ⟨rfl, ?_⟩⟩
        · refine walk_good (a := at_) frs' (fun i hi => ?_) w.nd rng' pos' (by simp; omega)
          have hi' : i < ks.length := by simp at hi; omega
          rw [gi_app1 hi', tosi i hi']
        · have hd : (List.drop r (ks ++ [(p : Int)])).length = ks.length + 1 - r := by simp
          rw [gi_drop, gi_drop, hd, show r + (ks.length + 1 - r - 1) = ks.length by omega, gi_app2, ← gi_map (f := fr n) (by simp; omega), frs', Nat.add_zero, r3]; rfl
      · rw [bnd_eq r1, if_neg (by omega), gd_pos (by simp; omega)]
        have w' : Walk n x u0 (gd_ n.drains p).to_ (F ++ [at_]) (ks ++ [(p : Int)]) := {
          frs := frs'
          head := by rw [gi_app1 (by omega)]; exact w.head
          tos := by
            rw [List.map_append, w.tos, List.map_singleton]; cases F <;> rfl
          nd := by
            rw [List.nodup_append]
            refine ⟨w.nd, by simp, fun a ha b hb hab => ?_⟩
            rw [List.mem_singleton] at hb
            exact r2 (by rw [← hb, ← hab]; exact ha)
          node := fun v hv => by
            rcases List.mem_append.1 hv with hv | hv
            · exact w.node v hv
            · rw [List.mem_singleton] at hv
              rw [hv]; exact hin.2.1
          rng := rng'
          pos := pos' }
        obtain ⟨K0, lo, m, h1, h2, h3⟩ := trail_loop hn hx hout q k _ _ _ w' (by simp; omega) (by omega)
        exact ⟨K0, lo, m, h1, h2, h3⟩
end Go.D2

set_option linter.unusedVariables false
set_option linter.unusedSimpArgs false
namespace Go.D2
open Go.Tb
def val (n : Net) (x : List Int) : Int := out (En n x) n.from_
def cnt (n : Net) (x : List Int) : Nat := ((List.range n.drains.length).filter fun i => decide (0 < gi x i)).length
def meas (n : Net) (x : List Int) : Nat := cnt n x + (if 0 < val n x then 1 else 0)
theorem cnt_le (n : Net) (x : List Int) : cnt n x ≤ n.drains.length := by
  have := List.length_filter_le (fun i => decide (0 < gi x i)) (List.range n.drains.length)
  simpa [cnt] using this
theorem val_bnd {n : Net} (hn : Net0 n) {x : List Int} (h : Rem n x) : val n x ≤ 1000 := by
  have h16 := hn.len
  have := out_bnd (M := 20) (by omega) n.from_ (En n x) (fun e he => by
    obtain ⟨i, hi, rfl⟩ := en_mem h.len he
    have := h.bnd i
    simp only; omega)
  rw [en_len h.len] at this
  unfold val
  omega
theorem isTrail_good {n : Net} {x K : List Int} {a : Int} (h : Good n x K) (ha : 1 ≤ a ∧ a ≤ 20) (he : (fr n (gi K 0) = tt n (gi K (K.length - 1))) ∨ (fr n (gi K 0) = n.from_ ∧ tt n (gi K (K.length - 1)) = n.to_)) : isTrailR n ⟨K, a⟩ = true := by
  unfold isTrailR pathB
  simp only [Bool.and_eq_true, Bool.or_eq_true, decide_eq_true_eq, within_iff]
  refine ⟨⟨⟨h.ne, ha⟩, fun i hi => ?_⟩, he⟩
  have h0 := h.rng i hi
  unfold okAt
  simp only [Bool.and_eq_true, Bool.or_eq_true, decide_eq_true_eq, within_iff]
  refine ⟨⟨⟨h0.1, by have := h0.2; show gi K i ≤ _; omega⟩, ?_⟩, ?_⟩
  · rw [Bool.not_eq_true']
    unfold mem
    refine decide_eq_false fun hm => ?_
    have h1 := h.nd
    rw [← List.take_append_drop i K, List.drop_eq_getElem_cons hi] at h1
    refine (List.nodup_append.1 h1).2.2 _ hm K[i] (List.mem_cons_self ..) ?_
    have := gi_at hi
    rw [List.getElem?_eq_getElem hi] at this
    exact (Option.some.inj this).symm
  · by_cases hi0 : i = 0
    · exact .inl hi0
    · right
      have := h.link (i - 1) (by omega)
      rw [show i - 1 + 1 = i by omega] at this
      exact this
/-- What one trail leaves. -/
structure Step (n : Net) (x : List Int) (t : Trail) (x' : List Int) : Prop where
  tr : isTrailR n t = true
  len : t.drains.length ≤ 100
  rem : Rem n x'
  v0 : 0 ≤ val n x'
  vz : val n x = 0 → val n x' = 0
  sum : ∀ j, gi x j = gi x' j + cf t.amount t.drains j
  less : meas n x' < meas n x
theorem taken_step {n : Net} (hn : NetOk n) {x : List Int} (hx : Rem n x) {K : List Int} {m : Int} (hg : Good n x K) (hm : 0 < m) (hv : 0 ≤ val n x) (he : (m = val n x ∧ fr n (gi K 0) = n.from_ ∧ tt n (gi K (K.length - 1)) = n.to_) ∨ (m = 20 ∧ fr n (gi K 0) = tt n (gi K (K.length - 1)))) :
    Step n x ⟨K, mn x K m K.length⟩ (taken x K (mn x K m K.length)) := by
  have h16 := hn.len
  have hkl := hg.len
  have hxl := hx.len
  have hne := hg.ne
  have ⟨m1, m2, m3, m4⟩ := mn_spec hg hm K.length (Nat.le_refl _)
  generalize mn x K m K.length = a at *
  have ha20 : a ≤ 20 := by
    have := m3 0 hne
    have := (hx.bnd (gi K 0).toNat).2
    omega
  have hgi := fun j => taken_gi hxl hg a j
  have hin : ∀ j : Nat, (j : Int) ∈ K → a ≤ gi x j := fun j hj => by
    obtain ⟨i, hi, hij⟩ := mem_gi' hj
    have := m3 i hi
    rw [hij] at this
    exact this
  have hout : ∀ v, out (En n (taken x K a)) v = out (En n x) v + ((if fr n (gi K 0) = v then -a else 0) - (if tt n (gi K (K.length - 1)) = v then -a else 0)) := fun v => by
    have := out_chain (a := -a) (v := v) hxl hg.rng hg.link (K.length - 1) (by omega)
    rw [show K.length - 1 + 1 = K.length by omega, List.take_length] at this
    exact this
  have hval : val n (taken x K a) = if m = val n x ∧ fr n (gi K 0) = n.from_ ∧ tt n (gi K (K.length - 1)) = n.to_ then val n x - a else val n x := by
    unfold val at *
    rw [hout]
    by_cases hc : m = out (En n x) n.from_ ∧ fr n (gi K 0) = n.from_ ∧ tt n (gi K (K.length - 1)) = n.to_
    · rw [if_pos hc, if_pos hc.2.1, hc.2.2, if_neg (fun h => hn.ne h.symm)]; omega
    · rw [if_neg hc]
      rcases he with he | he
      · exact absurd he hc
      · rw [he.2]; omega
  have hcnt : cnt n (taken x K a) ≤ cnt n x := filter_le _ fun j _ h => by
    rw [decide_eq_true_eq] at h ⊢
    have := hgi j
    split at this <;> omega
  refine ⟨isTrail_good hg (by omega) (by
    rcases he with h | h
    · exact .inr h.2
    · exact .inl h.2), by simp only; omega, ?_, ?_, ?_, ?_, ?_⟩
  · refine ⟨?_, fun i => ?_, fun v v1 v2 v3 v4 => ?_⟩
    · unfold taken; rw [fold_len]; exact hxl
    · have := hx.bnd i
      have := hgi i
      by_cases hi : (i : Int) ∈ K
      · have := hin i hi
        rw [if_pos hi] at *; omega
      · rw [if_neg hi] at *; omega
    · rw [hout, hx.con v v1 v2 v3 v4]
      rcases he with ⟨_, h1, h2⟩ | ⟨_, h1⟩
      · rw [h1, h2, if_neg (fun h => v3 h.symm), if_neg (fun h => v4 h.symm)]; rfl
      · rw [h1]; omega
  · rw [hval]
    split
    · rename_i hc; rw [← hc.1]; omega
    · exact hv
  · intro h
    rw [hval, if_neg (fun hc => by have := hc.1; omega)]; exact h
  · intro j
    rw [hgi j, cf_nodup K hg.nd (fun k hk => by
      obtain ⟨i, hi, rfl⟩ := mem_gi' hk
      exact (hg.rng i hi).1)]
    simp only; omega
  · have drop : (∃ j, j < K.length ∧ gi x (gi K j).toNat = a) → cnt n (taken x K a) < cnt n x := by
      rintro ⟨j, j1, j2⟩
      have h0 := hg.rng j j1
      refine filter_lt _ (gi K j).toNat (List.mem_range.2 (by omega)) (fun y _ h => ?_) ?_ ?_
      · rw [decide_eq_true_eq] at h ⊢
        have := hgi y
        split at this <;> omega
      · refine decide_eq_false ?_
        rw [hgi, if_pos (by rw [show (((gi K j).toNat : Nat) : Int) = gi K j by omega]; exact gi_mem j1)]
        omega
      · exact decide_eq_true (by omega)
    unfold meas
    rw [hval]
    rcases m4 with m4 | m4
    · rcases he with he | he
      · rw [if_pos he, if_neg (by omega), if_pos (by omega)]; omega
      · have : gi x (gi K 0).toNat = a := by
          have := m3 0 hne
          have := (hx.bnd (gi K 0).toNat).2
          omega
        have := drop ⟨0, hne, this⟩
        split <;> (repeat' split) <;> omega
    · have := drop m4
      split
      · rename_i hc; rw [← hc.1]
        (repeat' split) <;> omega
      · omega
theorem start_walk {n : Net} {x : List Int} {u : Int} (hu : 0 ≤ u ∧ u < n.nodes) : Walk n x u u [] [] where
  frs := rfl
  head := rfl
  tos := rfl
  nd := by simp
  node := fun v hv => by
    rw [List.nil_append, List.mem_singleton] at hv
    rw [hv]; exact hu
  rng := fun k hk => by cases hk
  pos := fun k hk => by cases hk
theorem Walk.last {n : Net} {x : List Int} {u0 at_ : Int} {F ks : List Int} (hx : x.length = n.drains.length) (w : Walk n x u0 at_ F ks) (h : ks ≠ []) : (∃ i, i < x.length ∧ tt n (i : Int) = at_ ∧ 0 < gi x i) ∧ at_ ≠ u0 := by
  have hl := List.length_pos_iff.2 h
  have hfl := w.flen
  have hk := w.rng _ (gi_mem (show ks.length - 1 < ks.length by omega))
  constructor
  · refine ⟨(gi ks (ks.length - 1)).toNat, by omega, ?_, w.pos _ (gi_mem (by omega))⟩
    rw [show (((gi ks (ks.length - 1)).toNat : Nat) : Int) = gi ks (ks.length - 1) by omega, ← gi_map (f := tt n) (by omega), w.tos, gi_tail, show ks.length - 1 + 1 = F.length by omega, gi_app2]
  · intro e
    have h1 := (List.nodup_append.1 w.nd).2.2 u0 (by
      rw [← w.head, gi_app1 (by omega)]
      exact gi_mem (by omega)) at_ (by simp)
    exact h1 e.symm
theorem trail_way {n : Net} (hn : NetOk n) {x : List Int} (hx : Rem n x) (hv : 0 < val n x) : ∃ t x', drain_trail n x n.from_ n.to_ (val n x) = some (t, x') ∧ Step n x t x' := by
  have hb := val_bnd hn.toNet0 hx
  have h8 := hn.n8
  obtain ⟨K0, lo, m, h1, h2, h3⟩ := trail_loop (u0 := n.from_) (to := n.to_) (most := val n x) hn.toNet0 hx (fun at_ F ks w hne => by
    by_cases hks : ks = []
    · subst hks
      have hF : F = [] := List.length_eq_zero_iff.1 w.flen
      subst hF
      have : at_ = n.from_ := w.head
      subst this
      exact leaves_some hx (.inl hv)
    · have ⟨l1, l2⟩ := w.last hx.len hks
      have hnode := w.node at_ (by simp)
      have h0 := hx.con at_ hnode.1 hnode.2 l2 (fun e => hne ⟨e, hks⟩)
      exact leaves_some hx (.inr ⟨by omega, l1⟩)) 10 FU n.from_ [] [] (start_walk hn.s0) (by simp; omega) (by have := FU_pos; omega)
  have hE : (m = val n x ∧ fr n (gi (K0.drop lo) 0) = n.from_ ∧ tt n (gi (K0.drop lo) ((K0.drop lo).length - 1)) = n.to_) ∨ (m = 20 ∧ fr n (gi (K0.drop lo) 0) = tt n (gi (K0.drop lo) ((K0.drop lo).length - 1))) := h3
  have hm : 0 < m ∧ m ≤ 1000 := by rcases hE with h | h <;> omega
  refine ⟨_, _, ?_, taken_step hn hx h2 hm.1 (by omega) hE⟩
  unfold drain_trail
  exact Eq.trans h1 (k3_eq hn.toNet0 hx rfl h2 hm)
theorem trail_round {n : Net} (hn : NetOk n) {x : List Int} (hx : Rem n x) (hv : val n x = 0) {r : Nat} (hr : r < x.length) (hp : 0 < gi x r) : ∃ t x', drain_trail n x (gd_ n.drains r).from_ (-1) 0 = some (t, x') ∧ Step n x t x' := by
  have h8 := hn.n8
  have hxl := hx.len
  have hin := drain_in hn.toNet0 (i := r) (by omega)
  have htot := hx.total hn.toNet0
  obtain ⟨K0, lo, m, h1, h2, h3⟩ := trail_loop (u0 := (gd_ n.drains r).from_) (to := -1) (most := 0) hn.toNet0 hx (fun at_ F ks w hne => by
    by_cases hks : ks = []
    · subst hks
      have hF : F = [] := List.length_eq_zero_iff.1 w.flen
      subst hF
      have : at_ = (gd_ n.drains r).from_ := w.head
      exact ⟨r, hr, this.symm, hp⟩
    · have ⟨l1, l2⟩ := w.last hx.len hks
      have hnode := w.node at_ (by simp)
      refine leaves_some hx (.inr ⟨?_, l1⟩)
      by_cases e1 : at_ = n.from_
      · rw [e1]; unfold val at hv; omega
      · by_cases e2 : at_ = n.to_
        · rw [e2]; unfold val at hv; omega
        · rw [hx.con at_ hnode.1 hnode.2 e1 e2]; omega) 10 FU (gd_ n.drains r).from_ [] [] (start_walk hin.1) (by simp; omega) (by have := FU_pos; omega)
  have hE : m = 20 ∧ fr n (gi (K0.drop lo) 0) = tt n (gi (K0.drop lo) ((K0.drop lo).length - 1)) := by
    rcases h3 with ⟨_, _, h⟩ | h
    · have h4 := h2.rng ((K0.drop lo).length - 1) (by have := h2.ne; omega)
      have h5 := drain_in hn.toNet0 (i := (gi (K0.drop lo) ((K0.drop lo).length - 1)).toNat) (by omega)
      unfold tt at h
      omega
    · exact h
  have hm : 0 < m ∧ m ≤ 1000 := by omega
  refine ⟨_, _, ?_, taken_step hn hx h2 hm.1 (by omega) (.inr hE)⟩
  unfold drain_trail
  exact Eq.trans h1 (k3_eq hn.toNet0 hx rfl h2 hm)
theorem posL {l : List Int} (hl : l.length ≤ 1000) : ∀ (d i k : Nat), l.length = i + d → d < k → (∃ r : Nat, slices_IndexFunc_int_L1 l drain_Split_1 k (i : Int) = some (r : Int) ∧ r < l.length ∧ 0 < gi l r) ∨ (slices_IndexFunc_int_L1 l drain_Split_1 k (i : Int) = some (-1) ∧ ∀ j, i ≤ j → j < l.length → ¬ 0 < gi l j)
  | 0, i, k + 1, hd, hk => by
    right
    refine ⟨?_, fun j h1 h2 => by omega⟩
    show slices_IndexFunc_int_B1 l drain_Split_1 (slices_IndexFunc_int_L1 l drain_Split_1 k) _ = _
    unfold slices_IndexFunc_int_B1
    rw [if_neg (by omega)]; rfl
  | d + 1, i, k + 1, hd, hk => by
    have e : slices_IndexFunc_int_L1 l drain_Split_1 (k + 1) (i : Int) = slices_IndexFunc_int_B1 l drain_Split_1 (slices_IndexFunc_int_L1 l drain_Split_1 k) (i : Int) := rfl
    rw [e]
    unfold slices_IndexFunc_int_B1
    rw [if_pos (by omega), ix_nat (gi_at (show i < l.length by omega)), bnd_eq (show drain_Split_1 (gi l i) = some (decide (0 < gi l i)) from rfl)]
    by_cases h : 0 < gi l i
    · rw [if_pos (decide_eq_true h)]
      exact .inl ⟨i, rfl, by omega, h⟩
    · rw [if_neg (by simpa using h), gd_pos (by omega)]
      rcases posL hl d (i + 1) k (by omega) (by omega) with ⟨r, h1, h2, h3⟩ | ⟨h1, h2⟩
      · exact .inl ⟨r, h1, h2, h3⟩
      · refine .inr ⟨h1, fun j j1 j2 => ?_⟩
        by_cases hj : j = i
        · subst hj; exact h
        · exact h2 j (by omega) j2
def scf : List Trail → Nat → Int
  | [], _ => 0
  | t :: r, j => cf t.amount t.drains j + scf r j
def AllTr (n : Net) (us : List Trail) : Prop := ∀ t ∈ us, isTrailR n t = true ∧ t.drains.length ≤ 100
theorem AllTr.cons {n : Net} {t : Trail} {us : List Trail} (h : isTrailR n t = true) (hl : t.drains.length ≤ 100) (hu : AllTr n us) : AllTr n (t :: us) := fun y hy => by
  rcases List.mem_cons.1 hy with rfl | hy
  · exact ⟨h, hl⟩
  · exact hu y hy
theorem split_L1 {n : Net} (hn : NetOk n) : ∀ (q k : Nat) (x : List Int) (ts : List Trail), Rem n x → val n x = 0 → meas n x ≤ q → q < k → ts.length + q ≤ 1000 →
    ∃ us, drain_Split_L1 n k x ts = some (ts ++ us, 0) ∧ us.length ≤ q ∧ AllTr n us ∧ ∀ j, gi x j = scf us j
  | q, k + 1, x, ts, hx, hv, hm, hk, hl => by
    have h16 := hn.len
    have hxl := hx.len
    have e : drain_Split_L1 n (k + 1) x ts = drain_Split_B1 n (drain_Split_L1 n k) x ts := rfl
    rw [e]
    unfold drain_Split_B1
    have hf : slices_IndexFunc_int x drain_Split_1 = slices_IndexFunc_int_L1 x drain_Split_1 FU ((0 : Nat) : Int) := rfl
    rcases posL (l := x) (by omega) x.length 0 FU (by omega) (by have := FU_pos; omega) with ⟨r, h1, h2, h3⟩ | ⟨h1, h2⟩
    · obtain ⟨t, x', t1, t2⟩ := trail_round hn hx hv h2 h3
      have hless := t2.less
      cases q with
      | zero => omega
      | succ q =>
        rw [bnd_eq (hf.trans h1), if_neg (by omega), ix_nat (gd_at (by omega)), bnd_eq t1, gd_pos (by omega)]
        obtain ⟨us, u1, u2, u3, u4⟩ := split_L1 hn q k x' (ts ++ [t]) t2.rem (t2.vz hv) (by omega) (by omega) (by simp; omega)
        refine ⟨t :: us, by rw [u1]; simp, by simp; omega, u3.cons t2.tr t2.len, fun j => ?_⟩
        rw [t2.sum j, u4 j]
        simp only [scf]; omega
    · rw [bnd_eq (hf.trans h1), if_pos (by omega)]
      refine ⟨[], by simp, Nat.zero_le _, (fun t ht => by cases ht), fun j => ?_⟩
      have := (hx.bnd j).1
      by_cases hj : j < x.length
      · have := h2 j (by omega) hj
        simp only [scf]; omega
      · simp only [scf]
        unfold gi
        simp [List.getD_eq_getElem?_getD, hj]
theorem split_L2 {n : Net} (hn : NetOk n) : ∀ (q k : Nat) (x : List Int) (ts : List Trail), Rem n x → 0 ≤ val n x → meas n x ≤ q → q < k → ts.length + q ≤ 1000 →
    ∃ us, drain_Split_L2 n k (val n x) x ts = some (ts ++ us, 0) ∧ us.length ≤ q ∧ AllTr n us ∧ ∀ j, gi x j = scf us j
  | q, k + 1, x, ts, hx, hv, hm, hk, hl => by
    have h16 := hn.len
    have e : drain_Split_L2 n (k + 1) (val n x) x ts = drain_Split_B2 n (drain_Split_L2 n k) (val n x) x ts := rfl
    rw [e]
    unfold drain_Split_B2 drain_Split_k1
    by_cases h0 : 0 < val n x
    · obtain ⟨t, x', t1, t2⟩ := trail_way hn hx h0
      have hless := t2.less
      cases q with
      | zero => omega
      | succ q =>
        rw [if_pos h0, bnd_eq t1, gd_pos (by omega), bnd_eq (value_eq t2.rem.len (by omega) t2.rem.fb n.from_)]
        obtain ⟨us, u1, u2, u3, u4⟩ := split_L2 hn q k x' (ts ++ [t]) t2.rem t2.v0 (by omega) (by omega) (by simp; omega)
        refine ⟨t :: us, ?_, by simp; omega, u3.cons t2.tr t2.len, fun j => ?_⟩
        · refine Eq.trans (show _ = drain_Split_L2 n k (val n x') x' (ts ++ [t]) from rfl) ?_
          rw [u1]; simp
        · rw [t2.sum j, u4 j]
          simp only [scf]; omega
    · rw [if_neg h0]
      exact split_L1 hn q FU x ts hx (by omega) hm (by have := FU_pos; omega) hl
theorem addT_sum {n : Net} : ∀ (us : List Trail) (l : List Int), AllTr n us → l.length = n.drains.length → (us.foldl addT l).length = n.drains.length ∧ ∀ j, gi (us.foldl addT l) j = gi l j + scf us j
  | [], l, _, hl => ⟨hl, fun j => by simp [scf]⟩
  | t :: r, l, h, hl => by
    have ht := h t (List.mem_cons_self ..)
    have hp : pathB n t = true := by
      have := ht.1
      unfold isTrailR at this
      rw [Bool.and_eq_true] at this
      exact this.1
    have ⟨_, hk⟩ := trail_ks hp
    have hl' : (addT l t).length = n.drains.length := by unfold addT; rw [fold_len]; exact hl
    have ⟨i1, i2⟩ := addT_sum r (addT l t) (fun y hy => h y (List.mem_cons_of_mem _ hy)) hl'
    refine ⟨i1, fun j => ?_⟩
    rw [List.foldl_cons, i2 j]
    unfold addT
    rw [gi_fold _ _ (fun k hkm => by
      obtain ⟨i, hi, rfl⟩ := mem_gi' hkm
      have := hk i hi
      omega)]
    simp only [scf]; omega
theorem Split_sum {n : Net} (hn : NetOk n) {x : List Int} (hx : Rem n x) (hv : 0 ≤ val n x) (hc : checkR n x = (val n x, 0)) : ∃ us, drain_Split n x = some (us, 0) ∧ us.length ≤ 40 ∧ (∀ t ∈ us, t.drains.length ≤ 100) ∧ sumsR n us = (x, 0) := by
  have h16 := hn.len
  have hxl := hx.len
  have hm : meas n x ≤ 17 := by
    have := cnt_le n x
    unfold meas
    split <;> omega
  obtain ⟨us, u1, u2, u3, u4⟩ := split_L2 hn 17 FU x [] hx hv hm (by have := FU_pos; omega) (by simp)
  refine ⟨us, ?_, by omega, fun t ht => (u3 t ht).2, ?_⟩
  · unfold drain_Split
    rw [bnd_eq (CheckFlow_eq (by omega) (by omega)), hc, if_pos rfl]
    show (if val n x < 0 then _ else _) = _
    rw [if_neg (by omega), bnd_eq (clone_eq (by omega))]
    exact u1
  · unfold sumsR
    rw [if_pos (val0.2 hn), if_neg (by omega), if_pos (fun j hj => (u3 _ (List.mem_of_getElem? (gt_at hj))).1)]
    have ⟨s1, s2⟩ := addT_sum us (zeros n) u3 (by unfold zeros; simp)
    have : sumTo_ n us us.length = x := by
      unfold sumTo_
      rw [List.take_length]
      refine gi_ext (by omega) fun j hj => ?_
      rw [s2 j, u4 j]
      have : gi (zeros n) j = 0 := by unfold zeros gi; simp [List.getD_eq_getElem?_getD, List.getElem?_replicate]; split <;> rfl
      omega
    rw [this]
end Go.D2

set_option linter.unusedVariables false
set_option linter.unusedSimpArgs false
namespace Go.D2
open Go.Tb
theorem mostN_nonneg {n : Net} (hn : Net0 n) : 0 ≤ mostN n := by
  obtain ⟨S, _, _, h⟩ := most_at hn
  rw [← h]
  exact (cutD_bnd S n.drains (fun d hd => by have := hn.dr d hd; omega)).1
theorem maxed_rem {n : Net} (hn : NetOk n) {l : List Left} (h : Maxed n l) : Rem n (l.map Left.runs) ∧ val n (l.map Left.runs) = mostN n := by
  have hll := maxed_len h
  have hE := flowL_en h.1.drains
  refine ⟨⟨by simpa using hll, fun i => ?_, fun v v1 v2 v3 v4 => ?_⟩, ?_⟩
  · by_cases hi : i < l.length
    · have hx : l[i]? = some l[i] := by simp [hi]
      have h1 : (l.map Left.runs)[i]? = some l[i].runs := by rw [List.getElem?_map, hx]; rfl
      have h2 : n.drains[i]? = some l[i].drain := by rw [← h.1.drains, List.getElem?_map, hx]; rfl
      have h3 := hn.w20 _ (List.mem_of_getElem? h2)
      have := h.1.caps l[i] (List.getElem_mem _)
      rw [gi_of h1]; omega
    · have : gi (l.map Left.runs) i = 0 := by unfold gi; simp [List.getD_eq_getElem?_getD, hi]
      omega
  · rw [← hE]
    have := hn.n2
    exact h.1.flow.con v v1 (by omega) v3 v4
  · unfold val
    rw [← hE]
    exact maxed_val hn.toNet0 h
theorem Split_flow {n : Net} (hn : NetOk n) {l : List Left} (h : Maxed n l) : ∃ us, drain_Split n (l.map Left.runs) = some (us, 0) ∧ drain_Sum n us = some (l.map Left.runs, 0) := by
  have h16 := hn.len
  have ⟨h1, h2⟩ := maxed_rem hn h
  have hm := mostN_nonneg hn.toNet0
  obtain ⟨us, u1, u2, u3, u4⟩ := Split_sum hn h1 (by omega) (by rw [maxed_check hn h, h2])
  exact ⟨us, u1, by rw [Sum_eq (by omega) u3 (by omega), u4]⟩
theorem law_DrainBack (n : Net) (hb : n.drains.length ≤ 9223372036854775807) : law02_DrainBack n = some true := by
  unfold law02_DrainBack
  rw [bnd_eq (Long_eq n)]
  by_cases hL : (100 : Int) < (n.drains.length : Int)
  · rw [if_pos (by simpa using hL), bnd_eq known_eq]
  · have hl : n.drains.length ≤ 1000 := by omega
    rw [if_neg (by simpa using hL)]
    rcases Flow_eq hl with ⟨hn, l, l1, l2, l3⟩ | ⟨hv, h1⟩
    · obtain ⟨us, u1, u2⟩ := Split_flow hn l1
      have := maxed_len l1
      rw [bnd_eq l3, if_pos rfl, bnd_eq u1, bnd_eq u2, if_pos rfl, if_pos rfl, bnd_eq (SameInts_self (by simp; omega)), if_pos rfl, bnd_eq known_eq]
    · rw [bnd_eq h1, if_neg hv, bnd_eq known_eq]
end Go.D2
