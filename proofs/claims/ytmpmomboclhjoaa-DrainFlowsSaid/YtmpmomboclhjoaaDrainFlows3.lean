/- Lemmas and walks that the proof of this claim uses: D2p1, D2p2, D2p3, D2p4. -/
import Derived.Test.YtmpmomboclhjoaaDrainFlows2
set_option linter.unusedVariables false
set_option linter.unusedSimpArgs false
namespace Go.D2
open Go.Tb
theorem known_eq : law02_known = some true := by decide +kernel
theorem for0 {S R : Type} (N : Nat) (g : Nat → S) (L : Nat → S → Int → Option R) (yes : Option R) {s0 : S} (h0 : g 0 = s0)
    (step : ∀ n i : Nat, i < N → L (n + 1) (g i) (i : Int) = L n (g (i + 1)) ((i + 1 : Nat) : Int))
    (stop : ∀ n : Nat, L (n + 1) (g N) (N : Int) = yes) (hN : N ≤ 9223372036854775807) : L FU s0 0 = yes := by
  rw [← h0]; exact for_loop0 N g L yes step stop hN
def within (n lo hi : Int) : Bool := decide (lo ≤ n) && decide (n ≤ hi)
theorem within_iff {n lo hi : Int} : within n lo hi = true ↔ lo ≤ n ∧ n ≤ hi := by unfold within; simp
theorem from_eq (n lo hi : Int) : drain_from n lo hi = some (within n lo hi) := by
  unfold drain_from within
  by_cases h : lo ≤ n <;> simp [h]
theorem within_eq (n lo hi : Int) : ref02_within n lo hi = some (within n lo hi) := by
  unfold ref02_within within
  by_cases h : lo ≤ n <;> simp [h]
def isNode (n : Net) (i : Int) : Bool := within i 0 (n.nodes - 1)
theorem isNode_eq {n : Net} (h : InR (n.nodes - 1)) (i : Int) : drain_isNode n i = some (isNode n i) := by
  unfold drain_isNode isNode
  rw [gd_pos h, bnd_eq (from_eq _ _ _)]
def okD (n : Net) (d : Drain) : Bool := isNode n d.from_ && isNode n d.to_ && !decide (d.from_ = d.to_) && within d.width 0 20
def okH (n : Net) : Bool := within n.nodes 2 8 && isNode n n.from_ && isNode n n.to_ && !decide (n.from_ = n.to_)
def validate (n : Net) : Int := if okH n = true then (if 16 < n.drains.length then 3 else if n.drains.all (okD n) = true then 0 else 1) else 1
theorem Validate_eq {n : Net} (hl : n.drains.length ≤ 1000) : drain_Validate n = some (validate n) := by
  unfold drain_Validate validate okH
  rw [bnd_eq (from_eq _ _ _)]
  cases h1 : within n.nodes 2 8
  · rw [if_neg (by simp)]; unfold drain_Validate_k3; rw [if_pos rfl, if_neg (by simp)]
  · have hn := within_iff.1 h1
    have hr : InR (n.nodes - 1) := by omega
    rw [if_pos rfl, bnd_eq (isNode_eq hr _)]
    cases h2 : isNode n n.from_
    · rw [if_neg (by simp)]; unfold drain_Validate_k3; rw [if_pos rfl, if_neg (by simp)]
    · rw [if_pos rfl, bnd_eq (isNode_eq hr _)]
      cases h3 : isNode n n.to_
      · rw [if_neg (by simp)]; unfold drain_Validate_k3; rw [if_pos rfl, if_neg (by simp)]
      · rw [if_pos rfl]
        unfold drain_Validate_k3
        by_cases h4 : n.from_ = n.to_
        · rw [if_pos (by simp [h4]), if_neg (show ¬ (true && true && true && !decide (n.from_ = n.to_)) = true by simp [h4])]
        · rw [if_neg (by simp [h4]), if_pos (show (true && true && true && !decide (n.from_ = n.to_)) = true by simp [h4])]
          by_cases h5 : 16 < n.drains.length
          · rw [if_pos (by omega), if_pos h5]
          · rw [if_neg (by omega), if_neg h5, list_loop0 n.drains (okD n) (drain_Validate_L1 n) (some 0) (some 1) (fun m i x hx => ?_) (fun m => ?_) (by omega)]
            · split <;> rfl
            · have := lt_of_at hx
              show drain_Validate_B1 n (drain_Validate_L1 n m) _ = _
              unfold drain_Validate_B1 okD
              rw [if_pos (by omega), ix_nat hx, bnd_eq (isNode_eq hr _)]
              unfold drain_Validate_k2
              cases isNode n x.from_
              · rw [if_neg (by simp), if_pos rfl, if_neg (by simp)]
              · rw [if_pos rfl, bnd_eq (isNode_eq hr _)]
                cases isNode n x.to_
                · rw [if_neg (by simp), if_pos rfl, if_neg (by simp)]
                · rw [if_pos rfl]
                  by_cases h6 : x.from_ = x.to_
                  · rw [if_pos h6, if_pos rfl, if_neg (by simp [h6])]
                  · rw [if_neg h6, bnd_eq (from_eq _ _ _)]
                    cases within x.width 0 20
                    · rw [if_pos (by rfl), if_neg (by simp)]
                    · rw [if_neg (by simp), gd_pos (by omega), if_pos (by simp [h6])]; rfl
            · show drain_Validate_B1 n (drain_Validate_L1 n m) _ = _
              unfold drain_Validate_B1
              rw [if_neg (by omega)]; rfl
theorem rValidate_eq {n : Net} (hl : n.drains.length ≤ 1000) : ref02_Validate n = some (validate n) := by
  unfold ref02_Validate validate okH isNode
  rw [bnd_eq (within_eq _ _ _)]
  cases h1 : within n.nodes 2 8
  · rw [if_neg (by simp)]; unfold ref02_Validate_k3; rw [if_pos rfl, if_neg (by simp)]
  · have hn := within_iff.1 h1
    have hr : InR (n.nodes - 1) := by omega
    rw [if_pos rfl, gd_pos hr, bnd_eq (within_eq _ _ _)]
    cases h2 : within n.from_ 0 (n.nodes - 1)
    · rw [if_neg (by simp)]; unfold ref02_Validate_k3; rw [if_pos rfl, if_neg (by simp)]
    · rw [if_pos rfl, gd_pos hr, bnd_eq (within_eq _ _ _)]
      cases h3 : within n.to_ 0 (n.nodes - 1)
      · rw [if_neg (by simp)]; unfold ref02_Validate_k3; rw [if_pos rfl, if_neg (by simp)]
      · rw [if_pos rfl]
        unfold ref02_Validate_k3
        by_cases h4 : n.from_ = n.to_
        · rw [if_pos (by simp [h4]), if_neg (show ¬ (true && true && true && !decide (n.from_ = n.to_)) = true by simp [h4])]
        · rw [if_neg (by simp [h4]), if_pos (show (true && true && true && !decide (n.from_ = n.to_)) = true by simp [h4])]
          by_cases h5 : 16 < n.drains.length
          · rw [if_pos (by omega), if_pos h5]
          · rw [if_neg (by omega), if_neg h5, list_loop0 n.drains (okD n) (ref02_Validate_L1 n) (some 0) (some 1) (fun m i x hx => ?_) (fun m => ?_) (by omega)]
            · split <;> rfl
            · have := lt_of_at hx
              show ref02_Validate_B1 n (ref02_Validate_L1 n m) _ = _
              unfold ref02_Validate_B1 okD isNode
              rw [if_pos (by omega), ix_nat hx, gd_pos hr, bnd_eq (within_eq _ _ _)]
              unfold ref02_Validate_k2
              cases within x.from_ 0 (n.nodes - 1)
              · rw [if_neg (by simp), if_pos rfl, if_neg (by simp)]
              · rw [if_pos rfl, gd_pos hr, bnd_eq (within_eq _ _ _)]
                cases within x.to_ 0 (n.nodes - 1)
                · rw [if_neg (by simp), if_pos rfl, if_neg (by simp)]
                · rw [if_pos rfl]
                  by_cases h6 : x.from_ = x.to_
                  · rw [if_pos h6, if_pos rfl, if_neg (by simp [h6])]
                  · rw [if_neg h6, bnd_eq (within_eq _ _ _)]
                    cases within x.width 0 20
                    · rw [if_pos (by rfl), if_neg (by simp)]
                    · rw [if_neg (by simp), gd_pos (by omega), if_pos (by simp [h6])]; rfl
            · show ref02_Validate_B1 n (ref02_Validate_L1 n m) _ = _
              unfold ref02_Validate_B1
              rw [if_neg (by omega)]; rfl
/-- A net that is right, but for how wide its drains are. -/
structure Net0 (n : Net) : Prop where
  n2 : 2 ≤ n.nodes
  n8 : n.nodes ≤ 8
  s0 : 0 ≤ n.from_ ∧ n.from_ < n.nodes
  t0 : 0 ≤ n.to_ ∧ n.to_ < n.nodes
  ne : n.from_ ≠ n.to_
  len : n.drains.length ≤ 16
  dr : ∀ d ∈ n.drains, (0 ≤ d.from_ ∧ d.from_ < n.nodes) ∧ (0 ≤ d.to_ ∧ d.to_ < n.nodes) ∧ d.from_ ≠ d.to_ ∧ 0 ≤ d.width ∧ d.width ≤ 1000
structure NetOk (n : Net) : Prop extends Net0 n where
  w20 : ∀ d ∈ n.drains, d.width ≤ 20
theorem val0 {n : Net} : validate n = 0 ↔ NetOk n := by
  unfold validate
  constructor
  · intro h
    split at h
    · rename_i hh
      split at h
      · cases h
      · split at h
        · rename_i hl ha
          unfold okH isNode at hh
          simp only [Bool.and_eq_true, within_iff, Bool.not_eq_true', decide_eq_false_iff_not] at hh
          obtain ⟨⟨⟨h1, h2⟩, h3⟩, h4⟩ := hh
          have hd : ∀ d ∈ n.drains, (0 ≤ d.from_ ∧ d.from_ ≤ n.nodes - 1) ∧ (0 ≤ d.to_ ∧ d.to_ ≤ n.nodes - 1) ∧ d.from_ ≠ d.to_ ∧ 0 ≤ d.width ∧ d.width ≤ 20 := fun d hd => by
            have := List.all_eq_true.1 ha d hd
            unfold okD isNode at this
            simp only [Bool.and_eq_true, within_iff, Bool.not_eq_true', decide_eq_false_iff_not] at this
            obtain ⟨⟨⟨a1, a2⟩, a3⟩, a4⟩ := this
            exact ⟨a1, a2, a3, a4.1, a4.2⟩
          exact ⟨⟨h1.1, h1.2, by omega, by omega, h4, by omega, fun d hd' => by have := hd d hd'; exact ⟨by omega, by omega, this.2.2.1, by omega, by omega⟩⟩, fun d hd' => (hd d hd').2.2.2.2⟩
        · cases h
    · cases h
  · intro h
    rw [if_pos, if_neg (by have := h.len; omega), if_pos]
    · rw [List.all_eq_true]
      intro d hd
      have := h.dr d hd
      have h20 := h.w20 d hd
      unfold okD isNode
      simp only [Bool.and_eq_true, within_iff, Bool.not_eq_true', decide_eq_false_iff_not]
      exact ⟨⟨⟨by omega, by omega⟩, this.2.2.1⟩, by omega⟩
    · have h1 := h.n2; have h2 := h.n8; have h3 := h.s0; have h4 := h.t0
      unfold okH isNode
      simp only [Bool.and_eq_true, within_iff, Bool.not_eq_true', decide_eq_false_iff_not]
      exact ⟨⟨⟨by omega, by omega⟩, by omega⟩, h.ne⟩
end Go.D2

set_option linter.unusedVariables false
set_option linter.unusedSimpArgs false
namespace Go.D2
open Go.Tb
def start (n : Net) : List Left := n.drains.map fun d => ⟨d, 0⟩
end Go.D2

set_option linter.unusedVariables false
set_option linter.unusedSimpArgs false
namespace Go.D2
open Go.Tb
def En (n : Net) (fl : List Int) : List Ed := List.zipWith (fun d f => (⟨d.from_, d.to_, d.width, f⟩ : Ed)) n.drains fl
theorem en_at {n : Net} {fl : List Int} {i : Nat} {d : Drain} {f : Int} (h1 : n.drains[i]? = some d) (h2 : fl[i]? = some f) : (En n fl)[i]? = some ⟨d.from_, d.to_, d.width, f⟩ := by
  unfold En
  rw [List.getElem?_zipWith, h1, h2]
theorem en_len {n : Net} {fl : List Int} (h : fl.length = n.drains.length) : (En n fl).length = n.drains.length := by unfold En; simp; omega
theorem out_take {e : Ed} (v : Int) : ∀ {E : List Ed} {i : Nat}, E[i]? = some e → out (E.take (i + 1)) v = out (E.take i) v + con1 e v
  | [], i, h => by simp at h
  | x :: r, 0, h => by simp at h; subst h; simp [out, con1]
  | x :: r, i + 1, h => by
    have := out_take (e := e) v (E := r) (i := i) (by simpa using h)
    simp only [List.take_succ_cons, out_cons, this]; omega
theorem out_bnd {M : Int} (hM : 0 ≤ M) (v : Int) : ∀ E : List Ed, (∀ e ∈ E, -M ≤ e.f ∧ e.f ≤ M) → -(2 * M) * (E.length : Int) ≤ out E v ∧ out E v ≤ 2 * M * (E.length : Int)
  | [], _ => by simp [out]
  | e :: r, h => by
    have ih := out_bnd hM v r (fun x hx => h x (List.mem_cons_of_mem _ hx))
    have he := h e (List.mem_cons_self ..)
    have e1 : ((List.length (e :: r) : Nat) : Int) = (r.length : Int) + 1 := by simp
    rw [out_cons, e1, Int.mul_add, Int.mul_add]
    have : -(2 * M) ≤ con1 e v ∧ con1 e v ≤ 2 * M := by
      unfold con1
      split <;> split <;> omega
    omega
def FBnd (fl : List Int) : Prop := ∀ x ∈ fl, -1000000 ≤ x ∧ x ≤ 1000000
theorem en_bnd {n : Net} {fl : List Int} (h : FBnd fl) : ∀ e ∈ En n fl, -1000000 ≤ e.f ∧ e.f ≤ 1000000 := fun e he => by
  obtain ⟨i, hi⟩ := List.getElem?_of_mem he
  unfold En at hi
  rw [List.getElem?_zipWith] at hi
  cases h1 : n.drains[i]? with
  | none => rw [h1] at hi; cases hi
  | some d =>
    cases h2 : fl[i]? with
    | none => rw [h1, h2] at hi; cases hi
    | some f =>
      rw [h1, h2] at hi; cases hi
      exact h f (List.mem_of_getElem? h2)
theorem part_bnd {n : Net} {fl : List Int} (h : FBnd fl) (hl : n.drains.length ≤ 1000) (v : Int) (i : Nat) : -2000000000 ≤ out ((En n fl).take i) v ∧ out ((En n fl).take i) v ≤ 2000000000 := by
  have := out_bnd (M := 1000000) (by omega) v ((En n fl).take i) (fun e he => en_bnd h e (List.mem_of_mem_take he))
  have h2 : ((En n fl).take i).length ≤ 1000 := by
    rw [List.length_take]
    have : (En n fl).length ≤ n.drains.length := by unfold En; simp; omega
    omega
  omega
theorem value_eq {n : Net} {fl : List Int} (hf : fl.length = n.drains.length) (hl : n.drains.length ≤ 1000) (hb : FBnd fl) (v : Int) : drain_value n fl v = some (out (En n fl) v) := by
  have hE := en_len hf
  unfold drain_value
  refine Eq.trans (for0 n.drains.length (fun i => out ((En n fl).take i) v) (fun k s i => drain_value_L1 n fl v k s i) (some (out (En n fl) v)) rfl (fun k i hi => ?_) (fun k => ?_) (by omega)) rfl
  · have hx : n.drains[i]? = some n.drains[i] := by simp [hi]
    have hy : fl[i]? = some (fl[i]'(by omega)) := List.getElem?_eq_getElem _
    have he := out_take v (en_at hx hy)
    have b1 := part_bnd hb hl v i
    have b2 := hb _ (List.mem_of_getElem? hy)
    show drain_value_B1 n fl v (drain_value_L1 n fl v k) _ _ = _
    unfold drain_value_B1 drain_value_k3 drain_value_k2
    rw [if_pos (by omega), ix_nat hx, he]
    unfold con1
    simp only
    by_cases h1 : n.drains[i].from_ = v
    · rw [if_pos h1, ix_nat hy, gd_pos (by omega), if_pos h1]
      by_cases h2 : n.drains[i].to_ = v
      · rw [if_pos h2, ix_nat hy, gd_pos (by omega), gd_pos (by omega), if_pos h2]
        congr 1; omega
      · rw [if_neg h2, gd_pos (by omega), if_neg h2]
        congr 1; omega
    · rw [if_neg h1, if_neg h1]
      by_cases h2 : n.drains[i].to_ = v
      · rw [if_pos h2, ix_nat hy, gd_pos (by omega), gd_pos (by omega), if_pos h2]
        congr 1; omega
      · rw [if_neg h2, gd_pos (by omega), if_neg h2]
        congr 1; omega
  · show drain_value_B1 n fl v (drain_value_L1 n fl v k) _ _ = _
    unfold drain_value_B1
    rw [if_neg (by omega)]
    unfold drain_value_k1
    rw [List.take_of_length_le (by omega)]
theorem rvalue_eq {n : Net} {fl : List Int} (hf : fl.length = n.drains.length) (hl : n.drains.length ≤ 1000) (hb : FBnd fl) (v : Int) : ref02_value n fl v = some (out (En n fl) v) := by
  have hE := en_len hf
  unfold ref02_value
  refine Eq.trans (for0 n.drains.length (fun i => out ((En n fl).take i) v) (fun k s i => ref02_value_L1 n fl v k s i) (some (out (En n fl) v)) rfl (fun k i hi => ?_) (fun k => ?_) (by omega)) rfl
  · have hx : n.drains[i]? = some n.drains[i] := by simp [hi]
    have hy : fl[i]? = some (fl[i]'(by omega)) := List.getElem?_eq_getElem _
    have he := out_take v (en_at hx hy)
    have b1 := part_bnd hb hl v i
    have b2 := hb _ (List.mem_of_getElem? hy)
    show ref02_value_B1 n fl v (ref02_value_L1 n fl v k) _ _ = _
    unfold ref02_value_B1 ref02_value_k3 ref02_value_k2
    rw [if_pos (by omega), ix_nat hx, he]
    unfold con1
    simp only
    by_cases h1 : n.drains[i].from_ = v
    · rw [if_pos h1, ix_nat hy, gd_pos (by omega), ix_nat hx, if_pos h1]
      by_cases h2 : n.drains[i].to_ = v
      · rw [if_pos h2, ix_nat hy, gd_pos (by omega), gd_pos (by omega), if_pos h2]
        congr 1; omega
      · rw [if_neg h2, gd_pos (by omega), if_neg h2]
        congr 1; omega
    · rw [if_neg h1, ix_nat hx, if_neg h1]
      by_cases h2 : n.drains[i].to_ = v
      · rw [if_pos h2, ix_nat hy, gd_pos (by omega), gd_pos (by omega), if_pos h2]
        congr 1; omega
      · rw [if_neg h2, gd_pos (by omega), if_neg h2]
        congr 1; omega
  · show ref02_value_B1 n fl v (ref02_value_L1 n fl v k) _ _ = _
    unfold ref02_value_B1
    rw [if_neg (by omega)]
    unfold ref02_value_k1
    rw [List.take_of_length_le (by omega)]
end Go.D2

set_option linter.unusedVariables false
set_option linter.unusedSimpArgs false
namespace Go.D2
open Go.Tb
def gi (l : List Int) (i : Nat) : Int := l.getD i 0
theorem gi_at {l : List Int} {i : Nat} (h : i < l.length) : l[i]? = some (gi l i) := by simp [gi, List.getD, h]
theorem gi_of {l : List Int} {i : Nat} {x : Int} (h : l[i]? = some x) : gi l i = x := by simp [gi, List.getD, h]
def gd_ (l : List Drain) (i : Nat) : Drain := l.getD i ⟨0, 0, 0⟩
theorem gd_at {l : List Drain} {i : Nat} (h : i < l.length) : l[i]? = some (gd_ l i) := by simp [gd_, List.getD, h]
def capsB (n : Net) (fl : List Int) : Bool := decide (∀ i, i < fl.length → within (gi fl i) 0 (gd_ n.drains i).width = true)
def conB (n : Net) (fl : List Int) : Bool := decide (∀ v, v < n.nodes.toNat → (decide ((v : Int) = n.from_) || decide ((v : Int) = n.to_) || decide (out (En n fl) v = 0)) = true)
def checkR (n : Net) (fl : List Int) : Int × Int :=
  if validate n = 0 then (if fl.length = n.drains.length then (if capsB n fl = true then (if conB n fl = true then (out (En n fl) n.from_, 0) else (0, 7)) else (0, 6)) else (0, 1)) else (0, validate n)
theorem caps_fbnd {n : Net} (hn : NetOk n) {fl : List Int} (hl : fl.length = n.drains.length) (h : capsB n fl = true) : ∀ x ∈ fl, 0 ≤ x ∧ x ≤ 20 := fun x hx => by
  obtain ⟨i, hi⟩ := List.getElem?_of_mem hx
  have hlt := lt_at hi
  have := within_iff.1 (of_decide_eq_true h i hlt)
  rw [gi_of hi] at this
  have hd := hn.w20 _ (List.mem_of_getElem? (gd_at (l := n.drains) (i := i) (by omega)))
  omega
theorem con_loop {R : Type} {n : Net} (hn : Net0 n) (fl : List Int) (L : Nat → Int → Option R) (yes no : Option R)
    (step : ∀ k v : Nat, v < n.nodes.toNat → L (k + 1) (v : Int) = if (decide ((v : Int) = n.from_) || decide ((v : Int) = n.to_) || decide (out (En n fl) v = 0)) = true then L k ((v + 1 : Nat) : Int) else no)
    (stop : ∀ k : Nat, L (k + 1) (n.nodes.toNat : Int) = yes) : L FU 0 = if conB n fl = true then yes else no := by
  have h8 := hn.n8
  have h := scan_loop0 n.nodes.toNat (fun v => (decide ((v : Int) = n.from_) || decide ((v : Int) = n.to_) || decide (out (En n fl) v = 0))) (fun _ => ()) (fun k _ i => L k i) yes no step stop (by omega)
  refine Eq.trans h ?_
  unfold conB
  by_cases hc : ∀ v, v < n.nodes.toNat → (decide ((v : Int) = n.from_) || decide ((v : Int) = n.to_) || decide (out (En n fl) v = 0)) = true
  · rw [if_pos hc, decide_eq_true hc, if_pos rfl]
  · rw [if_neg hc, decide_eq_false hc, if_neg (by simp)]
theorem CheckFlow_eq {n : Net} (hl : n.drains.length ≤ 1000) {fl : List Int} (hf : fl.length ≤ 1000) : drain_CheckFlow n fl = some (checkR n fl) := by
  unfold drain_CheckFlow checkR
  rw [bnd_eq (Validate_eq hl)]
  by_cases hv : validate n = 0
  · have hn := val0.1 hv
    have h8 := hn.n8
    have h2 := hn.n2
    rw [if_pos hv, if_pos hv]
    by_cases hln : fl.length = n.drains.length
    · rw [if_pos (by omega), if_pos hln]
      have h := scan_loop0 fl.length (fun i => within (gi fl i) 0 (gd_ n.drains i).width) (fun _ => ()) (fun k _ i => drain_CheckFlow_L2 n fl k i) (drain_CheckFlow_k3 n fl) (some ((0 : Int), (6 : Int))) (fun k i hi => ?_) (fun k => ?_) (by omega)
      · refine Eq.trans h ?_
        unfold capsB
        by_cases hc : ∀ i, i < fl.length → within (gi fl i) 0 (gd_ n.drains i).width = true
        · have hcb : capsB n fl = true := decide_eq_true hc
          have hfb := caps_fbnd hn hln hcb
          have hfb' : FBnd fl := fun x hx => by have := hfb x hx; omega
          rw [if_pos hc, decide_eq_true hc, if_pos rfl]
          unfold drain_CheckFlow_k3
          rw [con_loop hn.toNet0 fl (drain_CheckFlow_L1 n fl) (some (out (En n fl) n.from_, 0)) (some ((0 : Int), (7 : Int))) (fun k v hv => ?_) (fun k => ?_)]
          · split <;> rfl
          · show drain_CheckFlow_B1 n fl (drain_CheckFlow_L1 n fl k) _ = _
            unfold drain_CheckFlow_B1 drain_CheckFlow_k2
            rw [if_pos (by omega)]
            by_cases h1 : (v : Int) = n.from_
            · rw [if_pos h1, if_neg (by simp), gd_pos (by omega), if_pos (by simp [h1])]; rfl
            · rw [if_neg h1]
              by_cases h3 : (v : Int) = n.to_
              · rw [if_pos h3, if_neg (by simp), gd_pos (by omega), if_pos (by simp [h3])]; rfl
              · rw [if_neg h3, bnd_eq (value_eq hln hl hfb' _)]
                by_cases h4 : out (En n fl) v = 0
                · rw [if_neg (by simp [h4]), gd_pos (by omega), if_pos (by simp [h4])]; rfl
                · rw [if_pos (by simp [h4]), if_neg (by simp [h1, h3, h4])]
          · show drain_CheckFlow_B1 n fl (drain_CheckFlow_L1 n fl k) _ = _
            unfold drain_CheckFlow_B1
            rw [if_neg (by omega)]
            unfold drain_CheckFlow_k1
            rw [bnd_eq (value_eq hln hl hfb' _)]
        · rw [if_neg hc, decide_eq_false hc, if_neg (by simp)]
      · show drain_CheckFlow_B2 n fl (drain_CheckFlow_L2 n fl k) _ = _
        unfold drain_CheckFlow_B2
        rw [if_pos (by omega), ix_nat (gi_at hi), ix_nat (gd_at (by omega)), bnd_eq (from_eq _ _ _)]
        by_cases hw : within (gi fl i) 0 (gd_ n.drains i).width = true
        · rw [if_pos hw, gd_pos (by omega), if_pos hw]; rfl
        · rw [if_neg hw, if_neg hw]
      · show drain_CheckFlow_B2 n fl (drain_CheckFlow_L2 n fl k) _ = _
        unfold drain_CheckFlow_B2
        rw [if_neg (by omega)]
    · rw [if_neg (by omega), if_neg hln]
  · rw [if_neg hv, if_neg hv]
theorem rCheckFlow_eq {n : Net} (hl : n.drains.length ≤ 1000) {fl : List Int} (hf : fl.length ≤ 1000) : ref02_CheckFlow n fl = some (checkR n fl) := by
  unfold ref02_CheckFlow checkR
  rw [bnd_eq (rValidate_eq hl)]
  by_cases hv : validate n = 0
  · have hn := val0.1 hv
    have h8 := hn.n8
    have h2 := hn.n2
    rw [if_pos hv, if_pos hv]
    by_cases hln : fl.length = n.drains.length
    · rw [if_pos (by omega), if_pos hln]
      have h := scan_loop0 fl.length (fun i => within (gi fl i) 0 (gd_ n.drains i).width) (fun _ => ()) (fun k _ i => ref02_CheckFlow_L2 n fl k i) (ref02_CheckFlow_k3 n fl) (some ((0 : Int), (6 : Int))) (fun k i hi => ?_) (fun k => ?_) (by omega)
      · refine Eq.trans h ?_
        unfold capsB
        by_cases hc : ∀ i, i < fl.length → within (gi fl i) 0 (gd_ n.drains i).width = true
        · have hcb : capsB n fl = true := decide_eq_true hc
          have hfb := caps_fbnd hn hln hcb
          have hfb' : FBnd fl := fun x hx => by have := hfb x hx; omega
          rw [if_pos hc, decide_eq_true hc, if_pos rfl]
          unfold ref02_CheckFlow_k3
          rw [con_loop hn.toNet0 fl (ref02_CheckFlow_L1 n fl) (some (out (En n fl) n.from_, 0)) (some ((0 : Int), (7 : Int))) (fun k v hv => ?_) (fun k => ?_)]
          · split <;> rfl
          · show ref02_CheckFlow_B1 n fl (ref02_CheckFlow_L1 n fl k) _ = _
            unfold ref02_CheckFlow_B1 ref02_CheckFlow_k2
            rw [if_pos (by omega)]
            by_cases h1 : (v : Int) = n.from_
            · rw [if_pos h1, if_neg (by simp), gd_pos (by omega), if_pos (by simp [h1])]; rfl
            · rw [if_neg h1]
              by_cases h3 : (v : Int) = n.to_
              · rw [if_pos h3, if_neg (by simp), gd_pos (by omega), if_pos (by simp [h3])]; rfl
              · rw [if_neg h3, bnd_eq (rvalue_eq hln hl hfb' _)]
                by_cases h4 : out (En n fl) v = 0
                · rw [if_neg (by simp [h4]), gd_pos (by omega), if_pos (by simp [h4])]; rfl
                · rw [if_pos (by simp [h4]), if_neg (by simp [h1, h3, h4])]
          · show ref02_CheckFlow_B1 n fl (ref02_CheckFlow_L1 n fl k) _ = _
            unfold ref02_CheckFlow_B1
            rw [if_neg (by omega)]
            unfold ref02_CheckFlow_k1
            rw [bnd_eq (rvalue_eq hln hl hfb' _)]
        · rw [if_neg hc, decide_eq_false hc, if_neg (by simp)]
      · show ref02_CheckFlow_B2 n fl (ref02_CheckFlow_L2 n fl k) _ = _
        unfold ref02_CheckFlow_B2
        rw [if_pos (by omega), ix_nat (gi_at hi), ix_nat (gd_at (by omega)), bnd_eq (within_eq _ _ _)]
        by_cases hw : within (gi fl i) 0 (gd_ n.drains i).width = true
        · rw [if_pos hw, gd_pos (by omega), if_pos hw]; rfl
        · rw [if_neg hw, if_neg hw]
      · show ref02_CheckFlow_B2 n fl (ref02_CheckFlow_L2 n fl k) _ = _
        unfold ref02_CheckFlow_B2
        rw [if_neg (by omega)]
    · rw [if_neg (by omega), if_neg hln]
  · rw [if_neg hv, if_neg hv]
theorem Long_eq (n : Net) : law02_Long n = some (decide ((100 : Int) < (n.drains.length : Int))) := rfl
theorem law_DrainFlows (n : Net) (fl : List Int) (hb : n.drains.length ≤ 9223372036854775807) : law02_DrainFlows n fl = some true := by
  unfold law02_DrainFlows
  rw [bnd_eq (Long_eq n)]
  unfold law02_DrainFlows_k1
  by_cases hL : (100 : Int) < (n.drains.length : Int)
  · rw [if_pos (by simpa using hL), if_pos rfl, bnd_eq known_eq]
  · have hl : n.drains.length ≤ 1000 := by omega
    rw [if_neg (by simpa using hL)]
    by_cases hf : (100 : Int) < (fl.length : Int)
    · rw [if_pos (by simpa using hf), bnd_eq known_eq]
    · have hfl : fl.length ≤ 1000 := by omega
      rw [if_neg (by simpa using hf), bnd_eq (CheckFlow_eq hl hfl), bnd_eq (rCheckFlow_eq hl hfl), bnd_eq (Validate_eq hl), bnd_eq (rValidate_eq hl), if_pos rfl, if_pos rfl, if_pos rfl, bnd_eq known_eq]
end Go.D2
