/- Lemmas and walks that the proof of this claim uses: D7q5, D7q6, D7q7, D7q8, D7qD, D7q9, D7qE. -/
import Derived.Test.YtmmefcihahcchaaTopPlans5
set_option linter.unusedVariables false
set_option linter.unusedSimpArgs false
namespace Go.D7
open Go.Tb
/-- Heights that no step improves, in bounds. -/
structure Stable (t : Trade) (f : Nat → Nat → Int) (d : Nat → Int) : Prop where
  le : ∀ e ∈ eds t f, d e.v ≤ d e.u + e.c
  bnd : ∀ v, v < nN t → -1000 ≤ d v ∧ d v ≤ 0
section
variable {t : Trade} {f : Nat → Nat → Int}
theorem sK_inv (k : Nat) : InvE (fun e => e ∈ eds t f) FAR (fun _ => 0) (sK t f k) :=
  rnds_inv start_inv (fun e he => ⟨he, eds_ne he⟩) k
theorem sK_mem (k : Nat) : Mem t f (sK t f k) := by
  obtain ⟨T, τ, h⟩ := sK_inv (t := t) (f := f) k
  exact fun v e he => ⟨(h.mem v e he).1, (h.mem v e he).2.1⟩
theorem sK_u (k : Nat) : ∀ v e, (sK t f k).by_ v = some e → e.u < nN t := fun v e he => (eds_lt (sK_mem k v e he).1).1
theorem stable_of (ht : okT t = true) (k : Nat) (hk : k ≤ 9) (h : ∀ e ∈ eds t f, (sK t f k).d e.v ≤ (sK t f k).d e.u + e.c) : Stable t f (sK t f k).d := by
  refine ⟨h, fun v hv => ⟨?_, (sK_bnd ht k hk v).2⟩⟩
  have h1 := (okT_spec ht).1.2.1
  have h2 := (okT_spec ht).2.1.2.1
  have hN : nN t = t.supply.length + t.demand.length := rfl
  obtain ⟨q, hq, hn, ha⟩ := alive_root (N := nN t) (sK_u k) (sK_inv k) (P := (sK t f k).d) (fun v e he => by
    obtain ⟨m1, m2⟩ := sK_mem k v e he
    have := h e m1
    rwa [m2] at this) hv
  obtain ⟨T, τ, hi⟩ := sK_inv (t := t) (f := f) k
  have l := (itp_low hi v q ha).1
  have z := hi.nil _ hn
  have z' : (sK t f k).d (itp (sK t f k) q v) = 0 := z
  have key : ∀ j : Nat, -99 * (j : Int) ≤ itc (sK t f k) j v := by
    intro j
    induction j with
    | zero => simp [itc]
    | succ j ih =>
      have : -99 ≤ ce (sK t f k) (itp (sK t f k) j v) := by
        unfold ce
        split
        · rename_i e he
          exact (eds_cost ht (sK_mem k _ e he).1).1
        · decide
      show _ ≤ itc (sK t f k) j v + ce (sK t f k) (itp (sK t f k) j v)
      omega
  have := key q
  omega
theorem step_by {t : Trade} {s : BS} {x : Nat} (hx : x < nN t) : (bsB t s)[x]? = some (sO t (s.by_ x)) := tg_at hx
/-- The round is collected. -/
theorem collect (ht : okT t = true) {s : BS} {b K : Nat} (hm : Mem t f s) (hb : b < nN t) (h : Rd s b K) (hK : K ≤ 8) (l1 : List Int) : bulk_search_L1 t l1 (bsB t s) (b : Int) FU (b : Int) [] = bulk_search_k1 l1 (tg K fun i => sO t (s.by_ (itp s i b))) := by
  have hu : ∀ v e, s.by_ v = some e → e.u < nN t := fun v e he => (eds_lt (hm v e he).1).1
  have key : ∀ (d n j : Nat), K = j + d → d < n → bulk_search_L1 t l1 (bsB t s) (b : Int) n ((itp s j b : Nat) : Int) (tg j fun i => sO t (s.by_ (itp s i b))) = bulk_search_k1 l1 (tg K fun i => sO t (s.by_ (itp s i b))) := by
    intro d
    induction d with
    | zero =>
      intro n j hd hn
      obtain ⟨n, rfl⟩ : ∃ k, n = k + 1 := ⟨n - 1, by omega⟩
      obtain rfl : K = j := by omega
      show bulk_search_B1 t l1 (bsB t s) (b : Int) (bulk_search_L1 t l1 (bsB t s) (b : Int) n) _ _ = _
      unfold bulk_search_B1 bulk_search_k2
      have := h.pos
      rw [if_neg (by rw [tg_len]; omega), h.per, decide_eq_true rfl, if_neg (by simp)]
    | succ d ih =>
      intro n j hd hn
      obtain ⟨n, rfl⟩ : ∃ k, n = k + 1 := ⟨n - 1, by omega⟩
      have hx := itp_lt hu hb j
      have go : bulk_search_k2 t l1 (bsB t s) ((itp s j b : Nat) : Int) (tg j fun i => sO t (s.by_ (itp s i b))) (bulk_search_L1 t l1 (bsB t s) (b : Int) n) true = bulk_search_k1 l1 (tg K fun i => sO t (s.by_ (itp s i b))) := by
        unfold bulk_search_k2
        cases hby : s.by_ (itp s j b) with
        | none => exact absurd hby (h.alive j)
        | some e =>
          have g := step_by (s := s) hx
          rw [hby] at g
          rw [if_pos rfl, ix_nat g, gd_pos (by rw [tg_len]; simp; omega), ix_nat g]
          show bnd (bulk_ends t (sE t e)) _ = _
          rw [bnd_eq (ends_eq ht (hm _ _ hby).1)]
          have push := tg_push j (fun i => sO t (s.by_ (itp s i b)))
          have := ih n (j + 1) (by omega) (by omega)
          rw [← push] at this
          have e1 : itp s (j + 1) b = e.u := (pre_some hby).1
          rw [e1] at this
          have e2 : sO t (s.by_ (itp s j b)) = sE t e := by rw [hby]; rfl
          rw [e2] at this
          exact this
      show bulk_search_B1 t l1 (bsB t s) (b : Int) (bulk_search_L1 t l1 (bsB t s) (b : Int) n) _ _ = _
      unfold bulk_search_B1
      by_cases hj : j = 0
      · subst hj
        rw [if_pos (by simp [tg])]
        exact go
      · have ne : itp s j b ≠ b := fun hc => h.inj 0 j (by omega) (by omega) hc.symm
        rw [if_neg (by rw [tg_len]; omega), decide_eq_false (fun hc => ne (by omega))]
        exact go
  exact key K FU 0 (by omega) (by have := FU_pos; omega)
theorem rev_tg {α : Type} (K : Nat) (g : Nat → α) : (tg K g).reverse = tg K fun i => g (K - 1 - i) := by
  apply List.ext_getElem?
  intro i
  by_cases hi : i < K
  · rw [List.getElem?_reverse (by rw [tg_len]; exact hi), tg_len, tg_at (by omega), tg_at hi]
  · rw [List.getElem?_eq_none (by rw [List.length_reverse, tg_len]; omega), List.getElem?_eq_none (by rw [tg_len]; omega)]
theorem late_round (ht : okT t = true) {v : Nat} (hv : v < nN t) (hs : (sK t f (nN t)).last = (v : Int)) (hlt : (sK t f (nN t)).d v < (sK t f (nN t - 1)).d v) :
    ∃ r L, bulk_search_k4 t (sK t f (nN t)).last (bsL t (sK t f (nN t))) (bsB t (sK t f (nN t))) = some (bsL t (sK t f (nN t)), r) ∧ r ≠ [] ∧ bulk_pairs r = some L ∧ InPairs t L ∧ roundB L = true ∧ L.length ≤ 8 ∧ 1 ≤ mN f L L.length ∧ costF t (fK f L (mN f L L.length) L.length) < costF t f := by
  have h1 := (okT_spec ht).1
  have h2 := (okT_spec ht).2.1
  have hN : nN t = t.supply.length + t.demand.length := rfl
  have alive : ∀ k, k ≤ nN t - 1 → (sK t f (nN t)).by_ (itp (sK t f (nN t)) k v) ≠ none := by
    have := late_alive (L := eds t f) (far := FAR) (s0 := s0) (R := nN t - 1) (fun e he => eds_ne he) rfl (fun k v C hk w => by
      have := W_bnd (M := 99) (fun e he => (eds_cost ht he).2) (fun v _ => Int.le_refl _) w
      have hF : FAR = 1073741824 := rfl
      omega) (v := v) (by
        rw [show nN t - 1 + 1 = nN t by omega]; exact hlt) (by
        rw [show nN t - 1 + 1 = nN t by omega]
        have := (sK_bnd (f := f) ht (nN t) (by omega) v).2
        have hF : FAR = 1073741824 := rfl
        show (sK t f (nN t)).d v < FAR
        omega)
    rw [show nN t - 1 + 1 = nN t by omega] at this
    exact this
  have hmem := sK_mem (t := t) (f := f) (nN t)
  have hu := sK_u (t := t) (f := f) (nN t)
  have hinv := sK_inv (t := t) (f := f) (nN t)
  generalize hS : sK t f (nN t) = S at *
  obtain ⟨K, hK, hR⟩ := rd_of (N := nN t) hu hv (fun k hk => alive k (by omega))
  have hb : itp S (nN t) v < nN t := itp_lt hu hv _
  generalize hB : itp S (nN t) v = b at *
  -- the way back
  have w2 : bulk_search_k4 t S.last (bsL t S) (bsB t S) = bulk_search_k3 t (bsL t S) (bsB t S) (b : Int) := by
    unfold bulk_search_k4
    rw [hs, if_neg (by omega)]
    refine for0 (nN t) (fun k => itp S k v) (fun k x j => bulk_search_L2 t (bsL t S) (bsB t S) k ((x : Nat) : Int) j) _ (s0 := v) rfl (fun k j hj => ?_) (fun k => ?_) (by omega)
    · show bulk_search_B2 t (bsL t S) (bsB t S) (bulk_search_L2 t (bsL t S) (bsB t S) k) _ _ = _
      unfold bulk_search_B2
      cases hby : S.by_ (itp S j v) with
      | none => exact absurd hby (alive j (by omega))
      | some e =>
        have g := step_by (t := t) (s := S) (itp_lt hu hv j)
        rw [hby] at g
        rw [if_pos (by omega), ix_nat g]
        show bnd (bulk_ends t (sE t e)) _ = _
        rw [bnd_eq (ends_eq ht (hmem _ _ hby).1), gd_pos (by omega)]
        have e1 : itp S (j + 1) v = e.u := (pre_some hby).1
        rw [e1]; rfl
    · show bulk_search_B2 t (bsL t S) (bsB t S) (bulk_search_L2 t (bsL t S) (bsB t S) k) _ _ = _
      unfold bulk_search_B2
      rw [if_neg (by omega), hB]
  have hK8 : K ≤ 8 := by omega
  have w3 : bulk_search_k4 t S.last (bsL t S) (bsB t S) = some (bsL t S, tg K fun k => sO t (S.by_ (itp S (K - 1 - k) b))) := by
    rw [w2]
    unfold bulk_search_k3
    rw [collect ht hmem hb hR hK8]
    unfold bulk_search_k1
    rw [bnd_eq (revS_eq _ (by rw [tg_len]; omega)), rev_tg, gd_pos]
    intro hc
    have := congrArg List.length hc
    rw [tg_len] at this
    have := hR.pos
    simp at *
    omega
  -- a buyer on the round
  have one : K ≠ 1 := fun hc => by
    subst hc
    have p : itp S 1 b = b := hR.per
    have p' : pre S b = b := p
    rcases node hmem (hR.alive 0) with ⟨i, j, hi, hj, e1, e2, _⟩ | ⟨i, j, hi, hj, e1, e2, _⟩
    · have e1' : b = t.supply.length + j := e1
      have e2' : pre S b = i := e2
      omega
    · have e1' : b = i := e1
      have e2' : pre S b = t.supply.length + j := e2
      omega
  have hpos := hR.pos
  have buyer : ∃ i0, i0 < K ∧ t.supply.length ≤ itp S i0 b := by
    rcases node hmem (hR.alive 0) with ⟨i, j, hi, hj, e1, e2, _⟩ | ⟨i, j, hi, hj, e1, e2, _⟩
    · exact ⟨0, by omega, by show t.supply.length ≤ b; have e1' : b = t.supply.length + j := e1; omega⟩
    · exact ⟨1, by omega, by show t.supply.length ≤ pre S b; have e2' : pre S b = t.supply.length + j := e2; omega⟩
  have isL : ∀ x, S.by_ x ≠ none → ((sO t (S.by_ x)).isLess = false ↔ t.supply.length ≤ x) := by
    intro x hx
    rcases node hmem hx with ⟨i, j, hi, hj, e1, _, _, _, e2⟩ | ⟨i, j, hi, hj, e1, _, _, _, _, e2⟩
    · rw [e2]
      show (sE t ⟨i, t.supply.length + j, cc t i j⟩).isLess = false ↔ _
      rw [sE_more hi]
      simp [Step.isLess]; omega
    · rw [e2]
      show (sE t ⟨t.supply.length + j, i, -cc t i j⟩).isLess = false ↔ _
      rw [sE_less hi]
      simp [Step.isLess]; omega
  obtain ⟨i0, hi0, hb0⟩ := buyer
  obtain ⟨k0, q1, q2, q3⟩ := least_ (p := fun k => (sO t (S.by_ (itp S (K - 1 - k) b))).isLess = false) (K - 1 - i0) (by
    show (sO t (S.by_ (itp S (K - 1 - (K - 1 - i0)) b))).isLess = false
    rw [show K - 1 - (K - 1 - i0) = i0 by omega]
    exact (isL _ (hR.alive _)).2 hb0)
  have hz := (isL _ (hR.alive _)).1 q1
  have hR2 := hR.turn (j := K - 1 - k0) (by omega)
  have hpairs := pairs_eq (K := K) (by omega) (fun k => sO t (S.by_ (itp S (K - 1 - k) b))) (fun k hk hc => by
    rcases node hmem (hR.alive (K - 1 - k)) with ⟨i, j, hi, hj, _, _, _, _, e2⟩ | ⟨i, j, hi, hj, _, _, _, _, _, e2⟩
    · rw [e2] at hc
      have hc' : sE t ⟨i, t.supply.length + j, cc t i j⟩ = Step.nil := hc
      rw [sE_more hi] at hc'; cases hc'
    · rw [e2] at hc
      have hc' : sE t ⟨t.supply.length + j, i, -cc t i j⟩ = Step.nil := hc
      rw [sE_less hi] at hc'; cases hc') (k0 := k0) (by omega) q1 (fun k hk => by
      have := q3 k hk
      cases hx : (sO t (S.by_ (itp S (K - 1 - k) b))).isLess
      · exact absurd hx this
      · rfl)
  have hL : (tg K fun i => pS (sO t (S.by_ (itp S (K - 1 - (k0 + (K - i)) % K) b)))) = rdL t S (itp S (K - 1 - k0) b) K := by
    unfold rdL
    refine tg_congr fun i hi => ?_
    rw [pS_sO, ← itp_add]
    congr 2
    by_cases hik : i ≤ k0
    · rw [show k0 + (K - i) = (k0 - i) + K by omega, Nat.add_mod_right, Nat.mod_eq_of_lt (by omega), show K - 1 - (k0 - i) = K - 1 - k0 + i by omega]
    · rw [Nat.mod_eq_of_lt (by omega), show K - 1 - (k0 + (K - i)) = i - k0 - 1 by omega, show K - 1 - k0 + i = (i - k0 - 1) + K by omega, hR.more]
  rw [hL] at hpairs
  have hneg := cycle_neg hinv hR2.pos (fun i _ => hR2.alive i) hR2.per
  have h4 := rd_four hmem hR2 hz hneg
  have len : (rdL t S (itp S (K - 1 - k0) b) K).length = K := rdL_len
  refine ⟨_, _, w3, fun hc => ?_, hpairs, rd_in hmem hR2 hz, rd_round hmem hR2 hz hneg, by rw [len]; omega, ?_, ?_⟩
  · have := congrArg List.length hc
    rw [tg_len] at this
    simp at this
    omega
  · rw [len]; exact rd_amount hmem hR2 hz h4 K (Nat.le_refl _)
  · rw [len]
    have am := rd_amount hmem hR2 hz h4 K (Nat.le_refl _)
    rw [rd_cost hmem hR2 hz _ K (Nat.le_refl _)]
    have : mN f (rdL t S (itp S (K - 1 - k0) b) K) K * itc S K (itp S (K - 1 - k0) b) ≤ mN f (rdL t S (itp S (K - 1 - k0) b) K) K * (-1) := Int.mul_le_mul_of_nonneg_left (by omega) (by omega)
    omega
/-- What the search returns. -/
theorem search_spec (ht : okT t = true) : (∃ d, bulk_search t (tab t f) = some (tb (nN t) d, []) ∧ Stable t f d) ∨
    (∃ d r L, bulk_search t (tab t f) = some (d, r) ∧ r ≠ [] ∧ bulk_pairs r = some L ∧ InPairs t L ∧ roundB L = true ∧ L.length ≤ 8 ∧ 1 ≤ mN f L L.length ∧ costF t (fK f L (mN f L L.length) L.length) < costF t f) := by
  have h1 := (okT_spec ht).1
  have h2 := (okT_spec ht).2.1
  have hN : nN t = t.supply.length + t.demand.length := rfl
  rw [search_rounds ht]
  have e : sK t f (nN t) = rnd FAR (eds t f) (sK t f (nN t - 1)) := by
    have : nN t = nN t - 1 + 1 := by omega
    conv => lhs; rw [this]
    rfl
  rcases rnd_last (far := FAR) (L := eds t f) (N := nN t) (fun e he => (eds_lt he).2) (sK t f (nN t - 1)) with ⟨a, b⟩ | ⟨v, a, b, c⟩
  · left
    rw [← e] at a b
    refine ⟨(sK t f (nN t)).d, ?_, stable_of ht _ (by omega) ?_⟩
    · unfold bulk_search_k4
      rw [a, if_pos (by decide)]; rfl
    · rw [e] at b
      have := rnd_stable b
      rw [← e] at b
      intro x hx
      rw [b]
      refine this x hx ?_
      have := (sK_bnd (f := f) ht (nN t - 1) (by omega) x.u).2
      have hF : FAR = 1073741824 := rfl
      omega
  · right
    rw [← e] at b c
    obtain ⟨r, L, q⟩ := late_round ht a b c
    exact ⟨_, r, L, q⟩
theorem Stable.cert {d : Nat → Int} (h : Stable t f d) : Cert t f (fun i => -d i) (fun j => d (t.supply.length + j)) := cert_of h.le
theorem best_loop (ht : okT t = true) : ∀ (c fuel : Nat) (f : Nat → Nat → Int), PlanF t f → costF t f < (c : Int) → c ≤ fuel → ∃ g d, PlanF t g ∧ Stable t g d ∧ bulk_best_L1 t fuel (tab t f) = some (tab t g, tb (nN t) d)
  | 0, fuel, f, hp, hc, _ => by have := (costF_bnd ht hp).1; omega
  | c + 1, 0, f, hp, hc, h => by omega
  | c + 1, fuel + 1, f, hp, hc, hf => by
    have hs := (okT_spec ht).1.2.1
    have hd := (okT_spec ht).2.1.2.1
    have e : bulk_best_L1 t (fuel + 1) (tab t f) = bulk_best_B1 t (bulk_best_L1 t fuel) (tab t f) := rfl
    rw [e]
    unfold bulk_best_B1
    rcases search_spec (f := f) ht with ⟨d, h1, h2⟩ | ⟨d, r, L, h1, h2, h3, h4, h5, h6, h7, h8⟩
    · rw [bnd_eq h1, if_pos rfl]
      exact ⟨f, d, hp, h2, rfl⟩
    · have hr := round_spec h4 h5
      rw [bnd_eq h1, if_neg h2, bnd_eq h3, bnd_eq (along_eq ⟨by omega, by omega⟩ (fun i j hi hj => ⟨hp.nn i j, plan_le ht hp hi hj⟩) h4 h6 hr.1)]
      exact best_loop ht c fuel _ (along_plan hp h4 h5) (by omega) (by omega)
theorem best_eq (ht : okT t = true) : ∃ g d, PlanF t g ∧ Stable t g d ∧ bulk_best t = some (tab t g, tb (nN t) d) := by
  obtain ⟨g, hp, h1, _⟩ := corner_eq ht
  have hb := costF_bnd ht hp
  obtain ⟨g', d, a, b, c⟩ := best_loop ht 60000 FU g hp (by omega) (by have := FU_pos; omega)
  refine ⟨g', d, a, b, ?_⟩
  unfold bulk_best
  rw [bnd_eq h1]; exact c
theorem Stable.best {g : Nat → Nat → Int} {d : Nat → Int} (hp : PlanF t g) (h : Stable t g d) : BestF t g := ⟨hp, _, _, h.cert⟩
end
end Go.D7

set_option linter.unusedVariables false
set_option linter.unusedSimpArgs false
namespace Go.D7
open Go.Tb
def up (s : BS) (e : Ed) : BS := ⟨fun x => if x = e.v then s.d e.u + e.c else s.d x, fun x => if x = e.v then some e else s.by_ x, (e.v : Int)⟩
theorem relax_up {far : Int} {s : BS} {e : Ed} (h : s.d e.u < far ∧ s.d e.u + e.c < s.d e.v) : relax far s e = up s e := if_pos h
theorem relax_no {far : Int} {s : BS} {e : Ed} (h : ¬ (s.d e.u < far ∧ s.d e.u + e.c < s.d e.v)) : relax far s e = s := if_neg h
def stL (t : Trade) (s : BS) : List Int := tb t.supply.length s.d
def buL (t : Trade) (s : BS) : List Int := tb t.demand.length fun j => s.d (t.supply.length + j)
def byO (o : Option Ed) : Int := match o with | some e => (e.u : Int) | none => 0
def frO (n : Nat) (o : Option Ed) : Int := match o with | some e => (e.u : Int) - (n : Int) | none => -1
def byL (t : Trade) (s : BS) : List Int := tb t.demand.length fun j => byO (s.by_ (t.supply.length + j))
def frL (t : Trade) (s : BS) : List Int := tb t.supply.length fun i => frO t.supply.length (s.by_ i)
section
variable {t : Trade} {f : Nat → Nat → Int}
theorem rep_more (s : BS) {i j : Nat} {c : Int} (hi : i < t.supply.length) : stL t (up s ⟨i, t.supply.length + j, c⟩) = stL t s ∧ buL t (up s ⟨i, t.supply.length + j, c⟩) = (buL t s).set j (s.d i + c) ∧ byL t (up s ⟨i, t.supply.length + j, c⟩) = (byL t s).set j (i : Int) ∧ frL t (up s ⟨i, t.supply.length + j, c⟩) = frL t s := by
  refine ⟨tb_congr fun k hk => ?_, ?_, ?_, tb_congr fun k hk => ?_⟩
  · show (if k = t.supply.length + j then _ else s.d k) = s.d k
    rw [if_neg (by omega)]
  · unfold buL
    rw [tb_set]
    refine tb_congr fun k hk => ?_
    show (if t.supply.length + k = t.supply.length + j then s.d i + c else s.d (t.supply.length + k)) = _
    by_cases e : k = j
    · rw [if_pos (by omega), if_pos e]
    · rw [if_neg (by omega), if_neg e]
  · unfold byL
    rw [tb_set]
    refine tb_congr fun k hk => ?_
    show byO (if t.supply.length + k = t.supply.length + j then _ else s.by_ (t.supply.length + k)) = _
    by_cases e : k = j
    · rw [if_pos (by omega), if_pos e]; rfl
    · rw [if_neg (by omega), if_neg e]
  · show frO t.supply.length (if k = t.supply.length + j then _ else s.by_ k) = _
    rw [if_neg (by omega)]
theorem rep_less (s : BS) {i j : Nat} {c : Int} (hi : i < t.supply.length) : stL t (up s ⟨t.supply.length + j, i, c⟩) = (stL t s).set i (s.d (t.supply.length + j) + c) ∧ buL t (up s ⟨t.supply.length + j, i, c⟩) = buL t s ∧ byL t (up s ⟨t.supply.length + j, i, c⟩) = byL t s ∧ frL t (up s ⟨t.supply.length + j, i, c⟩) = (frL t s).set i (j : Int) := by
  refine ⟨?_, tb_congr fun k hk => ?_, tb_congr fun k hk => ?_, ?_⟩
  · unfold stL
    rw [tb_set]
    refine tb_congr fun k hk => ?_
    rfl
  · show (if t.supply.length + k = i then _ else s.d (t.supply.length + k)) = s.d (t.supply.length + k)
    rw [if_neg (by omega)]
  · show byO (if t.supply.length + k = i then _ else s.by_ (t.supply.length + k)) = _
    rw [if_neg (by omega)]
  · unfold frL
    rw [tb_set]
    refine tb_congr fun k hk => ?_
    show frO t.supply.length (if k = i then some ⟨t.supply.length + j, i, c⟩ else s.by_ k) = _
    by_cases e : k = i
    · rw [if_pos e, if_pos e]
      show ((t.supply.length + j : Nat) : Int) - (t.supply.length : Int) = (j : Int)
      omega
    · rw [if_neg e, if_neg e]
/-- One cell of a round. -/
theorem ref_cell (ht : okT t = true) {y : BS} (hlo : ∀ v, -1000000 ≤ y.d v) (hhi : ∀ v, y.d v ≤ FAR) {i j : Nat} (hi : i < t.supply.length) (hj : j < t.demand.length) (rec5 rec6 : Int → List Int → List Int → List Int → List Int → Option (List (List Int))) :
    ref07_best_B3 t (tab t f) (i : Int) rec5 rec6 (j : Int) (stL t y) (buL t y) (byL t y) (frL t y) =
      (let z := (⟨i, t.supply.length + j, cc t i j⟩ :: if 0 < f i j then [⟨t.supply.length + j, i, -cc t i j⟩] else []).foldl (relax FAR) y
      rec6 ((j + 1 : Nat) : Int) (stL t z) (buL t z) (byL t z) (frL t z)) := by
  have hs := (okT_spec ht).1.2.1
  have hd := (okT_spec ht).2.1.2.1
  obtain ⟨c1, c2⟩ := tab_spec (okT_spec ht).2.2.2
  have hci := c2 i (by omega)
  have hb := cost_pos ht hi hj
  have hF : FAR = 1073741824 := rfl
  have gc : t.cost[i]? = some (gr t.cost i) := gr_at (by omega)
  have gx : (gr t.cost i)[j]? = some (cc t i j) := gi_at (by omega)
  have gm : (tab t f)[i]? = some (tb t.demand.length (f i)) := tbl_at hi
  have gf : (tb t.demand.length (f i))[j]? = some (f i j) := tb_at hj
  -- the second half
  have second : ∀ z : BS, (∀ v, -2000000 ≤ z.d v) → (∀ v, z.d v ≤ FAR) → ref07_best_k10 t (tab t f) (i : Int) (j : Int) (stL t z) (frL t z) rec6 (buL t z) (byL t z) =
      rec6 ((j + 1 : Nat) : Int) (stL t ((if 0 < f i j then [⟨t.supply.length + j, i, -cc t i j⟩] else []).foldl (relax FAR) z)) (buL t ((if 0 < f i j then [⟨t.supply.length + j, i, -cc t i j⟩] else []).foldl (relax FAR) z))
        (byL t ((if 0 < f i j then [⟨t.supply.length + j, i, -cc t i j⟩] else []).foldl (relax FAR) z)) (frL t ((if 0 < f i j then [⟨t.supply.length + j, i, -cc t i j⟩] else []).foldl (relax FAR) z)) := by
    intro z zlo zhi
    have gb : (buL t z)[j]? = some (z.d (t.supply.length + j)) := tb_at hj
    have gs : (stL t z)[i]? = some (z.d i) := tb_at hi
    have gr_ : (frL t z)[i]? = some (frO t.supply.length (z.by_ i)) := tb_at hi
    have l1 := zlo (t.supply.length + j)
    have l2 := zhi (t.supply.length + j)
    have no : ref07_best_k9 t (i : Int) (j : Int) (stL t z) (frL t z) rec6 (buL t z) (byL t z) false = rec6 ((j + 1 : Nat) : Int) (stL t z) (buL t z) (byL t z) (frL t z) := by
      unfold ref07_best_k9 ref07_best_k8
      rw [if_neg (by simp), gd_pos (by omega)]; rfl
    unfold ref07_best_k10
    rw [ix_nat gb]
    by_cases hfar : z.d (t.supply.length + j) < FAR
    · rw [if_pos (by omega), ix_nat gm, ix_nat gf]
      by_cases h0 : 0 < f i j
      · rw [if_pos h0, if_pos h0, ix_nat gb, ix_nat gc, ix_nat gx, gd_pos (by omega), ix_nat gs]
        by_cases hl : z.d (t.supply.length + j) - cc t i j < z.d i
        · have r := rep_less (t := t) z (i := i) (j := j) (c := -cc t i j) hi
          have e : [(⟨t.supply.length + j, i, -cc t i j⟩ : Ed)].foldl (relax FAR) z = up z ⟨t.supply.length + j, i, -cc t i j⟩ := relax_up ⟨hfar, hl⟩
          rw [e, r.1, r.2.1, r.2.2.1, r.2.2.2, decide_eq_true hl]
          unfold ref07_best_k9 ref07_best_k8
          rw [if_pos rfl, ix_nat gb, ix_nat gc, ix_nat gx, gd_pos (by omega), ix_nat gs, ix_nat gr_, gd_pos (by omega)]; rfl
        · have e : [(⟨t.supply.length + j, i, -cc t i j⟩ : Ed)].foldl (relax FAR) z = z := relax_no fun h => hl h.2
          rw [e, decide_eq_false hl, no]
      · rw [if_neg h0, if_neg h0, no]; rfl
    · rw [if_neg (by omega), no]
      by_cases h0 : 0 < f i j
      · have e : [(⟨t.supply.length + j, i, -cc t i j⟩ : Ed)].foldl (relax FAR) z = z := relax_no fun h => hfar h.1
        rw [if_pos h0, e]
      · rw [if_neg h0]; rfl
  have gs : (stL t y)[i]? = some (y.d i) := tb_at hi
  have gb : (buL t y)[j]? = some (y.d (t.supply.length + j)) := tb_at hj
  have gy : (byL t y)[j]? = some (byO (y.by_ (t.supply.length + j))) := tb_at hj
  have l1 := hlo i
  have l2 := hhi i
  have zlo : ∀ v, -2000000 ≤ (relax FAR y ⟨i, t.supply.length + j, cc t i j⟩).d v := fun v => by
    have := fold_bnd FAR 99 (by decide) [⟨i, t.supply.length + j, cc t i j⟩] y (-1000000) (fun e he => by
      obtain rfl : e = ⟨i, t.supply.length + j, cc t i j⟩ := by simpa using he
      show -99 ≤ cc t i j; omega) hlo v
    have e : ([⟨i, t.supply.length + j, cc t i j⟩] : List Ed).foldl (relax FAR) y = relax FAR y ⟨i, t.supply.length + j, cc t i j⟩ := rfl
    rw [e] at this
    simp only [List.length_singleton] at this
    omega
  have zhi : ∀ v, (relax FAR y ⟨i, t.supply.length + j, cc t i j⟩).d v ≤ FAR := fun v => Int.le_trans (relax_le _ _ _ _) (hhi v)
  have sec := second _ zlo zhi
  show _ = rec6 ((j + 1 : Nat) : Int) (stL t ((if 0 < f i j then [⟨t.supply.length + j, i, -cc t i j⟩] else []).foldl (relax FAR) (relax FAR y ⟨i, t.supply.length + j, cc t i j⟩))) (buL t ((if 0 < f i j then [⟨t.supply.length + j, i, -cc t i j⟩] else []).foldl (relax FAR) (relax FAR y ⟨i, t.supply.length + j, cc t i j⟩))) (byL t ((if 0 < f i j then [⟨t.supply.length + j, i, -cc t i j⟩] else []).foldl (relax FAR) (relax FAR y ⟨i, t.supply.length + j, cc t i j⟩))) (frL t ((if 0 < f i j then [⟨t.supply.length + j, i, -cc t i j⟩] else []).foldl (relax FAR) (relax FAR y ⟨i, t.supply.length + j, cc t i j⟩)))
  rw [← sec]
  unfold ref07_best_B3
  rw [if_pos (by unfold buL; rw [tb_len]; omega), ix_nat gs]
  by_cases hfar : y.d i < FAR
  · rw [if_pos (by omega), ix_nat gs, ix_nat gc, ix_nat gx, gd_pos (by omega), ix_nat gb]
    by_cases hl : y.d i + cc t i j < y.d (t.supply.length + j)
    · have r := rep_more (t := t) y (i := i) (j := j) (c := cc t i j) hi
      have e : relax FAR y ⟨i, t.supply.length + j, cc t i j⟩ = up y ⟨i, t.supply.length + j, cc t i j⟩ := relax_up ⟨hfar, hl⟩
      rw [e, r.1, r.2.1, r.2.2.1, r.2.2.2, decide_eq_true hl]
      unfold ref07_best_k11
      rw [if_pos rfl, ix_nat gs, ix_nat gc, ix_nat gx, gd_pos (by omega), ix_nat gb, ix_nat gy]; rfl
    · have e : relax FAR y ⟨i, t.supply.length + j, cc t i j⟩ = y := relax_no fun h => hl h.2
      rw [e, decide_eq_false hl]
      unfold ref07_best_k11
      rw [if_neg (by simp)]
  · have e : relax FAR y ⟨i, t.supply.length + j, cc t i j⟩ = y := relax_no fun h => hfar h.1
    rw [if_neg (by omega), e]
    unfold ref07_best_k11
    rw [if_neg (by simp)]
theorem fold_hi {far : Int} {L : List Ed} {s : BS} {hi : Int} (h : ∀ v, s.d v ≤ hi) (v : Nat) : (L.foldl (relax far) s).d v ≤ hi := Int.le_trans (fold_le far L s v) (h v)
theorem ref_row (ht : okT t = true) {s : BS} (hlo : ∀ v, -900000 ≤ s.d v) (hhi : ∀ v, s.d v ≤ FAR) {i : Nat} (hi : i < t.supply.length) (rec5 : Int → List Int → List Int → List Int → List Int → Option (List (List Int))) :
    ref07_best_L3 t (tab t f) (i : Int) rec5 FU 0 (stL t s) (buL t s) (byL t s) (frL t s) =
      (let z := (edIn t f i t.demand.length).foldl (relax FAR) s
      ref07_best_k7 (i : Int) rec5 (stL t z) (buL t z) (byL t z) (frL t z)) := by
  have hs := (okT_spec ht).1.2.1
  have hd := (okT_spec ht).2.1.2.1
  refine for0 t.demand.length (fun j => (edIn t f i j).foldl (relax FAR) s) (fun k x j => ref07_best_L3 t (tab t f) (i : Int) rec5 k j (stL t x) (buL t x) (byL t x) (frL t x)) _ (s0 := s) rfl (fun k j hj => ?_) (fun k => ?_) (by omega)
  · have ylo : ∀ v, -1000000 ≤ ((edIn t f i j).foldl (relax FAR) s).d v := fun v => by
      have := fold_bnd FAR 99 (by decide) (edIn t f i j) s (-900000) (fun e he => by
        obtain ⟨q, hq, h⟩ := edIn_mem.1 he
        exact (eds_cost (f := f) ht (eds_mem.2 ⟨i, q, hi, by omega, h⟩)).1) hlo v
      have l := edIn_len (t := t) (f := f) i j
      omega
    show ref07_best_B3 t (tab t f) (i : Int) rec5 (ref07_best_L3 t (tab t f) (i : Int) rec5 k) (j : Int) _ _ _ _ = _
    rw [ref_cell ht ylo (fold_hi hhi) hi hj]
    have e : (edIn t f i (j + 1)).foldl (relax FAR) s = (⟨i, t.supply.length + j, cc t i j⟩ :: if 0 < f i j then [⟨t.supply.length + j, i, -cc t i j⟩] else []).foldl (relax FAR) ((edIn t f i j).foldl (relax FAR) s) := by
      rw [edIn_succ, List.foldl_append]
    rw [e]
  · show ref07_best_B3 t (tab t f) (i : Int) rec5 (ref07_best_L3 t (tab t f) (i : Int) rec5 k) _ _ _ _ _ = _
    unfold ref07_best_B3
    rw [if_neg (by unfold buL; rw [tb_len]; omega)]
theorem ref_round (ht : okT t = true) {s : BS} (hlo : ∀ v, -800000 ≤ s.d v) (hhi : ∀ v, s.d v ≤ FAR) (r : Int) (rec4 : Int → List Int → List Int → List Int → List Int → Option (List (List Int))) :
    ref07_best_L4 t (tab t f) r rec4 FU 0 (stL t s) (buL t s) (byL t s) (frL t s) =
      (let z := rnd FAR (eds t f) s
      ref07_best_k6 r rec4 (stL t z) (buL t z) (byL t z) (frL t z)) := by
  have hs := (okT_spec ht).1.2.1
  have hd := (okT_spec ht).2.1.2.1
  refine for0 t.supply.length (fun i => (edTo t f i).foldl (relax FAR) (fresh s)) (fun k x i => ref07_best_L4 t (tab t f) r rec4 k i (stL t x) (buL t x) (byL t x) (frL t x)) _ (s0 := fresh s) rfl (fun k i hi => ?_) (fun k => ?_) (by omega)
  · have ylo : ∀ v, -900000 ≤ ((edTo t f i).foldl (relax FAR) (fresh s)).d v := fun v => by
      have := fold_bnd FAR 99 (by decide) (edTo t f i) (fresh s) (-800000) (fun e he => by
        obtain ⟨a, q, ha, hq, h⟩ := edTo_mem.1 he
        exact (eds_cost (f := f) ht (eds_mem.2 ⟨a, q, by omega, hq, h⟩)).1) hlo v
      have l := edTo_len (t := t) (f := f) hd i
      omega
    show ref07_best_B4 t (tab t f) r rec4 (ref07_best_L4 t (tab t f) r rec4 k) (i : Int) _ _ _ _ = _
    unfold ref07_best_B4
    rw [if_pos (by unfold stL; rw [tb_len]; omega), ref_row ht ylo (fold_hi hhi) hi]
    show ref07_best_k7 (i : Int) (ref07_best_L4 t (tab t f) r rec4 k) _ _ _ _ = _
    unfold ref07_best_k7
    have e : (edTo t f (i + 1)).foldl (relax FAR) (fresh s) = (edIn t f i t.demand.length).foldl (relax FAR) ((edTo t f i).foldl (relax FAR) (fresh s)) := by
      show (edTo t f i ++ edIn t f i t.demand.length).foldl (relax FAR) (fresh s) = _
      rw [List.foldl_append]
    rw [gd_pos (by omega), e]; rfl
  · show ref07_best_B4 t (tab t f) r rec4 (ref07_best_L4 t (tab t f) r rec4 k) _ _ _ _ _ = _
    unfold ref07_best_B4
    rw [if_neg (by unfold stL; rw [tb_len]; omega)]; rfl
/-- What a search begins with: where stores still have tons. -/
def d0h (t : Trade) (h : Nat → Int) (v : Nat) : Int := if v < t.supply.length then (if h v = 0 then FAR else 0) else FAR
def sR (t : Trade) (h : Nat → Int) : BS := ⟨d0h t h, fun _ => none, -1⟩
def rK (t : Trade) (f : Nat → Nat → Int) (h : Nat → Int) (k : Nat) : BS := rnds FAR (eds t f) (sR t h) k
theorem d0h_bnd (h : Nat → Int) (v : Nat) : 0 ≤ d0h t h v ∧ d0h t h v ≤ FAR ∧ (d0h t h v < FAR → d0h t h v ≤ 0) := by
  have hF : FAR = 1073741824 := rfl
  unfold d0h
  split
  · split <;> omega
  · omega
theorem rK_bnd (ht : okT t = true) (h : Nat → Int) (k : Nat) (hk : k ≤ 10) (v : Nat) : -800000 ≤ (rK t f h k).d v ∧ (rK t f h k).d v ≤ FAR := by
  have h1 := (okT_spec ht).1.2.1
  have h2 := (okT_spec ht).2.1.2.1
  have hl := edTo_len (t := t) (f := f) h2 t.supply.length
  have hl' : (eds t f).length ≤ 32 := by unfold eds; omega
  have a := rnds_bnd (far := FAR) (M := 99) (by decide) (L := eds t f) (s := sR t h) (lo := 0) (fun e he => (eds_cost ht he).1) (fun v => (d0h_bnd h v).1) k v
  have b := rnds_mono FAR (eds t f) (sR t h) v 0 k
  rw [Nat.zero_add] at b
  have c : (rnds FAR (eds t f) (sR t h) 0).d v ≤ FAR := (d0h_bnd h v).2.1
  have : 99 * ((eds t f).length : Int) * (k : Int) ≤ (99 * 32) * 10 :=
    Int.le_trans (Int.mul_le_mul_of_nonneg_right (by omega) (Int.natCast_nonneg _)) (Int.mul_le_mul_of_nonneg_left (by omega) (by decide))
  unfold rK
  omega
theorem ref_rounds (ht : okT t = true) {h w : Nat → Int} (rec1 : List (List Int) → List Int → List Int → Option (List (List Int))) :
    ref07_best_L5 t (tab t f) (tb t.supply.length h) (tb t.demand.length w) rec1 FU 0 (stL t (sR t h)) (buL t (sR t h)) (byL t (sR t h)) (frL t (sR t h)) =
      (let z := rK t f h (nN t + 1)
      ref07_best_k5 (tab t f) (tb t.supply.length h) (tb t.demand.length w) rec1 (buL t z) (byL t z) (frL t z)) := by
  have hs := (okT_spec ht).1.2.1
  have hd := (okT_spec ht).2.1.2.1
  have hN : nN t = t.supply.length + t.demand.length := rfl
  refine for0 (nN t + 1) (fun k => rK t f h k) (fun k x j => ref07_best_L5 t (tab t f) (tb t.supply.length h) (tb t.demand.length w) rec1 k j (stL t x) (buL t x) (byL t x) (frL t x)) _ (s0 := sR t h) rfl (fun k j hj => ?_) (fun k => ?_) (by omega)
  · show ref07_best_B5 t (tab t f) (tb t.supply.length h) (tb t.demand.length w) rec1 (ref07_best_L5 t (tab t f) (tb t.supply.length h) (tb t.demand.length w) rec1 k) (j : Int) _ _ _ _ = _
    unfold ref07_best_B5
    rw [tb_len, tb_len, gd_pos (by omega), gd_pos (by omega), if_pos (by omega), ref_round ht (fun v => (rK_bnd ht h j (by omega) v).1) (fun v => (rK_bnd ht h j (by omega) v).2)]
    show ref07_best_k6 (j : Int) _ _ _ _ _ = _
    unfold ref07_best_k6
    rw [gd_pos (by omega)]; rfl
  · show ref07_best_B5 t (tab t f) (tb t.supply.length h) (tb t.demand.length w) rec1 (ref07_best_L5 t (tab t f) (tb t.supply.length h) (tb t.demand.length w) rec1 k) _ _ _ _ _ = _
    unfold ref07_best_B5
    rw [tb_len, tb_len, gd_pos (by omega), gd_pos (by omega), if_neg (by omega)]
theorem ref_start (ht : okT t = true) {h w : Nat → Int} (rec1 : List (List Int) → List Int → List Int → Option (List (List Int))) :
    ref07_best_k16 t (tab t f) (tb t.supply.length h) (tb t.demand.length w) rec1 (List.replicate t.supply.length 0) (List.replicate t.demand.length 0) =
      (let z := rK t f h (nN t + 1)
      ref07_best_k5 (tab t f) (tb t.supply.length h) (tb t.demand.length w) rec1 (buL t z) (byL t z) (frL t z)) := by
  have hs := (okT_spec ht).1.2.1
  have hd := (okT_spec ht).2.1.2.1
  unfold ref07_best_k16 ref07_best_k15
  rw [tb_len, tb_len, gd_pos (by omega), gd_pos (by omega), show Int.toNat (t.supply.length : Int) = t.supply.length from rfl, show Int.toNat (t.demand.length : Int) = t.demand.length from rfl, rep_tb, rep_tb]
  have l7 : ref07_best_L7 t (tab t f) (tb t.supply.length h) (tb t.demand.length w) rec1 (tb t.supply.length fun _ => 0) (tb t.demand.length fun _ => 0) (tb t.supply.length fun _ => 0) FU 0 (tb t.demand.length fun _ => 0) =
      ref07_best_k14 t (tab t f) (tb t.supply.length h) (tb t.demand.length w) rec1 (tb t.supply.length fun _ => 0) (tb t.demand.length fun _ => 0) (tb t.supply.length fun _ => 0) (tb t.demand.length fun _ => FAR) := by
    refine for0 t.demand.length (fun k => tb t.demand.length fun j => if j < k then FAR else 0) (fun k x j => ref07_best_L7 t (tab t f) (tb t.supply.length h) (tb t.demand.length w) rec1 (tb t.supply.length fun _ => 0) (tb t.demand.length fun _ => 0) (tb t.supply.length fun _ => 0) k j x) _ (tb_congr fun k hk => by simp) (fun k j hj => ?_) (fun k => ?_) (by omega)
    · show ref07_best_B7 t (tab t f) (tb t.supply.length h) (tb t.demand.length w) rec1 (tb t.supply.length fun _ => 0) (tb t.demand.length fun _ => 0) (tb t.supply.length fun _ => 0) (ref07_best_L7 t (tab t f) (tb t.supply.length h) (tb t.demand.length w) rec1 (tb t.supply.length fun _ => 0) (tb t.demand.length fun _ => 0) (tb t.supply.length fun _ => 0) k) (j : Int) _ = _
      unfold ref07_best_B7
      rw [if_pos (by rw [tb_len]; omega), ix_nat (tb_at hj), gd_pos (by omega), show Int.toNat (j : Int) = j from rfl, tb_set]
      congr 1
      refine tb_congr fun k hk => ?_
      by_cases e : k = j
      · subst e; rw [if_pos rfl, if_pos (by omega)]; rfl
      · rw [if_neg e]
        by_cases e2 : k < j
        · rw [if_pos e2, if_pos (by omega)]
        · rw [if_neg e2, if_neg (by omega)]
    · show ref07_best_B7 t (tab t f) (tb t.supply.length h) (tb t.demand.length w) rec1 (tb t.supply.length fun _ => 0) (tb t.demand.length fun _ => 0) (tb t.supply.length fun _ => 0) (ref07_best_L7 t (tab t f) (tb t.supply.length h) (tb t.demand.length w) rec1 (tb t.supply.length fun _ => 0) (tb t.demand.length fun _ => 0) (tb t.supply.length fun _ => 0) k) _ _ = _
      unfold ref07_best_B7
      rw [if_neg (by rw [tb_len]; omega)]
      congr 1
      exact tb_congr fun k hk => by rw [if_pos hk]
  rw [l7]
  unfold ref07_best_k14
  rw [← ref_rounds ht rec1]
  refine for0 t.supply.length (fun k => ((tb t.supply.length fun i => if i < k then d0h t h i else 0), (tb t.supply.length fun i => if i < k then (-1 : Int) else 0))) (fun k x j => ref07_best_L6 t (tab t f) (tb t.supply.length h) (tb t.demand.length w) rec1 (tb t.demand.length fun _ => 0) (tb t.demand.length fun _ => FAR) k j x.1 x.2) _
    (s0 := (tb t.supply.length fun _ => 0, tb t.supply.length fun _ => 0)) (Prod.ext (tb_congr fun k hk => by simp) (tb_congr fun k hk => by simp)) (fun k i hi => ?_) (fun k => ?_) (by omega)
  · show ref07_best_B6 t (tab t f) (tb t.supply.length h) (tb t.demand.length w) rec1 (tb t.demand.length fun _ => 0) (tb t.demand.length fun _ => FAR) (ref07_best_L6 t (tab t f) (tb t.supply.length h) (tb t.demand.length w) rec1 (tb t.demand.length fun _ => 0) (tb t.demand.length fun _ => FAR) k) (i : Int) _ _ = _
    unfold ref07_best_B6 ref07_best_k13
    have e2 : (tb t.supply.length fun q => if q < i then (-1 : Int) else 0).set i (-1) = tb t.supply.length fun q => if q < i + 1 then (-1 : Int) else 0 := by
      rw [tb_set]
      refine tb_congr fun k hk => ?_
      by_cases e : k = i
      · subst e; rw [if_pos rfl, if_pos (by omega)]
      · rw [if_neg e]
        by_cases e2 : k < i
        · rw [if_pos e2, if_pos (by omega)]
        · rw [if_neg e2, if_neg (by omega)]
    rw [if_pos (by rw [tb_len]; omega), ix_nat (tb_at hi), ix_nat (tb_at hi)]
    by_cases h0 : h i = 0
    · have e1 : (tb t.supply.length fun q => if q < i then d0h t h q else 0).set i FAR = tb t.supply.length fun q => if q < i + 1 then d0h t h q else 0 := by
        rw [tb_set]
        refine tb_congr fun k hk => ?_
        by_cases e : k = i
        · subst e
          rw [if_pos rfl, if_pos (by omega)]
          unfold d0h
          rw [if_pos hi, if_pos h0]
        · rw [if_neg e]
          by_cases e2 : k < i
          · rw [if_pos e2, if_pos (by omega)]
          · rw [if_neg e2, if_neg (by omega)]
      rw [if_pos h0, ix_nat (tb_at hi), gd_pos (by omega)]
      show ref07_best_L6 t (tab t f) (tb t.supply.length h) (tb t.demand.length w) rec1 (tb t.demand.length fun _ => 0) (tb t.demand.length fun _ => FAR) k _ ((tb t.supply.length fun q => if q < i then d0h t h q else 0).set i FAR) ((tb t.supply.length fun q => if q < i then (-1 : Int) else 0).set i (-1)) = _
      rw [e1, e2]; rfl
    · have e1 : (tb t.supply.length fun q => if q < i then d0h t h q else 0) = tb t.supply.length fun q => if q < i + 1 then d0h t h q else 0 := by
        refine tb_congr fun k hk => ?_
        by_cases e : k = i
        · subst e
          rw [if_neg (by omega), if_pos (by omega)]
          unfold d0h
          rw [if_pos hi, if_neg h0]
        · by_cases e2 : k < i
          · rw [if_pos e2, if_pos (by omega)]
          · rw [if_neg e2, if_neg (by omega)]
      rw [if_neg h0, gd_pos (by omega)]
      show ref07_best_L6 t (tab t f) (tb t.supply.length h) (tb t.demand.length w) rec1 (tb t.demand.length fun _ => 0) (tb t.demand.length fun _ => FAR) k _ (tb t.supply.length fun q => if q < i then d0h t h q else 0) ((tb t.supply.length fun q => if q < i then (-1 : Int) else 0).set i (-1)) = _
      rw [e1, e2]; rfl
  · show ref07_best_B6 t (tab t f) (tb t.supply.length h) (tb t.demand.length w) rec1 (tb t.demand.length fun _ => 0) (tb t.demand.length fun _ => FAR) (ref07_best_L6 t (tab t f) (tb t.supply.length h) (tb t.demand.length w) rec1 (tb t.demand.length fun _ => 0) (tb t.demand.length fun _ => FAR) k) _ _ _ = _
    unfold ref07_best_B6 ref07_best_k12
    rw [if_neg (by rw [tb_len]; omega)]
    have e1 : (tb t.supply.length fun i => if i < t.supply.length then d0h t h i else 0) = stL t (sR t h) := tb_congr fun k hk => if_pos hk
    have e2 : (tb t.supply.length fun i => if i < t.supply.length then (-1 : Int) else 0) = frL t (sR t h) := tb_congr fun k hk => if_pos hk
    have e3 : (tb t.demand.length fun _ => FAR) = buL t (sR t h) := tb_congr fun k hk => by
      show FAR = d0h t h (t.supply.length + k)
      unfold d0h
      rw [if_neg (by omega)]
    show ref07_best_L5 t (tab t f) (tb t.supply.length h) (tb t.demand.length w) rec1 FU 0 (tb t.supply.length fun i => if i < t.supply.length then d0h t h i else 0) (tb t.demand.length fun _ => FAR) (tb t.demand.length fun _ => 0) (tb t.supply.length fun i => if i < t.supply.length then (-1 : Int) else 0) = _
    rw [e1, e2, e3]; rfl
end
end Go.D7

set_option linter.unusedVariables false
set_option linter.unusedSimpArgs false
namespace Go.D7
open Go.Tb
/-- A part of a plan, with prices that prove it. -/
structure Part (t : Trade) (f : Nat → Nat → Int) (h w : Nat → Int) : Prop where
  nn : ∀ i j, 0 ≤ f i j
  hn : ∀ i, 0 ≤ h i
  wn : ∀ j, 0 ≤ w j
  row : ∀ i, i < t.supply.length → sumN t.demand.length (f i) + h i = gi t.supply i
  col : ∀ j, j < t.demand.length → sumN t.supply.length (fun i => f i j) + w j = gi t.demand j
  cert : ∃ p q, Cert t f p q
section
variable {t : Trade} {f : Nat → Nat → Int} {h w : Nat → Int}
theorem rK_inv (k : Nat) : InvE (fun e => e ∈ eds t f) FAR (d0h t h) (rK t f h k) :=
  rnds_inv start_inv (fun e he => ⟨he, eds_ne he⟩) k
theorem rK_mem (k : Nat) : Mem t f (rK t f h k) := by
  obtain ⟨T, τ, hi⟩ := rK_inv (t := t) (f := f) (h := h) k
  exact fun v e he => ⟨(hi.mem v e he).1, (hi.mem v e he).2.1⟩
theorem rK_u (k : Nat) : ∀ v e, (rK t f h k).by_ v = some e → e.u < nN t := fun v e he => (eds_lt (rK_mem k v e he).1).1
theorem Part.root (hp : Part t f h w) (k : Nat) {v : Nat} (hv : v < nN t) : ∃ q, q < nN t ∧ (rK t f h k).by_ (itp (rK t f h k) q v) = none ∧ ∀ i, i < q → (rK t f h k).by_ (itp (rK t f h k) i v) ≠ none := by
  obtain ⟨p, q, hc⟩ := hp.cert
  refine alive_root (rK_u k) (rK_inv k) (P := pot t p q) (fun v e he => ?_) hv
  obtain ⟨m1, m2⟩ := rK_mem k v e he
  have := pot_of hc e m1
  rwa [m2] at this
theorem Part.stable (ht : okT t = true) (hp : Part t f h w) : ∀ e ∈ eds t f, (rK t f h (nN t + 1)).d e.u < FAR → (rK t f h (nN t + 1)).d e.v ≤ (rK t f h (nN t + 1)).d e.u + e.c := by
  have h1 := (okT_spec ht).1
  have h2 := (okT_spec ht).2.1
  have hN : nN t = t.supply.length + t.demand.length := rfl
  have hF : FAR = 1073741824 := rfl
  rcases rnd_last (far := FAR) (L := eds t f) (N := nN t) (fun e he => (eds_lt he).2) (rK t f h (nN t)) with ⟨a, b⟩ | ⟨v, a, b, c⟩
  · have e : (rK t f h (nN t + 1)).d = (rK t f h (nN t)).d := b
    rw [e]
    exact rnd_stable b
  · exfalso
    have c' : (rK t f h (nN t + 1)).d v < (rK t f h (nN t)).d v := c
    have al := late_alive (L := eds t f) (far := FAR) (s0 := sR t h) (R := nN t) (fun e he => eds_ne he) rfl (fun k v C hk w => by
      have := W_bnd (M := 99) (fun e he => (eds_cost ht he).2) (fun v => (d0h_bnd h v).2.2) w
      omega) (v := v) c (by
        have := (rK_bnd (f := f) ht h (nN t) (by omega) v).2
        show (rK t f h (nN t + 1)).d v < FAR
        omega)
    obtain ⟨q, q1, q2, _⟩ := hp.root (nN t + 1) a
    exact al q (by omega) q2
theorem Part.near (ht : okT t = true) (hp : Part t f h w) {i0 : Nat} (hi0 : i0 < t.supply.length) (h0 : 0 < h i0) {j : Nat} (hj : j < t.demand.length) : (rK t f h (nN t + 1)).d (t.supply.length + j) < FAR := by
  have hF : FAR = 1073741824 := rfl
  have b := rnds_mono FAR (eds t f) (sR t h) i0 0 (nN t + 1)
  rw [Nat.zero_add] at b
  have e : (rnds FAR (eds t f) (sR t h) 0).d i0 = 0 := by
    show d0h t h i0 = 0
    unfold d0h
    rw [if_pos hi0, if_neg (by omega)]
  rw [e] at b
  have b' : (rK t f h (nN t + 1)).d i0 ≤ 0 := b
  have := hp.stable ht ⟨i0, t.supply.length + j, cc t i0 j⟩ (eds_mem.2 ⟨i0, j, hi0, hj, .inl rfl⟩) (by show (rK t f h (nN t + 1)).d i0 < FAR; omega)
  have this' : (rK t f h (nN t + 1)).d (t.supply.length + j) ≤ (rK t f h (nN t + 1)).d i0 + cc t i0 j := this
  have := cost_pos ht hi0 hj
  omega
/-- No node comes twice on the way back to a beginning. -/
theorem chain_inj {s : BS} {v k : Nat} (ha : ∀ i, i < k → s.by_ (itp s i v) ≠ none) (hn : s.by_ (itp s k v) = none) {a b : Nat} (hab : a < b) (hb : b ≤ k) : itp s a v ≠ itp s b v := by
  intro hc
  have e : itp s (k - b) (itp s a v) = itp s (k - b) (itp s b v) := by rw [hc]
  rw [← itp_add, ← itp_add, show b + (k - b) = k by omega] at e
  exact ha (a + (k - b)) (by omega) (by rw [e]; exact hn)
def Tight (t : Trade) (s : BS) (i j : Nat) : Prop := s.d i + cc t i j = s.d (t.supply.length + j)
theorem row_upd {x : Nat → Nat → Int} {i j : Nat} (v : Int) (hj : j < t.demand.length) (a : Nat) : sumN t.demand.length (fun b => if a = i ∧ b = j then v else x a b) = sumN t.demand.length (x a) + (if a = i then v - x i j else 0) := by
  by_cases ha : a = i
  · subst ha
    have := sumN_upd (g := x a) (k := j) (v := v) t.demand.length
    rw [if_pos hj] at this
    rw [if_pos rfl, ← this]
    exact sumN_congr _ fun b _ => by
      by_cases e : b = j
      · rw [if_pos ⟨rfl, e⟩, if_pos e]
      · rw [if_neg (fun h => e h.2), if_neg e]
  · rw [if_neg ha, Int.add_zero]
    exact sumN_congr _ fun b _ => by rw [if_neg (fun h => ha h.1)]
theorem col_upd {x : Nat → Nat → Int} {i j : Nat} (v : Int) (hi : i < t.supply.length) (b : Nat) : sumN t.supply.length (fun a => if a = i ∧ b = j then v else x a b) = sumN t.supply.length (fun a => x a b) + (if b = j then v - x i j else 0) := by
  by_cases hb : b = j
  · subst hb
    have := sumN_upd (g := fun a => x a b) (k := i) (v := v) t.supply.length
    rw [if_pos hi] at this
    rw [if_pos rfl, ← this]
    exact sumN_congr _ fun a _ => by
      by_cases e : a = i
      · rw [if_pos ⟨e, rfl⟩, if_pos e]
      · rw [if_neg (fun h => e h.1), if_neg e]
  · rw [if_neg hb, Int.add_zero]
    exact sumN_congr _ fun a _ => by rw [if_neg (fun h => hb h.2)]
structure Mid (t : Trade) (s : BS) (h w : Nat → Int) (j : Nat) (x : Nat → Nat → Int) : Prop where
  nn : ∀ i q, 0 ≤ x i q
  row : ∀ i, i < t.supply.length → sumN t.demand.length (x i) + h i = gi t.supply i
  col : ∀ q, q < t.demand.length → sumN t.supply.length (fun i => x i q) + w q = gi t.demand q - (if q = j then 1 else 0)
  tight : ∀ i q, i < t.supply.length → q < t.demand.length → 0 < x i q → Tight t s i q
structure Fin (t : Trade) (s : BS) (h w : Nat → Int) (c : Int) (x : Nat → Nat → Int) : Prop where
  nn : ∀ i q, 0 ≤ x i q
  hn : ∀ i, 0 ≤ h i
  row : ∀ i, i < t.supply.length → sumN t.demand.length (x i) + h i = gi t.supply i
  col : ∀ q, q < t.demand.length → sumN t.supply.length (fun i => x i q) + w q = gi t.demand q
  tight : ∀ i q, i < t.supply.length → q < t.demand.length → 0 < x i q → Tight t s i q
  sum : sumN t.supply.length h = c - 1
theorem mid_le (ht : okT t = true) {s : BS} {x : Nat → Nat → Int} {j : Nat} (hm : Mid t s h w j x) (hn : ∀ i, 0 ≤ h i) {i q : Nat} (hi : i < t.supply.length) (hq : q < t.demand.length) : x i q ≤ 30 ∧ h i ≤ 30 := by
  have h1 := sumN_mem (f := x i) (fun q _ => hm.nn i q) hq
  have h3 := sumN_nn (f := x i) (n := t.demand.length) (fun q _ => hm.nn i q)
  have h2 := hm.row i hi
  have h4 := supply_bnd ht hi
  have := hn i
  omega
theorem ref_path (ht : okT t = true) (hn : ∀ i, 0 ≤ h i) {s : BS} (hm : Mem t f s)
    (htb : ∀ i j, i < t.supply.length → j < t.demand.length → s.by_ (t.supply.length + j) = some ⟨i, t.supply.length + j, cc t i j⟩ → Tight t s i j)
    (l1 : List Int) (rec1 : List (List Int) → List Int → List Int → Option (List (List Int))) (t15 x1 : Int) :
    ∀ (k : Nat), ∀ (fuel j : Nat) (x : Nat → Nat → Int), k < fuel → j < t.demand.length → (∀ q, q < k → s.by_ (itp s q (t.supply.length + j)) ≠ none) → s.by_ (itp s k (t.supply.length + j)) = none →
      itp s k (t.supply.length + j) < t.supply.length → 0 < h (itp s k (t.supply.length + j)) → Mid t s h w j x →
      (∀ c, c ≤ k → ∀ q, q < t.demand.length → itp s c (t.supply.length + j) < t.supply.length → f (itp s c (t.supply.length + j)) q ≤ x (itp s c (t.supply.length + j)) q) →
      ∃ x' h', Fin t s h' w (sumN t.supply.length h) x' ∧ ref07_best_L1 l1 rec1 (byL t s) (frL t s) t15 x1 fuel (j : Int) (tab t x) (tb t.supply.length h) = rec1 (tab t x') (tb t.supply.length h') (l1.set (Int.toNat t15) (x1 - 1)) := by
  intro k
  induction k using Nat.strongRecOn with
  | _ k ih =>
  intro fuel j x hfu hj al nk rlt rh mid xf
  have hk1 : 1 ≤ k := by
    rcases Nat.eq_zero_or_pos k with rfl | hk
    · have : t.supply.length + j < t.supply.length := rlt
      omega
    · exact hk
  obtain ⟨fuel, rfl⟩ : ∃ q, fuel = q + 1 := ⟨fuel - 1, by omega⟩
  rcases node hm (al 0 hk1) with ⟨i, j', hi, hj', e1, e2, _, _, e3⟩ | ⟨i, j', hi, _, e1, _⟩
  · have e1' : t.supply.length + j = t.supply.length + j' := e1
    obtain rfl : j = j' := by omega
    have i1 : itp s 1 (t.supply.length + j) = i := e2
    have hby : s.by_ (t.supply.length + j) = some ⟨i, t.supply.length + j, cc t i j⟩ := e3
    have tij := htb i j hi hj hby
    have gb : (byL t s)[j]? = some (i : Int) := by
      have : (byL t s)[j]? = some (byO (s.by_ (t.supply.length + j))) := tb_at hj
      rw [this, hby]; rfl
    have gm : (tab t x)[i]? = some (tb t.demand.length (x i)) := tbl_at hi
    have gx : (tb t.demand.length (x i))[j]? = some (x i j) := tb_at hj
    have bx := mid_le ht mid hn hi hj
    have nx := mid.nn i j
    have gf : (frL t s)[i]? = some (frO t.supply.length (s.by_ i)) := tb_at hi
    have st1 : (tab t x).set i ((tb t.demand.length (x i)).set j (x i j + 1)) = tab t (fun a b => if a = i ∧ b = j then x i j + 1 else x a b) := tbl_set hi _
    generalize hy : (fun a b => if a = i ∧ b = j then x i j + 1 else x a b) = y at st1
    have y_eq : ∀ a b, y a b = if a = i ∧ b = j then x i j + 1 else x a b := fun a b => by rw [← hy]
    have y_row : ∀ a, sumN t.demand.length (y a) = sumN t.demand.length (x a) + (if a = i then 1 else 0) := fun a => by
      rw [← hy]
      show sumN t.demand.length (fun b => if a = i ∧ b = j then x i j + 1 else x a b) = _
      rw [row_upd _ hj]
      split <;> omega
    have y_col : ∀ b, sumN t.supply.length (fun a => y a b) = sumN t.supply.length (fun a => x a b) + (if b = j then 1 else 0) := fun b => by
      rw [← hy]
      show sumN t.supply.length (fun a => if a = i ∧ b = j then x i j + 1 else x a b) = _
      rw [col_upd _ hi]
      split <;> omega
    have y_nn : ∀ a b, 0 ≤ y a b := fun a b => by
      rw [y_eq]
      have := mid.nn a b
      split <;> omega
    have y_t : ∀ a b, a < t.supply.length → b < t.demand.length → 0 < y a b → Tight t s a b := fun a b ha hb hp => by
      rw [y_eq] at hp
      split at hp
      · rename_i hc; rw [hc.1, hc.2]; exact tij
      · exact mid.tight a b ha hb hp
    have run : ref07_best_L1 l1 rec1 (byL t s) (frL t s) t15 x1 (fuel + 1) (j : Int) (tab t x) (tb t.supply.length h) =
        (let l4 := tb t.supply.length h
         let x2 : Int := (i : Int)
         let x6 := frO t.supply.length (s.by_ i)
         if (0 : Int) ≤ x6 then
          ix (tab t y) x2 fun x7 =>
          ix x7 x6 fun x8 =>
          gd (InR (x8 - 1)) <|
          ix x7 x6 fun x9 =>
          ref07_best_L1 l1 rec1 (byL t s) (frL t s) t15 x1 fuel x6 ((tab t y).set (Int.toNat x2) (x7.set (Int.toNat x6) (x8 - 1))) l4
        else
          ix l4 x2 fun x10 =>
          gd (InR (x10 - 1)) <|
          ix l4 x2 fun x11 =>
          ref07_best_L1 l1 rec1 (byL t s) (frL t s) t15 x1 fuel x6 (tab t y) (l4.set (Int.toNat x2) (x10 - 1))) := by
      show ref07_best_B1 l1 rec1 (byL t s) (frL t s) t15 x1 (ref07_best_L1 l1 rec1 (byL t s) (frL t s) t15 x1 fuel) (j : Int) (tab t x) (tb t.supply.length h) = _
      unfold ref07_best_B1
      rw [if_pos (by omega), ix_nat gb, ix_nat gm, ix_nat gx, gd_pos (by omega), ix_nat gx, ix_nat gf, show Int.toNat (i : Int) = i from rfl, show Int.toNat (j : Int) = j from rfl, st1]
      rfl
    rw [run]
    by_cases hk : k = 1
    · -- the store has a ton
      subst hk
      have nb : s.by_ i = none := by rw [i1] at nk; exact nk
      have hi0 : 0 < h i := by rw [i1] at rh; exact rh
      have gh : (tb t.supply.length h)[i]? = some (h i) := tb_at hi
      rw [nb]
      refine ⟨y, fun q => if q = i then h i - 1 else h q, ⟨y_nn, fun q => ?_, fun a ha => ?_, fun b hb => ?_, y_t, ?_⟩, ?_⟩
      · have := hn q
        split <;> omega
      · have := mid.row a ha
        rw [y_row]
        by_cases e : a = i
        · subst e; rw [if_pos rfl, if_pos rfl]; omega
        · rw [if_neg e, if_neg e]; omega
      · have := mid.col b hb
        rw [y_col]
        split at this <;> rename_i e
        · rw [if_pos e]; omega
        · rw [if_neg e]; omega
      · have := sumN_upd (g := h) (k := i) (v := h i - 1) t.supply.length
        rw [if_pos hi] at this
        rw [this]; omega
      · show (if (0 : Int) ≤ -1 then _ else ix (tb t.supply.length h) (i : Int) _) = _
        rw [if_neg (by decide), ix_nat gh, gd_pos (by omega), ix_nat gh, show Int.toNat (i : Int) = i from rfl, tb_set]
        obtain ⟨fuel, rfl⟩ : ∃ q, fuel = q + 1 := ⟨fuel - 1, by omega⟩
        show ref07_best_B1 l1 rec1 (byL t s) (frL t s) t15 x1 (ref07_best_L1 l1 rec1 (byL t s) (frL t s) t15 x1 fuel) (-1) _ _ = _
        unfold ref07_best_B1
        rw [if_neg (by decide)]
    · -- the ton is taken from another buyer
      have al1 := al 1 (by omega)
      rw [i1] at al1
      rcases node hm al1 with ⟨i', j2, hi', _, f1, _⟩ | ⟨i', j2, hi', hj2, f1, f2, _, f3, _, f4⟩
      · omega
      · obtain rfl : i = i' := f1
        have hby2 := f4
        have itp2 : itp s 2 (t.supply.length + j) = t.supply.length + j2 := by
          show pre s (itp s 1 (t.supply.length + j)) = _
          rw [i1]; exact f2
        have hshift : ∀ q, itp s q (t.supply.length + j2) = itp s (q + 2) (t.supply.length + j) := fun q => by
          rw [← itp2, ← itp_add, Nat.add_comm]
        have gy : (tab t y)[i]? = some (tb t.demand.length (y i)) := tbl_at hi
        have gy2 : (tb t.demand.length (y i))[j2]? = some (y i j2) := tb_at hj2
        have xf1 := xf 1 hk1 j2 hj2 (by rw [i1]; exact hi)
        rw [i1] at xf1
        have y1 : 1 ≤ y i j2 := by
          rw [y_eq]
          split
          · omega
          · omega
        have y31 : y i j2 ≤ 31 := by
          have := (mid_le ht mid hn hi hj2).1
          rw [y_eq]
          split <;> omega
        have fr : frO t.supply.length (s.by_ i) = (j2 : Int) := by
          rw [hby2]
          show ((t.supply.length + j2 : Nat) : Int) - (t.supply.length : Int) = (j2 : Int)
          omega
        have st2 : (tab t y).set i ((tb t.demand.length (y i)).set j2 (y i j2 - 1)) = tab t (fun a b => if a = i ∧ b = j2 then y i j2 - 1 else y a b) := tbl_set hi _
        rw [fr]
        have go := ih (k - 2) (by omega) fuel j2 (fun a b => if a = i ∧ b = j2 then y i j2 - 1 else y a b) (by omega) hj2 (fun q hq => by rw [hshift]; exact al _ (by omega)) (by rw [hshift, show k - 2 + 2 = k by omega]; exact nk) (by rw [hshift, show k - 2 + 2 = k by omega]; exact rlt) (by rw [hshift, show k - 2 + 2 = k by omega]; exact rh) ⟨fun a b => ?_, fun a ha => ?_, fun b hb => ?_, fun a b ha hb hp => ?_⟩ (fun c hc q hq hlt => ?_)
        · obtain ⟨x', h', fn, eq⟩ := go
          refine ⟨x', h', fn, ?_⟩
          rw [← eq]
          show (if (0 : Int) ≤ (j2 : Int) then _ else _) = _
          rw [if_pos (by omega), ix_nat gy, ix_nat gy2, gd_pos (by omega), ix_nat gy2, show Int.toNat (i : Int) = i from rfl, show Int.toNat (j2 : Int) = j2 from rfl, st2]
        · have := y_nn a b
          show 0 ≤ (if a = i ∧ b = j2 then y i j2 - 1 else y a b)
          split <;> omega
        · have := mid.row a ha
          show sumN t.demand.length (fun b => if a = i ∧ b = j2 then y i j2 - 1 else y a b) + h a = _
          rw [row_upd _ hj2, y_row]
          split <;> omega
        · have := mid.col b hb
          show sumN t.supply.length (fun a => if a = i ∧ b = j2 then y i j2 - 1 else y a b) + w b = _
          rw [col_upd _ hi, y_col]
          split at this <;> rename_i e
          · rw [if_pos e]
            split <;> omega
          · rw [if_neg e]
            split <;> omega
        · have hp' : 0 < (if a = i ∧ b = j2 then y i j2 - 1 else y a b) := hp
          split at hp'
          · rename_i hc
            rw [hc.1, hc.2]
            exact y_t i j2 hi hj2 (by omega)
          · exact y_t a b ha hb hp'
        · have ne : itp s (c + 2) (t.supply.length + j) ≠ i := by
            intro hcc
            exact chain_inj al nk (a := 1) (b := c + 2) (by omega) (by omega) (by rw [i1, hcc])
          rw [hshift] at hlt ⊢
          have b := xf (c + 2) (by omega) q hq hlt
          show _ ≤ (if itp s (c + 2) (t.supply.length + j) = i ∧ q = j2 then y i j2 - 1 else y (itp s (c + 2) (t.supply.length + j)) q)
          rw [if_neg (fun h => ne h.1), y_eq, if_neg (fun h => ne h.1)]
          exact b
  · have e1' : t.supply.length + j = i := e1
    omega
def lastTo (w d : Nat → Int) : Nat → Int
  | 0 => -1
  | j + 1 => if 0 < w j then (if lastTo w d j < 0 ∨ d j < d (Int.toNat (lastTo w d j)) then (j : Int) else lastTo w d j) else lastTo w d j
theorem lastTo_spec (w d : Nat → Int) : ∀ j : Nat, (lastTo w d j = -1 ∧ ∀ q, q < j → ¬ 0 < w q) ∨ ∃ q, q < j ∧ lastTo w d j = (q : Int) ∧ 0 < w q
  | 0 => .inl ⟨rfl, fun q hq => by omega⟩
  | j + 1 => by
    have ih := lastTo_spec w d j
    unfold lastTo
    by_cases hw : 0 < w j
    · rw [if_pos hw]
      split
      · exact .inr ⟨j, by omega, rfl, hw⟩
      · rename_i hc
        rcases ih with ⟨a, b⟩ | ⟨q, a, b, c⟩
        · exact absurd (.inl (by omega)) hc
        · exact .inr ⟨q, by omega, b, c⟩
    · rw [if_neg hw]
      rcases ih with ⟨a, b⟩ | ⟨q, a, b, c⟩
      · refine .inl ⟨a, fun q hq => ?_⟩
        by_cases e : q = j
        · rw [e]; exact hw
        · exact b q (by omega)
      · exact .inr ⟨q, by omega, b, c⟩
theorem ref_next (ht : okT t = true) {s : BS} (m3 : List (List Int)) (l5 : List Int) (rec1 : List (List Int) → List Int → List Int → Option (List (List Int))) (l2 l3 : List Int) :
    ref07_best_k5 m3 l5 (tb t.demand.length w) rec1 (buL t s) l2 l3 = ref07_best_k2 m3 l5 (tb t.demand.length w) rec1 l2 l3 (lastTo w (fun j => s.d (t.supply.length + j)) t.demand.length) := by
  have hd := (okT_spec ht).2.1.2.1
  unfold ref07_best_k5
  refine for0 t.demand.length (fun j => lastTo w (fun j => s.d (t.supply.length + j)) j) (fun k x j => ref07_best_L2 m3 l5 (tb t.demand.length w) rec1 (buL t s) l2 l3 k x j) _ (s0 := (-1 : Int)) rfl (fun k j hj => ?_) (fun k => ?_) (by omega)
  · have gw : (tb t.demand.length w)[j]? = some (w j) := tb_at hj
    have gj : (buL t s)[j]? = some (s.d (t.supply.length + j)) := tb_at hj
    have sp := lastTo_spec w (fun j => s.d (t.supply.length + j)) j
    have e : lastTo w (fun j => s.d (t.supply.length + j)) (j + 1) = if 0 < w j then (if lastTo w (fun j => s.d (t.supply.length + j)) j < 0 ∨ s.d (t.supply.length + j) < s.d (t.supply.length + Int.toNat (lastTo w (fun j => s.d (t.supply.length + j)) j)) then (j : Int) else lastTo w (fun j => s.d (t.supply.length + j)) j) else lastTo w (fun j => s.d (t.supply.length + j)) j := rfl
    rw [e]
    generalize lastTo w (fun j => s.d (t.supply.length + j)) j = la at *
    show ref07_best_B2 m3 l5 (tb t.demand.length w) rec1 (buL t s) l2 l3 (ref07_best_L2 m3 l5 (tb t.demand.length w) rec1 (buL t s) l2 l3 k) la (j : Int) = _
    unfold ref07_best_B2 ref07_best_k4 ref07_best_k3
    rw [if_pos (by rw [tb_len]; omega), ix_nat gw]
    by_cases hw : 0 < w j
    · rw [if_pos hw, if_pos hw]
      by_cases hl : la < 0
      · rw [if_pos hl, if_pos rfl, gd_pos (by omega), if_pos (.inl hl)]; rfl
      · rcases sp with ⟨a, _⟩ | ⟨q, a, b, c⟩
        · omega
        · subst b
          have gq : (buL t s)[q]? = some (s.d (t.supply.length + q)) := tb_at (by omega)
          rw [if_neg hl, ix_nat gj, ix_nat gq, show Int.toNat (q : Int) = q from rfl]
          by_cases hc : s.d (t.supply.length + j) < s.d (t.supply.length + q)
          · rw [decide_eq_true hc, if_pos rfl, gd_pos (by omega), if_pos (.inr hc)]; rfl
          · rw [decide_eq_false hc, if_neg (by simp), gd_pos (by omega), if_neg (fun h => by rcases h with h | h <;> omega)]; rfl
    · rw [if_neg hw, if_neg (by simp), gd_pos (by omega), if_neg hw]; rfl
  · show ref07_best_B2 m3 l5 (tb t.demand.length w) rec1 (buL t s) l2 l3 (ref07_best_L2 m3 l5 (tb t.demand.length w) rec1 (buL t s) l2 l3 k) _ _ = _
    unfold ref07_best_B2
    rw [if_neg (by rw [tb_len]; omega)]
theorem sumN_pos {g : Nat → Int} : ∀ {n : Nat}, (∀ i, 0 ≤ g i) → 0 < sumN n g → ∃ i, i < n ∧ 0 < g i
  | 0, _, hp => by simp [sumN] at hp
  | n + 1, hg, hp => by
    by_cases hx : 0 < g n
    · exact ⟨n, by omega, hx⟩
    · have : sumN (n + 1) g = sumN n g + g n := rfl
      obtain ⟨i, hi, h⟩ := sumN_pos (n := n) hg (by omega)
      exact ⟨i, by omega, h⟩
theorem Part.sums (ht : okT t = true) (hp : Part t f h w) : sumN t.supply.length h = sumN t.demand.length w := by
  have e1 := (okT_spec ht).2.2.1
  rw [tot_sumN, tot_sumN] at e1
  have s1 : sumN t.supply.length (fun p => sumN t.demand.length (f p)) + sumN t.supply.length h = sumN t.supply.length (gi t.supply) := by
    rw [← sumN_add]
    exact sumN_congr _ fun i hi => hp.row i hi
  have s2 : sumN t.demand.length (fun q => sumN t.supply.length (fun i => f i q)) + sumN t.demand.length w = sumN t.demand.length (gi t.demand) := by
    rw [← sumN_add]
    exact sumN_congr _ fun i hi => hp.col i hi
  have s3 : sumN t.supply.length (fun p => sumN t.demand.length (f p)) = sumN t.demand.length (fun q => sumN t.supply.length (fun i => f i q)) := sumN_swap f t.demand.length t.supply.length
  omega
/-- One ton more. -/
theorem ref_ton (ht : okT t = true) (hp : Part t f h w) (hpos : 0 < sumN t.supply.length h) (rec1 : List (List Int) → List Int → List Int → Option (List (List Int))) :
    ∃ f' h' w', Part t f' h' w' ∧ sumN t.supply.length h' = sumN t.supply.length h - 1 ∧ ref07_best_k16 t (tab t f) (tb t.supply.length h) (tb t.demand.length w) rec1 (List.replicate t.supply.length 0) (List.replicate t.demand.length 0) = rec1 (tab t f') (tb t.supply.length h') (tb t.demand.length w') := by
  have h1 := (okT_spec ht).1
  have h2 := (okT_spec ht).2.1
  have hN : nN t = t.supply.length + t.demand.length := rfl
  have hF : FAR = 1073741824 := rfl
  rw [ref_start ht]
  have stable := hp.stable ht
  have near := fun {i0} (hi0 : i0 < t.supply.length) (h0 : 0 < h i0) {j} (hj : j < t.demand.length) => hp.near ht hi0 h0 hj
  have root := fun {v} (hv : v < nN t) => hp.root (nN t + 1) hv
  have hmem := rK_mem (t := t) (f := f) (h := h) (nN t + 1)
  have hinv := rK_inv (t := t) (f := f) (h := h) (nN t + 1)
  generalize hS : rK t f h (nN t + 1) = S at *
  show ∃ f' h' w', _ ∧ _ ∧ ref07_best_k5 (tab t f) (tb t.supply.length h) (tb t.demand.length w) rec1 (buL t S) (byL t S) (frL t S) = _
  rw [ref_next ht]
  obtain ⟨i0, hi0, h0⟩ := sumN_pos hp.hn hpos
  have hw := hp.sums ht
  obtain ⟨j0, hj0, w0⟩ := sumN_pos hp.wn (by rw [← hw]; exact hpos)
  rcases lastTo_spec w (fun j => S.d (t.supply.length + j)) t.demand.length with ⟨_, b⟩ | ⟨j, a, b, c⟩
  · exact absurd w0 (b j0 hj0)
  · rw [b]
    have gw : (tb t.demand.length w)[j]? = some (w j) := tb_at a
    have fin : ∀ q, q < t.demand.length → S.d (t.supply.length + q) < FAR := fun q hq => near hi0 h0 hq
    have tight_of : ∀ i q, i < t.supply.length → q < t.demand.length → S.d i + cc t i q ≤ S.d (t.supply.length + q) → Tight t S i q := fun i q hi hq hle => by
      have hb := cost_pos ht hi hq
      have := stable ⟨i, t.supply.length + q, cc t i q⟩ (eds_mem.2 ⟨i, q, hi, hq, .inl rfl⟩) (by have := fin q hq; show S.d i < FAR; omega)
      have this' : S.d (t.supply.length + q) ≤ S.d i + cc t i q := this
      unfold Tight; omega
    have tf : ∀ i q, i < t.supply.length → q < t.demand.length → 0 < f i q → Tight t S i q := fun i q hi hq hfp => by
      have := stable ⟨t.supply.length + q, i, -cc t i q⟩ (eds_mem.2 ⟨i, q, hi, hq, .inr ⟨rfl, hfp⟩⟩) (fin q hq)
      have this' : S.d i ≤ S.d (t.supply.length + q) + -cc t i q := this
      exact tight_of i q hi hq (by omega)
    have htb : ∀ i q, i < t.supply.length → q < t.demand.length → S.by_ (t.supply.length + q) = some ⟨i, t.supply.length + q, cc t i q⟩ → Tight t S i q := fun i q hi hq hby => by
      obtain ⟨T, τ, hv⟩ := hinv
      have := hv.low _ _ hby
      exact tight_of i q hi hq this
    obtain ⟨k, k1, k2, k3⟩ := root (v := t.supply.length + j) (by omega)
    -- the beginning is a store that has tons
    have rfar : S.d (itp S k (t.supply.length + j)) < FAR := by
      obtain ⟨T, τ, hv⟩ := hinv
      exact chain_far hv (fin j a) k
    have rd0 : S.d (itp S k (t.supply.length + j)) = d0h t h (itp S k (t.supply.length + j)) := by
      obtain ⟨T, τ, hv⟩ := hinv
      exact hv.nil _ k2
    rw [rd0] at rfar
    have rst : itp S k (t.supply.length + j) < t.supply.length ∧ 0 < h (itp S k (t.supply.length + j)) := by
      unfold d0h at rfar
      split at rfar
      · rename_i hlt
        refine ⟨hlt, ?_⟩
        split at rfar
        · omega
        · have := hp.hn (itp S k (t.supply.length + j)); omega
      · omega
    have wcol := hp.col j a
    have wb : w j ≤ 30 := by
      have := demand_bnd ht a
      have := sumN_nn (f := fun i => f i j) (n := t.supply.length) (fun i _ => hp.nn i j)
      omega
    obtain ⟨x', h', hfin, hrun⟩ := ref_path (w := fun q => if q = j then w j - 1 else w q) ht hp.hn hmem htb (tb t.demand.length w) rec1 (j : Int) (w j) k FU j f (by have := FU_pos; omega) a k3 k2 rst.1 rst.2
      ⟨hp.nn, hp.row, fun q hq => by
        have := hp.col q hq
        by_cases e : q = j
        · subst e; rw [if_pos rfl, if_pos rfl]; omega
        · rw [if_neg e, if_neg e]; omega, tf⟩ (fun c _ q _ _ => Int.le_refl _)
    refine ⟨x', h', fun q => if q = j then w j - 1 else w q, ⟨hfin.nn, hfin.hn, fun q => ?_, hfin.row, hfin.col, fun i => -S.d i, fun q => S.d (t.supply.length + q), fun i q hi hq => ?_, fun i q hi hq hx => ?_⟩, hfin.sum, ?_⟩
    · have := hp.wn q
      split <;> omega
    · show -S.d i + S.d (t.supply.length + q) ≤ cc t i q
      have hb := cost_pos ht hi hq
      by_cases hlt : S.d i < FAR
      · have := stable ⟨i, t.supply.length + q, cc t i q⟩ (eds_mem.2 ⟨i, q, hi, hq, .inl rfl⟩) hlt
        have this' : S.d (t.supply.length + q) ≤ S.d i + cc t i q := this
        omega
      · have := fin q hq; omega
    · have := hfin.tight i q hi hq hx
      unfold Tight at this
      show -S.d i + S.d (t.supply.length + q) = cc t i q
      omega
    · unfold ref07_best_k2
      rw [ix_nat gw, gd_pos (by omega), ix_nat gw, hrun, show Int.toNat (j : Int) = j from rfl, tb_set]
theorem ref_loop (ht : okT t = true) : ∀ (c fuel : Nat) (f : Nat → Nat → Int) (h w : Nat → Int), Part t f h w → sumN t.supply.length h ≤ (c : Int) → c < fuel → ∃ g, BestF t g ∧ ref07_best_L8 t fuel (tab t f) (tb t.supply.length h) (tb t.demand.length w) = some (tab t g)
  | c, 0, f, h, w, hp, hc, hf => by omega
  | c, fuel + 1, f, h, w, hp, hc, hf => by
    have h1 := (okT_spec ht).1
    have h2 := (okT_spec ht).2.1
    have hsum : ref07_sum (tb t.supply.length h) = some (sumN t.supply.length h) := by
      have := rsum_eq (M := 30) (by decide) (l := tb t.supply.length h) (by rw [tb_len]; omega) (fun x hx => by
        unfold tb at hx
        obtain ⟨i, hi, rfl⟩ := List.mem_map.1 hx
        have hi := List.mem_range.1 hi
        have a := hp.row i hi
        have b := supply_bnd ht hi
        have d := sumN_nn (f := f i) (n := t.demand.length) (fun q _ => hp.nn i q)
        exact ⟨hp.hn i, by omega⟩)
      rw [this, tot_sumN, tb_len]
      congr 1
      exact sumN_congr _ fun i hi => tb_gi hi
    have e : ref07_best_L8 t (fuel + 1) (tab t f) (tb t.supply.length h) (tb t.demand.length w) = ref07_best_B8 t (ref07_best_L8 t fuel) (tab t f) (tb t.supply.length h) (tb t.demand.length w) := rfl
    rw [e]
    unfold ref07_best_B8
    rw [bnd_eq hsum]
    by_cases hpos : 0 < sumN t.supply.length h
    · rw [if_pos hpos, tb_len, tb_len, gd_pos (by omega), gd_pos (by omega), show Int.toNat (t.supply.length : Int) = t.supply.length from rfl, show Int.toNat (t.demand.length : Int) = t.demand.length from rfl]
      obtain ⟨f', h', w', p1, p2, p3⟩ := ref_ton ht hp hpos (ref07_best_L8 t fuel)
      rw [p3]
      obtain ⟨c, rfl⟩ : ∃ q, c = q + 1 := ⟨c - 1, by omega⟩
      exact ref_loop ht c fuel f' h' w' p1 (by omega) (by omega)
    · rw [if_neg hpos]
      have hz : sumN t.supply.length h = 0 := by
        have := sumN_nn (f := h) (n := t.supply.length) (fun i _ => hp.hn i)
        omega
      have wz : sumN t.demand.length w = 0 := by rw [← hp.sums ht]; exact hz
      refine ⟨f, ⟨⟨hp.nn, fun i hi => ?_, fun j hj => ?_⟩, hp.cert⟩, rfl⟩
      · have := hp.row i hi
        have := sumN_zero_of (fun i _ => hp.hn i) hz i hi
        omega
      · have := hp.col j hj
        have := sumN_zero_of (fun i _ => hp.wn i) wz j hj
        omega
theorem gi_nn {l : List Int} (h : ∀ x ∈ l, 0 ≤ x ∧ x ≤ 30) (i : Nat) : 0 ≤ gi l i := by
  by_cases hi : i < l.length
  · exact (h _ (List.mem_of_getElem? (gi_at hi))).1
  · unfold gi List.getD
    rw [List.getElem?_eq_none (by omega)]; exact Int.le_refl _
theorem rbest_eq (ht : okT t = true) : ∃ g, BestF t g ∧ ref07_best t = some (tab t g) := by
  have h1 := (okT_spec ht).1
  have h2 := (okT_spec ht).2.1
  obtain ⟨g, a, b⟩ := ref_loop ht 120 FU (fun _ _ => 0) (gi t.supply) (gi t.demand)
    ⟨fun _ _ => Int.le_refl _, gi_nn h1.2.2, gi_nn h2.2.2, fun i hi => by rw [sumN_zero]; omega, fun j hj => by rw [sumN_zero]; omega, fun _ => 0, fun _ => 0, fun i j hi hj => by have := cost_pos ht hi hj; omega, fun i j _ _ h => by omega⟩
    (by
      have := (sumN_bnd (M := 30) t.supply.length (f := gi t.supply) (fun i hi => supply_bnd ht hi)).2
      omega) (by have := FU_pos; omega)
  refine ⟨g, a, ?_⟩
  unfold ref07_best ref07_best_k17
  rw [bnd_eq (rempty_eq (by omega) (by omega)), gd_pos (by simp; omega), gd_pos (by simp; omega)]
  rw [tb_self, tb_self] at b
  exact b
end
end Go.D7

set_option linter.unusedVariables false
set_option linter.unusedSimpArgs false
namespace Go.D7
open Go.Tb
/-- The smallest cost. -/
def IsLeast (t : Trade) (c : Int) : Prop := ∃ g, BestF t g ∧ costF t g = c
section
variable {t : Trade} {f : Nat → Nat → Int} {c : Int}
theorem IsLeast.le (h : IsLeast t c) (hp : PlanF t f) : c ≤ costF t f := by
  obtain ⟨g, hg, rfl⟩ := h
  exact hg.le hp
theorem IsLeast.eq (h : IsLeast t c) (hp : BestF t f) : c = costF t f := by
  obtain ⟨g, hg, rfl⟩ := h
  exact hg.same hp
theorem IsLeast.same {d : Int} (h : IsLeast t c) (h' : IsLeast t d) : c = d := by
  obtain ⟨g, hg, rfl⟩ := h'
  exact h.eq hg
theorem val0 (hv : okT t = true) : validate t = 0 := if_pos hv
theorem val1 (hv : ¬ okT t = true) : validate t = 1 := if_neg hv
theorem tabT (ht : okT t = true) (hp : PlanF t f) : tabB t (tab t f) 120 = true := (check0 (plan_check ht hp)).2.1
theorem cost_plan (ht : okT t = true) (hp : PlanF t f) : bulk_cost t (tab t f) = some (costF t f) := by rw [cost_eq ht (tabT ht hp), costN_tab]
theorem rcost_plan (ht : okT t = true) (hp : PlanF t f) : ref07_cost t (tab t f) = some (costF t f) := by rw [rcost_eq ht (tabT ht hp), costN_tab]
theorem costR_plan (ht : okT t = true) (hp : PlanF t f) : costR t (tab t f) = (costF t f, 0) := by
  unfold costR
  rw [if_pos (plan_check ht hp), costN_tab]
theorem Least_ok (hs : Tsmall t) (ht : okT t = true) : ∃ c, IsLeast t c ∧ bulk_Least t = some (c, 0) ∧ ref07_Least t = some (c, 0) := by
  obtain ⟨g, d, hp, hst, hb⟩ := best_eq ht
  obtain ⟨g', hg', hb'⟩ := rbest_eq ht
  have hg := hst.best hp
  refine ⟨costF t g, ⟨g, hg, rfl⟩, ?_, ?_⟩
  · unfold bulk_Least
    rw [bnd_eq (Validate_eq hs), val0 ht, if_pos rfl, bnd_eq hb]
    show bnd (bulk_cost t (tab t g)) _ = _
    rw [bnd_eq (cost_plan ht hp)]
  · unfold ref07_Least
    rw [bnd_eq (rValidate_eq hs), val0 ht, if_pos rfl, bnd_eq hb', bnd_eq (rcost_plan ht hg'.plan), hg'.same hg]
theorem Least_no (hs : Tsmall t) (ht : ¬ okT t = true) : bulk_Least t = some (0, 1) ∧ ref07_Least t = some (0, 1) := by
  constructor
  · unfold bulk_Least
    rw [bnd_eq (Validate_eq hs), val1 ht, if_neg (by decide)]
  · unfold ref07_Least
    rw [bnd_eq (rValidate_eq hs), val1 ht, if_neg (by decide)]
end
section
variable {t : Trade} {f : Nat → Nat → Int} {c : Int}
/-- A plan is a best one, or there is a round along which it becomes cheaper. -/
theorem best_or (hs : Tsmall t) (ht : okT t = true) (hp : PlanF t f) : (∃ d, bulk_search t (tab t f) = some (d, []) ∧ BestF t f) ∨
    (∃ d r L, bulk_search t (tab t f) = some (d, r) ∧ r ≠ [] ∧ bulk_pairs r = some L ∧ InPairs t L ∧ roundB L = true ∧ L.length ≤ 8 ∧ 1 ≤ mN f L L.length ∧ PlanF t (fK f L (mN f L L.length) L.length) ∧ costF t (fK f L (mN f L L.length) L.length) < costF t f) := by
  rcases search_spec (f := f) ht with ⟨d, h1, h2⟩ | ⟨d, r, L, h1, h2, h3, h4, h5, h6, h7, h8⟩
  · exact .inl ⟨_, h1, h2.best hp⟩
  · exact .inr ⟨d, r, L, h1, h2, h3, h4, h5, h6, h7, along_plan hp h4 h5, h8⟩
/-- What both say of a plan: whether its cost is the smallest. -/
theorem IsBest_ok (hs : Tsmall t) (ht : okT t = true) (hp : PlanF t f) (hc : IsLeast t c) : bulk_IsBest t (tab t f) = some (decide (c = costF t f), 0) ∧ ref07_IsBest t (tab t f) = some (decide (c = costF t f), 0) := by
  have hsm := tab_small hs.1 hs.2.1 f
  have hck := plan_check ht hp
  constructor
  · unfold bulk_IsBest
    rw [bnd_eq (CheckPlan_eq hs hsm), hck, if_pos rfl]
    rcases best_or hs ht hp with ⟨d, h1, h2⟩ | ⟨d, r, L, h1, h2, _, _, _, _, _, h7, h8⟩
    · rw [bnd_eq h1]
      congr 2
      rw [decide_eq_true (hc.eq h2)]; rfl
    · rw [bnd_eq h1]
      congr 2
      have := hc.le h7
      rw [decide_eq_false h2, decide_eq_false (by omega)]
  · unfold ref07_IsBest
    obtain ⟨g', hg', hb'⟩ := rbest_eq ht
    rw [bnd_eq (rCheckPlan_eq hs hsm), hck, if_pos rfl, bnd_eq (rcost_plan ht hp), bnd_eq hb', bnd_eq (rcost_plan ht hg'.plan), hc.eq hg']
    congr 2
    exact decide_eq_decide.2 ⟨fun h => h.symm, fun h => h.symm⟩
end
end Go.D7

set_option linter.unusedVariables false
set_option linter.unusedSimpArgs false
namespace Go.D7
open Go.Tb
section
variable {t o : Trade}
/-- Two trades with the same ways. -/
def Alike (t o : Trade) : Prop := t.supply.length = o.supply.length ∧ t.demand.length = o.demand.length ∧ t.cost = o.cost
instance (t o : Trade) : Decidable (Alike t o) := by unfold Alike; infer_instance
end
end Go.D7

set_option linter.unusedVariables false
set_option linter.unusedSimpArgs false
namespace Go.D7
open Go.Tb
def priceB (l : List Int) (n : Nat) : Bool := decide (l.length = n) && l.all (fun x => within x (-1000) 1000)
def fairRow (t : Trade) (p : Prices) (i : Nat) (j : Nat) : Bool := decide (gi p.stores i + gi p.buyers j ≤ cc t i j)
def fairB (t : Trade) (p : Prices) : Prop := ∀ i, i < t.supply.length → decide (∀ j, j < t.demand.length → fairRow t p i j = true) = true
instance (t : Trade) (p : Prices) : Decidable (fairB t p) := by unfold fairB; infer_instance
def chk (t : Trade) (p : Prices) : Int := if okT t = true then (if (priceB p.stores t.supply.length && priceB p.buyers t.demand.length) = true then (if fairB t p then 0 else 6) else 1) else 1
section
variable {t : Trade} {p : Prices}
theorem priced_eq {l : List Int} {n : Nat} (hl : l.length ≤ 1000) : bulk_priced l (n : Int) = some (priceB l n) := by
  unfold bulk_priced priceB
  by_cases h : l.length = n
  · rw [if_pos (by omega), bnd_eq (containsF_eq (p := fun x => !within x (-1000) 1000) (fun x => by unfold bulk_priced_1; rw [bnd_eq (bwithin_eq _ _ _)]) hl), any_not, decide_eq_true h, Bool.true_and]
  · rw [if_neg (by omega), decide_eq_false h]; rfl
theorem priceB_at {l : List Int} {n : Nat} (h : priceB l n = true) : l.length = n ∧ ∀ i, i < n → l[i]? = some (gi l i) ∧ -1000 ≤ gi l i ∧ gi l i ≤ 1000 := by
  unfold priceB at h
  simp only [Bool.and_eq_true, decide_eq_true_eq, List.all_eq_true, within_iff] at h
  refine ⟨h.1, fun i hi => ?_⟩
  have g : l[i]? = some (gi l i) := gi_at (by omega)
  exact ⟨g, h.2 _ (List.mem_of_getElem? g)⟩
theorem cost_at (ht : okT t = true) {i : Nat} (hi : i < t.supply.length) : t.cost[i]? = some (gr t.cost i) ∧ (gr t.cost i).length = t.demand.length ∧ ∀ j, j < t.demand.length → (gr t.cost i)[j]? = some (cc t i j) := by
  obtain ⟨c1, c2⟩ := tab_spec (okT_spec ht).2.2.2
  have := c2 i (by omega)
  exact ⟨gr_at (by omega), this.1, fun j hj => gi_at (by omega)⟩
theorem CheckPrices_eq (hs : Tsmall t) (h1 : p.stores.length ≤ 50) (h2 : p.buyers.length ≤ 50) : bulk_CheckPrices t p = some (chk t p) := by
  unfold bulk_CheckPrices chk
  rw [bnd_eq (Validate_eq hs)]
  by_cases hv : okT t = true
  · have hsl := (okT_spec hv).1.2.1
    have hdl := (okT_spec hv).2.1.2.1
    rw [val0 hv, if_pos rfl, if_pos hv, bnd_eq (priced_eq (by omega))]
    cases ha : priceB p.stores t.supply.length
    · rw [if_neg (by simp), if_neg (by simp)]; rfl
    · rw [if_pos rfl, bnd_eq (priced_eq (by omega))]
      cases hb : priceB p.buyers t.demand.length
      · rw [if_neg (by simp)]; rfl
      · have pa := priceB_at ha
        have pb := priceB_at hb
        obtain ⟨c1, c2⟩ := tab_spec (okT_spec hv).2.2.2
        unfold bulk_CheckPrices_k3
        rw [if_neg (by simp), if_pos (by rfl)]
        refine Eq.trans (scan_inv0 t.supply.length (fun i => decide (∀ j, j < t.demand.length → fairRow t p i j = true)) (fun _ => ()) (fun k _ i => bulk_CheckPrices_L2 t p k i) (some 0) (some 6) (s0 := ()) rfl (fun k i hi _ => ?_) (fun k _ => ?_) (by omega)) ?_
        · show bulk_CheckPrices_B2 t p (bulk_CheckPrices_L2 t p k) _ = _
          unfold bulk_CheckPrices_B2
          obtain ⟨ca, cb, cx⟩ := cost_at hv hi
          rw [if_pos (by omega), ix_nat ca]
          refine Eq.trans (scan_inv0 t.demand.length (fairRow t p i) (fun _ => ()) (fun q _ j => bulk_CheckPrices_L1 p (i : Int) (bulk_CheckPrices_L2 t p k) (gr t.cost i) q j) (bulk_CheckPrices_L2 t p k ((i + 1 : Nat) : Int)) (some 6) (s0 := ()) rfl (fun q j hj _ => ?_) (fun q _ => ?_) (by omega)) ?_
          · have x1 := pa.2 i hi
            have x2 := pb.2 j hj
            show bulk_CheckPrices_B1 p (i : Int) (bulk_CheckPrices_L2 t p k) (gr t.cost i) (bulk_CheckPrices_L1 p (i : Int) (bulk_CheckPrices_L2 t p k) (gr t.cost i) q) _ = _
            unfold bulk_CheckPrices_B1 fairRow
            rw [if_pos (by omega), ix_nat (cx j hj), ix_nat x1.1, ix_nat x2.1, gd_pos (by omega)]
            by_cases hc : gi p.stores i + gi p.buyers j ≤ cc t i j
            · rw [if_neg (by omega), gd_pos (by omega), if_pos (by simpa using hc)]; rfl
            · rw [if_pos (by omega), if_neg (by simpa using hc)]
          · show bulk_CheckPrices_B1 p (i : Int) (bulk_CheckPrices_L2 t p k) (gr t.cost i) (bulk_CheckPrices_L1 p (i : Int) (bulk_CheckPrices_L2 t p k) (gr t.cost i) q) _ = _
            unfold bulk_CheckPrices_B1 bulk_CheckPrices_k2
            rw [if_neg (by omega), gd_pos (by omega)]; rfl
          · by_cases hc : ∀ j, j < t.demand.length → fairRow t p i j = true
            · rw [if_pos hc, if_pos (by simpa using hc)]
            · rw [if_neg hc, if_neg (by simpa using hc)]
        · show bulk_CheckPrices_B2 t p (bulk_CheckPrices_L2 t p k) _ = _
          unfold bulk_CheckPrices_B2
          rw [if_neg (by omega)]; rfl
        · by_cases hc : fairB t p
          · rw [if_pos hc]; exact if_pos hc
          · rw [if_neg hc]; exact if_neg hc
  · rw [val1 hv, if_neg (by decide), if_neg hv]
theorem rpriced_loop {l : List Int} (hl : l.length ≤ 1000) (L : Nat → Int → Option Int) (yes : Option Int)
    (hL : ∀ k i, L (k + 1) i = if i < (l.length : Int) then (ix l i fun x => bnd (ref07_within x (-1000) 1000) fun r => if r = true then (gd (InR (i + 1)) <| L k (i + 1)) else some 1) else yes) :
    L FU 0 = if l.all (fun x => within x (-1000) 1000) = true then yes else some 1 := by
  refine list_loop0 l (fun x => within x (-1000) 1000) L yes (some 1) (fun k i x hx => ?_) (fun k => ?_) (by omega)
  · have := lt_of_at hx
    rw [hL, if_pos (by omega), ix_nat hx, bnd_eq (rwithin_eq _ _ _)]
    by_cases h : within x (-1000) 1000 = true
    · rw [if_pos h, gd_pos (by omega), if_pos h]; rfl
    · rw [if_neg h, if_neg h]
  · rw [hL, if_neg (by omega)]
theorem rCheckPrices_eq (hs : Tsmall t) (h1 : p.stores.length ≤ 50) (h2 : p.buyers.length ≤ 50) : ref07_CheckPrices t p = some (chk t p) := by
  unfold ref07_CheckPrices chk
  rw [bnd_eq (rValidate_eq hs)]
  by_cases hv : okT t = true
  · have hsl := (okT_spec hv).1.2.1
    have hdl := (okT_spec hv).2.1.2.1
    rw [val0 hv, if_pos rfl, if_pos hv]
    by_cases l1 : p.stores.length = t.supply.length
    · by_cases l2 : p.buyers.length = t.demand.length
      · unfold ref07_CheckPrices_k5
        rw [if_pos (by omega), decide_eq_true (by omega), if_neg (by simp), rpriced_loop (l := p.stores) (by omega) (ref07_CheckPrices_L4 t p) (ref07_CheckPrices_k4 t p) (fun k i => rfl)]
        have e1 : priceB p.stores t.supply.length = p.stores.all (fun x => within x (-1000) 1000) := by unfold priceB; rw [decide_eq_true l1, Bool.true_and]
        have e2 : priceB p.buyers t.demand.length = p.buyers.all (fun x => within x (-1000) 1000) := by unfold priceB; rw [decide_eq_true l2, Bool.true_and]
        rw [← e1]
        cases ha : priceB p.stores t.supply.length
        · rw [if_neg (by simp), if_neg (by simp)]
        · rw [if_pos rfl]
          unfold ref07_CheckPrices_k4
          rw [rpriced_loop (l := p.buyers) (by omega) (ref07_CheckPrices_L3 t p) (ref07_CheckPrices_k3 t p) (fun k i => rfl), ← e2]
          cases hb : priceB p.buyers t.demand.length
          · rw [if_neg (by simp), if_neg (by simp)]
          · have pa := priceB_at ha
            have pb := priceB_at hb
            rw [if_pos rfl, if_pos (by rfl)]
            unfold ref07_CheckPrices_k3
            refine Eq.trans (scan_inv0 t.supply.length (fun i => decide (∀ j, j < t.demand.length → fairRow t p i j = true)) (fun _ => ()) (fun k _ i => ref07_CheckPrices_L2 t p k i) (some 0) (some 6) (s0 := ()) rfl (fun k i hi _ => ?_) (fun k _ => ?_) (by omega)) ?_
            · show ref07_CheckPrices_B2 t p (ref07_CheckPrices_L2 t p k) _ = _
              unfold ref07_CheckPrices_B2
              obtain ⟨ca, cb, cx⟩ := cost_at hv hi
              rw [if_pos (by omega)]
              refine Eq.trans (scan_inv0 t.demand.length (fairRow t p i) (fun _ => ()) (fun q _ j => ref07_CheckPrices_L1 t p (i : Int) (ref07_CheckPrices_L2 t p k) q j) (ref07_CheckPrices_L2 t p k ((i + 1 : Nat) : Int)) (some 6) (s0 := ()) rfl (fun q j hj _ => ?_) (fun q _ => ?_) (by omega)) ?_
              · have x1 := pa.2 i hi
                have x2 := pb.2 j hj
                show ref07_CheckPrices_B1 t p (i : Int) (ref07_CheckPrices_L2 t p k) (ref07_CheckPrices_L1 t p (i : Int) (ref07_CheckPrices_L2 t p k) q) _ = _
                unfold ref07_CheckPrices_B1 fairRow
                rw [if_pos (by omega), ix_nat x1.1, ix_nat x2.1, gd_pos (by omega), ix_nat ca, ix_nat (cx j hj)]
                by_cases hc : gi p.stores i + gi p.buyers j ≤ cc t i j
                · rw [if_neg (by omega), gd_pos (by omega), if_pos (by simpa using hc)]; rfl
                · rw [if_pos (by omega), if_neg (by simpa using hc)]
              · show ref07_CheckPrices_B1 t p (i : Int) (ref07_CheckPrices_L2 t p k) (ref07_CheckPrices_L1 t p (i : Int) (ref07_CheckPrices_L2 t p k) q) _ = _
                unfold ref07_CheckPrices_B1 ref07_CheckPrices_k2
                rw [if_neg (by omega), gd_pos (by omega)]; rfl
              · by_cases hc : ∀ j, j < t.demand.length → fairRow t p i j = true
                · rw [if_pos hc, if_pos (by simpa using hc)]
                · rw [if_neg hc, if_neg (by simpa using hc)]
            · show ref07_CheckPrices_B2 t p (ref07_CheckPrices_L2 t p k) _ = _
              unfold ref07_CheckPrices_B2
              rw [if_neg (by omega)]; rfl
            · by_cases hc : fairB t p
              · rw [if_pos hc]; exact if_pos hc
              · rw [if_neg hc]; exact if_neg hc
      · unfold ref07_CheckPrices_k5
        rw [if_pos (by omega), decide_eq_false (by omega), if_pos (by rfl), if_neg]
        unfold priceB
        rw [decide_eq_false l2]; simp
    · unfold ref07_CheckPrices_k5
      rw [if_neg (by omega), if_pos rfl, if_neg]
      unfold priceB
      rw [decide_eq_false l1]; simp
  · rw [val1 hv, if_neg (by decide), if_neg hv]
theorem chk0 (h : chk t p = 0) : okT t = true ∧ priceB p.stores t.supply.length = true ∧ priceB p.buyers t.demand.length = true ∧ Fair t (gi p.stores) (gi p.buyers) := by
  unfold chk at h
  split at h
  · rename_i hv
    split at h
    · rename_i hp
      rw [Bool.and_eq_true] at hp
      split at h
      · rename_i hf
        refine ⟨hv, hp.1, hp.2, fun i j hi hj => ?_⟩
        have := hf i hi
        rw [decide_eq_true_eq] at this
        have := this j hj
        unfold fairRow at this
        simpa using this
      · cases h
    · cases h
  · cases h
theorem chk_ok (hv : okT t = true) (h1 : priceB p.stores t.supply.length = true) (h2 : priceB p.buyers t.demand.length = true) (h : Fair t (gi p.stores) (gi p.buyers)) : chk t p = 0 := by
  unfold chk
  rw [if_pos hv, if_pos (by rw [h1, h2]; rfl), if_pos]
  intro i hi
  rw [decide_eq_true_eq]
  intro j hj
  unfold fairRow
  simpa using h i j hi hj
def worthR (t : Trade) (p : Prices) : Int × Int := if chk t p = 0 then (worthF t (gi p.stores) (gi p.buyers), 0) else (0, chk t p)
theorem sumN_abs {M : Int} {f : Nat → Int} : ∀ n, (∀ i, i < n → -M ≤ f i ∧ f i ≤ M) → -(M * (n : Int)) ≤ sumN n f ∧ sumN n f ≤ M * (n : Int)
  | 0, _ => by simp [sumN]
  | n + 1, h => by
    have ih := sumN_abs n (fun i hi => h i (by omega))
    have hn := h n (by omega)
    rw [show ((n + 1 : Nat) : Int) = (n : Int) + 1 by omega, Int.mul_add]
    simp only [sumN]; omega
theorem mul_abs {x y : Int} (hx : -1000 ≤ x ∧ x ≤ 1000) (hy : 0 ≤ y ∧ y ≤ 30) : -30000 ≤ x * y ∧ x * y ≤ 30000 := by
  have h1 : x * y ≤ 1000 * y := Int.mul_le_mul_of_nonneg_right hx.2 hy.1
  have h2 : (-1000) * y ≤ x * y := Int.mul_le_mul_of_nonneg_right hx.1 hy.1
  omega
theorem Worth_eq (hs : Tsmall t) (h1 : p.stores.length ≤ 50) (h2 : p.buyers.length ≤ 50) : bulk_Worth t p = some (worthR t p) ∧ ref07_Worth t p = some (worthR t p) := by
  unfold bulk_Worth ref07_Worth worthR
  rw [bnd_eq (CheckPrices_eq hs h1 h2), bnd_eq (rCheckPrices_eq hs h1 h2)]
  by_cases hc : chk t p = 0
  · obtain ⟨hv, ha, hb, _⟩ := chk0 hc
    have pa := priceB_at ha
    have pb := priceB_at hb
    have hsl := (okT_spec hv).1.2.1
    have hdl := (okT_spec hv).2.1.2.1
    have ba : ∀ k, k ≤ t.supply.length → -120000 ≤ sumN k (fun i => gi p.stores i * gi t.supply i) ∧ sumN k (fun i => gi p.stores i * gi t.supply i) ≤ 120000 := fun k hk => by
      have := sumN_abs (M := 30000) k (f := fun i => gi p.stores i * gi t.supply i) (fun i hi => mul_abs (pa.2 i (by omega)).2 (supply_bnd hv (by omega)))
      omega
    have bb : ∀ k, k ≤ t.demand.length → -120000 ≤ sumN k (fun i => gi p.buyers i * gi t.demand i) ∧ sumN k (fun i => gi p.buyers i * gi t.demand i) ≤ 120000 := fun k hk => by
      have := sumN_abs (M := 30000) k (f := fun i => gi p.buyers i * gi t.demand i) (fun i hi => mul_abs (pb.2 i (by omega)).2 (demand_bnd hv (by omega)))
      omega
    rw [if_pos hc, if_pos hc, if_pos hc]
    constructor
    · refine Eq.trans (for0 t.supply.length (fun k => sumN k (fun i => gi p.stores i * gi t.supply i)) (fun k s i => bulk_Worth_L2 t p k s i) (bulk_Worth_k2 t p (sumN t.supply.length (fun i => gi p.stores i * gi t.supply i))) rfl (fun k i hi => ?_) (fun k => ?_) (by omega)) ?_
      · have x1 := pa.2 i hi
        have b0 := ba i (by omega)
        have b1 := mul_abs x1.2 (supply_bnd hv hi)
        show bulk_Worth_B2 t p (bulk_Worth_L2 t p k) _ _ = _
        unfold bulk_Worth_B2
        rw [if_pos (by omega), ix_nat (gi_at hi), ix_nat x1.1, Int.mul_comm, gd_pos (by omega), gd_pos (by omega), gd_pos (by omega)]; rfl
      · show bulk_Worth_B2 t p (bulk_Worth_L2 t p k) _ _ = _
        unfold bulk_Worth_B2
        rw [if_neg (by omega)]
      · unfold bulk_Worth_k2
        refine for0 t.demand.length (fun k => sumN t.supply.length (fun i => gi p.stores i * gi t.supply i) + sumN k (fun i => gi p.buyers i * gi t.demand i)) (fun k s i => bulk_Worth_L1 t p k s i) _ (by simp [sumN]) (fun k i hi => ?_) (fun k => ?_) (by omega)
        · have x1 := pb.2 i hi
          have b0 := ba t.supply.length (Nat.le_refl _)
          have b2 := bb i (by omega)
          have b1 := mul_abs x1.2 (demand_bnd hv hi)
          show bulk_Worth_B1 t p (bulk_Worth_L1 t p k) _ _ = _
          unfold bulk_Worth_B1
          rw [if_pos (by omega), ix_nat (gi_at hi), ix_nat x1.1, Int.mul_comm (gi t.demand i), gd_pos (by omega), gd_pos (by omega), gd_pos (by omega), Int.add_assoc]; rfl
        · show bulk_Worth_B1 t p (bulk_Worth_L1 t p k) _ _ = _
          unfold bulk_Worth_B1
          rw [if_neg (by omega)]; rfl
    · refine Eq.trans (for0 t.supply.length (fun k => sumN k (fun i => gi p.stores i * gi t.supply i)) (fun k s i => ref07_Worth_L2 t p k s i) (ref07_Worth_k2 t p (sumN t.supply.length (fun i => gi p.stores i * gi t.supply i))) rfl (fun k i hi => ?_) (fun k => ?_) (by omega)) ?_
      · have x1 := pa.2 i hi
        have b0 := ba i (by omega)
        have b1 := mul_abs x1.2 (supply_bnd hv hi)
        show ref07_Worth_B2 t p (ref07_Worth_L2 t p k) _ _ = _
        unfold ref07_Worth_B2
        rw [if_pos (by omega), ix_nat x1.1, ix_nat (gi_at hi), gd_pos (by omega), gd_pos (by omega), gd_pos (by omega)]; rfl
      · show ref07_Worth_B2 t p (ref07_Worth_L2 t p k) _ _ = _
        unfold ref07_Worth_B2
        rw [if_neg (by omega)]
      · unfold ref07_Worth_k2
        refine for0 t.demand.length (fun k => sumN t.supply.length (fun i => gi p.stores i * gi t.supply i) + sumN k (fun i => gi p.buyers i * gi t.demand i)) (fun k s i => ref07_Worth_L1 t p k s i) _ (by simp [sumN]) (fun k i hi => ?_) (fun k => ?_) (by omega)
        · have x1 := pb.2 i hi
          have b0 := ba t.supply.length (Nat.le_refl _)
          have b2 := bb i (by omega)
          have b1 := mul_abs x1.2 (demand_bnd hv hi)
          show ref07_Worth_B1 t p (ref07_Worth_L1 t p k) _ _ = _
          unfold ref07_Worth_B1
          rw [if_pos (by omega), ix_nat x1.1, ix_nat (gi_at hi), gd_pos (by omega), gd_pos (by omega), gd_pos (by omega), Int.add_assoc]; rfl
        · show ref07_Worth_B1 t p (ref07_Worth_L1 t p k) _ _ = _
          unfold ref07_Worth_B1
          rw [if_neg (by omega)]; rfl
  · rw [if_neg hc, if_neg hc, if_neg hc]; exact ⟨rfl, rfl⟩
end
theorem tb_push (m : Nat) (f : Nat → Int) : tb m f ++ [f m] = tb (m + 1) f := tg_push m f
theorem list_eq {n : Nat} {F : Int → Option Int} {v : Nat → Int} (hn : n ≤ 1000) (h : ∀ i : Nat, i < n → F (i : Int) = some (v i)) : bulk_list (n : Int) F = some (tb n v) := by
  unfold bulk_list
  refine for0 n (fun k => tb k v) (fun k s i => bulk_list_L1 (n : Int) F k i s) _ rfl (fun k i hi => ?_) (fun k => ?_) (by omega)
  · show bulk_list_B1 (n : Int) F (bulk_list_L1 (n : Int) F k) _ _ = _
    unfold bulk_list_B1
    rw [if_pos (by omega), bnd_eq (h i hi), gd_pos (by rw [tb_len]; simp; omega), gd_pos (by omega)]
    exact congrArg (bulk_list_L1 (n : Int) F k _) (tb_push i v)
  · show bulk_list_B1 (n : Int) F (bulk_list_L1 (n : Int) F k) _ _ = _
    unfold bulk_list_B1
    rw [if_neg (by omega)]; rfl
section
variable {t : Trade}
theorem priceB_tb {n : Nat} {v : Nat → Int} (h : ∀ i, i < n → -1000 ≤ v i ∧ v i ≤ 1000) : priceB (tb n v) n = true := by
  unfold priceB
  rw [tb_len, decide_eq_true rfl, Bool.true_and, List.all_eq_true]
  intro x hx
  unfold tb at hx
  obtain ⟨i, hi, rfl⟩ := List.mem_map.1 hx
  exact within_iff.2 (h i (List.mem_range.1 hi))
theorem Prove_ok (hs : Tsmall t) (ht : okT t = true) : ∃ p, bulk_Prove t = some (p, 0) ∧ p.stores.length ≤ 50 ∧ p.buyers.length ≤ 50 ∧ chk t p = 0 ∧ IsLeast t (worthF t (gi p.stores) (gi p.buyers)) := by
  obtain ⟨g, d, hp, hst, hb⟩ := best_eq ht
  have hN : nN t = t.supply.length + t.demand.length := rfl
  have hsl := (okT_spec ht).1.2.1
  have hdl := (okT_spec ht).2.1.2.1
  have hc := hst.cert
  have e1 : worthF t (gi (tb t.supply.length fun i => -d i)) (gi (tb t.demand.length fun k => d (t.supply.length + k))) = worthF t (fun i => -d i) (fun k => d (t.supply.length + k)) := by
    unfold worthF
    rw [sumN_congr (f := fun i => gi (tb t.supply.length fun i => -d i) i * gi t.supply i) (g := fun i => -d i * gi t.supply i) _ (fun i hi => by show gi (tb t.supply.length fun i => -d i) i * _ = _; rw [tb_gi hi]),
      sumN_congr (f := fun j => gi (tb t.demand.length fun k => d (t.supply.length + k)) j * gi t.demand j) (g := fun j => d (t.supply.length + j) * gi t.demand j) _ (fun i hi => by show gi (tb t.demand.length fun k => d (t.supply.length + k)) i * _ = _; rw [tb_gi hi])]
  refine ⟨⟨tb t.supply.length fun i => -d i, tb t.demand.length fun k => d (t.supply.length + k)⟩, ?_, by show (tb _ _).length ≤ 50; rw [tb_len]; omega, by show (tb _ _).length ≤ 50; rw [tb_len]; omega, ?_, ?_⟩
  · unfold bulk_Prove
    rw [bnd_eq (Validate_eq hs), val0 ht, if_pos rfl, bnd_eq hb]
    rw [bnd_eq (list_eq (v := fun i => -d i) (by omega) (fun i hi => by
      have := hst.bnd i (by omega)
      unfold bulk_prices_store
      rw [ix_nat (tb_at (f := d) (by omega)), gd_pos (by omega)]))]
    rw [bnd_eq (list_eq (v := fun k => d (t.supply.length + k)) (by omega) (fun i hi => by
      unfold bulk_prices_buyer
      have e : (t.supply.length : Int) + (i : Int) = ((t.supply.length + i : Nat) : Int) := by omega
      show gd (InR ((t.supply.length : Int) + (i : Int))) (ix (tb (nN t) d) ((t.supply.length : Int) + (i : Int)) fun x1 => some x1) = _
      rw [gd_pos (by omega), e, ix_nat (tb_at (f := d) (by omega))]))]
  · refine chk_ok ht (priceB_tb fun i hi => ?_) (priceB_tb fun i hi => ?_) (fun i j hi hj => ?_)
    · have := hst.bnd i (by omega); omega
    · have := hst.bnd (t.supply.length + i) (by omega); omega
    · show gi (tb t.supply.length fun i => -d i) i + gi (tb t.demand.length fun k => d (t.supply.length + k)) j ≤ _
      rw [tb_gi hi, tb_gi hj]
      exact hc.le i j hi hj
  · refine ⟨g, hst.best hp, ?_⟩
    rw [← tight hp hc]
    exact e1.symm
theorem Prove_no (hs : Tsmall t) (ht : ¬ okT t = true) : bulk_Prove t = some (⟨[], []⟩, 1) := by
  unfold bulk_Prove
  rw [bnd_eq (Validate_eq hs), val1 ht, if_neg (by decide)]
end
end Go.D7

set_option linter.unusedVariables false
set_option linter.unusedSimpArgs false
namespace Go.D7
open Go.Tb
theorem two_three : bulk_Least ⟨[2], [2], [[3]]⟩ = some (6, 0) := by decide +kernel
section
variable {t : Trade} {f : Nat → Nat → Int} {c : Int}
theorem plans_loop (hs : Tsmall t) (ht : okT t = true) (hc : IsLeast t c) : ∀ (d fuel : Nat) (steps : Nat) (f : Nat → Nat → Int), PlanF t f → steps + d = 42 → d < fuel → top_TopPlans_L1 t (c, 0) fuel (costF t f) (steps : Int) (tab t f) = some true
  | d, 0, steps, f, hp, hd, hf => by omega
  | d, fuel + 1, steps, f, hp, hd, hf => by
    have hsl := (okT_spec ht).1.2.1
    have hdl := (okT_spec ht).2.1.2.1
    have hsm := tab_small hs.1 hs.2.1 f
    have e : top_TopPlans_L1 t (c, 0) (fuel + 1) (costF t f) (steps : Int) (tab t f) = top_TopPlans_B1 t (c, 0) (top_TopPlans_L1 t (c, 0) fuel) (costF t f) (steps : Int) (tab t f) := rfl
    have le := hc.le hp
    rw [e]
    unfold top_TopPlans_B1
    rw [bnd_eq (IsBest_ok hs ht hp hc).1]
    rcases best_or hs ht hp with ⟨d', s1, s2⟩ | ⟨d', r, L, s1, s2, s3, s4, s5, s6, s7, s8, s9⟩
    · have hr : bulk_Round t (tab t f) = some ([], false, 0) := by
        unfold bulk_Round
        rw [bnd_eq (CheckPlan_eq hs hsm), plan_check ht hp, if_pos rfl, bnd_eq s1, if_pos rfl]
      have ce_ := hc.eq s2
      rw [bnd_eq hr, if_pos rfl, if_pos rfl, decide_eq_true ce_, if_neg (by simp), if_pos (by simpa using ce_.symm), decide_eq_false (by show ¬ costF t f < c; omega)]
      unfold top_TopPlans_k3
      rw [if_neg (by simp), if_pos rfl]
      unfold top_TopPlans_k2
      rw [if_pos rfl]
    · have hr : bulk_Round t (tab t f) = some (L, true, 0) := by
        unfold bulk_Round
        rw [bnd_eq (CheckPlan_eq hs hsm), plan_check ht hp, if_pos rfl, bnd_eq s1, if_neg s2, bnd_eq s3]
      have lt := hc.le s8
      rw [bnd_eq hr, if_pos rfl, if_pos rfl, decide_eq_false (show ¬ c = costF t f by omega), if_neg (by simp), if_pos (by simp; omega), decide_eq_false (by show ¬ costF t f < c; omega)]
      unfold top_TopPlans_k3
      rw [if_neg (by simp), if_neg (by simp)]
      unfold top_TopPlans_k2
      by_cases h40 : (40 : Int) < (steps : Int)
      · rw [decide_eq_true h40, if_pos rfl]
      · have ha := (Along_eq (L := L) hs ht hp (by omega)).1
        have e2 : alongR t f L = (tab t (fK f L (mN f L L.length) L.length), mN f L L.length, 0) := by
          unfold alongR
          rw [if_neg (by omega), if_pos s4, if_pos s5]
        rw [e2] at ha
        rw [decide_eq_false h40, if_neg (by simp)]
        show bnd (bulk_Along t (tab t f) L) _ = _
        rw [bnd_eq ha]
        show bnd (bulk_Cost t (tab t (fK f L (mN f L L.length) L.length))) _ = _
        rw [bnd_eq (Cost_eq hs (tab_small hs.1 hs.2.1 _)), costR_plan ht s8, if_pos rfl, if_pos rfl, if_neg (by show ¬ mN f L L.length < 1; omega), decide_eq_false (by show ¬ costF t f ≤ costF t (fK f L (mN f L L.length) L.length); omega)]
        unfold top_TopPlans_k1
        rw [if_neg (by simp)]
        show bnd (ref07_CopyTable (tab t (fK f L (mN f L L.length) L.length))) _ = _
        rw [bnd_eq (copy_tab (tab_small hs.1 hs.2.1 _)), gd_pos (by omega)]
        exact plans_loop hs ht hc (d - 1) fuel (steps + 1) _ s8 (by omega) (by omega)
end
theorem law_TopPlans (t : Trade) (l : List (List Int)) (p : Prices) (h3 : t.cost.length ≤ 9223372036854775807) (h4 : l.length ≤ 9223372036854775807) (h5 : p.stores.length ≤ 9223372036854775807) (h6 : p.buyers.length ≤ 9223372036854775807) : top_TopPlans t l p = some true := by
  unfold top_TopPlans
  rw [bnd_eq two_three, if_pos rfl]
  unfold top_TopPlans_k7
  rw [if_neg (by simp)]
  have yes : top_TopPlans_k6 t l p true = some true := by
    unfold top_TopPlans_k6
    rw [if_pos rfl]
  rcases Long1 (t := t) (l := l) h3 h4 with h | ⟨h, hs, hl⟩
  · rw [bnd_eq h, if_pos rfl, yes]
  · rw [bnd_eq h, if_neg (by simp)]
    by_cases a : (50 : Int) < (p.stores.length : Int)
    · rw [if_pos a, yes]
    · rw [if_neg a]
      by_cases b : (50 : Int) < (p.buyers.length : Int)
      · rw [decide_eq_true b, yes]
      · rw [decide_eq_false b]
        unfold top_TopPlans_k6
        rw [if_neg (by simp)]
        by_cases hv : okT t = true
        · obtain ⟨c, hc, k1, _⟩ := Least_ok hs hv
          obtain ⟨pr, p1, p2, p3, p4, p5⟩ := Prove_ok hs hv
          have e : worthR t pr = (worthF t (gi pr.stores) (gi pr.buyers), 0) := if_pos p4
          have ec := p5.same hc
          rw [bnd_eq k1, bnd_eq p1, if_pos rfl, if_pos rfl]
          show bnd (bulk_Worth t pr) _ = _
          rw [bnd_eq (Worth_eq hs p2 p3).1, bnd_eq (Worth_eq hs (by omega) (by omega)).1, e, if_pos rfl, if_pos ec]
          have go : top_TopPlans_k5 t l (c, 0) (worthR t p) false = some true := by
            unfold top_TopPlans_k5
            rw [if_neg (by simp), bnd_eq (Cost_eq hs hl)]
            by_cases hk : checkPlan t l = 0
            · obtain ⟨_, f, hp, rfl⟩ := check_plan hk
              have run : top_TopPlans_k4 t (tab t f) (c, 0) (costF t f, 0) false = some true := by
                unfold top_TopPlans_k4
                rw [if_neg (by simp)]
                exact plans_loop hs hv hc 42 FU 0 f hp (by omega) (by have := FU_pos; omega)
              rw [costR_plan hv hp, if_pos rfl]
              by_cases hw : (worthR t p).2 = 0
              · have hk2 : chk t p = 0 := by
                  unfold worthR at hw
                  split at hw
                  · assumption
                  · exact hw
                obtain ⟨_, _, _, hf⟩ := chk0 hk2
                have e2 : worthR t p = (worthF t (gi p.stores) (gi p.buyers), 0) := if_pos hk2
                have := weak hp hf
                rw [if_pos hw, e2, decide_eq_false (by show ¬ costF t f < worthF t (gi p.stores) (gi p.buyers); omega)]
                exact run
              · rw [if_neg hw]
                exact run
            · have e3 : costR t l = (0, checkPlan t l) := if_neg hk
              rw [e3, if_neg hk, bnd_eq (CheckPlan_eq hs hl), decide_eq_true rfl]
          by_cases hw : (worthR t p).2 = 0
          · have hk2 : chk t p = 0 := by
              unfold worthR at hw
              split at hw
              · assumption
              · exact hw
            obtain ⟨_, _, _, hf⟩ := chk0 hk2
            have e2 : worthR t p = (worthF t (gi p.stores) (gi p.buyers), 0) := if_pos hk2
            obtain ⟨g, hg, rfl⟩ := hc
            have := weak hg.plan hf
            rw [if_pos hw, decide_eq_false (by rw [e2]; show ¬ costF t g < worthF t (gi p.stores) (gi p.buyers); omega)]
            exact go
          · rw [if_neg hw]
            exact go
        · rw [bnd_eq (Least_no hs hv).1, bnd_eq (Prove_no hs hv), if_pos rfl, if_neg (by decide), bnd_eq (Validate_eq hs), val1 hv]; rfl
section
variable {t : Trade}
end
end Go.D7
