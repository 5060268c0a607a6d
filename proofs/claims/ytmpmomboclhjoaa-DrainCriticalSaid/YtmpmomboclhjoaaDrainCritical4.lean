/- Lemmas and walks that the proof of this claim uses: D2p2, D2p3, D2p4, D2p7, D2pA. -/
import Derived.Test.YtmpmomboclhjoaaDrainCritical3
set_option linter.unusedVariables false
set_option linter.unusedSimpArgs false
namespace Go.D2
open Go.Tb
def Eds (l : List Left) : List Ed := l.map toEd
def Caps (l : List Left) : Prop := ∀ d ∈ l, 0 ≤ d.runs ∧ d.runs ≤ d.drain.width ∧ d.drain.width ≤ 1000
theorem eds_at {l : List Left} {i : Nat} {e : Ed} (h : (Eds l)[i]? = some e) : ∃ d, l[i]? = some d ∧ e = toEd d := by
  unfold Eds at h
  rw [List.getElem?_map] at h
  cases hd : l[i]? with
  | none => rw [hd] at h; cases h
  | some d => rw [hd] at h; cases h; exact ⟨d, rfl, rfl⟩
theorem caps_room {l : List Left} (h : Caps l) : RoomOk (Eds l) := fun e he => by
  obtain ⟨d, hd, rfl⟩ := List.mem_map.1 he
  have := h d hd
  show InR d.runs ∧ InR (d.drain.width - d.runs)
  omega
theorem left_room_eq {d : Left} {u : Int} (h : 0 ≤ d.runs ∧ d.runs ≤ d.drain.width ∧ d.drain.width ≤ 1000) : drain_left_room d u = some (other (toEd d) u, room (toEd d) u) := by
  unfold drain_left_room other room
  by_cases h1 : d.drain.from_ = u
  · have h2 : (toEd d).a = u := h1
    rw [if_pos h1, if_pos h2, if_pos h2]; exact gd_pos (by omega)
  · have h2 : ¬ (toEd d).a = u := h1
    rw [if_neg h1, if_neg h2, if_neg h2]; rfl
def ints (ks : List Nat) : List Int := ks.map (fun (q : Nat) => (q : Int))
theorem ints_at {pre suf : List Nat} {i : Nat} : (ints (pre ++ i :: suf))[pre.length]? = some (i : Int) := by
  unfold ints
  rw [List.getElem?_map, List.getElem?_append_right (Nat.le_refl _)]; simp
/-- The smallest room along a way. -/
def minRoom (E : List Ed) : Int → Int → List Nat → Int
  | _, m, [] => m
  | u, m, i :: r => match E[i]? with
    | some e => minRoom E (other e u) (if m < 0 ∨ room e u < m then room e u else m) r
    | none => m
theorem minRoom_spec {E : List Ed} : ∀ (ks : List Nat) (vis : List Int) (u v m : Int), SP E vis u ks v → (0 < m ∨ (m < 0 ∧ ks ≠ [])) → 0 < minRoom E u m ks ∧ (0 < m → minRoom E u m ks ≤ m) ∧ AllRoom E (minRoom E u m ks) u ks
  | [], vis, u, v, m, h, hm => by
    rcases hm with h1 | ⟨_, h1⟩
    · exact ⟨h1, fun _ => Int.le_refl _, trivial⟩
    · exact absurd rfl h1
  | i :: r, vis, u, v, m, h, hm => by
    obtain ⟨e, he, hu, hp, hn, hr⟩ := h
    have e1 : minRoom E u m (i :: r) = minRoom E (other e u) (if m < 0 ∨ room e u < m then room e u else m) r := by simp only [minRoom, he]
    rw [e1]
    have hm' : 0 < (if m < 0 ∨ room e u < m then room e u else m) := by
      split
      · exact hp
      · rename_i hc
        rcases hm with h1 | ⟨h1, h1'⟩
        · exact h1
        · exact absurd (.inl h1) hc
    obtain ⟨i1, i2, i3⟩ := minRoom_spec r (u :: vis) (other e u) v _ hr (.inl hm')
    have i2 := i2 hm'
    generalize minRoom E (other e u) (if m < 0 ∨ room e u < m then room e u else m) r = q at *
    refine ⟨i1, fun h0 => ?_, e, he, ?_, i3⟩
    · split at i2 <;> omega
    · split at i2
      · exact i2
      · rename_i hc; omega
theorem run_L2 {n : Net} {l : List Left} (hc : Caps l) (rec2 : List Left → Option (List Left)) {ks : List Nat} (hk : ks.length ≤ 1000) : ∀ (suf pre : List Nat) (vis : List Int) (u v m : Int) (k : Nat), ks = pre ++ suf → SP (Eds l) vis u suf v → suf.length < k →
    drain_run_L2 n l rec2 (ints ks) k u m (pre.length : Int) = drain_run_k2 n l rec2 (ints ks) (minRoom (Eds l) u m suf)
  | [], pre, vis, u, v, m, k + 1, hks, h, hlt => by
    show drain_run_B2 n l rec2 (ints ks) (drain_run_L2 n l rec2 (ints ks) k) u m _ = _
    unfold drain_run_B2
    rw [if_neg (by rw [hks]; simp [ints])]; rfl
  | i :: r, pre, vis, u, v, m, k + 1, hks, h, hlt => by
    have h0 := h
    obtain ⟨e, he, hu, hp, hn, hr⟩ := h
    obtain ⟨d, hd, rfl⟩ := eds_at he
    have hcd := hc d (List.mem_of_getElem? hd)
    have hpl : pre.length < 1000 := by rw [hks] at hk; simp at hk; omega
    have ih := run_L2 (n := n) hc rec2 hk r (pre ++ [i]) (u :: vis) (other (toEd d) u) v (if m < 0 ∨ room (toEd d) u < m then room (toEd d) u else m) k (by rw [hks]; simp) hr (by simp at hlt; omega)
    have e1 : minRoom (Eds l) u m (i :: r) = minRoom (Eds l) (other (toEd d) u) (if m < 0 ∨ room (toEd d) u < m then room (toEd d) u else m) r := by simp only [minRoom, he]
    have e2 : (((pre ++ [i]).length : Nat) : Int) = (pre.length : Int) + 1 := by simp
    rw [e1, ← ih, e2]
    show drain_run_B2 n l rec2 (ints ks) (drain_run_L2 n l rec2 (ints ks) k) u m _ = _
    unfold drain_run_B2
    have hi : (ints ks)[pre.length]? = some (i : Int) := by rw [hks]; exact ints_at
    rw [if_pos (by have := lt_of_at hi; omega), ix_nat hi, ix_nat hd, bnd_eq (left_room_eq hcd)]
    unfold drain_run_k4 drain_run_k3
    by_cases h1 : m < 0
    · rw [if_pos h1, if_pos rfl, gd_pos (by omega), if_pos (.inl h1)]
    · rw [if_neg h1]
      by_cases h2 : room (toEd d) u < m
      · rw [if_pos (by simpa using h2), gd_pos (by omega), if_pos (.inr h2)]
      · rw [if_neg (by simpa using h2), gd_pos (by omega), if_neg (by omega)]
def moreL (m : Int) (d : Left) (u : Int) : Left := if d.drain.from_ = u then ⟨d.drain, d.runs + m⟩ else ⟨d.drain, d.runs - m⟩
theorem moreL_ed (m : Int) (d : Left) (u : Int) : toEd (moreL m d u) = more m (toEd d) u := by
  unfold moreL more
  by_cases h : d.drain.from_ = u
  · have h2 : (toEd d).a = u := h
    rw [if_pos h, if_pos h2]; rfl
  · have h2 : ¬ (toEd d).a = u := h
    rw [if_neg h, if_neg h2]; rfl
def augL (m : Int) : List Left → Int → List Nat → List Left
  | l, _, [] => l
  | l, u, i :: r => match l[i]? with
    | some d => augL m (l.set i (moreL m d u)) (other (toEd d) u) r
    | none => l
theorem eds_set {l : List Left} {i : Nat} {m : Int} {d : Left} {u : Int} : Eds (l.set i (moreL m d u)) = (Eds l).set i (more m (toEd d) u) := by
  unfold Eds
  rw [List.map_set, moreL_ed]
theorem augL_ed {m : Int} : ∀ (ks : List Nat) (l : List Left) (u : Int), Eds (augL m l u ks) = aug m (Eds l) u ks
  | [], l, u => rfl
  | i :: r, l, u => by
    cases hd : l[i]? with
    | none =>
      have he : (Eds l)[i]? = none := by unfold Eds; rw [List.getElem?_map, hd]; rfl
      simp only [augL, aug, hd, he]
    | some d =>
      have he : (Eds l)[i]? = some (toEd d) := by unfold Eds; rw [List.getElem?_map, hd]; rfl
      simp only [augL, aug, hd, he]
      rw [augL_ed r, eds_set]
theorem augL_drains {m : Int} : ∀ (ks : List Nat) (l : List Left) (u : Int), (augL m l u ks).map Left.drain = l.map Left.drain
  | [], l, u => rfl
  | i :: r, l, u => by
    cases hd : l[i]? with
    | none => simp only [augL, hd]
    | some d =>
      simp only [augL, hd]
      rw [augL_drains r, List.map_set]
      have : (moreL m d u).drain = d.drain := by unfold moreL; split <;> rfl
      rw [this]
      apply List.ext_getElem?
      intro j
      rw [List.getElem?_set]
      by_cases h : i = j
      · subst h
        have := lt_of_at hd
        rw [if_pos rfl, if_pos (by simpa using this), List.getElem?_map, hd]; rfl
      · rw [if_neg h]
theorem caps_set {l : List Left} {i : Nat} {d d' : Left} (hc : Caps l) (h : 0 ≤ d'.runs ∧ d'.runs ≤ d'.drain.width ∧ d'.drain.width ≤ 1000) : Caps (l.set i d') := fun x hx => by
  rcases List.mem_or_eq_of_mem_set hx with h1 | rfl
  · exact hc x h1
  · exact h
theorem run_L1 (rec2 : List Left → Option (List Left)) {ks : List Nat} (hk : ks.length ≤ 1000) {m : Int} (hm : 0 ≤ m ∧ m ≤ 1000) : ∀ (suf pre : List Nat) (vis : List Int) (u v : Int) (l : List Left) (k : Nat), ks = pre ++ suf → Caps l → SP (Eds l) vis u suf v → AllRoom (Eds l) m u suf → suf.length < k →
    drain_run_L1 rec2 (ints ks) m k u (pre.length : Int) l = rec2 (augL m l u suf)
  | [], pre, vis, u, v, l, k + 1, hks, hc, h, ha, hlt => by
    show drain_run_B1 rec2 (ints ks) m (drain_run_L1 rec2 (ints ks) m k) u _ l = _
    unfold drain_run_B1
    rw [if_neg (by rw [hks]; simp [ints])]; rfl
  | i :: r, pre, vis, u, v, l, k + 1, hks, hc, h, ha, hlt => by
    have honce := sp_once h
    obtain ⟨e, he, hu, hp, hn, hr⟩ := h
    obtain ⟨e0, he0, hmr, har⟩ := ha
    rw [he] at he0; cases he0
    obtain ⟨d, hd, rfl⟩ := eds_at he
    have hcd := hc d (List.mem_of_getElem? hd)
    have hpl : pre.length < 1000 := by rw [hks] at hk; simp at hk; omega
    have hcong : ∀ j ∈ r, (Eds (l.set i (moreL m d u)))[j]? = (Eds l)[j]? := fun j hj => by
      rw [eds_set, List.getElem?_set_ne (fun h : i = j => honce (by rw [h]; exact hj))]
    have hcm : 0 ≤ (moreL m d u).runs ∧ (moreL m d u).runs ≤ (moreL m d u).drain.width ∧ (moreL m d u).drain.width ≤ 1000 := by
      unfold room at hmr
      unfold moreL
      by_cases h1 : d.drain.from_ = u
      · have h2 : (toEd d).a = u := h1
        rw [if_pos h2] at hmr
        rw [if_pos h1]
        have : m ≤ d.drain.width - d.runs := hmr
        simp only; omega
      · have h2 : ¬ (toEd d).a = u := h1
        rw [if_neg h2] at hmr
        rw [if_neg h1]
        have : m ≤ d.runs := hmr
        simp only; omega
    have ih := run_L1 rec2 hk hm r (pre ++ [i]) (u :: vis) (other (toEd d) u) v (l.set i (moreL m d u)) k (by rw [hks]; simp) (caps_set (d := d) hc hcm) (sp_congr r _ _ v hcong hr) (allRoom_congr r _ hcong har) (by simp at hlt; omega)
    have e1 : augL m l u (i :: r) = augL m (l.set i (moreL m d u)) (other (toEd d) u) r := by simp only [augL, hd]
    have e2 : (((pre ++ [i]).length : Nat) : Int) = (pre.length : Int) + 1 := by simp
    rw [e1, ← ih, e2]
    show drain_run_B1 rec2 (ints ks) m (drain_run_L1 rec2 (ints ks) m k) u _ l = _
    unfold drain_run_B1
    have hi : (ints ks)[pre.length]? = some (i : Int) := by rw [hks]; exact ints_at
    rw [if_pos (by have := lt_of_at hi; omega), ix_nat hi, ix_nat hd, bnd_eq (left_room_eq hcd), ix_nat hd]
    unfold drain_run_k1 moreL
    by_cases h1 : d.drain.from_ = u
    · rw [if_pos h1, ix_nat hd, gd_pos (by omega), ix_nat hd, gd_pos (by omega), if_pos h1]; rfl
    · rw [if_neg h1, ix_nat hd, gd_pos (by omega), ix_nat hd, gd_pos (by omega), if_neg h1]; rfl
/-- What is known of the program's drains. -/
structure FlowL (n : Net) (l : List Left) : Prop where
  drains : l.map Left.drain = n.drains
  flow : Flow n.nodes.toNat n.from_ n.to_ (Eds l)
  caps : Caps l
theorem flowL_ne {n : Net} {l : List Left} (hn : Net0 n) (h : FlowL n l) : ∀ e ∈ Eds l, e.a ≠ e.b := fun e he => by
  obtain ⟨d, hd, rfl⟩ := List.mem_map.1 he
  have : d.drain ∈ n.drains := by rw [← h.drains]; exact List.mem_map_of_mem hd
  exact (hn.dr _ this).2.2.1
theorem sp_len {E : List Ed} : ∀ (ks : List Nat) (vis : List Int) (u v : Int), SP E vis u ks v → (∀ i ∈ ks, i < E.length) ∧ ks.Nodup
  | [], _, _, _, _ => ⟨by simp, List.nodup_nil⟩
  | i :: r, vis, u, v, h => by
    have h1 := sp_once h
    obtain ⟨e, he, _, _, _, hr⟩ := h
    have ⟨i1, i2⟩ := sp_len r _ _ _ hr
    exact ⟨fun j hj => by
      rcases List.mem_cons.1 hj with rfl | hj
      · exact lt_at he
      · exact i1 j hj, List.nodup_cons.2 ⟨h1, i2⟩⟩
theorem nodup_len : ∀ (n : Nat) (ks : List Nat), (∀ i ∈ ks, i < n) → ks.Nodup → ks.length ≤ n
  | 0, [], _, _ => Nat.le_refl _
  | 0, i :: r, h, _ => absurd (h i (List.mem_cons_self ..)) (by omega)
  | n + 1, ks, h, hd => by
    have h1 : (ks.erase n).length ≤ n := nodup_len n (ks.erase n) (fun i hi => by
      have h2 := h i (List.mem_of_mem_erase hi)
      have h3 : i ≠ n := fun e => by rw [e] at hi; exact (List.Nodup.mem_erase_iff hd).1 hi |>.1 rfl
      omega) (hd.erase n)
    have := List.length_erase_le (a := n) (l := ks)
    by_cases hm : n ∈ ks
    · have := List.length_erase_of_mem hm; omega
    · rw [List.erase_of_not_mem hm] at h1; omega
/-- The search in the program's drains. -/
theorem search_eq {n : Net} {l : List Left} (hn : Net0 n) (h : FlowL n l) {s t : Int} (hs : 0 ≤ s ∧ s < n.nodes) (hst : s ≠ t) :
    (∃ ks : List Nat, ks ≠ [] ∧ ks.length ≤ 1000 ∧ drain_search l s t = some (ints ks) ∧ SP (Eds l) [] s ks t) ∨ (drain_search l s t = some [] ∧ ∃ S : Int → Bool, S s = true ∧ S t = false ∧ Closed S (Eds l) ∧ ∀ v, S v = true → Reach (Eds l) s v) := by
  have h8 := hn.n8
  have h2 := hn.n2
  have hlen : (Eds l).length ≤ 16 := by
    have := congrArg List.length h.drains
    have h3 := hn.len
    unfold Eds; simp at this ⊢; omega
  rcases search_spec (K := FU) h.flow.dom (caps_room h.caps) (by omega) (show 0 ≤ s ∧ s < ((n.nodes.toNat : Nat) : Int) by omega) hst (flowL_ne hn h) (by have := FU_pos; omega) with ⟨ks, k1, k2, k3⟩ | ⟨S, k1, k2, k3, k4, k5⟩
  · refine .inl ⟨ks, k1, ?_, ?_, k3⟩
    · have ⟨q1, q2⟩ := sp_len ks [] s t k3
      have := nodup_len _ ks q1 q2
      omega
    · unfold drain_search
      have k2' : dfs (l.map toEd) t FU s [] [] = some (.inr (ints ks)) := k2
      rw [gd_pos hst, k2']
      exact gd_pos (by unfold ints; simpa using k1)
  · refine .inr ⟨?_, sees S, k2, k3, k4, k5⟩
    unfold drain_search
    have k1' : dfs (l.map toEd) t FU s [] [] = some (.inl S) := k1
    rw [gd_pos hst, k1']
def Maxed (n : Net) (l : List Left) : Prop := FlowL n l ∧ ∃ S : Int → Bool, S n.from_ = true ∧ S n.to_ = false ∧ Closed S (Eds l) ∧ ∀ v, S v = true → Reach (Eds l) n.from_ v
theorem run_L3 {n : Net} (hn : Net0 n) : ∀ (q : Nat) (l : List Left) (k : Nat), FlowL n l → cutW (fun v => decide (v = n.from_)) (Eds l) - out (Eds l) n.from_ ≤ q → q < k → ∃ l', drain_run_L3 n k l = some l' ∧ Maxed n l' := by
  intro q
  induction q with
  | zero =>
    intro l k h hq hk
    obtain ⟨k, rfl⟩ : ∃ k', k = k' + 1 := ⟨k - 1, by omega⟩
    rcases search_eq hn h (s := n.from_) (t := n.to_) hn.s0 hn.ne with ⟨ks, k1, k2, k3, k4⟩ | ⟨k1, S, k2⟩
    · exfalso
      obtain ⟨m1, _, m3⟩ := minRoom_spec ks [] n.from_ n.to_ (-1) k4 (.inr ⟨by omega, k1⟩)
      obtain ⟨f1, f2, f3⟩ := aug_flow h.flow (Int.le_of_lt m1) hn.ne k4 m3
      have hw := weak f1 (show 0 ≤ n.from_ ∧ n.from_ < ((n.nodes.toNat : Nat) : Int) by have := hn.s0; omega) (S := fun v => decide (v = n.from_)) (by simp) (by have := hn.ne; simp; omega)
      rw [f2, alike_cut _ f3] at hw
      omega
    · refine ⟨l, ?_, h, S, k2⟩
      show drain_run_B3 n (drain_run_L3 n k) l = _
      unfold drain_run_B3
      rw [bnd_eq k1, if_pos rfl]
  | succ q ih =>
    intro l k h hq hk
    obtain ⟨k, rfl⟩ : ∃ k', k = k' + 1 := ⟨k - 1, by omega⟩
    rcases search_eq hn h (s := n.from_) (t := n.to_) hn.s0 hn.ne with ⟨ks, k1, k2, k3, k4⟩ | ⟨k1, S, k2⟩
    · obtain ⟨m1, _, m3⟩ := minRoom_spec ks [] n.from_ n.to_ (-1) k4 (.inr ⟨by omega, k1⟩)
      obtain ⟨f1, f2, f3⟩ := aug_flow h.flow (Int.le_of_lt m1) hn.ne k4 m3
      have hm1000 : minRoom (Eds l) n.from_ (-1) ks ≤ 1000 := by
        cases ks with
        | nil => exact absurd rfl k1
        | cons i r =>
          obtain ⟨e, he, hmr, _⟩ := m3
          obtain ⟨d, hd, rfl⟩ := eds_at he
          have := h.caps d (List.mem_of_getElem? hd)
          have : room (toEd d) n.from_ ≤ 1000 := by
            unfold room; split
            · show d.drain.width - d.runs ≤ 1000; omega
            · show d.runs ≤ 1000; omega
          omega
      have hcaps : Caps (augL (minRoom (Eds l) n.from_ (-1) ks) l n.from_ ks) := fun d hd => by
        have he : toEd d ∈ aug (minRoom (Eds l) n.from_ (-1) ks) (Eds l) n.from_ ks := by rw [← augL_ed]; exact List.mem_map_of_mem hd
        have hc := f1.cap _ he
        have hdm : d.drain ∈ n.drains := by rw [← h.drains, ← augL_drains (m := minRoom (Eds l) n.from_ (-1) ks) ks l n.from_]; exact List.mem_map_of_mem hd
        have := hn.dr _ hdm
        exact ⟨hc.1, hc.2, this.2.2.2.2⟩
      have hf' : FlowL n (augL (minRoom (Eds l) n.from_ (-1) ks) l n.from_ ks) := ⟨by rw [augL_drains]; exact h.drains, by rw [augL_ed]; exact f1, hcaps⟩
      obtain ⟨l', l1, l2⟩ := ih (augL (minRoom (Eds l) n.from_ (-1) ks) l n.from_ ks) k hf' (by rw [augL_ed, f2, alike_cut _ f3]; omega) (by omega)
      refine ⟨l', ?_, l2⟩
      rw [← l1]
      show drain_run_B3 n (drain_run_L3 n k) l = _
      unfold drain_run_B3
      rw [bnd_eq k3, if_neg (by unfold ints; simpa using k1)]
      have e1 := run_L2 (n := n) h.caps (drain_run_L3 n k) k2 ks [] [] n.from_ n.to_ (-1) FU rfl k4 (by have := FU_pos; omega)
      have e2 := run_L1 (drain_run_L3 n k) k2 (m := minRoom (Eds l) n.from_ (-1) ks) ⟨by omega, hm1000⟩ ks [] [] n.from_ n.to_ l FU rfl h.caps k4 m3 (by have := FU_pos; omega)
      refine Eq.trans e1 ?_
      unfold drain_run_k2
      exact e2
    · refine ⟨l, ?_, h, S, k2⟩
      show drain_run_B3 n (drain_run_L3 n k) l = _
      unfold drain_run_B3
      rw [bnd_eq k1, if_pos rfl]
def start (n : Net) : List Left := n.drains.map fun d => ⟨d, 0⟩
theorem out_zero (v : Int) : ∀ l : List Drain, out (Eds (l.map fun d => ⟨d, 0⟩)) v = 0
  | [] => rfl
  | d :: r => by
    have := out_zero v r
    unfold Eds at this ⊢
    simp only [List.map_cons, out, this]
    show ((if d.from_ = v then (0 : Int) else 0) - (if d.to_ = v then 0 else 0)) + 0 = 0
    split <;> split <;> rfl
theorem start_flow {n : Net} (hn : Net0 n) : FlowL n (start n) := by
  have h2 := hn.n2
  refine ⟨by unfold start; rw [List.map_map]; exact List.map_id _, ⟨fun e he => ?_, fun e he => ?_, fun v _ _ _ _ => out_zero v _⟩, fun d hd => ?_⟩
  · obtain ⟨x, hx, rfl⟩ := List.mem_map.1 he
    obtain ⟨d, hd, rfl⟩ := List.mem_map.1 hx
    have := hn.dr d hd
    refine ⟨⟨this.1.1, ?_⟩, this.2.1.1, ?_⟩
    · show d.from_ < _; omega
    · show d.to_ < _; omega
  · obtain ⟨x, hx, rfl⟩ := List.mem_map.1 he
    obtain ⟨d, hd, rfl⟩ := List.mem_map.1 hx
    have := hn.dr d hd
    exact ⟨Int.le_refl _, this.2.2.2.1⟩
  · obtain ⟨x, hx, rfl⟩ := List.mem_map.1 hd
    have := hn.dr x hx
    exact ⟨Int.le_refl _, this.2.2.2.1, this.2.2.2.2⟩
theorem cut_bnd (S : Int → Bool) : ∀ (l : List Left), (∀ d ∈ l, 0 ≤ d.drain.width ∧ d.drain.width ≤ 1000) → 0 ≤ cutW S (Eds l) ∧ cutW S (Eds l) ≤ 1000 * (l.length : Int)
  | [], _ => ⟨Int.le_refl _, Int.le_refl _⟩
  | d :: r, h => by
    have ih := cut_bnd S r (fun x hx => h x (List.mem_cons_of_mem _ hx))
    have := h d (List.mem_cons_self ..)
    have e : cutW S (Eds (d :: r)) = (if S d.drain.from_ = true ∧ S d.drain.to_ = false then d.drain.width else 0) + cutW S (Eds r) := rfl
    rw [e, List.length_cons]
    split <;> omega
theorem run_eq {n : Net} (hn : Net0 n) : ∃ l, drain_run n = some l ∧ Maxed n l := by
  have hlen := hn.len
  have hf := start_flow hn
  have hb := cut_bnd (fun v => decide (v = n.from_)) (start n) (fun d hd => by have := hf.caps d hd; omega)
  have hsl : (start n).length = n.drains.length := by unfold start; simp
  obtain ⟨l, l1, l2⟩ := run_L3 hn 16000 (start n) FU hf (by unfold start; rw [out_zero]; have := hb.2; unfold start at this; simp only [List.length_map] at this; omega) (by have := FU_pos; omega)
  refine ⟨l, ?_, l2⟩
  unfold drain_run
  refine Eq.trans (for0 n.drains.length (fun i => (start n).take i) (fun k s i => drain_run_L4 n k i s) (some l) rfl (fun k i hi => ?_) (fun k => ?_) (by omega)) rfl
  · have hx : n.drains[i]? = some n.drains[i] := by simp [hi]
    have hs : (start n)[i]? = some ⟨n.drains[i], 0⟩ := by unfold start; rw [List.getElem?_map, hx]; rfl
    show drain_run_B4 n (drain_run_L4 n k) _ _ = _
    unfold drain_run_B4
    rw [if_pos (by omega), ix_nat hx, gd_pos (by simp; omega), gd_pos (by omega), List.take_add_one, hs]; rfl
  · show drain_run_B4 n (drain_run_L4 n k) _ _ = _
    unfold drain_run_B4
    rw [if_neg (by omega)]
    unfold drain_run_k5
    rw [List.take_of_length_le (by omega)]; exact l1
end Go.D2

set_option linter.unusedVariables false
set_option linter.unusedSimpArgs false
namespace Go.D2
open Go.Tb
def En (n : Net) (fl : List Int) : List Ed := List.zipWith (fun d f => (⟨d.from_, d.to_, d.width, f⟩ : Ed)) n.drains fl
theorem en_at {n : Net} {fl : List Int} {i : Nat} {d : Drain} {f : Int} (h1 : n.drains[i]? = some d) (h2 : fl[i]? = some f) : (En n fl)[i]? = some ⟨d.from_, d.to_, d.width, f⟩ := by
  unfold En
  rw [List.getElem?_zipWith, h1, h2]
theorem en_len {n : Net} {fl : List Int} (h : fl.length = n.drains.length) : (En n fl).length = n.drains.length := by unfold En; simp; omega
theorem eds_en : ∀ (l : List Left), Eds l = List.zipWith (fun d f => (⟨d.from_, d.to_, d.width, f⟩ : Ed)) (l.map Left.drain) (l.map Left.runs)
  | [] => rfl
  | d :: r => by
    have := eds_en r
    unfold Eds at this ⊢
    simp only [List.map_cons, List.zipWith_cons_cons, this]; rfl
theorem flowL_en {n : Net} {l : List Left} (h : l.map Left.drain = n.drains) : Eds l = En n (l.map Left.runs) := by
  rw [eds_en, h]; rfl
theorem flowOf_eq {l : List Left} (hl : l.length ≤ 1000) : drain_flowOf l = some (l.map Left.runs) := by
  unfold drain_flowOf
  refine Eq.trans (for0 l.length (fun i => (l.map Left.runs).take i) (fun n s i => drain_flowOf_L1 l n i s) (some (l.map Left.runs)) rfl (fun n i hi => ?_) (fun n => ?_) (by omega)) rfl
  · have hx : l[i]? = some l[i] := by simp [hi]
    have hs : (l.map Left.runs)[i]? = some l[i].runs := by rw [List.getElem?_map, hx]; rfl
    show drain_flowOf_B1 l (drain_flowOf_L1 l n) _ _ = _
    unfold drain_flowOf_B1
    rw [if_pos (by omega), ix_nat hx, gd_pos (by simp; omega), gd_pos (by omega), List.take_add_one, hs]; rfl
  · show drain_flowOf_B1 l (drain_flowOf_L1 l n) _ _ = _
    unfold drain_flowOf_B1
    rw [if_neg (by omega)]
    unfold drain_flowOf_k1
    rw [List.take_of_length_le (by simp)]
theorem out_take {e : Ed} (v : Int) : ∀ {E : List Ed} {i : Nat}, E[i]? = some e → out (E.take (i + 1)) v = out (E.take i) v + con1 e v
  | [], i, h => by simp at h
  | x :: r, 0, h => by simp at h; subst h; simp [out, con1]
  | x :: r, i + 1, h => by
    have := out_take (e := e) v (E := r) (i := i) (by simpa using h)
    simp only [List.take_succ_cons, out_cons, this]; omega
theorem out_bnd {M : Int} (hM : 0 ≤ M) (v : Int) : ∀ E : List Ed, (∀ e ∈ E, -M ≤ e.f ∧ e.f ≤ M) → -(2 * M) * (E.length : Int) ≤ out E v ∧ out E v ≤ 2 * M * (E.length : Int)
  | [], _ => by simp [out]
  | e :: r, h => by
    have ih := out_bnd hM v r (fun x hx => h x (List.mem_cons_of_mem _ hx))
    have he := h e (List.mem_cons_self ..)
    have e1 : ((List.length (e :: r) : Nat) : Int) = (r.length : Int) + 1 := by simp
    rw [out_cons, e1, Int.mul_add, Int.mul_add]
    have : -(2 * M) ≤ con1 e v ∧ con1 e v ≤ 2 * M := by
      unfold con1
      split <;> split <;> omega
    omega
def FBnd (fl : List Int) : Prop := ∀ x ∈ fl, -1000000 ≤ x ∧ x ≤ 1000000
theorem en_bnd {n : Net} {fl : List Int} (h : FBnd fl) : ∀ e ∈ En n fl, -1000000 ≤ e.f ∧ e.f ≤ 1000000 := fun e he => by
  obtain ⟨i, hi⟩ := List.getElem?_of_mem he
  unfold En at hi
  rw [List.getElem?_zipWith] at hi
  cases h1 : n.drains[i]? with
  | none => rw [h1] at hi; cases hi
  | some d =>
    cases h2 : fl[i]? with
    | none => rw [h1, h2] at hi; cases hi
    | some f =>
      rw [h1, h2] at hi; cases hi
      exact h f (List.mem_of_getElem? h2)
theorem part_bnd {n : Net} {fl : List Int} (h : FBnd fl) (hl : n.drains.length ≤ 1000) (v : Int) (i : Nat) : -2000000000 ≤ out ((En n fl).take i) v ∧ out ((En n fl).take i) v ≤ 2000000000 := by
  have := out_bnd (M := 1000000) (by omega) v ((En n fl).take i) (fun e he => en_bnd h e (List.mem_of_mem_take he))
  have h2 : ((En n fl).take i).length ≤ 1000 := by
    rw [List.length_take]
    have : (En n fl).length ≤ n.drains.length := by unfold En; simp; omega
    omega
  omega
theorem value_eq {n : Net} {fl : List Int} (hf : fl.length = n.drains.length) (hl : n.drains.length ≤ 1000) (hb : FBnd fl) (v : Int) : drain_value n fl v = some (out (En n fl) v) := by
  have hE := en_len hf
  unfold drain_value
  refine Eq.trans (for0 n.drains.length (fun i => out ((En n fl).take i) v) (fun k s i => drain_value_L1 n fl v k s i) (some (out (En n fl) v)) rfl (fun k i hi => ?_) (fun k => ?_) (by omega)) rfl
  · have hx : n.drains[i]? = some n.drains[i] := by simp [hi]
    have hy : fl[i]? = some (fl[i]'(by omega)) := List.getElem?_eq_getElem _
    have he := out_take v (en_at hx hy)
    have b1 := part_bnd hb hl v i
    have b2 := hb _ (List.mem_of_getElem? hy)
    show drain_value_B1 n fl v (drain_value_L1 n fl v k) _ _ = _
    unfold drain_value_B1 drain_value_k3 drain_value_k2
    rw [if_pos (by omega), ix_nat hx, he]
    unfold con1
    simp only
    by_cases h1 : n.drains[i].from_ = v
    · rw [if_pos h1, ix_nat hy, gd_pos (by omega), if_pos h1]
      by_cases h2 : n.drains[i].to_ = v
      · rw [if_pos h2, ix_nat hy, gd_pos (by omega), gd_pos (by omega), if_pos h2]
        congr 1; omega
      · rw [if_neg h2, gd_pos (by omega), if_neg h2]
        congr 1; omega
    · rw [if_neg h1, if_neg h1]
      by_cases h2 : n.drains[i].to_ = v
      · rw [if_pos h2, ix_nat hy, gd_pos (by omega), gd_pos (by omega), if_pos h2]
        congr 1; omega
      · rw [if_neg h2, gd_pos (by omega), if_neg h2]
        congr 1; omega
  · show drain_value_B1 n fl v (drain_value_L1 n fl v k) _ _ = _
    unfold drain_value_B1
    rw [if_neg (by omega)]
    unfold drain_value_k1
    rw [List.take_of_length_le (by omega)]
def inS (m : Nat) (v : Int) : Bool := m.testBit v.toNat
theorem in_eq {m : Nat} {v : Int} (hm : m < 9223372036854775808) (hv : 0 ≤ v ∧ v ≤ 60) : ref02_in (m : Int) v = some (inS m v) := by
  have hw : IntKind.u64.wrap v = v := IntWalk.u64_in _ (by omega)
  have hs : shrI (m : Int) v = ((m / 2 ^ v.toNat : Nat) : Int) := by
    unfold shrI
    rw [show min v.toNat 64 = v.toNat by omega, Int.fdiv_eq_ediv_of_nonneg _ (by exact Int.le_of_lt (Int.pow_pos (by decide)))]
    norm_cast
  have hle : m / 2 ^ v.toNat ≤ m := Nat.div_le_self _ _
  have hnn : NN ((m / 2 ^ v.toNat : Nat) : Int) := by
    generalize m / 2 ^ v.toNat = q at hle ⊢
    omega
  unfold ref02_in
  rw [hw, gd_pos hv.1, hs, gd_pos ⟨hnn, by decide⟩]
  congr 1
  unfold inS bitAnd
  rw [Nat.testBit_eq_decide_div_mod_eq]
  have : ((((m / 2 ^ v.toNat : Nat) : Int).toNat &&& (1 : Int).toNat : Nat) : Int) = ((m / 2 ^ v.toNat % 2 : Nat) : Int) := by
    rw [show (1 : Int).toNat = 1 from rfl, Nat.and_one_is_mod, Int.toNat_natCast]
  rw [this]
  by_cases h : m / 2 ^ v.toNat % 2 = 1
  · rw [decide_eq_true (by omega), decide_eq_true h]
  · rw [decide_eq_false (by omega), decide_eq_false h]
theorem set_of : ∀ (k : Nat) (S : Nat → Bool), ∃ m, m < 2 ^ k ∧ ∀ v, v < k → m.testBit v = S v
  | 0, S => ⟨0, by decide, fun v hv => by omega⟩
  | k + 1, S => by
    obtain ⟨m, h1, h2⟩ := set_of k (fun v => S (v + 1))
    refine ⟨2 * m + (S 0).toNat, ?_, fun v hv => ?_⟩
    · rw [Nat.pow_succ]
      have : (S 0).toNat ≤ 1 := Bool.toNat_le _
      omega
    · cases v with
      | zero =>
        rw [Nat.testBit_zero]
        cases S 0 <;> simp
      | succ v =>
        rw [Nat.testBit_succ]
        have : (2 * m + (S 0).toNat) / 2 = m := by
          have : (S 0).toNat ≤ 1 := Bool.toNat_le _
          omega
        rw [this]; exact h2 v (by omega)
def cutD (S : Int → Bool) : List Drain → Int
  | [] => 0
  | d :: r => (if S d.from_ = true ∧ S d.to_ = false then d.width else 0) + cutD S r
theorem cutW_eds (S : Int → Bool) : ∀ l : List Left, cutW S (Eds l) = cutD S (l.map Left.drain)
  | [] => rfl
  | d :: r => by
    have := cutW_eds S r
    have e : cutW S (Eds (d :: r)) = (if S d.drain.from_ = true ∧ S d.drain.to_ = false then d.drain.width else 0) + cutW S (Eds r) := rfl
    rw [e, this]; rfl
theorem cutD_congr {S T : Int → Bool} : ∀ l : List Drain, (∀ d ∈ l, S d.from_ = T d.from_ ∧ S d.to_ = T d.to_) → cutD S l = cutD T l
  | [], _ => rfl
  | d :: r, h => by
    have := h d (List.mem_cons_self ..)
    simp only [cutD, this.1, this.2, cutD_congr r (fun x hx => h x (List.mem_cons_of_mem _ hx))]
theorem cutD_bnd (S : Int → Bool) : ∀ l : List Drain, (∀ d ∈ l, 0 ≤ d.width ∧ d.width ≤ 1000) → 0 ≤ cutD S l ∧ cutD S l ≤ 1000 * (l.length : Int)
  | [], _ => ⟨Int.le_refl _, Int.le_refl _⟩
  | d :: r, h => by
    have ih := cutD_bnd S r (fun x hx => h x (List.mem_cons_of_mem _ hx))
    have := h d (List.mem_cons_self ..)
    simp only [cutD, List.length_cons]
    split <;> omega
theorem cutD_take {S : Int → Bool} {d : Drain} : ∀ {l : List Drain} {i : Nat}, l[i]? = some d → cutD S (l.take (i + 1)) = cutD S (l.take i) + (if S d.from_ = true ∧ S d.to_ = false then d.width else 0)
  | [], i, h => by simp at h
  | x :: r, 0, h => by simp at h; subst h; simp [cutD]
  | x :: r, i + 1, h => by
    have := cutD_take (S := S) (d := d) (l := r) (i := i) (by simpa using h)
    simp only [List.take_succ_cons, cutD, this]; omega
theorem width_eq {n : Net} (hn : Net0 n) {m : Nat} (hm : m < 9223372036854775808) : ref02_width n (m : Int) = some (cutD (inS m) n.drains) := by
  have hl := hn.len
  have h8 := hn.n8
  unfold ref02_width
  refine Eq.trans (for0 n.drains.length (fun i => cutD (inS m) (n.drains.take i)) (fun k s i => ref02_width_L1 n m k s i) (some (cutD (inS m) n.drains)) rfl (fun k i hi => ?_) (fun k => ?_) (by omega)) rfl
  · have hx : n.drains[i]? = some n.drains[i] := by simp [hi]
    have hd := hn.dr _ (List.getElem_mem hi)
    have hb := cutD_bnd (inS m) (n.drains.take i) (fun d hd => by have := hn.dr d (List.mem_of_mem_take hd); omega)
    have hlt : (n.drains.take i).length ≤ 16 := by rw [List.length_take]; omega
    show ref02_width_B1 n m (ref02_width_L1 n m k) _ _ = _
    unfold ref02_width_B1
    rw [if_pos (by omega), ix_nat hx, bnd_eq (in_eq hm (by omega)), cutD_take hx]
    unfold ref02_width_k3 ref02_width_k2
    cases h1 : inS m n.drains[i].from_
    · rw [if_neg (by simp), if_neg (by simp), gd_pos (by omega), if_neg (by simp), Int.add_zero]; rfl
    · rw [if_pos rfl, bnd_eq (in_eq hm (by omega))]
      cases h2 : inS m n.drains[i].to_
      · rw [if_pos (by rfl), gd_pos (by omega), gd_pos (by omega), if_pos ⟨rfl, rfl⟩]; rfl
      · rw [if_neg (by simp), gd_pos (by omega), if_neg (by simp), Int.add_zero]; rfl
  · show ref02_width_B1 n m (ref02_width_L1 n m k) _ _ = _
    unfold ref02_width_B1
    rw [if_neg (by omega)]
    unfold ref02_width_k1
    rw [List.take_length]
def cutB (n : Net) (m : Nat) : Bool := inS m n.from_ && !inS m n.to_
theorem isCut_eq {n : Net} (hn : Net0 n) {m : Nat} (hm : m < 9223372036854775808) : ref02_isCut n (m : Int) = some (cutB n m) := by
  have h8 := hn.n8
  have hs := hn.s0
  have ht := hn.t0
  unfold ref02_isCut cutB
  rw [bnd_eq (in_eq hm (by omega))]
  cases inS m n.from_
  · rfl
  · rw [if_pos rfl, bnd_eq (in_eq hm (by omega))]; rfl
def bestC (n : Net) : Nat → Int
  | 0 => -1
  | i + 1 => if cutB n i = true then (if bestC n i < 0 ∨ cutD (inS i) n.drains < bestC n i then cutD (inS i) n.drains else bestC n i) else bestC n i
theorem bestC_spec {n : Net} (hn : Net0 n) : ∀ i, ((∀ j, j < i → cutB n j = false) ∧ bestC n i = -1) ∨ (0 ≤ bestC n i ∧ (∀ j, j < i → cutB n j = true → bestC n i ≤ cutD (inS j) n.drains) ∧ ∃ j, j < i ∧ cutB n j = true ∧ cutD (inS j) n.drains = bestC n i)
  | 0 => .inl ⟨fun j hj => by omega, rfl⟩
  | i + 1 => by
    have ih := bestC_spec hn i
    have hb := (cutD_bnd (inS i) n.drains (fun d hd => by have := hn.dr d hd; omega)).1
    simp only [bestC]
    by_cases hc : cutB n i = true
    · rw [if_pos hc]
      refine .inr ?_
      rcases ih with ⟨h1, h2⟩ | ⟨h1, h2, j, h3, h4, h5⟩
      · rw [if_pos (.inl (by omega))]
        refine ⟨hb, fun j hj hcj => ?_, i, by omega, hc, rfl⟩
        by_cases hji : j = i
        · subst hji; exact Int.le_refl _
        · rw [h1 j (by omega)] at hcj; cases hcj
      · by_cases hlt : cutD (inS i) n.drains < bestC n i
        · rw [if_pos (.inr hlt)]
          refine ⟨hb, fun j hj hcj => ?_, i, by omega, hc, rfl⟩
          by_cases hji : j = i
          · subst hji; exact Int.le_refl _
          · have := h2 j (by omega) hcj; omega
        · rw [if_neg (by omega)]
          refine ⟨h1, fun j hj hcj => ?_, j, by omega, h4, h5⟩
          by_cases hji : j = i
          · subst hji; omega
          · exact h2 j (by omega) hcj
    · rw [if_neg hc]
      rcases ih with ⟨h1, h2⟩ | ⟨h1, h2, j, h3, h4, h5⟩
      · refine .inl ⟨fun j hj => ?_, h2⟩
        by_cases hji : j = i
        · subst hji; simpa using hc
        · exact h1 j (by omega)
      · refine .inr ⟨h1, fun j hj hcj => ?_, j, by omega, h4, h5⟩
        by_cases hji : j = i
        · subst hji; exact absurd hcj hc
        · exact h2 j (by omega) hcj
def mostN (n : Net) : Int := bestC n (2 ^ n.nodes.toNat)
theorem pow_bnd {n : Net} (hn : Net0 n) : 2 ^ n.nodes.toNat ≤ 256 := by
  have := hn.n8
  have h : 2 ^ n.nodes.toNat ≤ 2 ^ 8 := Nat.pow_le_pow_right (by decide) (by omega)
  simpa using h
theorem shl_eq {n : Net} (hn : Net0 n) : shlI 1 (IntKind.u64.wrap n.nodes) = ((2 ^ n.nodes.toNat : Nat) : Int) ∧ IntKind.u64.wrap n.nodes = n.nodes := by
  have h2 := hn.n2
  have h8 := hn.n8
  have hw : IntKind.u64.wrap n.nodes = n.nodes := IntWalk.u64_in _ (by omega)
  refine ⟨?_, hw⟩
  rw [hw]
  unfold shlI
  rw [show min n.nodes.toNat 64 = n.nodes.toNat by omega, Int.one_mul]
  norm_cast
theorem rmost_eq {n : Net} (hn : Net0 n) : ref02_most n = some (mostN n) := by
  have hp := pow_bnd hn
  have ⟨hsh, hw⟩ := shl_eq hn
  have h2 := hn.n2
  have hg : 0 ≤ IntKind.u64.wrap n.nodes ∧ InR (shlI 1 (IntKind.u64.wrap n.nodes)) := ⟨by rw [hw]; omega, by rw [hsh]; exact Int.le_trans (by decide) (Int.natCast_nonneg _), by rw [hsh]; exact Int.le_trans (Int.ofNat_le.2 hp) (by decide)⟩
  unfold ref02_most
  refine Eq.trans (for0 (2 ^ n.nodes.toNat) (bestC n) (fun k s i => ref02_most_L1 n k s i) (some (mostN n)) rfl (fun k i hi => ?_) (fun k => ?_) (by omega)) rfl
  · show ref02_most_B1 n (ref02_most_L1 n k) _ _ = _
    unfold ref02_most_B1
    rw [gd_pos hg, hsh, if_pos (by omega), bnd_eq (isCut_eq hn (by omega))]
    unfold ref02_most_k3 ref02_most_k2
    have eb : bestC n (i + 1) = (if cutB n i = true then (if bestC n i < 0 ∨ cutD (inS i) n.drains < bestC n i then cutD (inS i) n.drains else bestC n i) else bestC n i) := rfl
    rw [eb]
    by_cases hc : cutB n i = true
    · rw [if_pos hc, if_pos hc, bnd_eq (width_eq hn (by omega))]
      by_cases h1 : bestC n i < 0
      · rw [if_pos h1, if_pos rfl, gd_pos (by omega), if_pos (.inl h1)]; rfl
      · rw [if_neg h1]
        by_cases h3 : cutD (inS i) n.drains < bestC n i
        · rw [if_pos (by simpa using h3), gd_pos (by omega), if_pos (.inr h3)]; rfl
        · rw [if_neg (by simpa using h3), gd_pos (by omega), if_neg (by omega)]; rfl
    · rw [if_neg hc, if_neg hc, gd_pos (by omega)]; rfl
  · show ref02_most_B1 n (ref02_most_L1 n k) _ _ = _
    unfold ref02_most_B1
    rw [gd_pos hg, hsh, if_neg (by omega)]; rfl
/-- A set as a number, and its width. -/
theorem cut_num {n : Net} (hn : Net0 n) (S : Int → Bool) : ∃ m, m < 2 ^ n.nodes.toNat ∧ (∀ v : Int, 0 ≤ v → v < n.nodes → inS m v = S v) ∧ cutD (inS m) n.drains = cutD S n.drains := by
  obtain ⟨m, h1, h2⟩ := set_of n.nodes.toNat (fun v => S (v : Int))
  have key : ∀ v : Int, 0 ≤ v → v < n.nodes → inS m v = S v := fun v v0 v1 => by
    unfold inS
    rw [h2 v.toNat (by omega), show ((v.toNat : Nat) : Int) = v by omega]
  exact ⟨m, h1, key, cutD_congr _ fun d hd => by have := hn.dr d hd; exact ⟨key _ this.1.1 this.1.2, key _ this.2.1.1 this.2.1.2⟩⟩
theorem most_le {n : Net} (hn : Net0 n) {S : Int → Bool} (h1 : S n.from_ = true) (h2 : S n.to_ = false) : mostN n ≤ cutD S n.drains := by
  obtain ⟨m, m1, m2, m3⟩ := cut_num hn S
  have hc : cutB n m = true := by
    unfold cutB
    rw [m2 _ hn.s0.1 hn.s0.2, m2 _ hn.t0.1 hn.t0.2, h1, h2]; rfl
  rcases bestC_spec hn (2 ^ n.nodes.toNat) with ⟨h3, _⟩ | ⟨_, h3, _⟩
  · rw [h3 m m1] at hc; cases hc
  · have := h3 m m1 hc
    rw [m3] at this; exact this
theorem most_at {n : Net} (hn : Net0 n) : ∃ S : Int → Bool, S n.from_ = true ∧ S n.to_ = false ∧ cutD S n.drains = mostN n := by
  obtain ⟨m, m1, m2, m3⟩ := cut_num hn (fun v => decide (v = n.from_))
  have hne := hn.ne
  have hc : cutB n m = true := by
    unfold cutB
    rw [m2 _ hn.s0.1 hn.s0.2, m2 _ hn.t0.1 hn.t0.2]; simp; omega
  rcases bestC_spec hn (2 ^ n.nodes.toNat) with ⟨h3, _⟩ | ⟨_, _, j, j1, j2, j3⟩
  · rw [h3 m m1] at hc; cases hc
  · unfold cutB at j2
    simp only [Bool.and_eq_true, Bool.not_eq_true'] at j2
    exact ⟨inS j, j2.1, j2.2, j3⟩
theorem maxed_val {n : Net} (hn : Net0 n) {l : List Left} (h : Maxed n l) : out (Eds l) n.from_ = mostN n := by
  obtain ⟨hf, S, s1, s2, s3, _⟩ := h
  have hs : 0 ≤ n.from_ ∧ n.from_ < ((n.nodes.toNat : Nat) : Int) := by have := hn.s0; omega
  have h1 : out (Eds l) n.from_ = cutW S (Eds l) := (tight_iff hf.flow hs s1 s2).2 ((closed_tight hf.flow.cap).1 s3)
  rw [cutW_eds, hf.drains] at h1
  have h2 := most_le hn s1 s2
  obtain ⟨T, t1, t2, t3⟩ := most_at hn
  have h3 := weak hf.flow hs t1 t2
  rw [cutW_eds, hf.drains, t3] at h3
  omega
theorem maxed_bnd {n : Net} {l : List Left} (h : Maxed n l) : FBnd (l.map Left.runs) := fun x hx => by
  obtain ⟨d, hd, rfl⟩ := List.mem_map.1 hx
  have := h.1.caps d hd
  omega
theorem maxed_len {n : Net} {l : List Left} (h : Maxed n l) : l.length = n.drains.length := by
  have := congrArg List.length h.1.drains
  simpa using this
theorem most_eq {n : Net} (hn : Net0 n) : drain_most n = some (mostN n) := by
  obtain ⟨l, l1, l2⟩ := run_eq hn
  have hl := hn.len
  have hll := maxed_len l2
  unfold drain_most
  rw [bnd_eq l1, bnd_eq (flowOf_eq (by omega)), bnd_eq (value_eq (by simpa using hll) (by omega) (maxed_bnd l2) _), ← flowL_en l2.1.drains, maxed_val hn l2]
end Go.D2

set_option linter.unusedVariables false
set_option linter.unusedSimpArgs false
namespace Go.D2
open Go.Tb
def gd_ (l : List Drain) (i : Nat) : Drain := l.getD i ⟨0, 0, 0⟩
theorem gd_at {l : List Drain} {i : Nat} (h : i < l.length) : l[i]? = some (gd_ l i) := by simp [gd_, List.getD, h]
theorem Long_eq (n : Net) : law02_Long n = some (decide ((100 : Int) < (n.drains.length : Int))) := rfl
end Go.D2

set_option linter.unusedVariables false
set_option linter.unusedSimpArgs false
namespace Go.D2
open Go.Tb
def nodesOf (n : Nat) (p : Int → Bool) : List Int := ((List.range n).map (fun (i : Nat) => (i : Int))).filter p
theorem nodesOf_len (n : Nat) (p : Int → Bool) : (nodesOf n p).length ≤ n := by
  unfold nodesOf
  refine Nat.le_trans (List.length_filter_le _ _) ?_
  simp
theorem nodesOf_succ (n : Nat) (p : Int → Bool) : nodesOf (n + 1) p = nodesOf n p ++ (if p (n : Int) = true then [(n : Int)] else []) := by
  unfold nodesOf
  rw [List.range_succ, List.map_append, List.filter_append]
  congr 1
  by_cases h : p (n : Int) = true
  · rw [if_pos h]; simp [h]
  · rw [if_neg h]; simp [h]
theorem SameInts_self {l : List Int} (hl : l.length ≤ 1000000) : ref01_SameInts l l = some true := by
  unfold ref01_SameInts
  rw [if_pos rfl, list_loop0 l (fun _ => true) (ref01_SameInts_L1 l l) (some true) (some false) (fun k i x hx => ?_) (fun k => ?_) (by omega)]
  · rw [if_pos (by simp)]
  · have := lt_of_at hx
    show ref01_SameInts_B1 l l (ref01_SameInts_L1 l l k) _ = _
    unfold ref01_SameInts_B1
    rw [if_pos (by omega), ix_nat hx, ix_nat hx, if_pos rfl, gd_pos (by omega), if_pos rfl]; rfl
  · show ref01_SameInts_B1 l l (ref01_SameInts_L1 l l k) _ = _
    unfold ref01_SameInts_B1
    rw [if_neg (by omega)]; rfl
end Go.D2

set_option linter.unusedVariables false
set_option linter.unusedSimpArgs false
namespace Go.D2
open Go.Tb
def withW (d : Drain) (w : Int) : Drain := ⟨d.from_, d.to_, w⟩
def chg (n : Net) (i : Nat) (w : Int) : Net := ⟨n.nodes, n.from_, n.to_, n.drains.set i (withW (gd_ n.drains i) w)⟩
theorem changed_eq {n : Net} (hl : n.drains.length ≤ 1000) {i : Nat} (hi : i < n.drains.length) (w : Int) : drain_changed n i w = some (chg n i w) := by
  unfold drain_changed
  have h : slices_Clone_Drain n.drains = some n.drains := by
    unfold slices_Clone_Drain
    rw [gd_pos (by simp; omega)]; rfl
  rw [bnd_eq h, ix_nat (gd_at hi)]; rfl
theorem copy_eq {n : Net} (hl : n.drains.length ≤ 1000) : ref02_Copy n = some n := by
  unfold ref02_Copy
  rw [gd_pos (by simp; omega)]; rfl
theorem wide_eq {n : Net} (hl : n.drains.length ≤ 1000) {i : Nat} (hi : i < n.drains.length) (w : Int) : ref02_wide n i w = some (chg n i w) := by
  unfold ref02_wide
  rw [bnd_eq (copy_eq hl), ix_nat (gd_at hi)]; rfl
theorem chg_net0 {n : Net} (hn : Net0 n) {i : Nat} (hi : i < n.drains.length) {w : Int} (hw : 0 ≤ w ∧ w ≤ 1000) : Net0 (chg n i w) :=
  { n2 := hn.n2, n8 := hn.n8, s0 := hn.s0, t0 := hn.t0, ne := hn.ne, len := by show (n.drains.set i _).length ≤ 16; rw [List.length_set]; exact hn.len
    dr := fun d hd => by
      rcases List.mem_or_eq_of_mem_set hd with h | rfl
      · exact hn.dr d h
      · have := hn.dr _ (List.mem_of_getElem? (gd_at hi))
        exact ⟨this.1, this.2.1, this.2.2.1, hw⟩ }
theorem those_eq {n : Net} (hl : n.drains.length ≤ 1000) {f : Int → Option Bool} {p : Int → Bool} (hf : ∀ i : Nat, i < n.drains.length → f (i : Int) = some (p i)) : drain_those n f = some (nodesOf n.drains.length p) := by
  unfold drain_those
  refine for0 n.drains.length (fun i => nodesOf i p) (fun k s i => drain_those_L1 n f k i s) _ rfl (fun k i hi => ?_) (fun k => ?_) (by omega)
  · have hll := nodesOf_len i p
    show drain_those_B1 n f (drain_those_L1 n f k) _ _ = _
    unfold drain_those_B1 drain_those_k2
    rw [if_pos (by omega), bnd_eq (hf _ hi), nodesOf_succ]
    by_cases h : p (i : Int) = true
    · rw [if_pos h, if_pos h, gd_pos (by simp; omega), gd_pos (by omega)]; rfl
    · rw [if_neg h, if_neg h, gd_pos (by omega), List.append_nil]; rfl
  · show drain_those_B1 n f (drain_those_L1 n f k) _ _ = _
    unfold drain_those_B1
    rw [if_neg (by omega)]; rfl
def wantP (n : Net) (v : Int) : Bool := decide (mostN n < mostN (chg n v.toNat ((gd_ n.drains v.toNat).width + 1)))
def critP (n : Net) (v : Int) : Bool := decide (0 < (gd_ n.drains v.toNat).width) && decide (mostN (chg n v.toNat ((gd_ n.drains v.toNat).width - 1)) < mostN n)
def needP (n : Net) (v : Int) : Bool := decide (mostN (chg n v.toNat 0) = mostN n)
def listR (n : Net) (p : Int → Bool) : List Int × Int := if validate n = 0 then (nodesOf n.drains.length p, 0) else ([], validate n)
theorem Wanted_eq {n : Net} (hl : n.drains.length ≤ 1000) : drain_Wanted n = some (listR n (wantP n)) := by
  unfold drain_Wanted listR
  rw [bnd_eq (Validate_eq hl)]
  by_cases hv : validate n = 0
  · have hn := val0.1 hv
    rw [if_pos hv, if_pos hv, bnd_eq (most_eq hn.toNet0), bnd_eq (those_eq hl (p := wantP n) fun i hi => ?_)]
    have hd := hn.dr _ (List.mem_of_getElem? (gd_at hi))
    unfold drain_Wanted_1 wantP
    rw [ix_nat (gd_at hi), gd_pos (by omega), bnd_eq (changed_eq hl hi _), bnd_eq (most_eq (chg_net0 hn.toNet0 hi (by have := hn.w20 _ (List.mem_of_getElem? (gd_at hi)); omega)))]; rfl
  · rw [if_neg hv, if_neg hv]
theorem Critical_eq {n : Net} (hl : n.drains.length ≤ 1000) : drain_Critical n = some (listR n (critP n)) := by
  unfold drain_Critical listR
  rw [bnd_eq (Validate_eq hl)]
  by_cases hv : validate n = 0
  · have hn := val0.1 hv
    rw [if_pos hv, if_pos hv, bnd_eq (most_eq hn.toNet0), bnd_eq (those_eq hl (p := critP n) fun i hi => ?_)]
    have hd := hn.dr _ (List.mem_of_getElem? (gd_at hi))
    unfold drain_Critical_1 critP
    rw [ix_nat (gd_at hi)]
    simp only [Int.toNat_natCast]
    by_cases h : 0 < (gd_ n.drains i).width
    · rw [if_pos h, gd_pos (by omega), bnd_eq (changed_eq hl hi _), bnd_eq (most_eq (chg_net0 hn.toNet0 hi (by omega))), decide_eq_true h]; rfl
    · rw [if_neg h, decide_eq_false h]; rfl
  · rw [if_neg hv, if_neg hv]
theorem Needless_eq {n : Net} (hl : n.drains.length ≤ 1000) : drain_Needless n = some (listR n (needP n)) := by
  unfold drain_Needless listR
  rw [bnd_eq (Validate_eq hl)]
  by_cases hv : validate n = 0
  · have hn := val0.1 hv
    rw [if_pos hv, if_pos hv, bnd_eq (most_eq hn.toNet0), bnd_eq (those_eq hl (p := needP n) fun i hi => ?_)]
    unfold drain_Needless_1 needP
    rw [bnd_eq (changed_eq hl hi _), bnd_eq (most_eq (chg_net0 hn.toNet0 hi (by omega)))]; rfl
  · rw [if_neg hv, if_neg hv]
theorem rWanted_eq {n : Net} (hl : n.drains.length ≤ 1000) : ref02_Wanted n = some (listR n (wantP n)) := by
  unfold ref02_Wanted listR
  rw [bnd_eq (rValidate_eq hl)]
  by_cases hv : validate n = 0
  · have hn := val0.1 hv
    rw [if_pos hv, if_pos hv]
    refine for0 n.drains.length (fun i => nodesOf i (wantP n)) (fun k s i => ref02_Wanted_L1 n k i s) _ rfl (fun k i hi => ?_) (fun k => ?_) (by omega)
    · have hll := nodesOf_len i (wantP n)
      have hd := hn.dr _ (List.mem_of_getElem? (gd_at hi))
      show ref02_Wanted_B1 n (ref02_Wanted_L1 n k) _ _ = _
      unfold ref02_Wanted_B1 ref02_Wanted_k2
      rw [if_pos (by omega), ix_nat (gd_at hi), gd_pos (by omega), bnd_eq (wide_eq hl hi _), bnd_eq (rmost_eq (chg_net0 hn.toNet0 hi (by have := hn.w20 _ (List.mem_of_getElem? (gd_at hi)); omega))), bnd_eq (rmost_eq hn.toNet0), nodesOf_succ]
      have e : wantP n (i : Int) = decide (mostN n < mostN (chg n i ((gd_ n.drains i).width + 1))) := rfl
      rw [e]
      by_cases h : mostN n < mostN (chg n i ((gd_ n.drains i).width + 1))
      · rw [if_pos h, if_pos (decide_eq_true h), gd_pos (by simp; omega), gd_pos (by omega)]; rfl
      · rw [if_neg h, if_neg (by simpa using h), gd_pos (by omega), List.append_nil]; rfl
    · show ref02_Wanted_B1 n (ref02_Wanted_L1 n k) _ _ = _
      unfold ref02_Wanted_B1
      rw [if_neg (by omega)]; rfl
  · rw [if_neg hv, if_neg hv]
theorem rNeedless_eq {n : Net} (hl : n.drains.length ≤ 1000) : ref02_Needless n = some (listR n (needP n)) := by
  unfold ref02_Needless listR
  rw [bnd_eq (rValidate_eq hl)]
  by_cases hv : validate n = 0
  · have hn := val0.1 hv
    rw [if_pos hv, if_pos hv]
    refine for0 n.drains.length (fun i => nodesOf i (needP n)) (fun k s i => ref02_Needless_L1 n k i s) _ rfl (fun k i hi => ?_) (fun k => ?_) (by omega)
    · have hll := nodesOf_len i (needP n)
      show ref02_Needless_B1 n (ref02_Needless_L1 n k) _ _ = _
      unfold ref02_Needless_B1 ref02_Needless_k2
      rw [if_pos (by omega), bnd_eq (wide_eq hl hi _), bnd_eq (rmost_eq (chg_net0 hn.toNet0 hi (by omega))), bnd_eq (rmost_eq hn.toNet0), nodesOf_succ]
      have e : needP n (i : Int) = decide (mostN (chg n i 0) = mostN n) := rfl
      rw [e]
      by_cases h : mostN (chg n i 0) = mostN n
      · rw [if_pos h, if_pos (decide_eq_true h), gd_pos (by simp; omega), gd_pos (by omega)]; rfl
      · rw [if_neg h, if_neg (by simpa using h), gd_pos (by omega), List.append_nil]; rfl
    · show ref02_Needless_B1 n (ref02_Needless_L1 n k) _ _ = _
      unfold ref02_Needless_B1
      rw [if_neg (by omega)]; rfl
  · rw [if_neg hv, if_neg hv]
theorem rCritical_eq {n : Net} (hl : n.drains.length ≤ 1000) : ref02_Critical n = some (listR n (critP n)) := by
  unfold ref02_Critical listR
  rw [bnd_eq (rValidate_eq hl)]
  by_cases hv : validate n = 0
  · have hn := val0.1 hv
    rw [if_pos hv, if_pos hv]
    refine for0 n.drains.length (fun i => nodesOf i (critP n)) (fun k s i => ref02_Critical_L1 n k i s) _ rfl (fun k i hi => ?_) (fun k => ?_) (by omega)
    · have hll := nodesOf_len i (critP n)
      have hd := hn.dr _ (List.mem_of_getElem? (gd_at hi))
      show ref02_Critical_B1 n (ref02_Critical_L1 n k) _ _ = _
      unfold ref02_Critical_B1 ref02_Critical_k3 ref02_Critical_k2
      have e : critP n (i : Int) = (decide (0 < (gd_ n.drains i).width) && decide (mostN (chg n i ((gd_ n.drains i).width - 1)) < mostN n)) := rfl
      rw [if_pos (by omega), ix_nat (gd_at hi), nodesOf_succ, e]
      by_cases h : 0 < (gd_ n.drains i).width
      · rw [if_pos h, gd_pos (by omega), bnd_eq (wide_eq hl hi _), bnd_eq (rmost_eq (chg_net0 hn.toNet0 hi (by omega))), bnd_eq (rmost_eq hn.toNet0), decide_eq_true h, Bool.true_and]
        by_cases h2 : decide (mostN (chg n i ((gd_ n.drains i).width - 1)) < mostN n) = true
        · rw [if_pos h2, if_pos h2, gd_pos (by simp; omega), gd_pos (by omega)]; rfl
        · rw [if_neg h2, if_neg h2, gd_pos (by omega), List.append_nil]; rfl
      · rw [if_neg h, if_neg (by simp), decide_eq_false h, if_neg (by simp), gd_pos (by omega), List.append_nil]; rfl
    · show ref02_Critical_B1 n (ref02_Critical_L1 n k) _ _ = _
      unfold ref02_Critical_B1
      rw [if_neg (by omega)]; rfl
  · rw [if_neg hv, if_neg hv]
theorem listR_len {n : Net} (hl : n.drains.length ≤ 1000) (p : Int → Bool) : (listR n p).1.length ≤ 1000 := by
  unfold listR
  split
  · have := nodesOf_len n.drains.length p
    simp only; omega
  · exact Nat.zero_le _
theorem law_DrainCritical (n : Net) (hb : n.drains.length ≤ 9223372036854775807) : law02_DrainCritical n = some true := by
  unfold law02_DrainCritical
  rw [bnd_eq (Long_eq n)]
  by_cases hL : (100 : Int) < (n.drains.length : Int)
  · rw [if_pos (by simpa using hL), bnd_eq known_eq]
  · have hl : n.drains.length ≤ 1000 := by omega
    have h1 := listR_len hl (critP n)
    have h2 := listR_len hl (wantP n)
    have h3 := listR_len hl (needP n)
    rw [if_neg (by simpa using hL), bnd_eq (Critical_eq hl), bnd_eq (rCritical_eq hl), bnd_eq (Wanted_eq hl), bnd_eq (rWanted_eq hl), bnd_eq (Needless_eq hl), bnd_eq (rNeedless_eq hl),
      bnd_eq (SameInts_self (by omega)), if_pos rfl, if_pos rfl, bnd_eq (SameInts_self (by omega)), if_pos rfl, if_pos rfl, bnd_eq (SameInts_self (by omega)), if_pos rfl, if_pos rfl, bnd_eq known_eq]
end Go.D2
