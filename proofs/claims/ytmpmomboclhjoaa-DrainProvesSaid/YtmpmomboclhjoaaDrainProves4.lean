/- Lemmas and walks that the proof of this claim uses: D2p2, D2p3, D2p4, D2p5, D2p7, D2p8. -/
import Derived.Test.YtmpmomboclhjoaaDrainProves3
set_option linter.unusedVariables false
set_option linter.unusedSimpArgs false
namespace Go.D2
open Go.Tb
def Eds (l : List Left) : List Ed := l.map toEd
def Caps (l : List Left) : Prop := ∀ d ∈ l, 0 ≤ d.runs ∧ d.runs ≤ d.drain.width ∧ d.drain.width ≤ 1000
theorem eds_at {l : List Left} {i : Nat} {e : Ed} (h : (Eds l)[i]? = some e) : ∃ d, l[i]? = some d ∧ e = toEd d := by
  unfold Eds at h
  rw [List.getElem?_map] at h
  cases hd : l[i]? with
  | none => rw [hd] at h; cases h
  | some d => rw [hd] at h; cases h; exact ⟨d, rfl, rfl⟩
theorem caps_room {l : List Left} (h : Caps l) : RoomOk (Eds l) := fun e he => by
  obtain ⟨d, hd, rfl⟩ := List.mem_map.1 he
  have := h d hd
  show InR d.runs ∧ InR (d.drain.width - d.runs)
  omega
theorem left_room_eq {d : Left} {u : Int} (h : 0 ≤ d.runs ∧ d.runs ≤ d.drain.width ∧ d.drain.width ≤ 1000) : drain_left_room d u = some (other (toEd d) u, room (toEd d) u) := by
  unfold drain_left_room other room
  by_cases h1 : d.drain.from_ = u
  · have h2 : (toEd d).a = u := h1
    rw [if_pos h1, if_pos h2, if_pos h2]; exact gd_pos (by omega)
  · have h2 : ¬ (toEd d).a = u := h1
    rw [if_neg h1, if_neg h2, if_neg h2]; rfl
def ints (ks : List Nat) : List Int := ks.map (fun (q : Nat) => (q : Int))
theorem ints_at {pre suf : List Nat} {i : Nat} : (ints (pre ++ i :: suf))[pre.length]? = some (i : Int) := by
  unfold ints
  rw [List.getElem?_map, List.getElem?_append_right (Nat.le_refl _)]; simp
/-- The smallest room along a way. -/
def minRoom (E : List Ed) : Int → Int → List Nat → Int
  | _, m, [] => m
  | u, m, i :: r => match E[i]? with
    | some e => minRoom E (other e u) (if m < 0 ∨ room e u < m then room e u else m) r
    | none => m
theorem minRoom_spec {E : List Ed} : ∀ (ks : List Nat) (vis : List Int) (u v m : Int), SP E vis u ks v → (0 < m ∨ (m < 0 ∧ ks ≠ [])) → 0 < minRoom E u m ks ∧ (0 < m → minRoom E u m ks ≤ m) ∧ AllRoom E (minRoom E u m ks) u ks
  | [], vis, u, v, m, h, hm => by
    rcases hm with h1 | ⟨_, h1⟩
    · exact ⟨h1, fun _ => Int.le_refl _, trivial⟩
    · exact absurd rfl h1
  | i :: r, vis, u, v, m, h, hm => by
    obtain ⟨e, he, hu, hp, hn, hr⟩ := h
    have e1 : minRoom E u m (i :: r) = minRoom E (other e u) (if m < 0 ∨ room e u < m then room e u else m) r := by simp only [minRoom, he]
    rw [e1]
    have hm' : 0 < (if m < 0 ∨ room e u < m then room e u else m) := by
      split
      · exact hp
      · rename_i hc
        rcases hm with h1 | ⟨h1, h1'⟩
        · exact h1
        · exact absurd (.inl h1) hc
    obtain ⟨i1, i2, i3⟩ := minRoom_spec r (u :: vis) (other e u) v _ hr (.inl hm')
    have i2 := i2 hm'
    generalize minRoom E (other e u) (if m < 0 ∨ room e u < m then room e u else m) r = q at *
    refine ⟨i1, fun h0 => ?_, e, he, ?_, i3⟩
    · split at i2 <;> omega
    · split at i2
      · exact i2
      · rename_i hc; omega
theorem run_L2 {n : Net} {l : List Left} (hc : Caps l) (rec2 : List Left → Option (List Left)) {ks : List Nat} (hk : ks.length ≤ 1000) : ∀ (suf pre : List Nat) (vis : List Int) (u v m : Int) (k : Nat), ks = pre ++ suf → SP (Eds l) vis u suf v → suf.length < k →
    drain_run_L2 n l rec2 (ints ks) k u m (pre.length : Int) = drain_run_k2 n l rec2 (ints ks) (minRoom (Eds l) u m suf)
  | [], pre, vis, u, v, m, k + 1, hks, h, hlt => by
    show drain_run_B2 n l rec2 (ints ks) (drain_run_L2 n l rec2 (ints ks) k) u m _ = _
    unfold drain_run_B2
    rw [if_neg (by rw [hks]; simp [ints])]; rfl
  | i :: r, pre, vis, u, v, m, k + 1, hks, h, hlt => by
    have h0 := h
    obtain ⟨e, he, hu, hp, hn, hr⟩ := h
    obtain ⟨d, hd, rfl⟩ := eds_at he
    have hcd := hc d (List.mem_of_getElem? hd)
    have hpl : pre.length < 1000 := by rw [hks] at hk; simp at hk; omega
    have ih := run_L2 (n := n) hc rec2 hk r (pre ++ [i]) (u :: vis) (other (toEd d) u) v (if m < 0 ∨ room (toEd d) u < m then room (toEd d) u else m) k (by rw [hks]; simp) hr (by simp at hlt; omega)
    have e1 : minRoom (Eds l) u m (i :: r) = minRoom (Eds l) (other (toEd d) u) (if m < 0 ∨ room (toEd d) u < m then room (toEd d) u else m) r := by simp only [minRoom, he]
    have e2 : (((pre ++ [i]).length : Nat) : Int) = (pre.length : Int) + 1 := by simp
    rw [e1, ← ih, e2]
    show drain_run_B2 n l rec2 (ints ks) (drain_run_L2 n l rec2 (ints ks) k) u m _ = _
    unfold drain_run_B2
    have hi : (ints ks)[pre.length]? = some (i : Int) := by rw [hks]; exact ints_at
    rw [if_pos (by have := lt_of_at hi; omega), ix_nat hi, ix_nat hd, bnd_eq (left_room_eq hcd)]
    unfold drain_run_k4 drain_run_k3
    by_cases h1 : m < 0
    · rw [if_pos h1, if_pos rfl, gd_pos (by omega), if_pos (.inl h1)]
    · rw [if_neg h1]
      by_cases h2 : room (toEd d) u < m
      · rw [if_pos (by simpa using h2), gd_pos (by omega), if_pos (.inr h2)]
      · rw [if_neg (by simpa using h2), gd_pos (by omega), if_neg (by omega)]
def moreL (m : Int) (d : Left) (u : Int) : Left := if d.drain.from_ = u then ⟨d.drain, d.runs + m⟩ else ⟨d.drain, d.runs - m⟩
theorem moreL_ed (m : Int) (d : Left) (u : Int) : toEd (moreL m d u) = more m (toEd d) u := by
  unfold moreL more
  by_cases h : d.drain.from_ = u
  · have h2 : (toEd d).a = u := h
    rw [if_pos h, if_pos h2]; rfl
  · have h2 : ¬ (toEd d).a = u := h
    rw [if_neg h, if_neg h2]; rfl
def augL (m : Int) : List Left → Int → List Nat → List Left
  | l, _, [] => l
  | l, u, i :: r => match l[i]? with
    | some d => augL m (l.set i (moreL m d u)) (other (toEd d) u) r
    | none => l
theorem eds_set {l : List Left} {i : Nat} {m : Int} {d : Left} {u : Int} : Eds (l.set i (moreL m d u)) = (Eds l).set i (more m (toEd d) u) := by
  unfold Eds
  rw [List.map_set, moreL_ed]
theorem augL_ed {m : Int} : ∀ (ks : List Nat) (l : List Left) (u : Int), Eds (augL m l u ks) = aug m (Eds l) u ks
  | [], l, u => rfl
  | i :: r, l, u => by
    cases hd : l[i]? with
    | none =>
      have he : (Eds l)[i]? = none := by unfold Eds; rw [List.getElem?_map, hd]; rfl
      simp only [augL, aug, hd, he]
    | some d =>
      have he : (Eds l)[i]? = some (toEd d) := by unfold Eds; rw [List.getElem?_map, hd]; rfl
      simp only [augL, aug, hd, he]
      rw [augL_ed r, eds_set]
theorem augL_drains {m : Int} : ∀ (ks : List Nat) (l : List Left) (u : Int), (augL m l u ks).map Left.drain = l.map Left.drain
  | [], l, u => rfl
  | i :: r, l, u => by
    cases hd : l[i]? with
    | none => simp only [augL, hd]
    | some d =>
      simp only [augL, hd]
      rw [augL_drains r, List.map_set]
      have : (moreL m d u).drain = d.drain := by unfold moreL; split <;> rfl
      rw [this]
      apply List.ext_getElem?
      intro j
      rw [List.getElem?_set]
      by_cases h : i = j
      · subst h
        have := lt_of_at hd
        rw [if_pos rfl, if_pos (by simpa using this), List.getElem?_map, hd]; rfl
      · rw [if_neg h]
theorem caps_set {l : List Left} {i : Nat} {d d' : Left} (hc : Caps l) (h : 0 ≤ d'.runs ∧ d'.runs ≤ d'.drain.width ∧ d'.drain.width ≤ 1000) : Caps (l.set i d') := fun x hx => by
  rcases List.mem_or_eq_of_mem_set hx with h1 | rfl
  · exact hc x h1
  · exact h
theorem run_L1 (rec2 : List Left → Option (List Left)) {ks : List Nat} (hk : ks.length ≤ 1000) {m : Int} (hm : 0 ≤ m ∧ m ≤ 1000) : ∀ (suf pre : List Nat) (vis : List Int) (u v : Int) (l : List Left) (k : Nat), ks = pre ++ suf → Caps l → SP (Eds l) vis u suf v → AllRoom (Eds l) m u suf → suf.length < k →
    drain_run_L1 rec2 (ints ks) m k u (pre.length : Int) l = rec2 (augL m l u suf)
  | [], pre, vis, u, v, l, k + 1, hks, hc, h, ha, hlt => by
    show drain_run_B1 rec2 (ints ks) m (drain_run_L1 rec2 (ints ks) m k) u _ l = _
    unfold drain_run_B1
    rw [if_neg (by rw [hks]; simp [ints])]; rfl
  | i :: r, pre, vis, u, v, l, k + 1, hks, hc, h, ha, hlt => by
    have honce := sp_once h
    obtain ⟨e, he, hu, hp, hn, hr⟩ := h
    obtain ⟨e0, he0, hmr, har⟩ := ha
    rw [he] at he0; cases he0
    obtain ⟨d, hd, rfl⟩ := eds_at he
    have hcd := hc d (List.mem_of_getElem? hd)
    have hpl : pre.length < 1000 := by rw [hks] at hk; simp at hk; omega
    have hcong : ∀ j ∈ r, (Eds (l.set i (moreL m d u)))[j]? = (Eds l)[j]? := fun j hj => by
      rw [eds_set, List.getElem?_set_ne (fun h : i = j => honce (by rw [h]; exact hj))]
    have hcm : 0 ≤ (moreL m d u).runs ∧ (moreL m d u).runs ≤ (moreL m d u).drain.width ∧ (moreL m d u).drain.width ≤ 1000 := by
      unfold room at hmr
      unfold moreL
      by_cases h1 : d.drain.from_ = u
      · have h2 : (toEd d).a = u := h1
        rw [if_pos h2] at hmr
        rw [if_pos h1]
        have : m ≤ d.drain.width - d.runs := hmr
        simp only; omega
      · have h2 : ¬ (toEd d).a = u := h1
        rw [if_neg h2] at hmr
        rw [if_neg h1]
        have : m ≤ d.runs := hmr
        simp only; omega
    have ih := run_L1 rec2 hk hm r (pre ++ [i]) (u :: vis) (other (toEd d) u) v (l.set i (moreL m d u)) k (by rw [hks]; simp) (caps_set (d := d) hc hcm) (sp_congr r _ _ v hcong hr) (allRoom_congr r _ hcong har) (by simp at hlt; omega)
    have e1 : augL m l u (i :: r) = augL m (l.set i (moreL m d u)) (other (toEd d) u) r := by simp only [augL, hd]
    have e2 : (((pre ++ [i]).length : Nat) : Int) = (pre.length : Int) + 1 := by simp
    rw [e1, ← ih, e2]
    show drain_run_B1 rec2 (ints ks) m (drain_run_L1 rec2 (ints ks) m k) u _ l = _
    unfold drain_run_B1
    have hi : (ints ks)[pre.length]? = some (i : Int) := by rw [hks]; exact ints_at
    rw [if_pos (by have := lt_of_at hi; omega), ix_nat hi, ix_nat hd, bnd_eq (left_room_eq hcd), ix_nat hd]
    unfold drain_run_k1 moreL
    by_cases h1 : d.drain.from_ = u
    · rw [if_pos h1, ix_nat hd, gd_pos (by omega), ix_nat hd, gd_pos (by omega), if_pos h1]; rfl
    · rw [if_neg h1, ix_nat hd, gd_pos (by omega), ix_nat hd, gd_pos (by omega), if_neg h1]; rfl
/-- What is known of the program's drains. -/
structure FlowL (n : Net) (l : List Left) : Prop where
  drains : l.map Left.drain = n.drains
  flow : Flow n.nodes.toNat n.from_ n.to_ (Eds l)
  caps : Caps l
theorem flowL_ne {n : Net} {l : List Left} (hn : Net0 n) (h : FlowL n l) : ∀ e ∈ Eds l, e.a ≠ e.b := fun e he => by
  obtain ⟨d, hd, rfl⟩ := List.mem_map.1 he
  have : d.drain ∈ n.drains := by rw [← h.drains]; exact List.mem_map_of_mem hd
  exact (hn.dr _ this).2.2.1
theorem sp_len {E : List Ed} : ∀ (ks : List Nat) (vis : List Int) (u v : Int), SP E vis u ks v → (∀ i ∈ ks, i < E.length) ∧ ks.Nodup
  | [], _, _, _, _ => ⟨by simp, List.nodup_nil⟩
  | i :: r, vis, u, v, h => by
    have h1 := sp_once h
    obtain ⟨e, he, _, _, _, hr⟩ := h
    have ⟨i1, i2⟩ := sp_len r _ _ _ hr
    exact ⟨fun j hj => by
      rcases List.mem_cons.1 hj with rfl | hj
      · exact lt_at he
      · exact i1 j hj, List.nodup_cons.2 ⟨h1, i2⟩⟩
theorem nodup_len : ∀ (n : Nat) (ks : List Nat), (∀ i ∈ ks, i < n) → ks.Nodup → ks.length ≤ n
  | 0, [], _, _ => Nat.le_refl _
  | 0, i :: r, h, _ => absurd (h i (List.mem_cons_self ..)) (by omega)
  | n + 1, ks, h, hd => by
    have h1 : (ks.erase n).length ≤ n := nodup_len n (ks.erase n) (fun i hi => by
      have h2 := h i (List.mem_of_mem_erase hi)
      have h3 : i ≠ n := fun e => by rw [e] at hi; exact (List.Nodup.mem_erase_iff hd).1 hi |>.1 rfl
      omega) (hd.erase n)
    have := List.length_erase_le (a := n) (l := ks)
    by_cases hm : n ∈ ks
    · have := List.length_erase_of_mem hm; omega
    · rw [List.erase_of_not_mem hm] at h1; omega
/-- The search in the program's drains. -/
theorem search_eq {n : Net} {l : List Left} (hn : Net0 n) (h : FlowL n l) {s t : Int} (hs : 0 ≤ s ∧ s < n.nodes) (hst : s ≠ t) :
    (∃ ks : List Nat, ks ≠ [] ∧ ks.length ≤ 1000 ∧ drain_search l s t = some (ints ks) ∧ SP (Eds l) [] s ks t) ∨ (drain_search l s t = some [] ∧ ∃ S : Int → Bool, S s = true ∧ S t = false ∧ Closed S (Eds l) ∧ ∀ v, S v = true → Reach (Eds l) s v) := by
  have h8 := hn.n8
  have h2 := hn.n2
  have hlen : (Eds l).length ≤ 16 := by
    have := congrArg List.length h.drains
    have h3 := hn.len
    unfold Eds; simp at this ⊢; omega
  rcases search_spec (K := FU) h.flow.dom (caps_room h.caps) (by omega) (show 0 ≤ s ∧ s < ((n.nodes.toNat : Nat) : Int) by omega) hst (flowL_ne hn h) (by have := FU_pos; omega) with ⟨ks, k1, k2, k3⟩ | ⟨S, k1, k2, k3, k4, k5⟩
  · refine .inl ⟨ks, k1, ?_, ?_, k3⟩
    · have ⟨q1, q2⟩ := sp_len ks [] s t k3
      have := nodup_len _ ks q1 q2
      omega
    · unfold drain_search
      have k2' : dfs (l.map toEd) t FU s [] [] = some (.inr (ints ks)) := k2
      rw [gd_pos hst, k2']
      exact gd_pos (by unfold ints; simpa using k1)
  · refine .inr ⟨?_, sees S, k2, k3, k4, k5⟩
    unfold drain_search
    have k1' : dfs (l.map toEd) t FU s [] [] = some (.inl S) := k1
    rw [gd_pos hst, k1']
def Maxed (n : Net) (l : List Left) : Prop := FlowL n l ∧ ∃ S : Int → Bool, S n.from_ = true ∧ S n.to_ = false ∧ Closed S (Eds l) ∧ ∀ v, S v = true → Reach (Eds l) n.from_ v
theorem run_L3 {n : Net} (hn : Net0 n) : ∀ (q : Nat) (l : List Left) (k : Nat), FlowL n l → cutW (fun v => decide (v = n.from_)) (Eds l) - out (Eds l) n.from_ ≤ q → q < k → ∃ l', drain_run_L3 n k l = some l' ∧ Maxed n l' := by
  intro q
  induction q with
  | zero =>
    intro l k h hq hk
    obtain ⟨k, rfl⟩ : ∃ k', k = k' + 1 := ⟨k - 1, by omega⟩
    rcases search_eq hn h (s := n.from_) (t := n.to_) hn.s0 hn.ne with ⟨ks, k1, k2, k3, k4⟩ | ⟨k1, S, k2⟩
    · exfalso
      obtain ⟨m1, _, m3⟩ := minRoom_spec ks [] n.from_ n.to_ (-1) k4 (.inr ⟨by omega, k1⟩)
      obtain ⟨f1, f2, f3⟩ := aug_flow h.flow (Int.le_of_lt m1) hn.ne k4 m3
      have hw := weak f1 (show 0 ≤ n.from_ ∧ n.from_ < ((n.nodes.toNat : Nat) : Int) by have := hn.s0; omega) (S := fun v => decide (v = n.from_)) (by simp) (by have := hn.ne; simp; omega)
      rw [f2, alike_cut _ f3] at hw
      omega
    · refine ⟨l, ?_, h, S, k2⟩
      show drain_run_B3 n (drain_run_L3 n k) l = _
      unfold drain_run_B3
      rw [bnd_eq k1, if_pos rfl]
  | succ q ih =>
    intro l k h hq hk
    obtain ⟨k, rfl⟩ : ∃ k', k = k' + 1 := ⟨k - 1, by omega⟩
    rcases search_eq hn h (s := n.from_) (t := n.to_) hn.s0 hn.ne with ⟨ks, k1, k2, k3, k4⟩ | ⟨k1, S, k2⟩
    · obtain ⟨m1, _, m3⟩ := minRoom_spec ks [] n.from_ n.to_ (-1) k4 (.inr ⟨by omega, k1⟩)
      obtain ⟨f1, f2, f3⟩ := aug_flow h.flow (Int.le_of_lt m1) hn.ne k4 m3
      have hm1000 : minRoom (Eds l) n.from_ (-1) ks ≤ 1000 := by
        cases ks with
        | nil => exact absurd rfl k1
        | cons i r =>
          obtain ⟨e, he, hmr, _⟩ := m3
          obtain ⟨d, hd, rfl⟩ := eds_at he
          have := h.caps d (List.mem_of_getElem? hd)
          have : room (toEd d) n.from_ ≤ 1000 := by
            unfold room; split
            · show d.drain.width - d.runs ≤ 1000; omega
            · show d.runs ≤ 1000; omega
          omega
      have hcaps : Caps (augL (minRoom (Eds l) n.from_ (-1) ks) l n.from_ ks) := fun d hd => by
        have he : toEd d ∈ aug (minRoom (Eds l) n.from_ (-1) ks) (Eds l) n.from_ ks := by rw [← augL_ed]; exact List.mem_map_of_mem hd
        have hc := f1.cap _ he
        have hdm : d.drain ∈ n.drains := by rw [← h.drains, ← augL_drains (m := minRoom (Eds l) n.from_ (-1) ks) ks l n.from_]; exact List.mem_map_of_mem hd
        have := hn.dr _ hdm
        exact ⟨hc.1, hc.2, this.2.2.2.2⟩
      have hf' : FlowL n (augL (minRoom (Eds l) n.from_ (-1) ks) l n.from_ ks) := ⟨by rw [augL_drains]; exact h.drains, by rw [augL_ed]; exact f1, hcaps⟩
      obtain ⟨l', l1, l2⟩ := ih (augL (minRoom (Eds l) n.from_ (-1) ks) l n.from_ ks) k hf' (by rw [augL_ed, f2, alike_cut _ f3]; omega) (by omega)
      refine ⟨l', ?_, l2⟩
      rw [← l1]
      show drain_run_B3 n (drain_run_L3 n k) l = _
      unfold drain_run_B3
      rw [bnd_eq k3, if_neg (by unfold ints; simpa using k1)]
      have e1 := run_L2 (n := n) h.caps (drain_run_L3 n k) k2 ks [] [] n.from_ n.to_ (-1) FU rfl k4 (by have := FU_pos; omega)
      have e2 := run_L1 (drain_run_L3 n k) k2 (m := minRoom (Eds l) n.from_ (-1) ks) ⟨by omega, hm1000⟩ ks [] [] n.from_ n.to_ l FU rfl h.caps k4 m3 (by have := FU_pos; omega)
      refine Eq.trans e1 ?_
      unfold drain_run_k2
      exact e2
    · refine ⟨l, ?_, h, S, k2⟩
      show drain_run_B3 n (drain_run_L3 n k) l = _
      unfold drain_run_B3
      rw [bnd_eq k1, if_pos rfl]
def start (n : Net) : List Left := n.drains.map fun d => ⟨d, 0⟩
theorem out_zero (v : Int) : ∀ l : List Drain, out (Eds (l.map fun d => ⟨d, 0⟩)) v = 0
  | [] => rfl
  | d :: r => by
    have := out_zero v r
    unfold Eds at this ⊢
    simp only [List.map_cons, out, this]
    show ((if d.from_ = v then (0 : Int) else 0) - (if d.to_ = v then 0 else 0)) + 0 = 0
    split <;> split <;> rfl
theorem start_flow {n : Net} (hn : Net0 n) : FlowL n (start n) := by
  have h2 := hn.n2
  refine ⟨by unfold start; rw [List.map_map]; exact List.map_id _, ⟨fun e he => ?_, fun e he => ?_, fun v _ _ _ _ => out_zero v _⟩, fun d hd => ?_⟩
  · obtain ⟨x, hx, rfl⟩ := List.mem_map.1 he
    obtain ⟨d, hd, rfl⟩ := List.mem_map.1 hx
    have := hn.dr d hd
    refine ⟨⟨this.1.1, ?_⟩, this.2.1.1, ?_⟩
    · show d.from_ < _; omega
    · show d.to_ < _; omega
  · obtain ⟨x, hx, rfl⟩ := List.mem_map.1 he
    obtain ⟨d, hd, rfl⟩ := List.mem_map.1 hx
    have := hn.dr d hd
    exact ⟨Int.le_refl _, this.2.2.2.1⟩
  · obtain ⟨x, hx, rfl⟩ := List.mem_map.1 hd
    have := hn.dr x hx
    exact ⟨Int.le_refl _, this.2.2.2.1, this.2.2.2.2⟩
theorem cut_bnd (S : Int → Bool) : ∀ (l : List Left), (∀ d ∈ l, 0 ≤ d.drain.width ∧ d.drain.width ≤ 1000) → 0 ≤ cutW S (Eds l) ∧ cutW S (Eds l) ≤ 1000 * (l.length : Int)
  | [], _ => ⟨Int.le_refl _, Int.le_refl _⟩
  | d :: r, h => by
    have ih := cut_bnd S r (fun x hx => h x (List.mem_cons_of_mem _ hx))
    have := h d (List.mem_cons_self ..)
    have e : cutW S (Eds (d :: r)) = (if S d.drain.from_ = true ∧ S d.drain.to_ = false then d.drain.width else 0) + cutW S (Eds r) := rfl
    rw [e, List.length_cons]
    split <;> omega
theorem run_eq {n : Net} (hn : Net0 n) : ∃ l, drain_run n = some l ∧ Maxed n l := by
  have hlen := hn.len
  have hf := start_flow hn
  have hb := cut_bnd (fun v => decide (v = n.from_)) (start n) (fun d hd => by have := hf.caps d hd; omega)
  have hsl : (start n).length = n.drains.length := by unfold start; simp
  obtain ⟨l, l1, l2⟩ := run_L3 hn 16000 (start n) FU hf (by unfold start; rw [out_zero]; have := hb.2; unfold start at this; simp only [List.length_map] at this; omega) (by have := FU_pos; omega)
  refine ⟨l, ?_, l2⟩
  unfold drain_run
  refine Eq.trans (for0 n.drains.length (fun i => (start n).take i) (fun k s i => drain_run_L4 n k i s) (some l) rfl (fun k i hi => ?_) (fun k => ?_) (by omega)) rfl
  · have hx : n.drains[i]? = some n.drains[i] := by simp [hi]
    have hs : (start n)[i]? = some ⟨n.drains[i], 0⟩ := by unfold start; rw [List.getElem?_map, hx]; rfl
    show drain_run_B4 n (drain_run_L4 n k) _ _ = _
    unfold drain_run_B4
    rw [if_pos (by omega), ix_nat hx, gd_pos (by simp; omega), gd_pos (by omega), List.take_add_one, hs]; rfl
  · show drain_run_B4 n (drain_run_L4 n k) _ _ = _
    unfold drain_run_B4
    rw [if_neg (by omega)]
    unfold drain_run_k5
    rw [List.take_of_length_le (by omega)]; exact l1
end Go.D2

set_option linter.unusedVariables false
set_option linter.unusedSimpArgs false
namespace Go.D2
open Go.Tb
def En (n : Net) (fl : List Int) : List Ed := List.zipWith (fun d f => (⟨d.from_, d.to_, d.width, f⟩ : Ed)) n.drains fl
theorem en_at {n : Net} {fl : List Int} {i : Nat} {d : Drain} {f : Int} (h1 : n.drains[i]? = some d) (h2 : fl[i]? = some f) : (En n fl)[i]? = some ⟨d.from_, d.to_, d.width, f⟩ := by
  unfold En
  rw [List.getElem?_zipWith, h1, h2]
theorem en_len {n : Net} {fl : List Int} (h : fl.length = n.drains.length) : (En n fl).length = n.drains.length := by unfold En; simp; omega
theorem eds_en : ∀ (l : List Left), Eds l = List.zipWith (fun d f => (⟨d.from_, d.to_, d.width, f⟩ : Ed)) (l.map Left.drain) (l.map Left.runs)
  | [] => rfl
  | d :: r => by
    have := eds_en r
    unfold Eds at this ⊢
    simp only [List.map_cons, List.zipWith_cons_cons, this]; rfl
theorem flowL_en {n : Net} {l : List Left} (h : l.map Left.drain = n.drains) : Eds l = En n (l.map Left.runs) := by
  rw [eds_en, h]; rfl
theorem flowOf_eq {l : List Left} (hl : l.length ≤ 1000) : drain_flowOf l = some (l.map Left.runs) := by
  unfold drain_flowOf
  refine Eq.trans (for0 l.length (fun i => (l.map Left.runs).take i) (fun n s i => drain_flowOf_L1 l n i s) (some (l.map Left.runs)) rfl (fun n i hi => ?_) (fun n => ?_) (by omega)) rfl
  · have hx : l[i]? = some l[i] := by simp [hi]
    have hs : (l.map Left.runs)[i]? = some l[i].runs := by rw [List.getElem?_map, hx]; rfl
    show drain_flowOf_B1 l (drain_flowOf_L1 l n) _ _ = _
    unfold drain_flowOf_B1
    rw [if_pos (by omega), ix_nat hx, gd_pos (by simp; omega), gd_pos (by omega), List.take_add_one, hs]; rfl
  · show drain_flowOf_B1 l (drain_flowOf_L1 l n) _ _ = _
    unfold drain_flowOf_B1
    rw [if_neg (by omega)]
    unfold drain_flowOf_k1
    rw [List.take_of_length_le (by simp)]
theorem out_take {e : Ed} (v : Int) : ∀ {E : List Ed} {i : Nat}, E[i]? = some e → out (E.take (i + 1)) v = out (E.take i) v + con1 e v
  | [], i, h => by simp at h
  | x :: r, 0, h => by simp at h; subst h; simp [out, con1]
  | x :: r, i + 1, h => by
    have := out_take (e := e) v (E := r) (i := i) (by simpa using h)
    simp only [List.take_succ_cons, out_cons, this]; omega
theorem out_bnd {M : Int} (hM : 0 ≤ M) (v : Int) : ∀ E : List Ed, (∀ e ∈ E, -M ≤ e.f ∧ e.f ≤ M) → -(2 * M) * (E.length : Int) ≤ out E v ∧ out E v ≤ 2 * M * (E.length : Int)
  | [], _ => by simp [out]
  | e :: r, h => by
    have ih := out_bnd hM v r (fun x hx => h x (List.mem_cons_of_mem _ hx))
    have he := h e (List.mem_cons_self ..)
    have e1 : ((List.length (e :: r) : Nat) : Int) = (r.length : Int) + 1 := by simp
    rw [out_cons, e1, Int.mul_add, Int.mul_add]
    have : -(2 * M) ≤ con1 e v ∧ con1 e v ≤ 2 * M := by
      unfold con1
      split <;> split <;> omega
    omega
def FBnd (fl : List Int) : Prop := ∀ x ∈ fl, -1000000 ≤ x ∧ x ≤ 1000000
theorem en_bnd {n : Net} {fl : List Int} (h : FBnd fl) : ∀ e ∈ En n fl, -1000000 ≤ e.f ∧ e.f ≤ 1000000 := fun e he => by
  obtain ⟨i, hi⟩ := List.getElem?_of_mem he
  unfold En at hi
  rw [List.getElem?_zipWith] at hi
  cases h1 : n.drains[i]? with
  | none => rw [h1] at hi; cases hi
  | some d =>
    cases h2 : fl[i]? with
    | none => rw [h1, h2] at hi; cases hi
    | some f =>
      rw [h1, h2] at hi; cases hi
      exact h f (List.mem_of_getElem? h2)
theorem part_bnd {n : Net} {fl : List Int} (h : FBnd fl) (hl : n.drains.length ≤ 1000) (v : Int) (i : Nat) : -2000000000 ≤ out ((En n fl).take i) v ∧ out ((En n fl).take i) v ≤ 2000000000 := by
  have := out_bnd (M := 1000000) (by omega) v ((En n fl).take i) (fun e he => en_bnd h e (List.mem_of_mem_take he))
  have h2 : ((En n fl).take i).length ≤ 1000 := by
    rw [List.length_take]
    have : (En n fl).length ≤ n.drains.length := by unfold En; simp; omega
    omega
  omega
theorem value_eq {n : Net} {fl : List Int} (hf : fl.length = n.drains.length) (hl : n.drains.length ≤ 1000) (hb : FBnd fl) (v : Int) : drain_value n fl v = some (out (En n fl) v) := by
  have hE := en_len hf
  unfold drain_value
  refine Eq.trans (for0 n.drains.length (fun i => out ((En n fl).take i) v) (fun k s i => drain_value_L1 n fl v k s i) (some (out (En n fl) v)) rfl (fun k i hi => ?_) (fun k => ?_) (by omega)) rfl
  · have hx : n.drains[i]? = some n.drains[i] := by simp [hi]
    have hy : fl[i]? = some (fl[i]'(by omega)) := List.getElem?_eq_getElem _
    have he := out_take v (en_at hx hy)
    have b1 := part_bnd hb hl v i
    have b2 := hb _ (List.mem_of_getElem? hy)
    show drain_value_B1 n fl v (drain_value_L1 n fl v k) _ _ = _
    unfold drain_value_B1 drain_value_k3 drain_value_k2
    rw [if_pos (by omega), ix_nat hx, he]
    unfold con1
    simp only
    by_cases h1 : n.drains[i].from_ = v
    · rw [if_pos h1, ix_nat hy, gd_pos (by omega), if_pos h1]
      by_cases h2 : n.drains[i].to_ = v
      · rw [if_pos h2, ix_nat hy, gd_pos (by omega), gd_pos (by omega), if_pos h2]
        congr 1; omega
      · rw [if_neg h2, gd_pos (by omega), if_neg h2]
        congr 1; omega
    · rw [if_neg h1, if_neg h1]
      by_cases h2 : n.drains[i].to_ = v
      · rw [if_pos h2, ix_nat hy, gd_pos (by omega), gd_pos (by omega), if_pos h2]
        congr 1; omega
      · rw [if_neg h2, gd_pos (by omega), if_neg h2]
        congr 1; omega
  · show drain_value_B1 n fl v (drain_value_L1 n fl v k) _ _ = _
    unfold drain_value_B1
    rw [if_neg (by omega)]
    unfold drain_value_k1
    rw [List.take_of_length_le (by omega)]
theorem rvalue_eq {n : Net} {fl : List Int} (hf : fl.length = n.drains.length) (hl : n.drains.length ≤ 1000) (hb : FBnd fl) (v : Int) : ref02_value n fl v = some (out (En n fl) v) := by
  have hE := en_len hf
  unfold ref02_value
  refine Eq.trans (for0 n.drains.length (fun i => out ((En n fl).take i) v) (fun k s i => ref02_value_L1 n fl v k s i) (some (out (En n fl) v)) rfl (fun k i hi => ?_) (fun k => ?_) (by omega)) rfl
  · have hx : n.drains[i]? = some n.drains[i] := by simp [hi]
    have hy : fl[i]? = some (fl[i]'(by omega)) := List.getElem?_eq_getElem _
    have he := out_take v (en_at hx hy)
    have b1 := part_bnd hb hl v i
    have b2 := hb _ (List.mem_of_getElem? hy)
    show ref02_value_B1 n fl v (ref02_value_L1 n fl v k) _ _ = _
    unfold ref02_value_B1 ref02_value_k3 ref02_value_k2
    rw [if_pos (by omega), ix_nat hx, he]
    unfold con1
    simp only
    by_cases h1 : n.drains[i].from_ = v
    · rw [if_pos h1, ix_nat hy, gd_pos (by omega), ix_nat hx, if_pos h1]
      by_cases h2 : n.drains[i].to_ = v
      · rw [if_pos h2, ix_nat hy, gd_pos (by omega), gd_pos (by omega), if_pos h2]
        congr 1; omega
      · rw [if_neg h2, gd_pos (by omega), if_neg h2]
        congr 1; omega
    · rw [if_neg h1, ix_nat hx, if_neg h1]
      by_cases h2 : n.drains[i].to_ = v
      · rw [if_pos h2, ix_nat hy, gd_pos (by omega), gd_pos (by omega), if_pos h2]
        congr 1; omega
      · rw [if_neg h2, gd_pos (by omega), if_neg h2]
        congr 1; omega
  · show ref02_value_B1 n fl v (ref02_value_L1 n fl v k) _ _ = _
    unfold ref02_value_B1
    rw [if_neg (by omega)]
    unfold ref02_value_k1
    rw [List.take_of_length_le (by omega)]
def inS (m : Nat) (v : Int) : Bool := m.testBit v.toNat
theorem in_eq {m : Nat} {v : Int} (hm : m < 9223372036854775808) (hv : 0 ≤ v ∧ v ≤ 60) : ref02_in (m : Int) v = some (inS m v) := by
  have hw : IntKind.u64.wrap v = v := IntWalk.u64_in _ (by omega)
  have hs : shrI (m : Int) v = ((m / 2 ^ v.toNat : Nat) : Int) := by
    unfold shrI
    rw [show min v.toNat 64 = v.toNat by omega, Int.fdiv_eq_ediv_of_nonneg _ (by exact Int.le_of_lt (Int.pow_pos (by decide)))]
    norm_cast
  have hle : m / 2 ^ v.toNat ≤ m := Nat.div_le_self _ _
  have hnn : NN ((m / 2 ^ v.toNat : Nat) : Int) := by
    generalize m / 2 ^ v.toNat = q at hle ⊢
    omega
  unfold ref02_in
  rw [hw, gd_pos hv.1, hs, gd_pos ⟨hnn, by decide⟩]
  congr 1
  unfold inS bitAnd
  rw [Nat.testBit_eq_decide_div_mod_eq]
  have : ((((m / 2 ^ v.toNat : Nat) : Int).toNat &&& (1 : Int).toNat : Nat) : Int) = ((m / 2 ^ v.toNat % 2 : Nat) : Int) := by
    rw [show (1 : Int).toNat = 1 from rfl, Nat.and_one_is_mod, Int.toNat_natCast]
  rw [this]
  by_cases h : m / 2 ^ v.toNat % 2 = 1
  · rw [decide_eq_true (by omega), decide_eq_true h]
  · rw [decide_eq_false (by omega), decide_eq_false h]
theorem set_of : ∀ (k : Nat) (S : Nat → Bool), ∃ m, m < 2 ^ k ∧ ∀ v, v < k → m.testBit v = S v
  | 0, S => ⟨0, by decide, fun v hv => by omega⟩
  | k + 1, S => by
    obtain ⟨m, h1, h2⟩ := set_of k (fun v => S (v + 1))
    refine ⟨2 * m + (S 0).toNat, ?_, fun v hv => ?_⟩
    · rw [Nat.pow_succ]
      have : (S 0).toNat ≤ 1 := Bool.toNat_le _
      omega
    · cases v with
      | zero =>
        rw [Nat.testBit_zero]
        cases S 0 <;> simp
      | succ v =>
        rw [Nat.testBit_succ]
        have : (2 * m + (S 0).toNat) / 2 = m := by
          have : (S 0).toNat ≤ 1 := Bool.toNat_le _
          omega
        rw [this]; exact h2 v (by omega)
def cutD (S : Int → Bool) : List Drain → Int
  | [] => 0
  | d :: r => (if S d.from_ = true ∧ S d.to_ = false then d.width else 0) + cutD S r
theorem cutW_eds (S : Int → Bool) : ∀ l : List Left, cutW S (Eds l) = cutD S (l.map Left.drain)
  | [] => rfl
  | d :: r => by
    have := cutW_eds S r
    have e : cutW S (Eds (d :: r)) = (if S d.drain.from_ = true ∧ S d.drain.to_ = false then d.drain.width else 0) + cutW S (Eds r) := rfl
    rw [e, this]; rfl
theorem cutD_congr {S T : Int → Bool} : ∀ l : List Drain, (∀ d ∈ l, S d.from_ = T d.from_ ∧ S d.to_ = T d.to_) → cutD S l = cutD T l
  | [], _ => rfl
  | d :: r, h => by
    have := h d (List.mem_cons_self ..)
    simp only [cutD, this.1, this.2, cutD_congr r (fun x hx => h x (List.mem_cons_of_mem _ hx))]
theorem cutD_bnd (S : Int → Bool) : ∀ l : List Drain, (∀ d ∈ l, 0 ≤ d.width ∧ d.width ≤ 1000) → 0 ≤ cutD S l ∧ cutD S l ≤ 1000 * (l.length : Int)
  | [], _ => ⟨Int.le_refl _, Int.le_refl _⟩
  | d :: r, h => by
    have ih := cutD_bnd S r (fun x hx => h x (List.mem_cons_of_mem _ hx))
    have := h d (List.mem_cons_self ..)
    simp only [cutD, List.length_cons]
    split <;> omega
theorem cutD_take {S : Int → Bool} {d : Drain} : ∀ {l : List Drain} {i : Nat}, l[i]? = some d → cutD S (l.take (i + 1)) = cutD S (l.take i) + (if S d.from_ = true ∧ S d.to_ = false then d.width else 0)
  | [], i, h => by simp at h
  | x :: r, 0, h => by simp at h; subst h; simp [cutD]
  | x :: r, i + 1, h => by
    have := cutD_take (S := S) (d := d) (l := r) (i := i) (by simpa using h)
    simp only [List.take_succ_cons, cutD, this]; omega
theorem width_eq {n : Net} (hn : Net0 n) {m : Nat} (hm : m < 9223372036854775808) : ref02_width n (m : Int) = some (cutD (inS m) n.drains) := by
  have hl := hn.len
  have h8 := hn.n8
  unfold ref02_width
  refine Eq.trans (for0 n.drains.length (fun i => cutD (inS m) (n.drains.take i)) (fun k s i => ref02_width_L1 n m k s i) (some (cutD (inS m) n.drains)) rfl (fun k i hi => ?_) (fun k => ?_) (by omega)) rfl
  · have hx : n.drains[i]? = some n.drains[i] := by simp [hi]
    have hd := hn.dr _ (List.getElem_mem hi)
    have hb := cutD_bnd (inS m) (n.drains.take i) (fun d hd => by have := hn.dr d (List.mem_of_mem_take hd); omega)
    have hlt : (n.drains.take i).length ≤ 16 := by rw [List.length_take]; omega
    show ref02_width_B1 n m (ref02_width_L1 n m k) _ _ = _
    unfold ref02_width_B1
    rw [if_pos (by omega), ix_nat hx, bnd_eq (in_eq hm (by omega)), cutD_take hx]
    unfold ref02_width_k3 ref02_width_k2
    cases h1 : inS m n.drains[i].from_
    · rw [if_neg (by simp), if_neg (by simp), gd_pos (by omega), if_neg (by simp), Int.add_zero]; rfl
    · rw [if_pos rfl, bnd_eq (in_eq hm (by omega))]
      cases h2 : inS m n.drains[i].to_
      · rw [if_pos (by rfl), gd_pos (by omega), gd_pos (by omega), if_pos ⟨rfl, rfl⟩]; rfl
      · rw [if_neg (by simp), gd_pos (by omega), if_neg (by simp), Int.add_zero]; rfl
  · show ref02_width_B1 n m (ref02_width_L1 n m k) _ _ = _
    unfold ref02_width_B1
    rw [if_neg (by omega)]
    unfold ref02_width_k1
    rw [List.take_length]
def cutB (n : Net) (m : Nat) : Bool := inS m n.from_ && !inS m n.to_
theorem isCut_eq {n : Net} (hn : Net0 n) {m : Nat} (hm : m < 9223372036854775808) : ref02_isCut n (m : Int) = some (cutB n m) := by
  have h8 := hn.n8
  have hs := hn.s0
  have ht := hn.t0
  unfold ref02_isCut cutB
  rw [bnd_eq (in_eq hm (by omega))]
  cases inS m n.from_
  · rfl
  · rw [if_pos rfl, bnd_eq (in_eq hm (by omega))]; rfl
def bestC (n : Net) : Nat → Int
  | 0 => -1
  | i + 1 => if cutB n i = true then (if bestC n i < 0 ∨ cutD (inS i) n.drains < bestC n i then cutD (inS i) n.drains else bestC n i) else bestC n i
theorem bestC_spec {n : Net} (hn : Net0 n) : ∀ i, ((∀ j, j < i → cutB n j = false) ∧ bestC n i = -1) ∨ (0 ≤ bestC n i ∧ (∀ j, j < i → cutB n j = true → bestC n i ≤ cutD (inS j) n.drains) ∧ ∃ j, j < i ∧ cutB n j = true ∧ cutD (inS j) n.drains = bestC n i)
  | 0 => .inl ⟨fun j hj => by omega, rfl⟩
  | i + 1 => by
    have ih := bestC_spec hn i
    have hb := (cutD_bnd (inS i) n.drains (fun d hd => by have := hn.dr d hd; omega)).1
    simp only [bestC]
    by_cases hc : cutB n i = true
    · rw [if_pos hc]
      refine .inr ?_
      rcases ih with ⟨h1, h2⟩ | ⟨h1, h2, j, h3, h4, h5⟩
      · rw [if_pos (.inl (by omega))]
        refine ⟨hb, fun j hj hcj => ?_, i, by omega, hc, rfl⟩
        by_cases hji : j = i
        · subst hji; exact Int.le_refl _
        · rw [h1 j (by omega)] at hcj; cases hcj
      · by_cases hlt : cutD (inS i) n.drains < bestC n i
        · rw [if_pos (.inr hlt)]
          refine ⟨hb, fun j hj hcj => ?_, i, by omega, hc, rfl⟩
          by_cases hji : j = i
          · subst hji; exact Int.le_refl _
          · have := h2 j (by omega) hcj; omega
        · rw [if_neg (by omega)]
          refine ⟨h1, fun j hj hcj => ?_, j, by omega, h4, h5⟩
          by_cases hji : j = i
          · subst hji; omega
          · exact h2 j (by omega) hcj
    · rw [if_neg hc]
      rcases ih with ⟨h1, h2⟩ | ⟨h1, h2, j, h3, h4, h5⟩
      · refine .inl ⟨fun j hj => ?_, h2⟩
        by_cases hji : j = i
        · subst hji; simpa using hc
        · exact h1 j (by omega)
      · refine .inr ⟨h1, fun j hj hcj => ?_, j, by omega, h4, h5⟩
        by_cases hji : j = i
        · subst hji; exact absurd hcj hc
        · exact h2 j (by omega) hcj
def mostN (n : Net) : Int := bestC n (2 ^ n.nodes.toNat)
/-- A set as a number, and its width. -/
theorem cut_num {n : Net} (hn : Net0 n) (S : Int → Bool) : ∃ m, m < 2 ^ n.nodes.toNat ∧ (∀ v : Int, 0 ≤ v → v < n.nodes → inS m v = S v) ∧ cutD (inS m) n.drains = cutD S n.drains := by
  obtain ⟨m, h1, h2⟩ := set_of n.nodes.toNat (fun v => S (v : Int))
  have key : ∀ v : Int, 0 ≤ v → v < n.nodes → inS m v = S v := fun v v0 v1 => by
    unfold inS
    rw [h2 v.toNat (by omega), show ((v.toNat : Nat) : Int) = v by omega]
  exact ⟨m, h1, key, cutD_congr _ fun d hd => by have := hn.dr d hd; exact ⟨key _ this.1.1 this.1.2, key _ this.2.1.1 this.2.1.2⟩⟩
theorem most_le {n : Net} (hn : Net0 n) {S : Int → Bool} (h1 : S n.from_ = true) (h2 : S n.to_ = false) : mostN n ≤ cutD S n.drains := by
  obtain ⟨m, m1, m2, m3⟩ := cut_num hn S
  have hc : cutB n m = true := by
    unfold cutB
    rw [m2 _ hn.s0.1 hn.s0.2, m2 _ hn.t0.1 hn.t0.2, h1, h2]; rfl
  rcases bestC_spec hn (2 ^ n.nodes.toNat) with ⟨h3, _⟩ | ⟨_, h3, _⟩
  · rw [h3 m m1] at hc; cases hc
  · have := h3 m m1 hc
    rw [m3] at this; exact this
theorem most_at {n : Net} (hn : Net0 n) : ∃ S : Int → Bool, S n.from_ = true ∧ S n.to_ = false ∧ cutD S n.drains = mostN n := by
  obtain ⟨m, m1, m2, m3⟩ := cut_num hn (fun v => decide (v = n.from_))
  have hne := hn.ne
  have hc : cutB n m = true := by
    unfold cutB
    rw [m2 _ hn.s0.1 hn.s0.2, m2 _ hn.t0.1 hn.t0.2]; simp; omega
  rcases bestC_spec hn (2 ^ n.nodes.toNat) with ⟨h3, _⟩ | ⟨_, _, j, j1, j2, j3⟩
  · rw [h3 m m1] at hc; cases hc
  · unfold cutB at j2
    simp only [Bool.and_eq_true, Bool.not_eq_true'] at j2
    exact ⟨inS j, j2.1, j2.2, j3⟩
theorem maxed_val {n : Net} (hn : Net0 n) {l : List Left} (h : Maxed n l) : out (Eds l) n.from_ = mostN n := by
  obtain ⟨hf, S, s1, s2, s3, _⟩ := h
  have hs : 0 ≤ n.from_ ∧ n.from_ < ((n.nodes.toNat : Nat) : Int) := by have := hn.s0; omega
  have h1 : out (Eds l) n.from_ = cutW S (Eds l) := (tight_iff hf.flow hs s1 s2).2 ((closed_tight hf.flow.cap).1 s3)
  rw [cutW_eds, hf.drains] at h1
  have h2 := most_le hn s1 s2
  obtain ⟨T, t1, t2, t3⟩ := most_at hn
  have h3 := weak hf.flow hs t1 t2
  rw [cutW_eds, hf.drains, t3] at h3
  omega
theorem maxed_len {n : Net} {l : List Left} (h : Maxed n l) : l.length = n.drains.length := by
  have := congrArg List.length h.1.drains
  simpa using this
end Go.D2

set_option linter.unusedVariables false
set_option linter.unusedSimpArgs false
namespace Go.D2
open Go.Tb
def gi (l : List Int) (i : Nat) : Int := l.getD i 0
theorem gi_at {l : List Int} {i : Nat} (h : i < l.length) : l[i]? = some (gi l i) := by simp [gi, List.getD, h]
theorem gi_of {l : List Int} {i : Nat} {x : Int} (h : l[i]? = some x) : gi l i = x := by simp [gi, List.getD, h]
def gd_ (l : List Drain) (i : Nat) : Drain := l.getD i ⟨0, 0, 0⟩
theorem gd_at {l : List Drain} {i : Nat} (h : i < l.length) : l[i]? = some (gd_ l i) := by simp [gd_, List.getD, h]
def capsB (n : Net) (fl : List Int) : Bool := decide (∀ i, i < fl.length → within (gi fl i) 0 (gd_ n.drains i).width = true)
def conB (n : Net) (fl : List Int) : Bool := decide (∀ v, v < n.nodes.toNat → (decide ((v : Int) = n.from_) || decide ((v : Int) = n.to_) || decide (out (En n fl) v = 0)) = true)
def checkR (n : Net) (fl : List Int) : Int × Int :=
  if validate n = 0 then (if fl.length = n.drains.length then (if capsB n fl = true then (if conB n fl = true then (out (En n fl) n.from_, 0) else (0, 7)) else (0, 6)) else (0, 1)) else (0, validate n)
theorem caps_fbnd {n : Net} (hn : NetOk n) {fl : List Int} (hl : fl.length = n.drains.length) (h : capsB n fl = true) : ∀ x ∈ fl, 0 ≤ x ∧ x ≤ 20 := fun x hx => by
  obtain ⟨i, hi⟩ := List.getElem?_of_mem hx
  have hlt := lt_at hi
  have := within_iff.1 (of_decide_eq_true h i hlt)
  rw [gi_of hi] at this
  have hd := hn.w20 _ (List.mem_of_getElem? (gd_at (l := n.drains) (i := i) (by omega)))
  omega
theorem con_loop {R : Type} {n : Net} (hn : Net0 n) (fl : List Int) (L : Nat → Int → Option R) (yes no : Option R)
    (step : ∀ k v : Nat, v < n.nodes.toNat → L (k + 1) (v : Int) = if (decide ((v : Int) = n.from_) || decide ((v : Int) = n.to_) || decide (out (En n fl) v = 0)) = true then L k ((v + 1 : Nat) : Int) else no)
    (stop : ∀ k : Nat, L (k + 1) (n.nodes.toNat : Int) = yes) : L FU 0 = if conB n fl = true then yes else no := by
  have h8 := hn.n8
  have h := scan_loop0 n.nodes.toNat (fun v => (decide ((v : Int) = n.from_) || decide ((v : Int) = n.to_) || decide (out (En n fl) v = 0))) (fun _ => ()) (fun k _ i => L k i) yes no step stop (by omega)
  refine Eq.trans h ?_
  unfold conB
  by_cases hc : ∀ v, v < n.nodes.toNat → (decide ((v : Int) = n.from_) || decide ((v : Int) = n.to_) || decide (out (En n fl) v = 0)) = true
  · rw [if_pos hc, decide_eq_true hc, if_pos rfl]
  · rw [if_neg hc, decide_eq_false hc, if_neg (by simp)]
theorem CheckFlow_eq {n : Net} (hl : n.drains.length ≤ 1000) {fl : List Int} (hf : fl.length ≤ 1000) : drain_CheckFlow n fl = some (checkR n fl) := by
  unfold drain_CheckFlow checkR
  rw [bnd_eq (Validate_eq hl)]
  by_cases hv : validate n = 0
  · have hn := val0.1 hv
    have h8 := hn.n8
    have h2 := hn.n2
    rw [if_pos hv, if_pos hv]
    by_cases hln : fl.length = n.drains.length
    · rw [if_pos (by omega), if_pos hln]
      have h := scan_loop0 fl.length (fun i => within (gi fl i) 0 (gd_ n.drains i).width) (fun _ => ()) (fun k _ i => drain_CheckFlow_L2 n fl k i) (drain_CheckFlow_k3 n fl) (some ((0 : Int), (6 : Int))) (fun k i hi => ?_) (fun k => ?_) (by omega)
      · refine Eq.trans h ?_
        unfold capsB
        by_cases hc : ∀ i, i < fl.length → within (gi fl i) 0 (gd_ n.drains i).width = true
        · have hcb : capsB n fl = true := decide_eq_true hc
          have hfb := caps_fbnd hn hln hcb
          have hfb' : FBnd fl := fun x hx => by have := hfb x hx; omega
          rw [if_pos hc, decide_eq_true hc, if_pos rfl]
          unfold drain_CheckFlow_k3
          rw [con_loop hn.toNet0 fl (drain_CheckFlow_L1 n fl) (some (out (En n fl) n.from_, 0)) (some ((0 : Int), (7 : Int))) (fun k v hv => ?_) (fun k => ?_)]
          · split <;> rfl
          · show drain_CheckFlow_B1 n fl (drain_CheckFlow_L1 n fl k) _ = _
            unfold drain_CheckFlow_B1 drain_CheckFlow_k2
            rw [if_pos (by omega)]
            by_cases h1 : (v : Int) = n.from_
            · rw [if_pos h1, if_neg (by simp), gd_pos (by omega), if_pos (by simp [h1])]; rfl
            · rw [if_neg h1]
              by_cases h3 : (v : Int) = n.to_
              · rw [if_pos h3, if_neg (by simp), gd_pos (by omega), if_pos (by simp [h3])]; rfl
              · rw [if_neg h3, bnd_eq (value_eq hln hl hfb' _)]
                by_cases h4 : out (En n fl) v = 0
                · rw [if_neg (by simp [h4]), gd_pos (by omega), if_pos (by simp [h4])]; rfl
                · rw [if_pos (by simp [h4]), if_neg (by simp [h1, h3, h4])]
          · show drain_CheckFlow_B1 n fl (drain_CheckFlow_L1 n fl k) _ = _
            unfold drain_CheckFlow_B1
            rw [if_neg (by omega)]
            unfold drain_CheckFlow_k1
            rw [bnd_eq (value_eq hln hl hfb' _)]
        · rw [if_neg hc, decide_eq_false hc, if_neg (by simp)]
      · show drain_CheckFlow_B2 n fl (drain_CheckFlow_L2 n fl k) _ = _
        unfold drain_CheckFlow_B2
        rw [if_pos (by omega), ix_nat (gi_at hi), ix_nat (gd_at (by omega)), bnd_eq (from_eq _ _ _)]
        by_cases hw : within (gi fl i) 0 (gd_ n.drains i).width = true
        · rw [if_pos hw, gd_pos (by omega), if_pos hw]; rfl
        · rw [if_neg hw, if_neg hw]
      · show drain_CheckFlow_B2 n fl (drain_CheckFlow_L2 n fl k) _ = _
        unfold drain_CheckFlow_B2
        rw [if_neg (by omega)]
    · rw [if_neg (by omega), if_neg hln]
  · rw [if_neg hv, if_neg hv]
theorem rCheckFlow_eq {n : Net} (hl : n.drains.length ≤ 1000) {fl : List Int} (hf : fl.length ≤ 1000) : ref02_CheckFlow n fl = some (checkR n fl) := by
  unfold ref02_CheckFlow checkR
  rw [bnd_eq (rValidate_eq hl)]
  by_cases hv : validate n = 0
  · have hn := val0.1 hv
    have h8 := hn.n8
    have h2 := hn.n2
    rw [if_pos hv, if_pos hv]
    by_cases hln : fl.length = n.drains.length
    · rw [if_pos (by omega), if_pos hln]
      have h := scan_loop0 fl.length (fun i => within (gi fl i) 0 (gd_ n.drains i).width) (fun _ => ()) (fun k _ i => ref02_CheckFlow_L2 n fl k i) (ref02_CheckFlow_k3 n fl) (some ((0 : Int), (6 : Int))) (fun k i hi => ?_) (fun k => ?_) (by omega)
      · refine Eq.trans h ?_
        unfold capsB
        by_cases hc : ∀ i, i < fl.length → within (gi fl i) 0 (gd_ n.drains i).width = true
        · have hcb : capsB n fl = true := decide_eq_true hc
          have hfb := caps_fbnd hn hln hcb
          have hfb' : FBnd fl := fun x hx => by have := hfb x hx; omega
          rw [if_pos hc, decide_eq_true hc, if_pos rfl]
          unfold ref02_CheckFlow_k3
          rw [con_loop hn.toNet0 fl (ref02_CheckFlow_L1 n fl) (some (out (En n fl) n.from_, 0)) (some ((0 : Int), (7 : Int))) (fun k v hv => ?_) (fun k => ?_)]
          · split <;> rfl
          · show ref02_CheckFlow_B1 n fl (ref02_CheckFlow_L1 n fl k) _ = _
            unfold ref02_CheckFlow_B1 ref02_CheckFlow_k2
            rw [if_pos (by omega)]
            by_cases h1 : (v : Int) = n.from_
            · rw [if_pos h1, if_neg (by simp), gd_pos (by omega), if_pos (by simp [h1])]; rfl
            · rw [if_neg h1]
              by_cases h3 : (v : Int) = n.to_
              · rw [if_pos h3, if_neg (by simp), gd_pos (by omega), if_pos (by simp [h3])]; rfl
              · rw [if_neg h3, bnd_eq (rvalue_eq hln hl hfb' _)]
                by_cases h4 : out (En n fl) v = 0
                · rw [if_neg (by simp [h4]), gd_pos (by omega), if_pos (by simp [h4])]; rfl
                · rw [if_pos (by simp [h4]), if_neg (by simp [h1, h3, h4])]
          · show ref02_CheckFlow_B1 n fl (ref02_CheckFlow_L1 n fl k) _ = _
            unfold ref02_CheckFlow_B1
            rw [if_neg (by omega)]
            unfold ref02_CheckFlow_k1
            rw [bnd_eq (rvalue_eq hln hl hfb' _)]
        · rw [if_neg hc, decide_eq_false hc, if_neg (by simp)]
      · show ref02_CheckFlow_B2 n fl (ref02_CheckFlow_L2 n fl k) _ = _
        unfold ref02_CheckFlow_B2
        rw [if_pos (by omega), ix_nat (gi_at hi), ix_nat (gd_at (by omega)), bnd_eq (within_eq _ _ _)]
        by_cases hw : within (gi fl i) 0 (gd_ n.drains i).width = true
        · rw [if_pos hw, gd_pos (by omega), if_pos hw]; rfl
        · rw [if_neg hw, if_neg hw]
      · show ref02_CheckFlow_B2 n fl (ref02_CheckFlow_L2 n fl k) _ = _
        unfold ref02_CheckFlow_B2
        rw [if_neg (by omega)]
    · rw [if_neg (by omega), if_neg hln]
  · rw [if_neg hv, if_neg hv]
theorem maxed_check {n : Net} (hn : NetOk n) {l : List Left} (h : Maxed n l) : checkR n (l.map Left.runs) = (mostN n, 0) := by
  have hll := maxed_len h
  have hE := flowL_en h.1.drains
  have hc : capsB n (l.map Left.runs) = true := decide_eq_true fun i hi => by
    have hi' : i < l.length := by simpa using hi
    have hx : l[i]? = some l[i] := by simp [hi']
    have h1 : (l.map Left.runs)[i]? = some l[i].runs := by rw [List.getElem?_map, hx]; rfl
    have h2 : n.drains[i]? = some l[i].drain := by rw [← h.1.drains, List.getElem?_map, hx]; rfl
    have h3 : gd_ n.drains i = l[i].drain := by simp [gd_, List.getD, h2]
    rw [gi_of h1, h3]
    have := h.1.caps l[i] (List.getElem_mem _)
    exact within_iff.2 ⟨this.1, this.2.1⟩
  have hcon : conB n (l.map Left.runs) = true := decide_eq_true fun v hv => by
    simp only [Bool.or_eq_true, decide_eq_true_eq]
    by_cases h1 : (v : Int) = n.from_
    · exact .inl (.inl h1)
    · by_cases h2 : (v : Int) = n.to_
      · exact .inl (.inr h2)
      · right
        rw [← hE]
        exact h.1.flow.con v (by omega) (by omega) h1 h2
  unfold checkR
  rw [if_pos (val0.2 hn), if_pos (by simpa using hll), if_pos hc, if_pos hcon, ← hE, maxed_val hn.toNet0 h]
/-- What Flow returns. -/
theorem Flow_eq {n : Net} (hl : n.drains.length ≤ 1000) : (NetOk n ∧ ∃ l, Maxed n l ∧ drain_run n = some l ∧ drain_Flow n = some (l.map Left.runs, 0)) ∨ (validate n ≠ 0 ∧ drain_Flow n = some ([], validate n)) := by
  unfold drain_Flow
  rw [bnd_eq (Validate_eq hl)]
  by_cases hv : validate n = 0
  · have hn := val0.1 hv
    obtain ⟨l, l1, l2⟩ := run_eq hn.toNet0
    have := maxed_len l2
    refine .inl ⟨hn, l, l2, l1, ?_⟩
    rw [if_pos hv, bnd_eq l1, bnd_eq (flowOf_eq (by omega))]
  · exact .inr ⟨hv, by rw [if_neg hv]⟩
theorem Long_eq (n : Net) : law02_Long n = some (decide ((100 : Int) < (n.drains.length : Int))) := rfl
end Go.D2

set_option linter.unusedVariables false
set_option linter.unusedSimpArgs false
namespace Go.D2
open Go.Tb
theorem index_eq {l : List Int} (x : Int) (hl : l.length ≤ 1000) : ∀ (suf pre : List Int) (k : Nat), l = pre ++ suf → suf.length < k → ∃ i : Int, slices_Index_int_L1 l x k (pre.length : Int) = some i ∧ (0 ≤ i ↔ x ∈ suf)
  | [], pre, k + 1, h, hk => by
    refine ⟨-1, ?_, by simp⟩
    show slices_Index_int_B1 l x (slices_Index_int_L1 l x k) _ = _
    unfold slices_Index_int_B1
    rw [if_neg (by rw [h]; simp)]; rfl
  | y :: r, pre, k + 1, h, hk => by
    have hy : l[pre.length]? = some y := by rw [h, List.getElem?_append_right (Nat.le_refl _)]; simp
    have := lt_of_at hy
    obtain ⟨i, h1, h2⟩ := index_eq x hl r (pre ++ [y]) k (by rw [h]; simp) (by simp at hk; omega)
    have e : slices_Index_int_L1 l x (k + 1) (pre.length : Int) = slices_Index_int_B1 l x (slices_Index_int_L1 l x k) (pre.length : Int) := rfl
    rw [e]
    unfold slices_Index_int_B1
    rw [if_pos (by omega), ix_nat hy]
    by_cases hxy : x = y
    · rw [if_pos hxy]
      exact ⟨_, rfl, by simp [hxy]⟩
    · rw [if_neg hxy, gd_pos (by omega)]
      rw [show (((pre ++ [y]).length : Nat) : Int) = (pre.length : Int) + 1 by simp] at h1
      exact ⟨i, h1, by rw [h2]; simp [hxy]⟩
def mem (l : List Int) (x : Int) : Bool := decide (x ∈ l)
theorem contains_eq {l : List Int} (x : Int) (hl : l.length ≤ 1000) : slices_Contains_int l x = some (mem l x) := by
  obtain ⟨i, h1, h2⟩ := index_eq x hl l [] FU rfl (by have := FU_pos; omega)
  unfold slices_Contains_int slices_Index_int
  have h1' : slices_Index_int_L1 l x FU 0 = some i := h1
  rw [bnd_eq h1']
  congr 1
  unfold mem
  exact decide_eq_decide.2 h2
theorem across_eq {n : Net} (hn : Net0 n) {l : List Int} (hl : l.length ≤ 1000) : drain_across n l = some (cutD (mem l) n.drains) := by
  have hlen := hn.len
  unfold drain_across
  refine Eq.trans (for0 n.drains.length (fun i => cutD (mem l) (n.drains.take i)) (fun k s i => drain_across_L1 n l k s i) (some (cutD (mem l) n.drains)) rfl (fun k i hi => ?_) (fun k => ?_) (by omega)) rfl
  · have hx : n.drains[i]? = some n.drains[i] := by simp [hi]
    have hd := hn.dr _ (List.getElem_mem hi)
    have hb := cutD_bnd (mem l) (n.drains.take i) (fun d hd => by have := hn.dr d (List.mem_of_mem_take hd); omega)
    have hlt : (n.drains.take i).length ≤ 16 := by rw [List.length_take]; omega
    show drain_across_B1 n l (drain_across_L1 n l k) _ _ = _
    unfold drain_across_B1
    rw [if_pos (by omega), ix_nat hx, bnd_eq (contains_eq _ hl), cutD_take hx]
    unfold drain_across_k3 drain_across_k2
    cases h1 : mem l n.drains[i].from_
    · rw [if_neg (by simp), if_neg (by simp), gd_pos (by omega), if_neg (by simp), Int.add_zero]; rfl
    · rw [if_pos rfl, bnd_eq (contains_eq _ hl)]
      cases h2 : mem l n.drains[i].to_
      · rw [if_pos (by rfl), gd_pos (by omega), gd_pos (by omega), if_pos ⟨rfl, rfl⟩]; rfl
      · rw [if_neg (by simp), gd_pos (by omega), if_neg (by simp), Int.add_zero]; rfl
  · show drain_across_B1 n l (drain_across_L1 n l k) _ _ = _
    unfold drain_across_B1
    rw [if_neg (by omega)]
    unfold drain_across_k1
    rw [List.take_length]
def ascAt (n : Net) (l : List Int) (i : Nat) : Bool := isNode n (gi l i) && (decide (i = 0) || decide (gi l (i - 1) < gi l i))
def ascB (n : Net) (l : List Int) : Bool := decide (∀ i, i < l.length → ascAt n l i = true)
def acrossR (n : Net) (l : List Int) : Int × Int :=
  if validate n = 0 then (if ascB n l = true ∧ mem l n.from_ = true ∧ mem l n.to_ = false then (cutD (mem l) n.drains, 0) else (0, 1)) else (0, validate n)
theorem Across_eq {n : Net} (hl : n.drains.length ≤ 1000) {l : List Int} (hf : l.length ≤ 1000) : drain_Across n l = some (acrossR n l) := by
  unfold drain_Across acrossR
  rw [bnd_eq (Validate_eq hl)]
  by_cases hv : validate n = 0
  · have hn := val0.1 hv
    have h8 := hn.n8
    have h2 := hn.n2
    rw [if_pos hv, if_pos hv]
    have h := scan_loop0 l.length (ascAt n l) (fun _ => ()) (fun k _ i => drain_Across_L1 n l k i) (drain_Across_k2 n l) (some ((0 : Int), (1 : Int))) (fun k i hi => ?_) (fun k => ?_) (by omega)
    · refine Eq.trans h ?_
      unfold ascB
      by_cases hc : ∀ i, i < l.length → ascAt n l i = true
      · rw [if_pos hc, decide_eq_true hc]
        unfold drain_Across_k2 drain_Across_k1
        rw [bnd_eq (contains_eq _ hf)]
        cases h1 : mem l n.from_
        · rw [if_neg (by simp), if_pos rfl, if_neg (by simp)]
        · rw [if_pos rfl, bnd_eq (contains_eq _ hf)]
          cases h2 : mem l n.to_
          · rw [if_neg (by simp), bnd_eq (across_eq hn.toNet0 hf), if_pos ⟨rfl, rfl, rfl⟩]
          · rw [if_pos rfl, if_neg (by simp)]
      · rw [if_neg hc, decide_eq_false hc, if_neg (by simp)]
    · show drain_Across_B1 n l (drain_Across_L1 n l k) _ = _
      unfold drain_Across_B1 ascAt drain_Across_k3
      rw [if_pos (by omega), ix_nat (gi_at hi), bnd_eq (isNode_eq (by omega) _)]
      cases h1 : isNode n (gi l i)
      · rw [if_neg (by simp), if_pos rfl, if_neg (by simp)]
      · rw [if_pos rfl]
        by_cases h0 : i = 0
        · rw [if_neg (by omega), if_neg (by simp), gd_pos (by omega), if_pos (by simp [h0])]; rfl
        · have h3 : l[i - 1]? = some (gi l (i - 1)) := gi_at (by omega)
          rw [if_pos (by omega), gd_pos (by omega), show (i : Int) - 1 = ((i - 1 : Nat) : Int) by omega, ix_nat h3]
          by_cases h4 : gi l i ≤ gi l (i - 1)
          · rw [if_pos (by simpa using h4), if_neg (by simp; omega)]
          · rw [if_neg (by simpa using h4), gd_pos (by omega), if_pos (by simp; omega)]; rfl
    · show drain_Across_B1 n l (drain_Across_L1 n l k) _ = _
      unfold drain_Across_B1
      rw [if_neg (by omega)]
  · rw [if_neg hv, if_neg hv]
end Go.D2

set_option linter.unusedVariables false
set_option linter.unusedSimpArgs false
namespace Go.D2
open Go.Tb
theorem shl1 {x : Int} (h : 0 ≤ x ∧ x ≤ 8) : shlI 1 (IntKind.u64.wrap x) = ((2 ^ x.toNat : Nat) : Int) ∧ IntKind.u64.wrap x = x := by
  have hw : IntKind.u64.wrap x = x := IntWalk.u64_in _ (by omega)
  refine ⟨?_, hw⟩
  rw [hw]
  unfold shlI
  rw [show min x.toNat 64 = x.toNat by omega, Int.one_mul]
  norm_cast
theorem pow8 {k : Nat} (h : k ≤ 8) : 2 ^ k ≤ 256 := by
  have h : 2 ^ k ≤ 2 ^ 8 := Nat.pow_le_pow_right (by decide) h
  simpa using h
def bitN (x : Int) : Nat := if 0 ≤ x ∧ x < 8 then 2 ^ x.toNat else 0
theorem bitN_lt (x : Int) : bitN x < 2 ^ 8 := by
  unfold bitN
  split
  · exact Nat.pow_lt_pow_right (by decide) (by omega)
  · decide
def maskN (l : List Int) : Nat → Nat
  | 0 => 0
  | i + 1 => maskN l i ||| bitN (gi l i)
theorem maskN_lt (l : List Int) : ∀ i, maskN l i < 2 ^ 8
  | 0 => by show 0 < 2 ^ 8; decide
  | i + 1 => Nat.or_lt_two_pow (maskN_lt l i) (bitN_lt _)
theorem maskN_bit {l : List Int} {v : Nat} : ∀ i, (∀ j, j < i → 0 ≤ gi l j ∧ gi l j < 8) → ((maskN l i).testBit v = true ↔ ∃ j, j < i ∧ gi l j = (v : Int))
  | 0, _ => by simp [maskN]
  | i + 1, h => by
    have ih := maskN_bit (l := l) (v := v) i (fun j hj => h j (by omega))
    have hi := h i (by omega)
    simp only [maskN, Nat.testBit_or, Bool.or_eq_true, ih]
    have e : (bitN (gi l i)).testBit v = true ↔ gi l i = (v : Int) := by
      unfold bitN
      rw [if_pos hi, Nat.testBit_two_pow]
      simp only [decide_eq_true_eq]
      omega
    rw [e]
    constructor
    · rintro (⟨j, h1, h2⟩ | h1)
      · exact ⟨j, by omega, h2⟩
      · exact ⟨i, by omega, h1⟩
    · rintro ⟨j, h1, h2⟩
      by_cases hj : j = i
      · subst hj; exact .inr h2
      · exact .inl ⟨j, by omega, h2⟩
theorem mem_gi {l : List Int} {x : Int} : mem l x = true ↔ ∃ j, j < l.length ∧ gi l j = x := by
  unfold mem
  rw [decide_eq_true_eq, List.mem_iff_getElem?]
  constructor
  · rintro ⟨j, h⟩; exact ⟨j, lt_of_at h, gi_of h⟩
  · rintro ⟨j, h, e⟩; exact ⟨j, by rw [gi_at h, e]⟩
theorem isNode_iff {n : Net} {x : Int} : isNode n x = true ↔ 0 ≤ x ∧ x < n.nodes := by
  unfold isNode
  rw [within_iff]; omega
theorem ascB_node {n : Net} {l : List Int} (h : ascB n l = true) : ∀ j, j < l.length → 0 ≤ gi l j ∧ gi l j < n.nodes := fun j hj => by
  have := of_decide_eq_true h j hj
  unfold ascAt at this
  simp only [Bool.and_eq_true] at this
  exact isNode_iff.1 this.1
theorem mask_mem {n : Net} (hn : Net0 n) {l : List Int} (h : ascB n l = true) {v : Int} (hv : 0 ≤ v) : inS (maskN l l.length) v = mem l v := by
  have h8 := hn.n8
  unfold inS
  rw [Bool.eq_iff_iff, maskN_bit l.length (fun j hj => by have := ascB_node h j hj; omega), mem_gi, show ((v.toNat : Nat) : Int) = v by omega]
theorem mask_eq {n : Net} (hn : Net0 n) {l : List Int} (hf : l.length ≤ 1000) : ref02_mask n l = some (if ascB n l = true then (((maskN l l.length : Nat) : Int), mem l n.from_ && !mem l n.to_) else (0, false)) := by
  have h2 := hn.n2
  have h8 := hn.n8
  have hs := hn.s0
  have ht := hn.t0
  unfold ref02_mask
  have h := scan_loop0 l.length (ascAt n l) (fun i => ((maskN l i : Nat) : Int)) (fun k s i => ref02_mask_L1 n l k s i) (ref02_mask_k1 n (maskN l l.length : Nat)) (some ((0 : Int), false)) (fun k i hi => ?_) (fun k => ?_) (by omega)
  · refine Eq.trans h ?_
    by_cases hc : ∀ i, i < l.length → ascAt n l i = true
    · have ha : ascB n l = true := decide_eq_true hc
      have hm := maskN_lt l l.length
      have hm' : maskN l l.length < 256 := hm
      rw [if_pos hc, if_pos ha]
      unfold ref02_mask_k1
      rw [bnd_eq (isCut_eq hn (by omega))]
      unfold cutB
      rw [mask_mem hn ha hs.1, mask_mem hn ha ht.1]
    · have ha : ¬ ascB n l = true := fun h => hc (of_decide_eq_true h)
      rw [if_neg hc, if_neg ha]
  · show ref02_mask_B1 n l (ref02_mask_L1 n l k) _ _ = _
    have hm : maskN l i < 256 := maskN_lt l i
    unfold ref02_mask_B1 ascAt
    rw [if_pos (by omega), ix_nat (gi_at hi), gd_pos (by omega), bnd_eq (within_eq _ _ _)]
    have done : isNode n (gi l i) = true → ref02_mask_k2 l ((maskN l i : Nat) : Int) (i : Int) (ref02_mask_L1 n l k) false = ref02_mask_L1 n l k ((maskN l (i + 1) : Nat) : Int) ((i + 1 : Nat) : Int) := fun hnode => by
      have hx := isNode_iff.1 hnode
      have ⟨e1, e2⟩ := shl1 (x := gi l i) (by omega)
      have hp := pow8 (k := (gi l i).toNat) (by omega)
      have hp' : ((2 ^ (gi l i).toNat : Nat) : Int) ≤ 256 := Int.ofNat_le.2 hp
      have hp0 : 0 ≤ ((2 ^ (gi l i).toNat : Nat) : Int) := Int.natCast_nonneg _
      unfold ref02_mask_k2
      rw [if_neg (by simp), ix_nat (gi_at hi), gd_pos (by rw [e1, e2]; exact ⟨hx.1, by generalize ((2 ^ (gi l i).toNat : Nat) : Int) = q at *; omega⟩), e1, gd_pos (by generalize ((2 ^ (gi l i).toNat : Nat) : Int) = q at *; omega), gd_pos (by omega)]
      congr 1
      show ((((maskN l i : Nat) : Int).toNat ||| ((2 ^ (gi l i).toNat : Nat) : Int).toNat : Nat) : Int) = _
      rw [Int.toNat_natCast, Int.toNat_natCast]
      simp only [maskN, bitN]
      rw [if_pos (by omega)]
    have hw : within (gi l i) 0 (n.nodes - 1) = isNode n (gi l i) := rfl
    rw [hw]
    cases h1 : isNode n (gi l i)
    · rw [if_neg (by simp)]
      unfold ref02_mask_k2
      rw [if_pos rfl, if_neg (by simp)]
    · rw [if_pos rfl]
      by_cases h0 : i = 0
      · rw [if_neg (by omega), done h1, if_pos (by simp [h0])]
      · have h3 : l[i - 1]? = some (gi l (i - 1)) := gi_at (by omega)
        rw [if_pos (by omega), ix_nat (gi_at hi), gd_pos (by omega), show (i : Int) - 1 = ((i - 1 : Nat) : Int) by omega, ix_nat h3]
        by_cases h4 : gi l i ≤ gi l (i - 1)
        · rw [decide_eq_true h4, if_neg (by simp; omega)]; rfl
        · rw [decide_eq_false h4, done h1, if_pos (by simp; omega)]
  · show ref02_mask_B1 n l (ref02_mask_L1 n l k) _ _ = _
    unfold ref02_mask_B1
    rw [if_neg (by omega)]
theorem rAcross_eq {n : Net} (hl : n.drains.length ≤ 1000) {l : List Int} (hf : l.length ≤ 1000) : ref02_Across n l = some (acrossR n l) := by
  unfold ref02_Across acrossR
  rw [bnd_eq (rValidate_eq hl)]
  by_cases hv : validate n = 0
  · have hn := val0.1 hv
    rw [if_pos hv, if_pos hv, bnd_eq (mask_eq hn.toNet0 hf)]
    by_cases ha : ascB n l = true
    · have hm : maskN l l.length < 256 := maskN_lt l l.length
      rw [if_pos ha]
      by_cases hc : mem l n.from_ = true ∧ mem l n.to_ = false
      · rw [if_pos (by rw [hc.1, hc.2]; rfl), bnd_eq (width_eq hn.toNet0 (by omega)), if_pos ⟨ha, hc⟩]
        have e : cutD (inS (maskN l l.length)) n.drains = cutD (mem l) n.drains := cutD_congr _ fun d hd => by
          have := hn.dr d hd
          exact ⟨mask_mem hn.toNet0 ha this.1.1, mask_mem hn.toNet0 ha this.2.1.1⟩
        rw [e]
      · rw [if_neg (by intro h; simp only [Bool.and_eq_true, Bool.not_eq_true'] at h; exact hc h), if_neg (fun h => hc h.2)]
    · rw [if_neg ha, if_neg (by simp), if_neg (fun h => ha h.1)]
  · rw [if_neg hv, if_neg hv]
def nodesOf (n : Nat) (p : Int → Bool) : List Int := ((List.range n).map (fun (i : Nat) => (i : Int))).filter p
theorem nodesOf_len (n : Nat) (p : Int → Bool) : (nodesOf n p).length ≤ n := by
  unfold nodesOf
  refine Nat.le_trans (List.length_filter_le _ _) ?_
  simp
theorem nodesOf_succ (n : Nat) (p : Int → Bool) : nodesOf (n + 1) p = nodesOf n p ++ (if p (n : Int) = true then [(n : Int)] else []) := by
  unfold nodesOf
  rw [List.range_succ, List.map_append, List.filter_append]
  congr 1
  by_cases h : p (n : Int) = true
  · rw [if_pos h]; simp [h]
  · rw [if_neg h]; simp [h]
theorem nodes_eq {n : Net} (hn : Net0 n) {f : Int → Option Bool} {p : Int → Bool} (hf : ∀ v : Int, 0 ≤ v → v < n.nodes → f v = some (p v)) : drain_nodes n f = some (nodesOf n.nodes.toNat p) := by
  have h2 := hn.n2
  have h8 := hn.n8
  unfold drain_nodes
  refine for0 n.nodes.toNat (fun i => nodesOf i p) (fun k s i => drain_nodes_L1 n f k i s) _ rfl (fun k i hi => ?_) (fun k => ?_) (by omega)
  · have hl := nodesOf_len i p
    show drain_nodes_B1 n f (drain_nodes_L1 n f k) _ _ = _
    unfold drain_nodes_B1 drain_nodes_k2
    rw [if_pos (by omega), bnd_eq (hf _ (by omega) (by omega)), nodesOf_succ]
    by_cases h : p (i : Int) = true
    · rw [if_pos h, if_pos h, gd_pos (by simp; omega), gd_pos (by omega)]; rfl
    · rw [if_neg h, if_neg h, gd_pos (by omega), List.append_nil]; rfl
  · show drain_nodes_B1 n f (drain_nodes_L1 n f k) _ _ = _
    unfold drain_nodes_B1
    rw [if_neg (by omega)]; rfl
def narrow (n : Net) (i : Nat) : Bool := cutB n i && decide (cutD (inS i) n.drains = mostN n)
def andN (n : Net) : Nat → Nat
  | 0 => 2 ^ n.nodes.toNat - 1
  | i + 1 => if narrow n i = true then andN n i &&& i else andN n i
def orN (n : Net) : Nat → Nat
  | 0 => 0
  | i + 1 => if narrow n i = true then orN n i ||| i else orN n i
theorem andN_bit {n : Net} {v : Nat} (hv : v < n.nodes.toNat) : ∀ i, (andN n i).testBit v = true ↔ ∀ j, j < i → narrow n j = true → j.testBit v = true
  | 0 => by simp [andN, Nat.testBit_two_pow_sub_one, hv]
  | i + 1 => by
    have ih := andN_bit (n := n) hv i
    simp only [andN]
    by_cases h : narrow n i = true
    · rw [if_pos h, Nat.testBit_and, Bool.and_eq_true, ih]
      constructor
      · rintro ⟨h1, h2⟩ j hj hn
        by_cases hji : j = i
        · subst hji; exact h2
        · exact h1 j (by omega) hn
      · intro h1
        exact ⟨fun j hj => h1 j (by omega), h1 i (by omega) h⟩
    · rw [if_neg h, ih]
      constructor
      · intro h1 j hj hn
        by_cases hji : j = i
        · subst hji; exact absurd hn h
        · exact h1 j (by omega) hn
      · intro h1 j hj; exact h1 j (by omega)
theorem orN_bit {n : Net} {v : Nat} : ∀ i, (orN n i).testBit v = true ↔ ∃ j, j < i ∧ narrow n j = true ∧ j.testBit v = true
  | 0 => by simp [orN]
  | i + 1 => by
    have ih := orN_bit (n := n) (v := v) i
    simp only [orN]
    by_cases h : narrow n i = true
    · rw [if_pos h, Nat.testBit_or, Bool.or_eq_true, ih]
      constructor
      · rintro (⟨j, h1, h2⟩ | h1)
        · exact ⟨j, by omega, h2⟩
        · exact ⟨i, by omega, h, h1⟩
      · rintro ⟨j, h1, h2, h3⟩
        by_cases hji : j = i
        · subst hji; exact .inr h3
        · exact .inl ⟨j, by omega, h2, h3⟩
    · rw [if_neg h, ih]
      constructor
      · rintro ⟨j, h1, h2⟩; exact ⟨j, by omega, h2⟩
      · rintro ⟨j, h1, h2, h3⟩
        by_cases hji : j = i
        · subst hji; exact absurd h2 h
        · exact ⟨j, by omega, h2, h3⟩
def least (n : Net) : List Int := nodesOf n.nodes.toNat (inS (andN n (2 ^ n.nodes.toNat)))
def greatest (n : Net) : List Int := nodesOf n.nodes.toNat (inS (orN n (2 ^ n.nodes.toNat)))
theorem sp_reach {E : List Ed} : ∀ (ks : List Nat) (vis : List Int) (u v : Int), SP E vis u ks v → Reach E u v
  | [], vis, u, v, h => by have h : u = v := h; subst h; exact .here
  | i :: r, vis, u, v, h => by
    obtain ⟨e, he, hu, hp, hn, hr⟩ := h
    exact reach_other (List.mem_of_getElem? he) hu hp (sp_reach r _ _ _ hr)
/-- A cut is narrowest exactly if nothing more can leave it. -/
theorem closed_iff {n : Net} (hn : Net0 n) {l : List Left} (h : Maxed n l) {S : Int → Bool} (h1 : S n.from_ = true) (h2 : S n.to_ = false) : cutD S n.drains = mostN n ↔ Closed S (Eds l) := by
  have hs : 0 ≤ n.from_ ∧ n.from_ < ((n.nodes.toNat : Nat) : Int) := by have := hn.s0; omega
  rw [closed_tight h.1.flow.cap, ← tight_iff h.1.flow hs h1 h2, maxed_val hn h, cutW_eds, h.1.drains]
  exact ⟨fun e => e.symm, fun e => e.symm⟩
theorem closed_num {n : Net} (hn : Net0 n) {l : List Left} (h : Maxed n l) {S : Int → Bool} (h1 : S n.from_ = true) (h2 : S n.to_ = false) (hc : Closed S (Eds l)) : ∃ j, j < 2 ^ n.nodes.toNat ∧ narrow n j = true ∧ ∀ v : Int, 0 ≤ v → v < n.nodes → inS j v = S v := by
  obtain ⟨j, j1, j2, j3⟩ := cut_num hn S
  refine ⟨j, j1, ?_, j2⟩
  unfold narrow cutB
  rw [j2 _ hn.s0.1 hn.s0.2, j2 _ hn.t0.1 hn.t0.2, h1, h2, decide_eq_true (j3.trans ((closed_iff hn h h1 h2).2 hc))]; rfl
theorem narrow_cl {n : Net} (hn : Net0 n) {l : List Left} (h : Maxed n l) {j : Nat} (hj : narrow n j = true) : inS j n.from_ = true ∧ inS j n.to_ = false ∧ Closed (inS j) (Eds l) := by
  unfold narrow cutB at hj
  simp only [Bool.and_eq_true, Bool.not_eq_true', decide_eq_true_eq] at hj
  exact ⟨hj.1.1, hj.1.2, (closed_iff hn h hj.1.1 hj.1.2).1 hj.2⟩
/-- Where the program's search gets to. -/
theorem least_key {n : Net} (hn : Net0 n) {l : List Left} (h : Maxed n l) {v : Int} (hv : 0 ≤ v ∧ v < n.nodes) : inS (andN n (2 ^ n.nodes.toNat)) v = true ↔ Reach (Eds l) n.from_ v := by
  unfold inS
  rw [andN_bit (by omega)]
  constructor
  · intro hall
    have h' := h
    obtain ⟨_, S, s1, s2, s3, s4⟩ := h'
    obtain ⟨j, j1, j2, j3⟩ := closed_num hn h s1 s2 s3
    have := hall j j1 j2
    exact s4 v (by rw [← j3 v hv.1 hv.2]; exact this)
  · intro hr j _ hj
    obtain ⟨c1, c2, c3⟩ := narrow_cl hn h hj
    exact hr.sub c3 c1
theorem least_at {n : Net} (hn : Net0 n) {l : List Left} (h : Maxed n l) {v : Int} (hv : 0 ≤ v ∧ v < n.nodes) : drain_Least_1 n l v = some (inS (andN n (2 ^ n.nodes.toNat)) v) := by
  have h2 := hn.n2
  have key := least_key hn h hv
  unfold drain_Least_1
  by_cases e : v = n.from_
  · rw [if_pos e, key.2 (by rw [e]; exact .here)]
  · rw [if_neg e]
    rcases search_eq hn h.1 (s := n.from_) (t := v) hn.s0 (fun x => e x.symm) with ⟨ks, k1, _, k3, k4⟩ | ⟨k1, S, s1, s2, s3, s4⟩
    · rw [bnd_eq k3, key.2 (sp_reach _ _ _ _ k4), decide_eq_false (by unfold ints; simpa using k1)]; rfl
    · rw [bnd_eq k1]
      have : ¬ inS (andN n (2 ^ n.nodes.toNat)) v = true := fun hc => by
        have := (key.1 hc).sub s3 s1
        rw [s2] at this; cases this
      rw [decide_eq_true rfl]
      cases hq : inS (andN n (2 ^ n.nodes.toNat)) v
      · rfl
      · exact absurd hq this
open Classical in
theorem greatest_cl {n : Net} (hn : Net0 n) {l : List Left} (h : Maxed n l) : ∃ S : Int → Bool, S n.from_ = true ∧ S n.to_ = false ∧ Closed S (Eds l) ∧ ∀ v, S v = true ↔ ¬ Coreach (Eds l) n.to_ v := by
  refine ⟨fun v => decide (¬ Coreach (Eds l) n.to_ v), ?_, ?_, fun e he => ⟨fun h1 h2 => ?_, fun h1 h2 => ?_⟩, fun v => by simp⟩
  · obtain ⟨_, S, s1, s2, s3, s4⟩ := h
    simp only [decide_eq_true_eq]
    intro hc
    have := hc.reach.sub s3 s1
    rw [s2] at this; cases this
  · simp only [decide_eq_false_iff_not, Decidable.not_not]
    exact .here
  · simp only [decide_eq_true_eq] at h1 ⊢
    exact fun hc => h1 (.on he hc h2)
  · simp only [decide_eq_true_eq] at h1 ⊢
    exact fun hc => h1 (.back he hc h2)
theorem greatest_key {n : Net} (hn : Net0 n) {l : List Left} (h : Maxed n l) {v : Int} (hv : 0 ≤ v ∧ v < n.nodes) : inS (orN n (2 ^ n.nodes.toNat)) v = true ↔ ¬ Coreach (Eds l) n.to_ v := by
  unfold inS
  rw [orN_bit]
  constructor
  · rintro ⟨j, _, hj, hb⟩ hr
    obtain ⟨c1, c2, c3⟩ := narrow_cl hn h hj
    have : inS j v = false := hr.sub c3 c2
    unfold inS at this
    rw [hb] at this; cases this
  · intro hr
    obtain ⟨S, s1, s2, s3, s4⟩ := greatest_cl hn h
    obtain ⟨j, j1, j2, j3⟩ := closed_num hn h s1 s2 s3
    exact ⟨j, j1, j2, (j3 v hv.1 hv.2).trans ((s4 v).2 hr)⟩
theorem greatest_at {n : Net} (hn : Net0 n) {l : List Left} (h : Maxed n l) {v : Int} (hv : 0 ≤ v ∧ v < n.nodes) : drain_Greatest_1 n l v = some (inS (orN n (2 ^ n.nodes.toNat)) v) := by
  have h2 := hn.n2
  have key := greatest_key hn h hv
  unfold drain_Greatest_1
  by_cases e : v = n.to_
  · rw [if_pos e]
    cases hq : inS (orN n (2 ^ n.nodes.toNat)) v
    · rfl
    · exact absurd (by rw [e]; exact Coreach.here) (key.1 hq)
  · rw [if_neg e]
    rcases search_eq hn h.1 (s := v) (t := n.to_) hv e with ⟨ks, k1, _, k3, k4⟩ | ⟨k1, S, s1, s2, s3, s4⟩
    · rw [bnd_eq k3]
      have : ¬ inS (orN n (2 ^ n.nodes.toNat)) v = true := fun hc => key.1 hc (sp_reach _ _ _ _ k4).co
      rw [decide_eq_false (by unfold ints; simpa using k1)]
      cases hq : inS (orN n (2 ^ n.nodes.toNat)) v
      · rfl
      · exact absurd hq this
    · rw [bnd_eq k1, decide_eq_true rfl, key.2 (fun hc => by
        have := hc.reach.sub s3 s1
        rw [s2] at this; cases this)]
theorem Least_eq {n : Net} (hl : n.drains.length ≤ 1000) : drain_Least n = some (if validate n = 0 then (least n, 0) else ([], validate n)) := by
  unfold drain_Least
  rw [bnd_eq (Validate_eq hl)]
  by_cases hv : validate n = 0
  · have hn := val0.1 hv
    obtain ⟨l, l1, l2⟩ := run_eq hn.toNet0
    rw [if_pos hv, if_pos hv, bnd_eq l1, bnd_eq (nodes_eq hn.toNet0 (fun v v0 v1 => least_at hn.toNet0 l2 ⟨v0, v1⟩))]; rfl
  · rw [if_neg hv, if_neg hv]
theorem Greatest_eq {n : Net} (hl : n.drains.length ≤ 1000) : drain_Greatest n = some (if validate n = 0 then (greatest n, 0) else ([], validate n)) := by
  unfold drain_Greatest
  rw [bnd_eq (Validate_eq hl)]
  by_cases hv : validate n = 0
  · have hn := val0.1 hv
    obtain ⟨l, l1, l2⟩ := run_eq hn.toNet0
    rw [if_pos hv, if_pos hv, bnd_eq l1, bnd_eq (nodes_eq hn.toNet0 (fun v v0 v1 => greatest_at hn.toNet0 l2 ⟨v0, v1⟩))]; rfl
  · rw [if_neg hv, if_neg hv]
end Go.D2

set_option linter.unusedVariables false
set_option linter.unusedSimpArgs false
namespace Go.D2
open Go.Tb
/-- The least and the greatest narrowest cut are narrowest cuts. -/
theorem least_ok {n : Net} (hn : Net0 n) : inS (andN n (2 ^ n.nodes.toNat)) n.from_ = true ∧ inS (andN n (2 ^ n.nodes.toNat)) n.to_ = false ∧ cutD (inS (andN n (2 ^ n.nodes.toNat))) n.drains = mostN n := by
  obtain ⟨l, _, h⟩ := run_eq hn
  have h' := h
  obtain ⟨_, S, s1, s2, s3, s4⟩ := h'
  have key : ∀ v : Int, 0 ≤ v → v < n.nodes → inS (andN n (2 ^ n.nodes.toNat)) v = S v := fun v v0 v1 => by
    rw [Bool.eq_iff_iff, least_key hn h ⟨v0, v1⟩]
    exact ⟨fun hr => hr.sub s3 s1, s4 v⟩
  refine ⟨(key _ hn.s0.1 hn.s0.2).trans s1, (key _ hn.t0.1 hn.t0.2).trans s2, ?_⟩
  rw [cutD_congr (T := S) _ fun d hd => by have := hn.dr d hd; exact ⟨key _ this.1.1 this.1.2, key _ this.2.1.1 this.2.1.2⟩]
  exact (closed_iff hn h s1 s2).2 s3
theorem greatest_ok {n : Net} (hn : Net0 n) : inS (orN n (2 ^ n.nodes.toNat)) n.from_ = true ∧ inS (orN n (2 ^ n.nodes.toNat)) n.to_ = false ∧ cutD (inS (orN n (2 ^ n.nodes.toNat))) n.drains = mostN n := by
  obtain ⟨l, _, h⟩ := run_eq hn
  obtain ⟨S, s1, s2, s3, s4⟩ := greatest_cl hn h
  have key : ∀ v : Int, 0 ≤ v → v < n.nodes → inS (orN n (2 ^ n.nodes.toNat)) v = S v := fun v v0 v1 => by
    rw [Bool.eq_iff_iff, greatest_key hn h ⟨v0, v1⟩]
    exact (s4 v).symm
  refine ⟨(key _ hn.s0.1 hn.s0.2).trans s1, (key _ hn.t0.1 hn.t0.2).trans s2, ?_⟩
  rw [cutD_congr (T := S) _ fun d hd => by have := hn.dr d hd; exact ⟨key _ this.1.1 this.1.2, key _ this.2.1.1 this.2.1.2⟩]
  exact (closed_iff hn h s1 s2).2 s3
theorem mem_nodesOf {k : Nat} {p : Int → Bool} {v : Int} (h : 0 ≤ v ∧ v < k) : mem (nodesOf k p) v = p v := by
  unfold mem nodesOf
  rw [Bool.eq_iff_iff, decide_eq_true_eq, List.mem_filter]
  constructor
  · exact fun h => h.2
  · intro hp
    refine ⟨List.mem_map.2 ⟨v.toNat, ?_, ?_⟩, hp⟩
    · rw [List.mem_range]; omega
    · omega
theorem nodesOf_pw (k : Nat) (p : Int → Bool) : (nodesOf k p).Pairwise (· < ·) := by
  unfold nodesOf
  refine List.Pairwise.filter _ ?_
  rw [List.pairwise_map]
  exact List.Pairwise.imp (fun h => by omega) List.pairwise_lt_range
theorem nodesOf_asc {n : Net} (hn : Net0 n) (p : Int → Bool) : ascB n (nodesOf n.nodes.toNat p) = true := decide_eq_true fun i hi => by
  have h1 : gi (nodesOf n.nodes.toNat p) i = (nodesOf n.nodes.toNat p)[i] := gi_of (by simp [hi])
  have hm : gi (nodesOf n.nodes.toNat p) i ∈ nodesOf n.nodes.toNat p := by rw [h1]; exact List.getElem_mem hi
  unfold ascAt
  rw [Bool.and_eq_true]
  constructor
  · rw [isNode_iff]
    unfold nodesOf at hm
    have := (List.mem_filter.1 hm).1
    obtain ⟨q, hq, e⟩ := List.mem_map.1 this
    rw [List.mem_range] at hq
    unfold nodesOf
    omega
  · by_cases h0 : i = 0
    · simp [h0]
    · have h2 : gi (nodesOf n.nodes.toNat p) (i - 1) = (nodesOf n.nodes.toNat p)[i - 1] := gi_of (List.getElem?_eq_getElem (by omega))
      have := List.pairwise_iff_getElem.1 (nodesOf_pw n.nodes.toNat p) (i - 1) i (by omega) hi (by omega)
      rw [h1, h2, decide_eq_true this]; simp
theorem across_nodes {n : Net} (hn : NetOk n) {p : Int → Bool} (h1 : p n.from_ = true) (h2 : p n.to_ = false) : acrossR n (nodesOf n.nodes.toNat p) = (cutD p n.drains, 0) := by
  have hs := hn.s0
  have ht := hn.t0
  unfold acrossR
  rw [if_pos (val0.2 hn), if_pos ⟨nodesOf_asc hn.toNet0 p, by rw [mem_nodesOf (by omega), h1], by rw [mem_nodesOf (by omega), h2]⟩]
  rw [cutD_congr (T := p) _ fun d hd => by have := hn.dr d hd; exact ⟨mem_nodesOf (by omega), mem_nodesOf (by omega)⟩]
def checkMost (n : Net) (fl l : List Int) : Int :=
  if (checkR n fl).2 = 0 then (if (acrossR n l).2 = 0 then (if (checkR n fl).1 = (acrossR n l).1 then 0 else 7) else (acrossR n l).2) else (checkR n fl).2
theorem CheckMost_eq {n : Net} (hl : n.drains.length ≤ 1000) {fl l : List Int} (hf : fl.length ≤ 1000) (hs : l.length ≤ 1000) : drain_CheckMost n fl l = some (checkMost n fl l) := by
  unfold drain_CheckMost checkMost
  rw [bnd_eq (CheckFlow_eq hl hf)]
  by_cases h1 : (checkR n fl).2 = 0
  · rw [if_pos h1, if_pos h1, bnd_eq (Across_eq hl hs)]
    by_cases h2 : (acrossR n l).2 = 0
    · rw [if_pos h2, if_pos h2]
      split <;> rfl
    · rw [if_neg h2, if_neg h2]
  · rw [if_neg h1, if_neg h1]
theorem rCheckMost_eq {n : Net} (hl : n.drains.length ≤ 1000) {fl l : List Int} (hf : fl.length ≤ 1000) (hs : l.length ≤ 1000) : ref02_CheckMost n fl l = some (checkMost n fl l) := by
  unfold ref02_CheckMost checkMost
  rw [bnd_eq (rCheckFlow_eq hl hf)]
  by_cases h1 : (checkR n fl).2 = 0
  · rw [if_pos h1, if_pos h1, bnd_eq (rAcross_eq hl hs)]
    by_cases h2 : (acrossR n l).2 = 0
    · rw [if_pos h2, if_pos h2]
      split <;> rfl
    · rw [if_neg h2, if_neg h2]
  · rw [if_neg h1, if_neg h1]
theorem law_DrainProves (n : Net) (fl l : List Int) (hb : n.drains.length ≤ 9223372036854775807) : law02_DrainProves n fl l = some true := by
  unfold law02_DrainProves
  rw [bnd_eq (Long_eq n)]
  unfold law02_DrainProves_k1
  by_cases hL : (100 : Int) < (n.drains.length : Int)
  · rw [if_pos (by simpa using hL), if_pos rfl, bnd_eq known_eq]
  · have hl : n.drains.length ≤ 1000 := by omega
    rw [if_neg (by simpa using hL)]
    by_cases hf : (100 : Int) < (fl.length : Int)
    · rw [if_pos hf, if_pos rfl, bnd_eq known_eq]
    · have hfl : fl.length ≤ 1000 := by omega
      rw [if_neg hf]
      by_cases hs : (100 : Int) < (l.length : Int)
      · rw [if_pos (by simpa using hs), bnd_eq known_eq]
      · have hsl : l.length ≤ 1000 := by omega
        rw [if_neg (by simpa using hs), bnd_eq (CheckMost_eq hl hfl hsl), bnd_eq (rCheckMost_eq hl hfl hsl), if_pos rfl]
        rcases Flow_eq hl with ⟨hn, m, h1, _, h2⟩ | ⟨hv, h2⟩
        · have hv := val0.2 hn
          have h8 := hn.n8
          have hml := maxed_len h1
          have n1 := nodesOf_len n.nodes.toNat (inS (andN n (2 ^ n.nodes.toNat)))
          have n2 := nodesOf_len n.nodes.toNat (inS (orN n (2 ^ n.nodes.toNat)))
          have a := least_ok hn.toNet0
          have b := greatest_ok hn.toNet0
          have e1 : checkMost n (m.map Left.runs) (least n) = 0 := by
            unfold checkMost
            have : acrossR n (least n) = (mostN n, 0) := by rw [← a.2.2]; exact across_nodes hn a.1 a.2.1
            rw [maxed_check hn h1, this, if_pos rfl, if_pos rfl, if_pos rfl]
          have e2 : checkMost n (m.map Left.runs) (greatest n) = 0 := by
            unfold checkMost
            have : acrossR n (greatest n) = (mostN n, 0) := by rw [← b.2.2]; exact across_nodes hn b.1 b.2.1
            rw [maxed_check hn h1, this, if_pos rfl, if_pos rfl, if_pos rfl]
          rw [bnd_eq h2, bnd_eq (Least_eq hl), bnd_eq (Greatest_eq hl), if_pos rfl, if_pos hv, if_pos hv, if_pos rfl, if_pos rfl]
          have q1 : drain_CheckMost n (m.map Left.runs) (least n) = some 0 := by rw [CheckMost_eq hl (by simp; omega) (by unfold least; omega), e1]
          have q2 : drain_CheckMost n (m.map Left.runs) (greatest n) = some 0 := by rw [CheckMost_eq hl (by simp; omega) (by unfold greatest; omega), e2]
          rw [bnd_eq q1, if_pos rfl, bnd_eq q2, if_pos rfl, bnd_eq known_eq]
        · rw [bnd_eq h2, bnd_eq (Least_eq hl), bnd_eq (Greatest_eq hl), if_neg hv, bnd_eq known_eq]
end Go.D2
