/- Lemmas and walks that the proof of this claim uses: D2p1, D2p2, D2p3, D2p4, D2p5, D2p7, D2p8, D2p6, D2pA, D2pC, D2pD, D2pE, D2pF, D2pG, D2pH. -/
import Derived.Test.YtmpmomboclhjoaaTopFlows5
set_option linter.unusedVariables false
set_option linter.unusedSimpArgs false
namespace Go.D2
open Go.Tb
theorem ix0 {α β : Type} {l : List α} {k : α → Option β} {x : α} (h : l[0]? = some x) : ix l 0 k = k x := ix_nat (i := 0) h
theorem for0 {S R : Type} (N : Nat) (g : Nat → S) (L : Nat → S → Int → Option R) (yes : Option R) {s0 : S} (h0 : g 0 = s0)
    (step : ∀ n i : Nat, i < N → L (n + 1) (g i) (i : Int) = L n (g (i + 1)) ((i + 1 : Nat) : Int))
    (stop : ∀ n : Nat, L (n + 1) (g N) (N : Int) = yes) (hN : N ≤ 9223372036854775807) : L FU s0 0 = yes := by
  rw [← h0]; exact for_loop0 N g L yes step stop hN
def within (n lo hi : Int) : Bool := decide (lo ≤ n) && decide (n ≤ hi)
theorem within_iff {n lo hi : Int} : within n lo hi = true ↔ lo ≤ n ∧ n ≤ hi := by unfold within; simp
theorem from_eq (n lo hi : Int) : drain_from n lo hi = some (within n lo hi) := by
  unfold drain_from within
  by_cases h : lo ≤ n <;> simp [h]
def isNode (n : Net) (i : Int) : Bool := within i 0 (n.nodes - 1)
theorem isNode_eq {n : Net} (h : InR (n.nodes - 1)) (i : Int) : drain_isNode n i = some (isNode n i) := by
  unfold drain_isNode isNode
  rw [gd_pos h, bnd_eq (from_eq _ _ _)]
def okD (n : Net) (d : Drain) : Bool := isNode n d.from_ && isNode n d.to_ && !decide (d.from_ = d.to_) && within d.width 0 20
def okH (n : Net) : Bool := within n.nodes 2 8 && isNode n n.from_ && isNode n n.to_ && !decide (n.from_ = n.to_)
def validate (n : Net) : Int := if okH n = true then (if 16 < n.drains.length then 3 else if n.drains.all (okD n) = true then 0 else 1) else 1
theorem Validate_eq {n : Net} (hl : n.drains.length ≤ 1000) : drain_Validate n = some (validate n) := by
  unfold drain_Validate validate okH
  rw [bnd_eq (from_eq _ _ _)]
  cases h1 : within n.nodes 2 8
  · rw [if_neg (by simp)]; unfold drain_Validate_k3; rw [if_pos rfl, if_neg (by simp)]
  · have hn := within_iff.1 h1
    have hr : InR (n.nodes - 1) := by omega
    rw [if_pos rfl, bnd_eq (isNode_eq hr _)]
    cases h2 : isNode n n.from_
    · rw [if_neg (by simp)]; unfold drain_Validate_k3; rw [if_pos rfl, if_neg (by simp)]
    · rw [if_pos rfl, bnd_eq (isNode_eq hr _)]
      cases h3 : isNode n n.to_
      · rw [if_neg (by simp)]; unfold drain_Validate_k3; rw [if_pos rfl, if_neg (by simp)]
      · rw [if_pos rfl]
        unfold drain_Validate_k3
        by_cases h4 : n.from_ = n.to_
        · rw [if_pos (by simp [h4]), if_neg (show ¬ (true && true && true && !decide (n.from_ = n.to_)) = true by simp [h4])]
        · rw [if_neg (by simp [h4]), if_pos (show (true && true && true && !decide (n.from_ = n.to_)) = true by simp [h4])]
          by_cases h5 : 16 < n.drains.length
          · rw [if_pos (by omega), if_pos h5]
          · rw [if_neg (by omega), if_neg h5, list_loop0 n.drains (okD n) (drain_Validate_L1 n) (some 0) (some 1) (fun m i x hx => ?_) (fun m => ?_) (by omega)]
            · split <;> rfl
            · have := lt_of_at hx
              show drain_Validate_B1 n (drain_Validate_L1 n m) _ = _
              unfold drain_Validate_B1 okD
              rw [if_pos (by omega), ix_nat hx, bnd_eq (isNode_eq hr _)]
              unfold drain_Validate_k2
              cases isNode n x.from_
              · rw [if_neg (by simp), if_pos rfl, if_neg (by simp)]
              · rw [if_pos rfl, bnd_eq (isNode_eq hr _)]
                cases isNode n x.to_
                · rw [if_neg (by simp), if_pos rfl, if_neg (by simp)]
                · rw [if_pos rfl]
                  by_cases h6 : x.from_ = x.to_
                  · rw [if_pos h6, if_pos rfl, if_neg (by simp [h6])]
                  · rw [if_neg h6, bnd_eq (from_eq _ _ _)]
                    cases within x.width 0 20
                    · rw [if_pos (by rfl), if_neg (by simp)]
                    · rw [if_neg (by simp), gd_pos (by omega), if_pos (by simp [h6])]; rfl
            · show drain_Validate_B1 n (drain_Validate_L1 n m) _ = _
              unfold drain_Validate_B1
              rw [if_neg (by omega)]; rfl
/-- A net that is right, but for how wide its drains are. -/
structure Net0 (n : Net) : Prop where
  n2 : 2 ≤ n.nodes
  n8 : n.nodes ≤ 8
  s0 : 0 ≤ n.from_ ∧ n.from_ < n.nodes
  t0 : 0 ≤ n.to_ ∧ n.to_ < n.nodes
  ne : n.from_ ≠ n.to_
  len : n.drains.length ≤ 16
  dr : ∀ d ∈ n.drains, (0 ≤ d.from_ ∧ d.from_ < n.nodes) ∧ (0 ≤ d.to_ ∧ d.to_ < n.nodes) ∧ d.from_ ≠ d.to_ ∧ 0 ≤ d.width ∧ d.width ≤ 1000
structure NetOk (n : Net) : Prop extends Net0 n where
  w20 : ∀ d ∈ n.drains, d.width ≤ 20
theorem val0 {n : Net} : validate n = 0 ↔ NetOk n := by
  unfold validate
  constructor
  · intro h
    split at h
    · rename_i hh
      split at h
      · cases h
      · split at h
        · rename_i hl ha
          unfold okH isNode at hh
          simp only [Bool.and_eq_true, within_iff, Bool.not_eq_true', decide_eq_false_iff_not] at hh
          obtain ⟨⟨⟨h1, h2⟩, h3⟩, h4⟩ := hh
          have hd : ∀ d ∈ n.drains, (0 ≤ d.from_ ∧ d.from_ ≤ n.nodes - 1) ∧ (0 ≤ d.to_ ∧ d.to_ ≤ n.nodes - 1) ∧ d.from_ ≠ d.to_ ∧ 0 ≤ d.width ∧ d.width ≤ 20 := fun d hd => by
            have := List.all_eq_true.1 ha d hd
            unfold okD isNode at this
            simp only [Bool.and_eq_true, within_iff, Bool.not_eq_true', decide_eq_false_iff_not] at this
            obtain ⟨⟨⟨a1, a2⟩, a3⟩, a4⟩ := this
            exact ⟨a1, a2, a3, a4.1, a4.2⟩
          exact ⟨⟨h1.1, h1.2, by omega, by omega, h4, by omega, fun d hd' => by have := hd d hd'; exact ⟨by omega, by omega, this.2.2.1, by omega, by omega⟩⟩, fun d hd' => (hd d hd').2.2.2.2⟩
        · cases h
    · cases h
  · intro h
    rw [if_pos, if_neg (by have := h.len; omega), if_pos]
    · rw [List.all_eq_true]
      intro d hd
      have := h.dr d hd
      have h20 := h.w20 d hd
      unfold okD isNode
      simp only [Bool.and_eq_true, within_iff, Bool.not_eq_true', decide_eq_false_iff_not]
      exact ⟨⟨⟨by omega, by omega⟩, this.2.2.1⟩, by omega⟩
    · have h1 := h.n2; have h2 := h.n8; have h3 := h.s0; have h4 := h.t0
      unfold okH isNode
      simp only [Bool.and_eq_true, within_iff, Bool.not_eq_true', decide_eq_false_iff_not]
      exact ⟨⟨⟨by omega, by omega⟩, by omega⟩, h.ne⟩
end Go.D2

set_option linter.unusedVariables false
set_option linter.unusedSimpArgs false
namespace Go.D2
open Go.Tb
def Eds (l : List Left) : List Ed := l.map toEd
def Caps (l : List Left) : Prop := ∀ d ∈ l, 0 ≤ d.runs ∧ d.runs ≤ d.drain.width ∧ d.drain.width ≤ 1000
theorem eds_at {l : List Left} {i : Nat} {e : Ed} (h : (Eds l)[i]? = some e) : ∃ d, l[i]? = some d ∧ e = toEd d := by
  unfold Eds at h
  rw [List.getElem?_map] at h
  cases hd : l[i]? with
  | none => rw [hd] at h; cases h
  | some d => rw [hd] at h; cases h; exact ⟨d, rfl, rfl⟩
theorem caps_room {l : List Left} (h : Caps l) : RoomOk (Eds l) := fun e he => by
  obtain ⟨d, hd, rfl⟩ := List.mem_map.1 he
  have := h d hd
  show InR d.runs ∧ InR (d.drain.width - d.runs)
  omega
theorem left_room_eq {d : Left} {u : Int} (h : 0 ≤ d.runs ∧ d.runs ≤ d.drain.width ∧ d.drain.width ≤ 1000) : drain_left_room d u = some (other (toEd d) u, room (toEd d) u) := by
  unfold drain_left_room other room
  by_cases h1 : d.drain.from_ = u
  · have h2 : (toEd d).a = u := h1
    rw [if_pos h1, if_pos h2, if_pos h2]; exact gd_pos (by omega)
  · have h2 : ¬ (toEd d).a = u := h1
    rw [if_neg h1, if_neg h2, if_neg h2]; rfl
def ints (ks : List Nat) : List Int := ks.map (fun (q : Nat) => (q : Int))
theorem ints_at {pre suf : List Nat} {i : Nat} : (ints (pre ++ i :: suf))[pre.length]? = some (i : Int) := by
  unfold ints
  rw [List.getElem?_map, List.getElem?_append_right (Nat.le_refl _)]; simp
/-- The smallest room along a way. -/
def minRoom (E : List Ed) : Int → Int → List Nat → Int
  | _, m, [] => m
  | u, m, i :: r => match E[i]? with
    | some e => minRoom E (other e u) (if m < 0 ∨ room e u < m then room e u else m) r
    | none => m
theorem minRoom_spec {E : List Ed} : ∀ (ks : List Nat) (vis : List Int) (u v m : Int), SP E vis u ks v → (0 < m ∨ (m < 0 ∧ ks ≠ [])) → 0 < minRoom E u m ks ∧ (0 < m → minRoom E u m ks ≤ m) ∧ AllRoom E (minRoom E u m ks) u ks
  | [], vis, u, v, m, h, hm => by
    rcases hm with h1 | ⟨_, h1⟩
    · exact ⟨h1, fun _ => Int.le_refl _, trivial⟩
    · exact absurd rfl h1
  | i :: r, vis, u, v, m, h, hm => by
    obtain ⟨e, he, hu, hp, hn, hr⟩ := h
    have e1 : minRoom E u m (i :: r) = minRoom E (other e u) (if m < 0 ∨ room e u < m then room e u else m) r := by simp only [minRoom, he]
    rw [e1]
    have hm' : 0 < (if m < 0 ∨ room e u < m then room e u else m) := by
      split
      · exact hp
      · rename_i hc
        rcases hm with h1 | ⟨h1, h1'⟩
        · exact h1
        · exact absurd (.inl h1) hc
    obtain ⟨i1, i2, i3⟩ := minRoom_spec r (u :: vis) (other e u) v _ hr (.inl hm')
    have i2 := i2 hm'
    generalize minRoom E (other e u) (if m < 0 ∨ room e u < m then room e u else m) r = q at *
    refine ⟨i1, fun h0 => ?_, e, he, ?_, i3⟩
    · split at i2 <;> omega
    · split at i2
      · exact i2
      · rename_i hc; omega
theorem run_L2 {n : Net} {l : List Left} (hc : Caps l) (rec2 : List Left → Option (List Left)) {ks : List Nat} (hk : ks.length ≤ 1000) : ∀ (suf pre : List Nat) (vis : List Int) (u v m : Int) (k : Nat), ks = pre ++ suf → SP (Eds l) vis u suf v → suf.length < k →
    drain_run_L2 n l rec2 (ints ks) k u m (pre.length : Int) = drain_run_k2 n l rec2 (ints ks) (minRoom (Eds l) u m suf)
  | [], pre, vis, u, v, m, k + 1, hks, h, hlt => by
    show drain_run_B2 n l rec2 (ints ks) (drain_run_L2 n l rec2 (ints ks) k) u m _ = _
    unfold drain_run_B2
    rw [if_neg (by rw [hks]; simp [ints])]; rfl
  | i :: r, pre, vis, u, v, m, k + 1, hks, h, hlt => by
    have h0 := h
    obtain ⟨e, he, hu, hp, hn, hr⟩ := h
    obtain ⟨d, hd, rfl⟩ := eds_at he
    have hcd := hc d (List.mem_of_getElem? hd)
    have hpl : pre.length < 1000 := by rw [hks] at hk; simp at hk; omega
    have ih := run_L2 (n := n) hc rec2 hk r (pre ++ [i]) (u :: vis) (other (toEd d) u) v (if m < 0 ∨ room (toEd d) u < m then room (toEd d) u else m) k (by rw [hks]; simp) hr (by simp at hlt; omega)
    have e1 : minRoom (Eds l) u m (i :: r) = minRoom (Eds l) (other (toEd d) u) (if m < 0 ∨ room (toEd d) u < m then room (toEd d) u else m) r := by simp only [minRoom, he]
    have e2 : (((pre ++ [i]).length : Nat) : Int) = (pre.length : Int) + 1 := by simp
    rw [e1, ← ih, e2]
    show drain_run_B2 n l rec2 (ints ks) (drain_run_L2 n l rec2 (ints ks) k) u m _ = _
    unfold drain_run_B2
    have hi : (ints ks)[pre.length]? = some (i : Int) := by rw [hks]; exact ints_at
    rw [if_pos (by have := lt_of_at hi; omega), ix_nat hi, ix_nat hd, bnd_eq (left_room_eq hcd)]
    unfold drain_run_k4 drain_run_k3
    by_cases h1 : m < 0
    · rw [if_pos h1, if_pos rfl, gd_pos (by omega), if_pos (.inl h1)]
    · rw [if_neg h1]
      by_cases h2 : room (toEd d) u < m
      · rw [if_pos (by simpa using h2), gd_pos (by omega), if_pos (.inr h2)]
      · rw [if_neg (by simpa using h2), gd_pos (by omega), if_neg (by omega)]
def moreL (m : Int) (d : Left) (u : Int) : Left := if d.drain.from_ = u then ⟨d.drain, d.runs + m⟩ else ⟨d.drain, d.runs - m⟩
theorem moreL_ed (m : Int) (d : Left) (u : Int) : toEd (moreL m d u) = more m (toEd d) u := by
  unfold moreL more
  by_cases h : d.drain.from_ = u
  · have h2 : (toEd d).a = u := h
    rw [if_pos h, if_pos h2]; rfl
  · have h2 : ¬ (toEd d).a = u := h
    rw [if_neg h, if_neg h2]; rfl
def augL (m : Int) : List Left → Int → List Nat → List Left
  | l, _, [] => l
  | l, u, i :: r => match l[i]? with
    | some d => augL m (l.set i (moreL m d u)) (other (toEd d) u) r
    | none => l
theorem eds_set {l : List Left} {i : Nat} {m : Int} {d : Left} {u : Int} : Eds (l.set i (moreL m d u)) = (Eds l).set i (more m (toEd d) u) := by
  unfold Eds
  rw [List.map_set, moreL_ed]
theorem augL_ed {m : Int} : ∀ (ks : List Nat) (l : List Left) (u : Int), Eds (augL m l u ks) = aug m (Eds l) u ks
  | [], l, u => rfl
  | i :: r, l, u => by
    cases hd : l[i]? with
    | none =>
      have he : (Eds l)[i]? = none := by unfold Eds; rw [List.getElem?_map, hd]; rfl
      simp only [augL, aug, hd, he]
    | some d =>
      have he : (Eds l)[i]? = some (toEd d) := by unfold Eds; rw [List.getElem?_map, hd]; rfl
      simp only [augL, aug, hd, he]
      rw [augL_ed r, eds_set]
theorem augL_drains {m : Int} : ∀ (ks : List Nat) (l : List Left) (u : Int), (augL m l u ks).map Left.drain = l.map Left.drain
  | [], l, u => rfl
  | i :: r, l, u => by
    cases hd : l[i]? with
    | none => simp only [augL, hd]
    | some d =>
      simp only [augL, hd]
      rw [augL_drains r, List.map_set]
      have : (moreL m d u).drain = d.drain := by unfold moreL; split <;> rfl
      rw [this]
      apply List.ext_getElem?
      intro j
      rw [List.getElem?_set]
      by_cases h : i = j
      · subst h
        have := lt_of_at hd
        rw [if_pos rfl, if_pos (by simpa using this), List.getElem?_map, hd]; rfl
      · rw [if_neg h]
theorem caps_set {l : List Left} {i : Nat} {d d' : Left} (hc : Caps l) (h : 0 ≤ d'.runs ∧ d'.runs ≤ d'.drain.width ∧ d'.drain.width ≤ 1000) : Caps (l.set i d') := fun x hx => by
  rcases List.mem_or_eq_of_mem_set hx with h1 | rfl
  · exact hc x h1
  · exact h
theorem run_L1 (rec2 : List Left → Option (List Left)) {ks : List Nat} (hk : ks.length ≤ 1000) {m : Int} (hm : 0 ≤ m ∧ m ≤ 1000) : ∀ (suf pre : List Nat) (vis : List Int) (u v : Int) (l : List Left) (k : Nat), ks = pre ++ suf → Caps l → SP (Eds l) vis u suf v → AllRoom (Eds l) m u suf → suf.length < k →
    drain_run_L1 rec2 (ints ks) m k u (pre.length : Int) l = rec2 (augL m l u suf)
  | [], pre, vis, u, v, l, k + 1, hks, hc, h, ha, hlt => by
    show drain_run_B1 rec2 (ints ks) m (drain_run_L1 rec2 (ints ks) m k) u _ l = _
    unfold drain_run_B1
    rw [if_neg (by rw [hks]; simp [ints])]; rfl
  | i :: r, pre, vis, u, v, l, k + 1, hks, hc, h, ha, hlt => by
    have honce := sp_once h
    obtain ⟨e, he, hu, hp, hn, hr⟩ := h
    obtain ⟨e0, he0, hmr, har⟩ := ha
    rw [he] at he0; cases he0
    obtain ⟨d, hd, rfl⟩ := eds_at he
    have hcd := hc d (List.mem_of_getElem? hd)
    have hpl : pre.length < 1000 := by rw [hks] at hk; simp at hk; omega
    have hcong : ∀ j ∈ r, (Eds (l.set i (moreL m d u)))[j]? = (Eds l)[j]? := fun j hj => by
      rw [eds_set, List.getElem?_set_ne (fun h : i = j => honce (by rw [h]; exact hj))]
    have hcm : 0 ≤ (moreL m d u).runs ∧ (moreL m d u).runs ≤ (moreL m d u).drain.width ∧ (moreL m d u).drain.width ≤ 1000 := by
      unfold room at hmr
      unfold moreL
      by_cases h1 : d.drain.from_ = u
      · have h2 : (toEd d).a = u := h1
        rw [if_pos h2] at hmr
        rw [if_pos h1]
        have : m ≤ d.drain.width - d.runs := hmr
        simp only; omega
      · have h2 : ¬ (toEd d).a = u := h1
        rw [if_neg h2] at hmr
        rw [if_neg h1]
        have : m ≤ d.runs := hmr
        simp only; omega
    have ih := run_L1 rec2 hk hm r (pre ++ [i]) (u :: vis) (other (toEd d) u) v (l.set i (moreL m d u)) k (by rw [hks]; simp) (caps_set (d := d) hc hcm) (sp_congr r _ _ v hcong hr) (allRoom_congr r _ hcong har) (by simp at hlt; omega)
    have e1 : augL m l u (i :: r) = augL m (l.set i (moreL m d u)) (other (toEd d) u) r := by simp only [augL, hd]
    have e2 : (((pre ++ [i]).length : Nat) : Int) = (pre.length : Int) + 1 := by simp
    rw [e1, ← ih, e2]
    show drain_run_B1 rec2 (ints ks) m (drain_run_L1 rec2 (ints ks) m k) u _ l = _
    unfold drain_run_B1
    have hi : (ints ks)[pre.length]? = some (i : Int) := by rw [hks]; exact ints_at
    rw [if_pos (by have := lt_of_at hi; omega), ix_nat hi, ix_nat hd, bnd_eq (left_room_eq hcd), ix_nat hd]
    unfold drain_run_k1 moreL
    by_cases h1 : d.drain.from_ = u
    · rw [if_pos h1, ix_nat hd, gd_pos (by omega), ix_nat hd, gd_pos (by omega), if_pos h1]; rfl
    · rw [if_neg h1, ix_nat hd, gd_pos (by omega), ix_nat hd, gd_pos (by omega), if_neg h1]; rfl
/-- What is known of the program's drains. -/
structure FlowL (n : Net) (l : List Left) : Prop where
  drains : l.map Left.drain = n.drains
  flow : Flow n.nodes.toNat n.from_ n.to_ (Eds l)
  caps : Caps l
theorem flowL_ne {n : Net} {l : List Left} (hn : Net0 n) (h : FlowL n l) : ∀ e ∈ Eds l, e.a ≠ e.b := fun e he => by
  obtain ⟨d, hd, rfl⟩ := List.mem_map.1 he
  have : d.drain ∈ n.drains := by rw [← h.drains]; exact List.mem_map_of_mem hd
  exact (hn.dr _ this).2.2.1
theorem sp_len {E : List Ed} : ∀ (ks : List Nat) (vis : List Int) (u v : Int), SP E vis u ks v → (∀ i ∈ ks, i < E.length) ∧ ks.Nodup
  | [], _, _, _, _ => ⟨by simp, List.nodup_nil⟩
  | i :: r, vis, u, v, h => by
    have h1 := sp_once h
    obtain ⟨e, he, _, _, _, hr⟩ := h
    have ⟨i1, i2⟩ := sp_len r _ _ _ hr
    exact ⟨fun j hj => by
      rcases List.mem_cons.1 hj with rfl | hj
      · exact lt_at he
      · exact i1 j hj, List.nodup_cons.2 ⟨h1, i2⟩⟩
theorem nodup_len : ∀ (n : Nat) (ks : List Nat), (∀ i ∈ ks, i < n) → ks.Nodup → ks.length ≤ n
  | 0, [], _, _ => Nat.le_refl _
  | 0, i :: r, h, _ => absurd (h i (List.mem_cons_self ..)) (by omega)
  | n + 1, ks, h, hd => by
    have h1 : (ks.erase n).length ≤ n := nodup_len n (ks.erase n) (fun i hi => by
      have h2 := h i (List.mem_of_mem_erase hi)
      have h3 : i ≠ n := fun e => by rw [e] at hi; exact (List.Nodup.mem_erase_iff hd).1 hi |>.1 rfl
      omega) (hd.erase n)
    have := List.length_erase_le (a := n) (l := ks)
    by_cases hm : n ∈ ks
    · have := List.length_erase_of_mem hm; omega
    · rw [List.erase_of_not_mem hm] at h1; omega
/-- The search in the program's drains. -/
theorem search_eq {n : Net} {l : List Left} (hn : Net0 n) (h : FlowL n l) {s t : Int} (hs : 0 ≤ s ∧ s < n.nodes) (hst : s ≠ t) :
    (∃ ks : List Nat, ks ≠ [] ∧ ks.length ≤ 1000 ∧ drain_search l s t = some (ints ks) ∧ SP (Eds l) [] s ks t) ∨ (drain_search l s t = some [] ∧ ∃ S : Int → Bool, S s = true ∧ S t = false ∧ Closed S (Eds l) ∧ ∀ v, S v = true → Reach (Eds l) s v) := by
  have h8 := hn.n8
  have h2 := hn.n2
  have hlen : (Eds l).length ≤ 16 := by
    have := congrArg List.length h.drains
    have h3 := hn.len
    unfold Eds; simp at this ⊢; omega
  rcases search_spec (K := FU) h.flow.dom (caps_room h.caps) (by omega) (show 0 ≤ s ∧ s < ((n.nodes.toNat : Nat) : Int) by omega) hst (flowL_ne hn h) (by have := FU_pos; omega) with ⟨ks, k1, k2, k3⟩ | ⟨S, k1, k2, k3, k4, k5⟩
  · refine .inl ⟨ks, k1, ?_, ?_, k3⟩
    · have ⟨q1, q2⟩ := sp_len ks [] s t k3
      have := nodup_len _ ks q1 q2
      omega
    · unfold drain_search
      have k2' : dfs (l.map toEd) t FU s [] [] = some (.inr (ints ks)) := k2
      rw [gd_pos hst, k2']
      exact gd_pos (by unfold ints; simpa using k1)
  · refine .inr ⟨?_, sees S, k2, k3, k4, k5⟩
    unfold drain_search
    have k1' : dfs (l.map toEd) t FU s [] [] = some (.inl S) := k1
    rw [gd_pos hst, k1']
def Maxed (n : Net) (l : List Left) : Prop := FlowL n l ∧ ∃ S : Int → Bool, S n.from_ = true ∧ S n.to_ = false ∧ Closed S (Eds l) ∧ ∀ v, S v = true → Reach (Eds l) n.from_ v
theorem run_L3 {n : Net} (hn : Net0 n) : ∀ (q : Nat) (l : List Left) (k : Nat), FlowL n l → cutW (fun v => decide (v = n.from_)) (Eds l) - out (Eds l) n.from_ ≤ q → q < k → ∃ l', drain_run_L3 n k l = some l' ∧ Maxed n l' := by
  intro q
  induction q with
  | zero =>
    intro l k h hq hk
    obtain ⟨k, rfl⟩ : ∃ k', k = k' + 1 := ⟨k - 1, by omega⟩
    rcases search_eq hn h (s := n.from_) (t := n.to_) hn.s0 hn.ne with ⟨ks, k1, k2, k3, k4⟩ | ⟨k1, S, k2⟩
    · exfalso
      obtain ⟨m1, _, m3⟩ := minRoom_spec ks [] n.from_ n.to_ (-1) k4 (.inr ⟨by omega, k1⟩)
      obtain ⟨f1, f2, f3⟩ := aug_flow h.flow (Int.le_of_lt m1) hn.ne k4 m3
      have hw := weak f1 (show 0 ≤ n.from_ ∧ n.from_ < ((n.nodes.toNat : Nat) : Int) by have := hn.s0; omega) (S := fun v => decide (v = n.from_)) (by simp) (by have := hn.ne; simp; omega)
      rw [f2, alike_cut _ f3] at hw
      omega
    · refine ⟨l, ?_, h, S, k2⟩
      show drain_run_B3 n (drain_run_L3 n k) l = _
      unfold drain_run_B3
      rw [bnd_eq k1, if_pos rfl]
  | succ q ih =>
    intro l k h hq hk
    obtain ⟨k, rfl⟩ : ∃ k', k = k' + 1 := ⟨k - 1, by omega⟩
    rcases search_eq hn h (s := n.from_) (t := n.to_) hn.s0 hn.ne with ⟨ks, k1, k2, k3, k4⟩ | ⟨k1, S, k2⟩
    · obtain ⟨m1, _, m3⟩ := minRoom_spec ks [] n.from_ n.to_ (-1) k4 (.inr ⟨by omega, k1⟩)
      obtain ⟨f1, f2, f3⟩ := aug_flow h.flow (Int.le_of_lt m1) hn.ne k4 m3
      have hm1000 : minRoom (Eds l) n.from_ (-1) ks ≤ 1000 := by
        cases ks with
        | nil => exact absurd rfl k1
        | cons i r =>
          obtain ⟨e, he, hmr, _⟩ := m3
          obtain ⟨d, hd, rfl⟩ := eds_at he
          have := h.caps d (List.mem_of_getElem? hd)
          have : room (toEd d) n.from_ ≤ 1000 := by
            unfold room; split
            · show d.drain.width - d.runs ≤ 1000; omega
            · show d.runs ≤ 1000; omega
          omega
      have hcaps : Caps (augL (minRoom (Eds l) n.from_ (-1) ks) l n.from_ ks) := fun d hd => by
        have he : toEd d ∈ aug (minRoom (Eds l) n.from_ (-1) ks) (Eds l) n.from_ ks := by rw [← augL_ed]; exact List.mem_map_of_mem hd
        have hc := f1.cap _ he
        have hdm : d.drain ∈ n.drains := by rw [← h.drains, ← augL_drains (m := minRoom (Eds l) n.from_ (-1) ks) ks l n.from_]; exact List.mem_map_of_mem hd
        have := hn.dr _ hdm
        exact ⟨hc.1, hc.2, this.2.2.2.2⟩
      have hf' : FlowL n (augL (minRoom (Eds l) n.from_ (-1) ks) l n.from_ ks) := ⟨by rw [augL_drains]; exact h.drains, by rw [augL_ed]; exact f1, hcaps⟩
      obtain ⟨l', l1, l2⟩ := ih (augL (minRoom (Eds l) n.from_ (-1) ks) l n.from_ ks) k hf' (by rw [augL_ed, f2, alike_cut _ f3]; omega) (by omega)
      refine ⟨l', ?_, l2⟩
      rw [← l1]
      show drain_run_B3 n (drain_run_L3 n k) l = _
      unfold drain_run_B3
      rw [bnd_eq k3, if_neg (by unfold ints; simpa using k1)]
      have e1 := run_L2 (n := n) h.caps (drain_run_L3 n k) k2 ks [] [] n.from_ n.to_ (-1) FU rfl k4 (by have := FU_pos; omega)
      have e2 := run_L1 (drain_run_L3 n k) k2 (m := minRoom (Eds l) n.from_ (-1) ks) ⟨by omega, hm1000⟩ ks [] [] n.from_ n.to_ l FU rfl h.caps k4 m3 (by have := FU_pos; omega)
      refine Eq.trans e1 ?_
      unfold drain_run_k2
      exact e2
    · refine ⟨l, ?_, h, S, k2⟩
      show drain_run_B3 n (drain_run_L3 n k) l = _
      unfold drain_run_B3
      rw [bnd_eq k1, if_pos rfl]
def start (n : Net) : List Left := n.drains.map fun d => ⟨d, 0⟩
theorem out_zero (v : Int) : ∀ l : List Drain, out (Eds (l.map fun d => ⟨d, 0⟩)) v = 0
  | [] => rfl
  | d :: r => by
    have := out_zero v r
    unfold Eds at this ⊢
    simp only [List.map_cons, out, this]
    show ((if d.from_ = v then (0 : Int) else 0) - (if d.to_ = v then 0 else 0)) + 0 = 0
    split <;> split <;> rfl
theorem start_flow {n : Net} (hn : Net0 n) : FlowL n (start n) := by
  have h2 := hn.n2
  refine ⟨by unfold start; rw [List.map_map]; exact List.map_id _, ⟨fun e he => ?_, fun e he => ?_, fun v _ _ _ _ => out_zero v _⟩, fun d hd => ?_⟩
  · obtain ⟨x, hx, rfl⟩ := List.mem_map.1 he
    obtain ⟨d, hd, rfl⟩ := List.mem_map.1 hx
    have := hn.dr d hd
    refine ⟨⟨this.1.1, ?_⟩, this.2.1.1, ?_⟩
    · show d.from_ < _; omega
    · show d.to_ < _; omega
  · obtain ⟨x, hx, rfl⟩ := List.mem_map.1 he
    obtain ⟨d, hd, rfl⟩ := List.mem_map.1 hx
    have := hn.dr d hd
    exact ⟨Int.le_refl _, this.2.2.2.1⟩
  · obtain ⟨x, hx, rfl⟩ := List.mem_map.1 hd
    have := hn.dr x hx
    exact ⟨Int.le_refl _, this.2.2.2.1, this.2.2.2.2⟩
theorem cut_bnd (S : Int → Bool) : ∀ (l : List Left), (∀ d ∈ l, 0 ≤ d.drain.width ∧ d.drain.width ≤ 1000) → 0 ≤ cutW S (Eds l) ∧ cutW S (Eds l) ≤ 1000 * (l.length : Int)
  | [], _ => ⟨Int.le_refl _, Int.le_refl _⟩
  | d :: r, h => by
    have ih := cut_bnd S r (fun x hx => h x (List.mem_cons_of_mem _ hx))
    have := h d (List.mem_cons_self ..)
    have e : cutW S (Eds (d :: r)) = (if S d.drain.from_ = true ∧ S d.drain.to_ = false then d.drain.width else 0) + cutW S (Eds r) := rfl
    rw [e, List.length_cons]
    split <;> omega
theorem run_eq {n : Net} (hn : Net0 n) : ∃ l, drain_run n = some l ∧ Maxed n l := by
  have hlen := hn.len
  have hf := start_flow hn
  have hb := cut_bnd (fun v => decide (v = n.from_)) (start n) (fun d hd => by have := hf.caps d hd; omega)
  have hsl : (start n).length = n.drains.length := by unfold start; simp
  obtain ⟨l, l1, l2⟩ := run_L3 hn 16000 (start n) FU hf (by unfold start; rw [out_zero]; have := hb.2; unfold start at this; simp only [List.length_map] at this; omega) (by have := FU_pos; omega)
  refine ⟨l, ?_, l2⟩
  unfold drain_run
  refine Eq.trans (for0 n.drains.length (fun i => (start n).take i) (fun k s i => drain_run_L4 n k i s) (some l) rfl (fun k i hi => ?_) (fun k => ?_) (by omega)) rfl
  · have hx : n.drains[i]? = some n.drains[i] := by simp [hi]
    have hs : (start n)[i]? = some ⟨n.drains[i], 0⟩ := by unfold start; rw [List.getElem?_map, hx]; rfl
    show drain_run_B4 n (drain_run_L4 n k) _ _ = _
    unfold drain_run_B4
    rw [if_pos (by omega), ix_nat hx, gd_pos (by simp; omega), gd_pos (by omega), List.take_add_one, hs]; rfl
  · show drain_run_B4 n (drain_run_L4 n k) _ _ = _
    unfold drain_run_B4
    rw [if_neg (by omega)]
    unfold drain_run_k5
    rw [List.take_of_length_le (by omega)]; exact l1
end Go.D2

set_option linter.unusedVariables false
set_option linter.unusedSimpArgs false
namespace Go.D2
open Go.Tb
def En (n : Net) (fl : List Int) : List Ed := List.zipWith (fun d f => (⟨d.from_, d.to_, d.width, f⟩ : Ed)) n.drains fl
theorem en_at {n : Net} {fl : List Int} {i : Nat} {d : Drain} {f : Int} (h1 : n.drains[i]? = some d) (h2 : fl[i]? = some f) : (En n fl)[i]? = some ⟨d.from_, d.to_, d.width, f⟩ := by
  unfold En
  rw [List.getElem?_zipWith, h1, h2]
theorem en_len {n : Net} {fl : List Int} (h : fl.length = n.drains.length) : (En n fl).length = n.drains.length := by unfold En; simp; omega
theorem eds_en : ∀ (l : List Left), Eds l = List.zipWith (fun d f => (⟨d.from_, d.to_, d.width, f⟩ : Ed)) (l.map Left.drain) (l.map Left.runs)
  | [] => rfl
  | d :: r => by
    have := eds_en r
    unfold Eds at this ⊢
    simp only [List.map_cons, List.zipWith_cons_cons, this]; rfl
theorem flowL_en {n : Net} {l : List Left} (h : l.map Left.drain = n.drains) : Eds l = En n (l.map Left.runs) := by
  rw [eds_en, h]; rfl
theorem flowOf_eq {l : List Left} (hl : l.length ≤ 1000) : drain_flowOf l = some (l.map Left.runs) := by
  unfold drain_flowOf
  refine Eq.trans (for0 l.length (fun i => (l.map Left.runs).take i) (fun n s i => drain_flowOf_L1 l n i s) (some (l.map Left.runs)) rfl (fun n i hi => ?_) (fun n => ?_) (by omega)) rfl
  · have hx : l[i]? = some l[i] := by simp [hi]
    have hs : (l.map Left.runs)[i]? = some l[i].runs := by rw [List.getElem?_map, hx]; rfl
    show drain_flowOf_B1 l (drain_flowOf_L1 l n) _ _ = _
    unfold drain_flowOf_B1
    rw [if_pos (by omega), ix_nat hx, gd_pos (by simp; omega), gd_pos (by omega), List.take_add_one, hs]; rfl
  · show drain_flowOf_B1 l (drain_flowOf_L1 l n) _ _ = _
    unfold drain_flowOf_B1
    rw [if_neg (by omega)]
    unfold drain_flowOf_k1
    rw [List.take_of_length_le (by simp)]
theorem out_take {e : Ed} (v : Int) : ∀ {E : List Ed} {i : Nat}, E[i]? = some e → out (E.take (i + 1)) v = out (E.take i) v + con1 e v
  | [], i, h => by simp at h
  | x :: r, 0, h => by simp at h; subst h; simp [out, con1]
  | x :: r, i + 1, h => by
    have := out_take (e := e) v (E := r) (i := i) (by simpa using h)
    simp only [List.take_succ_cons, out_cons, this]; omega
theorem out_bnd {M : Int} (hM : 0 ≤ M) (v : Int) : ∀ E : List Ed, (∀ e ∈ E, -M ≤ e.f ∧ e.f ≤ M) → -(2 * M) * (E.length : Int) ≤ out E v ∧ out E v ≤ 2 * M * (E.length : Int)
  | [], _ => by simp [out]
  | e :: r, h => by
    have ih := out_bnd hM v r (fun x hx => h x (List.mem_cons_of_mem _ hx))
    have he := h e (List.mem_cons_self ..)
    have e1 : ((List.length (e :: r) : Nat) : Int) = (r.length : Int) + 1 := by simp
    rw [out_cons, e1, Int.mul_add, Int.mul_add]
    have : -(2 * M) ≤ con1 e v ∧ con1 e v ≤ 2 * M := by
      unfold con1
      split <;> split <;> omega
    omega
def FBnd (fl : List Int) : Prop := ∀ x ∈ fl, -1000000 ≤ x ∧ x ≤ 1000000
theorem en_bnd {n : Net} {fl : List Int} (h : FBnd fl) : ∀ e ∈ En n fl, -1000000 ≤ e.f ∧ e.f ≤ 1000000 := fun e he => by
  obtain ⟨i, hi⟩ := List.getElem?_of_mem he
  unfold En at hi
  rw [List.getElem?_zipWith] at hi
  cases h1 : n.drains[i]? with
  | none => rw [h1] at hi; cases hi
  | some d =>
    cases h2 : fl[i]? with
    | none => rw [h1, h2] at hi; cases hi
    | some f =>
      rw [h1, h2] at hi; cases hi
      exact h f (List.mem_of_getElem? h2)
theorem part_bnd {n : Net} {fl : List Int} (h : FBnd fl) (hl : n.drains.length ≤ 1000) (v : Int) (i : Nat) : -2000000000 ≤ out ((En n fl).take i) v ∧ out ((En n fl).take i) v ≤ 2000000000 := by
  have := out_bnd (M := 1000000) (by omega) v ((En n fl).take i) (fun e he => en_bnd h e (List.mem_of_mem_take he))
  have h2 : ((En n fl).take i).length ≤ 1000 := by
    rw [List.length_take]
    have : (En n fl).length ≤ n.drains.length := by unfold En; simp; omega
    omega
  omega
theorem value_eq {n : Net} {fl : List Int} (hf : fl.length = n.drains.length) (hl : n.drains.length ≤ 1000) (hb : FBnd fl) (v : Int) : drain_value n fl v = some (out (En n fl) v) := by
  have hE := en_len hf
  unfold drain_value
  refine Eq.trans (for0 n.drains.length (fun i => out ((En n fl).take i) v) (fun k s i => drain_value_L1 n fl v k s i) (some (out (En n fl) v)) rfl (fun k i hi => ?_) (fun k => ?_) (by omega)) rfl
  · have hx : n.drains[i]? = some n.drains[i] := by simp [hi]
    have hy : fl[i]? = some (fl[i]'(by omega)) := List.getElem?_eq_getElem _
    have he := out_take v (en_at hx hy)
    have b1 := part_bnd hb hl v i
    have b2 := hb _ (List.mem_of_getElem? hy)
    show drain_value_B1 n fl v (drain_value_L1 n fl v k) _ _ = _
    unfold drain_value_B1 drain_value_k3 drain_value_k2
    rw [if_pos (by omega), ix_nat hx, he]
    unfold con1
    simp only
    by_cases h1 : n.drains[i].from_ = v
    · rw [if_pos h1, ix_nat hy, gd_pos (by omega), if_pos h1]
      by_cases h2 : n.drains[i].to_ = v
      · rw [if_pos h2, ix_nat hy, gd_pos (by omega), gd_pos (by omega), if_pos h2]
        congr 1; omega
      · rw [if_neg h2, gd_pos (by omega), if_neg h2]
        congr 1; omega
    · rw [if_neg h1, if_neg h1]
      by_cases h2 : n.drains[i].to_ = v
      · rw [if_pos h2, ix_nat hy, gd_pos (by omega), gd_pos (by omega), if_pos h2]
        congr 1; omega
      · rw [if_neg h2, gd_pos (by omega), if_neg h2]
        congr 1; omega
  · show drain_value_B1 n fl v (drain_value_L1 n fl v k) _ _ = _
    unfold drain_value_B1
    rw [if_neg (by omega)]
    unfold drain_value_k1
    rw [List.take_of_length_le (by omega)]
def inS (m : Nat) (v : Int) : Bool := m.testBit v.toNat
theorem set_of : ∀ (k : Nat) (S : Nat → Bool), ∃ m, m < 2 ^ k ∧ ∀ v, v < k → m.testBit v = S v
  | 0, S => ⟨0, by decide, fun v hv => by omega⟩
  | k + 1, S => by
    obtain ⟨m, h1, h2⟩ := set_of k (fun v => S (v + 1))
    refine ⟨2 * m + (S 0).toNat, ?_, fun v hv => ?_⟩
    · rw [Nat.pow_succ]
      have : (S 0).toNat ≤ 1 := Bool.toNat_le _
      omega
    · cases v with
      | zero =>
        rw [Nat.testBit_zero]
        cases S 0 <;> simp
      | succ v =>
        rw [Nat.testBit_succ]
        have : (2 * m + (S 0).toNat) / 2 = m := by
          have : (S 0).toNat ≤ 1 := Bool.toNat_le _
          omega
        rw [this]; exact h2 v (by omega)
def cutD (S : Int → Bool) : List Drain → Int
  | [] => 0
  | d :: r => (if S d.from_ = true ∧ S d.to_ = false then d.width else 0) + cutD S r
theorem cutW_eds (S : Int → Bool) : ∀ l : List Left, cutW S (Eds l) = cutD S (l.map Left.drain)
  | [] => rfl
  | d :: r => by
    have := cutW_eds S r
    have e : cutW S (Eds (d :: r)) = (if S d.drain.from_ = true ∧ S d.drain.to_ = false then d.drain.width else 0) + cutW S (Eds r) := rfl
    rw [e, this]; rfl
theorem cutD_congr {S T : Int → Bool} : ∀ l : List Drain, (∀ d ∈ l, S d.from_ = T d.from_ ∧ S d.to_ = T d.to_) → cutD S l = cutD T l
  | [], _ => rfl
  | d :: r, h => by
    have := h d (List.mem_cons_self ..)
    simp only [cutD, this.1, this.2, cutD_congr r (fun x hx => h x (List.mem_cons_of_mem _ hx))]
theorem cutD_bnd (S : Int → Bool) : ∀ l : List Drain, (∀ d ∈ l, 0 ≤ d.width ∧ d.width ≤ 1000) → 0 ≤ cutD S l ∧ cutD S l ≤ 1000 * (l.length : Int)
  | [], _ => ⟨Int.le_refl _, Int.le_refl _⟩
  | d :: r, h => by
    have ih := cutD_bnd S r (fun x hx => h x (List.mem_cons_of_mem _ hx))
    have := h d (List.mem_cons_self ..)
    simp only [cutD, List.length_cons]
    split <;> omega
theorem cutD_take {S : Int → Bool} {d : Drain} : ∀ {l : List Drain} {i : Nat}, l[i]? = some d → cutD S (l.take (i + 1)) = cutD S (l.take i) + (if S d.from_ = true ∧ S d.to_ = false then d.width else 0)
  | [], i, h => by simp at h
  | x :: r, 0, h => by simp at h; subst h; simp [cutD]
  | x :: r, i + 1, h => by
    have := cutD_take (S := S) (d := d) (l := r) (i := i) (by simpa using h)
    simp only [List.take_succ_cons, cutD, this]; omega
def cutB (n : Net) (m : Nat) : Bool := inS m n.from_ && !inS m n.to_
def bestC (n : Net) : Nat → Int
  | 0 => -1
  | i + 1 => if cutB n i = true then (if bestC n i < 0 ∨ cutD (inS i) n.drains < bestC n i then cutD (inS i) n.drains else bestC n i) else bestC n i
theorem bestC_spec {n : Net} (hn : Net0 n) : ∀ i, ((∀ j, j < i → cutB n j = false) ∧ bestC n i = -1) ∨ (0 ≤ bestC n i ∧ (∀ j, j < i → cutB n j = true → bestC n i ≤ cutD (inS j) n.drains) ∧ ∃ j, j < i ∧ cutB n j = true ∧ cutD (inS j) n.drains = bestC n i)
  | 0 => .inl ⟨fun j hj => by omega, rfl⟩
  | i + 1 => by
    have ih := bestC_spec hn i
    have hb := (cutD_bnd (inS i) n.drains (fun d hd => by have := hn.dr d hd; omega)).1
    simp only [bestC]
    by_cases hc : cutB n i = true
    · rw [if_pos hc]
      refine .inr ?_
      rcases ih with ⟨h1, h2⟩ | ⟨h1, h2, j, h3, h4, h5⟩
      · rw [if_pos (.inl (by omega))]
        refine ⟨hb, fun j hj hcj => ?_, i, by omega, hc, rfl⟩
        by_cases hji : j = i
        · subst hji; exact Int.le_refl _
        · rw [h1 j (by omega)] at hcj; cases hcj
      · by_cases hlt : cutD (inS i) n.drains < bestC n i
        · rw [if_pos (.inr hlt)]
          refine ⟨hb, fun j hj hcj => ?_, i, by omega, hc, rfl⟩
          by_cases hji : j = i
          · subst hji; exact Int.le_refl _
          · have := h2 j (by omega) hcj; omega
        · rw [if_neg (by omega)]
          refine ⟨h1, fun j hj hcj => ?_, j, by omega, h4, h5⟩
          by_cases hji : j = i
          · subst hji; omega
          · exact h2 j (by omega) hcj
    · rw [if_neg hc]
      rcases ih with ⟨h1, h2⟩ | ⟨h1, h2, j, h3, h4, h5⟩
      · refine .inl ⟨fun j hj => ?_, h2⟩
        by_cases hji : j = i
        · subst hji; simpa using hc
        · exact h1 j (by omega)
      · refine .inr ⟨h1, fun j hj hcj => ?_, j, by omega, h4, h5⟩
        by_cases hji : j = i
        · subst hji; exact absurd hcj hc
        · exact h2 j (by omega) hcj
def mostN (n : Net) : Int := bestC n (2 ^ n.nodes.toNat)
/-- A set as a number, and its width. -/
theorem cut_num {n : Net} (hn : Net0 n) (S : Int → Bool) : ∃ m, m < 2 ^ n.nodes.toNat ∧ (∀ v : Int, 0 ≤ v → v < n.nodes → inS m v = S v) ∧ cutD (inS m) n.drains = cutD S n.drains := by
  obtain ⟨m, h1, h2⟩ := set_of n.nodes.toNat (fun v => S (v : Int))
  have key : ∀ v : Int, 0 ≤ v → v < n.nodes → inS m v = S v := fun v v0 v1 => by
    unfold inS
    rw [h2 v.toNat (by omega), show ((v.toNat : Nat) : Int) = v by omega]
  exact ⟨m, h1, key, cutD_congr _ fun d hd => by have := hn.dr d hd; exact ⟨key _ this.1.1 this.1.2, key _ this.2.1.1 this.2.1.2⟩⟩
theorem most_le {n : Net} (hn : Net0 n) {S : Int → Bool} (h1 : S n.from_ = true) (h2 : S n.to_ = false) : mostN n ≤ cutD S n.drains := by
  obtain ⟨m, m1, m2, m3⟩ := cut_num hn S
  have hc : cutB n m = true := by
    unfold cutB
    rw [m2 _ hn.s0.1 hn.s0.2, m2 _ hn.t0.1 hn.t0.2, h1, h2]; rfl
  rcases bestC_spec hn (2 ^ n.nodes.toNat) with ⟨h3, _⟩ | ⟨_, h3, _⟩
  · rw [h3 m m1] at hc; cases hc
  · have := h3 m m1 hc
    rw [m3] at this; exact this
theorem most_at {n : Net} (hn : Net0 n) : ∃ S : Int → Bool, S n.from_ = true ∧ S n.to_ = false ∧ cutD S n.drains = mostN n := by
  obtain ⟨m, m1, m2, m3⟩ := cut_num hn (fun v => decide (v = n.from_))
  have hne := hn.ne
  have hc : cutB n m = true := by
    unfold cutB
    rw [m2 _ hn.s0.1 hn.s0.2, m2 _ hn.t0.1 hn.t0.2]; simp; omega
  rcases bestC_spec hn (2 ^ n.nodes.toNat) with ⟨h3, _⟩ | ⟨_, _, j, j1, j2, j3⟩
  · rw [h3 m m1] at hc; cases hc
  · unfold cutB at j2
    simp only [Bool.and_eq_true, Bool.not_eq_true'] at j2
    exact ⟨inS j, j2.1, j2.2, j3⟩
theorem maxed_val {n : Net} (hn : Net0 n) {l : List Left} (h : Maxed n l) : out (Eds l) n.from_ = mostN n := by
  obtain ⟨hf, S, s1, s2, s3, _⟩ := h
  have hs : 0 ≤ n.from_ ∧ n.from_ < ((n.nodes.toNat : Nat) : Int) := by have := hn.s0; omega
  have h1 : out (Eds l) n.from_ = cutW S (Eds l) := (tight_iff hf.flow hs s1 s2).2 ((closed_tight hf.flow.cap).1 s3)
  rw [cutW_eds, hf.drains] at h1
  have h2 := most_le hn s1 s2
  obtain ⟨T, t1, t2, t3⟩ := most_at hn
  have h3 := weak hf.flow hs t1 t2
  rw [cutW_eds, hf.drains, t3] at h3
  omega
theorem maxed_bnd {n : Net} {l : List Left} (h : Maxed n l) : FBnd (l.map Left.runs) := fun x hx => by
  obtain ⟨d, hd, rfl⟩ := List.mem_map.1 hx
  have := h.1.caps d hd
  omega
theorem maxed_len {n : Net} {l : List Left} (h : Maxed n l) : l.length = n.drains.length := by
  have := congrArg List.length h.1.drains
  simpa using this
theorem most_eq {n : Net} (hn : Net0 n) : drain_most n = some (mostN n) := by
  obtain ⟨l, l1, l2⟩ := run_eq hn
  have hl := hn.len
  have hll := maxed_len l2
  unfold drain_most
  rw [bnd_eq l1, bnd_eq (flowOf_eq (by omega)), bnd_eq (value_eq (by simpa using hll) (by omega) (maxed_bnd l2) _), ← flowL_en l2.1.drains, maxed_val hn l2]
end Go.D2

set_option linter.unusedVariables false
set_option linter.unusedSimpArgs false
namespace Go.D2
open Go.Tb
def gi (l : List Int) (i : Nat) : Int := l.getD i 0
theorem gi_at {l : List Int} {i : Nat} (h : i < l.length) : l[i]? = some (gi l i) := by simp [gi, List.getD, h]
theorem gi_of {l : List Int} {i : Nat} {x : Int} (h : l[i]? = some x) : gi l i = x := by simp [gi, List.getD, h]
def gd_ (l : List Drain) (i : Nat) : Drain := l.getD i ⟨0, 0, 0⟩
theorem gd_at {l : List Drain} {i : Nat} (h : i < l.length) : l[i]? = some (gd_ l i) := by simp [gd_, List.getD, h]
def capsB (n : Net) (fl : List Int) : Bool := decide (∀ i, i < fl.length → within (gi fl i) 0 (gd_ n.drains i).width = true)
def conB (n : Net) (fl : List Int) : Bool := decide (∀ v, v < n.nodes.toNat → (decide ((v : Int) = n.from_) || decide ((v : Int) = n.to_) || decide (out (En n fl) v = 0)) = true)
def checkR (n : Net) (fl : List Int) : Int × Int :=
  if validate n = 0 then (if fl.length = n.drains.length then (if capsB n fl = true then (if conB n fl = true then (out (En n fl) n.from_, 0) else (0, 7)) else (0, 6)) else (0, 1)) else (0, validate n)
theorem caps_fbnd {n : Net} (hn : NetOk n) {fl : List Int} (hl : fl.length = n.drains.length) (h : capsB n fl = true) : ∀ x ∈ fl, 0 ≤ x ∧ x ≤ 20 := fun x hx => by
  obtain ⟨i, hi⟩ := List.getElem?_of_mem hx
  have hlt := lt_at hi
  have := within_iff.1 (of_decide_eq_true h i hlt)
  rw [gi_of hi] at this
  have hd := hn.w20 _ (List.mem_of_getElem? (gd_at (l := n.drains) (i := i) (by omega)))
  omega
theorem con_loop {R : Type} {n : Net} (hn : Net0 n) (fl : List Int) (L : Nat → Int → Option R) (yes no : Option R)
    (step : ∀ k v : Nat, v < n.nodes.toNat → L (k + 1) (v : Int) = if (decide ((v : Int) = n.from_) || decide ((v : Int) = n.to_) || decide (out (En n fl) v = 0)) = true then L k ((v + 1 : Nat) : Int) else no)
    (stop : ∀ k : Nat, L (k + 1) (n.nodes.toNat : Int) = yes) : L FU 0 = if conB n fl = true then yes else no := by
  have h8 := hn.n8
  have h := scan_loop0 n.nodes.toNat (fun v => (decide ((v : Int) = n.from_) || decide ((v : Int) = n.to_) || decide (out (En n fl) v = 0))) (fun _ => ()) (fun k _ i => L k i) yes no step stop (by omega)
  refine Eq.trans h ?_
  unfold conB
  by_cases hc : ∀ v, v < n.nodes.toNat → (decide ((v : Int) = n.from_) || decide ((v : Int) = n.to_) || decide (out (En n fl) v = 0)) = true
  · rw [if_pos hc, decide_eq_true hc, if_pos rfl]
  · rw [if_neg hc, decide_eq_false hc, if_neg (by simp)]
theorem CheckFlow_eq {n : Net} (hl : n.drains.length ≤ 1000) {fl : List Int} (hf : fl.length ≤ 1000) : drain_CheckFlow n fl = some (checkR n fl) := by
  unfold drain_CheckFlow checkR
  rw [bnd_eq (Validate_eq hl)]
  by_cases hv : validate n = 0
  · have hn := val0.1 hv
    have h8 := hn.n8
    have h2 := hn.n2
    rw [if_pos hv, if_pos hv]
    by_cases hln : fl.length = n.drains.length
    · rw [if_pos (by omega), if_pos hln]
      have h := scan_loop0 fl.length (fun i => within (gi fl i) 0 (gd_ n.drains i).width) (fun _ => ()) (fun k _ i => drain_CheckFlow_L2 n fl k i) (drain_CheckFlow_k3 n fl) (some ((0 : Int), (6 : Int))) (fun k i hi => ?_) (fun k => ?_) (by omega)
      · refine Eq.trans h ?_
        unfold capsB
        by_cases hc : ∀ i, i < fl.length → within (gi fl i) 0 (gd_ n.drains i).width = true
        · have hcb : capsB n fl = true := decide_eq_true hc
          have hfb := caps_fbnd hn hln hcb
          have hfb' : FBnd fl := fun x hx => by have := hfb x hx; omega
          rw [if_pos hc, decide_eq_true hc, if_pos rfl]
          unfold drain_CheckFlow_k3
          rw [con_loop hn.toNet0 fl (drain_CheckFlow_L1 n fl) (some (out (En n fl) n.from_, 0)) (some ((0 : Int), (7 : Int))) (fun k v hv => ?_) (fun k => ?_)]
          · split <;> rfl
          · show drain_CheckFlow_B1 n fl (drain_CheckFlow_L1 n fl k) _ = _
            unfold drain_CheckFlow_B1 drain_CheckFlow_k2
            rw [if_pos (by omega)]
            by_cases h1 : (v : Int) = n.from_
            · rw [if_pos h1, if_neg (by simp), gd_pos (by omega), if_pos (by simp [h1])]; rfl
            · rw [if_neg h1]
              by_cases h3 : (v : Int) = n.to_
              · rw [if_pos h3, if_neg (by simp), gd_pos (by omega), if_pos (by simp [h3])]; rfl
              · rw [if_neg h3, bnd_eq (value_eq hln hl hfb' _)]
                by_cases h4 : out (En n fl) v = 0
                · rw [if_neg (by simp [h4]), gd_pos (by omega), if_pos (by simp [h4])]; rfl
                · rw [if_pos (by simp [h4]), if_neg (by simp [h1, h3, h4])]
          · show drain_CheckFlow_B1 n fl (drain_CheckFlow_L1 n fl k) _ = _
            unfold drain_CheckFlow_B1
            rw [if_neg (by omega)]
            unfold drain_CheckFlow_k1
            rw [bnd_eq (value_eq hln hl hfb' _)]
        · rw [if_neg hc, decide_eq_false hc, if_neg (by simp)]
      · show drain_CheckFlow_B2 n fl (drain_CheckFlow_L2 n fl k) _ = _
        unfold drain_CheckFlow_B2
        rw [if_pos (by omega), ix_nat (gi_at hi), ix_nat (gd_at (by omega)), bnd_eq (from_eq _ _ _)]
        by_cases hw : within (gi fl i) 0 (gd_ n.drains i).width = true
        · rw [if_pos hw, gd_pos (by omega), if_pos hw]; rfl
        · rw [if_neg hw, if_neg hw]
      · show drain_CheckFlow_B2 n fl (drain_CheckFlow_L2 n fl k) _ = _
        unfold drain_CheckFlow_B2
        rw [if_neg (by omega)]
    · rw [if_neg (by omega), if_neg hln]
  · rw [if_neg hv, if_neg hv]
/-- A right list is a flow. -/
theorem check0 {n : Net} {fl : List Int} (h : (checkR n fl).2 = 0) : NetOk n ∧ fl.length = n.drains.length ∧ Flow n.nodes.toNat n.from_ n.to_ (En n fl) ∧ (checkR n fl).1 = out (En n fl) n.from_ := by
  unfold checkR at h ⊢
  split at h
  · rename_i hv
    have hn := val0.1 hv
    have h2 := hn.n2
    split at h
    · rename_i hl
      split at h
      · rename_i hc
        split at h
        · rename_i hcon
          rw [if_pos hv, if_pos hl, if_pos hc, if_pos hcon]
          have mem : ∀ e ∈ En n fl, ∃ (i : Nat) (d : Drain) (f : Int), n.drains[i]? = some d ∧ fl[i]? = some f ∧ e = ⟨d.from_, d.to_, d.width, f⟩ := fun e he => by
            obtain ⟨i, hi⟩ := List.getElem?_of_mem he
            unfold En at hi
            rw [List.getElem?_zipWith] at hi
            cases h1 : n.drains[i]? with
            | none => rw [h1] at hi; cases hi
            | some d =>
              cases h2 : fl[i]? with
              | none => rw [h1, h2] at hi; cases hi
              | some f => rw [h1, h2] at hi; cases hi; exact ⟨i, d, f, h1, h2, rfl⟩
          refine ⟨hn, hl, ⟨fun e he => ?_, fun e he => ?_, fun v v0 v1 n1 n2 => ?_⟩, rfl⟩
          · obtain ⟨i, d, f, h1, h2', rfl⟩ := mem e he
            have := hn.dr d (List.mem_of_getElem? h1)
            exact ⟨⟨this.1.1, by show d.from_ < _; omega⟩, this.2.1.1, by show d.to_ < _; omega⟩
          · obtain ⟨i, d, f, h1, h2', rfl⟩ := mem e he
            have hlt := lt_at h2'
            have := within_iff.1 (of_decide_eq_true hc i hlt)
            rw [gi_of h2'] at this
            have hg : gd_ n.drains i = d := by simp [gd_, List.getD, h1]
            rw [hg] at this
            exact this
          · have := of_decide_eq_true hcon v.toNat (by omega)
            rw [show ((v.toNat : Nat) : Int) = v by omega] at this
            simp only [Bool.or_eq_true, decide_eq_true_eq] at this
            rcases this with (h1 | h1) | h1
            · exact absurd h1 n1
            · exact absurd h1 n2
            · exact h1
        · cases h
      · cases h
    · cases h
  · rename_i hv; exact absurd h hv
theorem maxed_check {n : Net} (hn : NetOk n) {l : List Left} (h : Maxed n l) : checkR n (l.map Left.runs) = (mostN n, 0) := by
  have hll := maxed_len h
  have hE := flowL_en h.1.drains
  have hc : capsB n (l.map Left.runs) = true := decide_eq_true fun i hi => by
    have hi' : i < l.length := by simpa using hi
    have hx : l[i]? = some l[i] := by simp [hi']
    have h1 : (l.map Left.runs)[i]? = some l[i].runs := by rw [List.getElem?_map, hx]; rfl
    have h2 : n.drains[i]? = some l[i].drain := by rw [← h.1.drains, List.getElem?_map, hx]; rfl
    have h3 : gd_ n.drains i = l[i].drain := by simp [gd_, List.getD, h2]
    rw [gi_of h1, h3]
    have := h.1.caps l[i] (List.getElem_mem _)
    exact within_iff.2 ⟨this.1, this.2.1⟩
  have hcon : conB n (l.map Left.runs) = true := decide_eq_true fun v hv => by
    simp only [Bool.or_eq_true, decide_eq_true_eq]
    by_cases h1 : (v : Int) = n.from_
    · exact .inl (.inl h1)
    · by_cases h2 : (v : Int) = n.to_
      · exact .inl (.inr h2)
      · right
        rw [← hE]
        exact h.1.flow.con v (by omega) (by omega) h1 h2
  unfold checkR
  rw [if_pos (val0.2 hn), if_pos (by simpa using hll), if_pos hc, if_pos hcon, ← hE, maxed_val hn.toNet0 h]
def mostR (n : Net) : Int × Int := if validate n = 0 then (mostN n, 0) else (0, validate n)
theorem Most_eq {n : Net} (hl : n.drains.length ≤ 1000) : drain_Most n = some (mostR n) := by
  unfold drain_Most mostR
  rw [bnd_eq (Validate_eq hl)]
  by_cases hv : validate n = 0
  · rw [if_pos hv, if_pos hv, bnd_eq (most_eq (val0.1 hv).toNet0)]
  · rw [if_neg hv, if_neg hv]
/-- What Flow returns. -/
theorem Flow_eq {n : Net} (hl : n.drains.length ≤ 1000) : (NetOk n ∧ ∃ l, Maxed n l ∧ drain_run n = some l ∧ drain_Flow n = some (l.map Left.runs, 0)) ∨ (validate n ≠ 0 ∧ drain_Flow n = some ([], validate n)) := by
  unfold drain_Flow
  rw [bnd_eq (Validate_eq hl)]
  by_cases hv : validate n = 0
  · have hn := val0.1 hv
    obtain ⟨l, l1, l2⟩ := run_eq hn.toNet0
    have := maxed_len l2
    refine .inl ⟨hn, l, l2, l1, ?_⟩
    rw [if_pos hv, bnd_eq l1, bnd_eq (flowOf_eq (by omega))]
  · exact .inr ⟨hv, by rw [if_neg hv]⟩
theorem Long_eq (n : Net) : law02_Long n = some (decide ((100 : Int) < (n.drains.length : Int))) := rfl
end Go.D2

set_option linter.unusedVariables false
set_option linter.unusedSimpArgs false
namespace Go.D2
open Go.Tb
theorem map_loop0 {α β R : Type} (l : List α) (f : α → β) (L : Nat → List β → Int → Option R) (yes : Option R)
    (step : ∀ (n i : Nat) (x : α), l[i]? = some x → L (n + 1) ((l.map f).take i) (i : Int) = L n ((l.map f).take i ++ [f x]) ((i + 1 : Nat) : Int))
    (stop : ∀ n : Nat, L (n + 1) (l.map f) (l.length : Int) = yes) (hl : l.length ≤ 9223372036854775807) : L FU [] 0 = yes := by
  refine for0 l.length (fun i => (l.map f).take i) L yes rfl (fun n i hi => ?_) (fun n => ?_) hl
  · have hx : l[i]? = some l[i] := by simp [hi]
    have hs : (l.map f)[i]? = some (f l[i]) := by rw [List.getElem?_map, hx]; rfl
    rw [step n i _ hx, List.take_add_one, hs]; rfl
  · rw [List.take_of_length_le (by simp)]; exact stop n
theorem index_eq {l : List Int} (x : Int) (hl : l.length ≤ 1000) : ∀ (suf pre : List Int) (k : Nat), l = pre ++ suf → suf.length < k → ∃ i : Int, slices_Index_int_L1 l x k (pre.length : Int) = some i ∧ (0 ≤ i ↔ x ∈ suf)
  | [], pre, k + 1, h, hk => by
    refine ⟨-1, ?_, by simp⟩
    show slices_Index_int_B1 l x (slices_Index_int_L1 l x k) _ = _
    unfold slices_Index_int_B1
    rw [if_neg (by rw [h]; simp)]; rfl
  | y :: r, pre, k + 1, h, hk => by
    have hy : l[pre.length]? = some y := by rw [h, List.getElem?_append_right (Nat.le_refl _)]; simp
    have := lt_of_at hy
    obtain ⟨i, h1, h2⟩ := index_eq x hl r (pre ++ [y]) k (by rw [h]; simp) (by simp at hk; omega)
    have e : slices_Index_int_L1 l x (k + 1) (pre.length : Int) = slices_Index_int_B1 l x (slices_Index_int_L1 l x k) (pre.length : Int) := rfl
    rw [e]
    unfold slices_Index_int_B1
    rw [if_pos (by omega), ix_nat hy]
    by_cases hxy : x = y
    · rw [if_pos hxy]
      exact ⟨_, rfl, by simp [hxy]⟩
    · rw [if_neg hxy, gd_pos (by omega)]
      rw [show (((pre ++ [y]).length : Nat) : Int) = (pre.length : Int) + 1 by simp] at h1
      exact ⟨i, h1, by rw [h2]; simp [hxy]⟩
def mem (l : List Int) (x : Int) : Bool := decide (x ∈ l)
theorem contains_eq {l : List Int} (x : Int) (hl : l.length ≤ 1000) : slices_Contains_int l x = some (mem l x) := by
  obtain ⟨i, h1, h2⟩ := index_eq x hl l [] FU rfl (by have := FU_pos; omega)
  unfold slices_Contains_int slices_Index_int
  have h1' : slices_Index_int_L1 l x FU 0 = some i := h1
  rw [bnd_eq h1']
  congr 1
  unfold mem
  exact decide_eq_decide.2 h2
theorem across_eq {n : Net} (hn : Net0 n) {l : List Int} (hl : l.length ≤ 1000) : drain_across n l = some (cutD (mem l) n.drains) := by
  have hlen := hn.len
  unfold drain_across
  refine Eq.trans (for0 n.drains.length (fun i => cutD (mem l) (n.drains.take i)) (fun k s i => drain_across_L1 n l k s i) (some (cutD (mem l) n.drains)) rfl (fun k i hi => ?_) (fun k => ?_) (by omega)) rfl
  · have hx : n.drains[i]? = some n.drains[i] := by simp [hi]
    have hd := hn.dr _ (List.getElem_mem hi)
    have hb := cutD_bnd (mem l) (n.drains.take i) (fun d hd => by have := hn.dr d (List.mem_of_mem_take hd); omega)
    have hlt : (n.drains.take i).length ≤ 16 := by rw [List.length_take]; omega
    show drain_across_B1 n l (drain_across_L1 n l k) _ _ = _
    unfold drain_across_B1
    rw [if_pos (by omega), ix_nat hx, bnd_eq (contains_eq _ hl), cutD_take hx]
    unfold drain_across_k3 drain_across_k2
    cases h1 : mem l n.drains[i].from_
    · rw [if_neg (by simp), if_neg (by simp), gd_pos (by omega), if_neg (by simp), Int.add_zero]; rfl
    · rw [if_pos rfl, bnd_eq (contains_eq _ hl)]
      cases h2 : mem l n.drains[i].to_
      · rw [if_pos (by rfl), gd_pos (by omega), gd_pos (by omega), if_pos ⟨rfl, rfl⟩]; rfl
      · rw [if_neg (by simp), gd_pos (by omega), if_neg (by simp), Int.add_zero]; rfl
  · show drain_across_B1 n l (drain_across_L1 n l k) _ _ = _
    unfold drain_across_B1
    rw [if_neg (by omega)]
    unfold drain_across_k1
    rw [List.take_length]
def ascAt (n : Net) (l : List Int) (i : Nat) : Bool := isNode n (gi l i) && (decide (i = 0) || decide (gi l (i - 1) < gi l i))
def ascB (n : Net) (l : List Int) : Bool := decide (∀ i, i < l.length → ascAt n l i = true)
def acrossR (n : Net) (l : List Int) : Int × Int :=
  if validate n = 0 then (if ascB n l = true ∧ mem l n.from_ = true ∧ mem l n.to_ = false then (cutD (mem l) n.drains, 0) else (0, 1)) else (0, validate n)
theorem Across_eq {n : Net} (hl : n.drains.length ≤ 1000) {l : List Int} (hf : l.length ≤ 1000) : drain_Across n l = some (acrossR n l) := by
  unfold drain_Across acrossR
  rw [bnd_eq (Validate_eq hl)]
  by_cases hv : validate n = 0
  · have hn := val0.1 hv
    have h8 := hn.n8
    have h2 := hn.n2
    rw [if_pos hv, if_pos hv]
    have h := scan_loop0 l.length (ascAt n l) (fun _ => ()) (fun k _ i => drain_Across_L1 n l k i) (drain_Across_k2 n l) (some ((0 : Int), (1 : Int))) (fun k i hi => ?_) (fun k => ?_) (by omega)
    · refine Eq.trans h ?_
      unfold ascB
      by_cases hc : ∀ i, i < l.length → ascAt n l i = true
      · rw [if_pos hc, decide_eq_true hc]
        unfold drain_Across_k2 drain_Across_k1
        rw [bnd_eq (contains_eq _ hf)]
        cases h1 : mem l n.from_
        · rw [if_neg (by simp), if_pos rfl, if_neg (by simp)]
        · rw [if_pos rfl, bnd_eq (contains_eq _ hf)]
          cases h2 : mem l n.to_
          · rw [if_neg (by simp), bnd_eq (across_eq hn.toNet0 hf), if_pos ⟨rfl, rfl, rfl⟩]
          · rw [if_pos rfl, if_neg (by simp)]
      · rw [if_neg hc, decide_eq_false hc, if_neg (by simp)]
    · show drain_Across_B1 n l (drain_Across_L1 n l k) _ = _
      unfold drain_Across_B1 ascAt drain_Across_k3
      rw [if_pos (by omega), ix_nat (gi_at hi), bnd_eq (isNode_eq (by omega) _)]
      cases h1 : isNode n (gi l i)
      · rw [if_neg (by simp), if_pos rfl, if_neg (by simp)]
      · rw [if_pos rfl]
        by_cases h0 : i = 0
        · rw [if_neg (by omega), if_neg (by simp), gd_pos (by omega), if_pos (by simp [h0])]; rfl
        · have h3 : l[i - 1]? = some (gi l (i - 1)) := gi_at (by omega)
          rw [if_pos (by omega), gd_pos (by omega), show (i : Int) - 1 = ((i - 1 : Nat) : Int) by omega, ix_nat h3]
          by_cases h4 : gi l i ≤ gi l (i - 1)
          · rw [if_pos (by simpa using h4), if_neg (by simp; omega)]
          · rw [if_neg (by simpa using h4), gd_pos (by omega), if_pos (by simp; omega)]; rfl
    · show drain_Across_B1 n l (drain_Across_L1 n l k) _ = _
      unfold drain_Across_B1
      rw [if_neg (by omega)]
  · rw [if_neg hv, if_neg hv]
end Go.D2

set_option linter.unusedVariables false
set_option linter.unusedSimpArgs false
namespace Go.D2
open Go.Tb
theorem isNode_iff {n : Net} {x : Int} : isNode n x = true ↔ 0 ≤ x ∧ x < n.nodes := by
  unfold isNode
  rw [within_iff]; omega
def nodesOf (n : Nat) (p : Int → Bool) : List Int := ((List.range n).map (fun (i : Nat) => (i : Int))).filter p
theorem nodesOf_len (n : Nat) (p : Int → Bool) : (nodesOf n p).length ≤ n := by
  unfold nodesOf
  refine Nat.le_trans (List.length_filter_le _ _) ?_
  simp
theorem nodesOf_succ (n : Nat) (p : Int → Bool) : nodesOf (n + 1) p = nodesOf n p ++ (if p (n : Int) = true then [(n : Int)] else []) := by
  unfold nodesOf
  rw [List.range_succ, List.map_append, List.filter_append]
  congr 1
  by_cases h : p (n : Int) = true
  · rw [if_pos h]; simp [h]
  · rw [if_neg h]; simp [h]
theorem nodesOf_congr {n : Nat} {p q : Int → Bool} (h : ∀ v : Int, 0 ≤ v → v < n → p v = q v) : nodesOf n p = nodesOf n q := by
  unfold nodesOf
  apply List.filter_congr
  intro x hx
  obtain ⟨i, hi, rfl⟩ := List.mem_map.1 hx
  rw [List.mem_range] at hi
  exact h _ (by omega) (by omega)
theorem nodes_eq {n : Net} (hn : Net0 n) {f : Int → Option Bool} {p : Int → Bool} (hf : ∀ v : Int, 0 ≤ v → v < n.nodes → f v = some (p v)) : drain_nodes n f = some (nodesOf n.nodes.toNat p) := by
  have h2 := hn.n2
  have h8 := hn.n8
  unfold drain_nodes
  refine for0 n.nodes.toNat (fun i => nodesOf i p) (fun k s i => drain_nodes_L1 n f k i s) _ rfl (fun k i hi => ?_) (fun k => ?_) (by omega)
  · have hl := nodesOf_len i p
    show drain_nodes_B1 n f (drain_nodes_L1 n f k) _ _ = _
    unfold drain_nodes_B1 drain_nodes_k2
    rw [if_pos (by omega), bnd_eq (hf _ (by omega) (by omega)), nodesOf_succ]
    by_cases h : p (i : Int) = true
    · rw [if_pos h, if_pos h, gd_pos (by simp; omega), gd_pos (by omega)]; rfl
    · rw [if_neg h, if_neg h, gd_pos (by omega), List.append_nil]; rfl
  · show drain_nodes_B1 n f (drain_nodes_L1 n f k) _ _ = _
    unfold drain_nodes_B1
    rw [if_neg (by omega)]; rfl
def narrow (n : Net) (i : Nat) : Bool := cutB n i && decide (cutD (inS i) n.drains = mostN n)
def andN (n : Net) : Nat → Nat
  | 0 => 2 ^ n.nodes.toNat - 1
  | i + 1 => if narrow n i = true then andN n i &&& i else andN n i
def orN (n : Net) : Nat → Nat
  | 0 => 0
  | i + 1 => if narrow n i = true then orN n i ||| i else orN n i
theorem andN_bit {n : Net} {v : Nat} (hv : v < n.nodes.toNat) : ∀ i, (andN n i).testBit v = true ↔ ∀ j, j < i → narrow n j = true → j.testBit v = true
  | 0 => by simp [andN, Nat.testBit_two_pow_sub_one, hv]
  | i + 1 => by
    have ih := andN_bit (n := n) hv i
    simp only [andN]
    by_cases h : narrow n i = true
    · rw [if_pos h, Nat.testBit_and, Bool.and_eq_true, ih]
      constructor
      · rintro ⟨h1, h2⟩ j hj hn
        by_cases hji : j = i
        · subst hji; exact h2
        · exact h1 j (by omega) hn
      · intro h1
        exact ⟨fun j hj => h1 j (by omega), h1 i (by omega) h⟩
    · rw [if_neg h, ih]
      constructor
      · intro h1 j hj hn
        by_cases hji : j = i
        · subst hji; exact absurd hn h
        · exact h1 j (by omega) hn
      · intro h1 j hj; exact h1 j (by omega)
theorem orN_bit {n : Net} {v : Nat} : ∀ i, (orN n i).testBit v = true ↔ ∃ j, j < i ∧ narrow n j = true ∧ j.testBit v = true
  | 0 => by simp [orN]
  | i + 1 => by
    have ih := orN_bit (n := n) (v := v) i
    simp only [orN]
    by_cases h : narrow n i = true
    · rw [if_pos h, Nat.testBit_or, Bool.or_eq_true, ih]
      constructor
      · rintro (⟨j, h1, h2⟩ | h1)
        · exact ⟨j, by omega, h2⟩
        · exact ⟨i, by omega, h, h1⟩
      · rintro ⟨j, h1, h2, h3⟩
        by_cases hji : j = i
        · subst hji; exact .inr h3
        · exact .inl ⟨j, by omega, h2, h3⟩
    · rw [if_neg h, ih]
      constructor
      · rintro ⟨j, h1, h2⟩; exact ⟨j, by omega, h2⟩
      · rintro ⟨j, h1, h2, h3⟩
        by_cases hji : j = i
        · subst hji; exact absurd h2 h
        · exact ⟨j, by omega, h2, h3⟩
def least (n : Net) : List Int := nodesOf n.nodes.toNat (inS (andN n (2 ^ n.nodes.toNat)))
def greatest (n : Net) : List Int := nodesOf n.nodes.toNat (inS (orN n (2 ^ n.nodes.toNat)))
theorem sp_reach {E : List Ed} : ∀ (ks : List Nat) (vis : List Int) (u v : Int), SP E vis u ks v → Reach E u v
  | [], vis, u, v, h => by have h : u = v := h; subst h; exact .here
  | i :: r, vis, u, v, h => by
    obtain ⟨e, he, hu, hp, hn, hr⟩ := h
    exact reach_other (List.mem_of_getElem? he) hu hp (sp_reach r _ _ _ hr)
/-- A cut is narrowest exactly if nothing more can leave it. -/
theorem closed_iff {n : Net} (hn : Net0 n) {l : List Left} (h : Maxed n l) {S : Int → Bool} (h1 : S n.from_ = true) (h2 : S n.to_ = false) : cutD S n.drains = mostN n ↔ Closed S (Eds l) := by
  have hs : 0 ≤ n.from_ ∧ n.from_ < ((n.nodes.toNat : Nat) : Int) := by have := hn.s0; omega
  rw [closed_tight h.1.flow.cap, ← tight_iff h.1.flow hs h1 h2, maxed_val hn h, cutW_eds, h.1.drains]
  exact ⟨fun e => e.symm, fun e => e.symm⟩
theorem closed_num {n : Net} (hn : Net0 n) {l : List Left} (h : Maxed n l) {S : Int → Bool} (h1 : S n.from_ = true) (h2 : S n.to_ = false) (hc : Closed S (Eds l)) : ∃ j, j < 2 ^ n.nodes.toNat ∧ narrow n j = true ∧ ∀ v : Int, 0 ≤ v → v < n.nodes → inS j v = S v := by
  obtain ⟨j, j1, j2, j3⟩ := cut_num hn S
  refine ⟨j, j1, ?_, j2⟩
  unfold narrow cutB
  rw [j2 _ hn.s0.1 hn.s0.2, j2 _ hn.t0.1 hn.t0.2, h1, h2, decide_eq_true (j3.trans ((closed_iff hn h h1 h2).2 hc))]; rfl
theorem narrow_cl {n : Net} (hn : Net0 n) {l : List Left} (h : Maxed n l) {j : Nat} (hj : narrow n j = true) : inS j n.from_ = true ∧ inS j n.to_ = false ∧ Closed (inS j) (Eds l) := by
  unfold narrow cutB at hj
  simp only [Bool.and_eq_true, Bool.not_eq_true', decide_eq_true_eq] at hj
  exact ⟨hj.1.1, hj.1.2, (closed_iff hn h hj.1.1 hj.1.2).1 hj.2⟩
/-- Where the program's search gets to. -/
theorem least_key {n : Net} (hn : Net0 n) {l : List Left} (h : Maxed n l) {v : Int} (hv : 0 ≤ v ∧ v < n.nodes) : inS (andN n (2 ^ n.nodes.toNat)) v = true ↔ Reach (Eds l) n.from_ v := by
  unfold inS
  rw [andN_bit (by omega)]
  constructor
  · intro hall
    have h' := h
    obtain ⟨_, S, s1, s2, s3, s4⟩ := h'
    obtain ⟨j, j1, j2, j3⟩ := closed_num hn h s1 s2 s3
    have := hall j j1 j2
    exact s4 v (by rw [← j3 v hv.1 hv.2]; exact this)
  · intro hr j _ hj
    obtain ⟨c1, c2, c3⟩ := narrow_cl hn h hj
    exact hr.sub c3 c1
theorem least_at {n : Net} (hn : Net0 n) {l : List Left} (h : Maxed n l) {v : Int} (hv : 0 ≤ v ∧ v < n.nodes) : drain_Least_1 n l v = some (inS (andN n (2 ^ n.nodes.toNat)) v) := by
  have h2 := hn.n2
  have key := least_key hn h hv
  unfold drain_Least_1
  by_cases e : v = n.from_
  · rw [if_pos e, key.2 (by rw [e]; exact .here)]
  · rw [if_neg e]
    rcases search_eq hn h.1 (s := n.from_) (t := v) hn.s0 (fun x => e x.symm) with ⟨ks, k1, _, k3, k4⟩ | ⟨k1, S, s1, s2, s3, s4⟩
    · rw [bnd_eq k3, key.2 (sp_reach _ _ _ _ k4), decide_eq_false (by unfold ints; simpa using k1)]; rfl
    · rw [bnd_eq k1]
      have : ¬ inS (andN n (2 ^ n.nodes.toNat)) v = true := fun hc => by
        have := (key.1 hc).sub s3 s1
        rw [s2] at this; cases this
      rw [decide_eq_true rfl]
      cases hq : inS (andN n (2 ^ n.nodes.toNat)) v
      · rfl
      · exact absurd hq this
open Classical in
theorem greatest_cl {n : Net} (hn : Net0 n) {l : List Left} (h : Maxed n l) : ∃ S : Int → Bool, S n.from_ = true ∧ S n.to_ = false ∧ Closed S (Eds l) ∧ ∀ v, S v = true ↔ ¬ Coreach (Eds l) n.to_ v := by
  refine ⟨fun v => decide (¬ Coreach (Eds l) n.to_ v), ?_, ?_, fun e he => ⟨fun h1 h2 => ?_, fun h1 h2 => ?_⟩, fun v => by simp⟩
  · obtain ⟨_, S, s1, s2, s3, s4⟩ := h
    simp only [decide_eq_true_eq]
    intro hc
    have := hc.reach.sub s3 s1
    rw [s2] at this; cases this
  · simp only [decide_eq_false_iff_not, Decidable.not_not]
    exact .here
  · simp only [decide_eq_true_eq] at h1 ⊢
    exact fun hc => h1 (.on he hc h2)
  · simp only [decide_eq_true_eq] at h1 ⊢
    exact fun hc => h1 (.back he hc h2)
theorem greatest_key {n : Net} (hn : Net0 n) {l : List Left} (h : Maxed n l) {v : Int} (hv : 0 ≤ v ∧ v < n.nodes) : inS (orN n (2 ^ n.nodes.toNat)) v = true ↔ ¬ Coreach (Eds l) n.to_ v := by
  unfold inS
  rw [orN_bit]
  constructor
  · rintro ⟨j, _, hj, hb⟩ hr
    obtain ⟨c1, c2, c3⟩ := narrow_cl hn h hj
    have : inS j v = false := hr.sub c3 c2
    unfold inS at this
    rw [hb] at this; cases this
  · intro hr
    obtain ⟨S, s1, s2, s3, s4⟩ := greatest_cl hn h
    obtain ⟨j, j1, j2, j3⟩ := closed_num hn h s1 s2 s3
    exact ⟨j, j1, j2, (j3 v hv.1 hv.2).trans ((s4 v).2 hr)⟩
theorem greatest_at {n : Net} (hn : Net0 n) {l : List Left} (h : Maxed n l) {v : Int} (hv : 0 ≤ v ∧ v < n.nodes) : drain_Greatest_1 n l v = some (inS (orN n (2 ^ n.nodes.toNat)) v) := by
  have h2 := hn.n2
  have key := greatest_key hn h hv
  unfold drain_Greatest_1
  by_cases e : v = n.to_
  · rw [if_pos e]
    cases hq : inS (orN n (2 ^ n.nodes.toNat)) v
    · rfl
    · exact absurd (by rw [e]; exact Coreach.here) (key.1 hq)
  · rw [if_neg e]
    rcases search_eq hn h.1 (s := v) (t := n.to_) hv e with ⟨ks, k1, _, k3, k4⟩ | ⟨k1, S, s1, s2, s3, s4⟩
    · rw [bnd_eq k3]
      have : ¬ inS (orN n (2 ^ n.nodes.toNat)) v = true := fun hc => key.1 hc (sp_reach _ _ _ _ k4).co
      rw [decide_eq_false (by unfold ints; simpa using k1)]
      cases hq : inS (orN n (2 ^ n.nodes.toNat)) v
      · rfl
      · exact absurd hq this
    · rw [bnd_eq k1, decide_eq_true rfl, key.2 (fun hc => by
        have := hc.reach.sub s3 s1
        rw [s2] at this; cases this)]
theorem Least_eq {n : Net} (hl : n.drains.length ≤ 1000) : drain_Least n = some (if validate n = 0 then (least n, 0) else ([], validate n)) := by
  unfold drain_Least
  rw [bnd_eq (Validate_eq hl)]
  by_cases hv : validate n = 0
  · have hn := val0.1 hv
    obtain ⟨l, l1, l2⟩ := run_eq hn.toNet0
    rw [if_pos hv, if_pos hv, bnd_eq l1, bnd_eq (nodes_eq hn.toNet0 (fun v v0 v1 => least_at hn.toNet0 l2 ⟨v0, v1⟩))]; rfl
  · rw [if_neg hv, if_neg hv]
theorem Greatest_eq {n : Net} (hl : n.drains.length ≤ 1000) : drain_Greatest n = some (if validate n = 0 then (greatest n, 0) else ([], validate n)) := by
  unfold drain_Greatest
  rw [bnd_eq (Validate_eq hl)]
  by_cases hv : validate n = 0
  · have hn := val0.1 hv
    obtain ⟨l, l1, l2⟩ := run_eq hn.toNet0
    rw [if_pos hv, if_pos hv, bnd_eq l1, bnd_eq (nodes_eq hn.toNet0 (fun v v0 v1 => greatest_at hn.toNet0 l2 ⟨v0, v1⟩))]; rfl
  · rw [if_neg hv, if_neg hv]
theorem SameInts_self {l : List Int} (hl : l.length ≤ 1000000) : ref01_SameInts l l = some true := by
  unfold ref01_SameInts
  rw [if_pos rfl, list_loop0 l (fun _ => true) (ref01_SameInts_L1 l l) (some true) (some false) (fun k i x hx => ?_) (fun k => ?_) (by omega)]
  · rw [if_pos (by simp)]
  · have := lt_of_at hx
    show ref01_SameInts_B1 l l (ref01_SameInts_L1 l l k) _ = _
    unfold ref01_SameInts_B1
    rw [if_pos (by omega), ix_nat hx, ix_nat hx, if_pos rfl, gd_pos (by omega), if_pos rfl]; rfl
  · show ref01_SameInts_B1 l l (ref01_SameInts_L1 l l k) _ = _
    unfold ref01_SameInts_B1
    rw [if_neg (by omega)]; rfl
end Go.D2

set_option linter.unusedVariables false
set_option linter.unusedSimpArgs false
namespace Go.D2
open Go.Tb
/-- The least and the greatest narrowest cut are narrowest cuts. -/
theorem least_ok {n : Net} (hn : Net0 n) : inS (andN n (2 ^ n.nodes.toNat)) n.from_ = true ∧ inS (andN n (2 ^ n.nodes.toNat)) n.to_ = false ∧ cutD (inS (andN n (2 ^ n.nodes.toNat))) n.drains = mostN n := by
  obtain ⟨l, _, h⟩ := run_eq hn
  have h' := h
  obtain ⟨_, S, s1, s2, s3, s4⟩ := h'
  have key : ∀ v : Int, 0 ≤ v → v < n.nodes → inS (andN n (2 ^ n.nodes.toNat)) v = S v := fun v v0 v1 => by
    rw [Bool.eq_iff_iff, least_key hn h ⟨v0, v1⟩]
    exact ⟨fun hr => hr.sub s3 s1, s4 v⟩
  refine ⟨(key _ hn.s0.1 hn.s0.2).trans s1, (key _ hn.t0.1 hn.t0.2).trans s2, ?_⟩
  rw [cutD_congr (T := S) _ fun d hd => by have := hn.dr d hd; exact ⟨key _ this.1.1 this.1.2, key _ this.2.1.1 this.2.1.2⟩]
  exact (closed_iff hn h s1 s2).2 s3
theorem greatest_ok {n : Net} (hn : Net0 n) : inS (orN n (2 ^ n.nodes.toNat)) n.from_ = true ∧ inS (orN n (2 ^ n.nodes.toNat)) n.to_ = false ∧ cutD (inS (orN n (2 ^ n.nodes.toNat))) n.drains = mostN n := by
  obtain ⟨l, _, h⟩ := run_eq hn
  obtain ⟨S, s1, s2, s3, s4⟩ := greatest_cl hn h
  have key : ∀ v : Int, 0 ≤ v → v < n.nodes → inS (orN n (2 ^ n.nodes.toNat)) v = S v := fun v v0 v1 => by
    rw [Bool.eq_iff_iff, greatest_key hn h ⟨v0, v1⟩]
    exact (s4 v).symm
  refine ⟨(key _ hn.s0.1 hn.s0.2).trans s1, (key _ hn.t0.1 hn.t0.2).trans s2, ?_⟩
  rw [cutD_congr (T := S) _ fun d hd => by have := hn.dr d hd; exact ⟨key _ this.1.1 this.1.2, key _ this.2.1.1 this.2.1.2⟩]
  exact (closed_iff hn h s1 s2).2 s3
theorem mem_nodesOf {k : Nat} {p : Int → Bool} {v : Int} (h : 0 ≤ v ∧ v < k) : mem (nodesOf k p) v = p v := by
  unfold mem nodesOf
  rw [Bool.eq_iff_iff, decide_eq_true_eq, List.mem_filter]
  constructor
  · exact fun h => h.2
  · intro hp
    refine ⟨List.mem_map.2 ⟨v.toNat, ?_, ?_⟩, hp⟩
    · rw [List.mem_range]; omega
    · omega
theorem nodesOf_pw (k : Nat) (p : Int → Bool) : (nodesOf k p).Pairwise (· < ·) := by
  unfold nodesOf
  refine List.Pairwise.filter _ ?_
  rw [List.pairwise_map]
  exact List.Pairwise.imp (fun h => by omega) List.pairwise_lt_range
theorem nodesOf_asc {n : Net} (hn : Net0 n) (p : Int → Bool) : ascB n (nodesOf n.nodes.toNat p) = true := decide_eq_true fun i hi => by
  have h1 : gi (nodesOf n.nodes.toNat p) i = (nodesOf n.nodes.toNat p)[i] := gi_of (by simp [hi])
  have hm : gi (nodesOf n.nodes.toNat p) i ∈ nodesOf n.nodes.toNat p := by rw [h1]; exact List.getElem_mem hi
  unfold ascAt
  rw [Bool.and_eq_true]
  constructor
  · rw [isNode_iff]
    unfold nodesOf at hm
    have := (List.mem_filter.1 hm).1
    obtain ⟨q, hq, e⟩ := List.mem_map.1 this
    rw [List.mem_range] at hq
    unfold nodesOf
    omega
  · by_cases h0 : i = 0
    · simp [h0]
    · have h2 : gi (nodesOf n.nodes.toNat p) (i - 1) = (nodesOf n.nodes.toNat p)[i - 1] := gi_of (List.getElem?_eq_getElem (by omega))
      have := List.pairwise_iff_getElem.1 (nodesOf_pw n.nodes.toNat p) (i - 1) i (by omega) hi (by omega)
      rw [h1, h2, decide_eq_true this]; simp
theorem across_nodes {n : Net} (hn : NetOk n) {p : Int → Bool} (h1 : p n.from_ = true) (h2 : p n.to_ = false) : acrossR n (nodesOf n.nodes.toNat p) = (cutD p n.drains, 0) := by
  have hs := hn.s0
  have ht := hn.t0
  unfold acrossR
  rw [if_pos (val0.2 hn), if_pos ⟨nodesOf_asc hn.toNet0 p, by rw [mem_nodesOf (by omega), h1], by rw [mem_nodesOf (by omega), h2]⟩]
  rw [cutD_congr (T := p) _ fun d hd => by have := hn.dr d hd; exact ⟨mem_nodesOf (by omega), mem_nodesOf (by omega)⟩]
def checkMost (n : Net) (fl l : List Int) : Int :=
  if (checkR n fl).2 = 0 then (if (acrossR n l).2 = 0 then (if (checkR n fl).1 = (acrossR n l).1 then 0 else 7) else (acrossR n l).2) else (checkR n fl).2
theorem CheckMost_eq {n : Net} (hl : n.drains.length ≤ 1000) {fl l : List Int} (hf : fl.length ≤ 1000) (hs : l.length ≤ 1000) : drain_CheckMost n fl l = some (checkMost n fl l) := by
  unfold drain_CheckMost checkMost
  rw [bnd_eq (CheckFlow_eq hl hf)]
  by_cases h1 : (checkR n fl).2 = 0
  · rw [if_pos h1, if_pos h1, bnd_eq (Across_eq hl hs)]
    by_cases h2 : (acrossR n l).2 = 0
    · rw [if_pos h2, if_pos h2]
      split <;> rfl
    · rw [if_neg h2, if_neg h2]
  · rw [if_neg h1, if_neg h1]
end Go.D2

set_option linter.unusedVariables false
set_option linter.unusedSimpArgs false
namespace Go.D2
open Go.Tb
def revD (d : Drain) : Drain := ⟨d.to_, d.from_, d.width⟩
def rev (n : Net) : Net := ⟨n.nodes, n.to_, n.from_, n.drains.map revD⟩
def reverseR (n : Net) : Net × Int := if validate n = 0 then (rev n, 0) else (⟨0, 0, 0, []⟩, validate n)
theorem Reverse_eq {n : Net} (hl : n.drains.length ≤ 1000) : drain_Reverse n = some (reverseR n) := by
  unfold drain_Reverse reverseR
  rw [bnd_eq (Validate_eq hl)]
  by_cases hv : validate n = 0
  · rw [if_pos hv, if_pos hv]
    refine map_loop0 n.drains revD (fun k s i => drain_Reverse_L1 n k i s) _ (fun k i x hx => ?_) (fun k => ?_) (by omega)
    · have := lt_of_at hx
      show drain_Reverse_B1 n (drain_Reverse_L1 n k) _ _ = _
      unfold drain_Reverse_B1
      rw [if_pos (by omega), ix_nat hx, gd_pos (by simp; omega), gd_pos (by omega)]; rfl
    · show drain_Reverse_B1 n (drain_Reverse_L1 n k) _ _ = _
      unfold drain_Reverse_B1
      rw [if_neg (by omega)]; rfl
  · rw [if_neg hv, if_neg hv]
theorem rev_ok {n : Net} (h : NetOk n) : NetOk (rev n) :=
  { n2 := h.n2, n8 := h.n8, s0 := h.t0, t0 := h.s0, ne := fun e => h.ne e.symm, len := by show (n.drains.map revD).length ≤ 16; simp; exact h.len
    dr := fun d hd => by
      obtain ⟨x, hx, rfl⟩ := List.mem_map.1 hd
      have := h.dr x hx
      exact ⟨this.2.1, this.1, fun e => this.2.2.1 e.symm, this.2.2.2⟩
    w20 := fun d hd => by
      obtain ⟨x, hx, rfl⟩ := List.mem_map.1 hd
      exact h.w20 x hx }
theorem rev_rev (n : Net) : rev (rev n) = n := by
  show (⟨n.nodes, n.from_, n.to_, (n.drains.map revD).map revD⟩ : Net) = n
  rw [List.map_map, show revD ∘ revD = id from funext fun d => rfl, List.map_id]
theorem cutD_rev (S : Int → Bool) : ∀ l : List Drain, cutD (fun v => !S v) (l.map revD) = cutD S l
  | [] => rfl
  | d :: r => by
    simp only [List.map_cons, cutD, cutD_rev S r, revD]
    cases S d.from_ <;> cases S d.to_ <;> simp
theorem most_rev_le {n : Net} (h : NetOk n) : mostN (rev n) ≤ mostN n := by
  obtain ⟨T, t1, t2, t3⟩ := most_at h.toNet0
  rw [← t3, ← cutD_rev T n.drains]
  exact most_le (rev_ok h).toNet0 (S := fun v => !T v) (by show (!T n.to_) = true; rw [t2]; rfl) (by show (!T n.from_) = false; rw [t1]; rfl)
theorem most_rev {n : Net} (h : NetOk n) : mostN (rev n) = mostN n := by
  have h1 := most_rev_le h
  have h2 := most_rev_le (rev_ok h)
  rw [rev_rev] at h2
  omega
end Go.D2

set_option linter.unusedVariables false
set_option linter.unusedSimpArgs false
namespace Go.D2
open Go.Tb
def withW (d : Drain) (w : Int) : Drain := ⟨d.from_, d.to_, w⟩
def chg (n : Net) (i : Nat) (w : Int) : Net := ⟨n.nodes, n.from_, n.to_, n.drains.set i (withW (gd_ n.drains i) w)⟩
theorem changed_eq {n : Net} (hl : n.drains.length ≤ 1000) {i : Nat} (hi : i < n.drains.length) (w : Int) : drain_changed n i w = some (chg n i w) := by
  unfold drain_changed
  have h : slices_Clone_Drain n.drains = some n.drains := by
    unfold slices_Clone_Drain
    rw [gd_pos (by simp; omega)]; rfl
  rw [bnd_eq h, ix_nat (gd_at hi)]; rfl
theorem chg_net0 {n : Net} (hn : Net0 n) {i : Nat} (hi : i < n.drains.length) {w : Int} (hw : 0 ≤ w ∧ w ≤ 1000) : Net0 (chg n i w) :=
  { n2 := hn.n2, n8 := hn.n8, s0 := hn.s0, t0 := hn.t0, ne := hn.ne, len := by show (n.drains.set i _).length ≤ 16; rw [List.length_set]; exact hn.len
    dr := fun d hd => by
      rcases List.mem_or_eq_of_mem_set hd with h | rfl
      · exact hn.dr d h
      · have := hn.dr _ (List.mem_of_getElem? (gd_at hi))
        exact ⟨this.1, this.2.1, this.2.2.1, hw⟩ }
theorem chg_ok {n : Net} (hn : NetOk n) {i : Nat} (hi : i < n.drains.length) {w : Int} (hw : 0 ≤ w ∧ w ≤ 20) : NetOk (chg n i w) :=
  { toNet0 := chg_net0 hn.toNet0 hi (by omega)
    w20 := fun d hd => by
      rcases List.mem_or_eq_of_mem_set hd with h | rfl
      · exact hn.w20 d h
      · exact hw.2 }
theorem cutD_set {S : Int → Bool} {d : Drain} {w : Int} : ∀ {l : List Drain} {i : Nat}, l[i]? = some d → cutD S (l.set i (withW d w)) = cutD S l + (if S d.from_ = true ∧ S d.to_ = false then w - d.width else 0)
  | [], i, h => by simp at h
  | x :: r, 0, h => by
    simp at h; subst h
    simp only [List.set_cons_zero, cutD, withW]
    split <;> omega
  | x :: r, i + 1, h => by
    have := cutD_set (S := S) (d := d) (w := w) (l := r) (i := i) (by simpa using h)
    simp only [List.set_cons_succ, cutD, this]; omega
theorem cutD_chg {n : Net} {S : Int → Bool} {i : Nat} (hi : i < n.drains.length) (w : Int) : cutD S (chg n i w).drains = cutD S n.drains + (if S (gd_ n.drains i).from_ = true ∧ S (gd_ n.drains i).to_ = false then w - (gd_ n.drains i).width else 0) := cutD_set (gd_at hi)
theorem most_chg {n : Net} (hn : Net0 n) {i : Nat} (hi : i < n.drains.length) {w : Int} (hw : 0 ≤ w ∧ w ≤ 1000) :
    mostN (chg n i w) ≤ mostN n + max (w - (gd_ n.drains i).width) 0 ∧ mostN n + min (w - (gd_ n.drains i).width) 0 ≤ mostN (chg n i w) := by
  have hc := chg_net0 hn hi hw
  constructor
  · obtain ⟨T, t1, t2, t3⟩ := most_at hn
    have h := most_le hc (S := T) t1 t2
    rw [cutD_chg hi] at h
    split at h <;> omega
  · obtain ⟨T, t1, t2, t3⟩ := most_at hc
    have h := most_le hn (S := T) t1 t2
    rw [cutD_chg hi] at t3
    split at t3 <;> omega
theorem those_eq {n : Net} (hl : n.drains.length ≤ 1000) {f : Int → Option Bool} {p : Int → Bool} (hf : ∀ i : Nat, i < n.drains.length → f (i : Int) = some (p i)) : drain_those n f = some (nodesOf n.drains.length p) := by
  unfold drain_those
  refine for0 n.drains.length (fun i => nodesOf i p) (fun k s i => drain_those_L1 n f k i s) _ rfl (fun k i hi => ?_) (fun k => ?_) (by omega)
  · have hll := nodesOf_len i p
    show drain_those_B1 n f (drain_those_L1 n f k) _ _ = _
    unfold drain_those_B1 drain_those_k2
    rw [if_pos (by omega), bnd_eq (hf _ hi), nodesOf_succ]
    by_cases h : p (i : Int) = true
    · rw [if_pos h, if_pos h, gd_pos (by simp; omega), gd_pos (by omega)]; rfl
    · rw [if_neg h, if_neg h, gd_pos (by omega), List.append_nil]; rfl
  · show drain_those_B1 n f (drain_those_L1 n f k) _ _ = _
    unfold drain_those_B1
    rw [if_neg (by omega)]; rfl
def critP (n : Net) (v : Int) : Bool := decide (0 < (gd_ n.drains v.toNat).width) && decide (mostN (chg n v.toNat ((gd_ n.drains v.toNat).width - 1)) < mostN n)
def needP (n : Net) (v : Int) : Bool := decide (mostN (chg n v.toNat 0) = mostN n)
def listR (n : Net) (p : Int → Bool) : List Int × Int := if validate n = 0 then (nodesOf n.drains.length p, 0) else ([], validate n)
theorem Critical_eq {n : Net} (hl : n.drains.length ≤ 1000) : drain_Critical n = some (listR n (critP n)) := by
  unfold drain_Critical listR
  rw [bnd_eq (Validate_eq hl)]
  by_cases hv : validate n = 0
  · have hn := val0.1 hv
    rw [if_pos hv, if_pos hv, bnd_eq (most_eq hn.toNet0), bnd_eq (those_eq hl (p := critP n) fun i hi => ?_)]
    have hd := hn.dr _ (List.mem_of_getElem? (gd_at hi))
    unfold drain_Critical_1 critP
    rw [ix_nat (gd_at hi)]
    simp only [Int.toNat_natCast]
    by_cases h : 0 < (gd_ n.drains i).width
    · rw [if_pos h, gd_pos (by omega), bnd_eq (changed_eq hl hi _), bnd_eq (most_eq (chg_net0 hn.toNet0 hi (by omega))), decide_eq_true h]; rfl
    · rw [if_neg h, decide_eq_false h]; rfl
  · rw [if_neg hv, if_neg hv]
theorem Needless_eq {n : Net} (hl : n.drains.length ≤ 1000) : drain_Needless n = some (listR n (needP n)) := by
  unfold drain_Needless listR
  rw [bnd_eq (Validate_eq hl)]
  by_cases hv : validate n = 0
  · have hn := val0.1 hv
    rw [if_pos hv, if_pos hv, bnd_eq (most_eq hn.toNet0), bnd_eq (those_eq hl (p := needP n) fun i hi => ?_)]
    unfold drain_Needless_1 needP
    rw [bnd_eq (changed_eq hl hi _), bnd_eq (most_eq (chg_net0 hn.toNet0 hi (by omega)))]; rfl
  · rw [if_neg hv, if_neg hv]
theorem listR_len {n : Net} (hl : n.drains.length ≤ 1000) (p : Int → Bool) : (listR n p).1.length ≤ 1000 := by
  unfold listR
  split
  · have := nodesOf_len n.drains.length p
    simp only; omega
  · exact Nat.zero_le _
def widenR (n : Net) (i by_ : Int) : Net × Int :=
  if validate n = 0 then (if within i 0 ((n.drains.length : Int) - 1) = true then (if within by_ (-20) 20 = true ∧ within ((gd_ n.drains i.toNat).width + by_) 0 20 = true then (chg n i.toNat ((gd_ n.drains i.toNat).width + by_), 0) else (⟨0, 0, 0, []⟩, 1)) else (⟨0, 0, 0, []⟩, 4)) else (⟨0, 0, 0, []⟩, validate n)
theorem Widen_eq {n : Net} (hl : n.drains.length ≤ 1000) (i by_ : Int) : drain_Widen n i by_ = some (widenR n i by_) := by
  unfold drain_Widen widenR
  rw [bnd_eq (Validate_eq hl)]
  by_cases hv : validate n = 0
  · have hn := val0.1 hv
    rw [if_pos hv, if_pos hv, gd_pos (by omega), bnd_eq (from_eq _ _ _)]
    by_cases h1 : within i 0 ((n.drains.length : Int) - 1) = true
    · have hi := within_iff.1 h1
      have hlt : i.toNat < n.drains.length := by omega
      have hx : n.drains[i.toNat]? = some (gd_ n.drains i.toNat) := gd_at hlt
      have hd := hn.dr _ (List.mem_of_getElem? hx)
      rw [if_pos h1, if_pos h1, bnd_eq (from_eq _ _ _)]
      unfold drain_Widen_k1
      by_cases h2 : within by_ (-20) 20 = true
      · have hb := within_iff.1 h2
        rw [if_pos h2, ix_eq hi.1 hx, gd_pos (by omega), bnd_eq (from_eq _ _ _)]
        by_cases h3 : within ((gd_ n.drains i.toNat).width + by_) 0 20 = true
        · rw [if_neg (by rw [h3]; simp), ix_eq hi.1 hx, gd_pos (by omega), if_pos ⟨h2, h3⟩]
          have := changed_eq hl hlt ((gd_ n.drains i.toNat).width + by_)
          rw [show ((i.toNat : Nat) : Int) = i by omega] at this
          rw [bnd_eq this]
        · rw [if_pos (by simpa using h3), if_neg (fun h => h3 h.2)]
      · rw [if_neg h2, if_pos rfl, if_neg (fun h => h2 h.1)]
    · rw [if_neg h1, if_neg h1]
  · rw [if_neg hv, if_neg hv]
end Go.D2

set_option linter.unusedVariables false
set_option linter.unusedSimpArgs false
namespace Go.D2
open Go.Tb
theorem scan_inv {S R : Type} (N : Nat) (p : Nat → Bool) (g : Nat → S) (L : Nat → S → Int → Option R) (yes no : Option R)
    (step : ∀ n i : Nat, i < N → (∀ j, j < i → p j = true) → L (n + 1) (g i) (i : Int) = if p i = true then L n (g (i + 1)) ((i + 1 : Nat) : Int) else no)
    (stop : ∀ n : Nat, (∀ j, j < N → p j = true) → L (n + 1) (g N) (N : Int) = yes) : ∀ (d n i : Nat), N = i + d → d < n → (∀ j, j < i → p j = true) → L n (g i) (i : Int) = if (∀ j, j < N → p j = true) then yes else no
  | 0, n + 1, i, hd, hn, hi => by
    have e : i = N := by omega
    subst e
    rw [stop n hi, if_pos hi]
  | d + 1, n + 1, i, hd, hn, hi => by
    rw [step n i (by omega) hi]
    by_cases hp : p i = true
    · rw [if_pos hp]
      exact scan_inv N p g L yes no step stop d n (i + 1) (by omega) (by omega) (fun j hj => by
        by_cases h : j = i
        · subst h; exact hp
        · exact hi j (by omega))
    · rw [if_neg hp, if_neg (fun h => hp (h i (by omega)))]
theorem scan_inv0 {S R : Type} (N : Nat) (p : Nat → Bool) (g : Nat → S) (L : Nat → S → Int → Option R) (yes no : Option R) {s0 : S} (h0 : g 0 = s0)
    (step : ∀ n i : Nat, i < N → (∀ j, j < i → p j = true) → L (n + 1) (g i) (i : Int) = if p i = true then L n (g (i + 1)) ((i + 1 : Nat) : Int) else no)
    (stop : ∀ n : Nat, (∀ j, j < N → p j = true) → L (n + 1) (g N) (N : Int) = yes) (hN : N ≤ 9223372036854775807) : L FU s0 0 = if (∀ j, j < N → p j = true) then yes else no := by
  rw [← h0]
  exact scan_inv N p g L yes no step stop N FU 0 (by omega) (by have := FU_pos; omega) (fun j hj => by omega)
def kOf (t : Trail) (i : Nat) : Int := gi t.drains i
def dOf (n : Net) (t : Trail) (i : Nat) : Drain := gd_ n.drains (kOf t i).toNat
def okAt (n : Net) (t : Trail) (i : Nat) : Bool :=
  within (kOf t i) 0 ((n.drains.length : Int) - 1) && !mem (t.drains.take i) (kOf t i) && (decide (i = 0) || decide ((dOf n t (i - 1)).to_ = (dOf n t i).from_))
def pathB (n : Net) (t : Trail) : Bool := decide (0 < t.drains.length) && within t.amount 1 20 && decide (∀ i, i < t.drains.length → okAt n t i = true)
def isTrailR (n : Net) (t : Trail) : Bool :=
  pathB n t && (decide ((dOf n t 0).from_ = (dOf n t (t.drains.length - 1)).to_) || (decide ((dOf n t 0).from_ = n.from_) && decide ((dOf n t (t.drains.length - 1)).to_ = n.to_)))
theorem ok_range {n : Net} {t : Trail} {i : Nat} (h : okAt n t i = true) : 0 ≤ kOf t i ∧ kOf t i < (n.drains.length : Int) := by
  unfold okAt at h
  simp only [Bool.and_eq_true, within_iff] at h
  omega
theorem dOf_at {n : Net} {t : Trail} {i : Nat} (h : okAt n t i = true) : n.drains[(kOf t i).toNat]? = some (dOf n t i) := gd_at (by have := ok_range h; omega)
theorem trail_end {n : Net} {t : Trail} (hl : t.drains.length ≤ 1000) (h0 : 0 < t.drains.length) (h : ∀ i, i < t.drains.length → okAt n t i = true) : drain_isTrail_k1 n t = some (decide ((dOf n t 0).from_ = (dOf n t (t.drains.length - 1)).to_) || (decide ((dOf n t 0).from_ = n.from_) && decide ((dOf n t (t.drains.length - 1)).to_ = n.to_))) := by
  have o1 := h 0 h0
  have o2 := h (t.drains.length - 1) (by omega)
  unfold drain_isTrail_k1
  rw [ix0 (gi_at h0)]
  rw [ix_eq (show 0 ≤ gi t.drains 0 from (ok_range o1).1) (dOf_at o1), gd_pos (by omega), show (t.drains.length : Int) - 1 = ((t.drains.length - 1 : Nat) : Int) by omega, ix_nat (gi_at (by omega)), ix_eq (show 0 ≤ gi t.drains (t.drains.length - 1) from (ok_range o2).1) (dOf_at o2)]
  by_cases h1 : (dOf n t 0).from_ = (dOf n t (t.drains.length - 1)).to_
  · rw [if_pos h1, decide_eq_true h1]; rfl
  · rw [if_neg h1, decide_eq_false h1]
    by_cases h2 : (dOf n t 0).from_ = n.from_
    · rw [if_pos h2, decide_eq_true h2]; rfl
    · rw [if_neg h2, decide_eq_false h2]; rfl
theorem isTrail_eq {n : Net} (hd : n.drains.length ≤ 1000) {t : Trail} (hl : t.drains.length ≤ 1000) : drain_isTrail n t = some (isTrailR n t) := by
  unfold drain_isTrail drain_isTrail_k3 isTrailR pathB
  by_cases h0 : 0 < t.drains.length
  · rw [if_neg (by omega), bnd_eq (from_eq _ _ _), decide_eq_true h0]
    cases h1 : within t.amount 1 20
    · rw [if_pos (by rfl)]; rfl
    · rw [if_neg (by simp)]
      have h := scan_inv0 t.drains.length (okAt n t) (fun _ => ()) (fun k _ i => drain_isTrail_L1 n t k i) (drain_isTrail_k1 n t) (some false) (s0 := ()) rfl (fun k i hi hp => ?_) (fun k hp => ?_) (by omega)
      · refine Eq.trans h ?_
        by_cases hc : ∀ i, i < t.drains.length → okAt n t i = true
        · rw [if_pos hc, decide_eq_true hc, trail_end hl h0 hc]; rfl
        · rw [if_neg hc, decide_eq_false hc]; rfl
      · show drain_isTrail_B1 n t (drain_isTrail_L1 n t k) _ = _
        unfold drain_isTrail_B1 drain_isTrail_k2
        rw [if_pos (by omega), ix_nat (gi_at hi), gd_pos (by omega), bnd_eq (from_eq _ _ _)]
        have e : okAt n t i = (within (kOf t i) 0 ((n.drains.length : Int) - 1) && !mem (t.drains.take i) (kOf t i) && (decide (i = 0) || decide ((dOf n t (i - 1)).to_ = (dOf n t i).from_))) := rfl
        rw [e]
        show (if within (kOf t i) 0 ((n.drains.length : Int) - 1) = true then _ else _) = _
        cases hw : within (kOf t i) 0 ((n.drains.length : Int) - 1)
        · rw [if_neg (by simp), if_pos rfl, if_neg (by simp)]
        · have hr := within_iff.1 hw
          rw [if_pos rfl, gd_pos (by omega)]
          rw [show Int.toNat (i : Int) = i from rfl, bnd_eq (contains_eq _ (by rw [List.length_take]; omega))]
          show (if mem (t.drains.take i) (kOf t i) = true then _ else _) = _
          cases hm : mem (t.drains.take i) (kOf t i)
          · rw [if_neg (by simp)]
            by_cases hi0 : i = 0
            · rw [if_neg (by omega), if_neg (by simp), gd_pos (by omega), if_pos (by simp [hi0])]; rfl
            · have ho := hp (i - 1) (by omega)
              have hx : n.drains[(kOf t i).toNat]? = some (dOf n t i) := gd_at (by omega)
              rw [if_pos (by omega), gd_pos (by omega), show (i : Int) - 1 = ((i - 1 : Nat) : Int) by omega, ix_nat (gi_at (by omega)), ix_eq (show 0 ≤ gi t.drains (i - 1) from (ok_range ho).1) (dOf_at ho), ix_eq (show 0 ≤ gi t.drains i from hr.1) hx]
              by_cases h4 : (dOf n t (i - 1)).to_ = (dOf n t i).from_
              · rw [decide_eq_true h4, if_neg (by simp), gd_pos (by omega), if_pos (by simp)]; rfl
              · rw [decide_eq_false h4, if_pos (by rfl), if_neg (by simp [hi0])]
          · rw [if_pos rfl, if_pos rfl, if_neg (by simp)]
      · show drain_isTrail_B1 n t (drain_isTrail_L1 n t k) _ = _
        unfold drain_isTrail_B1
        rw [if_neg (by omega)]
  · rw [if_pos (by omega), if_pos rfl, decide_eq_false h0]; rfl
def addK (a : Int) (l : List Int) (k : Int) : List Int := l.set k.toNat (gi l k.toNat + a)
def addT (l : List Int) (t : Trail) : List Int := t.drains.foldl (addK t.amount) l
def SB (m : Nat) (B : Int) (l : List Int) : Prop := l.length = m ∧ ∀ x ∈ l, 0 ≤ x ∧ x ≤ B
theorem SB.gi {m : Nat} {B : Int} {l : List Int} (h : SB m B l) {i : Nat} (hi : i < m) : 0 ≤ gi l i ∧ gi l i ≤ B := h.2 _ (List.mem_of_getElem? (gi_at (by rw [h.1]; exact hi)))
theorem SB.add {m : Nat} {B a : Int} {l : List Int} {k : Int} (h : SB m B l) (ha : 0 ≤ a ∧ a ≤ 20) (hk : k.toNat < m) : SB m (B + 20) (addK a l k) := by
  refine ⟨by unfold addK; rw [List.length_set, h.1], fun x hx => ?_⟩
  unfold addK at hx
  rcases List.mem_or_eq_of_mem_set hx with h1 | rfl
  · have := h.2 x h1; omega
  · have := h.gi hk; omega
theorem SB.fold {m : Nat} {a : Int} (ha : 0 ≤ a ∧ a ≤ 20) : ∀ (ks : List Int) (B : Int) (l : List Int), SB m B l → (∀ k ∈ ks, k.toNat < m) → SB m (B + 20 * (ks.length : Int)) (ks.foldl (addK a) l)
  | [], B, l, h, _ => by simpa using h
  | k :: r, B, l, h, hk => by
    have := SB.fold ha r (B + 20) (addK a l k) (h.add ha (hk k (List.mem_cons_self ..))) (fun x hx => hk x (List.mem_cons_of_mem _ hx))
    rw [List.foldl_cons, List.length_cons, show B + 20 * ((r.length + 1 : Nat) : Int) = B + 20 + 20 * (r.length : Int) by omega]
    exact this
theorem SB.mono {m : Nat} {B B' : Int} {l : List Int} (h : SB m B l) (hb : B ≤ B') : SB m B' l := ⟨h.1, fun x hx => by have := h.2 x hx; omega⟩
theorem trail_ks {n : Net} {t : Trail} (h : pathB n t = true) : (0 ≤ t.amount ∧ t.amount ≤ 20) ∧ ∀ i, i < t.drains.length → 0 ≤ gi t.drains i ∧ gi t.drains i < (n.drains.length : Int) := by
  unfold pathB at h
  simp only [Bool.and_eq_true, within_iff] at h
  exact ⟨by omega, fun i hi => ok_range (of_decide_eq_true h.2 i hi)⟩
theorem SB.addT {n : Net} {t : Trail} (h : pathB n t = true) (hl : t.drains.length ≤ 100) {B : Int} {l : List Int} (hs : SB n.drains.length B l) : SB n.drains.length (B + 2000) (addT l t) := by
  obtain ⟨h1, h2⟩ := trail_ks h
  have := SB.fold h1 t.drains B l hs (fun k hk => by
    obtain ⟨i, hi⟩ := List.getElem?_of_mem hk
    have := h2 i (lt_of_at hi)
    rw [gi_of hi] at this; omega)
  exact this.mono (by omega)
theorem fold_take {a : Int} {ks : List Int} {l : List Int} {i : Nat} (hi : i < ks.length) : (ks.take (i + 1)).foldl (addK a) l = addK a ((ks.take i).foldl (addK a) l) (gi ks i) := by
  rw [List.take_add_one, gi_at hi, List.foldl_append]; rfl
theorem SB.take {n : Net} {t : Trail} (h : pathB n t = true) (hl : t.drains.length ≤ 100) {B : Int} {l : List Int} (hs : SB n.drains.length B l) (i : Nat) : SB n.drains.length (B + 2000) ((t.drains.take i).foldl (addK t.amount) l) := by
  obtain ⟨h1, h2⟩ := trail_ks h
  have := SB.fold h1 (t.drains.take i) B l hs (fun k hk => by
    obtain ⟨j, hj⟩ := List.getElem?_of_mem (List.mem_of_mem_take hk)
    have := h2 j (lt_of_at hj)
    rw [gi_of hj] at this; omega)
  rw [List.length_take] at this
  exact this.mono (by omega)
def gt_ (l : List Trail) (i : Nat) : Trail := l.getD i ⟨[], 0⟩
theorem gt_at {l : List Trail} {i : Nat} (h : i < l.length) : l[i]? = some (gt_ l i) := by simp [gt_, List.getD, h]
theorem sum_in {n : Net} {t : Trail} (h : pathB n t = true) (hl : t.drains.length ≤ 100) {B : Int} {l : List Int} (hs : SB n.drains.length B l) (hB : B ≤ 1000000) (i : Int) (rec1 : Int → List Int → Option (List Int × Int)) :
    drain_Sum_L1 i rec1 t FU 0 l = drain_Sum_k2 i rec1 (addT l t) := by
  obtain ⟨h1, h2⟩ := trail_ks h
  refine Eq.trans (for0 t.drains.length (fun j => (t.drains.take j).foldl (addK t.amount) l) (fun k s j => drain_Sum_L1 i rec1 t k j s) (drain_Sum_k2 i rec1 (addT l t)) rfl (fun k j hj => ?_) (fun k => ?_) (by omega)) rfl
  · have hb := hs.take h hl j
    have hk := h2 j hj
    have hx : ((t.drains.take j).foldl (addK t.amount) l)[(gi t.drains j).toNat]? = some (gi ((t.drains.take j).foldl (addK t.amount) l) (gi t.drains j).toNat) := gi_at (by rw [hb.1]; omega)
    have hg := hb.gi (i := (gi t.drains j).toNat) (by omega)
    show drain_Sum_B1 i rec1 t (drain_Sum_L1 i rec1 t k) _ _ = _
    unfold drain_Sum_B1
    rw [if_pos (by omega), ix_nat (gi_at hj), ix_eq hk.1 hx, gd_pos (by omega), ix_eq hk.1 hx, gd_pos (by omega), fold_take hj]; rfl
  · show drain_Sum_B1 i rec1 t (drain_Sum_L1 i rec1 t k) _ _ = _
    unfold drain_Sum_B1
    rw [if_neg (by omega), List.take_length]; rfl
def zeros (n : Net) : List Int := List.replicate n.drains.length 0
def sumTo_ (n : Net) (ls : List Trail) (i : Nat) : List Int := (ls.take i).foldl addT (zeros n)
theorem sumTo_succ {n : Net} {ls : List Trail} {i : Nat} (hi : i < ls.length) : sumTo_ n ls (i + 1) = addT (sumTo_ n ls i) (gt_ ls i) := by
  unfold sumTo_
  rw [List.take_add_one, gt_at hi, List.foldl_append]; rfl
theorem sum_SB {n : Net} {ls : List Trail} (hl : ∀ t ∈ ls, t.drains.length ≤ 100) : ∀ i, i ≤ ls.length → (∀ j, j < i → isTrailR n (gt_ ls j) = true) → SB n.drains.length (2000 * (i : Int)) (sumTo_ n ls i)
  | 0, _, _ => ⟨by unfold sumTo_ zeros; simp, fun x hx => by
    unfold sumTo_ zeros at hx
    rw [List.take_zero, List.foldl_nil] at hx
    have := List.eq_of_mem_replicate hx
    omega⟩
  | i + 1, hi, h => by
    have ih := sum_SB hl i (by omega) (fun j hj => h j (by omega))
    rw [sumTo_succ (by omega)]
    have hp : pathB n (gt_ ls i) = true := by
      have := h i (by omega)
      unfold isTrailR at this
      rw [Bool.and_eq_true] at this
      exact this.1
    exact (ih.addT hp (hl _ (List.mem_of_getElem? (gt_at (by omega))))).mono (by omega)
def sumsR (n : Net) (ls : List Trail) : List Int × Int :=
  if validate n = 0 then (if 40 < ls.length then ([], 3) else if (∀ j, j < ls.length → isTrailR n (gt_ ls j) = true) then (sumTo_ n ls ls.length, 0) else ([], 1)) else ([], validate n)
theorem Sum_eq {n : Net} (hd : n.drains.length ≤ 1000) {ls : List Trail} (hl : ∀ t ∈ ls, t.drains.length ≤ 100) (hn : ls.length ≤ 100) : drain_Sum n ls = some (sumsR n ls) := by
  unfold drain_Sum sumsR
  rw [bnd_eq (Validate_eq hd)]
  by_cases hv : validate n = 0
  · rw [if_pos hv, if_pos hv]
    by_cases h4 : 40 < ls.length
    · rw [if_pos (by omega), if_pos h4]
    · rw [if_neg (by omega), if_neg h4, gd_pos (by omega)]
      refine Eq.trans (scan_inv0 ls.length (fun j => isTrailR n (gt_ ls j)) (sumTo_ n ls) (fun k s i => drain_Sum_L2 n ls k i s) (some (sumTo_ n ls ls.length, 0)) (some ([], 1)) rfl (fun k i hi hp => ?_) (fun k hp => ?_) (by omega)) (by split <;> rfl)
      · have hx := gt_at hi
        have hll := hl _ (List.mem_of_getElem? hx)
        show drain_Sum_B2 n ls (drain_Sum_L2 n ls k) _ _ = _
        unfold drain_Sum_B2
        rw [if_pos (by omega), ix_nat hx, bnd_eq (isTrail_eq hd (by omega))]
        by_cases ht : isTrailR n (gt_ ls i) = true
        · have hp' : pathB n (gt_ ls i) = true := by
            unfold isTrailR at ht
            rw [Bool.and_eq_true] at ht
            exact ht.1
          rw [if_pos ht, if_pos ht, sum_in hp' hll (sum_SB hl i (by omega) hp) (by omega)]
          unfold drain_Sum_k2
          rw [gd_pos (by omega), sumTo_succ hi]; rfl
        · rw [if_neg ht, if_neg ht]
      · show drain_Sum_B2 n ls (drain_Sum_L2 n ls k) _ _ = _
        unfold drain_Sum_B2
        rw [if_neg (by omega)]; rfl
  · rw [if_neg hv, if_neg hv]
end Go.D2

set_option linter.unusedVariables false
set_option linter.unusedSimpArgs false
namespace Go.D2
open Go.Tb
def fr (n : Net) (k : Int) : Int := (gd_ n.drains k.toNat).from_
def tt (n : Net) (k : Int) : Int := (gd_ n.drains k.toNat).to_
/-- What a trail puts on a drain. -/
def cf (a : Int) : List Int → Nat → Int
  | [], _ => 0
  | k :: r, j => (if k.toNat = j then a else 0) + cf a r j
theorem gi_addK {a k : Int} {l : List Int} {j : Nat} (hk : k.toNat < l.length) : gi (addK a l k) j = gi l j + (if k.toNat = j then a else 0) := by
  unfold addK gi
  simp only [List.getD_eq_getElem?_getD, List.getElem?_set]
  by_cases h : k.toNat = j
  · subst h; rw [if_pos rfl, if_pos hk, if_pos rfl]; rfl
  · rw [if_neg h, if_neg h]; omega
theorem fold_len (a : Int) : ∀ (ks : List Int) (l : List Int), (ks.foldl (addK a) l).length = l.length
  | [], _ => rfl
  | k :: r, l => by rw [List.foldl_cons, fold_len a r]; unfold addK; rw [List.length_set]
theorem gi_fold {a : Int} {j : Nat} : ∀ (ks : List Int) (l : List Int), (∀ k ∈ ks, k.toNat < l.length) → gi (ks.foldl (addK a) l) j = gi l j + cf a ks j
  | [], l, _ => by simp [cf]
  | k :: r, l, h => by
    have hk := h k (List.mem_cons_self ..)
    rw [List.foldl_cons, gi_fold r (addK a l k) (fun x hx => by
      unfold addK; rw [List.length_set]; exact h x (List.mem_cons_of_mem _ hx)), gi_addK hk]
    simp only [cf]; omega
theorem cf_nodup {a : Int} {j : Nat} : ∀ ks : List Int, ks.Nodup → (∀ k ∈ ks, 0 ≤ k) → cf a ks j = if (j : Int) ∈ ks then a else 0
  | [], _, _ => rfl
  | k :: r, hd, h0 => by
    have hk := h0 k (List.mem_cons_self ..)
    rw [List.nodup_cons] at hd
    simp only [cf]
    rw [cf_nodup r hd.2 (fun x hx => h0 x (List.mem_cons_of_mem _ hx))]
    by_cases e : k.toNat = j
    · have e' : (j : Int) = k := by omega
      rw [if_pos e, e', if_neg hd.1, if_pos (List.mem_cons_self ..)]; omega
    · rw [if_neg e]
      by_cases hm : (j : Int) ∈ r
      · rw [if_pos hm, if_pos (List.mem_cons_of_mem _ hm)]; omega
      · rw [if_neg hm, if_neg]
        · omega
        · intro hc
          rcases List.mem_cons.1 hc with h | h
          · omega
          · exact hm h
theorem gi_ext {l l' : List Int} (hl : l.length = l'.length) (h : ∀ j, j < l.length → gi l j = gi l' j) : l = l' := by
  apply List.ext_getElem?
  intro j
  by_cases hj : j < l.length
  · rw [gi_at hj, gi_at (by omega), h j hj]
  · rw [List.getElem?_eq_none (by omega), List.getElem?_eq_none (by omega)]
theorem en_set {n : Net} {x : List Int} {k : Nat} {f : Int} (hx : x.length = n.drains.length) (hk : k < x.length) : En n (x.set k f) = (En n x).set k ⟨(gd_ n.drains k).from_, (gd_ n.drains k).to_, (gd_ n.drains k).width, f⟩ := by
  apply List.ext_getElem?
  intro j
  rw [List.getElem?_set]
  by_cases e : k = j
  · subst e
    rw [if_pos rfl, if_pos (by rw [en_len hx]; omega)]
    exact en_at (gd_at (by omega)) (by rw [List.getElem?_set, if_pos rfl, if_pos hk])
  · rw [if_neg e]
    by_cases hj : j < x.length
    · rw [en_at (gd_at (by omega)) (gi_at hj)]
      exact en_at (gd_at (by omega)) (by rw [List.getElem?_set, if_neg e, gi_at hj])
    · rw [List.getElem?_eq_none (by rw [en_len (by rw [List.length_set]; exact hx)]; omega), List.getElem?_eq_none (by rw [en_len hx]; omega)]
theorem out_addK {n : Net} {x : List Int} {k a v : Int} (hx : x.length = n.drains.length) (hk : k.toNat < x.length) : out (En n (addK a x k)) v = out (En n x) v + ((if fr n k = v then a else 0) - (if tt n k = v then a else 0)) := by
  unfold addK
  rw [en_set hx hk, out_set (en_at (gd_at (by omega)) (gi_at hk))]
  unfold con1 fr tt
  simp only
  by_cases h1 : (gd_ n.drains k.toNat).from_ = v <;> by_cases h2 : (gd_ n.drains k.toNat).to_ = v <;> simp only [h1, h2, if_true, if_false] <;> omega
theorem out_chain {n : Net} {x : List Int} {a v : Int} {K : List Int} (hx : x.length = n.drains.length) (hr : ∀ i, i < K.length → 0 ≤ gi K i ∧ gi K i < (n.drains.length : Int)) (hlk : ∀ i, i + 1 < K.length → tt n (gi K i) = fr n (gi K (i + 1))) :
    ∀ i, i < K.length → out (En n ((K.take (i + 1)).foldl (addK a) x)) v = out (En n x) v + ((if fr n (gi K 0) = v then a else 0) - (if tt n (gi K i) = v then a else 0))
  | 0, hi => by
    have h0 := hr 0 hi
    rw [fold_take hi, List.take_zero, List.foldl_nil, out_addK hx (by omega)]
  | i + 1, hi => by
    have h0 := hr (i + 1) hi
    have ih := out_chain hx hr hlk i (by omega) (a := a) (v := v)
    have hl := fold_len a (K.take (i + 1)) x
    rw [fold_take hi, out_addK (by rw [hl]; exact hx) (by rw [hl]; omega), ih, hlk i hi]
    omega
/-- A flow, or what is left of one. -/
structure Rem (n : Net) (x : List Int) : Prop where
  len : x.length = n.drains.length
  bnd : ∀ i, 0 ≤ gi x i ∧ gi x i ≤ 20
  con : ∀ v : Int, 0 ≤ v → v < n.nodes → v ≠ n.from_ → v ≠ n.to_ → out (En n x) v = 0
theorem Rem.fb {n : Net} {x : List Int} (h : Rem n x) : FBnd x := fun y hy => by
  obtain ⟨i, hi⟩ := List.getElem?_of_mem hy
  have := h.bnd i
  rw [gi_of hi] at this; omega
theorem net_true : ∀ E : List Ed, netS (fun _ => true) E = 0
  | [] => rfl
  | e :: r => by simp [netS, net_true r]
theorem en_mem {n : Net} {x : List Int} (hx : x.length = n.drains.length) {e : Ed} (he : e ∈ En n x) : ∃ i, i < x.length ∧ e = ⟨(gd_ n.drains i).from_, (gd_ n.drains i).to_, (gd_ n.drains i).width, gi x i⟩ := by
  obtain ⟨i, hi⟩ := List.getElem?_of_mem he
  have hl := lt_of_at hi
  rw [en_len hx] at hl
  rw [en_at (gd_at hl) (gi_at (by omega))] at hi
  cases hi
  exact ⟨i, by omega, rfl⟩
theorem drain_in {n : Net} (hn : Net0 n) {i : Nat} (hi : i < n.drains.length) : (0 ≤ (gd_ n.drains i).from_ ∧ (gd_ n.drains i).from_ < n.nodes) ∧ (0 ≤ (gd_ n.drains i).to_ ∧ (gd_ n.drains i).to_ < n.nodes) ∧ (gd_ n.drains i).from_ ≠ (gd_ n.drains i).to_ := by
  have h := hn.dr _ (List.mem_of_getElem? (gd_at hi))
  exact ⟨h.1, h.2.1, h.2.2.1⟩
theorem en_in {n : Net} (hn : Net0 n) {x : List Int} (hx : x.length = n.drains.length) : In n.nodes.toNat (En n x) := fun e he => by
  obtain ⟨i, hi, rfl⟩ := en_mem hx he
  have := drain_in hn (i := i) (by omega)
  have := hn.n2
  simp only; omega
/-- What leaves at one end comes in at the other. -/
theorem Rem.total {n : Net} (hn : Net0 n) {x : List Int} (h : Rem n x) : out (En n x) n.from_ + out (En n x) n.to_ = 0 := by
  have h1 := net_sum (fun _ => true) (En n x) (en_in hn h.len)
  rw [net_true] at h1
  rw [sumTo_congr (h := fun v => (if n.from_ = v then out (En n x) n.from_ else 0) + (if n.to_ = v then out (En n x) n.to_ else 0)) _ (fun v v1 v2 => ?_), sumTo_add, sumTo_point, sumTo_point] at h1
  · have := hn.s0
    have := hn.t0
    rw [if_pos (by omega), if_pos (by omega)] at h1
    exact h1
  · rw [if_pos rfl]
    by_cases e1 : n.from_ = v
    · subst e1
      rw [if_pos rfl, if_neg (fun h => hn.ne h.symm)]; omega
    · rw [if_neg e1]
      by_cases e2 : n.to_ = v
      · subst e2
        rw [if_pos rfl]; omega
      · rw [if_neg e2, h.con v v1 (by omega) (fun h => e1 h.symm) (fun h => e2 h.symm)]; rfl
theorem out_none {v : Int} : ∀ E : List Ed, (∀ e ∈ E, 0 ≤ e.f) → (∀ e ∈ E, e.a = v → e.f = 0) → out E v ≤ 0 ∧ ((∃ e ∈ E, e.b = v ∧ 0 < e.f) → out E v < 0)
  | [], _, _ => ⟨Int.le_refl _, by rintro ⟨e, he, _⟩; cases he⟩
  | e :: r, h1, h2 => by
    have ⟨i1, i2⟩ := out_none r (fun x hx => h1 x (List.mem_cons_of_mem _ hx)) (fun x hx => h2 x (List.mem_cons_of_mem _ hx))
    have f0 := h1 e (List.mem_cons_self ..)
    have f1 := h2 e (List.mem_cons_self ..)
    simp only [out]
    refine ⟨by split <;> split <;> (try have := f1 ‹_›) <;> omega, ?_⟩
    rintro ⟨y, hy, y1, y2⟩
    rcases List.mem_cons.1 hy with rfl | hy
    · rw [if_pos y1]
      split
      · have := f1 ‹_›; omega
      · omega
    · have := i2 ⟨y, hy, y1, y2⟩
      split <;> split <;> (try have := f1 ‹_›) <;> omega
theorem leaves_some {n : Net} {x : List Int} (h : Rem n x) {v : Int} (hv : 0 < out (En n x) v ∨ (0 ≤ out (En n x) v ∧ ∃ i, i < x.length ∧ tt n (i : Int) = v ∧ 0 < gi x i)) : ∃ i : Nat, i < x.length ∧ fr n (i : Int) = v ∧ 0 < gi x i := by
  apply Classical.byContradiction
  intro hc
  have key := out_none (v := v) (En n x) (fun e he => by
    obtain ⟨i, hi, rfl⟩ := en_mem h.len he
    exact (h.bnd i).1) (fun e he ha => by
    obtain ⟨i, hi, rfl⟩ := en_mem h.len he
    have := (h.bnd i).1
    rcases Int.lt_or_le 0 (gi x i) with h0 | h0
    · exact absurd ⟨i, hi, ha, h0⟩ hc
    · simp only; omega)
  rcases hv with h1 | ⟨h1, i, hi, h2, h3⟩
  · omega
  · have := key.2 ⟨_, List.mem_of_getElem? (en_at (gd_at (show i < n.drains.length by have := h.len; omega)) (gi_at hi)), h2, h3⟩
    omega
end Go.D2

set_option linter.unusedVariables false
set_option linter.unusedSimpArgs false
namespace Go.D2
open Go.Tb
theorem clone_eq {l : List Int} (h : l.length ≤ 1000000) : slices_Clone_int l = some l := by
  unfold slices_Clone_int
  rw [gd_pos (by simpa using h)]; rfl
/-- Where a number lies first. -/
theorem indexL {l : List Int} (x : Int) (hl : l.length ≤ 1000) : ∀ (d i k : Nat), l.length = i + d → d < k → (∃ r : Nat, slices_Index_int_L1 l x k (i : Int) = some (r : Int) ∧ r < l.length ∧ gi l r = x) ∨ (slices_Index_int_L1 l x k (i : Int) = some (-1) ∧ ∀ j, i ≤ j → j < l.length → gi l j ≠ x)
  | 0, i, k + 1, hd, hk => by
    right
    refine ⟨?_, fun j h1 h2 => by omega⟩
    show slices_Index_int_B1 l x (slices_Index_int_L1 l x k) _ = _
    unfold slices_Index_int_B1
    rw [if_neg (by omega)]; rfl
  | d + 1, i, k + 1, hd, hk => by
    have e : slices_Index_int_L1 l x (k + 1) (i : Int) = slices_Index_int_B1 l x (slices_Index_int_L1 l x k) (i : Int) := rfl
    rw [e]
    unfold slices_Index_int_B1
    rw [if_pos (by omega), ix_nat (gi_at (show i < l.length by omega))]
    by_cases h : x = gi l i
    · rw [if_pos h]
      exact .inl ⟨i, rfl, by omega, h.symm⟩
    · rw [if_neg h, gd_pos (by omega)]
      rcases indexL x hl d (i + 1) k (by omega) (by omega) with ⟨r, h1, h2, h3⟩ | ⟨h1, h2⟩
      · exact .inl ⟨r, h1, h2, h3⟩
      · refine .inr ⟨h1, fun j j1 j2 => ?_⟩
        by_cases hj : j = i
        · subst hj; exact fun h' => h h'.symm
        · exact h2 j (by omega) j2
theorem index0 {l : List Int} (x : Int) (hl : l.length ≤ 1000) : (∃ r : Nat, slices_Index_int l x = some (r : Int) ∧ r < l.length ∧ gi l r = x) ∨ (slices_Index_int l x = some (-1) ∧ x ∉ l) := by
  rcases indexL x hl l.length 0 FU (by omega) (by have := FU_pos; omega) with h | ⟨h1, h2⟩
  · exact .inl h
  · refine .inr ⟨h1, fun hm => ?_⟩
    obtain ⟨j, hj⟩ := List.getElem?_of_mem hm
    exact h2 j (by omega) (lt_of_at hj) (gi_of hj)
/-- The drains of a trail in a flow. -/
structure Good (n : Net) (x : List Int) (K : List Int) : Prop where
  ne : 0 < K.length
  rng : ∀ i, i < K.length → 0 ≤ gi K i ∧ gi K i < (n.drains.length : Int)
  pos : ∀ i, i < K.length → 0 < gi x (gi K i).toNat
  link : ∀ i, i + 1 < K.length → tt n (gi K i) = fr n (gi K (i + 1))
  nd : K.Nodup
theorem gi_mem {l : List Int} {i : Nat} (h : i < l.length) : gi l i ∈ l := List.mem_of_getElem? (gi_at h)
theorem mem_gi' {l : List Int} {k : Int} (h : k ∈ l) : ∃ i, i < l.length ∧ gi l i = k := by
  obtain ⟨i, hi⟩ := List.getElem?_of_mem h
  exact ⟨i, lt_of_at hi, gi_of hi⟩
theorem Good.len {n : Net} {x K : List Int} (h : Good n x K) : K.length ≤ n.drains.length := by
  have := nodup_len n.drains.length (K.map Int.toNat) (fun i hi => by
    obtain ⟨k, hk, rfl⟩ := List.mem_map.1 hi
    obtain ⟨j, hj, rfl⟩ := mem_gi' hk
    have := h.rng j hj
    omega) (by
    unfold List.Nodup
    rw [List.pairwise_map]
    refine List.Pairwise.imp_of_mem (fun {a b} ha hb hab => ?_) h.nd
    obtain ⟨i, hi, rfl⟩ := mem_gi' ha
    obtain ⟨j, hj, rfl⟩ := mem_gi' hb
    have := h.rng i hi
    have := h.rng j hj
    omega)
  rwa [List.length_map] at this
/-- The most that a trail can take. -/
def mn (x K : List Int) (m : Int) (i : Nat) : Int := (K.take i).foldl (fun s k => min s (gi x k.toNat)) m
theorem mn_succ {x K : List Int} {m : Int} {i : Nat} (hi : i < K.length) : mn x K m (i + 1) = min (mn x K m i) (gi x (gi K i).toNat) := by
  unfold mn
  rw [List.take_add_one, gi_at hi, List.foldl_append]; rfl
theorem mn_spec {n : Net} {x K : List Int} (h : Good n x K) {m : Int} (hm : 0 < m) : ∀ i, i ≤ K.length → 0 < mn x K m i ∧ mn x K m i ≤ m ∧ (∀ j, j < i → mn x K m i ≤ gi x (gi K j).toNat) ∧ (mn x K m i = m ∨ ∃ j, j < i ∧ gi x (gi K j).toNat = mn x K m i)
  | 0, _ => ⟨hm, Int.le_refl _, fun j hj => by omega, .inl rfl⟩
  | i + 1, hi => by
    have ⟨h1, h2, h3, h4⟩ := mn_spec h hm i (by omega)
    have hp := h.pos i (by omega)
    rw [mn_succ (by omega)]
    refine ⟨by omega, by omega, fun j hj => ?_, ?_⟩
    · by_cases e : j = i
      · subst e; omega
      · have := h3 j (by omega); omega
    · by_cases hc : mn x K m i ≤ gi x (gi K i).toNat
      · rw [show min (mn x K m i) (gi x (gi K i).toNat) = mn x K m i by omega]
        rcases h4 with h4 | ⟨j, j1, j2⟩
        · exact .inl h4
        · exact .inr ⟨j, by omega, j2⟩
      · exact .inr ⟨i, by omega, by omega⟩
/-- What is left when a trail is taken. -/
def taken (x K : List Int) (m : Int) : List Int := K.foldl (addK (-m)) x
theorem taken_gi {n : Net} {x K : List Int} (hx : x.length = n.drains.length) (h : Good n x K) (m : Int) (j : Nat) : gi (taken x K m) j = gi x j - (if (j : Int) ∈ K then m else 0) := by
  unfold taken
  rw [gi_fold K x (fun k hk => by
    obtain ⟨i, hi, rfl⟩ := mem_gi' hk
    have := h.rng i hi
    omega), cf_nodup K h.nd (fun k hk => by
    obtain ⟨i, hi, rfl⟩ := mem_gi' hk
    exact (h.rng i hi).1)]
  split <;> omega
theorem part_gi {n : Net} {x K : List Int} (hx : x.length = n.drains.length) (h : Good n x K) (m : Int) (i : Nat) (hi : i < K.length) : gi ((K.take i).foldl (addK (-m)) x) (gi K i).toNat = gi x (gi K i).toNat := by
  have h0 := h.rng i hi
  rw [gi_fold _ x (fun k hk => by
    obtain ⟨j, hj, rfl⟩ := mem_gi' (List.mem_of_mem_take hk)
    have := h.rng j hj
    omega), cf_nodup _ (h.nd.sublist (List.take_sublist i K)) (fun k hk => by
    obtain ⟨j, hj, rfl⟩ := mem_gi' (List.mem_of_mem_take hk)
    exact (h.rng j hj).1), if_neg]
  · omega
  · intro hm
    rw [show (((gi K i).toNat : Nat) : Int) = gi K i by omega] at hm
    have h1 := h.nd
    rw [← List.take_append_drop i K, List.drop_eq_getElem_cons hi] at h1
    have h2 := (List.nodup_append.1 h1).2.2 _ hm K[i] (List.mem_cons_self ..)
    apply h2
    have := gi_at hi
    rw [List.getElem?_eq_getElem hi] at this
    exact (Option.some.inj this).symm
theorem k3_eq {n : Net} (hn : Net0 n) {x : List Int} (hx : Rem n x) {K0 : List Int} {lo : Nat} {K : List Int} (hK : K0.drop lo = K) (h : Good n x K) {m : Int} (hm : 0 < m ∧ m ≤ 1000) :
    drain_trail_k3 x m K0 lo = some (⟨K, mn x K m K.length⟩, taken x K (mn x K m K.length)) := by
  have h16 := hn.len
  have hl := h.len
  have hxl := hx.len
  unfold drain_trail_k3
  refine Eq.trans (for0 K.length (fun i => mn x K m i) (fun k s i => drain_trail_L2 x K0 lo k s i) (drain_trail_k2 x K0 lo (mn x K m K.length)) rfl (fun k i hi => ?_) (fun k => ?_) (by omega)) ?_
  · have h0 := h.rng i hi
    show drain_trail_B2 x K0 lo (drain_trail_L2 x K0 lo k) _ _ = _
    unfold drain_trail_B2
    rw [hK, if_pos (by omega), ix_nat (gi_at hi), ix_eq h0.1 (gi_at (show (gi K i).toNat < x.length by omega)), gd_pos (by omega), mn_succ hi]; rfl
  · show drain_trail_B2 x K0 lo (drain_trail_L2 x K0 lo k) _ _ = _
    unfold drain_trail_B2
    rw [hK, if_neg (by omega)]
  · have ⟨m1, m2, m3, m4⟩ := mn_spec h hm.1 K.length (Nat.le_refl _)
    generalize mn x K m K.length = a at *
    unfold drain_trail_k2
    refine Eq.trans (for0 K.length (fun j => (K.take j).foldl (addK (-a)) x) (fun k s j => drain_trail_L1 K0 lo a k j s) (some (⟨K, a⟩, taken x K a)) rfl (fun k i hi => ?_) (fun k => ?_) (by omega)) rfl
    · have h0 := h.rng i hi
      have hg := part_gi hxl h a i hi
      have hb := hx.bnd (gi K i).toNat
      have hl2 := fold_len (-a) (K.take i) x
      have e : gi ((K.take i).foldl (addK (-a)) x) (gi K i).toNat - a = gi ((K.take i).foldl (addK (-a)) x) (gi K i).toNat + -a := by omega
      show drain_trail_B1 K0 lo a (drain_trail_L1 K0 lo a k) _ _ = _
      unfold drain_trail_B1
      rw [hK, if_pos (by omega), ix_nat (gi_at hi), ix_eq h0.1 (gi_at (by omega)), gd_pos (by rw [hg]; omega), ix_eq h0.1 (gi_at (by omega)), gd_pos (by omega), fold_take hi, e]; rfl
    · show drain_trail_B1 K0 lo a (drain_trail_L1 K0 lo a k) _ _ = _
      unfold drain_trail_B1 drain_trail_k1
      rw [hK, if_neg (by omega), bnd_eq (clone_eq (by omega)), List.take_length]; rfl
structure Walk (n : Net) (x : List Int) (u0 at_ : Int) (F ks : List Int) : Prop where
  frs : ks.map (fr n) = F
  head : gi (F ++ [at_]) 0 = u0
  tos : ks.map (tt n) = (F ++ [at_]).tail
  nd : (F ++ [at_]).Nodup
  node : ∀ v ∈ F ++ [at_], 0 ≤ v ∧ v < n.nodes
  rng : ∀ k ∈ ks, 0 ≤ k ∧ k < (n.drains.length : Int)
  pos : ∀ k ∈ ks, 0 < gi x k.toNat
theorem gi_map {f : Int → Int} {l : List Int} {i : Nat} (h : i < l.length) : gi (l.map f) i = f (gi l i) := by
  apply gi_of
  rw [List.getElem?_map, gi_at h]; rfl
theorem gi_tail {l : List Int} {i : Nat} : gi l.tail i = gi l (i + 1) := by
  unfold gi
  simp only [List.getD_eq_getElem?_getD, List.getElem?_tail]
theorem gi_app1 {l l' : List Int} {i : Nat} (h : i < l.length) : gi (l ++ l') i = gi l i := by
  unfold gi
  simp only [List.getD_eq_getElem?_getD, List.getElem?_append_left h]
theorem gi_app2 {l : List Int} {y : Int} : gi (l ++ [y]) l.length = y := gi_of (by simp)
theorem gi_drop {l : List Int} {q i : Nat} : gi (l.drop q) i = gi l (q + i) := by
  unfold gi
  simp only [List.getD_eq_getElem?_getD, List.getElem?_drop]
theorem Walk.flen {n : Net} {x : List Int} {u0 at_ : Int} {F ks : List Int} (w : Walk n x u0 at_ F ks) : F.length = ks.length := by rw [← w.frs, List.length_map]
theorem Walk.slen {n : Net} (hn : Net0 n) {x : List Int} {u0 at_ : Int} {F ks : List Int} (w : Walk n x u0 at_ F ks) : F.length + 1 ≤ n.nodes.toNat := by
  have := nodup_len n.nodes.toNat ((F ++ [at_]).map Int.toNat) (fun i hi => by
    obtain ⟨k, hk, rfl⟩ := List.mem_map.1 hi
    have := w.node k hk
    omega) (by
    unfold List.Nodup
    rw [List.pairwise_map]
    refine List.Pairwise.imp_of_mem (fun {a b} ha hb hab => ?_) w.nd
    have := w.node a ha
    have := w.node b hb
    omega)
  simpa using this
/-- A walk's drains, from any place on, are a trail's. -/
theorem walk_good {n : Net} {x F : List Int} {ks : List Int} {a : Int} (frs : ks.map (fr n) = F) (tos : ∀ i, i + 1 < ks.length → tt n (gi ks i) = gi F (i + 1)) (nd : F.Nodup) (rng : ∀ k ∈ ks, 0 ≤ k ∧ k < (n.drains.length : Int)) (pos : ∀ k ∈ ks, 0 < gi x k.toNat) {r : Nat} (hr : r < ks.length) : Good n x (ks.drop r) where
  ne := by rw [List.length_drop]; omega
  rng := fun i hi => rng _ (List.mem_of_mem_drop (gi_mem hi))
  pos := fun i hi => pos _ (List.mem_of_mem_drop (gi_mem hi))
  link := fun i hi => by
    rw [List.length_drop] at hi
    rw [gi_drop, gi_drop, tos _ (by omega), ← frs, show r + i + 1 = r + (i + 1) by omega, gi_map (by omega)]
  nd := by
    have h : ks.Nodup := by
      rw [← frs] at nd
      unfold List.Nodup at nd ⊢
      rw [List.pairwise_map] at nd
      exact nd.imp (fun h e => h (by rw [e]))
    exact h.sublist (List.drop_sublist _ _)
theorem scan_L3 {n : Net} {x : List Int} (hx : x.length = n.drains.length) (hl : n.drains.length ≤ 1000) {u : Int} {l4 l5 : List Int} (rec3 : Int → List Int → List Int → Option (Trail × List Int)) {j : Nat} (hj : j < x.length) (h1 : fr n (j : Int) = u) (h2 : gi x j ≠ 0) :
    ∀ (d i k : Nat), j = i + d → d < k → ∃ q : Nat, q < x.length ∧ fr n (q : Int) = u ∧ gi x q ≠ 0 ∧ drain_trail_L3 n x u l4 l5 rec3 k (i : Int) = drain_trail_k4 n x l4 l5 rec3 (q : Int)
  | d, i, k + 1, hd, hk => by
    have e : drain_trail_L3 n x u l4 l5 rec3 (k + 1) (i : Int) = drain_trail_B3 n x u l4 l5 rec3 (drain_trail_L3 n x u l4 l5 rec3 k) (i : Int) := rfl
    by_cases hi : fr n (i : Int) = u ∧ gi x i ≠ 0
    · refine ⟨i, by omega, hi.1, hi.2, ?_⟩
      rw [e]
      unfold drain_trail_B3 drain_trail_k5
      rw [ix_nat (gd_at (by omega)), if_pos (show (gd_ n.drains i).from_ = u from hi.1), ix_nat (gi_at (by omega)), if_neg (by simpa using hi.2)]
    · cases d with
      | zero =>
        have : j = i := by omega
        subst this
        exact absurd ⟨h1, h2⟩ hi
      | succ d =>
        obtain ⟨q, q1, q2, q3, q4⟩ := scan_L3 hx hl rec3 hj h1 h2 d (i + 1) k (by omega) (by omega)
        refine ⟨q, q1, q2, q3, ?_⟩
        rw [e, ← q4]
        unfold drain_trail_B3 drain_trail_k5
        rw [ix_nat (gd_at (by omega))]
        by_cases h3 : fr n (i : Int) = u
        · have h4 : gi x i = 0 := Classical.byContradiction fun h4 => hi ⟨h3, h4⟩
          rw [if_pos (show (gd_ n.drains i).from_ = u from h3), ix_nat (gi_at (by omega)), if_pos (by simpa using h4), gd_pos (by omega)]; rfl
        · rw [if_neg (show ¬ (gd_ n.drains i).from_ = u from h3), if_pos rfl, gd_pos (by omega)]; rfl
/-- How a trail ends. -/
def Ends (n : Net) (u0 to most : Int) (K : List Int) (m : Int) : Prop :=
  (m = most ∧ fr n (gi K 0) = u0 ∧ tt n (gi K (K.length - 1)) = to) ∨ (m = 20 ∧ fr n (gi K 0) = tt n (gi K (K.length - 1)))
theorem trail_loop {n : Net} (hn : Net0 n) {x : List Int} (hx : Rem n x) {u0 to most : Int}
    (hout : ∀ at_ F ks, Walk n x u0 at_ F ks → ¬ (at_ = to ∧ ks ≠ []) → ∃ i : Nat, i < x.length ∧ fr n (i : Int) = at_ ∧ 0 < gi x i) :
    ∀ (q k : Nat) (at_ : Int) (F ks : List Int), Walk n x u0 at_ F ks → n.nodes.toNat ≤ F.length + q → q < k →
      ∃ K0 lo m, drain_trail_L4 n x to most k at_ (F ++ [at_]) ks = drain_trail_k3 x m K0 lo ∧ Good n x (K0.drop lo) ∧ Ends n u0 to most (K0.drop lo) m
  | 0, k, at_, F, ks, w, hq, hk => by
    have := w.slen hn
    omega
  | q + 1, k + 1, at_, F, ks, w, hq, hk => by
    have hsl := w.slen hn
    have hfl := w.flen
    have h8 := hn.n8
    have h16 := hn.len
    have hxl := hx.len
    have hF : F.Nodup := (List.nodup_append.1 w.nd).1
    have e : drain_trail_L4 n x to most (k + 1) at_ (F ++ [at_]) ks = drain_trail_B4 n x to most (drain_trail_L4 n x to most k) at_ (F ++ [at_]) ks := rfl
    have tosi : ∀ i, i < ks.length → tt n (gi ks i) = gi (F ++ [at_]) (i + 1) := fun i hi => by
      rw [← gi_map (f := tt n) hi, w.tos, gi_tail]
    rw [e]
    unfold drain_trail_B4 drain_trail_k6
    by_cases hend : at_ = to ∧ ks ≠ []
    · have hks : 0 < ks.length := List.length_pos_iff.2 hend.2
      refine ⟨ks, 0, most, ?_, ?_, ?_⟩
      · rw [if_pos hend.1, if_neg (by simp; exact hend.2)]
      · exact walk_good (a := at_) w.frs (fun i hi => by rw [tosi i (by omega), gi_app1 (by omega)]) hF w.rng w.pos hks
      · left
        rw [List.drop_zero]
        refine ⟨rfl, ?_, ?_⟩
        · rw [← gi_map (f := fr n) hks, w.frs, ← w.head, gi_app1 (by omega)]
        · rw [tosi _ (by omega), show ks.length - 1 + 1 = F.length by omega, gi_app2, hend.1]
    · obtain ⟨j, j1, j2, j3⟩ := hout at_ F ks w hend
      obtain ⟨p, p1, p2, p3, p4⟩ := scan_L3 (l4 := F ++ [at_]) (l5 := ks) hxl (by omega) (drain_trail_L4 n x to most k) j1 j2 (by omega) j 0 FU (by omega) (by have := FU_pos; omega)
      have hlen : (F ++ [at_]).length = F.length + 1 := by simp
      have eq1 : drain_trail_B4 n x to most (drain_trail_L4 n x to most k) at_ (F ++ [at_]) ks = drain_trail_k4 n x (F ++ [at_]) ks (drain_trail_L4 n x to most k) (p : Int) := by
        rw [← p4]
        unfold drain_trail_B4 drain_trail_k6
        by_cases h1 : at_ = to
        · have h2 : ks = [] := Classical.byContradiction fun h2 => hend ⟨h1, h2⟩
          rw [if_pos h1, if_pos (by simp [h2])]; rfl
        · rw [if_neg h1, if_pos rfl]; rfl
      unfold drain_trail_B4 drain_trail_k6 at eq1
      rw [eq1]
      have hin := drain_in hn (i := p) (by omega)
      have frs' : (ks ++ [(p : Int)]).map (fr n) = F ++ [at_] := by rw [List.map_append, w.frs, List.map_singleton, p2]
      have rng' : ∀ y ∈ ks ++ [(p : Int)], 0 ≤ y ∧ y < (n.drains.length : Int) := fun y hy => by
        rcases List.mem_append.1 hy with hy | hy
        · exact w.rng y hy
        · rw [List.mem_singleton] at hy; omega
      have pos' : ∀ y ∈ ks ++ [(p : Int)], 0 < gi x y.toNat := fun y hy => by
        rcases List.mem_append.1 hy with hy | hy
        · exact w.pos y hy
        · rw [List.mem_singleton] at hy
          subst hy
          have := (hx.bnd p).1
          show 0 < gi x p
          omega
      unfold drain_trail_k4
      rw [gd_pos (by simp; omega), ix_nat (gd_at (show p < n.drains.length by omega))]
      rcases index0 (l := F ++ [at_]) (gd_ n.drains p).to_ (by omega) with ⟨r, r1, r2, r3⟩ | ⟨r1, r2⟩
      · rw [bnd_eq r1, if_pos (by omega), gd_pos (by simp; omega)]
        refine ⟨ks ++ [(p : Int)], r, 20, rfl, ?_, .inr ⟨rfl, ?_⟩⟩
        · refine walk_good (a := at_) frs' (fun i hi => ?_) w.nd rng' pos' (by simp; omega)
          have hi' : i < ks.length := by simp at hi; omega
          rw [gi_app1 hi', tosi i hi']
        · have hd : (List.drop r (ks ++ [(p : Int)])).length = ks.length + 1 - r := by simp
          rw [gi_drop, gi_drop, hd, show r + (ks.length + 1 - r - 1) = ks.length by omega, gi_app2, ← gi_map (f := fr n) (by simp; omega), frs', Nat.add_zero, r3]; rfl
      · rw [bnd_eq r1, if_neg (by omega), gd_pos (by simp; omega)]
        have w' : Walk n x u0 (gd_ n.drains p).to_ (F ++ [at_]) (ks ++ [(p : Int)]) := {
          frs := frs'
          head := by rw [gi_app1 (by omega)]; exact w.head
          tos := by
            rw [List.map_append, w.tos, List.map_singleton]; cases F <;> rfl
          nd := by
            rw [List.nodup_append]
            refine ⟨w.nd, by simp, fun a ha b hb hab => ?_⟩
            rw [List.mem_singleton] at hb
            exact r2 (by rw [← hb, ← hab]; exact ha)
          node := fun v hv => by
            rcases List.mem_append.1 hv with hv | hv
            · exact w.node v hv
            · rw [List.mem_singleton] at hv
              rw [hv]; exact hin.2.1
          rng := rng'
          pos := pos' }
        obtain ⟨K0, lo, m, h1, h2, h3⟩ := trail_loop hn hx hout q k _ _ _ w' (by simp; omega) (by omega)
        exact ⟨K0, lo, m, h1, h2, h3⟩
end Go.D2

set_option linter.unusedVariables false
set_option linter.unusedSimpArgs false
namespace Go.D2
open Go.Tb
def val (n : Net) (x : List Int) : Int := out (En n x) n.from_
def cnt (n : Net) (x : List Int) : Nat := ((List.range n.drains.length).filter fun i => decide (0 < gi x i)).length
def meas (n : Net) (x : List Int) : Nat := cnt n x + (if 0 < val n x then 1 else 0)
theorem cnt_le (n : Net) (x : List Int) : cnt n x ≤ n.drains.length := by
  have := List.length_filter_le (fun i => decide (0 < gi x i)) (List.range n.drains.length)
  simpa [cnt] using this
theorem val_bnd {n : Net} (hn : Net0 n) {x : List Int} (h : Rem n x) : val n x ≤ 1000 := by
  have h16 := hn.len
  have := out_bnd (M := 20) (by omega) n.from_ (En n x) (fun e he => by
    obtain ⟨i, hi, rfl⟩ := en_mem h.len he
    have := h.bnd i
    simp only; omega)
  rw [en_len h.len] at this
  unfold val
  omega
theorem isTrail_good {n : Net} {x K : List Int} {a : Int} (h : Good n x K) (ha : 1 ≤ a ∧ a ≤ 20) (he : (fr n (gi K 0) = tt n (gi K (K.length - 1))) ∨ (fr n (gi K 0) = n.from_ ∧ tt n (gi K (K.length - 1)) = n.to_)) : isTrailR n ⟨K, a⟩ = true := by
  unfold isTrailR pathB
  simp only [Bool.and_eq_true, Bool.or_eq_true, decide_eq_true_eq, within_iff]
  refine ⟨⟨⟨h.ne, ha⟩, fun i hi => ?_⟩, he⟩
  have h0 := h.rng i hi
  unfold okAt
  simp only [Bool.and_eq_true, Bool.or_eq_true, decide_eq_true_eq, within_iff]
  refine ⟨⟨⟨h0.1, by have := h0.2; show gi K i ≤ _; omega⟩, ?_⟩, ?_⟩
  · rw [Bool.not_eq_true']
    unfold mem
    refine decide_eq_false fun hm => ?_
    have h1 := h.nd
    rw [← List.take_append_drop i K, List.drop_eq_getElem_cons hi] at h1
    refine (List.nodup_append.1 h1).2.2 _ hm K[i] (List.mem_cons_self ..) ?_
    have := gi_at hi
    rw [List.getElem?_eq_getElem hi] at this
    exact (Option.some.inj this).symm
  · by_cases hi0 : i = 0
    · exact .inl hi0
    · right
      have := h.link (i - 1) (by omega)
      rw [show i - 1 + 1 = i by omega] at this
      exact this
/-- What one trail leaves. -/
structure Step (n : Net) (x : List Int) (t : Trail) (x' : List Int) : Prop where
  tr : isTrailR n t = true
  len : t.drains.length ≤ 100
  rem : Rem n x'
  v0 : 0 ≤ val n x'
  vz : val n x = 0 → val n x' = 0
  sum : ∀ j, gi x j = gi x' j + cf t.amount t.drains j
  less : meas n x' < meas n x
theorem taken_step {n : Net} (hn : NetOk n) {x : List Int} (hx : Rem n x) {K : List Int} {m : Int} (hg : Good n x K) (hm : 0 < m) (hv : 0 ≤ val n x) (he : (m = val n x ∧ fr n (gi K 0) = n.from_ ∧ tt n (gi K (K.length - 1)) = n.to_) ∨ (m = 20 ∧ fr n (gi K 0) = tt n (gi K (K.length - 1)))) :
    Step n x ⟨K, mn x K m K.length⟩ (taken x K (mn x K m K.length)) := by
  have h16 := hn.len
  have hkl := hg.len
  have hxl := hx.len
  have hne := hg.ne
  have ⟨m1, m2, m3, m4⟩ := mn_spec hg hm K.length (Nat.le_refl _)
  generalize mn x K m K.length = a at *
  have ha20 : a ≤ 20 := by
    have := m3 0 hne
    have := (hx.bnd (gi K 0).toNat).2
    omega
  have hgi := fun j => taken_gi hxl hg a j
  have hin : ∀ j : Nat, (j : Int) ∈ K → a ≤ gi x j := fun j hj => by
    obtain ⟨i, hi, hij⟩ := mem_gi' hj
    have := m3 i hi
    rw [hij] at this
    exact this
  have hout : ∀ v, out (En n (taken x K a)) v = out (En n x) v + ((if fr n (gi K 0) = v then -a else 0) - (if tt n (gi K (K.length - 1)) = v then -a else 0)) := fun v => by
    have := out_chain (a := -a) (v := v) hxl hg.rng hg.link (K.length - 1) (by omega)
    rw [show K.length - 1 + 1 = K.length by omega, List.take_length] at this
    exact this
  have hval : val n (taken x K a) = if m = val n x ∧ fr n (gi K 0) = n.from_ ∧ tt n (gi K (K.length - 1)) = n.to_ then val n x - a else val n x := by
    unfold val at *
    rw [hout]
    by_cases hc : m = out (En n x) n.from_ ∧ fr n (gi K 0) = n.from_ ∧ tt n (gi K (K.length - 1)) = n.to_
    · rw [if_pos hc, if_pos hc.2.1, hc.2.2, if_neg (fun h => hn.ne h.symm)]; omega
    · rw [if_neg hc]
      rcases he with he | he
      · exact absurd he hc
      · rw [he.2]; omega
  have hcnt : cnt n (taken x K a) ≤ cnt n x := filter_le _ fun j _ h => by
    rw [decide_eq_true_eq] at h ⊢
    have := hgi j
    split at this <;> omega
  refine ⟨isTrail_good hg (by omega) (by
    rcases he with h | h
    · exact .inr h.2
    · exact .inl h.2), by simp only; omega, ?_, ?_, ?_, ?_, ?_⟩
  · refine ⟨?_, fun i => ?_, fun v v1 v2 v3 v4 => ?_⟩
    · unfold taken; rw [fold_len]; exact hxl
    · have := hx.bnd i
      have := hgi i
      by_cases hi : (i : Int) ∈ K
      · have := hin i hi
        rw [if_pos hi] at *; omega
      · rw [if_neg hi] at *; omega
    · rw [hout, hx.con v v1 v2 v3 v4]
      rcases he with ⟨_, h1, h2⟩ | ⟨_, h1⟩
      · rw [h1, h2, if_neg (fun h => v3 h.symm), if_neg (fun h => v4 h.symm)]; rfl
      · rw [h1]; omega
  · rw [hval]
    split
    · rename_i hc; rw [← hc.1]; omega
    · exact hv
  · intro h
    rw [hval, if_neg (fun hc => by have := hc.1; omega)]; exact h
  · intro j
    rw [hgi j, cf_nodup K hg.nd (fun k hk => by
      obtain ⟨i, hi, rfl⟩ := mem_gi' hk
      exact (hg.rng i hi).1)]
    simp only; omega
  · have drop : (∃ j, j < K.length ∧ gi x (gi K j).toNat = a) → cnt n (taken x K a) < cnt n x := by
      rintro ⟨j, j1, j2⟩
      have h0 := hg.rng j j1
      refine filter_lt _ (gi K j).toNat (List.mem_range.2 (by omega)) (fun y _ h => ?_) ?_ ?_
      · rw [decide_eq_true_eq] at h ⊢
        have := hgi y
        split at this <;> omega
      · refine decide_eq_false ?_
        rw [hgi, if_pos (by rw [show (((gi K j).toNat : Nat) : Int) = gi K j by omega]; exact gi_mem j1)]
        omega
      · exact decide_eq_true (by omega)
    unfold meas
    rw [hval]
    rcases m4 with m4 | m4
    · rcases he with he | he
      · rw [if_pos he, if_neg (by omega), if_pos (by omega)]; omega
      · have : gi x (gi K 0).toNat = a := by
          have := m3 0 hne
          have := (hx.bnd (gi K 0).toNat).2
          omega
        have := drop ⟨0, hne, this⟩
        split <;> (repeat' split) <;> omega
    · have := drop m4
      split
      · rename_i hc; rw [← hc.1]
        (repeat' split) <;> omega
      · omega
theorem start_walk {n : Net} {x : List Int} {u : Int} (hu : 0 ≤ u ∧ u < n.nodes) : Walk n x u u [] [] where
  frs := rfl
  head := rfl
  tos := rfl
  nd := by simp
  node := fun v hv => by
    rw [List.nil_append, List.mem_singleton] at hv
    rw [hv]; exact hu
  rng := fun k hk => by cases hk
  pos := fun k hk => by cases hk
theorem Walk.last {n : Net} {x : List Int} {u0 at_ : Int} {F ks : List Int} (hx : x.length = n.drains.length) (w : Walk n x u0 at_ F ks) (h : ks ≠ []) : (∃ i, i < x.length ∧ tt n (i : Int) = at_ ∧ 0 < gi x i) ∧ at_ ≠ u0 := by
  have hl := List.length_pos_iff.2 h
  have hfl := w.flen
  have hk := w.rng _ (gi_mem (show ks.length - 1 < ks.length by omega))
  constructor
  · refine ⟨(gi ks (ks.length - 1)).toNat, by omega, ?_, w.pos _ (gi_mem (by omega))⟩
    rw [show (((gi ks (ks.length - 1)).toNat : Nat) : Int) = gi ks (ks.length - 1) by omega, ← gi_map (f := tt n) (by omega), w.tos, gi_tail, show ks.length - 1 + 1 = F.length by omega, gi_app2]
  · intro e
    have h1 := (List.nodup_append.1 w.nd).2.2 u0 (by
      rw [← w.head, gi_app1 (by omega)]
      exact gi_mem (by omega)) at_ (by simp)
    exact h1 e.symm
theorem trail_way {n : Net} (hn : NetOk n) {x : List Int} (hx : Rem n x) (hv : 0 < val n x) : ∃ t x', drain_trail n x n.from_ n.to_ (val n x) = some (t, x') ∧ Step n x t x' := by
  have hb := val_bnd hn.toNet0 hx
  have h8 := hn.n8
  obtain ⟨K0, lo, m, h1, h2, h3⟩ := trail_loop (u0 := n.from_) (to := n.to_) (most := val n x) hn.toNet0 hx (fun at_ F ks w hne => by
    by_cases hks : ks = []
    · subst hks
      have hF : F = [] := List.length_eq_zero_iff.1 w.flen
      subst hF
      have : at_ = n.from_ := w.head
      subst this
      exact leaves_some hx (.inl hv)
    · have ⟨l1, l2⟩ := w.last hx.len hks
      have hnode := w.node at_ (by simp)
      have h0 := hx.con at_ hnode.1 hnode.2 l2 (fun e => hne ⟨e, hks⟩)
      exact leaves_some hx (.inr ⟨by omega, l1⟩)) 10 FU n.from_ [] [] (start_walk hn.s0) (by simp; omega) (by have := FU_pos; omega)
  have hE : (m = val n x ∧ fr n (gi (K0.drop lo) 0) = n.from_ ∧ tt n (gi (K0.drop lo) ((K0.drop lo).length - 1)) = n.to_) ∨ (m = 20 ∧ fr n (gi (K0.drop lo) 0) = tt n (gi (K0.drop lo) ((K0.drop lo).length - 1))) := h3
  have hm : 0 < m ∧ m ≤ 1000 := by rcases hE with h | h <;> omega
  refine ⟨_, _, ?_, taken_step hn hx h2 hm.1 (by omega) hE⟩
  unfold drain_trail
  exact Eq.trans h1 (k3_eq hn.toNet0 hx rfl h2 hm)
theorem trail_round {n : Net} (hn : NetOk n) {x : List Int} (hx : Rem n x) (hv : val n x = 0) {r : Nat} (hr : r < x.length) (hp : 0 < gi x r) : ∃ t x', drain_trail n x (gd_ n.drains r).from_ (-1) 0 = some (t, x') ∧ Step n x t x' := by
  have h8 := hn.n8
  have hxl := hx.len
  have hin := drain_in hn.toNet0 (i := r) (by omega)
  have htot := hx.total hn.toNet0
  obtain ⟨K0, lo, m, h1, h2, h3⟩ := trail_loop (u0 := (gd_ n.drains r).from_) (to := -1) (most := 0) hn.toNet0 hx (fun at_ F ks w hne => by
    by_cases hks : ks = []
    · subst hks
      have hF : F = [] := List.length_eq_zero_iff.1 w.flen
      subst hF
      have : at_ = (gd_ n.drains r).from_ := w.head
      exact ⟨r, hr, this.symm, hp⟩
    · have ⟨l1, l2⟩ := w.last hx.len hks
      have hnode := w.node at_ (by simp)
      refine leaves_some hx (.inr ⟨?_, l1⟩)
      by_cases e1 : at_ = n.from_
      · rw [e1]; unfold val at hv; omega
      · by_cases e2 : at_ = n.to_
        · rw [e2]; unfold val at hv; omega
        · rw [hx.con at_ hnode.1 hnode.2 e1 e2]; omega) 10 FU (gd_ n.drains r).from_ [] [] (start_walk hin.1) (by simp; omega) (by have := FU_pos; omega)
  have hE : m = 20 ∧ fr n (gi (K0.drop lo) 0) = tt n (gi (K0.drop lo) ((K0.drop lo).length - 1)) := by
    rcases h3 with ⟨_, _, h⟩ | h
    · have h4 := h2.rng ((K0.drop lo).length - 1) (by have := h2.ne; omega)
      have h5 := drain_in hn.toNet0 (i := (gi (K0.drop lo) ((K0.drop lo).length - 1)).toNat) (by omega)
      unfold tt at h
      omega
    · exact h
  have hm : 0 < m ∧ m ≤ 1000 := by omega
  refine ⟨_, _, ?_, taken_step hn hx h2 hm.1 (by omega) (.inr hE)⟩
  unfold drain_trail
  exact Eq.trans h1 (k3_eq hn.toNet0 hx rfl h2 hm)
theorem posL {l : List Int} (hl : l.length ≤ 1000) : ∀ (d i k : Nat), l.length = i + d → d < k → (∃ r : Nat, slices_IndexFunc_int_L1 l drain_Split_1 k (i : Int) = some (r : Int) ∧ r < l.length ∧ 0 < gi l r) ∨ (slices_IndexFunc_int_L1 l drain_Split_1 k (i : Int) = some (-1) ∧ ∀ j, i ≤ j → j < l.length → ¬ 0 < gi l j)
  | 0, i, k + 1, hd, hk => by
    right
    refine ⟨?_, fun j h1 h2 => by omega⟩
    show slices_IndexFunc_int_B1 l drain_Split_1 (slices_IndexFunc_int_L1 l drain_Split_1 k) _ = _
    unfold slices_IndexFunc_int_B1
    rw [if_neg (by omega)]; rfl
  | d + 1, i, k + 1, hd, hk => by
    have e : slices_IndexFunc_int_L1 l drain_Split_1 (k + 1) (i : Int) = slices_IndexFunc_int_B1 l drain_Split_1 (slices_IndexFunc_int_L1 l drain_Split_1 k) (i : Int) := rfl
    rw [e]
    unfold slices_IndexFunc_int_B1
    rw [if_pos (by omega), ix_nat (gi_at (show i < l.length by omega)), bnd_eq (show drain_Split_1 (gi l i) = some (decide (0 < gi l i)) from rfl)]
    by_cases h : 0 < gi l i
    · rw [if_pos (decide_eq_true h)]
      exact .inl ⟨i, rfl, by omega, h⟩
    · rw [if_neg (by simpa using h), gd_pos (by omega)]
      rcases posL hl d (i + 1) k (by omega) (by omega) with ⟨r, h1, h2, h3⟩ | ⟨h1, h2⟩
      · exact .inl ⟨r, h1, h2, h3⟩
      · refine .inr ⟨h1, fun j j1 j2 => ?_⟩
        by_cases hj : j = i
        · subst hj; exact h
        · exact h2 j (by omega) j2
def scf : List Trail → Nat → Int
  | [], _ => 0
  | t :: r, j => cf t.amount t.drains j + scf r j
def AllTr (n : Net) (us : List Trail) : Prop := ∀ t ∈ us, isTrailR n t = true ∧ t.drains.length ≤ 100
theorem AllTr.cons {n : Net} {t : Trail} {us : List Trail} (h : isTrailR n t = true) (hl : t.drains.length ≤ 100) (hu : AllTr n us) : AllTr n (t :: us) := fun y hy => by
  rcases List.mem_cons.1 hy with rfl | hy
  · exact ⟨h, hl⟩
  · exact hu y hy
theorem split_L1 {n : Net} (hn : NetOk n) : ∀ (q k : Nat) (x : List Int) (ts : List Trail), Rem n x → val n x = 0 → meas n x ≤ q → q < k → ts.length + q ≤ 1000 →
    ∃ us, drain_Split_L1 n k x ts = some (ts ++ us, 0) ∧ us.length ≤ q ∧ AllTr n us ∧ ∀ j, gi x j = scf us j
  | q, k + 1, x, ts, hx, hv, hm, hk, hl => by
    have h16 := hn.len
    have hxl := hx.len
    have e : drain_Split_L1 n (k + 1) x ts = drain_Split_B1 n (drain_Split_L1 n k) x ts := rfl
    rw [e]
    unfold drain_Split_B1
    have hf : slices_IndexFunc_int x drain_Split_1 = slices_IndexFunc_int_L1 x drain_Split_1 FU ((0 : Nat) : Int) := rfl
    rcases posL (l := x) (by omega) x.length 0 FU (by omega) (by have := FU_pos; omega) with ⟨r, h1, h2, h3⟩ | ⟨h1, h2⟩
    · obtain ⟨t, x', t1, t2⟩ := trail_round hn hx hv h2 h3
      have hless := t2.less
      cases q with
      | zero => omega
      | succ q =>
        rw [bnd_eq (hf.trans h1), if_neg (by omega), ix_nat (gd_at (by omega)), bnd_eq t1, gd_pos (by omega)]
        obtain ⟨us, u1, u2, u3, u4⟩ := split_L1 hn q k x' (ts ++ [t]) t2.rem (t2.vz hv) (by omega) (by omega) (by simp; omega)
        refine ⟨t :: us, by rw [u1]; simp, by simp; omega, u3.cons t2.tr t2.len, fun j => ?_⟩
        rw [t2.sum j, u4 j]
        simp only [scf]; omega
    · rw [bnd_eq (hf.trans h1), if_pos (by omega)]
      refine ⟨[], by simp, Nat.zero_le _, (fun t ht => by cases ht), fun j => ?_⟩
      have := (hx.bnd j).1
      by_cases hj : j < x.length
      · have := h2 j (by omega) hj
        simp only [scf]; omega
      · simp only [scf]
        unfold gi
        simp [List.getD_eq_getElem?_getD, hj]
theorem split_L2 {n : Net} (hn : NetOk n) : ∀ (q k : Nat) (x : List Int) (ts : List Trail), Rem n x → 0 ≤ val n x → meas n x ≤ q → q < k → ts.length + q ≤ 1000 →
    ∃ us, drain_Split_L2 n k (val n x) x ts = some (ts ++ us, 0) ∧ us.length ≤ q ∧ AllTr n us ∧ ∀ j, gi x j = scf us j
  | q, k + 1, x, ts, hx, hv, hm, hk, hl => by
    have h16 := hn.len
    have e : drain_Split_L2 n (k + 1) (val n x) x ts = drain_Split_B2 n (drain_Split_L2 n k) (val n x) x ts := rfl
    rw [e]
    unfold drain_Split_B2 drain_Split_k1
    by_cases h0 : 0 < val n x
    · obtain ⟨t, x', t1, t2⟩ := trail_way hn hx h0
      have hless := t2.less
      cases q with
      | zero => omega
      | succ q =>
        rw [if_pos h0, bnd_eq t1, gd_pos (by omega), bnd_eq (value_eq t2.rem.len (by omega) t2.rem.fb n.from_)]
        obtain ⟨us, u1, u2, u3, u4⟩ := split_L2 hn q k x' (ts ++ [t]) t2.rem t2.v0 (by omega) (by omega) (by simp; omega)
        refine ⟨t :: us, ?_, by simp; omega, u3.cons t2.tr t2.len, fun j => ?_⟩
        · refine Eq.trans (show _ = drain_Split_L2 n k (val n x') x' (ts ++ [t]) from rfl) ?_
          rw [u1]; simp
        · rw [t2.sum j, u4 j]
          simp only [scf]; omega
    · rw [if_neg h0]
      exact split_L1 hn q FU x ts hx (by omega) hm (by have := FU_pos; omega) hl
theorem addT_sum {n : Net} : ∀ (us : List Trail) (l : List Int), AllTr n us → l.length = n.drains.length → (us.foldl addT l).length = n.drains.length ∧ ∀ j, gi (us.foldl addT l) j = gi l j + scf us j
  | [], l, _, hl => ⟨hl, fun j => by simp [scf]⟩
  | t :: r, l, h, hl => by
    have ht := h t (List.mem_cons_self ..)
    have hp : pathB n t = true := by
      have := ht.1
      unfold isTrailR at this
      rw [Bool.and_eq_true] at this
      exact this.1
    have ⟨_, hk⟩ := trail_ks hp
    have hl' : (addT l t).length = n.drains.length := by unfold addT; rw [fold_len]; exact hl
    have ⟨i1, i2⟩ := addT_sum r (addT l t) (fun y hy => h y (List.mem_cons_of_mem _ hy)) hl'
    refine ⟨i1, fun j => ?_⟩
    rw [List.foldl_cons, i2 j]
    unfold addT
    rw [gi_fold _ _ (fun k hkm => by
      obtain ⟨i, hi, rfl⟩ := mem_gi' hkm
      have := hk i hi
      omega)]
    simp only [scf]; omega
theorem Split_sum {n : Net} (hn : NetOk n) {x : List Int} (hx : Rem n x) (hv : 0 ≤ val n x) (hc : checkR n x = (val n x, 0)) : ∃ us, drain_Split n x = some (us, 0) ∧ us.length ≤ 40 ∧ (∀ t ∈ us, t.drains.length ≤ 100) ∧ sumsR n us = (x, 0) := by
  have h16 := hn.len
  have hxl := hx.len
  have hm : meas n x ≤ 17 := by
    have := cnt_le n x
    unfold meas
    split <;> omega
  obtain ⟨us, u1, u2, u3, u4⟩ := split_L2 hn 17 FU x [] hx hv hm (by have := FU_pos; omega) (by simp)
  refine ⟨us, ?_, by omega, fun t ht => (u3 t ht).2, ?_⟩
  · unfold drain_Split
    rw [bnd_eq (CheckFlow_eq (by omega) (by omega)), hc, if_pos rfl]
    show (if val n x < 0 then _ else _) = _
    rw [if_neg (by omega), bnd_eq (clone_eq (by omega))]
    exact u1
  · unfold sumsR
    rw [if_pos (val0.2 hn), if_neg (by omega), if_pos (fun j hj => (u3 _ (List.mem_of_getElem? (gt_at hj))).1)]
    have ⟨s1, s2⟩ := addT_sum us (zeros n) u3 (by unfold zeros; simp)
    have : sumTo_ n us us.length = x := by
      unfold sumTo_
      rw [List.take_length]
      refine gi_ext (by omega) fun j hj => ?_
      rw [s2 j, u4 j]
      have : gi (zeros n) j = 0 := by unfold zeros gi; simp [List.getD_eq_getElem?_getD, List.getElem?_replicate]; split <;> rfl
      omega
    rw [this]
end Go.D2

set_option linter.unusedVariables false
set_option linter.unusedSimpArgs false
namespace Go.D2
open Go.Tb
theorem mostN_nonneg {n : Net} (hn : Net0 n) : 0 ≤ mostN n := by
  obtain ⟨S, _, _, h⟩ := most_at hn
  rw [← h]
  exact (cutD_bnd S n.drains (fun d hd => by have := hn.dr d hd; omega)).1
theorem maxed_rem {n : Net} (hn : NetOk n) {l : List Left} (h : Maxed n l) : Rem n (l.map Left.runs) ∧ val n (l.map Left.runs) = mostN n := by
  have hll := maxed_len h
  have hE := flowL_en h.1.drains
  refine ⟨⟨by simpa using hll, fun i => ?_, fun v v1 v2 v3 v4 => ?_⟩, ?_⟩
  · by_cases hi : i < l.length
    · have hx : l[i]? = some l[i] := by simp [hi]
      have h1 : (l.map Left.runs)[i]? = some l[i].runs := by rw [List.getElem?_map, hx]; rfl
      have h2 : n.drains[i]? = some l[i].drain := by rw [← h.1.drains, List.getElem?_map, hx]; rfl
      have h3 := hn.w20 _ (List.mem_of_getElem? h2)
      have := h.1.caps l[i] (List.getElem_mem _)
      rw [gi_of h1]; omega
    · have : gi (l.map Left.runs) i = 0 := by unfold gi; simp [List.getD_eq_getElem?_getD, hi]
      omega
  · rw [← hE]
    have := hn.n2
    exact h.1.flow.con v v1 (by omega) v3 v4
  · unfold val
    rw [← hE]
    exact maxed_val hn.toNet0 h
theorem Split_flow {n : Net} (hn : NetOk n) {l : List Left} (h : Maxed n l) : ∃ us, drain_Split n (l.map Left.runs) = some (us, 0) ∧ drain_Sum n us = some (l.map Left.runs, 0) := by
  have h16 := hn.len
  have ⟨h1, h2⟩ := maxed_rem hn h
  have hm := mostN_nonneg hn.toNet0
  obtain ⟨us, u1, u2, u3, u4⟩ := Split_sum hn h1 (by omega) (by rw [maxed_check hn h, h2])
  exact ⟨us, u1, by rw [Sum_eq (by omega) u3 (by omega), u4]⟩
end Go.D2

set_option linter.unusedVariables false
set_option linter.unusedSimpArgs false
namespace Go.D2
open Go.Tb
def mark (m : Nat) (l : List Int) (i : Nat) : List Bool := (List.range m).map fun (v : Nat) => mem (l.take i) (v : Int)
theorem mark_at {m : Nat} {l : List Int} {i v : Nat} (hv : v < m) : (mark m l i)[v]? = some (mem (l.take i) (v : Int)) := by
  unfold mark
  rw [List.getElem?_map, List.getElem?_range hv]; rfl
theorem mark_len (m : Nat) (l : List Int) (i : Nat) : (mark m l i).length = m := by unfold mark; simp
theorem take_mem {l : List Int} {x : Int} {i : Nat} (hi : i < l.length) : mem (l.take (i + 1)) x = (mem (l.take i) x || decide (gi l i = x)) := by
  unfold mem
  rw [Bool.eq_iff_iff, List.take_add_one, gi_at hi]
  simp only [decide_eq_true_eq, Bool.or_eq_true, List.mem_append, Option.toList_some, List.mem_singleton]
  exact ⟨fun h => h.imp id Eq.symm, fun h => h.imp id Eq.symm⟩
theorem mark_succ {m : Nat} {l : List Int} {i : Nat} (hi : i < l.length) : mark m l (i + 1) = if 0 ≤ gi l i ∧ gi l i < (m : Int) then (mark m l i).set (gi l i).toNat true else mark m l i := by
  apply List.ext_getElem?
  intro v
  by_cases hv : v < m
  · rw [mark_at hv, take_mem hi]
    by_cases hc : 0 ≤ gi l i ∧ gi l i < (m : Int)
    · rw [if_pos hc, List.getElem?_set]
      by_cases e : (gi l i).toNat = v
      · rw [if_pos e, if_pos (by rw [mark_len]; omega), decide_eq_true (by omega), Bool.or_true]
      · rw [if_neg e, mark_at hv, decide_eq_false (by omega), Bool.or_false]
    · rw [if_neg hc, mark_at hv, decide_eq_false (by omega), Bool.or_false]
  · rw [List.getElem?_eq_none (by rw [mark_len]; omega), List.getElem?_eq_none]
    split
    · rw [List.length_set, mark_len]; omega
    · rw [mark_len]; omega
theorem others_eq {m : Nat} (hm : m ≤ 1000) {l : List Int} (hl : l.length ≤ 1000) : top_others (m : Int) l = some (nodesOf m fun v => !mem l v) := by
  unfold top_others
  rw [gd_pos (by omega)]
  refine Eq.trans (for0 l.length (mark m l) (fun k s i => top_others_L2 (m : Int) l k i s) (top_others_k3 (m : Int) (mark m l l.length)) (s0 := List.replicate (Int.toNat (m : Int)) false) ?_ (fun k i hi => ?_) (fun k => ?_) (by omega)) ?_
  · apply List.ext_getElem?
    intro v
    by_cases hv : v < m
    · rw [mark_at hv, List.getElem?_replicate, if_pos (by omega)]; rfl
    · rw [List.getElem?_eq_none (by rw [mark_len]; omega), List.getElem?_eq_none (by simp; omega)]
  · show top_others_B2 (m : Int) l (top_others_L2 (m : Int) l k) _ _ = _
    unfold top_others_B2 top_others_k5 top_others_k4
    rw [if_pos (by omega), ix_nat (gi_at hi), mark_succ hi]
    by_cases h0 : 0 ≤ gi l i
    · rw [if_pos h0, ix_nat (gi_at hi)]
      by_cases h1 : gi l i < (m : Int)
      · rw [if_pos (decide_eq_true h1), ix_nat (gi_at hi), ix_eq h0 (mark_at (by omega)), gd_pos (by omega), if_pos ⟨h0, h1⟩]; rfl
      · rw [if_neg (by simpa using h1), gd_pos (by omega), if_neg (fun h => h1 h.2)]; rfl
    · rw [if_neg h0, if_neg (by simp), gd_pos (by omega), if_neg (fun h => h0 h.1)]; rfl
  · show top_others_B2 (m : Int) l (top_others_L2 (m : Int) l k) _ _ = _
    unfold top_others_B2
    rw [if_neg (by omega)]
  · unfold top_others_k3
    refine for0 m (fun i => nodesOf i fun v => !mem l v) (fun k s i => top_others_L1 (m : Int) (mark m l l.length) k i s) _ rfl (fun k i hi => ?_) (fun k => ?_) (by omega)
    · have hll := nodesOf_len i fun v => !mem l v
      show top_others_B1 (m : Int) (mark m l l.length) (top_others_L1 (m : Int) (mark m l l.length) k) _ _ = _
      unfold top_others_B1 top_others_k2
      rw [if_pos (by omega), ix_nat (mark_at hi), List.take_length, nodesOf_succ]
      cases h : mem l (i : Int)
      · rw [if_neg (by simp), gd_pos (by simp; omega), gd_pos (by omega), if_pos (by rfl)]; rfl
      · rw [if_pos rfl, gd_pos (by omega), if_neg (by simp), List.append_nil]; rfl
    · show top_others_B1 (m : Int) (mark m l l.length) (top_others_L1 (m : Int) (mark m l l.length) k) _ _ = _
      unfold top_others_B1
      rw [if_neg (by omega)]; rfl
/-- A narrowest cut. -/
def Nar (n : Net) (S : Int → Bool) : Prop := S n.from_ = true ∧ S n.to_ = false ∧ cutD S n.drains = mostN n
theorem nar_num {n : Net} (hn : Net0 n) {S : Int → Bool} (h : Nar n S) : ∃ j, j < 2 ^ n.nodes.toNat ∧ narrow n j = true ∧ ∀ v : Int, 0 ≤ v → v < n.nodes → inS j v = S v := by
  obtain ⟨m, m1, m2, m3⟩ := cut_num hn S
  refine ⟨m, m1, ?_, m2⟩
  unfold narrow cutB
  rw [m2 _ hn.s0.1 hn.s0.2, m2 _ hn.t0.1 hn.t0.2, h.1, h.2.1, m3, h.2.2]
  simp
theorem num_nar {n : Net} {j : Nat} (h : narrow n j = true) : Nar n (inS j) := by
  unfold narrow cutB at h
  simp only [Bool.and_eq_true, decide_eq_true_eq, Bool.not_eq_true'] at h
  exact ⟨h.1.1, h.1.2, h.2⟩
theorem least_iff {n : Net} (hn : Net0 n) {v : Int} (hv : 0 ≤ v ∧ v < n.nodes) : inS (andN n (2 ^ n.nodes.toNat)) v = true ↔ ∀ S, Nar n S → S v = true := by
  unfold inS
  rw [andN_bit (by omega)]
  constructor
  · intro h S hS
    obtain ⟨j, j1, j2, j3⟩ := nar_num hn hS
    rw [← j3 v hv.1 hv.2]
    exact h j j1 j2
  · intro h j _ hj
    exact h _ (num_nar hj)
theorem greatest_iff {n : Net} (hn : Net0 n) {v : Int} (hv : 0 ≤ v ∧ v < n.nodes) : inS (orN n (2 ^ n.nodes.toNat)) v = true ↔ ∃ S, Nar n S ∧ S v = true := by
  unfold inS
  rw [orN_bit]
  constructor
  · rintro ⟨j, _, hj, hb⟩
    exact ⟨_, num_nar hj, hb⟩
  · rintro ⟨S, hS, hv'⟩
    obtain ⟨j, j1, j2, j3⟩ := nar_num hn hS
    exact ⟨j, j1, j2, (j3 v hv.1 hv.2).trans hv'⟩
theorem nar_rev {n : Net} (hn : NetOk n) {S : Int → Bool} (h : Nar n S) : Nar (rev n) fun v => !S v := by
  refine ⟨?_, ?_, ?_⟩
  · show (!S n.to_) = true; rw [h.2.1]; rfl
  · show (!S n.from_) = false; rw [h.1]; rfl
  · show cutD (fun v => !S v) (n.drains.map revD) = _
    rw [cutD_rev, h.2.2, most_rev hn]
theorem least_rev {n : Net} (hn : NetOk n) : least (rev n) = nodesOf n.nodes.toNat fun v => !mem (greatest n) v := by
  have hr := rev_ok hn
  have h2 := hn.n2
  refine nodesOf_congr fun v v0 v1 => ?_
  have v1 : v < (n.nodes.toNat : Int) := v1
  have hv : 0 ≤ v ∧ v < n.nodes := by omega
  unfold greatest
  rw [mem_nodesOf ⟨v0, v1⟩, Bool.eq_iff_iff]
  show inS (andN (rev n) (2 ^ (rev n).nodes.toNat)) v = true ↔ _
  rw [least_iff hr.toNet0 hv, Bool.not_eq_true', ← Bool.not_eq_true, greatest_iff hn.toNet0 hv]
  constructor
  · rintro h ⟨S, hS, hSv⟩
    have := h _ (nar_rev hn hS)
    rw [hSv] at this; cases this
  · intro h S hS
    have h' := nar_rev hr hS
    rw [rev_rev] at h'
    cases hSv : S v
    · exact absurd ⟨_, h', by rw [hSv]; rfl⟩ h
    · rfl
theorem greatest_rev {n : Net} (hn : NetOk n) : greatest (rev n) = nodesOf n.nodes.toNat fun v => !mem (least n) v := by
  have hr := rev_ok hn
  have h2 := hn.n2
  refine nodesOf_congr fun v v0 v1 => ?_
  have v1 : v < (n.nodes.toNat : Int) := v1
  have hv : 0 ≤ v ∧ v < n.nodes := by omega
  unfold least
  rw [mem_nodesOf ⟨v0, v1⟩, Bool.eq_iff_iff]
  show inS (orN (rev n) (2 ^ (rev n).nodes.toNat)) v = true ↔ _
  rw [greatest_iff hr.toNet0 hv, Bool.not_eq_true', ← Bool.not_eq_true, least_iff hn.toNet0 hv]
  constructor
  · rintro ⟨S, hS, hSv⟩ h
    have h' := nar_rev hr hS
    rw [rev_rev] at h'
    have := h _ h'
    rw [hSv] at this; cases this
  · intro h
    apply Classical.byContradiction
    intro hc
    apply h
    intro S hS
    cases hSv : S v
    · exact absurd ⟨_, nar_rev hn hS, by rw [hSv]; rfl⟩ hc
    · rfl
theorem out_rev (v : Int) : ∀ (l : List Drain) (fl : List Int), out (List.zipWith (fun (d : Drain) f => (⟨d.from_, d.to_, d.width, f⟩ : Ed)) (l.map revD) fl) v = - out (List.zipWith (fun (d : Drain) f => (⟨d.from_, d.to_, d.width, f⟩ : Ed)) l fl) v
  | [], _ => rfl
  | d :: r, [] => rfl
  | d :: r, f :: fl => by
    simp only [List.map_cons, List.zipWith_cons_cons, out, out_rev v r fl, revD]
    omega
theorem check_rev {n : Net} (hn : NetOk n) {l : List Left} (h : Maxed n l) : checkR (rev n) (l.map Left.runs) = (mostN n, 0) := by
  have h16 := hn.len
  have hm := maxed_check hn h
  have ⟨hr, hv⟩ := maxed_rem hn h
  have h0 := check0 (n := n) (fl := l.map Left.runs) (by rw [hm])
  have ho : ∀ v, out (En (rev n) (l.map Left.runs)) v = - out (En n (l.map Left.runs)) v := fun v => out_rev v _ _
  have hcap : capsB n (l.map Left.runs) = true := by
    apply Classical.byContradiction
    intro hc
    unfold checkR at hm
    rw [if_pos (val0.2 hn), if_pos h0.2.1, if_neg hc] at hm
    have h6 : (6 : Int) = 0 := congrArg Prod.snd hm
    omega
  have hcap' : capsB (rev n) (l.map Left.runs) = true := by
    unfold capsB at hcap ⊢
    refine decide_eq_true fun i hi => ?_
    have := of_decide_eq_true hcap i hi
    have hd := gd_at (l := n.drains) (i := i) (by have := h0.2.1; omega)
    have e : gd_ (rev n).drains i = revD (gd_ n.drains i) := by
      have : (n.drains.map revD)[i]? = some (revD (gd_ n.drains i)) := by rw [List.getElem?_map, hd]; rfl
      show gd_ (n.drains.map revD) i = _
      unfold gd_ at this ⊢
      rw [List.getD_eq_getElem?_getD, this]; rfl
    rw [e]; exact this
  have hcon : conB (rev n) (l.map Left.runs) = true := decide_eq_true fun v hvn => by
    simp only [Bool.or_eq_true, decide_eq_true_eq]
    by_cases h1 : (v : Int) = n.to_
    · exact .inl (.inl h1)
    · by_cases h2 : (v : Int) = n.from_
      · exact .inl (.inr h2)
      · right
        rw [ho]
        have h3 : (v : Nat) < n.nodes.toNat := hvn
        have := hr.con v (by omega) (by omega) h2 h1
        omega
  unfold checkR
  rw [if_pos (val0.2 (rev_ok hn)), if_pos (by show _ = (n.drains.map revD).length; rw [List.length_map, List.length_map]; exact maxed_len h), if_pos hcap', if_pos hcon, ho]
  have := hr.total hn.toNet0
  have e : -out (En n (l.map Left.runs)) n.to_ = mostN n := by unfold val at hv; omega
  rw [show (rev n).from_ = n.to_ from rfl, e]
theorem most_mono {n : Net} (hn : Net0 n) {i : Nat} (hi : i < n.drains.length) {w w' : Int} (h : 0 ≤ w ∧ w ≤ w' ∧ w' ≤ 1000) : mostN (chg n i w) ≤ mostN (chg n i w') := by
  obtain ⟨S, s1, s2, s3⟩ := most_at (chg_net0 hn hi (w := w') (by omega))
  have := most_le (chg_net0 hn hi (w := w) (by omega)) (S := S) s1 s2
  rw [cutD_chg hi] at this s3
  by_cases hc : S (gd_ n.drains i).from_ = true ∧ S (gd_ n.drains i).to_ = false
  · rw [if_pos hc] at this s3; omega
  · rw [if_neg hc] at this s3; omega
theorem most_first : mostR (⟨2, 1, 0, [⟨1, 0, 4⟩, ⟨0, 1, 9⟩]⟩ : Net) = (4, 0) := by decide +kernel
theorem in_loop {l : List Int} (hl : l.length ≤ 1000) {R : Type} (i : Int) (L : Nat → Bool → Int → Option R) (yes : Bool → Option R)
    (step : ∀ (k j : Nat) (b : Bool), j < l.length → L (k + 1) b (j : Int) = L k (b || decide (gi l j = i)) ((j + 1 : Nat) : Int))
    (stop : ∀ (k : Nat) (b : Bool), L (k + 1) b (l.length : Int) = yes b) : L FU false 0 = yes (mem l i) := by
  refine for0 l.length (fun j => mem (l.take j) i) (fun k s j => L k s j) _ (by rfl) (fun k j hj => ?_) (fun k => ?_) (by omega)
  · rw [step k j _ hj, take_mem hj]
  · rw [List.take_length]; exact stop k _
theorem law_TopFlows (n : Net) (i : Int) (hb : n.drains.length ≤ 9223372036854775807) : top_TopFlows n i = some true := by
  unfold top_TopFlows
  rw [bnd_eq (Most_eq (by decide)), most_first, if_pos rfl]
  unfold top_TopFlows_k13
  rw [if_neg (by decide), bnd_eq (Long_eq n)]
  by_cases hL : (100 : Int) < (n.drains.length : Int)
  · rw [if_pos (by simpa using hL)]
  · have hl : n.drains.length ≤ 1000 := by omega
    rw [if_neg (by simpa using hL)]
    rcases Flow_eq hl with ⟨hn, l, l1, l2, l3⟩ | ⟨hv, h1⟩
    · have hv := val0.2 hn
      have hn0 := hn.toNet0
      have h8 := hn.n8
      have h16 := hn.len
      have h2 := hn.n2
      have hrv := rev_ok hn
      have hll := maxed_len l1
      have hrl : (rev n).drains.length ≤ 1000 := by show (n.drains.map revD).length ≤ 1000; rw [List.length_map]; exact hl
      have hfl : (l.map Left.runs).length ≤ 1000 := by rw [List.length_map]; omega
      have hle : (least n).length ≤ 1000 := by have := nodesOf_len n.nodes.toNat (inS (andN n (2 ^ n.nodes.toNat))); unfold least; omega
      have hge : (greatest n).length ≤ 1000 := by have := nodesOf_len n.nodes.toNat (inS (orN n (2 ^ n.nodes.toNat))); unfold greatest; omega
      have hle' : (least (rev n)).length ≤ 1000 := by rw [least_rev hn]; have := nodesOf_len n.nodes.toNat fun v => !mem (greatest n) v; omega
      have hge' : (greatest (rev n)).length ≤ 1000 := by rw [greatest_rev hn]; have := nodesOf_len n.nodes.toNat fun v => !mem (least n) v; omega
      have hck := maxed_check hn l1
      have ⟨g1, g2, g3⟩ := least_ok hn0
      have ⟨p1, p2, p3⟩ := greatest_ok hn0
      have ⟨q1, q2, q3⟩ := least_ok hrv.toNet0
      have c1 : checkMost n (l.map Left.runs) (least n) = 0 := by
        unfold checkMost least
        rw [hck, across_nodes hn g1 g2, g3, if_pos rfl, if_pos rfl, if_pos rfl]
      have c2 : checkMost n (l.map Left.runs) (greatest n) = 0 := by
        unfold checkMost greatest
        rw [hck, across_nodes hn p1 p2, p3, if_pos rfl, if_pos rfl, if_pos rfl]
      have c3 : checkMost (rev n) (l.map Left.runs) (least (rev n)) = 0 := by
        unfold checkMost least
        rw [check_rev hn l1, across_nodes hrv q1 q2, q3, if_pos rfl, if_pos rfl, most_rev hn, if_pos rfl]
      have hM : mostR n = (mostN n, 0) := by unfold mostR; rw [if_pos hv]
      have hR : reverseR n = (rev n, 0) := by unfold reverseR; rw [if_pos hv]
      obtain ⟨us, u1, u2⟩ := Split_flow hn l1
      have o1 := others_eq (m := n.nodes.toNat) (by omega) hge
      have o2 := others_eq (m := n.nodes.toNat) (by omega) hle
      rw [show ((n.nodes.toNat : Nat) : Int) = n.nodes by omega] at o1 o2
      rw [← least_rev hn] at o1
      rw [← greatest_rev hn] at o2
      rw [bnd_eq l3, if_pos rfl, bnd_eq (Most_eq hl), hM, bnd_eq (Least_eq hl), if_pos hv, bnd_eq (Greatest_eq hl), if_pos hv, if_pos rfl, if_pos rfl, if_pos rfl]
      rw [bnd_eq (CheckMost_eq hl hfl hle), c1, if_pos rfl, bnd_eq (CheckMost_eq hl hfl hge), c2]
      unfold top_TopFlows_k12
      rw [if_neg (by decide), bnd_eq (CheckFlow_eq hl hfl), hck, if_pos rfl]
      unfold top_TopFlows_k11
      rw [if_neg (by simp), bnd_eq u1, bnd_eq u2, if_pos rfl, if_pos rfl, bnd_eq (SameInts_self (by simp only; omega))]
      unfold top_TopFlows_k10
      rw [if_neg (by decide), bnd_eq (Reverse_eq hl), hR, bnd_eq (Least_eq hrl), if_pos (val0.2 hrv), bnd_eq (Greatest_eq hrl), if_pos (val0.2 hrv), if_pos rfl, if_pos rfl, if_pos rfl]
      rw [bnd_eq o1, bnd_eq (SameInts_self (by simp only; omega)), if_pos rfl, bnd_eq o2, bnd_eq (SameInts_self (by simp only; omega)), if_pos rfl, bnd_eq (CheckMost_eq hrl hfl hle'), c3]
      unfold top_TopFlows_k9
      rw [if_neg (by decide)]
      unfold top_TopFlows_k8
      by_cases hi0 : i < 0
      · rw [if_pos hi0, if_pos rfl]
      · rw [if_neg hi0]
        by_cases hi1 : (n.drains.length : Int) ≤ i
        · rw [if_pos (decide_eq_true hi1)]
        · rw [if_neg (by simpa using hi1)]
          have hit : i.toNat < n.drains.length := by omega
          have hx : n.drains[i.toNat]? = some (gd_ n.drains i.toNat) := gd_at hit
          have hd := hn.dr _ (List.mem_of_getElem? hx)
          have hw := hn.w20 _ (List.mem_of_getElem? hx)
          have hwi : ∀ w, within i 0 ((n.drains.length : Int) - 1) = true ∧ (∀ by_ : Int, -20 ≤ by_ ∧ by_ ≤ 20 → 0 ≤ (gd_ n.drains i.toNat).width + by_ ∧ (gd_ n.drains i.toNat).width + by_ ≤ 20 → (gd_ n.drains i.toNat).width + by_ = w → widenR n i by_ = (chg n i.toNat w, 0)) := fun w => by
            have hin : within i 0 ((n.drains.length : Int) - 1) = true := within_iff.2 (by omega)
            refine ⟨hin, fun by_ b1 b2 b3 => ?_⟩
            unfold widenR
            rw [if_pos hv, if_pos hin, if_pos ⟨within_iff.2 b1, within_iff.2 b2⟩, b3]
          have hln := listR_len hl (needP n)
          have hlc := listR_len hl (critP n)
          have hN : listR n (needP n) = (nodesOf n.drains.length (needP n), 0) := by unfold listR; rw [if_pos hv]
          have hC : listR n (critP n) = (nodesOf n.drains.length (critP n), 0) := by unfold listR; rw [if_pos hv]
          have hmN : mem (nodesOf n.drains.length (needP n)) i = needP n i := mem_nodesOf (by omega)
          have hmC : mem (nodesOf n.drains.length (critP n)) i = critP n i := mem_nodesOf (by omega)
          rw [hN] at hln
          rw [hC] at hlc
          have hlen : ∀ w, (chg n i.toNat w).drains.length ≤ 1000 := fun w => by show (n.drains.set _ _).length ≤ 1000; rw [List.length_set]; exact hl
          have hok : ∀ w : Int, 0 ≤ w ∧ w ≤ 20 → mostR (chg n i.toNat w) = (mostN (chg n i.toNat w), 0) := fun w hw' => by
            unfold mostR
            rw [if_pos (val0.2 (chg_ok hn hit hw'))]
          have hnet : (⟨(chg n i.toNat 0).nodes, (chg n i.toNat 0).from_, (chg n i.toNat 0).to_, (chg n i.toNat 0).drains⟩ : Net) = chg n i.toNat 0 := rfl
          have hchg := most_chg hn0 hit (w := 0) (by omega)
          rw [bnd_eq (Needless_eq hl), hN, ix_eq (by omega) hx, gd_pos (by omega), bnd_eq (Widen_eq hl _ _), (hwi 0).2 _ (by omega) (by omega) (by omega)]
          unfold top_TopFlows_k7
          rw [hnet, bnd_eq (Most_eq (hlen 0)), hok 0 (by omega), if_pos rfl, if_pos rfl, if_pos rfl]
          unfold top_TopFlows_k6
          rw [if_neg (by rw [decide_eq_true_eq]; show ¬ mostN n < mostN (chg n i.toNat 0); omega)]
          rw [in_loop (l := nodesOf n.drains.length (needP n)) hln i (fun k b j => top_TopFlows_L2 n i (mostN n, 0) (nodesOf n.drains.length (needP n), 0) (mostN (chg n i.toNat 0), 0) k b j) (fun b => top_TopFlows_k4 n i (mostN n, 0) (mostN (chg n i.toNat 0), 0) b) (fun k j b hj => ?_) (fun k b => ?_)]
          · rw [hmN]
            unfold top_TopFlows_k4
            rw [bnd_eq (Critical_eq hl), hC]
            rw [in_loop (l := nodesOf n.drains.length (critP n)) hlc i (fun k b j => top_TopFlows_L1 n i (mostN n, 0) (mostN (chg n i.toNat 0), 0) (needP n i) (nodesOf n.drains.length (critP n), 0) k b j) (fun b => top_TopFlows_k2 n i (mostN n, 0) (mostN (chg n i.toNat 0), 0) (needP n i) (nodesOf n.drains.length (critP n), 0) b) (fun k j b hj => ?_) (fun k b => ?_)]
            · rw [hmC]
              have hexc : critP n i = true → needP n i = false := fun hc => by
                unfold critP at hc
                simp only [Bool.and_eq_true, decide_eq_true_eq] at hc
                have := most_mono hn0 hit (w := 0) (w' := (gd_ n.drains i.toNat).width - 1) (by omega)
                exact decide_eq_false (by omega)
              have fin : top_TopFlows_k1 n i (mostN n, 0) (critP n i) false = some true := by
                unfold top_TopFlows_k1
                rw [if_neg (by simp), ix_eq (by omega) hx]
                by_cases hw0 : (gd_ n.drains i.toNat).width = 0
                · rw [if_pos hw0]
                  unfold critP
                  rw [hw0]; rfl
                · rw [if_neg hw0, bnd_eq (Widen_eq hl _ _), (hwi ((gd_ n.drains i.toNat).width - 1)).2 _ (by omega) (by omega) (by omega)]
                  rw [bnd_eq (Most_eq (hlen _)), hok _ (by omega), if_pos rfl, if_pos rfl]
                  unfold critP
                  rw [decide_eq_true (show 0 < (gd_ n.drains i.toNat).width by omega), Bool.true_and, beq_self_eq_true]
              unfold top_TopFlows_k2
              rw [if_pos rfl, if_pos (by unfold needP; rw [beq_self_eq_true])]
              by_cases hc : critP n i = true
              · rw [if_pos hc, hexc hc]; exact fin
              · rw [if_neg hc]; exact fin
            · show top_TopFlows_B1 n i _ _ _ _ (top_TopFlows_L1 n i _ _ _ _ k) _ _ = _
              unfold top_TopFlows_B1 top_TopFlows_k3
              rw [if_pos (by simp only; omega)]
              cases b
              · rw [if_neg (by simp), ix_nat (gi_at hj), gd_pos (by simp only at hlc; omega), Bool.false_or]; rfl
              · rw [if_pos rfl, gd_pos (by simp only at hlc; omega), Bool.true_or]; rfl
            · show top_TopFlows_B1 n i _ _ _ _ (top_TopFlows_L1 n i _ _ _ _ k) _ _ = _
              unfold top_TopFlows_B1
              rw [if_neg (by simp only; omega)]
          · show top_TopFlows_B2 n i _ _ _ (top_TopFlows_L2 n i _ _ _ k) _ _ = _
            unfold top_TopFlows_B2 top_TopFlows_k5
            rw [if_pos (by simp only; omega)]
            cases b
            · rw [if_neg (by simp), ix_nat (gi_at hj), gd_pos (by simp only at hln; omega), Bool.false_or]; rfl
            · rw [if_pos rfl, gd_pos (by simp only at hln; omega), Bool.true_or]; rfl
          · show top_TopFlows_B2 n i _ _ _ (top_TopFlows_L2 n i _ _ _ k) _ _ = _
            unfold top_TopFlows_B2
            rw [if_neg (by simp only; omega)]
    · rw [bnd_eq h1, if_neg hv]
end Go.D2
