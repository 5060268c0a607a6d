/- Lemmas and walks that the proof of this claim uses: D1r8, D1rA. -/
import Derived.Test.YtgnlfgkmkkjkoaaLevelRaises6
set_option linter.unusedVariables false
set_option linter.unusedSimpArgs false
namespace Go.D1
open Go.Tb
theorem part_head {s : Survey} (hs : SvOk s) {q : Int} (hq : 0 ≤ q ∧ q < s.points) (hr : rtOf s q = q) : (partOf (rootsOf s) q)[0]? = some q := by
  obtain ⟨h1, h2⟩ := part_drop hs hq hr
  have hm : q ∈ partOf (rootsOf s) q := (part_mem hs).2 ⟨hq, hr⟩
  generalize partOf (rootsOf s) q = l at *
  cases l with
  | nil => simp at h1
  | cons x l =>
    rcases List.mem_cons.1 hm with h | h
    · rw [h]; rfl
    · have : q ∈ oneOf s q := by rw [← h2]; exact h
      exact absurd rfl ((mem_oneOf hs).1 this).2.2
end Go.D1

set_option linter.unusedVariables false
set_option linter.unusedSimpArgs false
namespace Go.D1
open Go.Tb
def upR (H : List Int) (r : Reading) : Reading := ⟨r.from_, r.to_, r.rise + (gi H r.to_.toNat - gi H r.from_.toNat), r.weight⟩
def raiseR (s : Survey) (H : List Int) : Survey := ⟨s.points, s.readings.map (upR H)⟩
def raiseOk (s : Survey) (H : List Int) : Prop := ∀ j, j < s.readings.length → within (upR H (gr s.readings j)).rise (-1000) 1000 = true
def midL (H : List Int) (l : List Reading) (t : Nat) : List Reading := (l.take t).map (upR H) ++ l.drop t
theorem midL_at {H : List Int} {l : List Reading} {t : Nat} (h : t < l.length) : (midL H l t)[t]? = some (gr l t) := by
  unfold midL
  rw [List.getElem?_append_right (by rw [List.length_map, List.length_take]; omega), List.getElem?_drop, List.length_map, List.length_take]
  rw [show t + (t - min t l.length) = t by omega]
  exact gr_at h
theorem midL_set {H : List Int} {l : List Reading} {t : Nat} (h : t < l.length) : (midL H l t).set t (upR H (gr l t)) = midL H l (t + 1) := by
  unfold midL
  rw [take_at _ (gr_at h), List.set_append_right _ _ (by rw [List.length_map, List.length_take]; omega), List.length_map, List.length_take]
  rw [show t - min t l.length = 0 by omega, List.drop_eq_getElem_cons h, List.set_cons_zero, List.append_assoc]; rfl
theorem midL_len (H : List Int) (l : List Reading) (t : Nat) : (midL H l t).length = l.length := by
  unfold midL
  rw [List.length_append, List.length_map, List.length_take, List.length_drop]; omega
theorem midL_end (H : List Int) (l : List Reading) : midL H l l.length = l.map (upR H) := by
  unfold midL
  rw [List.take_length, List.drop_length, List.append_nil]
def hOk (s : Survey) (H : List Int) : Bool := decide ((H.length : Int) = s.points) && H.all fun x => within x (-1000) 1000
theorem hOk_iff {s : Survey} {H : List Int} : hOk s H = true ↔ (H.length : Int) = s.points ∧ ∀ x ∈ H, -1000 ≤ x ∧ x ≤ 1000 := by
  unfold hOk
  rw [Bool.and_eq_true, decide_eq_true_eq, List.all_eq_true]
  constructor
  · intro ⟨h1, h2⟩; exact ⟨h1, fun x hx => within_iff.1 (h2 x hx)⟩
  · intro ⟨h1, h2⟩; exact ⟨h1, fun x hx => within_iff.2 (h2 x hx)⟩
theorem hOk_at {s : Survey} {H : List Int} (h : hOk s H = true) {p : Int} (hp : 0 ≤ p ∧ p < s.points) : H[p.toNat]? = some (gi H p.toNat) ∧ -1000 ≤ gi H p.toNat ∧ gi H p.toNat ≤ 1000 := by
  obtain ⟨h1, h2⟩ := hOk_iff.1 h
  have hx := gi_at (l := H) (i := p.toNat) (by omega)
  exact ⟨hx, h2 _ (List.mem_of_getElem? hx)⟩
theorem raise_loop {s : Survey} (hs : SvOk s) {H : List Int} (hh : hOk s H = true) :
    (raiseOk s H → level_Raise_k3 s H false = some (raiseR s H, 0) ∧ ref01_Raise_k2 s H = some (raiseR s H, 0)) ∧ (¬ raiseOk s H → level_Raise_k3 s H false = some (nilS, 3) ∧ ref01_Raise_k2 s H = some (nilS, 3)) := by
  have h8 := hs.len
  have e1 : level_Raise_k3 s H false = if (∀ j, j < s.readings.length → within (upR H (gr s.readings j)).rise (-1000) 1000 = true) then some (raiseR s H, 0) else some (nilS, 3) := by
    unfold level_Raise_k3 level_Raise_k2
    rw [if_neg (by simp), bnd_eq (clone_eq (by omega))]
    have h0 : midL H s.readings 0 = s.readings := by unfold midL; simp
    have := scan_loop0 s.readings.length (fun j => within (upR H (gr s.readings j)).rise (-1000) 1000) (midL H s.readings) (fun n l t => level_Raise_L1 s H s.readings n t l) (some (raiseR s H, 0)) (some (nilS, 3)) (fun n t ht => ?_) (fun n => ?_) (by omega)
    · rw [h0] at this; exact this
    · have hr := gr_ok hs ht
      have a1 := hOk_at hh hr.2.1
      have a2 := hOk_at hh hr.1
      have hx := midL_at (H := H) ht
      have hset := midL_set (H := H) ht
      have hl := midL_len H s.readings t
      generalize gr s.readings t = r at *
      have hx2 : ((midL H s.readings t).set t (upR H r))[t]? = some (upR H r) := by rw [List.getElem?_set, if_pos rfl, if_pos (by omega)]
      show level_Raise_B1 s H s.readings (level_Raise_L1 s H s.readings n) _ _ = _
      unfold level_Raise_B1
      rw [if_pos (by omega), ix_nat hx, ix_nat hx, ix_eq hr.2.1.1 a1.1, ix_eq hr.1.1 a2.1, gd_pos (by omega), gd_pos (by omega), ix_nat hx]
      show ix ((midL H s.readings t).set t (upR H r)) (t : Int) (fun x6 => bnd (level_within x6.rise (-1000) 1000) fun r1 => if r1 = true then gd (InR ((t : Int) + 1)) <| level_Raise_L1 s H s.readings n ((t : Int) + 1) ((midL H s.readings t).set t (upR H r)) else some (nilS, 3)) = _
      rw [ix_nat hx2, bnd_eq (lwithin_eq _ _ _), hset, gd_pos (by omega)]; rfl
    · show level_Raise_B1 s H s.readings (level_Raise_L1 s H s.readings n) _ _ = _
      unfold level_Raise_B1 level_Raise_k1
      rw [if_neg (by omega), midL_end]; rfl
  have e2 : ref01_Raise_k2 s H = if (∀ j, j < s.readings.length → within (upR H (gr s.readings j)).rise (-1000) 1000 = true) then some (raiseR s H, 0) else some (nilS, 3) := by
    unfold ref01_Raise_k2
    rw [bnd_eq (copy_eq (by omega))]
    have h0 : midL H s.readings 0 = s.readings := by unfold midL; simp
    have := scan_loop0 s.readings.length (fun j => within (upR H (gr s.readings j)).rise (-1000) 1000) (midL H s.readings) (fun n l t => ref01_Raise_L1 H s n t l) (some (raiseR s H, 0)) (some (nilS, 3)) (fun n t ht => ?_) (fun n => ?_) (by omega)
    · rw [h0] at this; exact this
    · have hr := gr_ok hs ht
      have a1 := hOk_at hh hr.2.1
      have a2 := hOk_at hh hr.1
      have hx := midL_at (H := H) ht
      have hset := midL_set (H := H) ht
      have hl := midL_len H s.readings t
      generalize gr s.readings t = r at *
      have hx2 : ((midL H s.readings t).set t (upR H r))[t]? = some (upR H r) := by rw [List.getElem?_set, if_pos rfl, if_pos (by omega)]
      have hu : (⟨r.from_, r.to_, r.rise + gi H r.to_.toNat - gi H r.from_.toNat, r.weight⟩ : Reading) = upR H r := by
        unfold upR
        rw [show r.rise + gi H r.to_.toNat - gi H r.from_.toNat = r.rise + (gi H r.to_.toNat - gi H r.from_.toNat) by omega]
      show ref01_Raise_B1 H s (ref01_Raise_L1 H s n) _ _ = _
      unfold ref01_Raise_B1
      rw [if_pos (by omega), ix_nat hx, ix_eq hr.2.1.1 a1.1, gd_pos (by omega), ix_eq hr.1.1 a2.1, gd_pos (by omega), ix_nat hx]
      show ix ((midL H s.readings t).set t (⟨r.from_, r.to_, r.rise + gi H r.to_.toNat - gi H r.from_.toNat, r.weight⟩ : Reading)) (t : Int) (fun x6 => bnd (ref01_within x6.rise (-1000) 1000) fun r1 => if r1 = true then gd (InR ((t : Int) + 1)) <| ref01_Raise_L1 H s n ((t : Int) + 1) ((midL H s.readings t).set t (⟨r.from_, r.to_, r.rise + gi H r.to_.toNat - gi H r.from_.toNat, r.weight⟩ : Reading)) else some (nilS, 3)) = _
      rw [hu, ix_nat hx2, bnd_eq (rwithin_eq _ _ _), hset, gd_pos (by omega)]; rfl
    · have hl := midL_len H s.readings s.readings.length
      show ref01_Raise_B1 H s (ref01_Raise_L1 H s n) _ _ = _
      unfold ref01_Raise_B1 ref01_Raise_k1
      rw [if_neg (by omega), midL_end]; rfl
  rw [e1, e2]
  exact ⟨fun h => ⟨if_pos h, if_pos h⟩, fun h => ⟨if_neg h, if_neg h⟩⟩
/-- What raising gives. -/
theorem Raise_any (s : Survey) {H : List Int} (hH : H.length ≤ 1000) : ∃ r, level_Raise s H = some r ∧ ref01_Raise s H = some r ∧ (r.2 = 0 → SvOk s ∧ hOk s H = true ∧ raiseOk s H ∧ r = (raiseR s H, 0)) ∧ (r.2 ≠ 0 → r.1 = nilS) := by
  unfold level_Raise ref01_Raise
  rw [bnd_eq (Validate_eq s), bnd_eq (rValidate_eq s)]
  by_cases hv : validate s = 0
  · have hs := val0.1 hv
    rw [if_pos hv, if_pos hv]
    by_cases hl : (H.length : Int) = s.points
    · rw [if_pos hl, if_pos hl, bnd_eq (has_eq (f := level_Raise_1) (p := fun x => !within x (-1000) 1000) hH (fun x _ => by
        unfold level_Raise_1
        rw [bnd_eq (lwithin_eq _ _ _)]))]
      have er : ref01_Raise_L2 s H FU 0 = if H.all (fun x => within x (-1000) 1000) = true then ref01_Raise_k2 s H else some (nilS, 1) := by
        refine list_loop0 H (fun x => within x (-1000) 1000) (ref01_Raise_L2 s H) _ _ (fun n i x hx => ?_) (fun n => ?_) (by omega)
        · have := lt_of_at hx
          show ref01_Raise_B2 s H (ref01_Raise_L2 s H n) _ = _
          unfold ref01_Raise_B2
          rw [if_pos (by omega), ix_nat hx, bnd_eq (rwithin_eq _ _ _), gd_pos (by omega)]; rfl
        · show ref01_Raise_B2 s H (ref01_Raise_L2 s H n) _ = _
          unfold ref01_Raise_B2
          rw [if_neg (by omega)]
      rw [er]
      cases h3 : H.any fun x => !within x (-1000) 1000
      · have hall : (H.all fun x => within x (-1000) 1000) = true := by
          rw [List.any_eq_false] at h3
          rw [List.all_eq_true]
          intro x hx
          have := h3 x hx
          simpa using this
        have hok : hOk s H = true := by unfold hOk; rw [decide_eq_true hl, hall]; rfl
        obtain ⟨l1, l2⟩ := raise_loop hs hok
        rw [if_pos hall]
        by_cases hr : raiseOk s H
        · exact ⟨_, (l1 hr).1, (l1 hr).2, fun _ => ⟨hs, hok, hr, rfl⟩, fun h => absurd rfl h⟩
        · exact ⟨_, (l2 hr).1, (l2 hr).2, fun h => by simp at h, fun _ => rfl⟩
      · have hall : (H.all fun x => within x (-1000) 1000) = false := by
          rw [List.any_eq_true] at h3
          obtain ⟨x, hx, h⟩ := h3
          rw [List.all_eq_false]
          exact ⟨x, hx, by simpa using h⟩
        rw [hall, if_neg (by simp)]
        exact ⟨_, rfl, rfl, fun h => by simp at h, fun _ => rfl⟩
    · rw [if_neg hl, if_neg hl]
      exact ⟨_, rfl, rfl, fun h => by simp at h, fun _ => rfl⟩
  · rw [if_neg hv, if_neg hv]
    exact ⟨_, rfl, rfl, fun h => absurd h hv, fun _ => rfl⟩
section
variable {s : Survey} {H : List Int}
theorem raise_ok (hs : SvOk s) (hr : raiseOk s H) : SvOk (raiseR s H) := by
  refine ⟨hs.p1, hs.p5, by show (s.readings.map (upR H)).length ≤ 8; rw [List.length_map]; exact hs.len, fun r hr' => ?_⟩
  have hr'' : r ∈ s.readings.map (upR H) := hr'
  obtain ⟨x, hx, rfl⟩ := List.mem_map.1 hr''
  have h := hs.rd x hx
  obtain ⟨k, hk, e⟩ := List.getElem_of_mem hx
  have hg : gr s.readings k = x := by
    have := gr_at hk
    rw [List.getElem?_eq_getElem hk] at this
    rw [← Option.some.inj this, e]
  have h2 := within_iff.1 (hr k hk)
  rw [hg] at h2
  exact ⟨h.1, h.2.1, h.2.2.1, h2, h.2.2.2.2⟩
theorem raise_con {a b : Int} : Con (raiseR s H) (raiseR s H).readings.length a b ↔ Con s s.readings.length a b := by
  constructor
  · refine con_lift fun r hr => ?_
    have hr' : r ∈ s.readings.map (upR H) := hr
    obtain ⟨x, hx, rfl⟩ := List.mem_map.1 hr'
    exact (edge_of hx : Con s s.readings.length x.from_ x.to_)
  · refine con_lift fun r hr => ?_
    exact edge_of (s := raiseR s H) (r := upR H r) (List.mem_map.2 ⟨r, hr, rfl⟩)
theorem raise_rt (hs : SvOk s) (hr : raiseOk s H) {p : Int} (hp : 0 ≤ p ∧ p < s.points) : rtOf (raiseR s H) p = rtOf s p := by
  have ht := raise_ok hs hr
  have h1 := root_in hs hp
  have h2 := root_in ht (show 0 ≤ p ∧ p < (raiseR s H).points from hp)
  have hc : Con s s.readings.length (rtOf s p) (rtOf (raiseR s H) p) := ((con_rt hs (by omega) hp).2 h1.2).trans (raise_con.1 ((con_rt ht (show 0 ≤ p ∧ p < (raiseR s H).points from hp) (by have : (raiseR s H).points = s.points := rfl; omega)).2 h2.2.symm))
  have a := (root_iff hs (q := rtOf s p) (by omega)).1 h1.2 _ (by omega) hc
  have b := (root_iff ht (q := rtOf (raiseR s H) p) (by have : (raiseR s H).points = s.points := rfl; omega)).1 h2.2 (rtOf s p) (by have : (raiseR s H).points = s.points := rfl; omega) (raise_con.2 hc.symm)
  omega
theorem dv_up (l : List Reading) (f : Reading → Int) (p : Int) : dv (l.map (upR H)) f p = dv l (fun r => f (upR H r)) p := by
  induction l with
  | nil => rfl
  | cons r l ih => simp only [List.map_cons, dv]; rw [ih]; rfl
theorem rs_up (l : List Reading) (f : Reading → Int) : rs (l.map (upR H)) f = rs l (fun r => f (upR H r)) := by
  induction l with
  | nil => rfl
  | cons r l ih => simp only [List.map_cons, rs]; rw [ih]
theorem raise_rs {i j N D : Int} (h : RS s i j N D) : RS (raiseR s H) i j N D := by
  obtain ⟨u, hu, e⟩ := h
  exact ⟨u, ⟨hu.pos, fun p p0 p1 => (dv_up s.readings _ p).trans (hu.dv p p0 p1)⟩, e⟩
theorem raise_bh (hs : SvOk s) (hr : raiseOk s H) : BH (raiseR s H) (fun p => hB s p + (gi H p.toNat - gi H (rtOf s p).toNat) * gD s) (gD s) := by
  have hb := bh_best hs
  refine ⟨hb.pos, fun p p0 p1 h => ?_, fun p p0 p1 => ?_⟩
  · rw [raise_rt hs hr ⟨p0, p1⟩] at h
    rw [hb.root p p0 p1 h, h]; simp
  · refine (dv_up s.readings _ p).trans ?_
    rw [← hb.dv p p0 p1]
    refine dv_congr (fun r hr' => ?_) p
    have := rt_same hs hr'
    show r.weight * (hB s r.from_ + (gi H r.from_.toNat - gi H (rtOf s r.from_).toNat) * gD s - (hB s r.to_ + (gi H r.to_.toNat - gi H (rtOf s r.to_).toNat) * gD s) + gD s * (r.rise + (gi H r.to_.toNat - gi H r.from_.toNat))) = _
    rw [this]; grind
theorem raise_hB (hs : SvOk s) (hr : raiseOk s H) {p : Int} (hp : 0 ≤ p ∧ p < s.points) : hB (raiseR s H) p * gD s = (hB s p + (gi H p.toNat - gi H (rtOf s p).toNat) * gD s) * gD (raiseR s H) :=
  bh_uniq (raise_ok hs hr) (bh_best (raise_ok hs hr)) (raise_bh hs hr) (show 0 ≤ p ∧ p < (raiseR s H).points from hp)
theorem raise_misfit (hs : SvOk s) (hr : raiseOk s H) : red (SS (raiseR s H)) (gD (raiseR s H) * gD (raiseR s H)) = red (SS s) (gD s * gD s) := by
  have ht := raise_ok hs hr
  have h1 := gD_ok hs
  have h2 := gD_ok ht
  have p1 : 0 < gD s * gD s := Int.mul_pos h1.1 h1.1
  have p2 : 0 < gD (raiseR s H) * gD (raiseR s H) := Int.mul_pos h2.1 h2.1
  refine Is.uniq (n := SS s) (d := gD s * gD s) (by omega) ((Is.red (by omega)).of_eq (by omega) ?_) (.red (by omega))
  have e : SS (raiseR s H) = rs s.readings (fun r => r.weight * resN (raiseR s H) (upR H r) * resN (raiseR s H) (upR H r)) := rs_up s.readings _
  rw [e]
  unfold SS
  rw [Int.mul_comm, Int.mul_comm (rs _ _), ← rs_mul, ← rs_mul]
  refine rs_congr fun r hr' => ?_
  have hrr := hs.rd r hr'
  have b1 := raise_hB hs hr (p := r.from_) hrr.1
  have b2 := raise_hB hs hr (p := r.to_) hrr.2.1
  rw [rt_same hs hr'] at b1
  have key : resN (raiseR s H) (upR H r) * gD s = resN s r * gD (raiseR s H) := by
    unfold resN
    show ((r.rise + (gi H r.to_.toNat - gi H r.from_.toNat)) * gD (raiseR s H) - hB (raiseR s H) r.to_ + hB (raiseR s H) r.from_) * gD s = _
    grind
  have : gD s * gD s * (r.weight * resN (raiseR s H) (upR H r) * resN (raiseR s H) (upR H r)) = r.weight * (resN (raiseR s H) (upR H r) * gD s) * (resN (raiseR s H) (upR H r) * gD s) := by grind
  rw [this, key]; grind
theorem raise_error (hs : SvOk s) (hr : raiseOk s H) (i j : Int) : level_Error (raiseR s H) i j = level_Error s i j := by
  have ht := raise_ok hs hr
  have hc : errC (raiseR s H) i j = errC s i j := by
    unfold errC
    rw [val0.2 hs, val0.2 ht]
    show (if (0 : Int) = 0 then (if (0 ≤ i ∧ i < s.points) ∧ (0 ≤ j ∧ j < s.points) then _ else _) else _) = _
    rw [if_pos rfl, if_pos rfl]
    by_cases hp : (0 ≤ i ∧ i < s.points) ∧ (0 ≤ j ∧ j < s.points)
    · rw [if_pos hp, if_pos hp, raise_rt hs hr hp.1, raise_rt hs hr hp.2]
    · rw [if_neg hp, if_neg hp]
  by_cases h : errC s i j = 0
  · obtain ⟨_, hi, hj, hrt⟩ := errC0 h
    obtain ⟨x, N, D, a1, _, a3, a4, _⟩ := Error_0 h
    obtain ⟨y, N', D', b1, _, b3, b4, _⟩ := Error_0 (hc.trans h)
    have hu := rs_uniq ht (raise_con.2 ((con_rt hs hi hj).2 hrt)) (raise_rs (H := H) a4) b4
    have hD := a4.pos
    have hD' := b4.pos
    have e : y = x := b3.uniq (by omega) (a3.of_eq (by omega) hu)
    rw [a1, b1, e]
  · rw [(Error_1 h).1, (Error_1 (show errC (raiseR s H) i j ≠ 0 by rw [hc]; exact h)).1, hc]
theorem raise_best (hs : SvOk s) (hr : raiseOk s H) (hh : hOk s H = true) {p : Int} (hp : 0 ≤ p ∧ p < s.points) :
    InR ((gi H p.toNat - gi H (rtOf s p).toNat) * (bestV s p).den) ∧ InR ((bestV s p).num + (gi H p.toNat - gi H (rtOf s p).toNat) * (bestV s p).den) ∧
    ref01_Ratio ((bestV s p).num + (gi H p.toNat - gi H (rtOf s p).toNat) * (bestV s p).den) (bestV s p).den = some (bestV (raiseR s H) p) := by
  have ht := raise_ok hs hr
  have h1 := gD_ok hs
  have h2 := gD_ok ht
  have hI := bestV_is hs p
  have hle := hI.le (by omega)
  have hb := hB_abs hs p
  have a1 := hOk_at hh hp
  have hrt := root_in hs hp
  have a2 := hOk_at hh (p := rtOf s p) (by omega)
  have m := na_mul (a := gi H p.toNat - gi H (rtOf s p).toNat) (b := (bestV s p).den) (A := 2000) (B := 20736) (by omega) (by omega)
  have hq := hI.1.pos
  refine ⟨by omega, by omega, ?_⟩
  rw [Ratio_eq (by omega) (sm_abs.2 (by omega)) (sm_abs.2 (by omega))]
  congr 1
  refine Is.uniq (n := hB (raiseR s H) p) (d := gD (raiseR s H)) (by omega) ?_ (bestV_is ht p)
  refine (Is.red (by omega)).of_eq (by omega) ?_
  have hB' := raise_hB hs hr hp
  have v := hI.2
  generalize gi H p.toNat - gi H (rtOf s p).toNat = d at *
  refine Int.eq_of_mul_eq_mul_right (show gD s ≠ 0 by omega) ?_
  have : hB (raiseR s H) p * (bestV s p).den * gD s = (hB (raiseR s H) p * gD s) * (bestV s p).den := by grind
  rw [this, hB']
  grind
end
theorem law_LevelRaises (s : Survey) (H : List Int) (x : Three) (hb : s.readings.length ≤ 9223372036854775807) (hb2 : H.length ≤ 9223372036854775807) : law01_LevelRaises s H x = some true := by
  have hk7 : law01_LevelRaises_k7 s H x true = some true := by
    unfold law01_LevelRaises_k7
    rw [if_pos rfl, bnd_eq known_eq]
  unfold law01_LevelRaises
  rw [bnd_eq (Long_eq s)]
  by_cases hL : (100 : Int) < (s.readings.length : Int)
  · rw [if_pos (by simpa using hL)]; exact hk7
  rw [if_neg (by simpa using hL)]
  by_cases hT : (100 : Int) < (H.length : Int)
  · rw [decide_eq_true hT]; exact hk7
  rw [decide_eq_false hT]
  obtain ⟨r, e1, e2, h0, h1⟩ := Raise_any s (H := H) (by omega)
  have hrl : r.1.readings.length ≤ 1000 := by
    by_cases h : r.2 = 0
    · obtain ⟨_, _, _, e⟩ := h0 h
      rw [e]
      show (s.readings.map (upR H)).length ≤ 1000
      rw [List.length_map]; omega
    · rw [h1 h]; simp [nilS]
  unfold law01_LevelRaises_k7
  rw [if_neg (by simp), bnd_eq e1, bnd_eq e2, bnd_eq (Same_self hrl), if_pos rfl, decide_eq_true rfl]
  unfold law01_LevelRaises_k6
  rw [if_neg (by simp)]
  by_cases h : r.2 = 0
  · obtain ⟨hs, hh, hr, rfl⟩ := h0 h
    have ht := raise_ok hs hr
    have hp1 := hs.p1
    have hp5 := hs.p5
    have hPl := parts_len hs
    have hh1 := (hOk_iff.1 hh).1
    obtain ⟨y, ey, _⟩ := Error_any s x.i x.j
    have hl1 := bestL_len s
    have hl2 := bestL_len (raiseR s H)
    have hpp : (raiseR s H).points = s.points := rfl
    rw [if_pos h, bnd_eq (Misfit_eq hs), bnd_eq (Misfit_eq ht), bnd_eq ey, bnd_eq ((raise_error hs hr x.i x.j).trans ey), if_pos rfl, if_pos rfl, raise_misfit hs hr, if_pos (by simp), if_pos (by simp), decide_eq_true rfl]
    unfold law01_LevelRaises_k5
    rw [if_neg (by simp), bnd_eq (Best_eq s), bnd_eq (Best_eq (raiseR s H)), bnd_eq (Parts_eq s), if_pos (val0.2 hs), if_pos (val0.2 ht), if_pos (val0.2 hs), if_pos rfl, if_pos rfl, if_pos rfl, decide_eq_true (by simp only; omega)]
    unfold law01_LevelRaises_k4
    rw [if_neg (by simp)]
    rw [list_loop0 (partsR s) (fun _ => true) (law01_LevelRaises_L2 H (bestL s, 0) (bestL (raiseR s H), 0) (partsR s, 0)) (some true) (some false) (fun n t pt hx => ?_) (fun n => ?_) (by omega)]
    · rw [if_pos (by simp)]
    · have htl := lt_of_at hx
      obtain ⟨q, hq1, hq2, rfl⟩ := (parts_mem hs).1 (List.mem_of_getElem? hx)
      have hlen := part_len hs q
      have hh0 := part_head hs hq1 hq2
      rw [if_pos rfl]
      show law01_LevelRaises_B2 H (bestL s, 0) (bestL (raiseR s H), 0) (partsR s, 0) (law01_LevelRaises_L2 H (bestL s, 0) (bestL (raiseR s H), 0) (partsR s, 0) n) _ = _
      unfold law01_LevelRaises_B2
      rw [if_pos (by simp only; omega)]
      rw [list_loop0 (partOf (rootsOf s) q) (fun _ => true) (law01_LevelRaises_L1 H (bestL s, 0) (bestL (raiseR s H), 0) (partsR s, 0) (t : Int) (law01_LevelRaises_L2 H (bestL s, 0) (bestL (raiseR s H), 0) (partsR s, 0) n)) (law01_LevelRaises_L2 H (bestL s, 0) (bestL (raiseR s H), 0) (partsR s, 0) n ((t + 1 : Nat) : Int)) (some false) (fun m k p hp => ?_) (fun m => ?_) (by omega)]
      · rw [if_pos (by simp)]
      · have hkl := lt_of_at hp
        have hpm := (part_mem hs).1 (List.mem_of_getElem? hp)
        have hv := raise_best hs hr hh hpm.1
        have hI := (bestV_is hs p).1.pos
        have a1 := hOk_at hh hpm.1
        have a2 := hOk_at hh hq1
        rw [hpm.2] at hv
        rw [if_pos rfl]
        show law01_LevelRaises_B1 H (bestL s, 0) (bestL (raiseR s H), 0) (partsR s, 0) (t : Int) (law01_LevelRaises_L2 H (bestL s, 0) (bestL (raiseR s H), 0) (partsR s, 0) n) (law01_LevelRaises_L1 H (bestL s, 0) (bestL (raiseR s H), 0) (partsR s, 0) (t : Int) (law01_LevelRaises_L2 H (bestL s, 0) (bestL (raiseR s H), 0) (partsR s, 0) n) m) _ = _
        unfold law01_LevelRaises_B1
        simp only
        rw [ix_nat hx, if_pos (by omega), ix_nat hx, ix_nat hp, if_neg (by omega), if_neg (by omega), ix_eq hpm.1.1 (bestL_at hpm.1), if_neg (by omega), ix_eq hpm.1.1 (bestL_at (s := raiseR s H) hpm.1), ix_eq hpm.1.1 (bestL_at hpm.1), ix_eq hpm.1.1 a1.1, ix_nat hx, ix0 hh0, ix_eq hq1.1 a2.1, gd_pos (by omega), ix_eq hpm.1.1 (bestL_at hpm.1), gd_pos hv.1, gd_pos hv.2.1, ix_eq hpm.1.1 (bestL_at hpm.1), bnd_eq hv.2.2]
        unfold law01_LevelRaises_k3
        rw [if_neg (by simp), gd_pos (by omega)]; rfl
      · show law01_LevelRaises_B1 H (bestL s, 0) (bestL (raiseR s H), 0) (partsR s, 0) (t : Int) (law01_LevelRaises_L2 H (bestL s, 0) (bestL (raiseR s H), 0) (partsR s, 0) n) (law01_LevelRaises_L1 H (bestL s, 0) (bestL (raiseR s H), 0) (partsR s, 0) (t : Int) (law01_LevelRaises_L2 H (bestL s, 0) (bestL (raiseR s H), 0) (partsR s, 0) n) m) _ = _
        unfold law01_LevelRaises_B1 law01_LevelRaises_k2
        simp only
        rw [ix_nat hx, if_neg (by omega), gd_pos (by omega)]; rfl
    · show law01_LevelRaises_B2 H (bestL s, 0) (bestL (raiseR s H), 0) (partsR s, 0) (law01_LevelRaises_L2 H (bestL s, 0) (bestL (raiseR s H), 0) (partsR s, 0) n) _ = _
      unfold law01_LevelRaises_B2 law01_LevelRaises_k1
      rw [if_neg (by simp only; omega), bnd_eq known_eq]
  · rw [if_neg h, bnd_eq known_eq]
end Go.D1
