/- Lemmas and walks that the proof of this claim uses: D1r3. -/
import Derived.Test.YtgnlfgkmkkjkoaaLevelShares6
set_option linter.unusedVariables false
set_option linter.unusedSimpArgs false
namespace Go.D1
open Go.Tb
theorem Share_0 {s : Survey} (hb : s.readings.length ≤ 1000) {k : Int} (h : readingR s k = 0) : ∃ x N D, level_Share s k = some (x, 0) ∧ ref01_Share s k = some (x, 0) ∧
    Is x ((gr s.readings k.toNat).weight * N) D ∧ RS s (gr s.readings k.toNat).from_ (gr s.readings k.toNat).to_ N D ∧ D ≤ 20736 ∧ N.natAbs ≤ 4000 * D.natAbs := by
  obtain ⟨hs, h0, h1⟩ := reading0 h
  have hx : s.readings[k.toNat]? = some (gr s.readings k.toNat) := gr_at (by omega)
  have hr := gr_ok hs (i := k.toNat) (by omega)
  have hm : gr s.readings k.toNat ∈ s.readings := gr_mem (by omega)
  generalize gr s.readings k.toNat = r at *
  obtain ⟨y, N, D, a1, a2, a3, a4, a5⟩ := resist_eq hs hr.1 hr.2.1 (rt_same hs hm)
  have a6 := resistance_same hs hr.1 hr.2.1 (rt_same hs hm) a2 a3
  have hD := a3.pos
  have hl := a2.le (by omega)
  have hNw : (r.weight * N).natAbs ≤ 3 * 82944000 := na_mul (by omega) (by omega)
  have hv := a2.2
  obtain ⟨z, z1, z2⟩ := mul_is (is_int r.weight).1 a2.1 ⟨sm_abs.2 (by show r.weight.natAbs ≤ _; omega), sm_abs.2 (by show (1 : Int).natAbs ≤ _; omega)⟩ ⟨sm_abs.2 (by omega), sm_abs.2 (by omega)⟩ (N := r.weight * N) (D := D) (by omega) (by
    show r.weight * y.num * D = r.weight * N * (1 * y.den)
    grind) (sm_abs.2 (by omega)) (sm_abs.2 (by omega))
  have hNy : (r.weight * y.num).natAbs ≤ 3 * 82944000 := na_mul (by omega) (by omega)
  have hq := a2.1.pos
  have hz : red (r.weight * y.num) y.den = z := by
    refine Is.uniq (n := r.weight * N) (d := D) (by omega) ?_ z2
    exact (Is.red (n := r.weight * y.num) (d := y.den) (by omega)).of_eq (by omega) (by grind)
  refine ⟨z, N, D, ?_, ?_, z2, a3, a4, a5⟩
  · unfold level_Share
    rw [bnd_eq (reading_eq hb k), if_pos h, ix_eq h0 hx, bnd_eq a1, bnd_eq z1]
  · unfold ref01_Share
    rw [bnd_eq (numbered_eq hb k), if_pos h, ix_eq h0 hx, bnd_eq a6, gd_pos (by omega), bnd_eq (Ratio_eq (by omega) (sm_abs.2 (by omega)) (sm_abs.2 (by omega))), hz]
theorem Share_1 {s : Survey} (hb : s.readings.length ≤ 1000) {k : Int} (h : readingR s k ≠ 0) : level_Share s k = some (⟨0, 0⟩, readingR s k) ∧ ref01_Share s k = some (⟨0, 0⟩, readingR s k) := by
  constructor
  · unfold level_Share
    rw [bnd_eq (reading_eq hb k), if_neg h]
  · unfold ref01_Share
    rw [bnd_eq (numbered_eq hb k), if_neg h]
theorem less_parts {s : Survey} {k : Nat} (hk : k < s.readings.length) : s.readings = s.readings.take k ++ gr s.readings k :: s.readings.drop (k + 1) := by
  have h1 : s.readings.drop k = gr s.readings k :: s.readings.drop (k + 1) := by
    have := List.drop_eq_getElem_cons hk
    have e := gr_at hk
    rw [List.getElem?_eq_getElem hk] at e
    rw [this, Option.some.inj e]
  rw [← h1, List.take_append_drop]
theorem less_ok {s : Survey} (hs : SvOk s) (k : Int) : SvOk (lessR s k) := by
  have h8 := hs.len
  refine ⟨hs.p1, hs.p5, ?_, fun r hr => hs.rd r ?_⟩
  · unfold lessR
    simp only [List.length_append, List.length_take, List.length_drop]; omega
  · have hr' : r ∈ s.readings.take k.toNat ++ s.readings.drop (k.toNat + 1) := hr
    rcases List.mem_append.1 hr' with h | h
    · exact List.mem_of_mem_take h
    · exact List.mem_of_mem_drop h
theorem less_mem {s : Survey} {k : Int} {r : Reading} (hk : k.toNat < s.readings.length) (hr : r ∈ s.readings) : r ∈ (lessR s k).readings ∨ r = gr s.readings k.toNat := by
  rw [less_parts hk] at hr
  show r ∈ s.readings.take k.toNat ++ s.readings.drop (k.toNat + 1) ∨ _
  rcases List.mem_append.1 hr with h | h
  · exact .inl (List.mem_append.2 (.inl h))
  · rcases List.mem_cons.1 h with h | h
    · exact .inr h
    · exact .inl (List.mem_append.2 (.inr h))
theorem less_sub {s : Survey} {k : Int} {r : Reading} (hr : r ∈ (lessR s k).readings) : r ∈ s.readings := by
  have hr' : r ∈ s.readings.take k.toNat ++ s.readings.drop (k.toNat + 1) := hr
  rcases List.mem_append.1 hr' with h | h
  · exact List.mem_of_mem_take h
  · exact List.mem_of_mem_drop h
theorem less_dv {s : Survey} {k : Int} (hk : k.toNat < s.readings.length) (f : Reading → Int) (p : Int) : dv s.readings f p = dv (lessR s k).readings f p + ((if (gr s.readings k.toNat).from_ = p then f (gr s.readings k.toNat) else 0) - (if (gr s.readings k.toNat).to_ = p then f (gr s.readings k.toNat) else 0)) := by
  have e : dv s.readings f p = dv (s.readings.take k.toNat ++ gr s.readings k.toNat :: s.readings.drop (k.toNat + 1)) f p := by rw [← less_parts hk]
  rw [e]
  show _ = dv (s.readings.take k.toNat ++ s.readings.drop (k.toNat + 1)) f p + _
  rw [dv_append, dv_append]
  simp only [dv]
  omega
theorem less_rs {s : Survey} {k : Int} (hk : k.toNat < s.readings.length) (f : Reading → Int) : rs s.readings f = rs (lessR s k).readings f + f (gr s.readings k.toNat) := by
  have e : rs s.readings f = rs (s.readings.take k.toNat ++ gr s.readings k.toNat :: s.readings.drop (k.toNat + 1)) f := by rw [← less_parts hk]
  rw [e]
  show _ = rs (s.readings.take k.toNat ++ s.readings.drop (k.toNat + 1)) f + _
  rw [rs_append, rs_append]
  simp only [rs]
  omega
/-- A reading's share is 1 exactly if it is a bridge. -/
theorem bridge_iff {s : Survey} (hs : SvOk s) {k : Int} (hk : k.toNat < s.readings.length) {N D : Int} (h : RS s (gr s.readings k.toNat).from_ (gr s.readings k.toNat).to_ N D) :
    (gr s.readings k.toNat).weight * N = D ↔ rtOf (lessR s k) (gr s.readings k.toNat).from_ ≠ rtOf (lessR s k) (gr s.readings k.toNat).to_ := by
  have hl := less_ok hs k
  have hr := gr_ok hs hk
  have hdv := less_dv (s := s) hk
  have hrs := less_rs (s := s) hk
  generalize gr s.readings k.toNat = r at *
  obtain ⟨u, hu, rfl⟩ := h
  have hD := hu.pos
  constructor
  · intro e hrt
    have hc := (con_rt hl (show 0 ≤ r.from_ ∧ r.from_ < (lessR s k).points from hr.1) (show 0 ≤ r.to_ ∧ r.to_ < (lessR s k).points from hr.2.1)).2 hrt
    have := flat_con hl (u := u) (fun p p0 p1 => by
      have h1 := hdv (fun r => r.weight * (u r.from_ - u r.to_)) p
      rw [hu.dv p p0 p1] at h1
      rw [e] at h1
      have f1 : (if p = r.from_ then D else 0) = if r.from_ = p then D else 0 := by split <;> split <;> omega
      have f2 : (if p = r.to_ then D else 0) = if r.to_ = p then D else 0 := by split <;> split <;> omega
      rw [f1, f2] at h1
      omega) hc
    rw [this, Int.sub_self, Int.mul_zero] at e
    omega
  · intro hne
    have h1 := un_sum hs hr.1 hr.2.1 hu (fun p => if rtOf (lessR s k) p = rtOf (lessR s k) r.from_ then 1 else 0)
    rw [hrs] at h1
    have h2 : rs (lessR s k).readings (fun r' => ((if rtOf (lessR s k) r'.from_ = rtOf (lessR s k) r.from_ then (1 : Int) else 0) - (if rtOf (lessR s k) r'.to_ = rtOf (lessR s k) r.from_ then 1 else 0)) * (r'.weight * (u r'.from_ - u r'.to_))) = rs (lessR s k).readings (fun _ => 0 * 0) := by
      refine rs_congr fun r' hr' => ?_
      rw [rt_same hl hr', Int.sub_self]; simp
    rw [h2, rs_mul (lessR s k).readings 0 (fun _ => 0)] at h1
    simp only [if_true] at h1
    rw [if_neg fun h => hne h.symm] at h1
    omega
theorem root_iff {s : Survey} (hs : SvOk s) {q : Int} (hq : 0 ≤ q ∧ q < s.points) : rtOf s q = q ↔ ∀ p, (0 ≤ p ∧ p < s.points) → Con s s.readings.length q p → q ≤ p := by
  constructor
  · intro h p hp hc
    have := (con_rt hs hq hp).1 hc
    have := (root_in hs hp).1
    omega
  · intro h
    have h1 := root_in hs hq
    have h2 := h (rtOf s q) (by omega) ((con_rt hs hq (by omega)).2 h1.2.symm)
    omega
theorem parts_count {s : Survey} (hs : SvOk s) : (partsR s).length = (iota s.points.toNat).countP (fun q => decide (rtOf s q = q)) := by
  unfold partsR partsL nodesOf
  rw [List.length_map, List.countP_eq_length_filter]; rfl
/-- There are more parts without a bridge, and as many without another reading. -/
theorem bridge_parts {s : Survey} (hs : SvOk s) {k : Int} (hk : k.toNat < s.readings.length) :
    (partsR s).length < (partsR (lessR s k)).length ↔ rtOf (lessR s k) (gr s.readings k.toNat).from_ ≠ rtOf (lessR s k) (gr s.readings k.toNat).to_ := by
  have hl := less_ok hs k
  have hr := gr_ok hs hk
  have hp1 := hs.p1
  have hmem := fun (x : Reading) => less_mem (s := s) (r := x) hk
  have hrm := gr_mem hk
  have up : ∀ {a b : Int}, Con (lessR s k) (lessR s k).readings.length a b → Con s s.readings.length a b := fun hc => con_lift (fun x hx => edge_of (less_sub hx)) hc
  rw [parts_count hs, parts_count hl]
  show _ < (iota s.points.toNat).countP _ ↔ _
  generalize gr s.readings k.toNat = r at *
  constructor
  · intro hlt hrt
    have hc := (con_rt hl (show 0 ≤ r.from_ ∧ r.from_ < (lessR s k).points from hr.1) (show 0 ≤ r.to_ ∧ r.to_ < (lessR s k).points from hr.2.1)).2 hrt
    have down : ∀ {a b : Int}, Con s s.readings.length a b → Con (lessR s k) (lessR s k).readings.length a b := fun h => con_lift (fun x hx => by
      rcases hmem x hx with h | rfl
      · exact edge_of h
      · exact hc) h
    have : (iota s.points.toNat).countP (fun q => decide (rtOf s q = q)) = (iota s.points.toNat).countP (fun q => decide (rtOf (lessR s k) q = q)) := by
      refine List.countP_congr fun q hq => ?_
      have hq' := mem_iota.1 hq
      simp only [decide_eq_true_eq]
      rw [root_iff hs (by omega), root_iff hl (show 0 ≤ q ∧ q < (lessR s k).points from ⟨by omega, by show q < s.points; omega⟩)]
      exact ⟨fun h p hp hc => h p hp (up hc), fun h p hp hc => h p hp (down hc)⟩
    omega
  · intro hne
    have ha := root_in hl (show 0 ≤ r.from_ ∧ r.from_ < (lessR s k).points from hr.1)
    have hb := root_in hl (show 0 ≤ r.to_ ∧ r.to_ < (lessR s k).points from hr.2.1)
    have ca : Con s s.readings.length (rtOf (lessR s k) r.from_) r.from_ := up ((con_rt hl (by have : (lessR s k).points = s.points := rfl; omega) (show 0 ≤ r.from_ ∧ r.from_ < (lessR s k).points from hr.1)).2 ha.2)
    have cb : Con s s.readings.length (rtOf (lessR s k) r.to_) r.to_ := up ((con_rt hl (by have : (lessR s k).points = s.points := rfl; omega) (show 0 ≤ r.to_ ∧ r.to_ < (lessR s k).points from hr.2.1)).2 hb.2)
    have cab : Con s s.readings.length (rtOf (lessR s k) r.from_) (rtOf (lessR s k) r.to_) := (ca.trans (edge_of hrm)).trans cb.symm
    have mono : ∀ x ∈ iota s.points.toNat, decide (rtOf s x = x) = true → decide (rtOf (lessR s k) x = x) = true := fun q hq h => by
      have hq' := mem_iota.1 hq
      have h' := (root_iff hs (by omega)).1 (of_decide_eq_true h)
      exact decide_eq_true ((root_iff hl (show 0 ≤ q ∧ q < (lessR s k).points from ⟨by omega, by show q < s.points; omega⟩)).2 fun p hp hc => h' p hp (up hc))
    by_cases hlt : rtOf (lessR s k) r.from_ < rtOf (lessR s k) r.to_
    · refine countP_lt mono (x := rtOf (lessR s k) r.to_) (mem_iota.2 (by omega)) (decide_eq_true hb.2) (decide_eq_false fun h => ?_)
      have := (root_iff hs (by omega)).1 h _ (by omega) cab.symm
      omega
    · refine countP_lt mono (x := rtOf (lessR s k) r.from_) (mem_iota.2 (by omega)) (decide_eq_true ha.2) (decide_eq_false fun h => ?_)
      have := (root_iff hs (by omega)).1 h _ (by omega) cab
      omega
def bridgeB (s : Survey) (k : Int) : Bool := !decide (rtOf (lessR s k) (gr s.readings k.toNat).from_ = rtOf (lessR s k) (gr s.readings k.toNat).to_)
theorem Bridge_0 {s : Survey} (hb : s.readings.length ≤ 1000) {k : Int} (h : readingR s k = 0) : level_IsBridge s k = some (bridgeB s k, 0) ∧ ref01_IsBridge s k = some (bridgeB s k, 0) := by
  obtain ⟨hs, h0, h1⟩ := reading0 h
  have hl := less_ok hs k
  have hx : s.readings[k.toNat]? = some (gr s.readings k.toNat) := gr_at (by omega)
  have hr := gr_ok hs (i := k.toNat) (by omega)
  have hbp := bridge_parts hs (k := k) (by omega)
  have hrl := (rootsOf_ok hl).len
  have hpp : (lessR s k).points = s.points := rfl
  constructor
  · unfold level_IsBridge bridgeB
    rw [bnd_eq (reading_eq hb k), if_pos h, bnd_eq (without_eq h), bnd_eq (parts_eq hl), bnd_eq (parts_eq hs)]
    congr 2
    rw [← decide_not]
    refine decide_eq_decide.2 ?_
    rw [Int.ofNat_lt]
    exact hbp
  · unfold ref01_IsBridge bridgeB
    have xa : (rootsOf (lessR s k))[(gr s.readings k.toNat).from_.toNat]? = some (rtOf (lessR s k) (gr s.readings k.toNat).from_) := gi_at (by omega)
    have xb : (rootsOf (lessR s k))[(gr s.readings k.toNat).to_.toNat]? = some (rtOf (lessR s k) (gr s.readings k.toNat).to_) := gi_at (by omega)
    rw [bnd_eq (numbered_eq hb k), if_pos h, bnd_eq (less_eq h), bnd_eq (whole_eq hl), ix_eq h0 hx, ix_eq hr.1.1 xa, ix_eq h0 hx, ix_eq hr.2.1.1 xb]
theorem Bridge_1 {s : Survey} (hb : s.readings.length ≤ 1000) {k : Int} (h : readingR s k ≠ 0) : level_IsBridge s k = some (false, readingR s k) ∧ ref01_IsBridge s k = some (false, readingR s k) := by
  constructor
  · unfold level_IsBridge
    rw [bnd_eq (reading_eq hb k), if_neg h]
  · unfold ref01_IsBridge
    rw [bnd_eq (numbered_eq hb k), if_neg h]
theorem law_LevelShares (s : Survey) (k : Int) (hb : s.readings.length ≤ 9223372036854775807) : law01_LevelShares s k = some true := by
  unfold law01_LevelShares
  rw [bnd_eq (Long_eq s)]
  by_cases hL : (100 : Int) < (s.readings.length : Int)
  · rw [if_pos (by simpa using hL), bnd_eq known_eq]
  have hl : s.readings.length ≤ 1000 := by omega
  rw [if_neg (by simpa using hL)]
  by_cases h : readingR s k = 0
  · obtain ⟨hs, h0, h1⟩ := reading0 h
    obtain ⟨x, N, D, a1, a2, a3, a4, a5, a6⟩ := Share_0 hl h
    have hbi := bridge_iff hs (k := k) (by omega) a4
    have hD := a4.pos
    have hone : (bridgeB s k == ((x.num == 1) && (x.den == 1))) = true := by
      have e1 : ((x.num == 1) && (x.den == 1)) = true ↔ (gr s.readings k.toNat).weight * N = D := by
        rw [Bool.and_eq_true, beq_iff_eq, beq_iff_eq]
        constructor
        · intro ⟨n1, n2⟩
          have := a3.2
          rw [n1, n2] at this
          omega
        · intro e
          rw [e] at a3
          have := a3.uniq (show D ≠ 0 by omega) (y := ⟨1, 1⟩) ((is_int 1).of_eq (by omega) (by omega))
          rw [this]; exact ⟨rfl, rfl⟩
      have e2 : bridgeB s k = true ↔ (gr s.readings k.toNat).weight * N = D := by
        rw [hbi]; unfold bridgeB; simp
      rw [beq_iff_eq, Bool.eq_iff_iff, e1, e2]
    rw [bnd_eq a1, bnd_eq a2, bnd_eq (Bridge_0 hl h).1, bnd_eq (Bridge_0 hl h).2, if_pos (by simp), if_pos rfl, if_pos (by simp), if_pos rfl, if_pos rfl, if_pos hone, bnd_eq known_eq]
  · rw [bnd_eq (Share_1 hl h).1, bnd_eq (Share_1 hl h).2, bnd_eq (Bridge_1 hl h).1, bnd_eq (Bridge_1 hl h).2, if_pos (by simp), if_pos rfl, if_pos (by simp), if_pos rfl, if_neg h, bnd_eq known_eq]
end Go.D1
