/- Lemmas and walks that the proof of this claim uses: D4p7, D4p8, D4p9, D4pC, D4pH. -/
import Derived.Test.YtihcdffakmnkdaaCutProves5
set_option linter.unusedVariables false
set_option linter.unusedSimpArgs false
namespace Go.D4
open Go.Tb
/-- What is known of an order that has been made so far. -/
structure Led (b : Bog) (out at_ : List Int) : Prop where
  cols : ∀ x ∈ out, inCols b x = true
  all : ∀ j, j < out.length → ordP b out j = true
  to : ordN b out out.length = at_
theorem ordN_pre {b : Bog} {o s : List Int} : ∀ i, i ≤ o.length → ordN b (o ++ s) i = ordN b o i
  | 0, _ => rfl
  | i + 1, h => by
    have ih := ordN_pre (b := b) (o := o) (s := s) i (by omega)
    have e : gi (o ++ s) i = gi o i := by
      have hlt : i < o.length := by omega
      unfold gi
      simp only [List.getD, List.getElem?_append_left hlt]
    show (if openB b (ordN b (o ++ s) i) (gi (o ++ s) i).toNat = true then _ else _) = (if _ then _ else _)
    rw [ih, e]
theorem Led.next {b : Bog} {out at_ : List Int} {c : Nat} (l : Led b out at_) (hc : c < b.worth.length) (hop : openB b at_ c = true) : Led b (out ++ [(c : Int)]) (bump at_ c) := by
  have e : gi (out ++ [(c : Int)]) out.length = (c : Int) := gi_of (by simp)
  have e2 : ordN b (out ++ [(c : Int)]) out.length = at_ := by rw [ordN_pre _ (Nat.le_refl _), l.to]
  refine ⟨fun x hx => ?_, fun j hj => ?_, ?_⟩
  · rcases List.mem_append.1 hx with h | h
    · exact l.cols x h
    · have : x = (c : Int) := by simpa using h
      rw [this]; exact within_iff.2 (by omega)
  · by_cases hjl : j < out.length
    · have h1 := l.all j hjl
      unfold ordP at h1 ⊢
      have e3 : gi (out ++ [(c : Int)]) j = gi out j := by
        unfold gi
        simp only [List.getD, List.getElem?_append_left hjl]
      rw [ordN_pre _ (by omega), e3]; exact h1
    · have : j = out.length := by simp at hj; omega
      subst this
      unfold ordP
      rw [e2, e]; exact hop
  · rw [List.length_append, List.length_singleton]
    show (if openB b (ordN b (out ++ [(c : Int)]) out.length) (gi (out ++ [(c : Int)]) out.length).toNat = true then _ else _) = _
    rw [e2, e]
    have et : ((c : Int)).toNat = c := by omega
    rw [et, if_pos hop]
theorem Led.check {b : Bog} {o h : List Int} (hb : Ok b) (l : Led b o h) (h24 : o.length ≤ 24) : checkR b o = (h, (o.length : Int), 0) := by
  unfold checkR orderR
  rw [if_pos (val0.2 hb), if_neg (by omega), if_pos (List.all_eq_true.2 l.cols)]
  have hf : (List.range' 0 o.length).find? (fun j => !ordP b o j) = none := find_all.2 fun j _ hj => l.all j (by omega)
  rw [hf, l.to]
end Go.D4

set_option linter.unusedVariables false
set_option linter.unusedSimpArgs false
namespace Go.D4
open Go.Tb
def a6 (x : Arr6) : List Int := [x.at0, x.at1, x.at2, x.at3, x.at4, x.at5]
def stepOk (h : List Int) (x : Int) : Bool := match h.getLast? with | none => true | some y => within (x - y) (-1) 1
def specL (d : Nat) : Nat → List (List Int)
  | 0 => [[]]
  | c + 1 => (specL d c).flatMap fun h => (((List.range (d + 1)).map fun (x : Nat) => (x : Int)).filter (stepOk h)).map fun x => h ++ [x]
end Go.D4

set_option linter.unusedVariables false
set_option linter.unusedSimpArgs false
namespace Go.D4
open Go.Tb
section
variable {a b : Bog} (hw : a.worth.length = b.worth.length) (hd : cut_depth a = cut_depth b)
include hw hd
end
theorem mem_spec {d : Nat} : ∀ (c : Nat) (h : List Int), h ∈ specL d c ↔ h.length = c ∧ (∀ x ∈ h, 0 ≤ x ∧ x ≤ (d : Int)) ∧ rightB h = true
  | 0, h => by
    simp only [specL, List.mem_singleton]
    constructor
    · rintro rfl; exact ⟨rfl, by simp, by decide⟩
    · rintro ⟨h1, _, _⟩; exact List.length_eq_zero_iff.1 h1
  | c + 1, h => by
    have ih := mem_spec (d := d) c
    have key : ∀ (g : List Int) (x : Int), g.length = c → (rightB (g ++ [x]) = true ↔ rightB g = true ∧ stepOk g x = true) := fun g x hg => by
      have g1 : ∀ j, j < g.length → gi (g ++ [x]) j = gi g j := fun j hj => by
        unfold gi
        simp only [List.getD, List.getElem?_append_left hj]
      have g2 : gi (g ++ [x]) g.length = x := gi_of (by simp)
      have hs : stepOk g x = true ↔ (1 ≤ g.length → -1 ≤ x - gi g (g.length - 1) ∧ x - gi g (g.length - 1) ≤ 1) := by
        unfold stepOk
        cases hl : g.getLast? with
        | none => have := List.getLast?_eq_none_iff.1 hl; subst this; simp
        | some y =>
          rw [List.getLast?_eq_getElem?] at hl
          have hlt := lt_of_at hl
          rw [gi_of hl]
          simp only [within_iff]
          exact ⟨fun h _ => h, fun h => h (by omega)⟩
      rw [rightB_iff, rightB_iff, hs]
      constructor
      · intro h
        refine ⟨fun j hj h1 => ?_, fun h1 => ?_⟩
        · have := h j (by simp; omega) h1
          rw [g1 j hj, g1 (j - 1) (by omega)] at this; exact this
        · have := h g.length (by simp) h1
          rw [g2, g1 (g.length - 1) (by omega)] at this; exact this
      · rintro ⟨h1, h2⟩ j hj h3
        by_cases e : j = g.length
        · subst e
          rw [g2, g1 (g.length - 1) (by omega)]; exact h2 h3
        · have hj' : j < g.length := by simp at hj; omega
          rw [g1 j hj', g1 (j - 1) (by omega)]; exact h1 j hj' h3
    simp only [specL, List.mem_flatMap, List.mem_map, List.mem_filter, List.mem_range]
    constructor
    · rintro ⟨g, hg, x, ⟨⟨y, hy, rfl⟩, hst⟩, rfl⟩
      obtain ⟨h1, h2, h3⟩ := (ih g).1 hg
      refine ⟨by simp [h1], fun z hz => ?_, (key g _ h1).2 ⟨h3, hst⟩⟩
      rcases List.mem_append.1 hz with h | h
      · exact h2 z h
      · have : z = (y : Int) := by simpa using h
        omega
    · rintro ⟨h1, h2, h3⟩
      have hne : h ≠ [] := by intro e; rw [e] at h1; simp at h1
      have e := List.dropLast_concat_getLast hne
      have hl : h.dropLast.length = c := by simp [h1]
      have hlast := h2 (h.getLast hne) (List.getLast_mem hne)
      rw [← e] at h3
      obtain ⟨k1, k2⟩ := (key _ _ hl).1 h3
      refine ⟨h.dropLast, (ih _).2 ⟨hl, fun z hz => h2 z (by rw [List.dropLast_eq_take] at hz; exact List.mem_of_mem_take hz), k1⟩, h.getLast hne, ⟨⟨(h.getLast hne).toNat, by omega, by omega⟩, k2⟩, e⟩
end Go.D4

set_option linter.unusedVariables false
set_option linter.unusedSimpArgs false
namespace Go.D4
open Go.Tb
def W (b : Bog) (h : List Int) : Int := wsum b h h.length
/-- The right hollows of a bog. -/
def hollows (b : Bog) : List (List Int) := specL (dep b).toNat b.worth.length
theorem mem_hollows {b : Bog} (hb : Ok b) {h : List Int} : h ∈ hollows b ↔ hollowE b h = 0 := by
  have := hb.d1
  unfold hollows
  rw [mem_spec, hollow0, okL_iff, show (((dep b).toNat : Nat) : Int) = dep b by omega]
  exact ⟨fun ⟨h1, h2, h3⟩ => ⟨hb, ⟨h1, h2⟩, h3⟩, fun ⟨_, ⟨h1, h2⟩, h3⟩ => ⟨h1, h2, h3⟩⟩
/-- The best worth and all hollows with it joined, after the first i hollows. -/
def bestN (f : Int → Int → Int) (b : Bog) (hs : List (List Int)) : Nat → List Int × Int
  | 0 => ([], 0)
  | i + 1 =>
    if i = 0 ∨ (bestN f b hs i).2 < W b (hs.getD i []) then (hs.getD i [], W b (hs.getD i []))
    else if W b (hs.getD i []) = (bestN f b hs i).2 then (List.zipWith f (bestN f b hs i).1 (hs.getD i []), (bestN f b hs i).2) else bestN f b hs i
def MM (f : Int → Int → Int) : Prop := (∀ x y, f x y = min x y) ∨ (∀ x y, f x y = max x y)
/-- What is known of it. -/
structure BInv (f : Int → Int → Int) (b : Bog) (hs : List (List Int)) (i : Nat) (s : List Int × Int) : Prop where
  hol : hollowE b s.1 = 0
  w : (∀ h, hollowE b h = 0 → W b h ≤ s.2) → W b s.1 = s.2
  top : ∀ h ∈ hs.take i, W b h ≤ s.2
  all : ∀ h ∈ hs.take i, W b h = s.2 → List.zipWith f s.1 h = s.1
theorem zw_idem {f : Int → Int → Int} (hf : MM f) (x : Int) : f x x = x := by
  rcases hf with h | h <;> rw [h] <;> omega
theorem zw_assoc {f : Int → Int → Int} (hf : MM f) : ∀ a c d : List Int, List.zipWith f (List.zipWith f a c) d = List.zipWith f a (List.zipWith f c d)
  | [], _, _ => by simp
  | _ :: _, [], _ => by simp
  | _ :: _, _ :: _, [] => by simp
  | x :: a, y :: c, z :: d => by
    simp only [List.zipWith_cons_cons, zw_assoc hf a c d]
    congr 1
    rcases hf with h | h <;> simp only [h] <;> omega
theorem zw_comm {f : Int → Int → Int} (hf : MM f) : ∀ a c : List Int, List.zipWith f a c = List.zipWith f c a
  | [], [] => rfl
  | [], _ :: _ => rfl
  | _ :: _, [] => rfl
  | x :: a, y :: c => by
    simp only [List.zipWith_cons_cons, zw_comm hf a c]
    congr 1
    rcases hf with h | h <;> simp only [h] <;> omega
theorem hollow_len {b : Bog} {h : List Int} (h0 : hollowE b h = 0) : h.length = b.worth.length := (okL_iff.1 (hollow0.1 h0).2.1).1
theorem W_mm {b : Bog} {h k : List Int} (h0 : hollowE b h = 0) (k0 : hollowE b k = 0) : W b (List.zipWith min h k) + W b (List.zipWith max h k) = W b h + W b k := by
  have l1 := hollow_len h0
  have l2 := hollow_len k0
  unfold W
  have e1 : (List.zipWith min h k).length = h.length := by simp; omega
  have e2 : (List.zipWith max h k).length = h.length := by simp; omega
  rw [e1, e2, show k.length = h.length by omega]
  exact wsum_mm (by omega) _ (Nat.le_refl _)
theorem binv {f : Int → Int → Int} (hf : MM f) {b : Bog} (hb : Ok b) : ∀ i, i + 1 ≤ (hollows b).length → BInv f b (hollows b) (i + 1) (bestN f b (hollows b) (i + 1))
  | 0, hi => by
    have hx : (hollows b)[0]? = some (hollows b)[0] := by simp
    have e : (hollows b).getD 0 [] = (hollows b)[0] := by simp [List.getD, hx]
    have hm := (mem_hollows hb).1 (List.getElem_mem (l := hollows b) (n := 0) (by omega))
    have e1 : bestN f b (hollows b) 1 = ((hollows b)[0], W b (hollows b)[0]) := by
      show (if 0 = 0 ∨ _ then _ else _) = _
      rw [if_pos (.inl rfl), e]
    have et : (hollows b).take 1 = [(hollows b)[0]] := by rw [List.take_add_one, hx]; rfl
    rw [e1]
    refine ⟨hm, fun _ => rfl, ?_, ?_⟩
    · intro h hh; rw [et] at hh; have := List.mem_singleton.1 hh; subst this; exact Int.le_refl _
    · intro h hh _; rw [et] at hh; have := List.mem_singleton.1 hh; subst this; exact zw_self (zw_idem hf) _
  | i + 1, hi => by
    have ih := binv hf hb i (by omega)
    generalize hs : bestN f b (hollows b) (i + 1) = s at ih
    have hlt : i + 1 < (hollows b).length := by omega
    have hx : (hollows b)[i + 1]? = some (hollows b)[i + 1] := by simp [hlt]
    generalize hk : (hollows b)[i + 1] = k at hx
    have e : (hollows b).getD (i + 1) [] = k := by simp [List.getD, hx]
    have km := (mem_hollows hb).1 (List.mem_of_getElem? hx)
    have et : (hollows b).take (i + 1 + 1) = (hollows b).take (i + 1) ++ [k] := by rw [List.take_add_one, hx]; rfl
    have mem : ∀ h, h ∈ (hollows b).take (i + 1 + 1) → h ∈ (hollows b).take (i + 1) ∨ h = k := fun h hh => by
      rw [et] at hh
      rcases List.mem_append.1 hh with h1 | h1
      · exact .inl h1
      · exact .inr (List.mem_singleton.1 h1)
    show BInv f b (hollows b) (i + 1 + 1) (if i + 1 = 0 ∨ (bestN f b (hollows b) (i + 1)).2 < W b ((hollows b).getD (i + 1) []) then _ else _)
    rw [hs, e]
    by_cases h1 : s.2 < W b k
    · rw [if_pos (.inr h1)]
      refine ⟨km, fun _ => rfl, fun h hh => ?_, fun h hh hw => ?_⟩
      · rcases mem h hh with h2 | rfl
        · have := ih.top h h2; simp only; omega
        · exact Int.le_refl _
      · rcases mem h hh with h2 | rfl
        · have := ih.top h h2; simp only at hw; omega
        · exact zw_self (zw_idem hf) _
    · rw [if_neg (by omega)]
      by_cases h2 : W b k = s.2
      · rw [if_pos h2]
        have hz := hollow_zip (f := f) hf ih.hol km
        have hmm := W_mm ih.hol km
        have m1 := hollow_zip (f := min) (.inl fun _ _ => rfl) ih.hol km
        have m2 := hollow_zip (f := max) (.inr fun _ _ => rfl) ih.hol km
        refine ⟨hz, fun hM => ?_, fun h hh => ?_, fun h hh hw => ?_⟩
        · have w0 := ih.w hM
          have q1 := hM _ m1
          have q2 := hM _ m2
          simp only at q1 q2 ⊢
          rcases hf with hff | hff
          · have e3 : List.zipWith f s.1 k = List.zipWith min s.1 k := by congr 1; funext x y; exact hff x y
            rw [e3]; omega
          · have e3 : List.zipWith f s.1 k = List.zipWith max s.1 k := by congr 1; funext x y; exact hff x y
            rw [e3]; omega
        · rcases mem h hh with h3 | rfl
          · exact ih.top h h3
          · simp only; omega
        · simp only at hw ⊢
          rcases mem h hh with h3 | rfl
          · rw [zw_assoc hf, zw_comm hf k h, ← zw_assoc hf, ih.all h h3 hw]
          · rw [zw_assoc hf, zw_self (zw_idem hf)]
      · rw [if_neg h2]
        refine ⟨ih.hol, ih.w, fun h hh => ?_, fun h hh hw => ?_⟩
        · rcases mem h hh with h3 | rfl
          · exact ih.top h h3
          · omega
        · rcases mem h hh with h3 | rfl
          · exact ih.all h h3 hw
          · exact absurd hw h2
theorem spec_len (d : Nat) : ∀ c, (specL d c).length ≤ (d + 1) ^ c
  | 0 => by simp [specL]
  | c + 1 => by
    have ih := spec_len d c
    have e : ∀ l : List (List Int), (l.flatMap fun h => (((List.range (d + 1)).map fun (x : Nat) => (x : Int)).filter (stepOk h)).map fun x => h ++ [x]).length ≤ l.length * (d + 1) := fun l => by
      induction l with
      | nil => simp
      | cons h r ih =>
        simp only [List.flatMap_cons, List.length_append, List.length_map, List.length_cons]
        have := List.length_filter_le (stepOk h) ((List.range (d + 1)).map fun (x : Nat) => (x : Int))
        simp only [List.length_map, List.length_range] at this
        rw [Nat.succ_mul]; omega
    simp only [specL]
    refine Nat.le_trans (e _) ?_
    rw [Nat.pow_succ]
    exact Nat.mul_le_mul_right _ ih
theorem hollows_len {b : Bog} (hb : Ok b) : (hollows b).length ≤ 15625 ∧ 1 ≤ (hollows b).length := by
  constructor
  · have h1 := spec_len (dep b).toNat b.worth.length
    have h2 : ((dep b).toNat + 1) ^ b.worth.length ≤ 5 ^ b.worth.length := Nat.pow_le_pow_left (by have := hb.d4; omega) _
    have h3 : 5 ^ b.worth.length ≤ 5 ^ 6 := Nat.pow_le_pow_right (by omega) hb.n6
    unfold hollows; omega
  · have h0 : hollowE b (List.replicate b.worth.length 0) = 0 := hollow0.2 ⟨hb, okL_zero hb, rightB_iff.2 fun j hj h1 => by
      have g0 : ∀ c, gi (List.replicate b.worth.length 0) c = 0 := fun c => by
        unfold gi; simp only [List.getD, List.getElem?_replicate]; split <;> rfl
      rw [g0, g0]; omega⟩
    exact List.length_pos_of_mem ((mem_hollows hb).2 h0)
/-- The best hollow: what it is. -/
structure Best (f : Int → Int → Int) (b : Bog) (s : List Int × Int) : Prop where
  hol : hollowE b s.1 = 0
  w : W b s.1 = s.2
  top : ∀ h, hollowE b h = 0 → W b h ≤ s.2
  all : ∀ h, hollowE b h = 0 → W b h = s.2 → List.zipWith f s.1 h = s.1
theorem best_spec {f : Int → Int → Int} (hf : MM f) {b : Bog} (hb : Ok b) : Best f b (bestN f b (hollows b) (hollows b).length) := by
  have ⟨hn1, hn2⟩ := hollows_len hb
  have h := binv hf hb ((hollows b).length - 1) (by omega)
  rw [show (hollows b).length - 1 + 1 = (hollows b).length by omega] at h
  have e : (hollows b).take (hollows b).length = hollows b := List.take_length
  have ht : ∀ k, hollowE b k = 0 → W b k ≤ (bestN f b (hollows b) (hollows b).length).2 := fun k hk => h.top k (by rw [e]; exact (mem_hollows hb).2 hk)
  exact ⟨h.hol, h.w ht, ht, fun k hk hw => h.all k (by rw [e]; exact (mem_hollows hb).2 hk) hw⟩
end Go.D4

set_option linter.unusedVariables false
set_option linter.unusedSimpArgs false
namespace Go.D4
open Go.Tb
def bestR (f : Int → Int → Int) (b : Bog) : List Int × Int × Int := if validate b = 0 then ((bestN f b (hollows b) (hollows b).length).1, (bestN f b (hollows b) (hollows b).length).2, 0) else ([], 0, validate b)
end Go.D4
