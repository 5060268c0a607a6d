/- Lemmas and walks that the proof of this claim uses: D4pC, D4pD, D4pF, D4pG, D4pH. -/
import Derived.Test.YtihcdffakmnkdaaTopHollows5
set_option linter.unusedVariables false
set_option linter.unusedSimpArgs false
namespace Go.D4
open Go.Tb
theorem hollow_list_eq {b : Bog} (hb : Ok b) (x : Arr6) : cut_hollow_list x b = some ((a6 x).take b.worth.length) := by
  have h6 := hb.n6
  have e : Int.toNat (b.worth.length : Int) = b.worth.length := by omega
  unfold cut_hollow_list
  rw [gd_pos (by omega), e, bnd_eq (Clone_eq (by rw [List.length_take]; omega))]; rfl
def W (b : Bog) (h : List Int) : Int := wsum b h h.length
/-- The right hollows of a bog. -/
def hollows (b : Bog) : List (List Int) := specL (dep b).toNat b.worth.length
theorem mem_hollows {b : Bog} (hb : Ok b) {h : List Int} : h ∈ hollows b ↔ hollowE b h = 0 := by
  have := hb.d1
  unfold hollows
  rw [mem_spec, hollow0, okL_iff, show (((dep b).toNat : Nat) : Int) = dep b by omega]
  exact ⟨fun ⟨h1, h2, h3⟩ => ⟨hb, ⟨h1, h2⟩, h3⟩, fun ⟨_, ⟨h1, h2⟩, h3⟩ => ⟨h1, h2, h3⟩⟩
def pad (h : List Int) : List Int := h ++ List.replicate (6 - h.length) 0
theorem all_pad {b : Bog} (hb : Ok b) : ∃ l, cut_all b = some l ∧ l.map a6 = (hollows b).map pad := by
  have ha := agree_all hb.n1 hb.n6 (d := (dep b).toNat) (by have := hb.d1; omega) (by have := hb.d4; omega)
  unfold agree at ha
  rw [← all_shape hb] at ha
  have hp : (hollows b).map pad = (specL (dep b).toNat b.worth.length).map fun h => h ++ List.replicate (6 - b.worth.length) 0 := by
    unfold hollows
    refine List.map_congr_left fun h hh => ?_
    unfold pad
    rw [((mem_spec _ h).1 hh).1]
  cases hl : cut_all b with
  | none => rw [hl] at ha; cases ha
  | some l => rw [hl] at ha; exact ⟨l, rfl, by rw [hp]; simpa using ha⟩
theorem all_eq {b : Bog} (hb : Ok b) : ∃ l, cut_all b = some l ∧ l.map (fun x => (a6 x).take b.worth.length) = hollows b := by
  obtain ⟨l, h1, h2⟩ := all_pad hb
  refine ⟨l, h1, ?_⟩
  have e : l.map (fun x => (a6 x).take b.worth.length) = (l.map a6).map fun h => h.take b.worth.length := by simp
  rw [e, h2, List.map_map]
  have : (hollows b).map ((fun h => h.take b.worth.length) ∘ pad) = (hollows b).map id := List.map_congr_left fun h hh => by
    have := ((mem_spec _ h).1 (show h ∈ specL (dep b).toNat b.worth.length from hh)).1
    simp [pad, ← this]
  rw [this, List.map_id]
/-- The best worth and all hollows with it joined, after the first i hollows. -/
def bestN (f : Int → Int → Int) (b : Bog) (hs : List (List Int)) : Nat → List Int × Int
  | 0 => ([], 0)
  | i + 1 =>
    if i = 0 ∨ (bestN f b hs i).2 < W b (hs.getD i []) then (hs.getD i [], W b (hs.getD i []))
    else if W b (hs.getD i []) = (bestN f b hs i).2 then (List.zipWith f (bestN f b hs i).1 (hs.getD i []), (bestN f b hs i).2) else bestN f b hs i
def MM (f : Int → Int → Int) : Prop := (∀ x y, f x y = min x y) ∨ (∀ x y, f x y = max x y)
/-- What is known of it. -/
structure BInv (f : Int → Int → Int) (b : Bog) (hs : List (List Int)) (i : Nat) (s : List Int × Int) : Prop where
  hol : hollowE b s.1 = 0
  w : (∀ h, hollowE b h = 0 → W b h ≤ s.2) → W b s.1 = s.2
  top : ∀ h ∈ hs.take i, W b h ≤ s.2
  all : ∀ h ∈ hs.take i, W b h = s.2 → List.zipWith f s.1 h = s.1
theorem zw_idem {f : Int → Int → Int} (hf : MM f) (x : Int) : f x x = x := by
  rcases hf with h | h <;> rw [h] <;> omega
theorem zw_assoc {f : Int → Int → Int} (hf : MM f) : ∀ a c d : List Int, List.zipWith f (List.zipWith f a c) d = List.zipWith f a (List.zipWith f c d)
  | [], _, _ => by simp
  | _ :: _, [], _ => by simp
  | _ :: _, _ :: _, [] => by simp
  | x :: a, y :: c, z :: d => by
    simp only [List.zipWith_cons_cons, zw_assoc hf a c d]
    congr 1
    rcases hf with h | h <;> simp only [h] <;> omega
theorem zw_comm {f : Int → Int → Int} (hf : MM f) : ∀ a c : List Int, List.zipWith f a c = List.zipWith f c a
  | [], [] => rfl
  | [], _ :: _ => rfl
  | _ :: _, [] => rfl
  | x :: a, y :: c => by
    simp only [List.zipWith_cons_cons, zw_comm hf a c]
    congr 1
    rcases hf with h | h <;> simp only [h] <;> omega
theorem hollow_len {b : Bog} {h : List Int} (h0 : hollowE b h = 0) : h.length = b.worth.length := (okL_iff.1 (hollow0.1 h0).2.1).1
theorem W_mm {b : Bog} {h k : List Int} (h0 : hollowE b h = 0) (k0 : hollowE b k = 0) : W b (List.zipWith min h k) + W b (List.zipWith max h k) = W b h + W b k := by
  have l1 := hollow_len h0
  have l2 := hollow_len k0
  unfold W
  have e1 : (List.zipWith min h k).length = h.length := by simp; omega
  have e2 : (List.zipWith max h k).length = h.length := by simp; omega
  rw [e1, e2, show k.length = h.length by omega]
  exact wsum_mm (by omega) _ (Nat.le_refl _)
theorem binv {f : Int → Int → Int} (hf : MM f) {b : Bog} (hb : Ok b) : ∀ i, i + 1 ≤ (hollows b).length → BInv f b (hollows b) (i + 1) (bestN f b (hollows b) (i + 1))
  | 0, hi => by
    have hx : (hollows b)[0]? = some (hollows b)[0] := by simp
    have e : (hollows b).getD 0 [] = (hollows b)[0] := by simp [List.getD, hx]
    have hm := (mem_hollows hb).1 (List.getElem_mem (l := hollows b) (n := 0) (by omega))
    have e1 : bestN f b (hollows b) 1 = ((hollows b)[0], W b (hollows b)[0]) := by
      show (if 0 = 0 ∨ _ then _ else _) = _
      rw [if_pos (.inl rfl), e]
    have et : (hollows b).take 1 = [(hollows b)[0]] := by rw [List.take_add_one, hx]; rfl
    rw [e1]
    refine ⟨hm, fun _ => rfl, ?_, ?_⟩
    · intro h hh; rw [et] at hh; have := List.mem_singleton.1 hh; subst this; exact Int.le_refl _
    · intro h hh _; rw [et] at hh; have := List.mem_singleton.1 hh; subst this; exact zw_self (zw_idem hf) _
  | i + 1, hi => by
    have ih := binv hf hb i (by omega)
    generalize hs : bestN f b (hollows b) (i + 1) = s at ih
    have hlt : i + 1 < (hollows b).length := by omega
    have hx : (hollows b)[i + 1]? = some (hollows b)[i + 1] := by simp [hlt]
    generalize hk : (hollows b)[i + 1] = k at hx
    have e : (hollows b).getD (i + 1) [] = k := by simp [List.getD, hx]
    have km := (mem_hollows hb).1 (List.mem_of_getElem? hx)
    have et : (hollows b).take (i + 1 + 1) = (hollows b).take (i + 1) ++ [k] := by rw [List.take_add_one, hx]; rfl
    have mem : ∀ h, h ∈ (hollows b).take (i + 1 + 1) → h ∈ (hollows b).take (i + 1) ∨ h = k := fun h hh => by
      rw [et] at hh
      rcases List.mem_append.1 hh with h1 | h1
      · exact .inl h1
      · exact .inr (List.mem_singleton.1 h1)
    show BInv f b (hollows b) (i + 1 + 1) (if i + 1 = 0 ∨ (bestN f b (hollows b) (i + 1)).2 < W b ((hollows b).getD (i + 1) []) then _ else _)
    rw [hs, e]
    by_cases h1 : s.2 < W b k
    · rw [if_pos (.inr h1)]
      refine ⟨km, fun _ => rfl, fun h hh => ?_, fun h hh hw => ?_⟩
      · rcases mem h hh with h2 | rfl
        · have := ih.top h h2; simp only; omega
        · exact Int.le_refl _
      · rcases mem h hh with h2 | rfl
        · have := ih.top h h2; simp only at hw; omega
        · exact zw_self (zw_idem hf) _
    · rw [if_neg (by omega)]
      by_cases h2 : W b k = s.2
      · rw [if_pos h2]
        have hz := hollow_zip (f := f) hf ih.hol km
        have hmm := W_mm ih.hol km
        have m1 := hollow_zip (f := min) (.inl fun _ _ => rfl) ih.hol km
        have m2 := hollow_zip (f := max) (.inr fun _ _ => rfl) ih.hol km
        refine ⟨hz, fun hM => ?_, fun h hh => ?_, fun h hh hw => ?_⟩
        · have w0 := ih.w hM
          have q1 := hM _ m1
          have q2 := hM _ m2
          simp only at q1 q2 ⊢
          rcases hf with hff | hff
          · have e3 : List.zipWith f s.1 k = List.zipWith min s.1 k := by congr 1; funext x y; exact hff x y
            rw [e3]; omega
          · have e3 : List.zipWith f s.1 k = List.zipWith max s.1 k := by congr 1; funext x y; exact hff x y
            rw [e3]; omega
        · rcases mem h hh with h3 | rfl
          · exact ih.top h h3
          · simp only; omega
        · simp only at hw ⊢
          rcases mem h hh with h3 | rfl
          · rw [zw_assoc hf, zw_comm hf k h, ← zw_assoc hf, ih.all h h3 hw]
          · rw [zw_assoc hf, zw_self (zw_idem hf)]
      · rw [if_neg h2]
        refine ⟨ih.hol, ih.w, fun h hh => ?_, fun h hh hw => ?_⟩
        · rcases mem h hh with h3 | rfl
          · exact ih.top h h3
          · omega
        · rcases mem h hh with h3 | rfl
          · exact ih.all h h3 hw
          · exact absurd hw h2
theorem ix6 {R : Type} (x : Arr6) {k : Int → Int → Int → Int → Int → Int → Option R} :
    (gd ((([x.at0, x.at1, x.at2, x.at3, x.at4, x.at5] : List Int)).length = 6) <|
    ix (([x.at0, x.at1, x.at2, x.at3, x.at4, x.at5] : List Int)) 0 fun x2 =>
    ix (([x.at0, x.at1, x.at2, x.at3, x.at4, x.at5] : List Int)) 1 fun x3 =>
    ix (([x.at0, x.at1, x.at2, x.at3, x.at4, x.at5] : List Int)) 2 fun x4 =>
    ix (([x.at0, x.at1, x.at2, x.at3, x.at4, x.at5] : List Int)) 3 fun x5 =>
    ix (([x.at0, x.at1, x.at2, x.at3, x.at4, x.at5] : List Int)) 4 fun x6 =>
    ix (([x.at0, x.at1, x.at2, x.at3, x.at4, x.at5] : List Int)) 5 fun x7 => k x2 x3 x4 x5 x6 x7) = k x.at0 x.at1 x.at2 x.at3 x.at4 x.at5 := by
  rw [gd_pos (by simp), ix_eq (i := 0) (by decide) rfl, ix_eq (i := 1) (by decide) rfl, ix_eq (i := 2) (by decide) rfl, ix_eq (i := 3) (by decide) rfl, ix_eq (i := 4) (by decide) rfl, ix_eq (i := 5) (by decide) rfl]
theorem spec_len (d : Nat) : ∀ c, (specL d c).length ≤ (d + 1) ^ c
  | 0 => by simp [specL]
  | c + 1 => by
    have ih := spec_len d c
    have e : ∀ l : List (List Int), (l.flatMap fun h => (((List.range (d + 1)).map fun (x : Nat) => (x : Int)).filter (stepOk h)).map fun x => h ++ [x]).length ≤ l.length * (d + 1) := fun l => by
      induction l with
      | nil => simp
      | cons h r ih =>
        simp only [List.flatMap_cons, List.length_append, List.length_map, List.length_cons]
        have := List.length_filter_le (stepOk h) ((List.range (d + 1)).map fun (x : Nat) => (x : Int))
        simp only [List.length_map, List.length_range] at this
        rw [Nat.succ_mul]; omega
    simp only [specL]
    refine Nat.le_trans (e _) ?_
    rw [Nat.pow_succ]
    exact Nat.mul_le_mul_right _ ih
theorem hollows_len {b : Bog} (hb : Ok b) : (hollows b).length ≤ 15625 ∧ 1 ≤ (hollows b).length := by
  constructor
  · have h1 := spec_len (dep b).toNat b.worth.length
    have h2 : ((dep b).toNat + 1) ^ b.worth.length ≤ 5 ^ b.worth.length := Nat.pow_le_pow_left (by have := hb.d4; omega) _
    have h3 : 5 ^ b.worth.length ≤ 5 ^ 6 := Nat.pow_le_pow_right (by omega) hb.n6
    unfold hollows; omega
  · have h0 : hollowE b (List.replicate b.worth.length 0) = 0 := hollow0.2 ⟨hb, okL_zero hb, rightB_iff.2 fun j hj h1 => by
      have g0 : ∀ c, gi (List.replicate b.worth.length 0) c = 0 := fun c => by
        unfold gi; simp only [List.getD, List.getElem?_replicate]; split <;> rfl
      rw [g0, g0]; omega⟩
    exact List.length_pos_of_mem ((mem_hollows hb).2 h0)
theorem best_eq {f : Int → Int → Int} (hf : MM f) {F : Int → Int → Option Int} (hF : ∀ x y, F x y = some (f x y)) {b : Bog} (hb : Ok b) : cut_best b F = some (bestN f b (hollows b) (hollows b).length) := by
  obtain ⟨l, hl, hm⟩ := all_eq hb
  have ⟨hn1, hn2⟩ := hollows_len hb
  have hll : l.length = (hollows b).length := by rw [← hm]; simp
  unfold cut_best
  rw [bnd_eq hl]
  refine Eq.trans (for0 l.length (bestN f b (hollows b)) (fun n s i => cut_best_L1 b F l n s.2 i s.1) (some (bestN f b (hollows b) (hollows b).length)) rfl (fun n i hi => ?_) (fun n => ?_) (by omega)) rfl
  · have hx : l[i]? = some l[i] := by simp [hi]
    have hk : (hollows b)[i]? = some ((a6 l[i]).take b.worth.length) := by rw [← hm, List.getElem?_map, hx]; rfl
    generalize he : (a6 l[i]).take b.worth.length = k at hk
    have km := (mem_hollows hb).1 (List.mem_of_getElem? hk)
    have e : (hollows b).getD i [] = k := by simp [List.getD, hk]
    have wk : cut_worth b k = some (W b k) := worth_eq hb (hollow0.1 km).2.1
    show cut_best_B1 b F l (cut_best_L1 b F l n) _ _ _ = _
    unfold cut_best_B1
    rw [if_pos (by omega), ix_nat hx, ix6, bnd_eq (hollow_list_eq hb _)]
    have e6 : List.take b.worth.length (a6 ⟨l[i].at0, l[i].at1, l[i].at2, l[i].at3, l[i].at4, l[i].at5⟩) = k := he
    rw [e6, bnd_eq wk]
    have e1 : bestN f b (hollows b) (i + 1) = (if i = 0 ∨ (bestN f b (hollows b) i).2 < W b k then (k, W b k) else if W b k = (bestN f b (hollows b) i).2 then (List.zipWith f (bestN f b (hollows b) i).1 k, (bestN f b (hollows b) i).2) else bestN f b (hollows b) i) := by
      rw [← e]; rfl
    by_cases h0 : i = 0
    · rw [e1.trans (if_pos (.inl h0))]
      subst h0
      rw [if_pos (by rfl)]
      unfold cut_best_k3 cut_best_k2
      rw [if_pos rfl, gd_pos (by omega)]; rfl
    · rw [if_neg (by omega)]
      unfold cut_best_k3 cut_best_k2
      by_cases h1 : (bestN f b (hollows b) i).2 < W b k
      · rw [e1.trans (if_pos (.inr h1)), if_pos (by simp [h1]), gd_pos (by omega)]; rfl
      · have e2 := e1.trans (if_neg (not_or.2 ⟨h0, h1⟩))
        rw [if_neg (by simp [h1])]
        by_cases h2 : W b k = (bestN f b (hollows b) i).2
        · have ih : BInv f b (hollows b) (i - 1 + 1) (bestN f b (hollows b) (i - 1 + 1)) := binv hf hb (i - 1) (by omega)
          rw [show i - 1 + 1 = i by omega] at ih
          have := hollow_len ih.hol; have := hollow_len km; have := hb.n6
          rw [e2.trans (if_pos h2), if_pos h2, bnd_eq (joined_eq hF (by omega) (by omega)), gd_pos (by omega)]; rfl
        · rw [e2.trans (if_neg h2), if_neg h2, gd_pos (by omega)]; rfl
  · show cut_best_B1 b F l (cut_best_L1 b F l n) _ _ _ = _
    unfold cut_best_B1
    rw [if_neg (by omega), hll]; rfl
/-- The best hollow: what it is. -/
structure Best (f : Int → Int → Int) (b : Bog) (s : List Int × Int) : Prop where
  hol : hollowE b s.1 = 0
  w : W b s.1 = s.2
  top : ∀ h, hollowE b h = 0 → W b h ≤ s.2
  all : ∀ h, hollowE b h = 0 → W b h = s.2 → List.zipWith f s.1 h = s.1
theorem best_spec {f : Int → Int → Int} (hf : MM f) {b : Bog} (hb : Ok b) : Best f b (bestN f b (hollows b) (hollows b).length) := by
  have ⟨hn1, hn2⟩ := hollows_len hb
  have h := binv hf hb ((hollows b).length - 1) (by omega)
  rw [show (hollows b).length - 1 + 1 = (hollows b).length by omega] at h
  have e : (hollows b).take (hollows b).length = hollows b := List.take_length
  have ht : ∀ k, hollowE b k = 0 → W b k ≤ (bestN f b (hollows b) (hollows b).length).2 := fun k hk => h.top k (by rw [e]; exact (mem_hollows hb).2 hk)
  exact ⟨h.hol, h.w ht, ht, fun k hk hw => h.all k (by rw [e]; exact (mem_hollows hb).2 hk) hw⟩
end Go.D4

set_option linter.unusedVariables false
set_option linter.unusedSimpArgs false
namespace Go.D4
open Go.Tb
def tollC (by_ : Int) (c : List Int) : List Int := c.map fun w => w - by_
def tollB (b : Bog) (by_ : Int) : Bog := ⟨b.worth.map (tollC by_)⟩
def tollR (b : Bog) (by_ : Int) : Bog × Int :=
  if validate b = 0 then (if within by_ (-50) 50 = true then (if validate (tollB b by_) = 0 then (tollB b by_, 0) else (⟨[]⟩, 3)) else (⟨[]⟩, 1)) else (⟨[]⟩, validate b)
theorem toll_short {b : Bog} (hs : Short b) (by_ : Int) : Short (tollB b by_) :=
  ⟨by simpa [tollB] using hs.1, fun c hc => by
    simp only [tollB, List.mem_map] at hc
    obtain ⟨d, hd, rfl⟩ := hc
    simpa [tollC] using hs.2 d hd⟩
theorem Toll_eq {b : Bog} (hs : Short b) (by_ : Int) : cut_Toll b by_ = some (tollR b by_) := by
  unfold cut_Toll tollR
  rw [bnd_eq (Validate_eq hs)]
  by_cases hv : validate b = 0
  · have hb := val0.1 hv
    have h6 := hb.n6
    have hd4 := hb.d4
    rw [if_pos hv, if_pos hv, bnd_eq (from_eq _ _ _)]
    cases hw : within by_ (-50) 50
    · rfl
    · have hw' := within_iff.1 hw
      simp only [if_true]
      refine Eq.trans (for0 b.worth.length (fun i => (b.worth.take i).map (tollC by_)) (fun n s i => cut_Toll_L2 b by_ n i s) (some (if validate (tollB b by_) = 0 then (tollB b by_, 0) else (⟨[]⟩, 3))) (by simp) (fun n i hi => ?_) (fun n => ?_) (by omega)) rfl
      · have hx : b.worth[i]? = some b.worth[i] := by simp [hi]
        generalize hg : b.worth[i] = x at hx
        have hc := hb.col x (List.mem_of_getElem? hx)
        show cut_Toll_B2 b by_ (cut_Toll_L2 b by_ n) _ _ = _
        unfold cut_Toll_B2
        rw [if_pos (by omega), ix_nat hx]
        refine Eq.trans (for0 x.length (fun j => tollC by_ (x.take j)) (fun m s j => cut_Toll_L1 by_ i ((b.worth.take i).map (tollC by_)) (cut_Toll_L2 b by_ n) x m j s) (cut_Toll_L2 b by_ n ((i + 1 : Nat) : Int) ((b.worth.take (i + 1)).map (tollC by_))) (by simp [tollC]) (fun m j hj => ?_) (fun m => ?_) (by omega)) rfl
        · have hy : x[j]? = some x[j] := by simp [hj]
          have hwb := hc.2 x[j] (List.getElem_mem _)
          have e : tollC by_ (x.take (j + 1)) = tollC by_ (x.take j) ++ [x[j] - by_] := by
            unfold tollC; rw [List.take_add_one, hy, List.map_append]; rfl
          have hl : (tollC by_ (x.take j)).length ≤ 4 := by simp [tollC]; omega
          show cut_Toll_B1 by_ i _ (cut_Toll_L2 b by_ n) x (cut_Toll_L1 by_ i _ (cut_Toll_L2 b by_ n) x m) _ _ = _
          unfold cut_Toll_B1
          rw [if_pos (by omega), ix_nat hy, gd_pos (by omega), gd_pos (by simp; omega), gd_pos (by omega), e]; rfl
        · show cut_Toll_B1 by_ i _ (cut_Toll_L2 b by_ n) x (cut_Toll_L1 by_ i _ (cut_Toll_L2 b by_ n) x m) _ _ = _
          have e : (b.worth.take (i + 1)).map (tollC by_) = (b.worth.take i).map (tollC by_) ++ [tollC by_ x] := by
            rw [List.take_add_one, hx, List.map_append]; rfl
          unfold cut_Toll_B1
          rw [if_neg (by omega)]
          unfold cut_Toll_k3 cut_Toll_k2
          rw [gd_pos (by simp; omega), gd_pos (by omega), List.take_length, e]; rfl
      · show cut_Toll_B2 b by_ (cut_Toll_L2 b by_ n) _ _ = _
        unfold cut_Toll_B2
        rw [if_neg (by omega)]
        unfold cut_Toll_k1
        rw [List.take_length, bnd_eq (Validate_eq (b := ⟨b.worth.map (tollC by_)⟩) (toll_short hs by_))]
        show (if validate (tollB b by_) = 0 then _ else _) = _
        by_cases h : validate (tollB b by_) = 0
        · rw [if_pos h, if_pos h]; rfl
        · rw [if_neg h, if_neg h]
  · rw [if_neg hv, if_neg hv]
end Go.D4

set_option linter.unusedVariables false
set_option linter.unusedSimpArgs false
namespace Go.D4
open Go.Tb
theorem toll_dep {b : Bog} (t : Int) (hb : Ok b) : dep (tollB b t) = dep b ∧ (tollB b t).worth.length = b.worth.length := by
  have hx : b.worth[0]? = some (b.worth[0]'(by have := hb.n1; omega)) := List.getElem?_eq_getElem _
  refine ⟨?_, by simp [tollB]⟩
  unfold dep tollB
  rw [List.getElem?_map, hx]; simp [tollC]
theorem hollow_toll {b : Bog} {t : Int} (hb : Ok b) (ht : Ok (tollB b t)) {h : List Int} : hollowE (tollB b t) h = 0 ↔ hollowE b h = 0 := by
  have ⟨h1, h2⟩ := toll_dep t hb
  rw [hollow0, hollow0, okL_iff, okL_iff, h1, h2]
  exact ⟨fun ⟨_, a, c⟩ => ⟨hb, a, c⟩, fun ⟨_, a, c⟩ => ⟨ht, a, c⟩⟩
theorem isum_toll (t : Int) : ∀ c : List Int, isum (tollC t c) = isum c - t * (c.length : Int)
  | [] => by simp [tollC, isum]
  | x :: r => by
    have ih := isum_toll t r
    simp only [tollC] at ih
    simp only [tollC, List.map_cons, isum, List.length_cons, ih]
    have : t * ((r.length + 1 : Nat) : Int) = t * (r.length : Int) + t := by rw [Int.natCast_add, Int.mul_add]; simp
    omega
theorem colW_toll {b : Bog} {t : Int} {c : Nat} {x : List Int} (hx : b.worth[c]? = some x) {n : Int} (h0 : 0 ≤ n) (h1 : n ≤ (x.length : Int)) : colW (tollB b t) c n = colW b c n - t * n := by
  have e : (tollB b t).worth[c]? = some (tollC t x) := by unfold tollB; rw [List.getElem?_map, hx]; rfl
  have e2 : (tollC t x).take n.toNat = tollC t (x.take n.toNat) := by unfold tollC; rw [List.map_take]
  have e3 : ((x.take n.toNat).length : Int) = n := by rw [List.length_take]; omega
  rw [col_of e, col_of hx, e2, isum_toll, e3]
theorem isum_gi {h : List Int} {i : Nat} (hi : i < h.length) : isum (h.take (i + 1)) = isum (h.take i) + gi h i := isum_take (gi_at hi)
theorem W_toll {b : Bog} {t : Int} {h : List Int} (h0 : hollowE b h = 0) : W (tollB b t) h = W b h - t * isum h := by
  have ⟨hb, ho, _⟩ := hollow0.1 h0
  have ⟨hl, hx⟩ := okL_iff.1 ho
  have key : ∀ i, i ≤ h.length → wsum (tollB b t) h i = wsum b h i - t * isum (h.take i) := fun i => by
    induction i with
    | zero => intro _; simp [wsum, isum]
    | succ i ih =>
      intro hi
      have ih := ih (by omega)
      have hc : b.worth[i]? = some (b.worth[i]'(by omega)) := List.getElem?_eq_getElem _
      have hcl := (hb.col (b.worth[i]'(by omega)) (List.getElem_mem _)).1
      have hg := hx _ (gi_mem (h := h) (c := i) (by omega))
      have := colW_toll (t := t) hc hg.1 (by omega)
      simp only [wsum]
      rw [ih, this, isum_gi (by omega), Int.mul_add]; omega
  unfold W
  rw [key _ (Nat.le_refl _), List.take_length]
end Go.D4

set_option linter.unusedVariables false
set_option linter.unusedSimpArgs false
namespace Go.D4
open Go.Tb
theorem isum_zip' {f : Int → Int → Int} {h k : List Int} (hl : k.length = h.length) : (∀ x y, y ≤ f x y) → isum k ≤ isum (List.zipWith f h k) := fun hf =>
  (isum_le (by simp; omega) fun c hc => by
    have hc' : c < h.length := by simp at hc; omega
    rw [zw_gi hl hc']; exact hf _ _).1
theorem tolls_most {b : Bog} {t : Int} (hb : Ok b) (ht : Ok (tollB b t)) (h0 : 0 ≤ t) {su sv : List Int × Int} (U : Best max (tollB b t) su) (V : Best max b sv) : ∀ j, j < su.1.length → gi su.1 j ≤ gi sv.1 j := by
  have ub := (hollow_toll hb ht).1 U.hol
  have hl : sv.1.length = su.1.length := by rw [hollow_len V.hol, hollow_len ub]
  have hp := hollow_zip (f := min) (.inl fun _ _ => rfl) ub V.hol
  have hq := hollow_zip (f := max) (.inr fun _ _ => rfl) ub V.hol
  have hmm := W_mm U.hol ((hollow_toll hb ht).2 V.hol)
  have p1 := U.top _ ((hollow_toll hb ht).2 hp)
  have uw := U.w
  have i1 := isum_zip' (f := max) hl (fun x y => by omega)
  have wq := W_toll (t := t) hq
  have wv := W_toll (t := t) V.hol
  have e1 : t * isum sv.1 ≤ t * isum (List.zipWith max su.1 sv.1) := Int.mul_le_mul_of_nonneg_left i1 h0
  have q1 := V.top _ hq
  have vw := V.w
  have hall := V.all _ hq (by omega)
  rw [zw_comm (.inr fun _ _ => rfl), zw_assoc (.inr fun _ _ => rfl), zw_self (fun x => by omega)] at hall
  intro j hj
  have := zw_gi (f := max) hl hj
  rw [hall] at this; omega
end Go.D4

set_option linter.unusedVariables false
set_option linter.unusedSimpArgs false
namespace Go.D4
open Go.Tb
def bestR (f : Int → Int → Int) (b : Bog) : List Int × Int × Int := if validate b = 0 then ((bestN f b (hollows b) (hollows b).length).1, (bestN f b (hollows b) (hollows b).length).2, 0) else ([], 0, validate b)
theorem Best_eq {b : Bog} (hs : Short b) : cut_Best b = some (bestR min b) := by
  unfold cut_Best bestR
  rw [bnd_eq (Validate_eq hs)]
  by_cases hv : validate b = 0
  · rw [if_pos hv, if_pos hv, bnd_eq (best_eq (.inl fun _ _ => rfl) smaller_eq (val0.1 hv))]
  · rw [if_neg hv, if_neg hv]
theorem Deepest_eq {b : Bog} (hs : Short b) : cut_Deepest b = some (bestR max b) := by
  unfold cut_Deepest bestR
  rw [bnd_eq (Validate_eq hs)]
  by_cases hv : validate b = 0
  · rw [if_pos hv, if_pos hv, bnd_eq (best_eq (.inr fun _ _ => rfl) greater_eq (val0.1 hv))]
  · rw [if_neg hv, if_neg hv]
theorem tollR_ok {b : Bog} {t : Int} (h : (tollR b t).2 = 0) : Ok b ∧ Ok (tollB b t) ∧ tollR b t = (tollB b t, 0) := by
  unfold tollR at h ⊢
  split at h
  · rename_i hv
    split at h
    · rename_i hw
      split at h
      · rename_i hv2
        rw [if_pos hv, if_pos hw, if_pos hv2]
        exact ⟨val0.1 hv, val0.1 hv2, rfl⟩
      · cases h
    · cases h
  · rename_i hv; exact absurd h hv
end Go.D4
