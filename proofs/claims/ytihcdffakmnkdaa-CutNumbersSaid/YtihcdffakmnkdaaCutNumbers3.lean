/- Lemmas and walks that the proof of this claim uses: D4q5. -/
import Derived.Test.YtihcdffakmnkdaaCutNumbers2
set_option linter.unusedVariables false
set_option linter.unusedSimpArgs false
namespace Go.D4
open Go.Tb
def Lex (h k : List Int) : Prop := ∃ c, c < h.length ∧ c < k.length ∧ (∀ j, j < c → gi h j = gi k j) ∧ gi h c < gi k c
theorem gi_snoc {g : List Int} {x : Int} {j : Nat} (hj : j < g.length) : gi (g ++ [x]) j = gi g j := by
  unfold gi
  simp only [List.getD, List.getElem?_append_left hj]
theorem gi_last {g : List Int} {x : Int} : gi (g ++ [x]) g.length = x := gi_of (by simp)
theorem Lex.snoc {h k : List Int} (l : Lex h k) (x y : Int) : Lex (h ++ [x]) (k ++ [y]) := by
  obtain ⟨c, h1, h2, h3, h4⟩ := l
  exact ⟨c, by simp; omega, by simp; omega, fun j hj => by rw [gi_snoc (by omega), gi_snoc (by omega)]; exact h3 j hj, by rw [gi_snoc h1, gi_snoc h2]; exact h4⟩
theorem rowx_lex (h : List Int) (d : Nat) : (rowx h d).Pairwise Lex := by
  unfold rowx
  rw [List.pairwise_map]
  refine List.Pairwise.filter _ ?_
  rw [List.pairwise_map]
  refine List.pairwise_lt_range.imp fun {a b} hab => ⟨h.length, by simp, by simp, fun j hj => by rw [gi_snoc hj, gi_snoc hj], ?_⟩
  rw [gi_last, gi_last]; omega
theorem rowx_mem {h q : List Int} {d : Nat} (hq : q ∈ rowx h d) : ∃ x, q = h ++ [x] := by
  unfold rowx at hq
  obtain ⟨x, _, rfl⟩ := List.mem_map.1 hq
  exact ⟨x, rfl⟩
theorem specL_lex (d : Nat) : ∀ c, (specL d c).Pairwise Lex
  | 0 => by simp [specL]
  | c + 1 => by
    have ih := specL_lex d c
    have e : specL d (c + 1) = (specL d c).flatMap fun h => rowx h (d + 1) := rfl
    rw [e, List.pairwise_flatMap]
    refine ⟨fun h _ => rowx_lex h _, ih.imp fun {a b} hab x hx y hy => ?_⟩
    obtain ⟨p, rfl⟩ := rowx_mem hx
    obtain ⟨q, rfl⟩ := rowx_mem hy
    exact hab.snoc p q
theorem Lex.ne {h k : List Int} (l : Lex h k) : h ≠ k := by
  rintro rfl
  obtain ⟨c, _, _, _, h4⟩ := l
  omega
theorem hollows_at {b : Bog} {i j : Nat} {h k : List Int} (hi : (hollows b)[i]? = some h) (hj : (hollows b)[j]? = some k) (hij : i < j) : Lex h k := by
  have hp : (hollows b).Pairwise Lex := specL_lex _ _
  have h1 := lt_of_at hi
  have h2 := lt_of_at hj
  have := (List.pairwise_iff_getElem.1 hp) i j h1 h2 hij
  rw [List.getElem?_eq_getElem h1] at hi
  rw [List.getElem?_eq_getElem h2] at hj
  rw [Option.some.inj hi, Option.some.inj hj] at this
  exact this
theorem eq6 {x y : Arr6} : eqArr6 x y = true ↔ x = y := by
  cases x; cases y; simp [eqArr6, and_assoc]
theorem a6_inj {x y : Arr6} (h : a6 x = a6 y) : x = y := by
  cases x; cases y; simp [a6] at h; simp [h]
def rkF : List Arr6 → Int → List (Arr6 × Int)
  | [], _ => []
  | x :: r, s => (x, s) :: rkF r (s + 1)
theorem rkF_snoc (x : Arr6) : ∀ (l : List Arr6) (s : Int), rkF (l ++ [x]) s = rkF l s ++ [(x, s + (l.length : Int))]
  | [], s => by simp [rkF]
  | y :: r, s => by
    have ih := rkF_snoc x r (s + 1)
    simp only [List.cons_append, rkF, ih, List.length_cons]
    congr 4; omega
theorem rkF_key : ∀ (l : List Arr6) (s : Int) (p : Arr6 × Int), p ∈ rkF l s → p.1 ∈ l
  | [], s, p, h => by simp [rkF] at h
  | y :: r, s, p, h => by
    rcases List.mem_cons.1 h with rfl | h
    · exact List.mem_cons_self ..
    · exact List.mem_cons_of_mem _ (rkF_key r (s + 1) p h)
theorem mset_new {x : Arr6} {v : Int} : ∀ m : List (Arr6 × Int), (∀ p ∈ m, p.1 ≠ x) → mset eqArr6 m x v = m ++ [(x, v)]
  | [], _ => rfl
  | p :: r, h => by
    have h1 : ¬ eqArr6 x p.1 = true := fun e => h p (List.mem_cons_self ..) (eq6.1 e).symm
    simp only [mset, if_neg h1, mset_new r (fun q hq => h q (List.mem_cons_of_mem _ hq)), List.cons_append]
theorem mget_at {x : Arr6} : ∀ (l : List Arr6) (s : Int) (i : Nat), l[i]? = some x → (∀ j y, j < i → l[j]? = some y → y ≠ x) → mget eqArr6 (rkF l s) x = some (s + (i : Int))
  | [], s, i, h, _ => by simp at h
  | y :: r, s, 0, h, _ => by
    simp at h; subst h
    simp [rkF, mget, eq6]
  | y :: r, s, i + 1, h, hn => by
    have h1 : ¬ eqArr6 x y = true := fun e => hn 0 y (by omega) rfl (eq6.1 e).symm
    have ih := mget_at r (s + 1) i (by simpa using h) (fun j z hj hz => hn (j + 1) z (by omega) (by simpa using hz))
    simp only [rkF, mget, if_neg h1, ih]
    congr 1; omega
theorem ranks_eq {b : Bog} {l : List Arr6} (hl : cut_all b = some l) (hn : l.length ≤ 1000000) (nd : ∀ (i j : Nat) (x y : Arr6), i < j → l[i]? = some x → l[j]? = some y → x ≠ y) : cut_ranks b = some (rkF l 0) := by
  unfold cut_ranks
  rw [bnd_eq hl]
  refine Eq.trans (for0 l.length (fun i => rkF (l.take i) 0) (fun n s i => cut_ranks_L1 l n i s) (some (rkF l 0)) rfl (fun n i hi => ?_) (fun n => ?_) (by omega)) rfl
  · have hx : l[i]? = some l[i] := by simp [hi]
    show cut_ranks_B1 l (cut_ranks_L1 l n) _ _ = _
    unfold cut_ranks_B1
    rw [if_pos (by omega), ix_nat hx, ix6, gd_pos (by omega)]
    have e : mset eqArr6 (rkF (l.take i) 0) (⟨l[i].at0, l[i].at1, l[i].at2, l[i].at3, l[i].at4, l[i].at5⟩ : Arr6) (i : Int) = rkF (l.take (i + 1)) 0 := by
      rw [mset_new _ (fun p hp => ?_), List.take_add_one, hx]
      · rw [show (some l[i]).toList = [l[i]] from rfl, rkF_snoc]
        have : (l.take i).length = i := by rw [List.length_take]; omega
        rw [this, Int.zero_add]
      · have hm := rkF_key _ _ p hp
        obtain ⟨j, hj⟩ := List.getElem?_of_mem hm
        have hlt := lt_of_at hj
        rw [List.length_take] at hlt
        rw [List.getElem?_take_of_lt (by omega)] at hj
        exact nd j i _ _ (by omega) hj hx
    rw [e]; rfl
  · show cut_ranks_B1 l (cut_ranks_L1 l n) _ _ = _
    unfold cut_ranks_B1
    rw [if_neg (by omega), List.take_length]; rfl
def arrOf (l : List Int) : Arr6 := ⟨gi l 0, gi l 1, gi l 2, gi l 3, gi l 4, gi l 5⟩
theorem a6_arrOf {l : List Int} (h : l.length = 6) : a6 (arrOf l) = l := by
  match l, h with
  | [a, b, c, d, e, f], _ => rfl
theorem of_eq {h : List Int} (hl : h.length ≤ 6) : cut_of h = some (arrOf (pad h)) := by
  have hp : (pad h).length = 6 := by unfold pad; simp; omega
  have e : List.take (([0, 0, 0, 0, 0, 0] : List Int)).length h ++ List.drop h.length (([0, 0, 0, 0, 0, 0] : List Int)) = pad h := by
    unfold pad
    rw [List.take_of_length_le (by simpa using hl)]
    congr 1
    have : ([0, 0, 0, 0, 0, 0] : List Int) = List.replicate 6 0 := rfl
    rw [this, List.drop_replicate]
  unfold cut_of
  rw [e, gd_pos hp]
  have g : ∀ i, i < 6 → (pad h)[i]? = some (gi (pad h) i) := fun i hi => gi_at (by omega)
  have s := ix6 (arrOf (pad h)) (k := fun a b c d e f => some (⟨a, b, c, d, e, f⟩ : Arr6))
  refine Eq.trans ?_ s
  rw [show (0 : Int) = ((0 : Nat) : Int) from rfl, show (1 : Int) = ((1 : Nat) : Int) from rfl, show (2 : Int) = ((2 : Nat) : Int) from rfl, show (3 : Int) = ((3 : Nat) : Int) from rfl, show (4 : Int) = ((4 : Nat) : Int) from rfl, show (5 : Int) = ((5 : Nat) : Int) from rfl]
  rw [ix_nat (g 0 (by omega)), ix_nat (g 1 (by omega)), ix_nat (g 2 (by omega)), ix_nat (g 3 (by omega)), ix_nat (g 4 (by omega)), ix_nat (g 5 (by omega))]
  rfl
/-- The list of arrays, and the hollows. -/
theorem arrs {b : Bog} (hb : Ok b) : ∃ l, cut_all b = some l ∧ l.length = (hollows b).length ∧ (∀ (i : Nat) (h : List Int), (hollows b)[i]? = some h → l[i]? = some (arrOf (pad h))) ∧ (∀ (i j : Nat) (x y : Arr6), i < j → l[i]? = some x → l[j]? = some y → x ≠ y) := by
  obtain ⟨l, hl, hm⟩ := all_pad hb
  have hlen : l.length = (hollows b).length := by have := congrArg List.length hm; simpa using this
  have hpl : ∀ h ∈ hollows b, (pad h).length = 6 := fun h hh => by
    have := hollow_len ((mem_hollows hb).1 hh); have := hb.n6
    unfold pad; simp; omega
  have hat : ∀ (i : Nat) (h : List Int), (hollows b)[i]? = some h → l[i]? = some (arrOf (pad h)) := fun i h hi => by
    have hlt : i < l.length := by have := lt_of_at hi; omega
    have e : (l.map a6)[i]? = some (pad h) := by rw [hm, List.getElem?_map, hi]; rfl
    rw [List.getElem?_map, List.getElem?_eq_getElem hlt] at e
    have e2 : a6 l[i] = pad h := Option.some.inj e
    rw [List.getElem?_eq_getElem hlt]
    congr 1
    exact a6_inj (by rw [e2, a6_arrOf (hpl h (List.mem_of_getElem? hi))])
  refine ⟨l, hl, hlen, hat, fun i j x y hij hx hy => ?_⟩
  have h1 := lt_of_at hx
  have h2 := lt_of_at hy
  have g1 : (hollows b)[i]? = some ((hollows b)[i]'(by omega)) := List.getElem?_eq_getElem _
  have g2 : (hollows b)[j]? = some ((hollows b)[j]'(by omega)) := List.getElem?_eq_getElem _
  have lx := hollows_at g1 g2 hij
  rw [hat i _ g1] at hx
  rw [hat j _ g2] at hy
  rintro rfl
  have e := (Option.some.inj hx).trans (Option.some.inj hy).symm
  have e2 := congrArg a6 e
  rw [a6_arrOf (hpl _ (List.getElem_mem _)), a6_arrOf (hpl _ (List.getElem_mem _))] at e2
  refine lx.ne ?_
  have l1 := hollow_len ((mem_hollows hb).1 (List.mem_of_getElem? g1))
  have l2 := hollow_len ((mem_hollows hb).1 (List.mem_of_getElem? g2))
  unfold pad at e2
  exact (List.append_inj e2 (by omega)).1
def countR (b : Bog) : Int × Int := if validate b = 0 then (((hollows b).length : Int), 0) else (0, validate b)
theorem Count_eq {b : Bog} (hs : Short b) : cut_Count b = some (countR b) := by
  unfold cut_Count countR
  rw [bnd_eq (Validate_eq hs)]
  by_cases hv : validate b = 0
  · obtain ⟨l, hl, hlen, _⟩ := arrs (val0.1 hv)
    rw [if_pos hv, if_pos hv, bnd_eq hl, hlen]
  · rw [if_neg hv, if_neg hv]
theorem Rank_eq {b : Bog} (hs : Short b) {h : List Int} (h0 : hollowE b h = 0) {i : Nat} (hi : (hollows b)[i]? = some h) : cut_Rank b h = some ((i : Int), 0) := by
  have hb := (hollow0.1 h0).1
  have hl := hollow_len h0
  have h6 := hb.n6
  obtain ⟨l, hl1, hlen, hat, nd⟩ := arrs hb
  have hn := (hollows_len hb).1
  unfold cut_Rank
  rw [bnd_eq (CheckHollow_eq hs (by omega)), if_pos h0, bnd_eq (ranks_eq hl1 (by omega) nd), bnd_eq (of_eq (by omega)), mget_at l 0 i (hat i h hi) (fun j y hj hy => nd j i _ _ hj hy (hat i h hi))]
  simp
def unrankR (b : Bog) (r : Int) : List Int × Int := if validate b = 0 then (if within r 0 (((hollows b).length : Int) - 1) = true then ((hollows b).getD r.toNat [], 0) else ([], 4)) else ([], validate b)
theorem getD_at {α : Type} {l : List α} {i : Nat} {d : α} (h : i < l.length) : l[i]? = some (l.getD i d) := by simp [List.getD, h]
theorem Unrank_eq {b : Bog} (hs : Short b) (r : Int) : cut_Unrank b r = some (unrankR b r) := by
  unfold cut_Unrank unrankR
  rw [bnd_eq (Validate_eq hs)]
  by_cases hv : validate b = 0
  · have hb := val0.1 hv
    obtain ⟨l, hl, hlen, hat, _⟩ := arrs hb
    have hn := (hollows_len hb).1
    rw [if_pos hv, if_pos hv, bnd_eq hl, gd_pos (by omega), bnd_eq (from_eq _ _ _), hlen]
    by_cases hw : within r 0 (((hollows b).length : Int) - 1) = true
    · have ⟨w1, w2⟩ := within_iff.1 hw
      obtain ⟨k, rfl⟩ : ∃ k : Nat, r = (k : Int) := ⟨r.toNat, by omega⟩
      have hk : k < (hollows b).length := by omega
      have hx := getD_at (d := []) hk
      have hh := (mem_hollows hb).1 (List.mem_of_getElem? hx)
      have h6 := hb.n6
      have hln := hollow_len hh
      have hk2 : (k : Int).toNat = k := by omega
      rw [if_pos hw, if_pos hw, ix_nat (hat k _ hx), bnd_eq (hollow_list_eq hb _), hk2]
      generalize (hollows b).getD k [] = g at *
      rw [a6_arrOf (by unfold pad; simp; omega)]
      congr 2
      unfold pad
      rw [List.take_append_of_le_length (by omega), List.take_of_length_le (by omega)]
    · rw [if_neg hw, if_neg hw]
  · rw [if_neg hv, if_neg hv]
theorem u64_wrap (a : Int) : 0 ≤ IntKind.u64.wrap a := by
  have : IntKind.u64.wrap a = a % (2 ^ 64 : Int) := by
    unfold IntKind.wrap
    simp [IntKind.signed, IntKind.bits]
  rw [this]
  exact Int.emod_nonneg _ (by decide)
theorem law_CutNumbers (b : Bog) (a : Int) (hb : b.worth.length ≤ 9223372036854775807) : law04_CutNumbers b a = some true := by
  unfold law04_CutNumbers
  rw [bnd_eq (Long_eq (by simp) hb)]
  cases hL : longB b []
  · obtain ⟨hs, _⟩ := long_short hL
    rw [if_neg (by simp), bnd_eq (Count_eq hs)]
    by_cases hv : validate b = 0
    · have ob := val0.1 hv
      have ⟨hn1, hn2⟩ := hollows_len ob
      have e1 : countR b = (((hollows b).length : Int), 0) := if_pos hv
      have ew : IntKind.u64.wrap ((hollows b).length : Int) = (hollows b).length := IntWalk.u64_in _ (by omega)
      have w0 := u64_wrap a
      rw [e1, if_pos rfl, if_neg (by simp only; omega)]
      simp only [law04_CutNumbers_k3, ew]
      generalize hq : Int.tmod (IntKind.u64.wrap a) ((hollows b).length : Int) = q
      have q1 : 0 ≤ q ∧ q < ((hollows b).length : Int) := by
        rw [← hq, Int.tmod_eq_emod_of_nonneg w0]
        exact ⟨Int.emod_nonneg _ (by omega), Int.emod_lt_of_pos _ (by omega)⟩
      have e2 : IntKind.i64.wrap q = q := wrap_id (by omega)
      have e3 : IntKind.u64.wrap q = q := IntWalk.u64_in _ (by omega)
      rw [gd_pos ⟨by omega, e3⟩]
      simp only [e2]
      obtain ⟨r, rfl⟩ : ∃ k : Nat, q = (k : Int) := ⟨q.toNat, by omega⟩
      have hr : r < (hollows b).length := by omega
      have hx := getD_at (d := ([] : List Int)) hr
      have hh := (mem_hollows ob).1 (List.mem_of_getElem? hx)
      have hln := hollow_len hh
      have h6 := ob.n6
      have e4 : unrankR b (r : Int) = ((hollows b).getD r [], 0) := by
        unfold unrankR
        rw [if_pos hv, if_pos (within_iff.2 (by omega))]; rfl
      rw [bnd_eq (Unrank_eq hs _), e4, bnd_eq (Rank_eq hs hh hx), if_pos rfl, if_pos rfl, if_pos rfl, bnd_eq (CheckHollow_eq hs (by simp only; omega))]
      rw [hh, if_neg (by simp), gd_pos (by omega), bnd_eq (Unrank_eq hs _), gd_pos (by omega)]
      by_cases hlast : ((r : Int) + 1) = ((hollows b).length : Int)
      · have e5 : unrankR b ((r : Int) + 1) = ([], 4) := by
          unfold unrankR
          rw [if_pos hv, if_neg (fun h => by have := within_iff.1 h; omega)]
        rw [if_pos hlast, e5, if_pos rfl, bnd_eq sane_eq]
      · have e5 : unrankR b ((r : Int) + 1) = ((hollows b).getD (r + 1) [], 0) := by
          unfold unrankR
          rw [if_pos hv, if_pos (within_iff.2 (by omega)), show ((r : Int) + 1).toNat = r + 1 by omega]
        have hy := getD_at (d := ([] : List Int)) (l := hollows b) (i := r + 1) (by omega)
        have hh2 := (mem_hollows ob).1 (List.mem_of_getElem? hy)
        have hln2 := hollow_len hh2
        obtain ⟨c, c1, c2, c3, c4⟩ := hollows_at hx hy (by omega)
        rw [if_neg hlast, e5, if_pos rfl]
        generalize hG : (hollows b).getD r [] = g at *
        generalize hK : (hollows b).getD (r + 1) [] = k at *
        unfold law04_CutNumbers_k2
        rw [if_neg (by simp; omega)]
        refine Eq.trans (for0 c (fun _ => ()) (fun n _ i => law04_CutNumbers_L1 (g, 0) (k, 0) n i) (some true) rfl (fun n i hi => ?_) (fun n => ?_) (by omega)) rfl
        · show law04_CutNumbers_B1 (g, 0) (k, 0) (law04_CutNumbers_L1 (g, 0) (k, 0) n) _ = _
          unfold law04_CutNumbers_B1
          rw [if_pos (by simp only; omega), ix_nat (gi_at (by simp only; omega)), ix_nat (gi_at (by simp only; omega)), if_pos (c3 i hi), gd_pos (by omega)]; rfl
        · show law04_CutNumbers_B1 (g, 0) (k, 0) (law04_CutNumbers_L1 (g, 0) (k, 0) n) _ = _
          unfold law04_CutNumbers_B1
          rw [if_pos (by simp only; omega), ix_nat (gi_at c1), ix_nat (gi_at c2), if_neg (by omega), ix_nat (gi_at c1), ix_nat (gi_at c2), if_pos c4, bnd_eq sane_eq]
    · have e1 : countR b = (0, validate b) := if_neg hv
      rw [e1, if_neg hv, if_pos rfl, bnd_eq sane_eq]
  · rw [if_pos rfl, bnd_eq sane_eq]
end Go.D4
