/- Lemmas and walks that the proof of this claim uses: D4m1D, TbCutOpen, D4m2D, D4m3D, D4m4D, D4m5D, D4m8D, D4m9D, Tb22, D4p1, D4p2, D4p3, D4p4, D4p5, D4p6, D4p7, D4pC, D4pH, D4m1. -/
import Derived.Test.YtihcdffakmnkdaaCutMirrors0
set_option linter.unusedVariables false
namespace Go.D4
open Go.Tb
structure Bog where
  worth : List (List Int)
structure Arr6 where
  at0 : Int
  at1 : Int
  at2 : Int
  at3 : Int
  at4 : Int
  at5 : Int
def encArr6 (x : Arr6) : List Value := [.int .i64 x.at0, .int .i64 x.at1, .int .i64 x.at2, .int .i64 x.at3, .int .i64 x.at4, .int .i64 x.at5]
def law04_Long_k1 (a0 : Bog) : Option Bool :=
  some (decide ((50 : Int) < ((a0.worth.length : Int))))
def law04_Long_B1 (a0 : Bog) (rec1 : Int → Option Bool) (t6_1 : Int) : Option Bool :=
  if t6_1 < ((a0.worth.length : Int)) then
    ix a0.worth t6_1 fun x1 =>
    if (50 : Int) < ((x1.length : Int)) then
      some true
    else
      gd (InR (t6_1 + 1)) <|
      rec1 ((t6_1 + 1))
  else
    law04_Long_k1 a0
def law04_Long_L1 (a0 : Bog) : Nat → Int → Option Bool
  | 0, _ => none
  | n_ + 1, t6_1 => law04_Long_B1 a0 (law04_Long_L1 a0 n_) t6_1
theorem law04_Long_L1_s {a0 : Bog} {m_ : Nat} {t6_1 : Int} {res : Bool} (h : law04_Long_L1 a0 m_ t6_1 = some res) : ∃ k, m_ = k + 1 ∧ law04_Long_B1 a0 (law04_Long_L1 a0 k) t6_1 = some res := by
  cases m_ with
  | zero => cases h
  | succ k => exact ⟨k, rfl, h⟩
def law04_Long_k2 (a0 : Bog) : Option Bool :=
  law04_Long_L1 a0 FU (((0 : Int)))
def law04_Long_B2 (a0 : Bog) (a1 : List (List Int)) (rec2 : Int → Option Bool) (t5_1 : Int) : Option Bool :=
  if t5_1 < ((a1.length : Int)) then
    ix a1 t5_1 fun x2 =>
    if (100 : Int) < ((x2.length : Int)) then
      some true
    else
      gd (InR (t5_1 + 1)) <|
      rec2 ((t5_1 + 1))
  else
    law04_Long_k2 a0
def law04_Long_L2 (a0 : Bog) (a1 : List (List Int)) : Nat → Int → Option Bool
  | 0, _ => none
  | n_ + 1, t5_1 => law04_Long_B2 a0 a1 (law04_Long_L2 a0 a1 n_) t5_1
theorem law04_Long_L2_s {a0 : Bog} {a1 : List (List Int)} {m_ : Nat} {t5_1 : Int} {res : Bool} (h : law04_Long_L2 a0 a1 m_ t5_1 = some res) : ∃ k, m_ = k + 1 ∧ law04_Long_B2 a0 a1 (law04_Long_L2 a0 a1 k) t5_1 = some res := by
  cases m_ with
  | zero => cases h
  | succ k => exact ⟨k, rfl, h⟩
def law04_Long (a0 : Bog) (a1 : List (List Int)) : Option Bool :=
  law04_Long_L2 a0 a1 FU (((0 : Int)))
def cut_from (a0 : Int) (a1 : Int) (a2 : Int) : Option Bool :=
  if a1 ≤ a0 then
    some (decide (a0 ≤ a2))
  else
    some false
def cut_depth (a0 : Bog) : Option Int :=
  ix a0.worth 0 fun x1 =>
  some ((x1.length : Int))
def slices_IndexFunc_int_k1 : Option Int :=
  some ((-1 : Int))
def slices_IndexFunc_int_B1 (a0 : List Int) (a1 : Int → Option Bool) (rec1 : Int → Option Int) (t8_1 : Int) : Option Int :=
  if t8_1 < ((a0.length : Int)) then
    ix a0 t8_1 fun x1 =>
    bnd (a1 x1) fun r1 =>
    if r1 = true then
      some t8_1
    else
      gd (InR (t8_1 + 1)) <|
      rec1 ((t8_1 + 1))
  else
    slices_IndexFunc_int_k1
def slices_IndexFunc_int_L1 (a0 : List Int) (a1 : Int → Option Bool) : Nat → Int → Option Int
  | 0, _ => none
  | n_ + 1, t8_1 => slices_IndexFunc_int_B1 a0 a1 (slices_IndexFunc_int_L1 a0 a1 n_) t8_1
theorem slices_IndexFunc_int_L1_s {a0 : List Int} {a1 : Int → Option Bool} {m_ : Nat} {t8_1 : Int} {res : Int} (h : slices_IndexFunc_int_L1 a0 a1 m_ t8_1 = some res) : ∃ k, m_ = k + 1 ∧ slices_IndexFunc_int_B1 a0 a1 (slices_IndexFunc_int_L1 a0 a1 k) t8_1 = some res := by
  cases m_ with
  | zero => cases h
  | succ k => exact ⟨k, rfl, h⟩
def slices_IndexFunc_int (a0 : List Int) (a1 : Int → Option Bool) : Option Int :=
  slices_IndexFunc_int_L1 a0 a1 FU (((0 : Int)))
def slices_ContainsFunc_int (a0 : List Int) (a1 : Int → Option Bool) : Option Bool :=
  bnd (slices_IndexFunc_int a0 a1) fun r1 =>
  some (decide ((0 : Int) ≤ r1))
def cut_Validate_1 (a0 : Int) : Option Bool :=
  bnd (cut_from a0 ((-50 : Int)) ((50 : Int))) fun r1 =>
  some (!r1)
def cut_Validate_k1 : Option Int :=
  some ((0 : Int))
def cut_Validate_k2 (t19_1 : Int) (rec1 : Int → Option Int) (t31_1 : Bool) : Option Int :=
  if t31_1 = true then
    some ((1 : Int))
  else
    gd (InR (t19_1 + 1)) <|
    rec1 ((t19_1 + 1))
def cut_Validate_B1 (a0 : Bog) (rec1 : Int → Option Int) (t19_1 : Int) : Option Int :=
  if t19_1 < ((a0.worth.length : Int)) then
    ix a0.worth t19_1 fun x1 =>
    bnd (cut_depth a0) fun r1 =>
    if ((x1.length : Int)) = r1 then
      bnd (slices_ContainsFunc_int x1 cut_Validate_1) fun r2 =>
      cut_Validate_k2 t19_1 rec1 r2
    else
      cut_Validate_k2 t19_1 rec1 true
  else
    cut_Validate_k1
def cut_Validate_L1 (a0 : Bog) : Nat → Int → Option Int
  | 0, _ => none
  | n_ + 1, t19_1 => cut_Validate_B1 a0 (cut_Validate_L1 a0 n_) t19_1
theorem cut_Validate_L1_s {a0 : Bog} {m_ : Nat} {t19_1 : Int} {res : Int} (h : cut_Validate_L1 a0 m_ t19_1 = some res) : ∃ k, m_ = k + 1 ∧ cut_Validate_B1 a0 (cut_Validate_L1 a0 k) t19_1 = some res := by
  cases m_ with
  | zero => cases h
  | succ k => exact ⟨k, rfl, h⟩
def cut_Validate_k3 (a0 : Bog) (t15_1 : Bool) : Option Int :=
  if t15_1 = true then
    some ((1 : Int))
  else
    cut_Validate_L1 a0 FU (((0 : Int)))
def cut_Validate (a0 : Bog) : Option Int :=
  bnd (cut_from ((a0.worth.length : Int)) ((1 : Int)) ((6 : Int))) fun r3 =>
  if r3 = true then
    bnd (cut_depth a0) fun r4 =>
    bnd (cut_from r4 ((1 : Int)) ((4 : Int))) fun r5 =>
    cut_Validate_k3 a0 ((!r5))
  else
    cut_Validate_k3 a0 true
def cut_raise_k1 (a0 : List Int) : Option (Bool × (List Int)) :=
  some (false, a0)
def cut_raise_B1 (a0 : List Int) (a2 : Int) (a3 : Int) (rec1 : Int → Option (Bool × (List Int))) (t1_1 : Int) : Option (Bool × (List Int)) :=
  if (0 : Int) ≤ t1_1 then
    ix a0 t1_1 fun x1 =>
    if x1 < a3 then
      ix a0 t1_1 fun x2 =>
      gd (InR (x2 + 1)) <|
      ix a0 t1_1 fun x3 =>
      gd (InR (t1_1 + 1)) <|
      gd (0 ≤ (t1_1 + 1) ∧ (t1_1 + 1) ≤ a2 ∧ a2 ≤ 6) <|
      some (true, (List.take (Int.toNat (t1_1 + 1)) ((a0.set (Int.toNat t1_1) (x2 + 1))) ++ List.replicate ((Int.toNat a2) - Int.toNat (t1_1 + 1)) (0 : Int) ++ List.drop ((Int.toNat a2)) ((a0.set (Int.toNat t1_1) (x2 + 1)))))
    else
      gd (InR (t1_1 - 1)) <|
      rec1 ((t1_1 - 1))
  else
    cut_raise_k1 a0
def cut_raise_L1 (a0 : List Int) (a2 : Int) (a3 : Int) : Nat → Int → Option (Bool × (List Int))
  | 0, _ => none
  | n_ + 1, t1_1 => cut_raise_B1 a0 a2 a3 (cut_raise_L1 a0 a2 a3 n_) t1_1
theorem cut_raise_L1_s {a0 : List Int} {a2 : Int} {a3 : Int} {m_ : Nat} {t1_1 : Int} {res : Bool × (List Int)} (h : cut_raise_L1 a0 a2 a3 m_ t1_1 = some res) : ∃ k, m_ = k + 1 ∧ cut_raise_B1 a0 a2 a3 (cut_raise_L1 a0 a2 a3 k) t1_1 = some res := by
  cases m_ with
  | zero => cases h
  | succ k => exact ⟨k, rfl, h⟩
def cut_raise (a0 : List Int) (a1 : Int) (a2 : Int) (a3 : Int) : Option (Bool × (List Int)) :=
  cut_raise_L1 a0 a2 a3 FU a1
def cut_all_k1 (a0 : Bog) (l1 : List Arr6) (l2 : List Int) (rec1 : (List Arr6) → (List Int) → Option ((List Arr6))) : Option ((List Arr6)) :=
  gd (l2.length = 6) <|
  ix l2 0 fun x1 =>
  ix l2 1 fun x2 =>
  ix l2 2 fun x3 =>
  ix l2 3 fun x4 =>
  ix l2 4 fun x5 =>
  ix l2 5 fun x6 =>
  gd (l1.length + (([(⟨x1, x2, x3, x4, x5, x6⟩ : Arr6)] : List Arr6)).length ≤ 1000000) <|
  gd (InR (((a0.worth.length : Int)) - 1)) <|
  bnd (cut_depth a0) fun r1 =>
  bnd (cut_raise l2 (((a0.worth.length : Int)) - 1) ((a0.worth.length : Int)) r1) fun r2 =>
  if r2.1 = true then
    rec1 (((l1 ++ ([(⟨x1, x2, x3, x4, x5, x6⟩ : Arr6)] : List Arr6)))) r2.2
  else
    some ((l1 ++ ([(⟨x1, x2, x3, x4, x5, x6⟩ : Arr6)] : List Arr6)))
def cut_all_B1 (a0 : Bog) (l1 : List Arr6) (l2 : List Int) (rec1 : (List Arr6) → (List Int) → Option ((List Arr6))) (rec2 : Int → Option ((List Arr6))) (t6_1 : Int) : Option ((List Arr6)) :=
  if t6_1 < ((a0.worth.length : Int)) then
    ix l2 t6_1 fun x7 =>
    gd (InR (t6_1 - 1)) <|
    ix l2 (t6_1 - 1) fun x8 =>
    gd (InR (x7 - x8)) <|
    bnd (cut_from (x7 - x8) ((-1 : Int)) ((1 : Int))) fun r3 =>
    if r3 = true then
      gd (InR (t6_1 + 1)) <|
      rec2 ((t6_1 + 1))
    else
      ix l2 t6_1 fun x9 =>
      gd (InR (t6_1 - 1)) <|
      ix l2 (t6_1 - 1) fun x10 =>
      if x9 < x10 then
        gd (InR (t6_1 - 1)) <|
        ix l2 (t6_1 - 1) fun x11 =>
        gd (InR (x11 - 1)) <|
        ix l2 t6_1 fun x12 =>
        gd (InR (t6_1 + 1)) <|
        gd (0 ≤ (t6_1 + 1) ∧ (t6_1 + 1) ≤ ((a0.worth.length : Int)) ∧ ((a0.worth.length : Int)) ≤ 6) <|
        rec1 l1 (((List.take (Int.toNat (t6_1 + 1)) ((l2.set (Int.toNat t6_1) (x11 - 1))) ++ List.replicate ((Int.toNat ((a0.worth.length : Int))) - Int.toNat (t6_1 + 1)) (0 : Int) ++ List.drop ((Int.toNat ((a0.worth.length : Int)))) ((l2.set (Int.toNat t6_1) (x11 - 1))))))
      else
        gd (InR (t6_1 - 1)) <|
        bnd (cut_depth a0) fun r4 =>
        bnd (cut_raise l2 (t6_1 - 1) ((a0.worth.length : Int)) r4) fun r5 =>
        if r5.1 = true then
          rec1 l1 r5.2
        else
          some l1
  else
    cut_all_k1 a0 l1 l2 rec1
def cut_all_L1 (a0 : Bog) (l1 : List Arr6) (l2 : List Int) (rec1 : (List Arr6) → (List Int) → Option ((List Arr6))) : Nat → Int → Option ((List Arr6))
  | 0, _ => none
  | n_ + 1, t6_1 => cut_all_B1 a0 l1 l2 rec1 (cut_all_L1 a0 l1 l2 rec1 n_) t6_1
theorem cut_all_L1_s {a0 : Bog} {l1 : List Arr6} {l2 : List Int} {rec1 : (List Arr6) → (List Int) → Option ((List Arr6))} {m_ : Nat} {t6_1 : Int} {res : (List Arr6)} (h : cut_all_L1 a0 l1 l2 rec1 m_ t6_1 = some res) : ∃ k, m_ = k + 1 ∧ cut_all_B1 a0 l1 l2 rec1 (cut_all_L1 a0 l1 l2 rec1 k) t6_1 = some res := by
  cases m_ with
  | zero => cases h
  | succ k => exact ⟨k, rfl, h⟩
def cut_all_B2 (a0 : Bog) (rec1 : (List Arr6) → (List Int) → Option ((List Arr6))) (l1 : List Arr6) (l2 : List Int) : Option ((List Arr6)) :=
  cut_all_L1 a0 l1 l2 rec1 FU (((1 : Int)))
def cut_all_L2 (a0 : Bog) : Nat → (List Arr6) → (List Int) → Option ((List Arr6))
  | 0, _, _ => none
  | n_ + 1, l1, l2 => cut_all_B2 a0 (cut_all_L2 a0 n_) l1 l2
theorem cut_all_L2_s {a0 : Bog} {m_ : Nat} {l1 : List Arr6} {l2 : List Int} {res : (List Arr6)} (h : cut_all_L2 a0 m_ l1 l2 = some res) : ∃ k, m_ = k + 1 ∧ cut_all_B2 a0 (cut_all_L2 a0 k) l1 l2 = some res := by
  cases m_ with
  | zero => cases h
  | succ k => exact ⟨k, rfl, h⟩
def cut_all (a0 : Bog) : Option ((List Arr6)) :=
  cut_all_L2 a0 FU ((([] : List Arr6))) ((([0, 0, 0, 0, 0, 0] : List Int)))
end Go.D4

namespace Go.Open
open Go.Tb Go.Proofs Go.ChangeShapes Go.WideShapes Go.ChangeAt Go.RowKit Go.Joins Go.Deep
theorem own_ : ownKnob Try.prog.godebug = none := by kernel_rfl
theorem laidOut_ : laidOutB Try.prog = true := by kernel_rfl
theorem cells22_ : Try.prog.cellsOf 22 = 1 := by kernel_rfl
theorem cells24_ : Try.prog.cellsOf 24 = 1 := by kernel_rfl
section
variable {H : Type} {enc : TypeId × Value → H} {W : World} {sp : Nat → Bool} {held : Bool} {r : Reach} {b0 base : Nat} {v : Value} {d : DataW H} {p : List MemPlace}
theorem trod_lt_ {t : TypeId} (h : DataW.Trod enc Try.prog W base sp held t v d p) : ∀ x ∈ p, x.block < W.heap.size := by obtain ⟨m, hm⟩ := h; exact DataW.trod_lt m _ _ _ hm
set_option maxRecDepth 100000 in
theorem open_row {fuel : Nat} {y : DataW H × List MemPlace} (hf : DataW.trod enc Try.prog W base sp held fuel 25 [v] = some y) : ∃ (l : List Int) (A : Option Addr) (c : Nat), v = .slice A l.length c ∧ Sl W A c 1 (l.map encN) := by
  rcases open_ints Try.underlying25 Try.underlying3 (by kernel_rfl) hf with ⟨hcs, _⟩ | ⟨x, l, c, zs, hcs, _, hl, hm, hz, _, hcell, hwz⟩
  · cases hcs
    exact ⟨[], none, 0, rfl, Sl.nil (by omega)⟩
  · cases hcs
    have hzl : l ≤ zs.length := by rw [hz]; split <;> omega
    have htl : (zs.take l).length = l := by simp; omega
    refine ⟨zs.take l, some x, c, by rw [htl], ?_⟩
    · refine Sl.mk_ (len := (zs.take l).length) (by rw [htl]; exact hl) hm (fun _ => rfl) rfl (fun i z hi j u hu => ?_)
      cases j with
      | zero =>
        cases hu
        have hlt := lt_of_at hi
        simp at hlt
        have h2 := hcell i (by omega)
        simp only [List.getElem?_take] at hi
        split at hi
        · simp [List.getD, hi] at h2; simpa using h2
        · cases hi
      | succ j => simp [encN] at hu
set_option maxRecDepth 100000 in
theorem open_ints_ (hv : Value.okWide Try.prog W r b0 25 v) (h : DataW.Trod enc Try.prog W base sp held 25 v d p) : ∃ (l : List Int) (A : Option Addr) (c : Nat), v = .slice A l.length c ∧ Sl W A c 1 (l.map encN) := by
  obtain ⟨a0, len0, cap0, rfl⟩ := okWide_slice Try.underlying25 hv
  obtain ⟨fuel, hf⟩ := h
  exact open_row (by simpa [Value.cells] using hf)
set_option maxRecDepth 100000 in
theorem open_table {fuel : Nat} {y : DataW H × List MemPlace} (hf : DataW.trod enc Try.prog W base sp held fuel 22 [v] = some y) : ∃ (ll : List (List Int)) (A : Option Addr) (c : Nat), v = .slice A ll.length c ∧ Sl2 W A c 1 encN ll := by
  rcases open_slice1 Try.underlying22 (by kernel_rfl) hf with ⟨hcs, _⟩ | ⟨x, l, c, m, n, V, D, Pl, hcs, _, hl, hm, hmm, _, hi⟩
  · cases hcs
    exact ⟨[], none, 0, rfl, Sl2.nil_⟩
  · cases hcs
    have hml : l ≤ m := by rw [hmm]; split <;> omega
    obtain ⟨L, hlen, hL⟩ := ex_list (Q := fun i (q : (Option Addr × Nat) × List Int) => W.cell? (x.add i) = some (.slice q.1.1 q.2.length q.1.2) ∧ Sl W q.1.1 q.1.2 1 (q.2.map encN)) l (fun i hil => by
      obtain ⟨h1, h2⟩ := hi i (by omega)
      obtain ⟨q, A, c', e, hs⟩ := open_row h2
      exact ⟨((A, c'), q), by rw [h1, e], hs⟩)
    have e1 : (L.map (·.2)).length = l := by simp [hlen]
    refine ⟨L.map (·.2), some x, c, by rw [e1], ⟨L.map (·.1), by simp, ?_, fun j h q hj hq => ?_⟩⟩
    · have e2 : (L.map (·.1)).zip (L.map (·.2)) = L := by
        rw [List.zip_map']; simp
      rw [e2]
      refine Sl.mk_ (len := l) hl hm (fun _ => rfl) hlen (fun i z hz j u hu => ?_)
      cases j with
      | zero => cases hu; simpa [encH] using (hL i z hz).1
      | succ j => simp [encH] at hu
    · simp only [List.getElem?_map, Option.map_eq_some_iff] at hj hq
      obtain ⟨z, hz, rfl⟩ := hj
      obtain ⟨z', hz', rfl⟩ := hq
      rw [hz] at hz'; cases hz'
      exact (hL j z hz).2
set_option maxRecDepth 100000 in
theorem open_bog (hv : Value.okWide Try.prog W r b0 24 v) (h : DataW.Trod enc Try.prog W base sp held 24 v d p) : ∃ (b : Go.D4.Bog) (A : Option Addr) (c : Nat), v = .agg #[.slice A b.worth.length c] ∧ Sl2 W A c 1 encN b.worth := by
  obtain ⟨cs, rfl, hsz⟩ := okWide_struct Try.underlying24 hv
  obtain ⟨c0, rfl⟩ : ∃ c0, cs = #[c0] := by
    obtain ⟨l⟩ := cs
    match l, hsz.trans cells24_ with
    | [c0], _ => exact ⟨c0, rfl⟩
  obtain ⟨fuel, hf⟩ := h
  obtain ⟨xs, n, _, _, _, hlen, hfi⟩ := DataW.trod_struct Try.underlying24 hf
  match xs, hlen with
  | [y0], _ =>
    have h0 := hfi 0 _ rfl
    obtain ⟨ll, A, c, rfl, hs⟩ := open_table (v := c0) (y := y0) (by simpa [Value.cells, cells22_] using h0)
    exact ⟨⟨ll⟩, A, c, rfl, hs⟩
end
end Go.Open

set_option linter.unusedVariables false
namespace Go.D4
open Go.Tb
def slices_Clone_int (a0 : List Int) : Option (List Int) :=
  gd ((([] : List Int)).length + a0.length ≤ 1000000) <|
  some ((([] : List Int) ++ a0))
def cut_hollow_list (a0 : Arr6) (a1 : Bog) : Option ((List Int)) :=
  gd (0 ≤ ((a1.worth.length : Int)) ∧ ((a1.worth.length : Int)) ≤ 6) <|
  bnd (slices_Clone_int ((List.take (Int.toNat ((a1.worth.length : Int))) (([a0.at0, a0.at1, a0.at2, a0.at3, a0.at4, a0.at5] : List Int))))) fun r1 =>
  some r1
def cut_worth_k1 (t5_1 : Int) : Option Int :=
  some t5_1
def cut_worth_k2 (t12_1 : Int) (rec1 : Int → Int → Option Int) (t5_2 : Int) : Option Int :=
  gd (InR (t12_1 + 1)) <|
  rec1 t5_2 ((t12_1 + 1))
def cut_worth_B1 (t12_1 : Int) (rec1 : Int → Int → Option Int) (x1 : Int) (x2 : List Int) (rec2 : Int → Int → Option Int) (t5_3 : Int) (t25_1 : Int) : Option Int :=
  if t25_1 < (((List.take (Int.toNat x1) x2).length : Int)) then
    ix ((List.take (Int.toNat x1) x2)) t25_1 fun x3 =>
    gd (InR (t5_3 + x3)) <|
    gd (InR (t25_1 + 1)) <|
    rec2 ((t5_3 + x3)) ((t25_1 + 1))
  else
    cut_worth_k2 t12_1 rec1 t5_3
def cut_worth_L1 (t12_1 : Int) (rec1 : Int → Int → Option Int) (x1 : Int) (x2 : List Int) : Nat → Int → Int → Option Int
  | 0, _, _ => none
  | n_ + 1, t5_3, t25_1 => cut_worth_B1 t12_1 rec1 x1 x2 (cut_worth_L1 t12_1 rec1 x1 x2 n_) t5_3 t25_1
theorem cut_worth_L1_s {t12_1 : Int} {rec1 : Int → Int → Option Int} {x1 : Int} {x2 : List Int} {m_ : Nat} {t5_3 : Int} {t25_1 : Int} {res : Int} (h : cut_worth_L1 t12_1 rec1 x1 x2 m_ t5_3 t25_1 = some res) : ∃ k, m_ = k + 1 ∧ cut_worth_B1 t12_1 rec1 x1 x2 (cut_worth_L1 t12_1 rec1 x1 x2 k) t5_3 t25_1 = some res := by
  cases m_ with
  | zero => cases h
  | succ k => exact ⟨k, rfl, h⟩
def cut_worth_B2 (a0 : Bog) (a1 : List Int) (rec1 : Int → Int → Option Int) (t5_4 : Int) (t12_1 : Int) : Option Int :=
  if t12_1 < ((a1.length : Int)) then
    ix a1 t12_1 fun x1 =>
    ix a0.worth t12_1 fun x2 =>
    gd (0 ≤ x1 ∧ x1 ≤ (x2.length : Int)) <|
    cut_worth_L1 t12_1 rec1 x1 x2 FU t5_4 (((0 : Int)))
  else
    cut_worth_k1 t5_4
def cut_worth_L2 (a0 : Bog) (a1 : List Int) : Nat → Int → Int → Option Int
  | 0, _, _ => none
  | n_ + 1, t5_4, t12_1 => cut_worth_B2 a0 a1 (cut_worth_L2 a0 a1 n_) t5_4 t12_1
theorem cut_worth_L2_s {a0 : Bog} {a1 : List Int} {m_ : Nat} {t5_4 : Int} {t12_1 : Int} {res : Int} (h : cut_worth_L2 a0 a1 m_ t5_4 t12_1 = some res) : ∃ k, m_ = k + 1 ∧ cut_worth_B2 a0 a1 (cut_worth_L2 a0 a1 k) t5_4 t12_1 = some res := by
  cases m_ with
  | zero => cases h
  | succ k => exact ⟨k, rfl, h⟩
def cut_worth (a0 : Bog) (a1 : List Int) : Option Int :=
  cut_worth_L2 a0 a1 FU (((0 : Int))) (((0 : Int)))
def cut_joined_k1 (l1 : List Int) : Option ((List Int)) :=
  some l1
def cut_joined_B1 (a0 : List Int) (a1 : List Int) (a2 : Int → Int → Option Int) (rec1 : Int → (List Int) → Option ((List Int))) (t11_1 : Int) (l2 : List Int) : Option ((List Int)) :=
  if t11_1 < ((a0.length : Int)) then
    ix a0 t11_1 fun x1 =>
    ix a1 t11_1 fun x2 =>
    bnd (a2 x1 x2) fun r1 =>
    gd (l2.length + (([r1] : List Int)).length ≤ 1000000) <|
    gd (InR (t11_1 + 1)) <|
    rec1 ((t11_1 + 1)) (((l2 ++ ([r1] : List Int))))
  else
    cut_joined_k1 l2
def cut_joined_L1 (a0 : List Int) (a1 : List Int) (a2 : Int → Int → Option Int) : Nat → Int → (List Int) → Option ((List Int))
  | 0, _, _ => none
  | n_ + 1, t11_1, l2 => cut_joined_B1 a0 a1 a2 (cut_joined_L1 a0 a1 a2 n_) t11_1 l2
theorem cut_joined_L1_s {a0 : List Int} {a1 : List Int} {a2 : Int → Int → Option Int} {m_ : Nat} {t11_1 : Int} {l2 : List Int} {res : (List Int)} (h : cut_joined_L1 a0 a1 a2 m_ t11_1 l2 = some res) : ∃ k, m_ = k + 1 ∧ cut_joined_B1 a0 a1 a2 (cut_joined_L1 a0 a1 a2 k) t11_1 l2 = some res := by
  cases m_ with
  | zero => cases h
  | succ k => exact ⟨k, rfl, h⟩
def cut_joined (a0 : List Int) (a1 : List Int) (a2 : Int → Int → Option Int) : Option ((List Int)) :=
  cut_joined_L1 a0 a1 a2 FU (((0 : Int))) ((([] : List Int)))
def cut_best_k1 (t7_1 : Int) (l1 : List Int) : Option ((List Int) × Int) :=
  some (l1, t7_1)
def cut_best_k2 (t15_1 : Int) (rec1 : Int → Int → (List Int) → Option ((List Int) × Int)) (t7_2 : Int) (l2 : List Int) : Option ((List Int) × Int) :=
  gd (InR (t15_1 + 1)) <|
  rec1 t7_2 ((t15_1 + 1)) l2
def cut_best_k3 (a1 : Int → Int → Option Int) (t7_3 : Int) (t15_1 : Int) (l3 : List Int) (rec1 : Int → Int → (List Int) → Option ((List Int) × Int)) (r1 : (List Int)) (r2 : Int) (t26_1 : Bool) : Option ((List Int) × Int) :=
  if t26_1 = true then
    cut_best_k2 t15_1 rec1 r2 r1
  else
    if r2 = t7_3 then
      bnd (cut_joined l3 r1 a1) fun r3 =>
      cut_best_k2 t15_1 rec1 t7_3 r3
    else
      cut_best_k2 t15_1 rec1 t7_3 l3
def cut_best_B1 (a0 : Bog) (a1 : Int → Int → Option Int) (r4 : (List Arr6)) (rec1 : Int → Int → (List Int) → Option ((List Int) × Int)) (t7_3 : Int) (t15_1 : Int) (l3 : List Int) : Option ((List Int) × Int) :=
  if t15_1 < ((r4.length : Int)) then
    ix r4 t15_1 fun x1 =>
    gd ((([x1.at0, x1.at1, x1.at2, x1.at3, x1.at4, x1.at5] : List Int)).length = 6) <|
    ix (([x1.at0, x1.at1, x1.at2, x1.at3, x1.at4, x1.at5] : List Int)) 0 fun x2 =>
    ix (([x1.at0, x1.at1, x1.at2, x1.at3, x1.at4, x1.at5] : List Int)) 1 fun x3 =>
    ix (([x1.at0, x1.at1, x1.at2, x1.at3, x1.at4, x1.at5] : List Int)) 2 fun x4 =>
    ix (([x1.at0, x1.at1, x1.at2, x1.at3, x1.at4, x1.at5] : List Int)) 3 fun x5 =>
    ix (([x1.at0, x1.at1, x1.at2, x1.at3, x1.at4, x1.at5] : List Int)) 4 fun x6 =>
    ix (([x1.at0, x1.at1, x1.at2, x1.at3, x1.at4, x1.at5] : List Int)) 5 fun x7 =>
    bnd (cut_hollow_list ((⟨x2, x3, x4, x5, x6, x7⟩ : Arr6)) a0) fun r1 =>
    bnd (cut_worth a0 r1) fun r2 =>
    if t15_1 = 0 then
      cut_best_k3 a1 t7_3 t15_1 l3 rec1 r1 r2 true
    else
      cut_best_k3 a1 t7_3 t15_1 l3 rec1 r1 r2 ((decide (t7_3 < r2)))
  else
    cut_best_k1 t7_3 l3
def cut_best_L1 (a0 : Bog) (a1 : Int → Int → Option Int) (r4 : (List Arr6)) : Nat → Int → Int → (List Int) → Option ((List Int) × Int)
  | 0, _, _, _ => none
  | n_ + 1, t7_3, t15_1, l3 => cut_best_B1 a0 a1 r4 (cut_best_L1 a0 a1 r4 n_) t7_3 t15_1 l3
theorem cut_best_L1_s {a0 : Bog} {a1 : Int → Int → Option Int} {r4 : (List Arr6)} {m_ : Nat} {t7_3 : Int} {t15_1 : Int} {l3 : List Int} {res : (List Int) × Int} (h : cut_best_L1 a0 a1 r4 m_ t7_3 t15_1 l3 = some res) : ∃ k, m_ = k + 1 ∧ cut_best_B1 a0 a1 r4 (cut_best_L1 a0 a1 r4 k) t7_3 t15_1 l3 = some res := by
  cases m_ with
  | zero => cases h
  | succ k => exact ⟨k, rfl, h⟩
def cut_best (a0 : Bog) (a1 : Int → Int → Option Int) : Option ((List Int) × Int) :=
  bnd (cut_all a0) fun r4 =>
  cut_best_L1 a0 a1 r4 FU (((0 : Int))) (((0 : Int))) ((([] : List Int)))
def cut_smaller (a0 : Int) (a1 : Int) : Option Int :=
  some (min a0 a1)
def cut_Best (a0 : Bog) : Option ((List Int) × Int × Int) :=
  bnd (cut_Validate a0) fun r1 =>
  if r1 = 0 then
    bnd (cut_best a0 cut_smaller) fun r2 =>
    some (r2.1, r2.2, (0 : Int))
  else
    some (([] : List Int), (0 : Int), r1)
def cut_Count (a0 : Bog) : Option (Int × Int) :=
  bnd (cut_Validate a0) fun r1 =>
  if r1 = 0 then
    bnd (cut_all a0) fun r2 =>
    some ((r2.length : Int), (0 : Int))
  else
    some ((0 : Int), r1)
end Go.D4

set_option linter.unusedVariables false
namespace Go.D4
open Go.Tb
def cut_isList_1 (cap0 : Bog) (a0 : Int) : Option Bool :=
  bnd (cut_depth cap0) fun r1 =>
  bnd (cut_from a0 ((0 : Int)) r1) fun r2 =>
  some (!r2)
def cut_isList_k1 (t21_1 : Bool) : Option Int :=
  if t21_1 = true then
    some ((1 : Int))
  else
    some ((0 : Int))
def cut_isList (a0 : Bog) (a1 : List Int) : Option Int :=
  bnd (cut_Validate a0) fun r1 =>
  if r1 = 0 then
    if ((a1.length : Int)) = ((a0.worth.length : Int)) then
      bnd (slices_ContainsFunc_int a1 ((fun x0 => cut_isList_1 a0 x0))) fun r2 =>
      cut_isList_k1 r2
    else
      cut_isList_k1 true
  else
    some r1
def cut_right_k1 : Option Bool :=
  some true
def cut_right_B1 (a0 : List Int) (rec1 : Int → Option Bool) (t3_1 : Int) : Option Bool :=
  if t3_1 < ((a0.length : Int)) then
    ix a0 t3_1 fun x1 =>
    gd (InR (t3_1 - 1)) <|
    ix a0 (t3_1 - 1) fun x2 =>
    gd (InR (x1 - x2)) <|
    bnd (cut_from (x1 - x2) ((-1 : Int)) ((1 : Int))) fun r1 =>
    if r1 = true then
      gd (InR (t3_1 + 1)) <|
      rec1 ((t3_1 + 1))
    else
      some false
  else
    cut_right_k1
def cut_right_L1 (a0 : List Int) : Nat → Int → Option Bool
  | 0, _ => none
  | n_ + 1, t3_1 => cut_right_B1 a0 (cut_right_L1 a0 n_) t3_1
theorem cut_right_L1_s {a0 : List Int} {m_ : Nat} {t3_1 : Int} {res : Bool} (h : cut_right_L1 a0 m_ t3_1 = some res) : ∃ k, m_ = k + 1 ∧ cut_right_B1 a0 (cut_right_L1 a0 k) t3_1 = some res := by
  cases m_ with
  | zero => cases h
  | succ k => exact ⟨k, rfl, h⟩
def cut_right (a0 : List Int) : Option Bool :=
  cut_right_L1 a0 FU (((1 : Int)))
def cut_CheckHollow (a0 : Bog) (a1 : List Int) : Option Int :=
  bnd (cut_isList a0 a1) fun r1 =>
  if r1 = 0 then
    bnd (cut_right a1) fun r2 =>
    if r2 = true then
      some ((0 : Int))
    else
      some ((6 : Int))
  else
    some r1
def cut_open (a0 : Bog) (a1 : List Int) (a2 : Int) : Option Bool :=
  bnd (slices_Clone_int a1) fun r1 =>
  ix r1 a2 fun x1 =>
  gd (InR (x1 + 1)) <|
  ix r1 a2 fun x2 =>
  ix ((r1.set (Int.toNat a2) (x1 + 1))) a2 fun x3 =>
  bnd (cut_depth a0) fun r2 =>
  if x3 ≤ r2 then
    bnd (cut_right ((r1.set (Int.toNat a2) (x1 + 1)))) fun r3 =>
    some r3
  else
    some false
def cut_Open_k1 (l1 : List Int) : Option ((List Int) × Int) :=
  some (l1, (0 : Int))
def cut_Open_k2 (t17_1 : Int) (rec1 : Int → (List Int) → Option ((List Int) × Int)) (l2 : List Int) : Option ((List Int) × Int) :=
  gd (InR (t17_1 + 1)) <|
  rec1 ((t17_1 + 1)) l2
def cut_Open_B1 (a0 : Bog) (a1 : List Int) (rec1 : Int → (List Int) → Option ((List Int) × Int)) (t17_1 : Int) (l3 : List Int) : Option ((List Int) × Int) :=
  if t17_1 < ((a1.length : Int)) then
    bnd (cut_open a0 a1 t17_1) fun r1 =>
    if r1 = true then
      gd (l3.length + (([t17_1] : List Int)).length ≤ 1000000) <|
      cut_Open_k2 t17_1 rec1 (((l3 ++ ([t17_1] : List Int))))
    else
      cut_Open_k2 t17_1 rec1 l3
  else
    cut_Open_k1 l3
def cut_Open_L1 (a0 : Bog) (a1 : List Int) : Nat → Int → (List Int) → Option ((List Int) × Int)
  | 0, _, _ => none
  | n_ + 1, t17_1, l3 => cut_Open_B1 a0 a1 (cut_Open_L1 a0 a1 n_) t17_1 l3
theorem cut_Open_L1_s {a0 : Bog} {a1 : List Int} {m_ : Nat} {t17_1 : Int} {l3 : List Int} {res : (List Int) × Int} (h : cut_Open_L1 a0 a1 m_ t17_1 l3 = some res) : ∃ k, m_ = k + 1 ∧ cut_Open_B1 a0 a1 (cut_Open_L1 a0 a1 k) t17_1 l3 = some res := by
  cases m_ with
  | zero => cases h
  | succ k => exact ⟨k, rfl, h⟩
def cut_Open (a0 : Bog) (a1 : List Int) : Option ((List Int) × Int) :=
  bnd (cut_CheckHollow a0 a1) fun r2 =>
  if r2 = 0 then
    cut_Open_L1 a0 a1 FU (((0 : Int))) ((([] : List Int)))
  else
    some (([] : List Int), r2)
def ref04_SameInts_k1 : Option Bool :=
  some true
def ref04_SameInts_B1 (a0 : List Int) (a1 : List Int) (rec1 : Int → Option Bool) (t5_1 : Int) : Option Bool :=
  if t5_1 < ((a0.length : Int)) then
    ix a0 t5_1 fun x1 =>
    ix a1 t5_1 fun x2 =>
    if x1 = x2 then
      gd (InR (t5_1 + 1)) <|
      rec1 ((t5_1 + 1))
    else
      some false
  else
    ref04_SameInts_k1
def ref04_SameInts_L1 (a0 : List Int) (a1 : List Int) : Nat → Int → Option Bool
  | 0, _ => none
  | n_ + 1, t5_1 => ref04_SameInts_B1 a0 a1 (ref04_SameInts_L1 a0 a1 n_) t5_1
theorem ref04_SameInts_L1_s {a0 : List Int} {a1 : List Int} {m_ : Nat} {t5_1 : Int} {res : Bool} (h : ref04_SameInts_L1 a0 a1 m_ t5_1 = some res) : ∃ k, m_ = k + 1 ∧ ref04_SameInts_B1 a0 a1 (ref04_SameInts_L1 a0 a1 k) t5_1 = some res := by
  cases m_ with
  | zero => cases h
  | succ k => exact ⟨k, rfl, h⟩
def ref04_SameInts (a0 : List Int) (a1 : List Int) : Option Bool :=
  if ((a0.length : Int)) = ((a1.length : Int)) then
    ref04_SameInts_L1 a0 a1 FU (((0 : Int)))
  else
    some false
def law04_sane : Option Bool :=
  bnd (cut_Best ((⟨([([-3, 5] : List Int)] : List (List Int))⟩ : Bog))) fun r1 =>
  bnd (cut_Count ((⟨([([1, 1] : List Int), ([1, 1] : List Int)] : List (List Int))⟩ : Bog))) fun r2 =>
  bnd (cut_Open ((⟨([([0] : List Int), ([0] : List Int), ([0] : List Int)] : List (List Int))⟩ : Bog)) (([1, 0, 0] : List Int))) fun r3 =>
  if r1.2.2 = 0 then
    if r1.2.1 = 2 then
      bnd (ref04_SameInts r1.1 (([2] : List Int))) fun r4 =>
      if r4 = true then
        if r2.2 = 0 then
          if r2.1 = 7 then
            if r3.2 = 0 then
              bnd (ref04_SameInts r3.1 (([1, 2] : List Int))) fun r5 =>
              some r5
            else
              some false
          else
            some false
        else
          some false
      else
        some false
    else
      some false
  else
    some false
end Go.D4

set_option linter.unusedVariables false
namespace Go.D4
open Go.Tb
def ref04_Validate_k1 : Option Int :=
  some ((0 : Int))
def ref04_Validate_k2 (t4_1 : Int) (rec1 : Int → Option Int) : Option Int :=
  gd (InR (t4_1 + 1)) <|
  rec1 ((t4_1 + 1))
def ref04_Validate_k3 (t5_1 : Int) (rec2 : Int → Option Int) (t77_1 : Bool) : Option Int :=
  if t77_1 = true then
    some ((1 : Int))
  else
    gd (InR (t5_1 + 1)) <|
    rec2 ((t5_1 + 1))
def ref04_Validate_B1 (a0 : Bog) (t4_1 : Int) (rec1 : Int → Option Int) (rec2 : Int → Option Int) (t5_1 : Int) : Option Int :=
  ix a0.worth t4_1 fun x1 =>
  if t5_1 < ((x1.length : Int)) then
    ix a0.worth t4_1 fun x2 =>
    ix x2 t5_1 fun x3 =>
    if (50 : Int) < x3 then
      ref04_Validate_k3 t5_1 rec2 true
    else
      ix a0.worth t4_1 fun x4 =>
      ix x4 t5_1 fun x5 =>
      ref04_Validate_k3 t5_1 rec2 ((decide (x5 < (-50))))
  else
    ref04_Validate_k2 t4_1 rec1
def ref04_Validate_L1 (a0 : Bog) (t4_1 : Int) (rec1 : Int → Option Int) : Nat → Int → Option Int
  | 0, _ => none
  | n_ + 1, t5_1 => ref04_Validate_B1 a0 t4_1 rec1 (ref04_Validate_L1 a0 t4_1 rec1 n_) t5_1
theorem ref04_Validate_L1_s {a0 : Bog} {t4_1 : Int} {rec1 : Int → Option Int} {m_ : Nat} {t5_1 : Int} {res : Int} (h : ref04_Validate_L1 a0 t4_1 rec1 m_ t5_1 = some res) : ∃ k, m_ = k + 1 ∧ ref04_Validate_B1 a0 t4_1 rec1 (ref04_Validate_L1 a0 t4_1 rec1 k) t5_1 = some res := by
  cases m_ with
  | zero => cases h
  | succ k => exact ⟨k, rfl, h⟩
def ref04_Validate_B2 (a0 : Bog) (rec1 : Int → Option Int) (t4_1 : Int) : Option Int :=
  if t4_1 < ((a0.worth.length : Int)) then
    ix a0.worth t4_1 fun x6 =>
    ix a0.worth 0 fun x7 =>
    if ((x6.length : Int)) = ((x7.length : Int)) then
      ref04_Validate_L1 a0 t4_1 rec1 FU (((0 : Int)))
    else
      some ((1 : Int))
  else
    ref04_Validate_k1
def ref04_Validate_L2 (a0 : Bog) : Nat → Int → Option Int
  | 0, _ => none
  | n_ + 1, t4_1 => ref04_Validate_B2 a0 (ref04_Validate_L2 a0 n_) t4_1
theorem ref04_Validate_L2_s {a0 : Bog} {m_ : Nat} {t4_1 : Int} {res : Int} (h : ref04_Validate_L2 a0 m_ t4_1 = some res) : ∃ k, m_ = k + 1 ∧ ref04_Validate_B2 a0 (ref04_Validate_L2 a0 k) t4_1 = some res := by
  cases m_ with
  | zero => cases h
  | succ k => exact ⟨k, rfl, h⟩
def ref04_Validate_k4 (a0 : Bog) (t30_1 : Bool) : Option Int :=
  if t30_1 = true then
    some ((1 : Int))
  else
    ref04_Validate_L2 a0 FU (((0 : Int)))
def ref04_Validate (a0 : Bog) : Option Int :=
  if ((a0.worth.length : Int)) < 1 then
    ref04_Validate_k4 a0 true
  else
    if (6 : Int) < ((a0.worth.length : Int)) then
      ref04_Validate_k4 a0 true
    else
      ix a0.worth 0 fun x8 =>
      if ((x8.length : Int)) < 1 then
        ref04_Validate_k4 a0 true
      else
        ix a0.worth 0 fun x9 =>
        ref04_Validate_k4 a0 ((decide ((4 : Int) < ((x9.length : Int)))))
end Go.D4

set_option linter.unusedVariables false
namespace Go.D4
open Go.Tb
def cut_Worth (a0 : Bog) (a1 : List Int) : Option (Int × Int) :=
  bnd (cut_CheckHollow a0 a1) fun r1 =>
  if r1 = 0 then
    bnd (cut_worth a0 a1) fun r2 =>
    some (r2, (0 : Int))
  else
    some ((0 : Int), r1)
end Go.D4

set_option linter.unusedVariables false
namespace Go.D4
open Go.Tb
def ref04_Copy_k1 (m1 : List (List Int)) : Option Bog :=
  some ((⟨m1⟩ : Bog))
def ref04_Copy_B1 (a0 : Bog) (rec1 : Int → (List (List Int)) → Option Bog) (t4_1 : Int) (m2 : List (List Int)) : Option Bog :=
  if t4_1 < ((a0.worth.length : Int)) then
    ix a0.worth t4_1 fun x1 =>
    gd ((([] : List Int)).length + x1.length ≤ 1000000) <|
    gd (m2.length + 1 ≤ 1000000) <|
    gd (InR (t4_1 + 1)) <|
    rec1 ((t4_1 + 1)) (((m2 ++ [(([] : List Int) ++ x1)])))
  else
    ref04_Copy_k1 m2
def ref04_Copy_L1 (a0 : Bog) : Nat → Int → (List (List Int)) → Option Bog
  | 0, _, _ => none
  | n_ + 1, t4_1, m2 => ref04_Copy_B1 a0 (ref04_Copy_L1 a0 n_) t4_1 m2
theorem ref04_Copy_L1_s {a0 : Bog} {m_ : Nat} {t4_1 : Int} {m2 : List (List Int)} {res : Bog} (h : ref04_Copy_L1 a0 m_ t4_1 m2 = some res) : ∃ k, m_ = k + 1 ∧ ref04_Copy_B1 a0 (ref04_Copy_L1 a0 k) t4_1 m2 = some res := by
  cases m_ with
  | zero => cases h
  | succ k => exact ⟨k, rfl, h⟩
def ref04_Copy (a0 : Bog) : Option Bog :=
  ref04_Copy_L1 a0 FU (((0 : Int))) ((([] : List (List Int))))
end Go.D4

set_option linter.unusedVariables false
namespace Go.D4
open Go.Tb
def ref04_Same_k1 : Option Bool :=
  some true
def ref04_Same_B1 (a0 : Bog) (a1 : Bog) (rec1 : Int → Option Bool) (t5_1 : Int) : Option Bool :=
  if t5_1 < ((a0.worth.length : Int)) then
    ix a0.worth t5_1 fun x1 =>
    ix a1.worth t5_1 fun x2 =>
    bnd (ref04_SameInts x1 x2) fun r1 =>
    if r1 = true then
      gd (InR (t5_1 + 1)) <|
      rec1 ((t5_1 + 1))
    else
      some false
  else
    ref04_Same_k1
def ref04_Same_L1 (a0 : Bog) (a1 : Bog) : Nat → Int → Option Bool
  | 0, _ => none
  | n_ + 1, t5_1 => ref04_Same_B1 a0 a1 (ref04_Same_L1 a0 a1 n_) t5_1
theorem ref04_Same_L1_s {a0 : Bog} {a1 : Bog} {m_ : Nat} {t5_1 : Int} {res : Bool} (h : ref04_Same_L1 a0 a1 m_ t5_1 = some res) : ∃ k, m_ = k + 1 ∧ ref04_Same_B1 a0 a1 (ref04_Same_L1 a0 a1 k) t5_1 = some res := by
  cases m_ with
  | zero => cases h
  | succ k => exact ⟨k, rfl, h⟩
def ref04_Same (a0 : Bog) (a1 : Bog) : Option Bool :=
  if ((a0.worth.length : Int)) = ((a1.worth.length : Int)) then
    ref04_Same_L1 a0 a1 FU (((0 : Int)))
  else
    some false
end Go.D4

namespace Go.Tb
/-- A loop over 0 .. N - 1 with a state, that is left at the first i for which p does not hold. -/
theorem scan_loop {S R : Type} (N : Nat) (p : Nat → Bool) (g : Nat → S) (L : Nat → S → Int → Option R) (yes : Option R) (no : Nat → Option R)
    (step : ∀ n i : Nat, i < N → L (n + 1) (g i) (i : Int) = if p i = true then L n (g (i + 1)) ((i + 1 : Nat) : Int) else no i)
    (stop : ∀ n : Nat, L (n + 1) (g N) (N : Int) = yes) : ∀ (d n i : Nat), N = i + d → d < n → L n (g i) (i : Int) = match (List.range' i d).find? (fun j => !p j) with | none => yes | some j => no j
  | 0, n + 1, i, hd, hn => by
    have hi : i = N := by omega
    subst hi
    rw [stop n]; rfl
  | d + 1, n + 1, i, hd, hn => by
    rw [step n i (by omega), List.range'_succ, List.find?_cons]
    cases hp : p i
    · simp
    · simp only [if_true, Bool.not_true]
      exact scan_loop N p g L yes no step stop d n (i + 1) (by omega) (by omega)
theorem find_all {p : Nat → Bool} {i d : Nat} : (List.range' i d).find? (fun j => !p j) = none ↔ ∀ j, i ≤ j → j < i + d → p j = true := by
  rw [List.find?_eq_none]
  constructor
  · intro h j h1 h2
    have := h j (by rw [List.mem_range'_1]; omega)
    simpa using this
  · intro h x hx
    rw [List.mem_range'_1] at hx
    simp [h x hx.1 hx.2]
/-- A loop over 0 .. N - 1 with a state and no way out. -/
theorem for_loop {S R : Type} (N : Nat) (g : Nat → S) (L : Nat → S → Int → Option R) (yes : Option R)
    (step : ∀ n i : Nat, i < N → L (n + 1) (g i) (i : Int) = L n (g (i + 1)) ((i + 1 : Nat) : Int))
    (stop : ∀ n : Nat, L (n + 1) (g N) (N : Int) = yes) : ∀ (d n i : Nat), N = i + d → d < n → L n (g i) (i : Int) = yes
  | 0, n + 1, i, hd, hn => by
    have hi : i = N := by omega
    subst hi
    exact stop n
  | d + 1, n + 1, i, hd, hn => by
    rw [step n i (by omega)]
    exact for_loop N g L yes step stop d n (i + 1) (by omega) (by omega)
theorem for_loop0 {S R : Type} (N : Nat) (g : Nat → S) (L : Nat → S → Int → Option R) (yes : Option R)
    (step : ∀ n i : Nat, i < N → L (n + 1) (g i) (i : Int) = L n (g (i + 1)) ((i + 1 : Nat) : Int))
    (stop : ∀ n : Nat, L (n + 1) (g N) (N : Int) = yes) (hN : N ≤ 9223372036854775807) : L FU (g 0) 0 = yes :=
  for_loop N g L yes step stop N FU 0 (by omega) (by have := FU_pos; omega)
theorem scan_loop0 {S R : Type} (N : Nat) (p : Nat → Bool) (g : Nat → S) (L : Nat → S → Int → Option R) (yes no : Option R)
    (step : ∀ n i : Nat, i < N → L (n + 1) (g i) (i : Int) = if p i = true then L n (g (i + 1)) ((i + 1 : Nat) : Int) else no)
    (stop : ∀ n : Nat, L (n + 1) (g N) (N : Int) = yes) (hN : N ≤ 9223372036854775807) : L FU (g 0) 0 = if (∀ j, j < N → p j = true) then yes else no := by
  have h := scan_loop N p g L yes (fun _ => no) step stop N FU 0 (by omega) (by have := FU_pos; omega)
  refine Eq.trans h ?_
  cases hf : (List.range' 0 N).find? (fun j => !p j) with
  | none => rw [if_pos (fun j hj => find_all.1 hf j (by omega) (by omega))]
  | some j =>
    have h1 := List.find?_some hf
    have h2 := List.mem_of_find?_eq_some hf
    rw [List.mem_range'_1] at h2
    rw [if_neg]
    intro hall
    have := hall j (by omega)
    simp [this] at h1
/-- The same over the elements of a list. -/
theorem list_loop0 {α R : Type} (l : List α) (p : α → Bool) (L : Nat → Int → Option R) (yes no : Option R)
    (step : ∀ (n i : Nat) (x : α), l[i]? = some x → L (n + 1) (i : Int) = if p x = true then L n ((i + 1 : Nat) : Int) else no)
    (stop : ∀ n : Nat, L (n + 1) (l.length : Int) = yes) (hl : l.length ≤ 9223372036854775807) : L FU 0 = if l.all p = true then yes else no := by
  have h := scan_loop0 l.length (fun i => (l[i]?.map p).getD true) (fun _ => ()) (fun n _ i => L n i) yes no (fun n i hi => by
    have hx : l[i]? = some l[i] := by simp [hi]
    rw [step n i _ hx]; simp [hx]) stop hl
  refine Eq.trans h ?_
  by_cases ha : l.all p = true
  · rw [if_pos ha, if_pos]
    intro j hj
    have := List.all_eq_true.1 ha l[j] (List.getElem_mem hj)
    simp [hj, this]
  · rw [if_neg ha, if_neg]
    intro hc
    refine ha (List.all_eq_true.2 fun x hx => ?_)
    obtain ⟨j, hj⟩ := List.getElem?_of_mem hx
    have := hc j (lt_of_at hj)
    simpa [hj] using this
end Go.Tb

set_option linter.unusedVariables false
set_option linter.unusedSimpArgs false
namespace Go.D4
open Go.Tb
theorem sane_eq : law04_sane = some true := by decide +kernel
theorem scan_from {R : Type} (N s : Nat) (p : Nat → Bool) (L : Nat → Int → Option R) (yes no : Option R)
    (step : ∀ n i : Nat, s ≤ i → i < N → L (n + 1) (i : Int) = if p i = true then L n ((i + 1 : Nat) : Int) else no)
    (stop : ∀ n i : Nat, N ≤ i → L (n + 1) (i : Int) = yes) : ∀ (d n i : Nat), s ≤ i → N ≤ i + d → d < n → L n (i : Int) = if (∀ j, j < N → i ≤ j → p j = true) then yes else no
  | 0, n + 1, i, hs, hd, hn => by
    rw [stop n i (by omega), if_pos (fun j h1 h2 => by omega)]
  | d + 1, n + 1, i, hs, hd, hn => by
    by_cases hi : N ≤ i
    · rw [stop n i hi, if_pos (fun j h1 h2 => by omega)]
    · rw [step n i hs (by omega)]
      cases hp : p i
      · rw [if_neg (by simp), if_neg (fun h => by have := h i (by omega) (Nat.le_refl _); simp [hp] at this)]
      · rw [if_pos rfl, scan_from N s p L yes no step stop d n (i + 1) (by omega) (by omega) (by omega)]
        by_cases hall : ∀ j, j < N → i + 1 ≤ j → p j = true
        · rw [if_pos hall, if_pos (fun j h1 h2 => by
            by_cases hj : j = i
            · subst hj; exact hp
            · exact hall j h1 (by omega))]
        · rw [if_neg hall, if_neg (fun h => hall fun j h1 h2 => h j h1 (by omega))]
theorem scan1 {R : Type} (N : Nat) (p : Nat → Bool) (L : Nat → Int → Option R) (yes no : Option R)
    (step : ∀ n i : Nat, 1 ≤ i → i < N → L (n + 1) (i : Int) = if p i = true then L n ((i + 1 : Nat) : Int) else no)
    (stop : ∀ n i : Nat, N ≤ i → L (n + 1) (i : Int) = yes) (hN : N ≤ 9223372036854775807) : L FU 1 = if (∀ j, j < N → 1 ≤ j → p j = true) then yes else no :=
  scan_from N 1 p L yes no step stop N FU 1 (by omega) (by omega) (by have := FU_pos; omega)
theorem for0 {S R : Type} (N : Nat) (g : Nat → S) (L : Nat → S → Int → Option R) (yes : Option R) {s0 : S} (h0 : g 0 = s0)
    (step : ∀ n i : Nat, i < N → L (n + 1) (g i) (i : Int) = L n (g (i + 1)) ((i + 1 : Nat) : Int))
    (stop : ∀ n : Nat, L (n + 1) (g N) (N : Int) = yes) (hN : N ≤ 9223372036854775807) : L FU s0 0 = yes := by
  rw [← h0]; exact for_loop0 N g L yes step stop hN
/-- A library loop: is there an element for which f holds? -/
theorem ContainsFunc_eq (l : List Int) (f : Int → Option Bool) (q : Int → Bool) (hf : ∀ x, f x = some (q x)) (hl : l.length ≤ 1000000) : slices_ContainsFunc_int l f = some (l.any q) := by
  unfold slices_ContainsFunc_int slices_IndexFunc_int
  have h := scan_loop l.length (fun i => (l[i]?.map fun x => !q x).getD true) (fun _ => ()) (fun n _ i => slices_IndexFunc_int_L1 l f n i) (some (-1)) (fun j => some (j : Int)) (fun n i hi => ?_) (fun n => ?_) l.length FU 0 (by omega) (by have := FU_pos; omega)
  · rw [bnd_eq (x := match (List.range' 0 l.length).find? (fun j => !((l[j]?.map fun x => !q x).getD true)) with | none => -1 | some j => (j : Int)) (by
      refine Eq.trans h ?_
      cases (List.range' 0 l.length).find? (fun j => !((l[j]?.map fun x => !q x).getD true)) <;> rfl)]
    congr 1
    cases hf : (List.range' 0 l.length).find? (fun j => !((l[j]?.map fun x => !q x).getD true)) with
    | none =>
      have := find_all.1 hf
      have ha : l.any q = false := List.any_eq_false.2 fun x hx => by
        obtain ⟨j, hj⟩ := List.getElem?_of_mem hx
        have := this j (by omega) (by have := lt_of_at hj; omega)
        simpa [hj] using this
      simp [ha]
    | some j =>
      have h1 := List.find?_some hf
      have h2 := List.mem_of_find?_eq_some hf
      rw [List.mem_range'_1] at h2
      have hx : l[j]? = some l[j] := List.getElem?_eq_getElem (by omega)
      rw [hx] at h1
      have ha : l.any q = true := by
        rw [List.any_eq_true]
        exact ⟨l[j], List.getElem_mem _, by simpa using h1⟩
      simp [ha]
  · show slices_IndexFunc_int_B1 l f (slices_IndexFunc_int_L1 l f n) _ = _
    have hx : l[i]? = some l[i] := by simp [hi]
    unfold slices_IndexFunc_int_B1
    rw [if_pos (by omega), ix_nat hx, bnd_eq (hf _), gd_pos (by omega), hx]
    cases h : q l[i] <;> simp [h]
  · show slices_IndexFunc_int_B1 l f (slices_IndexFunc_int_L1 l f n) _ = _
    unfold slices_IndexFunc_int_B1
    rw [if_neg (by omega)]; rfl
def within (n lo hi : Int) : Bool := decide (lo ≤ n) && decide (n ≤ hi)
theorem within_iff {n lo hi : Int} : within n lo hi = true ↔ lo ≤ n ∧ n ≤ hi := by unfold within; simp
theorem from_eq (n lo hi : Int) : cut_from n lo hi = some (within n lo hi) := by
  unfold cut_from within
  by_cases h : lo ≤ n <;> simp [h]
def dep (b : Bog) : Int := ((b.worth[0]?.getD []).length : Int)
theorem ix0 {α β : Type} {l : List α} {k : α → Option β} {x : α} (h : l[0]? = some x) : ix l 0 k = k x := ix_nat (i := 0) h
theorem depth_eq {b : Bog} (h : 1 ≤ b.worth.length) : cut_depth b = some (dep b) := by
  have hx : b.worth[0]? = some b.worth[0] := by simp
  unfold cut_depth dep
  rw [ix0 hx, hx]; rfl
def okW (w : Int) : Bool := within w (-50) 50
def okCol (d : Int) (c : List Int) : Bool := decide ((c.length : Int) = d) && c.all okW
def okB (b : Bog) : Bool := within b.worth.length 1 6 && within (dep b) 1 4 && b.worth.all (okCol (dep b))
def validate (b : Bog) : Int := if okB b = true then 0 else 1
def Short (b : Bog) : Prop := b.worth.length ≤ 50 ∧ ∀ c ∈ b.worth, c.length ≤ 50
theorem Validate_1_eq (w : Int) : cut_Validate_1 w = some (!okW w) := by
  unfold cut_Validate_1; rw [bnd_eq (from_eq _ _ _)]; rfl
theorem any_not {l : List Int} : (l.any fun x => !okW x) = !(l.all okW) := by
  induction l with
  | nil => rfl
  | cons x r ih => simp [ih]
theorem Validate_eq {b : Bog} (hs : Short b) : cut_Validate b = some (validate b) := by
  unfold cut_Validate validate okB
  rw [bnd_eq (from_eq _ _ _)]
  cases h1 : within b.worth.length 1 6
  · rw [if_neg (by simp)]; unfold cut_Validate_k3; simp
  have h1' := within_iff.1 h1
  rw [if_pos rfl, bnd_eq (depth_eq (by omega)), bnd_eq (from_eq _ _ _)]
  cases h2 : within (dep b) 1 4
  · unfold cut_Validate_k3; simp
  unfold cut_Validate_k3
  rw [if_neg (by simp), list_loop0 b.worth (okCol (dep b)) (cut_Validate_L1 b) (some 0) (some 1) (fun n i x hx => ?_) (fun n => ?_) (by omega)]
  · cases b.worth.all (okCol (dep b)) <;> simp
  · have := lt_of_at hx
    have hxl := hs.2 x (List.mem_of_getElem? hx)
    show cut_Validate_B1 b (cut_Validate_L1 b n) _ = _
    unfold cut_Validate_B1 okCol
    rw [if_pos (by omega), ix_nat hx, bnd_eq (depth_eq (by omega))]
    unfold cut_Validate_k2
    by_cases hd : (x.length : Int) = dep b
    · rw [if_pos hd, bnd_eq (ContainsFunc_eq x _ _ Validate_1_eq (by omega)), any_not, gd_pos (by omega)]
      cases x.all okW <;> simp [hd]
    · rw [if_neg hd, gd_pos (by omega)]; simp [hd]
  · show cut_Validate_B1 b (cut_Validate_L1 b n) _ = _
    unfold cut_Validate_B1
    rw [if_neg (by omega)]; rfl
theorem rValidate_eq {b : Bog} (hs : Short b) : ref04_Validate b = some (validate b) := by
  unfold ref04_Validate validate okB
  by_cases h1 : (b.worth.length : Int) < 1
  · have : within b.worth.length 1 6 = false := by simp [within]; omega
    rw [if_pos h1, this]; unfold ref04_Validate_k4; simp
  rw [if_neg h1]
  by_cases h2 : (6 : Int) < b.worth.length
  · have : within b.worth.length 1 6 = false := by simp [within]; omega
    rw [if_pos h2, this]; unfold ref04_Validate_k4; simp
  rw [if_neg h2]
  have h3 : within b.worth.length 1 6 = true := within_iff.2 (by omega)
  have h0 : b.worth[0]? = some b.worth[0] := by simp
  have hd : dep b = (b.worth[0].length : Int) := by unfold dep; rw [h0]; rfl
  rw [ix0 h0, ix0 h0, h3, ← hd]
  by_cases h4 : dep b < 1
  · have : within (dep b) 1 4 = false := by simp [within]; omega
    rw [if_pos h4, this]; unfold ref04_Validate_k4; simp
  rw [if_neg h4]
  by_cases h5 : 4 < dep b
  · have : within (dep b) 1 4 = false := by simp [within]; omega
    simp only [h5, this]; unfold ref04_Validate_k4; simp
  have h6 : within (dep b) 1 4 = true := within_iff.2 (by omega)
  simp only [h5, h6, decide_false, Bool.true_and]
  unfold ref04_Validate_k4
  rw [if_neg (by simp), list_loop0 b.worth (okCol (dep b)) (ref04_Validate_L2 b) (some 0) (some 1) (fun n i x hx => ?_) (fun n => ?_) (by omega)]
  · cases b.worth.all (okCol (dep b)) <;> simp
  · have := lt_of_at hx
    have hxl := hs.2 x (List.mem_of_getElem? hx)
    show ref04_Validate_B2 b (ref04_Validate_L2 b n) _ = _
    unfold ref04_Validate_B2 okCol
    rw [if_pos (by omega), ix_nat hx, ix0 h0, ← hd]
    by_cases hdd : (x.length : Int) = dep b
    · rw [if_pos hdd, list_loop0 x okW (ref04_Validate_L1 b i (ref04_Validate_L2 b n)) (ref04_Validate_L2 b n ((i + 1 : Nat) : Int)) (some 1) (fun m j v hv => ?_) (fun m => ?_) (by omega)]
      · cases x.all okW <;> simp [hdd]
      · have := lt_of_at hv
        show ref04_Validate_B1 b i (ref04_Validate_L2 b n) (ref04_Validate_L1 b i (ref04_Validate_L2 b n) m) _ = _
        unfold ref04_Validate_B1
        rw [ix_nat hx, if_pos (by omega), ix_nat hx, ix_nat hv]
        unfold ref04_Validate_k3
        by_cases hb : (50 : Int) < v
        · rw [if_pos hb]; simp [okW, within]; omega
        · rw [if_neg hb, ix_nat hx, ix_nat hv, gd_pos (by omega)]
          by_cases hc : v < -50
          · simp [hc, okW, within]; omega
          · have : okW v = true := within_iff.2 (by omega)
            simp [hc, this]
      · show ref04_Validate_B1 b i (ref04_Validate_L2 b n) (ref04_Validate_L1 b i (ref04_Validate_L2 b n) m) _ = _
        unfold ref04_Validate_B1
        rw [ix_nat hx, if_neg (by omega)]
        unfold ref04_Validate_k2
        rw [gd_pos (by omega)]; rfl
    · rw [if_neg hdd]; simp [hdd]
  · show ref04_Validate_B2 b (ref04_Validate_L2 b n) _ = _
    unfold ref04_Validate_B2
    rw [if_neg (by omega)]; rfl
end Go.D4

set_option linter.unusedVariables false
set_option linter.unusedSimpArgs false
namespace Go.D4
open Go.Tb
def gi (l : List Int) (i : Nat) : Int := l.getD i 0
theorem gi_of {l : List Int} {i : Nat} {x : Int} (h : l[i]? = some x) : gi l i = x := by simp [gi, List.getD, h]
def rightB (h : List Int) : Bool := decide (∀ j, j < h.length → 1 ≤ j → within (gi h j - gi h (j - 1)) (-1) 1 = true)
def okL (b : Bog) (h : List Int) : Bool := decide ((h.length : Int) = b.worth.length) && h.all (fun n => within n 0 (dep b))
def listE (b : Bog) (h : List Int) : Int := if validate b = 0 then (if okL b h = true then 0 else 1) else validate b
def hollowE (b : Bog) (h : List Int) : Int := if listE b h = 0 then (if rightB h = true then 0 else 6) else listE b h
structure Ok (b : Bog) : Prop where
  n1 : 1 ≤ b.worth.length
  n6 : b.worth.length ≤ 6
  d1 : 1 ≤ dep b
  d4 : dep b ≤ 4
  col : ∀ c ∈ b.worth, (c.length : Int) = dep b ∧ ∀ w ∈ c, -50 ≤ w ∧ w ≤ 50
theorem okB_iff {b : Bog} : okB b = true ↔ Ok b := by
  unfold okB
  simp only [Bool.and_eq_true, within_iff, List.all_eq_true, okCol, decide_eq_true_eq, okW]
  constructor
  · rintro ⟨⟨h1, h2⟩, h3⟩
    exact ⟨by omega, by omega, h2.1, h2.2, h3⟩
  · intro h
    exact ⟨⟨⟨by have := h.n1; omega, by have := h.n6; omega⟩, h.d1, h.d4⟩, h.col⟩
theorem val0 {b : Bog} : validate b = 0 ↔ Ok b := by
  rw [← okB_iff]; unfold validate; split <;> simp_all
theorem okL_iff {b : Bog} {h : List Int} : okL b h = true ↔ h.length = b.worth.length ∧ ∀ x ∈ h, 0 ≤ x ∧ x ≤ dep b := by
  unfold okL
  simp only [Bool.and_eq_true, decide_eq_true_eq, List.all_eq_true, within_iff]
  constructor
  · rintro ⟨h1, h2⟩; exact ⟨by omega, h2⟩
  · rintro ⟨h1, h2⟩; exact ⟨by omega, h2⟩
theorem list0 {b : Bog} {h : List Int} : listE b h = 0 ↔ Ok b ∧ okL b h = true := by
  unfold listE
  constructor
  · intro h0
    split at h0
    · rename_i hv
      split at h0
      · rename_i ho; exact ⟨val0.1 hv, ho⟩
      · cases h0
    · rename_i hv; exact absurd h0 hv
  · rintro ⟨h1, h2⟩
    rw [if_pos (val0.2 h1), if_pos h2]
theorem hollow0 {b : Bog} {h : List Int} : hollowE b h = 0 ↔ Ok b ∧ okL b h = true ∧ rightB h = true := by
  unfold hollowE
  constructor
  · intro h0
    split at h0
    · rename_i hv
      split at h0
      · rename_i ho; exact ⟨(list0.1 hv).1, (list0.1 hv).2, ho⟩
      · cases h0
    · rename_i hv; exact absurd h0 hv
  · rintro ⟨h1, h2, h3⟩
    rw [if_pos (list0.2 ⟨h1, h2⟩), if_pos h3]
theorem isList_eq {b : Bog} {h : List Int} (hs : Short b) (hl : h.length ≤ 1000000) : cut_isList b h = some (listE b h) := by
  unfold cut_isList listE
  rw [bnd_eq (Validate_eq hs)]
  by_cases hv : validate b = 0
  · have hb := val0.1 hv
    rw [if_pos hv, if_pos hv]
    have hf : ∀ x, cut_isList_1 b x = some (!within x 0 (dep b)) := fun x => by
      unfold cut_isList_1
      rw [bnd_eq (depth_eq hb.n1), bnd_eq (from_eq _ _ _)]
    have hn : (h.any fun x => !within x 0 (dep b)) = !(h.all fun x => within x 0 (dep b)) := by
      induction h with
      | nil => rfl
      | cons x r ih => simp only [List.any_cons, List.all_cons, ih (by simp at hl; omega), Bool.not_and]
    by_cases hln : (h.length : Int) = b.worth.length
    · rw [if_pos hln, bnd_eq (ContainsFunc_eq h _ _ hf hl), hn]
      unfold cut_isList_k1 okL
      cases h.all fun x => within x 0 (dep b) <;> simp [hln]
    · rw [if_neg hln]
      unfold cut_isList_k1 okL
      simp [hln]
  · rw [if_neg hv, if_neg hv]
theorem right_eq {h : List Int} (hl : h.length ≤ 1000000) (hb : ∀ x ∈ h, -1000 ≤ x ∧ x ≤ 1000) : cut_right h = some (rightB h) := by
  unfold cut_right rightB
  rw [scan1 h.length (fun j => within (gi h j - gi h (j - 1)) (-1) 1) (cut_right_L1 h) (some true) (some false) (fun n i h1 hi => ?_) (fun n i hi => ?_) (by omega)]
  · by_cases hp : ∀ j, j < h.length → 1 ≤ j → within (gi h j - gi h (j - 1)) (-1) 1 = true
    · rw [if_pos hp, decide_eq_true hp]
    · rw [if_neg hp, decide_eq_false hp]
  · have hx : h[i]? = some h[i] := by simp [hi]
    have hy : h[i - 1]? = some h[i - 1] := List.getElem?_eq_getElem (by omega)
    have bx := hb h[i] (List.getElem_mem _)
    have by_ := hb h[i - 1] (List.getElem_mem _)
    show cut_right_B1 h (cut_right_L1 h n) _ = _
    unfold cut_right_B1
    rw [if_pos (by omega), ix_nat hx, gd_pos (by omega), show ((i : Int) - 1) = ((i - 1 : Nat) : Int) by omega, ix_nat hy, gd_pos (by omega), bnd_eq (from_eq _ _ _), gi_of hx, gi_of hy, gd_pos (by omega)]
    rfl
  · show cut_right_B1 h (cut_right_L1 h n) _ = _
    unfold cut_right_B1
    rw [if_neg (by omega)]; rfl
theorem CheckHollow_eq {b : Bog} {h : List Int} (hs : Short b) (hl : h.length ≤ 1000000) : cut_CheckHollow b h = some (hollowE b h) := by
  unfold cut_CheckHollow hollowE
  rw [bnd_eq (isList_eq hs hl)]
  by_cases h0 : listE b h = 0
  · have ⟨hb, ho⟩ := list0.1 h0
    have hx := (okL_iff.1 ho).2
    rw [if_pos h0, if_pos h0, bnd_eq (right_eq hl (fun x hm => by have := hx x hm; have := hb.d4; omega))]
    cases rightB h <;> rfl
  · rw [if_neg h0, if_neg h0]
def isum : List Int → Int
  | [] => 0
  | x :: r => x + isum r
theorem isum_append (l m : List Int) : isum (l ++ m) = isum l + isum m := by
  induction l with
  | nil => simp [isum]
  | cons x r ih => simp [isum, ih]; omega
theorem isum_take {l : List Int} {j : Nat} {x : Int} (h : l[j]? = some x) : isum (l.take (j + 1)) = isum (l.take j) + x := by
  have hj := lt_of_at h
  rw [List.take_succ_eq_append_getElem hj, isum_append]
  have : l[j] = x := by rw [List.getElem?_eq_getElem hj] at h; exact Option.some.inj h
  simp [isum, this]
theorem isum_bnd {l : List Int} (h : ∀ x ∈ l, -50 ≤ x ∧ x ≤ 50) : -50 * (l.length : Int) ≤ isum l ∧ isum l ≤ 50 * (l.length : Int) := by
  induction l with
  | nil => simp [isum]
  | cons x r ih =>
    have := ih (fun y hy => h y (List.mem_cons_of_mem _ hy))
    have := h x (List.mem_cons_self ..)
    simp only [isum, List.length_cons]
    omega
def colW (b : Bog) (c : Nat) (n : Int) : Int := isum ((b.worth.getD c []).take n.toNat)
def wsum (b : Bog) (h : List Int) : Nat → Int
  | 0 => 0
  | c + 1 => wsum b h c + colW b c (gi h c)
theorem col_of {b : Bog} {c : Nat} {x : List Int} (h : b.worth[c]? = some x) (n : Int) : colW b c n = isum (x.take n.toNat) := by simp [colW, List.getD, h]
theorem colW_bnd {b : Bog} (hb : Ok b) (c : Nat) (n : Int) : -200 ≤ colW b c n ∧ colW b c n ≤ 200 := by
  unfold colW
  have : ∀ x ∈ (b.worth.getD c []).take n.toNat, -50 ≤ x ∧ x ≤ 50 := fun x hx => by
    have hx := List.mem_of_mem_take hx
    by_cases hc : c < b.worth.length
    · have : b.worth.getD c [] = b.worth[c] := by simp [List.getD, hc]
      rw [this] at hx
      exact (hb.col _ (List.getElem_mem hc)).2 x hx
    · have : b.worth.getD c [] = [] := by simp [List.getD]; rw [List.getElem?_eq_none (by omega)]; rfl
      rw [this] at hx; cases hx
  have h1 := isum_bnd this
  have h2 : ((b.worth.getD c []).take n.toNat).length ≤ 4 := by
    rw [List.length_take]
    by_cases hc : c < b.worth.length
    · have e : b.worth.getD c [] = b.worth[c] := by simp [List.getD, hc]
      have := (hb.col _ (List.getElem_mem hc)).1
      have := hb.d4
      rw [e]; omega
    · have : b.worth.getD c [] = [] := by simp [List.getD]; rw [List.getElem?_eq_none (by omega)]; rfl
      rw [this]; simp
  omega
theorem wsum_bnd {b : Bog} (hb : Ok b) (h : List Int) : ∀ c : Nat, -200 * (c : Int) ≤ wsum b h c ∧ wsum b h c ≤ 200 * (c : Int)
  | 0 => by simp [wsum]
  | c + 1 => by
    have h1 := wsum_bnd hb h c
    have h2 := colW_bnd hb c (gi h c)
    simp only [wsum]
    omega
theorem worth_eq {b : Bog} {h : List Int} (hb : Ok b) (ho : okL b h = true) : cut_worth b h = some (wsum b h h.length) := by
  have ⟨hl, hx⟩ := okL_iff.1 ho
  have h6 := hb.n6
  unfold cut_worth
  refine Eq.trans (for_loop0 h.length (wsum b h) (fun n s i => cut_worth_L2 b h n s i) (some (wsum b h h.length)) (fun n i hi => ?_) (fun n => ?_) (by omega)) rfl
  · have hv : h[i]? = some h[i] := by simp [hi]
    have hc : b.worth[i]? = some b.worth[i] := List.getElem?_eq_getElem (by omega)
    have hcol := hb.col b.worth[i] (List.getElem_mem _)
    have hxi := hx h[i] (List.getElem_mem _)
    have hd := hb.d4
    show cut_worth_B2 b h (cut_worth_L2 b h n) _ _ = _
    unfold cut_worth_B2
    rw [if_pos (by omega), ix_nat hv, ix_nat hc, gd_pos (by omega)]
    have hlen : (List.take (Int.toNat h[i]) b.worth[i]).length = (h[i]).toNat := by rw [List.length_take]; omega
    have hws := wsum_bnd hb h i
    refine Eq.trans (for0 (List.take (Int.toNat h[i]) b.worth[i]).length (fun j => wsum b h i + isum ((List.take (Int.toNat h[i]) b.worth[i]).take j)) (fun m s j => cut_worth_L1 i (cut_worth_L2 b h n) h[i] b.worth[i] m s j) (cut_worth_L2 b h n (wsum b h (i + 1)) ((i + 1 : Nat) : Int)) (by simp [isum]) (fun m j hj => ?_) (fun m => ?_) (by omega)) rfl
    · have hw : (List.take (Int.toNat h[i]) b.worth[i])[j]? = some (List.take (Int.toNat h[i]) b.worth[i])[j] := by simp only [List.getElem?_eq_getElem hj]
      have hs := isum_bnd (l := (List.take (Int.toNat h[i]) b.worth[i]).take j) (fun x hm => hcol.2 x (List.mem_of_mem_take (List.mem_of_mem_take hm)))
      have hwb := hcol.2 _ (List.mem_of_mem_take (List.getElem_mem hj))
      have hjl : (List.take j (List.take (Int.toNat h[i]) b.worth[i])).length ≤ 4 := by rw [List.length_take]; omega
      show cut_worth_B1 i (cut_worth_L2 b h n) h[i] b.worth[i] (cut_worth_L1 i (cut_worth_L2 b h n) h[i] b.worth[i] m) _ _ = _
      unfold cut_worth_B1
      rw [if_pos (by omega), ix_nat hw, gd_pos (by omega), gd_pos (by omega), isum_take hw, Int.add_assoc]
      rfl
    · show cut_worth_B1 i (cut_worth_L2 b h n) h[i] b.worth[i] (cut_worth_L1 i (cut_worth_L2 b h n) h[i] b.worth[i] m) _ _ = _
      unfold cut_worth_B1
      rw [if_neg (by omega)]
      unfold cut_worth_k2
      rw [gd_pos (by omega), List.take_length]
      show cut_worth_L2 b h n _ _ = cut_worth_L2 b h n (wsum b h i + colW b i (gi h i)) _
      rw [gi_of hv, col_of hc]
      rfl
  · show cut_worth_B2 b h (cut_worth_L2 b h n) _ _ = _
    unfold cut_worth_B2
    rw [if_neg (by omega)]; rfl
def worthR (b : Bog) (h : List Int) : Int × Int := if hollowE b h = 0 then (wsum b h h.length, 0) else (0, hollowE b h)
theorem Worth_eq {b : Bog} {h : List Int} (hs : Short b) (hl : h.length ≤ 1000000) : cut_Worth b h = some (worthR b h) := by
  unfold cut_Worth worthR
  rw [bnd_eq (CheckHollow_eq hs hl)]
  by_cases h0 : hollowE b h = 0
  · have ⟨hb, ho, _⟩ := hollow0.1 h0
    rw [if_pos h0, if_pos h0, bnd_eq (worth_eq hb ho)]
  · rw [if_neg h0, if_neg h0]
def longB (b : Bog) (ls : List (List Int)) : Bool := !(ls.all fun l => !decide ((100 : Int) < l.length)) || (!(b.worth.all fun l => !decide ((50 : Int) < l.length)) || decide ((50 : Int) < b.worth.length))
theorem Long_eq {b : Bog} {ls : List (List Int)} (h1 : ls.length ≤ 9223372036854775807) (h2 : b.worth.length ≤ 9223372036854775807) : law04_Long b ls = some (longB b ls) := by
  unfold law04_Long longB
  rw [list_loop0 ls (fun l => !decide ((100 : Int) < l.length)) (law04_Long_L2 b ls) (law04_Long_k2 b) (some true) (fun n i x hx => ?_) (fun n => ?_) h1]
  · cases ls.all fun l => !decide ((100 : Int) < l.length)
    · simp
    · simp only [if_true, Bool.not_true, Bool.false_or]
      unfold law04_Long_k2
      rw [list_loop0 b.worth (fun l => !decide ((50 : Int) < l.length)) (law04_Long_L1 b) (law04_Long_k1 b) (some true) (fun n i x hx => ?_) (fun n => ?_) h2]
      · cases b.worth.all fun l => !decide ((50 : Int) < l.length)
        · simp
        · simp [law04_Long_k1]
      · have := lt_of_at hx
        show law04_Long_B1 b (law04_Long_L1 b n) _ = _
        unfold law04_Long_B1
        rw [if_pos (by omega), ix_nat hx, gd_pos (by omega)]
        by_cases h : (50 : Int) < x.length <;> simp [h]
      · show law04_Long_B1 b (law04_Long_L1 b n) _ = _
        unfold law04_Long_B1
        rw [if_neg (by omega)]
  · have := lt_of_at hx
    show law04_Long_B2 b ls (law04_Long_L2 b ls n) _ = _
    unfold law04_Long_B2
    rw [if_pos (by omega), ix_nat hx, gd_pos (by omega)]
    by_cases h : (100 : Int) < x.length <;> simp [h]
  · show law04_Long_B2 b ls (law04_Long_L2 b ls n) _ = _
    unfold law04_Long_B2
    rw [if_neg (by omega)]
theorem long_short {b : Bog} {ls : List (List Int)} (h : longB b ls = false) : Short b ∧ ∀ l ∈ ls, l.length ≤ 100 := by
  unfold longB at h
  simp only [Bool.or_eq_false_iff, Bool.not_eq_false', List.all_eq_true, Bool.not_eq_true', decide_eq_false_iff_not] at h
  obtain ⟨h1, h2, h3⟩ := h
  exact ⟨⟨by omega, fun c hc => by have := h2 c hc; omega⟩, fun l hl => by have := h1 l hl; omega⟩
end Go.D4

set_option linter.unusedVariables false
set_option linter.unusedSimpArgs false
namespace Go.D4
open Go.Tb
def bump (h : List Int) (c : Nat) : List Int := h.set c (gi h c + 1)
def openB (b : Bog) (h : List Int) (c : Nat) : Bool := decide (gi h c + 1 ≤ dep b) && rightB (bump h c)
theorem gi_mem {h : List Int} {c : Nat} (hc : c < h.length) : gi h c ∈ h := by
  have : h[c]? = some h[c] := by simp [hc]
  rw [gi_of this]; exact List.getElem_mem hc
theorem SameInts_self {l : List Int} (hl : l.length ≤ 1000000) : ref04_SameInts l l = some true := by
  unfold ref04_SameInts
  rw [if_pos rfl, list_loop0 l (fun _ => true) (ref04_SameInts_L1 l l) (some true) (some false) (fun n i x hx => ?_) (fun n => ?_) (by omega)]
  · simp
  · have := lt_of_at hx
    show ref04_SameInts_B1 l l (ref04_SameInts_L1 l l n) _ = _
    unfold ref04_SameInts_B1
    rw [if_pos (by omega), ix_nat hx, ix_nat hx, if_pos rfl, gd_pos (by omega), if_pos rfl]; rfl
  · show ref04_SameInts_B1 l l (ref04_SameInts_L1 l l n) _ = _
    unfold ref04_SameInts_B1
    rw [if_neg (by omega)]; rfl
theorem bump_hollow {b : Bog} {h : List Int} (hb : Ok b) (ho : okL b h = true) {c : Nat} (hc : c < h.length) (hop : openB b h c = true) : hollowE b (bump h c) = 0 := by
  unfold openB at hop
  simp only [Bool.and_eq_true, decide_eq_true_eq] at hop
  refine hollow0.2 ⟨hb, okL_iff.2 ⟨by simp [bump, (okL_iff.1 ho).1], fun x hx => ?_⟩, hop.2⟩
  unfold bump at hx
  rcases List.mem_or_eq_of_mem_set hx with h1 | h1
  · exact (okL_iff.1 ho).2 x h1
  · have := (okL_iff.1 ho).2 _ (gi_mem hc)
    omega
end Go.D4

set_option linter.unusedVariables false
set_option linter.unusedSimpArgs false
namespace Go.D4
open Go.Tb
def inCols (b : Bog) (c : Int) : Bool := within c 0 ((b.worth.length : Int) - 1)
/-- The hollow after the first i columns of an order (a column that is not open changes nothing). -/
def ordN (b : Bog) (o : List Int) : Nat → List Int
  | 0 => List.replicate b.worth.length 0
  | i + 1 => if openB b (ordN b o i) (gi o i).toNat = true then bump (ordN b o i) (gi o i).toNat else ordN b o i
theorem okL_zero {b : Bog} (hb : Ok b) : okL b (List.replicate b.worth.length 0) = true :=
  okL_iff.2 ⟨by simp, fun x hx => by have := List.eq_of_mem_replicate hx; have := hb.d1; omega⟩
def ordP (b : Bog) (o : List Int) (i : Nat) : Bool := openB b (ordN b o i) (gi o i).toNat
def orderR (b : Bog) (o : List Int) : List Int × Int × Int :=
  match (List.range' 0 o.length).find? (fun j => !ordP b o j) with
  | none => (ordN b o o.length, (o.length : Int), 0)
  | some j => ([], (j : Int), 6)
def checkR (b : Bog) (o : List Int) : List Int × Int × Int :=
  if validate b = 0 then (if (24 : Int) < o.length then ([], 0, 3) else if o.all (inCols b) = true then orderR b o else ([], 0, 4)) else ([], 0, validate b)
end Go.D4

set_option linter.unusedVariables false
set_option linter.unusedSimpArgs false
namespace Go.D4
open Go.Tb
theorem rightB_iff {h : List Int} : rightB h = true ↔ ∀ j, j < h.length → 1 ≤ j → -1 ≤ gi h j - gi h (j - 1) ∧ gi h j - gi h (j - 1) ≤ 1 := by
  unfold rightB
  simp only [decide_eq_true_eq, within_iff]
end Go.D4

set_option linter.unusedVariables false
set_option linter.unusedSimpArgs false
namespace Go.D4
open Go.Tb
structure Inv (b : Bog) (h at_ : List Int) (r : Nat) : Prop where
  ok : Ok b
  lh : okL b h = true
  rh : rightB h = true
  la : okL b at_ = true
  ra : rightB at_ = true
  le : ∀ c, c < h.length → gi at_ c ≤ gi h c
  r_ : isum h - isum at_ = (r : Int)
theorem Inv.len {b : Bog} {h at_ : List Int} {r : Nat} (i : Inv b h at_ r) : at_.length = h.length ∧ h.length ≤ 6 := by
  have := (okL_iff.1 i.lh).1; have := (okL_iff.1 i.la).1; have := i.ok.n6
  omega
theorem isum_bump : ∀ {l : List Int} {c : Nat}, c < l.length → isum (bump l c) = isum l + 1
  | x :: r, 0, _ => by simp [bump, isum, gi]; omega
  | x :: r, c + 1, h => by
    have := isum_bump (l := r) (c := c) (by simpa using h)
    simp only [bump, isum, List.set_cons_succ] at this ⊢
    have e : gi (x :: r) (c + 1) = gi r c := by simp [gi, List.getD]
    rw [e]; omega
theorem isum_le : ∀ {l m : List Int}, l.length = m.length → (∀ c, c < m.length → gi l c ≤ gi m c) → isum l ≤ isum m ∧ (isum l = isum m → l = m)
  | [], [], _, _ => by simp
  | x :: r, y :: s, hl, h => by
    have h0 := h 0 (by simp)
    have ih := isum_le (l := r) (m := s) (by simpa using hl) (fun c hc => by
      have := h (c + 1) (by simpa using hc)
      simpa [gi, List.getD] using this)
    simp only [gi, List.getD, List.getElem?_cons_zero, Option.getD_some] at h0
    simp only [isum]
    refine ⟨by omega, fun e => ?_⟩
    have e1 : x = y := by omega
    have e2 := ih.2 (by omega)
    rw [e1, e2]
theorem gi_bump {l : List Int} {c j : Nat} (hc : c < l.length) : gi (bump l c) j = if j = c then gi l c + 1 else gi l j := by
  unfold bump gi
  simp only [List.getD, List.getElem?_set]
  by_cases h : c = j
  · subst h; simp [hc]
  · rw [if_neg h, if_neg (fun e => h e.symm)]
theorem Inv.next {b : Bog} {h at_ : List Int} {r c : Nat} (i : Inv b h at_ (r + 1)) (hc : c < at_.length) (hlt : gi at_ c < gi h c) (hop : openB b at_ c = true) : Inv b h (bump at_ c) r := by
  have hh := hollow0.1 (bump_hollow i.ok i.la hc hop)
  refine ⟨i.ok, i.lh, i.rh, hh.2.1, hh.2.2, fun j hj => ?_, ?_⟩
  · rw [gi_bump hc]
    split
    · rename_i e; subst e; omega
    · exact i.le j hj
  · rw [isum_bump hc]; have := i.r_; omega
theorem Inv.zero {b : Bog} {h : List Int} (h0 : hollowE b h = 0) : Inv b h (List.replicate h.length 0) (isum h).toNat ∧ (isum h).toNat ≤ 24 := by
  have ⟨hb, ho, hr⟩ := hollow0.1 h0
  have ⟨hl, hx⟩ := okL_iff.1 ho
  have g0 : ∀ c, gi (List.replicate h.length 0) c = 0 := fun c => by
    unfold gi; simp only [List.getD, List.getElem?_replicate]; split <;> rfl
  have s0 : ∀ n, isum (List.replicate n 0) = 0 := fun n => by
    induction n with
    | zero => rfl
    | succ n ih => simp [List.replicate_succ, isum, ih]
  have nn : 0 ≤ isum h ∧ isum h ≤ 4 * (h.length : Int) := by
    have hd := hb.d4
    clear hl ho hr h0 g0
    induction h with
    | nil => simp [isum]
    | cons x r ih =>
      have := ih (fun y hy => hx y (List.mem_cons_of_mem _ hy))
      have := hx x (List.mem_cons_self ..)
      simp only [isum, List.length_cons]; omega
  have h6 := hb.n6
  refine ⟨⟨hb, ho, hr, by rw [hl]; exact okL_zero hb, rightB_iff.2 fun j hj h1 => by rw [g0, g0]; omega, fun c hc => ?_, ?_⟩, by omega⟩
  · rw [g0]; exact (hx _ (gi_mem hc)).1
  · rw [s0]; omega
theorem Inv.done {b : Bog} {h at_ : List Int} (i : Inv b h at_ 0) : at_ = h := by
  have ⟨hl, _⟩ := i.len
  exact (isum_le hl i.le).2 (by have := i.r_; omega)
end Go.D4

set_option linter.unusedVariables false
set_option linter.unusedSimpArgs false
namespace Go.D4
open Go.Tb
/-- What is known of an order that has been made so far. -/
structure Led (b : Bog) (out at_ : List Int) : Prop where
  cols : ∀ x ∈ out, inCols b x = true
  all : ∀ j, j < out.length → ordP b out j = true
  to : ordN b out out.length = at_
theorem ordN_pre {b : Bog} {o s : List Int} : ∀ i, i ≤ o.length → ordN b (o ++ s) i = ordN b o i
  | 0, _ => rfl
  | i + 1, h => by
    have ih := ordN_pre (b := b) (o := o) (s := s) i (by omega)
    have e : gi (o ++ s) i = gi o i := by
      have hlt : i < o.length := by omega
      unfold gi
      simp only [List.getD, List.getElem?_append_left hlt]
    show (if openB b (ordN b (o ++ s) i) (gi (o ++ s) i).toNat = true then _ else _) = (if _ then _ else _)
    rw [ih, e]
theorem Led.next {b : Bog} {out at_ : List Int} {c : Nat} (l : Led b out at_) (hc : c < b.worth.length) (hop : openB b at_ c = true) : Led b (out ++ [(c : Int)]) (bump at_ c) := by
  have e : gi (out ++ [(c : Int)]) out.length = (c : Int) := gi_of (by simp)
  have e2 : ordN b (out ++ [(c : Int)]) out.length = at_ := by rw [ordN_pre _ (Nat.le_refl _), l.to]
  refine ⟨fun x hx => ?_, fun j hj => ?_, ?_⟩
  · rcases List.mem_append.1 hx with h | h
    · exact l.cols x h
    · have : x = (c : Int) := by simpa using h
      rw [this]; exact within_iff.2 (by omega)
  · by_cases hjl : j < out.length
    · have h1 := l.all j hjl
      unfold ordP at h1 ⊢
      have e3 : gi (out ++ [(c : Int)]) j = gi out j := by
        unfold gi
        simp only [List.getD, List.getElem?_append_left hjl]
      rw [ordN_pre _ (by omega), e3]; exact h1
    · have : j = out.length := by simp at hj; omega
      subst this
      unfold ordP
      rw [e2, e]; exact hop
  · rw [List.length_append, List.length_singleton]
    show (if openB b (ordN b (out ++ [(c : Int)]) out.length) (gi (out ++ [(c : Int)]) out.length).toNat = true then _ else _) = _
    rw [e2, e]
    have et : ((c : Int)).toNat = c := by omega
    rw [et, if_pos hop]
theorem Led.check {b : Bog} {o h : List Int} (hb : Ok b) (l : Led b o h) (h24 : o.length ≤ 24) : checkR b o = (h, (o.length : Int), 0) := by
  unfold checkR orderR
  rw [if_pos (val0.2 hb), if_neg (by omega), if_pos (List.all_eq_true.2 l.cols)]
  have hf : (List.range' 0 o.length).find? (fun j => !ordP b o j) = none := find_all.2 fun j _ hj => l.all j (by omega)
  rw [hf, l.to]
end Go.D4

set_option linter.unusedVariables false
set_option linter.unusedSimpArgs false
namespace Go.D4
open Go.Tb
def W (b : Bog) (h : List Int) : Int := wsum b h h.length
end Go.D4

set_option linter.unusedVariables false
set_option linter.unusedSimpArgs false
namespace Go.D4
open Go.Tb
theorem Same_self {b : Bog} (h : b.worth.length ≤ 1000 ∧ ∀ c ∈ b.worth, c.length ≤ 1000) : ref04_Same b b = some true := by
  unfold ref04_Same
  rw [if_pos rfl, list_loop0 b.worth (fun _ => true) (ref04_Same_L1 b b) (some true) (some false) (fun n i x hx => ?_) (fun n => ?_) (by omega)]
  · simp
  · have := lt_of_at hx
    have hc := h.2 x (List.mem_of_getElem? hx)
    show ref04_Same_B1 b b (ref04_Same_L1 b b n) _ = _
    unfold ref04_Same_B1
    rw [if_pos (by omega), ix_nat hx, ix_nat hx, bnd_eq (SameInts_self (by omega)), if_pos rfl, gd_pos (by omega), if_pos rfl]; rfl
  · show ref04_Same_B1 b b (ref04_Same_L1 b b n) _ = _
    unfold ref04_Same_B1
    rw [if_neg (by omega)]; rfl
end Go.D4

set_option linter.unusedVariables false
set_option linter.unusedSimpArgs false
namespace Go.D4
open Go.Tb Go.Proofs Go.RowKit
theorem Ta87 : tyA Try.prog 87 = some (3, 6, 1) := by kernel_rfl
theorem Tc67 : callable Try.prog 67 = true := by kernel_rfl
theorem Tc68 : callable Try.prog 68 = true := by kernel_rfl
theorem Tc69 : callable Try.prog 69 = true := by kernel_rfl
theorem Tc70 : callable Try.prog 70 = true := by kernel_rfl
theorem Tc97 : callable Try.prog 97 = true := by kernel_rfl
theorem Tc99 : callable Try.prog 99 = true := by kernel_rfl
theorem Tf24_0 : tyF Try.prog 24 0 = some 0 := by kernel_rfl
theorem Tk22 : tyK Try.prog 22 = some (false, 1) := by kernel_rfl
theorem Tk24 : tyK Try.prog 24 = some (true, 1) := by kernel_rfl
theorem Tk25 : tyK Try.prog 25 = some (false, 1) := by kernel_rfl
theorem Tk3 : tyK Try.prog 3 = some (false, 1) := by kernel_rfl
theorem Tk87 : tyK Try.prog 87 = some (true, 6) := by kernel_rfl
theorem mixed : Try.prog.follows .mixedOrders = true := by kernel_rfl
theorem Ts22 : tyS Try.prog 22 = some (25, 1, 24, [.slice none 0 0]) := by kernel_rfl
theorem Ts25 : tyS Try.prog 25 = some (3, 1, 8, [.int .i64 0]) := by kernel_rfl
theorem Ts82 : tyS Try.prog 82 = some (87, 6, 48, [.int .i64 0, .int .i64 0, .int .i64 0, .int .i64 0, .int .i64 0, .int .i64 0]) := by kernel_rfl
theorem Tz87 : tyZ Try.prog 87 = some (.agg #[.int .i64 0, .int .i64 0, .int .i64 0, .int .i64 0, .int .i64 0, .int .i64 0]) := by kernel_rfl
set_option maxRecDepth 20000 in
set_option maxHeartbeats 1000000 in
theorem law04_Long_ok {a0 : Bog} {a1 : List (List Int)} {A_a0_worth : Option Addr} {c_a0_worth : Nat} {A_a1 : Option Addr} {c_a1 : Nat} {w : World} {res : Bool} (h_a0_worth : Sl2 w A_a0_worth c_a0_worth 1 encN a0.worth) (h_a1 : Sl2 w A_a1 c_a1 1 encN a1) (F : law04_Long a0 a1 = some res) : Calls Try.prog 17 #[.agg #[.slice A_a0_worth a0.worth.length c_a0_worth], .slice A_a1 a1.length c_a1] w (Rt w (.bool res)) := by
  refine calls_of_cw (args := [.agg #[.slice A_a0_worth a0.worth.length c_a0_worth], .slice A_a1 a1.length c_a1]) Try.func17 rfl rfl rfl rfl ?_
  have H := Hp.start w
  have R0 := H.ext
  unfold law04_Long at F
  refine CW.seq fun K1 hK1 => ?_
  refine CW.region ?_
  refine LW.go rfl rfl (OW.box rfl fun b1 w1 N1 => ?_)
  replace H := H.new N1 N1.blk
  replace R0 := H.ext
  refine LW.pure rfl rfl (RV.assign rfl) ?_
  refine LW.nil (hK1 _ _ ?_)
  refine CW.seqJ (fun ρ wl1 => (law04_Long_k2 a0 = some res ∧ ρ = [(2, .pointer (some (⟨b1, 0, none⟩))), (4, .bool false)] ∧ Hp w wl1 [.blk b1 24 [.slice A_a0_worth a0.worth.length c_a0_worth]])) ?_ ?_
  ·
    rintro _ wl1 ⟨F, rfl, H⟩
    have R0 := H.ext
    unfold law04_Long_k2 at F
    refine CW.seqJ (fun ρ wl2 => (law04_Long_k1 a0 = some res ∧ ρ = [(2, .pointer (some (⟨b1, 0, none⟩))), (4, .bool false)] ∧ Hp w wl2 [.blk b1 24 [.slice A_a0_worth a0.worth.length c_a0_worth]])) ?_ ?_
    ·
      rintro _ wl2 ⟨F, rfl, H⟩
      have R0 := H.ext
      unfold law04_Long_k1 at F
      refine CW.seq fun K2 hK2 => ?_
      refine CW.region ?_
      refine LW.pure rfl rfl (RV.fieldAddr Tf24_0 rfl) ?_
      refine LW.pure rfl rfl (RV.load1 Tk22 rfl ((H.blk 0 rfl).cells.off 0) rfl) ?_
      refine LW.pure rfl rfl (RV.len Ts22 rfl) ?_
      refine LW.pure rfl rfl (RV.gtr rfl rfl) ?_
      refine LW.pure rfl rfl (RV.assign rfl) ?_
      refine LW.nil (hK2 _ _ ?_)
      refine CW.ret ?_
      obtain rfl := Option.some.inj F
      refine ⟨_, (ResOK.one rfl), ?_⟩
      refine ⟨(by first | rfl | simp), R0⟩
    ·
      intro K3 hK3 jK103
      refine CW.seq fun K4 hK4 => ?_
      refine CW.region ?_
      refine LW.pure rfl rfl (RV.assign rfl) ?_
      refine LW.nil (hK4 _ _ ?_)
      refine CW.block ?_
      refine CW.loop (fun meas ρ wl3 => ∃ (t6_1 : Int), law04_Long_L1 a0 meas t6_1 = some res ∧ ρ = [(2, .pointer (some (⟨b1, 0, none⟩))), (4, .bool false), (6, .int .i64 t6_1)] ∧ Hp w wl3 [.blk b1 24 [.slice A_a0_worth a0.worth.length c_a0_worth]]) FU ⟨_, ?_, ((0 : Int)), F, rfl, H⟩ ?_
      · exact ⟨rfl, rfl, rfl, trivial⟩
      rintro mk1 _ wl3 ⟨t6_1, F, rfl, H⟩
      have R0 := H.ext
      replace F := law04_Long_L1_s F
      obtain ⟨mk1, rfl, F⟩ := F
      generalize hrec1 : law04_Long_L1 a0 mk1 = rec1 at F
      unfold law04_Long_B1 at F
      refine CW.seq fun K5 hK5 => ?_
      refine CW.seq fun K6 hK6 => ?_
      refine CW.region ?_
      refine LW.pure rfl rfl (RV.move rfl) ?_
      refine LW.pure rfl rfl (RV.fieldAddr Tf24_0 rfl) ?_
      refine LW.pure rfl rfl (RV.load1 Tk22 rfl ((H.blk 0 rfl).cells.off 0) rfl) ?_
      refine LW.pure rfl rfl (RV.len Ts22 rfl) ?_
      refine LW.pure rfl rfl (RV.lss rfl rfl) ?_
      refine LW.nil (hK6 _ _ ?_)
      by_cases hp1 : t6_1 < ((a0.worth.length : Int))
      ·
        replace F := ite_y hp1 F
        have hq1 := dec_t hp1
        refine CW.condT rfl hq1 ?_
        refine CW.skip (hK5 _ _ ?_)
        refine CW.seq fun K7 hK7 => ?_
        refine CW.block ?_
        refine CW.seq fun K8 hK8 => ?_
        obtain ⟨x1, hbx1, hx1, F⟩ := ix_some F
        refine CW.region ?_
        refine LW.pure rfl rfl (RV.fieldAddr Tf24_0 rfl) ?_
        refine LW.pure rfl rfl (RV.load1 Tk22 rfl ((H.blk 0 rfl).cells.off 0) rfl) ?_
        refine LW.pure rfl rfl (RV.move rfl) ?_
        obtain ⟨A1, c1, hC1, hS1⟩ := h_a0_worth.at_ hx1
        refine LW.pure rfl rfl (RV.indexAddr Ts22 rfl rfl hbx1 (h_a0_worth.addr hbx1)) ?_
        refine LW.pure rfl rfl (RV.load1 Tk25 rfl (hC1.ext R0) rfl) ?_
        refine LW.pure rfl rfl (RV.len Ts25 rfl) ?_
        refine LW.pure rfl rfl (RV.gtr rfl rfl) ?_
        refine LW.nil (hK8 _ _ ?_)
        by_cases hp2 : (50 : Int) < ((x1.length : Int))
        ·
          replace F := ite_y hp2 F
          have hq2 := dec_t hp2
          refine CW.condT rfl hq2 ?_
          refine CW.seq fun K9 hK9 => ?_
          refine CW.region ?_
          refine LW.pure rfl rfl (RV.assign rfl) ?_
          refine LW.nil (hK9 _ _ ?_)
          refine CW.ret ?_
          obtain rfl := Option.some.inj F
          refine ⟨_, (ResOK.one rfl), ?_⟩
          refine ⟨(by first | rfl | simp), R0⟩
        ·
          replace F := ite_n hp2 F
          have hq2 := dec_f hp2
          refine CW.condF rfl hq2 ?_
          refine CW.skip (hK7 _ _ ?_)
          obtain ⟨hg1, F⟩ := gd_some F
          refine CW.region ?_
          refine LW.pure rfl rfl (RV.move rfl) ?_
          refine LW.pure rfl rfl (RV.add rfl rfl hg1) ?_
          refine LW.pure rfl rfl (RV.assign rfl) ?_
          refine LW.nil ?_
          subst hrec1
          refine ⟨mk1, Nat.lt_succ_self _, _, ?_, (t6_1 + 1), F, rfl, H⟩
          exact ⟨rfl, rfl, rfl, trivial⟩
      ·
        replace F := ite_n hp1 F
        have hq1 := dec_f hp1
        refine CW.condF rfl hq1 ?_
        refine CW.exit (jK103 _ _ ⟨_, ?_, ⟨F, rfl, H⟩⟩)
        exact ⟨rfl, rfl, trivial⟩
  ·
    intro K10 hK10 jK120
    refine CW.seq fun K11 hK11 => ?_
    refine CW.region ?_
    refine LW.pure rfl rfl (RV.assign rfl) ?_
    refine LW.nil (hK11 _ _ ?_)
    refine CW.block ?_
    refine CW.loop (fun meas ρ wl4 => ∃ (t5_1 : Int), law04_Long_L2 a0 a1 meas t5_1 = some res ∧ ρ = [(1, .slice A_a1 a1.length c_a1), (2, .pointer (some (⟨b1, 0, none⟩))), (4, .bool false), (5, .int .i64 t5_1)] ∧ Hp w wl4 [.blk b1 24 [.slice A_a0_worth a0.worth.length c_a0_worth]]) FU ⟨_, ?_, ((0 : Int)), F, rfl, H⟩ ?_
    · exact ⟨rfl, rfl, rfl, rfl, trivial⟩
    rintro mk2 _ wl4 ⟨t5_1, F, rfl, H⟩
    have R0 := H.ext
    replace F := law04_Long_L2_s F
    obtain ⟨mk2, rfl, F⟩ := F
    generalize hrec2 : law04_Long_L2 a0 a1 mk2 = rec2 at F
    unfold law04_Long_B2 at F
    refine CW.seq fun K12 hK12 => ?_
    refine CW.seq fun K13 hK13 => ?_
    refine CW.region ?_
    refine LW.pure rfl rfl (RV.move rfl) ?_
    refine LW.pure rfl rfl (RV.move rfl) ?_
    refine LW.pure rfl rfl (RV.len Ts22 rfl) ?_
    refine LW.pure rfl rfl (RV.lss rfl rfl) ?_
    refine LW.nil (hK13 _ _ ?_)
    by_cases hp3 : t5_1 < ((a1.length : Int))
    ·
      replace F := ite_y hp3 F
      have hq3 := dec_t hp3
      refine CW.condT rfl hq3 ?_
      refine CW.skip (hK12 _ _ ?_)
      refine CW.seq fun K14 hK14 => ?_
      refine CW.block ?_
      refine CW.seq fun K15 hK15 => ?_
      obtain ⟨x2, hbx2, hx2, F⟩ := ix_some F
      refine CW.region ?_
      refine LW.pure rfl rfl (RV.move rfl) ?_
      refine LW.pure rfl rfl (RV.move rfl) ?_
      obtain ⟨A2, c2, hC2, hS2⟩ := h_a1.at_ hx2
      refine LW.pure rfl rfl (RV.indexAddr Ts22 rfl rfl hbx2 (h_a1.addr hbx2)) ?_
      refine LW.pure rfl rfl (RV.load1 Tk25 rfl (hC2.ext R0) rfl) ?_
      refine LW.pure rfl rfl (RV.len Ts25 rfl) ?_
      refine LW.pure rfl rfl (RV.gtr rfl rfl) ?_
      refine LW.nil (hK15 _ _ ?_)
      by_cases hp4 : (100 : Int) < ((x2.length : Int))
      ·
        replace F := ite_y hp4 F
        have hq4 := dec_t hp4
        refine CW.condT rfl hq4 ?_
        refine CW.seq fun K16 hK16 => ?_
        refine CW.region ?_
        refine LW.pure rfl rfl (RV.assign rfl) ?_
        refine LW.nil (hK16 _ _ ?_)
        refine CW.ret ?_
        obtain rfl := Option.some.inj F
        refine ⟨_, (ResOK.one rfl), ?_⟩
        refine ⟨(by first | rfl | simp), R0⟩
      ·
        replace F := ite_n hp4 F
        have hq4 := dec_f hp4
        refine CW.condF rfl hq4 ?_
        refine CW.skip (hK14 _ _ ?_)
        obtain ⟨hg2, F⟩ := gd_some F
        refine CW.region ?_
        refine LW.pure rfl rfl (RV.move rfl) ?_
        refine LW.pure rfl rfl (RV.add rfl rfl hg2) ?_
        refine LW.pure rfl rfl (RV.assign rfl) ?_
        refine LW.nil ?_
        subst hrec2
        refine ⟨mk2, Nat.lt_succ_self _, _, ?_, (t5_1 + 1), F, rfl, H⟩
        exact ⟨rfl, rfl, rfl, rfl, trivial⟩
    ·
      replace F := ite_n hp3 F
      have hq3 := dec_f hp3
      refine CW.condF rfl hq3 ?_
      refine CW.exit (jK120 _ _ ⟨_, ?_, ⟨F, rfl, H⟩⟩)
      exact ⟨rfl, rfl, trivial⟩
set_option maxRecDepth 20000 in
set_option maxHeartbeats 1000000 in
theorem cut_from_ok {a0 : Int} {a1 : Int} {a2 : Int} {w : World} {res : Bool} (F : cut_from a0 a1 a2 = some res) : Calls Try.prog 67 #[.int .i64 a0, .int .i64 a1, .int .i64 a2] w (Rt w (.bool res)) := by
  refine calls_of_cw (args := [.int .i64 a0, .int .i64 a1, .int .i64 a2]) Try.func67 rfl rfl rfl rfl ?_
  have H := Hp.start w
  have R0 := H.ext
  unfold cut_from at F
  refine CW.seq fun K1 hK1 => ?_
  refine CW.region ?_
  refine LW.pure rfl rfl (RV.assign rfl) ?_
  refine LW.nil (hK1 _ _ ?_)
  refine CW.seq fun K2 hK2 => ?_
  by_cases hp1 : a1 ≤ a0
  ·
    replace F := ite_y hp1 F
    have hq1 := dec_t hp1
    refine CW.region ?_
    refine LW.pure rfl rfl (RV.move rfl) ?_
    refine LW.pure rfl rfl (RV.move rfl) ?_
    refine LW.pure rfl rfl (RV.leq rfl rfl) ?_
    refine LW.pure rfl rfl (RV.move rfl) ?_
    refine LW.pureYB rfl rfl rfl rfl hq1 (RV.move rfl) ?_
    refine LW.pureYB rfl rfl rfl rfl hq1 (RV.move rfl) ?_
    refine LW.pureYB rfl rfl rfl rfl hq1 (RV.leq rfl rfl) ?_
    refine LW.pure rfl rfl (RV.pickTB rfl hq1 rfl) ?_
    refine LW.pure rfl rfl (RV.assign rfl) ?_
    refine LW.nil (hK2 _ _ ?_)
    refine CW.ret ?_
    obtain rfl := Option.some.inj F
    refine ⟨_, (ResOK.one rfl), ?_⟩
    refine ⟨(by first | rfl | simp), R0⟩
  ·
    replace F := ite_n hp1 F
    have hq1 := dec_f hp1
    refine CW.region ?_
    refine LW.pure rfl rfl (RV.move rfl) ?_
    refine LW.pure rfl rfl (RV.move rfl) ?_
    refine LW.pure rfl rfl (RV.leq rfl rfl) ?_
    refine LW.pure rfl rfl (RV.move rfl) ?_
    refine LW.noB rfl rfl rfl rfl (ne_beq (v := false) hq1 rfl) ?_
    refine LW.noB rfl rfl rfl rfl (ne_beq (v := false) hq1 rfl) ?_
    refine LW.noB rfl rfl rfl rfl (ne_beq (v := false) hq1 rfl) ?_
    refine LW.pure rfl rfl (RV.pickFB rfl hq1 rfl) ?_
    refine LW.pure rfl rfl (RV.assign rfl) ?_
    refine LW.nil (hK2 _ _ ?_)
    refine CW.ret ?_
    obtain rfl := Option.some.inj F
    refine ⟨_, (ResOK.one rfl), ?_⟩
    refine ⟨(by first | rfl | simp), R0⟩
set_option maxRecDepth 20000 in
set_option maxHeartbeats 1000000 in
theorem cut_depth_ok {a0 : Bog} {A_a0_worth : Option Addr} {c_a0_worth : Nat} {w : World} {res : Int} (h_a0_worth : Sl2 w A_a0_worth c_a0_worth 1 encN a0.worth) (F : cut_depth a0 = some res) : Calls Try.prog 68 #[.agg #[.slice A_a0_worth a0.worth.length c_a0_worth]] w (Rt w (.int .i64 res)) := by
  refine calls_of_cw (args := [.agg #[.slice A_a0_worth a0.worth.length c_a0_worth]]) Try.func68 rfl rfl rfl rfl ?_
  have H := Hp.start w
  have R0 := H.ext
  unfold cut_depth at F
  refine CW.seq fun K1 hK1 => ?_
  refine CW.region ?_
  refine LW.go rfl rfl (OW.box rfl fun b1 w1 N1 => ?_)
  replace H := H.new N1 N1.blk
  replace R0 := H.ext
  refine LW.pure rfl rfl (RV.assign rfl) ?_
  refine LW.nil (hK1 _ _ ?_)
  refine CW.seq fun K2 hK2 => ?_
  obtain ⟨x1, hbx1, hx1, F⟩ := ix_some F
  refine CW.region ?_
  refine LW.pure rfl rfl (RV.fieldAddr Tf24_0 rfl) ?_
  refine LW.pure rfl rfl (RV.load1 Tk22 rfl ((H.blk 0 rfl).cells.off 0) rfl) ?_
  obtain ⟨A1, c1, hC1, hS1⟩ := h_a0_worth.at_ hx1
  refine LW.pure rfl rfl (RV.indexAddr Ts22 rfl rfl hbx1 (h_a0_worth.addr hbx1)) ?_
  refine LW.pure rfl rfl (RV.load1 Tk25 rfl (hC1.ext R0) rfl) ?_
  refine LW.pure rfl rfl (RV.len Ts25 rfl) ?_
  refine LW.pure rfl rfl (RV.assign rfl) ?_
  refine LW.nil (hK2 _ _ ?_)
  refine CW.ret ?_
  obtain rfl := Option.some.inj F
  refine ⟨_, (ResOK.one rfl), ?_⟩
  refine ⟨(by first | rfl | simp), R0⟩
set_option maxRecDepth 20000 in
set_option maxHeartbeats 1000000 in
theorem slices_IndexFunc_int_ok {a0 : List Int} {a1 : Int → Option Bool} {A_a0 : Option Addr} {c_a0 : Nat} {f_a1 : Nat} {p_a1 : Array Value} {q_a1 : Array Value} {w : World} {res : Int} (h_a0 : Sl w A_a0 c_a0 1 (a0.map encN)) (h_a1 : ∀ (x2 : Int) (r : Bool), a1 x2 = some r → ∀ w1, Ext w w1 → CallsV Try.prog f_a1 p_a1 q_a1 #[.int .i64 x2] w1 (Rt w1 (.bool r))) (F : slices_IndexFunc_int a0 a1 = some res) : Calls Try.prog 97 #[.slice A_a0 a0.length c_a0, .func (.func f_a1) p_a1 q_a1] w (Rt w (.int .i64 res)) := by
  refine calls_of_cw (args := [.slice A_a0 a0.length c_a0, .func (.func f_a1) p_a1 q_a1]) Try.func97 rfl rfl rfl rfl ?_
  have H := Hp.start w
  have R0 := H.ext
  unfold slices_IndexFunc_int at F
  refine CW.seq fun K1 hK1 => ?_
  refine CW.region ?_
  refine LW.pure rfl rfl (RV.assign rfl) ?_
  refine LW.nil (hK1 _ _ ?_)
  refine CW.seqJ (fun ρ wl1 => (slices_IndexFunc_int_k1 = some res ∧ ρ = [(4, .int .i64 0)] ∧ Hp w wl1 [])) ?_ ?_
  ·
    rintro _ wl1 ⟨F, rfl, H⟩
    have R0 := H.ext
    unfold slices_IndexFunc_int_k1 at F
    refine CW.seq fun K2 hK2 => ?_
    refine CW.region ?_
    refine LW.pure rfl rfl (RV.assign rfl) ?_
    refine LW.nil (hK2 _ _ ?_)
    refine CW.ret ?_
    obtain rfl := Option.some.inj F
    refine ⟨_, (ResOK.one rfl), ?_⟩
    refine ⟨(by first | rfl | simp), R0⟩
  ·
    intro K3 hK3 jK63
    refine CW.seq fun K4 hK4 => ?_
    refine CW.region ?_
    refine LW.pure rfl rfl (RV.move rfl) ?_
    refine LW.pure rfl rfl (RV.len Ts25 rfl) ?_
    refine LW.pure rfl rfl (RV.move rfl) ?_
    refine LW.nil (hK4 _ _ ?_)
    refine CW.block ?_
    refine CW.loop (fun meas ρ wl2 => ∃ (t8_1 : Int), slices_IndexFunc_int_L1 a0 a1 meas t8_1 = some res ∧ ρ = [(0, .slice A_a0 a0.length c_a0), (1, .func (.func f_a1) p_a1 q_a1), (4, .int .i64 0), (7, .int .i64 ((a0.length : Int))), (8, .int .i64 t8_1)] ∧ Hp w wl2 []) FU ⟨_, ?_, ((0 : Int)), F, rfl, H⟩ ?_
    · exact ⟨rfl, rfl, rfl, rfl, rfl, trivial⟩
    rintro mk1 _ wl2 ⟨t8_1, F, rfl, H⟩
    have R0 := H.ext
    replace F := slices_IndexFunc_int_L1_s F
    obtain ⟨mk1, rfl, F⟩ := F
    generalize hrec1 : slices_IndexFunc_int_L1 a0 a1 mk1 = rec1 at F
    unfold slices_IndexFunc_int_B1 at F
    refine CW.seq fun K5 hK5 => ?_
    refine CW.region ?_
    refine LW.pure rfl rfl (RV.lss rfl rfl) ?_
    refine LW.nil (hK5 _ _ ?_)
    refine CW.seq fun K6 hK6 => ?_
    by_cases hp1 : t8_1 < ((a0.length : Int))
    ·
      replace F := ite_y hp1 F
      have hq1 := dec_t hp1
      refine CW.condT rfl hq1 ?_
      refine CW.skip (hK6 _ _ ?_)
      refine CW.seq fun K7 hK7 => ?_
      refine CW.block ?_
      refine CW.seq fun K8 hK8 => ?_
      refine CW.region ?_
      refine LW.pure rfl rfl (RV.move rfl) ?_
      refine LW.pure rfl rfl (RV.assign rfl) ?_
      refine LW.nil (hK8 _ _ ?_)
      refine CW.seq fun K9 hK9 => ?_
      obtain ⟨x1, hbx1, hx1, F⟩ := ix_some F
      obtain ⟨r1, hr1, F⟩ := bnd_some F
      refine CW.region ?_
      refine LW.pure rfl rfl (RV.move rfl) ?_
      refine LW.pure rfl rfl (RV.move rfl) ?_
      refine LW.pure rfl rfl (RV.move rfl) ?_
      refine LW.pure rfl rfl (RV.indexAddr Ts25 rfl rfl hbx1 (h_a0.addr_ hx1)) ?_
      refine LW.pure rfl rfl (RV.load1 Tk3 rfl ((h_a0.at_ hx1).ext R0) rfl) ?_
      refine LW.go rfl rfl (OW.callV2 rfl rfl rfl (h_a1 _ _ hr1 _ R0) ?_)
      rintro _ w2 ⟨rfl, E1⟩
      refine ⟨_, rfl, ?_⟩
      replace H := H.grow E1
      replace R0 := H.ext
      refine LW.nil (hK9 _ _ ?_)
      by_cases hp2 : r1 = true
      ·
        replace F := ite_y hp2 F
        have hq2 : r1 = true := hp2
        refine CW.condT rfl hq2 ?_
        refine CW.seq fun K10 hK10 => ?_
        refine CW.region ?_
        refine LW.pure rfl rfl (RV.move rfl) ?_
        refine LW.pure rfl rfl (RV.assign rfl) ?_
        refine LW.nil (hK10 _ _ ?_)
        refine CW.ret ?_
        obtain rfl := Option.some.inj F
        refine ⟨_, (ResOK.one rfl), ?_⟩
        refine ⟨(by first | rfl | simp), R0⟩
      ·
        replace F := ite_n hp2 F
        have hq2 : r1 = false := raw_f hp2
        refine CW.condF rfl hq2 ?_
        refine CW.skip (hK7 _ _ ?_)
        obtain ⟨hg1, F⟩ := gd_some F
        refine CW.region ?_
        refine LW.pure rfl rfl (RV.add rfl rfl hg1) ?_
        refine LW.pure rfl rfl (RV.move rfl) ?_
        refine LW.nil ?_
        subst hrec1
        refine ⟨mk1, Nat.lt_succ_self _, _, ?_, (t8_1 + 1), F, rfl, H⟩
        exact ⟨rfl, rfl, rfl, rfl, rfl, trivial⟩
    ·
      replace F := ite_n hp1 F
      have hq1 := dec_f hp1
      refine CW.condF rfl hq1 ?_
      refine CW.exit (jK63 _ _ ⟨_, ?_, ⟨F, rfl, H⟩⟩)
      exact ⟨rfl, trivial⟩
set_option maxRecDepth 20000 in
set_option maxHeartbeats 1000000 in
theorem slices_ContainsFunc_int_ok {a0 : List Int} {a1 : Int → Option Bool} {A_a0 : Option Addr} {c_a0 : Nat} {f_a1 : Nat} {p_a1 : Array Value} {q_a1 : Array Value} {w : World} {res : Bool} (h_a0 : Sl w A_a0 c_a0 1 (a0.map encN)) (h_a1 : ∀ (x0 : Int) (r : Bool), a1 x0 = some r → ∀ w1, Ext w w1 → CallsV Try.prog f_a1 p_a1 q_a1 #[.int .i64 x0] w1 (Rt w1 (.bool r))) (F : slices_ContainsFunc_int a0 a1 = some res) : Calls Try.prog 69 #[.slice A_a0 a0.length c_a0, .func (.func f_a1) p_a1 q_a1] w (Rt w (.bool res)) := by
  refine calls_of_cw (args := [.slice A_a0 a0.length c_a0, .func (.func f_a1) p_a1 q_a1]) Try.func69 rfl rfl rfl rfl ?_
  have H := Hp.start w
  have R0 := H.ext
  unfold slices_ContainsFunc_int at F
  refine CW.seq fun K1 hK1 => ?_
  refine CW.region ?_
  refine LW.pure rfl rfl (RV.assign rfl) ?_
  refine LW.nil (hK1 _ _ ?_)
  refine CW.seq fun K2 hK2 => ?_
  obtain ⟨r1, hr1, F⟩ := bnd_some F
  refine CW.region ?_
  refine LW.pure rfl rfl (RV.move rfl) ?_
  refine LW.pure rfl rfl (RV.move rfl) ?_
  refine LW.go rfl rfl (OW.call Tc97 rfl (slices_IndexFunc_int_ok (a0 := a0) (a1 := a1) (h_a0.ext R0) (fun x0 r hF w1 hE => h_a1 x0 r hF w1 (R0.trans hE)) hr1) ?_)
  rintro _ w2 ⟨rfl, E1⟩
  refine ⟨_, rfl, ?_⟩
  replace H := H.grow E1
  replace R0 := H.ext
  refine LW.pure rfl rfl (RV.geq rfl rfl) ?_
  refine LW.pure rfl rfl (RV.assign rfl) ?_
  refine LW.nil (hK2 _ _ ?_)
  refine CW.ret ?_
  obtain rfl := Option.some.inj F
  refine ⟨_, (ResOK.one rfl), ?_⟩
  refine ⟨(by first | rfl | simp), R0⟩
set_option maxRecDepth 20000 in
set_option maxHeartbeats 1000000 in
theorem cut_Validate_1_ok {a0 : Int} {w : World} {res : Bool} (F : cut_Validate_1 a0 = some res) : Calls Try.prog 70 #[.int .i64 a0] w (Rt w (.bool res)) := by
  refine calls_of_cw (args := [.int .i64 a0]) Try.func70 rfl rfl rfl rfl ?_
  have H := Hp.start w
  have R0 := H.ext
  unfold cut_Validate_1 at F
  refine CW.seq fun K1 hK1 => ?_
  refine CW.region ?_
  refine LW.pure rfl rfl (RV.assign rfl) ?_
  refine LW.nil (hK1 _ _ ?_)
  refine CW.seq fun K2 hK2 => ?_
  obtain ⟨r1, hr1, F⟩ := bnd_some F
  refine CW.region ?_
  refine LW.pure rfl rfl (RV.move rfl) ?_
  refine LW.go rfl rfl (OW.call Tc67 rfl (cut_from_ok (a0 := a0) (a1 := (-50 : Int)) (a2 := (50 : Int)) hr1) ?_)
  rintro _ w1 ⟨rfl, E1⟩
  refine ⟨_, rfl, ?_⟩
  replace H := H.grow E1
  replace R0 := H.ext
  refine LW.pure rfl rfl (RV.not rfl) ?_
  refine LW.pure rfl rfl (RV.assign rfl) ?_
  refine LW.nil (hK2 _ _ ?_)
  refine CW.ret ?_
  obtain rfl := Option.some.inj F
  refine ⟨_, (ResOK.one rfl), ?_⟩
  refine ⟨(by first | rfl | simp), R0⟩
set_option maxRecDepth 20000 in
set_option maxHeartbeats 1000000 in
theorem cut_Validate_ok {a0 : Bog} {A_a0_worth : Option Addr} {c_a0_worth : Nat} {w : World} {res : Int} (h_a0_worth : Sl2 w A_a0_worth c_a0_worth 1 encN a0.worth) (F : cut_Validate a0 = some res) : Calls Try.prog 25 #[.agg #[.slice A_a0_worth a0.worth.length c_a0_worth]] w (Rt w (.int .i64 res)) := by
  refine calls_of_cw (args := [.agg #[.slice A_a0_worth a0.worth.length c_a0_worth]]) Try.func25 rfl rfl rfl rfl ?_
  have H := Hp.start w
  have R0 := H.ext
  unfold cut_Validate at F
  refine CW.seq fun K1 hK1 => ?_
  refine CW.region ?_
  refine LW.go rfl rfl (OW.box rfl fun b1 w1 N1 => ?_)
  replace H := H.new N1 N1.blk
  replace R0 := H.ext
  refine LW.pure rfl rfl (RV.assign rfl) ?_
  refine LW.nil (hK1 _ _ ?_)
  refine CW.seq fun K2 hK2 => ?_
  refine CW.seqJ (fun ρ wl1 => (∃ (t15_1 : Bool), cut_Validate_k3 a0 t15_1 = some res ∧ ρ = [(1, .pointer (some (⟨b1, 0, none⟩))), (2, .int .i64 0), (15, .bool t15_1)] ∧ Hp w wl1 [.blk b1 24 [.slice A_a0_worth a0.worth.length c_a0_worth]])) ?_ ?_
  ·
    rintro _ wl1 ⟨t15_1, F, rfl, H⟩
    have R0 := H.ext
    unfold cut_Validate_k3 at F
    by_cases hp1 : t15_1 = true
    ·
      replace F := ite_y hp1 F
      have hq1 : t15_1 = true := hp1
      refine CW.condT rfl hq1 ?_
      refine CW.seq fun K3 hK3 => ?_
      refine CW.region ?_
      refine LW.pure rfl rfl (RV.assign rfl) ?_
      refine LW.nil (hK3 _ _ ?_)
      refine CW.ret ?_
      obtain rfl := Option.some.inj F
      refine ⟨_, (ResOK.one rfl), ?_⟩
      refine ⟨(by first | rfl | simp), R0⟩
    ·
      replace F := ite_n hp1 F
      have hq1 : t15_1 = false := raw_f hp1
      refine CW.condF rfl hq1 ?_
      refine CW.skip (hK2 _ _ ?_)
      refine CW.seqJ (fun ρ wl2 => (cut_Validate_k1 = some res ∧ ρ = [(2, .int .i64 0)] ∧ Hp w wl2 [])) ?_ ?_
      ·
        rintro _ wl2 ⟨F, rfl, H⟩
        have R0 := H.ext
        unfold cut_Validate_k1 at F
        refine CW.seq fun K4 hK4 => ?_
        refine CW.region ?_
        refine LW.pure rfl rfl (RV.assign rfl) ?_
        refine LW.nil (hK4 _ _ ?_)
        refine CW.ret ?_
        obtain rfl := Option.some.inj F
        refine ⟨_, (ResOK.one rfl), ?_⟩
        refine ⟨(by first | rfl | simp), R0⟩
      ·
        intro K5 hK5 jK68
        refine CW.seq fun K6 hK6 => ?_
        refine CW.region ?_
        refine LW.pure rfl rfl (RV.fieldAddr Tf24_0 rfl) ?_
        refine LW.pure rfl rfl (RV.load1 Tk22 rfl ((H.blk 0 rfl).cells.off 0) rfl) ?_
        refine LW.pure rfl rfl (RV.len Ts22 rfl) ?_
        refine LW.pure rfl rfl (RV.move rfl) ?_
        refine LW.nil (hK6 _ _ ?_)
        refine CW.block ?_
        refine CW.loop (fun meas ρ wl3 => ∃ (t19_1 : Int), cut_Validate_L1 a0 meas t19_1 = some res ∧ ρ = [(1, .pointer (some (⟨b1, 0, none⟩))), (2, .int .i64 0), (17, .slice A_a0_worth a0.worth.length c_a0_worth), (18, .int .i64 ((a0.worth.length : Int))), (19, .int .i64 t19_1)] ∧ Hp w wl3 [.blk b1 24 [.slice A_a0_worth a0.worth.length c_a0_worth]]) FU ⟨_, ?_, ((0 : Int)), F, rfl, H⟩ ?_
        · exact ⟨rfl, rfl, rfl, rfl, rfl, trivial⟩
        rintro mk1 _ wl3 ⟨t19_1, F, rfl, H⟩
        have R0 := H.ext
        replace F := cut_Validate_L1_s F
        obtain ⟨mk1, rfl, F⟩ := F
        generalize hrec1 : cut_Validate_L1 a0 mk1 = rec1 at F
        unfold cut_Validate_B1 at F
        refine CW.seq fun K7 hK7 => ?_
        refine CW.region ?_
        refine LW.pure rfl rfl (RV.lss rfl rfl) ?_
        refine LW.nil (hK7 _ _ ?_)
        refine CW.seq fun K8 hK8 => ?_
        by_cases hp2 : t19_1 < ((a0.worth.length : Int))
        ·
          replace F := ite_y hp2 F
          have hq2 := dec_t hp2
          refine CW.condT rfl hq2 ?_
          refine CW.skip (hK8 _ _ ?_)
          refine CW.seq fun K9 hK9 => ?_
          refine CW.block ?_
          refine CW.seq fun K10 hK10 => ?_
          obtain ⟨x1, hbx1, hx1, F⟩ := ix_some F
          refine CW.region ?_
          obtain ⟨A1, c1, hC1, hS1⟩ := h_a0_worth.at_ hx1
          refine LW.pure rfl rfl (RV.indexAddr Ts22 rfl rfl hbx1 (h_a0_worth.addr hbx1)) ?_
          refine LW.pure rfl rfl (RV.load1 Tk25 rfl (hC1.ext R0) rfl) ?_
          refine LW.pure rfl rfl (RV.assign rfl) ?_
          refine LW.nil (hK10 _ _ ?_)
          refine CW.seqJ (fun ρ wl4 => (∃ (t31_1 : Bool), cut_Validate_k2 t19_1 rec1 t31_1 = some res ∧ ρ = [(1, .pointer (some (⟨b1, 0, none⟩))), (2, .int .i64 0), (17, .slice A_a0_worth a0.worth.length c_a0_worth), (18, .int .i64 ((a0.worth.length : Int))), (19, .int .i64 t19_1), (31, .bool t31_1)] ∧ Hp w wl4 [.blk b1 24 [.slice A_a0_worth a0.worth.length c_a0_worth]])) ?_ ?_
          ·
            rintro _ wl4 ⟨t31_1, F, rfl, H⟩
            have R0 := H.ext
            unfold cut_Validate_k2 at F
            by_cases hp3 : t31_1 = true
            ·
              replace F := ite_y hp3 F
              have hq3 : t31_1 = true := hp3
              refine CW.condT rfl hq3 ?_
              refine CW.seq fun K11 hK11 => ?_
              refine CW.region ?_
              refine LW.pure rfl rfl (RV.assign rfl) ?_
              refine LW.nil (hK11 _ _ ?_)
              refine CW.ret ?_
              obtain rfl := Option.some.inj F
              refine ⟨_, (ResOK.one rfl), ?_⟩
              refine ⟨(by first | rfl | simp), R0⟩
            ·
              replace F := ite_n hp3 F
              have hq3 : t31_1 = false := raw_f hp3
              refine CW.condF rfl hq3 ?_
              refine CW.skip (hK9 _ _ ?_)
              obtain ⟨hg1, F⟩ := gd_some F
              refine CW.region ?_
              refine LW.pure rfl rfl (RV.add rfl rfl hg1) ?_
              refine LW.pure rfl rfl (RV.move rfl) ?_
              refine LW.nil ?_
              subst hrec1
              refine ⟨mk1, Nat.lt_succ_self _, _, ?_, (t19_1 + 1), F, rfl, H⟩
              exact ⟨rfl, rfl, rfl, rfl, rfl, trivial⟩
          ·
            intro K12 hK12 jK87
            obtain ⟨r1, hr1, F⟩ := bnd_some F
            by_cases hp4 : ((x1.length : Int)) = r1
            ·
              replace F := ite_y hp4 F
              have hq4 := dec_t hp4
              obtain ⟨r2, hr2, F⟩ := bnd_some F
              refine CW.region ?_
              refine LW.pure rfl rfl (RV.move rfl) ?_
              refine LW.pure rfl rfl (RV.len Ts25 rfl) ?_
              refine LW.pure rfl rfl (RV.loadA [.slice A_a0_worth a0.worth.length c_a0_worth] Tk24 rfl (H.blk 0 rfl).cells rfl rfl) ?_
              refine LW.go rfl rfl (OW.call Tc68 rfl (cut_depth_ok (a0 := a0) (h_a0_worth.ext R0) hr1) ?_)
              rintro _ w2 ⟨rfl, E1⟩
              refine ⟨_, rfl, ?_⟩
              replace H := H.grow E1
              replace R0 := H.ext
              refine LW.pure rfl rfl (RV.nei rfl rfl) ?_
              refine LW.pure rfl rfl (RV.move rfl) ?_
              refine LW.pureYB rfl rfl rfl rfl (not_f hq4) (RV.move rfl) ?_
              refine LW.yesB rfl rfl rfl rfl (not_f hq4) (OW.call Tc69 rfl (slices_ContainsFunc_int_ok (a0 := x1) (a1 := cut_Validate_1) (hS1.ext R0) (fun x2 r hF w3 hE => CallsV.of Tc70 (cut_Validate_1_ok (a0 := x2) hF)) hr2) ?_)
              rintro _ w4 ⟨rfl, E2⟩
              refine ⟨_, rfl, ?_⟩
              replace H := H.grow E2
              replace R0 := H.ext
              refine LW.pure rfl rfl (RV.pickFB rfl (not_f hq4) rfl) ?_
              refine LW.nil (jK87 _ _ ⟨_, ?_, ⟨r2, F, rfl, H⟩⟩)
              exact ⟨rfl, rfl, rfl, rfl, rfl, rfl, trivial⟩
            ·
              replace F := ite_n hp4 F
              have hq4 := dec_f hp4
              refine CW.region ?_
              refine LW.pure rfl rfl (RV.move rfl) ?_
              refine LW.pure rfl rfl (RV.len Ts25 rfl) ?_
              refine LW.pure rfl rfl (RV.loadA [.slice A_a0_worth a0.worth.length c_a0_worth] Tk24 rfl (H.blk 0 rfl).cells rfl rfl) ?_
              refine LW.go rfl rfl (OW.call Tc68 rfl (cut_depth_ok (a0 := a0) (h_a0_worth.ext R0) hr1) ?_)
              rintro _ w5 ⟨rfl, E3⟩
              refine ⟨_, rfl, ?_⟩
              replace H := H.grow E3
              replace R0 := H.ext
              refine LW.pure rfl rfl (RV.nei rfl rfl) ?_
              refine LW.pure rfl rfl (RV.move rfl) ?_
              refine LW.noB rfl rfl rfl rfl (ne_beq (v := true) (not_t hq4) rfl) ?_
              refine LW.noB rfl rfl rfl rfl (ne_beq (v := true) (not_t hq4) rfl) ?_
              refine LW.pure rfl rfl (RV.pickTB rfl (not_t hq4) rfl) ?_
              refine LW.nil (jK87 _ _ ⟨_, ?_, ⟨true, F, rfl, H⟩⟩)
              exact ⟨rfl, rfl, rfl, rfl, rfl, rfl, trivial⟩
        ·
          replace F := ite_n hp2 F
          have hq2 := dec_f hp2
          refine CW.condF rfl hq2 ?_
          replace H := H.pick (L' := []) [] (by decide) rfl
          replace R0 := H.ext
          refine CW.exit (jK68 _ _ ⟨_, ?_, ⟨F, rfl, H⟩⟩)
          exact ⟨rfl, trivial⟩
  ·
    intro K13 hK13 jK88
    obtain ⟨r3, hr3, F⟩ := bnd_some F
    by_cases hp5 : r3 = true
    ·
      replace F := ite_y hp5 F
      have hq5 : r3 = true := hp5
      obtain ⟨r4, hr4, F⟩ := bnd_some F
      obtain ⟨r5, hr5, F⟩ := bnd_some F
      refine CW.region ?_
      refine LW.pure rfl rfl (RV.fieldAddr Tf24_0 rfl) ?_
      refine LW.pure rfl rfl (RV.load1 Tk22 rfl ((H.blk 0 rfl).cells.off 0) rfl) ?_
      refine LW.pure rfl rfl (RV.len Ts22 rfl) ?_
      refine LW.go rfl rfl (OW.call Tc67 rfl (cut_from_ok (a0 := (a0.worth.length : Int)) (a1 := (1 : Int)) (a2 := (6 : Int)) hr3) ?_)
      rintro _ w6 ⟨rfl, E4⟩
      refine ⟨_, rfl, ?_⟩
      replace H := H.grow E4
      replace R0 := H.ext
      refine LW.pure rfl rfl (RV.not rfl) ?_
      refine LW.pure rfl rfl (RV.move rfl) ?_
      refine LW.pureYB rfl rfl rfl rfl (not_f hq5) (RV.loadA [.slice A_a0_worth a0.worth.length c_a0_worth] Tk24 rfl (H.blk 0 rfl).cells rfl rfl) ?_
      refine LW.yesB rfl rfl rfl rfl (not_f hq5) (OW.call Tc68 rfl (cut_depth_ok (a0 := a0) (h_a0_worth.ext R0) hr4) ?_)
      rintro _ w7 ⟨rfl, E5⟩
      refine ⟨_, rfl, ?_⟩
      replace H := H.grow E5
      replace R0 := H.ext
      refine LW.yesB rfl rfl rfl rfl (not_f hq5) (OW.call Tc67 rfl (cut_from_ok (a0 := r4) (a1 := (1 : Int)) (a2 := (4 : Int)) hr5) ?_)
      rintro _ w8 ⟨rfl, E6⟩
      refine ⟨_, rfl, ?_⟩
      replace H := H.grow E6
      replace R0 := H.ext
      refine LW.pureYB rfl rfl rfl rfl (not_f hq5) (RV.not rfl) ?_
      refine LW.pure rfl rfl (RV.pickFB rfl (not_f hq5) rfl) ?_
      refine LW.nil (jK88 _ _ ⟨_, ?_, ⟨(!r5), F, rfl, H⟩⟩)
      exact ⟨rfl, rfl, rfl, trivial⟩
    ·
      replace F := ite_n hp5 F
      have hq5 : r3 = false := raw_f hp5
      refine CW.region ?_
      refine LW.pure rfl rfl (RV.fieldAddr Tf24_0 rfl) ?_
      refine LW.pure rfl rfl (RV.load1 Tk22 rfl ((H.blk 0 rfl).cells.off 0) rfl) ?_
      refine LW.pure rfl rfl (RV.len Ts22 rfl) ?_
      refine LW.go rfl rfl (OW.call Tc67 rfl (cut_from_ok (a0 := (a0.worth.length : Int)) (a1 := (1 : Int)) (a2 := (6 : Int)) hr3) ?_)
      rintro _ w9 ⟨rfl, E7⟩
      refine ⟨_, rfl, ?_⟩
      replace H := H.grow E7
      replace R0 := H.ext
      refine LW.pure rfl rfl (RV.not rfl) ?_
      refine LW.pure rfl rfl (RV.move rfl) ?_
      refine LW.noB rfl rfl rfl rfl (ne_beq (v := true) (not_t hq5) rfl) ?_
      refine LW.noB rfl rfl rfl rfl (ne_beq (v := true) (not_t hq5) rfl) ?_
      refine LW.noB rfl rfl rfl rfl (ne_beq (v := true) (not_t hq5) rfl) ?_
      refine LW.noB rfl rfl rfl rfl (ne_beq (v := true) (not_t hq5) rfl) ?_
      refine LW.pure rfl rfl (RV.pickTB rfl (not_t hq5) rfl) ?_
      refine LW.nil (jK88 _ _ ⟨_, ?_, ⟨true, F, rfl, H⟩⟩)
      exact ⟨rfl, rfl, rfl, trivial⟩
set_option maxRecDepth 20000 in
set_option maxHeartbeats 1000000 in
theorem cut_raise_ok {a0 : List Int} {a1 : Int} {a2 : Int} {a3 : Int} {b_a0 : Nat} {wb : World} {R : List Ck} {w : World} {res : Bool × (List Int)} (hn_a0 : a0.length = 6) (H : Hp wb w ([.own (some ⟨b_a0, 0, none⟩) 6 87 1 (List.map encN a0)] ++ R)) (F : cut_raise a0 a1 a2 a3 = some res) : Calls Try.prog 99 #[.pointer (some ⟨b_a0, 0, none⟩), .int .i64 a1, .int .i64 a2, .int .i64 a3] w (fun e w' => e = .returned (.bool res.1) ∧ res.2.length = a0.length ∧ Hp wb w' ([.own (some ⟨b_a0, 0, none⟩) 6 87 1 (List.map encN res.2)] ++ R)) := by
  refine calls_of_cw (args := [.pointer (some ⟨b_a0, 0, none⟩), .int .i64 a1, .int .i64 a2, .int .i64 a3]) Try.func99 rfl rfl rfl rfl ?_
  have R0 := H.ext
  unfold cut_raise at F
  refine CW.seq fun K1 hK1 => ?_
  refine CW.region ?_
  refine LW.pure rfl rfl (RV.assign rfl) ?_
  refine LW.nil (hK1 _ _ ?_)
  refine CW.seqJ (fun ρ wl1 => (cut_raise_k1 a0 = some res ∧ ρ = [(8, .bool false)] ∧ Hp wb wl1 ([.own (some ⟨b_a0, 0, none⟩) 6 87 1 (List.map encN a0)] ++ R))) ?_ ?_
  ·
    rintro _ wl1 ⟨F, rfl, H⟩
    have R0 := H.ext
    unfold cut_raise_k1 at F
    refine CW.seq fun K2 hK2 => ?_
    refine CW.region ?_
    refine LW.pure rfl rfl (RV.assign rfl) ?_
    refine LW.nil (hK2 _ _ ?_)
    refine CW.ret ?_
    obtain rfl := Option.some.inj F
    refine ⟨_, (ResOK.one rfl), ?_⟩
    exact ⟨(by first | rfl | (simp; done) | (simp; omega)), (by first | rfl | assumption | omega | (simp; done) | (simp; assumption) | (simp; omega)), H⟩
  ·
    intro K3 hK3 jK69
    refine CW.block ?_
    refine CW.loop (fun meas ρ wl2 => ∃ (t1_1 : Int), cut_raise_L1 a0 a2 a3 meas t1_1 = some res ∧ ρ = [(0, .pointer (some ⟨b_a0, 0, none⟩)), (1, .int .i64 t1_1), (2, .int .i64 a2), (3, .int .i64 a3), (8, .bool false)] ∧ Hp wb wl2 ([.own (some ⟨b_a0, 0, none⟩) 6 87 1 (List.map encN a0)] ++ R)) FU ⟨_, ?_, a1, F, rfl, H⟩ ?_
    · exact ⟨rfl, rfl, rfl, rfl, rfl, trivial⟩
    rintro mk1 _ wl2 ⟨t1_1, F, rfl, H⟩
    have R0 := H.ext
    replace F := cut_raise_L1_s F
    obtain ⟨mk1, rfl, F⟩ := F
    generalize hrec1 : cut_raise_L1 a0 a2 a3 mk1 = rec1 at F
    unfold cut_raise_B1 at F
    refine CW.seq fun K4 hK4 => ?_
    refine CW.seq fun K5 hK5 => ?_
    refine CW.region ?_
    refine LW.pure rfl rfl (RV.move rfl) ?_
    refine LW.pure rfl rfl (RV.geq rfl rfl) ?_
    refine LW.nil (hK5 _ _ ?_)
    by_cases hp1 : (0 : Int) ≤ t1_1
    ·
      replace F := ite_y hp1 F
      have hq1 := dec_t hp1
      refine CW.condT rfl hq1 ?_
      refine CW.skip (hK4 _ _ ?_)
      refine CW.seq fun K6 hK6 => ?_
      refine CW.block ?_
      refine CW.seq fun K7 hK7 => ?_
      obtain ⟨x1, hbx1, hx1, F⟩ := ix_some F
      refine CW.region ?_
      refine LW.pure rfl rfl (RV.move rfl) ?_
      refine LW.pure rfl rfl (RV.move rfl) ?_
      refine LW.pure rfl rfl (RV.nilCheck rfl) ?_
      refine LW.pure rfl rfl (RV.indexArr Ta87 rfl rfl ⟨hbx1.1, (by first | exact hbx1.2 | omega | (have q := hbx1.2; simp at q; omega))⟩) ?_
      refine LW.pure rfl rfl (RV.load1 Tk3 rfl ((H.own 0 rfl).sl.at_ hx1) rfl) ?_
      refine LW.pure rfl rfl (RV.move rfl) ?_
      refine LW.pure rfl rfl (RV.lss rfl rfl) ?_
      refine LW.nil (hK7 _ _ ?_)
      by_cases hp2 : x1 < a3
      ·
        replace F := ite_y hp2 F
        have hq2 := dec_t hp2
        refine CW.condT rfl hq2 ?_
        refine CW.seq fun K8 hK8 => ?_
        obtain ⟨x2, hbx2, hx2, F⟩ := ix_some F
        obtain ⟨hg1, F⟩ := gd_some F
        obtain ⟨x3, hbx3, hx3, F⟩ := ix_some F
        refine CW.draw [8] (fun _ => True) (.cons 0 1 (.cons 1 1 (.cons 2 1 (.cons 3 1 (.cons 4 1 (.cons 5 1 (.cons 6 2 (.cons 7 1 (.cons 8 0 .nil))))))))) mixed (by kernel_rfl) fun w1 E1 => ?_
        replace H := H.grow E1
        replace R0 := H.ext
        refine DW.fix rfl rfl rfl (fun _ EQ => RV.move rfl) ?_
        refine DW.fix rfl rfl rfl (fun _ EQ => RV.move rfl) ?_
        refine DW.fix rfl rfl rfl (fun _ EQ => RV.nilCheck rfl) ?_
        refine DW.fix rfl rfl rfl (fun _ EQ => RV.indexArr Ta87 rfl rfl ⟨hbx2.1, (by first | exact hbx2.2 | omega | (have q := hbx2.2; simp at q; omega))⟩) ?_
        refine DW.fix rfl rfl rfl (fun _ EQ => RV.load1 Tk3 rfl (((H.grow EQ).own 0 rfl).sl.at_ hx2) rfl) ?_
        refine DW.fix rfl rfl rfl (fun _ EQ => RV.add rfl rfl hg1) ?_
        refine DW.thru rfl rfl rfl (fun _ EQ => RV.nilCheck rfl) ?_
        refine DW.fix rfl rfl rfl (fun _ EQ => RV.indexArr Ta87 rfl rfl ⟨hbx3.1, (by first | exact hbx3.2 | omega | (have q := hbx3.2; simp at q; omega))⟩) ?_
        refine DW.sole rfl rfl rfl (OW.storeO (enc := encN) (vs := [.int .i64 (x2 + 1)]) 0 (x2 + 1) Tk3 rfl rfl (H.own 0 rfl) (fun _ => rfl) rfl hx3 rfl rfl (by decide) rfl rfl fun w2 M1 O1 => ?_)
        refine ⟨fun h => absurd h (by decide), M1.modx (fun _ _ => trivial), ?_⟩
        replace H : Hp wb w2 ([.own (some ⟨b_a0, 0, none⟩) 6 87 1 (List.map encN ((a0.set (Int.toNat t1_1) (x2 + 1))))] ++ R) := H.mod 0 rfl M1 O1 (.inl rfl)
        replace R0 := H.ext
        refine DW.nil (hK8 _ _ ?_)
        refine CW.seq fun K9 hK9 => ?_
        obtain ⟨hg2, F⟩ := gd_some F
        obtain ⟨hg3, F⟩ := gd_some F
        refine CW.region ?_
        refine LW.pure rfl rfl (RV.move rfl) ?_
        refine LW.pure rfl rfl (RV.nilCheck rfl) ?_
        refine LW.pure rfl rfl (RV.move rfl) ?_
        refine LW.pure rfl rfl (RV.add rfl rfl hg2) ?_
        refine LW.pure rfl rfl (RV.move rfl) ?_
        refine LW.pure rfl rfl (RV.arrLH (l := (a0.set (Int.toNat t1_1) (x2 + 1))) Ta87 rfl rfl rfl (by first | exact hg3 | (have q := hg3; simp at q ⊢; omega) | (simp; omega)) (by first | rfl | omega | (simp; done) | (simp; omega))) ?_
        refine LW.go rfl rfl (OW.clearSub (lo := Int.toNat (t1_1 + 1)) (hi := (Int.toNat a2)) (0 : Int) Ts25 rfl (H.own 0 rfl) (fun _ => rfl) rfl rfl rfl rfl (by first | omega | (simp; omega)) (by first | omega | (simp; omega)) (by first | omega | (simp; omega)) rfl fun vv1 w3 M2 O2 => ?_)
        replace H : Hp wb w3 ([.own (some ⟨b_a0, 0, none⟩) 6 87 1 (List.map encN ((List.take (Int.toNat (t1_1 + 1)) ((a0.set (Int.toNat t1_1) (x2 + 1))) ++ List.replicate ((Int.toNat a2) - Int.toNat (t1_1 + 1)) (0 : Int) ++ List.drop ((Int.toNat a2)) ((a0.set (Int.toNat t1_1) (x2 + 1))))))] ++ R) := H.mod 0 rfl M2 O2 (.inl rfl)
        replace R0 := H.ext
        refine LW.nil (hK9 _ _ ?_)
        refine CW.seq fun K10 hK10 => ?_
        refine CW.region ?_
        refine LW.pure rfl rfl (RV.assign rfl) ?_
        refine LW.nil (hK10 _ _ ?_)
        refine CW.ret ?_
        obtain rfl := Option.some.inj F
        refine ⟨_, (ResOK.one rfl), ?_⟩
        exact ⟨(by first | rfl | (simp; done) | (simp; omega)), (by first | rfl | assumption | omega | (simp; done) | (simp; assumption) | (simp; omega)), H⟩
      ·
        replace F := ite_n hp2 F
        have hq2 := dec_f hp2
        refine CW.condF rfl hq2 ?_
        refine CW.skip (hK6 _ _ ?_)
        obtain ⟨hg4, F⟩ := gd_some F
        refine CW.region ?_
        refine LW.pure rfl rfl (RV.move rfl) ?_
        refine LW.pure rfl rfl (RV.sub rfl rfl hg4) ?_
        refine LW.pure rfl rfl (RV.assign rfl) ?_
        refine LW.nil ?_
        subst hrec1
        refine ⟨mk1, Nat.lt_succ_self _, _, ?_, (t1_1 - 1), F, rfl, H⟩
        exact ⟨rfl, rfl, rfl, rfl, rfl, trivial⟩
    ·
      replace F := ite_n hp1 F
      have hq1 := dec_f hp1
      refine CW.condF rfl hq1 ?_
      refine CW.exit (jK69 _ _ ⟨_, ?_, ⟨F, rfl, H⟩⟩)
      exact ⟨rfl, trivial⟩
set_option maxRecDepth 20000 in
set_option maxHeartbeats 1000000 in
theorem cut_all_ok {a0 : Bog} {A_a0_worth : Option Addr} {c_a0_worth : Nat} {w : World} {res : (List Arr6)} (h_a0_worth : Sl2 w A_a0_worth c_a0_worth 1 encN a0.worth) (F : cut_all a0 = some res) : Calls Try.prog 88 #[.agg #[.slice A_a0_worth a0.worth.length c_a0_worth]] w (fun e w' => ∃ (A1 : Option Addr) (c1 : Nat), e = .returned (.slice A1 res.length c1) ∧ Hp w w' [.own A1 c1 87 6 (List.map encArr6 res)]) := by
  refine calls_of_cw (args := [.agg #[.slice A_a0_worth a0.worth.length c_a0_worth]]) Try.func88 rfl rfl rfl rfl ?_
  have H := Hp.start w
  have R0 := H.ext
  unfold cut_all at F
  refine CW.seq fun K1 hK1 => ?_
  refine CW.region ?_
  refine LW.go rfl rfl (OW.box rfl fun b1 w1 N1 => ?_)
  replace H := H.new N1 N1.blk
  replace R0 := H.ext
  refine LW.pure rfl rfl (RV.assign rfl) ?_
  refine LW.nil (hK1 _ _ ?_)
  refine CW.scope ?_
  refine CW.seq fun K2 hK2 => ?_
  refine CW.region ?_
  refine LW.pure rfl rfl (RV.assign rfl) ?_
  refine LW.nil (hK2 _ _ ?_)
  refine CW.seq fun K3 hK3 => ?_
  refine CW.region ?_
  refine LW.go rfl rfl (OW.alloc Tz87 fun b2 w2 N2 => ?_)
  replace H := H.made' (k := 1) (t := 87) (enc := encN) (l := ([0, 0, 0, 0, 0, 0] : List Int)) N2 N2.blk (fun _ => rfl) rfl (by first | decide | (simp; done) | (simp; omega))
  replace R0 := H.ext
  refine LW.nil (hK3 _ _ ?_)
  refine CW.seq fun K4 hK4 => ?_
  refine CW.region ?_
  refine LW.pure rfl rfl (RV.fieldAddr Tf24_0 rfl) ?_
  refine LW.pure rfl rfl (RV.load1 Tk22 rfl ((H.blk 1 rfl).cells.off 0) rfl) ?_
  refine LW.pure rfl rfl (RV.len Ts22 rfl) ?_
  refine LW.pure rfl rfl (RV.assign rfl) ?_
  refine LW.nil (hK4 _ _ ?_)
  refine CW.seq fun K5 hK5 => ?_
  refine CW.label (hK5 _ _ ?_)
  refine CW.block ?_
  replace H := H.nilOwn 87 6
  replace R0 := H.ext
  refine CW.loop (fun meas ρ wl1 => ∃ (l1 : List Arr6) (l2 : List Int) (Al1 : Option Addr) (cl1 : Nat), cut_all_L2 a0 meas l1 l2 = some res ∧ ρ = [(1, .pointer (some (⟨b1, 0, none⟩))), (2, .slice none 0 0), (3, .slice Al1 l1.length cl1), (4, .pointer (some ⟨b2, 0, none⟩)), (5, .int .i64 ((a0.worth.length : Int)))] ∧ Hp w wl1 [.own Al1 cl1 87 6 (List.map encArr6 l1), .own (some ⟨b2, 0, none⟩) 6 87 1 (List.map encN l2), .blk b1 24 [.slice A_a0_worth a0.worth.length c_a0_worth]] ∧ l2.length = 6) FU ⟨_, ?_, (([] : List Arr6)), (([0, 0, 0, 0, 0, 0] : List Int)), none, 0, F, rfl, H, (show (([0, 0, 0, 0, 0, 0] : List Int)).length = 6 by first | rfl | assumption | omega | (simp; done) | (simp; assumption) | (simp; omega))⟩ ?_
  · exact ⟨rfl, rfl, (look_slice rfl (by first | rfl | (simp; done) | (simp; omega))), rfl, rfl, trivial⟩
  rintro mk1 _ wl1 ⟨l1, l2, Al1, cl1, F, rfl, H, hl1⟩
  have R0 := H.ext
  replace F := cut_all_L2_s F
  obtain ⟨mk1, rfl, F⟩ := F
  generalize hrec1 : cut_all_L2 a0 mk1 = rec1 at F
  unfold cut_all_B2 at F
  refine CW.block ?_
  refine CW.seqJ (fun ρ wl2 => (cut_all_k1 a0 l1 l2 rec1 = some res ∧ ρ = [(1, .pointer (some (⟨b1, 0, none⟩))), (2, .slice none 0 0), (3, .slice Al1 l1.length cl1), (4, .pointer (some ⟨b2, 0, none⟩)), (5, .int .i64 ((a0.worth.length : Int)))] ∧ Hp w wl2 [.own Al1 cl1 87 6 (List.map encArr6 l1), .own (some ⟨b2, 0, none⟩) 6 87 1 (List.map encN l2), .blk b1 24 [.slice A_a0_worth a0.worth.length c_a0_worth]])) ?_ ?_
  ·
    rintro _ wl2 ⟨F, rfl, H⟩
    have R0 := H.ext
    unfold cut_all_k1 at F
    refine CW.seq fun K6 hK6 => ?_
    obtain ⟨hg1, F⟩ := gd_some F
    obtain ⟨x1, hbx1, hx1, F⟩ := ix_some F
    obtain ⟨x2, hbx2, hx2, F⟩ := ix_some F
    obtain ⟨x3, hbx3, hx3, F⟩ := ix_some F
    obtain ⟨x4, hbx4, hx4, F⟩ := ix_some F
    obtain ⟨x5, hbx5, hx5, F⟩ := ix_some F
    obtain ⟨x6, hbx6, hx6, F⟩ := ix_some F
    obtain ⟨hg2, F⟩ := gd_some F
    refine CW.region ?_
    refine LW.pure rfl rfl (RV.move rfl) ?_
    have hL1 := list6 hg1 hx1 hx2 hx3 hx4 hx5 hx6
    refine LW.pure rfl rfl (RV.loadA (vs := [.int .i64 x1, .int .i64 x2, .int .i64 x3, .int .i64 x4, .int .i64 x5, .int .i64 x6]) [.int .i64 x1, .int .i64 x2, .int .i64 x3, .int .i64 x4, .int .i64 x5, .int .i64 x6] Tk87 rfl (fun j v hj => (H.own 1 rfl).flat j v (by rw [hL1]; exact hj)) rfl rfl) ?_
    refine LW.go rfl rfl (OW.buildSlice (e := 87) (vs := [.agg #[.int .i64 x1, .int .i64 x2, .int .i64 x3, .int .i64 x4, .int .i64 x5, .int .i64 x6]]) (cs := [.int .i64 x1, .int .i64 x2, .int .i64 x3, .int .i64 x4, .int .i64 x5, .int .i64 x6]) rfl (fun _ => by kernel_rfl) fun b3 w3 N3 => ?_)
    replace H := H.made' (k := 6) (t := 87) (enc := encArr6) (l := ([(⟨x1, x2, x3, x4, x5, x6⟩ : Arr6)] : List Arr6)) N3 N3.blk (fun _ => rfl) rfl (by first | decide | omega | (simp; done) | (simp; omega))
    replace R0 := H.ext
    refine LW.go rfl rfl (OW.appendG (enc := encArr6) (l := l1) (xs := ([(⟨x1, x2, x3, x4, x5, x6⟩ : Arr6)] : List Arr6)) Ts82 rfl (look_slice rfl (by first | rfl | (simp; done) | (simp; omega))) (H.own 1 rfl) (H.own 0 rfl).sl (fun _ => rfl) rfl rfl hg2 (by decide) fun A2 c2 w4 O1 M1 D1 => ?_)
    replace H : Hp w w4 [.own (some ⟨b3, 0, none⟩) ((([(⟨x1, x2, x3, x4, x5, x6⟩ : Arr6)] : List Arr6)).length) 87 6 (List.map encArr6 (([(⟨x1, x2, x3, x4, x5, x6⟩ : Arr6)] : List Arr6))), .own A2 c2 87 6 (List.map encArr6 ((l1 ++ ([(⟨x1, x2, x3, x4, x5, x6⟩ : Arr6)] : List Arr6)))), .own (some ⟨b2, 0, none⟩) 6 87 1 (List.map encN l2), .blk b1 24 [.slice A_a0_worth a0.worth.length c_a0_worth]] := H.mod 1 rfl M1 O1 D1
    replace R0 := H.ext
    refine LW.pure rfl rfl (RV.assign rfl) ?_
    refine LW.nil (hK6 _ _ ?_)
    refine CW.seq fun K7 hK7 => ?_
    obtain ⟨hg3, F⟩ := gd_some F
    obtain ⟨r1, hr1, F⟩ := bnd_some F
    obtain ⟨r2, hr2, F⟩ := bnd_some F
    refine CW.region ?_
    refine LW.pure rfl rfl (RV.move rfl) ?_
    refine LW.pure rfl rfl (RV.sub rfl rfl hg3) ?_
    refine LW.pure rfl rfl (RV.move rfl) ?_
    refine LW.pure rfl rfl (RV.loadA [.slice A_a0_worth a0.worth.length c_a0_worth] Tk24 rfl (H.blk 3 rfl).cells rfl rfl) ?_
    refine LW.go rfl rfl (OW.call Tc68 rfl (cut_depth_ok (a0 := a0) (h_a0_worth.ext R0) hr1) ?_)
    rintro _ w5 ⟨rfl, E1⟩
    refine ⟨_, rfl, ?_⟩
    replace H := H.grow E1
    replace R0 := H.ext
    replace H := H.pick (L' := [.own (some ⟨b2, 0, none⟩) 6 87 1 (List.map encN l2), .own (some ⟨b3, 0, none⟩) ((([(⟨x1, x2, x3, x4, x5, x6⟩ : Arr6)] : List Arr6)).length) 87 6 (List.map encArr6 (([(⟨x1, x2, x3, x4, x5, x6⟩ : Arr6)] : List Arr6))), .own A2 c2 87 6 (List.map encArr6 ((l1 ++ ([(⟨x1, x2, x3, x4, x5, x6⟩ : Arr6)] : List Arr6)))), .blk b1 24 [.slice A_a0_worth a0.worth.length c_a0_worth]]) [2, 0, 1, 3] (by decide) rfl
    replace R0 := H.ext
    refine LW.go rfl rfl (OW.call Tc99 rfl (cut_raise_ok (a0 := l2) (a1 := ((a0.worth.length : Int)) - 1) (a2 := (a0.worth.length : Int)) (a3 := r1) (R := [.own (some ⟨b3, 0, none⟩) ((([(⟨x1, x2, x3, x4, x5, x6⟩ : Arr6)] : List Arr6)).length) 87 6 (List.map encArr6 (([(⟨x1, x2, x3, x4, x5, x6⟩ : Arr6)] : List Arr6))), .own A2 c2 87 6 (List.map encArr6 ((l1 ++ ([(⟨x1, x2, x3, x4, x5, x6⟩ : Arr6)] : List Arr6)))), .blk b1 24 [.slice A_a0_worth a0.worth.length c_a0_worth]]) (by first | rfl | assumption | omega | (simp; done) | (simp; assumption) | (simp; omega)) H hr2) ?_)
    rintro _ w6 ⟨rfl, hlm113_a0, Hq1⟩
    refine ⟨_, rfl, ?_⟩
    replace H : Hp w w6 [.own (some ⟨b2, 0, none⟩) 6 87 1 (List.map encN r2.2), .own (some ⟨b3, 0, none⟩) ((([(⟨x1, x2, x3, x4, x5, x6⟩ : Arr6)] : List Arr6)).length) 87 6 (List.map encArr6 (([(⟨x1, x2, x3, x4, x5, x6⟩ : Arr6)] : List Arr6))), .own A2 c2 87 6 (List.map encArr6 ((l1 ++ ([(⟨x1, x2, x3, x4, x5, x6⟩ : Arr6)] : List Arr6)))), .blk b1 24 [.slice A_a0_worth a0.worth.length c_a0_worth]] := Hq1
    replace R0 := H.ext
    refine LW.pure rfl rfl (RV.not rfl) ?_
    refine LW.nil (hK7 _ _ ?_)
    by_cases hp1 : r2.1 = true
    ·
      replace F := ite_y hp1 F
      have hq1 : r2.1 = true := hp1
      refine CW.condF rfl (not_f hq1) ?_
      refine CW.skip ?_
      replace H := H.pick (L' := [.own A2 c2 87 6 (List.map encArr6 ((l1 ++ ([(⟨x1, x2, x3, x4, x5, x6⟩ : Arr6)] : List Arr6)))), .own (some ⟨b2, 0, none⟩) 6 87 1 (List.map encN r2.2), .blk b1 24 [.slice A_a0_worth a0.worth.length c_a0_worth]]) [2, 0, 3] (by decide) rfl
      replace R0 := H.ext
      subst hrec1
      refine ⟨mk1, Nat.lt_succ_self _, _, ?_, ((l1 ++ ([(⟨x1, x2, x3, x4, x5, x6⟩ : Arr6)] : List Arr6))), r2.2, A2, c2, F, rfl, H, (show r2.2.length = 6 by first | rfl | assumption | omega | (simp; done) | (simp; assumption) | (simp; omega))⟩
      exact ⟨rfl, rfl, (look_slice rfl (by first | rfl | (simp; done) | (simp; omega))), rfl, rfl, trivial⟩
    ·
      replace F := ite_n hp1 F
      have hq1 : r2.1 = false := raw_f hp1
      refine CW.condT rfl (not_t hq1) ?_
      refine CW.seq fun K8 hK8 => ?_
      refine CW.region ?_
      refine LW.pure rfl rfl (RV.move rfl) ?_
      refine LW.pure rfl rfl (RV.assign rfl) ?_
      refine LW.nil (hK8 _ _ ?_)
      refine CW.ret ?_
      obtain rfl := Option.some.inj F
      refine ⟨_, (ResOK.one rfl), ?_⟩
      replace H := H.pick (L' := [.own A2 c2 87 6 (List.map encArr6 ((l1 ++ ([(⟨x1, x2, x3, x4, x5, x6⟩ : Arr6)] : List Arr6))))]) [2] (by decide) rfl
      replace R0 := H.ext
      exact ⟨A2, c2, (by first | rfl | (simp; done) | (simp; omega)), H⟩
  ·
    intro K9 hK9 jK441
    refine CW.seq fun K10 hK10 => ?_
    refine CW.region ?_
    refine LW.pure rfl rfl (RV.assign rfl) ?_
    refine LW.nil (hK10 _ _ ?_)
    refine CW.block ?_
    refine CW.loop (fun meas ρ wl3 => ∃ (t6_1 : Int), cut_all_L1 a0 l1 l2 rec1 meas t6_1 = some res ∧ ρ = [(1, .pointer (some (⟨b1, 0, none⟩))), (2, .slice none 0 0), (3, .slice Al1 l1.length cl1), (4, .pointer (some ⟨b2, 0, none⟩)), (5, .int .i64 ((a0.worth.length : Int))), (6, .int .i64 t6_1)] ∧ Hp w wl3 [.own Al1 cl1 87 6 (List.map encArr6 l1), .own (some ⟨b2, 0, none⟩) 6 87 1 (List.map encN l2), .blk b1 24 [.slice A_a0_worth a0.worth.length c_a0_worth]]) FU ⟨_, ?_, ((1 : Int)), F, rfl, H⟩ ?_
    · exact ⟨rfl, rfl, (look_slice rfl (by first | rfl | (simp; done) | (simp; omega))), rfl, rfl, rfl, trivial⟩
    rintro mk2 _ wl3 ⟨t6_1, F, rfl, H⟩
    have R0 := H.ext
    replace F := cut_all_L1_s F
    obtain ⟨mk2, rfl, F⟩ := F
    generalize hrec2 : cut_all_L1 a0 l1 l2 rec1 mk2 = rec2 at F
    unfold cut_all_B1 at F
    refine CW.seq fun K11 hK11 => ?_
    refine CW.seq fun K12 hK12 => ?_
    refine CW.region ?_
    refine LW.pure rfl rfl (RV.move rfl) ?_
    refine LW.pure rfl rfl (RV.move rfl) ?_
    refine LW.pure rfl rfl (RV.lss rfl rfl) ?_
    refine LW.nil (hK12 _ _ ?_)
    by_cases hp2 : t6_1 < ((a0.worth.length : Int))
    ·
      replace F := ite_y hp2 F
      have hq2 := dec_t hp2
      refine CW.condT rfl hq2 ?_
      refine CW.skip (hK11 _ _ ?_)
      refine CW.seq fun K13 hK13 => ?_
      refine CW.block ?_
      refine CW.seq fun K14 hK14 => ?_
      refine CW.seq fun K15 hK15 => ?_
      obtain ⟨x7, hbx7, hx7, F⟩ := ix_some F
      obtain ⟨hg4, F⟩ := gd_some F
      obtain ⟨x8, hbx8, hx8, F⟩ := ix_some F
      obtain ⟨hg5, F⟩ := gd_some F
      obtain ⟨r3, hr3, F⟩ := bnd_some F
      refine CW.draw [] (fun _ => True) (.cons 0 1 (.cons 1 1 (.cons 2 1 (.cons 3 1 (.cons 4 1 (.cons 5 1 (.cons 6 1 (.cons 7 1 (.cons 8 0 .nil))))))))) mixed (by kernel_rfl) fun w7 E2 => ?_
      replace H := H.grow E2
      replace R0 := H.ext
      refine DW.fix rfl rfl rfl (fun _ EQ => RV.move rfl) ?_
      refine DW.fix rfl rfl rfl (fun _ EQ => RV.indexArr Ta87 rfl rfl ⟨hbx7.1, (by first | exact hbx7.2 | omega | (have q := hbx7.2; simp at q; omega))⟩) ?_
      refine DW.fix rfl rfl rfl (fun _ EQ => RV.load1 Tk3 rfl (((H.grow EQ).own 1 rfl).sl.at_ hx7) rfl) ?_
      refine DW.fix rfl rfl rfl (fun _ EQ => RV.move rfl) ?_
      refine DW.fix rfl rfl rfl (fun _ EQ => RV.sub rfl rfl hg4) ?_
      refine DW.fix rfl rfl rfl (fun _ EQ => RV.indexArr Ta87 rfl rfl ⟨hbx8.1, (by first | exact hbx8.2 | omega | (have q := hbx8.2; simp at q; omega))⟩) ?_
      refine DW.fix rfl rfl rfl (fun _ EQ => RV.load1 Tk3 rfl (((H.grow EQ).own 1 rfl).sl.at_ hx8) rfl) ?_
      refine DW.fix rfl rfl rfl (fun _ EQ => RV.sub rfl rfl hg5) ?_
      refine DW.sole rfl rfl rfl (OW.call Tc67 rfl (cut_from_ok (a0 := x7 - x8) (a1 := (-1 : Int)) (a2 := (1 : Int)) hr3) ?_)
      rintro _ w8 ⟨rfl, E3⟩
      refine ⟨_, rfl, fun _ => E3, ModX.ext E3, ?_⟩
      replace H := H.grow E3
      replace R0 := H.ext
      refine DW.nil (hK15 _ _ ?_)
      by_cases hp3 : r3 = true
      ·
        replace F := ite_y hp3 F
        have hq3 : r3 = true := hp3
        refine CW.condT rfl hq3 ?_
        refine CW.exit (hK13 _ _ ?_)
        obtain ⟨hg6, F⟩ := gd_some F
        refine CW.region ?_
        refine LW.pure rfl rfl (RV.move rfl) ?_
        refine LW.pure rfl rfl (RV.add rfl rfl hg6) ?_
        refine LW.pure rfl rfl (RV.assign rfl) ?_
        refine LW.nil ?_
        subst hrec2
        refine ⟨mk2, Nat.lt_succ_self _, _, ?_, (t6_1 + 1), F, rfl, H⟩
        exact ⟨rfl, rfl, (look_slice rfl (by first | rfl | (simp; done) | (simp; omega))), rfl, rfl, rfl, trivial⟩
      ·
        replace F := ite_n hp3 F
        have hq3 : r3 = false := raw_f hp3
        refine CW.condF rfl hq3 ?_
        refine CW.skip (hK14 _ _ ?_)
        refine CW.seq fun K16 hK16 => ?_
        refine CW.seq fun K17 hK17 => ?_
        obtain ⟨x9, hbx9, hx9, F⟩ := ix_some F
        obtain ⟨hg7, F⟩ := gd_some F
        obtain ⟨x10, hbx10, hx10, F⟩ := ix_some F
        refine CW.draw [] (fun _ => True) (.cons 0 1 (.cons 1 1 (.cons 2 1 (.cons 3 1 (.cons 4 1 (.cons 5 1 (.cons 6 1 (.cons 7 1 .nil)))))))) mixed (by kernel_rfl) fun w9 E4 => ?_
        replace H := H.grow E4
        replace R0 := H.ext
        refine DW.fix rfl rfl rfl (fun _ EQ => RV.move rfl) ?_
        refine DW.fix rfl rfl rfl (fun _ EQ => RV.indexArr Ta87 rfl rfl ⟨hbx9.1, (by first | exact hbx9.2 | omega | (have q := hbx9.2; simp at q; omega))⟩) ?_
        refine DW.fix rfl rfl rfl (fun _ EQ => RV.load1 Tk3 rfl (((H.grow EQ).own 1 rfl).sl.at_ hx9) rfl) ?_
        refine DW.fix rfl rfl rfl (fun _ EQ => RV.move rfl) ?_
        refine DW.fix rfl rfl rfl (fun _ EQ => RV.sub rfl rfl hg7) ?_
        refine DW.fix rfl rfl rfl (fun _ EQ => RV.indexArr Ta87 rfl rfl ⟨hbx10.1, (by first | exact hbx10.2 | omega | (have q := hbx10.2; simp at q; omega))⟩) ?_
        refine DW.fix rfl rfl rfl (fun _ EQ => RV.load1 Tk3 rfl (((H.grow EQ).own 1 rfl).sl.at_ hx10) rfl) ?_
        refine DW.fix rfl rfl rfl (fun _ EQ => RV.lss rfl rfl) ?_
        refine DW.nil (hK17 _ _ ?_)
        by_cases hp4 : x9 < x10
        ·
          replace F := ite_y hp4 F
          have hq4 := dec_t hp4
          refine CW.condT rfl hq4 ?_
          refine CW.seq fun K18 hK18 => ?_
          obtain ⟨hg8, F⟩ := gd_some F
          obtain ⟨x11, hbx11, hx11, F⟩ := ix_some F
          obtain ⟨hg9, F⟩ := gd_some F
          obtain ⟨x12, hbx12, hx12, F⟩ := ix_some F
          refine CW.region ?_
          refine LW.pure rfl rfl (RV.move rfl) ?_
          refine LW.pure rfl rfl (RV.move rfl) ?_
          refine LW.pure rfl rfl (RV.sub rfl rfl hg8) ?_
          refine LW.pure rfl rfl (RV.indexArr Ta87 rfl rfl ⟨hbx11.1, (by first | exact hbx11.2 | omega | (have q := hbx11.2; simp at q; omega))⟩) ?_
          refine LW.pure rfl rfl (RV.load1 Tk3 rfl ((H.own 1 rfl).sl.at_ hx11) rfl) ?_
          refine LW.pure rfl rfl (RV.sub rfl rfl hg9) ?_
          refine LW.pure rfl rfl (RV.indexArr Ta87 rfl rfl ⟨hbx12.1, (by first | exact hbx12.2 | omega | (have q := hbx12.2; simp at q; omega))⟩) ?_
          refine LW.go rfl rfl (OW.storeO (enc := encN) (vs := [.int .i64 (x11 - 1)]) 0 (x11 - 1) Tk3 rfl rfl (H.own 1 rfl) (fun _ => rfl) rfl hx12 rfl rfl (by decide) rfl rfl fun w10 M2 O2 => ?_)
          replace H : Hp w w10 [.own Al1 cl1 87 6 (List.map encArr6 l1), .own (some ⟨b2, 0, none⟩) 6 87 1 (List.map encN ((l2.set (Int.toNat t6_1) (x11 - 1)))), .blk b1 24 [.slice A_a0_worth a0.worth.length c_a0_worth]] := H.mod 1 rfl M2 O2 (.inl rfl)
          replace R0 := H.ext
          refine LW.nil (hK18 _ _ ?_)
          refine CW.seq fun K19 hK19 => ?_
          obtain ⟨hg10, F⟩ := gd_some F
          obtain ⟨hg11, F⟩ := gd_some F
          refine CW.region ?_
          refine LW.pure rfl rfl (RV.move rfl) ?_
          refine LW.pure rfl rfl (RV.add rfl rfl hg10) ?_
          refine LW.pure rfl rfl (RV.move rfl) ?_
          refine LW.pure rfl rfl (RV.arrLH (l := (l2.set (Int.toNat t6_1) (x11 - 1))) Ta87 rfl rfl rfl (by first | exact hg11 | (have q := hg11; simp at q ⊢; omega) | (simp; omega)) (by first | rfl | omega | (simp; done) | (simp; omega))) ?_
          refine LW.go rfl rfl (OW.clearSub (lo := Int.toNat (t6_1 + 1)) (hi := (Int.toNat ((a0.worth.length : Int)))) (0 : Int) Ts25 rfl (H.own 1 rfl) (fun _ => rfl) rfl rfl rfl rfl (by first | omega | (simp; omega)) (by first | omega | (simp; omega)) (by first | omega | (simp; omega)) rfl fun vv1 w11 M3 O3 => ?_)
          replace H : Hp w w11 [.own Al1 cl1 87 6 (List.map encArr6 l1), .own (some ⟨b2, 0, none⟩) 6 87 1 (List.map encN ((List.take (Int.toNat (t6_1 + 1)) ((l2.set (Int.toNat t6_1) (x11 - 1))) ++ List.replicate ((Int.toNat ((a0.worth.length : Int))) - Int.toNat (t6_1 + 1)) (0 : Int) ++ List.drop ((Int.toNat ((a0.worth.length : Int)))) ((l2.set (Int.toNat t6_1) (x11 - 1)))))), .blk b1 24 [.slice A_a0_worth a0.worth.length c_a0_worth]] := H.mod 1 rfl M3 O3 (.inl rfl)
          replace R0 := H.ext
          refine LW.nil (hK19 _ _ ?_)
          refine CW.exit ?_
          subst hrec1
          refine ⟨mk1, Nat.lt_succ_self _, _, ?_, l1, ((List.take (Int.toNat (t6_1 + 1)) ((l2.set (Int.toNat t6_1) (x11 - 1))) ++ List.replicate ((Int.toNat ((a0.worth.length : Int))) - Int.toNat (t6_1 + 1)) (0 : Int) ++ List.drop ((Int.toNat ((a0.worth.length : Int)))) ((l2.set (Int.toNat t6_1) (x11 - 1))))), Al1, cl1, F, rfl, H, (show ((List.take (Int.toNat (t6_1 + 1)) ((l2.set (Int.toNat t6_1) (x11 - 1))) ++ List.replicate ((Int.toNat ((a0.worth.length : Int))) - Int.toNat (t6_1 + 1)) (0 : Int) ++ List.drop ((Int.toNat ((a0.worth.length : Int)))) ((l2.set (Int.toNat t6_1) (x11 - 1))))).length = 6 by first | rfl | assumption | omega | (simp; done) | (simp; assumption) | (simp; omega))⟩
          exact ⟨rfl, rfl, (look_slice rfl (by first | rfl | (simp; done) | (simp; omega))), rfl, rfl, trivial⟩
        ·
          replace F := ite_n hp4 F
          have hq4 := dec_f hp4
          refine CW.condF rfl hq4 ?_
          refine CW.skip (hK16 _ _ ?_)
          refine CW.seq fun K20 hK20 => ?_
          refine CW.seq fun K21 hK21 => ?_
          obtain ⟨hg12, F⟩ := gd_some F
          obtain ⟨r4, hr4, F⟩ := bnd_some F
          obtain ⟨r5, hr5, F⟩ := bnd_some F
          refine CW.region ?_
          refine LW.pure rfl rfl (RV.move rfl) ?_
          refine LW.pure rfl rfl (RV.sub rfl rfl hg12) ?_
          refine LW.pure rfl rfl (RV.move rfl) ?_
          refine LW.pure rfl rfl (RV.loadA [.slice A_a0_worth a0.worth.length c_a0_worth] Tk24 rfl (H.blk 2 rfl).cells rfl rfl) ?_
          refine LW.go rfl rfl (OW.call Tc68 rfl (cut_depth_ok (a0 := a0) (h_a0_worth.ext R0) hr4) ?_)
          rintro _ w12 ⟨rfl, E5⟩
          refine ⟨_, rfl, ?_⟩
          replace H := H.grow E5
          replace R0 := H.ext
          replace H := H.pick (L' := [.own (some ⟨b2, 0, none⟩) 6 87 1 (List.map encN l2), .own Al1 cl1 87 6 (List.map encArr6 l1), .blk b1 24 [.slice A_a0_worth a0.worth.length c_a0_worth]]) [1, 0, 2] (by decide) rfl
          replace R0 := H.ext
          refine LW.go rfl rfl (OW.call Tc99 rfl (cut_raise_ok (a0 := l2) (a1 := t6_1 - 1) (a2 := (a0.worth.length : Int)) (a3 := r4) (R := [.own Al1 cl1 87 6 (List.map encArr6 l1), .blk b1 24 [.slice A_a0_worth a0.worth.length c_a0_worth]]) (by first | rfl | assumption | omega | (simp; done) | (simp; assumption) | (simp; omega)) H hr5) ?_)
          rintro _ w13 ⟨rfl, hlm125_a0, Hq2⟩
          refine ⟨_, rfl, ?_⟩
          replace H : Hp w w13 [.own (some ⟨b2, 0, none⟩) 6 87 1 (List.map encN r5.2), .own Al1 cl1 87 6 (List.map encArr6 l1), .blk b1 24 [.slice A_a0_worth a0.worth.length c_a0_worth]] := Hq2
          replace R0 := H.ext
          refine LW.pure rfl rfl (RV.not rfl) ?_
          refine LW.nil (hK21 _ _ ?_)
          by_cases hp5 : r5.1 = true
          ·
            replace F := ite_y hp5 F
            have hq5 : r5.1 = true := hp5
            refine CW.condF rfl (not_f hq5) ?_
            refine CW.skip (hK20 _ _ ?_)
            refine CW.exit ?_
            replace H := H.pick (L' := [.own Al1 cl1 87 6 (List.map encArr6 l1), .own (some ⟨b2, 0, none⟩) 6 87 1 (List.map encN r5.2), .blk b1 24 [.slice A_a0_worth a0.worth.length c_a0_worth]]) [1, 0, 2] (by decide) rfl
            replace R0 := H.ext
            subst hrec1
            refine ⟨mk1, Nat.lt_succ_self _, _, ?_, l1, r5.2, Al1, cl1, F, rfl, H, (show r5.2.length = 6 by first | rfl | assumption | omega | (simp; done) | (simp; assumption) | (simp; omega))⟩
            exact ⟨rfl, rfl, (look_slice rfl (by first | rfl | (simp; done) | (simp; omega))), rfl, rfl, trivial⟩
          ·
            replace F := ite_n hp5 F
            have hq5 : r5.1 = false := raw_f hp5
            refine CW.condT rfl (not_t hq5) ?_
            refine CW.seq fun K22 hK22 => ?_
            refine CW.region ?_
            refine LW.pure rfl rfl (RV.move rfl) ?_
            refine LW.pure rfl rfl (RV.assign rfl) ?_
            refine LW.nil (hK22 _ _ ?_)
            refine CW.ret ?_
            obtain rfl := Option.some.inj F
            refine ⟨_, (ResOK.one rfl), ?_⟩
            replace H := H.pick (L' := [.own Al1 cl1 87 6 (List.map encArr6 l1)]) [1] (by decide) rfl
            replace R0 := H.ext
            exact ⟨Al1, cl1, (by first | rfl | (simp; done) | (simp; omega)), H⟩
    ·
      replace F := ite_n hp2 F
      have hq2 := dec_f hp2
      refine CW.condF rfl hq2 ?_
      refine CW.exit (jK441 _ _ ⟨_, ?_, ⟨F, rfl, H⟩⟩)
      exact ⟨rfl, rfl, (look_slice rfl (by first | rfl | (simp; done) | (simp; omega))), rfl, rfl, trivial⟩
end Go.D4
