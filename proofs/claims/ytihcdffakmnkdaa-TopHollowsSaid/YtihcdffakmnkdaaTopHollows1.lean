/- Lemmas and walks that the proof of this claim uses: Tb27, D4m1D, TbCutOpen, D4m2D, D4m3D, D4m5D, D4m6D, D4m7D, D4m8D, D4m9D, D4m10D, D4m11D, Tb29, Tb30, Tb31, Tb32, Tb34, Tb35, Tb37, Tb44, Tb45, D4w0, D4w1D, D4x0D, D4x1D, D4x2D, D4x3D, D4x4D, D4m1. -/
import Derived.Test.YtihcdffakmnkdaaTopHollows0
set_option linter.unusedVariables false
set_option linter.unusedSimpArgs false
namespace Go.Tb
open Go.RowKit
section
variable {P : Program} {n : Nat} {ops : Array Oper} {Q : Exit → Env → World → Prop} {ρ : Env} {w : World}
variable {d : Option Tmp} {ty : TypeId} {pos : String} {after : Array Edge} {g : Option (Nat × Bool)} {K : Value → World → Prop}
end
end Go.Tb
namespace Go.Tb
def ekBl (x : Bool) : Value := .bool x
end Go.Tb
namespace Go.Tb
section
variable {P : Program} {n : Nat} {ρ : Env} {w : World} {d : Option Tmp} {ty : TypeId} {pos : String} {after : Array Edge} {g : Option (Nat × Bool)}
end
end Go.Tb

set_option linter.unusedVariables false
namespace Go.D4
open Go.Tb
structure Bog where
  worth : List (List Int)
structure Arr6 where
  at0 : Int
  at1 : Int
  at2 : Int
  at3 : Int
  at4 : Int
  at5 : Int
def encArr6 (x : Arr6) : List Value := [.int .i64 x.at0, .int .i64 x.at1, .int .i64 x.at2, .int .i64 x.at3, .int .i64 x.at4, .int .i64 x.at5]
def law04_Long_k1 (a0 : Bog) : Option Bool :=
  some (decide ((50 : Int) < ((a0.worth.length : Int))))
def law04_Long_B1 (a0 : Bog) (rec1 : Int → Option Bool) (t6_1 : Int) : Option Bool :=
  if t6_1 < ((a0.worth.length : Int)) then
    ix a0.worth t6_1 fun x1 =>
    if (50 : Int) < ((x1.length : Int)) then
      some true
    else
      gd (InR (t6_1 + 1)) <|
      rec1 ((t6_1 + 1))
  else
    law04_Long_k1 a0
def law04_Long_L1 (a0 : Bog) : Nat → Int → Option Bool
  | 0, _ => none
  | n_ + 1, t6_1 => law04_Long_B1 a0 (law04_Long_L1 a0 n_) t6_1
theorem law04_Long_L1_s {a0 : Bog} {m_ : Nat} {t6_1 : Int} {res : Bool} (h : law04_Long_L1 a0 m_ t6_1 = some res) : ∃ k, m_ = k + 1 ∧ law04_Long_B1 a0 (law04_Long_L1 a0 k) t6_1 = some res := by
  cases m_ with
  | zero => cases h
  | succ k => exact ⟨k, rfl, h⟩
def law04_Long_k2 (a0 : Bog) : Option Bool :=
  law04_Long_L1 a0 FU (((0 : Int)))
def law04_Long_B2 (a0 : Bog) (a1 : List (List Int)) (rec2 : Int → Option Bool) (t5_1 : Int) : Option Bool :=
  if t5_1 < ((a1.length : Int)) then
    ix a1 t5_1 fun x2 =>
    if (100 : Int) < ((x2.length : Int)) then
      some true
    else
      gd (InR (t5_1 + 1)) <|
      rec2 ((t5_1 + 1))
  else
    law04_Long_k2 a0
def law04_Long_L2 (a0 : Bog) (a1 : List (List Int)) : Nat → Int → Option Bool
  | 0, _ => none
  | n_ + 1, t5_1 => law04_Long_B2 a0 a1 (law04_Long_L2 a0 a1 n_) t5_1
theorem law04_Long_L2_s {a0 : Bog} {a1 : List (List Int)} {m_ : Nat} {t5_1 : Int} {res : Bool} (h : law04_Long_L2 a0 a1 m_ t5_1 = some res) : ∃ k, m_ = k + 1 ∧ law04_Long_B2 a0 a1 (law04_Long_L2 a0 a1 k) t5_1 = some res := by
  cases m_ with
  | zero => cases h
  | succ k => exact ⟨k, rfl, h⟩
def law04_Long (a0 : Bog) (a1 : List (List Int)) : Option Bool :=
  law04_Long_L2 a0 a1 FU (((0 : Int)))
def cut_from (a0 : Int) (a1 : Int) (a2 : Int) : Option Bool :=
  if a1 ≤ a0 then
    some (decide (a0 ≤ a2))
  else
    some false
def cut_depth (a0 : Bog) : Option Int :=
  ix a0.worth 0 fun x1 =>
  some ((x1.length : Int))
def slices_IndexFunc_int_k1 : Option Int :=
  some ((-1 : Int))
def slices_IndexFunc_int_B1 (a0 : List Int) (a1 : Int → Option Bool) (rec1 : Int → Option Int) (t8_1 : Int) : Option Int :=
  if t8_1 < ((a0.length : Int)) then
    ix a0 t8_1 fun x1 =>
    bnd (a1 x1) fun r1 =>
    if r1 = true then
      some t8_1
    else
      gd (InR (t8_1 + 1)) <|
      rec1 ((t8_1 + 1))
  else
    slices_IndexFunc_int_k1
def slices_IndexFunc_int_L1 (a0 : List Int) (a1 : Int → Option Bool) : Nat → Int → Option Int
  | 0, _ => none
  | n_ + 1, t8_1 => slices_IndexFunc_int_B1 a0 a1 (slices_IndexFunc_int_L1 a0 a1 n_) t8_1
theorem slices_IndexFunc_int_L1_s {a0 : List Int} {a1 : Int → Option Bool} {m_ : Nat} {t8_1 : Int} {res : Int} (h : slices_IndexFunc_int_L1 a0 a1 m_ t8_1 = some res) : ∃ k, m_ = k + 1 ∧ slices_IndexFunc_int_B1 a0 a1 (slices_IndexFunc_int_L1 a0 a1 k) t8_1 = some res := by
  cases m_ with
  | zero => cases h
  | succ k => exact ⟨k, rfl, h⟩
def slices_IndexFunc_int (a0 : List Int) (a1 : Int → Option Bool) : Option Int :=
  slices_IndexFunc_int_L1 a0 a1 FU (((0 : Int)))
def slices_ContainsFunc_int (a0 : List Int) (a1 : Int → Option Bool) : Option Bool :=
  bnd (slices_IndexFunc_int a0 a1) fun r1 =>
  some (decide ((0 : Int) ≤ r1))
def cut_Validate_1 (a0 : Int) : Option Bool :=
  bnd (cut_from a0 ((-50 : Int)) ((50 : Int))) fun r1 =>
  some (!r1)
def cut_Validate_k1 : Option Int :=
  some ((0 : Int))
def cut_Validate_k2 (t19_1 : Int) (rec1 : Int → Option Int) (t31_1 : Bool) : Option Int :=
  if t31_1 = true then
    some ((1 : Int))
  else
    gd (InR (t19_1 + 1)) <|
    rec1 ((t19_1 + 1))
def cut_Validate_B1 (a0 : Bog) (rec1 : Int → Option Int) (t19_1 : Int) : Option Int :=
  if t19_1 < ((a0.worth.length : Int)) then
    ix a0.worth t19_1 fun x1 =>
    bnd (cut_depth a0) fun r1 =>
    if ((x1.length : Int)) = r1 then
      bnd (slices_ContainsFunc_int x1 cut_Validate_1) fun r2 =>
      cut_Validate_k2 t19_1 rec1 r2
    else
      cut_Validate_k2 t19_1 rec1 true
  else
    cut_Validate_k1
def cut_Validate_L1 (a0 : Bog) : Nat → Int → Option Int
  | 0, _ => none
  | n_ + 1, t19_1 => cut_Validate_B1 a0 (cut_Validate_L1 a0 n_) t19_1
theorem cut_Validate_L1_s {a0 : Bog} {m_ : Nat} {t19_1 : Int} {res : Int} (h : cut_Validate_L1 a0 m_ t19_1 = some res) : ∃ k, m_ = k + 1 ∧ cut_Validate_B1 a0 (cut_Validate_L1 a0 k) t19_1 = some res := by
  cases m_ with
  | zero => cases h
  | succ k => exact ⟨k, rfl, h⟩
def cut_Validate_k3 (a0 : Bog) (t15_1 : Bool) : Option Int :=
  if t15_1 = true then
    some ((1 : Int))
  else
    cut_Validate_L1 a0 FU (((0 : Int)))
def cut_Validate (a0 : Bog) : Option Int :=
  bnd (cut_from ((a0.worth.length : Int)) ((1 : Int)) ((6 : Int))) fun r3 =>
  if r3 = true then
    bnd (cut_depth a0) fun r4 =>
    bnd (cut_from r4 ((1 : Int)) ((4 : Int))) fun r5 =>
    cut_Validate_k3 a0 ((!r5))
  else
    cut_Validate_k3 a0 true
def cut_raise_k1 (a0 : List Int) : Option (Bool × (List Int)) :=
  some (false, a0)
def cut_raise_B1 (a0 : List Int) (a2 : Int) (a3 : Int) (rec1 : Int → Option (Bool × (List Int))) (t1_1 : Int) : Option (Bool × (List Int)) :=
  if (0 : Int) ≤ t1_1 then
    ix a0 t1_1 fun x1 =>
    if x1 < a3 then
      ix a0 t1_1 fun x2 =>
      gd (InR (x2 + 1)) <|
      ix a0 t1_1 fun x3 =>
      gd (InR (t1_1 + 1)) <|
      gd (0 ≤ (t1_1 + 1) ∧ (t1_1 + 1) ≤ a2 ∧ a2 ≤ 6) <|
      some (true, (List.take (Int.toNat (t1_1 + 1)) ((a0.set (Int.toNat t1_1) (x2 + 1))) ++ List.replicate ((Int.toNat a2) - Int.toNat (t1_1 + 1)) (0 : Int) ++ List.drop ((Int.toNat a2)) ((a0.set (Int.toNat t1_1) (x2 + 1)))))
    else
      gd (InR (t1_1 - 1)) <|
      rec1 ((t1_1 - 1))
  else
    cut_raise_k1 a0
def cut_raise_L1 (a0 : List Int) (a2 : Int) (a3 : Int) : Nat → Int → Option (Bool × (List Int))
  | 0, _ => none
  | n_ + 1, t1_1 => cut_raise_B1 a0 a2 a3 (cut_raise_L1 a0 a2 a3 n_) t1_1
theorem cut_raise_L1_s {a0 : List Int} {a2 : Int} {a3 : Int} {m_ : Nat} {t1_1 : Int} {res : Bool × (List Int)} (h : cut_raise_L1 a0 a2 a3 m_ t1_1 = some res) : ∃ k, m_ = k + 1 ∧ cut_raise_B1 a0 a2 a3 (cut_raise_L1 a0 a2 a3 k) t1_1 = some res := by
  cases m_ with
  | zero => cases h
  | succ k => exact ⟨k, rfl, h⟩
def cut_raise (a0 : List Int) (a1 : Int) (a2 : Int) (a3 : Int) : Option (Bool × (List Int)) :=
  cut_raise_L1 a0 a2 a3 FU a1
def cut_all_k1 (a0 : Bog) (l1 : List Arr6) (l2 : List Int) (rec1 : (List Arr6) → (List Int) → Option ((List Arr6))) : Option ((List Arr6)) :=
  gd (l2.length = 6) <|
  ix l2 0 fun x1 =>
  ix l2 1 fun x2 =>
  ix l2 2 fun x3 =>
  ix l2 3 fun x4 =>
  ix l2 4 fun x5 =>
  ix l2 5 fun x6 =>
  gd (l1.length + (([(⟨x1, x2, x3, x4, x5, x6⟩ : Arr6)] : List Arr6)).length ≤ 1000000) <|
  gd (InR (((a0.worth.length : Int)) - 1)) <|
  bnd (cut_depth a0) fun r1 =>
  bnd (cut_raise l2 (((a0.worth.length : Int)) - 1) ((a0.worth.length : Int)) r1) fun r2 =>
  if r2.1 = true then
    rec1 (((l1 ++ ([(⟨x1, x2, x3, x4, x5, x6⟩ : Arr6)] : List Arr6)))) r2.2
  else
    some ((l1 ++ ([(⟨x1, x2, x3, x4, x5, x6⟩ : Arr6)] : List Arr6)))
def cut_all_B1 (a0 : Bog) (l1 : List Arr6) (l2 : List Int) (rec1 : (List Arr6) → (List Int) → Option ((List Arr6))) (rec2 : Int → Option ((List Arr6))) (t6_1 : Int) : Option ((List Arr6)) :=
  if t6_1 < ((a0.worth.length : Int)) then
    ix l2 t6_1 fun x7 =>
    gd (InR (t6_1 - 1)) <|
    ix l2 (t6_1 - 1) fun x8 =>
    gd (InR (x7 - x8)) <|
    bnd (cut_from (x7 - x8) ((-1 : Int)) ((1 : Int))) fun r3 =>
    if r3 = true then
      gd (InR (t6_1 + 1)) <|
      rec2 ((t6_1 + 1))
    else
      ix l2 t6_1 fun x9 =>
      gd (InR (t6_1 - 1)) <|
      ix l2 (t6_1 - 1) fun x10 =>
      if x9 < x10 then
        gd (InR (t6_1 - 1)) <|
        ix l2 (t6_1 - 1) fun x11 =>
        gd (InR (x11 - 1)) <|
        ix l2 t6_1 fun x12 =>
        gd (InR (t6_1 + 1)) <|
        gd (0 ≤ (t6_1 + 1) ∧ (t6_1 + 1) ≤ ((a0.worth.length : Int)) ∧ ((a0.worth.length : Int)) ≤ 6) <|
        rec1 l1 (((List.take (Int.toNat (t6_1 + 1)) ((l2.set (Int.toNat t6_1) (x11 - 1))) ++ List.replicate ((Int.toNat ((a0.worth.length : Int))) - Int.toNat (t6_1 + 1)) (0 : Int) ++ List.drop ((Int.toNat ((a0.worth.length : Int)))) ((l2.set (Int.toNat t6_1) (x11 - 1))))))
      else
        gd (InR (t6_1 - 1)) <|
        bnd (cut_depth a0) fun r4 =>
        bnd (cut_raise l2 (t6_1 - 1) ((a0.worth.length : Int)) r4) fun r5 =>
        if r5.1 = true then
          rec1 l1 r5.2
        else
          some l1
  else
    cut_all_k1 a0 l1 l2 rec1
def cut_all_L1 (a0 : Bog) (l1 : List Arr6) (l2 : List Int) (rec1 : (List Arr6) → (List Int) → Option ((List Arr6))) : Nat → Int → Option ((List Arr6))
  | 0, _ => none
  | n_ + 1, t6_1 => cut_all_B1 a0 l1 l2 rec1 (cut_all_L1 a0 l1 l2 rec1 n_) t6_1
theorem cut_all_L1_s {a0 : Bog} {l1 : List Arr6} {l2 : List Int} {rec1 : (List Arr6) → (List Int) → Option ((List Arr6))} {m_ : Nat} {t6_1 : Int} {res : (List Arr6)} (h : cut_all_L1 a0 l1 l2 rec1 m_ t6_1 = some res) : ∃ k, m_ = k + 1 ∧ cut_all_B1 a0 l1 l2 rec1 (cut_all_L1 a0 l1 l2 rec1 k) t6_1 = some res := by
  cases m_ with
  | zero => cases h
  | succ k => exact ⟨k, rfl, h⟩
def cut_all_B2 (a0 : Bog) (rec1 : (List Arr6) → (List Int) → Option ((List Arr6))) (l1 : List Arr6) (l2 : List Int) : Option ((List Arr6)) :=
  cut_all_L1 a0 l1 l2 rec1 FU (((1 : Int)))
def cut_all_L2 (a0 : Bog) : Nat → (List Arr6) → (List Int) → Option ((List Arr6))
  | 0, _, _ => none
  | n_ + 1, l1, l2 => cut_all_B2 a0 (cut_all_L2 a0 n_) l1 l2
theorem cut_all_L2_s {a0 : Bog} {m_ : Nat} {l1 : List Arr6} {l2 : List Int} {res : (List Arr6)} (h : cut_all_L2 a0 m_ l1 l2 = some res) : ∃ k, m_ = k + 1 ∧ cut_all_B2 a0 (cut_all_L2 a0 k) l1 l2 = some res := by
  cases m_ with
  | zero => cases h
  | succ k => exact ⟨k, rfl, h⟩
def cut_all (a0 : Bog) : Option ((List Arr6)) :=
  cut_all_L2 a0 FU ((([] : List Arr6))) ((([0, 0, 0, 0, 0, 0] : List Int)))
end Go.D4

namespace Go.Open
open Go.Tb Go.Proofs Go.ChangeShapes Go.WideShapes Go.ChangeAt Go.RowKit Go.Joins Go.Deep
theorem own_ : ownKnob Try.prog.godebug = none := by kernel_rfl
theorem laidOut_ : laidOutB Try.prog = true := by kernel_rfl
theorem cells22_ : Try.prog.cellsOf 22 = 1 := by kernel_rfl
theorem cells24_ : Try.prog.cellsOf 24 = 1 := by kernel_rfl
section
variable {H : Type} {enc : TypeId × Value → H} {W : World} {sp : Nat → Bool} {held : Bool} {r : Reach} {b0 base : Nat} {v : Value} {d : DataW H} {p : List MemPlace}
theorem trod_lt_ {t : TypeId} (h : DataW.Trod enc Try.prog W base sp held t v d p) : ∀ x ∈ p, x.block < W.heap.size := by obtain ⟨m, hm⟩ := h; exact DataW.trod_lt m _ _ _ hm
set_option maxRecDepth 100000 in
theorem open_row {fuel : Nat} {y : DataW H × List MemPlace} (hf : DataW.trod enc Try.prog W base sp held fuel 25 [v] = some y) : ∃ (l : List Int) (A : Option Addr) (c : Nat), v = .slice A l.length c ∧ Sl W A c 1 (l.map encN) := by
  rcases open_ints Try.underlying25 Try.underlying3 (by kernel_rfl) hf with ⟨hcs, _⟩ | ⟨x, l, c, zs, hcs, _, hl, hm, hz, _, hcell, hwz⟩
  · cases hcs
    exact ⟨[], none, 0, rfl, Sl.nil (by omega)⟩
  · cases hcs
    have hzl : l ≤ zs.length := by rw [hz]; split <;> omega
    have htl : (zs.take l).length = l := by simp; omega
    refine ⟨zs.take l, some x, c, by rw [htl], ?_⟩
    · refine Sl.mk_ (len := (zs.take l).length) (by rw [htl]; exact hl) hm (fun _ => rfl) rfl (fun i z hi j u hu => ?_)
      cases j with
      | zero =>
        cases hu
        have hlt := lt_of_at hi
        simp at hlt
        have h2 := hcell i (by omega)
        simp only [List.getElem?_take] at hi
        split at hi
        · simp [List.getD, hi] at h2; simpa using h2
        · cases hi
      | succ j => simp [encN] at hu
set_option maxRecDepth 100000 in
theorem open_ints_ (hv : Value.okWide Try.prog W r b0 25 v) (h : DataW.Trod enc Try.prog W base sp held 25 v d p) : ∃ (l : List Int) (A : Option Addr) (c : Nat), v = .slice A l.length c ∧ Sl W A c 1 (l.map encN) := by
  obtain ⟨a0, len0, cap0, rfl⟩ := okWide_slice Try.underlying25 hv
  obtain ⟨fuel, hf⟩ := h
  exact open_row (by simpa [Value.cells] using hf)
set_option maxRecDepth 100000 in
theorem open_table {fuel : Nat} {y : DataW H × List MemPlace} (hf : DataW.trod enc Try.prog W base sp held fuel 22 [v] = some y) : ∃ (ll : List (List Int)) (A : Option Addr) (c : Nat), v = .slice A ll.length c ∧ Sl2 W A c 1 encN ll := by
  rcases open_slice1 Try.underlying22 (by kernel_rfl) hf with ⟨hcs, _⟩ | ⟨x, l, c, m, n, V, D, Pl, hcs, _, hl, hm, hmm, _, hi⟩
  · cases hcs
    exact ⟨[], none, 0, rfl, Sl2.nil_⟩
  · cases hcs
    have hml : l ≤ m := by rw [hmm]; split <;> omega
    obtain ⟨L, hlen, hL⟩ := ex_list (Q := fun i (q : (Option Addr × Nat) × List Int) => W.cell? (x.add i) = some (.slice q.1.1 q.2.length q.1.2) ∧ Sl W q.1.1 q.1.2 1 (q.2.map encN)) l (fun i hil => by
      obtain ⟨h1, h2⟩ := hi i (by omega)
      obtain ⟨q, A, c', e, hs⟩ := open_row h2
      exact ⟨((A, c'), q), by rw [h1, e], hs⟩)
    have e1 : (L.map (·.2)).length = l := by simp [hlen]
    refine ⟨L.map (·.2), some x, c, by rw [e1], ⟨L.map (·.1), by simp, ?_, fun j h q hj hq => ?_⟩⟩
    · have e2 : (L.map (·.1)).zip (L.map (·.2)) = L := by
        rw [List.zip_map']; simp
      rw [e2]
      refine Sl.mk_ (len := l) hl hm (fun _ => rfl) hlen (fun i z hz j u hu => ?_)
      cases j with
      | zero => cases hu; simpa [encH] using (hL i z hz).1
      | succ j => simp [encH] at hu
    · simp only [List.getElem?_map, Option.map_eq_some_iff] at hj hq
      obtain ⟨z, hz, rfl⟩ := hj
      obtain ⟨z', hz', rfl⟩ := hq
      rw [hz] at hz'; cases hz'
      exact (hL j z hz).2
set_option maxRecDepth 100000 in
theorem open_bog (hv : Value.okWide Try.prog W r b0 24 v) (h : DataW.Trod enc Try.prog W base sp held 24 v d p) : ∃ (b : Go.D4.Bog) (A : Option Addr) (c : Nat), v = .agg #[.slice A b.worth.length c] ∧ Sl2 W A c 1 encN b.worth := by
  obtain ⟨cs, rfl, hsz⟩ := okWide_struct Try.underlying24 hv
  obtain ⟨c0, rfl⟩ : ∃ c0, cs = #[c0] := by
    obtain ⟨l⟩ := cs
    match l, hsz.trans cells24_ with
    | [c0], _ => exact ⟨c0, rfl⟩
  obtain ⟨fuel, hf⟩ := h
  obtain ⟨xs, n, _, _, _, hlen, hfi⟩ := DataW.trod_struct Try.underlying24 hf
  match xs, hlen with
  | [y0], _ =>
    have h0 := hfi 0 _ rfl
    obtain ⟨ll, A, c, rfl, hs⟩ := open_table (v := c0) (y := y0) (by simpa [Value.cells, cells22_] using h0)
    exact ⟨⟨ll⟩, A, c, rfl, hs⟩
end
end Go.Open

set_option linter.unusedVariables false
namespace Go.D4
open Go.Tb
def slices_Clone_int (a0 : List Int) : Option (List Int) :=
  gd ((([] : List Int)).length + a0.length ≤ 1000000) <|
  some ((([] : List Int) ++ a0))
def cut_hollow_list (a0 : Arr6) (a1 : Bog) : Option ((List Int)) :=
  gd (0 ≤ ((a1.worth.length : Int)) ∧ ((a1.worth.length : Int)) ≤ 6) <|
  bnd (slices_Clone_int ((List.take (Int.toNat ((a1.worth.length : Int))) (([a0.at0, a0.at1, a0.at2, a0.at3, a0.at4, a0.at5] : List Int))))) fun r1 =>
  some r1
def cut_worth_k1 (t5_1 : Int) : Option Int :=
  some t5_1
def cut_worth_k2 (t12_1 : Int) (rec1 : Int → Int → Option Int) (t5_2 : Int) : Option Int :=
  gd (InR (t12_1 + 1)) <|
  rec1 t5_2 ((t12_1 + 1))
def cut_worth_B1 (t12_1 : Int) (rec1 : Int → Int → Option Int) (x1 : Int) (x2 : List Int) (rec2 : Int → Int → Option Int) (t5_3 : Int) (t25_1 : Int) : Option Int :=
  if t25_1 < (((List.take (Int.toNat x1) x2).length : Int)) then
    ix ((List.take (Int.toNat x1) x2)) t25_1 fun x3 =>
    gd (InR (t5_3 + x3)) <|
    gd (InR (t25_1 + 1)) <|
    rec2 ((t5_3 + x3)) ((t25_1 + 1))
  else
    cut_worth_k2 t12_1 rec1 t5_3
def cut_worth_L1 (t12_1 : Int) (rec1 : Int → Int → Option Int) (x1 : Int) (x2 : List Int) : Nat → Int → Int → Option Int
  | 0, _, _ => none
  | n_ + 1, t5_3, t25_1 => cut_worth_B1 t12_1 rec1 x1 x2 (cut_worth_L1 t12_1 rec1 x1 x2 n_) t5_3 t25_1
theorem cut_worth_L1_s {t12_1 : Int} {rec1 : Int → Int → Option Int} {x1 : Int} {x2 : List Int} {m_ : Nat} {t5_3 : Int} {t25_1 : Int} {res : Int} (h : cut_worth_L1 t12_1 rec1 x1 x2 m_ t5_3 t25_1 = some res) : ∃ k, m_ = k + 1 ∧ cut_worth_B1 t12_1 rec1 x1 x2 (cut_worth_L1 t12_1 rec1 x1 x2 k) t5_3 t25_1 = some res := by
  cases m_ with
  | zero => cases h
  | succ k => exact ⟨k, rfl, h⟩
def cut_worth_B2 (a0 : Bog) (a1 : List Int) (rec1 : Int → Int → Option Int) (t5_4 : Int) (t12_1 : Int) : Option Int :=
  if t12_1 < ((a1.length : Int)) then
    ix a1 t12_1 fun x1 =>
    ix a0.worth t12_1 fun x2 =>
    gd (0 ≤ x1 ∧ x1 ≤ (x2.length : Int)) <|
    cut_worth_L1 t12_1 rec1 x1 x2 FU t5_4 (((0 : Int)))
  else
    cut_worth_k1 t5_4
def cut_worth_L2 (a0 : Bog) (a1 : List Int) : Nat → Int → Int → Option Int
  | 0, _, _ => none
  | n_ + 1, t5_4, t12_1 => cut_worth_B2 a0 a1 (cut_worth_L2 a0 a1 n_) t5_4 t12_1
theorem cut_worth_L2_s {a0 : Bog} {a1 : List Int} {m_ : Nat} {t5_4 : Int} {t12_1 : Int} {res : Int} (h : cut_worth_L2 a0 a1 m_ t5_4 t12_1 = some res) : ∃ k, m_ = k + 1 ∧ cut_worth_B2 a0 a1 (cut_worth_L2 a0 a1 k) t5_4 t12_1 = some res := by
  cases m_ with
  | zero => cases h
  | succ k => exact ⟨k, rfl, h⟩
def cut_worth (a0 : Bog) (a1 : List Int) : Option Int :=
  cut_worth_L2 a0 a1 FU (((0 : Int))) (((0 : Int)))
def cut_joined_k1 (l1 : List Int) : Option ((List Int)) :=
  some l1
def cut_joined_B1 (a0 : List Int) (a1 : List Int) (a2 : Int → Int → Option Int) (rec1 : Int → (List Int) → Option ((List Int))) (t11_1 : Int) (l2 : List Int) : Option ((List Int)) :=
  if t11_1 < ((a0.length : Int)) then
    ix a0 t11_1 fun x1 =>
    ix a1 t11_1 fun x2 =>
    bnd (a2 x1 x2) fun r1 =>
    gd (l2.length + (([r1] : List Int)).length ≤ 1000000) <|
    gd (InR (t11_1 + 1)) <|
    rec1 ((t11_1 + 1)) (((l2 ++ ([r1] : List Int))))
  else
    cut_joined_k1 l2
def cut_joined_L1 (a0 : List Int) (a1 : List Int) (a2 : Int → Int → Option Int) : Nat → Int → (List Int) → Option ((List Int))
  | 0, _, _ => none
  | n_ + 1, t11_1, l2 => cut_joined_B1 a0 a1 a2 (cut_joined_L1 a0 a1 a2 n_) t11_1 l2
theorem cut_joined_L1_s {a0 : List Int} {a1 : List Int} {a2 : Int → Int → Option Int} {m_ : Nat} {t11_1 : Int} {l2 : List Int} {res : (List Int)} (h : cut_joined_L1 a0 a1 a2 m_ t11_1 l2 = some res) : ∃ k, m_ = k + 1 ∧ cut_joined_B1 a0 a1 a2 (cut_joined_L1 a0 a1 a2 k) t11_1 l2 = some res := by
  cases m_ with
  | zero => cases h
  | succ k => exact ⟨k, rfl, h⟩
def cut_joined (a0 : List Int) (a1 : List Int) (a2 : Int → Int → Option Int) : Option ((List Int)) :=
  cut_joined_L1 a0 a1 a2 FU (((0 : Int))) ((([] : List Int)))
def cut_best_k1 (t7_1 : Int) (l1 : List Int) : Option ((List Int) × Int) :=
  some (l1, t7_1)
def cut_best_k2 (t15_1 : Int) (rec1 : Int → Int → (List Int) → Option ((List Int) × Int)) (t7_2 : Int) (l2 : List Int) : Option ((List Int) × Int) :=
  gd (InR (t15_1 + 1)) <|
  rec1 t7_2 ((t15_1 + 1)) l2
def cut_best_k3 (a1 : Int → Int → Option Int) (t7_3 : Int) (t15_1 : Int) (l3 : List Int) (rec1 : Int → Int → (List Int) → Option ((List Int) × Int)) (r1 : (List Int)) (r2 : Int) (t26_1 : Bool) : Option ((List Int) × Int) :=
  if t26_1 = true then
    cut_best_k2 t15_1 rec1 r2 r1
  else
    if r2 = t7_3 then
      bnd (cut_joined l3 r1 a1) fun r3 =>
      cut_best_k2 t15_1 rec1 t7_3 r3
    else
      cut_best_k2 t15_1 rec1 t7_3 l3
def cut_best_B1 (a0 : Bog) (a1 : Int → Int → Option Int) (r4 : (List Arr6)) (rec1 : Int → Int → (List Int) → Option ((List Int) × Int)) (t7_3 : Int) (t15_1 : Int) (l3 : List Int) : Option ((List Int) × Int) :=
  if t15_1 < ((r4.length : Int)) then
    ix r4 t15_1 fun x1 =>
    gd ((([x1.at0, x1.at1, x1.at2, x1.at3, x1.at4, x1.at5] : List Int)).length = 6) <|
    ix (([x1.at0, x1.at1, x1.at2, x1.at3, x1.at4, x1.at5] : List Int)) 0 fun x2 =>
    ix (([x1.at0, x1.at1, x1.at2, x1.at3, x1.at4, x1.at5] : List Int)) 1 fun x3 =>
    ix (([x1.at0, x1.at1, x1.at2, x1.at3, x1.at4, x1.at5] : List Int)) 2 fun x4 =>
    ix (([x1.at0, x1.at1, x1.at2, x1.at3, x1.at4, x1.at5] : List Int)) 3 fun x5 =>
    ix (([x1.at0, x1.at1, x1.at2, x1.at3, x1.at4, x1.at5] : List Int)) 4 fun x6 =>
    ix (([x1.at0, x1.at1, x1.at2, x1.at3, x1.at4, x1.at5] : List Int)) 5 fun x7 =>
    bnd (cut_hollow_list ((⟨x2, x3, x4, x5, x6, x7⟩ : Arr6)) a0) fun r1 =>
    bnd (cut_worth a0 r1) fun r2 =>
    if t15_1 = 0 then
      cut_best_k3 a1 t7_3 t15_1 l3 rec1 r1 r2 true
    else
      cut_best_k3 a1 t7_3 t15_1 l3 rec1 r1 r2 ((decide (t7_3 < r2)))
  else
    cut_best_k1 t7_3 l3
def cut_best_L1 (a0 : Bog) (a1 : Int → Int → Option Int) (r4 : (List Arr6)) : Nat → Int → Int → (List Int) → Option ((List Int) × Int)
  | 0, _, _, _ => none
  | n_ + 1, t7_3, t15_1, l3 => cut_best_B1 a0 a1 r4 (cut_best_L1 a0 a1 r4 n_) t7_3 t15_1 l3
theorem cut_best_L1_s {a0 : Bog} {a1 : Int → Int → Option Int} {r4 : (List Arr6)} {m_ : Nat} {t7_3 : Int} {t15_1 : Int} {l3 : List Int} {res : (List Int) × Int} (h : cut_best_L1 a0 a1 r4 m_ t7_3 t15_1 l3 = some res) : ∃ k, m_ = k + 1 ∧ cut_best_B1 a0 a1 r4 (cut_best_L1 a0 a1 r4 k) t7_3 t15_1 l3 = some res := by
  cases m_ with
  | zero => cases h
  | succ k => exact ⟨k, rfl, h⟩
def cut_best (a0 : Bog) (a1 : Int → Int → Option Int) : Option ((List Int) × Int) :=
  bnd (cut_all a0) fun r4 =>
  cut_best_L1 a0 a1 r4 FU (((0 : Int))) (((0 : Int))) ((([] : List Int)))
def cut_smaller (a0 : Int) (a1 : Int) : Option Int :=
  some (min a0 a1)
def cut_Best (a0 : Bog) : Option ((List Int) × Int × Int) :=
  bnd (cut_Validate a0) fun r1 =>
  if r1 = 0 then
    bnd (cut_best a0 cut_smaller) fun r2 =>
    some (r2.1, r2.2, (0 : Int))
  else
    some (([] : List Int), (0 : Int), r1)
def cut_Count (a0 : Bog) : Option (Int × Int) :=
  bnd (cut_Validate a0) fun r1 =>
  if r1 = 0 then
    bnd (cut_all a0) fun r2 =>
    some ((r2.length : Int), (0 : Int))
  else
    some ((0 : Int), r1)
end Go.D4

set_option linter.unusedVariables false
namespace Go.D4
open Go.Tb
def cut_isList_1 (cap0 : Bog) (a0 : Int) : Option Bool :=
  bnd (cut_depth cap0) fun r1 =>
  bnd (cut_from a0 ((0 : Int)) r1) fun r2 =>
  some (!r2)
def cut_isList_k1 (t21_1 : Bool) : Option Int :=
  if t21_1 = true then
    some ((1 : Int))
  else
    some ((0 : Int))
def cut_isList (a0 : Bog) (a1 : List Int) : Option Int :=
  bnd (cut_Validate a0) fun r1 =>
  if r1 = 0 then
    if ((a1.length : Int)) = ((a0.worth.length : Int)) then
      bnd (slices_ContainsFunc_int a1 ((fun x0 => cut_isList_1 a0 x0))) fun r2 =>
      cut_isList_k1 r2
    else
      cut_isList_k1 true
  else
    some r1
def cut_right_k1 : Option Bool :=
  some true
def cut_right_B1 (a0 : List Int) (rec1 : Int → Option Bool) (t3_1 : Int) : Option Bool :=
  if t3_1 < ((a0.length : Int)) then
    ix a0 t3_1 fun x1 =>
    gd (InR (t3_1 - 1)) <|
    ix a0 (t3_1 - 1) fun x2 =>
    gd (InR (x1 - x2)) <|
    bnd (cut_from (x1 - x2) ((-1 : Int)) ((1 : Int))) fun r1 =>
    if r1 = true then
      gd (InR (t3_1 + 1)) <|
      rec1 ((t3_1 + 1))
    else
      some false
  else
    cut_right_k1
def cut_right_L1 (a0 : List Int) : Nat → Int → Option Bool
  | 0, _ => none
  | n_ + 1, t3_1 => cut_right_B1 a0 (cut_right_L1 a0 n_) t3_1
theorem cut_right_L1_s {a0 : List Int} {m_ : Nat} {t3_1 : Int} {res : Bool} (h : cut_right_L1 a0 m_ t3_1 = some res) : ∃ k, m_ = k + 1 ∧ cut_right_B1 a0 (cut_right_L1 a0 k) t3_1 = some res := by
  cases m_ with
  | zero => cases h
  | succ k => exact ⟨k, rfl, h⟩
def cut_right (a0 : List Int) : Option Bool :=
  cut_right_L1 a0 FU (((1 : Int)))
def cut_CheckHollow (a0 : Bog) (a1 : List Int) : Option Int :=
  bnd (cut_isList a0 a1) fun r1 =>
  if r1 = 0 then
    bnd (cut_right a1) fun r2 =>
    if r2 = true then
      some ((0 : Int))
    else
      some ((6 : Int))
  else
    some r1
def cut_open (a0 : Bog) (a1 : List Int) (a2 : Int) : Option Bool :=
  bnd (slices_Clone_int a1) fun r1 =>
  ix r1 a2 fun x1 =>
  gd (InR (x1 + 1)) <|
  ix r1 a2 fun x2 =>
  ix ((r1.set (Int.toNat a2) (x1 + 1))) a2 fun x3 =>
  bnd (cut_depth a0) fun r2 =>
  if x3 ≤ r2 then
    bnd (cut_right ((r1.set (Int.toNat a2) (x1 + 1)))) fun r3 =>
    some r3
  else
    some false
end Go.D4

set_option linter.unusedVariables false
namespace Go.D4
open Go.Tb
def cut_Worth (a0 : Bog) (a1 : List Int) : Option (Int × Int) :=
  bnd (cut_CheckHollow a0 a1) fun r1 =>
  if r1 = 0 then
    bnd (cut_worth a0 a1) fun r2 =>
    some (r2, (0 : Int))
  else
    some ((0 : Int), r1)
end Go.D4

set_option linter.unusedVariables false
namespace Go.D4
open Go.Tb
def cut_two (a0 : Bog) (a1 : List Int) (a2 : List Int) : Option Int :=
  bnd (cut_CheckHollow a0 a1) fun r1 =>
  if r1 = 0 then
    bnd (cut_CheckHollow a0 a2) fun r2 =>
    some r2
  else
    some r1
def cut_Both (a0 : Bog) (a1 : List Int) (a2 : List Int) : Option ((List Int) × Int) :=
  bnd (cut_two a0 a1 a2) fun r1 =>
  if r1 = 0 then
    bnd (cut_joined a1 a2 cut_smaller) fun r2 =>
    some (r2, (0 : Int))
  else
    some (([] : List Int), r1)
end Go.D4

set_option linter.unusedVariables false
namespace Go.D4
open Go.Tb
def cut_greater (a0 : Int) (a1 : Int) : Option Int :=
  some (max a0 a1)
def cut_Either (a0 : Bog) (a1 : List Int) (a2 : List Int) : Option ((List Int) × Int) :=
  bnd (cut_two a0 a1 a2) fun r1 =>
  if r1 = 0 then
    bnd (cut_joined a1 a2 cut_greater) fun r2 =>
    some (r2, (0 : Int))
  else
    some (([] : List Int), r1)
end Go.D4

set_option linter.unusedVariables false
namespace Go.D4
open Go.Tb
def cut_Toll_k1 (m1 : List (List Int)) : Option (Bog × Int) :=
  bnd (cut_Validate ((⟨m1⟩ : Bog))) fun r1 =>
  if r1 = 0 then
    some ((⟨m1⟩ : Bog), (0 : Int))
  else
    some ((⟨[]⟩ : Bog), (3 : Int))
def cut_Toll_k2 (t26_1 : Int) (rec1 : Int → (List (List Int)) → Option (Bog × Int)) (m2 : List (List Int)) : Option (Bog × Int) :=
  gd (InR (t26_1 + 1)) <|
  rec1 ((t26_1 + 1)) m2
def cut_Toll_k3 (t26_1 : Int) (m3 : List (List Int)) (rec1 : Int → (List (List Int)) → Option (Bog × Int)) (l1 : List Int) : Option (Bog × Int) :=
  gd (m3.length + 1 ≤ 1000000) <|
  cut_Toll_k2 t26_1 rec1 (((m3 ++ [l1])))
def cut_Toll_B1 (a1 : Int) (t26_1 : Int) (m3 : List (List Int)) (rec1 : Int → (List (List Int)) → Option (Bog × Int)) (x1 : List Int) (rec2 : Int → (List Int) → Option (Bog × Int)) (t32_1 : Int) (l2 : List Int) : Option (Bog × Int) :=
  if t32_1 < ((x1.length : Int)) then
    ix x1 t32_1 fun x2 =>
    gd (InR (x2 - a1)) <|
    gd (l2.length + (([x2 - a1] : List Int)).length ≤ 1000000) <|
    gd (InR (t32_1 + 1)) <|
    rec2 ((t32_1 + 1)) (((l2 ++ ([x2 - a1] : List Int))))
  else
    cut_Toll_k3 t26_1 m3 rec1 l2
def cut_Toll_L1 (a1 : Int) (t26_1 : Int) (m3 : List (List Int)) (rec1 : Int → (List (List Int)) → Option (Bog × Int)) (x1 : List Int) : Nat → Int → (List Int) → Option (Bog × Int)
  | 0, _, _ => none
  | n_ + 1, t32_1, l2 => cut_Toll_B1 a1 t26_1 m3 rec1 x1 (cut_Toll_L1 a1 t26_1 m3 rec1 x1 n_) t32_1 l2
theorem cut_Toll_L1_s {a1 : Int} {t26_1 : Int} {m3 : List (List Int)} {rec1 : Int → (List (List Int)) → Option (Bog × Int)} {x1 : List Int} {m_ : Nat} {t32_1 : Int} {l2 : List Int} {res : Bog × Int} (h : cut_Toll_L1 a1 t26_1 m3 rec1 x1 m_ t32_1 l2 = some res) : ∃ k, m_ = k + 1 ∧ cut_Toll_B1 a1 t26_1 m3 rec1 x1 (cut_Toll_L1 a1 t26_1 m3 rec1 x1 k) t32_1 l2 = some res := by
  cases m_ with
  | zero => cases h
  | succ k => exact ⟨k, rfl, h⟩
def cut_Toll_B2 (a0 : Bog) (a1 : Int) (rec1 : Int → (List (List Int)) → Option (Bog × Int)) (t26_1 : Int) (m3 : List (List Int)) : Option (Bog × Int) :=
  if t26_1 < ((a0.worth.length : Int)) then
    ix a0.worth t26_1 fun x1 =>
    cut_Toll_L1 a1 t26_1 m3 rec1 x1 FU (((0 : Int))) ((([] : List Int)))
  else
    cut_Toll_k1 m3
def cut_Toll_L2 (a0 : Bog) (a1 : Int) : Nat → Int → (List (List Int)) → Option (Bog × Int)
  | 0, _, _ => none
  | n_ + 1, t26_1, m3 => cut_Toll_B2 a0 a1 (cut_Toll_L2 a0 a1 n_) t26_1 m3
theorem cut_Toll_L2_s {a0 : Bog} {a1 : Int} {m_ : Nat} {t26_1 : Int} {m3 : List (List Int)} {res : Bog × Int} (h : cut_Toll_L2 a0 a1 m_ t26_1 m3 = some res) : ∃ k, m_ = k + 1 ∧ cut_Toll_B2 a0 a1 (cut_Toll_L2 a0 a1 k) t26_1 m3 = some res := by
  cases m_ with
  | zero => cases h
  | succ k => exact ⟨k, rfl, h⟩
def cut_Toll (a0 : Bog) (a1 : Int) : Option (Bog × Int) :=
  bnd (cut_Validate a0) fun r2 =>
  if r2 = 0 then
    bnd (cut_from a1 ((-50 : Int)) ((50 : Int))) fun r3 =>
    if r3 = true then
      cut_Toll_L2 a0 a1 FU (((0 : Int))) ((([] : List (List Int))))
    else
      some ((⟨[]⟩ : Bog), (1 : Int))
  else
    some ((⟨[]⟩ : Bog), r2)
end Go.D4

set_option linter.unusedVariables false
namespace Go.D4
open Go.Tb
def cut_Deepest (a0 : Bog) : Option ((List Int) × Int × Int) :=
  bnd (cut_Validate a0) fun r1 =>
  if r1 = 0 then
    bnd (cut_best a0 cut_greater) fun r2 =>
    some (r2.1, r2.2, (0 : Int))
  else
    some (([] : List Int), (0 : Int), r1)
end Go.D4

set_option linter.unusedVariables false
namespace Go.D4
open Go.Tb
def cut_CheckOrder_1 (cap0 : Bog) (a0 : Int) : Option Bool :=
  gd (InR (((cap0.worth.length : Int)) - 1)) <|
  bnd (cut_from a0 ((0 : Int)) (((cap0.worth.length : Int)) - 1)) fun r1 =>
  some (!r1)
def cut_CheckOrder_k1 (a1 : List Int) (l1 : List Int) : Option ((List Int) × Int × Int) :=
  some (l1, (a1.length : Int), (0 : Int))
def cut_CheckOrder_B1 (a0 : Bog) (a1 : List Int) (rec1 : Int → (List Int) → Option ((List Int) × Int × Int)) (t28_1 : Int) (l2 : List Int) : Option ((List Int) × Int × Int) :=
  if t28_1 < ((a1.length : Int)) then
    ix a1 t28_1 fun x1 =>
    bnd (cut_open a0 l2 x1) fun r1 =>
    if r1 = true then
      ix l2 x1 fun x2 =>
      gd (InR (x2 + 1)) <|
      ix l2 x1 fun x3 =>
      gd (InR (t28_1 + 1)) <|
      rec1 ((t28_1 + 1)) (((l2.set (Int.toNat x1) (x2 + 1))))
    else
      some (([] : List Int), t28_1, (6 : Int))
  else
    cut_CheckOrder_k1 a1 l2
def cut_CheckOrder_L1 (a0 : Bog) (a1 : List Int) : Nat → Int → (List Int) → Option ((List Int) × Int × Int)
  | 0, _, _ => none
  | n_ + 1, t28_1, l2 => cut_CheckOrder_B1 a0 a1 (cut_CheckOrder_L1 a0 a1 n_) t28_1 l2
theorem cut_CheckOrder_L1_s {a0 : Bog} {a1 : List Int} {m_ : Nat} {t28_1 : Int} {l2 : List Int} {res : (List Int) × Int × Int} (h : cut_CheckOrder_L1 a0 a1 m_ t28_1 l2 = some res) : ∃ k, m_ = k + 1 ∧ cut_CheckOrder_B1 a0 a1 (cut_CheckOrder_L1 a0 a1 k) t28_1 l2 = some res := by
  cases m_ with
  | zero => cases h
  | succ k => exact ⟨k, rfl, h⟩
def cut_CheckOrder (a0 : Bog) (a1 : List Int) : Option ((List Int) × Int × Int) :=
  bnd (cut_Validate a0) fun r2 =>
  if r2 = 0 then
    if (24 : Int) < ((a1.length : Int)) then
      some (([] : List Int), (0 : Int), (3 : Int))
    else
      bnd (slices_ContainsFunc_int a1 ((fun x4 => cut_CheckOrder_1 a0 x4))) fun r3 =>
      if r3 = true then
        some (([] : List Int), (0 : Int), (4 : Int))
      else
        gd (0 ≤ (a0.worth.length : Int) ∧ ((a0.worth.length : Int)) ≤ 1000000) <|
        cut_CheckOrder_L1 a0 a1 FU (((0 : Int))) (((List.replicate (Int.toNat ((a0.worth.length : Int))) (0 : Int))))
  else
    some (([] : List Int), (0 : Int), r2)
end Go.D4

set_option linter.unusedVariables false
namespace Go.D4
open Go.Tb
def slices_Equal_int_k1 : Option Bool :=
  some true
def slices_Equal_int_B1 (a0 : List Int) (a1 : List Int) (rec1 : Int → Option Bool) (t13_1 : Int) : Option Bool :=
  if t13_1 < ((a0.length : Int)) then
    ix a0 t13_1 fun x1 =>
    ix a1 t13_1 fun x2 =>
    if x1 = x2 then
      gd (InR (t13_1 + 1)) <|
      rec1 ((t13_1 + 1))
    else
      some false
  else
    slices_Equal_int_k1
def slices_Equal_int_L1 (a0 : List Int) (a1 : List Int) : Nat → Int → Option Bool
  | 0, _ => none
  | n_ + 1, t13_1 => slices_Equal_int_B1 a0 a1 (slices_Equal_int_L1 a0 a1 n_) t13_1
theorem slices_Equal_int_L1_s {a0 : List Int} {a1 : List Int} {m_ : Nat} {t13_1 : Int} {res : Bool} (h : slices_Equal_int_L1 a0 a1 m_ t13_1 = some res) : ∃ k, m_ = k + 1 ∧ slices_Equal_int_B1 a0 a1 (slices_Equal_int_L1 a0 a1 k) t13_1 = some res := by
  cases m_ with
  | zero => cases h
  | succ k => exact ⟨k, rfl, h⟩
def slices_Equal_int (a0 : List Int) (a1 : List Int) : Option Bool :=
  if ((a0.length : Int)) = ((a1.length : Int)) then
    slices_Equal_int_L1 a0 a1 FU (((0 : Int)))
  else
    some false
def cut_Order_k1 (l1 : List Int) : Option ((List Int) × Int) :=
  some (l1, (0 : Int))
def cut_Order_k2 (l2 : List Int) (l3 : List Int) (rec1 : (List Int) → (List Int) → Option ((List Int) × Int)) (t25_1 : Int) (rec2 : Int → Option ((List Int) × Int)) (t42_1 : Bool) : Option ((List Int) × Int) :=
  if t42_1 = true then
    ix l3 t25_1 fun x1 =>
    gd (InR (x1 + 1)) <|
    ix l3 t25_1 fun x2 =>
    gd (l2.length + (([t25_1] : List Int)).length ≤ 1000000) <|
    rec1 (((l2 ++ ([t25_1] : List Int)))) (((l3.set (Int.toNat t25_1) (x1 + 1))))
  else
    gd (InR (t25_1 + 1)) <|
    rec2 ((t25_1 + 1))
def cut_Order_B1 (a0 : Bog) (a1 : List Int) (l2 : List Int) (l3 : List Int) (rec1 : (List Int) → (List Int) → Option ((List Int) × Int)) (rec2 : Int → Option ((List Int) × Int)) (t25_1 : Int) : Option ((List Int) × Int) :=
  if t25_1 < ((l3.length : Int)) then
    ix l3 t25_1 fun x3 =>
    ix a1 t25_1 fun x4 =>
    if x3 < x4 then
      bnd (cut_open a0 l3 t25_1) fun r1 =>
      cut_Order_k2 l2 l3 rec1 t25_1 rec2 r1
    else
      cut_Order_k2 l2 l3 rec1 t25_1 rec2 false
  else
    rec1 l2 l3
def cut_Order_L1 (a0 : Bog) (a1 : List Int) (l2 : List Int) (l3 : List Int) (rec1 : (List Int) → (List Int) → Option ((List Int) × Int)) : Nat → Int → Option ((List Int) × Int)
  | 0, _ => none
  | n_ + 1, t25_1 => cut_Order_B1 a0 a1 l2 l3 rec1 (cut_Order_L1 a0 a1 l2 l3 rec1 n_) t25_1
theorem cut_Order_L1_s {a0 : Bog} {a1 : List Int} {l2 : List Int} {l3 : List Int} {rec1 : (List Int) → (List Int) → Option ((List Int) × Int)} {m_ : Nat} {t25_1 : Int} {res : (List Int) × Int} (h : cut_Order_L1 a0 a1 l2 l3 rec1 m_ t25_1 = some res) : ∃ k, m_ = k + 1 ∧ cut_Order_B1 a0 a1 l2 l3 rec1 (cut_Order_L1 a0 a1 l2 l3 rec1 k) t25_1 = some res := by
  cases m_ with
  | zero => cases h
  | succ k => exact ⟨k, rfl, h⟩
def cut_Order_B2 (a0 : Bog) (a1 : List Int) (rec1 : (List Int) → (List Int) → Option ((List Int) × Int)) (l2 : List Int) (l3 : List Int) : Option ((List Int) × Int) :=
  bnd (slices_Equal_int l3 a1) fun r2 =>
  if r2 = true then
    cut_Order_k1 l2
  else
    cut_Order_L1 a0 a1 l2 l3 rec1 FU (((0 : Int)))
def cut_Order_L2 (a0 : Bog) (a1 : List Int) : Nat → (List Int) → (List Int) → Option ((List Int) × Int)
  | 0, _, _ => none
  | n_ + 1, l2, l3 => cut_Order_B2 a0 a1 (cut_Order_L2 a0 a1 n_) l2 l3
theorem cut_Order_L2_s {a0 : Bog} {a1 : List Int} {m_ : Nat} {l2 : List Int} {l3 : List Int} {res : (List Int) × Int} (h : cut_Order_L2 a0 a1 m_ l2 l3 = some res) : ∃ k, m_ = k + 1 ∧ cut_Order_B2 a0 a1 (cut_Order_L2 a0 a1 k) l2 l3 = some res := by
  cases m_ with
  | zero => cases h
  | succ k => exact ⟨k, rfl, h⟩
def cut_Order (a0 : Bog) (a1 : List Int) : Option ((List Int) × Int) :=
  bnd (cut_CheckHollow a0 a1) fun r3 =>
  if r3 = 0 then
    gd (0 ≤ (a1.length : Int) ∧ ((a1.length : Int)) ≤ 1000000) <|
    cut_Order_L2 a0 a1 FU ((([] : List Int))) (((List.replicate (Int.toNat ((a1.length : Int))) (0 : Int))))
  else
    some (([] : List Int), r3)
end Go.D4

set_option linter.unusedVariables false
set_option linter.unusedSimpArgs false
namespace Go.Tb
open Go.RowKit
section
variable {P : Program} {n : Nat} {ops : Array Oper} {Q : Exit → Env → World → Prop} {ρ : Env} {w : World}
variable {d : Option Tmp} {ty : TypeId} {pos : String} {after : Array Edge} {g : Option (Nat × Bool)} {K : Value → World → Prop}
end
theorem Own.ne {w : World} {A : Option Addr} {c : Nat} {e : TypeId} {k : Nat} {rows : List (List Value)} (h : Own w A c e k rows) (hr : rows ≠ []) : A ≠ none := by
  rintro rfl
  rcases h.blk with ⟨_, h1, _⟩ | ⟨b, sp, h1, _⟩
  · exact hr h1
  · cases h1
end Go.Tb

set_option linter.unusedVariables false
set_option linter.unusedSimpArgs false
namespace Go.Tb
open Go.RowKit
structure FitsD (n : Nat) (ds : List Deferred) (ρ : Env) (a : Act) : Prop where
  defers : a.defers = ds
  fits : Fits n ρ { a with defers := [] }
def liftD (n : Nat) (ds : List Deferred) (Q : Exit → Env → World → Prop) : Exit → Act → World → Prop := fun e a w => ∃ ρ, FitsD n ds ρ a ∧ Q e ρ w
def CWD (P : Program) (n : Nat) (ds : List Deferred) (c : Code) (Q : Exit → Env → World → Prop) (ρ : Env) (w : World) : Prop := ∀ a, FitsD n ds ρ a → c.wp P (liftD n ds Q) a w
def LWD (P : Program) (n : Nat) (ds : List Deferred) (ops : Array Oper) (Q : Exit → Env → World → Prop) (l : List Oper) (ρ : Env) (w : World) : Prop := ∀ a, FitsD n ds ρ a → wpList P ops (liftD n ds Q) l a w
section
variable {P : Program} {n : Nat} {ds : List Deferred} {ops : Array Oper} {Q : Exit → Env → World → Prop} {ρ : Env} {w : World}
theorem eval_defers (a : Act) (l : List Deferred) : ({ a with defers := l } : Act).eval = a.eval := by
  funext x; cases x <;> rfl
theorem OW.toD {o : Oper} {K : Value → World → Prop} (h : OW P n Q o ρ w K) {a : Act} (ha : FitsD n ds ρ a) : wpV P o a w K (fun c w' => Q (.panic c) ρ w') := by
  have := h _ ha.fits
  unfold wpV at this ⊢
  rw [eval_defers] at this
  exact this
theorem FitsD.upd {a : Act} (h : FitsD n ds ρ a) {d : Option Nat} (hd : okDst n d = true) (v : Value) : FitsD n ds (Tb.upd ρ d v) (a.put d v) := by
  have := h.fits.upd hd v
  refine ⟨?_, ?_⟩
  · cases d <;> exact h.defers
  · cases d <;> exact this
theorem LWD.go {o : Oper} {rest : List Oper} (hg : o.guard = none) (hd : okDst n o.dst = true) (h : OW P n Q o ρ w (fun v w' => LWD P n ds ops Q rest (upd ρ o.dst v) w')) : LWD P n ds ops Q (o :: rest) ρ w := fun a ha => by
  unfold wpList
  rw [if_pos (by simp [Region.wanted, hg])]
  exact .inl (wp_of_wpV (h.toD ha) (fun v w' hk => hk _ (ha.upd hd v)) (fun c w' hk => ⟨ρ, ha, hk⟩))
theorem LWD.pure {o : Oper} {rest : List Oper} {v : Value} (hg : o.guard = none) (hd : okDst n o.dst = true) (h : RV P n o ρ w v) (k : LWD P n ds ops Q rest (upd ρ o.dst v) w) : LWD P n ds ops Q (o :: rest) ρ w :=
  LWD.go hg hd (OW.value h k)
theorem LWD.nil (h : Q .normal ρ w) : LWD P n ds ops Q [] ρ w := fun _ ha => wpList_nil ⟨ρ, ha, h⟩
theorem CWD.region {id : Nat} {l : List Oper} (h : LWD P n ds l.toArray Q l ρ w) : CWD P n ds (.region id l.toArray false) Q ρ w := fun a ha => wp_region_lit (h a ha)
theorem CWD.seq {x y : Code} (h : CWD P n ds x (thenE (fun ρ w => CWD P n ds y Q ρ w) Q) ρ w) : CWD P n ds (.seq x y) Q ρ w := fun a ha => by
  refine wp_seq (wp_mono (h a ha) fun e a' w' hq => ?_)
  obtain ⟨ρ', hf, hq⟩ := hq
  cases e <;> first | exact hq a' hf | exact ⟨ρ', hf, hq⟩
theorem CWD.ret (h : Q .ret ρ w) : CWD P n ds .ret Q ρ w := fun _ ha => wp_ret ⟨ρ, ha, h⟩
variable {d : Option Tmp} {ty : TypeId} {pos : String} {after : Array Edge} {g : Option (Nat × Bool)} {K : Value → World → Prop}
end
end Go.Tb
namespace Go.Tb
theorem Fits.add {n k : Nat} {v : Value} {ρ : Env} {a : Act} (h : Fits n ρ a) (hv : a.tmps[k]? = some v) : Fits n ((k, v) :: ρ) a := ⟨h.defers, h.size, fun t u hl => by
  unfold Tb.look at hl
  split at hl
  · rename_i hb
    have : k = t := Nat.eq_of_beq_eq_true hb
    subst this
    simp at hl; subst hl; exact hv
  · exact h.at_ t u hl⟩
end Go.Tb
namespace Go.Tb
section
variable {P : Program} {n : Nat} {ops : Array Oper} {Q : Exit → Act → World → Prop} {a : Act} {w : World} {ρ : Env}
end
end Go.Tb
namespace Go.Tb
section
variable {P : Program} {n : Nat} {ρ : Env} {w : World} {d : Option Tmp} {ty : TypeId} {pos : String} {after : Array Edge} {g : Option (Nat × Bool)}
end
end Go.Tb
namespace Go.Tb
section
variable {P : Program} {n : Nat} {ρ : Env} {w : World} {d : Option Tmp} {ty : TypeId} {pos : String} {after : Array Edge} {g : Option (Nat × Bool)}
end
end Go.Tb

set_option linter.unusedVariables false
namespace Go.Tb
structure SlT {α β : Type} (w : World) (A : Option Addr) (c k : Nat) (enc : (Option Addr × Nat) × α → List Value) (f : α → List β) (k2 : Nat) (enc2 : β → List Value) (l : List α) : Prop where
  ex : ∃ hs : List (Option Addr × Nat), hs.length = l.length ∧ Sl w A c k ((hs.zip l).map enc) ∧ ∀ (j : Nat) (h : Option Addr × Nat) (x : α), hs[j]? = some h → l[j]? = some x → Sl w h.1 h.2 k2 ((f x).map enc2)
section
variable {α β : Type} {w w' : World} {A : Option Addr} {c k k2 : Nat} {enc : (Option Addr × Nat) × α → List Value} {f : α → List β} {enc2 : β → List Value} {l : List α}
theorem SlT.ext (h : SlT w A c k enc f k2 enc2 l) (e : Ext w w') : SlT w' A c k enc f k2 enc2 l := by
  obtain ⟨hs, h1, h2, h3⟩ := h.ex
  exact ⟨hs, h1, h2.ext e, fun j h x hj hx => (h3 j h x hj hx).ext e⟩
theorem SlT.at_ (h : SlT w A c k enc f k2 enc2 l) {j : Nat} {x : α} (hx : l[j]? = some x) : ∃ (Aj : Option Addr) (cj : Nat), Cells w (elemPtr A k j) (enc ((Aj, cj), x)) ∧ Sl w Aj cj k2 ((f x).map enc2) := by
  obtain ⟨hs, h1, h2, h3⟩ := h.ex
  have hlt := lt_of_at hx
  have hh : hs[j]? = some hs[j] := by simp [h1, hlt]
  refine ⟨hs[j].1, hs[j].2, ?_, h3 j _ x hh hx⟩
  exact h2.at_ (enc := enc) (x := (hs[j], x)) (by simp [List.getElem?_zip_eq_some, hh, hx])
theorem SlT.addr (h : SlT w A c k enc f k2 enc2 l) {i : Int} (h0 : 0 ≤ i ∧ i < l.length) : ∃ a, A = some a := by
  obtain ⟨hs, h1, h2, _⟩ := h.ex
  exact h2.addr (i := i) (by simp [h1]; omega)
theorem SlT.max (h : SlT w A c k enc f k2 enc2 l) : (l.length : Int) ≤ 9223372036854775807 := by
  obtain ⟨hs, h1, h2, _⟩ := h.ex
  have := h2.max
  simp [h1] at this
  omega
theorem SlT.nil_ : SlT w none 0 k enc f k2 enc2 [] := ⟨⟨[], rfl, Sl.nil (by decide), fun j h l hj => by simp at hj⟩⟩
end
end Go.Tb

set_option linter.unusedVariables false
namespace Go.Tb
open Go.RowKit
section
variable {P : Program} {n : Nat} {ops : Array Oper} {Q : Exit → Env → World → Prop} {ρ : Env} {w : World} {d : Option Tmp} {ty : TypeId} {pos : String} {after : Array Edge} {g : Option (Nat × Bool)} {K : Value → World → Prop}
/-- What an assertion to the type q gives, with its word on whether it holds. -/
def AssertM (P : Program) (q : TypeId) (v r : Value) : Prop := ∀ (t : TypeId) (w : World), (Instr.typeAssert v t q true).run P w = .ok r w
theorem AssertM.yes {q : TypeId} {fs : TypeDesc} {v : Value} (hT : P.underlying q = some fs) (hn : (match fs with | .interface _ => true | _ => false) = false) : AssertM P q (.iface q v) (.tuple #[v, .bool true]) := fun t w => by
  simp only [Instr.typeAssert, Sem.run_bind, run_underlying hT, Result.andThen_ok]
  cases fs <;> simp_all
theorem zeroV_run {q : TypeId} {z : Value} (hz : tyZ P q = some z) (w : World) : (zeroValue q).run P w = .ok z w := by
  unfold tyZ at hz
  cases hi : P.info? q with
  | none => simp [hi] at hz
  | some i => simp [hi] at hz; simp [zeroValue, typeInfo, hi, hz]
theorem AssertM.no {q q' : TypeId} {fs : TypeDesc} {v z : Value} (hT : P.underlying q = some fs) (hn : (match fs with | .interface _ => true | _ => false) = false) (hz : tyZ P q = some z) (hq : q' ≠ q) : AssertM P q (.iface q' v) (.tuple #[z, .bool false]) := fun t w => by
  simp only [Instr.typeAssert, Sem.run_bind, run_underlying hT, Result.andThen_ok]
  cases fs <;> simp_all [zeroV_run hz]
theorem AssertM.nil {q : TypeId} {fs : TypeDesc} {z : Value} (hT : P.underlying q = some fs) (hn : (match fs with | .interface _ => true | _ => false) = false) (hz : tyZ P q = some z) : AssertM P q .nilIface (.tuple #[z, .bool false]) := fun t w => by
  simp only [Instr.typeAssert, Sem.run_bind, run_underlying hT, Result.andThen_ok]
  cases fs <;> simp_all [zeroV_run hz]
/-- A method called through an interface. -/
def CallsM (P : Program) (v : Value) (name : String) (args : List Value) (w : World) (R : Ending → World → Prop) : Prop :=
  ∃ (t : TypeId) (u : Value) (f : FuncId) (r : Value), v = .iface t u ∧ (∀ w, (method (P.types.size + Made.depth) t u name).run P w = .ok (f, r) w) ∧ callable P f = true ∧ Calls P f (r :: args).toArray w R
theorem OW.invoke {recv : Operand} {name : String} {args : Array Operand} {tys : Array TypeId} {vs : List Value} {v : Value} {R : Ending → World → Prop} (hx : ev ρ recv = some v) (hargs : evs ρ args.toList = some vs)
    (hc : CallsM P v name vs w R) (k : ∀ e w', R e w' → ∃ v, e = .returned v ∧ K v w') : OW P n Q ⟨d, .call ⟨.invoke recv name, args, tys⟩, ty, pos, after, g⟩ ρ w K := by
  obtain ⟨t, u, f, r, rfl, hm, hf, hc⟩ := hc
  refine OW.enters (f := f) (args := (r :: vs).toArray) (fun a ha => ?_) hc k
  have h1 : args.map a.eval = vs.toArray := by
    have := ha.evs hargs
    apply Array.toList_inj.1
    rw [Array.toList_map]; exact this
  have hx' := ha.ev hx
  simp only [execOp, resolve, hx', Sem.run_bind, Sem.run_pure, Result.andThen_ok, Go.invoke]
  rw [show (Array.map a.eval args) = vs.toArray from h1]
  have e0 : (#[Value.iface t u] ++ vs.toArray)[0]? = some (.iface t u) := by simp
  have e1 : (#[Value.iface t u] ++ vs.toArray).extract 1 (#[Value.iface t u] ++ vs.toArray).size = vs.toArray := by
    apply Array.toList_inj.1; simp
  simp only [e0, callMethod, Sem.run_bind]
  rw [e1]
  have hp : (program : Sem Program).run P w = .ok P w := rfl
  rw [hp]
  simp only [Result.andThen_ok, hm w]
  have e2 : (#[r] ++ vs.toArray) = (r :: vs).toArray := by
    apply Array.toList_inj.1; simp
  rw [e2]
  exact run_callFunc hf _
end
structure Sl3 {α : Type} (w : World) (A : Option Addr) (c k : Nat) (enc : α → List Value) (lll : List (List (List α))) : Prop where
  ex : ∃ hs : List (Option Addr × Nat), hs.length = lll.length ∧ Sl w A c 1 ((hs.zip lll).map encH) ∧ ∀ (j : Nat) (h : Option Addr × Nat) (l : List (List α)), hs[j]? = some h → lll[j]? = some l → Sl2 w h.1 h.2 k enc l
section
variable {α : Type} {w w' : World} {A : Option Addr} {c k : Nat} {enc : α → List Value} {ll : List (List (List α))}
theorem Sl3.ext (h : Sl3 w A c k enc ll) (e : Ext w w') : Sl3 w' A c k enc ll := by
  obtain ⟨hs, h1, h2, h3⟩ := h.ex
  exact ⟨hs, h1, h2.ext e, fun j h l hj hl => (h3 j h l hj hl).ext e⟩
theorem Sl3.at_ (h : Sl3 w A c k enc ll) {j : Nat} {l : List (List α)} (hl : ll[j]? = some l) : ∃ (Aj : Option Addr) (cj : Nat), Cells w (elemPtr A 1 j) [.slice Aj l.length cj] ∧ Sl2 w Aj cj k enc l := by
  obtain ⟨hs, h1, h2, h3⟩ := h.ex
  have hlt := lt_of_at hl
  have hh : hs[j]? = some hs[j] := by simp [h1, hlt]
  refine ⟨hs[j].1, hs[j].2, ?_, h3 j _ l hh hl⟩
  exact h2.at_ (enc := encH) (x := (hs[j], l)) (by simp [List.getElem?_zip_eq_some, hh, hl])
theorem Sl3.addr (h : Sl3 w A c k enc ll) {i : Int} (h0 : 0 ≤ i ∧ i < ll.length) : ∃ a, A = some a := by
  obtain ⟨hs, h1, h2, _⟩ := h.ex
  exact h2.addr (i := i) (by simp [h1]; omega)
theorem Sl3.nil_ : Sl3 w none 0 k enc ([] : List (List (List α))) := ⟨⟨[], rfl, Sl.nil (by decide), fun j h l hj => by simp at hj⟩⟩
theorem Sl3.one {A1 : Option Addr} {c1 : Nat} {l1 : List (List α)} (h : Sl w A c 1 ([((A1, c1), l1)].map encH)) (s1 : Sl2 w A1 c1 k enc l1) : Sl3 w A c k enc [l1] := by
  refine ⟨[(A1, c1)], rfl, h, fun j x l hj hl => ?_⟩
  match j, hj, hl with
  | 0, hj, hl => simp at hj hl; subst hj; subst hl; exact s1
end
end Go.Tb

set_option linter.unusedVariables false
set_option linter.unusedSimpArgs false
namespace Go.Tb
open Go.RowKit
section
variable {P : Program} {n : Nat} {ops : Array Oper} {Q : Exit → Env → World → Prop} {ρ : Env} {w : World}
variable {d : Option Tmp} {ty : TypeId} {pos : String} {after : Array Edge} {g : Option (Nat × Bool)} {K : Value → World → Prop}
theorem Mod.refl (w : World) (A : Option Addr) : Mod w w A := ⟨rfl, rfl, rfl, Nat.le_refl _, fun _ _ _ => rfl⟩
theorem Mod.trans {w w1 w2 : World} {A : Option Addr} (a : Mod w w1 A) (b : Mod w1 w2 A) : Mod w w2 A :=
  ⟨b.os.trans a.os, b.tape.trans a.tape, b.output.trans a.output, Nat.le_trans a.size b.size, fun k hk hn => (b.block k (Nat.lt_of_lt_of_le hk a.size) hn).trans (a.block k hk hn)⟩
end
section
variable {α : Type} {w : World} {A : Option Addr} {c e k : Nat} {enc : α → List Value} {l : List α}
theorem Own.at0 (h : Own w A c e k (l.map enc)) (h0 : 0 < l.length) : ∃ b, A = some ⟨b, 0, none⟩ := by
  rcases h.own.2 with ⟨hv, hn⟩ | ⟨g, cap, cur, hv, r⟩
  · simp at hn; simp [hn] at h0
  · injection hv with hv1
    exact ⟨g, hv1⟩
end
section
variable {w0 w w' : World} {L : List Ck}
end
end Go.Tb

set_option linter.unusedVariables false
set_option linter.unusedSimpArgs false
namespace Go.Tb
open Go.RowKit
section
variable {α β : Type}
structure TbxH (A : Option Addr) (c to ko : Nat) (enc : (Option Addr × Nat) × α → List Value) (f : α → List β) (ti k2 : Nat) (enc2 : β → List Value) (hs : List (Option Addr × Nat)) (l : List α) (w : World) : Prop where
  len : hs.length = l.length
  outer : Own w A c to ko ((hs.zip l).map enc)
  row : ∀ (i : Nat) (h : Option Addr × Nat) (t : α), hs[i]? = some h → l[i]? = some t → Own w h.1 h.2 ti k2 ((f t).map enc2)
  ne : ∀ (i : Nat) (h : Option Addr × Nat) (b : Nat), hs[i]? = some h → b ∈ adB h.1 → b ∉ adB A
def tbxB (A : Option Addr) (hs : List (Option Addr × Nat)) : List Nat := adB A ++ hs.flatMap fun h => adB h.1
theorem mem_tbxB {A : Option Addr} {hs : List (Option Addr × Nat)} {b : Nat} : b ∈ tbxB A hs ↔ b ∈ adB A ∨ ∃ (i : Nat) (h : Option Addr × Nat), hs[i]? = some h ∧ b ∈ adB h.1 := by
  unfold tbxB
  simp only [List.mem_append, List.mem_flatMap]
  refine or_congr Iff.rfl ⟨?_, ?_⟩
  · rintro ⟨h, hm, hb⟩
    obtain ⟨i, hi⟩ := List.getElem?_of_mem hm
    exact ⟨i, h, hi, hb⟩
  · rintro ⟨i, h, hi, hb⟩
    exact ⟨h, List.mem_of_getElem? hi, hb⟩
variable {A : Option Addr} {c to ko : Nat} {enc : (Option Addr × Nat) × α → List Value} {f : α → List β} {ti k2 : Nat} {enc2 : β → List Value} {hs : List (Option Addr × Nat)} {l : List α} {w w' w0 : World} {L : List Ck}
theorem TbxH.keep (h : TbxH A c to ko enc f ti k2 enc2 hs l w) (hb : ∀ b ∈ tbxB A hs, w'.heap[b]? = w.heap[b]?) : TbxH A c to ko enc f ti k2 enc2 hs l w' :=
  ⟨h.len, h.outer.keep fun b h' => hb b (mem_tbxB.2 (.inl h')), fun i x t hx ht => (h.row i x t hx ht).keep fun b h' => hb b (mem_tbxB.2 (.inr ⟨i, x, hx, h'⟩)), h.ne⟩
theorem TbxH.lt (h : TbxH A c to ko enc f ti k2 enc2 hs l w) : ∀ b ∈ tbxB A hs, b < w.heap.size := by
  intro b hb
  rcases mem_tbxB.1 hb with hb | ⟨i, x, hx, hb⟩
  · exact h.outer.lt b hb
  · have hl : i < l.length := by rw [← h.len]; exact lt_of_at hx
    exact (h.row i x l[i] hx (by simp [hl])).lt b hb
theorem TbxH.holds (h : TbxH A c to ko enc f ti k2 enc2 hs l w) : (Ck.inv (tbxB A hs) (TbxH A c to ko enc f ti k2 enc2 hs l)).holds w :=
  ⟨h.lt, h, fun w1 w2 _ hb q => q.keep hb⟩
end
section
variable {P : Program} {n : Nat} {ops : Array Oper} {Q : Exit → Env → World → Prop} {ρ : Env} {w : World}
variable {d : Option Tmp} {ty : TypeId} {pos : String} {after : Array Edge} {g : Option (Nat × Bool)} {K : Value → World → Prop}
end
section
variable {w0 w w' : World} {L M : List Ck}
end
end Go.Tb

set_option linter.unusedVariables false
set_option linter.unusedSimpArgs false
namespace Go.Tb
open Go.RowKit
section
variable {w0 w w' : World} {L M : List Ck}
end
end Go.Tb
namespace Go.Tb
open Go.RowKit
section
variable {P : Program} {n : Nat} {ops : Array Oper} {Q : Exit → Env → World → Prop} {ρ : Env} {w : World}
variable {d : Option Tmp} {ty : TypeId} {pos : String} {after : Array Edge} {g : Option (Nat × Bool)} {K : Value → World → Prop}
end
end Go.Tb
namespace Go.Tb
end Go.Tb
namespace Go.Tb
section
variable {w0 w w' : World} {L M : List Ck}
/-- All the handles of old are still there. -/
def Cov (hs' hs : List (Option Addr × Nat)) : Prop := ∀ x ∈ hs, x ∈ hs'
theorem Cov.refl (hs : List (Option Addr × Nat)) : Cov hs hs := fun _ h => h
theorem Cov.trans {a b c : List (Option Addr × Nat)} (h : Cov a b) (h' : Cov b c) : Cov a c := fun x hx => h x (h' x hx)
end
end Go.Tb
namespace Go.Tb
end Go.Tb

set_option linter.unusedVariables false
set_option linter.unusedSimpArgs false
namespace Go.Tb
open Go.RowKit
section
variable {κ ν : Type}
/-- The map with an entry for the key, zero if there was none. -/
def ment (eq : κ → κ → Bool) (m : List (κ × ν)) (x : κ) (v0 : ν) : List (κ × ν) := mset eq m x ((mget eq m x).getD v0)
theorem mset_mset (eq : κ → κ → Bool) (hr : ∀ x, eq x x = true) : ∀ (m : List (κ × ν)) (x : κ) (u v : ν), mset eq (mset eq m x u) x v = mset eq m x v
  | [], x, u, v => by simp [mset, hr]
  | p :: m, x, u, v => by
    by_cases h : eq x p.1 = true
    · simp [mset, h, hr]
    · simp only [mset, h, Bool.false_eq_true, if_false]
      rw [mset_mset eq hr m x u v]
theorem mget_mset (eq : κ → κ → Bool) (hr : ∀ x, eq x x = true) : ∀ (m : List (κ × ν)) (x : κ) (u : ν), mget eq (mset eq m x u) x = some u
  | [], x, u => by simp [mset, mget, hr]
  | p :: m, x, u => by
    by_cases h : eq x p.1 = true
    · simp [mset, mget, h, hr]
    · simp only [mset, mget, h, Bool.false_eq_true, if_false]
      exact mget_mset eq hr m x u
theorem ment_get (eq : κ → κ → Bool) (hr : ∀ x, eq x x = true) (m : List (κ × ν)) (x : κ) (v0 : ν) : (mget eq (ment eq m x v0) x).getD v0 = (mget eq m x).getD v0 := by
  unfold ment; rw [mget_mset eq hr]; rfl
theorem ment_set (eq : κ → κ → Bool) (hr : ∀ x, eq x x = true) (m : List (κ × ν)) (x : κ) (v0 v : ν) : mset eq (ment eq m x v0) x v = mset eq m x v := mset_mset eq hr m x _ v
end
section
variable {κ ν : Type} {P : Program} {k : TypeId} {ek : κ → Value} {ev : ν → Value} {eq : κ → κ → Bool} {w : World} {b : Nat} {m : List (κ × ν)}
def EntH (W : World) (b : Nat) (m : List (Value × Value)) (key : Value) (born : Nat) : Prop :=
  ∃ es clock, W.heap[b]? = some (.map es clock) ∧ MapKept.Stamped es clock ∧ es.toList.map (fun e => (e.key, e.val)) = m ∧ ∃ (j : Nat) (e : MapEntry), es[j]? = some e ∧ e.key = key ∧ e.born = born
theorem EntH.mp {W : World} {b : Nat} {m : List (Value × Value)} {key : Value} {born : Nat} (h : EntH W b m key born) : MpH W b m := by
  obtain ⟨es, clock, h1, h2, h3, _⟩ := h
  exact ⟨es, clock, h1, h2, h3⟩
theorem modB (b : Nat) (w : World) (o : Obj) {es : Array MapEntry} {clock : Nat} (hb : w.heap[b]? = some (.map es clock)) : Mod w (ChangeMaps.setBlock w b o) (some ⟨b, 0, none⟩) :=
  ⟨rfl, rfl, rfl, by simp [ChangeMaps.setBlock], fun i _ hi => (MapKept.heap_set hb).2 i (fun e => hi (by rw [e]; rfl))⟩
theorem run_entryM {t e : TypeId} (KO : KeyOK P k ek eq) (hT : tyM P t = some (k, e)) {v0 : ν} (hz : tyZ P e = some (ev v0)) (h : MpH w b (encMap ek ev m)) (x : κ) :
    ∃ w' born, (Instr.mapEntry t (.map (some b)) (ek x)).run P w = .ok (.tuple #[ev ((mget eq m x).getD v0), .int .i64 (born : Nat)]) w' ∧ EntH w' b (encMap ek ev (ment eq m x v0)) (ek x) born ∧ Mod w w' (some ⟨b, 0, none⟩) := by
  obtain ⟨es, clock, hb, hst, hes⟩ := h
  have hf := KO.find w x es.toList _ (keys_of hes)
  unfold ment
  rcases mfind_spec KO.same x ((mget eq m x).getD v0) m es.toList 0 hes with ⟨a1, a2, a3, a4⟩ | ⟨j, e', u, a1, a2, a3, a4, a5, a6⟩
  · rw [a1] at hf
    refine ⟨ChangeMaps.setBlock w b (.map (es.push ⟨ek x, ev v0, clock⟩) (clock + 1)), clock, ?_, ⟨_, _, (MapKept.heap_set hb).1, MapKept.stamped_push hst a4, ?_, es.size, ⟨ek x, ev v0, clock⟩, by simp, rfl, rfl⟩, modB b w _ hb⟩
    · simp [Instr.mapEntry, run_underlying (tyM_spec hT), MapKept.run_getObj_map hb, KO.check, hf, zero_run hz, MapKept.run_setObj_map _ hb, Result.andThen, ChangeMaps.setBlock, a2, goInt]
    · rw [a3, a2, Array.toList_push, List.map_append, hes]; simp [encMap]
  · rw [a1] at hf
    have hj : es[j]? = some e' := by simpa using a2
    have hjl : j < es.toList.length := lt_of_at a2
    have hmod : (es.modify j fun e => { e with key := ek x })[j]? = some { e' with key := ek x } := by
      rw [Array.getElem?_modify, if_pos rfl, hj]; rfl
    refine ⟨ChangeMaps.setBlock w b (.map (es.modify j fun e => { e with key := ek x }) clock), e'.born, ?_, ⟨_, _, (MapKept.heap_set hb).1, MapKept.stamped_modify hst _ _ (fun _ _ => rfl) (fun e'' _ he'' => by rw [hj] at he''; cases he''; exact a3.symm), ?_, j, _, hmod, rfl, rfl⟩, modB b w _ hb⟩
    · simp [Instr.mapEntry, run_underlying (tyM_spec hT), MapKept.run_getObj_map hb, KO.check, hf, hj, a3, a4, a5, KO.stays, MapKept.run_setObj_map _ hb, Result.andThen, ChangeMaps.setBlock, goInt]
    · rw [a6, a4, ← hes, Array.toList_modify]
      apply List.ext_getElem?
      intro i
      rw [List.getElem?_map, List.getElem?_modify, List.getElem?_set, List.getElem?_map, List.length_map]
      by_cases hi : j = i
      · subst hi; rw [a2]; simp [a5]; simpa using hjl
      · simp [hi]
theorem find_born {es : Array MapEntry} {clock : Nat} (hst : MapKept.Stamped es clock) {j : Nat} {e : MapEntry} (hj : es[j]? = some e) : es.findIdx? (fun x => (x.born : Int) == (e.born : Int)) = some j := by
  rw [Array.findIdx?_eq_some_iff_getElem]
  obtain ⟨hlt, rfl⟩ := Array.getElem?_eq_some_iff.1 hj
  refine ⟨hlt, by simp, fun i hi => ?_⟩
  have hnd := hst.2.1
  have hne : es[i].born ≠ es[j].born := by
    intro h
    have := List.pairwise_iff_getElem.1 hnd i j (by simp; omega) (by simpa using hlt) hi
    simp at this
    exact this h
  intro h
  have h' := eq_of_beq h
  exact hne (by omega)
theorem run_storeM {t : TypeId} (KO : KeyOK P k ek eq) {x : κ} {born : Nat} (h : EntH w b (encMap ek ev m) (ek x) born) (v : ν) :
    ∃ w', (Instr.entryStore t (.map (some b)) (.int .i64 (born : Nat)) (ev v)).run P w = .ok () w' ∧ MpH w' b (encMap ek ev (mset eq m x v)) ∧ Mod w w' (some ⟨b, 0, none⟩) := by
  obtain ⟨es, clock, hb, hst, hes, j, e, hj, hk, rfl⟩ := h
  have hfi := find_born hst hj
  have hjl : j < es.toList.length := by simpa using (Array.getElem?_eq_some_iff.1 hj).1
  have hj' : es.toList[j]? = some e := by simpa using hj
  refine ⟨ChangeMaps.setBlock w b (.map (es.modify j fun e => { e with val := ev v }) clock), ?_, ⟨_, _, (MapKept.heap_set hb).1, MapKept.stamped_modify hst _ _ (fun _ _ => rfl) (fun _ _ _ => rfl), ?_⟩, modB b w _ hb⟩
  · simp [Instr.entryStore, MapKept.run_getObj_map hb, asInt, asIntOf, hfi, MapKept.run_setObj_map _ hb, Result.andThen, ChangeMaps.setBlock]
  · rcases mfind_spec KO.same x v m es.toList 0 hes with ⟨_, _, _, a4⟩ | ⟨j2, e2, u, _, a2, a3, _, _, a6⟩
    · exact absurd hk (a4 e (List.mem_of_getElem? hj'))
    · have hjj : j2 = j := by
        have hkeys := hst.2.2
        have l2 := lt_of_at a2
        rcases Nat.lt_trichotomy j2 j with h | h | h
        · have := List.pairwise_iff_getElem.1 hkeys j2 j (by simpa using l2) (by simpa using hjl) h
          simp only [List.getElem_map] at this
          obtain ⟨_, e3⟩ := List.getElem?_eq_some_iff.1 a2
          obtain ⟨_, e4⟩ := List.getElem?_eq_some_iff.1 hj'
          rw [e3, e4, a3, hk] at this
          exact absurd rfl this
        · exact h
        · have := List.pairwise_iff_getElem.1 hkeys j j2 (by simpa using hjl) (by simpa using l2) h
          simp only [List.getElem_map] at this
          obtain ⟨_, e3⟩ := List.getElem?_eq_some_iff.1 a2
          obtain ⟨_, e4⟩ := List.getElem?_eq_some_iff.1 hj'
          rw [e3, e4, a3, hk] at this
          exact absurd rfl this
      subst hjj
      rw [a6, ← hes, Array.toList_modify]
      apply List.ext_getElem?
      intro i
      rw [List.getElem?_map, List.getElem?_modify, List.getElem?_set, List.getElem?_map, List.length_map]
      by_cases hi : j2 = i
      · subst hi; rw [hj']; simp [hk]; simpa using hjl
      · simp [hi]
end
section
variable {P : Program} {n : Nat} {ops : Array Oper} {Q : Exit → Env → World → Prop} {ρ : Env} {w : World}
variable {d : Option Tmp} {ty : TypeId} {pos : String} {after : Array Edge} {g : Option (Nat × Bool)} {K : Value → World → Prop}
theorem OW.entryM {κ ν : Type} {t k e : TypeId} {ek : κ → Value} {ev' : ν → Value} {eq : κ → κ → Bool} {b : Nat} {m : List (κ × ν)} {x y : Operand} (key : κ) (v0 : ν) (KO : KeyOK P k ek eq) (hT : tyM P t = some (k, e)) (hz : tyZ P e = some (ev' v0)) (hx : ev ρ x = some (.map (some b))) (hy : ev ρ y = some (ek key)) (h : MpH w b (encMap ek ev' m))
    (kk : ∀ w' born, Mod w w' (some ⟨b, 0, none⟩) → EntH w' b (encMap ek ev' (ment eq m key v0)) (ek key) born → K (.tuple #[ev' ((mget eq m key).getD v0), .int .i64 (born : Nat)]) w') : OW P n Q ⟨d, .mapEntry t x y, ty, pos, after, g⟩ ρ w K := by
  obtain ⟨w', born, hr, h1, h2⟩ := run_entryM KO hT hz h key
  exact OW.value (w' := w') (fun c hc => by simp [execOp, hc.ev hx, hc.ev hy, hr]) (kk w' born h2 h1)
theorem OW.storeM {κ ν : Type} {t k : TypeId} {ek : κ → Value} {ev' : ν → Value} {eq : κ → κ → Bool} {b born : Nat} {m : List (κ × ν)} {x y z : Operand} (key : κ) (v : ν) (KO : KeyOK P k ek eq) (hx : ev ρ x = some (.map (some b))) (hy : ev ρ y = some (.int .i64 (born : Nat))) (hz : ev ρ z = some (ev' v)) (h : EntH w b (encMap ek ev' m) (ek key) born)
    (kk : ∀ w', Mod w w' (some ⟨b, 0, none⟩) → MpH w' b (encMap ek ev' (mset eq m key v)) → K undef w') : OW P n Q ⟨d, .entryStore t x y z, ty, pos, after, g⟩ ρ w K := by
  obtain ⟨w', hr, h1, h2⟩ := run_storeM (t := t) KO h v
  exact OW.skip_ (w' := w') (fun c hc => by simp [execOp, hc.ev hx, hc.ev hy, hc.ev hz, hr]) (kk w' h2 h1)
end
section
variable {P : Program} {n : Nat} {ops : Array Oper} {Q : Exit → Env → World → Prop} {ρ : Env} {w : World}
variable {d : Option Tmp} {ty : TypeId} {pos : String} {after : Array Edge} {g : Option (Nat × Bool)} {K : Value → World → Prop}
theorem RV.lookupE {κ ν : Type} {t k e : TypeId} {ek : κ → Value} {ev' : ν → Value} {eq : κ → κ → Bool} {b born : Nat} {m : List (κ × ν)} {x y : Operand} (key : κ) (v0 : ν) (KO : KeyOK P k ek eq) (hT : tyM P t = some (k, e)) (hz : tyZ P e = some (ev' v0)) (hx : ev ρ x = some (.map (some b))) (hy : ev ρ y = some (ek key)) (h : EntH w b (encMap ek ev' (ment eq m key v0)) (ek key) born) :
    RV P n ⟨d, .lookup t x y false, ty, pos, after, g⟩ ρ w (ev' ((mget eq m key).getD v0)) := by
  have := RV.lookupM (n := n) (d := d) (ty := ty) (pos := pos) (after := after) (g := g) key v0 KO hT hz hx hy h.mp
  rwa [ment_get eq (fun x => (KO.same x x).2 rfl)] at this
theorem OW.storeEnt {κ ν : Type} {t k : TypeId} {ek : κ → Value} {ev' : ν → Value} {eq : κ → κ → Bool} {b born : Nat} {m : List (κ × ν)} {x y z : Operand} (key : κ) (v0 v : ν) (KO : KeyOK P k ek eq) (hx : ev ρ x = some (.map (some b))) (hy : ev ρ y = some (.int .i64 (born : Nat))) (hz : ev ρ z = some (ev' v)) (h : EntH w b (encMap ek ev' (ment eq m key v0)) (ek key) born)
    (kk : ∀ w', Mod w w' (some ⟨b, 0, none⟩) → MpH w' b (encMap ek ev' (mset eq m key v)) → K undef w') : OW P n Q ⟨d, .entryStore t x y z, ty, pos, after, g⟩ ρ w K :=
  OW.storeM key v KO hx hy hz h fun w' M O => kk w' M (by rwa [ment_set eq (fun x => (KO.same x x).2 rfl)] at O)
end
/-- An entry that a store waits for. -/
def eck (b : Nat) (m : List (Value × Value)) (key : Value) (born : Nat) : Ck := .inv [b] fun W => EntH W b m key born
theorem eck_holds {W : World} {b born : Nat} {m : List (Value × Value)} {key : Value} (h : EntH W b m key born) : (eck b m key born).holds W :=
  ⟨fun b' hb => by simp at hb; subst hb; exact h.mp.lt, h, fun w1 w2 hl he hq => by
    obtain ⟨es, clock, h1, r⟩ := hq
    exact ⟨es, clock, (he b (by simp)).trans h1, r⟩⟩
section
variable {w0 w w' : World} {L : List Ck}
theorem Hp.setE (h : Hp w0 w L) (p : Nat) {b born : Nat} {m m' : List (Value × Value)} {key : Value} (hp : L[p]? = some (.mp b m)) (md : Mod w w' (some ⟨b, 0, none⟩)) (o : EntH w' b m' key born) : Hp w0 w' (L.set p (eck b m' key born)) := by
  refine h.step p hp (h.extMod md fun b' hb => ?_) (fun b' hb hn => md.other hb (fun hc => hn ?_)) (eck_holds o) fun b' hb => .inl (by simpa [eck, Ck.bl] using hb)
  · simp [adB] at hb; subst hb; exact h.fresh p _ hp b' (by simp [Ck.bl])
  · simp [adB] at hc; simp [Ck.bl, hc]
theorem Hp.ent (h : Hp w0 w L) (p : Nat) {b born : Nat} {m : List (Value × Value)} {key : Value} (hp : L[p]? = some (eck b m key born)) : EntH w b m key born := (h.holds p _ hp).2.1
theorem Hp.setS (h : Hp w0 w L) (p : Nat) {b born : Nat} {m m' : List (Value × Value)} {key : Value} (hp : L[p]? = some (eck b m key born)) (md : Mod w w' (some ⟨b, 0, none⟩)) (o : MpH w' b m') : Hp w0 w' (L.set p (.mp b m')) := by
  refine h.step p hp (h.extMod md fun b' hb => ?_) (fun b' hb hn => md.other hb (fun hc => hn ?_)) o fun b' hb => .inl (by simpa [eck, Ck.bl] using hb)
  · simp [adB] at hb; subst hb; exact h.fresh p _ hp b' (by simp [eck, Ck.bl])
  · simp [adB] at hc; simp [eck, Ck.bl, hc]
end
end Go.Tb

set_option linter.unusedVariables false
set_option linter.unusedSimpArgs false
namespace Go.Tb
open Go.RowKit
section
variable {P : Program} {W : World} {bi bm since c0 clock : Nat} {seen : Array Nat} {es : Array MapEntry}
theorem run_nextM (ty : TypeId) (hi : W.heap[bi]? = some (.mapIter (some bm) since seen c0)) (hb : W.heap[bm]? = some (.map es clock)) (hold : ∀ x ∈ es.toList, x.born < since) (hsc : since ≤ c0) :
    ((leftOf es seen).size = 0 ∧ (Instr.next (.pointer (some ⟨bi, 0, none⟩)) false ty).run P W = .ok (.tuple #[.bool false]) W) ∨
    ∃ e ∈ (leftOf es seen).toList, ∃ W1 : World, (W1 = W ∨ W1 = W.drew) ∧ (Instr.next (.pointer (some ⟨bi, 0, none⟩)) false ty).run P W = .ok (.tuple #[.bool true, e.key, e.val]) (ChangeMaps.setBlock W1 bi (.mapIter (some bm) since (seen.push e.born) clock)) := by
  have hlt : bi < W.heap.size := (Array.getElem?_eq_some_iff.1 hi).1
  simp only [Instr.next, getObj, Sem.run_bind, Sem.run, hi, hb, Result.andThen, next_test_false seen es since c0 hold hsc, Bool.false_eq_true, if_false]
  unfold leftOf
  have hmem : ∀ x ∈ (Array.filter (fun e => !seen.contains e.born) es).toList, x.born < since := fun x hx => hold x (by simp at hx ⊢; exact hx.1)
  generalize Array.filter (fun e => !seen.contains e.born) es = L at hmem ⊢
  have e1 : L.filter (fun x => decide (x.born < since)) = L := Array.filter_eq_self.2 (fun x hx => by simpa using hmem x (by simpa using hx))
  have e2 : L.filter (fun x => decide (x.born ≥ since)) = #[] := by
    rw [Array.filter_eq_empty_iff]
    intro x hx
    have := hmem x (by simpa using hx)
    simp
    omega
  simp only [e1, e2, Array.append_empty]
  by_cases h0 : L.size = 0
  · left
    have : L = #[] := Array.eq_empty_of_size_eq_zero h0
    subst this
    refine ⟨rfl, ?_⟩
    simp [choose, Sem.run, Question.forced]
  · right
    have hne : L.isEmpty = false := by simp [Array.isEmpty, h0]
    simp only [hne, Bool.false_eq_true, if_false, Array.empty_append, Array.size_map]
    have hch : ∃ (j : Nat) (W1 : World), j < L.size ∧ (W1 = W ∨ W1 = W.drew) ∧ (choose (Question.mapNext L.size)).run P W = .ok j W1 := by
      by_cases hf : L.size ≤ 1
      · exact ⟨0, W, by omega, .inl rfl, by simp [choose, Sem.run, Question.forced, hf]⟩
      · exact ⟨_, W.drew, Nat.mod_lt _ (by omega), .inr rfl, by
          simp only [choose, Sem.run, Question.forced, decide_eq_true_eq, hf, if_false, Question.cut]
          rfl⟩
    obtain ⟨j, W1, hj, hw, hrun⟩ := hch
    refine ⟨L[j], by simp, W1, hw, ?_⟩
    have hi1 : W1.heap[bi]? = some (.mapIter (some bm) since seen c0) := by rcases hw with rfl | rfl <;> exact hi
    have hset : ∀ (o' : Obj), (setObj bi o').run P W1 = .ok () (ChangeMaps.setBlock W1 bi o') := fun o' => by
      simp only [setObj, Sem.run]
      rw [hi1]
      rfl
    simp only [hrun, Array.getElem?_map, Array.getElem?_eq_getElem hj, Option.map_some, Sem.run_bind, hset, Result.andThen]
    rfl
theorem run_entryI {e : MapEntry} (hi : W.heap[bi]? = some (.mapIter (some bm) since (seen.push e.born) clock)) (hb : W.heap[bm]? = some (.map es clock)) (he : e ∈ es.toList) (hn : (es.toList.map (·.born)).Nodup) :
    (Instr.entry (.pointer (some ⟨bi, 0, none⟩))).run P W = .ok (.tuple #[e.key, e.val]) W := by
  have hf : es.find? (·.born == e.born) = some e := by rw [← Array.find?_toList]; exact Go.find_born e es.toList hn he
  simp only [Instr.entry, getObj, Sem.run_bind, Sem.run, hi, hb, Result.andThen, Array.back?_push, bne_self_eq_false, Bool.false_eq_true, if_false, hf]
  rfl
end
/-- What has been handed out, by f, added up. -/
def seenF (f : Value → Int) : List MapEntry → Array Nat → Int
  | [], _ => 0
  | x :: r, seen => (if seen.contains x.born then f x.val else 0) + seenF f r seen
theorem seenF_other (f : Value → Int) (seen : Array Nat) (b : Nat) : ∀ (es : List MapEntry), b ∉ es.map (·.born) → seenF f es (seen.push b) = seenF f es seen
  | [], _ => rfl
  | x :: r, h => by
    simp only [List.map_cons, List.mem_cons, not_or] at h
    have hx : (seen.push b).contains x.born = seen.contains x.born := by
      rw [contains_push]
      have : (x.born == b) = false := by
        rw [beq_eq_false_iff_ne]
        exact fun e => h.1 e.symm
      rw [this, Bool.or_false]
    unfold seenF
    rw [hx, seenF_other f seen b r h.2]
theorem seenF_push (f : Value → Int) (seen : Array Nat) (e : MapEntry) (hs : seen.contains e.born = false) : ∀ (es : List MapEntry), (es.map (·.born)).Nodup → e ∈ es → seenF f es (seen.push e.born) = seenF f es seen + f e.val
  | x :: r, hn, he => by
    have hn' : x.born ∉ r.map (·.born) ∧ (r.map (·.born)).Nodup := List.nodup_cons.1 hn
    by_cases hx : x = e
    · subst hx
      unfold seenF
      rw [seenF_other f seen _ r hn'.1, contains_push, beq_self_eq_true, Bool.or_true, hs]
      simp
      omega
    · have he' : e ∈ r := by
        rcases List.mem_cons.1 he with h | h
        · exact absurd h.symm hx
        · exact h
      have hb : (x.born == e.born) = false := by
        rw [beq_eq_false_iff_ne]
        intro h
        exact hn'.1 (by rw [h]; exact List.mem_map.2 ⟨e, he', rfl⟩)
      unfold seenF
      rw [seenF_push f seen e hs r hn'.2 he', contains_push, hb, Bool.or_false]
      omega
theorem seenF_none (f : Value → Int) : ∀ (es : List MapEntry), seenF f es #[] = 0
  | [] => rfl
  | x :: r => by
    unfold seenF
    rw [seenF_none f r]
    simp
theorem seenF_full (f : Value → Int) (seen : Array Nat) : ∀ (es : List MapEntry), (∀ x ∈ es, seen.contains x.born = true) → seenF f es seen = (es.map fun e => f e.val).sum
  | [], _ => rfl
  | x :: r, h => by
    unfold seenF
    rw [h x (by simp), if_pos rfl, seenF_full f seen r (fun y hy => h y (by simp [hy])), List.map_cons, List.sum_cons]
theorem seenF_all (f : Value → Int) (es : Array MapEntry) (seen : Array Nat) (h : (leftOf es seen).size = 0) : seenF f es.toList seen = (es.toList.map fun e => f e.val).sum := by
  refine seenF_full f seen es.toList fun x hx => ?_
  cases hc : seen.contains x.born with
  | true => rfl
  | false =>
    have : x ∈ leftOf es seen := Array.mem_filter.2 ⟨by simpa using hx, by rw [hc]; rfl⟩
    have := Array.size_pos_of_mem this
    omega
/-- Between nothing and all. -/
theorem seenF_le (f : Value → Int) (hf : ∀ v, 0 ≤ f v) : ∀ (es : List MapEntry) (seen : Array Nat), 0 ≤ seenF f es seen ∧ seenF f es seen ≤ (es.map fun e => f e.val).sum
  | [], _ => ⟨Int.le_refl _, Int.le_refl _⟩
  | x :: r, seen => by
    have ih := seenF_le f hf r seen
    have hx := hf x.val
    unfold seenF
    rw [List.map_cons, List.sum_cons]
    split <;> omega
section
variable {P : Program} {n : Nat} {ops : Array Oper} {Q : Exit → Env → World → Prop} {ρ : Env} {w : World}
variable {d : Option Tmp} {ty : TypeId} {pos : String} {after : Array Edge} {g : Option (Nat × Bool)} {K : Value → World → Prop}
theorem OW.rangeM {t k e : TypeId} {b clock : Nat} {es : Array MapEntry} {x : Operand} (hT : tyM P t = some (k, e)) (hx : ev ρ x = some (.map (some b))) (hb : w.heap[b]? = some (.map es clock))
    (kk : ∀ bi w', New w w' bi (.mapIter (some b) clock #[] clock) → K (.pointer (some ⟨bi, 0, none⟩)) w') : OW P n Q ⟨d, .range t x, ty, pos, after, g⟩ ρ w K :=
  OW.value (w' := w.alloc (.mapIter (some b) clock #[] clock)) (fun a ha => by
    have := run_range_map (P := P) w t k e b es clock (tyM_spec hT) hb
    simp [execOp, ha.ev hx, this]) (kk _ _ (New.mk' _ _))
theorem OW.nextM {bi : Nat} {x : Operand} {v : Value} {w' : World} (hx : ev ρ x = some (.pointer (some ⟨bi, 0, none⟩))) (h : (Instr.next (.pointer (some ⟨bi, 0, none⟩)) false ty).run P w = .ok v w') (kk : K v w') : OW P n Q ⟨d, .next x false, ty, pos, after, g⟩ ρ w K :=
  OW.value (w' := w') (fun a ha => by simp [execOp, ha.ev hx, h]) kk
theorem RV.entryM {bi : Nat} {x : Operand} {v : Value} (hx : ev ρ x = some (.pointer (some ⟨bi, 0, none⟩))) (h : (Instr.entry (.pointer (some ⟨bi, 0, none⟩))).run P w = .ok v w) : RV P n ⟨d, .entry x, ty, pos, after, g⟩ ρ w v :=
  fun a ha => by simp [execOp, ha.ev hx, h]
end
end Go.Tb

set_option linter.unusedVariables false
namespace Go.D4
open Go.Tb
def posV : Value → Int
  | .int _ n => max 0 n
  | _ => 0
def posSum {κ : Type} (m : List (κ × Int)) : Int := (m.map fun p => max 0 p.2).sum
theorem posV_nonneg (v : Value) : 0 ≤ posV v := by
  unfold posV; split <;> omega
theorem posSum_le {κ : Type} {m : List (κ × Int)} (hl : m.length ≤ 1000) (hb : ∀ p ∈ m, -1000000 ≤ p.2 ∧ p.2 ≤ 1000000) : posSum m ≤ 1000000000 := by
  have key : ∀ m : List (κ × Int), (∀ p ∈ m, -1000000 ≤ p.2 ∧ p.2 ≤ 1000000) → posSum m ≤ 1000000 * (m.length : Int) := by
    intro m
    induction m with
    | nil => intro _; simp [posSum]
    | cons p m ih =>
      intro h
      have h1 := h p (by simp)
      have h2 := ih (fun q hq => h q (by simp [hq]))
      unfold posSum at h2 ⊢
      rw [List.map_cons, List.sum_cons, List.length_cons]
      omega
  have := key m hb
  omega
end Go.D4

set_option linter.unusedVariables false
namespace Go.D4
open Go.Tb
structure Pass where
  column : Int
  row : Int
  to_ : Int
  amount : Int
def encPass (x : Pass) : List Value := [.int .i64 x.column, .int .i64 x.row, .int .i64 x.to_, .int .i64 x.amount]
structure Block where
  column : Int
  row : Int
def ekBlock (x : Block) : Value := .agg #[.int .i64 x.column, .int .i64 x.row]
def eqBlock (x y : Block) : Bool := (x.column == y.column) && (x.row == y.row)
def cut_isPass_k1 (a1 : Pass) (t40_1 : Bool) : Option Int :=
  if t40_1 = true then
    some ((4 : Int))
  else
    bnd (cut_from a1.amount ((1 : Int)) ((1000 : Int))) fun r1 =>
    if r1 = true then
      some ((0 : Int))
    else
      some ((1 : Int))
def cut_isPass (a0 : Bog) (a1 : Pass) : Option Int :=
  gd (InR (((a0.worth.length : Int)) - 1)) <|
  bnd (cut_from a1.column ((0 : Int)) (((a0.worth.length : Int)) - 1)) fun r2 =>
  if r2 = true then
    bnd (cut_depth a0) fun r3 =>
    gd (InR (r3 - 1)) <|
    bnd (cut_from a1.row ((1 : Int)) (r3 - 1)) fun r4 =>
    if r4 = true then
      gd (InR (((a0.worth.length : Int)) - 1)) <|
      bnd (cut_from a1.to_ ((0 : Int)) (((a0.worth.length : Int)) - 1)) fun r5 =>
      if r5 = true then
        gd (InR (a1.to_ - a1.column)) <|
        bnd (cut_from (a1.to_ - a1.column) ((-1 : Int)) ((1 : Int))) fun r6 =>
        cut_isPass_k1 a1 ((!r6))
      else
        cut_isPass_k1 a1 true
    else
      cut_isPass_k1 a1 true
  else
    cut_isPass_k1 a1 true
def cut_CheckProof_k1 (m1 : List (Block × Int)) : Option (Int × Int) :=
  gd (m1.length ≤ 1000 ∧ ∀ p ∈ m1, -1000000 ≤ p.2 ∧ p.2 ≤ 1000000) <|
  some (posSum m1, (0 : Int))
def cut_CheckProof_k2 (t51_1 : Int) (m2 : List (Block × Int)) (rec1 : Int → (List (Block × Int)) → Option (Int × Int)) (x1 : Pass) : Option (Int × Int) :=
  gd (InR (x1.row - 1)) <|
  gd (InR (((mget eqBlock ((mset eqBlock m2 ((⟨x1.column, x1.row⟩ : Block)) (((mget eqBlock m2 ((⟨x1.column, x1.row⟩ : Block))).getD 0) - x1.amount))) ((⟨x1.to_, x1.row - 1⟩ : Block))).getD 0) + x1.amount)) <|
  gd (InR (t51_1 + 1)) <|
  rec1 ((t51_1 + 1)) (((mset eqBlock ((mset eqBlock m2 ((⟨x1.column, x1.row⟩ : Block)) (((mget eqBlock m2 ((⟨x1.column, x1.row⟩ : Block))).getD 0) - x1.amount))) ((⟨x1.to_, x1.row - 1⟩ : Block)) (((mget eqBlock ((mset eqBlock m2 ((⟨x1.column, x1.row⟩ : Block)) (((mget eqBlock m2 ((⟨x1.column, x1.row⟩ : Block))).getD 0) - x1.amount))) ((⟨x1.to_, x1.row - 1⟩ : Block))).getD 0) + x1.amount))))
def cut_CheckProof_B1 (a0 : Bog) (a1 : List Pass) (rec1 : Int → (List (Block × Int)) → Option (Int × Int)) (t51_1 : Int) (m2 : List (Block × Int)) : Option (Int × Int) :=
  if t51_1 < ((a1.length : Int)) then
    ix a1 t51_1 fun x1 =>
    bnd (cut_isPass a0 x1) fun r1 =>
    if r1 = 0 then
      gd (InR (((mget eqBlock m2 ((⟨x1.column, x1.row⟩ : Block))).getD 0) - x1.amount)) <|
      cut_CheckProof_k2 t51_1 m2 rec1 x1
    else
      some ((0 : Int), r1)
  else
    cut_CheckProof_k1 m2
def cut_CheckProof_L1 (a0 : Bog) (a1 : List Pass) : Nat → Int → (List (Block × Int)) → Option (Int × Int)
  | 0, _, _ => none
  | n_ + 1, t51_1, m2 => cut_CheckProof_B1 a0 a1 (cut_CheckProof_L1 a0 a1 n_) t51_1 m2
theorem cut_CheckProof_L1_s {a0 : Bog} {a1 : List Pass} {m_ : Nat} {t51_1 : Int} {m2 : List (Block × Int)} {res : Int × Int} (h : cut_CheckProof_L1 a0 a1 m_ t51_1 m2 = some res) : ∃ k, m_ = k + 1 ∧ cut_CheckProof_B1 a0 a1 (cut_CheckProof_L1 a0 a1 k) t51_1 m2 = some res := by
  cases m_ with
  | zero => cases h
  | succ k => exact ⟨k, rfl, h⟩
def cut_CheckProof_k3 (a0 : Bog) (a1 : List Pass) (m3 : List (Block × Int)) : Option (Int × Int) :=
  cut_CheckProof_L1 a0 a1 FU (((0 : Int))) m3
def cut_CheckProof_k4 (t30_1 : Int) (rec2 : Int → (List (Block × Int)) → Option (Int × Int)) (m4 : List (Block × Int)) : Option (Int × Int) :=
  gd (InR (t30_1 + 1)) <|
  rec2 ((t30_1 + 1)) m4
def cut_CheckProof_B2 (t30_1 : Int) (rec2 : Int → (List (Block × Int)) → Option (Int × Int)) (x2 : List Int) (rec3 : Int → (List (Block × Int)) → Option (Int × Int)) (t37_1 : Int) (m5 : List (Block × Int)) : Option (Int × Int) :=
  if t37_1 < ((x2.length : Int)) then
    ix x2 t37_1 fun x3 =>
    gd (InR (t37_1 + 1)) <|
    rec3 ((t37_1 + 1)) (((mset eqBlock m5 ((⟨t30_1, t37_1⟩ : Block)) x3)))
  else
    cut_CheckProof_k4 t30_1 rec2 m5
def cut_CheckProof_L2 (t30_1 : Int) (rec2 : Int → (List (Block × Int)) → Option (Int × Int)) (x2 : List Int) : Nat → Int → (List (Block × Int)) → Option (Int × Int)
  | 0, _, _ => none
  | n_ + 1, t37_1, m5 => cut_CheckProof_B2 t30_1 rec2 x2 (cut_CheckProof_L2 t30_1 rec2 x2 n_) t37_1 m5
theorem cut_CheckProof_L2_s {t30_1 : Int} {rec2 : Int → (List (Block × Int)) → Option (Int × Int)} {x2 : List Int} {m_ : Nat} {t37_1 : Int} {m5 : List (Block × Int)} {res : Int × Int} (h : cut_CheckProof_L2 t30_1 rec2 x2 m_ t37_1 m5 = some res) : ∃ k, m_ = k + 1 ∧ cut_CheckProof_B2 t30_1 rec2 x2 (cut_CheckProof_L2 t30_1 rec2 x2 k) t37_1 m5 = some res := by
  cases m_ with
  | zero => cases h
  | succ k => exact ⟨k, rfl, h⟩
def cut_CheckProof_B3 (a0 : Bog) (a1 : List Pass) (rec2 : Int → (List (Block × Int)) → Option (Int × Int)) (t30_1 : Int) (m6 : List (Block × Int)) : Option (Int × Int) :=
  if t30_1 < ((a0.worth.length : Int)) then
    ix a0.worth t30_1 fun x2 =>
    cut_CheckProof_L2 t30_1 rec2 x2 FU (((0 : Int))) m6
  else
    cut_CheckProof_k3 a0 a1 m6
def cut_CheckProof_L3 (a0 : Bog) (a1 : List Pass) : Nat → Int → (List (Block × Int)) → Option (Int × Int)
  | 0, _, _ => none
  | n_ + 1, t30_1, m6 => cut_CheckProof_B3 a0 a1 (cut_CheckProof_L3 a0 a1 n_) t30_1 m6
theorem cut_CheckProof_L3_s {a0 : Bog} {a1 : List Pass} {m_ : Nat} {t30_1 : Int} {m6 : List (Block × Int)} {res : Int × Int} (h : cut_CheckProof_L3 a0 a1 m_ t30_1 m6 = some res) : ∃ k, m_ = k + 1 ∧ cut_CheckProof_B3 a0 a1 (cut_CheckProof_L3 a0 a1 k) t30_1 m6 = some res := by
  cases m_ with
  | zero => cases h
  | succ k => exact ⟨k, rfl, h⟩
def cut_CheckProof (a0 : Bog) (a1 : List Pass) : Option (Int × Int) :=
  bnd (cut_Validate a0) fun r2 =>
  if r2 = 0 then
    if (60 : Int) < ((a1.length : Int)) then
      some ((0 : Int), (3 : Int))
    else
      cut_CheckProof_L3 a0 a1 FU (((0 : Int))) ((([] : List (Block × Int))))
  else
    some ((0 : Int), r2)
end Go.D4

set_option linter.unusedVariables false
namespace Go.D4
open Go.Tb
structure Link where
  from_ : Block
  to_ : Block
def encLink (x : Link) : List Value := [.int .i64 x.from_.column, .int .i64 x.from_.row, .int .i64 x.to_.column, .int .i64 x.to_.row]
def ekLink (x : Link) : Value := .agg #[.int .i64 x.from_.column, .int .i64 x.from_.row, .int .i64 x.to_.column, .int .i64 x.to_.row]
def eqLink (x y : Link) : Bool := (x.from_.column == y.from_.column) && (x.from_.row == y.from_.row) && (x.to_.column == y.to_.column) && (x.to_.row == y.to_.row)
end Go.D4

set_option linter.unusedVariables false
namespace Go.D4
open Go.Tb
structure Payer where
  bog : Bog
  has : List (Block × Int)
  passed : List (Link × Int)
def cut_payer_way_k1 (m1 : List (Block × Int)) (m2 : List (Link × Int)) (m3 : List (Block × Bool)) : Option ((List Link) × Bool × (List (Block × Int)) × (List (Link × Int)) × (List (Block × Bool))) :=
  some (([] : List Link), false, m1, m2, m3)
def cut_payer_way_k2 (t8_1 : Int) (rec1 : Int → (List (Block × Bool)) → (List (Block × Int)) → (List (Link × Int)) → Option ((List Link) × Bool × (List (Block × Int)) × (List (Link × Int)) × (List (Block × Bool)))) (m4 : List (Block × Bool)) (m5 : List (Block × Int)) (m6 : List (Link × Int)) : Option ((List Link) × Bool × (List (Block × Int)) × (List (Link × Int)) × (List (Block × Bool))) :=
  gd (InR (t8_1 + 1)) <|
  rec1 ((t8_1 + 1)) m4 m5 m6
def cut_payer_way_k3 (a0 : Payer) (a1 : Block) (recf : Payer → Block → (List (Block × Bool)) → Option ((List Link) × Bool × (List (Block × Int)) × (List (Link × Int)) × (List (Block × Bool)))) (t8_1 : Int) (rec1 : Int → (List (Block × Bool)) → (List (Block × Int)) → (List (Link × Int)) → Option ((List Link) × Bool × (List (Block × Int)) × (List (Link × Int)) × (List (Block × Bool)))) (m7 : List (Block × Bool)) (m8 : List (Block × Int)) (m9 : List (Link × Int)) (t87_1 : Bool) : Option ((List Link) × Bool × (List (Block × Int)) × (List (Link × Int)) × (List (Block × Bool))) :=
  if t87_1 = true then
    bnd (recf ((⟨a0.bog, m8, m9⟩ : Payer)) ((⟨a1.column + t8_1, a1.row + 1⟩ : Block)) m7) fun r1 =>
    if r1.2.1 = true then
      gd ((([(⟨a1, (⟨a1.column + t8_1, a1.row + 1⟩ : Block)⟩ : Link)] : List Link)).length + r1.1.length ≤ 1000000) <|
      some ((([(⟨a1, (⟨a1.column + t8_1, a1.row + 1⟩ : Block)⟩ : Link)] : List Link) ++ r1.1), true, r1.2.2.1, r1.2.2.2.1, r1.2.2.2.2)
    else
      cut_payer_way_k2 t8_1 rec1 r1.2.2.2.2 r1.2.2.1 r1.2.2.2.1
  else
    cut_payer_way_k2 t8_1 rec1 m7 m8 m9
def cut_payer_way_k4 (a0 : Payer) (a1 : Block) (recf : Payer → Block → (List (Block × Bool)) → Option ((List Link) × Bool × (List (Block × Int)) × (List (Link × Int)) × (List (Block × Bool)))) (t8_1 : Int) (rec1 : Int → (List (Block × Bool)) → (List (Block × Int)) → (List (Link × Int)) → Option ((List Link) × Bool × (List (Block × Int)) × (List (Link × Int)) × (List (Block × Bool)))) (m7 : List (Block × Bool)) (m8 : List (Block × Int)) (m9 : List (Link × Int)) : Option ((List Link) × Bool × (List (Block × Int)) × (List (Link × Int)) × (List (Block × Bool))) :=
  gd (InR (a1.column + t8_1)) <|
  gd (InR (a1.row + 1)) <|
  if (0 : Int) < ((mget eqLink m9 ((⟨(⟨a1.column + t8_1, a1.row + 1⟩ : Block), (⟨a1.column, a1.row⟩ : Block)⟩ : Link))).getD 0) then
    cut_payer_way_k3 a0 a1 recf t8_1 rec1 m7 m8 m9 ((!((mget eqBlock m7 ((⟨a1.column + t8_1, a1.row + 1⟩ : Block))).getD false)))
  else
    cut_payer_way_k3 a0 a1 recf t8_1 rec1 m7 m8 m9 false
def cut_payer_way_k5 (a0 : Payer) (a1 : Block) (recf : Payer → Block → (List (Block × Bool)) → Option ((List Link) × Bool × (List (Block × Int)) × (List (Link × Int)) × (List (Block × Bool)))) (t8_1 : Int) (m10 : List (Block × Bool)) (m11 : List (Block × Int)) (m12 : List (Link × Int)) (rec1 : Int → (List (Block × Bool)) → (List (Block × Int)) → (List (Link × Int)) → Option ((List Link) × Bool × (List (Block × Int)) × (List (Link × Int)) × (List (Block × Bool)))) (t52_1 : Bool) : Option ((List Link) × Bool × (List (Block × Int)) × (List (Link × Int)) × (List (Block × Bool))) :=
  if t52_1 = true then
    bnd (recf ((⟨a0.bog, m11, m12⟩ : Payer)) ((⟨a1.column + t8_1, a1.row - 1⟩ : Block)) m10) fun r2 =>
    if r2.2.1 = true then
      gd ((([(⟨a1, (⟨a1.column + t8_1, a1.row - 1⟩ : Block)⟩ : Link)] : List Link)).length + r2.1.length ≤ 1000000) <|
      some ((([(⟨a1, (⟨a1.column + t8_1, a1.row - 1⟩ : Block)⟩ : Link)] : List Link) ++ r2.1), true, r2.2.2.1, r2.2.2.2.1, r2.2.2.2.2)
    else
      cut_payer_way_k4 a0 a1 recf t8_1 rec1 r2.2.2.2.2 r2.2.2.1 r2.2.2.2.1
  else
    cut_payer_way_k4 a0 a1 recf t8_1 rec1 m10 m11 m12
def cut_payer_way_B1 (a0 : Payer) (a1 : Block) (recf : Payer → Block → (List (Block × Bool)) → Option ((List Link) × Bool × (List (Block × Int)) × (List (Link × Int)) × (List (Block × Bool)))) (rec1 : Int → (List (Block × Bool)) → (List (Block × Int)) → (List (Link × Int)) → Option ((List Link) × Bool × (List (Block × Int)) × (List (Link × Int)) × (List (Block × Bool)))) (t8_1 : Int) (m10 : List (Block × Bool)) (m11 : List (Block × Int)) (m12 : List (Link × Int)) : Option ((List Link) × Bool × (List (Block × Int)) × (List (Link × Int)) × (List (Block × Bool))) :=
  if t8_1 ≤ 1 then
    gd (InR (a1.column + t8_1)) <|
    gd (InR (a1.row - 1)) <|
    if (0 : Int) ≤ (a1.row - 1) then
      gd (InR (((a0.bog.worth.length : Int)) - 1)) <|
      bnd (cut_from (a1.column + t8_1) ((0 : Int)) (((a0.bog.worth.length : Int)) - 1)) fun r3 =>
      if r3 = true then
        cut_payer_way_k5 a0 a1 recf t8_1 m10 m11 m12 rec1 ((!((mget eqBlock m10 ((⟨a1.column + t8_1, a1.row - 1⟩ : Block))).getD false)))
      else
        cut_payer_way_k5 a0 a1 recf t8_1 m10 m11 m12 rec1 false
    else
      cut_payer_way_k5 a0 a1 recf t8_1 m10 m11 m12 rec1 false
  else
    cut_payer_way_k1 m11 m12 m10
def cut_payer_way_L1 (a0 : Payer) (a1 : Block) (recf : Payer → Block → (List (Block × Bool)) → Option ((List Link) × Bool × (List (Block × Int)) × (List (Link × Int)) × (List (Block × Bool)))) : Nat → Int → (List (Block × Bool)) → (List (Block × Int)) → (List (Link × Int)) → Option ((List Link) × Bool × (List (Block × Int)) × (List (Link × Int)) × (List (Block × Bool)))
  | 0, _, _, _, _ => none
  | n_ + 1, t8_1, m10, m11, m12 => cut_payer_way_B1 a0 a1 recf (cut_payer_way_L1 a0 a1 recf n_) t8_1 m10 m11 m12
theorem cut_payer_way_L1_s {a0 : Payer} {a1 : Block} {recf : Payer → Block → (List (Block × Bool)) → Option ((List Link) × Bool × (List (Block × Int)) × (List (Link × Int)) × (List (Block × Bool)))} {m_ : Nat} {t8_1 : Int} {m10 : List (Block × Bool)} {m11 : List (Block × Int)} {m12 : List (Link × Int)} {res : (List Link) × Bool × (List (Block × Int)) × (List (Link × Int)) × (List (Block × Bool))} (h : cut_payer_way_L1 a0 a1 recf m_ t8_1 m10 m11 m12 = some res) : ∃ k, m_ = k + 1 ∧ cut_payer_way_B1 a0 a1 recf (cut_payer_way_L1 a0 a1 recf k) t8_1 m10 m11 m12 = some res := by
  cases m_ with
  | zero => cases h
  | succ k => exact ⟨k, rfl, h⟩
def cut_payer_way_body (recf : Payer → Block → (List (Block × Bool)) → Option ((List Link) × Bool × (List (Block × Int)) × (List (Link × Int)) × (List (Block × Bool)))) (a0 : Payer) (a1 : Block) (a2 : List (Block × Bool)) : Option ((List Link) × Bool × (List (Block × Int)) × (List (Link × Int)) × (List (Block × Bool))) :=
  if ((mget eqBlock a0.has ((⟨a1.column, a1.row⟩ : Block))).getD 0) < 0 then
    some (([] : List Link), true, a0.has, a0.passed, (mset eqBlock a2 ((⟨a1.column, a1.row⟩ : Block)) true))
  else
    cut_payer_way_L1 a0 a1 recf FU (((-1 : Int))) (((mset eqBlock a2 ((⟨a1.column, a1.row⟩ : Block)) true))) a0.has a0.passed
def cut_payer_way_F : Nat → Payer → Block → (List (Block × Bool)) → Option ((List Link) × Bool × (List (Block × Int)) × (List (Link × Int)) × (List (Block × Bool)))
  | 0, _, _, _ => none
  | n_ + 1, a0, a1, a2 => cut_payer_way_body (cut_payer_way_F n_) a0 a1 a2
def cut_payer_way (a0 : Payer) (a1 : Block) (a2 : List (Block × Bool)) : Option ((List Link) × Bool × (List (Block × Int)) × (List (Link × Int)) × (List (Block × Bool))) := cut_payer_way_F FU a0 a1 a2
end Go.D4

set_option linter.unusedVariables false
namespace Go.D4
open Go.Tb
def cut_payer_pay_k1 (a1 : Block) (r1 : (List Link) × Bool × (List (Block × Int)) × (List (Link × Int)) × (List (Block × Bool))) (x1 : Link) (t8_1 : Int) (m1 : List (Link × Int)) : Option (Bool × (List (Block × Int)) × (List (Link × Int))) :=
  some (true, (mset eqBlock ((mset eqBlock r1.2.2.1 ((⟨a1.column, a1.row⟩ : Block)) (((mget eqBlock r1.2.2.1 ((⟨a1.column, a1.row⟩ : Block))).getD 0) - t8_1))) ((⟨x1.to_.column, x1.to_.row⟩ : Block)) (((mget eqBlock ((mset eqBlock r1.2.2.1 ((⟨a1.column, a1.row⟩ : Block)) (((mget eqBlock r1.2.2.1 ((⟨a1.column, a1.row⟩ : Block))).getD 0) - t8_1))) ((⟨x1.to_.column, x1.to_.row⟩ : Block))).getD 0) + t8_1)), m1)
def cut_payer_pay_k2 (t81_1 : Int) (rec1 : Int → (List (Link × Int)) → Option (Bool × (List (Block × Int)) × (List (Link × Int)))) (m2 : List (Link × Int)) : Option (Bool × (List (Block × Int)) × (List (Link × Int))) :=
  gd (InR (t81_1 + 1)) <|
  rec1 ((t81_1 + 1)) m2
def cut_payer_pay_B1 (a1 : Block) (r1 : (List Link) × Bool × (List (Block × Int)) × (List (Link × Int)) × (List (Block × Bool))) (x1 : Link) (t8_1 : Int) (rec1 : Int → (List (Link × Int)) → Option (Bool × (List (Block × Int)) × (List (Link × Int)))) (t81_1 : Int) (m3 : List (Link × Int)) : Option (Bool × (List (Block × Int)) × (List (Link × Int))) :=
  if t81_1 < ((r1.1.length : Int)) then
    ix r1.1 t81_1 fun x2 =>
    if x2.from_.row < x2.to_.row then
      gd (InR (((mget eqLink m3 ((⟨(⟨x2.to_.column, x2.to_.row⟩ : Block), (⟨x2.from_.column, x2.from_.row⟩ : Block)⟩ : Link))).getD 0) - t8_1)) <|
      cut_payer_pay_k2 t81_1 rec1 (((mset eqLink m3 ((⟨(⟨x2.to_.column, x2.to_.row⟩ : Block), (⟨x2.from_.column, x2.from_.row⟩ : Block)⟩ : Link)) (((mget eqLink m3 ((⟨(⟨x2.to_.column, x2.to_.row⟩ : Block), (⟨x2.from_.column, x2.from_.row⟩ : Block)⟩ : Link))).getD 0) - t8_1))))
    else
      gd (InR (((mget eqLink m3 ((⟨(⟨x2.from_.column, x2.from_.row⟩ : Block), (⟨x2.to_.column, x2.to_.row⟩ : Block)⟩ : Link))).getD 0) + t8_1)) <|
      cut_payer_pay_k2 t81_1 rec1 (((mset eqLink m3 ((⟨(⟨x2.from_.column, x2.from_.row⟩ : Block), (⟨x2.to_.column, x2.to_.row⟩ : Block)⟩ : Link)) (((mget eqLink m3 ((⟨(⟨x2.from_.column, x2.from_.row⟩ : Block), (⟨x2.to_.column, x2.to_.row⟩ : Block)⟩ : Link))).getD 0) + t8_1))))
  else
    cut_payer_pay_k1 a1 r1 x1 t8_1 m3
def cut_payer_pay_L1 (a1 : Block) (r1 : (List Link) × Bool × (List (Block × Int)) × (List (Link × Int)) × (List (Block × Bool))) (x1 : Link) (t8_1 : Int) : Nat → Int → (List (Link × Int)) → Option (Bool × (List (Block × Int)) × (List (Link × Int)))
  | 0, _, _ => none
  | n_ + 1, t81_1, m3 => cut_payer_pay_B1 a1 r1 x1 t8_1 (cut_payer_pay_L1 a1 r1 x1 t8_1 n_) t81_1 m3
theorem cut_payer_pay_L1_s {a1 : Block} {r1 : (List Link) × Bool × (List (Block × Int)) × (List (Link × Int)) × (List (Block × Bool))} {x1 : Link} {t8_1 : Int} {m_ : Nat} {t81_1 : Int} {m3 : List (Link × Int)} {res : Bool × (List (Block × Int)) × (List (Link × Int))} (h : cut_payer_pay_L1 a1 r1 x1 t8_1 m_ t81_1 m3 = some res) : ∃ k, m_ = k + 1 ∧ cut_payer_pay_B1 a1 r1 x1 t8_1 (cut_payer_pay_L1 a1 r1 x1 t8_1 k) t81_1 m3 = some res := by
  cases m_ with
  | zero => cases h
  | succ k => exact ⟨k, rfl, h⟩
def cut_payer_pay_k3 (a1 : Block) (r1 : (List Link) × Bool × (List (Block × Int)) × (List (Link × Int)) × (List (Block × Bool))) (x1 : Link) (t8_1 : Int) : Option (Bool × (List (Block × Int)) × (List (Link × Int))) :=
  cut_payer_pay_L1 a1 r1 x1 t8_1 FU (((0 : Int))) r1.2.2.2.1
def cut_payer_pay_k4 (a1 : Block) (r1 : (List Link) × Bool × (List (Block × Int)) × (List (Link × Int)) × (List (Block × Bool))) (x1 : Link) (t8_1 : Int) : Option (Bool × (List (Block × Int)) × (List (Link × Int))) :=
  gd (InR (((mget eqBlock ((mset eqBlock r1.2.2.1 ((⟨a1.column, a1.row⟩ : Block)) (((mget eqBlock r1.2.2.1 ((⟨a1.column, a1.row⟩ : Block))).getD 0) - t8_1))) ((⟨x1.to_.column, x1.to_.row⟩ : Block))).getD 0) + t8_1)) <|
  cut_payer_pay_k3 a1 r1 x1 t8_1
def cut_payer_pay_k5 (a1 : Block) (r1 : (List Link) × Bool × (List (Block × Int)) × (List (Link × Int)) × (List (Block × Bool))) (x1 : Link) (t8_1 : Int) : Option (Bool × (List (Block × Int)) × (List (Link × Int))) :=
  gd (InR (((mget eqBlock r1.2.2.1 ((⟨a1.column, a1.row⟩ : Block))).getD 0) - t8_1)) <|
  cut_payer_pay_k4 a1 r1 x1 t8_1
def cut_payer_pay_k6 (t41_1 : Int) (rec2 : Int → Int → Option (Bool × (List (Block × Int)) × (List (Link × Int)))) (t8_2 : Int) : Option (Bool × (List (Block × Int)) × (List (Link × Int))) :=
  gd (InR (t41_1 + 1)) <|
  rec2 t8_2 ((t41_1 + 1))
def cut_payer_pay_B2 (a1 : Block) (r1 : (List Link) × Bool × (List (Block × Int)) × (List (Link × Int)) × (List (Block × Bool))) (x1 : Link) (rec2 : Int → Int → Option (Bool × (List (Block × Int)) × (List (Link × Int)))) (t8_3 : Int) (t41_1 : Int) : Option (Bool × (List (Block × Int)) × (List (Link × Int))) :=
  if t41_1 < ((r1.1.length : Int)) then
    ix r1.1 t41_1 fun x3 =>
    if x3.from_.row < x3.to_.row then
      cut_payer_pay_k6 t41_1 rec2 ((min t8_3 ((mget eqLink r1.2.2.2.1 ((⟨(⟨x3.to_.column, x3.to_.row⟩ : Block), (⟨x3.from_.column, x3.from_.row⟩ : Block)⟩ : Link))).getD 0)))
    else
      cut_payer_pay_k6 t41_1 rec2 t8_3
  else
    cut_payer_pay_k5 a1 r1 x1 t8_3
def cut_payer_pay_L2 (a1 : Block) (r1 : (List Link) × Bool × (List (Block × Int)) × (List (Link × Int)) × (List (Block × Bool))) (x1 : Link) : Nat → Int → Int → Option (Bool × (List (Block × Int)) × (List (Link × Int)))
  | 0, _, _ => none
  | n_ + 1, t8_3, t41_1 => cut_payer_pay_B2 a1 r1 x1 (cut_payer_pay_L2 a1 r1 x1 n_) t8_3 t41_1
theorem cut_payer_pay_L2_s {a1 : Block} {r1 : (List Link) × Bool × (List (Block × Int)) × (List (Link × Int)) × (List (Block × Bool))} {x1 : Link} {m_ : Nat} {t8_3 : Int} {t41_1 : Int} {res : Bool × (List (Block × Int)) × (List (Link × Int))} (h : cut_payer_pay_L2 a1 r1 x1 m_ t8_3 t41_1 = some res) : ∃ k, m_ = k + 1 ∧ cut_payer_pay_B2 a1 r1 x1 (cut_payer_pay_L2 a1 r1 x1 k) t8_3 t41_1 = some res := by
  cases m_ with
  | zero => cases h
  | succ k => exact ⟨k, rfl, h⟩
def cut_payer_pay (a0 : Payer) (a1 : Block) : Option (Bool × (List (Block × Int)) × (List (Link × Int))) :=
  bnd (cut_payer_way a0 a1 (([] : List (Block × Bool)))) fun r1 =>
  if r1.2.1 = true then
    gd (InR (((r1.1.length : Int)) - 1)) <|
    ix r1.1 (((r1.1.length : Int)) - 1) fun x1 =>
    gd (InR (-((mget eqBlock r1.2.2.1 ((⟨x1.to_.column, x1.to_.row⟩ : Block))).getD 0))) <|
    cut_payer_pay_L2 a1 r1 x1 FU ((min ((mget eqBlock r1.2.2.1 ((⟨a1.column, a1.row⟩ : Block))).getD 0) (-((mget eqBlock r1.2.2.1 ((⟨x1.to_.column, x1.to_.row⟩ : Block))).getD 0)))) (((0 : Int)))
  else
    some (false, r1.2.2.1, r1.2.2.2.1)
end Go.D4

set_option linter.unusedVariables false
namespace Go.D4
open Go.Tb
def cut_Proof_k1 (l1 : List Pass) : Option ((List Pass) × Int) :=
  some (l1, (0 : Int))
def cut_Proof_k2 (t81_1 : Int) (rec1 : Int → (List Pass) → Option ((List Pass) × Int)) (l2 : List Pass) : Option ((List Pass) × Int) :=
  gd (InR (t81_1 + 1)) <|
  rec1 ((t81_1 + 1)) l2
def cut_Proof_k3 (t15_1 : Int) (rec2 : Int → (List Pass) → Option ((List Pass) × Int)) (l3 : List Pass) : Option ((List Pass) × Int) :=
  gd (InR (t15_1 + 1)) <|
  rec2 ((t15_1 + 1)) l3
def cut_Proof_k4 (t16_1 : Int) (rec3 : Int → (List Pass) → Option ((List Pass) × Int)) (l4 : List Pass) : Option ((List Pass) × Int) :=
  gd (InR (t16_1 + 1)) <|
  rec3 ((t16_1 + 1)) l4
def cut_Proof_B1 (m1 : List (Link × Int)) (t81_1 : Int) (t15_1 : Int) (rec2 : Int → (List Pass) → Option ((List Pass) × Int)) (rec3 : Int → (List Pass) → Option ((List Pass) × Int)) (t16_1 : Int) (l5 : List Pass) : Option ((List Pass) × Int) :=
  gd (InR (t81_1 + 1)) <|
  if t16_1 ≤ (t81_1 + 1) then
    gd (InR (t15_1 - 1)) <|
    if (0 : Int) < ((mget eqLink m1 ((⟨(⟨t81_1, t15_1⟩ : Block), (⟨t16_1, t15_1 - 1⟩ : Block)⟩ : Link))).getD 0) then
      gd (l5.length + (([(⟨t81_1, t15_1, t16_1, (mget eqLink m1 ((⟨(⟨t81_1, t15_1⟩ : Block), (⟨t16_1, t15_1 - 1⟩ : Block)⟩ : Link))).getD 0⟩ : Pass)] : List Pass)).length ≤ 1000000) <|
      cut_Proof_k4 t16_1 rec3 (((l5 ++ ([(⟨t81_1, t15_1, t16_1, (mget eqLink m1 ((⟨(⟨t81_1, t15_1⟩ : Block), (⟨t16_1, t15_1 - 1⟩ : Block)⟩ : Link))).getD 0⟩ : Pass)] : List Pass))))
    else
      cut_Proof_k4 t16_1 rec3 l5
  else
    cut_Proof_k3 t15_1 rec2 l5
def cut_Proof_L1 (m1 : List (Link × Int)) (t81_1 : Int) (t15_1 : Int) (rec2 : Int → (List Pass) → Option ((List Pass) × Int)) : Nat → Int → (List Pass) → Option ((List Pass) × Int)
  | 0, _, _ => none
  | n_ + 1, t16_1, l5 => cut_Proof_B1 m1 t81_1 t15_1 rec2 (cut_Proof_L1 m1 t81_1 t15_1 rec2 n_) t16_1 l5
theorem cut_Proof_L1_s {m1 : List (Link × Int)} {t81_1 : Int} {t15_1 : Int} {rec2 : Int → (List Pass) → Option ((List Pass) × Int)} {m_ : Nat} {t16_1 : Int} {l5 : List Pass} {res : (List Pass) × Int} (h : cut_Proof_L1 m1 t81_1 t15_1 rec2 m_ t16_1 l5 = some res) : ∃ k, m_ = k + 1 ∧ cut_Proof_B1 m1 t81_1 t15_1 rec2 (cut_Proof_L1 m1 t81_1 t15_1 rec2 k) t16_1 l5 = some res := by
  cases m_ with
  | zero => cases h
  | succ k => exact ⟨k, rfl, h⟩
def cut_Proof_B2 (a0 : Bog) (m1 : List (Link × Int)) (t81_1 : Int) (rec1 : Int → (List Pass) → Option ((List Pass) × Int)) (rec2 : Int → (List Pass) → Option ((List Pass) × Int)) (t15_1 : Int) (l6 : List Pass) : Option ((List Pass) × Int) :=
  bnd (cut_depth a0) fun r1 =>
  if t15_1 < r1 then
    gd (InR (t81_1 - 1)) <|
    cut_Proof_L1 m1 t81_1 t15_1 rec2 FU ((t81_1 - 1)) l6
  else
    cut_Proof_k2 t81_1 rec1 l6
def cut_Proof_L2 (a0 : Bog) (m1 : List (Link × Int)) (t81_1 : Int) (rec1 : Int → (List Pass) → Option ((List Pass) × Int)) : Nat → Int → (List Pass) → Option ((List Pass) × Int)
  | 0, _, _ => none
  | n_ + 1, t15_1, l6 => cut_Proof_B2 a0 m1 t81_1 rec1 (cut_Proof_L2 a0 m1 t81_1 rec1 n_) t15_1 l6
theorem cut_Proof_L2_s {a0 : Bog} {m1 : List (Link × Int)} {t81_1 : Int} {rec1 : Int → (List Pass) → Option ((List Pass) × Int)} {m_ : Nat} {t15_1 : Int} {l6 : List Pass} {res : (List Pass) × Int} (h : cut_Proof_L2 a0 m1 t81_1 rec1 m_ t15_1 l6 = some res) : ∃ k, m_ = k + 1 ∧ cut_Proof_B2 a0 m1 t81_1 rec1 (cut_Proof_L2 a0 m1 t81_1 rec1 k) t15_1 l6 = some res := by
  cases m_ with
  | zero => cases h
  | succ k => exact ⟨k, rfl, h⟩
def cut_Proof_B3 (a0 : Bog) (m1 : List (Link × Int)) (rec1 : Int → (List Pass) → Option ((List Pass) × Int)) (t81_1 : Int) (l7 : List Pass) : Option ((List Pass) × Int) :=
  if t81_1 < ((a0.worth.length : Int)) then
    cut_Proof_L2 a0 m1 t81_1 rec1 FU (((1 : Int))) l7
  else
    cut_Proof_k1 l7
def cut_Proof_L3 (a0 : Bog) (m1 : List (Link × Int)) : Nat → Int → (List Pass) → Option ((List Pass) × Int)
  | 0, _, _ => none
  | n_ + 1, t81_1, l7 => cut_Proof_B3 a0 m1 (cut_Proof_L3 a0 m1 n_) t81_1 l7
theorem cut_Proof_L3_s {a0 : Bog} {m1 : List (Link × Int)} {m_ : Nat} {t81_1 : Int} {l7 : List Pass} {res : (List Pass) × Int} (h : cut_Proof_L3 a0 m1 m_ t81_1 l7 = some res) : ∃ k, m_ = k + 1 ∧ cut_Proof_B3 a0 m1 (cut_Proof_L3 a0 m1 k) t81_1 l7 = some res := by
  cases m_ with
  | zero => cases h
  | succ k => exact ⟨k, rfl, h⟩
def cut_Proof_k5 (a0 : Bog) (m2 : List (Block × Int)) (m1 : List (Link × Int)) : Option ((List Pass) × Int) :=
  cut_Proof_L3 a0 m1 FU (((0 : Int))) ((([] : List Pass)))
def cut_Proof_k6 (t54_1 : Int) (rec4 : Bool → Int → (List (Block × Int)) → (List (Link × Int)) → Option ((List Pass) × Int)) (t10_1 : Bool) (m3 : List (Block × Int)) (m4 : List (Link × Int)) : Option ((List Pass) × Int) :=
  gd (InR (t54_1 + 1)) <|
  rec4 t10_1 ((t54_1 + 1)) m3 m4
def cut_Proof_k7 (t59_1 : Int) (rec5 : Bool → Int → (List (Block × Int)) → (List (Link × Int)) → Option ((List Pass) × Int)) (t10_2 : Bool) (m5 : List (Block × Int)) (m6 : List (Link × Int)) : Option ((List Pass) × Int) :=
  gd (InR (t59_1 + 1)) <|
  rec5 t10_2 ((t59_1 + 1)) m5 m6
def cut_Proof_k8 (t10_3 : Bool) (t59_1 : Int) (rec5 : Bool → Int → (List (Block × Int)) → (List (Link × Int)) → Option ((List Pass) × Int)) (t75_1 : Bool) (m7 : List (Block × Int)) (m8 : List (Link × Int)) : Option ((List Pass) × Int) :=
  if t75_1 = true then
    cut_Proof_k7 t59_1 rec5 true m7 m8
  else
    cut_Proof_k7 t59_1 rec5 t10_3 m7 m8
def cut_Proof_B4 (a0 : Bog) (t54_1 : Int) (rec4 : Bool → Int → (List (Block × Int)) → (List (Link × Int)) → Option ((List Pass) × Int)) (r2 : Int) (rec5 : Bool → Int → (List (Block × Int)) → (List (Link × Int)) → Option ((List Pass) × Int)) (t10_3 : Bool) (t59_1 : Int) (m9 : List (Block × Int)) (m10 : List (Link × Int)) : Option ((List Pass) × Int) :=
  if t59_1 < r2 then
    if (0 : Int) < ((mget eqBlock m9 ((⟨t54_1, t59_1⟩ : Block))).getD 0) then
      bnd (cut_payer_pay ((⟨a0, m9, m10⟩ : Payer)) ((⟨t54_1, t59_1⟩ : Block))) fun r3 =>
      cut_Proof_k8 t10_3 t59_1 rec5 r3.1 r3.2.1 r3.2.2
    else
      cut_Proof_k8 t10_3 t59_1 rec5 false m9 m10
  else
    cut_Proof_k6 t54_1 rec4 t10_3 m9 m10
def cut_Proof_L4 (a0 : Bog) (t54_1 : Int) (rec4 : Bool → Int → (List (Block × Int)) → (List (Link × Int)) → Option ((List Pass) × Int)) (r2 : Int) : Nat → Bool → Int → (List (Block × Int)) → (List (Link × Int)) → Option ((List Pass) × Int)
  | 0, _, _, _, _ => none
  | n_ + 1, t10_3, t59_1, m9, m10 => cut_Proof_B4 a0 t54_1 rec4 r2 (cut_Proof_L4 a0 t54_1 rec4 r2 n_) t10_3 t59_1 m9 m10
theorem cut_Proof_L4_s {a0 : Bog} {t54_1 : Int} {rec4 : Bool → Int → (List (Block × Int)) → (List (Link × Int)) → Option ((List Pass) × Int)} {r2 : Int} {m_ : Nat} {t10_3 : Bool} {t59_1 : Int} {m9 : List (Block × Int)} {m10 : List (Link × Int)} {res : (List Pass) × Int} (h : cut_Proof_L4 a0 t54_1 rec4 r2 m_ t10_3 t59_1 m9 m10 = some res) : ∃ k, m_ = k + 1 ∧ cut_Proof_B4 a0 t54_1 rec4 r2 (cut_Proof_L4 a0 t54_1 rec4 r2 k) t10_3 t59_1 m9 m10 = some res := by
  cases m_ with
  | zero => cases h
  | succ k => exact ⟨k, rfl, h⟩
def cut_Proof_B5 (a0 : Bog) (rec6 : Bool → (List (Block × Int)) → (List (Link × Int)) → Option ((List Pass) × Int)) (rec4 : Bool → Int → (List (Block × Int)) → (List (Link × Int)) → Option ((List Pass) × Int)) (t10_4 : Bool) (t54_1 : Int) (m11 : List (Block × Int)) (m12 : List (Link × Int)) : Option ((List Pass) × Int) :=
  if t54_1 < ((a0.worth.length : Int)) then
    bnd (cut_depth a0) fun r2 =>
    cut_Proof_L4 a0 t54_1 rec4 r2 FU t10_4 (((0 : Int))) m11 m12
  else
    rec6 t10_4 m11 m12
def cut_Proof_L5 (a0 : Bog) (rec6 : Bool → (List (Block × Int)) → (List (Link × Int)) → Option ((List Pass) × Int)) : Nat → Bool → Int → (List (Block × Int)) → (List (Link × Int)) → Option ((List Pass) × Int)
  | 0, _, _, _, _ => none
  | n_ + 1, t10_4, t54_1, m11, m12 => cut_Proof_B5 a0 rec6 (cut_Proof_L5 a0 rec6 n_) t10_4 t54_1 m11 m12
theorem cut_Proof_L5_s {a0 : Bog} {rec6 : Bool → (List (Block × Int)) → (List (Link × Int)) → Option ((List Pass) × Int)} {m_ : Nat} {t10_4 : Bool} {t54_1 : Int} {m11 : List (Block × Int)} {m12 : List (Link × Int)} {res : (List Pass) × Int} (h : cut_Proof_L5 a0 rec6 m_ t10_4 t54_1 m11 m12 = some res) : ∃ k, m_ = k + 1 ∧ cut_Proof_B5 a0 rec6 (cut_Proof_L5 a0 rec6 k) t10_4 t54_1 m11 m12 = some res := by
  cases m_ with
  | zero => cases h
  | succ k => exact ⟨k, rfl, h⟩
def cut_Proof_B6 (a0 : Bog) (rec6 : Bool → (List (Block × Int)) → (List (Link × Int)) → Option ((List Pass) × Int)) (t10_5 : Bool) (m13 : List (Block × Int)) (m14 : List (Link × Int)) : Option ((List Pass) × Int) :=
  if t10_5 = true then
    cut_Proof_L5 a0 rec6 FU false (((0 : Int))) m13 m14
  else
    cut_Proof_k5 a0 m13 m14
def cut_Proof_L6 (a0 : Bog) : Nat → Bool → (List (Block × Int)) → (List (Link × Int)) → Option ((List Pass) × Int)
  | 0, _, _, _ => none
  | n_ + 1, t10_5, m13, m14 => cut_Proof_B6 a0 (cut_Proof_L6 a0 n_) t10_5 m13 m14
theorem cut_Proof_L6_s {a0 : Bog} {m_ : Nat} {t10_5 : Bool} {m13 : List (Block × Int)} {m14 : List (Link × Int)} {res : (List Pass) × Int} (h : cut_Proof_L6 a0 m_ t10_5 m13 m14 = some res) : ∃ k, m_ = k + 1 ∧ cut_Proof_B6 a0 (cut_Proof_L6 a0 k) t10_5 m13 m14 = some res := by
  cases m_ with
  | zero => cases h
  | succ k => exact ⟨k, rfl, h⟩
def cut_Proof_k9 (a0 : Bog) (m15 : List (Block × Int)) : Option ((List Pass) × Int) :=
  cut_Proof_L6 a0 FU true m15 ((([] : List (Link × Int))))
def cut_Proof_k10 (t30_1 : Int) (rec7 : Int → (List (Block × Int)) → Option ((List Pass) × Int)) (m16 : List (Block × Int)) : Option ((List Pass) × Int) :=
  gd (InR (t30_1 + 1)) <|
  rec7 ((t30_1 + 1)) m16
def cut_Proof_B7 (t30_1 : Int) (rec7 : Int → (List (Block × Int)) → Option ((List Pass) × Int)) (x1 : List Int) (rec8 : Int → (List (Block × Int)) → Option ((List Pass) × Int)) (t37_1 : Int) (m17 : List (Block × Int)) : Option ((List Pass) × Int) :=
  if t37_1 < ((x1.length : Int)) then
    ix x1 t37_1 fun x2 =>
    gd (InR (t37_1 + 1)) <|
    rec8 ((t37_1 + 1)) (((mset eqBlock m17 ((⟨t30_1, t37_1⟩ : Block)) x2)))
  else
    cut_Proof_k10 t30_1 rec7 m17
def cut_Proof_L7 (t30_1 : Int) (rec7 : Int → (List (Block × Int)) → Option ((List Pass) × Int)) (x1 : List Int) : Nat → Int → (List (Block × Int)) → Option ((List Pass) × Int)
  | 0, _, _ => none
  | n_ + 1, t37_1, m17 => cut_Proof_B7 t30_1 rec7 x1 (cut_Proof_L7 t30_1 rec7 x1 n_) t37_1 m17
theorem cut_Proof_L7_s {t30_1 : Int} {rec7 : Int → (List (Block × Int)) → Option ((List Pass) × Int)} {x1 : List Int} {m_ : Nat} {t37_1 : Int} {m17 : List (Block × Int)} {res : (List Pass) × Int} (h : cut_Proof_L7 t30_1 rec7 x1 m_ t37_1 m17 = some res) : ∃ k, m_ = k + 1 ∧ cut_Proof_B7 t30_1 rec7 x1 (cut_Proof_L7 t30_1 rec7 x1 k) t37_1 m17 = some res := by
  cases m_ with
  | zero => cases h
  | succ k => exact ⟨k, rfl, h⟩
def cut_Proof_B8 (a0 : Bog) (rec7 : Int → (List (Block × Int)) → Option ((List Pass) × Int)) (t30_1 : Int) (m18 : List (Block × Int)) : Option ((List Pass) × Int) :=
  if t30_1 < ((a0.worth.length : Int)) then
    ix a0.worth t30_1 fun x1 =>
    cut_Proof_L7 t30_1 rec7 x1 FU (((0 : Int))) m18
  else
    cut_Proof_k9 a0 m18
def cut_Proof_L8 (a0 : Bog) : Nat → Int → (List (Block × Int)) → Option ((List Pass) × Int)
  | 0, _, _ => none
  | n_ + 1, t30_1, m18 => cut_Proof_B8 a0 (cut_Proof_L8 a0 n_) t30_1 m18
theorem cut_Proof_L8_s {a0 : Bog} {m_ : Nat} {t30_1 : Int} {m18 : List (Block × Int)} {res : (List Pass) × Int} (h : cut_Proof_L8 a0 m_ t30_1 m18 = some res) : ∃ k, m_ = k + 1 ∧ cut_Proof_B8 a0 (cut_Proof_L8 a0 k) t30_1 m18 = some res := by
  cases m_ with
  | zero => cases h
  | succ k => exact ⟨k, rfl, h⟩
def cut_Proof (a0 : Bog) : Option ((List Pass) × Int) :=
  bnd (cut_Validate a0) fun r4 =>
  if r4 = 0 then
    cut_Proof_L8 a0 FU (((0 : Int))) ((([] : List (Block × Int))))
  else
    some (([] : List Pass), r4)
end Go.D4

set_option linter.unusedVariables false
namespace Go.D4
open Go.Tb
def ref05_SameInts_k1 : Option Bool :=
  some true
def ref05_SameInts_B1 (a0 : List Int) (a1 : List Int) (rec1 : Int → Option Bool) (t5_1 : Int) : Option Bool :=
  if t5_1 < ((a0.length : Int)) then
    ix a0 t5_1 fun x1 =>
    ix a1 t5_1 fun x2 =>
    if x1 = x2 then
      gd (InR (t5_1 + 1)) <|
      rec1 ((t5_1 + 1))
    else
      some false
  else
    ref05_SameInts_k1
def ref05_SameInts_L1 (a0 : List Int) (a1 : List Int) : Nat → Int → Option Bool
  | 0, _ => none
  | n_ + 1, t5_1 => ref05_SameInts_B1 a0 a1 (ref05_SameInts_L1 a0 a1 n_) t5_1
theorem ref05_SameInts_L1_s {a0 : List Int} {a1 : List Int} {m_ : Nat} {t5_1 : Int} {res : Bool} (h : ref05_SameInts_L1 a0 a1 m_ t5_1 = some res) : ∃ k, m_ = k + 1 ∧ ref05_SameInts_B1 a0 a1 (ref05_SameInts_L1 a0 a1 k) t5_1 = some res := by
  cases m_ with
  | zero => cases h
  | succ k => exact ⟨k, rfl, h⟩
def ref05_SameInts (a0 : List Int) (a1 : List Int) : Option Bool :=
  if ((a0.length : Int)) = ((a1.length : Int)) then
    ref05_SameInts_L1 a0 a1 FU (((0 : Int)))
  else
    some false
def top_TopHollows_k1 (a0 : Bog) (a1 : List Int) (r1 : (List Int) × Int × Int) (r2 : (List Int) × Int × Int) : Option Bool :=
  bnd (cut_Worth a0 a1) fun r3 =>
  if r3.2 = 0 then
    bnd (cut_Either a0 a1 r1.1) fun r4 =>
    bnd (cut_Both a0 a1 r2.1) fun r5 =>
    bnd (cut_Worth a0 r4.1) fun r6 =>
    bnd (cut_Worth a0 r5.1) fun r7 =>
    if r4.2 = 0 then
      if r5.2 = 0 then
        if r6.2 = 0 then
          if r7.2 = 0 then
            if r3.1 ≤ r1.2.1 then
              if r3.1 ≤ r6.1 then
                some (decide (r3.1 ≤ r7.1))
              else
                some false
            else
              some false
          else
            some false
        else
          some false
      else
        some false
    else
      some false
  else
    some true
def top_TopHollows_k2 (a0 : Bog) (a1 : List Int) (r1 : (List Int) × Int × Int) (r2 : (List Int) × Int × Int) (t179_1 : Bool) : Option Bool :=
  if t179_1 = true then
    some false
  else
    top_TopHollows_k1 a0 a1 r1 r2
def top_TopHollows_k3 (a0 : Bog) (a1 : List Int) (r1 : (List Int) × Int × Int) (r2 : (List Int) × Int × Int) (r8 : Bog × Int) (t154_1 : Bool) : Option Bool :=
  if t154_1 = true then
    bnd (cut_Deepest r8.1) fun r9 =>
    bnd (cut_Both a0 r9.1 r2.1) fun r10 =>
    if r9.2.2 = 0 then
      if r10.2 = 0 then
        bnd (ref05_SameInts r10.1 r9.1) fun r11 =>
        top_TopHollows_k2 a0 a1 r1 r2 ((!r11))
      else
        top_TopHollows_k2 a0 a1 r1 r2 true
    else
      top_TopHollows_k2 a0 a1 r1 r2 true
  else
    top_TopHollows_k1 a0 a1 r1 r2
def top_TopHollows_k4 (a0 : Bog) (a1 : List Int) (a2 : Int) (r1 : (List Int) × Int × Int) (r2 : (List Int) × Int × Int) (t142_1 : Bool) : Option Bool :=
  if t142_1 = true then
    some false
  else
    bnd (cut_Toll a0 a2) fun r8 =>
    if r8.2 = 0 then
      top_TopHollows_k3 a0 a1 r1 r2 r8 ((decide ((0 : Int) ≤ a2)))
    else
      top_TopHollows_k3 a0 a1 r1 r2 r8 false
def top_TopHollows_k5 (a0 : Bog) (a1 : List Int) (a2 : Int) (r1 : (List Int) × Int × Int) (r2 : (List Int) × Int × Int) (r12 : (List Pass) × Int) (t76_1 : Bool) : Option Bool :=
  if t76_1 = true then
    some false
  else
    if r1.2.2 = 0 then
      bnd (cut_CheckProof a0 r12.1) fun r13 =>
      bnd (cut_Order a0 r2.1) fun r14 =>
      bnd (cut_CheckOrder a0 r14.1) fun r15 =>
      bnd (cut_Worth a0 r2.1) fun r16 =>
      if r13.2 = 0 then
        if r14.2 = 0 then
          if r15.2.2 = 0 then
            if r16.2 = 0 then
              if r1.2.1 = r2.2.1 then
                if r13.1 = r1.2.1 then
                  if r16.1 = r1.2.1 then
                    bnd (ref05_SameInts r15.1 r2.1) fun r17 =>
                    top_TopHollows_k4 a0 a1 a2 r1 r2 ((!r17))
                  else
                    top_TopHollows_k4 a0 a1 a2 r1 r2 true
                else
                  top_TopHollows_k4 a0 a1 a2 r1 r2 true
              else
                top_TopHollows_k4 a0 a1 a2 r1 r2 true
            else
              top_TopHollows_k4 a0 a1 a2 r1 r2 true
          else
            top_TopHollows_k4 a0 a1 a2 r1 r2 true
        else
          top_TopHollows_k4 a0 a1 a2 r1 r2 true
      else
        top_TopHollows_k4 a0 a1 a2 r1 r2 true
    else
      bnd (cut_Validate a0) fun r18 =>
      some (decide (r18 = r1.2.2))
def top_TopHollows_k6 (a0 : Bog) (a1 : List Int) (a2 : Int) (t47_1 : Bool) : Option Bool :=
  if t47_1 = true then
    some false
  else
    bnd (law04_Long a0 (([a1] : List (List Int)))) fun r19 =>
    if r19 = true then
      some true
    else
      bnd (cut_Best a0) fun r1 =>
      bnd (cut_Deepest a0) fun r2 =>
      bnd (cut_Proof a0) fun r12 =>
      if r1.2.2 = r2.2.2 then
        top_TopHollows_k5 a0 a1 a2 r1 r2 r12 ((!(decide (r2.2.2 = r12.2))))
      else
        top_TopHollows_k5 a0 a1 a2 r1 r2 r12 true
def top_TopHollows (a0 : Bog) (a1 : List Int) (a2 : Int) : Option Bool :=
  bnd (cut_Count ((⟨([([1] : List Int), ([1] : List Int)] : List (List Int))⟩ : Bog))) fun r20 =>
  if r20.2 = 0 then
    top_TopHollows_k6 a0 a1 a2 ((!(decide (r20.1 = 4))))
  else
    top_TopHollows_k6 a0 a1 a2 true
end Go.D4

set_option linter.unusedVariables false
set_option linter.unusedSimpArgs false
namespace Go.D4
open Go.Tb Go.Proofs Go.RowKit
theorem Ta87 : tyA Try.prog 87 = some (3, 6, 1) := by kernel_rfl
theorem Tc67 : callable Try.prog 67 = true := by kernel_rfl
theorem Tc68 : callable Try.prog 68 = true := by kernel_rfl
theorem Tc69 : callable Try.prog 69 = true := by kernel_rfl
theorem Tc70 : callable Try.prog 70 = true := by kernel_rfl
theorem Tc97 : callable Try.prog 97 = true := by kernel_rfl
theorem Tc99 : callable Try.prog 99 = true := by kernel_rfl
theorem Tf24_0 : tyF Try.prog 24 0 = some 0 := by kernel_rfl
theorem Tk22 : tyK Try.prog 22 = some (false, 1) := by kernel_rfl
theorem Tk24 : tyK Try.prog 24 = some (true, 1) := by kernel_rfl
theorem Tk25 : tyK Try.prog 25 = some (false, 1) := by kernel_rfl
theorem Tk3 : tyK Try.prog 3 = some (false, 1) := by kernel_rfl
theorem Tk87 : tyK Try.prog 87 = some (true, 6) := by kernel_rfl
theorem mixed : Try.prog.follows .mixedOrders = true := by kernel_rfl
theorem Ts22 : tyS Try.prog 22 = some (25, 1, 24, [.slice none 0 0]) := by kernel_rfl
theorem Ts25 : tyS Try.prog 25 = some (3, 1, 8, [.int .i64 0]) := by kernel_rfl
theorem Ts82 : tyS Try.prog 82 = some (87, 6, 48, [.int .i64 0, .int .i64 0, .int .i64 0, .int .i64 0, .int .i64 0, .int .i64 0]) := by kernel_rfl
theorem Tz87 : tyZ Try.prog 87 = some (.agg #[.int .i64 0, .int .i64 0, .int .i64 0, .int .i64 0, .int .i64 0, .int .i64 0]) := by kernel_rfl
set_option maxRecDepth 20000 in
set_option maxHeartbeats 1000000 in
theorem law04_Long_ok {a0 : Bog} {a1 : List (List Int)} {A_a0_worth : Option Addr} {c_a0_worth : Nat} {A_a1 : Option Addr} {c_a1 : Nat} {w : World} {res : Bool} (h_a0_worth : Sl2 w A_a0_worth c_a0_worth 1 encN a0.worth) (h_a1 : Sl2 w A_a1 c_a1 1 encN a1) (F : law04_Long a0 a1 = some res) : Calls Try.prog 17 #[.agg #[.slice A_a0_worth a0.worth.length c_a0_worth], .slice A_a1 a1.length c_a1] w (Rt w (.bool res)) := by
  refine calls_of_cw (args := [.agg #[.slice A_a0_worth a0.worth.length c_a0_worth], .slice A_a1 a1.length c_a1]) Try.func17 rfl rfl rfl rfl ?_
  have H := Hp.start w
  have R0 := H.ext
  unfold law04_Long at F
  refine CW.seq fun K1 hK1 => ?_
  refine CW.region ?_
  refine LW.go rfl rfl (OW.box rfl fun b1 w1 N1 => ?_)
  replace H := H.new N1 N1.blk
  replace R0 := H.ext
  refine LW.pure rfl rfl (RV.assign rfl) ?_
  refine LW.nil (hK1 _ _ ?_)
  refine CW.seqJ (fun ρ wl1 => (law04_Long_k2 a0 = some res ∧ ρ = [(2, .pointer (some (⟨b1, 0, none⟩))), (4, .bool false)] ∧ Hp w wl1 [.blk b1 24 [.slice A_a0_worth a0.worth.length c_a0_worth]])) ?_ ?_
  ·
    rintro _ wl1 ⟨F, rfl, H⟩
    have R0 := H.ext
    unfold law04_Long_k2 at F
    refine CW.seqJ (fun ρ wl2 => (law04_Long_k1 a0 = some res ∧ ρ = [(2, .pointer (some (⟨b1, 0, none⟩))), (4, .bool false)] ∧ Hp w wl2 [.blk b1 24 [.slice A_a0_worth a0.worth.length c_a0_worth]])) ?_ ?_
    ·
      rintro _ wl2 ⟨F, rfl, H⟩
      have R0 := H.ext
      unfold law04_Long_k1 at F
      refine CW.seq fun K2 hK2 => ?_
      refine CW.region ?_
      refine LW.pure rfl rfl (RV.fieldAddr Tf24_0 rfl) ?_
      refine LW.pure rfl rfl (RV.load1 Tk22 rfl ((H.blk 0 rfl).cells.off 0) rfl) ?_
      refine LW.pure rfl rfl (RV.len Ts22 rfl) ?_
      refine LW.pure rfl rfl (RV.gtr rfl rfl) ?_
      refine LW.pure rfl rfl (RV.assign rfl) ?_
      refine LW.nil (hK2 _ _ ?_)
      refine CW.ret ?_
      obtain rfl := Option.some.inj F
      refine ⟨_, (ResOK.one rfl), ?_⟩
      refine ⟨(by first | rfl | simp), R0⟩
    ·
      intro K3 hK3 jK103
      refine CW.seq fun K4 hK4 => ?_
      refine CW.region ?_
      refine LW.pure rfl rfl (RV.assign rfl) ?_
      refine LW.nil (hK4 _ _ ?_)
      refine CW.block ?_
      refine CW.loop (fun meas ρ wl3 => ∃ (t6_1 : Int), law04_Long_L1 a0 meas t6_1 = some res ∧ ρ = [(2, .pointer (some (⟨b1, 0, none⟩))), (4, .bool false), (6, .int .i64 t6_1)] ∧ Hp w wl3 [.blk b1 24 [.slice A_a0_worth a0.worth.length c_a0_worth]]) FU ⟨_, ?_, ((0 : Int)), F, rfl, H⟩ ?_
      · exact ⟨rfl, rfl, rfl, trivial⟩
      rintro mk1 _ wl3 ⟨t6_1, F, rfl, H⟩
      have R0 := H.ext
      replace F := law04_Long_L1_s F
      obtain ⟨mk1, rfl, F⟩ := F
      generalize hrec1 : law04_Long_L1 a0 mk1 = rec1 at F
      unfold law04_Long_B1 at F
      refine CW.seq fun K5 hK5 => ?_
      refine CW.seq fun K6 hK6 => ?_
      refine CW.region ?_
      refine LW.pure rfl rfl (RV.move rfl) ?_
      refine LW.pure rfl rfl (RV.fieldAddr Tf24_0 rfl) ?_
      refine LW.pure rfl rfl (RV.load1 Tk22 rfl ((H.blk 0 rfl).cells.off 0) rfl) ?_
      refine LW.pure rfl rfl (RV.len Ts22 rfl) ?_
      refine LW.pure rfl rfl (RV.lss rfl rfl) ?_
      refine LW.nil (hK6 _ _ ?_)
      by_cases hp1 : t6_1 < ((a0.worth.length : Int))
      ·
        replace F := ite_y hp1 F
        have hq1 := dec_t hp1
        refine CW.condT rfl hq1 ?_
        refine CW.skip (hK5 _ _ ?_)
        refine CW.seq fun K7 hK7 => ?_
        refine CW.block ?_
        refine CW.seq fun K8 hK8 => ?_
        obtain ⟨x1, hbx1, hx1, F⟩ := ix_some F
        refine CW.region ?_
        refine LW.pure rfl rfl (RV.fieldAddr Tf24_0 rfl) ?_
        refine LW.pure rfl rfl (RV.load1 Tk22 rfl ((H.blk 0 rfl).cells.off 0) rfl) ?_
        refine LW.pure rfl rfl (RV.move rfl) ?_
        obtain ⟨A1, c1, hC1, hS1⟩ := h_a0_worth.at_ hx1
        refine LW.pure rfl rfl (RV.indexAddr Ts22 rfl rfl hbx1 (h_a0_worth.addr hbx1)) ?_
        refine LW.pure rfl rfl (RV.load1 Tk25 rfl (hC1.ext R0) rfl) ?_
        refine LW.pure rfl rfl (RV.len Ts25 rfl) ?_
        refine LW.pure rfl rfl (RV.gtr rfl rfl) ?_
        refine LW.nil (hK8 _ _ ?_)
        by_cases hp2 : (50 : Int) < ((x1.length : Int))
        ·
          replace F := ite_y hp2 F
          have hq2 := dec_t hp2
          refine CW.condT rfl hq2 ?_
          refine CW.seq fun K9 hK9 => ?_
          refine CW.region ?_
          refine LW.pure rfl rfl (RV.assign rfl) ?_
          refine LW.nil (hK9 _ _ ?_)
          refine CW.ret ?_
          obtain rfl := Option.some.inj F
          refine ⟨_, (ResOK.one rfl), ?_⟩
          refine ⟨(by first | rfl | simp), R0⟩
        ·
          replace F := ite_n hp2 F
          have hq2 := dec_f hp2
          refine CW.condF rfl hq2 ?_
          refine CW.skip (hK7 _ _ ?_)
          obtain ⟨hg1, F⟩ := gd_some F
          refine CW.region ?_
          refine LW.pure rfl rfl (RV.move rfl) ?_
          refine LW.pure rfl rfl (RV.add rfl rfl hg1) ?_
          refine LW.pure rfl rfl (RV.assign rfl) ?_
          refine LW.nil ?_
          subst hrec1
          refine ⟨mk1, Nat.lt_succ_self _, _, ?_, (t6_1 + 1), F, rfl, H⟩
          exact ⟨rfl, rfl, rfl, trivial⟩
      ·
        replace F := ite_n hp1 F
        have hq1 := dec_f hp1
        refine CW.condF rfl hq1 ?_
        refine CW.exit (jK103 _ _ ⟨_, ?_, ⟨F, rfl, H⟩⟩)
        exact ⟨rfl, rfl, trivial⟩
  ·
    intro K10 hK10 jK120
    refine CW.seq fun K11 hK11 => ?_
    refine CW.region ?_
    refine LW.pure rfl rfl (RV.assign rfl) ?_
    refine LW.nil (hK11 _ _ ?_)
    refine CW.block ?_
    refine CW.loop (fun meas ρ wl4 => ∃ (t5_1 : Int), law04_Long_L2 a0 a1 meas t5_1 = some res ∧ ρ = [(1, .slice A_a1 a1.length c_a1), (2, .pointer (some (⟨b1, 0, none⟩))), (4, .bool false), (5, .int .i64 t5_1)] ∧ Hp w wl4 [.blk b1 24 [.slice A_a0_worth a0.worth.length c_a0_worth]]) FU ⟨_, ?_, ((0 : Int)), F, rfl, H⟩ ?_
    · exact ⟨rfl, rfl, rfl, rfl, trivial⟩
    rintro mk2 _ wl4 ⟨t5_1, F, rfl, H⟩
    have R0 := H.ext
    replace F := law04_Long_L2_s F
    obtain ⟨mk2, rfl, F⟩ := F
    generalize hrec2 : law04_Long_L2 a0 a1 mk2 = rec2 at F
    unfold law04_Long_B2 at F
    refine CW.seq fun K12 hK12 => ?_
    refine CW.seq fun K13 hK13 => ?_
    refine CW.region ?_
    refine LW.pure rfl rfl (RV.move rfl) ?_
    refine LW.pure rfl rfl (RV.move rfl) ?_
    refine LW.pure rfl rfl (RV.len Ts22 rfl) ?_
    refine LW.pure rfl rfl (RV.lss rfl rfl) ?_
    refine LW.nil (hK13 _ _ ?_)
    by_cases hp3 : t5_1 < ((a1.length : Int))
    ·
      replace F := ite_y hp3 F
      have hq3 := dec_t hp3
      refine CW.condT rfl hq3 ?_
      refine CW.skip (hK12 _ _ ?_)
      refine CW.seq fun K14 hK14 => ?_
      refine CW.block ?_
      refine CW.seq fun K15 hK15 => ?_
      obtain ⟨x2, hbx2, hx2, F⟩ := ix_some F
      refine CW.region ?_
      refine LW.pure rfl rfl (RV.move rfl) ?_
      refine LW.pure rfl rfl (RV.move rfl) ?_
      obtain ⟨A2, c2, hC2, hS2⟩ := h_a1.at_ hx2
      refine LW.pure rfl rfl (RV.indexAddr Ts22 rfl rfl hbx2 (h_a1.addr hbx2)) ?_
      refine LW.pure rfl rfl (RV.load1 Tk25 rfl (hC2.ext R0) rfl) ?_
      refine LW.pure rfl rfl (RV.len Ts25 rfl) ?_
      refine LW.pure rfl rfl (RV.gtr rfl rfl) ?_
      refine LW.nil (hK15 _ _ ?_)
      by_cases hp4 : (100 : Int) < ((x2.length : Int))
      ·
        replace F := ite_y hp4 F
        have hq4 := dec_t hp4
        refine CW.condT rfl hq4 ?_
        refine CW.seq fun K16 hK16 => ?_
        refine CW.region ?_
        refine LW.pure rfl rfl (RV.assign rfl) ?_
        refine LW.nil (hK16 _ _ ?_)
        refine CW.ret ?_
        obtain rfl := Option.some.inj F
        refine ⟨_, (ResOK.one rfl), ?_⟩
        refine ⟨(by first | rfl | simp), R0⟩
      ·
        replace F := ite_n hp4 F
        have hq4 := dec_f hp4
        refine CW.condF rfl hq4 ?_
        refine CW.skip (hK14 _ _ ?_)
        obtain ⟨hg2, F⟩ := gd_some F
        refine CW.region ?_
        refine LW.pure rfl rfl (RV.move rfl) ?_
        refine LW.pure rfl rfl (RV.add rfl rfl hg2) ?_
        refine LW.pure rfl rfl (RV.assign rfl) ?_
        refine LW.nil ?_
        subst hrec2
        refine ⟨mk2, Nat.lt_succ_self _, _, ?_, (t5_1 + 1), F, rfl, H⟩
        exact ⟨rfl, rfl, rfl, rfl, trivial⟩
    ·
      replace F := ite_n hp3 F
      have hq3 := dec_f hp3
      refine CW.condF rfl hq3 ?_
      refine CW.exit (jK120 _ _ ⟨_, ?_, ⟨F, rfl, H⟩⟩)
      exact ⟨rfl, rfl, trivial⟩
set_option maxRecDepth 20000 in
set_option maxHeartbeats 1000000 in
theorem cut_from_ok {a0 : Int} {a1 : Int} {a2 : Int} {w : World} {res : Bool} (F : cut_from a0 a1 a2 = some res) : Calls Try.prog 67 #[.int .i64 a0, .int .i64 a1, .int .i64 a2] w (Rt w (.bool res)) := by
  refine calls_of_cw (args := [.int .i64 a0, .int .i64 a1, .int .i64 a2]) Try.func67 rfl rfl rfl rfl ?_
  have H := Hp.start w
  have R0 := H.ext
  unfold cut_from at F
  refine CW.seq fun K1 hK1 => ?_
  refine CW.region ?_
  refine LW.pure rfl rfl (RV.assign rfl) ?_
  refine LW.nil (hK1 _ _ ?_)
  refine CW.seq fun K2 hK2 => ?_
  by_cases hp1 : a1 ≤ a0
  ·
    replace F := ite_y hp1 F
    have hq1 := dec_t hp1
    refine CW.region ?_
    refine LW.pure rfl rfl (RV.move rfl) ?_
    refine LW.pure rfl rfl (RV.move rfl) ?_
    refine LW.pure rfl rfl (RV.leq rfl rfl) ?_
    refine LW.pure rfl rfl (RV.move rfl) ?_
    refine LW.pureYB rfl rfl rfl rfl hq1 (RV.move rfl) ?_
    refine LW.pureYB rfl rfl rfl rfl hq1 (RV.move rfl) ?_
    refine LW.pureYB rfl rfl rfl rfl hq1 (RV.leq rfl rfl) ?_
    refine LW.pure rfl rfl (RV.pickTB rfl hq1 rfl) ?_
    refine LW.pure rfl rfl (RV.assign rfl) ?_
    refine LW.nil (hK2 _ _ ?_)
    refine CW.ret ?_
    obtain rfl := Option.some.inj F
    refine ⟨_, (ResOK.one rfl), ?_⟩
    refine ⟨(by first | rfl | simp), R0⟩
  ·
    replace F := ite_n hp1 F
    have hq1 := dec_f hp1
    refine CW.region ?_
    refine LW.pure rfl rfl (RV.move rfl) ?_
    refine LW.pure rfl rfl (RV.move rfl) ?_
    refine LW.pure rfl rfl (RV.leq rfl rfl) ?_
    refine LW.pure rfl rfl (RV.move rfl) ?_
    refine LW.noB rfl rfl rfl rfl (ne_beq (v := false) hq1 rfl) ?_
    refine LW.noB rfl rfl rfl rfl (ne_beq (v := false) hq1 rfl) ?_
    refine LW.noB rfl rfl rfl rfl (ne_beq (v := false) hq1 rfl) ?_
    refine LW.pure rfl rfl (RV.pickFB rfl hq1 rfl) ?_
    refine LW.pure rfl rfl (RV.assign rfl) ?_
    refine LW.nil (hK2 _ _ ?_)
    refine CW.ret ?_
    obtain rfl := Option.some.inj F
    refine ⟨_, (ResOK.one rfl), ?_⟩
    refine ⟨(by first | rfl | simp), R0⟩
set_option maxRecDepth 20000 in
set_option maxHeartbeats 1000000 in
theorem cut_depth_ok {a0 : Bog} {A_a0_worth : Option Addr} {c_a0_worth : Nat} {w : World} {res : Int} (h_a0_worth : Sl2 w A_a0_worth c_a0_worth 1 encN a0.worth) (F : cut_depth a0 = some res) : Calls Try.prog 68 #[.agg #[.slice A_a0_worth a0.worth.length c_a0_worth]] w (Rt w (.int .i64 res)) := by
  refine calls_of_cw (args := [.agg #[.slice A_a0_worth a0.worth.length c_a0_worth]]) Try.func68 rfl rfl rfl rfl ?_
  have H := Hp.start w
  have R0 := H.ext
  unfold cut_depth at F
  refine CW.seq fun K1 hK1 => ?_
  refine CW.region ?_
  refine LW.go rfl rfl (OW.box rfl fun b1 w1 N1 => ?_)
  replace H := H.new N1 N1.blk
  replace R0 := H.ext
  refine LW.pure rfl rfl (RV.assign rfl) ?_
  refine LW.nil (hK1 _ _ ?_)
  refine CW.seq fun K2 hK2 => ?_
  obtain ⟨x1, hbx1, hx1, F⟩ := ix_some F
  refine CW.region ?_
  refine LW.pure rfl rfl (RV.fieldAddr Tf24_0 rfl) ?_
  refine LW.pure rfl rfl (RV.load1 Tk22 rfl ((H.blk 0 rfl).cells.off 0) rfl) ?_
  obtain ⟨A1, c1, hC1, hS1⟩ := h_a0_worth.at_ hx1
  refine LW.pure rfl rfl (RV.indexAddr Ts22 rfl rfl hbx1 (h_a0_worth.addr hbx1)) ?_
  refine LW.pure rfl rfl (RV.load1 Tk25 rfl (hC1.ext R0) rfl) ?_
  refine LW.pure rfl rfl (RV.len Ts25 rfl) ?_
  refine LW.pure rfl rfl (RV.assign rfl) ?_
  refine LW.nil (hK2 _ _ ?_)
  refine CW.ret ?_
  obtain rfl := Option.some.inj F
  refine ⟨_, (ResOK.one rfl), ?_⟩
  refine ⟨(by first | rfl | simp), R0⟩
set_option maxRecDepth 20000 in
set_option maxHeartbeats 1000000 in
theorem slices_IndexFunc_int_ok {a0 : List Int} {a1 : Int → Option Bool} {A_a0 : Option Addr} {c_a0 : Nat} {f_a1 : Nat} {p_a1 : Array Value} {q_a1 : Array Value} {w : World} {res : Int} (h_a0 : Sl w A_a0 c_a0 1 (a0.map encN)) (h_a1 : ∀ (x2 : Int) (r : Bool), a1 x2 = some r → ∀ w1, Ext w w1 → CallsV Try.prog f_a1 p_a1 q_a1 #[.int .i64 x2] w1 (Rt w1 (.bool r))) (F : slices_IndexFunc_int a0 a1 = some res) : Calls Try.prog 97 #[.slice A_a0 a0.length c_a0, .func (.func f_a1) p_a1 q_a1] w (Rt w (.int .i64 res)) := by
  refine calls_of_cw (args := [.slice A_a0 a0.length c_a0, .func (.func f_a1) p_a1 q_a1]) Try.func97 rfl rfl rfl rfl ?_
  have H := Hp.start w
  have R0 := H.ext
  unfold slices_IndexFunc_int at F
  refine CW.seq fun K1 hK1 => ?_
  refine CW.region ?_
  refine LW.pure rfl rfl (RV.assign rfl) ?_
  refine LW.nil (hK1 _ _ ?_)
  refine CW.seqJ (fun ρ wl1 => (slices_IndexFunc_int_k1 = some res ∧ ρ = [(4, .int .i64 0)] ∧ Hp w wl1 [])) ?_ ?_
  ·
    rintro _ wl1 ⟨F, rfl, H⟩
    have R0 := H.ext
    unfold slices_IndexFunc_int_k1 at F
    refine CW.seq fun K2 hK2 => ?_
    refine CW.region ?_
    refine LW.pure rfl rfl (RV.assign rfl) ?_
    refine LW.nil (hK2 _ _ ?_)
    refine CW.ret ?_
    obtain rfl := Option.some.inj F
    refine ⟨_, (ResOK.one rfl), ?_⟩
    refine ⟨(by first | rfl | simp), R0⟩
  ·
    intro K3 hK3 jK63
    refine CW.seq fun K4 hK4 => ?_
    refine CW.region ?_
    refine LW.pure rfl rfl (RV.move rfl) ?_
    refine LW.pure rfl rfl (RV.len Ts25 rfl) ?_
    refine LW.pure rfl rfl (RV.move rfl) ?_
    refine LW.nil (hK4 _ _ ?_)
    refine CW.block ?_
    refine CW.loop (fun meas ρ wl2 => ∃ (t8_1 : Int), slices_IndexFunc_int_L1 a0 a1 meas t8_1 = some res ∧ ρ = [(0, .slice A_a0 a0.length c_a0), (1, .func (.func f_a1) p_a1 q_a1), (4, .int .i64 0), (7, .int .i64 ((a0.length : Int))), (8, .int .i64 t8_1)] ∧ Hp w wl2 []) FU ⟨_, ?_, ((0 : Int)), F, rfl, H⟩ ?_
    · exact ⟨rfl, rfl, rfl, rfl, rfl, trivial⟩
    rintro mk1 _ wl2 ⟨t8_1, F, rfl, H⟩
    have R0 := H.ext
    replace F := slices_IndexFunc_int_L1_s F
    obtain ⟨mk1, rfl, F⟩ := F
    generalize hrec1 : slices_IndexFunc_int_L1 a0 a1 mk1 = rec1 at F
    unfold slices_IndexFunc_int_B1 at F
    refine CW.seq fun K5 hK5 => ?_
    refine CW.region ?_
    refine LW.pure rfl rfl (RV.lss rfl rfl) ?_
    refine LW.nil (hK5 _ _ ?_)
    refine CW.seq fun K6 hK6 => ?_
    by_cases hp1 : t8_1 < ((a0.length : Int))
    ·
      replace F := ite_y hp1 F
      have hq1 := dec_t hp1
      refine CW.condT rfl hq1 ?_
      refine CW.skip (hK6 _ _ ?_)
      refine CW.seq fun K7 hK7 => ?_
      refine CW.block ?_
      refine CW.seq fun K8 hK8 => ?_
      refine CW.region ?_
      refine LW.pure rfl rfl (RV.move rfl) ?_
      refine LW.pure rfl rfl (RV.assign rfl) ?_
      refine LW.nil (hK8 _ _ ?_)
      refine CW.seq fun K9 hK9 => ?_
      obtain ⟨x1, hbx1, hx1, F⟩ := ix_some F
      obtain ⟨r1, hr1, F⟩ := bnd_some F
      refine CW.region ?_
      refine LW.pure rfl rfl (RV.move rfl) ?_
      refine LW.pure rfl rfl (RV.move rfl) ?_
      refine LW.pure rfl rfl (RV.move rfl) ?_
      refine LW.pure rfl rfl (RV.indexAddr Ts25 rfl rfl hbx1 (h_a0.addr_ hx1)) ?_
      refine LW.pure rfl rfl (RV.load1 Tk3 rfl ((h_a0.at_ hx1).ext R0) rfl) ?_
      refine LW.go rfl rfl (OW.callV2 rfl rfl rfl (h_a1 _ _ hr1 _ R0) ?_)
      rintro _ w2 ⟨rfl, E1⟩
      refine ⟨_, rfl, ?_⟩
      replace H := H.grow E1
      replace R0 := H.ext
      refine LW.nil (hK9 _ _ ?_)
      by_cases hp2 : r1 = true
      ·
        replace F := ite_y hp2 F
        have hq2 : r1 = true := hp2
        refine CW.condT rfl hq2 ?_
        refine CW.seq fun K10 hK10 => ?_
        refine CW.region ?_
        refine LW.pure rfl rfl (RV.move rfl) ?_
        refine LW.pure rfl rfl (RV.assign rfl) ?_
        refine LW.nil (hK10 _ _ ?_)
        refine CW.ret ?_
        obtain rfl := Option.some.inj F
        refine ⟨_, (ResOK.one rfl), ?_⟩
        refine ⟨(by first | rfl | simp), R0⟩
      ·
        replace F := ite_n hp2 F
        have hq2 : r1 = false := raw_f hp2
        refine CW.condF rfl hq2 ?_
        refine CW.skip (hK7 _ _ ?_)
        obtain ⟨hg1, F⟩ := gd_some F
        refine CW.region ?_
        refine LW.pure rfl rfl (RV.add rfl rfl hg1) ?_
        refine LW.pure rfl rfl (RV.move rfl) ?_
        refine LW.nil ?_
        subst hrec1
        refine ⟨mk1, Nat.lt_succ_self _, _, ?_, (t8_1 + 1), F, rfl, H⟩
        exact ⟨rfl, rfl, rfl, rfl, rfl, trivial⟩
    ·
      replace F := ite_n hp1 F
      have hq1 := dec_f hp1
      refine CW.condF rfl hq1 ?_
      refine CW.exit (jK63 _ _ ⟨_, ?_, ⟨F, rfl, H⟩⟩)
      exact ⟨rfl, trivial⟩
set_option maxRecDepth 20000 in
set_option maxHeartbeats 1000000 in
theorem slices_ContainsFunc_int_ok {a0 : List Int} {a1 : Int → Option Bool} {A_a0 : Option Addr} {c_a0 : Nat} {f_a1 : Nat} {p_a1 : Array Value} {q_a1 : Array Value} {w : World} {res : Bool} (h_a0 : Sl w A_a0 c_a0 1 (a0.map encN)) (h_a1 : ∀ (x0 : Int) (r : Bool), a1 x0 = some r → ∀ w1, Ext w w1 → CallsV Try.prog f_a1 p_a1 q_a1 #[.int .i64 x0] w1 (Rt w1 (.bool r))) (F : slices_ContainsFunc_int a0 a1 = some res) : Calls Try.prog 69 #[.slice A_a0 a0.length c_a0, .func (.func f_a1) p_a1 q_a1] w (Rt w (.bool res)) := by
  refine calls_of_cw (args := [.slice A_a0 a0.length c_a0, .func (.func f_a1) p_a1 q_a1]) Try.func69 rfl rfl rfl rfl ?_
  have H := Hp.start w
  have R0 := H.ext
  unfold slices_ContainsFunc_int at F
  refine CW.seq fun K1 hK1 => ?_
  refine CW.region ?_
  refine LW.pure rfl rfl (RV.assign rfl) ?_
  refine LW.nil (hK1 _ _ ?_)
  refine CW.seq fun K2 hK2 => ?_
  obtain ⟨r1, hr1, F⟩ := bnd_some F
  refine CW.region ?_
  refine LW.pure rfl rfl (RV.move rfl) ?_
  refine LW.pure rfl rfl (RV.move rfl) ?_
  refine LW.go rfl rfl (OW.call Tc97 rfl (slices_IndexFunc_int_ok (a0 := a0) (a1 := a1) (h_a0.ext R0) (fun x0 r hF w1 hE => h_a1 x0 r hF w1 (R0.trans hE)) hr1) ?_)
  rintro _ w2 ⟨rfl, E1⟩
  refine ⟨_, rfl, ?_⟩
  replace H := H.grow E1
  replace R0 := H.ext
  refine LW.pure rfl rfl (RV.geq rfl rfl) ?_
  refine LW.pure rfl rfl (RV.assign rfl) ?_
  refine LW.nil (hK2 _ _ ?_)
  refine CW.ret ?_
  obtain rfl := Option.some.inj F
  refine ⟨_, (ResOK.one rfl), ?_⟩
  refine ⟨(by first | rfl | simp), R0⟩
set_option maxRecDepth 20000 in
set_option maxHeartbeats 1000000 in
theorem cut_Validate_1_ok {a0 : Int} {w : World} {res : Bool} (F : cut_Validate_1 a0 = some res) : Calls Try.prog 70 #[.int .i64 a0] w (Rt w (.bool res)) := by
  refine calls_of_cw (args := [.int .i64 a0]) Try.func70 rfl rfl rfl rfl ?_
  have H := Hp.start w
  have R0 := H.ext
  unfold cut_Validate_1 at F
  refine CW.seq fun K1 hK1 => ?_
  refine CW.region ?_
  refine LW.pure rfl rfl (RV.assign rfl) ?_
  refine LW.nil (hK1 _ _ ?_)
  refine CW.seq fun K2 hK2 => ?_
  obtain ⟨r1, hr1, F⟩ := bnd_some F
  refine CW.region ?_
  refine LW.pure rfl rfl (RV.move rfl) ?_
  refine LW.go rfl rfl (OW.call Tc67 rfl (cut_from_ok (a0 := a0) (a1 := (-50 : Int)) (a2 := (50 : Int)) hr1) ?_)
  rintro _ w1 ⟨rfl, E1⟩
  refine ⟨_, rfl, ?_⟩
  replace H := H.grow E1
  replace R0 := H.ext
  refine LW.pure rfl rfl (RV.not rfl) ?_
  refine LW.pure rfl rfl (RV.assign rfl) ?_
  refine LW.nil (hK2 _ _ ?_)
  refine CW.ret ?_
  obtain rfl := Option.some.inj F
  refine ⟨_, (ResOK.one rfl), ?_⟩
  refine ⟨(by first | rfl | simp), R0⟩
set_option maxRecDepth 20000 in
set_option maxHeartbeats 1000000 in
theorem cut_Validate_ok {a0 : Bog} {A_a0_worth : Option Addr} {c_a0_worth : Nat} {w : World} {res : Int} (h_a0_worth : Sl2 w A_a0_worth c_a0_worth 1 encN a0.worth) (F : cut_Validate a0 = some res) : Calls Try.prog 25 #[.agg #[.slice A_a0_worth a0.worth.length c_a0_worth]] w (Rt w (.int .i64 res)) := by
  refine calls_of_cw (args := [.agg #[.slice A_a0_worth a0.worth.length c_a0_worth]]) Try.func25 rfl rfl rfl rfl ?_
  have H := Hp.start w
  have R0 := H.ext
  unfold cut_Validate at F
  refine CW.seq fun K1 hK1 => ?_
  refine CW.region ?_
  refine LW.go rfl rfl (OW.box rfl fun b1 w1 N1 => ?_)
  replace H := H.new N1 N1.blk
  replace R0 := H.ext
  refine LW.pure rfl rfl (RV.assign rfl) ?_
  refine LW.nil (hK1 _ _ ?_)
  refine CW.seq fun K2 hK2 => ?_
  refine CW.seqJ (fun ρ wl1 => (∃ (t15_1 : Bool), cut_Validate_k3 a0 t15_1 = some res ∧ ρ = [(1, .pointer (some (⟨b1, 0, none⟩))), (2, .int .i64 0), (15, .bool t15_1)] ∧ Hp w wl1 [.blk b1 24 [.slice A_a0_worth a0.worth.length c_a0_worth]])) ?_ ?_
  ·
    rintro _ wl1 ⟨t15_1, F, rfl, H⟩
    have R0 := H.ext
    unfold cut_Validate_k3 at F
    by_cases hp1 : t15_1 = true
    ·
      replace F := ite_y hp1 F
      have hq1 : t15_1 = true := hp1
      refine CW.condT rfl hq1 ?_
      refine CW.seq fun K3 hK3 => ?_
      refine CW.region ?_
      refine LW.pure rfl rfl (RV.assign rfl) ?_
      refine LW.nil (hK3 _ _ ?_)
      refine CW.ret ?_
      obtain rfl := Option.some.inj F
      refine ⟨_, (ResOK.one rfl), ?_⟩
      refine ⟨(by first | rfl | simp), R0⟩
    ·
      replace F := ite_n hp1 F
      have hq1 : t15_1 = false := raw_f hp1
      refine CW.condF rfl hq1 ?_
      refine CW.skip (hK2 _ _ ?_)
      refine CW.seqJ (fun ρ wl2 => (cut_Validate_k1 = some res ∧ ρ = [(2, .int .i64 0)] ∧ Hp w wl2 [])) ?_ ?_
      ·
        rintro _ wl2 ⟨F, rfl, H⟩
        have R0 := H.ext
        unfold cut_Validate_k1 at F
        refine CW.seq fun K4 hK4 => ?_
        refine CW.region ?_
        refine LW.pure rfl rfl (RV.assign rfl) ?_
        refine LW.nil (hK4 _ _ ?_)
        refine CW.ret ?_
        obtain rfl := Option.some.inj F
        refine ⟨_, (ResOK.one rfl), ?_⟩
        refine ⟨(by first | rfl | simp), R0⟩
      ·
        intro K5 hK5 jK68
        refine CW.seq fun K6 hK6 => ?_
        refine CW.region ?_
        refine LW.pure rfl rfl (RV.fieldAddr Tf24_0 rfl) ?_
        refine LW.pure rfl rfl (RV.load1 Tk22 rfl ((H.blk 0 rfl).cells.off 0) rfl) ?_
        refine LW.pure rfl rfl (RV.len Ts22 rfl) ?_
        refine LW.pure rfl rfl (RV.move rfl) ?_
        refine LW.nil (hK6 _ _ ?_)
        refine CW.block ?_
        refine CW.loop (fun meas ρ wl3 => ∃ (t19_1 : Int), cut_Validate_L1 a0 meas t19_1 = some res ∧ ρ = [(1, .pointer (some (⟨b1, 0, none⟩))), (2, .int .i64 0), (17, .slice A_a0_worth a0.worth.length c_a0_worth), (18, .int .i64 ((a0.worth.length : Int))), (19, .int .i64 t19_1)] ∧ Hp w wl3 [.blk b1 24 [.slice A_a0_worth a0.worth.length c_a0_worth]]) FU ⟨_, ?_, ((0 : Int)), F, rfl, H⟩ ?_
        · exact ⟨rfl, rfl, rfl, rfl, rfl, trivial⟩
        rintro mk1 _ wl3 ⟨t19_1, F, rfl, H⟩
        have R0 := H.ext
        replace F := cut_Validate_L1_s F
        obtain ⟨mk1, rfl, F⟩ := F
        generalize hrec1 : cut_Validate_L1 a0 mk1 = rec1 at F
        unfold cut_Validate_B1 at F
        refine CW.seq fun K7 hK7 => ?_
        refine CW.region ?_
        refine LW.pure rfl rfl (RV.lss rfl rfl) ?_
        refine LW.nil (hK7 _ _ ?_)
        refine CW.seq fun K8 hK8 => ?_
        by_cases hp2 : t19_1 < ((a0.worth.length : Int))
        ·
          replace F := ite_y hp2 F
          have hq2 := dec_t hp2
          refine CW.condT rfl hq2 ?_
          refine CW.skip (hK8 _ _ ?_)
          refine CW.seq fun K9 hK9 => ?_
          refine CW.block ?_
          refine CW.seq fun K10 hK10 => ?_
          obtain ⟨x1, hbx1, hx1, F⟩ := ix_some F
          refine CW.region ?_
          obtain ⟨A1, c1, hC1, hS1⟩ := h_a0_worth.at_ hx1
          refine LW.pure rfl rfl (RV.indexAddr Ts22 rfl rfl hbx1 (h_a0_worth.addr hbx1)) ?_
          refine LW.pure rfl rfl (RV.load1 Tk25 rfl (hC1.ext R0) rfl) ?_
          refine LW.pure rfl rfl (RV.assign rfl) ?_
          refine LW.nil (hK10 _ _ ?_)
          refine CW.seqJ (fun ρ wl4 => (∃ (t31_1 : Bool), cut_Validate_k2 t19_1 rec1 t31_1 = some res ∧ ρ = [(1, .pointer (some (⟨b1, 0, none⟩))), (2, .int .i64 0), (17, .slice A_a0_worth a0.worth.length c_a0_worth), (18, .int .i64 ((a0.worth.length : Int))), (19, .int .i64 t19_1), (31, .bool t31_1)] ∧ Hp w wl4 [.blk b1 24 [.slice A_a0_worth a0.worth.length c_a0_worth]])) ?_ ?_
          ·
            rintro _ wl4 ⟨t31_1, F, rfl, H⟩
            have R0 := H.ext
            unfold cut_Validate_k2 at F
            by_cases hp3 : t31_1 = true
            ·
              replace F := ite_y hp3 F
              have hq3 : t31_1 = true := hp3
              refine CW.condT rfl hq3 ?_
              refine CW.seq fun K11 hK11 => ?_
              refine CW.region ?_
              refine LW.pure rfl rfl (RV.assign rfl) ?_
              refine LW.nil (hK11 _ _ ?_)
              refine CW.ret ?_
              obtain rfl := Option.some.inj F
              refine ⟨_, (ResOK.one rfl), ?_⟩
              refine ⟨(by first | rfl | simp), R0⟩
            ·
              replace F := ite_n hp3 F
              have hq3 : t31_1 = false := raw_f hp3
              refine CW.condF rfl hq3 ?_
              refine CW.skip (hK9 _ _ ?_)
              obtain ⟨hg1, F⟩ := gd_some F
              refine CW.region ?_
              refine LW.pure rfl rfl (RV.add rfl rfl hg1) ?_
              refine LW.pure rfl rfl (RV.move rfl) ?_
              refine LW.nil ?_
              subst hrec1
              refine ⟨mk1, Nat.lt_succ_self _, _, ?_, (t19_1 + 1), F, rfl, H⟩
              exact ⟨rfl, rfl, rfl, rfl, rfl, trivial⟩
          ·
            intro K12 hK12 jK87
            obtain ⟨r1, hr1, F⟩ := bnd_some F
            by_cases hp4 : ((x1.length : Int)) = r1
            ·
              replace F := ite_y hp4 F
              have hq4 := dec_t hp4
              obtain ⟨r2, hr2, F⟩ := bnd_some F
              refine CW.region ?_
              refine LW.pure rfl rfl (RV.move rfl) ?_
              refine LW.pure rfl rfl (RV.len Ts25 rfl) ?_
              refine LW.pure rfl rfl (RV.loadA [.slice A_a0_worth a0.worth.length c_a0_worth] Tk24 rfl (H.blk 0 rfl).cells rfl rfl) ?_
              refine LW.go rfl rfl (OW.call Tc68 rfl (cut_depth_ok (a0 := a0) (h_a0_worth.ext R0) hr1) ?_)
              rintro _ w2 ⟨rfl, E1⟩
              refine ⟨_, rfl, ?_⟩
              replace H := H.grow E1
              replace R0 := H.ext
              refine LW.pure rfl rfl (RV.nei rfl rfl) ?_
              refine LW.pure rfl rfl (RV.move rfl) ?_
              refine LW.pureYB rfl rfl rfl rfl (not_f hq4) (RV.move rfl) ?_
              refine LW.yesB rfl rfl rfl rfl (not_f hq4) (OW.call Tc69 rfl (slices_ContainsFunc_int_ok (a0 := x1) (a1 := cut_Validate_1) (hS1.ext R0) (fun x2 r hF w3 hE => CallsV.of Tc70 (cut_Validate_1_ok (a0 := x2) hF)) hr2) ?_)
              rintro _ w4 ⟨rfl, E2⟩
              refine ⟨_, rfl, ?_⟩
              replace H := H.grow E2
              replace R0 := H.ext
              refine LW.pure rfl rfl (RV.pickFB rfl (not_f hq4) rfl) ?_
              refine LW.nil (jK87 _ _ ⟨_, ?_, ⟨r2, F, rfl, H⟩⟩)
              exact ⟨rfl, rfl, rfl, rfl, rfl, rfl, trivial⟩
            ·
              replace F := ite_n hp4 F
              have hq4 := dec_f hp4
              refine CW.region ?_
              refine LW.pure rfl rfl (RV.move rfl) ?_
              refine LW.pure rfl rfl (RV.len Ts25 rfl) ?_
              refine LW.pure rfl rfl (RV.loadA [.slice A_a0_worth a0.worth.length c_a0_worth] Tk24 rfl (H.blk 0 rfl).cells rfl rfl) ?_
              refine LW.go rfl rfl (OW.call Tc68 rfl (cut_depth_ok (a0 := a0) (h_a0_worth.ext R0) hr1) ?_)
              rintro _ w5 ⟨rfl, E3⟩
              refine ⟨_, rfl, ?_⟩
              replace H := H.grow E3
              replace R0 := H.ext
              refine LW.pure rfl rfl (RV.nei rfl rfl) ?_
              refine LW.pure rfl rfl (RV.move rfl) ?_
              refine LW.noB rfl rfl rfl rfl (ne_beq (v := true) (not_t hq4) rfl) ?_
              refine LW.noB rfl rfl rfl rfl (ne_beq (v := true) (not_t hq4) rfl) ?_
              refine LW.pure rfl rfl (RV.pickTB rfl (not_t hq4) rfl) ?_
              refine LW.nil (jK87 _ _ ⟨_, ?_, ⟨true, F, rfl, H⟩⟩)
              exact ⟨rfl, rfl, rfl, rfl, rfl, rfl, trivial⟩
        ·
          replace F := ite_n hp2 F
          have hq2 := dec_f hp2
          refine CW.condF rfl hq2 ?_
          replace H := H.pick (L' := []) [] (by decide) rfl
          replace R0 := H.ext
          refine CW.exit (jK68 _ _ ⟨_, ?_, ⟨F, rfl, H⟩⟩)
          exact ⟨rfl, trivial⟩
  ·
    intro K13 hK13 jK88
    obtain ⟨r3, hr3, F⟩ := bnd_some F
    by_cases hp5 : r3 = true
    ·
      replace F := ite_y hp5 F
      have hq5 : r3 = true := hp5
      obtain ⟨r4, hr4, F⟩ := bnd_some F
      obtain ⟨r5, hr5, F⟩ := bnd_some F
      refine CW.region ?_
      refine LW.pure rfl rfl (RV.fieldAddr Tf24_0 rfl) ?_
      refine LW.pure rfl rfl (RV.load1 Tk22 rfl ((H.blk 0 rfl).cells.off 0) rfl) ?_
      refine LW.pure rfl rfl (RV.len Ts22 rfl) ?_
      refine LW.go rfl rfl (OW.call Tc67 rfl (cut_from_ok (a0 := (a0.worth.length : Int)) (a1 := (1 : Int)) (a2 := (6 : Int)) hr3) ?_)
      rintro _ w6 ⟨rfl, E4⟩
      refine ⟨_, rfl, ?_⟩
      replace H := H.grow E4
      replace R0 := H.ext
      refine LW.pure rfl rfl (RV.not rfl) ?_
      refine LW.pure rfl rfl (RV.move rfl) ?_
      refine LW.pureYB rfl rfl rfl rfl (not_f hq5) (RV.loadA [.slice A_a0_worth a0.worth.length c_a0_worth] Tk24 rfl (H.blk 0 rfl).cells rfl rfl) ?_
      refine LW.yesB rfl rfl rfl rfl (not_f hq5) (OW.call Tc68 rfl (cut_depth_ok (a0 := a0) (h_a0_worth.ext R0) hr4) ?_)
      rintro _ w7 ⟨rfl, E5⟩
      refine ⟨_, rfl, ?_⟩
      replace H := H.grow E5
      replace R0 := H.ext
      refine LW.yesB rfl rfl rfl rfl (not_f hq5) (OW.call Tc67 rfl (cut_from_ok (a0 := r4) (a1 := (1 : Int)) (a2 := (4 : Int)) hr5) ?_)
      rintro _ w8 ⟨rfl, E6⟩
      refine ⟨_, rfl, ?_⟩
      replace H := H.grow E6
      replace R0 := H.ext
      refine LW.pureYB rfl rfl rfl rfl (not_f hq5) (RV.not rfl) ?_
      refine LW.pure rfl rfl (RV.pickFB rfl (not_f hq5) rfl) ?_
      refine LW.nil (jK88 _ _ ⟨_, ?_, ⟨(!r5), F, rfl, H⟩⟩)
      exact ⟨rfl, rfl, rfl, trivial⟩
    ·
      replace F := ite_n hp5 F
      have hq5 : r3 = false := raw_f hp5
      refine CW.region ?_
      refine LW.pure rfl rfl (RV.fieldAddr Tf24_0 rfl) ?_
      refine LW.pure rfl rfl (RV.load1 Tk22 rfl ((H.blk 0 rfl).cells.off 0) rfl) ?_
      refine LW.pure rfl rfl (RV.len Ts22 rfl) ?_
      refine LW.go rfl rfl (OW.call Tc67 rfl (cut_from_ok (a0 := (a0.worth.length : Int)) (a1 := (1 : Int)) (a2 := (6 : Int)) hr3) ?_)
      rintro _ w9 ⟨rfl, E7⟩
      refine ⟨_, rfl, ?_⟩
      replace H := H.grow E7
      replace R0 := H.ext
      refine LW.pure rfl rfl (RV.not rfl) ?_
      refine LW.pure rfl rfl (RV.move rfl) ?_
      refine LW.noB rfl rfl rfl rfl (ne_beq (v := true) (not_t hq5) rfl) ?_
      refine LW.noB rfl rfl rfl rfl (ne_beq (v := true) (not_t hq5) rfl) ?_
      refine LW.noB rfl rfl rfl rfl (ne_beq (v := true) (not_t hq5) rfl) ?_
      refine LW.noB rfl rfl rfl rfl (ne_beq (v := true) (not_t hq5) rfl) ?_
      refine LW.pure rfl rfl (RV.pickTB rfl (not_t hq5) rfl) ?_
      refine LW.nil (jK88 _ _ ⟨_, ?_, ⟨true, F, rfl, H⟩⟩)
      exact ⟨rfl, rfl, rfl, trivial⟩
set_option maxRecDepth 20000 in
set_option maxHeartbeats 1000000 in
theorem cut_raise_ok {a0 : List Int} {a1 : Int} {a2 : Int} {a3 : Int} {b_a0 : Nat} {wb : World} {R : List Ck} {w : World} {res : Bool × (List Int)} (hn_a0 : a0.length = 6) (H : Hp wb w ([.own (some ⟨b_a0, 0, none⟩) 6 87 1 (List.map encN a0)] ++ R)) (F : cut_raise a0 a1 a2 a3 = some res) : Calls Try.prog 99 #[.pointer (some ⟨b_a0, 0, none⟩), .int .i64 a1, .int .i64 a2, .int .i64 a3] w (fun e w' => e = .returned (.bool res.1) ∧ res.2.length = a0.length ∧ Hp wb w' ([.own (some ⟨b_a0, 0, none⟩) 6 87 1 (List.map encN res.2)] ++ R)) := by
  refine calls_of_cw (args := [.pointer (some ⟨b_a0, 0, none⟩), .int .i64 a1, .int .i64 a2, .int .i64 a3]) Try.func99 rfl rfl rfl rfl ?_
  have R0 := H.ext
  unfold cut_raise at F
  refine CW.seq fun K1 hK1 => ?_
  refine CW.region ?_
  refine LW.pure rfl rfl (RV.assign rfl) ?_
  refine LW.nil (hK1 _ _ ?_)
  refine CW.seqJ (fun ρ wl1 => (cut_raise_k1 a0 = some res ∧ ρ = [(8, .bool false)] ∧ Hp wb wl1 ([.own (some ⟨b_a0, 0, none⟩) 6 87 1 (List.map encN a0)] ++ R))) ?_ ?_
  ·
    rintro _ wl1 ⟨F, rfl, H⟩
    have R0 := H.ext
    unfold cut_raise_k1 at F
    refine CW.seq fun K2 hK2 => ?_
    refine CW.region ?_
    refine LW.pure rfl rfl (RV.assign rfl) ?_
    refine LW.nil (hK2 _ _ ?_)
    refine CW.ret ?_
    obtain rfl := Option.some.inj F
    refine ⟨_, (ResOK.one rfl), ?_⟩
    exact ⟨(by first | rfl | (simp; done) | (simp; omega)), (by first | rfl | assumption | omega | (simp; done) | (simp; assumption) | (simp; omega)), H⟩
  ·
    intro K3 hK3 jK69
    refine CW.block ?_
    refine CW.loop (fun meas ρ wl2 => ∃ (t1_1 : Int), cut_raise_L1 a0 a2 a3 meas t1_1 = some res ∧ ρ = [(0, .pointer (some ⟨b_a0, 0, none⟩)), (1, .int .i64 t1_1), (2, .int .i64 a2), (3, .int .i64 a3), (8, .bool false)] ∧ Hp wb wl2 ([.own (some ⟨b_a0, 0, none⟩) 6 87 1 (List.map encN a0)] ++ R)) FU ⟨_, ?_, a1, F, rfl, H⟩ ?_
    · exact ⟨rfl, rfl, rfl, rfl, rfl, trivial⟩
    rintro mk1 _ wl2 ⟨t1_1, F, rfl, H⟩
    have R0 := H.ext
    replace F := cut_raise_L1_s F
    obtain ⟨mk1, rfl, F⟩ := F
    generalize hrec1 : cut_raise_L1 a0 a2 a3 mk1 = rec1 at F
    unfold cut_raise_B1 at F
    refine CW.seq fun K4 hK4 => ?_
    refine CW.seq fun K5 hK5 => ?_
    refine CW.region ?_
    refine LW.pure rfl rfl (RV.move rfl) ?_
    refine LW.pure rfl rfl (RV.geq rfl rfl) ?_
    refine LW.nil (hK5 _ _ ?_)
    by_cases hp1 : (0 : Int) ≤ t1_1
    ·
      replace F := ite_y hp1 F
      have hq1 := dec_t hp1
      refine CW.condT rfl hq1 ?_
      refine CW.skip (hK4 _ _ ?_)
      refine CW.seq fun K6 hK6 => ?_
      refine CW.block ?_
      refine CW.seq fun K7 hK7 => ?_
      obtain ⟨x1, hbx1, hx1, F⟩ := ix_some F
      refine CW.region ?_
      refine LW.pure rfl rfl (RV.move rfl) ?_
      refine LW.pure rfl rfl (RV.move rfl) ?_
      refine LW.pure rfl rfl (RV.nilCheck rfl) ?_
      refine LW.pure rfl rfl (RV.indexArr Ta87 rfl rfl ⟨hbx1.1, (by first | exact hbx1.2 | omega | (have q := hbx1.2; simp at q; omega))⟩) ?_
      refine LW.pure rfl rfl (RV.load1 Tk3 rfl ((H.own 0 rfl).sl.at_ hx1) rfl) ?_
      refine LW.pure rfl rfl (RV.move rfl) ?_
      refine LW.pure rfl rfl (RV.lss rfl rfl) ?_
      refine LW.nil (hK7 _ _ ?_)
      by_cases hp2 : x1 < a3
      ·
        replace F := ite_y hp2 F
        have hq2 := dec_t hp2
        refine CW.condT rfl hq2 ?_
        refine CW.seq fun K8 hK8 => ?_
        obtain ⟨x2, hbx2, hx2, F⟩ := ix_some F
        obtain ⟨hg1, F⟩ := gd_some F
        obtain ⟨x3, hbx3, hx3, F⟩ := ix_some F
        refine CW.draw [8] (fun _ => True) (.cons 0 1 (.cons 1 1 (.cons 2 1 (.cons 3 1 (.cons 4 1 (.cons 5 1 (.cons 6 2 (.cons 7 1 (.cons 8 0 .nil))))))))) mixed (by kernel_rfl) fun w1 E1 => ?_
        replace H := H.grow E1
        replace R0 := H.ext
        refine DW.fix rfl rfl rfl (fun _ EQ => RV.move rfl) ?_
        refine DW.fix rfl rfl rfl (fun _ EQ => RV.move rfl) ?_
        refine DW.fix rfl rfl rfl (fun _ EQ => RV.nilCheck rfl) ?_
        refine DW.fix rfl rfl rfl (fun _ EQ => RV.indexArr Ta87 rfl rfl ⟨hbx2.1, (by first | exact hbx2.2 | omega | (have q := hbx2.2; simp at q; omega))⟩) ?_
        refine DW.fix rfl rfl rfl (fun _ EQ => RV.load1 Tk3 rfl (((H.grow EQ).own 0 rfl).sl.at_ hx2) rfl) ?_
        refine DW.fix rfl rfl rfl (fun _ EQ => RV.add rfl rfl hg1) ?_
        refine DW.thru rfl rfl rfl (fun _ EQ => RV.nilCheck rfl) ?_
        refine DW.fix rfl rfl rfl (fun _ EQ => RV.indexArr Ta87 rfl rfl ⟨hbx3.1, (by first | exact hbx3.2 | omega | (have q := hbx3.2; simp at q; omega))⟩) ?_
        refine DW.sole rfl rfl rfl (OW.storeO (enc := encN) (vs := [.int .i64 (x2 + 1)]) 0 (x2 + 1) Tk3 rfl rfl (H.own 0 rfl) (fun _ => rfl) rfl hx3 rfl rfl (by decide) rfl rfl fun w2 M1 O1 => ?_)
        refine ⟨fun h => absurd h (by decide), M1.modx (fun _ _ => trivial), ?_⟩
        replace H : Hp wb w2 ([.own (some ⟨b_a0, 0, none⟩) 6 87 1 (List.map encN ((a0.set (Int.toNat t1_1) (x2 + 1))))] ++ R) := H.mod 0 rfl M1 O1 (.inl rfl)
        replace R0 := H.ext
        refine DW.nil (hK8 _ _ ?_)
        refine CW.seq fun K9 hK9 => ?_
        obtain ⟨hg2, F⟩ := gd_some F
        obtain ⟨hg3, F⟩ := gd_some F
        refine CW.region ?_
        refine LW.pure rfl rfl (RV.move rfl) ?_
        refine LW.pure rfl rfl (RV.nilCheck rfl) ?_
        refine LW.pure rfl rfl (RV.move rfl) ?_
        refine LW.pure rfl rfl (RV.add rfl rfl hg2) ?_
        refine LW.pure rfl rfl (RV.move rfl) ?_
        refine LW.pure rfl rfl (RV.arrLH (l := (a0.set (Int.toNat t1_1) (x2 + 1))) Ta87 rfl rfl rfl (by first | exact hg3 | (have q := hg3; simp at q ⊢; omega) | (simp; omega)) (by first | rfl | omega | (simp; done) | (simp; omega))) ?_
        refine LW.go rfl rfl (OW.clearSub (lo := Int.toNat (t1_1 + 1)) (hi := (Int.toNat a2)) (0 : Int) Ts25 rfl (H.own 0 rfl) (fun _ => rfl) rfl rfl rfl rfl (by first | omega | (simp; omega)) (by first | omega | (simp; omega)) (by first | omega | (simp; omega)) rfl fun vv1 w3 M2 O2 => ?_)
        replace H : Hp wb w3 ([.own (some ⟨b_a0, 0, none⟩) 6 87 1 (List.map encN ((List.take (Int.toNat (t1_1 + 1)) ((a0.set (Int.toNat t1_1) (x2 + 1))) ++ List.replicate ((Int.toNat a2) - Int.toNat (t1_1 + 1)) (0 : Int) ++ List.drop ((Int.toNat a2)) ((a0.set (Int.toNat t1_1) (x2 + 1))))))] ++ R) := H.mod 0 rfl M2 O2 (.inl rfl)
        replace R0 := H.ext
        refine LW.nil (hK9 _ _ ?_)
        refine CW.seq fun K10 hK10 => ?_
        refine CW.region ?_
        refine LW.pure rfl rfl (RV.assign rfl) ?_
        refine LW.nil (hK10 _ _ ?_)
        refine CW.ret ?_
        obtain rfl := Option.some.inj F
        refine ⟨_, (ResOK.one rfl), ?_⟩
        exact ⟨(by first | rfl | (simp; done) | (simp; omega)), (by first | rfl | assumption | omega | (simp; done) | (simp; assumption) | (simp; omega)), H⟩
      ·
        replace F := ite_n hp2 F
        have hq2 := dec_f hp2
        refine CW.condF rfl hq2 ?_
        refine CW.skip (hK6 _ _ ?_)
        obtain ⟨hg4, F⟩ := gd_some F
        refine CW.region ?_
        refine LW.pure rfl rfl (RV.move rfl) ?_
        refine LW.pure rfl rfl (RV.sub rfl rfl hg4) ?_
        refine LW.pure rfl rfl (RV.assign rfl) ?_
        refine LW.nil ?_
        subst hrec1
        refine ⟨mk1, Nat.lt_succ_self _, _, ?_, (t1_1 - 1), F, rfl, H⟩
        exact ⟨rfl, rfl, rfl, rfl, rfl, trivial⟩
    ·
      replace F := ite_n hp1 F
      have hq1 := dec_f hp1
      refine CW.condF rfl hq1 ?_
      refine CW.exit (jK69 _ _ ⟨_, ?_, ⟨F, rfl, H⟩⟩)
      exact ⟨rfl, trivial⟩
set_option maxRecDepth 20000 in
set_option maxHeartbeats 1000000 in
theorem cut_all_ok {a0 : Bog} {A_a0_worth : Option Addr} {c_a0_worth : Nat} {w : World} {res : (List Arr6)} (h_a0_worth : Sl2 w A_a0_worth c_a0_worth 1 encN a0.worth) (F : cut_all a0 = some res) : Calls Try.prog 88 #[.agg #[.slice A_a0_worth a0.worth.length c_a0_worth]] w (fun e w' => ∃ (A1 : Option Addr) (c1 : Nat), e = .returned (.slice A1 res.length c1) ∧ Hp w w' [.own A1 c1 87 6 (List.map encArr6 res)]) := by
  refine calls_of_cw (args := [.agg #[.slice A_a0_worth a0.worth.length c_a0_worth]]) Try.func88 rfl rfl rfl rfl ?_
  have H := Hp.start w
  have R0 := H.ext
  unfold cut_all at F
  refine CW.seq fun K1 hK1 => ?_
  refine CW.region ?_
  refine LW.go rfl rfl (OW.box rfl fun b1 w1 N1 => ?_)
  replace H := H.new N1 N1.blk
  replace R0 := H.ext
  refine LW.pure rfl rfl (RV.assign rfl) ?_
  refine LW.nil (hK1 _ _ ?_)
  refine CW.scope ?_
  refine CW.seq fun K2 hK2 => ?_
  refine CW.region ?_
  refine LW.pure rfl rfl (RV.assign rfl) ?_
  refine LW.nil (hK2 _ _ ?_)
  refine CW.seq fun K3 hK3 => ?_
  refine CW.region ?_
  refine LW.go rfl rfl (OW.alloc Tz87 fun b2 w2 N2 => ?_)
  replace H := H.made' (k := 1) (t := 87) (enc := encN) (l := ([0, 0, 0, 0, 0, 0] : List Int)) N2 N2.blk (fun _ => rfl) rfl (by first | decide | (simp; done) | (simp; omega))
  replace R0 := H.ext
  refine LW.nil (hK3 _ _ ?_)
  refine CW.seq fun K4 hK4 => ?_
  refine CW.region ?_
  refine LW.pure rfl rfl (RV.fieldAddr Tf24_0 rfl) ?_
  refine LW.pure rfl rfl (RV.load1 Tk22 rfl ((H.blk 1 rfl).cells.off 0) rfl) ?_
  refine LW.pure rfl rfl (RV.len Ts22 rfl) ?_
  refine LW.pure rfl rfl (RV.assign rfl) ?_
  refine LW.nil (hK4 _ _ ?_)
  refine CW.seq fun K5 hK5 => ?_
  refine CW.label (hK5 _ _ ?_)
  refine CW.block ?_
  replace H := H.nilOwn 87 6
  replace R0 := H.ext
  refine CW.loop (fun meas ρ wl1 => ∃ (l1 : List Arr6) (l2 : List Int) (Al1 : Option Addr) (cl1 : Nat), cut_all_L2 a0 meas l1 l2 = some res ∧ ρ = [(1, .pointer (some (⟨b1, 0, none⟩))), (2, .slice none 0 0), (3, .slice Al1 l1.length cl1), (4, .pointer (some ⟨b2, 0, none⟩)), (5, .int .i64 ((a0.worth.length : Int)))] ∧ Hp w wl1 [.own Al1 cl1 87 6 (List.map encArr6 l1), .own (some ⟨b2, 0, none⟩) 6 87 1 (List.map encN l2), .blk b1 24 [.slice A_a0_worth a0.worth.length c_a0_worth]] ∧ l2.length = 6) FU ⟨_, ?_, (([] : List Arr6)), (([0, 0, 0, 0, 0, 0] : List Int)), none, 0, F, rfl, H, (show (([0, 0, 0, 0, 0, 0] : List Int)).length = 6 by first | rfl | assumption | omega | (simp; done) | (simp; assumption) | (simp; omega))⟩ ?_
  · exact ⟨rfl, rfl, (look_slice rfl (by first | rfl | (simp; done) | (simp; omega))), rfl, rfl, trivial⟩
  rintro mk1 _ wl1 ⟨l1, l2, Al1, cl1, F, rfl, H, hl1⟩
  have R0 := H.ext
  replace F := cut_all_L2_s F
  obtain ⟨mk1, rfl, F⟩ := F
  generalize hrec1 : cut_all_L2 a0 mk1 = rec1 at F
  unfold cut_all_B2 at F
  refine CW.block ?_
  refine CW.seqJ (fun ρ wl2 => (cut_all_k1 a0 l1 l2 rec1 = some res ∧ ρ = [(1, .pointer (some (⟨b1, 0, none⟩))), (2, .slice none 0 0), (3, .slice Al1 l1.length cl1), (4, .pointer (some ⟨b2, 0, none⟩)), (5, .int .i64 ((a0.worth.length : Int)))] ∧ Hp w wl2 [.own Al1 cl1 87 6 (List.map encArr6 l1), .own (some ⟨b2, 0, none⟩) 6 87 1 (List.map encN l2), .blk b1 24 [.slice A_a0_worth a0.worth.length c_a0_worth]])) ?_ ?_
  ·
    rintro _ wl2 ⟨F, rfl, H⟩
    have R0 := H.ext
    unfold cut_all_k1 at F
    refine CW.seq fun K6 hK6 => ?_
    obtain ⟨hg1, F⟩ := gd_some F
    obtain ⟨x1, hbx1, hx1, F⟩ := ix_some F
    obtain ⟨x2, hbx2, hx2, F⟩ := ix_some F
    obtain ⟨x3, hbx3, hx3, F⟩ := ix_some F
    obtain ⟨x4, hbx4, hx4, F⟩ := ix_some F
    obtain ⟨x5, hbx5, hx5, F⟩ := ix_some F
    obtain ⟨x6, hbx6, hx6, F⟩ := ix_some F
    obtain ⟨hg2, F⟩ := gd_some F
    refine CW.region ?_
    refine LW.pure rfl rfl (RV.move rfl) ?_
    have hL1 := list6 hg1 hx1 hx2 hx3 hx4 hx5 hx6
    refine LW.pure rfl rfl (RV.loadA (vs := [.int .i64 x1, .int .i64 x2, .int .i64 x3, .int .i64 x4, .int .i64 x5, .int .i64 x6]) [.int .i64 x1, .int .i64 x2, .int .i64 x3, .int .i64 x4, .int .i64 x5, .int .i64 x6] Tk87 rfl (fun j v hj => (H.own 1 rfl).flat j v (by rw [hL1]; exact hj)) rfl rfl) ?_
    refine LW.go rfl rfl (OW.buildSlice (e := 87) (vs := [.agg #[.int .i64 x1, .int .i64 x2, .int .i64 x3, .int .i64 x4, .int .i64 x5, .int .i64 x6]]) (cs := [.int .i64 x1, .int .i64 x2, .int .i64 x3, .int .i64 x4, .int .i64 x5, .int .i64 x6]) rfl (fun _ => by kernel_rfl) fun b3 w3 N3 => ?_)
    replace H := H.made' (k := 6) (t := 87) (enc := encArr6) (l := ([(⟨x1, x2, x3, x4, x5, x6⟩ : Arr6)] : List Arr6)) N3 N3.blk (fun _ => rfl) rfl (by first | decide | omega | (simp; done) | (simp; omega))
    replace R0 := H.ext
    refine LW.go rfl rfl (OW.appendG (enc := encArr6) (l := l1) (xs := ([(⟨x1, x2, x3, x4, x5, x6⟩ : Arr6)] : List Arr6)) Ts82 rfl (look_slice rfl (by first | rfl | (simp; done) | (simp; omega))) (H.own 1 rfl) (H.own 0 rfl).sl (fun _ => rfl) rfl rfl hg2 (by decide) fun A2 c2 w4 O1 M1 D1 => ?_)
    replace H : Hp w w4 [.own (some ⟨b3, 0, none⟩) ((([(⟨x1, x2, x3, x4, x5, x6⟩ : Arr6)] : List Arr6)).length) 87 6 (List.map encArr6 (([(⟨x1, x2, x3, x4, x5, x6⟩ : Arr6)] : List Arr6))), .own A2 c2 87 6 (List.map encArr6 ((l1 ++ ([(⟨x1, x2, x3, x4, x5, x6⟩ : Arr6)] : List Arr6)))), .own (some ⟨b2, 0, none⟩) 6 87 1 (List.map encN l2), .blk b1 24 [.slice A_a0_worth a0.worth.length c_a0_worth]] := H.mod 1 rfl M1 O1 D1
    replace R0 := H.ext
    refine LW.pure rfl rfl (RV.assign rfl) ?_
    refine LW.nil (hK6 _ _ ?_)
    refine CW.seq fun K7 hK7 => ?_
    obtain ⟨hg3, F⟩ := gd_some F
    obtain ⟨r1, hr1, F⟩ := bnd_some F
    obtain ⟨r2, hr2, F⟩ := bnd_some F
    refine CW.region ?_
    refine LW.pure rfl rfl (RV.move rfl) ?_
    refine LW.pure rfl rfl (RV.sub rfl rfl hg3) ?_
    refine LW.pure rfl rfl (RV.move rfl) ?_
    refine LW.pure rfl rfl (RV.loadA [.slice A_a0_worth a0.worth.length c_a0_worth] Tk24 rfl (H.blk 3 rfl).cells rfl rfl) ?_
    refine LW.go rfl rfl (OW.call Tc68 rfl (cut_depth_ok (a0 := a0) (h_a0_worth.ext R0) hr1) ?_)
    rintro _ w5 ⟨rfl, E1⟩
    refine ⟨_, rfl, ?_⟩
    replace H := H.grow E1
    replace R0 := H.ext
    replace H := H.pick (L' := [.own (some ⟨b2, 0, none⟩) 6 87 1 (List.map encN l2), .own (some ⟨b3, 0, none⟩) ((([(⟨x1, x2, x3, x4, x5, x6⟩ : Arr6)] : List Arr6)).length) 87 6 (List.map encArr6 (([(⟨x1, x2, x3, x4, x5, x6⟩ : Arr6)] : List Arr6))), .own A2 c2 87 6 (List.map encArr6 ((l1 ++ ([(⟨x1, x2, x3, x4, x5, x6⟩ : Arr6)] : List Arr6)))), .blk b1 24 [.slice A_a0_worth a0.worth.length c_a0_worth]]) [2, 0, 1, 3] (by decide) rfl
    replace R0 := H.ext
    refine LW.go rfl rfl (OW.call Tc99 rfl (cut_raise_ok (a0 := l2) (a1 := ((a0.worth.length : Int)) - 1) (a2 := (a0.worth.length : Int)) (a3 := r1) (R := [.own (some ⟨b3, 0, none⟩) ((([(⟨x1, x2, x3, x4, x5, x6⟩ : Arr6)] : List Arr6)).length) 87 6 (List.map encArr6 (([(⟨x1, x2, x3, x4, x5, x6⟩ : Arr6)] : List Arr6))), .own A2 c2 87 6 (List.map encArr6 ((l1 ++ ([(⟨x1, x2, x3, x4, x5, x6⟩ : Arr6)] : List Arr6)))), .blk b1 24 [.slice A_a0_worth a0.worth.length c_a0_worth]]) (by first | rfl | assumption | omega | (simp; done) | (simp; assumption) | (simp; omega)) H hr2) ?_)
    rintro _ w6 ⟨rfl, hlm113_a0, Hq1⟩
    refine ⟨_, rfl, ?_⟩
    replace H : Hp w w6 [.own (some ⟨b2, 0, none⟩) 6 87 1 (List.map encN r2.2), .own (some ⟨b3, 0, none⟩) ((([(⟨x1, x2, x3, x4, x5, x6⟩ : Arr6)] : List Arr6)).length) 87 6 (List.map encArr6 (([(⟨x1, x2, x3, x4, x5, x6⟩ : Arr6)] : List Arr6))), .own A2 c2 87 6 (List.map encArr6 ((l1 ++ ([(⟨x1, x2, x3, x4, x5, x6⟩ : Arr6)] : List Arr6)))), .blk b1 24 [.slice A_a0_worth a0.worth.length c_a0_worth]] := Hq1
    replace R0 := H.ext
    refine LW.pure rfl rfl (RV.not rfl) ?_
    refine LW.nil (hK7 _ _ ?_)
    by_cases hp1 : r2.1 = true
    ·
      replace F := ite_y hp1 F
      have hq1 : r2.1 = true := hp1
      refine CW.condF rfl (not_f hq1) ?_
      refine CW.skip ?_
      replace H := H.pick (L' := [.own A2 c2 87 6 (List.map encArr6 ((l1 ++ ([(⟨x1, x2, x3, x4, x5, x6⟩ : Arr6)] : List Arr6)))), .own (some ⟨b2, 0, none⟩) 6 87 1 (List.map encN r2.2), .blk b1 24 [.slice A_a0_worth a0.worth.length c_a0_worth]]) [2, 0, 3] (by decide) rfl
      replace R0 := H.ext
      subst hrec1
      refine ⟨mk1, Nat.lt_succ_self _, _, ?_, ((l1 ++ ([(⟨x1, x2, x3, x4, x5, x6⟩ : Arr6)] : List Arr6))), r2.2, A2, c2, F, rfl, H, (show r2.2.length = 6 by first | rfl | assumption | omega | (simp; done) | (simp; assumption) | (simp; omega))⟩
      exact ⟨rfl, rfl, (look_slice rfl (by first | rfl | (simp; done) | (simp; omega))), rfl, rfl, trivial⟩
    ·
      replace F := ite_n hp1 F
      have hq1 : r2.1 = false := raw_f hp1
      refine CW.condT rfl (not_t hq1) ?_
      refine CW.seq fun K8 hK8 => ?_
      refine CW.region ?_
      refine LW.pure rfl rfl (RV.move rfl) ?_
      refine LW.pure rfl rfl (RV.assign rfl) ?_
      refine LW.nil (hK8 _ _ ?_)
      refine CW.ret ?_
      obtain rfl := Option.some.inj F
      refine ⟨_, (ResOK.one rfl), ?_⟩
      replace H := H.pick (L' := [.own A2 c2 87 6 (List.map encArr6 ((l1 ++ ([(⟨x1, x2, x3, x4, x5, x6⟩ : Arr6)] : List Arr6))))]) [2] (by decide) rfl
      replace R0 := H.ext
      exact ⟨A2, c2, (by first | rfl | (simp; done) | (simp; omega)), H⟩
  ·
    intro K9 hK9 jK441
    refine CW.seq fun K10 hK10 => ?_
    refine CW.region ?_
    refine LW.pure rfl rfl (RV.assign rfl) ?_
    refine LW.nil (hK10 _ _ ?_)
    refine CW.block ?_
    refine CW.loop (fun meas ρ wl3 => ∃ (t6_1 : Int), cut_all_L1 a0 l1 l2 rec1 meas t6_1 = some res ∧ ρ = [(1, .pointer (some (⟨b1, 0, none⟩))), (2, .slice none 0 0), (3, .slice Al1 l1.length cl1), (4, .pointer (some ⟨b2, 0, none⟩)), (5, .int .i64 ((a0.worth.length : Int))), (6, .int .i64 t6_1)] ∧ Hp w wl3 [.own Al1 cl1 87 6 (List.map encArr6 l1), .own (some ⟨b2, 0, none⟩) 6 87 1 (List.map encN l2), .blk b1 24 [.slice A_a0_worth a0.worth.length c_a0_worth]]) FU ⟨_, ?_, ((1 : Int)), F, rfl, H⟩ ?_
    · exact ⟨rfl, rfl, (look_slice rfl (by first | rfl | (simp; done) | (simp; omega))), rfl, rfl, rfl, trivial⟩
    rintro mk2 _ wl3 ⟨t6_1, F, rfl, H⟩
    have R0 := H.ext
    replace F := cut_all_L1_s F
    obtain ⟨mk2, rfl, F⟩ := F
    generalize hrec2 : cut_all_L1 a0 l1 l2 rec1 mk2 = rec2 at F
    unfold cut_all_B1 at F
    refine CW.seq fun K11 hK11 => ?_
    refine CW.seq fun K12 hK12 => ?_
    refine CW.region ?_
    refine LW.pure rfl rfl (RV.move rfl) ?_
    refine LW.pure rfl rfl (RV.move rfl) ?_
    refine LW.pure rfl rfl (RV.lss rfl rfl) ?_
    refine LW.nil (hK12 _ _ ?_)
    by_cases hp2 : t6_1 < ((a0.worth.length : Int))
    ·
      replace F := ite_y hp2 F
      have hq2 := dec_t hp2
      refine CW.condT rfl hq2 ?_
      refine CW.skip (hK11 _ _ ?_)
      refine CW.seq fun K13 hK13 => ?_
      refine CW.block ?_
      refine CW.seq fun K14 hK14 => ?_
      refine CW.seq fun K15 hK15 => ?_
      obtain ⟨x7, hbx7, hx7, F⟩ := ix_some F
      obtain ⟨hg4, F⟩ := gd_some F
      obtain ⟨x8, hbx8, hx8, F⟩ := ix_some F
      obtain ⟨hg5, F⟩ := gd_some F
      obtain ⟨r3, hr3, F⟩ := bnd_some F
      refine CW.draw [] (fun _ => True) (.cons 0 1 (.cons 1 1 (.cons 2 1 (.cons 3 1 (.cons 4 1 (.cons 5 1 (.cons 6 1 (.cons 7 1 (.cons 8 0 .nil))))))))) mixed (by kernel_rfl) fun w7 E2 => ?_
      replace H := H.grow E2
      replace R0 := H.ext
      refine DW.fix rfl rfl rfl (fun _ EQ => RV.move rfl) ?_
      refine DW.fix rfl rfl rfl (fun _ EQ => RV.indexArr Ta87 rfl rfl ⟨hbx7.1, (by first | exact hbx7.2 | omega | (have q := hbx7.2; simp at q; omega))⟩) ?_
      refine DW.fix rfl rfl rfl (fun _ EQ => RV.load1 Tk3 rfl (((H.grow EQ).own 1 rfl).sl.at_ hx7) rfl) ?_
      refine DW.fix rfl rfl rfl (fun _ EQ => RV.move rfl) ?_
      refine DW.fix rfl rfl rfl (fun _ EQ => RV.sub rfl rfl hg4) ?_
      refine DW.fix rfl rfl rfl (fun _ EQ => RV.indexArr Ta87 rfl rfl ⟨hbx8.1, (by first | exact hbx8.2 | omega | (have q := hbx8.2; simp at q; omega))⟩) ?_
      refine DW.fix rfl rfl rfl (fun _ EQ => RV.load1 Tk3 rfl (((H.grow EQ).own 1 rfl).sl.at_ hx8) rfl) ?_
      refine DW.fix rfl rfl rfl (fun _ EQ => RV.sub rfl rfl hg5) ?_
      refine DW.sole rfl rfl rfl (OW.call Tc67 rfl (cut_from_ok (a0 := x7 - x8) (a1 := (-1 : Int)) (a2 := (1 : Int)) hr3) ?_)
      rintro _ w8 ⟨rfl, E3⟩
      refine ⟨_, rfl, fun _ => E3, ModX.ext E3, ?_⟩
      replace H := H.grow E3
      replace R0 := H.ext
      refine DW.nil (hK15 _ _ ?_)
      by_cases hp3 : r3 = true
      ·
        replace F := ite_y hp3 F
        have hq3 : r3 = true := hp3
        refine CW.condT rfl hq3 ?_
        refine CW.exit (hK13 _ _ ?_)
        obtain ⟨hg6, F⟩ := gd_some F
        refine CW.region ?_
        refine LW.pure rfl rfl (RV.move rfl) ?_
        refine LW.pure rfl rfl (RV.add rfl rfl hg6) ?_
        refine LW.pure rfl rfl (RV.assign rfl) ?_
        refine LW.nil ?_
        subst hrec2
        refine ⟨mk2, Nat.lt_succ_self _, _, ?_, (t6_1 + 1), F, rfl, H⟩
        exact ⟨rfl, rfl, (look_slice rfl (by first | rfl | (simp; done) | (simp; omega))), rfl, rfl, rfl, trivial⟩
      ·
        replace F := ite_n hp3 F
        have hq3 : r3 = false := raw_f hp3
        refine CW.condF rfl hq3 ?_
        refine CW.skip (hK14 _ _ ?_)
        refine CW.seq fun K16 hK16 => ?_
        refine CW.seq fun K17 hK17 => ?_
        obtain ⟨x9, hbx9, hx9, F⟩ := ix_some F
        obtain ⟨hg7, F⟩ := gd_some F
        obtain ⟨x10, hbx10, hx10, F⟩ := ix_some F
        refine CW.draw [] (fun _ => True) (.cons 0 1 (.cons 1 1 (.cons 2 1 (.cons 3 1 (.cons 4 1 (.cons 5 1 (.cons 6 1 (.cons 7 1 .nil)))))))) mixed (by kernel_rfl) fun w9 E4 => ?_
        replace H := H.grow E4
        replace R0 := H.ext
        refine DW.fix rfl rfl rfl (fun _ EQ => RV.move rfl) ?_
        refine DW.fix rfl rfl rfl (fun _ EQ => RV.indexArr Ta87 rfl rfl ⟨hbx9.1, (by first | exact hbx9.2 | omega | (have q := hbx9.2; simp at q; omega))⟩) ?_
        refine DW.fix rfl rfl rfl (fun _ EQ => RV.load1 Tk3 rfl (((H.grow EQ).own 1 rfl).sl.at_ hx9) rfl) ?_
        refine DW.fix rfl rfl rfl (fun _ EQ => RV.move rfl) ?_
        refine DW.fix rfl rfl rfl (fun _ EQ => RV.sub rfl rfl hg7) ?_
        refine DW.fix rfl rfl rfl (fun _ EQ => RV.indexArr Ta87 rfl rfl ⟨hbx10.1, (by first | exact hbx10.2 | omega | (have q := hbx10.2; simp at q; omega))⟩) ?_
        refine DW.fix rfl rfl rfl (fun _ EQ => RV.load1 Tk3 rfl (((H.grow EQ).own 1 rfl).sl.at_ hx10) rfl) ?_
        refine DW.fix rfl rfl rfl (fun _ EQ => RV.lss rfl rfl) ?_
        refine DW.nil (hK17 _ _ ?_)
        by_cases hp4 : x9 < x10
        ·
          replace F := ite_y hp4 F
          have hq4 := dec_t hp4
          refine CW.condT rfl hq4 ?_
          refine CW.seq fun K18 hK18 => ?_
          obtain ⟨hg8, F⟩ := gd_some F
          obtain ⟨x11, hbx11, hx11, F⟩ := ix_some F
          obtain ⟨hg9, F⟩ := gd_some F
          obtain ⟨x12, hbx12, hx12, F⟩ := ix_some F
          refine CW.region ?_
          refine LW.pure rfl rfl (RV.move rfl) ?_
          refine LW.pure rfl rfl (RV.move rfl) ?_
          refine LW.pure rfl rfl (RV.sub rfl rfl hg8) ?_
          refine LW.pure rfl rfl (RV.indexArr Ta87 rfl rfl ⟨hbx11.1, (by first | exact hbx11.2 | omega | (have q := hbx11.2; simp at q; omega))⟩) ?_
          refine LW.pure rfl rfl (RV.load1 Tk3 rfl ((H.own 1 rfl).sl.at_ hx11) rfl) ?_
          refine LW.pure rfl rfl (RV.sub rfl rfl hg9) ?_
          refine LW.pure rfl rfl (RV.indexArr Ta87 rfl rfl ⟨hbx12.1, (by first | exact hbx12.2 | omega | (have q := hbx12.2; simp at q; omega))⟩) ?_
          refine LW.go rfl rfl (OW.storeO (enc := encN) (vs := [.int .i64 (x11 - 1)]) 0 (x11 - 1) Tk3 rfl rfl (H.own 1 rfl) (fun _ => rfl) rfl hx12 rfl rfl (by decide) rfl rfl fun w10 M2 O2 => ?_)
          replace H : Hp w w10 [.own Al1 cl1 87 6 (List.map encArr6 l1), .own (some ⟨b2, 0, none⟩) 6 87 1 (List.map encN ((l2.set (Int.toNat t6_1) (x11 - 1)))), .blk b1 24 [.slice A_a0_worth a0.worth.length c_a0_worth]] := H.mod 1 rfl M2 O2 (.inl rfl)
          replace R0 := H.ext
          refine LW.nil (hK18 _ _ ?_)
          refine CW.seq fun K19 hK19 => ?_
          obtain ⟨hg10, F⟩ := gd_some F
          obtain ⟨hg11, F⟩ := gd_some F
          refine CW.region ?_
          refine LW.pure rfl rfl (RV.move rfl) ?_
          refine LW.pure rfl rfl (RV.add rfl rfl hg10) ?_
          refine LW.pure rfl rfl (RV.move rfl) ?_
          refine LW.pure rfl rfl (RV.arrLH (l := (l2.set (Int.toNat t6_1) (x11 - 1))) Ta87 rfl rfl rfl (by first | exact hg11 | (have q := hg11; simp at q ⊢; omega) | (simp; omega)) (by first | rfl | omega | (simp; done) | (simp; omega))) ?_
          refine LW.go rfl rfl (OW.clearSub (lo := Int.toNat (t6_1 + 1)) (hi := (Int.toNat ((a0.worth.length : Int)))) (0 : Int) Ts25 rfl (H.own 1 rfl) (fun _ => rfl) rfl rfl rfl rfl (by first | omega | (simp; omega)) (by first | omega | (simp; omega)) (by first | omega | (simp; omega)) rfl fun vv1 w11 M3 O3 => ?_)
          replace H : Hp w w11 [.own Al1 cl1 87 6 (List.map encArr6 l1), .own (some ⟨b2, 0, none⟩) 6 87 1 (List.map encN ((List.take (Int.toNat (t6_1 + 1)) ((l2.set (Int.toNat t6_1) (x11 - 1))) ++ List.replicate ((Int.toNat ((a0.worth.length : Int))) - Int.toNat (t6_1 + 1)) (0 : Int) ++ List.drop ((Int.toNat ((a0.worth.length : Int)))) ((l2.set (Int.toNat t6_1) (x11 - 1)))))), .blk b1 24 [.slice A_a0_worth a0.worth.length c_a0_worth]] := H.mod 1 rfl M3 O3 (.inl rfl)
          replace R0 := H.ext
          refine LW.nil (hK19 _ _ ?_)
          refine CW.exit ?_
          subst hrec1
          refine ⟨mk1, Nat.lt_succ_self _, _, ?_, l1, ((List.take (Int.toNat (t6_1 + 1)) ((l2.set (Int.toNat t6_1) (x11 - 1))) ++ List.replicate ((Int.toNat ((a0.worth.length : Int))) - Int.toNat (t6_1 + 1)) (0 : Int) ++ List.drop ((Int.toNat ((a0.worth.length : Int)))) ((l2.set (Int.toNat t6_1) (x11 - 1))))), Al1, cl1, F, rfl, H, (show ((List.take (Int.toNat (t6_1 + 1)) ((l2.set (Int.toNat t6_1) (x11 - 1))) ++ List.replicate ((Int.toNat ((a0.worth.length : Int))) - Int.toNat (t6_1 + 1)) (0 : Int) ++ List.drop ((Int.toNat ((a0.worth.length : Int)))) ((l2.set (Int.toNat t6_1) (x11 - 1))))).length = 6 by first | rfl | assumption | omega | (simp; done) | (simp; assumption) | (simp; omega))⟩
          exact ⟨rfl, rfl, (look_slice rfl (by first | rfl | (simp; done) | (simp; omega))), rfl, rfl, trivial⟩
        ·
          replace F := ite_n hp4 F
          have hq4 := dec_f hp4
          refine CW.condF rfl hq4 ?_
          refine CW.skip (hK16 _ _ ?_)
          refine CW.seq fun K20 hK20 => ?_
          refine CW.seq fun K21 hK21 => ?_
          obtain ⟨hg12, F⟩ := gd_some F
          obtain ⟨r4, hr4, F⟩ := bnd_some F
          obtain ⟨r5, hr5, F⟩ := bnd_some F
          refine CW.region ?_
          refine LW.pure rfl rfl (RV.move rfl) ?_
          refine LW.pure rfl rfl (RV.sub rfl rfl hg12) ?_
          refine LW.pure rfl rfl (RV.move rfl) ?_
          refine LW.pure rfl rfl (RV.loadA [.slice A_a0_worth a0.worth.length c_a0_worth] Tk24 rfl (H.blk 2 rfl).cells rfl rfl) ?_
          refine LW.go rfl rfl (OW.call Tc68 rfl (cut_depth_ok (a0 := a0) (h_a0_worth.ext R0) hr4) ?_)
          rintro _ w12 ⟨rfl, E5⟩
          refine ⟨_, rfl, ?_⟩
          replace H := H.grow E5
          replace R0 := H.ext
          replace H := H.pick (L' := [.own (some ⟨b2, 0, none⟩) 6 87 1 (List.map encN l2), .own Al1 cl1 87 6 (List.map encArr6 l1), .blk b1 24 [.slice A_a0_worth a0.worth.length c_a0_worth]]) [1, 0, 2] (by decide) rfl
          replace R0 := H.ext
          refine LW.go rfl rfl (OW.call Tc99 rfl (cut_raise_ok (a0 := l2) (a1 := t6_1 - 1) (a2 := (a0.worth.length : Int)) (a3 := r4) (R := [.own Al1 cl1 87 6 (List.map encArr6 l1), .blk b1 24 [.slice A_a0_worth a0.worth.length c_a0_worth]]) (by first | rfl | assumption | omega | (simp; done) | (simp; assumption) | (simp; omega)) H hr5) ?_)
          rintro _ w13 ⟨rfl, hlm125_a0, Hq2⟩
          refine ⟨_, rfl, ?_⟩
          replace H : Hp w w13 [.own (some ⟨b2, 0, none⟩) 6 87 1 (List.map encN r5.2), .own Al1 cl1 87 6 (List.map encArr6 l1), .blk b1 24 [.slice A_a0_worth a0.worth.length c_a0_worth]] := Hq2
          replace R0 := H.ext
          refine LW.pure rfl rfl (RV.not rfl) ?_
          refine LW.nil (hK21 _ _ ?_)
          by_cases hp5 : r5.1 = true
          ·
            replace F := ite_y hp5 F
            have hq5 : r5.1 = true := hp5
            refine CW.condF rfl (not_f hq5) ?_
            refine CW.skip (hK20 _ _ ?_)
            refine CW.exit ?_
            replace H := H.pick (L' := [.own Al1 cl1 87 6 (List.map encArr6 l1), .own (some ⟨b2, 0, none⟩) 6 87 1 (List.map encN r5.2), .blk b1 24 [.slice A_a0_worth a0.worth.length c_a0_worth]]) [1, 0, 2] (by decide) rfl
            replace R0 := H.ext
            subst hrec1
            refine ⟨mk1, Nat.lt_succ_self _, _, ?_, l1, r5.2, Al1, cl1, F, rfl, H, (show r5.2.length = 6 by first | rfl | assumption | omega | (simp; done) | (simp; assumption) | (simp; omega))⟩
            exact ⟨rfl, rfl, (look_slice rfl (by first | rfl | (simp; done) | (simp; omega))), rfl, rfl, trivial⟩
          ·
            replace F := ite_n hp5 F
            have hq5 : r5.1 = false := raw_f hp5
            refine CW.condT rfl (not_t hq5) ?_
            refine CW.seq fun K22 hK22 => ?_
            refine CW.region ?_
            refine LW.pure rfl rfl (RV.move rfl) ?_
            refine LW.pure rfl rfl (RV.assign rfl) ?_
            refine LW.nil (hK22 _ _ ?_)
            refine CW.ret ?_
            obtain rfl := Option.some.inj F
            refine ⟨_, (ResOK.one rfl), ?_⟩
            replace H := H.pick (L' := [.own Al1 cl1 87 6 (List.map encArr6 l1)]) [1] (by decide) rfl
            replace R0 := H.ext
            exact ⟨Al1, cl1, (by first | rfl | (simp; done) | (simp; omega)), H⟩
    ·
      replace F := ite_n hp2 F
      have hq2 := dec_f hp2
      refine CW.condF rfl hq2 ?_
      refine CW.exit (jK441 _ _ ⟨_, ?_, ⟨F, rfl, H⟩⟩)
      exact ⟨rfl, rfl, (look_slice rfl (by first | rfl | (simp; done) | (simp; omega))), rfl, rfl, trivial⟩
end Go.D4
