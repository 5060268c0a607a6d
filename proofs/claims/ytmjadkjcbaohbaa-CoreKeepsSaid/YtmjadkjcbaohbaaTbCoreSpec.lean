/- Lemmas and walks that the proof of this claim uses: TbCoreSpec. -/
import Derived.Test.YtmjadkjcbaohbaaTb12
set_option linter.unusedVariables false
set_option linter.unusedSimpArgs false
namespace Go.Core
open Go.Tb

structure Bound where
  a : Int
  b : Int
  most : Int
structure Core where
  layers : Int
  bounds : List Bound
structure Tight where
  known : Bool
  most : Int
def encB (x : Bound) : List Value := [.int .i64 x.a, .int .i64 x.b, .int .i64 x.most]
def encI (x : Int) : List Value := [.int .i64 x]
def encBo (x : Bool) : List Value := [.bool x]
def encT (x : Tight) : List Value := [.bool x.known, .int .i64 x.most]
def Ret (w : World) (v : Value) (e : Ending) (w' : World) : Prop := e = .returned v ∧ Ext w w'

def within (n lo hi : Int) : Bool := decide (lo ≤ n) && decide (n ≤ hi)
theorem within_iff {n lo hi : Int} : within n lo hi = true ↔ lo ≤ n ∧ n ≤ hi := by simp [within]
def right (x : Bound) (layers : Int) : Bool := within x.a 0 (layers - 1) && within x.b 0 (layers - 1) && !decide (x.a = x.b) && within x.most (-10000) 10000
def validate (c : Core) : Int :=
  if within c.layers 1 8 = false then 1 else if 20 < (c.bounds.length : Int) then 3 else if c.bounds.all (fun x => right x c.layers) then 0 else 1

theorem right_ok {x : Bound} {n : Int} (h : right x n = true) : 0 ≤ x.a ∧ x.a < n ∧ 0 ≤ x.b ∧ x.b < n ∧ x.a ≠ x.b ∧ -10000 ≤ x.most ∧ x.most ≤ 10000 := by
  simp only [right, Bool.and_eq_true, within_iff, Bool.not_eq_true', decide_eq_false_iff_not] at h
  omega
theorem validate_ok {c : Core} (h : validate c = 0) : 1 ≤ c.layers ∧ c.layers ≤ 8 ∧ c.bounds.length ≤ 20 ∧ ∀ x ∈ c.bounds, right x c.layers = true := by
  unfold validate at h
  cases h1 : within c.layers 1 8 <;> simp only [h1, if_true, Bool.false_eq_true, Bool.true_eq_false, if_false] at h
  · omega
  · have h1' := within_iff.1 h1
    split at h
    · omega
    · rename_i h2
      split at h
      · rename_i h3
        exact ⟨h1'.1, h1'.2, by omega, fun x hx => List.all_eq_true.1 h3 x hx⟩
      · omega
theorem bound_ok {c : Core} (h : validate c = 0) {j : Nat} {x : Bound} (hx : c.bounds[j]? = some x) : 0 ≤ x.a ∧ x.a < c.layers ∧ 0 ≤ x.b ∧ x.b < c.layers ∧ x.a ≠ x.b ∧ -10000 ≤ x.most ∧ x.most ≤ 10000 :=
  right_ok ((validate_ok h).2.2.2 x (List.mem_of_getElem? hx))

/-! ### relax -/
def gi (l : List Int) (i : Int) : Int := l.getD i.toNat 0
theorem gi_of {l : List Int} {i : Int} {y : Int} (h : l[i.toNat]? = some y) : gi l i = y := by simp [gi, List.getD, h]
abbrev RS := List Int × List Int × Int
def relaxB (s : RS) (k : Nat) (x : Bound) : RS :=
  if gi s.1 x.a + x.most < gi s.1 x.b then (s.1.set x.b.toNat (gi s.1 x.a + x.most), s.2.1.set x.b.toNat (k : Int), x.b) else s
def relaxTo (bs : List Bound) (s : RS) : Nat → RS
  | 0 => s
  | j + 1 => match bs[j]? with
    | some x => relaxB (relaxTo bs s j) j x
    | none => relaxTo bs s j
def relaxN (c : Core) : Nat → RS
  | 0 => (List.replicate c.layers.toNat 0, List.replicate c.layers.toNat (-1), 0)
  | i + 1 => relaxTo c.bounds ((relaxN c i).1, (relaxN c i).2.1, -1) c.bounds.length
def relax (c : Core) : RS := relaxN c c.layers.toNat

structure RInv (n : Nat) (B : Int) (s : RS) : Prop where
  l1 : s.1.length = n
  l2 : s.2.1.length = n
  low : ∀ d ∈ s.1, -B ≤ d ∧ d ≤ 0
theorem RInv.at_ {n : Nat} {B : Int} {s : RS} (h : RInv n B s) {j : Nat} {d : Int} (hd : s.1[j]? = some d) : -B ≤ d ∧ d ≤ 0 := h.low d (List.mem_of_getElem? hd)
theorem RInv.mono {n : Nat} {B B' : Int} {s : RS} (h : RInv n B s) (hB : B ≤ B') : RInv n B' s := ⟨h.l1, h.l2, fun d hd => by have := h.low d hd; omega⟩
theorem RInv.gi {n : Nat} {B : Int} {s : RS} (h : RInv n B s) (i : Int) (hB : 0 ≤ B) : -B ≤ Core.gi s.1 i ∧ Core.gi s.1 i ≤ 0 := by
  unfold Core.gi List.getD
  cases hd : s.1[i.toNat]? with
  | none => simp; omega
  | some d => simpa using h.at_ hd
theorem relaxB_inv {n : Nat} {B : Int} {s : RS} {k : Nat} {x : Bound} (h : RInv n B s) (hB : 0 ≤ B) (hm : -10000 ≤ x.most ∧ x.most ≤ 10000) : RInv n (B + 10000) (relaxB s k x) := by
  unfold relaxB
  have ha := h.gi x.a hB
  have hb := h.gi x.b hB
  split
  · rename_i hlt
    refine ⟨by simp [h.l1], by simp [h.l2], fun d hd => ?_⟩
    rcases List.mem_or_eq_of_mem_set hd with hd | rfl
    · have := h.low d hd; omega
    · omega
  · exact h.mono (by omega)
theorem relaxTo_inv {c : Core} (hv : validate c = 0) {n : Nat} {B : Int} {s : RS} (h : RInv n B s) (hB : 0 ≤ B) : ∀ j : Nat, RInv n (B + 10000 * (j : Int)) (relaxTo c.bounds s j)
  | 0 => h.mono (by omega)
  | j + 1 => by
    have ih := relaxTo_inv hv h hB j
    unfold relaxTo
    cases hx : c.bounds[j]? with
    | none => exact ih.mono (by omega)
    | some x =>
      have := bound_ok hv hx
      exact (relaxB_inv ih (by omega) (by omega)).mono (by omega)
theorem relaxN_inv {c : Core} (hv : validate c = 0) : ∀ i : Nat, RInv c.layers.toNat (200000 * (i : Int)) (relaxN c i)
  | 0 => ⟨by simp [relaxN], by simp [relaxN], fun d hd => by simp [relaxN] at hd; omega⟩
  | i + 1 => by
    have ih := relaxN_inv hv i
    have := relaxTo_inv hv (s := ((relaxN c i).1, (relaxN c i).2.1, -1)) ⟨ih.l1, ih.l2, ih.low⟩ (by omega) c.bounds.length
    have hl := (validate_ok hv).2.2.1
    exact this.mono (by omega)
theorem relaxTo_succ {bs : List Bound} {s : RS} {j : Nat} {x : Bound} (hx : bs[j]? = some x) : relaxTo bs s (j + 1) = relaxB (relaxTo bs s j) j x := by
  simp only [relaxTo, hx]
/-- The state at the head of a round of the inner loop. -/
def relaxAt (c : Core) (i j : Nat) : RS := relaxTo c.bounds ((relaxN c i).1, (relaxN c i).2.1, -1) j
theorem relaxAt_inv {c : Core} (hv : validate c = 0) {i j : Nat} (hi : i ≤ 8) (hj : j ≤ c.bounds.length) : RInv c.layers.toNat 2000000 (relaxAt c i j) := by
  have ih := relaxN_inv hv i
  have := relaxTo_inv hv (s := ((relaxN c i).1, (relaxN c i).2.1, -1)) ⟨ih.l1, ih.l2, ih.low⟩ (by omega) j
  have hl := (validate_ok hv).2.2.1
  exact this.mono (by omega)
theorem relaxAt_yes {c : Core} {i j : Nat} {x : Bound} (hx : c.bounds[j]? = some x) {da db : Int} (ha : (relaxAt c i j).1[x.a.toNat]? = some da) (hb : (relaxAt c i j).1[x.b.toNat]? = some db) (h : da + x.most < db) :
    relaxAt c i (j + 1) = ((relaxAt c i j).1.set x.b.toNat (da + x.most), (relaxAt c i j).2.1.set x.b.toNat (j : Int), x.b) := by
  unfold relaxAt at *
  rw [relaxTo_succ hx]
  unfold relaxB
  rw [gi_of ha, gi_of hb, if_pos h]
theorem relaxAt_no {c : Core} {i j : Nat} {x : Bound} (hx : c.bounds[j]? = some x) {da db : Int} (ha : (relaxAt c i j).1[x.a.toNat]? = some da) (hb : (relaxAt c i j).1[x.b.toNat]? = some db) (h : ¬ da + x.most < db) :
    relaxAt c i (j + 1) = relaxAt c i j := by
  unfold relaxAt at *
  rw [relaxTo_succ hx]
  unfold relaxB
  rw [gi_of ha, gi_of hb, if_neg h]
theorem relaxAt_end {c : Core} {i : Nat} : relaxAt c i c.bounds.length = relaxN c (i + 1) := rfl
theorem relaxAt_zero {c : Core} {i : Nat} : relaxAt c i 0 = ((relaxN c i).1, (relaxN c i).2.1, -1) := rfl
end Go.Core
