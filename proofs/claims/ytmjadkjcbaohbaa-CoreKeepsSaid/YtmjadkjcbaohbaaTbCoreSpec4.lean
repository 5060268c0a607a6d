/- Lemmas and walks that the proof of this claim uses: TbCoreSpec4. -/
import Derived.Test.YtmjadkjcbaohbaaTbCoreD
namespace Go.Core
open Go.Tb

def gb (l : List Bool) (i : Int) : Bool := l.getD i.toNat false
theorem gb_of {l : List Bool} {i : Int} {y : Bool} (h : l[i.toNat]? = some y) : gb l i = y := by simp [gb, List.getD, h]
abbrev WS := List Int × List Bool
def wB (p s : WS) (x : Bound) : WS :=
  if (gb p.2 x.a && (!gb s.2 x.b || decide (gi p.1 x.a + x.most < gi s.1 x.b))) = true then (s.1.set x.b.toNat (gi p.1 x.a + x.most), s.2.set x.b.toNat true) else s
def wTo (bs : List Bound) (p : WS) : Nat → WS
  | 0 => p
  | j + 1 => match bs[j]? with
    | some x => wB p (wTo bs p j) x
    | none => wTo bs p j
def wN (c : Core) (a : Nat) : Nat → WS
  | 0 => (List.replicate c.layers.toNat 0, (List.replicate c.layers.toNat false).set a true)
  | k + 1 => wTo c.bounds (wN c a k) c.bounds.length
def wsT (c : Core) (k : Nat) : Nat → List (List Int)
  | 0 => List.replicate c.layers.toNat []
  | a + 1 => (wsT c k a).set a (wN c a k).1
def wkT (c : Core) (k : Nat) : Nat → List (List Bool)
  | 0 => List.replicate c.layers.toNat []
  | a + 1 => (wkT c k a).set a (wN c a k).2

theorem wTo_succ {bs : List Bound} {p : WS} {j : Nat} {x : Bound} (hx : bs[j]? = some x) : wTo bs p (j + 1) = wB p (wTo bs p j) x := by simp only [wTo, hx]
theorem wsT_len (c : Core) (k : Nat) : ∀ a : Nat, (wsT c k a).length = c.layers.toNat
  | 0 => by simp [wsT]
  | a + 1 => by simp [wsT, wsT_len c k a]
theorem wkT_len (c : Core) (k : Nat) : ∀ a : Nat, (wkT c k a).length = c.layers.toNat
  | 0 => by simp [wkT]
  | a + 1 => by simp [wkT, wkT_len c k a]
theorem wsT_at (c : Core) (k : Nat) : ∀ a : Nat, a ≤ c.layers.toNat → ∀ i : Nat, i < a → (wsT c k a)[i]? = some (wN c i k).1
  | 0, _, i, h => by omega
  | a + 1, ha, i, h => by
    unfold wsT
    by_cases hi : i = a
    · subst hi; rw [List.getElem?_set_self (by rw [wsT_len]; omega)]
    · rw [List.getElem?_set_ne (by omega)]; exact wsT_at c k a (by omega) i (by omega)
theorem wkT_at (c : Core) (k : Nat) : ∀ a : Nat, a ≤ c.layers.toNat → ∀ i : Nat, i < a → (wkT c k a)[i]? = some (wN c i k).2
  | 0, _, i, h => by omega
  | a + 1, ha, i, h => by
    unfold wkT
    by_cases hi : i = a
    · subst hi; rw [List.getElem?_set_self (by rw [wkT_len]; omega)]
    · rw [List.getElem?_set_ne (by omega)]; exact wkT_at c k a (by omega) i (by omega)

structure WInv (n : Nat) (B : Int) (s : WS) : Prop where
  l1 : s.1.length = n
  l2 : s.2.length = n
  bnd : ∀ d ∈ s.1, -B ≤ d ∧ d ≤ B
theorem WInv.at_ {n : Nat} {B : Int} {s : WS} (h : WInv n B s) {j : Nat} {d : Int} (hd : s.1[j]? = some d) : -B ≤ d ∧ d ≤ B := h.bnd d (List.mem_of_getElem? hd)
theorem WInv.mono {n : Nat} {B B' : Int} {s : WS} (h : WInv n B s) (hB : B ≤ B') : WInv n B' s := ⟨h.l1, h.l2, fun d hd => by have := h.bnd d hd; omega⟩
theorem WInv.gi {n : Nat} {B : Int} {s : WS} (h : WInv n B s) (i : Int) (hB : 0 ≤ B) : -B ≤ Core.gi s.1 i ∧ Core.gi s.1 i ≤ B := by
  unfold Core.gi List.getD
  cases hd : s.1[i.toNat]? with
  | none => simp; omega
  | some d => simpa using h.at_ hd
theorem wB_inv {n : Nat} {B : Int} {p s : WS} {x : Bound} (hB : 0 ≤ B) (hp : WInv n B p) (hs : WInv n (B + 10000) s) (hm : -10000 ≤ x.most ∧ x.most ≤ 10000) : WInv n (B + 10000) (wB p s x) := by
  have := hp.gi x.a hB
  unfold wB
  split
  · refine ⟨by simp [hs.l1], by simp [hs.l2], fun d hd => ?_⟩
    rcases List.mem_or_eq_of_mem_set hd with hd | rfl
    · exact hs.bnd d hd
    · omega
  · exact hs
theorem wTo_inv {c : Core} (hv : validate c = 0) {n : Nat} {B : Int} {p : WS} (hB : 0 ≤ B) (hp : WInv n B p) : ∀ j : Nat, WInv n (B + 10000) (wTo c.bounds p j)
  | 0 => hp.mono (by omega)
  | j + 1 => by
    have ih := wTo_inv hv hB hp j
    cases hx : c.bounds[j]? with
    | none => simp only [wTo, hx]; exact ih
    | some x =>
      rw [wTo_succ hx]
      have := bound_ok hv hx
      exact wB_inv hB hp ih (by omega)
theorem wN_inv {c : Core} (hv : validate c = 0) (a : Nat) : ∀ k : Nat, WInv c.layers.toNat (10000 * (k : Int)) (wN c a k)
  | 0 => ⟨by simp [wN], by simp [wN], fun d hd => by simp [wN] at hd; omega⟩
  | k + 1 => by
    have := wTo_inv hv (by omega) (wN_inv hv a k) c.bounds.length
    exact this.mono (by omega)
theorem wN_inv' {c : Core} (hv : validate c = 0) (a : Nat) {k : Nat} (hk : k ≤ 8) : WInv c.layers.toNat 80000 (wN c a k) := (wN_inv hv a k).mono (by omega)
theorem wTo_inv' {c : Core} (hv : validate c = 0) (a : Nat) {k : Nat} (hk : k ≤ 8) (j : Nat) : WInv c.layers.toNat 90000 (wTo c.bounds (wN c a k) j) := wTo_inv hv (by omega) (wN_inv' hv a hk) j

def rclash (c : Core) : Bool := (List.range c.layers.toNat).any fun a => decide (gi (wN c a c.layers.toNat).1 a < 0)
def layered (c : Core) (a b : Int) : Int :=
  if validate c = 0 then
    if within a 0 (c.layers - 1) = true ∧ within b 0 (c.layers - 1) = true then (if rclash c = true then 10 else 0) else 4
  else validate c
def rtightest (c : Core) (a b : Int) : Int × Bool × Int :=
  if layered c a b = 0 then
    if gb (wN c a.toNat c.layers.toNat).2 b = true then (gi (wN c a.toNat c.layers.toNat).1 b, true, 0) else (0, false, 0)
  else (0, false, layered c a b)
def rfollows (c : Core) (x : Bound) : Bool × Int :=
  if validate c = 0 then
    if within x.a 0 (c.layers - 1) = true ∧ within x.b 0 (c.layers - 1) = true then
      if right x c.layers = true then ((rtightest c x.a x.b).2.1 && decide ((rtightest c x.a x.b).1 ≤ x.most), (rtightest c x.a x.b).2.2) else (false, 1)
    else (false, 4)
  else (false, validate c)
def rfixed (c : Core) (a b : Int) : Int × Bool × Int :=
  if layered c a b = 0 then
    if gb (wN c a.toNat c.layers.toNat).2 b = true ∧ gb (wN c b.toNat c.layers.toNat).2 a = true ∧ gi (wN c a.toNat c.layers.toNat).1 b = -gi (wN c b.toNat c.layers.toNat).1 a then (gi (wN c a.toNat c.layers.toNat).1 b, true, 0) else (0, false, 0)
  else (0, false, layered c a b)
theorem layered_ok {c : Core} {a b : Int} (h : layered c a b = 0) : validate c = 0 ∧ 0 ≤ a ∧ a < c.layers ∧ 0 ≤ b ∧ b < c.layers ∧ rclash c = false := by
  unfold layered at h
  split at h
  · rename_i hv
    split at h
    · rename_i hw
      have h1 := within_iff.1 hw.1
      have h2 := within_iff.1 hw.2
      refine ⟨hv, by omega, by omega, by omega, by omega, ?_⟩
      cases hr : rclash c
      · rfl
      · simp [hr] at h
    · omega
  · rename_i hv; exact absurd h hv
end Go.Core
