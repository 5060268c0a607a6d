/- Lemmas and walks that the proof of this claim uses: TbCoreSpec5. -/
import Derived.Test.YtmjadkjcbaohbaaTbCoreEq
namespace Go.Core
open Go.Tb

structure Mark where
  known : Bool
  date : Int
def encMk (x : Mark) : List Value := [.bool x.known, .int .i64 x.date]
def mkL (t : Tight) : Mark := ⟨t.known, if t.known = true then t.most else 0⟩
def mkE (t : Tight) : Mark := ⟨t.known, -(if t.known = true then t.most else 0)⟩
def latest (c : Core) (a : Int) : List Mark × Int :=
  if layersE c [a] = 0 then
    if clashes c = true then ([], 10) else ((List.range c.layers.toNat).map fun b => mkL (mg (table c) a.toNat b), 0)
  else ([], layersE c [a])
def earliest (c : Core) (a : Int) : List Mark × Int :=
  if layersE c [a] = 0 then
    if clashes c = true then ([], 10) else ((List.range c.layers.toNat).map fun b => mkE (mg (table c) b a.toNat), 0)
  else ([], layersE c [a])
def rmL (c : Core) (a b : Nat) : Mark := ⟨kn (wN c a c.layers.toNat) b, if kn (wN c a c.layers.toNat) b = true then sm (wN c a c.layers.toNat) b else 0⟩
def rmE (c : Core) (a b : Nat) : Mark := ⟨kn (wN c b c.layers.toNat) a, if kn (wN c b c.layers.toNat) a = true then -sm (wN c b c.layers.toNat) a else 0⟩
def rlatest (c : Core) (a : Int) : List Mark × Int := if layered c a a = 0 then ((List.range c.layers.toNat).map (rmL c a.toNat), 0) else ([], layered c a a)
def rearliest (c : Core) (a : Int) : List Mark × Int := if layered c a a = 0 then ((List.range c.layers.toNat).map (rmE c a.toNat), 0) else ([], layered c a a)

theorem layersE_one {c : Core} {a : Int} : layersE c [a] = layersE c [a, a] := by
  unfold layersE
  by_cases hv : validate c = 0
  · rw [if_pos hv, if_pos hv]
    cases h : within a 0 (c.layers - 1) <;> simp [h]
  · rw [if_neg hv, if_neg hv]
theorem math_marks (c : Core) (a : Int) : latest c a = rlatest c a ∧ earliest c a = rearliest c a := by
  unfold latest rlatest earliest rearliest
  rw [layersE_one]
  rcases both_ways (c := c) (a := a) (b := a) with ⟨hv, h1, h2⟩ | ⟨hv, _, h1, h2⟩ | ⟨hv, _, h1, hc, h2⟩ | ⟨hv, _, h1, hc, h2, ha, _⟩
  · rw [h1, h2, if_neg hv, if_neg hv, if_neg hv, if_neg hv]; exact ⟨rfl, rfl⟩
  · rw [h1, h2]; simp
  · rw [h1, h2]; simp [hc]
  · rw [h1, h2]
    simp only [hc, if_true, Bool.false_eq_true, if_false]
    refine ⟨?_, ?_⟩
    · congr 1
      refine List.map_congr_left fun b hb => ?_
      obtain ⟨k1, k2⟩ := table_wN hv hc ha (by simpa using hb : b < c.layers.toNat)
      unfold mkL rmL
      rw [← k1]
      cases hk : (mg (table c) a.toNat b).known
      · simp
      · simp [k2 hk]
    · congr 1
      refine List.map_congr_left fun b hb => ?_
      obtain ⟨k1, k2⟩ := table_wN hv hc (by simpa using hb : b < c.layers.toNat) ha
      unfold mkE rmE
      rw [← k1]
      cases hk : (mg (table c) b a.toNat).known
      · simp
      · simp [k2 hk]
theorem kn_of {s : WS} {v : Nat} {y : Bool} (h : s.2[v]? = some y) : kn s v = y := by simp [kn, List.getD, h]
theorem sm_of {s : WS} {v : Nat} {y : Int} (h : s.1[v]? = some y) : sm s v = y := by simp [sm, List.getD, h]
end Go.Core
