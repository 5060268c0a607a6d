/- Lemmas and walks that the proof of this claim uses: TbCoreSpec6. -/
import Derived.Test.YtmjadkjcbaohbaaTbCoreSpec5
namespace Go.Core
open Go.Tb

def okD (n : Int) : Bool := within n (-1000000) 1000000
def badIdx (l : List Int) : Int := if l.all okD = true then -1 else ((l.takeWhile okD).length : Int)
def isDatesS (c : Core) (l : List Int) : Bool := decide ((l.length : Int) = c.layers) && l.all okD
def keeps (l : List Int) (x : Bound) : Bool := decide (gi l x.b - gi l x.a ≤ x.most)
def datedE (c : Core) (l : List Int) : Int := if validate c = 0 then (if isDatesS c l = true then 0 else 1) else validate c
def checkDates (c : Core) (l : List Int) : Int := if datedE c l = 0 then (if c.bounds.all (keeps l) = true then 0 else 7) else datedE c l
theorem takeWhile_len {α : Type} {p : α → Bool} : ∀ {l : List α} {i : Nat} {x : α}, l[i]? = some x → (l.take i).all p = true → p x = false → (l.takeWhile p).length = i
  | [], i, x, h, _, _ => by simp at h
  | a :: r, 0, x, h, _, hp => by simp at h; subst h; simp [List.takeWhile, hp]
  | a :: r, i + 1, x, h, ha, hp => by
    simp only [List.take_succ_cons, List.all_cons, Bool.and_eq_true] at ha
    simp only [List.takeWhile, ha.1, List.length_cons]
    rw [takeWhile_len (by simpa using h) ha.2 hp]
theorem datedE_ok {c : Core} {l : List Int} (h : datedE c l = 0) : validate c = 0 ∧ (l.length : Int) = c.layers ∧ ∀ n ∈ l, -1000000 ≤ n ∧ n ≤ 1000000 := by
  unfold datedE at h
  split at h
  · rename_i hv
    split at h
    · rename_i hd
      simp only [isDatesS, Bool.and_eq_true, decide_eq_true_eq] at hd
      exact ⟨hv, hd.1, fun n hn => within_iff.1 (List.all_eq_true.1 hd.2 n hn)⟩
    · omega
  · rename_i hv; exact absurd h hv
end Go.Core
