/- Lemmas and walks that the proof of this claim uses: Tb6. -/
import Derived.Test.YtmjadkjcbaohbaaTb5
namespace Go.Tb
section
variable {α : Type} {l : List α} {i : Nat} {x : α} {p : α → Bool}
theorem take_succ_at (hx : l[i]? = some x) : l.take (i + 1) = l.take i ++ [x] := by rw [List.take_add_one, hx]; rfl
theorem all_take_succ (hx : l[i]? = some x) (h : (l.take i).all p = true) (hp : p x = true) : (l.take (i + 1)).all p = true := by
  rw [take_succ_at hx, List.all_append, h]; simp [hp]
theorem all_false_at (hx : l[i]? = some x) (hp : p x = false) : l.all p = false := by
  rw [List.all_eq_false]; exact ⟨x, List.mem_of_getElem? hx, by simp [hp]⟩
theorem take_all_of (hi : ¬ (i : Int) < (l.length : Int)) : l.take i = l := List.take_of_length_le (by omega)
theorem all_of_take (hi : ¬ (i : Int) < (l.length : Int)) (h : (l.take i).all p = true) : l.all p = true := by rwa [take_all_of hi] at h
theorem any_take_succ (hx : l[i]? = some x) (h : (l.take i).any p = false) (hp : p x = false) : (l.take (i + 1)).any p = false := by
  rw [take_succ_at hx, List.any_append, h]; simp [hp]
theorem any_true_at (hx : l[i]? = some x) (hp : p x = true) : l.any p = true := by
  rw [List.any_eq_true]; exact ⟨x, List.mem_of_getElem? hx, hp⟩
theorem any_of_take (hi : ¬ (i : Int) < (l.length : Int)) (h : (l.take i).any p = false) : l.any p = false := by rwa [take_all_of hi] at h
theorem lt_of_at (hx : l[i]? = some x) : i < l.length := (List.getElem?_eq_some_iff.1 hx).1
end
end Go.Tb
