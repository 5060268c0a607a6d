/- Lemmas and walks that the proof of this claim uses: TbOpen. -/
import Derived.Test.YtmjadkjcbaohbaaTb12
import Derived.Deep.Slices
import Derived.Deep.Fields
import Derived.ChangeSame
namespace Go.Tb
open Go.ChangeShapes Go.WideShapes Go.Deep
theorem ex_list {α : Type} {Q : Nat → α → Prop} : ∀ n : Nat, (∀ i, i < n → ∃ x, Q i x) → ∃ l : List α, l.length = n ∧ ∀ (i : Nat) (x : α), l[i]? = some x → Q i x
  | 0, _ => ⟨[], rfl, by simp⟩
  | n + 1, h => by
    obtain ⟨l, h1, h2⟩ := ex_list n (fun i hi => h i (by omega))
    obtain ⟨x, hx⟩ := h n (by omega)
    refine ⟨l ++ [x], by simp [h1], fun i y hy => ?_⟩
    by_cases hi : i < l.length
    · rw [List.getElem?_append_left hi] at hy; exact h2 i y hy
    · rw [List.getElem?_append_right (by omega)] at hy
      have h3 : i - l.length = 0 := by have := lt_of_at hy; simp at this; omega
      rw [h3] at hy
      simp at hy
      have h4 : i = n := by omega
      subst h4; subst hy; exact hx
section
variable {H : Type} {enc : TypeId × Value → H} {P : Program} {w : World} {base : Nat} {spare : Nat → Bool} {held : Bool}
/-- A slice of structs that came in: nil, or rows of cells, each of which reads by its field's type. -/
theorem open_rows {t e : TypeId} {fs : Array Field} {fuel : Nat} {cs : List Value} {x : DataW H × List MemPlace} (ht : P.underlying t = some (.slice e)) (he : P.underlying e = some (.struct fs)) (hone : oneCellFields P fs = true) (hC : P.cellsOf e = fs.size)
    (h : DataW.trod enc P w base spare held fuel t cs = some x) : cs = [.slice none 0 0] ∨ ∃ (a : Addr) (len cap : Nat), cs = [.slice (some a) len cap] ∧ len ≤ cap ∧ cap ≤ maxLen ∧
      ∀ i, i < len → ∀ (j : Nat) (f : Field), fs[j]? = some f → ∃ (v : Value) (y : DataW H × List MemPlace) (n : Nat), w.cell? (a.add (i * fs.size + j)) = some v ∧ DataW.trod enc P w base spare held n f.type [v] = some y := by
  rcases open_slice ht h with ⟨h0, _⟩ | ⟨a, len, cap, m, n, D, Pl, hcs, _, hl, hm, hmm, _, hi⟩
  · exact .inl h0
  refine .inr ⟨a, len, cap, hcs, hl, hm, fun i hilt j f hj => ?_⟩
  obtain ⟨row, hrow, hread⟩ := hi i (by rw [hmm]; split <;> omega)
  obtain ⟨ys, k, _, _, hlen, _, hall⟩ := DataW.trod_struct he hread
  obtain ⟨_, hrl, hcell⟩ := World.cells?_some hrow
  rw [hC] at hlen hcell
  obtain ⟨e1, e2⟩ := hone_of hone j f hj
  have hjr : j < row.length := by have := (Array.getElem?_eq_some_iff.1 hj).1; omega
  have hr := hall j f hj
  rw [e1, e2, List.drop_eq_getElem_cons hjr] at hr
  have hy : ∃ y, DataW.trod enc P w base spare held k f.type [row[j]] = some y := by
    cases hv : ys[j]? with
    | some y => exact ⟨y, by rw [hv] at hr; exact hr⟩
    | none => exact absurd (List.getElem?_eq_none_iff.1 hv) (by rename_i hyl; omega)
  obtain ⟨y, hy⟩ := hy
  refine ⟨row[j], y, k, ?_, hy⟩
  rw [← Go.Deep.add_add, hcell j (by have := (Array.getElem?_eq_some_iff.1 hj).1; exact this)]
  simp [hjr]
end
/-- Cells of rows, put together as a slice. -/
theorem Sl.mk_ {α : Type} {enc : α → List Value} {w : World} {a : Addr} {len cap k : Nat} {l : List α} (hl : len ≤ cap) (hm : cap ≤ 9223372036854775807) (hk : ∀ x, (enc x).length = k) (hlen : l.length = len)
    (hc : ∀ (i : Nat) (x : α), l[i]? = some x → ∀ (j : Nat) (u : Value), (enc x)[j]? = some u → w.cell? (a.add (i * k + j)) = some u) : Sl w (some a) cap k (l.map enc) := by
  refine ⟨by simp; omega, hm, fun j r hj => ?_⟩
  obtain ⟨x, hx, rfl⟩ : ∃ x, l[j]? = some x ∧ enc x = r := by simpa using hj
  refine ⟨hk x, ⟨a, rfl⟩, fun i v hi => ?_⟩
  have := hc j x hx i v hi
  simpa [elemPtr, Go.Tb.add_add] using this
end Go.Tb
