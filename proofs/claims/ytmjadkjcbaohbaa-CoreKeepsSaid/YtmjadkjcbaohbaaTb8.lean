/- Lemmas and walks that the proof of this claim uses: Tb8. -/
import Derived.Test.YtmjadkjcbaohbaaTb7
namespace Go.Tb
open Go.RowKit
section
variable {P : Program} {n : Nat} {ops : Array Oper} {Q : Exit → Env → World → Prop} {ρ : Env} {w : World}
variable {d : Option Tmp} {ty : TypeId} {pos : String} {after : Array Edge} {g : Option (Nat × Bool)} {K : Value → World → Prop}
def Fresh (w0 : World) (A : Option Addr) : Prop := ∀ a, A = some a → w0.heap.size ≤ a.block
def Sep (b : Nat) (A : Option Addr) : Prop := ∀ a, A = some a → b ≠ a.block
theorem Fresh.none_ (w0 : World) : Fresh w0 none := fun _ h => by cases h
theorem Sep.none_ (b : Nat) : Sep b none := fun _ h => by cases h
theorem Fresh.next {w0 w : World} {A A' : Option Addr} (h : Fresh w0 A) (hd : A' = A ∨ ∃ a, A' = some a ∧ w.heap.size ≤ a.block) (r : Ext w0 w) : Fresh w0 A' := by
  rcases hd with rfl | ⟨a, rfl, ha⟩
  · exact h
  · intro a' ha'; cases ha'; exact Nat.le_trans r.size ha
theorem Sep.next {w : World} {A A' : Option Addr} {b t : Nat} {cs : List Value} (h : Sep b A) (hd : A' = A ∨ ∃ a, A' = some a ∧ w.heap.size ≤ a.block) (f : Blk w b t cs) : Sep b A' := by
  rcases hd with rfl | ⟨a, rfl, ha⟩
  · exact h
  · intro a' ha'; cases ha'; have := f.lt; omega
theorem Fresh.some_ {w0 : World} {b : Nat} (h : w0.heap.size ≤ b) : Fresh w0 (some ⟨b, 0, none⟩) := fun a ha => by cases ha; exact h

theorem OW.appendL {α : Type} {enc : α → List Value} {l xs : List α} {t e m bt : Nat} {z : List Value} {x y : Operand} {A As : Option Addr} {c cs : Nat} (hT : tyS P t = some (e, m, bt, z)) (hx : ev ρ x = some (.slice A l.length c)) (hy : ev ρ y = some (.slice As xs.length cs))
    (own : Own w A c e m (l.map enc)) (src : Sl w As cs m (xs.map enc)) (h1 : ∀ u, (enc u).all Value.oneCell' = true) (hz : z.length = m) (hm0 : Nat.blt 0 m = true) (h63 : l.length + xs.length ≤ 9223372036854775807) (hb : (l.length + xs.length) * bt ≤ 140737488355328)
    (k : ∀ A' c' w', Own w' A' c' e m ((l ++ xs).map enc) → Mod w w' A → (A' = A ∨ ∃ a, A' = some a ∧ w.heap.size ≤ a.block) → K (.slice A' (l ++ xs).length c') w') :
    OW P n Q ⟨d, .call ⟨.builtin .append, #[x, y], #[t, t]⟩, ty, pos, after, g⟩ ρ w K :=
  OW.append (rows := l.map enc) (news := xs.map enc) hT (by rw [hx, List.length_map]) (by rw [hy, List.length_map]) own src (by intro r hr; obtain ⟨u, _, rfl⟩ := List.mem_map.1 hr; exact h1 u) hz
    (by simpa using h63) (by simpa using hb) hm0 fun A' c' w' o md hd => by
      have e1 : (l.map enc ++ xs.map enc) = (l ++ xs).map enc := by simp
      have := k A' c' w' (e1 ▸ o) md hd
      simpa using this
theorem Blk.slL {α : Type} {enc : α → List Value} {l : List α} {b t k : Nat} (f : Blk w b t (l.flatMap enc)) (hk : ∀ x, (enc x).length = k) (hm : l.length ≤ 9223372036854775807) : Sl w (some ⟨b, 0, none⟩) l.length k (l.map enc) := (f.own_ hk hm).sl
end
end Go.Tb
