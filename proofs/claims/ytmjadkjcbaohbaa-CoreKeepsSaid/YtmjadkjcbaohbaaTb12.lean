/- Lemmas and walks that the proof of this claim uses: Tb12. -/
import Derived.Test.YtmjadkjcbaohbaaTb11
set_option linter.unusedVariables false
set_option linter.unusedSimpArgs false
namespace Go.Tb
open Go.RowKit
section
variable {α : Type} {enc : α → List Value} {w0 w w' : World} {L : List Ck} {A : Option Addr} {c to ti k : Nat} {hs : List (Option Addr × Nat)} {m : List (List α)}
theorem TabH.hd (h : TabH w A c to hs ti k (encM enc m)) {i : Nat} {l : List α} (hl : m[i]? = some l) : ∃ (B : Option Addr) (e : Nat), hs[i]? = some (B, e) := by
  obtain ⟨B, e, hh, _⟩ := h.at_ hl
  exact ⟨B, e, hh⟩
theorem TabH.cell (h : TabH w A c to hs ti k (encM enc m)) {i e : Nat} {B : Option Addr} {l : List α} (hl : m[i]? = some l) (hh : hs[i]? = some (B, e)) : Cells w (elemPtr A 1 i) [.slice B l.length e] := by
  obtain ⟨B', e', hh', hC, _⟩ := h.at_ hl
  rw [hh] at hh'; cases hh'
  exact hC
theorem TabH.rowO (h : TabH w A c to hs ti k (encM enc m)) {i e : Nat} {B : Option Addr} {l : List α} (hl : m[i]? = some l) (hh : hs[i]? = some (B, e)) : Own w B e ti k (l.map enc) := h.row i B e _ hh (encM_at hl)
theorem TabH.addr_ (h : TabH w A c to hs ti k (encM enc m)) {i : Nat} {l : List α} (hl : m[i]? = some l) : ∃ a, A = some a := h.addr (i := (i : Int)) ⟨by omega, by have := lt_of_at hl; omega⟩
theorem Sl.addr_ {l : List α} (h : Sl w A c k (l.map enc)) {j : Nat} {x : α} (hj : l[j]? = some x) : ∃ a, A = some a := h.addr (i := (j : Int)) ⟨by omega, by have := lt_of_at hj; omega⟩
theorem TabH.zipAt (h : TabH w A c to hs ti k (encM enc m)) {i e : Nat} {B : Option Addr} {l : List α} (hl : m[i]? = some l) (hh : hs[i]? = some (B, e)) : (hs.zip (encM enc m))[i]? = some ((B, e), l.map enc) := by
  simp [List.getElem?_zip_eq_some, hh, encM_at hl]
theorem Hp.made' {l : List α} (h : Hp w0 w L) {b t n : Nat} {o : Obj} (nw : New w w' b o) (f : Blk w' b t (l.flatMap enc)) (hk : ∀ x, (enc x).length = k) (hn : l.length = n) (hm : n ≤ 9223372036854775807) : Hp w0 w' (.own (some ⟨b, 0, none⟩) n t k (l.map enc) :: L) := by
  subst hn; exact h.made nw f hk hm

/-- New blocks, and those of some chunks. -/
def XB (w1 : World) (L0 : List Ck) (is : List Nat) (b : Nat) : Prop := w1.heap.size ≤ b ∨ ∃ i ∈ is, ∃ y, L0[i]? = some y ∧ b ∈ y.bl
theorem Hp.notX {L0 : List Ck} {w1 : World} (H0 : Hp w0 w1 L0) (is : List Nat) (p : Nat) {x : Ck} (hp : L0[p]? = some x) (hn : is.contains p = false) : ∀ b ∈ x.bl, ¬ XB w1 L0 is b := by
  intro b hb hX
  rcases hX with h1 | ⟨i, hi, y, hy, hb'⟩
  · have := Ck.lt (H0.holds p x hp) b hb; omega
  · refine H0.disj p i x y hp hy (fun e => ?_) b hb hb'
    subst e
    simp [hi] at hn
theorem Hp.thru {X : Nat → Prop} (h : Hp w0 w L) (p : Nat) {x : Ck} (hp : L[p]? = some x) (m : ModX X w w') (hX : ∀ b ∈ x.bl, ¬ X b) : x.holds w' :=
  Ck.keep (h.holds p x hp) fun b hb => m.2 b (Ck.lt (h.holds p x hp) b hb) (hX b hb)
theorem Hp.thruB {X : Nat → Prop} (h : Hp w0 w L) (p : Nat) {b t : Nat} {cs : List Value} (hp : L[p]? = some (.blk b t cs)) (m : ModX X w w') (hX : ∀ b' ∈ (Ck.blk b t cs).bl, ¬ X b') : Blk w' b t cs := h.thru p hp m hX
theorem Hp.thruO {X : Nat → Prop} (h : Hp w0 w L) (p : Nat) {A : Option Addr} {c e k : Nat} {rows : List (List Value)} (hp : L[p]? = some (.own A c e k rows)) (m : ModX X w w') (hX : ∀ b' ∈ (Ck.own A c e k rows).bl, ¬ X b') : Own w' A c e k rows := h.thru p hp m hX
theorem Hp.thruT {X : Nat → Prop} (h : Hp w0 w L) (p : Nat) {m : List (List (List Value))} (hp : L[p]? = some (.tab A c to hs ti k m)) (md : ModX X w w') (hX : ∀ b' ∈ (Ck.tab A c to hs ti k m).bl, ¬ X b') : TabH w' A c to hs ti k m := h.thru p hp md hX
theorem XB.in_ {L0 : List Ck} {w1 : World} {is : List Nat} (i : Nat) {y : Ck} {b : Nat} (hi : is.contains i = true) (hy : L0[i]? = some y) (hb : b ∈ y.bl) : XB w1 L0 is b := .inr ⟨i, by simpa using hi, y, hy, hb⟩
theorem XB.own_ {L0 : List Ck} {w1 : World} {is : List Nat} (i : Nat) {e : Nat} {rows : List (List Value)} (hi : is.contains i = true) (hy : L0[i]? = some (.own A c e k rows)) : ∀ a, A = some a → XB w1 L0 is a.block :=
  fun a ha => XB.in_ i hi hy (mem_adB.2 ⟨a, ha, rfl⟩)
theorem XB.tabO {L0 : List Ck} {w1 : World} {is : List Nat} (i : Nat) {mm : List (List (List Value))} (hi : is.contains i = true) (hy : L0[i]? = some (.tab A c to hs ti k mm)) : ∀ a, A = some a → XB w1 L0 is a.block :=
  fun a ha => XB.in_ i hi hy ((TabH.bl_at (w := w1)).2 (.inl (mem_adB.2 ⟨a, ha, rfl⟩)))
theorem XB.tabR {L0 : List Ck} {w1 : World} {is : List Nat} (i : Nat) {mm : List (List (List Value))} {j e : Nat} {B : Option Addr} (hi : is.contains i = true) (hy : L0[i]? = some (.tab A c to hs ti k mm)) (hh : hs[j]? = some (B, e)) : ∀ a, B = some a → XB w1 L0 is a.block :=
  fun a ha => XB.in_ i hi hy ((TabH.bl_at (w := w1)).2 (.inr ⟨j, B, e, hh, mem_adB.2 ⟨a, ha, rfl⟩⟩))
theorem XB.new_ {L0 : List Ck} {w1 : World} {is : List Nat} {b : Nat} (h : w1.heap.size ≤ b) : ∀ a, some (⟨b, 0, none⟩ : Addr) = some a → XB w1 L0 is a.block := fun a ha => by cases ha; exact .inl h
end
end Go.Tb
namespace Go.Tb
theorem look_slice {ρ : Env} {t : Nat} {A : Option Addr} {c n n' : Nat} (h : look ρ t = some (.slice A n c)) (e : n = n') : look ρ t = some (.slice A n' c) := e ▸ h
theorem look_bool {ρ : Env} {t : Nat} {n n' : Bool} (h : look ρ t = some (.bool n)) (e : n = n') : look ρ t = some (.bool n') := e ▸ h
end Go.Tb
