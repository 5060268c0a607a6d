/- Lemmas and walks that the proof of this claim uses: TbCoreOpen. -/
import Derived.Test.YtmjadkjcbaohbaaTbOpen
import Derived.Test.YtmjadkjcbaohbaaTbCoreSpec
import Derived.Test.YtmjadkjcbaohbaaRows
import Derived.ProofKit
import Derived.OpenShut
import Derived.ChangeOld
import Derived.Below
import Derived.Lib.SmallJoins
import Derived.KernelRfl
namespace Go.Core
open Go.Tb Go.Proofs Go.ChangeShapes Go.WideShapes Go.ChangeAt Go.RowKit Go.Joins

theorem own_ : ownKnob Try.prog.godebug = none := by kernel_rfl
theorem laidOut_ : laidOutB Try.prog = true := by kernel_rfl
theorem cells24_ : Try.prog.cellsOf 24 = 2 := by kernel_rfl
theorem cells26_ : Try.prog.cellsOf 26 = 3 := by kernel_rfl
theorem cells34_ : Try.prog.cellsOf 34 = 2 := by kernel_rfl
section
variable {H : Type} {enc : TypeId × Value → H} {W : World} {sp : Nat → Bool} {held : Bool} {r : Reach} {b0 base : Nat} {v : Value} {d : DataW H} {p : List MemPlace}
theorem trod_lt_ {t : TypeId} (h : DataW.Trod enc Try.prog W base sp held t v d p) : ∀ x ∈ p, x.block < W.heap.size := by obtain ⟨m, hm⟩ := h; exact DataW.trod_lt m _ _ _ hm
theorem open_bounds {fuel : Nat} {c1 : Value} {y : DataW H × List MemPlace} (h : DataW.trod enc Try.prog W base sp held fuel 22 [c1] = some y) : ∃ (l : List Bound) (A : Option Addr) (c : Nat), c1 = .slice A l.length c ∧ Sl W A c 3 (l.map encB) := by
  rcases open_rows Try.underlying22 Try.underlying26 (by kernel_rfl) cells26_ h with hcs | ⟨a, len, cap, hcs, hl, hm, hi⟩
  · simp at hcs; subst hcs
    exact ⟨[], none, 0, rfl, Sl.nil (by omega)⟩
  · simp at hcs; subst hcs
    obtain ⟨l, hlen, hl2⟩ := ex_list (Q := fun i (x : Bound) => ∀ (j : Nat) (u : Value), (encB x)[j]? = some u → W.cell? (a.add (i * 3 + j)) = some u) len (fun i hilt => by
      obtain ⟨v0, y0, n0, h0, t0⟩ := hi i hilt 0 _ rfl
      obtain ⟨v1, y1, n1, h1, t1⟩ := hi i hilt 1 _ rfl
      obtain ⟨v2, y2, n2, h2, t2⟩ := hi i hilt 2 _ rfl
      obtain ⟨z0, e0, _, _⟩ := DataW.trod_int Try.underlying3 t0
      obtain ⟨z1, e1, _, _⟩ := DataW.trod_int Try.underlying3 t1
      obtain ⟨z2, e2, _, _⟩ := DataW.trod_int Try.underlying3 t2
      simp at e0 e1 e2
      subst e0 e1 e2
      refine ⟨⟨z0, z1, z2⟩, fun j u hu => ?_⟩
      match j, hu with
      | 0, hu => cases hu; exact h0
      | 1, hu => cases hu; exact h1
      | 2, hu => cases hu; exact h2)
    subst hlen
    exact ⟨l, some a, cap, rfl, Sl.mk_ hl hm (fun _ => rfl) rfl hl2⟩
set_option maxRecDepth 100000 in
theorem open_ints_ (hv : Value.okWide Try.prog W r b0 43 v) (h : DataW.Trod enc Try.prog W base sp held 43 v d p) : ∃ (l : List Int) (A : Option Addr) (c : Nat), v = .slice A l.length c ∧ Sl W A c 1 (l.map encI) := by
  obtain ⟨a0, len0, cap0, rfl⟩ := okWide_slice Try.underlying43 hv
  obtain ⟨fuel, hf⟩ := h
  rcases open_ints Try.underlying43 Try.underlying3 (by kernel_rfl) hf with ⟨hcs, _⟩ | ⟨x, l, c, zs, hcs, _, hl, hm, hz, _, hcell, hwz⟩
  · simp [Value.cells] at hcs
    obtain ⟨rfl, rfl, rfl⟩ := hcs
    exact ⟨[], none, 0, rfl, Sl.nil (by omega)⟩
  · simp [Value.cells] at hcs
    obtain ⟨rfl, rfl, rfl⟩ := hcs
    have hzl : len0 ≤ zs.length := by rw [hz]; split <;> omega
    have htl : (zs.take len0).length = len0 := by simp; omega
    refine ⟨zs.take len0, some x, cap0, by rw [htl], ?_⟩
    · refine Sl.mk_ (len := (zs.take len0).length) (by rw [htl]; exact hl) hm (fun _ => rfl) rfl (fun i z hi j u hu => ?_)
      cases j with
      | zero =>
        cases hu
        have hlt := lt_of_at hi
        simp at hlt
        have h2 := hcell i (by omega)
        simp only [List.getElem?_take] at hi
        split at hi
        · simp [List.getD, hi] at h2; simpa using h2
        · cases hi
      | succ j => simp [encI] at hu
set_option maxRecDepth 100000 in
theorem open_core (hv : Value.okWide Try.prog W r b0 24 v) (h : DataW.Trod enc Try.prog W base sp held 24 v d p) : ∃ (c : Core) (A : Option Addr) (cc : Nat), v = .agg #[.int .i64 c.layers, .slice A c.bounds.length cc] ∧ Sl W A cc 3 (c.bounds.map encB) := by
  obtain ⟨c0, c1, y0, y1, m, rfl, _, _, hy0, hy1⟩ := open_agg2 Try.underlying24 (by kernel_rfl) cells24_ hv h
  obtain ⟨a, e0, _, _⟩ := DataW.trod_int Try.underlying3 hy0
  simp at e0; subst e0
  obtain ⟨l, A, c, rfl, hs⟩ := open_bounds hy1
  exact ⟨⟨a, l⟩, A, c, rfl, hs⟩
set_option maxRecDepth 100000 in
theorem open_bound (hv : Value.okWide Try.prog W r b0 26 v) (h : DataW.Trod enc Try.prog W base sp held 26 v d p) : ∃ x : Bound, v = .agg #[.int .i64 x.a, .int .i64 x.b, .int .i64 x.most] := by
  obtain ⟨c0, c1, c2, y0, y1, y2, m, rfl, _, _, hy0, hy1, hy2⟩ := open_agg3 Try.underlying26 (by kernel_rfl) cells26_ hv h
  obtain ⟨a, e0, _, _⟩ := DataW.trod_int Try.underlying3 hy0
  obtain ⟨b, e1, _, _⟩ := DataW.trod_int Try.underlying3 hy1
  obtain ⟨m, e2, _, _⟩ := DataW.trod_int Try.underlying3 hy2
  simp at e0 e1 e2; subst e0 e1 e2
  exact ⟨⟨a, b, m⟩, rfl⟩
set_option maxRecDepth 100000 in
theorem open_pair (hv : Value.okWide Try.prog W r b0 34 v) (h : DataW.Trod enc Try.prog W base sp held 34 v d p) : ∃ a b : Int, v = .agg #[.int .i64 a, .int .i64 b] := by
  obtain ⟨c0, c1, y0, y1, m, rfl, _, _, hy0, hy1⟩ := open_agg2 Try.underlying34 (by kernel_rfl) cells34_ hv h
  obtain ⟨a, e0, _, _⟩ := DataW.trod_int Try.underlying3 hy0
  obtain ⟨b, e1, _, _⟩ := DataW.trod_int Try.underlying3 hy1
  simp at e0 e1; subst e0 e1
  exact ⟨a, b, rfl⟩
end
end Go.Core
