/- Lemmas and walks that the proof of this claim uses: Tb2. -/
import Derived.Test.YtmjadkjcbaohbaaTb1
namespace Go.Tb
open Go.RowKit

/-- Nothing that lay in w has turned in w'. -/
def Ext (w w' : World) : Prop := Below w.heap.size w w'
theorem Ext.refl (w : World) : Ext w w := Below.refl _ _
theorem Ext.size {w w' : World} (h : Ext w w') : w.heap.size ≤ w'.heap.size := Below.size h
theorem Ext.trans {a b c : World} (h : Ext a b) (k : Ext b c) : Ext a c := Below.trans h (Below.mono k h.size)
theorem Ext.drew {a b : World} (h : Ext a b) : Ext a b.drew := Below.drew h
theorem Ext.block {w w' : World} (h : Ext w w') {b : Nat} {o : Obj} (hb : w.heap[b]? = some o) : w'.heap[b]? = some o := by
  have hlt : b < w.heap.size := (Array.getElem?_eq_some_iff.1 hb).1
  rw [Below.block h b hlt, hb]
theorem Ext.cell {w w' : World} (h : Ext w w') {p : Addr} {v : Value} (hp : w.cell? p = some v) : w'.cell? p = some v := by
  have hlt : p.block < w.heap.size := by
    rcases Nat.lt_or_ge p.block w.heap.size with h' | h'
    · exact h'
    · simp [World.cell?, Array.getElem?_eq_none h'] at hp
  rw [Below.cell h hlt, hp]

/-- A new block b that holds o. -/
structure New (w w' : World) (b : Nat) (o : Obj) : Prop where
  at_ : b = w.heap.size
  size : w'.heap.size = w.heap.size + 1
  blk : w'.heap[b]? = some o
  ext : Ext w w'

theorem New.mk' (w : World) (o : Obj) : New w (w.alloc o) w.heap.size o :=
  ⟨rfl, by simp, heap_alloc_new w o, Below.alloc (Below.refl _ _) (Nat.le_refl _) o⟩

def Blk (w : World) (b : Nat) (t : TypeId) (cs : List Value) : Prop := w.heap[b]? = some (.cells cs.toArray t (0, 0))
theorem Blk.ext {w w' : World} {b : Nat} {t : TypeId} {cs : List Value} (h : Blk w b t cs) (e : Ext w w') : Blk w' b t cs := Ext.block e h
theorem Blk.lt {w : World} {b : Nat} {t : TypeId} {cs : List Value} (h : Blk w b t cs) : b < w.heap.size := (Array.getElem?_eq_some_iff.1 h).1
theorem Blk.ne {w : World} {b b' : Nat} {t t' : TypeId} {cs cs' : List Value} (h : Blk w b t cs) (h' : Blk w b' t' cs') (hne : t ≠ t') : b ≠ b' := by
  rintro rfl
  unfold Blk at h h'
  rw [h] at h'
  injection h' with h'
  injection h' with _ ht
  exact hne ht
theorem New.cells {w w' : World} {b : Nat} {t : TypeId} {cs : List Value} (h : New w w' b (.cells cs.toArray t)) : Blk w' b t cs := h.blk

theorem add_add (a : Addr) (i j : Nat) : (a.add i).add j = a.add (i + j) := by
  unfold Addr.add
  by_cases hi : i = 0 <;> by_cases hj : j = 0 <;> simp [hi, hj, Nat.add_assoc]
theorem add_zero (a : Addr) : a.add 0 = a := rfl
theorem add_block (a : Addr) (i : Nat) : (a.add i).block = a.block := by unfold Addr.add; split <;> rfl

/-- The cells from p on. -/
def Cells (w : World) (p : Addr) (vs : List Value) : Prop := ∀ j v, vs[j]? = some v → w.cell? (p.add j) = some v
theorem Cells.ext {w w' : World} {p : Addr} {vs : List Value} (h : Cells w p vs) (e : Ext w w') : Cells w' p vs := fun j v hj => e.cell (h j v hj)
theorem Cells.off {w : World} {p : Addr} {vs : List Value} (h : Cells w p vs) (i : Nat) : Cells w (p.add i) (vs.drop i) := fun j v hj => by
  rw [add_add]; exact h _ _ (by rw [← hj, List.getElem?_drop])
theorem Cells.take {w : World} {p : Addr} {vs : List Value} (h : Cells w p vs) (i : Nat) : Cells w p (vs.take i) := fun j v hj => by
  rw [List.getElem?_take] at hj
  split at hj
  · exact h _ _ hj
  · cases hj
theorem Blk.cells {w : World} {b : Nat} {t : TypeId} {cs : List Value} (h : Blk w b t cs) : Cells w ⟨b, 0, none⟩ cs := fun j v hj => by
  unfold Blk at h
  have e : (⟨b, 0, none⟩ : Addr).add j = ⟨b, j, none⟩ := by
    unfold Addr.add
    split
    · rename_i h0; rw [h0]
    · simp
  rw [e]
  simp [World.cell?, h, hj]

/-! ### types -/
/-- Is it an aggregate, and of how many cells? -/
def tyK (P : Program) (t : TypeId) : Option (Bool × Nat) :=
  match P.underlying t, P.info? t with
  | some d, some i => some ((match d with | .struct _ => true | .array _ _ => true | _ => false), i.size)
  | _, _ => none
/-- A slice type: its element's type, cells, bytes, zero cells. -/
def tyS (P : Program) (t : TypeId) : Option (TypeId × Nat × Nat × List Value) :=
  match P.underlying t with
  | some (.slice e) => match P.info? e with
    | some i => match i.zero with
      | some z => some (e, i.size, i.bytes, z.cells.toList)
      | none => none
    | none => none
  | _ => none
/-- A field of a struct: where it lies. -/
def tyF (P : Program) (t : TypeId) (f : Nat) : Option Nat :=
  match P.underlying t with
  | some (.struct fs) => match fs[f]? with
    | some f => match P.info? f.type with
      | some i => if i.size = 0 then none else some f.offset
      | none => none
    | none => none
  | _ => none
/-- The zero value of a type. -/
def tyZ (P : Program) (t : TypeId) : Option Value := (P.info? t).bind (·.zero)

section
variable {P : Program} {n : Nat} {ops : Array Oper} {Q : Exit → Env → World → Prop} {ρ : Env} {w : World}

theorem tyK_spec {t : TypeId} {a : Bool} {k : Nat} (h : tyK P t = some (a, k)) : (isAgg t).run P w = .ok a w ∧ (sizeOf t).run P w = .ok k w := by
  unfold tyK at h
  split at h
  · rename_i d i hd hi
    simp only [Option.some.injEq, Prod.mk.injEq] at h
    obtain ⟨h1, h2⟩ := h
    refine ⟨?_, ?_⟩
    · unfold isAgg
      simp only [Sem.run_bind, run_underlying hd, Result.andThen_ok]
      cases d <;> simp_all
    · simp [sizeOf, typeInfo, hi, h2]
  · cases h

theorem run_loadVar_cell {t : TypeId} {k : Nat} (hT : tyK P t = some (false, k)) {p : Addr} {v : Value} (hc : w.cell? p = some v) : (loadVar t p).run P w = .ok v w := by
  unfold loadVar
  simp [(tyK_spec (w := w) hT).1, hc]

theorem run_loadVar_agg {t : TypeId} {k : Nat} (hT : tyK P t = some (true, k)) {p : Addr} {vs us : List Value} (hc : Cells w p vs) (hk : vs.take k = us) (hl : us.length = k) : (loadVar t p).run P w = .ok (.agg us.toArray) w := by
  have h2 : (loadCells p us.length).run P w = .ok us.toArray w := run_loadCells_list w p us (fun j v hj => by
    rw [← hk] at hj; exact hc.take k j v hj)
  rw [hl] at h2
  unfold loadVar
  simp [(tyK_spec (w := w) hT).1, (tyK_spec (w := w) hT).2, h2]
end
end Go.Tb
