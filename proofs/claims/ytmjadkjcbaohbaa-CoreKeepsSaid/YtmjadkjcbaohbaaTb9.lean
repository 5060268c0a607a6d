/- Lemmas and walks that the proof of this claim uses: Tb9. -/
import Derived.Test.YtmjadkjcbaohbaaTb8
set_option linter.unusedVariables false
set_option linter.unusedSimpArgs false
namespace Go.Tb
open Go.RowKit
section
variable {P : Program} {n : Nat} {ops : Array Oper} {Q : Exit → Env → World → Prop} {ρ : Env} {w : World}
variable {d : Option Tmp} {ty : TypeId} {pos : String} {after : Array Edge} {g : Option (Nat × Bool)} {K : Value → World → Prop}

/-- Where a cut of a slice begins. -/
def cutA (A : Option Addr) (cap k l : Nat) : Option Addr := if cap = l then A else A.map (·.add (l * k))

theorem RV.sliceLo {t e m bt : Nat} {z : List Value} {x y : Operand} {A : Option Addr} {len cap : Nat} {l : Int} (hT : tyS P t = some (e, m, bt, z)) (hx : ev ρ x = some (.slice A len cap)) (hy : ev ρ y = some (.int .i64 l)) (h0 : 0 ≤ l ∧ l ≤ len) (hc : len ≤ cap) :
    RV P n ⟨d, .slice t x (some y) none none, ty, pos, after, g⟩ ρ w (.slice (cutA A cap m l.toNat) (len - l.toNat) (cap - l.toNat)) := fun a ha => by
  obtain ⟨hu, i', zv, hi, hs, _, _, _⟩ := tyS_spec hT
  simp [execOp, ha.ev hx, ha.ev hy, Instr.sliceAt, Instr.slice, run_underlying hu, Instr.sliceBounds, Instr.sliceBound, asIntOf, h0.1, h0.2, sizeOf, typeInfo, hi, hs, cutA]
theorem RV.sliceHi {t e m bt : Nat} {z : List Value} {x y : Operand} {A : Option Addr} {len cap : Nat} {h : Int} (hT : tyS P t = some (e, m, bt, z)) (hx : ev ρ x = some (.slice A len cap)) (hy : ev ρ y = some (.int .i64 h)) (h0 : 0 ≤ h ∧ h ≤ cap) :
    RV P n ⟨d, .slice t x none (some y) none, ty, pos, after, g⟩ ρ w (.slice A h.toNat cap) := fun a ha => by
  obtain ⟨hu, i', zv, hi, hs, _, _, _⟩ := tyS_spec hT
  simp [execOp, ha.ev hx, ha.ev hy, Instr.sliceAt, Instr.slice, run_underlying hu, Instr.sliceBounds, Instr.sliceBound, asIntOf, h0.1, h0.2, sizeOf, typeInfo, hi, hs]
  intro _; cases A <;> simp [Addr.add]
theorem RV.sliceLH {t e m bt : Nat} {z : List Value} {x y u : Operand} {A : Option Addr} {len cap : Nat} {l h : Int} (hT : tyS P t = some (e, m, bt, z)) (hx : ev ρ x = some (.slice A len cap)) (hy : ev ρ y = some (.int .i64 l)) (hu : ev ρ u = some (.int .i64 h)) (h0 : 0 ≤ l ∧ l ≤ h ∧ h ≤ cap) :
    RV P n ⟨d, .slice t x (some y) (some u) none, ty, pos, after, g⟩ ρ w (.slice (cutA A cap m l.toNat) (h.toNat - l.toNat) (cap - l.toNat)) := fun a ha => by
  obtain ⟨hu', i', zv, hi, hs, _, _, _⟩ := tyS_spec hT
  have h1 : 0 ≤ h := by omega
  have h2 : l ≤ (h.toNat : Int) := by omega
  simp [execOp, ha.ev hx, ha.ev hy, ha.ev hu, Instr.sliceAt, Instr.slice, run_underlying hu', Instr.sliceBounds, Instr.sliceBound, asIntOf, h0.1, h0.2.2, h1, h2, sizeOf, typeInfo, hi, hs, cutA]
  intro h3; omega

theorem RV.convII {s t : Nat} {k : IntKind} {x : Operand} {i : Int} {kd : IntKind} (hs : (P.underlying s).isSome = true) (ht : P.underlying t = some (.int k)) (hx : ev ρ x = some (.int kd i)) (hw : k.wrap i = i) : RV P n ⟨d, .convert s t x, ty, pos, after, g⟩ ρ w (.int k i) := fun a ha => by
  obtain ⟨d', hd⟩ := Option.isSome_iff_exists.1 hs
  simp [execOp, ha.ev hx, convert, run_underlying hd, run_underlying ht, Conv.intToInt, hw]

/-- copy: cells of one cell each. -/
theorem OW.copy1 {t u e bt b o dl dc sl sc : Nat} {z : List Value} {x y : Operand} {p : Addr} {As : Option Addr} {cs vs : List Value} {t' : TypeId} (hT : tyS P t = some (e, 1, bt, z)) (hx : ev ρ x = some (.slice (some p) dl dc)) (hp : p = ⟨b, o, none⟩) (hy : ev ρ y = some (.slice As sl sc))
    (f : Blk w b t' cs) (hin : o + dl ≤ cs.length) (hl : vs.length = min sl dl) (hc : 0 < vs.length → ∃ a, As = some a ∧ Cells w a vs) (h1 : vs.all Value.oneCell' = true) (k : ∀ w', Stored w w' b t' (over cs o vs) → K (.int .i64 (min sl dl : Nat)) w') :
    OW P n Q ⟨d, .call ⟨.builtin .copy, #[x, y], #[t, u]⟩, ty, pos, after, g⟩ ρ w K := by
  obtain ⟨hu, i', zv, hi, hs, _, _, _⟩ := tyS_spec hT
  have hst := run_storeCells_at P b o t' vs 0 cs.toArray w f (by simp; omega) (by simpa [List.all_eq_true] using h1)
  have hcells : (Builtin.firstCells 1 (min sl dl) (.slice As sl sc)).run P w = .ok vs.toArray w := by
    by_cases h0 : 0 < vs.length
    · obtain ⟨a, rfl, hcc⟩ := hc h0
      simp only [Builtin.firstCells, Nat.mul_one]
      rw [← hl]
      exact run_loadCells_list w a vs hcc
    · have hv : vs = [] := List.eq_nil_of_length_eq_zero (by omega)
      subst hv
      have hm : min sl dl = 0 := by simpa using hl.symm
      rw [hm]
      cases As <;> simp [Builtin.firstCells, loadCells, loadCellsFrom]
  have hrow : w.setRow b (over cs o vs).toArray = w.setRow b (cs.toArray.toList.take (o + 0) ++ vs ++ cs.toArray.toList.drop (o + 0 + vs.length)).toArray := by simp [over]
  refine OW.value (w' := w.setRow b (over cs o vs).toArray) (fun a ha => ?_) (k _ (setRow_stored f))
  rw [hrow]
  simp [execOp, resolve, ha.ev hx, ha.ev hy, invoke, builtin, Builtin.copy_, run_underlying hu, Builtin.lenOf, sizeOf, typeInfo, hi, hs, Nat.min_def]
  have e : (if sl ≤ dl then sl else dl) = min sl dl := by rw [Nat.min_def]
  rw [e]
  rw [hcells]
  simp only [Result.andThen_ok, hp]
  rw [hst]
  simp [goInt, Nat.min_def]
end
end Go.Tb
namespace Go.Tb
section
variable {P : Program} {n : Nat} {ops : Array Oper} {Q : Exit → Env → World → Prop} {ρ : Env} {w : World} {S : List Nat} {X : Nat → Prop} {i : Nat} {r : DT} {o : Oper}
theorem wanted_undef {a : Act} {j t : Nat} {b : Bool} (ha : Fits n ρ a) (hg : o.guard = some (j, b)) (hj : (ops[j]?).bind (·.dst) = some t) (hl : look ρ t = some undef) : Region.wanted o (yielded ops a.tmps) = false := by
  have := ha.at_ t _ hl
  simp only [Region.wanted, hg, yielded, hj, Option.bind_some, this]
  rfl
theorem LW.noU {rest : List Oper} {j t : Nat} {b : Bool} (hg : o.guard = some (j, b)) (hj : (ops[j]?).bind (·.dst) = some t) (hl : look ρ t = some undef)
    (hd : okDst n o.dst = true) (h : LW P n ops Q rest (upd ρ o.dst undef) w) : LW P n ops Q (o :: rest) ρ w := fun a ha => by
  unfold wpList
  rw [if_neg (by simp [wanted_undef ha hg hj hl])]
  exact h _ (ha.upd hd undef)
theorem DW.fixNU {j t : Nat} {b : Bool} (ho : ops[i]? = some o) (hg : o.guard = some (j, b)) (hj : (ops[j]?).bind (·.dst) = some t) (hl : look ρ t = some undef) (hd : okDst n o.dst = true)
    (k : DW P n ops Q S X r (upd ρ o.dst undef) w) : DW P n ops Q S X (.cons i 1 r) ρ w :=
  ⟨o, undef, ho, hd, fun a ha => .inr ⟨wanted_undef ha hg hj hl, rfl⟩, k⟩
theorem DW.soleNU {j t : Nat} {b : Bool} (ho : ops[i]? = some o) (hg : o.guard = some (j, b)) (hj : (ops[j]?).bind (·.dst) = some t) (hl : look ρ t = some undef) (hd : okDst n o.dst = true)
    (k : DW P n ops Q S X r (upd ρ o.dst undef) w) : DW P n ops Q S X (.cons i 0 r) ρ w :=
  ⟨o, ho, hd, .inr ⟨fun a ha => wanted_undef ha hg hj hl, k⟩⟩
end
end Go.Tb
namespace Go.Tb
theorem RV.sliceLoO {P : Program} {n : Nat} {ρ : Env} {w : World} {d : Option Tmp} {ty : TypeId} {pos : String} {after : Array Edge} {g : Option (Nat × Bool)} {t e m bt b : Nat} {z : List Value} {x y : Operand} {len cap : Nat} {l : Int}
    (hT : tyS P t = some (e, m, bt, z)) (hx : ev ρ x = some (.slice (some ⟨b, 0, none⟩) len cap)) (hy : ev ρ y = some (.int .i64 l)) (h0 : 0 ≤ l ∧ l ≤ len) (hc : len ≤ cap) (hl : l < cap) :
    RV P n ⟨d, .slice t x (some y) none none, ty, pos, after, g⟩ ρ w (.slice (some ⟨b, l.toNat * m, none⟩) (len - l.toNat) (cap - l.toNat)) := by
  have := RV.sliceLo (P := P) (n := n) (w := w) (d := d) (ty := ty) (pos := pos) (after := after) (g := g) hT hx hy h0 hc
  have e : cutA (some ⟨b, 0, none⟩) cap m l.toNat = some ⟨b, l.toNat * m, none⟩ := by
    unfold cutA
    rw [if_neg (by omega)]
    simp only [Option.map_some]
    unfold Addr.add
    split
    · rename_i h; rw [h]
    · simp
  rw [e] at this
  exact this
end Go.Tb
