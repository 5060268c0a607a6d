/- Lemmas and walks that the proof of this claim uses: Tb21, Tb23, Tb24, D4m1D, TbCutOpen, D4m1, D4m2D, D4m2, D4m3D. -/
import Derived.Test.YtihcdffakmnkdaaCutPlans0
import Derived.Scope
import Derived.Test.YtihcdffakmnkdaaRows
import Derived.ProofKit
import Derived.OpenShut
import Derived.ChangeOld
import Derived.Below
import Derived.Lib.SmallJoins
import Derived.KernelRfl
import Derived.Test.YtihcdffakmnkdaaProg
/- Laws for the library's functions on slices, and for functions that turn a slice that they are given. -/
set_option linter.unusedVariables false
set_option linter.unusedSimpArgs false
namespace Go.Tb
open Go.RowKit

theorem Hp.pickR {w0 w : World} {C C' R : List Ck} (h : Hp w0 w (C ++ R)) (is : List Nat) (nd : is.Nodup) (hC : is.map (fun i => C[i]?) = C'.map some) : Hp w0 w (C' ++ R) := by
  have hlen : is.length = C'.length := by have := congrArg List.length hC; simpa using this
  have at_ : ∀ (i : Nat) (x : Ck), C'[i]? = some x → ∃ j, is[i]? = some j ∧ C[j]? = some x := by
    intro i x hx
    have h1 : (C'.map some)[i]? = some (some x) := by simp [hx]
    rw [← hC] at h1
    simpa using h1
  have key : ∀ (i : Nat) (x : Ck), (C' ++ R)[i]? = some x → ∃ j, (C ++ R)[j]? = some x ∧ ((i < C'.length ∧ is[i]? = some j ∧ j < C.length) ∨ (C'.length ≤ i ∧ j = C.length + (i - C'.length))) := by
    intro i x hx
    by_cases hi : i < C'.length
    · rw [List.getElem?_append_left hi] at hx
      obtain ⟨j, h1, h2⟩ := at_ i x hx
      have hj := lt_of_at h2
      exact ⟨j, by rw [List.getElem?_append_left hj]; exact h2, .inl ⟨hi, h1, hj⟩⟩
    · rw [List.getElem?_append_right (by omega)] at hx
      refine ⟨C.length + (i - C'.length), ?_, .inr ⟨by omega, rfl⟩⟩
      rw [List.getElem?_append_right (by omega), Nat.add_sub_cancel_left]
      exact hx
  refine ⟨h.ext, fun i x hx => ?_, fun i j x y hx hy hij => ?_, fun i x hx => ?_⟩
  · obtain ⟨j, hj, _⟩ := key i x hx; exact h.holds j x hj
  · obtain ⟨p, hp, h1⟩ := key i x hx
    obtain ⟨q, hq, h2⟩ := key j y hy
    refine h.disj p q x y hp hq fun e => hij ?_
    subst e
    rcases h1 with ⟨a1, a2, a3⟩ | ⟨a1, a2⟩ <;> rcases h2 with ⟨b1, b2, b3⟩ | ⟨b1, b2⟩
    · exact (List.getElem?_inj (by rw [hlen]; exact a1) nd).1 (a2.trans b2.symm)
    · omega
    · omega
    · omega
  · obtain ⟨j, hj, _⟩ := key i x hx; exact h.fresh j x hj

theorem Sl2.one {α : Type} {w : World} {A A1 : Option Addr} {c c1 k : Nat} {enc : α → List Value} {l1 : List α} (h : Sl w A c 1 ([((A1, c1), l1)].map encH)) (s1 : Sl w A1 c1 k (l1.map enc)) : Sl2 w A c k enc [l1] := by
  refine ⟨[(A1, c1)], rfl, h, fun j x l hj hl => ?_⟩
  match j, hj, hl with
  | 0, hj, hl => simp at hj hl; subst hj; subst hl; exact s1
theorem Sl2.two {α : Type} {w : World} {A A1 A2 : Option Addr} {c c1 c2 k : Nat} {enc : α → List Value} {l1 l2 : List α} (h : Sl w A c 1 ([((A1, c1), l1), ((A2, c2), l2)].map encH)) (s1 : Sl w A1 c1 k (l1.map enc)) (s2 : Sl w A2 c2 k (l2.map enc)) : Sl2 w A c k enc [l1, l2] := by
  refine ⟨[(A1, c1), (A2, c2)], rfl, h, fun j x l hj hl => ?_⟩
  match j, hj, hl with
  | 0, hj, hl => simp at hj hl; subst hj; subst hl; exact s1
  | 1, hj, hl => simp at hj hl; subst hj; subst hl; exact s2
theorem Sl2.three {α : Type} {w : World} {A A1 A2 A3 : Option Addr} {c c1 c2 c3 k : Nat} {enc : α → List Value} {l1 l2 l3 : List α} (h : Sl w A c 1 ([((A1, c1), l1), ((A2, c2), l2), ((A3, c3), l3)].map encH)) (s1 : Sl w A1 c1 k (l1.map enc)) (s2 : Sl w A2 c2 k (l2.map enc)) (s3 : Sl w A3 c3 k (l3.map enc)) : Sl2 w A c k enc [l1, l2, l3] := by
  refine ⟨[(A1, c1), (A2, c2), (A3, c3)], rfl, h, fun j x l hj hl => ?_⟩
  match j, hj, hl with
  | 0, hj, hl => simp at hj hl; subst hj; subst hl; exact s1
  | 1, hj, hl => simp at hj hl; subst hj; subst hl; exact s2
  | 2, hj, hl => simp at hj hl; subst hj; subst hl; exact s3

section
variable {P : Program} {n : Nat} {ops : Array Oper} {Q : Exit → Env → World → Prop} {ρ : Env} {w : World}
variable {d : Option Tmp} {ty : TypeId} {pos : String} {after : Array Edge} {g : Option (Nat × Bool)} {K : Value → World → Prop}
theorem RV.cap {t e m bt : Nat} {z : List Value} {x : Operand} {A : Option Addr} {len cp : Nat} (hT : tyS P t = some (e, m, bt, z)) (hx : ev ρ x = some (.slice A len cp)) : RV P n ⟨d, .call ⟨.builtin .cap, #[x], #[t]⟩, ty, pos, after, g⟩ ρ w (.int .i64 cp) :=
  (fun a ha => by
    obtain ⟨hu, _⟩ := tyS_spec hT
    simp [execOp, resolve, ha.ev hx, invoke, builtin, Builtin.cap_, run_underlying hu, goInt])
end
end Go.Tb
namespace Go.Tb
/-- What lay in the base world lies there still, whatever the writing operations of a region turn. -/
theorem Hp.old {w0 w1 w w' : World} {L0 : List Ck} {is : List Nat} (H0 : Hp w0 w1 L0) (m : ModX (XB w1 L0 is) w w') (r : Ext w0 w) {p : Addr} {vs : List Value} (h : Cells w0 p vs) : Cells w' p vs := by
  intro j v hj
  have h0 := h j v hj
  have hb : (p.add j).block < w0.heap.size := by
    rcases Nat.lt_or_ge (p.add j).block w0.heap.size with h' | h'
    · exact h'
    · simp [World.cell?, Array.getElem?_eq_none h'] at h0
  have h1 := r.cell h0
  have hX : ¬ XB w1 L0 is (p.add j).block := by
    rintro (h2 | ⟨i, _, y, hy, hb'⟩)
    · have := H0.ext.size; omega
    · have := H0.fresh i y hy _ hb'; omega
  have h2 := m.2 _ (Nat.lt_of_lt_of_le hb r.size) hX
  simp only [World.cell?] at h1 ⊢
  rw [h2]; exact h1
end Go.Tb

/- Laws for arrays in memory, for clear and copy. -/
set_option linter.unusedVariables false
set_option linter.unusedSimpArgs false
namespace Go.Tb
open Go.RowKit
/-- An array type: its element's type, its length, the cells of an element. -/
def tyA (P : Program) (t : TypeId) : Option (TypeId × Nat × Nat) :=
  match P.underlying t with
  | some (.array n e) => match P.info? e with
    | some i => some (e, n, i.size)
    | none => none
  | _ => none
theorem tyA_spec {P : Program} {t e k n : Nat} (h : tyA P t = some (e, n, k)) : P.underlying t = some (.array n e) ∧ ∃ i, P.info? e = some i ∧ i.size = k := by
  unfold tyA at h
  split at h
  · rename_i n' e' he
    split at h
    · rename_i i hi
      simp only [Option.some.injEq, Prod.mk.injEq] at h
      obtain ⟨rfl, rfl, h3⟩ := h
      exact ⟨he, i, hi, h3⟩
    · cases h
  · cases h
theorem Own.flat {α : Type} {enc : α → List Value} {w : World} {b c t k : Nat} {l : List α} (o : Own w (some ⟨b, 0, none⟩) c t k (l.map enc)) : Cells w ⟨b, 0, none⟩ ((l.map enc).flatten) := by
  rcases o.blk with ⟨h, _⟩ | ⟨b', sp, h, f, _⟩
  · cases h
  · cases h
    have := f.cells.take ((l.map enc).flatten.length)
    rwa [List.take_left] at this
theorem list2 {α : Type} {l : List α} {a b : α} (h : l.length = 2) (h0 : l[(0 : Int).toNat]? = some a) (h1 : l[(1 : Int).toNat]? = some b) : l = [a, b] := by
  match l, h with
  | [x, y], _ => simp at h0 h1; rw [h0, h1]
theorem list6 {α : Type} {l : List α} {a b c d e f : α} (h : l.length = 6) (h0 : l[(0 : Int).toNat]? = some a) (h1 : l[(1 : Int).toNat]? = some b) (h2 : l[(2 : Int).toNat]? = some c) (h3 : l[(3 : Int).toNat]? = some d) (h4 : l[(4 : Int).toNat]? = some e) (h5 : l[(5 : Int).toNat]? = some f) : l = [a, b, c, d, e, f] := by
  match l, h with
  | [x, y, z, u, v, w], _ => simp at h0 h1 h2 h3 h4 h5; rw [h0, h1, h2, h3, h4, h5]
section
variable {P : Program} {n : Nat} {ops : Array Oper} {Q : Exit → Env → World → Prop} {ρ : Env} {w : World}
variable {d : Option Tmp} {ty : TypeId} {pos : String} {after : Array Edge} {g : Option (Nat × Bool)} {K : Value → World → Prop}
theorem CW.scope {c : Code} (h : CW P n c (fun e ρ w => match e with | .goto _ => False | e => Q e ρ w) ρ w) : CW P n (.scope c) Q ρ w := fun a ha => by
  refine wp_scope_straight (wp_mono (h a ha) fun e a' w' hq => ?_)
  obtain ⟨ρ', hf, hq⟩ := hq
  cases e <;> first | exact ⟨ρ', hf, hq⟩ | exact hq.elim
theorem CW.label {l : Nat} (h : Q .normal ρ w) : CW P n (.label l) Q ρ w := fun _ ha => wp_label ⟨ρ, ha, h⟩
theorem RV.nilCheck {x : Operand} {p : Addr} (hx : ev ρ x = some (.pointer (some p))) : RV P n ⟨d, .nilCheck x, ty, pos, after, g⟩ ρ w (.pointer (some p)) :=
  (fun a ha => by simp [execOp, ha.ev hx, asAddr])
theorem RV.indexArr {t e m N : Nat} {x y : Operand} {p : Addr} {i : Int} (hT : tyA P t = some (e, N, m)) (hx : ev ρ x = some (.pointer (some p))) (hy : ev ρ y = some (.int .i64 i)) (h0 : 0 ≤ i ∧ i < N) :
    RV P n ⟨d, .indexAddr t x y, ty, pos, after, g⟩ ρ w (.pointer (some (elemPtr (some p) m i.toNat))) :=
  (fun a ha => by
    obtain ⟨hu, i', hi, hs⟩ := tyA_spec hT
    simp [execOp, ha.ev hx, ha.ev hy, Instr.indexAt, asIntOf, Instr.sureAddr, run_underlying hu, h0.1, h0.2, sizeOf, typeInfo, hi, hs, elemPtr])
theorem RV.arrLH {α : Type} {l : List α} {t e m N : Nat} {x y u : Operand} {p : Addr} {lo hi : Int} (hT : tyA P t = some (e, N, m)) (hx : ev ρ x = some (.pointer (some p))) (hy : ev ρ y = some (.int .i64 lo)) (hu : ev ρ u = some (.int .i64 hi))
    (g' : 0 ≤ lo ∧ lo ≤ hi ∧ hi ≤ (l.length : Int)) (hl : N = l.length) :
    RV P n ⟨d, .slice t x (some y) (some u) none, ty, pos, after, g⟩ ρ w (.slice (cutA (some p) N m lo.toNat) (List.drop lo.toNat (List.take hi.toNat l)).length (N - lo.toNat)) := fun a ha => by
  obtain ⟨hu', i', hi', hs⟩ := tyA_spec hT
  have e1 : (List.drop lo.toNat (List.take hi.toNat l)).length = hi.toNat - lo.toNat := by simp; omega
  have h1 : 0 ≤ hi := by omega
  have h2 : hi ≤ (N : Int) := by omega
  have h3 : lo ≤ (hi.toNat : Int) := by omega
  have h4 : lo ≤ max hi 0 := by omega
  rw [e1]
  simp [execOp, ha.ev hx, ha.ev hy, ha.ev hu, Instr.sliceAt, Instr.sureAddr, run_underlying hu', Instr.sliceBounds, Instr.sliceBound, asIntOf, g'.1, h1, h2, h3, h4, sizeOf, typeInfo, hi', hs, cutA]
  by_cases h : N = lo.toNat <;> simp [h]
theorem RV.arrL {α : Type} {l : List α} {t e m N : Nat} {x y : Operand} {p : Addr} {lo : Int} (hT : tyA P t = some (e, N, m)) (hx : ev ρ x = some (.pointer (some p))) (hy : ev ρ y = some (.int .i64 lo))
    (g' : 0 ≤ lo ∧ lo ≤ (l.length : Int)) (hl : N = l.length) :
    RV P n ⟨d, .slice t x (some y) none none, ty, pos, after, g⟩ ρ w (.slice (cutA (some p) N m lo.toNat) (List.drop lo.toNat l).length (N - lo.toNat)) := fun a ha => by
  obtain ⟨hu', i', hi', hs⟩ := tyA_spec hT
  have e1 : (List.drop lo.toNat l).length = N - lo.toNat := by simp; omega
  have h3 : lo ≤ (N : Int) := by omega
  rw [e1]
  simp [execOp, ha.ev hx, ha.ev hy, Instr.sliceAt, Instr.sureAddr, run_underlying hu', Instr.sliceBounds, Instr.sliceBound, asIntOf, g'.1, h3, sizeOf, typeInfo, hi', hs, cutA]
  split <;> rfl
theorem RV.arrH {α : Type} {l : List α} {t e m N : Nat} {x u : Operand} {p : Addr} {hi : Int} (hT : tyA P t = some (e, N, m)) (hx : ev ρ x = some (.pointer (some p))) (hu : ev ρ u = some (.int .i64 hi))
    (g' : 0 ≤ hi ∧ hi ≤ (l.length : Int)) (hl : N = l.length) :
    RV P n ⟨d, .slice t x none (some u) none, ty, pos, after, g⟩ ρ w (.slice (some p) (List.take hi.toNat l).length N) := fun a ha => by
  obtain ⟨hu', i', hi', hs⟩ := tyA_spec hT
  have e1 : (List.take hi.toNat l).length = hi.toNat := by simp; omega
  have h2 : hi ≤ (N : Int) := by omega
  rw [e1]
  simp [execOp, ha.ev hx, ha.ev hu, Instr.sliceAt, Instr.sureAddr, run_underlying hu', Instr.sliceBounds, Instr.sliceBound, asIntOf, g'.1, h2, sizeOf, typeInfo, hi', hs]
  intro _; simp [Addr.add]
theorem RV.arrAll {α : Type} {l : List α} {t e m N : Nat} {x : Operand} {p : Addr} (hT : tyA P t = some (e, N, m)) (hx : ev ρ x = some (.pointer (some p))) (hl : N = l.length) :
    RV P n ⟨d, .slice t x none none none, ty, pos, after, g⟩ ρ w (.slice (some p) l.length N) := fun a ha => by
  obtain ⟨hu', i', hi', hs⟩ := tyA_spec hT
  subst hl
  simp [execOp, ha.ev hx, Instr.sliceAt, Instr.sureAddr, run_underlying hu', Instr.sliceBounds, Instr.sliceBound, sizeOf, typeInfo, hi', hs]
  intro _; simp [Addr.add]

/-- The whole row of a slice or an array of the call's own is stored anew. -/
theorem OW.storeArr {α : Type} {enc : α → List Value} {l l' : List α} {t m k b c : Nat} {a : Bool} {t' : TypeId} {x y : Operand} {v : Value} {vs : List Value} (hT : tyK P t = some (a, m)) (hx : ev ρ x = some (.pointer (some ⟨b, 0, none⟩))) (hy : ev ρ y = some v)
    (o : Own w (some ⟨b, 0, none⟩) c t' k (l.map enc)) (hk : ∀ x, (enc x).length = k) (hl : l'.length = l.length) (hvs : v.cells.toList = vs) (hm : vs.length = m) (he : vs = l'.flatMap enc) (h1 : vs.all Value.oneCell' = true)
    (kk : ∀ w', Mod w w' (some ⟨b, 0, none⟩) → Own w' (some ⟨b, 0, none⟩) c t' k (l'.map enc) → K undef w') : OW P n Q ⟨d, .store t x y, ty, pos, after, g⟩ ρ w K := by
  rcases o.blk with ⟨h, _⟩ | ⟨b', sp, h, f, h2, h3⟩
  · cases h
  · cases h
    have hlen : (l.flatMap enc).length = l.length * k := len_flatMap hk l
    have hlen' : (l'.flatMap enc).length = l'.length * k := len_flatMap hk l'
    have f' : Blk w b t' (l.flatMap enc ++ sp) := by rw [List.flatMap_def]; exact f
    refine OW.store (off := 0) (vs := vs) hT hx hy f' rfl hvs hm (Nat.ble_eq_true_of_le (by rw [List.length_append, ← hm, he, hlen', hlen, hl]; omega)) h1 fun w' s => ?_
    have e : over (l.flatMap enc ++ sp) 0 vs = l'.flatMap enc ++ sp := by
      unfold over
      rw [he, List.take_zero, List.nil_append, Nat.zero_add, hlen', hl, ← hlen, List.drop_left]
    rw [e] at s
    refine kk w' ⟨s.os, s.tape, s.output, by rw [s.size]; exact Nat.le_refl _, fun i _ hi => s.other i (fun e => hi (by simp [blkOf, e]))⟩ ?_
    exact Own.stored o f' hk hl (by simp [hlen, hlen', hl]) (by rw [← hlen, show (l.flatMap enc).length = (l'.flatMap enc).length by rw [hlen, hlen', hl]]; exact List.take_left) s

/-- clear of a part of a slice or an array of the call's own. -/
theorem zero_flat {α : Type} {enc : α → List Value} {x0 : α} {z : List Value} {m : Nat} (hz : enc x0 = z) (hm : z.length = m) (h0 : Nat.blt 0 m = true) (c : Nat) : Builtin.zeroCells z.toArray c = ((List.replicate c x0).flatMap enc).toArray := by
  have h0' : 0 < m := by simpa [Nat.blt_eq] using h0
  apply Array.toList_inj.1
  apply List.ext_getElem?
  intro i
  have hl : ((List.replicate c x0).flatMap enc).length = c * m := by
    induction c with
    | zero => simp
    | succ c ih => simp only [List.replicate_succ, List.flatMap_cons, List.length_append, ih, hz, hm, Nat.succ_mul]; omega
  have hrow : ∀ r ∈ (List.replicate c x0).map enc, r.length = m := by
    intro r hr
    obtain ⟨x, hx, rfl⟩ := List.mem_map.1 hr
    rw [(List.mem_replicate.1 hx).2, hz, hm]
  by_cases hi : i < c * m
  · have hmod : i % m < m := Nat.mod_lt _ h0'
    have hq : i / m < c := (Nat.div_lt_iff_lt_mul h0').2 hi
    have hv : z[i % m]? = some (z[i % m]'(by rw [hm]; exact hmod)) := by simp [hm, hmod]
    have hf := flatten_row hrow (i / m) z (by simp [hq, hz]) (i % m) _ hv
    have hjm : i / m * m + i % m = i := by rw [Nat.mul_comm]; exact Nat.div_add_mod i m
    rw [hjm] at hf
    simp only [List.flatMap_def, List.toList_toArray]
    rw [hf]
    simp only [Builtin.zeroCells]
    simp [hi, hm, hmod]
  · rw [List.getElem?_eq_none (by simp [Builtin.zeroCells, hm]; omega), List.getElem?_eq_none (by simp only [List.toList_toArray]; rw [hl]; omega)]
theorem OW.clearSub {α : Type} {enc : α → List Value} {l : List α} (x0 : α) {t e k bt b c cap len lo hi t' : Nat} {z : List Value} {x : Operand} {A : Option Addr} (hT : tyS P t = some (e, k, bt, z)) (hx : ev ρ x = some (.slice A len cap))
    (o : Own w (some ⟨b, 0, none⟩) c t' k (l.map enc)) (hk : ∀ x, (enc x).length = k) (hz : enc x0 = z) (hzl : z.length = k) (hk0 : Nat.blt 0 k = true) (hA : A = cutA (some ⟨b, 0, none⟩) c k lo) (hlen : len = hi - lo) (h1 : lo ≤ hi) (h2 : hi ≤ l.length) (ho : z.all Value.oneCell' = true)
    (kk : ∀ v w', Mod w w' (some ⟨b, 0, none⟩) → Own w' (some ⟨b, 0, none⟩) c t' k ((l.take lo ++ List.replicate (hi - lo) x0 ++ l.drop hi).map enc) → K v w') : OW P n Q ⟨d, .call ⟨.builtin .clear, #[x], #[t]⟩, ty, pos, after, g⟩ ρ w K := by
  obtain ⟨hu, i, zv, hinf, hs1, hs2, hs3, hs4⟩ := tyS_spec hT
  by_cases h0 : hi - lo = 0
  · refine OW.value (w' := w) (v := .tuple #[]) (fun a ha => ?_) (kk _ w ⟨rfl, rfl, rfl, Nat.le_refl _, fun _ _ _ => rfl⟩ (by
      have e : l.take lo ++ List.replicate (hi - lo) x0 ++ l.drop hi = l := by rw [h0, show hi = lo by omega]; simp
      rw [e]; exact o))
    have : len = 0 := by omega
    subst this
    cases A <;> simp [execOp, resolve, ha.ev hx, invoke, builtin, Builtin.clear_, run_underlying hu]
  · rcases o.blk with ⟨h, _⟩ | ⟨b', sp, h, f, h3, h4⟩
    · cases h
    · cases h
      have hlc : l.length ≤ c := by simpa using h3
      have hcl : c ≠ lo := by omega
      have hk' : 0 < k := by simpa [Nat.blt_eq] using hk0
      have hAe : A = some ⟨b, lo * k, none⟩ := by
        rw [hA]; unfold cutA; rw [if_neg hcl]
        simp only [Option.map_some]; unfold Addr.add; split
        · rename_i h; rw [h]
        · simp
      have hL : (l.flatMap enc).length = l.length * k := len_flatMap hk l
      have hR : ((List.replicate (hi - lo) x0).flatMap enc).length = (hi - lo) * k := by rw [len_flatMap hk]; simp
      have f' : Blk w b t' (l.flatMap enc ++ sp) := by rw [List.flatMap_def]; exact f
      have hhk : hi * k ≤ l.length * k := Nat.mul_le_mul_right _ h2
      have hlk : lo * k + (hi - lo) * k = hi * k := by rw [← Nat.add_mul]; congr 1; omega
      have hall : ((List.replicate (hi - lo) x0).flatMap enc).all Value.oneCell' = true := by
        rw [List.all_eq_true]
        intro v hv
        obtain ⟨y, hy, hv⟩ := List.mem_flatMap.1 hv
        rw [(List.mem_replicate.1 hy).2, hz] at hv
        exact List.all_eq_true.1 ho v hv
      have hst := run_storeCells_at P b (lo * k) t' ((List.replicate (hi - lo) x0).flatMap enc) 0 (l.flatMap enc ++ sp).toArray w f' (by simp [hR, hL]; omega) (fun v hv => List.all_eq_true.1 hall v hv)
      have hs : Stored w (w.setRow b (over (l.flatMap enc ++ sp) (lo * k) ((List.replicate (hi - lo) x0).flatMap enc)).toArray) b t' (over (l.flatMap enc ++ sp) (lo * k) ((List.replicate (hi - lo) x0).flatMap enc)) := setRow_stored f'
      refine OW.value (w' := w.setRow b (over (l.flatMap enc ++ sp) (lo * k) ((List.replicate (hi - lo) x0).flatMap enc)).toArray) (v := .tuple #[]) (fun a ha => ?_) (kk _ _ ⟨hs.os, hs.tape, hs.output, by rw [hs.size]; exact Nat.le_refl _, fun i _ hi => hs.other i (fun e => hi (by simp [blkOf, e]))⟩ ?_)
      · have hlen' : len = hi - lo := hlen
        obtain ⟨q, hq⟩ : ∃ q, len = q + 1 := ⟨len - 1, by omega⟩
        have hzc : Builtin.zeroCells zv.cells (q + 1) = ((List.replicate (hi - lo) x0).flatMap enc).toArray := by
          have := zero_flat (x0 := x0) (c := hi - lo) hz hzl hk0
          rw [← this, show q + 1 = hi - lo by omega, ← hs4]
        simp [execOp, resolve, ha.ev hx, invoke, builtin, Builtin.clear_, run_underlying hu, hq, hAe, zeroValue, typeInfo, hinf, hs3, hzc]
        have hover : over (l.flatMap enc ++ sp) (lo * k) ((List.replicate (hi - lo) x0).flatMap enc) = List.take (lo * k + 0) (l.flatMap enc ++ sp).toArray.toList ++ ((List.replicate (hi - lo) x0).flatMap enc) ++ List.drop (lo * k + 0 + ((List.replicate (hi - lo) x0).flatMap enc).length) (l.flatMap enc ++ sp).toArray.toList := by simp [over]
        have hst' := hst
        rw [hover, hst']
        simp
      · have htk : ∀ j, j ≤ l.length → (l.take j).flatMap enc = (l.flatMap enc).take (j * k) := by
          intro j hj
          have e : l.flatMap enc = (l.take j).flatMap enc ++ (l.drop j).flatMap enc := by rw [← List.flatMap_append, List.take_append_drop]
          have e2 : ((l.take j).flatMap enc).length = j * k := by rw [len_flatMap hk]; simp [Nat.min_eq_left hj]
          rw [e, ← e2, List.take_left]
        have hdk : ∀ j, j ≤ l.length → (l.drop j).flatMap enc = (l.flatMap enc).drop (j * k) := by
          intro j hj
          have e : l.flatMap enc = (l.take j).flatMap enc ++ (l.drop j).flatMap enc := by rw [← List.flatMap_append, List.take_append_drop]
          have e2 : ((l.take j).flatMap enc).length = j * k := by rw [len_flatMap hk]; simp [Nat.min_eq_left hj]
          rw [e, ← e2, List.drop_left]
        have hov : over (l.flatMap enc ++ sp) (lo * k) ((List.replicate (hi - lo) x0).flatMap enc) = (l.take lo ++ List.replicate (hi - lo) x0 ++ l.drop hi).flatMap enc ++ sp := by
          rw [over_app (by rw [hR, hL]; omega)]
          congr 1
          unfold over
          rw [hR, hlk, List.flatMap_append, List.flatMap_append, htk lo (by omega), hdk hi h2]
        rw [hov] at hs
        have hl' : (l.take lo ++ List.replicate (hi - lo) x0 ++ l.drop hi).length = l.length := by simp; omega
        have hL' : ((l.take lo ++ List.replicate (hi - lo) x0 ++ l.drop hi).flatMap enc).length = (l.flatMap enc).length := by rw [len_flatMap hk, len_flatMap hk, hl']
        rw [hov]
        exact Own.stored o f' hk hl' (by simp only [List.length_append]; rw [hL']) (by rw [← hL, ← hL']; exact List.take_left) hs
end
end Go.Tb

/- Function values with captured boxes; slices that are nil. -/
set_option linter.unusedVariables false
set_option linter.unusedSimpArgs false
namespace Go.Tb
open Go.RowKit
theorem Sl.none_nil {α : Type} {enc : α → List Value} {w : World} {c k : Nat} {l : List α} (h : Sl w none c k (l.map enc)) : l = [] := by
  cases l with
  | nil => rfl
  | cons x r => obtain ⟨_, ⟨a, ha⟩, _⟩ := h.row 0 (enc x) (by simp); cases ha
theorem evs_cast {ρ : Env} {a : List Operand} {vs vs' : List Value} (h : evs ρ a = some vs) (e : vs = vs') : evs ρ a = some vs' := e ▸ h
theorem CallsV.cap {P : Program} {f : Nat} {first cap args all : Array Value} {w : World} {R : Ending → World → Prop} (hc : callable P f = true) (e : first ++ args ++ cap = all) (h : Calls P f all w R) : CallsV P f first cap args w R := ⟨hc, by rw [e]; exact h⟩
section
variable {P : Program} {n : Nat} {ops : Array Oper} {Q : Exit → Env → World → Prop} {ρ : Env} {w : World}
variable {d : Option Tmp} {ty : TypeId} {pos : String} {after : Array Edge} {g : Option (Nat × Bool)} {K : Value → World → Prop}
theorem RV.makeFunc {f : Fn} {first cap : Array Operand} {fs cs : List Value} (hf : evs ρ first.toList = some fs) (hc : evs ρ cap.toList = some cs) : RV P n ⟨d, .makeFunc f first cap, ty, pos, after, g⟩ ρ w (.func f fs.toArray cs.toArray) := fun a ha => by
  have h1 : first.map a.eval = fs.toArray := by
    apply Array.toList_inj.1; rw [Array.toList_map]; exact ha.evs hf
  have h2 : cap.map a.eval = cs.toArray := by
    apply Array.toList_inj.1; rw [Array.toList_map]; exact ha.evs hc
  simp only [execOp, Instr.makeFunc]
  rw [show Array.map a.eval first = fs.toArray from h1, show Array.map a.eval cap = cs.toArray from h2]
  rfl
theorem RV.min2 {x y : Operand} {t1 t2 : TypeId} {i j : Int} {k : IntKind} (hx : ev ρ x = some (.int k i)) (hy : ev ρ y = some (.int k j)) : RV P n ⟨d, .call ⟨.builtin .min, #[x, y], #[t1, t2]⟩, ty, pos, after, g⟩ ρ w (.int k (min i j)) := fun a ha => by
  have e : min i j = if j < i then j else i := by rw [Int.min_def]; split <;> split <;> omega
  simp [execOp, resolve, ha.ev hx, ha.ev hy, invoke, builtin, Builtin.min_, Builtin.min2, e]
theorem RV.max2 {x y : Operand} {t1 t2 : TypeId} {i j : Int} {k : IntKind} (hx : ev ρ x = some (.int k i)) (hy : ev ρ y = some (.int k j)) : RV P n ⟨d, .call ⟨.builtin .max, #[x, y], #[t1, t2]⟩, ty, pos, after, g⟩ ρ w (.int k (max i j)) := fun a ha => by
  have e : max i j = if i < j then j else i := by rw [Int.max_def]; split <;> split <;> omega
  simp [execOp, resolve, ha.ev hx, ha.ev hy, invoke, builtin, Builtin.max_, Builtin.max2, e]
end
end Go.Tb

set_option linter.unusedVariables false
namespace Go.D4
open Go.Tb


structure Bog where
  worth : List (List Int)
structure Arr6 where
  at0 : Int
  at1 : Int
  at2 : Int
  at3 : Int
  at4 : Int
  at5 : Int
def encArr6 (x : Arr6) : List Value := [.int .i64 x.at0, .int .i64 x.at1, .int .i64 x.at2, .int .i64 x.at3, .int .i64 x.at4, .int .i64 x.at5]

def law04_Long_k1 (a0 : Bog) : Option Bool :=
  some (decide ((50 : Int) < ((a0.worth.length : Int))))
def law04_Long_B1 (a0 : Bog) (rec1 : Int → Option Bool) (t6_1 : Int) : Option Bool :=
  if t6_1 < ((a0.worth.length : Int)) then
    ix a0.worth t6_1 fun x1 =>
    if (50 : Int) < ((x1.length : Int)) then
      some true
    else
      gd (InR (t6_1 + 1)) <|
      rec1 ((t6_1 + 1))
  else
    law04_Long_k1 a0
def law04_Long_L1 (a0 : Bog) : Nat → Int → Option Bool
  | 0, _ => none
  | n_ + 1, t6_1 => law04_Long_B1 a0 (law04_Long_L1 a0 n_) t6_1
theorem law04_Long_L1_s {a0 : Bog} {m_ : Nat} {t6_1 : Int} {res : Bool} (h : law04_Long_L1 a0 m_ t6_1 = some res) : ∃ k, m_ = k + 1 ∧ law04_Long_B1 a0 (law04_Long_L1 a0 k) t6_1 = some res := by
  cases m_ with
  | zero => cases h
  | succ k => exact ⟨k, rfl, h⟩
def law04_Long_k2 (a0 : Bog) : Option Bool :=
  law04_Long_L1 a0 FU (((0 : Int)))
def law04_Long_B2 (a0 : Bog) (a1 : List (List Int)) (rec2 : Int → Option Bool) (t5_1 : Int) : Option Bool :=
  if t5_1 < ((a1.length : Int)) then
    ix a1 t5_1 fun x2 =>
    if (100 : Int) < ((x2.length : Int)) then
      some true
    else
      gd (InR (t5_1 + 1)) <|
      rec2 ((t5_1 + 1))
  else
    law04_Long_k2 a0
def law04_Long_L2 (a0 : Bog) (a1 : List (List Int)) : Nat → Int → Option Bool
  | 0, _ => none
  | n_ + 1, t5_1 => law04_Long_B2 a0 a1 (law04_Long_L2 a0 a1 n_) t5_1
theorem law04_Long_L2_s {a0 : Bog} {a1 : List (List Int)} {m_ : Nat} {t5_1 : Int} {res : Bool} (h : law04_Long_L2 a0 a1 m_ t5_1 = some res) : ∃ k, m_ = k + 1 ∧ law04_Long_B2 a0 a1 (law04_Long_L2 a0 a1 k) t5_1 = some res := by
  cases m_ with
  | zero => cases h
  | succ k => exact ⟨k, rfl, h⟩
def law04_Long (a0 : Bog) (a1 : List (List Int)) : Option Bool :=
  law04_Long_L2 a0 a1 FU (((0 : Int)))
def cut_from (a0 : Int) (a1 : Int) (a2 : Int) : Option Bool :=
  if a1 ≤ a0 then
    some (decide (a0 ≤ a2))
  else
    some false
def cut_depth (a0 : Bog) : Option Int :=
  ix a0.worth 0 fun x1 =>
  some ((x1.length : Int))
def slices_IndexFunc_int_k1 : Option Int :=
  some ((-1 : Int))
def slices_IndexFunc_int_B1 (a0 : List Int) (a1 : Int → Option Bool) (rec1 : Int → Option Int) (t8_1 : Int) : Option Int :=
  if t8_1 < ((a0.length : Int)) then
    ix a0 t8_1 fun x1 =>
    bnd (a1 x1) fun r1 =>
    if r1 = true then
      some t8_1
    else
      gd (InR (t8_1 + 1)) <|
      rec1 ((t8_1 + 1))
  else
    slices_IndexFunc_int_k1
def slices_IndexFunc_int_L1 (a0 : List Int) (a1 : Int → Option Bool) : Nat → Int → Option Int
  | 0, _ => none
  | n_ + 1, t8_1 => slices_IndexFunc_int_B1 a0 a1 (slices_IndexFunc_int_L1 a0 a1 n_) t8_1
theorem slices_IndexFunc_int_L1_s {a0 : List Int} {a1 : Int → Option Bool} {m_ : Nat} {t8_1 : Int} {res : Int} (h : slices_IndexFunc_int_L1 a0 a1 m_ t8_1 = some res) : ∃ k, m_ = k + 1 ∧ slices_IndexFunc_int_B1 a0 a1 (slices_IndexFunc_int_L1 a0 a1 k) t8_1 = some res := by
  cases m_ with
  | zero => cases h
  | succ k => exact ⟨k, rfl, h⟩
def slices_IndexFunc_int (a0 : List Int) (a1 : Int → Option Bool) : Option Int :=
  slices_IndexFunc_int_L1 a0 a1 FU (((0 : Int)))
def slices_ContainsFunc_int (a0 : List Int) (a1 : Int → Option Bool) : Option Bool :=
  bnd (slices_IndexFunc_int a0 a1) fun r1 =>
  some (decide ((0 : Int) ≤ r1))
def cut_Validate_1 (a0 : Int) : Option Bool :=
  bnd (cut_from a0 ((-50 : Int)) ((50 : Int))) fun r1 =>
  some (!r1)
def cut_Validate_k1 : Option Int :=
  some ((0 : Int))
def cut_Validate_k2 (t19_1 : Int) (rec1 : Int → Option Int) (t31_1 : Bool) : Option Int :=
  if t31_1 = true then
    some ((1 : Int))
  else
    gd (InR (t19_1 + 1)) <|
    rec1 ((t19_1 + 1))
def cut_Validate_B1 (a0 : Bog) (rec1 : Int → Option Int) (t19_1 : Int) : Option Int :=
  if t19_1 < ((a0.worth.length : Int)) then
    ix a0.worth t19_1 fun x1 =>
    bnd (cut_depth a0) fun r1 =>
    if ((x1.length : Int)) = r1 then
      bnd (slices_ContainsFunc_int x1 cut_Validate_1) fun r2 =>
      cut_Validate_k2 t19_1 rec1 r2
    else
      cut_Validate_k2 t19_1 rec1 true
  else
    cut_Validate_k1
def cut_Validate_L1 (a0 : Bog) : Nat → Int → Option Int
  | 0, _ => none
  | n_ + 1, t19_1 => cut_Validate_B1 a0 (cut_Validate_L1 a0 n_) t19_1
theorem cut_Validate_L1_s {a0 : Bog} {m_ : Nat} {t19_1 : Int} {res : Int} (h : cut_Validate_L1 a0 m_ t19_1 = some res) : ∃ k, m_ = k + 1 ∧ cut_Validate_B1 a0 (cut_Validate_L1 a0 k) t19_1 = some res := by
  cases m_ with
  | zero => cases h
  | succ k => exact ⟨k, rfl, h⟩
def cut_Validate_k3 (a0 : Bog) (t15_1 : Bool) : Option Int :=
  if t15_1 = true then
    some ((1 : Int))
  else
    cut_Validate_L1 a0 FU (((0 : Int)))
def cut_Validate (a0 : Bog) : Option Int :=
  bnd (cut_from ((a0.worth.length : Int)) ((1 : Int)) ((6 : Int))) fun r3 =>
  if r3 = true then
    bnd (cut_depth a0) fun r4 =>
    bnd (cut_from r4 ((1 : Int)) ((4 : Int))) fun r5 =>
    cut_Validate_k3 a0 ((!r5))
  else
    cut_Validate_k3 a0 true
def cut_raise_k1 (a0 : List Int) : Option (Bool × (List Int)) :=
  some (false, a0)
def cut_raise_B1 (a0 : List Int) (a2 : Int) (a3 : Int) (rec1 : Int → Option (Bool × (List Int))) (t1_1 : Int) : Option (Bool × (List Int)) :=
  if (0 : Int) ≤ t1_1 then
    ix a0 t1_1 fun x1 =>
    if x1 < a3 then
      ix a0 t1_1 fun x2 =>
      gd (InR (x2 + 1)) <|
      ix a0 t1_1 fun x3 =>
      gd (InR (t1_1 + 1)) <|
      gd (0 ≤ (t1_1 + 1) ∧ (t1_1 + 1) ≤ a2 ∧ a2 ≤ 6) <|
      some (true, (List.take (Int.toNat (t1_1 + 1)) ((a0.set (Int.toNat t1_1) (x2 + 1))) ++ List.replicate ((Int.toNat a2) - Int.toNat (t1_1 + 1)) (0 : Int) ++ List.drop ((Int.toNat a2)) ((a0.set (Int.toNat t1_1) (x2 + 1)))))
    else
      gd (InR (t1_1 - 1)) <|
      rec1 ((t1_1 - 1))
  else
    cut_raise_k1 a0
def cut_raise_L1 (a0 : List Int) (a2 : Int) (a3 : Int) : Nat → Int → Option (Bool × (List Int))
  | 0, _ => none
  | n_ + 1, t1_1 => cut_raise_B1 a0 a2 a3 (cut_raise_L1 a0 a2 a3 n_) t1_1
theorem cut_raise_L1_s {a0 : List Int} {a2 : Int} {a3 : Int} {m_ : Nat} {t1_1 : Int} {res : Bool × (List Int)} (h : cut_raise_L1 a0 a2 a3 m_ t1_1 = some res) : ∃ k, m_ = k + 1 ∧ cut_raise_B1 a0 a2 a3 (cut_raise_L1 a0 a2 a3 k) t1_1 = some res := by
  cases m_ with
  | zero => cases h
  | succ k => exact ⟨k, rfl, h⟩
def cut_raise (a0 : List Int) (a1 : Int) (a2 : Int) (a3 : Int) : Option (Bool × (List Int)) :=
  cut_raise_L1 a0 a2 a3 FU a1
def cut_all_k1 (a0 : Bog) (l1 : List Arr6) (l2 : List Int) (rec1 : (List Arr6) → (List Int) → Option ((List Arr6))) : Option ((List Arr6)) :=
  gd (l2.length = 6) <|
  ix l2 0 fun x1 =>
  ix l2 1 fun x2 =>
  ix l2 2 fun x3 =>
  ix l2 3 fun x4 =>
  ix l2 4 fun x5 =>
  ix l2 5 fun x6 =>
  gd (l1.length + (([(⟨x1, x2, x3, x4, x5, x6⟩ : Arr6)] : List Arr6)).length ≤ 1000000) <|
  gd (InR (((a0.worth.length : Int)) - 1)) <|
  bnd (cut_depth a0) fun r1 =>
  bnd (cut_raise l2 (((a0.worth.length : Int)) - 1) ((a0.worth.length : Int)) r1) fun r2 =>
  if r2.1 = true then
    rec1 (((l1 ++ ([(⟨x1, x2, x3, x4, x5, x6⟩ : Arr6)] : List Arr6)))) r2.2
  else
    some ((l1 ++ ([(⟨x1, x2, x3, x4, x5, x6⟩ : Arr6)] : List Arr6)))
def cut_all_B1 (a0 : Bog) (l1 : List Arr6) (l2 : List Int) (rec1 : (List Arr6) → (List Int) → Option ((List Arr6))) (rec2 : Int → Option ((List Arr6))) (t6_1 : Int) : Option ((List Arr6)) :=
  if t6_1 < ((a0.worth.length : Int)) then
    ix l2 t6_1 fun x7 =>
    gd (InR (t6_1 - 1)) <|
    ix l2 (t6_1 - 1) fun x8 =>
    gd (InR (x7 - x8)) <|
    bnd (cut_from (x7 - x8) ((-1 : Int)) ((1 : Int))) fun r3 =>
    if r3 = true then
      gd (InR (t6_1 + 1)) <|
      rec2 ((t6_1 + 1))
    else
      ix l2 t6_1 fun x9 =>
      gd (InR (t6_1 - 1)) <|
      ix l2 (t6_1 - 1) fun x10 =>
      if x9 < x10 then
        gd (InR (t6_1 - 1)) <|
        ix l2 (t6_1 - 1) fun x11 =>
        gd (InR (x11 - 1)) <|
        ix l2 t6_1 fun x12 =>
        gd (InR (t6_1 + 1)) <|
        gd (0 ≤ (t6_1 + 1) ∧ (t6_1 + 1) ≤ ((a0.worth.length : Int)) ∧ ((a0.worth.length : Int)) ≤ 6) <|
        rec1 l1 (((List.take (Int.toNat (t6_1 + 1)) ((l2.set (Int.toNat t6_1) (x11 - 1))) ++ List.replicate ((Int.toNat ((a0.worth.length : Int))) - Int.toNat (t6_1 + 1)) (0 : Int) ++ List.drop ((Int.toNat ((a0.worth.length : Int)))) ((l2.set (Int.toNat t6_1) (x11 - 1))))))
      else
        gd (InR (t6_1 - 1)) <|
        bnd (cut_depth a0) fun r4 =>
        bnd (cut_raise l2 (t6_1 - 1) ((a0.worth.length : Int)) r4) fun r5 =>
        if r5.1 = true then
          rec1 l1 r5.2
        else
          some l1
  else
    cut_all_k1 a0 l1 l2 rec1
def cut_all_L1 (a0 : Bog) (l1 : List Arr6) (l2 : List Int) (rec1 : (List Arr6) → (List Int) → Option ((List Arr6))) : Nat → Int → Option ((List Arr6))
  | 0, _ => none
  | n_ + 1, t6_1 => cut_all_B1 a0 l1 l2 rec1 (cut_all_L1 a0 l1 l2 rec1 n_) t6_1
theorem cut_all_L1_s {a0 : Bog} {l1 : List Arr6} {l2 : List Int} {rec1 : (List Arr6) → (List Int) → Option ((List Arr6))} {m_ : Nat} {t6_1 : Int} {res : (List Arr6)} (h : cut_all_L1 a0 l1 l2 rec1 m_ t6_1 = some res) : ∃ k, m_ = k + 1 ∧ cut_all_B1 a0 l1 l2 rec1 (cut_all_L1 a0 l1 l2 rec1 k) t6_1 = some res := by
  cases m_ with
  | zero => cases h
  | succ k => exact ⟨k, rfl, h⟩
def cut_all_B2 (a0 : Bog) (rec1 : (List Arr6) → (List Int) → Option ((List Arr6))) (l1 : List Arr6) (l2 : List Int) : Option ((List Arr6)) :=
  cut_all_L1 a0 l1 l2 rec1 FU (((1 : Int)))
def cut_all_L2 (a0 : Bog) : Nat → (List Arr6) → (List Int) → Option ((List Arr6))
  | 0, _, _ => none
  | n_ + 1, l1, l2 => cut_all_B2 a0 (cut_all_L2 a0 n_) l1 l2
theorem cut_all_L2_s {a0 : Bog} {m_ : Nat} {l1 : List Arr6} {l2 : List Int} {res : (List Arr6)} (h : cut_all_L2 a0 m_ l1 l2 = some res) : ∃ k, m_ = k + 1 ∧ cut_all_B2 a0 (cut_all_L2 a0 k) l1 l2 = some res := by
  cases m_ with
  | zero => cases h
  | succ k => exact ⟨k, rfl, h⟩
def cut_all (a0 : Bog) : Option ((List Arr6)) :=
  cut_all_L2 a0 FU ((([] : List Arr6))) ((([0, 0, 0, 0, 0, 0] : List Int)))
end Go.D4

namespace Go.Open
open Go.Tb Go.Proofs Go.ChangeShapes Go.WideShapes Go.ChangeAt Go.RowKit Go.Joins Go.Deep

theorem own_ : ownKnob Try.prog.godebug = none := by kernel_rfl
theorem laidOut_ : laidOutB Try.prog = true := by kernel_rfl
theorem cells22_ : Try.prog.cellsOf 22 = 1 := by kernel_rfl
theorem cells24_ : Try.prog.cellsOf 24 = 1 := by kernel_rfl
section
variable {H : Type} {enc : TypeId × Value → H} {W : World} {sp : Nat → Bool} {held : Bool} {r : Reach} {b0 base : Nat} {v : Value} {d : DataW H} {p : List MemPlace}
theorem trod_lt_ {t : TypeId} (h : DataW.Trod enc Try.prog W base sp held t v d p) : ∀ x ∈ p, x.block < W.heap.size := by obtain ⟨m, hm⟩ := h; exact DataW.trod_lt m _ _ _ hm
set_option maxRecDepth 100000 in
theorem open_row {fuel : Nat} {y : DataW H × List MemPlace} (hf : DataW.trod enc Try.prog W base sp held fuel 25 [v] = some y) : ∃ (l : List Int) (A : Option Addr) (c : Nat), v = .slice A l.length c ∧ Sl W A c 1 (l.map encN) := by
  rcases open_ints Try.underlying25 Try.underlying3 (by kernel_rfl) hf with ⟨hcs, _⟩ | ⟨x, l, c, zs, hcs, _, hl, hm, hz, _, hcell, hwz⟩
  · cases hcs
    exact ⟨[], none, 0, rfl, Sl.nil (by omega)⟩
  · cases hcs
    have hzl : l ≤ zs.length := by rw [hz]; split <;> omega
    have htl : (zs.take l).length = l := by simp; omega
    refine ⟨zs.take l, some x, c, by rw [htl], ?_⟩
    · refine Sl.mk_ (len := (zs.take l).length) (by rw [htl]; exact hl) hm (fun _ => rfl) rfl (fun i z hi j u hu => ?_)
      cases j with
      | zero =>
        cases hu
        have hlt := lt_of_at hi
        simp at hlt
        have h2 := hcell i (by omega)
        simp only [List.getElem?_take] at hi
        split at hi
        · simp [List.getD, hi] at h2; simpa using h2
        · cases hi
      | succ j => simp [encN] at hu
set_option maxRecDepth 100000 in
theorem open_ints_ (hv : Value.okWide Try.prog W r b0 25 v) (h : DataW.Trod enc Try.prog W base sp held 25 v d p) : ∃ (l : List Int) (A : Option Addr) (c : Nat), v = .slice A l.length c ∧ Sl W A c 1 (l.map encN) := by
  obtain ⟨a0, len0, cap0, rfl⟩ := okWide_slice Try.underlying25 hv
  obtain ⟨fuel, hf⟩ := h
  exact open_row (by simpa [Value.cells] using hf)
set_option maxRecDepth 100000 in
theorem open_table {fuel : Nat} {y : DataW H × List MemPlace} (hf : DataW.trod enc Try.prog W base sp held fuel 22 [v] = some y) : ∃ (ll : List (List Int)) (A : Option Addr) (c : Nat), v = .slice A ll.length c ∧ Sl2 W A c 1 encN ll := by
  rcases open_slice1 Try.underlying22 (by kernel_rfl) hf with ⟨hcs, _⟩ | ⟨x, l, c, m, n, V, D, Pl, hcs, _, hl, hm, hmm, _, hi⟩
  · cases hcs
    exact ⟨[], none, 0, rfl, Sl2.nil_⟩
  · cases hcs
    have hml : l ≤ m := by rw [hmm]; split <;> omega
    obtain ⟨L, hlen, hL⟩ := ex_list (Q := fun i (q : (Option Addr × Nat) × List Int) => W.cell? (x.add i) = some (.slice q.1.1 q.2.length q.1.2) ∧ Sl W q.1.1 q.1.2 1 (q.2.map encN)) l (fun i hil => by
      obtain ⟨h1, h2⟩ := hi i (by omega)
      obtain ⟨q, A, c', e, hs⟩ := open_row h2
      exact ⟨((A, c'), q), by rw [h1, e], hs⟩)
    have e1 : (L.map (·.2)).length = l := by simp [hlen]
    refine ⟨L.map (·.2), some x, c, by rw [e1], ⟨L.map (·.1), by simp, ?_, fun j h q hj hq => ?_⟩⟩
    · have e2 : (L.map (·.1)).zip (L.map (·.2)) = L := by
        rw [List.zip_map']; simp
      rw [e2]
      refine Sl.mk_ (len := l) hl hm (fun _ => rfl) hlen (fun i z hz j u hu => ?_)
      cases j with
      | zero => cases hu; simpa [encH] using (hL i z hz).1
      | succ j => simp [encH] at hu
    · simp only [List.getElem?_map, Option.map_eq_some_iff] at hj hq
      obtain ⟨z, hz, rfl⟩ := hj
      obtain ⟨z', hz', rfl⟩ := hq
      rw [hz] at hz'; cases hz'
      exact (hL j z hz).2
set_option maxRecDepth 100000 in
theorem open_bog (hv : Value.okWide Try.prog W r b0 24 v) (h : DataW.Trod enc Try.prog W base sp held 24 v d p) : ∃ (b : Go.D4.Bog) (A : Option Addr) (c : Nat), v = .agg #[.slice A b.worth.length c] ∧ Sl2 W A c 1 encN b.worth := by
  obtain ⟨cs, rfl, hsz⟩ := okWide_struct Try.underlying24 hv
  obtain ⟨c0, rfl⟩ : ∃ c0, cs = #[c0] := by
    obtain ⟨l⟩ := cs
    match l, hsz.trans cells24_ with
    | [c0], _ => exact ⟨c0, rfl⟩
  obtain ⟨fuel, hf⟩ := h
  obtain ⟨xs, n, _, _, _, hlen, hfi⟩ := DataW.trod_struct Try.underlying24 hf
  match xs, hlen with
  | [y0], _ =>
    have h0 := hfi 0 _ rfl
    obtain ⟨ll, A, c, rfl, hs⟩ := open_table (v := c0) (y := y0) (by simpa [Value.cells, cells22_] using h0)
    exact ⟨⟨ll⟩, A, c, rfl, hs⟩
end
end Go.Open

set_option linter.unusedVariables false
set_option linter.unusedSimpArgs false
namespace Go.D4
open Go.Tb Go.Proofs Go.RowKit

theorem Ta87 : tyA Try.prog 87 = some (3, 6, 1) := by kernel_rfl
theorem Tc67 : callable Try.prog 67 = true := by kernel_rfl
theorem Tc68 : callable Try.prog 68 = true := by kernel_rfl
theorem Tc69 : callable Try.prog 69 = true := by kernel_rfl
theorem Tc70 : callable Try.prog 70 = true := by kernel_rfl
theorem Tc97 : callable Try.prog 97 = true := by kernel_rfl
theorem Tc99 : callable Try.prog 99 = true := by kernel_rfl
theorem Tf24_0 : tyF Try.prog 24 0 = some 0 := by kernel_rfl
theorem Tk22 : tyK Try.prog 22 = some (false, 1) := by kernel_rfl
theorem Tk24 : tyK Try.prog 24 = some (true, 1) := by kernel_rfl
theorem Tk25 : tyK Try.prog 25 = some (false, 1) := by kernel_rfl
theorem Tk3 : tyK Try.prog 3 = some (false, 1) := by kernel_rfl
theorem Tk87 : tyK Try.prog 87 = some (true, 6) := by kernel_rfl
theorem mixed : Try.prog.follows .mixedOrders = true := by kernel_rfl
theorem Ts22 : tyS Try.prog 22 = some (25, 1, 24, [.slice none 0 0]) := by kernel_rfl
theorem Ts25 : tyS Try.prog 25 = some (3, 1, 8, [.int .i64 0]) := by kernel_rfl
theorem Ts82 : tyS Try.prog 82 = some (87, 6, 48, [.int .i64 0, .int .i64 0, .int .i64 0, .int .i64 0, .int .i64 0, .int .i64 0]) := by kernel_rfl
theorem Tz87 : tyZ Try.prog 87 = some (.agg #[.int .i64 0, .int .i64 0, .int .i64 0, .int .i64 0, .int .i64 0, .int .i64 0]) := by kernel_rfl

set_option maxRecDepth 20000 in
set_option maxHeartbeats 1000000 in
theorem law04_Long_ok {a0 : Bog} {a1 : List (List Int)} {A_a0_worth : Option Addr} {c_a0_worth : Nat} {A_a1 : Option Addr} {c_a1 : Nat} {w : World} {res : Bool} (h_a0_worth : Sl2 w A_a0_worth c_a0_worth 1 encN a0.worth) (h_a1 : Sl2 w A_a1 c_a1 1 encN a1) (F : law04_Long a0 a1 = some res) : Calls Try.prog 17 #[.agg #[.slice A_a0_worth a0.worth.length c_a0_worth], .slice A_a1 a1.length c_a1] w (Rt w (.bool res)) := by
  refine calls_of_cw (args := [.agg #[.slice A_a0_worth a0.worth.length c_a0_worth], .slice A_a1 a1.length c_a1]) Try.func17 rfl rfl rfl rfl ?_
  have H := Hp.start w
  have R0 := H.ext
  unfold law04_Long at F
  refine CW.seq fun K1 hK1 => ?_
  refine CW.region ?_
  refine LW.go rfl rfl (OW.box rfl fun b1 w1 N1 => ?_)
  replace H := H.new N1 N1.blk
  replace R0 := H.ext
  refine LW.pure rfl rfl (RV.assign rfl) ?_
  refine LW.nil (hK1 _ _ ?_)
  refine CW.seqJ (fun ρ wl1 => (law04_Long_k2 a0 = some res ∧ ρ = [(2, .pointer (some (⟨b1, 0, none⟩))), (4, .bool false)] ∧ Hp w wl1 [.blk b1 24 [.slice A_a0_worth a0.worth.length c_a0_worth]])) ?_ ?_
  ·
    rintro _ wl1 ⟨F, rfl, H⟩
    have R0 := H.ext
    unfold law04_Long_k2 at F
    refine CW.seqJ (fun ρ wl2 => (law04_Long_k1 a0 = some res ∧ ρ = [(2, .pointer (some (⟨b1, 0, none⟩))), (4, .bool false)] ∧ Hp w wl2 [.blk b1 24 [.slice A_a0_worth a0.worth.length c_a0_worth]])) ?_ ?_
    ·
      rintro _ wl2 ⟨F, rfl, H⟩
      have R0 := H.ext
      unfold law04_Long_k1 at F
      refine CW.seq fun K2 hK2 => ?_
      refine CW.region ?_
      refine LW.pure rfl rfl (RV.fieldAddr Tf24_0 rfl) ?_
      refine LW.pure rfl rfl (RV.load1 Tk22 rfl ((H.blk 0 rfl).cells.off 0) rfl) ?_
      refine LW.pure rfl rfl (RV.len Ts22 rfl) ?_
      refine LW.pure rfl rfl (RV.gtr rfl rfl) ?_
      refine LW.pure rfl rfl (RV.assign rfl) ?_
      refine LW.nil (hK2 _ _ ?_)
      refine CW.ret ?_
      obtain rfl := Option.some.inj F
      refine ⟨_, (ResOK.one rfl), ?_⟩
      refine ⟨(by first | rfl | simp), R0⟩
    ·
      intro K3 hK3 jK103
      refine CW.seq fun K4 hK4 => ?_
      refine CW.region ?_
      refine LW.pure rfl rfl (RV.assign rfl) ?_
      refine LW.nil (hK4 _ _ ?_)
      refine CW.block ?_
      refine CW.loop (fun meas ρ wl3 => ∃ (t6_1 : Int), law04_Long_L1 a0 meas t6_1 = some res ∧ ρ = [(2, .pointer (some (⟨b1, 0, none⟩))), (4, .bool false), (6, .int .i64 t6_1)] ∧ Hp w wl3 [.blk b1 24 [.slice A_a0_worth a0.worth.length c_a0_worth]]) FU ⟨_, ?_, ((0 : Int)), F, rfl, H⟩ ?_
      · exact ⟨rfl, rfl, rfl, trivial⟩
      rintro mk1 _ wl3 ⟨t6_1, F, rfl, H⟩
      have R0 := H.ext
      replace F := law04_Long_L1_s F
      obtain ⟨mk1, rfl, F⟩ := F
      generalize hrec1 : law04_Long_L1 a0 mk1 = rec1 at F
      unfold law04_Long_B1 at F
      refine CW.seq fun K5 hK5 => ?_
      refine CW.seq fun K6 hK6 => ?_
      refine CW.region ?_
      refine LW.pure rfl rfl (RV.move rfl) ?_
      refine LW.pure rfl rfl (RV.fieldAddr Tf24_0 rfl) ?_
      refine LW.pure rfl rfl (RV.load1 Tk22 rfl ((H.blk 0 rfl).cells.off 0) rfl) ?_
      refine LW.pure rfl rfl (RV.len Ts22 rfl) ?_
      refine LW.pure rfl rfl (RV.lss rfl rfl) ?_
      refine LW.nil (hK6 _ _ ?_)
      by_cases hp1 : t6_1 < ((a0.worth.length : Int))
      ·
        replace F := ite_y hp1 F
        have hq1 := dec_t hp1
        refine CW.condT rfl hq1 ?_
        refine CW.skip (hK5 _ _ ?_)
        refine CW.seq fun K7 hK7 => ?_
        refine CW.block ?_
        refine CW.seq fun K8 hK8 => ?_
        obtain ⟨x1, hbx1, hx1, F⟩ := ix_some F
        refine CW.region ?_
        refine LW.pure rfl rfl (RV.fieldAddr Tf24_0 rfl) ?_
        refine LW.pure rfl rfl (RV.load1 Tk22 rfl ((H.blk 0 rfl).cells.off 0) rfl) ?_
        refine LW.pure rfl rfl (RV.move rfl) ?_
        obtain ⟨A1, c1, hC1, hS1⟩ := h_a0_worth.at_ hx1
        refine LW.pure rfl rfl (RV.indexAddr Ts22 rfl rfl hbx1 (h_a0_worth.addr hbx1)) ?_
        refine LW.pure rfl rfl (RV.load1 Tk25 rfl (hC1.ext R0) rfl) ?_
        refine LW.pure rfl rfl (RV.len Ts25 rfl) ?_
        refine LW.pure rfl rfl (RV.gtr rfl rfl) ?_
        refine LW.nil (hK8 _ _ ?_)
        by_cases hp2 : (50 : Int) < ((x1.length : Int))
        ·
          replace F := ite_y hp2 F
          have hq2 := dec_t hp2
          refine CW.condT rfl hq2 ?_
          refine CW.seq fun K9 hK9 => ?_
          refine CW.region ?_
          refine LW.pure rfl rfl (RV.assign rfl) ?_
          refine LW.nil (hK9 _ _ ?_)
          refine CW.ret ?_
          obtain rfl := Option.some.inj F
          refine ⟨_, (ResOK.one rfl), ?_⟩
          refine ⟨(by first | rfl | simp), R0⟩
        ·
          replace F := ite_n hp2 F
          have hq2 := dec_f hp2
          refine CW.condF rfl hq2 ?_
          refine CW.skip (hK7 _ _ ?_)
          obtain ⟨hg1, F⟩ := gd_some F
          refine CW.region ?_
          refine LW.pure rfl rfl (RV.move rfl) ?_
          refine LW.pure rfl rfl (RV.add rfl rfl hg1) ?_
          refine LW.pure rfl rfl (RV.assign rfl) ?_
          refine LW.nil ?_
          subst hrec1
          refine ⟨mk1, Nat.lt_succ_self _, _, ?_, (t6_1 + 1), F, rfl, H⟩
          exact ⟨rfl, rfl, rfl, trivial⟩
      ·
        replace F := ite_n hp1 F
        have hq1 := dec_f hp1
        refine CW.condF rfl hq1 ?_
        refine CW.exit (jK103 _ _ ⟨_, ?_, ⟨F, rfl, H⟩⟩)
        exact ⟨rfl, rfl, trivial⟩
  ·
    intro K10 hK10 jK120
    refine CW.seq fun K11 hK11 => ?_
    refine CW.region ?_
    refine LW.pure rfl rfl (RV.assign rfl) ?_
    refine LW.nil (hK11 _ _ ?_)
    refine CW.block ?_
    refine CW.loop (fun meas ρ wl4 => ∃ (t5_1 : Int), law04_Long_L2 a0 a1 meas t5_1 = some res ∧ ρ = [(1, .slice A_a1 a1.length c_a1), (2, .pointer (some (⟨b1, 0, none⟩))), (4, .bool false), (5, .int .i64 t5_1)] ∧ Hp w wl4 [.blk b1 24 [.slice A_a0_worth a0.worth.length c_a0_worth]]) FU ⟨_, ?_, ((0 : Int)), F, rfl, H⟩ ?_
    · exact ⟨rfl, rfl, rfl, rfl, trivial⟩
    rintro mk2 _ wl4 ⟨t5_1, F, rfl, H⟩
    have R0 := H.ext
    replace F := law04_Long_L2_s F
    obtain ⟨mk2, rfl, F⟩ := F
    generalize hrec2 : law04_Long_L2 a0 a1 mk2 = rec2 at F
    unfold law04_Long_B2 at F
    refine CW.seq fun K12 hK12 => ?_
    refine CW.seq fun K13 hK13 => ?_
    refine CW.region ?_
    refine LW.pure rfl rfl (RV.move rfl) ?_
    refine LW.pure rfl rfl (RV.move rfl) ?_
    refine LW.pure rfl rfl (RV.len Ts22 rfl) ?_
    refine LW.pure rfl rfl (RV.lss rfl rfl) ?_
    refine LW.nil (hK13 _ _ ?_)
    by_cases hp3 : t5_1 < ((a1.length : Int))
    ·
      replace F := ite_y hp3 F
      have hq3 := dec_t hp3
      refine CW.condT rfl hq3 ?_
      refine CW.skip (hK12 _ _ ?_)
      refine CW.seq fun K14 hK14 => ?_
      refine CW.block ?_
      refine CW.seq fun K15 hK15 => ?_
      obtain ⟨x2, hbx2, hx2, F⟩ := ix_some F
      refine CW.region ?_
      refine LW.pure rfl rfl (RV.move rfl) ?_
      refine LW.pure rfl rfl (RV.move rfl) ?_
      obtain ⟨A2, c2, hC2, hS2⟩ := h_a1.at_ hx2
      refine LW.pure rfl rfl (RV.indexAddr Ts22 rfl rfl hbx2 (h_a1.addr hbx2)) ?_
      refine LW.pure rfl rfl (RV.load1 Tk25 rfl (hC2.ext R0) rfl) ?_
      refine LW.pure rfl rfl (RV.len Ts25 rfl) ?_
      refine LW.pure rfl rfl (RV.gtr rfl rfl) ?_
      refine LW.nil (hK15 _ _ ?_)
      by_cases hp4 : (100 : Int) < ((x2.length : Int))
      ·
        replace F := ite_y hp4 F
        have hq4 := dec_t hp4
        refine CW.condT rfl hq4 ?_
        refine CW.seq fun K16 hK16 => ?_
        refine CW.region ?_
        refine LW.pure rfl rfl (RV.assign rfl) ?_
        refine LW.nil (hK16 _ _ ?_)
        refine CW.ret ?_
        obtain rfl := Option.some.inj F
        refine ⟨_, (ResOK.one rfl), ?_⟩
        refine ⟨(by first | rfl | simp), R0⟩
      ·
        replace F := ite_n hp4 F
        have hq4 := dec_f hp4
        refine CW.condF rfl hq4 ?_
        refine CW.skip (hK14 _ _ ?_)
        obtain ⟨hg2, F⟩ := gd_some F
        refine CW.region ?_
        refine LW.pure rfl rfl (RV.move rfl) ?_
        refine LW.pure rfl rfl (RV.add rfl rfl hg2) ?_
        refine LW.pure rfl rfl (RV.assign rfl) ?_
        refine LW.nil ?_
        subst hrec2
        refine ⟨mk2, Nat.lt_succ_self _, _, ?_, (t5_1 + 1), F, rfl, H⟩
        exact ⟨rfl, rfl, rfl, rfl, trivial⟩
    ·
      replace F := ite_n hp3 F
      have hq3 := dec_f hp3
      refine CW.condF rfl hq3 ?_
      refine CW.exit (jK120 _ _ ⟨_, ?_, ⟨F, rfl, H⟩⟩)
      exact ⟨rfl, rfl, trivial⟩

set_option maxRecDepth 20000 in
set_option maxHeartbeats 1000000 in
theorem cut_from_ok {a0 : Int} {a1 : Int} {a2 : Int} {w : World} {res : Bool} (F : cut_from a0 a1 a2 = some res) : Calls Try.prog 67 #[.int .i64 a0, .int .i64 a1, .int .i64 a2] w (Rt w (.bool res)) := by
  refine calls_of_cw (args := [.int .i64 a0, .int .i64 a1, .int .i64 a2]) Try.func67 rfl rfl rfl rfl ?_
  have H := Hp.start w
  have R0 := H.ext
  unfold cut_from at F
  refine CW.seq fun K1 hK1 => ?_
  refine CW.region ?_
  refine LW.pure rfl rfl (RV.assign rfl) ?_
  refine LW.nil (hK1 _ _ ?_)
  refine CW.seq fun K2 hK2 => ?_
  by_cases hp1 : a1 ≤ a0
  ·
    replace F := ite_y hp1 F
    have hq1 := dec_t hp1
    refine CW.region ?_
    refine LW.pure rfl rfl (RV.move rfl) ?_
    refine LW.pure rfl rfl (RV.move rfl) ?_
    refine LW.pure rfl rfl (RV.leq rfl rfl) ?_
    refine LW.pure rfl rfl (RV.move rfl) ?_
    refine LW.pureYB rfl rfl rfl rfl hq1 (RV.move rfl) ?_
    refine LW.pureYB rfl rfl rfl rfl hq1 (RV.move rfl) ?_
    refine LW.pureYB rfl rfl rfl rfl hq1 (RV.leq rfl rfl) ?_
    refine LW.pure rfl rfl (RV.pickTB rfl hq1 rfl) ?_
    refine LW.pure rfl rfl (RV.assign rfl) ?_
    refine LW.nil (hK2 _ _ ?_)
    refine CW.ret ?_
    obtain rfl := Option.some.inj F
    refine ⟨_, (ResOK.one rfl), ?_⟩
    refine ⟨(by first | rfl | simp), R0⟩
  ·
    replace F := ite_n hp1 F
    have hq1 := dec_f hp1
    refine CW.region ?_
    refine LW.pure rfl rfl (RV.move rfl) ?_
    refine LW.pure rfl rfl (RV.move rfl) ?_
    refine LW.pure rfl rfl (RV.leq rfl rfl) ?_
    refine LW.pure rfl rfl (RV.move rfl) ?_
    refine LW.noB rfl rfl rfl rfl (ne_beq (v := false) hq1 rfl) ?_
    refine LW.noB rfl rfl rfl rfl (ne_beq (v := false) hq1 rfl) ?_
    refine LW.noB rfl rfl rfl rfl (ne_beq (v := false) hq1 rfl) ?_
    refine LW.pure rfl rfl (RV.pickFB rfl hq1 rfl) ?_
    refine LW.pure rfl rfl (RV.assign rfl) ?_
    refine LW.nil (hK2 _ _ ?_)
    refine CW.ret ?_
    obtain rfl := Option.some.inj F
    refine ⟨_, (ResOK.one rfl), ?_⟩
    refine ⟨(by first | rfl | simp), R0⟩

set_option maxRecDepth 20000 in
set_option maxHeartbeats 1000000 in
theorem cut_depth_ok {a0 : Bog} {A_a0_worth : Option Addr} {c_a0_worth : Nat} {w : World} {res : Int} (h_a0_worth : Sl2 w A_a0_worth c_a0_worth 1 encN a0.worth) (F : cut_depth a0 = some res) : Calls Try.prog 68 #[.agg #[.slice A_a0_worth a0.worth.length c_a0_worth]] w (Rt w (.int .i64 res)) := by
  refine calls_of_cw (args := [.agg #[.slice A_a0_worth a0.worth.length c_a0_worth]]) Try.func68 rfl rfl rfl rfl ?_
  have H := Hp.start w
  have R0 := H.ext
  unfold cut_depth at F
  refine CW.seq fun K1 hK1 => ?_
  refine CW.region ?_
  refine LW.go rfl rfl (OW.box rfl fun b1 w1 N1 => ?_)
  replace H := H.new N1 N1.blk
  replace R0 := H.ext
  refine LW.pure rfl rfl (RV.assign rfl) ?_
  refine LW.nil (hK1 _ _ ?_)
  refine CW.seq fun K2 hK2 => ?_
  obtain ⟨x1, hbx1, hx1, F⟩ := ix_some F
  refine CW.region ?_
  refine LW.pure rfl rfl (RV.fieldAddr Tf24_0 rfl) ?_
  refine LW.pure rfl rfl (RV.load1 Tk22 rfl ((H.blk 0 rfl).cells.off 0) rfl) ?_
  obtain ⟨A1, c1, hC1, hS1⟩ := h_a0_worth.at_ hx1
  refine LW.pure rfl rfl (RV.indexAddr Ts22 rfl rfl hbx1 (h_a0_worth.addr hbx1)) ?_
  refine LW.pure rfl rfl (RV.load1 Tk25 rfl (hC1.ext R0) rfl) ?_
  refine LW.pure rfl rfl (RV.len Ts25 rfl) ?_
  refine LW.pure rfl rfl (RV.assign rfl) ?_
  refine LW.nil (hK2 _ _ ?_)
  refine CW.ret ?_
  obtain rfl := Option.some.inj F
  refine ⟨_, (ResOK.one rfl), ?_⟩
  refine ⟨(by first | rfl | simp), R0⟩

set_option maxRecDepth 20000 in
set_option maxHeartbeats 1000000 in
theorem slices_IndexFunc_int_ok {a0 : List Int} {a1 : Int → Option Bool} {A_a0 : Option Addr} {c_a0 : Nat} {f_a1 : Nat} {p_a1 : Array Value} {q_a1 : Array Value} {w : World} {res : Int} (h_a0 : Sl w A_a0 c_a0 1 (a0.map encN)) (h_a1 : ∀ (x2 : Int) (r : Bool), a1 x2 = some r → ∀ w1, Ext w w1 → CallsV Try.prog f_a1 p_a1 q_a1 #[.int .i64 x2] w1 (Rt w1 (.bool r))) (F : slices_IndexFunc_int a0 a1 = some res) : Calls Try.prog 97 #[.slice A_a0 a0.length c_a0, .func (.func f_a1) p_a1 q_a1] w (Rt w (.int .i64 res)) := by
  refine calls_of_cw (args := [.slice A_a0 a0.length c_a0, .func (.func f_a1) p_a1 q_a1]) Try.func97 rfl rfl rfl rfl ?_
  have H := Hp.start w
  have R0 := H.ext
  unfold slices_IndexFunc_int at F
  refine CW.seq fun K1 hK1 => ?_
  refine CW.region ?_
  refine LW.pure rfl rfl (RV.assign rfl) ?_
  refine LW.nil (hK1 _ _ ?_)
  refine CW.seqJ (fun ρ wl1 => (slices_IndexFunc_int_k1 = some res ∧ ρ = [(4, .int .i64 0)] ∧ Hp w wl1 [])) ?_ ?_
  ·
    rintro _ wl1 ⟨F, rfl, H⟩
    have R0 := H.ext
    unfold slices_IndexFunc_int_k1 at F
    refine CW.seq fun K2 hK2 => ?_
    refine CW.region ?_
    refine LW.pure rfl rfl (RV.assign rfl) ?_
    refine LW.nil (hK2 _ _ ?_)
    refine CW.ret ?_
    obtain rfl := Option.some.inj F
    refine ⟨_, (ResOK.one rfl), ?_⟩
    refine ⟨(by first | rfl | simp), R0⟩
  ·
    intro K3 hK3 jK63
    refine CW.seq fun K4 hK4 => ?_
    refine CW.region ?_
    refine LW.pure rfl rfl (RV.move rfl) ?_
    refine LW.pure rfl rfl (RV.len Ts25 rfl) ?_
    refine LW.pure rfl rfl (RV.move rfl) ?_
    refine LW.nil (hK4 _ _ ?_)
    refine CW.block ?_
    refine CW.loop (fun meas ρ wl2 => ∃ (t8_1 : Int), slices_IndexFunc_int_L1 a0 a1 meas t8_1 = some res ∧ ρ = [(0, .slice A_a0 a0.length c_a0), (1, .func (.func f_a1) p_a1 q_a1), (4, .int .i64 0), (7, .int .i64 ((a0.length : Int))), (8, .int .i64 t8_1)] ∧ Hp w wl2 []) FU ⟨_, ?_, ((0 : Int)), F, rfl, H⟩ ?_
    · exact ⟨rfl, rfl, rfl, rfl, rfl, trivial⟩
    rintro mk1 _ wl2 ⟨t8_1, F, rfl, H⟩
    have R0 := H.ext
    replace F := slices_IndexFunc_int_L1_s F
    obtain ⟨mk1, rfl, F⟩ := F
    generalize hrec1 : slices_IndexFunc_int_L1 a0 a1 mk1 = rec1 at F
    unfold slices_IndexFunc_int_B1 at F
    refine CW.seq fun K5 hK5 => ?_
    refine CW.region ?_
    refine LW.pure rfl rfl (RV.lss rfl rfl) ?_
    refine LW.nil (hK5 _ _ ?_)
    refine CW.seq fun K6 hK6 => ?_
    by_cases hp1 : t8_1 < ((a0.length : Int))
    ·
      replace F := ite_y hp1 F
      have hq1 := dec_t hp1
      refine CW.condT rfl hq1 ?_
      refine CW.skip (hK6 _ _ ?_)
      refine CW.seq fun K7 hK7 => ?_
      refine CW.block ?_
      refine CW.seq fun K8 hK8 => ?_
      refine CW.region ?_
      refine LW.pure rfl rfl (RV.move rfl) ?_
      refine LW.pure rfl rfl (RV.assign rfl) ?_
      refine LW.nil (hK8 _ _ ?_)
      refine CW.seq fun K9 hK9 => ?_
      obtain ⟨x1, hbx1, hx1, F⟩ := ix_some F
      obtain ⟨r1, hr1, F⟩ := bnd_some F
      refine CW.region ?_
      refine LW.pure rfl rfl (RV.move rfl) ?_
      refine LW.pure rfl rfl (RV.move rfl) ?_
      refine LW.pure rfl rfl (RV.move rfl) ?_
      refine LW.pure rfl rfl (RV.indexAddr Ts25 rfl rfl hbx1 (h_a0.addr_ hx1)) ?_
      refine LW.pure rfl rfl (RV.load1 Tk3 rfl ((h_a0.at_ hx1).ext R0) rfl) ?_
      refine LW.go rfl rfl (OW.callV2 rfl rfl rfl (h_a1 _ _ hr1 _ R0) ?_)
      rintro _ w2 ⟨rfl, E1⟩
      refine ⟨_, rfl, ?_⟩
      replace H := H.grow E1
      replace R0 := H.ext
      refine LW.nil (hK9 _ _ ?_)
      by_cases hp2 : r1 = true
      ·
        replace F := ite_y hp2 F
        have hq2 : r1 = true := hp2
        refine CW.condT rfl hq2 ?_
        refine CW.seq fun K10 hK10 => ?_
        refine CW.region ?_
        refine LW.pure rfl rfl (RV.move rfl) ?_
        refine LW.pure rfl rfl (RV.assign rfl) ?_
        refine LW.nil (hK10 _ _ ?_)
        refine CW.ret ?_
        obtain rfl := Option.some.inj F
        refine ⟨_, (ResOK.one rfl), ?_⟩
        refine ⟨(by first | rfl | simp), R0⟩
      ·
        replace F := ite_n hp2 F
        have hq2 : r1 = false := raw_f hp2
        refine CW.condF rfl hq2 ?_
        refine CW.skip (hK7 _ _ ?_)
        obtain ⟨hg1, F⟩ := gd_some F
        refine CW.region ?_
        refine LW.pure rfl rfl (RV.add rfl rfl hg1) ?_
        refine LW.pure rfl rfl (RV.move rfl) ?_
        refine LW.nil ?_
        subst hrec1
        refine ⟨mk1, Nat.lt_succ_self _, _, ?_, (t8_1 + 1), F, rfl, H⟩
        exact ⟨rfl, rfl, rfl, rfl, rfl, trivial⟩
    ·
      replace F := ite_n hp1 F
      have hq1 := dec_f hp1
      refine CW.condF rfl hq1 ?_
      refine CW.exit (jK63 _ _ ⟨_, ?_, ⟨F, rfl, H⟩⟩)
      exact ⟨rfl, trivial⟩

set_option maxRecDepth 20000 in
set_option maxHeartbeats 1000000 in
theorem slices_ContainsFunc_int_ok {a0 : List Int} {a1 : Int → Option Bool} {A_a0 : Option Addr} {c_a0 : Nat} {f_a1 : Nat} {p_a1 : Array Value} {q_a1 : Array Value} {w : World} {res : Bool} (h_a0 : Sl w A_a0 c_a0 1 (a0.map encN)) (h_a1 : ∀ (x0 : Int) (r : Bool), a1 x0 = some r → ∀ w1, Ext w w1 → CallsV Try.prog f_a1 p_a1 q_a1 #[.int .i64 x0] w1 (Rt w1 (.bool r))) (F : slices_ContainsFunc_int a0 a1 = some res) : Calls Try.prog 69 #[.slice A_a0 a0.length c_a0, .func (.func f_a1) p_a1 q_a1] w (Rt w (.bool res)) := by
  refine calls_of_cw (args := [.slice A_a0 a0.length c_a0, .func (.func f_a1) p_a1 q_a1]) Try.func69 rfl rfl rfl rfl ?_
  have H := Hp.start w
  have R0 := H.ext
  unfold slices_ContainsFunc_int at F
  refine CW.seq fun K1 hK1 => ?_
  refine CW.region ?_
  refine LW.pure rfl rfl (RV.assign rfl) ?_
  refine LW.nil (hK1 _ _ ?_)
  refine CW.seq fun K2 hK2 => ?_
  obtain ⟨r1, hr1, F⟩ := bnd_some F
  refine CW.region ?_
  refine LW.pure rfl rfl (RV.move rfl) ?_
  refine LW.pure rfl rfl (RV.move rfl) ?_
  refine LW.go rfl rfl (OW.call Tc97 rfl (slices_IndexFunc_int_ok (a0 := a0) (a1 := a1) (h_a0.ext R0) (fun x0 r hF w1 hE => h_a1 x0 r hF w1 (R0.trans hE)) hr1) ?_)
  rintro _ w2 ⟨rfl, E1⟩
  refine ⟨_, rfl, ?_⟩
  replace H := H.grow E1
  replace R0 := H.ext
  refine LW.pure rfl rfl (RV.geq rfl rfl) ?_
  refine LW.pure rfl rfl (RV.assign rfl) ?_
  refine LW.nil (hK2 _ _ ?_)
  refine CW.ret ?_
  obtain rfl := Option.some.inj F
  refine ⟨_, (ResOK.one rfl), ?_⟩
  refine ⟨(by first | rfl | simp), R0⟩

set_option maxRecDepth 20000 in
set_option maxHeartbeats 1000000 in
theorem cut_Validate_1_ok {a0 : Int} {w : World} {res : Bool} (F : cut_Validate_1 a0 = some res) : Calls Try.prog 70 #[.int .i64 a0] w (Rt w (.bool res)) := by
  refine calls_of_cw (args := [.int .i64 a0]) Try.func70 rfl rfl rfl rfl ?_
  have H := Hp.start w
  have R0 := H.ext
  unfold cut_Validate_1 at F
  refine CW.seq fun K1 hK1 => ?_
  refine CW.region ?_
  refine LW.pure rfl rfl (RV.assign rfl) ?_
  refine LW.nil (hK1 _ _ ?_)
  refine CW.seq fun K2 hK2 => ?_
  obtain ⟨r1, hr1, F⟩ := bnd_some F
  refine CW.region ?_
  refine LW.pure rfl rfl (RV.move rfl) ?_
  refine LW.go rfl rfl (OW.call Tc67 rfl (cut_from_ok (a0 := a0) (a1 := (-50 : Int)) (a2 := (50 : Int)) hr1) ?_)
  rintro _ w1 ⟨rfl, E1⟩
  refine ⟨_, rfl, ?_⟩
  replace H := H.grow E1
  replace R0 := H.ext
  refine LW.pure rfl rfl (RV.not rfl) ?_
  refine LW.pure rfl rfl (RV.assign rfl) ?_
  refine LW.nil (hK2 _ _ ?_)
  refine CW.ret ?_
  obtain rfl := Option.some.inj F
  refine ⟨_, (ResOK.one rfl), ?_⟩
  refine ⟨(by first | rfl | simp), R0⟩

set_option maxRecDepth 20000 in
set_option maxHeartbeats 1000000 in
theorem cut_Validate_ok {a0 : Bog} {A_a0_worth : Option Addr} {c_a0_worth : Nat} {w : World} {res : Int} (h_a0_worth : Sl2 w A_a0_worth c_a0_worth 1 encN a0.worth) (F : cut_Validate a0 = some res) : Calls Try.prog 25 #[.agg #[.slice A_a0_worth a0.worth.length c_a0_worth]] w (Rt w (.int .i64 res)) := by
  refine calls_of_cw (args := [.agg #[.slice A_a0_worth a0.worth.length c_a0_worth]]) Try.func25 rfl rfl rfl rfl ?_
  have H := Hp.start w
  have R0 := H.ext
  unfold cut_Validate at F
  refine CW.seq fun K1 hK1 => ?_
  refine CW.region ?_
  refine LW.go rfl rfl (OW.box rfl fun b1 w1 N1 => ?_)
  replace H := H.new N1 N1.blk
  replace R0 := H.ext
  refine LW.pure rfl rfl (RV.assign rfl) ?_
  refine LW.nil (hK1 _ _ ?_)
  refine CW.seq fun K2 hK2 => ?_
  refine CW.seqJ (fun ρ wl1 => (∃ (t15_1 : Bool), cut_Validate_k3 a0 t15_1 = some res ∧ ρ = [(1, .pointer (some (⟨b1, 0, none⟩))), (2, .int .i64 0), (15, .bool t15_1)] ∧ Hp w wl1 [.blk b1 24 [.slice A_a0_worth a0.worth.length c_a0_worth]])) ?_ ?_
  ·
    rintro _ wl1 ⟨t15_1, F, rfl, H⟩
    have R0 := H.ext
    unfold cut_Validate_k3 at F
    by_cases hp1 : t15_1 = true
    ·
      replace F := ite_y hp1 F
      have hq1 : t15_1 = true := hp1
      refine CW.condT rfl hq1 ?_
      refine CW.seq fun K3 hK3 => ?_
      refine CW.region ?_
      refine LW.pure rfl rfl (RV.assign rfl) ?_
      refine LW.nil (hK3 _ _ ?_)
      refine CW.ret ?_
      obtain rfl := Option.some.inj F
      refine ⟨_, (ResOK.one rfl), ?_⟩
      refine ⟨(by first | rfl | simp), R0⟩
    ·
      replace F := ite_n hp1 F
      have hq1 : t15_1 = false := raw_f hp1
      refine CW.condF rfl hq1 ?_
      refine CW.skip (hK2 _ _ ?_)
      refine CW.seqJ (fun ρ wl2 => (cut_Validate_k1 = some res ∧ ρ = [(2, .int .i64 0)] ∧ Hp w wl2 [])) ?_ ?_
      ·
        rintro _ wl2 ⟨F, rfl, H⟩
        have R0 := H.ext
        unfold cut_Validate_k1 at F
        refine CW.seq fun K4 hK4 => ?_
        refine CW.region ?_
        refine LW.pure rfl rfl (RV.assign rfl) ?_
        refine LW.nil (hK4 _ _ ?_)
        refine CW.ret ?_
        obtain rfl := Option.some.inj F
        refine ⟨_, (ResOK.one rfl), ?_⟩
        refine ⟨(by first | rfl | simp), R0⟩
      ·
        intro K5 hK5 jK68
        refine CW.seq fun K6 hK6 => ?_
        refine CW.region ?_
        refine LW.pure rfl rfl (RV.fieldAddr Tf24_0 rfl) ?_
        refine LW.pure rfl rfl (RV.load1 Tk22 rfl ((H.blk 0 rfl).cells.off 0) rfl) ?_
        refine LW.pure rfl rfl (RV.len Ts22 rfl) ?_
        refine LW.pure rfl rfl (RV.move rfl) ?_
        refine LW.nil (hK6 _ _ ?_)
        refine CW.block ?_
        refine CW.loop (fun meas ρ wl3 => ∃ (t19_1 : Int), cut_Validate_L1 a0 meas t19_1 = some res ∧ ρ = [(1, .pointer (some (⟨b1, 0, none⟩))), (2, .int .i64 0), (17, .slice A_a0_worth a0.worth.length c_a0_worth), (18, .int .i64 ((a0.worth.length : Int))), (19, .int .i64 t19_1)] ∧ Hp w wl3 [.blk b1 24 [.slice A_a0_worth a0.worth.length c_a0_worth]]) FU ⟨_, ?_, ((0 : Int)), F, rfl, H⟩ ?_
        · exact ⟨rfl, rfl, rfl, rfl, rfl, trivial⟩
        rintro mk1 _ wl3 ⟨t19_1, F, rfl, H⟩
        have R0 := H.ext
        replace F := cut_Validate_L1_s F
        obtain ⟨mk1, rfl, F⟩ := F
        generalize hrec1 : cut_Validate_L1 a0 mk1 = rec1 at F
        unfold cut_Validate_B1 at F
        refine CW.seq fun K7 hK7 => ?_
        refine CW.region ?_
        refine LW.pure rfl rfl (RV.lss rfl rfl) ?_
        refine LW.nil (hK7 _ _ ?_)
        refine CW.seq fun K8 hK8 => ?_
        by_cases hp2 : t19_1 < ((a0.worth.length : Int))
        ·
          replace F := ite_y hp2 F
          have hq2 := dec_t hp2
          refine CW.condT rfl hq2 ?_
          refine CW.skip (hK8 _ _ ?_)
          refine CW.seq fun K9 hK9 => ?_
          refine CW.block ?_
          refine CW.seq fun K10 hK10 => ?_
          obtain ⟨x1, hbx1, hx1, F⟩ := ix_some F
          refine CW.region ?_
          obtain ⟨A1, c1, hC1, hS1⟩ := h_a0_worth.at_ hx1
          refine LW.pure rfl rfl (RV.indexAddr Ts22 rfl rfl hbx1 (h_a0_worth.addr hbx1)) ?_
          refine LW.pure rfl rfl (RV.load1 Tk25 rfl (hC1.ext R0) rfl) ?_
          refine LW.pure rfl rfl (RV.assign rfl) ?_
          refine LW.nil (hK10 _ _ ?_)
          refine CW.seqJ (fun ρ wl4 => (∃ (t31_1 : Bool), cut_Validate_k2 t19_1 rec1 t31_1 = some res ∧ ρ = [(1, .pointer (some (⟨b1, 0, none⟩))), (2, .int .i64 0), (17, .slice A_a0_worth a0.worth.length c_a0_worth), (18, .int .i64 ((a0.worth.length : Int))), (19, .int .i64 t19_1), (31, .bool t31_1)] ∧ Hp w wl4 [.blk b1 24 [.slice A_a0_worth a0.worth.length c_a0_worth]])) ?_ ?_
          ·
            rintro _ wl4 ⟨t31_1, F, rfl, H⟩
            have R0 := H.ext
            unfold cut_Validate_k2 at F
            by_cases hp3 : t31_1 = true
            ·
              replace F := ite_y hp3 F
              have hq3 : t31_1 = true := hp3
              refine CW.condT rfl hq3 ?_
              refine CW.seq fun K11 hK11 => ?_
              refine CW.region ?_
              refine LW.pure rfl rfl (RV.assign rfl) ?_
              refine LW.nil (hK11 _ _ ?_)
              refine CW.ret ?_
              obtain rfl := Option.some.inj F
              refine ⟨_, (ResOK.one rfl), ?_⟩
              refine ⟨(by first | rfl | simp), R0⟩
            ·
              replace F := ite_n hp3 F
              have hq3 : t31_1 = false := raw_f hp3
              refine CW.condF rfl hq3 ?_
              refine CW.skip (hK9 _ _ ?_)
              obtain ⟨hg1, F⟩ := gd_some F
              refine CW.region ?_
              refine LW.pure rfl rfl (RV.add rfl rfl hg1) ?_
              refine LW.pure rfl rfl (RV.move rfl) ?_
              refine LW.nil ?_
              subst hrec1
              refine ⟨mk1, Nat.lt_succ_self _, _, ?_, (t19_1 + 1), F, rfl, H⟩
              exact ⟨rfl, rfl, rfl, rfl, rfl, trivial⟩
          ·
            intro K12 hK12 jK87
            obtain ⟨r1, hr1, F⟩ := bnd_some F
            by_cases hp4 : ((x1.length : Int)) = r1
            ·
              replace F := ite_y hp4 F
              have hq4 := dec_t hp4
              obtain ⟨r2, hr2, F⟩ := bnd_some F
              refine CW.region ?_
              refine LW.pure rfl rfl (RV.move rfl) ?_
              refine LW.pure rfl rfl (RV.len Ts25 rfl) ?_
              refine LW.pure rfl rfl (RV.loadA [.slice A_a0_worth a0.worth.length c_a0_worth] Tk24 rfl (H.blk 0 rfl).cells rfl rfl) ?_
              refine LW.go rfl rfl (OW.call Tc68 rfl (cut_depth_ok (a0 := a0) (h_a0_worth.ext R0) hr1) ?_)
              rintro _ w2 ⟨rfl, E1⟩
              refine ⟨_, rfl, ?_⟩
              replace H := H.grow E1
              replace R0 := H.ext
              refine LW.pure rfl rfl (RV.nei rfl rfl) ?_
              refine LW.pure rfl rfl (RV.move rfl) ?_
              refine LW.pureYB rfl rfl rfl rfl (not_f hq4) (RV.move rfl) ?_
              refine LW.yesB rfl rfl rfl rfl (not_f hq4) (OW.call Tc69 rfl (slices_ContainsFunc_int_ok (a0 := x1) (a1 := cut_Validate_1) (hS1.ext R0) (fun x2 r hF w3 hE => CallsV.of Tc70 (cut_Validate_1_ok (a0 := x2) hF)) hr2) ?_)
              rintro _ w4 ⟨rfl, E2⟩
              refine ⟨_, rfl, ?_⟩
              replace H := H.grow E2
              replace R0 := H.ext
              refine LW.pure rfl rfl (RV.pickFB rfl (not_f hq4) rfl) ?_
              refine LW.nil (jK87 _ _ ⟨_, ?_, ⟨r2, F, rfl, H⟩⟩)
              exact ⟨rfl, rfl, rfl, rfl, rfl, rfl, trivial⟩
            ·
              replace F := ite_n hp4 F
              have hq4 := dec_f hp4
              refine CW.region ?_
              refine LW.pure rfl rfl (RV.move rfl) ?_
              refine LW.pure rfl rfl (RV.len Ts25 rfl) ?_
              refine LW.pure rfl rfl (RV.loadA [.slice A_a0_worth a0.worth.length c_a0_worth] Tk24 rfl (H.blk 0 rfl).cells rfl rfl) ?_
              refine LW.go rfl rfl (OW.call Tc68 rfl (cut_depth_ok (a0 := a0) (h_a0_worth.ext R0) hr1) ?_)
              rintro _ w5 ⟨rfl, E3⟩
              refine ⟨_, rfl, ?_⟩
              replace H := H.grow E3
              replace R0 := H.ext
              refine LW.pure rfl rfl (RV.nei rfl rfl) ?_
              refine LW.pure rfl rfl (RV.move rfl) ?_
              refine LW.noB rfl rfl rfl rfl (ne_beq (v := true) (not_t hq4) rfl) ?_
              refine LW.noB rfl rfl rfl rfl (ne_beq (v := true) (not_t hq4) rfl) ?_
              refine LW.pure rfl rfl (RV.pickTB rfl (not_t hq4) rfl) ?_
              refine LW.nil (jK87 _ _ ⟨_, ?_, ⟨true, F, rfl, H⟩⟩)
              exact ⟨rfl, rfl, rfl, rfl, rfl, rfl, trivial⟩
        ·
          replace F := ite_n hp2 F
          have hq2 := dec_f hp2
          refine CW.condF rfl hq2 ?_
          replace H := H.pick (L' := []) [] (by decide) rfl
          replace R0 := H.ext
          refine CW.exit (jK68 _ _ ⟨_, ?_, ⟨F, rfl, H⟩⟩)
          exact ⟨rfl, trivial⟩
  ·
    intro K13 hK13 jK88
    obtain ⟨r3, hr3, F⟩ := bnd_some F
    by_cases hp5 : r3 = true
    ·
      replace F := ite_y hp5 F
      have hq5 : r3 = true := hp5
      obtain ⟨r4, hr4, F⟩ := bnd_some F
      obtain ⟨r5, hr5, F⟩ := bnd_some F
      refine CW.region ?_
      refine LW.pure rfl rfl (RV.fieldAddr Tf24_0 rfl) ?_
      refine LW.pure rfl rfl (RV.load1 Tk22 rfl ((H.blk 0 rfl).cells.off 0) rfl) ?_
      refine LW.pure rfl rfl (RV.len Ts22 rfl) ?_
      refine LW.go rfl rfl (OW.call Tc67 rfl (cut_from_ok (a0 := (a0.worth.length : Int)) (a1 := (1 : Int)) (a2 := (6 : Int)) hr3) ?_)
      rintro _ w6 ⟨rfl, E4⟩
      refine ⟨_, rfl, ?_⟩
      replace H := H.grow E4
      replace R0 := H.ext
      refine LW.pure rfl rfl (RV.not rfl) ?_
      refine LW.pure rfl rfl (RV.move rfl) ?_
      refine LW.pureYB rfl rfl rfl rfl (not_f hq5) (RV.loadA [.slice A_a0_worth a0.worth.length c_a0_worth] Tk24 rfl (H.blk 0 rfl).cells rfl rfl) ?_
      refine LW.yesB rfl rfl rfl rfl (not_f hq5) (OW.call Tc68 rfl (cut_depth_ok (a0 := a0) (h_a0_worth.ext R0) hr4) ?_)
      rintro _ w7 ⟨rfl, E5⟩
      refine ⟨_, rfl, ?_⟩
      replace H := H.grow E5
      replace R0 := H.ext
      refine LW.yesB rfl rfl rfl rfl (not_f hq5) (OW.call Tc67 rfl (cut_from_ok (a0 := r4) (a1 := (1 : Int)) (a2 := (4 : Int)) hr5) ?_)
      rintro _ w8 ⟨rfl, E6⟩
      refine ⟨_, rfl, ?_⟩
      replace H := H.grow E6
      replace R0 := H.ext
      refine LW.pureYB rfl rfl rfl rfl (not_f hq5) (RV.not rfl) ?_
      refine LW.pure rfl rfl (RV.pickFB rfl (not_f hq5) rfl) ?_
      refine LW.nil (jK88 _ _ ⟨_, ?_, ⟨(!r5), F, rfl, H⟩⟩)
      exact ⟨rfl, rfl, rfl, trivial⟩
    ·
      replace F := ite_n hp5 F
      have hq5 : r3 = false := raw_f hp5
      refine CW.region ?_
      refine LW.pure rfl rfl (RV.fieldAddr Tf24_0 rfl) ?_
      refine LW.pure rfl rfl (RV.load1 Tk22 rfl ((H.blk 0 rfl).cells.off 0) rfl) ?_
      refine LW.pure rfl rfl (RV.len Ts22 rfl) ?_
      refine LW.go rfl rfl (OW.call Tc67 rfl (cut_from_ok (a0 := (a0.worth.length : Int)) (a1 := (1 : Int)) (a2 := (6 : Int)) hr3) ?_)
      rintro _ w9 ⟨rfl, E7⟩
      refine ⟨_, rfl, ?_⟩
      replace H := H.grow E7
      replace R0 := H.ext
      refine LW.pure rfl rfl (RV.not rfl) ?_
      refine LW.pure rfl rfl (RV.move rfl) ?_
      refine LW.noB rfl rfl rfl rfl (ne_beq (v := true) (not_t hq5) rfl) ?_
      refine LW.noB rfl rfl rfl rfl (ne_beq (v := true) (not_t hq5) rfl) ?_
      refine LW.noB rfl rfl rfl rfl (ne_beq (v := true) (not_t hq5) rfl) ?_
      refine LW.noB rfl rfl rfl rfl (ne_beq (v := true) (not_t hq5) rfl) ?_
      refine LW.pure rfl rfl (RV.pickTB rfl (not_t hq5) rfl) ?_
      refine LW.nil (jK88 _ _ ⟨_, ?_, ⟨true, F, rfl, H⟩⟩)
      exact ⟨rfl, rfl, rfl, trivial⟩

set_option maxRecDepth 20000 in
set_option maxHeartbeats 1000000 in
theorem cut_raise_ok {a0 : List Int} {a1 : Int} {a2 : Int} {a3 : Int} {b_a0 : Nat} {wb : World} {R : List Ck} {w : World} {res : Bool × (List Int)} (hn_a0 : a0.length = 6) (H : Hp wb w ([.own (some ⟨b_a0, 0, none⟩) 6 87 1 (List.map encN a0)] ++ R)) (F : cut_raise a0 a1 a2 a3 = some res) : Calls Try.prog 99 #[.pointer (some ⟨b_a0, 0, none⟩), .int .i64 a1, .int .i64 a2, .int .i64 a3] w (fun e w' => e = .returned (.bool res.1) ∧ res.2.length = a0.length ∧ Hp wb w' ([.own (some ⟨b_a0, 0, none⟩) 6 87 1 (List.map encN res.2)] ++ R)) := by
  refine calls_of_cw (args := [.pointer (some ⟨b_a0, 0, none⟩), .int .i64 a1, .int .i64 a2, .int .i64 a3]) Try.func99 rfl rfl rfl rfl ?_
  have R0 := H.ext
  unfold cut_raise at F
  refine CW.seq fun K1 hK1 => ?_
  refine CW.region ?_
  refine LW.pure rfl rfl (RV.assign rfl) ?_
  refine LW.nil (hK1 _ _ ?_)
  refine CW.seqJ (fun ρ wl1 => (cut_raise_k1 a0 = some res ∧ ρ = [(8, .bool false)] ∧ Hp wb wl1 ([.own (some ⟨b_a0, 0, none⟩) 6 87 1 (List.map encN a0)] ++ R))) ?_ ?_
  ·
    rintro _ wl1 ⟨F, rfl, H⟩
    have R0 := H.ext
    unfold cut_raise_k1 at F
    refine CW.seq fun K2 hK2 => ?_
    refine CW.region ?_
    refine LW.pure rfl rfl (RV.assign rfl) ?_
    refine LW.nil (hK2 _ _ ?_)
    refine CW.ret ?_
    obtain rfl := Option.some.inj F
    refine ⟨_, (ResOK.one rfl), ?_⟩
    exact ⟨(by first | rfl | (simp; done) | (simp; omega)), (by first | rfl | assumption | omega | (simp; done) | (simp; assumption) | (simp; omega)), H⟩
  ·
    intro K3 hK3 jK69
    refine CW.block ?_
    refine CW.loop (fun meas ρ wl2 => ∃ (t1_1 : Int), cut_raise_L1 a0 a2 a3 meas t1_1 = some res ∧ ρ = [(0, .pointer (some ⟨b_a0, 0, none⟩)), (1, .int .i64 t1_1), (2, .int .i64 a2), (3, .int .i64 a3), (8, .bool false)] ∧ Hp wb wl2 ([.own (some ⟨b_a0, 0, none⟩) 6 87 1 (List.map encN a0)] ++ R)) FU ⟨_, ?_, a1, F, rfl, H⟩ ?_
    · exact ⟨rfl, rfl, rfl, rfl, rfl, trivial⟩
    rintro mk1 _ wl2 ⟨t1_1, F, rfl, H⟩
    have R0 := H.ext
    replace F := cut_raise_L1_s F
    obtain ⟨mk1, rfl, F⟩ := F
    generalize hrec1 : cut_raise_L1 a0 a2 a3 mk1 = rec1 at F
    unfold cut_raise_B1 at F
    refine CW.seq fun K4 hK4 => ?_
    refine CW.seq fun K5 hK5 => ?_
    refine CW.region ?_
    refine LW.pure rfl rfl (RV.move rfl) ?_
    refine LW.pure rfl rfl (RV.geq rfl rfl) ?_
    refine LW.nil (hK5 _ _ ?_)
    by_cases hp1 : (0 : Int) ≤ t1_1
    ·
      replace F := ite_y hp1 F
      have hq1 := dec_t hp1
      refine CW.condT rfl hq1 ?_
      refine CW.skip (hK4 _ _ ?_)
      refine CW.seq fun K6 hK6 => ?_
      refine CW.block ?_
      refine CW.seq fun K7 hK7 => ?_
      obtain ⟨x1, hbx1, hx1, F⟩ := ix_some F
      refine CW.region ?_
      refine LW.pure rfl rfl (RV.move rfl) ?_
      refine LW.pure rfl rfl (RV.move rfl) ?_
      refine LW.pure rfl rfl (RV.nilCheck rfl) ?_
      refine LW.pure rfl rfl (RV.indexArr Ta87 rfl rfl ⟨hbx1.1, (by first | exact hbx1.2 | omega | (have q := hbx1.2; simp at q; omega))⟩) ?_
      refine LW.pure rfl rfl (RV.load1 Tk3 rfl ((H.own 0 rfl).sl.at_ hx1) rfl) ?_
      refine LW.pure rfl rfl (RV.move rfl) ?_
      refine LW.pure rfl rfl (RV.lss rfl rfl) ?_
      refine LW.nil (hK7 _ _ ?_)
      by_cases hp2 : x1 < a3
      ·
        replace F := ite_y hp2 F
        have hq2 := dec_t hp2
        refine CW.condT rfl hq2 ?_
        refine CW.seq fun K8 hK8 => ?_
        obtain ⟨x2, hbx2, hx2, F⟩ := ix_some F
        obtain ⟨hg1, F⟩ := gd_some F
        obtain ⟨x3, hbx3, hx3, F⟩ := ix_some F
        refine CW.draw [8] (fun _ => True) (.cons 0 1 (.cons 1 1 (.cons 2 1 (.cons 3 1 (.cons 4 1 (.cons 5 1 (.cons 6 2 (.cons 7 1 (.cons 8 0 .nil))))))))) mixed (by kernel_rfl) fun w1 E1 => ?_
        replace H := H.grow E1
        replace R0 := H.ext
        refine DW.fix rfl rfl rfl (fun _ EQ => RV.move rfl) ?_
        refine DW.fix rfl rfl rfl (fun _ EQ => RV.move rfl) ?_
        refine DW.fix rfl rfl rfl (fun _ EQ => RV.nilCheck rfl) ?_
        refine DW.fix rfl rfl rfl (fun _ EQ => RV.indexArr Ta87 rfl rfl ⟨hbx2.1, (by first | exact hbx2.2 | omega | (have q := hbx2.2; simp at q; omega))⟩) ?_
        refine DW.fix rfl rfl rfl (fun _ EQ => RV.load1 Tk3 rfl (((H.grow EQ).own 0 rfl).sl.at_ hx2) rfl) ?_
        refine DW.fix rfl rfl rfl (fun _ EQ => RV.add rfl rfl hg1) ?_
        refine DW.thru rfl rfl rfl (fun _ EQ => RV.nilCheck rfl) ?_
        refine DW.fix rfl rfl rfl (fun _ EQ => RV.indexArr Ta87 rfl rfl ⟨hbx3.1, (by first | exact hbx3.2 | omega | (have q := hbx3.2; simp at q; omega))⟩) ?_
        refine DW.sole rfl rfl rfl (OW.storeO (enc := encN) (vs := [.int .i64 (x2 + 1)]) 0 (x2 + 1) Tk3 rfl rfl (H.own 0 rfl) (fun _ => rfl) rfl hx3 rfl rfl (by decide) rfl rfl fun w2 M1 O1 => ?_)
        refine ⟨fun h => absurd h (by decide), M1.modx (fun _ _ => trivial), ?_⟩
        replace H : Hp wb w2 ([.own (some ⟨b_a0, 0, none⟩) 6 87 1 (List.map encN ((a0.set (Int.toNat t1_1) (x2 + 1))))] ++ R) := H.mod 0 rfl M1 O1 (.inl rfl)
        replace R0 := H.ext
        refine DW.nil (hK8 _ _ ?_)
        refine CW.seq fun K9 hK9 => ?_
        obtain ⟨hg2, F⟩ := gd_some F
        obtain ⟨hg3, F⟩ := gd_some F
        refine CW.region ?_
        refine LW.pure rfl rfl (RV.move rfl) ?_
        refine LW.pure rfl rfl (RV.nilCheck rfl) ?_
        refine LW.pure rfl rfl (RV.move rfl) ?_
        refine LW.pure rfl rfl (RV.add rfl rfl hg2) ?_
        refine LW.pure rfl rfl (RV.move rfl) ?_
        refine LW.pure rfl rfl (RV.arrLH (l := (a0.set (Int.toNat t1_1) (x2 + 1))) Ta87 rfl rfl rfl (by first | exact hg3 | (have q := hg3; simp at q ⊢; omega) | (simp; omega)) (by first | rfl | omega | (simp; done) | (simp; omega))) ?_
        refine LW.go rfl rfl (OW.clearSub (lo := Int.toNat (t1_1 + 1)) (hi := (Int.toNat a2)) (0 : Int) Ts25 rfl (H.own 0 rfl) (fun _ => rfl) rfl rfl rfl rfl (by first | omega | (simp; omega)) (by first | omega | (simp; omega)) (by first | omega | (simp; omega)) rfl fun vv1 w3 M2 O2 => ?_)
        replace H : Hp wb w3 ([.own (some ⟨b_a0, 0, none⟩) 6 87 1 (List.map encN ((List.take (Int.toNat (t1_1 + 1)) ((a0.set (Int.toNat t1_1) (x2 + 1))) ++ List.replicate ((Int.toNat a2) - Int.toNat (t1_1 + 1)) (0 : Int) ++ List.drop ((Int.toNat a2)) ((a0.set (Int.toNat t1_1) (x2 + 1))))))] ++ R) := H.mod 0 rfl M2 O2 (.inl rfl)
        replace R0 := H.ext
        refine LW.nil (hK9 _ _ ?_)
        refine CW.seq fun K10 hK10 => ?_
        refine CW.region ?_
        refine LW.pure rfl rfl (RV.assign rfl) ?_
        refine LW.nil (hK10 _ _ ?_)
        refine CW.ret ?_
        obtain rfl := Option.some.inj F
        refine ⟨_, (ResOK.one rfl), ?_⟩
        exact ⟨(by first | rfl | (simp; done) | (simp; omega)), (by first | rfl | assumption | omega | (simp; done) | (simp; assumption) | (simp; omega)), H⟩
      ·
        replace F := ite_n hp2 F
        have hq2 := dec_f hp2
        refine CW.condF rfl hq2 ?_
        refine CW.skip (hK6 _ _ ?_)
        obtain ⟨hg4, F⟩ := gd_some F
        refine CW.region ?_
        refine LW.pure rfl rfl (RV.move rfl) ?_
        refine LW.pure rfl rfl (RV.sub rfl rfl hg4) ?_
        refine LW.pure rfl rfl (RV.assign rfl) ?_
        refine LW.nil ?_
        subst hrec1
        refine ⟨mk1, Nat.lt_succ_self _, _, ?_, (t1_1 - 1), F, rfl, H⟩
        exact ⟨rfl, rfl, rfl, rfl, rfl, trivial⟩
    ·
      replace F := ite_n hp1 F
      have hq1 := dec_f hp1
      refine CW.condF rfl hq1 ?_
      refine CW.exit (jK69 _ _ ⟨_, ?_, ⟨F, rfl, H⟩⟩)
      exact ⟨rfl, trivial⟩

set_option maxRecDepth 20000 in
set_option maxHeartbeats 1000000 in
theorem cut_all_ok {a0 : Bog} {A_a0_worth : Option Addr} {c_a0_worth : Nat} {w : World} {res : (List Arr6)} (h_a0_worth : Sl2 w A_a0_worth c_a0_worth 1 encN a0.worth) (F : cut_all a0 = some res) : Calls Try.prog 88 #[.agg #[.slice A_a0_worth a0.worth.length c_a0_worth]] w (fun e w' => ∃ (A1 : Option Addr) (c1 : Nat), e = .returned (.slice A1 res.length c1) ∧ Hp w w' [.own A1 c1 87 6 (List.map encArr6 res)]) := by
  refine calls_of_cw (args := [.agg #[.slice A_a0_worth a0.worth.length c_a0_worth]]) Try.func88 rfl rfl rfl rfl ?_
  have H := Hp.start w
  have R0 := H.ext
  unfold cut_all at F
  refine CW.seq fun K1 hK1 => ?_
  refine CW.region ?_
  refine LW.go rfl rfl (OW.box rfl fun b1 w1 N1 => ?_)
  replace H := H.new N1 N1.blk
  replace R0 := H.ext
  refine LW.pure rfl rfl (RV.assign rfl) ?_
  refine LW.nil (hK1 _ _ ?_)
  refine CW.scope ?_
  refine CW.seq fun K2 hK2 => ?_
  refine CW.region ?_
  refine LW.pure rfl rfl (RV.assign rfl) ?_
  refine LW.nil (hK2 _ _ ?_)
  refine CW.seq fun K3 hK3 => ?_
  refine CW.region ?_
  refine LW.go rfl rfl (OW.alloc Tz87 fun b2 w2 N2 => ?_)
  replace H := H.made' (k := 1) (t := 87) (enc := encN) (l := ([0, 0, 0, 0, 0, 0] : List Int)) N2 N2.blk (fun _ => rfl) rfl (by first | decide | (simp; done) | (simp; omega))
  replace R0 := H.ext
  refine LW.nil (hK3 _ _ ?_)
  refine CW.seq fun K4 hK4 => ?_
  refine CW.region ?_
  refine LW.pure rfl rfl (RV.fieldAddr Tf24_0 rfl) ?_
  refine LW.pure rfl rfl (RV.load1 Tk22 rfl ((H.blk 1 rfl).cells.off 0) rfl) ?_
  refine LW.pure rfl rfl (RV.len Ts22 rfl) ?_
  refine LW.pure rfl rfl (RV.assign rfl) ?_
  refine LW.nil (hK4 _ _ ?_)
  refine CW.seq fun K5 hK5 => ?_
  refine CW.label (hK5 _ _ ?_)
  refine CW.block ?_
  replace H := H.nilOwn 87 6
  replace R0 := H.ext
  refine CW.loop (fun meas ρ wl1 => ∃ (l1 : List Arr6) (l2 : List Int) (Al1 : Option Addr) (cl1 : Nat), cut_all_L2 a0 meas l1 l2 = some res ∧ ρ = [(1, .pointer (some (⟨b1, 0, none⟩))), (2, .slice none 0 0), (3, .slice Al1 l1.length cl1), (4, .pointer (some ⟨b2, 0, none⟩)), (5, .int .i64 ((a0.worth.length : Int)))] ∧ Hp w wl1 [.own Al1 cl1 87 6 (List.map encArr6 l1), .own (some ⟨b2, 0, none⟩) 6 87 1 (List.map encN l2), .blk b1 24 [.slice A_a0_worth a0.worth.length c_a0_worth]] ∧ l2.length = 6) FU ⟨_, ?_, (([] : List Arr6)), (([0, 0, 0, 0, 0, 0] : List Int)), none, 0, F, rfl, H, (show (([0, 0, 0, 0, 0, 0] : List Int)).length = 6 by first | rfl | assumption | omega | (simp; done) | (simp; assumption) | (simp; omega))⟩ ?_
  · exact ⟨rfl, rfl, (look_slice rfl (by first | rfl | (simp; done) | (simp; omega))), rfl, rfl, trivial⟩
  rintro mk1 _ wl1 ⟨l1, l2, Al1, cl1, F, rfl, H, hl1⟩
  have R0 := H.ext
  replace F := cut_all_L2_s F
  obtain ⟨mk1, rfl, F⟩ := F
  generalize hrec1 : cut_all_L2 a0 mk1 = rec1 at F
  unfold cut_all_B2 at F
  refine CW.block ?_
  refine CW.seqJ (fun ρ wl2 => (cut_all_k1 a0 l1 l2 rec1 = some res ∧ ρ = [(1, .pointer (some (⟨b1, 0, none⟩))), (2, .slice none 0 0), (3, .slice Al1 l1.length cl1), (4, .pointer (some ⟨b2, 0, none⟩)), (5, .int .i64 ((a0.worth.length : Int)))] ∧ Hp w wl2 [.own Al1 cl1 87 6 (List.map encArr6 l1), .own (some ⟨b2, 0, none⟩) 6 87 1 (List.map encN l2), .blk b1 24 [.slice A_a0_worth a0.worth.length c_a0_worth]])) ?_ ?_
  ·
    rintro _ wl2 ⟨F, rfl, H⟩
    have R0 := H.ext
    unfold cut_all_k1 at F
    refine CW.seq fun K6 hK6 => ?_
    obtain ⟨hg1, F⟩ := gd_some F
    obtain ⟨x1, hbx1, hx1, F⟩ := ix_some F
    obtain ⟨x2, hbx2, hx2, F⟩ := ix_some F
    obtain ⟨x3, hbx3, hx3, F⟩ := ix_some F
    obtain ⟨x4, hbx4, hx4, F⟩ := ix_some F
    obtain ⟨x5, hbx5, hx5, F⟩ := ix_some F
    obtain ⟨x6, hbx6, hx6, F⟩ := ix_some F
    obtain ⟨hg2, F⟩ := gd_some F
    refine CW.region ?_
    refine LW.pure rfl rfl (RV.move rfl) ?_
    have hL1 := list6 hg1 hx1 hx2 hx3 hx4 hx5 hx6
    refine LW.pure rfl rfl (RV.loadA (vs := [.int .i64 x1, .int .i64 x2, .int .i64 x3, .int .i64 x4, .int .i64 x5, .int .i64 x6]) [.int .i64 x1, .int .i64 x2, .int .i64 x3, .int .i64 x4, .int .i64 x5, .int .i64 x6] Tk87 rfl (fun j v hj => (H.own 1 rfl).flat j v (by rw [hL1]; exact hj)) rfl rfl) ?_
    refine LW.go rfl rfl (OW.buildSlice (e := 87) (vs := [.agg #[.int .i64 x1, .int .i64 x2, .int .i64 x3, .int .i64 x4, .int .i64 x5, .int .i64 x6]]) (cs := [.int .i64 x1, .int .i64 x2, .int .i64 x3, .int .i64 x4, .int .i64 x5, .int .i64 x6]) rfl (fun _ => by kernel_rfl) fun b3 w3 N3 => ?_)
    replace H := H.made' (k := 6) (t := 87) (enc := encArr6) (l := ([(⟨x1, x2, x3, x4, x5, x6⟩ : Arr6)] : List Arr6)) N3 N3.blk (fun _ => rfl) rfl (by first | decide | omega | (simp; done) | (simp; omega))
    replace R0 := H.ext
    refine LW.go rfl rfl (OW.appendG (enc := encArr6) (l := l1) (xs := ([(⟨x1, x2, x3, x4, x5, x6⟩ : Arr6)] : List Arr6)) Ts82 rfl (look_slice rfl (by first | rfl | (simp; done) | (simp; omega))) (H.own 1 rfl) (H.own 0 rfl).sl (fun _ => rfl) rfl rfl hg2 (by decide) fun A2 c2 w4 O1 M1 D1 => ?_)
    replace H : Hp w w4 [.own (some ⟨b3, 0, none⟩) ((([(⟨x1, x2, x3, x4, x5, x6⟩ : Arr6)] : List Arr6)).length) 87 6 (List.map encArr6 (([(⟨x1, x2, x3, x4, x5, x6⟩ : Arr6)] : List Arr6))), .own A2 c2 87 6 (List.map encArr6 ((l1 ++ ([(⟨x1, x2, x3, x4, x5, x6⟩ : Arr6)] : List Arr6)))), .own (some ⟨b2, 0, none⟩) 6 87 1 (List.map encN l2), .blk b1 24 [.slice A_a0_worth a0.worth.length c_a0_worth]] := H.mod 1 rfl M1 O1 D1
    replace R0 := H.ext
    refine LW.pure rfl rfl (RV.assign rfl) ?_
    refine LW.nil (hK6 _ _ ?_)
    refine CW.seq fun K7 hK7 => ?_
    obtain ⟨hg3, F⟩ := gd_some F
    obtain ⟨r1, hr1, F⟩ := bnd_some F
    obtain ⟨r2, hr2, F⟩ := bnd_some F
    refine CW.region ?_
    refine LW.pure rfl rfl (RV.move rfl) ?_
    refine LW.pure rfl rfl (RV.sub rfl rfl hg3) ?_
    refine LW.pure rfl rfl (RV.move rfl) ?_
    refine LW.pure rfl rfl (RV.loadA [.slice A_a0_worth a0.worth.length c_a0_worth] Tk24 rfl (H.blk 3 rfl).cells rfl rfl) ?_
    refine LW.go rfl rfl (OW.call Tc68 rfl (cut_depth_ok (a0 := a0) (h_a0_worth.ext R0) hr1) ?_)
    rintro _ w5 ⟨rfl, E1⟩
    refine ⟨_, rfl, ?_⟩
    replace H := H.grow E1
    replace R0 := H.ext
    replace H := H.pick (L' := [.own (some ⟨b2, 0, none⟩) 6 87 1 (List.map encN l2), .own (some ⟨b3, 0, none⟩) ((([(⟨x1, x2, x3, x4, x5, x6⟩ : Arr6)] : List Arr6)).length) 87 6 (List.map encArr6 (([(⟨x1, x2, x3, x4, x5, x6⟩ : Arr6)] : List Arr6))), .own A2 c2 87 6 (List.map encArr6 ((l1 ++ ([(⟨x1, x2, x3, x4, x5, x6⟩ : Arr6)] : List Arr6)))), .blk b1 24 [.slice A_a0_worth a0.worth.length c_a0_worth]]) [2, 0, 1, 3] (by decide) rfl
    replace R0 := H.ext
    refine LW.go rfl rfl (OW.call Tc99 rfl (cut_raise_ok (a0 := l2) (a1 := ((a0.worth.length : Int)) - 1) (a2 := (a0.worth.length : Int)) (a3 := r1) (R := [.own (some ⟨b3, 0, none⟩) ((([(⟨x1, x2, x3, x4, x5, x6⟩ : Arr6)] : List Arr6)).length) 87 6 (List.map encArr6 (([(⟨x1, x2, x3, x4, x5, x6⟩ : Arr6)] : List Arr6))), .own A2 c2 87 6 (List.map encArr6 ((l1 ++ ([(⟨x1, x2, x3, x4, x5, x6⟩ : Arr6)] : List Arr6)))), .blk b1 24 [.slice A_a0_worth a0.worth.length c_a0_worth]]) (by first | rfl | assumption | omega | (simp; done) | (simp; assumption) | (simp; omega)) H hr2) ?_)
    rintro _ w6 ⟨rfl, hlm113_a0, Hq1⟩
    refine ⟨_, rfl, ?_⟩
    replace H : Hp w w6 [.own (some ⟨b2, 0, none⟩) 6 87 1 (List.map encN r2.2), .own (some ⟨b3, 0, none⟩) ((([(⟨x1, x2, x3, x4, x5, x6⟩ : Arr6)] : List Arr6)).length) 87 6 (List.map encArr6 (([(⟨x1, x2, x3, x4, x5, x6⟩ : Arr6)] : List Arr6))), .own A2 c2 87 6 (List.map encArr6 ((l1 ++ ([(⟨x1, x2, x3, x4, x5, x6⟩ : Arr6)] : List Arr6)))), .blk b1 24 [.slice A_a0_worth a0.worth.length c_a0_worth]] := Hq1
    replace R0 := H.ext
    refine LW.pure rfl rfl (RV.not rfl) ?_
    refine LW.nil (hK7 _ _ ?_)
    by_cases hp1 : r2.1 = true
    ·
      replace F := ite_y hp1 F
      have hq1 : r2.1 = true := hp1
      refine CW.condF rfl (not_f hq1) ?_
      refine CW.skip ?_
      replace H := H.pick (L' := [.own A2 c2 87 6 (List.map encArr6 ((l1 ++ ([(⟨x1, x2, x3, x4, x5, x6⟩ : Arr6)] : List Arr6)))), .own (some ⟨b2, 0, none⟩) 6 87 1 (List.map encN r2.2), .blk b1 24 [.slice A_a0_worth a0.worth.length c_a0_worth]]) [2, 0, 3] (by decide) rfl
      replace R0 := H.ext
      subst hrec1
      refine ⟨mk1, Nat.lt_succ_self _, _, ?_, ((l1 ++ ([(⟨x1, x2, x3, x4, x5, x6⟩ : Arr6)] : List Arr6))), r2.2, A2, c2, F, rfl, H, (show r2.2.length = 6 by first | rfl | assumption | omega | (simp; done) | (simp; assumption) | (simp; omega))⟩
      exact ⟨rfl, rfl, (look_slice rfl (by first | rfl | (simp; done) | (simp; omega))), rfl, rfl, trivial⟩
    ·
      replace F := ite_n hp1 F
      have hq1 : r2.1 = false := raw_f hp1
      refine CW.condT rfl (not_t hq1) ?_
      refine CW.seq fun K8 hK8 => ?_
      refine CW.region ?_
      refine LW.pure rfl rfl (RV.move rfl) ?_
      refine LW.pure rfl rfl (RV.assign rfl) ?_
      refine LW.nil (hK8 _ _ ?_)
      refine CW.ret ?_
      obtain rfl := Option.some.inj F
      refine ⟨_, (ResOK.one rfl), ?_⟩
      replace H := H.pick (L' := [.own A2 c2 87 6 (List.map encArr6 ((l1 ++ ([(⟨x1, x2, x3, x4, x5, x6⟩ : Arr6)] : List Arr6))))]) [2] (by decide) rfl
      replace R0 := H.ext
      exact ⟨A2, c2, (by first | rfl | (simp; done) | (simp; omega)), H⟩
  ·
    intro K9 hK9 jK441
    refine CW.seq fun K10 hK10 => ?_
    refine CW.region ?_
    refine LW.pure rfl rfl (RV.assign rfl) ?_
    refine LW.nil (hK10 _ _ ?_)
    refine CW.block ?_
    refine CW.loop (fun meas ρ wl3 => ∃ (t6_1 : Int), cut_all_L1 a0 l1 l2 rec1 meas t6_1 = some res ∧ ρ = [(1, .pointer (some (⟨b1, 0, none⟩))), (2, .slice none 0 0), (3, .slice Al1 l1.length cl1), (4, .pointer (some ⟨b2, 0, none⟩)), (5, .int .i64 ((a0.worth.length : Int))), (6, .int .i64 t6_1)] ∧ Hp w wl3 [.own Al1 cl1 87 6 (List.map encArr6 l1), .own (some ⟨b2, 0, none⟩) 6 87 1 (List.map encN l2), .blk b1 24 [.slice A_a0_worth a0.worth.length c_a0_worth]]) FU ⟨_, ?_, ((1 : Int)), F, rfl, H⟩ ?_
    · exact ⟨rfl, rfl, (look_slice rfl (by first | rfl | (simp; done) | (simp; omega))), rfl, rfl, rfl, trivial⟩
    rintro mk2 _ wl3 ⟨t6_1, F, rfl, H⟩
    have R0 := H.ext
    replace F := cut_all_L1_s F
    obtain ⟨mk2, rfl, F⟩ := F
    generalize hrec2 : cut_all_L1 a0 l1 l2 rec1 mk2 = rec2 at F
    unfold cut_all_B1 at F
    refine CW.seq fun K11 hK11 => ?_
    refine CW.seq fun K12 hK12 => ?_
    refine CW.region ?_
    refine LW.pure rfl rfl (RV.move rfl) ?_
    refine LW.pure rfl rfl (RV.move rfl) ?_
    refine LW.pure rfl rfl (RV.lss rfl rfl) ?_
    refine LW.nil (hK12 _ _ ?_)
    by_cases hp2 : t6_1 < ((a0.worth.length : Int))
    ·
      replace F := ite_y hp2 F
      have hq2 := dec_t hp2
      refine CW.condT rfl hq2 ?_
      refine CW.skip (hK11 _ _ ?_)
      refine CW.seq fun K13 hK13 => ?_
      refine CW.block ?_
      refine CW.seq fun K14 hK14 => ?_
      refine CW.seq fun K15 hK15 => ?_
      obtain ⟨x7, hbx7, hx7, F⟩ := ix_some F
      obtain ⟨hg4, F⟩ := gd_some F
      obtain ⟨x8, hbx8, hx8, F⟩ := ix_some F
      obtain ⟨hg5, F⟩ := gd_some F
      obtain ⟨r3, hr3, F⟩ := bnd_some F
      refine CW.draw [] (fun _ => True) (.cons 0 1 (.cons 1 1 (.cons 2 1 (.cons 3 1 (.cons 4 1 (.cons 5 1 (.cons 6 1 (.cons 7 1 (.cons 8 0 .nil))))))))) mixed (by kernel_rfl) fun w7 E2 => ?_
      replace H := H.grow E2
      replace R0 := H.ext
      refine DW.fix rfl rfl rfl (fun _ EQ => RV.move rfl) ?_
      refine DW.fix rfl rfl rfl (fun _ EQ => RV.indexArr Ta87 rfl rfl ⟨hbx7.1, (by first | exact hbx7.2 | omega | (have q := hbx7.2; simp at q; omega))⟩) ?_
      refine DW.fix rfl rfl rfl (fun _ EQ => RV.load1 Tk3 rfl (((H.grow EQ).own 1 rfl).sl.at_ hx7) rfl) ?_
      refine DW.fix rfl rfl rfl (fun _ EQ => RV.move rfl) ?_
      refine DW.fix rfl rfl rfl (fun _ EQ => RV.sub rfl rfl hg4) ?_
      refine DW.fix rfl rfl rfl (fun _ EQ => RV.indexArr Ta87 rfl rfl ⟨hbx8.1, (by first | exact hbx8.2 | omega | (have q := hbx8.2; simp at q; omega))⟩) ?_
      refine DW.fix rfl rfl rfl (fun _ EQ => RV.load1 Tk3 rfl (((H.grow EQ).own 1 rfl).sl.at_ hx8) rfl) ?_
      refine DW.fix rfl rfl rfl (fun _ EQ => RV.sub rfl rfl hg5) ?_
      refine DW.sole rfl rfl rfl (OW.call Tc67 rfl (cut_from_ok (a0 := x7 - x8) (a1 := (-1 : Int)) (a2 := (1 : Int)) hr3) ?_)
      rintro _ w8 ⟨rfl, E3⟩
      refine ⟨_, rfl, fun _ => E3, ModX.ext E3, ?_⟩
      replace H := H.grow E3
      replace R0 := H.ext
      refine DW.nil (hK15 _ _ ?_)
      by_cases hp3 : r3 = true
      ·
        replace F := ite_y hp3 F
        have hq3 : r3 = true := hp3
        refine CW.condT rfl hq3 ?_
        refine CW.exit (hK13 _ _ ?_)
        obtain ⟨hg6, F⟩ := gd_some F
        refine CW.region ?_
        refine LW.pure rfl rfl (RV.move rfl) ?_
        refine LW.pure rfl rfl (RV.add rfl rfl hg6) ?_
        refine LW.pure rfl rfl (RV.assign rfl) ?_
        refine LW.nil ?_
        subst hrec2
        refine ⟨mk2, Nat.lt_succ_self _, _, ?_, (t6_1 + 1), F, rfl, H⟩
        exact ⟨rfl, rfl, (look_slice rfl (by first | rfl | (simp; done) | (simp; omega))), rfl, rfl, rfl, trivial⟩
      ·
        replace F := ite_n hp3 F
        have hq3 : r3 = false := raw_f hp3
        refine CW.condF rfl hq3 ?_
        refine CW.skip (hK14 _ _ ?_)
        refine CW.seq fun K16 hK16 => ?_
        refine CW.seq fun K17 hK17 => ?_
        obtain ⟨x9, hbx9, hx9, F⟩ := ix_some F
        obtain ⟨hg7, F⟩ := gd_some F
        obtain ⟨x10, hbx10, hx10, F⟩ := ix_some F
        refine CW.draw [] (fun _ => True) (.cons 0 1 (.cons 1 1 (.cons 2 1 (.cons 3 1 (.cons 4 1 (.cons 5 1 (.cons 6 1 (.cons 7 1 .nil)))))))) mixed (by kernel_rfl) fun w9 E4 => ?_
        replace H := H.grow E4
        replace R0 := H.ext
        refine DW.fix rfl rfl rfl (fun _ EQ => RV.move rfl) ?_
        refine DW.fix rfl rfl rfl (fun _ EQ => RV.indexArr Ta87 rfl rfl ⟨hbx9.1, (by first | exact hbx9.2 | omega | (have q := hbx9.2; simp at q; omega))⟩) ?_
        refine DW.fix rfl rfl rfl (fun _ EQ => RV.load1 Tk3 rfl (((H.grow EQ).own 1 rfl).sl.at_ hx9) rfl) ?_
        refine DW.fix rfl rfl rfl (fun _ EQ => RV.move rfl) ?_
        refine DW.fix rfl rfl rfl (fun _ EQ => RV.sub rfl rfl hg7) ?_
        refine DW.fix rfl rfl rfl (fun _ EQ => RV.indexArr Ta87 rfl rfl ⟨hbx10.1, (by first | exact hbx10.2 | omega | (have q := hbx10.2; simp at q; omega))⟩) ?_
        refine DW.fix rfl rfl rfl (fun _ EQ => RV.load1 Tk3 rfl (((H.grow EQ).own 1 rfl).sl.at_ hx10) rfl) ?_
        refine DW.fix rfl rfl rfl (fun _ EQ => RV.lss rfl rfl) ?_
        refine DW.nil (hK17 _ _ ?_)
        by_cases hp4 : x9 < x10
        ·
          replace F := ite_y hp4 F
          have hq4 := dec_t hp4
          refine CW.condT rfl hq4 ?_
          refine CW.seq fun K18 hK18 => ?_
          obtain ⟨hg8, F⟩ := gd_some F
          obtain ⟨x11, hbx11, hx11, F⟩ := ix_some F
          obtain ⟨hg9, F⟩ := gd_some F
          obtain ⟨x12, hbx12, hx12, F⟩ := ix_some F
          refine CW.region ?_
          refine LW.pure rfl rfl (RV.move rfl) ?_
          refine LW.pure rfl rfl (RV.move rfl) ?_
          refine LW.pure rfl rfl (RV.sub rfl rfl hg8) ?_
          refine LW.pure rfl rfl (RV.indexArr Ta87 rfl rfl ⟨hbx11.1, (by first | exact hbx11.2 | omega | (have q := hbx11.2; simp at q; omega))⟩) ?_
          refine LW.pure rfl rfl (RV.load1 Tk3 rfl ((H.own 1 rfl).sl.at_ hx11) rfl) ?_
          refine LW.pure rfl rfl (RV.sub rfl rfl hg9) ?_
          refine LW.pure rfl rfl (RV.indexArr Ta87 rfl rfl ⟨hbx12.1, (by first | exact hbx12.2 | omega | (have q := hbx12.2; simp at q; omega))⟩) ?_
          refine LW.go rfl rfl (OW.storeO (enc := encN) (vs := [.int .i64 (x11 - 1)]) 0 (x11 - 1) Tk3 rfl rfl (H.own 1 rfl) (fun _ => rfl) rfl hx12 rfl rfl (by decide) rfl rfl fun w10 M2 O2 => ?_)
          replace H : Hp w w10 [.own Al1 cl1 87 6 (List.map encArr6 l1), .own (some ⟨b2, 0, none⟩) 6 87 1 (List.map encN ((l2.set (Int.toNat t6_1) (x11 - 1)))), .blk b1 24 [.slice A_a0_worth a0.worth.length c_a0_worth]] := H.mod 1 rfl M2 O2 (.inl rfl)
          replace R0 := H.ext
          refine LW.nil (hK18 _ _ ?_)
          refine CW.seq fun K19 hK19 => ?_
          obtain ⟨hg10, F⟩ := gd_some F
          obtain ⟨hg11, F⟩ := gd_some F
          refine CW.region ?_
          refine LW.pure rfl rfl (RV.move rfl) ?_
          refine LW.pure rfl rfl (RV.add rfl rfl hg10) ?_
          refine LW.pure rfl rfl (RV.move rfl) ?_
          refine LW.pure rfl rfl (RV.arrLH (l := (l2.set (Int.toNat t6_1) (x11 - 1))) Ta87 rfl rfl rfl (by first | exact hg11 | (have q := hg11; simp at q ⊢; omega) | (simp; omega)) (by first | rfl | omega | (simp; done) | (simp; omega))) ?_
          refine LW.go rfl rfl (OW.clearSub (lo := Int.toNat (t6_1 + 1)) (hi := (Int.toNat ((a0.worth.length : Int)))) (0 : Int) Ts25 rfl (H.own 1 rfl) (fun _ => rfl) rfl rfl rfl rfl (by first | omega | (simp; omega)) (by first | omega | (simp; omega)) (by first | omega | (simp; omega)) rfl fun vv1 w11 M3 O3 => ?_)
          replace H : Hp w w11 [.own Al1 cl1 87 6 (List.map encArr6 l1), .own (some ⟨b2, 0, none⟩) 6 87 1 (List.map encN ((List.take (Int.toNat (t6_1 + 1)) ((l2.set (Int.toNat t6_1) (x11 - 1))) ++ List.replicate ((Int.toNat ((a0.worth.length : Int))) - Int.toNat (t6_1 + 1)) (0 : Int) ++ List.drop ((Int.toNat ((a0.worth.length : Int)))) ((l2.set (Int.toNat t6_1) (x11 - 1)))))), .blk b1 24 [.slice A_a0_worth a0.worth.length c_a0_worth]] := H.mod 1 rfl M3 O3 (.inl rfl)
          replace R0 := H.ext
          refine LW.nil (hK19 _ _ ?_)
          refine CW.exit ?_
          subst hrec1
          refine ⟨mk1, Nat.lt_succ_self _, _, ?_, l1, ((List.take (Int.toNat (t6_1 + 1)) ((l2.set (Int.toNat t6_1) (x11 - 1))) ++ List.replicate ((Int.toNat ((a0.worth.length : Int))) - Int.toNat (t6_1 + 1)) (0 : Int) ++ List.drop ((Int.toNat ((a0.worth.length : Int)))) ((l2.set (Int.toNat t6_1) (x11 - 1))))), Al1, cl1, F, rfl, H, (show ((List.take (Int.toNat (t6_1 + 1)) ((l2.set (Int.toNat t6_1) (x11 - 1))) ++ List.replicate ((Int.toNat ((a0.worth.length : Int))) - Int.toNat (t6_1 + 1)) (0 : Int) ++ List.drop ((Int.toNat ((a0.worth.length : Int)))) ((l2.set (Int.toNat t6_1) (x11 - 1))))).length = 6 by first | rfl | assumption | omega | (simp; done) | (simp; assumption) | (simp; omega))⟩
          exact ⟨rfl, rfl, (look_slice rfl (by first | rfl | (simp; done) | (simp; omega))), rfl, rfl, trivial⟩
        ·
          replace F := ite_n hp4 F
          have hq4 := dec_f hp4
          refine CW.condF rfl hq4 ?_
          refine CW.skip (hK16 _ _ ?_)
          refine CW.seq fun K20 hK20 => ?_
          refine CW.seq fun K21 hK21 => ?_
          obtain ⟨hg12, F⟩ := gd_some F
          obtain ⟨r4, hr4, F⟩ := bnd_some F
          obtain ⟨r5, hr5, F⟩ := bnd_some F
          refine CW.region ?_
          refine LW.pure rfl rfl (RV.move rfl) ?_
          refine LW.pure rfl rfl (RV.sub rfl rfl hg12) ?_
          refine LW.pure rfl rfl (RV.move rfl) ?_
          refine LW.pure rfl rfl (RV.loadA [.slice A_a0_worth a0.worth.length c_a0_worth] Tk24 rfl (H.blk 2 rfl).cells rfl rfl) ?_
          refine LW.go rfl rfl (OW.call Tc68 rfl (cut_depth_ok (a0 := a0) (h_a0_worth.ext R0) hr4) ?_)
          rintro _ w12 ⟨rfl, E5⟩
          refine ⟨_, rfl, ?_⟩
          replace H := H.grow E5
          replace R0 := H.ext
          replace H := H.pick (L' := [.own (some ⟨b2, 0, none⟩) 6 87 1 (List.map encN l2), .own Al1 cl1 87 6 (List.map encArr6 l1), .blk b1 24 [.slice A_a0_worth a0.worth.length c_a0_worth]]) [1, 0, 2] (by decide) rfl
          replace R0 := H.ext
          refine LW.go rfl rfl (OW.call Tc99 rfl (cut_raise_ok (a0 := l2) (a1 := t6_1 - 1) (a2 := (a0.worth.length : Int)) (a3 := r4) (R := [.own Al1 cl1 87 6 (List.map encArr6 l1), .blk b1 24 [.slice A_a0_worth a0.worth.length c_a0_worth]]) (by first | rfl | assumption | omega | (simp; done) | (simp; assumption) | (simp; omega)) H hr5) ?_)
          rintro _ w13 ⟨rfl, hlm125_a0, Hq2⟩
          refine ⟨_, rfl, ?_⟩
          replace H : Hp w w13 [.own (some ⟨b2, 0, none⟩) 6 87 1 (List.map encN r5.2), .own Al1 cl1 87 6 (List.map encArr6 l1), .blk b1 24 [.slice A_a0_worth a0.worth.length c_a0_worth]] := Hq2
          replace R0 := H.ext
          refine LW.pure rfl rfl (RV.not rfl) ?_
          refine LW.nil (hK21 _ _ ?_)
          by_cases hp5 : r5.1 = true
          ·
            replace F := ite_y hp5 F
            have hq5 : r5.1 = true := hp5
            refine CW.condF rfl (not_f hq5) ?_
            refine CW.skip (hK20 _ _ ?_)
            refine CW.exit ?_
            replace H := H.pick (L' := [.own Al1 cl1 87 6 (List.map encArr6 l1), .own (some ⟨b2, 0, none⟩) 6 87 1 (List.map encN r5.2), .blk b1 24 [.slice A_a0_worth a0.worth.length c_a0_worth]]) [1, 0, 2] (by decide) rfl
            replace R0 := H.ext
            subst hrec1
            refine ⟨mk1, Nat.lt_succ_self _, _, ?_, l1, r5.2, Al1, cl1, F, rfl, H, (show r5.2.length = 6 by first | rfl | assumption | omega | (simp; done) | (simp; assumption) | (simp; omega))⟩
            exact ⟨rfl, rfl, (look_slice rfl (by first | rfl | (simp; done) | (simp; omega))), rfl, rfl, trivial⟩
          ·
            replace F := ite_n hp5 F
            have hq5 : r5.1 = false := raw_f hp5
            refine CW.condT rfl (not_t hq5) ?_
            refine CW.seq fun K22 hK22 => ?_
            refine CW.region ?_
            refine LW.pure rfl rfl (RV.move rfl) ?_
            refine LW.pure rfl rfl (RV.assign rfl) ?_
            refine LW.nil (hK22 _ _ ?_)
            refine CW.ret ?_
            obtain rfl := Option.some.inj F
            refine ⟨_, (ResOK.one rfl), ?_⟩
            replace H := H.pick (L' := [.own Al1 cl1 87 6 (List.map encArr6 l1)]) [1] (by decide) rfl
            replace R0 := H.ext
            exact ⟨Al1, cl1, (by first | rfl | (simp; done) | (simp; omega)), H⟩
    ·
      replace F := ite_n hp2 F
      have hq2 := dec_f hp2
      refine CW.condF rfl hq2 ?_
      refine CW.exit (jK441 _ _ ⟨_, ?_, ⟨F, rfl, H⟩⟩)
      exact ⟨rfl, rfl, (look_slice rfl (by first | rfl | (simp; done) | (simp; omega))), rfl, rfl, trivial⟩

end Go.D4

set_option linter.unusedVariables false
namespace Go.D4
open Go.Tb




def slices_Clone_int (a0 : List Int) : Option (List Int) :=
  gd ((([] : List Int)).length + a0.length ≤ 1000000) <|
  some ((([] : List Int) ++ a0))
def cut_hollow_list (a0 : Arr6) (a1 : Bog) : Option ((List Int)) :=
  gd (0 ≤ ((a1.worth.length : Int)) ∧ ((a1.worth.length : Int)) ≤ 6) <|
  bnd (slices_Clone_int ((List.take (Int.toNat ((a1.worth.length : Int))) (([a0.at0, a0.at1, a0.at2, a0.at3, a0.at4, a0.at5] : List Int))))) fun r1 =>
  some r1
def cut_worth_k1 (t5_1 : Int) : Option Int :=
  some t5_1
def cut_worth_k2 (t12_1 : Int) (rec1 : Int → Int → Option Int) (t5_2 : Int) : Option Int :=
  gd (InR (t12_1 + 1)) <|
  rec1 t5_2 ((t12_1 + 1))
def cut_worth_B1 (t12_1 : Int) (rec1 : Int → Int → Option Int) (x1 : Int) (x2 : List Int) (rec2 : Int → Int → Option Int) (t5_3 : Int) (t25_1 : Int) : Option Int :=
  if t25_1 < (((List.take (Int.toNat x1) x2).length : Int)) then
    ix ((List.take (Int.toNat x1) x2)) t25_1 fun x3 =>
    gd (InR (t5_3 + x3)) <|
    gd (InR (t25_1 + 1)) <|
    rec2 ((t5_3 + x3)) ((t25_1 + 1))
  else
    cut_worth_k2 t12_1 rec1 t5_3
def cut_worth_L1 (t12_1 : Int) (rec1 : Int → Int → Option Int) (x1 : Int) (x2 : List Int) : Nat → Int → Int → Option Int
  | 0, _, _ => none
  | n_ + 1, t5_3, t25_1 => cut_worth_B1 t12_1 rec1 x1 x2 (cut_worth_L1 t12_1 rec1 x1 x2 n_) t5_3 t25_1
theorem cut_worth_L1_s {t12_1 : Int} {rec1 : Int → Int → Option Int} {x1 : Int} {x2 : List Int} {m_ : Nat} {t5_3 : Int} {t25_1 : Int} {res : Int} (h : cut_worth_L1 t12_1 rec1 x1 x2 m_ t5_3 t25_1 = some res) : ∃ k, m_ = k + 1 ∧ cut_worth_B1 t12_1 rec1 x1 x2 (cut_worth_L1 t12_1 rec1 x1 x2 k) t5_3 t25_1 = some res := by
  cases m_ with
  | zero => cases h
  | succ k => exact ⟨k, rfl, h⟩
def cut_worth_B2 (a0 : Bog) (a1 : List Int) (rec1 : Int → Int → Option Int) (t5_4 : Int) (t12_1 : Int) : Option Int :=
  if t12_1 < ((a1.length : Int)) then
    ix a1 t12_1 fun x1 =>
    ix a0.worth t12_1 fun x2 =>
    gd (0 ≤ x1 ∧ x1 ≤ (x2.length : Int)) <|
    cut_worth_L1 t12_1 rec1 x1 x2 FU t5_4 (((0 : Int)))
  else
    cut_worth_k1 t5_4
def cut_worth_L2 (a0 : Bog) (a1 : List Int) : Nat → Int → Int → Option Int
  | 0, _, _ => none
  | n_ + 1, t5_4, t12_1 => cut_worth_B2 a0 a1 (cut_worth_L2 a0 a1 n_) t5_4 t12_1
theorem cut_worth_L2_s {a0 : Bog} {a1 : List Int} {m_ : Nat} {t5_4 : Int} {t12_1 : Int} {res : Int} (h : cut_worth_L2 a0 a1 m_ t5_4 t12_1 = some res) : ∃ k, m_ = k + 1 ∧ cut_worth_B2 a0 a1 (cut_worth_L2 a0 a1 k) t5_4 t12_1 = some res := by
  cases m_ with
  | zero => cases h
  | succ k => exact ⟨k, rfl, h⟩
def cut_worth (a0 : Bog) (a1 : List Int) : Option Int :=
  cut_worth_L2 a0 a1 FU (((0 : Int))) (((0 : Int)))
def cut_joined_k1 (l1 : List Int) : Option ((List Int)) :=
  some l1
def cut_joined_B1 (a0 : List Int) (a1 : List Int) (a2 : Int → Int → Option Int) (rec1 : Int → (List Int) → Option ((List Int))) (t11_1 : Int) (l2 : List Int) : Option ((List Int)) :=
  if t11_1 < ((a0.length : Int)) then
    ix a0 t11_1 fun x1 =>
    ix a1 t11_1 fun x2 =>
    bnd (a2 x1 x2) fun r1 =>
    gd (l2.length + (([r1] : List Int)).length ≤ 1000000) <|
    gd (InR (t11_1 + 1)) <|
    rec1 ((t11_1 + 1)) (((l2 ++ ([r1] : List Int))))
  else
    cut_joined_k1 l2
def cut_joined_L1 (a0 : List Int) (a1 : List Int) (a2 : Int → Int → Option Int) : Nat → Int → (List Int) → Option ((List Int))
  | 0, _, _ => none
  | n_ + 1, t11_1, l2 => cut_joined_B1 a0 a1 a2 (cut_joined_L1 a0 a1 a2 n_) t11_1 l2
theorem cut_joined_L1_s {a0 : List Int} {a1 : List Int} {a2 : Int → Int → Option Int} {m_ : Nat} {t11_1 : Int} {l2 : List Int} {res : (List Int)} (h : cut_joined_L1 a0 a1 a2 m_ t11_1 l2 = some res) : ∃ k, m_ = k + 1 ∧ cut_joined_B1 a0 a1 a2 (cut_joined_L1 a0 a1 a2 k) t11_1 l2 = some res := by
  cases m_ with
  | zero => cases h
  | succ k => exact ⟨k, rfl, h⟩
def cut_joined (a0 : List Int) (a1 : List Int) (a2 : Int → Int → Option Int) : Option ((List Int)) :=
  cut_joined_L1 a0 a1 a2 FU (((0 : Int))) ((([] : List Int)))
def cut_best_k1 (t7_1 : Int) (l1 : List Int) : Option ((List Int) × Int) :=
  some (l1, t7_1)
def cut_best_k2 (t15_1 : Int) (rec1 : Int → Int → (List Int) → Option ((List Int) × Int)) (t7_2 : Int) (l2 : List Int) : Option ((List Int) × Int) :=
  gd (InR (t15_1 + 1)) <|
  rec1 t7_2 ((t15_1 + 1)) l2
def cut_best_k3 (a1 : Int → Int → Option Int) (t7_3 : Int) (t15_1 : Int) (l3 : List Int) (rec1 : Int → Int → (List Int) → Option ((List Int) × Int)) (r1 : (List Int)) (r2 : Int) (t26_1 : Bool) : Option ((List Int) × Int) :=
  if t26_1 = true then
    cut_best_k2 t15_1 rec1 r2 r1
  else
    if r2 = t7_3 then
      bnd (cut_joined l3 r1 a1) fun r3 =>
      cut_best_k2 t15_1 rec1 t7_3 r3
    else
      cut_best_k2 t15_1 rec1 t7_3 l3
def cut_best_B1 (a0 : Bog) (a1 : Int → Int → Option Int) (r4 : (List Arr6)) (rec1 : Int → Int → (List Int) → Option ((List Int) × Int)) (t7_3 : Int) (t15_1 : Int) (l3 : List Int) : Option ((List Int) × Int) :=
  if t15_1 < ((r4.length : Int)) then
    ix r4 t15_1 fun x1 =>
    gd ((([x1.at0, x1.at1, x1.at2, x1.at3, x1.at4, x1.at5] : List Int)).length = 6) <|
    ix (([x1.at0, x1.at1, x1.at2, x1.at3, x1.at4, x1.at5] : List Int)) 0 fun x2 =>
    ix (([x1.at0, x1.at1, x1.at2, x1.at3, x1.at4, x1.at5] : List Int)) 1 fun x3 =>
    ix (([x1.at0, x1.at1, x1.at2, x1.at3, x1.at4, x1.at5] : List Int)) 2 fun x4 =>
    ix (([x1.at0, x1.at1, x1.at2, x1.at3, x1.at4, x1.at5] : List Int)) 3 fun x5 =>
    ix (([x1.at0, x1.at1, x1.at2, x1.at3, x1.at4, x1.at5] : List Int)) 4 fun x6 =>
    ix (([x1.at0, x1.at1, x1.at2, x1.at3, x1.at4, x1.at5] : List Int)) 5 fun x7 =>
    bnd (cut_hollow_list ((⟨x2, x3, x4, x5, x6, x7⟩ : Arr6)) a0) fun r1 =>
    bnd (cut_worth a0 r1) fun r2 =>
    if t15_1 = 0 then
      cut_best_k3 a1 t7_3 t15_1 l3 rec1 r1 r2 true
    else
      cut_best_k3 a1 t7_3 t15_1 l3 rec1 r1 r2 ((decide (t7_3 < r2)))
  else
    cut_best_k1 t7_3 l3
def cut_best_L1 (a0 : Bog) (a1 : Int → Int → Option Int) (r4 : (List Arr6)) : Nat → Int → Int → (List Int) → Option ((List Int) × Int)
  | 0, _, _, _ => none
  | n_ + 1, t7_3, t15_1, l3 => cut_best_B1 a0 a1 r4 (cut_best_L1 a0 a1 r4 n_) t7_3 t15_1 l3
theorem cut_best_L1_s {a0 : Bog} {a1 : Int → Int → Option Int} {r4 : (List Arr6)} {m_ : Nat} {t7_3 : Int} {t15_1 : Int} {l3 : List Int} {res : (List Int) × Int} (h : cut_best_L1 a0 a1 r4 m_ t7_3 t15_1 l3 = some res) : ∃ k, m_ = k + 1 ∧ cut_best_B1 a0 a1 r4 (cut_best_L1 a0 a1 r4 k) t7_3 t15_1 l3 = some res := by
  cases m_ with
  | zero => cases h
  | succ k => exact ⟨k, rfl, h⟩
def cut_best (a0 : Bog) (a1 : Int → Int → Option Int) : Option ((List Int) × Int) :=
  bnd (cut_all a0) fun r4 =>
  cut_best_L1 a0 a1 r4 FU (((0 : Int))) (((0 : Int))) ((([] : List Int)))
def cut_smaller (a0 : Int) (a1 : Int) : Option Int :=
  some (min a0 a1)
def cut_Best (a0 : Bog) : Option ((List Int) × Int × Int) :=
  bnd (cut_Validate a0) fun r1 =>
  if r1 = 0 then
    bnd (cut_best a0 cut_smaller) fun r2 =>
    some (r2.1, r2.2, (0 : Int))
  else
    some (([] : List Int), (0 : Int), r1)
def cut_Count (a0 : Bog) : Option (Int × Int) :=
  bnd (cut_Validate a0) fun r1 =>
  if r1 = 0 then
    bnd (cut_all a0) fun r2 =>
    some ((r2.length : Int), (0 : Int))
  else
    some ((0 : Int), r1)
end Go.D4

set_option linter.unusedVariables false
set_option linter.unusedSimpArgs false
namespace Go.D4
open Go.Tb Go.Proofs Go.RowKit

theorem Tc25 : callable Try.prog 25 = true := by kernel_rfl
theorem Tc65 : callable Try.prog 65 = true := by kernel_rfl
theorem Tc73 : callable Try.prog 73 = true := by kernel_rfl
theorem Tc74 : callable Try.prog 74 = true := by kernel_rfl
theorem Tc84 : callable Try.prog 84 = true := by kernel_rfl
theorem Tc87 : callable Try.prog 87 = true := by kernel_rfl
theorem Tc88 : callable Try.prog 88 = true := by kernel_rfl
theorem Tc91 : callable Try.prog 91 = true := by kernel_rfl

set_option maxRecDepth 20000 in
set_option maxHeartbeats 1000000 in
theorem slices_Clone_int_ok {a0 : List Int} {A_a0 : Option Addr} {c_a0 : Nat} {w : World} {res : List Int} (h_a0 : Sl w A_a0 c_a0 1 (a0.map encN)) (F : slices_Clone_int a0 = some res) : Calls Try.prog 87 #[.slice A_a0 a0.length c_a0] w (fun e w' => ∃ (A0 : Option Addr) (c0 : Nat), e = .returned (.slice A0 res.length c0) ∧ Hp w w' [.own A0 c0 3 1 (List.map encN res)]) := by
  cases A_a0 with
  | none =>
    obtain rfl := Sl.none_nil h_a0
    refine calls_of_cw (args := [.slice none (([] : List Int).length) c_a0]) Try.func87 rfl rfl rfl rfl ?_
    have H := Hp.start w
    have R0 := H.ext
    unfold slices_Clone_int at F
    obtain ⟨_, F⟩ := gd_some F
    refine CW.seq fun K1 hK1 => ?_
    refine CW.region ?_
    refine LW.pure rfl rfl (RV.assign rfl) ?_
    refine LW.nil (hK1 _ _ ?_)
    refine CW.seq fun K2 hK2 => ?_
    refine CW.seq fun K3 hK3 => ?_
    refine CW.region ?_
    refine LW.pure rfl rfl (RV.move rfl) ?_
    refine LW.pure rfl rfl (RV.eqnil Ts25 rfl rfl) ?_
    refine LW.nil (hK3 _ _ ?_)
    refine CW.condT rfl rfl ?_
    refine CW.seq fun K4 hK4 => ?_
    refine CW.region ?_
    refine LW.pure rfl rfl (RV.assign rfl) ?_
    refine LW.nil (hK4 _ _ ?_)
    refine CW.ret ?_
    obtain rfl := Option.some.inj F
    refine ⟨_, (ResOK.one rfl), ?_⟩
    replace H := H.nilOwn 3 1
    replace R0 := H.ext
    exact ⟨none, 0, (by first | rfl | (simp; done) | (simp; omega)), H⟩
  | some ad =>
    refine calls_of_cw (args := [.slice ((some ad)) a0.length c_a0]) Try.func87 rfl rfl rfl rfl ?_
    have H := Hp.start w
    have R0 := H.ext
    unfold slices_Clone_int at F
    refine CW.seq fun K1 hK1 => ?_
    refine CW.region ?_
    refine LW.pure rfl rfl (RV.assign rfl) ?_
    refine LW.nil (hK1 _ _ ?_)
    refine CW.seq fun K2 hK2 => ?_
    refine CW.seq fun K3 hK3 => ?_
    refine CW.region ?_
    refine LW.pure rfl rfl (RV.move rfl) ?_
    refine LW.pure rfl rfl (RV.eqnil Ts25 rfl rfl) ?_
    refine LW.nil (hK3 _ _ ?_)
    refine CW.condF rfl rfl ?_
    refine CW.skip (hK2 _ _ ?_)
    refine CW.seq fun K4 hK4 => ?_
    obtain ⟨hg1, F⟩ := gd_some F
    refine CW.region ?_
    refine LW.go rfl rfl (OW.buildSlice (e := 3) (vs := []) (cs := []) rfl (fun _ => by kernel_rfl) fun b2 w3 N2 => ?_)
    replace H := H.made' (k := 1) (t := 3) (enc := encN) (l := ([] : List Int)) N2 N2.blk (fun _ => rfl) rfl (by first | decide | omega | (simp; done) | (simp; omega))
    replace R0 := H.ext
    refine LW.pure rfl rfl (RV.move rfl) ?_
    refine LW.go rfl rfl (OW.appendG (enc := encN) (l := ([] : List Int)) (xs := a0) Ts25 (look_slice rfl (by first | rfl | (simp; done) | (simp; omega))) rfl (H.own 0 rfl) (h_a0.ext R0) (fun _ => rfl) rfl rfl hg1 (by decide) fun A2 c2 w4 O2 M2 D2 => ?_)
    replace H : Hp w w4 [.own A2 c2 3 1 (List.map encN ((([] : List Int) ++ a0)))] := H.mod 0 rfl M2 O2 D2
    replace R0 := H.ext
    refine LW.pure rfl rfl (RV.assign rfl) ?_
    refine LW.nil (hK4 _ _ ?_)
    refine CW.ret ?_
    obtain rfl := Option.some.inj F
    refine ⟨_, (ResOK.one rfl), ?_⟩
    exact ⟨A2, c2, (by first | rfl | (simp; done) | (simp; omega)), H⟩

set_option maxRecDepth 20000 in
set_option maxHeartbeats 1000000 in
theorem cut_hollow_list_ok {a0 : Arr6} {a1 : Bog} {A_a1_worth : Option Addr} {c_a1_worth : Nat} {w : World} {res : (List Int)} (h_a1_worth : Sl2 w A_a1_worth c_a1_worth 1 encN a1.worth) (F : cut_hollow_list a0 a1 = some res) : Calls Try.prog 91 #[.agg #[.int .i64 a0.at0, .int .i64 a0.at1, .int .i64 a0.at2, .int .i64 a0.at3, .int .i64 a0.at4, .int .i64 a0.at5], .agg #[.slice A_a1_worth a1.worth.length c_a1_worth]] w (fun e w' => ∃ (A0 : Option Addr) (c0 : Nat), e = .returned (.slice A0 res.length c0) ∧ Hp w w' [.own A0 c0 3 1 (List.map encN res)]) := by
  refine calls_of_cw (args := [.agg #[.int .i64 a0.at0, .int .i64 a0.at1, .int .i64 a0.at2, .int .i64 a0.at3, .int .i64 a0.at4, .int .i64 a0.at5], .agg #[.slice A_a1_worth a1.worth.length c_a1_worth]]) Try.func91 rfl rfl rfl rfl ?_
  have H := Hp.start w
  have R0 := H.ext
  unfold cut_hollow_list at F
  refine CW.seq fun K1 hK1 => ?_
  refine CW.region ?_
  refine LW.go rfl rfl (OW.box rfl fun b1 w1 N1 => ?_)
  replace H := H.made' (k := 1) (t := 87) (enc := encN) (l := ([a0.at0, a0.at1, a0.at2, a0.at3, a0.at4, a0.at5] : List Int)) N1 N1.blk (fun _ => rfl) rfl (by first | decide | (simp; done) | (simp; omega))
  replace R0 := H.ext
  refine LW.go rfl rfl (OW.box rfl fun b2 w2 N2 => ?_)
  replace H := H.new N2 N2.blk
  replace R0 := H.ext
  refine LW.pure rfl rfl (RV.assign rfl) ?_
  refine LW.nil (hK1 _ _ ?_)
  refine CW.seq fun K2 hK2 => ?_
  obtain ⟨hg1, F⟩ := gd_some F
  obtain ⟨r1, hr1, F⟩ := bnd_some F
  refine CW.region ?_
  refine LW.pure rfl rfl (RV.fieldAddr Tf24_0 rfl) ?_
  refine LW.pure rfl rfl (RV.load1 Tk22 rfl ((H.blk 0 rfl).cells.off 0) rfl) ?_
  refine LW.pure rfl rfl (RV.len Ts22 rfl) ?_
  refine LW.pure rfl rfl (RV.arrH (l := ([a0.at0, a0.at1, a0.at2, a0.at3, a0.at4, a0.at5] : List Int)) Ta87 rfl rfl (by first | exact hg1 | (have q := hg1; simp at q ⊢; omega) | (simp; omega)) (by first | rfl | omega | (simp; done) | (simp; omega))) ?_
  refine LW.go rfl rfl (OW.call Tc87 rfl (slices_Clone_int_ok (a0 := (List.take (Int.toNat ((a1.worth.length : Int))) (([a0.at0, a0.at1, a0.at2, a0.at3, a0.at4, a0.at5] : List Int)))) ((H.own 1 rfl).sl.cutH (by first | exact hg1 | (have q := hg1; simp at q ⊢; omega) | (simp; omega))) hr1) ?_)
  rintro _ w3 ⟨A3_0, c3_0, rfl, E1⟩
  refine ⟨_, rfl, ?_⟩
  replace H : Hp w w3 [.own A3_0 c3_0 3 1 (List.map encN r1), .blk b2 24 [.slice A_a1_worth a1.worth.length c_a1_worth], .own (some ⟨b1, 0, none⟩) 6 87 1 (List.map encN (([a0.at0, a0.at1, a0.at2, a0.at3, a0.at4, a0.at5] : List Int)))] := H.append E1
  replace R0 := H.ext
  refine LW.pure rfl rfl (RV.assign rfl) ?_
  refine LW.nil (hK2 _ _ ?_)
  refine CW.ret ?_
  obtain rfl := Option.some.inj F
  refine ⟨_, (ResOK.one rfl), ?_⟩
  replace H := H.pick (L' := [.own A3_0 c3_0 3 1 (List.map encN r1)]) [0] (by decide) rfl
  replace R0 := H.ext
  exact ⟨A3_0, c3_0, (by first | rfl | (simp; done) | (simp; omega)), H⟩

set_option maxRecDepth 20000 in
set_option maxHeartbeats 1000000 in
theorem cut_worth_ok {a0 : Bog} {a1 : List Int} {A_a0_worth : Option Addr} {c_a0_worth : Nat} {A_a1 : Option Addr} {c_a1 : Nat} {w : World} {res : Int} (h_a0_worth : Sl2 w A_a0_worth c_a0_worth 1 encN a0.worth) (h_a1 : Sl w A_a1 c_a1 1 (a1.map encN)) (F : cut_worth a0 a1 = some res) : Calls Try.prog 65 #[.agg #[.slice A_a0_worth a0.worth.length c_a0_worth], .slice A_a1 a1.length c_a1] w (Rt w (.int .i64 res)) := by
  refine calls_of_cw (args := [.agg #[.slice A_a0_worth a0.worth.length c_a0_worth], .slice A_a1 a1.length c_a1]) Try.func65 rfl rfl rfl rfl ?_
  have H := Hp.start w
  have R0 := H.ext
  unfold cut_worth at F
  refine CW.seq fun K1 hK1 => ?_
  refine CW.region ?_
  refine LW.go rfl rfl (OW.box rfl fun b1 w1 N1 => ?_)
  replace H := H.new N1 N1.blk
  replace R0 := H.ext
  refine LW.pure rfl rfl (RV.assign rfl) ?_
  refine LW.nil (hK1 _ _ ?_)
  refine CW.seq fun K2 hK2 => ?_
  refine CW.region ?_
  refine LW.pure rfl rfl (RV.assign rfl) ?_
  refine LW.nil (hK2 _ _ ?_)
  refine CW.seqJ (fun ρ wl1 => (∃ (t5_1 : Int), cut_worth_k1 t5_1 = some res ∧ ρ = [(4, .int .i64 0), (5, .int .i64 t5_1)] ∧ Hp w wl1 [])) ?_ ?_
  ·
    rintro _ wl1 ⟨t5_1, F, rfl, H⟩
    have R0 := H.ext
    unfold cut_worth_k1 at F
    refine CW.seq fun K3 hK3 => ?_
    refine CW.region ?_
    refine LW.pure rfl rfl (RV.move rfl) ?_
    refine LW.pure rfl rfl (RV.assign rfl) ?_
    refine LW.nil (hK3 _ _ ?_)
    refine CW.ret ?_
    obtain rfl := Option.some.inj F
    refine ⟨_, (ResOK.one rfl), ?_⟩
    refine ⟨(by first | rfl | simp), R0⟩
  ·
    intro K4 hK4 jK290
    refine CW.seq fun K5 hK5 => ?_
    refine CW.region ?_
    refine LW.pure rfl rfl (RV.move rfl) ?_
    refine LW.pure rfl rfl (RV.len Ts25 rfl) ?_
    refine LW.pure rfl rfl (RV.move rfl) ?_
    refine LW.nil (hK5 _ _ ?_)
    refine CW.block ?_
    refine CW.loop (fun meas ρ wl2 => ∃ (t5_4 : Int) (t12_1 : Int), cut_worth_L2 a0 a1 meas t5_4 t12_1 = some res ∧ ρ = [(2, .pointer (some (⟨b1, 0, none⟩))), (4, .int .i64 0), (5, .int .i64 t5_4), (10, .slice A_a1 a1.length c_a1), (11, .int .i64 ((a1.length : Int))), (12, .int .i64 t12_1)] ∧ Hp w wl2 [.blk b1 24 [.slice A_a0_worth a0.worth.length c_a0_worth]]) FU ⟨_, ?_, ((0 : Int)), ((0 : Int)), F, rfl, H⟩ ?_
    · exact ⟨rfl, rfl, rfl, rfl, rfl, rfl, trivial⟩
    rintro mk1 _ wl2 ⟨t5_4, t12_1, F, rfl, H⟩
    have R0 := H.ext
    replace F := cut_worth_L2_s F
    obtain ⟨mk1, rfl, F⟩ := F
    generalize hrec1 : cut_worth_L2 a0 a1 mk1 = rec1 at F
    unfold cut_worth_B2 at F
    refine CW.seq fun K6 hK6 => ?_
    refine CW.region ?_
    refine LW.pure rfl rfl (RV.lss rfl rfl) ?_
    refine LW.nil (hK6 _ _ ?_)
    refine CW.seq fun K7 hK7 => ?_
    by_cases hp1 : t12_1 < ((a1.length : Int))
    ·
      replace F := ite_y hp1 F
      have hq1 := dec_t hp1
      refine CW.condT rfl hq1 ?_
      refine CW.skip (hK7 _ _ ?_)
      refine CW.seqJ (fun ρ wl3 => (∃ (t5_2 : Int), cut_worth_k2 t12_1 rec1 t5_2 = some res ∧ ρ = [(2, .pointer (some (⟨b1, 0, none⟩))), (4, .int .i64 0), (5, .int .i64 t5_2), (10, .slice A_a1 a1.length c_a1), (11, .int .i64 ((a1.length : Int))), (12, .int .i64 t12_1)] ∧ Hp w wl3 [.blk b1 24 [.slice A_a0_worth a0.worth.length c_a0_worth]])) ?_ ?_
      ·
        rintro _ wl3 ⟨t5_2, F, rfl, H⟩
        have R0 := H.ext
        unfold cut_worth_k2 at F
        obtain ⟨hg1, F⟩ := gd_some F
        refine CW.region ?_
        refine LW.pure rfl rfl (RV.add rfl rfl hg1) ?_
        refine LW.pure rfl rfl (RV.move rfl) ?_
        refine LW.nil ?_
        subst hrec1
        refine ⟨mk1, Nat.lt_succ_self _, _, ?_, t5_2, (t12_1 + 1), F, rfl, H⟩
        exact ⟨rfl, rfl, rfl, rfl, rfl, rfl, trivial⟩
      ·
        intro K8 hK8 jK370
        refine CW.block ?_
        refine CW.seq fun K9 hK9 => ?_
        obtain ⟨x1, hbx1, hx1, F⟩ := ix_some F
        refine CW.region ?_
        refine LW.pure rfl rfl (RV.move rfl) ?_
        refine LW.pure rfl rfl (RV.indexAddr Ts25 rfl rfl hbx1 (h_a1.addr_ hx1)) ?_
        refine LW.pure rfl rfl (RV.load1 Tk3 rfl ((h_a1.at_ hx1).ext R0) rfl) ?_
        refine LW.pure rfl rfl (RV.assign rfl) ?_
        refine LW.pure rfl rfl (RV.assign rfl) ?_
        refine LW.nil (hK9 _ _ ?_)
        refine CW.seq fun K10 hK10 => ?_
        obtain ⟨x2, hbx2, hx2, F⟩ := ix_some F
        obtain ⟨hg2, F⟩ := gd_some F
        refine CW.region ?_
        refine LW.pure rfl rfl (RV.fieldAddr Tf24_0 rfl) ?_
        refine LW.pure rfl rfl (RV.load1 Tk22 rfl ((H.blk 0 rfl).cells.off 0) rfl) ?_
        refine LW.pure rfl rfl (RV.move rfl) ?_
        obtain ⟨A1, c1, hC1, hS1⟩ := h_a0_worth.at_ hx2
        refine LW.pure rfl rfl (RV.indexAddr Ts22 rfl rfl hbx2 (h_a0_worth.addr hbx2)) ?_
        refine LW.pure rfl rfl (RV.load1 Tk25 rfl (hC1.ext R0) rfl) ?_
        refine LW.pure rfl rfl (RV.move rfl) ?_
        refine LW.pure rfl rfl (RV.cutH (l := x2) Ts25 rfl rfl hg2 (hS1.ext R0).le rfl) ?_
        refine LW.pure rfl rfl (RV.len Ts25 rfl) ?_
        refine LW.pure rfl rfl (RV.move rfl) ?_
        refine LW.nil (hK10 _ _ ?_)
        refine CW.block ?_
        refine CW.loop (fun meas ρ wl4 => ∃ (t5_3 : Int) (t25_1 : Int), cut_worth_L1 t12_1 rec1 x1 x2 meas t5_3 t25_1 = some res ∧ ρ = [(2, .pointer (some (⟨b1, 0, none⟩))), (4, .int .i64 0), (5, .int .i64 t5_3), (10, .slice A_a1 a1.length c_a1), (11, .int .i64 ((a1.length : Int))), (12, .int .i64 t12_1), (23, .slice A1 ((List.take (Int.toNat x1) x2).length) c1), (24, .int .i64 (((List.take (Int.toNat x1) x2).length : Int))), (25, .int .i64 t25_1)] ∧ Hp w wl4 [.blk b1 24 [.slice A_a0_worth a0.worth.length c_a0_worth]]) FU ⟨_, ?_, t5_4, ((0 : Int)), F, rfl, H⟩ ?_
        · exact ⟨rfl, rfl, rfl, rfl, rfl, rfl, (look_slice rfl (by first | rfl | (simp; done) | (simp; omega))), rfl, rfl, trivial⟩
        rintro mk2 _ wl4 ⟨t5_3, t25_1, F, rfl, H⟩
        have R0 := H.ext
        replace F := cut_worth_L1_s F
        obtain ⟨mk2, rfl, F⟩ := F
        generalize hrec2 : cut_worth_L1 t12_1 rec1 x1 x2 mk2 = rec2 at F
        unfold cut_worth_B1 at F
        refine CW.seq fun K11 hK11 => ?_
        refine CW.region ?_
        refine LW.pure rfl rfl (RV.lss rfl rfl) ?_
        refine LW.nil (hK11 _ _ ?_)
        refine CW.seq fun K12 hK12 => ?_
        by_cases hp2 : t25_1 < (((List.take (Int.toNat x1) x2).length : Int))
        ·
          replace F := ite_y hp2 F
          have hq2 := dec_t hp2
          refine CW.condT rfl hq2 ?_
          refine CW.skip (hK12 _ _ ?_)
          refine CW.seq fun K13 hK13 => ?_
          refine CW.block ?_
          refine CW.seq fun K14 hK14 => ?_
          obtain ⟨x3, hbx3, hx3, F⟩ := ix_some F
          refine CW.region ?_
          refine LW.pure rfl rfl (RV.indexAddr Ts25 rfl rfl hbx3 (((hS1.ext R0).cutH hg2).addr_ hx3)) ?_
          refine LW.pure rfl rfl (RV.load1 Tk3 rfl (((hS1.ext R0).cutH hg2).at_ hx3) rfl) ?_
          refine LW.pure rfl rfl (RV.assign rfl) ?_
          refine LW.nil (hK14 _ _ ?_)
          obtain ⟨hg3, F⟩ := gd_some F
          refine CW.region ?_
          refine LW.pure rfl rfl (RV.move rfl) ?_
          refine LW.pure rfl rfl (RV.move rfl) ?_
          refine LW.pure rfl rfl (RV.add rfl rfl hg3) ?_
          refine LW.pure rfl rfl (RV.assign rfl) ?_
          refine LW.nil (hK13 _ _ ?_)
          obtain ⟨hg4, F⟩ := gd_some F
          refine CW.region ?_
          refine LW.pure rfl rfl (RV.add rfl rfl hg4) ?_
          refine LW.pure rfl rfl (RV.move rfl) ?_
          refine LW.nil ?_
          subst hrec2
          refine ⟨mk2, Nat.lt_succ_self _, _, ?_, (t5_3 + x3), (t25_1 + 1), F, rfl, H⟩
          exact ⟨rfl, rfl, rfl, rfl, rfl, rfl, (look_slice rfl (by first | rfl | (simp; done) | (simp; omega))), rfl, rfl, trivial⟩
        ·
          replace F := ite_n hp2 F
          have hq2 := dec_f hp2
          refine CW.condF rfl hq2 ?_
          refine CW.exit (jK370 _ _ ⟨_, ?_, ⟨t5_3, F, rfl, H⟩⟩)
          exact ⟨rfl, rfl, rfl, rfl, rfl, rfl, trivial⟩
    ·
      replace F := ite_n hp1 F
      have hq1 := dec_f hp1
      refine CW.condF rfl hq1 ?_
      replace H := H.pick (L' := []) [] (by decide) rfl
      replace R0 := H.ext
      refine CW.exit (jK290 _ _ ⟨_, ?_, ⟨t5_4, F, rfl, H⟩⟩)
      exact ⟨rfl, rfl, trivial⟩

set_option maxRecDepth 20000 in
set_option maxHeartbeats 1000000 in
theorem cut_joined_ok {a0 : List Int} {a1 : List Int} {a2 : Int → Int → Option Int} {A_a0 : Option Addr} {c_a0 : Nat} {A_a1 : Option Addr} {c_a1 : Nat} {f_a2 : Nat} {p_a2 : Array Value} {q_a2 : Array Value} {w : World} {res : (List Int)} (h_a0 : Sl w A_a0 c_a0 1 (a0.map encN)) (h_a1 : Sl w A_a1 c_a1 1 (a1.map encN)) (h_a2 : ∀ (x3 : Int) (x4 : Int) (r : Int), a2 x3 x4 = some r → ∀ w1, Ext w w1 → CallsV Try.prog f_a2 p_a2 q_a2 #[.int .i64 x3, .int .i64 x4] w1 (Rt w1 (.int .i64 r))) (F : cut_joined a0 a1 a2 = some res) : Calls Try.prog 84 #[.slice A_a0 a0.length c_a0, .slice A_a1 a1.length c_a1, .func (.func f_a2) p_a2 q_a2] w (fun e w' => ∃ (A1 : Option Addr) (c1 : Nat), e = .returned (.slice A1 res.length c1) ∧ Hp w w' [.own A1 c1 3 1 (List.map encN res)]) := by
  refine calls_of_cw (args := [.slice A_a0 a0.length c_a0, .slice A_a1 a1.length c_a1, .func (.func f_a2) p_a2 q_a2]) Try.func84 rfl rfl rfl rfl ?_
  have H := Hp.start w
  have R0 := H.ext
  unfold cut_joined at F
  refine CW.seq fun K1 hK1 => ?_
  refine CW.region ?_
  refine LW.pure rfl rfl (RV.assign rfl) ?_
  refine LW.nil (hK1 _ _ ?_)
  refine CW.seq fun K2 hK2 => ?_
  refine CW.region ?_
  refine LW.pure rfl rfl (RV.assign rfl) ?_
  refine LW.nil (hK2 _ _ ?_)
  refine CW.seqJ (fun ρ wl1 => (∃ (l1 : List Int) (Al1 : Option Addr) (cl1 : Nat), cut_joined_k1 l1 = some res ∧ ρ = [(6, .slice none 0 0), (7, .slice Al1 l1.length cl1)] ∧ Hp w wl1 [.own Al1 cl1 3 1 (List.map encN l1)])) ?_ ?_
  ·
    rintro _ wl1 ⟨l1, Al1, cl1, F, rfl, H⟩
    have R0 := H.ext
    unfold cut_joined_k1 at F
    refine CW.seq fun K3 hK3 => ?_
    refine CW.region ?_
    refine LW.pure rfl rfl (RV.move rfl) ?_
    refine LW.pure rfl rfl (RV.assign rfl) ?_
    refine LW.nil (hK3 _ _ ?_)
    refine CW.ret ?_
    obtain rfl := Option.some.inj F
    refine ⟨_, (ResOK.one rfl), ?_⟩
    exact ⟨Al1, cl1, (by first | rfl | (simp; done) | (simp; omega)), H⟩
  ·
    intro K4 hK4 jK47
    refine CW.seq fun K5 hK5 => ?_
    refine CW.region ?_
    refine LW.pure rfl rfl (RV.move rfl) ?_
    refine LW.pure rfl rfl (RV.len Ts25 rfl) ?_
    refine LW.pure rfl rfl (RV.move rfl) ?_
    refine LW.nil (hK5 _ _ ?_)
    refine CW.block ?_
    replace H := H.nilOwn 3 1
    replace R0 := H.ext
    refine CW.loop (fun meas ρ wl2 => ∃ (t11_1 : Int) (l2 : List Int) (Al2 : Option Addr) (cl2 : Nat), cut_joined_L1 a0 a1 a2 meas t11_1 l2 = some res ∧ ρ = [(0, .slice A_a0 a0.length c_a0), (1, .slice A_a1 a1.length c_a1), (2, .func (.func f_a2) p_a2 q_a2), (6, .slice none 0 0), (7, .slice Al2 l2.length cl2), (10, .int .i64 ((a0.length : Int))), (11, .int .i64 t11_1)] ∧ Hp w wl2 [.own Al2 cl2 3 1 (List.map encN l2)]) FU ⟨_, ?_, ((0 : Int)), (([] : List Int)), none, 0, F, rfl, H⟩ ?_
    · exact ⟨rfl, rfl, rfl, rfl, (look_slice rfl (by first | rfl | (simp; done) | (simp; omega))), rfl, rfl, trivial⟩
    rintro mk1 _ wl2 ⟨t11_1, l2, Al2, cl2, F, rfl, H⟩
    have R0 := H.ext
    replace F := cut_joined_L1_s F
    obtain ⟨mk1, rfl, F⟩ := F
    generalize hrec1 : cut_joined_L1 a0 a1 a2 mk1 = rec1 at F
    unfold cut_joined_B1 at F
    refine CW.seq fun K6 hK6 => ?_
    refine CW.region ?_
    refine LW.pure rfl rfl (RV.lss rfl rfl) ?_
    refine LW.nil (hK6 _ _ ?_)
    refine CW.seq fun K7 hK7 => ?_
    by_cases hp1 : t11_1 < ((a0.length : Int))
    ·
      replace F := ite_y hp1 F
      have hq1 := dec_t hp1
      refine CW.condT rfl hq1 ?_
      refine CW.skip (hK7 _ _ ?_)
      refine CW.seq fun K8 hK8 => ?_
      refine CW.block ?_
      refine CW.seq fun K9 hK9 => ?_
      refine CW.region ?_
      refine LW.pure rfl rfl (RV.move rfl) ?_
      refine LW.pure rfl rfl (RV.assign rfl) ?_
      refine LW.nil (hK9 _ _ ?_)
      obtain ⟨x1, hbx1, hx1, F⟩ := ix_some F
      obtain ⟨x2, hbx2, hx2, F⟩ := ix_some F
      obtain ⟨r1, hr1, F⟩ := bnd_some F
      obtain ⟨hg1, F⟩ := gd_some F
      have H0 := H
      have hz : wl2.heap.size ≤ wl2.heap.size := Nat.le_refl _
      refine CW.draw [12] (XB wl2 [.own Al2 cl2 3 1 (List.map encN l2)] [0]) (.cons 0 1 (.cons 1 2 (.cons 2 2 (.cons 3 2 (.cons 4 2 (.cons 5 2 (.cons 6 2 (.cons 7 2 (.cons 8 2 (.cons 9 2 (.cons 10 0 (.cons 11 0 (.cons 12 0 (.cons 13 2 .nil)))))))))))))) mixed (by kernel_rfl) fun w2 E1 => ?_
      replace H := H.grow E1
      replace R0 := H.ext
      replace hz := Nat.le_trans hz (Ext.size E1)
      refine DW.fix rfl rfl rfl (fun _ EQ => RV.move rfl) ?_
      refine DW.thru rfl rfl rfl (fun _ EQ => RV.move rfl) ?_
      refine DW.thru rfl rfl rfl (fun _ EQ => RV.move rfl) ?_
      refine DW.thru rfl rfl rfl (fun _ EQ => RV.move rfl) ?_
      refine DW.thru rfl rfl rfl (fun _ EQ => RV.indexAddr Ts25 rfl rfl hbx1 (h_a0.addr_ hx1)) ?_
      refine DW.thru rfl rfl rfl (fun _ EQ => RV.load1 Tk3 rfl (H0.old EQ R0 (h_a0.at_ hx1)) rfl) ?_
      refine DW.thru rfl rfl rfl (fun _ EQ => RV.move rfl) ?_
      refine DW.thru rfl rfl rfl (fun _ EQ => RV.move rfl) ?_
      refine DW.thru rfl rfl rfl (fun _ EQ => RV.indexAddr Ts25 rfl rfl hbx2 (h_a1.addr_ hx2)) ?_
      refine DW.thru rfl rfl rfl (fun _ EQ => RV.load1 Tk3 rfl (H0.old EQ R0 (h_a1.at_ hx2)) rfl) ?_
      refine DW.sole rfl rfl rfl (OW.callV2 rfl rfl rfl (h_a2 _ _ _ hr1 _ R0) ?_)
      rintro _ w3 ⟨rfl, E2⟩
      refine ⟨_, rfl, fun _ => E2, ModX.ext E2, ?_⟩
      replace H := H.grow E2
      replace R0 := H.ext
      replace hz := Nat.le_trans hz (Ext.size E2)
      refine DW.sole rfl rfl rfl (OW.buildSlice (e := 3) (vs := [.int .i64 r1]) (cs := [.int .i64 r1]) rfl (fun _ => by kernel_rfl) fun b1 w4 N1 => ?_)
      refine ⟨fun _ => N1.ext, ModX.ext N1.ext, ?_⟩
      have G0_b1 : wl2.heap.size ≤ b1 := by rw [N1.at_]; exact hz
      replace H := H.made' (k := 1) (t := 3) (enc := encN) (l := ([r1] : List Int)) N1 N1.blk (fun _ => rfl) rfl (by first | decide | omega | (simp; done) | (simp; omega))
      replace R0 := H.ext
      replace hz := Nat.le_trans hz (Ext.size N1.ext)
      refine DW.sole rfl rfl rfl (OW.appendG (enc := encN) (l := l2) (xs := ([r1] : List Int)) Ts25 rfl (look_slice rfl (by first | rfl | (simp; done) | (simp; omega))) (H.own 1 rfl) (H.own 0 rfl).sl (fun _ => rfl) rfl rfl hg1 (by decide) fun A2 c2 w5 O1 M1 D1 => ?_)
      refine ⟨fun h => absurd h (by decide), M1.modx (XB.own_ 0 (by decide) rfl), ?_⟩
      replace H : Hp w w5 [.own (some ⟨b1, 0, none⟩) ((([r1] : List Int)).length) 3 1 (List.map encN (([r1] : List Int))), .own A2 c2 3 1 (List.map encN ((l2 ++ ([r1] : List Int))))] := H.mod 1 rfl M1 O1 D1
      replace R0 := H.ext
      replace hz := Nat.le_trans hz M1.size
      refine DW.thru rfl rfl rfl (fun _ EQ => RV.assign rfl) ?_
      refine DW.nil (hK8 _ _ ?_)
      obtain ⟨hg2, F⟩ := gd_some F
      refine CW.region ?_
      refine LW.pure rfl rfl (RV.add rfl rfl hg2) ?_
      refine LW.pure rfl rfl (RV.move rfl) ?_
      refine LW.nil ?_
      replace H := H.pick (L' := [.own A2 c2 3 1 (List.map encN ((l2 ++ ([r1] : List Int))))]) [1] (by decide) rfl
      replace R0 := H.ext
      subst hrec1
      refine ⟨mk1, Nat.lt_succ_self _, _, ?_, (t11_1 + 1), ((l2 ++ ([r1] : List Int))), A2, c2, F, rfl, H⟩
      exact ⟨rfl, rfl, rfl, rfl, (look_slice rfl (by first | rfl | (simp; done) | (simp; omega))), rfl, rfl, trivial⟩
    ·
      replace F := ite_n hp1 F
      have hq1 := dec_f hp1
      refine CW.condF rfl hq1 ?_
      refine CW.exit (jK47 _ _ ⟨_, ?_, ⟨l2, Al2, cl2, F, rfl, H⟩⟩)
      exact ⟨rfl, (look_slice rfl (by first | rfl | (simp; done) | (simp; omega))), trivial⟩

set_option maxRecDepth 20000 in
set_option maxHeartbeats 1000000 in
theorem cut_best_ok {a0 : Bog} {a1 : Int → Int → Option Int} {A_a0_worth : Option Addr} {c_a0_worth : Nat} {f_a1 : Nat} {p_a1 : Array Value} {q_a1 : Array Value} {w : World} {res : (List Int) × Int} (h_a0_worth : Sl2 w A_a0_worth c_a0_worth 1 encN a0.worth) (h_a1 : ∀ (x8 : Int) (x9 : Int) (r : Int), a1 x8 x9 = some r → ∀ w1, Ext w w1 → CallsV Try.prog f_a1 p_a1 q_a1 #[.int .i64 x8, .int .i64 x9] w1 (Rt w1 (.int .i64 r))) (F : cut_best a0 a1 = some res) : Calls Try.prog 73 #[.agg #[.slice A_a0_worth a0.worth.length c_a0_worth], .func (.func f_a1) p_a1 q_a1] w (fun e w' => ∃ (A0 : Option Addr) (c0 : Nat), e = .returned (.tuple #[.slice A0 res.1.length c0, .int .i64 res.2]) ∧ Hp w w' [.own A0 c0 3 1 (List.map encN res.1)]) := by
  refine calls_of_cw (args := [.agg #[.slice A_a0_worth a0.worth.length c_a0_worth], .func (.func f_a1) p_a1 q_a1]) Try.func73 rfl rfl rfl rfl ?_
  have H := Hp.start w
  have R0 := H.ext
  unfold cut_best at F
  refine CW.seq fun K1 hK1 => ?_
  refine CW.region ?_
  refine LW.go rfl rfl (OW.box rfl fun b1 w2 N1 => ?_)
  replace H := H.new N1 N1.blk
  replace R0 := H.ext
  refine LW.pure rfl rfl (RV.assign rfl) ?_
  refine LW.pure rfl rfl (RV.assign rfl) ?_
  refine LW.nil (hK1 _ _ ?_)
  refine CW.seq fun K2 hK2 => ?_
  refine CW.region ?_
  refine LW.pure rfl rfl (RV.assign rfl) ?_
  refine LW.nil (hK2 _ _ ?_)
  refine CW.seq fun K3 hK3 => ?_
  refine CW.region ?_
  refine LW.pure rfl rfl (RV.assign rfl) ?_
  refine LW.nil (hK3 _ _ ?_)
  refine CW.seqJ (fun ρ wl1 => (∃ (t7_1 : Int) (l1 : List Int) (Al1 : Option Addr) (cl1 : Nat), cut_best_k1 t7_1 l1 = some res ∧ ρ = [(4, .slice none 0 0), (5, .int .i64 0), (6, .slice Al1 l1.length cl1), (7, .int .i64 t7_1)] ∧ Hp w wl1 [.own Al1 cl1 3 1 (List.map encN l1)])) ?_ ?_
  ·
    rintro _ wl1 ⟨t7_1, l1, Al1, cl1, F, rfl, H⟩
    have R0 := H.ext
    unfold cut_best_k1 at F
    refine CW.seq fun K4 hK4 => ?_
    refine CW.region ?_
    refine LW.pure rfl rfl (RV.move rfl) ?_
    refine LW.pure rfl rfl (RV.move rfl) ?_
    refine LW.pure rfl rfl (RV.assign rfl) ?_
    refine LW.pure rfl rfl (RV.assign rfl) ?_
    refine LW.nil (hK4 _ _ ?_)
    refine CW.ret ?_
    obtain rfl := Option.some.inj F
    refine ⟨_, (ResOK.two rfl rfl), ?_⟩
    exact ⟨Al1, cl1, (by first | rfl | (simp; done) | (simp; omega)), H⟩
  ·
    intro K5 hK5 jK130
    refine CW.seq fun K6 hK6 => ?_
    obtain ⟨r4, hr4, F⟩ := bnd_some F
    refine CW.region ?_
    refine LW.pure rfl rfl (RV.loadA [.slice A_a0_worth a0.worth.length c_a0_worth] Tk24 rfl (H.blk 0 rfl).cells rfl rfl) ?_
    refine LW.go rfl rfl (OW.call Tc88 rfl (cut_all_ok (a0 := a0) (h_a0_worth.ext R0) hr4) ?_)
    rintro _ w3 ⟨A59_0, c59_0, rfl, E1⟩
    refine ⟨_, rfl, ?_⟩
    replace H : Hp w w3 [.own A59_0 c59_0 87 6 (List.map encArr6 r4), .blk b1 24 [.slice A_a0_worth a0.worth.length c_a0_worth]] := H.append E1
    replace R0 := H.ext
    refine LW.pure rfl rfl (RV.len Ts82 rfl) ?_
    refine LW.pure rfl rfl (RV.move rfl) ?_
    refine LW.nil (hK6 _ _ ?_)
    refine CW.block ?_
    replace H := H.nilOwn 3 1
    replace R0 := H.ext
    refine CW.loop (fun meas ρ wl2 => ∃ (t7_3 : Int) (t15_1 : Int) (l3 : List Int) (Al3 : Option Addr) (cl3 : Nat), cut_best_L1 a0 a1 r4 meas t7_3 t15_1 l3 = some res ∧ ρ = [(1, .func (.func f_a1) p_a1 q_a1), (2, .pointer (some (⟨b1, 0, none⟩))), (4, .slice none 0 0), (5, .int .i64 0), (6, .slice Al3 l3.length cl3), (7, .int .i64 t7_3), (13, .slice A59_0 r4.length c59_0), (14, .int .i64 ((r4.length : Int))), (15, .int .i64 t15_1)] ∧ Hp w wl2 [.own Al3 cl3 3 1 (List.map encN l3), .own A59_0 c59_0 87 6 (List.map encArr6 r4), .blk b1 24 [.slice A_a0_worth a0.worth.length c_a0_worth]]) FU ⟨_, ?_, ((0 : Int)), ((0 : Int)), (([] : List Int)), none, 0, F, rfl, H⟩ ?_
    · exact ⟨rfl, rfl, rfl, rfl, (look_slice rfl (by first | rfl | (simp; done) | (simp; omega))), rfl, (look_slice rfl (by first | rfl | (simp; done) | (simp; omega))), rfl, rfl, trivial⟩
    rintro mk1 _ wl2 ⟨t7_3, t15_1, l3, Al3, cl3, F, rfl, H⟩
    have R0 := H.ext
    replace F := cut_best_L1_s F
    obtain ⟨mk1, rfl, F⟩ := F
    generalize hrec1 : cut_best_L1 a0 a1 r4 mk1 = rec1 at F
    unfold cut_best_B1 at F
    refine CW.seq fun K7 hK7 => ?_
    refine CW.region ?_
    refine LW.pure rfl rfl (RV.lss rfl rfl) ?_
    refine LW.nil (hK7 _ _ ?_)
    refine CW.seq fun K8 hK8 => ?_
    by_cases hp1 : t15_1 < ((r4.length : Int))
    ·
      replace F := ite_y hp1 F
      have hq1 := dec_t hp1
      refine CW.condT rfl hq1 ?_
      refine CW.skip (hK8 _ _ ?_)
      refine CW.seqJ (fun ρ wl3 => (∃ (t7_2 : Int) (l2 : List Int) (Al2 : Option Addr) (cl2 : Nat), cut_best_k2 t15_1 rec1 t7_2 l2 = some res ∧ ρ = [(1, .func (.func f_a1) p_a1 q_a1), (2, .pointer (some (⟨b1, 0, none⟩))), (4, .slice none 0 0), (5, .int .i64 0), (6, .slice Al2 l2.length cl2), (7, .int .i64 t7_2), (13, .slice A59_0 r4.length c59_0), (14, .int .i64 ((r4.length : Int))), (15, .int .i64 t15_1)] ∧ Hp w wl3 [.own Al2 cl2 3 1 (List.map encN l2), .own A59_0 c59_0 87 6 (List.map encArr6 r4), .blk b1 24 [.slice A_a0_worth a0.worth.length c_a0_worth]])) ?_ ?_
      ·
        rintro _ wl3 ⟨t7_2, l2, Al2, cl2, F, rfl, H⟩
        have R0 := H.ext
        unfold cut_best_k2 at F
        obtain ⟨hg1, F⟩ := gd_some F
        refine CW.region ?_
        refine LW.pure rfl rfl (RV.add rfl rfl hg1) ?_
        refine LW.pure rfl rfl (RV.move rfl) ?_
        refine LW.nil ?_
        subst hrec1
        refine ⟨mk1, Nat.lt_succ_self _, _, ?_, t7_2, (t15_1 + 1), l2, Al2, cl2, F, rfl, H⟩
        exact ⟨rfl, rfl, rfl, rfl, (look_slice rfl (by first | rfl | (simp; done) | (simp; omega))), rfl, (look_slice rfl (by first | rfl | (simp; done) | (simp; omega))), rfl, rfl, trivial⟩
      ·
        intro K9 hK9 jK165
        refine CW.block ?_
        refine CW.seq fun K10 hK10 => ?_
        obtain ⟨x1, hbx1, hx1, F⟩ := ix_some F
        refine CW.region ?_
        refine LW.pure rfl rfl (RV.move rfl) ?_
        refine LW.pure rfl rfl (RV.indexAddr Ts82 rfl rfl hbx1 ((H.own 1 rfl).sl.addr_ hx1)) ?_
        refine LW.pure rfl rfl (RV.loadA [.int .i64 x1.at0, .int .i64 x1.at1, .int .i64 x1.at2, .int .i64 x1.at3, .int .i64 x1.at4, .int .i64 x1.at5] Tk87 rfl ((H.own 1 rfl).sl.at_ hx1) rfl rfl) ?_
        refine LW.go rfl rfl (OW.alloc Tz87 fun b2 w4 N2 => ?_)
        replace H := H.made' (k := 1) (t := 87) (enc := encN) (l := ([0, 0, 0, 0, 0, 0] : List Int)) N2 N2.blk (fun _ => rfl) rfl (by first | decide | (simp; done) | (simp; omega))
        replace R0 := H.ext
        refine LW.pure rfl rfl (RV.assign rfl) ?_
        refine LW.go rfl rfl (OW.storeArr (l' := ([x1.at0, x1.at1, x1.at2, x1.at3, x1.at4, x1.at5] : List Int)) (vs := [.int .i64 x1.at0, .int .i64 x1.at1, .int .i64 x1.at2, .int .i64 x1.at3, .int .i64 x1.at4, .int .i64 x1.at5]) Tk87 rfl rfl (H.own 0 rfl) (fun _ => rfl) (by first | rfl | omega | (simp; done) | (simp; omega)) rfl rfl rfl rfl fun w5 M1 O1 => ?_)
        replace H : Hp w w5 [.own (some ⟨b2, 0, none⟩) 6 87 1 (List.map encN (([x1.at0, x1.at1, x1.at2, x1.at3, x1.at4, x1.at5] : List Int))), .own Al3 cl3 3 1 (List.map encN l3), .own A59_0 c59_0 87 6 (List.map encArr6 r4), .blk b1 24 [.slice A_a0_worth a0.worth.length c_a0_worth]] := H.mod 0 rfl M1 O1 (.inl rfl)
        replace R0 := H.ext
        refine LW.nil (hK10 _ _ ?_)
        refine CW.seq fun K11 hK11 => ?_
        obtain ⟨hg2, F⟩ := gd_some F
        obtain ⟨x2, hbx2, hx2, F⟩ := ix_some F
        obtain ⟨x3, hbx3, hx3, F⟩ := ix_some F
        obtain ⟨x4, hbx4, hx4, F⟩ := ix_some F
        obtain ⟨x5, hbx5, hx5, F⟩ := ix_some F
        obtain ⟨x6, hbx6, hx6, F⟩ := ix_some F
        obtain ⟨x7, hbx7, hx7, F⟩ := ix_some F
        obtain ⟨r1, hr1, F⟩ := bnd_some F
        refine CW.region ?_
        have hL1 := list6 hg2 hx2 hx3 hx4 hx5 hx6 hx7
        refine LW.pure rfl rfl (RV.loadA (vs := [.int .i64 x2, .int .i64 x3, .int .i64 x4, .int .i64 x5, .int .i64 x6, .int .i64 x7]) [.int .i64 x2, .int .i64 x3, .int .i64 x4, .int .i64 x5, .int .i64 x6, .int .i64 x7] Tk87 rfl (fun j v hj => (H.own 0 rfl).flat j v (by rw [hL1]; exact hj)) rfl rfl) ?_
        refine LW.pure rfl rfl (RV.loadA [.slice A_a0_worth a0.worth.length c_a0_worth] Tk24 rfl (H.blk 3 rfl).cells rfl rfl) ?_
        refine LW.go rfl rfl (OW.call Tc91 rfl (cut_hollow_list_ok (a0 := (⟨x2, x3, x4, x5, x6, x7⟩ : Arr6)) (a1 := a0) (h_a0_worth.ext R0) hr1) ?_)
        rintro _ w6 ⟨A76_0, c76_0, rfl, E2⟩
        refine ⟨_, rfl, ?_⟩
        replace H : Hp w w6 [.own A76_0 c76_0 3 1 (List.map encN r1), .own (some ⟨b2, 0, none⟩) 6 87 1 (List.map encN (([x1.at0, x1.at1, x1.at2, x1.at3, x1.at4, x1.at5] : List Int))), .own Al3 cl3 3 1 (List.map encN l3), .own A59_0 c59_0 87 6 (List.map encArr6 r4), .blk b1 24 [.slice A_a0_worth a0.worth.length c_a0_worth]] := H.append E2
        replace R0 := H.ext
        refine LW.pure rfl rfl (RV.assign rfl) ?_
        refine LW.nil (hK11 _ _ ?_)
        refine CW.seq fun K12 hK12 => ?_
        obtain ⟨r2, hr2, F⟩ := bnd_some F
        refine CW.region ?_
        refine LW.pure rfl rfl (RV.loadA [.slice A_a0_worth a0.worth.length c_a0_worth] Tk24 rfl (H.blk 4 rfl).cells rfl rfl) ?_
        refine LW.pure rfl rfl (RV.move rfl) ?_
        refine LW.go rfl rfl (OW.call Tc65 rfl (cut_worth_ok (a0 := a0) (a1 := r1) (h_a0_worth.ext R0) (H.own 0 rfl).sl hr2) ?_)
        rintro _ w7 ⟨rfl, E3⟩
        refine ⟨_, rfl, ?_⟩
        replace H := H.grow E3
        replace R0 := H.ext
        refine LW.pure rfl rfl (RV.assign rfl) ?_
        refine LW.nil (hK12 _ _ ?_)
        refine CW.block ?_
        refine CW.seqJ (fun ρ wl4 => (∃ (t26_1 : Bool), cut_best_k3 a1 t7_3 t15_1 l3 rec1 r1 r2 t26_1 = some res ∧ ρ = [(1, .func (.func f_a1) p_a1 q_a1), (2, .pointer (some (⟨b1, 0, none⟩))), (4, .slice none 0 0), (5, .int .i64 0), (6, .slice Al3 l3.length cl3), (7, .int .i64 t7_3), (10, .slice A76_0 r1.length c76_0), (11, .int .i64 r2), (13, .slice A59_0 r4.length c59_0), (14, .int .i64 ((r4.length : Int))), (15, .int .i64 t15_1), (26, .bool t26_1)] ∧ Hp w wl4 [.own Al3 cl3 3 1 (List.map encN l3), .own A76_0 c76_0 3 1 (List.map encN r1), .own A59_0 c59_0 87 6 (List.map encArr6 r4), .blk b1 24 [.slice A_a0_worth a0.worth.length c_a0_worth]])) ?_ ?_
        ·
          rintro _ wl4 ⟨t26_1, F, rfl, H⟩
          have R0 := H.ext
          unfold cut_best_k3 at F
          by_cases hp2 : t26_1 = true
          ·
            replace F := ite_y hp2 F
            have hq2 : t26_1 = true := hp2
            refine CW.condT rfl hq2 ?_
            refine CW.region ?_
            refine LW.pure rfl rfl (RV.move rfl) ?_
            refine LW.pure rfl rfl (RV.move rfl) ?_
            refine LW.pure rfl rfl (RV.assign rfl) ?_
            refine LW.pure rfl rfl (RV.assign rfl) ?_
            replace H := H.pick (L' := [.own A76_0 c76_0 3 1 (List.map encN r1), .own A59_0 c59_0 87 6 (List.map encArr6 r4), .blk b1 24 [.slice A_a0_worth a0.worth.length c_a0_worth]]) [1, 2, 3] (by decide) rfl
            replace R0 := H.ext
            refine LW.nil (jK165 _ _ ⟨_, ?_, ⟨r2, r1, A76_0, c76_0, F, rfl, H⟩⟩)
            exact ⟨rfl, rfl, rfl, rfl, (look_slice rfl (by first | rfl | (simp; done) | (simp; omega))), rfl, (look_slice rfl (by first | rfl | (simp; done) | (simp; omega))), rfl, rfl, trivial⟩
          ·
            replace F := ite_n hp2 F
            have hq2 : t26_1 = false := raw_f hp2
            refine CW.condF rfl hq2 ?_
            refine CW.seq fun K13 hK13 => ?_
            refine CW.region ?_
            refine LW.pure rfl rfl (RV.move rfl) ?_
            refine LW.pure rfl rfl (RV.move rfl) ?_
            refine LW.pure rfl rfl (RV.eqi rfl rfl) ?_
            refine LW.pure rfl rfl (RV.assign rfl) ?_
            refine LW.nil (hK13 _ _ ?_)
            by_cases hp3 : r2 = t7_3
            ·
              replace F := ite_y hp3 F
              have hq3 := dec_t hp3
              refine CW.condT rfl hq3 ?_
              obtain ⟨r3, hr3, F⟩ := bnd_some F
              refine CW.region ?_
              refine LW.pure rfl rfl (RV.move rfl) ?_
              refine LW.pure rfl rfl (RV.move rfl) ?_
              refine LW.pure rfl rfl (RV.move rfl) ?_
              refine LW.go rfl rfl (OW.call Tc84 rfl (cut_joined_ok (a0 := l3) (a1 := r1) (a2 := a1) (H.own 0 rfl).sl (H.own 1 rfl).sl (fun x8 x9 r hF w1 hE => h_a1 x8 x9 r hF w1 (R0.trans hE)) hr3) ?_)
              rintro _ w8 ⟨A80_0, c80_0, rfl, E4⟩
              refine ⟨_, rfl, ?_⟩
              replace H : Hp w w8 [.own A80_0 c80_0 3 1 (List.map encN r3), .own Al3 cl3 3 1 (List.map encN l3), .own A76_0 c76_0 3 1 (List.map encN r1), .own A59_0 c59_0 87 6 (List.map encArr6 r4), .blk b1 24 [.slice A_a0_worth a0.worth.length c_a0_worth]] := H.append E4
              replace R0 := H.ext
              refine LW.pure rfl rfl (RV.assign rfl) ?_
              replace H := H.pick (L' := [.own A80_0 c80_0 3 1 (List.map encN r3), .own A59_0 c59_0 87 6 (List.map encArr6 r4), .blk b1 24 [.slice A_a0_worth a0.worth.length c_a0_worth]]) [0, 3, 4] (by decide) rfl
              replace R0 := H.ext
              refine LW.nil (jK165 _ _ ⟨_, ?_, ⟨t7_3, r3, A80_0, c80_0, F, rfl, H⟩⟩)
              exact ⟨rfl, rfl, rfl, rfl, (look_slice rfl (by first | rfl | (simp; done) | (simp; omega))), rfl, (look_slice rfl (by first | rfl | (simp; done) | (simp; omega))), rfl, rfl, trivial⟩
            ·
              replace F := ite_n hp3 F
              have hq3 := dec_f hp3
              refine CW.condF rfl hq3 ?_
              replace H := H.pick (L' := [.own Al3 cl3 3 1 (List.map encN l3), .own A59_0 c59_0 87 6 (List.map encArr6 r4), .blk b1 24 [.slice A_a0_worth a0.worth.length c_a0_worth]]) [0, 2, 3] (by decide) rfl
              replace R0 := H.ext
              refine CW.skip (jK165 _ _ ⟨_, ?_, ⟨t7_3, l3, Al3, cl3, F, rfl, H⟩⟩)
              exact ⟨rfl, rfl, rfl, rfl, (look_slice rfl (by first | rfl | (simp; done) | (simp; omega))), rfl, (look_slice rfl (by first | rfl | (simp; done) | (simp; omega))), rfl, rfl, trivial⟩
        ·
          intro K14 hK14 jK170
          by_cases hp4 : t15_1 = 0
          ·
            replace F := ite_y hp4 F
            have hq4 := dec_t hp4
            refine CW.region ?_
            refine LW.pure rfl rfl (RV.move rfl) ?_
            refine LW.pure rfl rfl (RV.eqi rfl rfl) ?_
            refine LW.pure rfl rfl (RV.move rfl) ?_
            refine LW.noB rfl rfl rfl rfl (ne_beq (v := true) hq4 rfl) ?_
            refine LW.noB rfl rfl rfl rfl (ne_beq (v := true) hq4 rfl) ?_
            refine LW.noB rfl rfl rfl rfl (ne_beq (v := true) hq4 rfl) ?_
            refine LW.pure rfl rfl (RV.pickTB rfl hq4 rfl) ?_
            refine LW.pure rfl rfl (RV.assign rfl) ?_
            replace H := H.pick (L' := [.own Al3 cl3 3 1 (List.map encN l3), .own A76_0 c76_0 3 1 (List.map encN r1), .own A59_0 c59_0 87 6 (List.map encArr6 r4), .blk b1 24 [.slice A_a0_worth a0.worth.length c_a0_worth]]) [2, 0, 3, 4] (by decide) rfl
            replace R0 := H.ext
            refine LW.nil (jK170 _ _ ⟨_, ?_, ⟨true, F, rfl, H⟩⟩)
            exact ⟨rfl, rfl, rfl, rfl, (look_slice rfl (by first | rfl | (simp; done) | (simp; omega))), rfl, (look_slice rfl (by first | rfl | (simp; done) | (simp; omega))), rfl, (look_slice rfl (by first | rfl | (simp; done) | (simp; omega))), rfl, rfl, rfl, trivial⟩
          ·
            replace F := ite_n hp4 F
            have hq4 := dec_f hp4
            refine CW.region ?_
            refine LW.pure rfl rfl (RV.move rfl) ?_
            refine LW.pure rfl rfl (RV.eqi rfl rfl) ?_
            refine LW.pure rfl rfl (RV.move rfl) ?_
            refine LW.pureYB rfl rfl rfl rfl hq4 (RV.move rfl) ?_
            refine LW.pureYB rfl rfl rfl rfl hq4 (RV.move rfl) ?_
            refine LW.pureYB rfl rfl rfl rfl hq4 (RV.gtr rfl rfl) ?_
            refine LW.pure rfl rfl (RV.pickFB rfl hq4 rfl) ?_
            refine LW.pure rfl rfl (RV.assign rfl) ?_
            replace H := H.pick (L' := [.own Al3 cl3 3 1 (List.map encN l3), .own A76_0 c76_0 3 1 (List.map encN r1), .own A59_0 c59_0 87 6 (List.map encArr6 r4), .blk b1 24 [.slice A_a0_worth a0.worth.length c_a0_worth]]) [2, 0, 3, 4] (by decide) rfl
            replace R0 := H.ext
            refine LW.nil (jK170 _ _ ⟨_, ?_, ⟨(decide (t7_3 < r2)), F, rfl, H⟩⟩)
            exact ⟨rfl, rfl, rfl, rfl, (look_slice rfl (by first | rfl | (simp; done) | (simp; omega))), rfl, (look_slice rfl (by first | rfl | (simp; done) | (simp; omega))), rfl, (look_slice rfl (by first | rfl | (simp; done) | (simp; omega))), rfl, rfl, rfl, trivial⟩
    ·
      replace F := ite_n hp1 F
      have hq1 := dec_f hp1
      refine CW.condF rfl hq1 ?_
      replace H := H.pick (L' := [.own Al3 cl3 3 1 (List.map encN l3)]) [0] (by decide) rfl
      replace R0 := H.ext
      refine CW.exit (jK130 _ _ ⟨_, ?_, ⟨t7_3, l3, Al3, cl3, F, rfl, H⟩⟩)
      exact ⟨rfl, rfl, (look_slice rfl (by first | rfl | (simp; done) | (simp; omega))), rfl, trivial⟩

set_option maxRecDepth 20000 in
set_option maxHeartbeats 1000000 in
theorem cut_smaller_ok {a0 : Int} {a1 : Int} {w : World} {res : Int} (F : cut_smaller a0 a1 = some res) : Calls Try.prog 74 #[.int .i64 a0, .int .i64 a1] w (Rt w (.int .i64 res)) := by
  refine calls_of_cw (args := [.int .i64 a0, .int .i64 a1]) Try.func74 rfl rfl rfl rfl ?_
  have H := Hp.start w
  have R0 := H.ext
  unfold cut_smaller at F
  refine CW.seq fun K1 hK1 => ?_
  refine CW.region ?_
  refine LW.pure rfl rfl (RV.assign rfl) ?_
  refine LW.nil (hK1 _ _ ?_)
  refine CW.seq fun K2 hK2 => ?_
  refine CW.region ?_
  refine LW.pure rfl rfl (RV.move rfl) ?_
  refine LW.pure rfl rfl (RV.move rfl) ?_
  refine LW.pure rfl rfl (RV.min2 rfl rfl) ?_
  refine LW.pure rfl rfl (RV.assign rfl) ?_
  refine LW.nil (hK2 _ _ ?_)
  refine CW.ret ?_
  obtain rfl := Option.some.inj F
  refine ⟨_, (ResOK.one rfl), ?_⟩
  refine ⟨(by first | rfl | simp), R0⟩

set_option maxRecDepth 20000 in
set_option maxHeartbeats 1000000 in
theorem cut_Best_ok {a0 : Bog} {A_a0_worth : Option Addr} {c_a0_worth : Nat} {w : World} {res : (List Int) × Int × Int} (h_a0_worth : Sl2 w A_a0_worth c_a0_worth 1 encN a0.worth) (F : cut_Best a0 = some res) : Calls Try.prog 28 #[.agg #[.slice A_a0_worth a0.worth.length c_a0_worth]] w (fun e w' => ∃ (A0 : Option Addr) (c0 : Nat), e = .returned (.tuple #[.slice A0 res.1.length c0, .int .i64 res.2.1, .int .i64 res.2.2]) ∧ Hp w w' [.own A0 c0 3 1 (List.map encN res.1)]) := by
  refine calls_of_cw (args := [.agg #[.slice A_a0_worth a0.worth.length c_a0_worth]]) Try.func28 rfl rfl rfl rfl ?_
  have H := Hp.start w
  have R0 := H.ext
  unfold cut_Best at F
  refine CW.seq fun K1 hK1 => ?_
  refine CW.region ?_
  refine LW.go rfl rfl (OW.box rfl fun b1 w1 N1 => ?_)
  replace H := H.new N1 N1.blk
  replace R0 := H.ext
  refine LW.pure rfl rfl (RV.assign rfl) ?_
  refine LW.pure rfl rfl (RV.assign rfl) ?_
  refine LW.pure rfl rfl (RV.assign rfl) ?_
  refine LW.nil (hK1 _ _ ?_)
  refine CW.seq fun K2 hK2 => ?_
  refine CW.seq fun K3 hK3 => ?_
  obtain ⟨r1, hr1, F⟩ := bnd_some F
  refine CW.region ?_
  refine LW.pure rfl rfl (RV.loadA [.slice A_a0_worth a0.worth.length c_a0_worth] Tk24 rfl (H.blk 0 rfl).cells rfl rfl) ?_
  refine LW.go rfl rfl (OW.call Tc25 rfl (cut_Validate_ok (a0 := a0) (h_a0_worth.ext R0) hr1) ?_)
  rintro _ w2 ⟨rfl, E1⟩
  refine ⟨_, rfl, ?_⟩
  replace H := H.grow E1
  replace R0 := H.ext
  refine LW.pure rfl rfl (RV.assign rfl) ?_
  refine LW.nil (hK3 _ _ ?_)
  refine CW.seq fun K4 hK4 => ?_
  refine CW.region ?_
  refine LW.pure rfl rfl (RV.move rfl) ?_
  refine LW.pure rfl rfl (RV.nei rfl rfl) ?_
  refine LW.nil (hK4 _ _ ?_)
  by_cases hp1 : r1 = 0
  ·
    replace F := ite_y hp1 F
    have hq1 := dec_t hp1
    refine CW.condF rfl (not_f hq1) ?_
    refine CW.skip (hK2 _ _ ?_)
    refine CW.seq fun K5 hK5 => ?_
    obtain ⟨r2, hr2, F⟩ := bnd_some F
    refine CW.region ?_
    refine LW.pure rfl rfl (RV.loadA [.slice A_a0_worth a0.worth.length c_a0_worth] Tk24 rfl (H.blk 0 rfl).cells rfl rfl) ?_
    refine LW.go rfl rfl (OW.call Tc73 rfl (cut_best_ok (a0 := a0) (a1 := cut_smaller) (h_a0_worth.ext R0) (fun x0 x1 r hF w3 hE => CallsV.of Tc74 (cut_smaller_ok (a0 := x0) (a1 := x1) hF)) hr2) ?_)
    rintro _ w4 ⟨A6_0, c6_0, rfl, E2⟩
    refine ⟨_, rfl, ?_⟩
    replace H : Hp w w4 [.own A6_0 c6_0 3 1 (List.map encN r2.1), .blk b1 24 [.slice A_a0_worth a0.worth.length c_a0_worth]] := H.append E2
    replace R0 := H.ext
    refine LW.pure rfl rfl (RV.move rfl) ?_
    refine LW.pure rfl rfl (RV.extract rfl rfl) ?_
    refine LW.pure rfl rfl (RV.extract rfl rfl) ?_
    refine LW.pure rfl rfl (RV.assign rfl) ?_
    refine LW.pure rfl rfl (RV.assign rfl) ?_
    refine LW.nil (hK5 _ _ ?_)
    refine CW.seq fun K6 hK6 => ?_
    refine CW.region ?_
    refine LW.pure rfl rfl (RV.move rfl) ?_
    refine LW.pure rfl rfl (RV.move rfl) ?_
    refine LW.pure rfl rfl (RV.assign rfl) ?_
    refine LW.pure rfl rfl (RV.assign rfl) ?_
    refine LW.pure rfl rfl (RV.assign rfl) ?_
    refine LW.nil (hK6 _ _ ?_)
    refine CW.ret ?_
    obtain rfl := Option.some.inj F
    refine ⟨_, (ResOK.three rfl rfl rfl), ?_⟩
    replace H := H.pick (L' := [.own A6_0 c6_0 3 1 (List.map encN r2.1)]) [0] (by decide) rfl
    replace R0 := H.ext
    exact ⟨A6_0, c6_0, (by first | rfl | (simp; done) | (simp; omega)), H⟩
  ·
    replace F := ite_n hp1 F
    have hq1 := dec_f hp1
    refine CW.condT rfl (not_t hq1) ?_
    refine CW.seq fun K7 hK7 => ?_
    refine CW.region ?_
    refine LW.pure rfl rfl (RV.move rfl) ?_
    refine LW.pure rfl rfl (RV.assign rfl) ?_
    refine LW.pure rfl rfl (RV.assign rfl) ?_
    refine LW.pure rfl rfl (RV.assign rfl) ?_
    refine LW.nil (hK7 _ _ ?_)
    refine CW.ret ?_
    obtain rfl := Option.some.inj F
    refine ⟨_, (ResOK.three rfl rfl rfl), ?_⟩
    replace H := H.nilOwn 3 1
    replace R0 := H.ext
    replace H := H.pick (L' := [.own none 0 3 1 (List.map encN (([] : List Int)))]) [0] (by decide) rfl
    replace R0 := H.ext
    exact ⟨none, 0, (by first | rfl | (simp; done) | (simp; omega)), H⟩

set_option maxRecDepth 20000 in
set_option maxHeartbeats 1000000 in
theorem cut_Count_ok {a0 : Bog} {A_a0_worth : Option Addr} {c_a0_worth : Nat} {w : World} {res : Int × Int} (h_a0_worth : Sl2 w A_a0_worth c_a0_worth 1 encN a0.worth) (F : cut_Count a0 = some res) : Calls Try.prog 49 #[.agg #[.slice A_a0_worth a0.worth.length c_a0_worth]] w (Rt w (.tuple #[.int .i64 res.1, .int .i64 res.2])) := by
  refine calls_of_cw (args := [.agg #[.slice A_a0_worth a0.worth.length c_a0_worth]]) Try.func49 rfl rfl rfl rfl ?_
  have H := Hp.start w
  have R0 := H.ext
  unfold cut_Count at F
  refine CW.seq fun K1 hK1 => ?_
  refine CW.region ?_
  refine LW.go rfl rfl (OW.box rfl fun b1 w1 N1 => ?_)
  replace H := H.new N1 N1.blk
  replace R0 := H.ext
  refine LW.pure rfl rfl (RV.assign rfl) ?_
  refine LW.pure rfl rfl (RV.assign rfl) ?_
  refine LW.nil (hK1 _ _ ?_)
  refine CW.seq fun K2 hK2 => ?_
  refine CW.seq fun K3 hK3 => ?_
  obtain ⟨r1, hr1, F⟩ := bnd_some F
  refine CW.region ?_
  refine LW.pure rfl rfl (RV.loadA [.slice A_a0_worth a0.worth.length c_a0_worth] Tk24 rfl (H.blk 0 rfl).cells rfl rfl) ?_
  refine LW.go rfl rfl (OW.call Tc25 rfl (cut_Validate_ok (a0 := a0) (h_a0_worth.ext R0) hr1) ?_)
  rintro _ w2 ⟨rfl, E1⟩
  refine ⟨_, rfl, ?_⟩
  replace H := H.grow E1
  replace R0 := H.ext
  refine LW.pure rfl rfl (RV.assign rfl) ?_
  refine LW.nil (hK3 _ _ ?_)
  refine CW.seq fun K4 hK4 => ?_
  refine CW.region ?_
  refine LW.pure rfl rfl (RV.move rfl) ?_
  refine LW.pure rfl rfl (RV.nei rfl rfl) ?_
  refine LW.nil (hK4 _ _ ?_)
  by_cases hp1 : r1 = 0
  ·
    replace F := ite_y hp1 F
    have hq1 := dec_t hp1
    refine CW.condF rfl (not_f hq1) ?_
    refine CW.skip (hK2 _ _ ?_)
    refine CW.seq fun K5 hK5 => ?_
    obtain ⟨r2, hr2, F⟩ := bnd_some F
    refine CW.region ?_
    refine LW.pure rfl rfl (RV.loadA [.slice A_a0_worth a0.worth.length c_a0_worth] Tk24 rfl (H.blk 0 rfl).cells rfl rfl) ?_
    refine LW.go rfl rfl (OW.call Tc88 rfl (cut_all_ok (a0 := a0) (h_a0_worth.ext R0) hr2) ?_)
    rintro _ w3 ⟨A6_0, c6_0, rfl, E2⟩
    refine ⟨_, rfl, ?_⟩
    replace H : Hp w w3 [.own A6_0 c6_0 87 6 (List.map encArr6 r2), .blk b1 24 [.slice A_a0_worth a0.worth.length c_a0_worth]] := H.append E2
    replace R0 := H.ext
    refine LW.pure rfl rfl (RV.len Ts82 rfl) ?_
    refine LW.pure rfl rfl (RV.assign rfl) ?_
    refine LW.pure rfl rfl (RV.assign rfl) ?_
    refine LW.nil (hK5 _ _ ?_)
    refine CW.ret ?_
    obtain rfl := Option.some.inj F
    refine ⟨_, (ResOK.two rfl rfl), ?_⟩
    refine ⟨(by first | rfl | simp), R0⟩
  ·
    replace F := ite_n hp1 F
    have hq1 := dec_f hp1
    refine CW.condT rfl (not_t hq1) ?_
    refine CW.seq fun K6 hK6 => ?_
    refine CW.region ?_
    refine LW.pure rfl rfl (RV.move rfl) ?_
    refine LW.pure rfl rfl (RV.assign rfl) ?_
    refine LW.pure rfl rfl (RV.assign rfl) ?_
    refine LW.nil (hK6 _ _ ?_)
    refine CW.ret ?_
    obtain rfl := Option.some.inj F
    refine ⟨_, (ResOK.two rfl rfl), ?_⟩
    refine ⟨(by first | rfl | simp), R0⟩

end Go.D4

set_option linter.unusedVariables false
namespace Go.D4
open Go.Tb




def cut_isList_1 (cap0 : Bog) (a0 : Int) : Option Bool :=
  bnd (cut_depth cap0) fun r1 =>
  bnd (cut_from a0 ((0 : Int)) r1) fun r2 =>
  some (!r2)
def cut_isList_k1 (t21_1 : Bool) : Option Int :=
  if t21_1 = true then
    some ((1 : Int))
  else
    some ((0 : Int))
def cut_isList (a0 : Bog) (a1 : List Int) : Option Int :=
  bnd (cut_Validate a0) fun r1 =>
  if r1 = 0 then
    if ((a1.length : Int)) = ((a0.worth.length : Int)) then
      bnd (slices_ContainsFunc_int a1 ((fun x0 => cut_isList_1 a0 x0))) fun r2 =>
      cut_isList_k1 r2
    else
      cut_isList_k1 true
  else
    some r1
def cut_right_k1 : Option Bool :=
  some true
def cut_right_B1 (a0 : List Int) (rec1 : Int → Option Bool) (t3_1 : Int) : Option Bool :=
  if t3_1 < ((a0.length : Int)) then
    ix a0 t3_1 fun x1 =>
    gd (InR (t3_1 - 1)) <|
    ix a0 (t3_1 - 1) fun x2 =>
    gd (InR (x1 - x2)) <|
    bnd (cut_from (x1 - x2) ((-1 : Int)) ((1 : Int))) fun r1 =>
    if r1 = true then
      gd (InR (t3_1 + 1)) <|
      rec1 ((t3_1 + 1))
    else
      some false
  else
    cut_right_k1
def cut_right_L1 (a0 : List Int) : Nat → Int → Option Bool
  | 0, _ => none
  | n_ + 1, t3_1 => cut_right_B1 a0 (cut_right_L1 a0 n_) t3_1
theorem cut_right_L1_s {a0 : List Int} {m_ : Nat} {t3_1 : Int} {res : Bool} (h : cut_right_L1 a0 m_ t3_1 = some res) : ∃ k, m_ = k + 1 ∧ cut_right_B1 a0 (cut_right_L1 a0 k) t3_1 = some res := by
  cases m_ with
  | zero => cases h
  | succ k => exact ⟨k, rfl, h⟩
def cut_right (a0 : List Int) : Option Bool :=
  cut_right_L1 a0 FU (((1 : Int)))
def cut_CheckHollow (a0 : Bog) (a1 : List Int) : Option Int :=
  bnd (cut_isList a0 a1) fun r1 =>
  if r1 = 0 then
    bnd (cut_right a1) fun r2 =>
    if r2 = true then
      some ((0 : Int))
    else
      some ((6 : Int))
  else
    some r1
def cut_open (a0 : Bog) (a1 : List Int) (a2 : Int) : Option Bool :=
  bnd (slices_Clone_int a1) fun r1 =>
  ix r1 a2 fun x1 =>
  gd (InR (x1 + 1)) <|
  ix r1 a2 fun x2 =>
  ix ((r1.set (Int.toNat a2) (x1 + 1))) a2 fun x3 =>
  bnd (cut_depth a0) fun r2 =>
  if x3 ≤ r2 then
    bnd (cut_right ((r1.set (Int.toNat a2) (x1 + 1)))) fun r3 =>
    some r3
  else
    some false
def cut_Open_k1 (l1 : List Int) : Option ((List Int) × Int) :=
  some (l1, (0 : Int))
def cut_Open_k2 (t17_1 : Int) (rec1 : Int → (List Int) → Option ((List Int) × Int)) (l2 : List Int) : Option ((List Int) × Int) :=
  gd (InR (t17_1 + 1)) <|
  rec1 ((t17_1 + 1)) l2
def cut_Open_B1 (a0 : Bog) (a1 : List Int) (rec1 : Int → (List Int) → Option ((List Int) × Int)) (t17_1 : Int) (l3 : List Int) : Option ((List Int) × Int) :=
  if t17_1 < ((a1.length : Int)) then
    bnd (cut_open a0 a1 t17_1) fun r1 =>
    if r1 = true then
      gd (l3.length + (([t17_1] : List Int)).length ≤ 1000000) <|
      cut_Open_k2 t17_1 rec1 (((l3 ++ ([t17_1] : List Int))))
    else
      cut_Open_k2 t17_1 rec1 l3
  else
    cut_Open_k1 l3
def cut_Open_L1 (a0 : Bog) (a1 : List Int) : Nat → Int → (List Int) → Option ((List Int) × Int)
  | 0, _, _ => none
  | n_ + 1, t17_1, l3 => cut_Open_B1 a0 a1 (cut_Open_L1 a0 a1 n_) t17_1 l3
theorem cut_Open_L1_s {a0 : Bog} {a1 : List Int} {m_ : Nat} {t17_1 : Int} {l3 : List Int} {res : (List Int) × Int} (h : cut_Open_L1 a0 a1 m_ t17_1 l3 = some res) : ∃ k, m_ = k + 1 ∧ cut_Open_B1 a0 a1 (cut_Open_L1 a0 a1 k) t17_1 l3 = some res := by
  cases m_ with
  | zero => cases h
  | succ k => exact ⟨k, rfl, h⟩
def cut_Open (a0 : Bog) (a1 : List Int) : Option ((List Int) × Int) :=
  bnd (cut_CheckHollow a0 a1) fun r2 =>
  if r2 = 0 then
    cut_Open_L1 a0 a1 FU (((0 : Int))) ((([] : List Int)))
  else
    some (([] : List Int), r2)
def ref04_SameInts_k1 : Option Bool :=
  some true
def ref04_SameInts_B1 (a0 : List Int) (a1 : List Int) (rec1 : Int → Option Bool) (t5_1 : Int) : Option Bool :=
  if t5_1 < ((a0.length : Int)) then
    ix a0 t5_1 fun x1 =>
    ix a1 t5_1 fun x2 =>
    if x1 = x2 then
      gd (InR (t5_1 + 1)) <|
      rec1 ((t5_1 + 1))
    else
      some false
  else
    ref04_SameInts_k1
def ref04_SameInts_L1 (a0 : List Int) (a1 : List Int) : Nat → Int → Option Bool
  | 0, _ => none
  | n_ + 1, t5_1 => ref04_SameInts_B1 a0 a1 (ref04_SameInts_L1 a0 a1 n_) t5_1
theorem ref04_SameInts_L1_s {a0 : List Int} {a1 : List Int} {m_ : Nat} {t5_1 : Int} {res : Bool} (h : ref04_SameInts_L1 a0 a1 m_ t5_1 = some res) : ∃ k, m_ = k + 1 ∧ ref04_SameInts_B1 a0 a1 (ref04_SameInts_L1 a0 a1 k) t5_1 = some res := by
  cases m_ with
  | zero => cases h
  | succ k => exact ⟨k, rfl, h⟩
def ref04_SameInts (a0 : List Int) (a1 : List Int) : Option Bool :=
  if ((a0.length : Int)) = ((a1.length : Int)) then
    ref04_SameInts_L1 a0 a1 FU (((0 : Int)))
  else
    some false
def law04_sane : Option Bool :=
  bnd (cut_Best ((⟨([([-3, 5] : List Int)] : List (List Int))⟩ : Bog))) fun r1 =>
  bnd (cut_Count ((⟨([([1, 1] : List Int), ([1, 1] : List Int)] : List (List Int))⟩ : Bog))) fun r2 =>
  bnd (cut_Open ((⟨([([0] : List Int), ([0] : List Int), ([0] : List Int)] : List (List Int))⟩ : Bog)) (([1, 0, 0] : List Int))) fun r3 =>
  if r1.2.2 = 0 then
    if r1.2.1 = 2 then
      bnd (ref04_SameInts r1.1 (([2] : List Int))) fun r4 =>
      if r4 = true then
        if r2.2 = 0 then
          if r2.1 = 7 then
            if r3.2 = 0 then
              bnd (ref04_SameInts r3.1 (([1, 2] : List Int))) fun r5 =>
              some r5
            else
              some false
          else
            some false
        else
          some false
      else
        some false
    else
      some false
  else
    some false
end Go.D4

