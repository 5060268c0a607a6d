/- Lemmas and walks that the proof of this claim uses: Tb30, Tb31, Tb32, Tb33, D7m1D, D7m2D, D7m3D, D7m4D, D7m5D, D7m6D, TbBulkOpen, D7m7D, D7m8D, D7m9D, D7m10D, D7m11D, D7m12D, D7m14D, D7m15D, D7m16D, D7m17D, D7m18D, Tb34, D7n2D. -/
import Derived.Test.YtmmefcihahcchaaTopPlans0
set_option linter.unusedVariables false
set_option linter.unusedSimpArgs false
namespace Go.Tb
open Go.RowKit
structure FitsD (n : Nat) (ds : List Deferred) (ρ : Env) (a : Act) : Prop where
  defers : a.defers = ds
  fits : Fits n ρ { a with defers := [] }
def liftD (n : Nat) (ds : List Deferred) (Q : Exit → Env → World → Prop) : Exit → Act → World → Prop := fun e a w => ∃ ρ, FitsD n ds ρ a ∧ Q e ρ w
def CWD (P : Program) (n : Nat) (ds : List Deferred) (c : Code) (Q : Exit → Env → World → Prop) (ρ : Env) (w : World) : Prop := ∀ a, FitsD n ds ρ a → c.wp P (liftD n ds Q) a w
def LWD (P : Program) (n : Nat) (ds : List Deferred) (ops : Array Oper) (Q : Exit → Env → World → Prop) (l : List Oper) (ρ : Env) (w : World) : Prop := ∀ a, FitsD n ds ρ a → wpList P ops (liftD n ds Q) l a w
section
variable {P : Program} {n : Nat} {ds : List Deferred} {ops : Array Oper} {Q : Exit → Env → World → Prop} {ρ : Env} {w : World}
theorem eval_defers (a : Act) (l : List Deferred) : ({ a with defers := l } : Act).eval = a.eval := by
  funext x; cases x <;> rfl
theorem OW.toD {o : Oper} {K : Value → World → Prop} (h : OW P n Q o ρ w K) {a : Act} (ha : FitsD n ds ρ a) : wpV P o a w K (fun c w' => Q (.panic c) ρ w') := by
  have := h _ ha.fits
  unfold wpV at this ⊢
  rw [eval_defers] at this
  exact this
theorem FitsD.upd {a : Act} (h : FitsD n ds ρ a) {d : Option Nat} (hd : okDst n d = true) (v : Value) : FitsD n ds (Tb.upd ρ d v) (a.put d v) := by
  have := h.fits.upd hd v
  refine ⟨?_, ?_⟩
  · cases d <;> exact h.defers
  · cases d <;> exact this
theorem LWD.go {o : Oper} {rest : List Oper} (hg : o.guard = none) (hd : okDst n o.dst = true) (h : OW P n Q o ρ w (fun v w' => LWD P n ds ops Q rest (upd ρ o.dst v) w')) : LWD P n ds ops Q (o :: rest) ρ w := fun a ha => by
  unfold wpList
  rw [if_pos (by simp [Region.wanted, hg])]
  exact .inl (wp_of_wpV (h.toD ha) (fun v w' hk => hk _ (ha.upd hd v)) (fun c w' hk => ⟨ρ, ha, hk⟩))
theorem LWD.pure {o : Oper} {rest : List Oper} {v : Value} (hg : o.guard = none) (hd : okDst n o.dst = true) (h : RV P n o ρ w v) (k : LWD P n ds ops Q rest (upd ρ o.dst v) w) : LWD P n ds ops Q (o :: rest) ρ w :=
  LWD.go hg hd (OW.value h k)
theorem LWD.nil (h : Q .normal ρ w) : LWD P n ds ops Q [] ρ w := fun _ ha => wpList_nil ⟨ρ, ha, h⟩
theorem CWD.region {id : Nat} {l : List Oper} (h : LWD P n ds l.toArray Q l ρ w) : CWD P n ds (.region id l.toArray false) Q ρ w := fun a ha => wp_region_lit (h a ha)
theorem CWD.seq {x y : Code} (h : CWD P n ds x (thenE (fun ρ w => CWD P n ds y Q ρ w) Q) ρ w) : CWD P n ds (.seq x y) Q ρ w := fun a ha => by
  refine wp_seq (wp_mono (h a ha) fun e a' w' hq => ?_)
  obtain ⟨ρ', hf, hq⟩ := hq
  cases e <;> first | exact hq a' hf | exact ⟨ρ', hf, hq⟩
theorem CWD.ret (h : Q .ret ρ w) : CWD P n ds .ret Q ρ w := fun _ ha => wp_ret ⟨ρ, ha, h⟩
variable {d : Option Tmp} {ty : TypeId} {pos : String} {after : Array Edge} {g : Option (Nat × Bool)} {K : Value → World → Prop}
end
end Go.Tb
namespace Go.Tb
theorem Fits.empty {n : Nat} {a : Act} (hd : a.defers = []) (hs : a.tmps.size = n) : Fits n [] a := ⟨hd, hs, fun t v h => by simp [Tb.look] at h⟩
theorem Fits.add {n k : Nat} {v : Value} {ρ : Env} {a : Act} (h : Fits n ρ a) (hv : a.tmps[k]? = some v) : Fits n ((k, v) :: ρ) a := ⟨h.defers, h.size, fun t u hl => by
  unfold Tb.look at hl
  split at hl
  · rename_i hb
    have : k = t := Nat.eq_of_beq_eq_true hb
    subst this
    simp at hl; subst hl; exact hv
  · exact h.at_ t u hl⟩
end Go.Tb
namespace Go.Tb
section
variable {P : Program} {n : Nat} {ops : Array Oper} {Q : Exit → Act → World → Prop} {a : Act} {w : World} {ρ : Env}
end
end Go.Tb
namespace Go.Tb
section
variable {P : Program} {n : Nat} {ρ : Env} {w : World} {d : Option Tmp} {ty : TypeId} {pos : String} {after : Array Edge} {g : Option (Nat × Bool)}
end
end Go.Tb
namespace Go.Tb
section
variable {P : Program} {n : Nat} {ρ : Env} {w : World} {d : Option Tmp} {ty : TypeId} {pos : String} {after : Array Edge} {g : Option (Nat × Bool)}
end
end Go.Tb

set_option linter.unusedVariables false
namespace Go.Tb
structure SlT {α β : Type} (w : World) (A : Option Addr) (c k : Nat) (enc : (Option Addr × Nat) × α → List Value) (f : α → List β) (k2 : Nat) (enc2 : β → List Value) (l : List α) : Prop where
  ex : ∃ hs : List (Option Addr × Nat), hs.length = l.length ∧ Sl w A c k ((hs.zip l).map enc) ∧ ∀ (j : Nat) (h : Option Addr × Nat) (x : α), hs[j]? = some h → l[j]? = some x → Sl w h.1 h.2 k2 ((f x).map enc2)
section
variable {α β : Type} {w w' : World} {A : Option Addr} {c k k2 : Nat} {enc : (Option Addr × Nat) × α → List Value} {f : α → List β} {enc2 : β → List Value} {l : List α}
theorem SlT.ext (h : SlT w A c k enc f k2 enc2 l) (e : Ext w w') : SlT w' A c k enc f k2 enc2 l := by
  obtain ⟨hs, h1, h2, h3⟩ := h.ex
  exact ⟨hs, h1, h2.ext e, fun j h x hj hx => (h3 j h x hj hx).ext e⟩
theorem SlT.at_ (h : SlT w A c k enc f k2 enc2 l) {j : Nat} {x : α} (hx : l[j]? = some x) : ∃ (Aj : Option Addr) (cj : Nat), Cells w (elemPtr A k j) (enc ((Aj, cj), x)) ∧ Sl w Aj cj k2 ((f x).map enc2) := by
  obtain ⟨hs, h1, h2, h3⟩ := h.ex
  have hlt := lt_of_at hx
  have hh : hs[j]? = some hs[j] := by simp [h1, hlt]
  refine ⟨hs[j].1, hs[j].2, ?_, h3 j _ x hh hx⟩
  exact h2.at_ (enc := enc) (x := (hs[j], x)) (by simp [List.getElem?_zip_eq_some, hh, hx])
theorem SlT.addr (h : SlT w A c k enc f k2 enc2 l) {i : Int} (h0 : 0 ≤ i ∧ i < l.length) : ∃ a, A = some a := by
  obtain ⟨hs, h1, h2, _⟩ := h.ex
  exact h2.addr (i := i) (by simp [h1]; omega)
theorem SlT.max (h : SlT w A c k enc f k2 enc2 l) : (l.length : Int) ≤ 9223372036854775807 := by
  obtain ⟨hs, h1, h2, _⟩ := h.ex
  have := h2.max
  simp [h1] at this
  omega
theorem SlT.nil_ : SlT w none 0 k enc f k2 enc2 [] := ⟨⟨[], rfl, Sl.nil (by decide), fun j h l hj => by simp at hj⟩⟩
end
end Go.Tb

set_option linter.unusedVariables false
namespace Go.Tb
open Go.RowKit
section
variable {P : Program} {n : Nat} {ops : Array Oper} {Q : Exit → Env → World → Prop} {ρ : Env} {w : World} {d : Option Tmp} {ty : TypeId} {pos : String} {after : Array Edge} {g : Option (Nat × Bool)} {K : Value → World → Prop}
/-- What an assertion to the type q gives, with its word on whether it holds. -/
def AssertM (P : Program) (q : TypeId) (v r : Value) : Prop := ∀ (t : TypeId) (w : World), (Instr.typeAssert v t q true).run P w = .ok r w
theorem RV.assertM {t q : Nat} {x : Operand} {v r : Value} (hx : ev ρ x = some v) (h : AssertM P q v r) : RV P n ⟨d, .typeAssert x t q true, ty, pos, after, g⟩ ρ w r := fun a ha => by
  simp only [execOp, ha.ev hx, Sem.run_bind, h t w, Result.andThen_ok, Sem.run_pure]
theorem AssertM.yes {q : TypeId} {fs : TypeDesc} {v : Value} (hT : P.underlying q = some fs) (hn : (match fs with | .interface _ => true | _ => false) = false) : AssertM P q (.iface q v) (.tuple #[v, .bool true]) := fun t w => by
  simp only [Instr.typeAssert, Sem.run_bind, run_underlying hT, Result.andThen_ok]
  cases fs <;> simp_all
theorem zeroV_run {q : TypeId} {z : Value} (hz : tyZ P q = some z) (w : World) : (zeroValue q).run P w = .ok z w := by
  unfold tyZ at hz
  cases hi : P.info? q with
  | none => simp [hi] at hz
  | some i => simp [hi] at hz; simp [zeroValue, typeInfo, hi, hz]
theorem AssertM.no {q q' : TypeId} {fs : TypeDesc} {v z : Value} (hT : P.underlying q = some fs) (hn : (match fs with | .interface _ => true | _ => false) = false) (hz : tyZ P q = some z) (hq : q' ≠ q) : AssertM P q (.iface q' v) (.tuple #[z, .bool false]) := fun t w => by
  simp only [Instr.typeAssert, Sem.run_bind, run_underlying hT, Result.andThen_ok]
  cases fs <;> simp_all [zeroV_run hz]
theorem AssertM.nil {q : TypeId} {fs : TypeDesc} {z : Value} (hT : P.underlying q = some fs) (hn : (match fs with | .interface _ => true | _ => false) = false) (hz : tyZ P q = some z) : AssertM P q .nilIface (.tuple #[z, .bool false]) := fun t w => by
  simp only [Instr.typeAssert, Sem.run_bind, run_underlying hT, Result.andThen_ok]
  cases fs <;> simp_all [zeroV_run hz]
/-- A method called through an interface. -/
def CallsM (P : Program) (v : Value) (name : String) (args : List Value) (w : World) (R : Ending → World → Prop) : Prop :=
  ∃ (t : TypeId) (u : Value) (f : FuncId) (r : Value), v = .iface t u ∧ (∀ w, (method (P.types.size + Made.depth) t u name).run P w = .ok (f, r) w) ∧ callable P f = true ∧ Calls P f (r :: args).toArray w R
theorem OW.invoke {recv : Operand} {name : String} {args : Array Operand} {tys : Array TypeId} {vs : List Value} {v : Value} {R : Ending → World → Prop} (hx : ev ρ recv = some v) (hargs : evs ρ args.toList = some vs)
    (hc : CallsM P v name vs w R) (k : ∀ e w', R e w' → ∃ v, e = .returned v ∧ K v w') : OW P n Q ⟨d, .call ⟨.invoke recv name, args, tys⟩, ty, pos, after, g⟩ ρ w K := by
  obtain ⟨t, u, f, r, rfl, hm, hf, hc⟩ := hc
  refine OW.enters (f := f) (args := (r :: vs).toArray) (fun a ha => ?_) hc k
  have h1 : args.map a.eval = vs.toArray := by
    have := ha.evs hargs
    apply Array.toList_inj.1
    rw [Array.toList_map]; exact this
  have hx' := ha.ev hx
  simp only [execOp, resolve, hx', Sem.run_bind, Sem.run_pure, Result.andThen_ok, Go.invoke]
  rw [show (Array.map a.eval args) = vs.toArray from h1]
  have e0 : (#[Value.iface t u] ++ vs.toArray)[0]? = some (.iface t u) := by simp
  have e1 : (#[Value.iface t u] ++ vs.toArray).extract 1 (#[Value.iface t u] ++ vs.toArray).size = vs.toArray := by
    apply Array.toList_inj.1; simp
  simp only [e0, callMethod, Sem.run_bind]
  rw [e1]
  have hp : (program : Sem Program).run P w = .ok P w := rfl
  rw [hp]
  simp only [Result.andThen_ok, hm w]
  have e2 : (#[r] ++ vs.toArray) = (r :: vs).toArray := by
    apply Array.toList_inj.1; simp
  rw [e2]
  exact run_callFunc hf _
theorem Cells.arr {α : Type} {p : Addr} {e : α → Value} {l : List α} {j : Nat} {x : α} (h : Cells w p (l.map e)) (hx : l[j]? = some x) : Cells w (elemPtr (some p) 1 j) [e x] := fun i v hi => by
  match i, hi with
  | 0, hi =>
    cases hi
    have := h j (e x) (by rw [List.getElem?_map, hx]; rfl)
    simpa [elemPtr, add_add] using this
end
structure Sl3 {α : Type} (w : World) (A : Option Addr) (c k : Nat) (enc : α → List Value) (lll : List (List (List α))) : Prop where
  ex : ∃ hs : List (Option Addr × Nat), hs.length = lll.length ∧ Sl w A c 1 ((hs.zip lll).map encH) ∧ ∀ (j : Nat) (h : Option Addr × Nat) (l : List (List α)), hs[j]? = some h → lll[j]? = some l → Sl2 w h.1 h.2 k enc l
section
variable {α : Type} {w w' : World} {A : Option Addr} {c k : Nat} {enc : α → List Value} {ll : List (List (List α))}
theorem Sl3.ext (h : Sl3 w A c k enc ll) (e : Ext w w') : Sl3 w' A c k enc ll := by
  obtain ⟨hs, h1, h2, h3⟩ := h.ex
  exact ⟨hs, h1, h2.ext e, fun j h l hj hl => (h3 j h l hj hl).ext e⟩
theorem Sl3.at_ (h : Sl3 w A c k enc ll) {j : Nat} {l : List (List α)} (hl : ll[j]? = some l) : ∃ (Aj : Option Addr) (cj : Nat), Cells w (elemPtr A 1 j) [.slice Aj l.length cj] ∧ Sl2 w Aj cj k enc l := by
  obtain ⟨hs, h1, h2, h3⟩ := h.ex
  have hlt := lt_of_at hl
  have hh : hs[j]? = some hs[j] := by simp [h1, hlt]
  refine ⟨hs[j].1, hs[j].2, ?_, h3 j _ l hh hl⟩
  exact h2.at_ (enc := encH) (x := (hs[j], l)) (by simp [List.getElem?_zip_eq_some, hh, hl])
theorem Sl3.addr (h : Sl3 w A c k enc ll) {i : Int} (h0 : 0 ≤ i ∧ i < ll.length) : ∃ a, A = some a := by
  obtain ⟨hs, h1, h2, _⟩ := h.ex
  exact h2.addr (i := i) (by simp [h1]; omega)
theorem Sl3.nil_ : Sl3 w none 0 k enc ([] : List (List (List α))) := ⟨⟨[], rfl, Sl.nil (by decide), fun j h l hj => by simp at hj⟩⟩
theorem Sl3.one {A1 : Option Addr} {c1 : Nat} {l1 : List (List α)} (h : Sl w A c 1 ([((A1, c1), l1)].map encH)) (s1 : Sl2 w A1 c1 k enc l1) : Sl3 w A c k enc [l1] := by
  refine ⟨[(A1, c1)], rfl, h, fun j x l hj hl => ?_⟩
  match j, hj, hl with
  | 0, hj, hl => simp at hj hl; subst hj; subst hl; exact s1
end
end Go.Tb

set_option linter.unusedVariables false
set_option linter.unusedSimpArgs false
namespace Go.Tb
open Go.RowKit
section
variable {P : Program} {n : Nat} {ops : Array Oper} {Q : Exit → Env → World → Prop} {ρ : Env} {w : World}
variable {d : Option Tmp} {ty : TypeId} {pos : String} {after : Array Edge} {g : Option (Nat × Bool)} {K : Value → World → Prop}
theorem OW.appendZ {α : Type} {enc : α → List Value} (x0 : α) {t tn e m bt : Nat} {kn : IntKind} {z : List Value} {x y : Operand} {k : Int} (hT : tyS P t = some (e, m, bt, z)) (htn : P.underlying tn = some (.int kn))
    (hx : ev ρ x = some (.slice none 0 0)) (hy : ev ρ y = some (.int .i64 k)) (hz : enc x0 = z) (hzl : z.length = m) (hk : ∀ u, (enc u).length = m) (hm0 : Nat.blt 0 m = true) (h : 1 ≤ k ∧ k ≤ 1000000) (hb : bt ≤ 1000000)
    (kk : ∀ b c w', Own w' (some ⟨b, 0, none⟩) c e m ((List.replicate k.toNat x0).map enc) → b = w.heap.size → Ext w w' → K (.slice (some ⟨b, 0, none⟩) (List.replicate k.toNat x0).length c) w') :
    OW P n Q ⟨d, .call ⟨.builtin .append, #[x, y], #[t, tn]⟩, ty, pos, after, g⟩ ρ w K := by
  obtain ⟨hu, i, zv, hi, hs1, hs2, hs3, hs4⟩ := tyS_spec hT
  have hm0' : 0 < m := by simpa [Nat.blt_eq] using hm0
  subst hs1
  have hn0 : 0 < k.toNat := by omega
  have hbytes : (0 + k.toNat) * bt ≤ 140737488355328 := by
    have : k.toNat * bt ≤ 1000000 * 1000000 := Nat.mul_le_mul (by omega) hb
    rw [Nat.zero_add]; omega
  have hold : (Builtin.firstCells i.size 0 (.slice none 0 0)).run P w.drew = .ok (([] : List Value).toArray) w.drew := run_firstCells_none _ _ _ _ _
  have hr := Lib.run_append_grow_zeros (P := P) w t tn ty e i zv .i64 kn hu htn hi hs3 none 0 0 [] hold k.toNat hn0 hm0' (by omega) (by omega) (by rw [hs2]; rw [Nat.zero_add] at hbytes; omega) (growslice_fits (by omega) (by rw [hs2]; exact hbytes))
  have hge := grownCap_ge w (0 + k.toNat) 0 e
  have hcm : grownCap w (0 + k.toNat) 0 e ≤ maxLen := grownCap_le_maxLen w (0 + k.toNat) 0 e (by unfold maxLen; omega)
  simp only [Nat.zero_add] at hr hge hcm
  have hzs : zv.cells.size = i.size := by rw [← hzl, ← hs4]; simp
  have hzc : Builtin.zeroCells zv.cells k.toNat = ((List.replicate k.toNat x0).flatMap enc).toArray := by
    have := zero_flat (x0 := x0) (c := k.toNat) hz hzl hm0
    rw [← this, ← hs4]
  refine OW.value (w' := w.drew.alloc (.cells (([] : List Value).toArray ++ Builtin.zeroCells zv.cells k.toNat ++ Builtin.zeroCells zv.cells (grownCap w k.toNat 0 e - k.toNat)) e)) (v := .slice (some ⟨w.heap.size, 0, none⟩) k.toNat (grownCap w k.toNat 0 e)) (fun a ha => ?_) ?_
  · have e1 : ((k.toNat : Nat) : Int) = k := by omega
    rw [e1] at hr
    simp [execOp, resolve, ha.ev hx, ha.ev hy, Go.invoke, builtin, hr]
  · have e2 : k.toNat = (List.replicate k.toNat x0).length := by simp
    have hL : ((List.replicate k.toNat x0).flatMap enc).length = k.toNat * i.size := by rw [len_flatMap hk]; simp
    have own : Own (w.drew.alloc (.cells (([] : List Value).toArray ++ Builtin.zeroCells zv.cells k.toNat ++ Builtin.zeroCells zv.cells (grownCap w k.toNat 0 e - k.toNat)) e)) (some ⟨w.heap.size, 0, none⟩) (grownCap w k.toNat 0 e) e i.size ((List.replicate k.toNat x0).map enc) := by
      refine ⟨⟨?_, .inr ⟨w.heap.size, _, _, ?_, Nat.zero_le _, heap_alloc_new w.drew _, ?_, hcm, ?_, ?_⟩⟩, ?_⟩
      · rw [← List.flatMap_def, hL]; simp
      · rw [List.length_map]
      · simpa using hge
      · simp only [Array.size_append, List.size_toArray, size_zeroCells, hzs, List.length_nil, Nat.zero_add, ← Nat.add_mul]
        congr 1; omega
      · simp only [hzc, Array.toList_append, List.nil_append, List.length_map, List.length_replicate]
        rw [← List.flatMap_def, ← hL]
        exact List.take_left
      · intro r hr
        obtain ⟨q, _, rfl⟩ := List.mem_map.1 hr
        exact hk q
    have := kk w.heap.size _ _ own rfl (Below.alloc (Below.drew_ (Below.refl _ _)) (Nat.le_refl _) _)
    rw [List.length_replicate] at this
    exact this
end
end Go.Tb

set_option linter.unusedVariables false
namespace Go.D7
open Go.Tb
structure Trade where
  supply : List Int
  demand : List Int
  cost : List (List Int)
def law07_table_k1 (a0 : List (List Int)) : Option Bool :=
  some (decide ((50 : Int) < ((a0.length : Int))))
def law07_table_B1 (a0 : List (List Int)) (rec1 : Int → Option Bool) (t3_1 : Int) : Option Bool :=
  if t3_1 < ((a0.length : Int)) then
    ix a0 t3_1 fun x1 =>
    if (50 : Int) < ((x1.length : Int)) then
      some true
    else
      gd (InR (t3_1 + 1)) <|
      rec1 ((t3_1 + 1))
  else
    law07_table_k1 a0
def law07_table_L1 (a0 : List (List Int)) : Nat → Int → Option Bool
  | 0, _ => none
  | n_ + 1, t3_1 => law07_table_B1 a0 (law07_table_L1 a0 n_) t3_1
theorem law07_table_L1_s {a0 : List (List Int)} {m_ : Nat} {t3_1 : Int} {res : Bool} (h : law07_table_L1 a0 m_ t3_1 = some res) : ∃ k, m_ = k + 1 ∧ law07_table_B1 a0 (law07_table_L1 a0 k) t3_1 = some res := by
  cases m_ with
  | zero => cases h
  | succ k => exact ⟨k, rfl, h⟩
def law07_table (a0 : List (List Int)) : Option Bool :=
  law07_table_L1 a0 FU (((0 : Int)))
def law07_Long_k1 (a0 : Trade) : Option Bool :=
  if (50 : Int) < ((a0.supply.length : Int)) then
    some true
  else
    if (50 : Int) < ((a0.demand.length : Int)) then
      some true
    else
      bnd (law07_table a0.cost) fun r1 =>
      some r1
def law07_Long_B1 (a0 : Trade) (a1 : List (List (List Int))) (rec1 : Int → Option Bool) (t5_1 : Int) : Option Bool :=
  if t5_1 < ((a1.length : Int)) then
    ix a1 t5_1 fun x1 =>
    bnd (law07_table x1) fun r2 =>
    if r2 = true then
      some true
    else
      gd (InR (t5_1 + 1)) <|
      rec1 ((t5_1 + 1))
  else
    law07_Long_k1 a0
def law07_Long_L1 (a0 : Trade) (a1 : List (List (List Int))) : Nat → Int → Option Bool
  | 0, _ => none
  | n_ + 1, t5_1 => law07_Long_B1 a0 a1 (law07_Long_L1 a0 a1 n_) t5_1
theorem law07_Long_L1_s {a0 : Trade} {a1 : List (List (List Int))} {m_ : Nat} {t5_1 : Int} {res : Bool} (h : law07_Long_L1 a0 a1 m_ t5_1 = some res) : ∃ k, m_ = k + 1 ∧ law07_Long_B1 a0 a1 (law07_Long_L1 a0 a1 k) t5_1 = some res := by
  cases m_ with
  | zero => cases h
  | succ k => exact ⟨k, rfl, h⟩
def law07_Long (a0 : Trade) (a1 : List (List (List Int))) : Option Bool :=
  law07_Long_L1 a0 a1 FU (((0 : Int)))
def bulk_within (a0 : Int) (a1 : Int) (a2 : Int) : Option Bool :=
  if a1 ≤ a0 then
    some (decide (a0 ≤ a2))
  else
    some false
def slices_IndexFunc_int_k1 : Option Int :=
  some ((-1 : Int))
def slices_IndexFunc_int_B1 (a0 : List Int) (a1 : Int → Option Bool) (rec1 : Int → Option Int) (t8_1 : Int) : Option Int :=
  if t8_1 < ((a0.length : Int)) then
    ix a0 t8_1 fun x1 =>
    bnd (a1 x1) fun r1 =>
    if r1 = true then
      some t8_1
    else
      gd (InR (t8_1 + 1)) <|
      rec1 ((t8_1 + 1))
  else
    slices_IndexFunc_int_k1
def slices_IndexFunc_int_L1 (a0 : List Int) (a1 : Int → Option Bool) : Nat → Int → Option Int
  | 0, _ => none
  | n_ + 1, t8_1 => slices_IndexFunc_int_B1 a0 a1 (slices_IndexFunc_int_L1 a0 a1 n_) t8_1
theorem slices_IndexFunc_int_L1_s {a0 : List Int} {a1 : Int → Option Bool} {m_ : Nat} {t8_1 : Int} {res : Int} (h : slices_IndexFunc_int_L1 a0 a1 m_ t8_1 = some res) : ∃ k, m_ = k + 1 ∧ slices_IndexFunc_int_B1 a0 a1 (slices_IndexFunc_int_L1 a0 a1 k) t8_1 = some res := by
  cases m_ with
  | zero => cases h
  | succ k => exact ⟨k, rfl, h⟩
def slices_IndexFunc_int (a0 : List Int) (a1 : Int → Option Bool) : Option Int :=
  slices_IndexFunc_int_L1 a0 a1 FU (((0 : Int)))
def slices_ContainsFunc_int (a0 : List Int) (a1 : Int → Option Bool) : Option Bool :=
  bnd (slices_IndexFunc_int a0 a1) fun r1 =>
  some (decide ((0 : Int) ≤ r1))
def bulk_amounts_1 (a0 : Int) : Option Bool :=
  bnd (bulk_within a0 ((0 : Int)) ((30 : Int))) fun r1 =>
  some (!r1)
def bulk_amounts (a0 : List Int) : Option Bool :=
  bnd (bulk_within ((a0.length : Int)) ((1 : Int)) ((4 : Int))) fun r1 =>
  if r1 = true then
    bnd (slices_ContainsFunc_int a0 bulk_amounts_1) fun r2 =>
    some (!r2)
  else
    some false
def bulk_total_k1 (t3_1 : Int) : Option Int :=
  some t3_1
def bulk_total_B1 (a0 : List Int) (rec1 : Int → Int → Option Int) (t3_2 : Int) (t8_1 : Int) : Option Int :=
  if t8_1 < ((a0.length : Int)) then
    ix a0 t8_1 fun x1 =>
    gd (InR (t3_2 + x1)) <|
    gd (InR (t8_1 + 1)) <|
    rec1 ((t3_2 + x1)) ((t8_1 + 1))
  else
    bulk_total_k1 t3_2
def bulk_total_L1 (a0 : List Int) : Nat → Int → Int → Option Int
  | 0, _, _ => none
  | n_ + 1, t3_2, t8_1 => bulk_total_B1 a0 (bulk_total_L1 a0 n_) t3_2 t8_1
theorem bulk_total_L1_s {a0 : List Int} {m_ : Nat} {t3_2 : Int} {t8_1 : Int} {res : Int} (h : bulk_total_L1 a0 m_ t3_2 t8_1 = some res) : ∃ k, m_ = k + 1 ∧ bulk_total_B1 a0 (bulk_total_L1 a0 k) t3_2 t8_1 = some res := by
  cases m_ with
  | zero => cases h
  | succ k => exact ⟨k, rfl, h⟩
def bulk_total (a0 : List Int) : Option Int :=
  bulk_total_L1 a0 FU (((0 : Int))) (((0 : Int)))
def bulk_table_1 (cap0 : Int) (a0 : Int) : Option Bool :=
  bnd (bulk_within a0 ((0 : Int)) cap0) fun r1 =>
  some (!r1)
def bulk_table_k1 : Option Bool :=
  some true
def bulk_table_k2 (t17_1 : Int) (rec1 : Int → Option Bool) (t31_1 : Bool) : Option Bool :=
  if t31_1 = true then
    some false
  else
    gd (InR (t17_1 + 1)) <|
    rec1 ((t17_1 + 1))
def bulk_table_B1 (a0 : Trade) (a1 : List (List Int)) (a2 : Int) (rec1 : Int → Option Bool) (t17_1 : Int) : Option Bool :=
  if t17_1 < ((a1.length : Int)) then
    ix a1 t17_1 fun x1 =>
    if ((x1.length : Int)) = ((a0.demand.length : Int)) then
      bnd (slices_ContainsFunc_int x1 ((fun x2 => bulk_table_1 a2 x2))) fun r1 =>
      bulk_table_k2 t17_1 rec1 r1
    else
      bulk_table_k2 t17_1 rec1 true
  else
    bulk_table_k1
def bulk_table_L1 (a0 : Trade) (a1 : List (List Int)) (a2 : Int) : Nat → Int → Option Bool
  | 0, _ => none
  | n_ + 1, t17_1 => bulk_table_B1 a0 a1 a2 (bulk_table_L1 a0 a1 a2 n_) t17_1
theorem bulk_table_L1_s {a0 : Trade} {a1 : List (List Int)} {a2 : Int} {m_ : Nat} {t17_1 : Int} {res : Bool} (h : bulk_table_L1 a0 a1 a2 m_ t17_1 = some res) : ∃ k, m_ = k + 1 ∧ bulk_table_B1 a0 a1 a2 (bulk_table_L1 a0 a1 a2 k) t17_1 = some res := by
  cases m_ with
  | zero => cases h
  | succ k => exact ⟨k, rfl, h⟩
def bulk_table (a0 : Trade) (a1 : List (List Int)) (a2 : Int) : Option Bool :=
  if ((a1.length : Int)) = ((a0.supply.length : Int)) then
    bulk_table_L1 a0 a1 a2 FU (((0 : Int)))
  else
    some false
def bulk_Validate_k1 (t28_1 : Bool) : Option Int :=
  if t28_1 = true then
    some ((1 : Int))
  else
    some ((0 : Int))
def bulk_Validate (a0 : Trade) : Option Int :=
  bnd (bulk_amounts a0.supply) fun r1 =>
  if r1 = true then
    bnd (bulk_amounts a0.demand) fun r2 =>
    if r2 = true then
      bnd (bulk_total a0.supply) fun r3 =>
      bnd (bulk_total a0.demand) fun r4 =>
      if r3 = r4 then
        bnd (bulk_table a0 a0.cost ((99 : Int))) fun r5 =>
        bulk_Validate_k1 ((!r5))
      else
        bulk_Validate_k1 true
    else
      bulk_Validate_k1 true
  else
    bulk_Validate_k1 true
end Go.D7

set_option linter.unusedVariables false
namespace Go.D7
open Go.Tb
structure More where
  store : Int
  buyer : Int
structure Less where
  store : Int
  buyer : Int
inductive Step where
  | nil
  | i_less (x : Less)
  | i_more (x : More)
def encStepV : Step → Value
  | .nil => .nilIface
  | .i_less x => .iface 102 (.agg #[.int .i64 x.store, .int .i64 x.buyer])
  | .i_more x => .iface 104 (.agg #[.int .i64 x.store, .int .i64 x.buyer])
def encStep (x : Step) : List Value := [encStepV x]
def Step.isLess : Step → Bool
  | .i_less _ => true
  | _ => false
def Step.asLess : Step → Less
  | .i_less x => x
  | _ => (⟨0, 0⟩ : Less)
def Step.isMore : Step → Bool
  | .i_more _ => true
  | _ => false
def Step.asMore : Step → More
  | .i_more x => x
  | _ => (⟨0, 0⟩ : More)
def bulk_empty_k1 (m1 : List (List Int)) : Option ((List (List Int))) :=
  some m1
def bulk_empty_B1 (a0 : Trade) (rec1 : Int → (List (List Int)) → Option ((List (List Int)))) (t11_1 : Int) (m2 : List (List Int)) : Option ((List (List Int))) :=
  if t11_1 < (((List.replicate (Int.toNat ((a0.supply.length : Int))) (() : Unit)).length : Int)) then
    gd (0 ≤ (a0.demand.length : Int) ∧ ((a0.demand.length : Int)) ≤ 1000000) <|
    ix m2 t11_1 fun x1 =>
    gd (InR (t11_1 + 1)) <|
    rec1 ((t11_1 + 1)) (((m2.set (Int.toNat t11_1) ((List.replicate (Int.toNat ((a0.demand.length : Int))) (0 : Int))))))
  else
    bulk_empty_k1 m2
def bulk_empty_L1 (a0 : Trade) : Nat → Int → (List (List Int)) → Option ((List (List Int)))
  | 0, _, _ => none
  | n_ + 1, t11_1, m2 => bulk_empty_B1 a0 (bulk_empty_L1 a0 n_) t11_1 m2
theorem bulk_empty_L1_s {a0 : Trade} {m_ : Nat} {t11_1 : Int} {m2 : List (List Int)} {res : (List (List Int))} (h : bulk_empty_L1 a0 m_ t11_1 m2 = some res) : ∃ k, m_ = k + 1 ∧ bulk_empty_B1 a0 (bulk_empty_L1 a0 k) t11_1 m2 = some res := by
  cases m_ with
  | zero => cases h
  | succ k => exact ⟨k, rfl, h⟩
def bulk_empty (a0 : Trade) : Option ((List (List Int))) :=
  gd (0 ≤ (a0.supply.length : Int) ∧ ((a0.supply.length : Int)) ≤ 1000000) <|
  bulk_empty_L1 a0 FU (((0 : Int))) (((List.replicate (Int.toNat ((a0.supply.length : Int))) ([] : List Int))))
def slices_Clone_int (a0 : List Int) : Option (List Int) :=
  gd ((([] : List Int)).length + a0.length ≤ 1000000) <|
  some ((([] : List Int) ++ a0))
def bulk_corner_k1 (m1 : List (List Int)) : Option ((List (List Int))) :=
  some m1
def bulk_corner_k2 (t6_1 : Int) (t7_1 : Int) (m2 : List (List Int)) (l1 : List Int) (l2 : List Int) (rec1 : Int → Int → (List (List Int)) → (List Int) → (List Int) → Option ((List (List Int)))) (t26_1 : Bool) : Option ((List (List Int))) :=
  if t26_1 = true then
    ix l1 t6_1 fun x1 =>
    ix l2 t7_1 fun x2 =>
    ix m2 t6_1 fun x3 =>
    ix x3 t7_1 fun x4 =>
    ix l1 t6_1 fun x5 =>
    gd (InR (x5 - (min x1 x2))) <|
    ix l1 t6_1 fun x6 =>
    ix l2 t7_1 fun x7 =>
    gd (InR (x7 - (min x1 x2))) <|
    ix l2 t7_1 fun x8 =>
    ix ((l1.set (Int.toNat t6_1) (x5 - (min x1 x2)))) t6_1 fun x9 =>
    if x9 = 0 then
      gd (InR (t6_1 + 1)) <|
      rec1 ((t6_1 + 1)) t7_1 (((m2.set (Int.toNat t6_1) (x3.set (Int.toNat t7_1) (min x1 x2))))) (((l1.set (Int.toNat t6_1) (x5 - (min x1 x2))))) (((l2.set (Int.toNat t7_1) (x7 - (min x1 x2)))))
    else
      gd (InR (t7_1 + 1)) <|
      rec1 t6_1 ((t7_1 + 1)) (((m2.set (Int.toNat t6_1) (x3.set (Int.toNat t7_1) (min x1 x2))))) (((l1.set (Int.toNat t6_1) (x5 - (min x1 x2))))) (((l2.set (Int.toNat t7_1) (x7 - (min x1 x2)))))
  else
    bulk_corner_k1 m2
def bulk_corner_B1 (rec1 : Int → Int → (List (List Int)) → (List Int) → (List Int) → Option ((List (List Int)))) (t6_1 : Int) (t7_1 : Int) (m2 : List (List Int)) (l1 : List Int) (l2 : List Int) : Option ((List (List Int))) :=
  if t6_1 < ((l1.length : Int)) then
    bulk_corner_k2 t6_1 t7_1 m2 l1 l2 rec1 ((decide (t7_1 < ((l2.length : Int)))))
  else
    bulk_corner_k2 t6_1 t7_1 m2 l1 l2 rec1 false
def bulk_corner_L1 : Nat → Int → Int → (List (List Int)) → (List Int) → (List Int) → Option ((List (List Int)))
  | 0, _, _, _, _, _ => none
  | n_ + 1, t6_1, t7_1, m2, l1, l2 => bulk_corner_B1 (bulk_corner_L1 n_) t6_1 t7_1 m2 l1 l2
theorem bulk_corner_L1_s {m_ : Nat} {t6_1 : Int} {t7_1 : Int} {m2 : List (List Int)} {l1 : List Int} {l2 : List Int} {res : (List (List Int))} (h : bulk_corner_L1 m_ t6_1 t7_1 m2 l1 l2 = some res) : ∃ k, m_ = k + 1 ∧ bulk_corner_B1 (bulk_corner_L1 k) t6_1 t7_1 m2 l1 l2 = some res := by
  cases m_ with
  | zero => cases h
  | succ k => exact ⟨k, rfl, h⟩
def bulk_corner (a0 : Trade) : Option ((List (List Int))) :=
  bnd (bulk_empty a0) fun r1 =>
  bnd (slices_Clone_int a0.supply) fun r2 =>
  bnd (slices_Clone_int a0.demand) fun r3 =>
  bulk_corner_L1 FU (((0 : Int))) (((0 : Int))) r1 r2 r3
def bulk_steps_k1 (l1 : List Step) : Option ((List Step)) :=
  some l1
def bulk_steps_k2 (t12_1 : Int) (rec1 : Int → (List Step) → Option ((List Step))) (l2 : List Step) : Option ((List Step)) :=
  gd (InR (t12_1 + 1)) <|
  rec1 ((t12_1 + 1)) l2
def bulk_steps_k3 (t19_1 : Int) (rec2 : Int → (List Step) → Option ((List Step))) (l3 : List Step) : Option ((List Step)) :=
  gd (InR (t19_1 + 1)) <|
  rec2 ((t19_1 + 1)) l3
def bulk_steps_B1 (t12_1 : Int) (rec1 : Int → (List Step) → Option ((List Step))) (x1 : List Int) (rec2 : Int → (List Step) → Option ((List Step))) (t19_1 : Int) (l4 : List Step) : Option ((List Step)) :=
  if t19_1 < ((x1.length : Int)) then
    ix x1 t19_1 fun x2 =>
    gd (l4.length + (([(Step.i_more ((⟨t12_1, t19_1⟩ : More)))] : List Step)).length ≤ 1000000) <|
    if (0 : Int) < x2 then
      gd (((l4 ++ ([(Step.i_more ((⟨t12_1, t19_1⟩ : More)))] : List Step))).length + (([(Step.i_less ((⟨t12_1, t19_1⟩ : Less)))] : List Step)).length ≤ 1000000) <|
      bulk_steps_k3 t19_1 rec2 ((((l4 ++ ([(Step.i_more ((⟨t12_1, t19_1⟩ : More)))] : List Step)) ++ ([(Step.i_less ((⟨t12_1, t19_1⟩ : Less)))] : List Step))))
    else
      bulk_steps_k3 t19_1 rec2 (((l4 ++ ([(Step.i_more ((⟨t12_1, t19_1⟩ : More)))] : List Step))))
  else
    bulk_steps_k2 t12_1 rec1 l4
def bulk_steps_L1 (t12_1 : Int) (rec1 : Int → (List Step) → Option ((List Step))) (x1 : List Int) : Nat → Int → (List Step) → Option ((List Step))
  | 0, _, _ => none
  | n_ + 1, t19_1, l4 => bulk_steps_B1 t12_1 rec1 x1 (bulk_steps_L1 t12_1 rec1 x1 n_) t19_1 l4
theorem bulk_steps_L1_s {t12_1 : Int} {rec1 : Int → (List Step) → Option ((List Step))} {x1 : List Int} {m_ : Nat} {t19_1 : Int} {l4 : List Step} {res : (List Step)} (h : bulk_steps_L1 t12_1 rec1 x1 m_ t19_1 l4 = some res) : ∃ k, m_ = k + 1 ∧ bulk_steps_B1 t12_1 rec1 x1 (bulk_steps_L1 t12_1 rec1 x1 k) t19_1 l4 = some res := by
  cases m_ with
  | zero => cases h
  | succ k => exact ⟨k, rfl, h⟩
def bulk_steps_B2 (a1 : List (List Int)) (rec1 : Int → (List Step) → Option ((List Step))) (t12_1 : Int) (l5 : List Step) : Option ((List Step)) :=
  if t12_1 < ((a1.length : Int)) then
    ix a1 t12_1 fun x1 =>
    bulk_steps_L1 t12_1 rec1 x1 FU (((0 : Int))) l5
  else
    bulk_steps_k1 l5
def bulk_steps_L2 (a1 : List (List Int)) : Nat → Int → (List Step) → Option ((List Step))
  | 0, _, _ => none
  | n_ + 1, t12_1, l5 => bulk_steps_B2 a1 (bulk_steps_L2 a1 n_) t12_1 l5
theorem bulk_steps_L2_s {a1 : List (List Int)} {m_ : Nat} {t12_1 : Int} {l5 : List Step} {res : (List Step)} (h : bulk_steps_L2 a1 m_ t12_1 l5 = some res) : ∃ k, m_ = k + 1 ∧ bulk_steps_B2 a1 (bulk_steps_L2 a1 k) t12_1 l5 = some res := by
  cases m_ with
  | zero => cases h
  | succ k => exact ⟨k, rfl, h⟩
def bulk_steps (a0 : Trade) (a1 : List (List Int)) : Option ((List Step)) :=
  bulk_steps_L2 a1 FU (((0 : Int))) ((([] : List Step)))
end Go.D7

set_option linter.unusedVariables false
namespace Go.D7
open Go.Tb
def bulk_ends (a0 : Trade) (a1 : Step) : Option (Int × Int) :=
  if ((Step.isMore a1)) = true then
    gd (InR (((a0.supply.length : Int)) + (((Step.asMore a1)).buyer))) <|
    some (((Step.asMore a1)).store, ((a0.supply.length : Int)) + (((Step.asMore a1)).buyer))
  else
    if ((Step.isLess a1)) = true then
      gd (InR (((a0.supply.length : Int)) + (((Step.asLess a1)).buyer))) <|
      some (((a0.supply.length : Int)) + (((Step.asLess a1)).buyer), ((Step.asLess a1)).store)
    else
      some ((0 : Int), (0 : Int))
def bulk_less_cost (a0 : Less) (a1 : Trade) : Option Int :=
  ix a1.cost a0.store fun x1 =>
  ix x1 a0.buyer fun x2 =>
  gd (InR (-x2)) <|
  some (-x2)
def bulk_more_cost (a0 : More) (a1 : Trade) : Option Int :=
  ix a1.cost a0.store fun x1 =>
  ix x1 a0.buyer fun x2 =>
  some x2
def slices_Reverse_step_B1 (rec1 : Int → Int → (List Step) → Option ((List Step))) (t2_1 : Int) (t3_1 : Int) (l1 : List Step) : Option ((List Step)) :=
  if t2_1 < t3_1 then
    ix l1 t3_1 fun x1 =>
    ix l1 t2_1 fun x2 =>
    ix l1 t2_1 fun x3 =>
    ix ((l1.set (Int.toNat t2_1) x1)) t3_1 fun x4 =>
    gd (InR (t2_1 + 1)) <|
    gd (InR (t3_1 - 1)) <|
    rec1 ((t2_1 + 1)) ((t3_1 - 1)) (((((l1.set (Int.toNat t2_1) x1)).set (Int.toNat t3_1) x2)))
  else
    some l1
def slices_Reverse_step_L1 : Nat → Int → Int → (List Step) → Option ((List Step))
  | 0, _, _, _ => none
  | n_ + 1, t2_1, t3_1, l1 => slices_Reverse_step_B1 (slices_Reverse_step_L1 n_) t2_1 t3_1 l1
theorem slices_Reverse_step_L1_s {m_ : Nat} {t2_1 : Int} {t3_1 : Int} {l1 : List Step} {res : (List Step)} (h : slices_Reverse_step_L1 m_ t2_1 t3_1 l1 = some res) : ∃ k, m_ = k + 1 ∧ slices_Reverse_step_B1 (slices_Reverse_step_L1 k) t2_1 t3_1 l1 = some res := by
  cases m_ with
  | zero => cases h
  | succ k => exact ⟨k, rfl, h⟩
def slices_Reverse_step (a0 : List Step) : Option ((List Step)) :=
  gd (InR (((a0.length : Int)) - 1)) <|
  slices_Reverse_step_L1 FU (((0 : Int))) ((((a0.length : Int)) - 1)) a0
def Step_cost (x : Step) (a1 : Trade) : Option Int :=
  match x with
  | .nil => none
  | .i_less y => bulk_less_cost y a1
  | .i_more y => bulk_more_cost y a1
def bulk_search_k1 (l1 : List Int) (l2 : List Step) : Option ((List Int) × (List Step)) :=
  bnd (slices_Reverse_step l2) fun r1 =>
  gd (r1 ≠ []) <|
  some (l1, r1)
def bulk_search_k2 (a0 : Trade) (l1 : List Int) (l3 : List Step) (t16_1 : Int) (l4 : List Step) (rec1 : Int → (List Step) → Option ((List Int) × (List Step))) (t98_1 : Bool) : Option ((List Int) × (List Step)) :=
  if t98_1 = true then
    ix l3 t16_1 fun x1 =>
    gd (l4.length + (([x1] : List Step)).length ≤ 1000000) <|
    ix l3 t16_1 fun x2 =>
    bnd (bulk_ends a0 x2) fun r2 =>
    rec1 r2.1 (((l4 ++ ([x1] : List Step))))
  else
    bulk_search_k1 l1 l4
def bulk_search_B1 (a0 : Trade) (l1 : List Int) (l3 : List Step) (t16_2 : Int) (rec1 : Int → (List Step) → Option ((List Int) × (List Step))) (t16_1 : Int) (l4 : List Step) : Option ((List Int) × (List Step)) :=
  if ((l4.length : Int)) = 0 then
    bulk_search_k2 a0 l1 l3 t16_1 l4 rec1 true
  else
    bulk_search_k2 a0 l1 l3 t16_1 l4 rec1 ((!(decide (t16_1 = t16_2))))
def bulk_search_L1 (a0 : Trade) (l1 : List Int) (l3 : List Step) (t16_2 : Int) : Nat → Int → (List Step) → Option ((List Int) × (List Step))
  | 0, _, _ => none
  | n_ + 1, t16_1, l4 => bulk_search_B1 a0 l1 l3 t16_2 (bulk_search_L1 a0 l1 l3 t16_2 n_) t16_1 l4
theorem bulk_search_L1_s {a0 : Trade} {l1 : List Int} {l3 : List Step} {t16_2 : Int} {m_ : Nat} {t16_1 : Int} {l4 : List Step} {res : (List Int) × (List Step)} (h : bulk_search_L1 a0 l1 l3 t16_2 m_ t16_1 l4 = some res) : ∃ k, m_ = k + 1 ∧ bulk_search_B1 a0 l1 l3 t16_2 (bulk_search_L1 a0 l1 l3 t16_2 k) t16_1 l4 = some res := by
  cases m_ with
  | zero => cases h
  | succ k => exact ⟨k, rfl, h⟩
def bulk_search_k3 (a0 : Trade) (l1 : List Int) (l3 : List Step) (t16_2 : Int) : Option ((List Int) × (List Step)) :=
  bulk_search_L1 a0 l1 l3 t16_2 FU t16_2 ((([] : List Step)))
def bulk_search_B2 (a0 : Trade) (l1 : List Int) (l3 : List Step) (rec2 : Int → Int → Option ((List Int) × (List Step))) (t16_3 : Int) (t78_1 : Int) : Option ((List Int) × (List Step)) :=
  if t78_1 < (((a0.supply.length : Int)) + ((a0.demand.length : Int))) then
    ix l3 t16_3 fun x3 =>
    bnd (bulk_ends a0 x3) fun r3 =>
    gd (InR (t78_1 + 1)) <|
    rec2 r3.1 ((t78_1 + 1))
  else
    bulk_search_k3 a0 l1 l3 t16_3
def bulk_search_L2 (a0 : Trade) (l1 : List Int) (l3 : List Step) : Nat → Int → Int → Option ((List Int) × (List Step))
  | 0, _, _ => none
  | n_ + 1, t16_3, t78_1 => bulk_search_B2 a0 l1 l3 (bulk_search_L2 a0 l1 l3 n_) t16_3 t78_1
theorem bulk_search_L2_s {a0 : Trade} {l1 : List Int} {l3 : List Step} {m_ : Nat} {t16_3 : Int} {t78_1 : Int} {res : (List Int) × (List Step)} (h : bulk_search_L2 a0 l1 l3 m_ t16_3 t78_1 = some res) : ∃ k, m_ = k + 1 ∧ bulk_search_B2 a0 l1 l3 (bulk_search_L2 a0 l1 l3 k) t16_3 t78_1 = some res := by
  cases m_ with
  | zero => cases h
  | succ k => exact ⟨k, rfl, h⟩
def bulk_search_k4 (a0 : Trade) (t10_1 : Int) (l1 : List Int) (l3 : List Step) : Option ((List Int) × (List Step)) :=
  if t10_1 < 0 then
    some (l1, ([] : List Step))
  else
    bulk_search_L2 a0 l1 l3 FU t10_1 (((0 : Int)))
def bulk_search_k5 (t34_1 : Int) (rec3 : Int → Int → (List Int) → (List Step) → Option ((List Int) × (List Step))) (t10_2 : Int) (l5 : List Int) (l6 : List Step) : Option ((List Int) × (List Step)) :=
  gd (InR (t34_1 + 1)) <|
  rec3 t10_2 ((t34_1 + 1)) l5 l6
def bulk_search_k6 (t38_1 : Int) (rec4 : Int → Int → (List Int) → (List Step) → Option ((List Int) × (List Step))) (t10_3 : Int) (l7 : List Int) (l8 : List Step) : Option ((List Int) × (List Step)) :=
  gd (InR (t38_1 + 1)) <|
  rec4 t10_3 ((t38_1 + 1)) l7 l8
def bulk_search_B3 (a0 : Trade) (r4 : (List Step)) (t34_1 : Int) (rec3 : Int → Int → (List Int) → (List Step) → Option ((List Int) × (List Step))) (rec4 : Int → Int → (List Int) → (List Step) → Option ((List Int) × (List Step))) (t10_4 : Int) (t38_1 : Int) (l9 : List Int) (l10 : List Step) : Option ((List Int) × (List Step)) :=
  if t38_1 < ((r4.length : Int)) then
    ix r4 t38_1 fun x4 =>
    bnd (bulk_ends a0 x4) fun r5 =>
    ix l9 r5.1 fun x5 =>
    bnd (Step_cost x4 a0) fun r6 =>
    gd (InR (x5 + r6)) <|
    ix l9 r5.2 fun x6 =>
    if (x5 + r6) < x6 then
      ix l9 r5.2 fun x7 =>
      ix l10 r5.2 fun x8 =>
      bulk_search_k6 t38_1 rec4 r5.2 (((l9.set (Int.toNat r5.2) (x5 + r6)))) (((l10.set (Int.toNat r5.2) x4)))
    else
      bulk_search_k6 t38_1 rec4 t10_4 l9 l10
  else
    bulk_search_k5 t34_1 rec3 t10_4 l9 l10
def bulk_search_L3 (a0 : Trade) (r4 : (List Step)) (t34_1 : Int) (rec3 : Int → Int → (List Int) → (List Step) → Option ((List Int) × (List Step))) : Nat → Int → Int → (List Int) → (List Step) → Option ((List Int) × (List Step))
  | 0, _, _, _, _ => none
  | n_ + 1, t10_4, t38_1, l9, l10 => bulk_search_B3 a0 r4 t34_1 rec3 (bulk_search_L3 a0 r4 t34_1 rec3 n_) t10_4 t38_1 l9 l10
theorem bulk_search_L3_s {a0 : Trade} {r4 : (List Step)} {t34_1 : Int} {rec3 : Int → Int → (List Int) → (List Step) → Option ((List Int) × (List Step))} {m_ : Nat} {t10_4 : Int} {t38_1 : Int} {l9 : List Int} {l10 : List Step} {res : (List Int) × (List Step)} (h : bulk_search_L3 a0 r4 t34_1 rec3 m_ t10_4 t38_1 l9 l10 = some res) : ∃ k, m_ = k + 1 ∧ bulk_search_B3 a0 r4 t34_1 rec3 (bulk_search_L3 a0 r4 t34_1 rec3 k) t10_4 t38_1 l9 l10 = some res := by
  cases m_ with
  | zero => cases h
  | succ k => exact ⟨k, rfl, h⟩
def bulk_search_B4 (a0 : Trade) (r4 : (List Step)) (rec3 : Int → Int → (List Int) → (List Step) → Option ((List Int) × (List Step))) (t10_5 : Int) (t34_1 : Int) (l11 : List Int) (l12 : List Step) : Option ((List Int) × (List Step)) :=
  if t34_1 < (((a0.supply.length : Int)) + ((a0.demand.length : Int))) then
    bulk_search_L3 a0 r4 t34_1 rec3 FU (((-1 : Int))) (((0 : Int))) l11 l12
  else
    bulk_search_k4 a0 t10_5 l11 l12
def bulk_search_L4 (a0 : Trade) (r4 : (List Step)) : Nat → Int → Int → (List Int) → (List Step) → Option ((List Int) × (List Step))
  | 0, _, _, _, _ => none
  | n_ + 1, t10_5, t34_1, l11, l12 => bulk_search_B4 a0 r4 (bulk_search_L4 a0 r4 n_) t10_5 t34_1 l11 l12
theorem bulk_search_L4_s {a0 : Trade} {r4 : (List Step)} {m_ : Nat} {t10_5 : Int} {t34_1 : Int} {l11 : List Int} {l12 : List Step} {res : (List Int) × (List Step)} (h : bulk_search_L4 a0 r4 m_ t10_5 t34_1 l11 l12 = some res) : ∃ k, m_ = k + 1 ∧ bulk_search_B4 a0 r4 (bulk_search_L4 a0 r4 k) t10_5 t34_1 l11 l12 = some res := by
  cases m_ with
  | zero => cases h
  | succ k => exact ⟨k, rfl, h⟩
def bulk_search (a0 : Trade) (a1 : List (List Int)) : Option ((List Int) × (List Step)) :=
  gd (InR (((a0.supply.length : Int)) + ((a0.demand.length : Int)))) <|
  gd (0 ≤ ((a0.supply.length : Int)) + ((a0.demand.length : Int)) ∧ (((a0.supply.length : Int)) + ((a0.demand.length : Int))) ≤ 1000000) <|
  gd (0 ≤ ((a0.supply.length : Int)) + ((a0.demand.length : Int)) ∧ (((a0.supply.length : Int)) + ((a0.demand.length : Int))) ≤ 1000000) <|
  bnd (bulk_steps a0 a1) fun r4 =>
  bulk_search_L4 a0 r4 FU (((-1 : Int))) (((0 : Int))) (((List.replicate (Int.toNat (((a0.supply.length : Int)) + ((a0.demand.length : Int)))) (0 : Int)))) (((List.replicate (Int.toNat (((a0.supply.length : Int)) + ((a0.demand.length : Int)))) (Step.nil : Step))))
end Go.D7

set_option linter.unusedVariables false
namespace Go.D7
open Go.Tb
structure Arr2 where
  at0 : Int
  at1 : Int
def encArr2 (x : Arr2) : List Value := [.int .i64 x.at0, .int .i64 x.at1]
def slices_Reverse_2_int_2_int_B1 (rec1 : Int → Int → (List Arr2) → Option ((List Arr2))) (t2_1 : Int) (t3_1 : Int) (l1 : List Arr2) : Option ((List Arr2)) :=
  if t2_1 < t3_1 then
    ix l1 t3_1 fun x1 =>
    ix l1 t2_1 fun x2 =>
    ix l1 t2_1 fun x3 =>
    ix ((l1.set (Int.toNat t2_1) x1)) t3_1 fun x4 =>
    gd (InR (t2_1 + 1)) <|
    gd (InR (t3_1 - 1)) <|
    rec1 ((t2_1 + 1)) ((t3_1 - 1)) (((((l1.set (Int.toNat t2_1) x1)).set (Int.toNat t3_1) x2)))
  else
    some l1
def slices_Reverse_2_int_2_int_L1 : Nat → Int → Int → (List Arr2) → Option ((List Arr2))
  | 0, _, _, _ => none
  | n_ + 1, t2_1, t3_1, l1 => slices_Reverse_2_int_2_int_B1 (slices_Reverse_2_int_2_int_L1 n_) t2_1 t3_1 l1
theorem slices_Reverse_2_int_2_int_L1_s {m_ : Nat} {t2_1 : Int} {t3_1 : Int} {l1 : List Arr2} {res : (List Arr2)} (h : slices_Reverse_2_int_2_int_L1 m_ t2_1 t3_1 l1 = some res) : ∃ k, m_ = k + 1 ∧ slices_Reverse_2_int_2_int_B1 (slices_Reverse_2_int_2_int_L1 k) t2_1 t3_1 l1 = some res := by
  cases m_ with
  | zero => cases h
  | succ k => exact ⟨k, rfl, h⟩
def slices_Reverse_2_int_2_int (a0 : List Arr2) : Option ((List Arr2)) :=
  gd (InR (((a0.length : Int)) - 1)) <|
  slices_Reverse_2_int_2_int_L1 FU (((0 : Int))) ((((a0.length : Int)) - 1)) a0
def slices_Grow_2_int_2_int_k1 (l1 : List Arr2) : Option ((List Arr2)) :=
  some l1
def slices_Grow_2_int_2_int (a1 : Int) : Option ((List Arr2)) :=
  if a1 < 0 then
    none
  else
    gd (InR (0 - 0)) <|
    gd (InR (a1 - (0 - 0))) <|
    if (0 : Int) < (a1 - (0 - 0)) then
      gd (1 ≤ a1 - (0 - 0) ∧ (a1 - (0 - 0)) ≤ 1000000) <|
      gd (0 ≤ ((0 : Int)) ∧ ((0 : Int)) ≤ (((List.replicate (Int.toNat (a1 - (0 - 0))) ((⟨0, 0⟩ : Arr2) : Arr2))).length : Int)) <|
      slices_Grow_2_int_2_int_k1 (((List.take 0 ((List.replicate (Int.toNat (a1 - (0 - 0))) ((⟨0, 0⟩ : Arr2) : Arr2))))))
    else
      slices_Grow_2_int_2_int_k1 ((([] : List Arr2)))
def slices_Concat_2_int_2_int_k1 (l1 : List Arr2) : Option ((List Arr2)) :=
  some l1
def slices_Concat_2_int_2_int_B1 (a0 : List (List Arr2)) (rec1 : Int → (List Arr2) → Option ((List Arr2))) (t27_1 : Int) (l2 : List Arr2) : Option ((List Arr2)) :=
  if t27_1 < ((a0.length : Int)) then
    ix a0 t27_1 fun x1 =>
    gd (l2.length + x1.length ≤ 1000000) <|
    gd (InR (t27_1 + 1)) <|
    rec1 ((t27_1 + 1)) (((l2 ++ x1)))
  else
    slices_Concat_2_int_2_int_k1 l2
def slices_Concat_2_int_2_int_L1 (a0 : List (List Arr2)) : Nat → Int → (List Arr2) → Option ((List Arr2))
  | 0, _, _ => none
  | n_ + 1, t27_1, l2 => slices_Concat_2_int_2_int_B1 a0 (slices_Concat_2_int_2_int_L1 a0 n_) t27_1 l2
theorem slices_Concat_2_int_2_int_L1_s {a0 : List (List Arr2)} {m_ : Nat} {t27_1 : Int} {l2 : List Arr2} {res : (List Arr2)} (h : slices_Concat_2_int_2_int_L1 a0 m_ t27_1 l2 = some res) : ∃ k, m_ = k + 1 ∧ slices_Concat_2_int_2_int_B1 a0 (slices_Concat_2_int_2_int_L1 a0 k) t27_1 l2 = some res := by
  cases m_ with
  | zero => cases h
  | succ k => exact ⟨k, rfl, h⟩
def slices_Concat_2_int_2_int_k2 (a0 : List (List Arr2)) (t3_1 : Int) : Option ((List Arr2)) :=
  bnd (slices_Grow_2_int_2_int t3_1) fun r1 =>
  slices_Concat_2_int_2_int_L1 a0 FU (((0 : Int))) r1
def slices_Concat_2_int_2_int_B2 (a0 : List (List Arr2)) (rec2 : Int → Int → Option ((List Arr2))) (t3_2 : Int) (t11_1 : Int) : Option ((List Arr2)) :=
  if t11_1 < ((a0.length : Int)) then
    ix a0 t11_1 fun x2 =>
    gd (InR (t3_2 + ((x2.length : Int)))) <|
    if (t3_2 + ((x2.length : Int))) < 0 then
      none
    else
      gd (InR (t11_1 + 1)) <|
      rec2 ((t3_2 + ((x2.length : Int)))) ((t11_1 + 1))
  else
    slices_Concat_2_int_2_int_k2 a0 t3_2
def slices_Concat_2_int_2_int_L2 (a0 : List (List Arr2)) : Nat → Int → Int → Option ((List Arr2))
  | 0, _, _ => none
  | n_ + 1, t3_2, t11_1 => slices_Concat_2_int_2_int_B2 a0 (slices_Concat_2_int_2_int_L2 a0 n_) t3_2 t11_1
theorem slices_Concat_2_int_2_int_L2_s {a0 : List (List Arr2)} {m_ : Nat} {t3_2 : Int} {t11_1 : Int} {res : (List Arr2)} (h : slices_Concat_2_int_2_int_L2 a0 m_ t3_2 t11_1 = some res) : ∃ k, m_ = k + 1 ∧ slices_Concat_2_int_2_int_B2 a0 (slices_Concat_2_int_2_int_L2 a0 k) t3_2 t11_1 = some res := by
  cases m_ with
  | zero => cases h
  | succ k => exact ⟨k, rfl, h⟩
def slices_Concat_2_int_2_int (a0 : List (List Arr2)) : Option ((List Arr2)) :=
  slices_Concat_2_int_2_int_L2 a0 FU (((0 : Int))) (((0 : Int)))
def bulk_pairs_k1 (l1 : List Arr2) : Option ((List Arr2)) :=
  bnd (slices_Reverse_2_int_2_int l1) fun r1 =>
  gd (InR (((l1.length : Int)) - 1)) <|
  gd (0 ≤ (((l1.length : Int)) - 1) ∧ (((l1.length : Int)) - 1) ≤ (r1.length : Int)) <|
  gd (InR (((l1.length : Int)) - 1)) <|
  gd (0 ≤ (((l1.length : Int)) - 1) ∧ (((l1.length : Int)) - 1) ≤ (r1.length : Int)) <|
  bnd (slices_Concat_2_int_2_int (([(List.drop (Int.toNat (((l1.length : Int)) - 1)) r1), (List.take (Int.toNat (((l1.length : Int)) - 1)) r1)] : List (List Arr2)))) fun r2 =>
  some r2
def bulk_pairs_k2 (t12_1 : Int) (rec1 : Int → Option ((List Arr2))) : Option ((List Arr2)) :=
  gd (InR (t12_1 + 1)) <|
  rec1 ((t12_1 + 1))
def bulk_pairs_k3 (l2 : List Arr2) : Option ((List Arr2)) :=
  bulk_pairs_k1 l2
def bulk_pairs_k4 (t28_1 : Int) (rec2 : Int → (List Arr2) → Option ((List Arr2))) (l3 : List Arr2) : Option ((List Arr2)) :=
  gd (InR (t28_1 + 1)) <|
  rec2 ((t28_1 + 1)) l3
def bulk_pairs_B1 (a0 : List Step) (t12_1 : Int) (rec2 : Int → (List Arr2) → Option ((List Arr2))) (t28_1 : Int) (l4 : List Arr2) : Option ((List Arr2)) :=
  if t28_1 < ((a0.length : Int)) then
    gd (InR (t12_1 + t28_1)) <|
    gd ((a0.length : Int) ≠ 0 ∧ InR (Int.tmod (t12_1 + t28_1) ((a0.length : Int)))) <|
    ix a0 (Int.tmod (t12_1 + t28_1) ((a0.length : Int))) fun x1 =>
    if ((Step.isMore x1)) = true then
      gd (l4.length + (([(⟨((Step.asMore x1)).store, ((Step.asMore x1)).buyer⟩ : Arr2)] : List Arr2)).length ≤ 1000000) <|
      bulk_pairs_k4 t28_1 rec2 (((l4 ++ ([(⟨((Step.asMore x1)).store, ((Step.asMore x1)).buyer⟩ : Arr2)] : List Arr2))))
    else
      if ((Step.isLess x1)) = true then
        gd (l4.length + (([(⟨((Step.asLess x1)).store, ((Step.asLess x1)).buyer⟩ : Arr2)] : List Arr2)).length ≤ 1000000) <|
        bulk_pairs_k4 t28_1 rec2 (((l4 ++ ([(⟨((Step.asLess x1)).store, ((Step.asLess x1)).buyer⟩ : Arr2)] : List Arr2))))
      else
        bulk_pairs_k4 t28_1 rec2 l4
  else
    bulk_pairs_k3 l4
def bulk_pairs_L1 (a0 : List Step) (t12_1 : Int) : Nat → Int → (List Arr2) → Option ((List Arr2))
  | 0, _, _ => none
  | n_ + 1, t28_1, l4 => bulk_pairs_B1 a0 t12_1 (bulk_pairs_L1 a0 t12_1 n_) t28_1 l4
theorem bulk_pairs_L1_s {a0 : List Step} {t12_1 : Int} {m_ : Nat} {t28_1 : Int} {l4 : List Arr2} {res : (List Arr2)} (h : bulk_pairs_L1 a0 t12_1 m_ t28_1 l4 = some res) : ∃ k, m_ = k + 1 ∧ bulk_pairs_B1 a0 t12_1 (bulk_pairs_L1 a0 t12_1 k) t28_1 l4 = some res := by
  cases m_ with
  | zero => cases h
  | succ k => exact ⟨k, rfl, h⟩
def bulk_pairs_B2 (a0 : List Step) (rec1 : Int → Option ((List Arr2))) (t12_1 : Int) : Option ((List Arr2)) :=
  if t12_1 < ((a0.length : Int)) then
    ix a0 t12_1 fun x2 =>
    if ((Step.isLess x2)) = true then
      bulk_pairs_k2 t12_1 rec1
    else
      bulk_pairs_L1 a0 t12_1 FU (((0 : Int))) ((([] : List Arr2)))
  else
    bulk_pairs_k1 ((([] : List Arr2)))
def bulk_pairs_L2 (a0 : List Step) : Nat → Int → Option ((List Arr2))
  | 0, _ => none
  | n_ + 1, t12_1 => bulk_pairs_B2 a0 (bulk_pairs_L2 a0 n_) t12_1
theorem bulk_pairs_L2_s {a0 : List Step} {m_ : Nat} {t12_1 : Int} {res : (List Arr2)} (h : bulk_pairs_L2 a0 m_ t12_1 = some res) : ∃ k, m_ = k + 1 ∧ bulk_pairs_B2 a0 (bulk_pairs_L2 a0 k) t12_1 = some res := by
  cases m_ with
  | zero => cases h
  | succ k => exact ⟨k, rfl, h⟩
def bulk_pairs (a0 : List Step) : Option ((List Arr2)) :=
  bulk_pairs_L2 a0 FU (((0 : Int)))
end Go.D7

set_option linter.unusedVariables false
namespace Go.D7
open Go.Tb
def bulk_clone_k1 (m1 : List (List Int)) : Option ((List (List Int))) :=
  some m1
def bulk_clone_B1 (a0 : List (List Int)) (rec1 : Int → (List (List Int)) → Option ((List (List Int)))) (t8_1 : Int) (m2 : List (List Int)) : Option ((List (List Int))) :=
  if t8_1 < ((a0.length : Int)) then
    ix a0 t8_1 fun x1 =>
    bnd (slices_Clone_int x1) fun r1 =>
    gd (m2.length + 1 ≤ 1000000) <|
    gd (InR (t8_1 + 1)) <|
    rec1 ((t8_1 + 1)) (((m2 ++ [r1])))
  else
    bulk_clone_k1 m2
def bulk_clone_L1 (a0 : List (List Int)) : Nat → Int → (List (List Int)) → Option ((List (List Int)))
  | 0, _, _ => none
  | n_ + 1, t8_1, m2 => bulk_clone_B1 a0 (bulk_clone_L1 a0 n_) t8_1 m2
theorem bulk_clone_L1_s {a0 : List (List Int)} {m_ : Nat} {t8_1 : Int} {m2 : List (List Int)} {res : (List (List Int))} (h : bulk_clone_L1 a0 m_ t8_1 m2 = some res) : ∃ k, m_ = k + 1 ∧ bulk_clone_B1 a0 (bulk_clone_L1 a0 k) t8_1 m2 = some res := by
  cases m_ with
  | zero => cases h
  | succ k => exact ⟨k, rfl, h⟩
def bulk_clone (a0 : List (List Int)) : Option ((List (List Int))) :=
  bulk_clone_L1 a0 FU (((0 : Int))) ((([] : List (List Int))))
def bulk_along_k1 (t7_1 : Int) (m1 : List (List Int)) : Option ((List (List Int)) × Int) :=
  some (m1, t7_1)
def bulk_along_B1 (a1 : List Arr2) (t7_1 : Int) (rec1 : Int → (List (List Int)) → Option ((List (List Int)) × Int)) (t51_1 : Int) (m2 : List (List Int)) : Option ((List (List Int)) × Int) :=
  if t51_1 < ((a1.length : Int)) then
    ix a1 t51_1 fun x1 =>
    ix (([x1.at0, x1.at1] : List Int)) 0 fun x2 =>
    ix m2 x2 fun x3 =>
    ix (([x1.at0, x1.at1] : List Int)) 1 fun x4 =>
    ix x3 x4 fun x5 =>
    gd (InR (2 * t7_1)) <|
    gd ((2 : Int) ≠ 0 ∧ InR (Int.tmod t51_1 2)) <|
    gd (InR ((2 * t7_1) * (Int.tmod t51_1 2))) <|
    gd (InR (t7_1 - ((2 * t7_1) * (Int.tmod t51_1 2)))) <|
    gd (InR (x5 + (t7_1 - ((2 * t7_1) * (Int.tmod t51_1 2))))) <|
    ix x3 x4 fun x6 =>
    gd (InR (t51_1 + 1)) <|
    rec1 ((t51_1 + 1)) (((m2.set (Int.toNat x2) (x3.set (Int.toNat x4) (x5 + (t7_1 - ((2 * t7_1) * (Int.tmod t51_1 2))))))))
  else
    bulk_along_k1 t7_1 m2
def bulk_along_L1 (a1 : List Arr2) (t7_1 : Int) : Nat → Int → (List (List Int)) → Option ((List (List Int)) × Int)
  | 0, _, _ => none
  | n_ + 1, t51_1, m2 => bulk_along_B1 a1 t7_1 (bulk_along_L1 a1 t7_1 n_) t51_1 m2
theorem bulk_along_L1_s {a1 : List Arr2} {t7_1 : Int} {m_ : Nat} {t51_1 : Int} {m2 : List (List Int)} {res : (List (List Int)) × Int} (h : bulk_along_L1 a1 t7_1 m_ t51_1 m2 = some res) : ∃ k, m_ = k + 1 ∧ bulk_along_B1 a1 t7_1 (bulk_along_L1 a1 t7_1 k) t51_1 m2 = some res := by
  cases m_ with
  | zero => cases h
  | succ k => exact ⟨k, rfl, h⟩
def bulk_along_k2 (a1 : List Arr2) (r1 : (List (List Int))) (t7_1 : Int) : Option ((List (List Int)) × Int) :=
  bulk_along_L1 a1 t7_1 FU (((0 : Int))) r1
def bulk_along_k3 (t29_1 : Int) (rec2 : Int → Int → Option ((List (List Int)) × Int)) (t7_2 : Int) : Option ((List (List Int)) × Int) :=
  gd (InR (t29_1 + 1)) <|
  rec2 t7_2 ((t29_1 + 1))
def bulk_along_B2 (a1 : List Arr2) (r1 : (List (List Int))) (rec2 : Int → Int → Option ((List (List Int)) × Int)) (t7_3 : Int) (t29_1 : Int) : Option ((List (List Int)) × Int) :=
  if t29_1 < ((a1.length : Int)) then
    ix a1 t29_1 fun x7 =>
    gd ((2 : Int) ≠ 0 ∧ InR (Int.tmod t29_1 2)) <|
    if (Int.tmod t29_1 2) = 1 then
      ix (([x7.at0, x7.at1] : List Int)) 0 fun x8 =>
      ix r1 x8 fun x9 =>
      ix (([x7.at0, x7.at1] : List Int)) 1 fun x10 =>
      ix x9 x10 fun x11 =>
      bulk_along_k3 t29_1 rec2 ((min t7_3 x11))
    else
      bulk_along_k3 t29_1 rec2 t7_3
  else
    bulk_along_k2 a1 r1 t7_3
def bulk_along_L2 (a1 : List Arr2) (r1 : (List (List Int))) : Nat → Int → Int → Option ((List (List Int)) × Int)
  | 0, _, _ => none
  | n_ + 1, t7_3, t29_1 => bulk_along_B2 a1 r1 (bulk_along_L2 a1 r1 n_) t7_3 t29_1
theorem bulk_along_L2_s {a1 : List Arr2} {r1 : (List (List Int))} {m_ : Nat} {t7_3 : Int} {t29_1 : Int} {res : (List (List Int)) × Int} (h : bulk_along_L2 a1 r1 m_ t7_3 t29_1 = some res) : ∃ k, m_ = k + 1 ∧ bulk_along_B2 a1 r1 (bulk_along_L2 a1 r1 k) t7_3 t29_1 = some res := by
  cases m_ with
  | zero => cases h
  | succ k => exact ⟨k, rfl, h⟩
def bulk_along (a0 : List (List Int)) (a1 : List Arr2) : Option ((List (List Int)) × Int) :=
  bnd (bulk_clone a0) fun r1 =>
  ix a1 1 fun x12 =>
  ix r1 x12.at0 fun x13 =>
  ix a1 1 fun x14 =>
  ix x13 x14.at1 fun x15 =>
  bulk_along_L2 a1 r1 FU x15 (((0 : Int)))
def bulk_best_B1 (a0 : Trade) (rec1 : (List (List Int)) → Option ((List (List Int)) × (List Int))) (m1 : List (List Int)) : Option ((List (List Int)) × (List Int)) :=
  bnd (bulk_search a0 m1) fun r1 =>
  if r1.2 = [] then
    some (m1, r1.1)
  else
    bnd (bulk_pairs r1.2) fun r2 =>
    bnd (bulk_along m1 r2) fun r3 =>
    rec1 r3.1
def bulk_best_L1 (a0 : Trade) : Nat → (List (List Int)) → Option ((List (List Int)) × (List Int))
  | 0, _ => none
  | n_ + 1, m1 => bulk_best_B1 a0 (bulk_best_L1 a0 n_) m1
theorem bulk_best_L1_s {a0 : Trade} {m_ : Nat} {m1 : List (List Int)} {res : (List (List Int)) × (List Int)} (h : bulk_best_L1 a0 m_ m1 = some res) : ∃ k, m_ = k + 1 ∧ bulk_best_B1 a0 (bulk_best_L1 a0 k) m1 = some res := by
  cases m_ with
  | zero => cases h
  | succ k => exact ⟨k, rfl, h⟩
def bulk_best (a0 : Trade) : Option ((List (List Int)) × (List Int)) :=
  bnd (bulk_corner a0) fun r4 =>
  bulk_best_L1 a0 FU r4
def bulk_cost_k1 (t5_1 : Int) : Option Int :=
  some t5_1
def bulk_cost_k2 (t12_1 : Int) (rec1 : Int → Int → Option Int) (t5_2 : Int) : Option Int :=
  gd (InR (t12_1 + 1)) <|
  rec1 t5_2 ((t12_1 + 1))
def bulk_cost_B1 (a0 : Trade) (t12_1 : Int) (rec1 : Int → Int → Option Int) (x1 : List Int) (rec2 : Int → Int → Option Int) (t5_3 : Int) (t19_1 : Int) : Option Int :=
  if t19_1 < ((x1.length : Int)) then
    ix x1 t19_1 fun x2 =>
    ix a0.cost t12_1 fun x3 =>
    ix x3 t19_1 fun x4 =>
    gd (InR (x2 * x4)) <|
    gd (InR (t5_3 + (x2 * x4))) <|
    gd (InR (t19_1 + 1)) <|
    rec2 ((t5_3 + (x2 * x4))) ((t19_1 + 1))
  else
    bulk_cost_k2 t12_1 rec1 t5_3
def bulk_cost_L1 (a0 : Trade) (t12_1 : Int) (rec1 : Int → Int → Option Int) (x1 : List Int) : Nat → Int → Int → Option Int
  | 0, _, _ => none
  | n_ + 1, t5_3, t19_1 => bulk_cost_B1 a0 t12_1 rec1 x1 (bulk_cost_L1 a0 t12_1 rec1 x1 n_) t5_3 t19_1
theorem bulk_cost_L1_s {a0 : Trade} {t12_1 : Int} {rec1 : Int → Int → Option Int} {x1 : List Int} {m_ : Nat} {t5_3 : Int} {t19_1 : Int} {res : Int} (h : bulk_cost_L1 a0 t12_1 rec1 x1 m_ t5_3 t19_1 = some res) : ∃ k, m_ = k + 1 ∧ bulk_cost_B1 a0 t12_1 rec1 x1 (bulk_cost_L1 a0 t12_1 rec1 x1 k) t5_3 t19_1 = some res := by
  cases m_ with
  | zero => cases h
  | succ k => exact ⟨k, rfl, h⟩
def bulk_cost_B2 (a0 : Trade) (a1 : List (List Int)) (rec1 : Int → Int → Option Int) (t5_4 : Int) (t12_1 : Int) : Option Int :=
  if t12_1 < ((a1.length : Int)) then
    ix a1 t12_1 fun x1 =>
    bulk_cost_L1 a0 t12_1 rec1 x1 FU t5_4 (((0 : Int)))
  else
    bulk_cost_k1 t5_4
def bulk_cost_L2 (a0 : Trade) (a1 : List (List Int)) : Nat → Int → Int → Option Int
  | 0, _, _ => none
  | n_ + 1, t5_4, t12_1 => bulk_cost_B2 a0 a1 (bulk_cost_L2 a0 a1 n_) t5_4 t12_1
theorem bulk_cost_L2_s {a0 : Trade} {a1 : List (List Int)} {m_ : Nat} {t5_4 : Int} {t12_1 : Int} {res : Int} (h : bulk_cost_L2 a0 a1 m_ t5_4 t12_1 = some res) : ∃ k, m_ = k + 1 ∧ bulk_cost_B2 a0 a1 (bulk_cost_L2 a0 a1 k) t5_4 t12_1 = some res := by
  cases m_ with
  | zero => cases h
  | succ k => exact ⟨k, rfl, h⟩
def bulk_cost (a0 : Trade) (a1 : List (List Int)) : Option Int :=
  bulk_cost_L2 a0 a1 FU (((0 : Int))) (((0 : Int)))
def bulk_Least (a0 : Trade) : Option (Int × Int) :=
  bnd (bulk_Validate a0) fun r1 =>
  if r1 = 0 then
    bnd (bulk_best a0) fun r2 =>
    bnd (bulk_cost a0 r2.1) fun r3 =>
    some (r3, (0 : Int))
  else
    some ((0 : Int), r1)
end Go.D7

set_option linter.unusedVariables false
namespace Go.D7
open Go.Tb
structure Prices where
  stores : List Int
  buyers : List Int
def bulk_priced_1 (a0 : Int) : Option Bool :=
  bnd (bulk_within a0 ((-1000 : Int)) ((1000 : Int))) fun r1 =>
  some (!r1)
def bulk_priced (a0 : List Int) (a1 : Int) : Option Bool :=
  if ((a0.length : Int)) = a1 then
    bnd (slices_ContainsFunc_int a0 bulk_priced_1) fun r1 =>
    some (!r1)
  else
    some false
def bulk_CheckPrices_k1 : Option Int :=
  some ((0 : Int))
def bulk_CheckPrices_k2 (t34_1 : Int) (rec1 : Int → Option Int) : Option Int :=
  gd (InR (t34_1 + 1)) <|
  rec1 ((t34_1 + 1))
def bulk_CheckPrices_B1 (a1 : Prices) (t34_1 : Int) (rec1 : Int → Option Int) (x1 : List Int) (rec2 : Int → Option Int) (t41_1 : Int) : Option Int :=
  if t41_1 < ((x1.length : Int)) then
    ix x1 t41_1 fun x2 =>
    ix a1.stores t34_1 fun x3 =>
    ix a1.buyers t41_1 fun x4 =>
    gd (InR (x3 + x4)) <|
    if x2 < (x3 + x4) then
      some ((6 : Int))
    else
      gd (InR (t41_1 + 1)) <|
      rec2 ((t41_1 + 1))
  else
    bulk_CheckPrices_k2 t34_1 rec1
def bulk_CheckPrices_L1 (a1 : Prices) (t34_1 : Int) (rec1 : Int → Option Int) (x1 : List Int) : Nat → Int → Option Int
  | 0, _ => none
  | n_ + 1, t41_1 => bulk_CheckPrices_B1 a1 t34_1 rec1 x1 (bulk_CheckPrices_L1 a1 t34_1 rec1 x1 n_) t41_1
theorem bulk_CheckPrices_L1_s {a1 : Prices} {t34_1 : Int} {rec1 : Int → Option Int} {x1 : List Int} {m_ : Nat} {t41_1 : Int} {res : Int} (h : bulk_CheckPrices_L1 a1 t34_1 rec1 x1 m_ t41_1 = some res) : ∃ k, m_ = k + 1 ∧ bulk_CheckPrices_B1 a1 t34_1 rec1 x1 (bulk_CheckPrices_L1 a1 t34_1 rec1 x1 k) t41_1 = some res := by
  cases m_ with
  | zero => cases h
  | succ k => exact ⟨k, rfl, h⟩
def bulk_CheckPrices_B2 (a0 : Trade) (a1 : Prices) (rec1 : Int → Option Int) (t34_1 : Int) : Option Int :=
  if t34_1 < ((a0.cost.length : Int)) then
    ix a0.cost t34_1 fun x1 =>
    bulk_CheckPrices_L1 a1 t34_1 rec1 x1 FU (((0 : Int)))
  else
    bulk_CheckPrices_k1
def bulk_CheckPrices_L2 (a0 : Trade) (a1 : Prices) : Nat → Int → Option Int
  | 0, _ => none
  | n_ + 1, t34_1 => bulk_CheckPrices_B2 a0 a1 (bulk_CheckPrices_L2 a0 a1 n_) t34_1
theorem bulk_CheckPrices_L2_s {a0 : Trade} {a1 : Prices} {m_ : Nat} {t34_1 : Int} {res : Int} (h : bulk_CheckPrices_L2 a0 a1 m_ t34_1 = some res) : ∃ k, m_ = k + 1 ∧ bulk_CheckPrices_B2 a0 a1 (bulk_CheckPrices_L2 a0 a1 k) t34_1 = some res := by
  cases m_ with
  | zero => cases h
  | succ k => exact ⟨k, rfl, h⟩
def bulk_CheckPrices_k3 (a0 : Trade) (a1 : Prices) (t30_1 : Bool) : Option Int :=
  if t30_1 = true then
    some ((1 : Int))
  else
    bulk_CheckPrices_L2 a0 a1 FU (((0 : Int)))
def bulk_CheckPrices (a0 : Trade) (a1 : Prices) : Option Int :=
  bnd (bulk_Validate a0) fun r1 =>
  if r1 = 0 then
    bnd (bulk_priced a1.stores ((a0.supply.length : Int))) fun r2 =>
    if r2 = true then
      bnd (bulk_priced a1.buyers ((a0.demand.length : Int))) fun r3 =>
      bulk_CheckPrices_k3 a0 a1 ((!r3))
    else
      bulk_CheckPrices_k3 a0 a1 true
  else
    some r1
def bulk_Worth_k1 (t7_1 : Int) : Option (Int × Int) :=
  some (t7_1, (0 : Int))
def bulk_Worth_B1 (a0 : Trade) (a1 : Prices) (rec1 : Int → Int → Option (Int × Int)) (t7_2 : Int) (t39_1 : Int) : Option (Int × Int) :=
  if t39_1 < ((a0.demand.length : Int)) then
    ix a0.demand t39_1 fun x1 =>
    ix a1.buyers t39_1 fun x2 =>
    gd (InR (x1 * x2)) <|
    gd (InR (t7_2 + (x1 * x2))) <|
    gd (InR (t39_1 + 1)) <|
    rec1 ((t7_2 + (x1 * x2))) ((t39_1 + 1))
  else
    bulk_Worth_k1 t7_2
def bulk_Worth_L1 (a0 : Trade) (a1 : Prices) : Nat → Int → Int → Option (Int × Int)
  | 0, _, _ => none
  | n_ + 1, t7_2, t39_1 => bulk_Worth_B1 a0 a1 (bulk_Worth_L1 a0 a1 n_) t7_2 t39_1
theorem bulk_Worth_L1_s {a0 : Trade} {a1 : Prices} {m_ : Nat} {t7_2 : Int} {t39_1 : Int} {res : Int × Int} (h : bulk_Worth_L1 a0 a1 m_ t7_2 t39_1 = some res) : ∃ k, m_ = k + 1 ∧ bulk_Worth_B1 a0 a1 (bulk_Worth_L1 a0 a1 k) t7_2 t39_1 = some res := by
  cases m_ with
  | zero => cases h
  | succ k => exact ⟨k, rfl, h⟩
def bulk_Worth_k2 (a0 : Trade) (a1 : Prices) (t7_3 : Int) : Option (Int × Int) :=
  bulk_Worth_L1 a0 a1 FU t7_3 (((0 : Int)))
def bulk_Worth_B2 (a0 : Trade) (a1 : Prices) (rec2 : Int → Int → Option (Int × Int)) (t7_4 : Int) (t21_1 : Int) : Option (Int × Int) :=
  if t21_1 < ((a0.supply.length : Int)) then
    ix a0.supply t21_1 fun x3 =>
    ix a1.stores t21_1 fun x4 =>
    gd (InR (x3 * x4)) <|
    gd (InR (t7_4 + (x3 * x4))) <|
    gd (InR (t21_1 + 1)) <|
    rec2 ((t7_4 + (x3 * x4))) ((t21_1 + 1))
  else
    bulk_Worth_k2 a0 a1 t7_4
def bulk_Worth_L2 (a0 : Trade) (a1 : Prices) : Nat → Int → Int → Option (Int × Int)
  | 0, _, _ => none
  | n_ + 1, t7_4, t21_1 => bulk_Worth_B2 a0 a1 (bulk_Worth_L2 a0 a1 n_) t7_4 t21_1
theorem bulk_Worth_L2_s {a0 : Trade} {a1 : Prices} {m_ : Nat} {t7_4 : Int} {t21_1 : Int} {res : Int × Int} (h : bulk_Worth_L2 a0 a1 m_ t7_4 t21_1 = some res) : ∃ k, m_ = k + 1 ∧ bulk_Worth_B2 a0 a1 (bulk_Worth_L2 a0 a1 k) t7_4 t21_1 = some res := by
  cases m_ with
  | zero => cases h
  | succ k => exact ⟨k, rfl, h⟩
def bulk_Worth (a0 : Trade) (a1 : Prices) : Option (Int × Int) :=
  bnd (bulk_CheckPrices a0 a1) fun r1 =>
  if r1 = 0 then
    bulk_Worth_L2 a0 a1 FU (((0 : Int))) (((0 : Int)))
  else
    some ((0 : Int), r1)
end Go.D7

namespace Go.Open7
open Go.Tb Go.Proofs Go.ChangeShapes Go.WideShapes Go.ChangeAt Go.RowKit Go.Joins Go.Deep Go.D7
theorem own_ : ownKnob Try.prog.godebug = none := by kernel_rfl
theorem laidOut_ : laidOutB Try.prog = true := by kernel_rfl
theorem cells25_ : Try.prog.cellsOf 25 = 3 := by kernel_rfl
theorem cells27_ : Try.prog.cellsOf 27 = 2 := by kernel_rfl
section
variable {H : Type} {enc : TypeId × Value → H} {W : World} {sp : Nat → Bool} {held : Bool} {r : Reach} {b0 base : Nat} {v : Value} {d : DataW H} {p : List MemPlace}
theorem trod_lt_ {t : TypeId} (h : DataW.Trod enc Try.prog W base sp held t v d p) : ∀ x ∈ p, x.block < W.heap.size := by obtain ⟨m, hm⟩ := h; exact DataW.trod_lt m _ _ _ hm
set_option maxRecDepth 100000 in
theorem open_row {fuel : Nat} {y : DataW H × List MemPlace} (hf : DataW.trod enc Try.prog W base sp held fuel 22 [v] = some y) : ∃ (l : List Int) (A : Option Addr) (c : Nat), v = .slice A l.length c ∧ Sl W A c 1 (l.map encN) := by
  rcases open_ints Try.underlying22 Try.underlying3 (by kernel_rfl) hf with ⟨hcs, _⟩ | ⟨x, l, c, zs, hcs, _, hl, hm, hz, _, hcell, hwz⟩
  · cases hcs
    exact ⟨[], none, 0, rfl, Sl.nil (by omega)⟩
  · cases hcs
    have hzl : l ≤ zs.length := by rw [hz]; split <;> omega
    have htl : (zs.take l).length = l := by simp; omega
    refine ⟨zs.take l, some x, c, by rw [htl], ?_⟩
    · refine Sl.mk_ (len := (zs.take l).length) (by rw [htl]; exact hl) hm (fun _ => rfl) rfl (fun i z hi j u hu => ?_)
      cases j with
      | zero =>
        cases hu
        have hlt := lt_of_at hi
        simp at hlt
        have h2 := hcell i (by omega)
        simp only [List.getElem?_take] at hi
        split at hi
        · simp [List.getD, hi] at h2; simpa using h2
        · cases hi
      | succ j => simp [encN] at hu
set_option maxRecDepth 100000 in
theorem open_table {fuel : Nat} {y : DataW H × List MemPlace} (hf : DataW.trod enc Try.prog W base sp held fuel 23 [v] = some y) : ∃ (ll : List (List Int)) (A : Option Addr) (c : Nat), v = .slice A ll.length c ∧ Sl2 W A c 1 encN ll := by
  rcases open_slice1 Try.underlying23 (by kernel_rfl) hf with ⟨hcs, _⟩ | ⟨x, l, c, m, n, V, D, Pl, hcs, _, hl, hm, hmm, _, hi⟩
  · cases hcs
    exact ⟨[], none, 0, rfl, Sl2.nil_⟩
  · cases hcs
    have hml : l ≤ m := by rw [hmm]; split <;> omega
    obtain ⟨L, hlen, hL⟩ := ex_list (Q := fun i (q : (Option Addr × Nat) × List Int) => W.cell? (x.add i) = some (.slice q.1.1 q.2.length q.1.2) ∧ Sl W q.1.1 q.1.2 1 (q.2.map encN)) l (fun i hil => by
      obtain ⟨h1, h2⟩ := hi i (by omega)
      obtain ⟨q, A, c', e, hs⟩ := open_row h2
      exact ⟨((A, c'), q), by rw [h1, e], hs⟩)
    have e1 : (L.map (·.2)).length = l := by simp [hlen]
    refine ⟨L.map (·.2), some x, c, by rw [e1], ⟨L.map (·.1), by simp, ?_, fun j h q hj hq => ?_⟩⟩
    · have e2 : (L.map (·.1)).zip (L.map (·.2)) = L := by
        rw [List.zip_map']; simp
      rw [e2]
      refine Sl.mk_ (len := l) hl hm (fun _ => rfl) hlen (fun i z hz j u hu => ?_)
      cases j with
      | zero => cases hu; simpa [encH] using (hL i z hz).1
      | succ j => simp [encH] at hu
    · simp only [List.getElem?_map, Option.map_eq_some_iff] at hj hq
      obtain ⟨z, hz, rfl⟩ := hj
      obtain ⟨z', hz', rfl⟩ := hq
      rw [hz] at hz'; cases hz'
      exact (hL j z hz).2
set_option maxRecDepth 100000 in
theorem open_table_ (hv : Value.okWide Try.prog W r b0 23 v) (h : DataW.Trod enc Try.prog W base sp held 23 v d p) : ∃ (ll : List (List Int)) (A : Option Addr) (c : Nat), v = .slice A ll.length c ∧ Sl2 W A c 1 encN ll := by
  obtain ⟨a0, len0, cap0, rfl⟩ := okWide_slice Try.underlying23 hv
  obtain ⟨fuel, hf⟩ := h
  exact open_table (by simpa [Value.cells] using hf)
set_option maxRecDepth 100000 in
theorem open_trade (hv : Value.okWide Try.prog W r b0 25 v) (h : DataW.Trod enc Try.prog W base sp held 25 v d p) : ∃ (t : Trade) (A : Option Addr) (c : Nat) (B : Option Addr) (e : Nat) (C : Option Addr) (g : Nat), v = .agg #[.slice A t.supply.length c, .slice B t.demand.length e, .slice C t.cost.length g] ∧ Sl W A c 1 (t.supply.map encN) ∧ Sl W B e 1 (t.demand.map encN) ∧ Sl2 W C g 1 encN t.cost := by
  obtain ⟨c0, c1, c2, y0, y1, y2, m, rfl, _, _, hy0, hy1, hy2⟩ := open_agg3 Try.underlying25 (by kernel_rfl) cells25_ hv h
  obtain ⟨l0, A, c, rfl, s0⟩ := open_row hy0
  obtain ⟨l1, B, e, rfl, s1⟩ := open_row hy1
  obtain ⟨l2, C, g, rfl, s2⟩ := open_table hy2
  exact ⟨⟨l0, l1, l2⟩, A, c, B, e, C, g, rfl, s0, s1, s2⟩
set_option maxRecDepth 100000 in
theorem open_prices (hv : Value.okWide Try.prog W r b0 27 v) (h : DataW.Trod enc Try.prog W base sp held 27 v d p) : ∃ (t : Prices) (A : Option Addr) (c : Nat) (B : Option Addr) (e : Nat), v = .agg #[.slice A t.stores.length c, .slice B t.buyers.length e] ∧ Sl W A c 1 (t.stores.map encN) ∧ Sl W B e 1 (t.buyers.map encN) := by
  obtain ⟨c0, c1, y0, y1, m, rfl, _, _, hy0, hy1⟩ := open_agg2 Try.underlying27 (by kernel_rfl) cells27_ hv h
  obtain ⟨l0, A, c, rfl, s0⟩ := open_row hy0
  obtain ⟨l1, B, e, rfl, s1⟩ := open_row hy1
  exact ⟨⟨l0, l1⟩, A, c, B, e, rfl, s0, s1⟩
end
end Go.Open7

set_option linter.unusedVariables false
namespace Go.D7
open Go.Tb
def slices_Equal_int_k1 : Option Bool :=
  some true
def slices_Equal_int_B1 (a0 : List Int) (a1 : List Int) (rec1 : Int → Option Bool) (t13_1 : Int) : Option Bool :=
  if t13_1 < ((a0.length : Int)) then
    ix a0 t13_1 fun x1 =>
    ix a1 t13_1 fun x2 =>
    if x1 = x2 then
      gd (InR (t13_1 + 1)) <|
      rec1 ((t13_1 + 1))
    else
      some false
  else
    slices_Equal_int_k1
def slices_Equal_int_L1 (a0 : List Int) (a1 : List Int) : Nat → Int → Option Bool
  | 0, _ => none
  | n_ + 1, t13_1 => slices_Equal_int_B1 a0 a1 (slices_Equal_int_L1 a0 a1 n_) t13_1
theorem slices_Equal_int_L1_s {a0 : List Int} {a1 : List Int} {m_ : Nat} {t13_1 : Int} {res : Bool} (h : slices_Equal_int_L1 a0 a1 m_ t13_1 = some res) : ∃ k, m_ = k + 1 ∧ slices_Equal_int_B1 a0 a1 (slices_Equal_int_L1 a0 a1 k) t13_1 = some res := by
  cases m_ with
  | zero => cases h
  | succ k => exact ⟨k, rfl, h⟩
def slices_Equal_int (a0 : List Int) (a1 : List Int) : Option Bool :=
  if ((a0.length : Int)) = ((a1.length : Int)) then
    slices_Equal_int_L1 a0 a1 FU (((0 : Int)))
  else
    some false
def bulk_CheckPlan_k1 (a0 : Trade) (l1 : List Int) : Option Int :=
  bnd (slices_Equal_int l1 a0.demand) fun r1 =>
  if r1 = true then
    some ((0 : Int))
  else
    some ((6 : Int))
def bulk_CheckPlan_k2 (t26_1 : Int) (rec1 : Int → (List Int) → Option Int) (l2 : List Int) : Option Int :=
  gd (InR (t26_1 + 1)) <|
  rec1 ((t26_1 + 1)) l2
def bulk_CheckPlan_B1 (t26_1 : Int) (rec1 : Int → (List Int) → Option Int) (x1 : List Int) (rec2 : Int → (List Int) → Option Int) (t41_1 : Int) (l3 : List Int) : Option Int :=
  if t41_1 < ((x1.length : Int)) then
    ix x1 t41_1 fun x2 =>
    ix l3 t41_1 fun x3 =>
    gd (InR (x3 + x2)) <|
    ix l3 t41_1 fun x4 =>
    gd (InR (t41_1 + 1)) <|
    rec2 ((t41_1 + 1)) (((l3.set (Int.toNat t41_1) (x3 + x2))))
  else
    bulk_CheckPlan_k2 t26_1 rec1 l3
def bulk_CheckPlan_L1 (t26_1 : Int) (rec1 : Int → (List Int) → Option Int) (x1 : List Int) : Nat → Int → (List Int) → Option Int
  | 0, _, _ => none
  | n_ + 1, t41_1, l3 => bulk_CheckPlan_B1 t26_1 rec1 x1 (bulk_CheckPlan_L1 t26_1 rec1 x1 n_) t41_1 l3
theorem bulk_CheckPlan_L1_s {t26_1 : Int} {rec1 : Int → (List Int) → Option Int} {x1 : List Int} {m_ : Nat} {t41_1 : Int} {l3 : List Int} {res : Int} (h : bulk_CheckPlan_L1 t26_1 rec1 x1 m_ t41_1 l3 = some res) : ∃ k, m_ = k + 1 ∧ bulk_CheckPlan_B1 t26_1 rec1 x1 (bulk_CheckPlan_L1 t26_1 rec1 x1 k) t41_1 l3 = some res := by
  cases m_ with
  | zero => cases h
  | succ k => exact ⟨k, rfl, h⟩
def bulk_CheckPlan_B2 (a0 : Trade) (a1 : List (List Int)) (rec1 : Int → (List Int) → Option Int) (t26_1 : Int) (l4 : List Int) : Option Int :=
  if t26_1 < ((a1.length : Int)) then
    ix a1 t26_1 fun x1 =>
    bnd (bulk_total x1) fun r2 =>
    ix a0.supply t26_1 fun x5 =>
    if r2 = x5 then
      bulk_CheckPlan_L1 t26_1 rec1 x1 FU (((0 : Int))) l4
    else
      some ((6 : Int))
  else
    bulk_CheckPlan_k1 a0 l4
def bulk_CheckPlan_L2 (a0 : Trade) (a1 : List (List Int)) : Nat → Int → (List Int) → Option Int
  | 0, _, _ => none
  | n_ + 1, t26_1, l4 => bulk_CheckPlan_B2 a0 a1 (bulk_CheckPlan_L2 a0 a1 n_) t26_1 l4
theorem bulk_CheckPlan_L2_s {a0 : Trade} {a1 : List (List Int)} {m_ : Nat} {t26_1 : Int} {l4 : List Int} {res : Int} (h : bulk_CheckPlan_L2 a0 a1 m_ t26_1 l4 = some res) : ∃ k, m_ = k + 1 ∧ bulk_CheckPlan_B2 a0 a1 (bulk_CheckPlan_L2 a0 a1 k) t26_1 l4 = some res := by
  cases m_ with
  | zero => cases h
  | succ k => exact ⟨k, rfl, h⟩
def bulk_CheckPlan (a0 : Trade) (a1 : List (List Int)) : Option Int :=
  bnd (bulk_Validate a0) fun r3 =>
  if r3 = 0 then
    bnd (bulk_table a0 a1 ((120 : Int))) fun r4 =>
    if r4 = true then
      gd (0 ≤ (a0.demand.length : Int) ∧ ((a0.demand.length : Int)) ≤ 1000000) <|
      bulk_CheckPlan_L2 a0 a1 FU (((0 : Int))) (((List.replicate (Int.toNat ((a0.demand.length : Int))) (0 : Int))))
    else
      some ((1 : Int))
  else
    some r3
end Go.D7

set_option linter.unusedVariables false
namespace Go.D7
open Go.Tb
def bulk_Cost (a0 : Trade) (a1 : List (List Int)) : Option (Int × Int) :=
  bnd (bulk_CheckPlan a0 a1) fun r1 =>
  if r1 = 0 then
    bnd (bulk_cost a0 a1) fun r2 =>
    some (r2, (0 : Int))
  else
    some ((0 : Int), r1)
def ref07_within (a0 : Int) (a1 : Int) (a2 : Int) : Option Bool :=
  if a1 ≤ a0 then
    some (decide (a0 ≤ a2))
  else
    some false
def ref07_amounts_k1 (a0 : List Int) : Option Bool :=
  bnd (ref07_within ((a0.length : Int)) ((1 : Int)) ((4 : Int))) fun r1 =>
  some r1
def ref07_amounts_B1 (a0 : List Int) (rec1 : Int → Option Bool) (t3_1 : Int) : Option Bool :=
  if t3_1 < ((a0.length : Int)) then
    ix a0 t3_1 fun x1 =>
    bnd (ref07_within x1 ((0 : Int)) ((30 : Int))) fun r2 =>
    if r2 = true then
      gd (InR (t3_1 + 1)) <|
      rec1 ((t3_1 + 1))
    else
      some false
  else
    ref07_amounts_k1 a0
def ref07_amounts_L1 (a0 : List Int) : Nat → Int → Option Bool
  | 0, _ => none
  | n_ + 1, t3_1 => ref07_amounts_B1 a0 (ref07_amounts_L1 a0 n_) t3_1
def ref07_amounts (a0 : List Int) : Option Bool :=
  ref07_amounts_L1 a0 FU (((0 : Int)))
def ref07_sum_k1 (t3_1 : Int) : Option Int :=
  some t3_1
def ref07_sum_B1 (a0 : List Int) (rec1 : Int → Int → Option Int) (t3_2 : Int) (t4_1 : Int) : Option Int :=
  if t4_1 < ((a0.length : Int)) then
    ix a0 t4_1 fun x1 =>
    gd (InR (t3_2 + x1)) <|
    gd (InR (t4_1 + 1)) <|
    rec1 ((t3_2 + x1)) ((t4_1 + 1))
  else
    ref07_sum_k1 t3_2
def ref07_sum_L1 (a0 : List Int) : Nat → Int → Int → Option Int
  | 0, _, _ => none
  | n_ + 1, t3_2, t4_1 => ref07_sum_B1 a0 (ref07_sum_L1 a0 n_) t3_2 t4_1
def ref07_sum (a0 : List Int) : Option Int :=
  ref07_sum_L1 a0 FU (((0 : Int))) (((0 : Int)))
def ref07_table_k1 : Option Bool :=
  some true
def ref07_table_k2 (t7_1 : Int) (rec1 : Int → Option Bool) : Option Bool :=
  gd (InR (t7_1 + 1)) <|
  rec1 ((t7_1 + 1))
def ref07_table_B1 (a1 : List (List Int)) (a2 : Int) (t7_1 : Int) (rec1 : Int → Option Bool) (rec2 : Int → Option Bool) (t8_1 : Int) : Option Bool :=
  ix a1 t7_1 fun x1 =>
  if t8_1 < ((x1.length : Int)) then
    ix a1 t7_1 fun x2 =>
    ix x2 t8_1 fun x3 =>
    bnd (ref07_within x3 ((0 : Int)) a2) fun r1 =>
    if r1 = true then
      gd (InR (t8_1 + 1)) <|
      rec2 ((t8_1 + 1))
    else
      some false
  else
    ref07_table_k2 t7_1 rec1
def ref07_table_L1 (a1 : List (List Int)) (a2 : Int) (t7_1 : Int) (rec1 : Int → Option Bool) : Nat → Int → Option Bool
  | 0, _ => none
  | n_ + 1, t8_1 => ref07_table_B1 a1 a2 t7_1 rec1 (ref07_table_L1 a1 a2 t7_1 rec1 n_) t8_1
def ref07_table_B2 (a0 : Trade) (a1 : List (List Int)) (a2 : Int) (rec1 : Int → Option Bool) (t7_1 : Int) : Option Bool :=
  if t7_1 < ((a1.length : Int)) then
    ix a1 t7_1 fun x4 =>
    if ((x4.length : Int)) = ((a0.demand.length : Int)) then
      ref07_table_L1 a1 a2 t7_1 rec1 FU (((0 : Int)))
    else
      some false
  else
    ref07_table_k1
def ref07_table_L2 (a0 : Trade) (a1 : List (List Int)) (a2 : Int) : Nat → Int → Option Bool
  | 0, _ => none
  | n_ + 1, t7_1 => ref07_table_B2 a0 a1 a2 (ref07_table_L2 a0 a1 a2 n_) t7_1
def ref07_table (a0 : Trade) (a1 : List (List Int)) (a2 : Int) : Option Bool :=
  if ((a1.length : Int)) = ((a0.supply.length : Int)) then
    ref07_table_L2 a0 a1 a2 FU (((0 : Int)))
  else
    some false
def ref07_Validate_k1 (t28_1 : Bool) : Option Int :=
  if t28_1 = true then
    some ((1 : Int))
  else
    some ((0 : Int))
def ref07_Validate (a0 : Trade) : Option Int :=
  bnd (ref07_amounts a0.supply) fun r1 =>
  if r1 = true then
    bnd (ref07_amounts a0.demand) fun r2 =>
    if r2 = true then
      bnd (ref07_sum a0.supply) fun r3 =>
      bnd (ref07_sum a0.demand) fun r4 =>
      if r3 = r4 then
        bnd (ref07_table a0 a0.cost ((99 : Int))) fun r5 =>
        ref07_Validate_k1 ((!r5))
      else
        ref07_Validate_k1 true
    else
      ref07_Validate_k1 true
  else
    ref07_Validate_k1 true
def ref07_CheckPlan_k1 : Option Int :=
  some ((0 : Int))
def ref07_CheckPlan_B1 (a0 : Trade) (l1 : List Int) (rec1 : Int → Option Int) (t9_1 : Int) : Option Int :=
  if t9_1 < ((l1.length : Int)) then
    ix l1 t9_1 fun x1 =>
    ix a0.demand t9_1 fun x2 =>
    if x1 = x2 then
      gd (InR (t9_1 + 1)) <|
      rec1 ((t9_1 + 1))
    else
      some ((6 : Int))
  else
    ref07_CheckPlan_k1
def ref07_CheckPlan_L1 (a0 : Trade) (l1 : List Int) : Nat → Int → Option Int
  | 0, _ => none
  | n_ + 1, t9_1 => ref07_CheckPlan_B1 a0 l1 (ref07_CheckPlan_L1 a0 l1 n_) t9_1
def ref07_CheckPlan_k2 (a0 : Trade) (l1 : List Int) : Option Int :=
  ref07_CheckPlan_L1 a0 l1 FU (((0 : Int)))
def ref07_CheckPlan_k3 (t7_1 : Int) (rec2 : Int → (List Int) → Option Int) (l2 : List Int) : Option Int :=
  gd (InR (t7_1 + 1)) <|
  rec2 ((t7_1 + 1)) l2
def ref07_CheckPlan_B2 (a1 : List (List Int)) (t7_1 : Int) (rec2 : Int → (List Int) → Option Int) (rec3 : Int → (List Int) → Option Int) (t8_1 : Int) (l3 : List Int) : Option Int :=
  if t8_1 < ((l3.length : Int)) then
    ix l3 t8_1 fun x3 =>
    ix a1 t7_1 fun x4 =>
    ix x4 t8_1 fun x5 =>
    gd (InR (x3 + x5)) <|
    ix l3 t8_1 fun x6 =>
    gd (InR (t8_1 + 1)) <|
    rec3 ((t8_1 + 1)) (((l3.set (Int.toNat t8_1) (x3 + x5))))
  else
    ref07_CheckPlan_k3 t7_1 rec2 l3
def ref07_CheckPlan_L2 (a1 : List (List Int)) (t7_1 : Int) (rec2 : Int → (List Int) → Option Int) : Nat → Int → (List Int) → Option Int
  | 0, _, _ => none
  | n_ + 1, t8_1, l3 => ref07_CheckPlan_B2 a1 t7_1 rec2 (ref07_CheckPlan_L2 a1 t7_1 rec2 n_) t8_1 l3
def ref07_CheckPlan_B3 (a0 : Trade) (a1 : List (List Int)) (rec2 : Int → (List Int) → Option Int) (t7_1 : Int) (l4 : List Int) : Option Int :=
  if t7_1 < ((a1.length : Int)) then
    ix a1 t7_1 fun x7 =>
    bnd (ref07_sum x7) fun r1 =>
    ix a0.supply t7_1 fun x8 =>
    if r1 = x8 then
      ref07_CheckPlan_L2 a1 t7_1 rec2 FU (((0 : Int))) l4
    else
      some ((6 : Int))
  else
    ref07_CheckPlan_k2 a0 l4
def ref07_CheckPlan_L3 (a0 : Trade) (a1 : List (List Int)) : Nat → Int → (List Int) → Option Int
  | 0, _, _ => none
  | n_ + 1, t7_1, l4 => ref07_CheckPlan_B3 a0 a1 (ref07_CheckPlan_L3 a0 a1 n_) t7_1 l4
def ref07_CheckPlan (a0 : Trade) (a1 : List (List Int)) : Option Int :=
  bnd (ref07_Validate a0) fun r2 =>
  if r2 = 0 then
    bnd (ref07_table a0 a1 ((120 : Int))) fun r3 =>
    if r3 = true then
      gd (0 ≤ (a0.demand.length : Int) ∧ ((a0.demand.length : Int)) ≤ 1000000) <|
      ref07_CheckPlan_L3 a0 a1 FU (((0 : Int))) (((List.replicate (Int.toNat ((a0.demand.length : Int))) (0 : Int))))
    else
      some ((1 : Int))
  else
    some r2
end Go.D7

set_option linter.unusedVariables false
namespace Go.D7
open Go.Tb
def ref07_cost_k1 (t5_1 : Int) : Option Int :=
  some t5_1
def ref07_cost_k2 (t6_1 : Int) (rec1 : Int → Int → Option Int) (t5_2 : Int) : Option Int :=
  gd (InR (t6_1 + 1)) <|
  rec1 t5_2 ((t6_1 + 1))
def ref07_cost_B1 (a0 : Trade) (a1 : List (List Int)) (t6_1 : Int) (rec1 : Int → Int → Option Int) (rec2 : Int → Int → Option Int) (t5_3 : Int) (t7_1 : Int) : Option Int :=
  ix a1 t6_1 fun x1 =>
  if t7_1 < ((x1.length : Int)) then
    ix a1 t6_1 fun x2 =>
    ix x2 t7_1 fun x3 =>
    ix a0.cost t6_1 fun x4 =>
    ix x4 t7_1 fun x5 =>
    gd (InR (x3 * x5)) <|
    gd (InR (t5_3 + (x3 * x5))) <|
    gd (InR (t7_1 + 1)) <|
    rec2 ((t5_3 + (x3 * x5))) ((t7_1 + 1))
  else
    ref07_cost_k2 t6_1 rec1 t5_3
def ref07_cost_L1 (a0 : Trade) (a1 : List (List Int)) (t6_1 : Int) (rec1 : Int → Int → Option Int) : Nat → Int → Int → Option Int
  | 0, _, _ => none
  | n_ + 1, t5_3, t7_1 => ref07_cost_B1 a0 a1 t6_1 rec1 (ref07_cost_L1 a0 a1 t6_1 rec1 n_) t5_3 t7_1
def ref07_cost_B2 (a0 : Trade) (a1 : List (List Int)) (rec1 : Int → Int → Option Int) (t5_4 : Int) (t6_1 : Int) : Option Int :=
  if t6_1 < ((a1.length : Int)) then
    ref07_cost_L1 a0 a1 t6_1 rec1 FU t5_4 (((0 : Int)))
  else
    ref07_cost_k1 t5_4
def ref07_cost_L2 (a0 : Trade) (a1 : List (List Int)) : Nat → Int → Int → Option Int
  | 0, _, _ => none
  | n_ + 1, t5_4, t6_1 => ref07_cost_B2 a0 a1 (ref07_cost_L2 a0 a1 n_) t5_4 t6_1
def ref07_cost (a0 : Trade) (a1 : List (List Int)) : Option Int :=
  ref07_cost_L2 a0 a1 FU (((0 : Int))) (((0 : Int)))
def ref07_empty_k1 (m1 : List (List Int)) : Option ((List (List Int))) :=
  some m1
def ref07_empty_B1 (a0 : Trade) (rec1 : Int → (List (List Int)) → Option ((List (List Int)))) (t4_1 : Int) (m2 : List (List Int)) : Option ((List (List Int))) :=
  if t4_1 < ((a0.supply.length : Int)) then
    gd (0 ≤ (a0.demand.length : Int) ∧ ((a0.demand.length : Int)) ≤ 1000000) <|
    gd (m2.length + 1 ≤ 1000000) <|
    gd (InR (t4_1 + 1)) <|
    rec1 ((t4_1 + 1)) (((m2 ++ [(List.replicate (Int.toNat ((a0.demand.length : Int))) (0 : Int))])))
  else
    ref07_empty_k1 m2
def ref07_empty_L1 (a0 : Trade) : Nat → Int → (List (List Int)) → Option ((List (List Int)))
  | 0, _, _ => none
  | n_ + 1, t4_1, m2 => ref07_empty_B1 a0 (ref07_empty_L1 a0 n_) t4_1 m2
def ref07_empty (a0 : Trade) : Option ((List (List Int))) :=
  ref07_empty_L1 a0 FU (((0 : Int))) ((([] : List (List Int))))
end Go.D7

set_option linter.unusedVariables false
namespace Go.D7
open Go.Tb
def ref07_Corner_k1 (m1 : List (List Int)) : Option ((List (List Int)) × Int) :=
  some (m1, (0 : Int))
def ref07_Corner_k2 (t8_1 : Int) (t9_1 : Int) (m2 : List (List Int)) (l1 : List Int) (l2 : List Int) (rec1 : Int → Int → (List (List Int)) → (List Int) → (List Int) → Option ((List (List Int)) × Int)) (t35_1 : Bool) : Option ((List (List Int)) × Int) :=
  if t35_1 = true then
    ix l1 t8_1 fun x1 =>
    ix l2 t9_1 fun x2 =>
    ix m2 t8_1 fun x3 =>
    ix x3 t9_1 fun x4 =>
    gd (InR (x4 + (min x1 x2))) <|
    ix x3 t9_1 fun x5 =>
    ix l1 t8_1 fun x6 =>
    gd (InR (x6 - (min x1 x2))) <|
    ix l1 t8_1 fun x7 =>
    ix l2 t9_1 fun x8 =>
    gd (InR (x8 - (min x1 x2))) <|
    ix l2 t9_1 fun x9 =>
    ix ((l1.set (Int.toNat t8_1) (x6 - (min x1 x2)))) t8_1 fun x10 =>
    if x10 = 0 then
      gd (InR (t8_1 + 1)) <|
      rec1 ((t8_1 + 1)) t9_1 (((m2.set (Int.toNat t8_1) (x3.set (Int.toNat t9_1) (x4 + (min x1 x2)))))) (((l1.set (Int.toNat t8_1) (x6 - (min x1 x2))))) (((l2.set (Int.toNat t9_1) (x8 - (min x1 x2)))))
    else
      gd (InR (t9_1 + 1)) <|
      rec1 t8_1 ((t9_1 + 1)) (((m2.set (Int.toNat t8_1) (x3.set (Int.toNat t9_1) (x4 + (min x1 x2)))))) (((l1.set (Int.toNat t8_1) (x6 - (min x1 x2))))) (((l2.set (Int.toNat t9_1) (x8 - (min x1 x2)))))
  else
    ref07_Corner_k1 m2
def ref07_Corner_B1 (rec1 : Int → Int → (List (List Int)) → (List Int) → (List Int) → Option ((List (List Int)) × Int)) (t8_1 : Int) (t9_1 : Int) (m2 : List (List Int)) (l1 : List Int) (l2 : List Int) : Option ((List (List Int)) × Int) :=
  if t8_1 < ((l1.length : Int)) then
    ref07_Corner_k2 t8_1 t9_1 m2 l1 l2 rec1 ((decide (t9_1 < ((l2.length : Int)))))
  else
    ref07_Corner_k2 t8_1 t9_1 m2 l1 l2 rec1 false
def ref07_Corner_L1 : Nat → Int → Int → (List (List Int)) → (List Int) → (List Int) → Option ((List (List Int)) × Int)
  | 0, _, _, _, _, _ => none
  | n_ + 1, t8_1, t9_1, m2, l1, l2 => ref07_Corner_B1 (ref07_Corner_L1 n_) t8_1 t9_1 m2 l1 l2
def ref07_Corner_k3 (r1 : (List (List Int))) (l3 : List Int) (l4 : List Int) : Option ((List (List Int)) × Int) :=
  ref07_Corner_L1 FU (((0 : Int))) (((0 : Int))) r1 l3 l4
end Go.D7

set_option linter.unusedVariables false
namespace Go.D7
open Go.Tb
def ref07_best_k1 (m1 : List (List Int)) : Option ((List (List Int))) :=
  some m1
def ref07_best_B1 (l1 : List Int) (rec1 : (List (List Int)) → (List Int) → (List Int) → Option ((List (List Int)))) (l2 : List Int) (l3 : List Int) (t15_1 : Int) (x1 : Int) (rec2 : Int → (List (List Int)) → (List Int) → Option ((List (List Int)))) (t17_1 : Int) (m2 : List (List Int)) (l4 : List Int) : Option ((List (List Int))) :=
  if (0 : Int) ≤ t17_1 then
    ix l2 t17_1 fun x2 =>
    ix m2 x2 fun x3 =>
    ix x3 t17_1 fun x4 =>
    gd (InR (x4 + 1)) <|
    ix x3 t17_1 fun x5 =>
    ix l3 x2 fun x6 =>
    if (0 : Int) ≤ x6 then
      ix ((m2.set (Int.toNat x2) (x3.set (Int.toNat t17_1) (x4 + 1)))) x2 fun x7 =>
      ix x7 x6 fun x8 =>
      gd (InR (x8 - 1)) <|
      ix x7 x6 fun x9 =>
      rec2 x6 (((((m2.set (Int.toNat x2) (x3.set (Int.toNat t17_1) (x4 + 1)))).set (Int.toNat x2) (x7.set (Int.toNat x6) (x8 - 1))))) l4
    else
      ix l4 x2 fun x10 =>
      gd (InR (x10 - 1)) <|
      ix l4 x2 fun x11 =>
      rec2 x6 (((m2.set (Int.toNat x2) (x3.set (Int.toNat t17_1) (x4 + 1))))) (((l4.set (Int.toNat x2) (x10 - 1))))
  else
    rec1 m2 l4 (((l1.set (Int.toNat t15_1) (x1 - 1))))
def ref07_best_L1 (l1 : List Int) (rec1 : (List (List Int)) → (List Int) → (List Int) → Option ((List (List Int)))) (l2 : List Int) (l3 : List Int) (t15_1 : Int) (x1 : Int) : Nat → Int → (List (List Int)) → (List Int) → Option ((List (List Int)))
  | 0, _, _, _ => none
  | n_ + 1, t17_1, m2, l4 => ref07_best_B1 l1 rec1 l2 l3 t15_1 x1 (ref07_best_L1 l1 rec1 l2 l3 t15_1 x1 n_) t17_1 m2 l4
def ref07_best_k2 (m3 : List (List Int)) (l5 : List Int) (l1 : List Int) (rec1 : (List (List Int)) → (List Int) → (List Int) → Option ((List (List Int)))) (l2 : List Int) (l3 : List Int) (t15_1 : Int) : Option ((List (List Int))) :=
  ix l1 t15_1 fun x1 =>
  gd (InR (x1 - 1)) <|
  ix l1 t15_1 fun x12 =>
  ref07_best_L1 l1 rec1 l2 l3 t15_1 x1 FU t15_1 m3 l5
def ref07_best_k3 (t16_1 : Int) (rec3 : Int → Int → Option ((List (List Int)))) (t15_2 : Int) : Option ((List (List Int))) :=
  gd (InR (t16_1 + 1)) <|
  rec3 t15_2 ((t16_1 + 1))
def ref07_best_k4 (t15_3 : Int) (t16_1 : Int) (rec3 : Int → Int → Option ((List (List Int)))) (t217_1 : Bool) : Option ((List (List Int))) :=
  if t217_1 = true then
    ref07_best_k3 t16_1 rec3 t16_1
  else
    ref07_best_k3 t16_1 rec3 t15_3
def ref07_best_B2 (m3 : List (List Int)) (l5 : List Int) (l1 : List Int) (rec1 : (List (List Int)) → (List Int) → (List Int) → Option ((List (List Int)))) (l6 : List Int) (l2 : List Int) (l3 : List Int) (rec3 : Int → Int → Option ((List (List Int)))) (t15_3 : Int) (t16_1 : Int) : Option ((List (List Int))) :=
  if t16_1 < ((l1.length : Int)) then
    ix l1 t16_1 fun x13 =>
    if (0 : Int) < x13 then
      if t15_3 < 0 then
        ref07_best_k4 t15_3 t16_1 rec3 true
      else
        ix l6 t16_1 fun x14 =>
        ix l6 t15_3 fun x15 =>
        ref07_best_k4 t15_3 t16_1 rec3 ((decide (x14 < x15)))
    else
      ref07_best_k4 t15_3 t16_1 rec3 false
  else
    ref07_best_k2 m3 l5 l1 rec1 l2 l3 t15_3
def ref07_best_L2 (m3 : List (List Int)) (l5 : List Int) (l1 : List Int) (rec1 : (List (List Int)) → (List Int) → (List Int) → Option ((List (List Int)))) (l6 : List Int) (l2 : List Int) (l3 : List Int) : Nat → Int → Int → Option ((List (List Int)))
  | 0, _, _ => none
  | n_ + 1, t15_3, t16_1 => ref07_best_B2 m3 l5 l1 rec1 l6 l2 l3 (ref07_best_L2 m3 l5 l1 rec1 l6 l2 l3 n_) t15_3 t16_1
def ref07_best_k5 (m3 : List (List Int)) (l5 : List Int) (l1 : List Int) (rec1 : (List (List Int)) → (List Int) → (List Int) → Option ((List (List Int)))) (l6 : List Int) (l2 : List Int) (l3 : List Int) : Option ((List (List Int))) :=
  ref07_best_L2 m3 l5 l1 rec1 l6 l2 l3 FU (((-1 : Int))) (((0 : Int)))
def ref07_best_k6 (t12_1 : Int) (rec4 : Int → (List Int) → (List Int) → (List Int) → (List Int) → Option ((List (List Int)))) (l7 : List Int) (l8 : List Int) (l9 : List Int) (l10 : List Int) : Option ((List (List Int))) :=
  gd (InR (t12_1 + 1)) <|
  rec4 ((t12_1 + 1)) l7 l8 l9 l10
def ref07_best_k7 (t13_1 : Int) (rec5 : Int → (List Int) → (List Int) → (List Int) → (List Int) → Option ((List (List Int)))) (l11 : List Int) (l12 : List Int) (l13 : List Int) (l14 : List Int) : Option ((List (List Int))) :=
  gd (InR (t13_1 + 1)) <|
  rec5 ((t13_1 + 1)) l11 l12 l13 l14
def ref07_best_k8 (t14_1 : Int) (rec6 : Int → (List Int) → (List Int) → (List Int) → (List Int) → Option ((List (List Int)))) (l15 : List Int) (l16 : List Int) (l17 : List Int) (l18 : List Int) : Option ((List (List Int))) :=
  gd (InR (t14_1 + 1)) <|
  rec6 ((t14_1 + 1)) l15 l16 l17 l18
def ref07_best_k9 (a0 : Trade) (t13_1 : Int) (t14_1 : Int) (l19 : List Int) (l20 : List Int) (rec6 : Int → (List Int) → (List Int) → (List Int) → (List Int) → Option ((List (List Int)))) (l21 : List Int) (l22 : List Int) (t171_1 : Bool) : Option ((List (List Int))) :=
  if t171_1 = true then
    ix l21 t14_1 fun x16 =>
    ix a0.cost t13_1 fun x17 =>
    ix x17 t14_1 fun x18 =>
    gd (InR (x16 - x18)) <|
    ix l19 t13_1 fun x19 =>
    ix l20 t13_1 fun x20 =>
    ref07_best_k8 t14_1 rec6 (((l19.set (Int.toNat t13_1) (x16 - x18)))) l21 l22 (((l20.set (Int.toNat t13_1) t14_1)))
  else
    ref07_best_k8 t14_1 rec6 l19 l21 l22 l20
def ref07_best_k10 (a0 : Trade) (m3 : List (List Int)) (t13_1 : Int) (t14_1 : Int) (l19 : List Int) (l20 : List Int) (rec6 : Int → (List Int) → (List Int) → (List Int) → (List Int) → Option ((List (List Int)))) (l21 : List Int) (l22 : List Int) : Option ((List (List Int))) :=
  ix l21 t14_1 fun x21 =>
  if x21 < 1073741824 then
    ix m3 t13_1 fun x22 =>
    ix x22 t14_1 fun x23 =>
    if (0 : Int) < x23 then
      ix l21 t14_1 fun x24 =>
      ix a0.cost t13_1 fun x25 =>
      ix x25 t14_1 fun x26 =>
      gd (InR (x24 - x26)) <|
      ix l19 t13_1 fun x27 =>
      ref07_best_k9 a0 t13_1 t14_1 l19 l20 rec6 l21 l22 ((decide ((x24 - x26) < x27)))
    else
      ref07_best_k9 a0 t13_1 t14_1 l19 l20 rec6 l21 l22 false
  else
    ref07_best_k9 a0 t13_1 t14_1 l19 l20 rec6 l21 l22 false
def ref07_best_k11 (a0 : Trade) (m3 : List (List Int)) (t13_1 : Int) (t14_1 : Int) (l19 : List Int) (l23 : List Int) (l24 : List Int) (l20 : List Int) (rec6 : Int → (List Int) → (List Int) → (List Int) → (List Int) → Option ((List (List Int)))) (t116_1 : Bool) : Option ((List (List Int))) :=
  if t116_1 = true then
    ix l19 t13_1 fun x28 =>
    ix a0.cost t13_1 fun x29 =>
    ix x29 t14_1 fun x30 =>
    gd (InR (x28 + x30)) <|
    ix l23 t14_1 fun x31 =>
    ix l24 t14_1 fun x32 =>
    ref07_best_k10 a0 m3 t13_1 t14_1 l19 l20 rec6 (((l23.set (Int.toNat t14_1) (x28 + x30)))) (((l24.set (Int.toNat t14_1) t13_1)))
  else
    ref07_best_k10 a0 m3 t13_1 t14_1 l19 l20 rec6 l23 l24
def ref07_best_B3 (a0 : Trade) (m3 : List (List Int)) (t13_1 : Int) (rec5 : Int → (List Int) → (List Int) → (List Int) → (List Int) → Option ((List (List Int)))) (rec6 : Int → (List Int) → (List Int) → (List Int) → (List Int) → Option ((List (List Int)))) (t14_1 : Int) (l19 : List Int) (l23 : List Int) (l24 : List Int) (l20 : List Int) : Option ((List (List Int))) :=
  if t14_1 < ((l23.length : Int)) then
    ix l19 t13_1 fun x33 =>
    if x33 < 1073741824 then
      ix l19 t13_1 fun x34 =>
      ix a0.cost t13_1 fun x35 =>
      ix x35 t14_1 fun x36 =>
      gd (InR (x34 + x36)) <|
      ix l23 t14_1 fun x37 =>
      ref07_best_k11 a0 m3 t13_1 t14_1 l19 l23 l24 l20 rec6 ((decide ((x34 + x36) < x37)))
    else
      ref07_best_k11 a0 m3 t13_1 t14_1 l19 l23 l24 l20 rec6 false
  else
    ref07_best_k7 t13_1 rec5 l19 l23 l24 l20
def ref07_best_L3 (a0 : Trade) (m3 : List (List Int)) (t13_1 : Int) (rec5 : Int → (List Int) → (List Int) → (List Int) → (List Int) → Option ((List (List Int)))) : Nat → Int → (List Int) → (List Int) → (List Int) → (List Int) → Option ((List (List Int)))
  | 0, _, _, _, _, _ => none
  | n_ + 1, t14_1, l19, l23, l24, l20 => ref07_best_B3 a0 m3 t13_1 rec5 (ref07_best_L3 a0 m3 t13_1 rec5 n_) t14_1 l19 l23 l24 l20
def ref07_best_B4 (a0 : Trade) (m3 : List (List Int)) (t12_1 : Int) (rec4 : Int → (List Int) → (List Int) → (List Int) → (List Int) → Option ((List (List Int)))) (rec5 : Int → (List Int) → (List Int) → (List Int) → (List Int) → Option ((List (List Int)))) (t13_1 : Int) (l25 : List Int) (l26 : List Int) (l27 : List Int) (l28 : List Int) : Option ((List (List Int))) :=
  if t13_1 < ((l25.length : Int)) then
    ref07_best_L3 a0 m3 t13_1 rec5 FU (((0 : Int))) l25 l26 l27 l28
  else
    ref07_best_k6 t12_1 rec4 l25 l26 l27 l28
def ref07_best_L4 (a0 : Trade) (m3 : List (List Int)) (t12_1 : Int) (rec4 : Int → (List Int) → (List Int) → (List Int) → (List Int) → Option ((List (List Int)))) : Nat → Int → (List Int) → (List Int) → (List Int) → (List Int) → Option ((List (List Int)))
  | 0, _, _, _, _, _ => none
  | n_ + 1, t13_1, l25, l26, l27, l28 => ref07_best_B4 a0 m3 t12_1 rec4 (ref07_best_L4 a0 m3 t12_1 rec4 n_) t13_1 l25 l26 l27 l28
def ref07_best_B5 (a0 : Trade) (m3 : List (List Int)) (l5 : List Int) (l1 : List Int) (rec1 : (List (List Int)) → (List Int) → (List Int) → Option ((List (List Int)))) (rec4 : Int → (List Int) → (List Int) → (List Int) → (List Int) → Option ((List (List Int)))) (t12_1 : Int) (l29 : List Int) (l30 : List Int) (l31 : List Int) (l32 : List Int) : Option ((List (List Int))) :=
  gd (InR (((l5.length : Int)) + ((l1.length : Int)))) <|
  gd (InR ((((l5.length : Int)) + ((l1.length : Int))) + 1)) <|
  if t12_1 < ((((l5.length : Int)) + ((l1.length : Int))) + 1) then
    ref07_best_L4 a0 m3 t12_1 rec4 FU (((0 : Int))) l29 l30 l31 l32
  else
    ref07_best_k5 m3 l5 l1 rec1 l30 l31 l32
def ref07_best_L5 (a0 : Trade) (m3 : List (List Int)) (l5 : List Int) (l1 : List Int) (rec1 : (List (List Int)) → (List Int) → (List Int) → Option ((List (List Int)))) : Nat → Int → (List Int) → (List Int) → (List Int) → (List Int) → Option ((List (List Int)))
  | 0, _, _, _, _, _ => none
  | n_ + 1, t12_1, l29, l30, l31, l32 => ref07_best_B5 a0 m3 l5 l1 rec1 (ref07_best_L5 a0 m3 l5 l1 rec1 n_) t12_1 l29 l30 l31 l32
def ref07_best_k12 (a0 : Trade) (m3 : List (List Int)) (l5 : List Int) (l1 : List Int) (rec1 : (List (List Int)) → (List Int) → (List Int) → Option ((List (List Int)))) (l33 : List Int) (l34 : List Int) (l35 : List Int) (l36 : List Int) : Option ((List (List Int))) :=
  ref07_best_L5 a0 m3 l5 l1 rec1 FU (((0 : Int))) l35 l34 l33 l36
def ref07_best_k13 (t11_1 : Int) (l37 : List Int) (rec7 : Int → (List Int) → (List Int) → Option ((List (List Int)))) (l38 : List Int) : Option ((List (List Int))) :=
  gd (InR (t11_1 + 1)) <|
  rec7 ((t11_1 + 1)) l38 (((l37.set (Int.toNat t11_1) (-1))))
def ref07_best_B6 (a0 : Trade) (m3 : List (List Int)) (l5 : List Int) (l1 : List Int) (rec1 : (List (List Int)) → (List Int) → (List Int) → Option ((List (List Int)))) (l33 : List Int) (l34 : List Int) (rec7 : Int → (List Int) → (List Int) → Option ((List (List Int)))) (t11_1 : Int) (l39 : List Int) (l37 : List Int) : Option ((List (List Int))) :=
  if t11_1 < ((l39.length : Int)) then
    ix l37 t11_1 fun x38 =>
    ix l5 t11_1 fun x39 =>
    if x39 = 0 then
      ix l39 t11_1 fun x40 =>
      ref07_best_k13 t11_1 l37 rec7 (((l39.set (Int.toNat t11_1) 1073741824)))
    else
      ref07_best_k13 t11_1 l37 rec7 l39
  else
    ref07_best_k12 a0 m3 l5 l1 rec1 l33 l34 l39 l37
def ref07_best_L6 (a0 : Trade) (m3 : List (List Int)) (l5 : List Int) (l1 : List Int) (rec1 : (List (List Int)) → (List Int) → (List Int) → Option ((List (List Int)))) (l33 : List Int) (l34 : List Int) : Nat → Int → (List Int) → (List Int) → Option ((List (List Int)))
  | 0, _, _, _ => none
  | n_ + 1, t11_1, l39, l37 => ref07_best_B6 a0 m3 l5 l1 rec1 l33 l34 (ref07_best_L6 a0 m3 l5 l1 rec1 l33 l34 n_) t11_1 l39 l37
def ref07_best_k14 (a0 : Trade) (m3 : List (List Int)) (l5 : List Int) (l1 : List Int) (rec1 : (List (List Int)) → (List Int) → (List Int) → Option ((List (List Int)))) (l40 : List Int) (l33 : List Int) (l41 : List Int) (l34 : List Int) : Option ((List (List Int))) :=
  ref07_best_L6 a0 m3 l5 l1 rec1 l33 l34 FU (((0 : Int))) l40 l41
def ref07_best_B7 (a0 : Trade) (m3 : List (List Int)) (l5 : List Int) (l1 : List Int) (rec1 : (List (List Int)) → (List Int) → (List Int) → Option ((List (List Int)))) (l40 : List Int) (l33 : List Int) (l41 : List Int) (rec8 : Int → (List Int) → Option ((List (List Int)))) (t10_1 : Int) (l42 : List Int) : Option ((List (List Int))) :=
  if t10_1 < ((l42.length : Int)) then
    ix l42 t10_1 fun x41 =>
    gd (InR (t10_1 + 1)) <|
    rec8 ((t10_1 + 1)) (((l42.set (Int.toNat t10_1) 1073741824)))
  else
    ref07_best_k14 a0 m3 l5 l1 rec1 l40 l33 l41 l42
def ref07_best_L7 (a0 : Trade) (m3 : List (List Int)) (l5 : List Int) (l1 : List Int) (rec1 : (List (List Int)) → (List Int) → (List Int) → Option ((List (List Int)))) (l40 : List Int) (l33 : List Int) (l41 : List Int) : Nat → Int → (List Int) → Option ((List (List Int)))
  | 0, _, _ => none
  | n_ + 1, t10_1, l42 => ref07_best_B7 a0 m3 l5 l1 rec1 l40 l33 l41 (ref07_best_L7 a0 m3 l5 l1 rec1 l40 l33 l41 n_) t10_1 l42
def ref07_best_k15 (a0 : Trade) (m3 : List (List Int)) (l5 : List Int) (l1 : List Int) (rec1 : (List (List Int)) → (List Int) → (List Int) → Option ((List (List Int)))) (l40 : List Int) (l43 : List Int) (l33 : List Int) (l41 : List Int) : Option ((List (List Int))) :=
  ref07_best_L7 a0 m3 l5 l1 rec1 l40 l33 l41 FU (((0 : Int))) l43
def ref07_best_k16 (a0 : Trade) (m3 : List (List Int)) (l5 : List Int) (l1 : List Int) (rec1 : (List (List Int)) → (List Int) → (List Int) → Option ((List (List Int)))) (l40 : List Int) (l43 : List Int) : Option ((List (List Int))) :=
  gd (0 ≤ (l1.length : Int) ∧ ((l1.length : Int)) ≤ 1000000) <|
  gd (0 ≤ (l5.length : Int) ∧ ((l5.length : Int)) ≤ 1000000) <|
  ref07_best_k15 a0 m3 l5 l1 rec1 l40 l43 (((List.replicate (Int.toNat ((l1.length : Int))) (0 : Int)))) (((List.replicate (Int.toNat ((l5.length : Int))) (0 : Int))))
def ref07_best_B8 (a0 : Trade) (rec1 : (List (List Int)) → (List Int) → (List Int) → Option ((List (List Int)))) (m3 : List (List Int)) (l5 : List Int) (l1 : List Int) : Option ((List (List Int))) :=
  bnd (ref07_sum l5) fun r1 =>
  if (0 : Int) < r1 then
    gd (0 ≤ (l5.length : Int) ∧ ((l5.length : Int)) ≤ 1000000) <|
    gd (0 ≤ (l1.length : Int) ∧ ((l1.length : Int)) ≤ 1000000) <|
    ref07_best_k16 a0 m3 l5 l1 rec1 (((List.replicate (Int.toNat ((l5.length : Int))) (0 : Int)))) (((List.replicate (Int.toNat ((l1.length : Int))) (0 : Int))))
  else
    ref07_best_k1 m3
def ref07_best_L8 (a0 : Trade) : Nat → (List (List Int)) → (List Int) → (List Int) → Option ((List (List Int)))
  | 0, _, _, _ => none
  | n_ + 1, m3, l5, l1 => ref07_best_B8 a0 (ref07_best_L8 a0 n_) m3 l5 l1
def ref07_best_k17 (a0 : Trade) (r2 : (List (List Int))) (l44 : List Int) (l45 : List Int) : Option ((List (List Int))) :=
  ref07_best_L8 a0 FU r2 l44 l45
def ref07_best (a0 : Trade) : Option ((List (List Int))) :=
  bnd (ref07_empty a0) fun r2 =>
  gd ((([] : List Int)).length + a0.supply.length ≤ 1000000) <|
  gd ((([] : List Int)).length + a0.demand.length ≤ 1000000) <|
  ref07_best_k17 a0 r2 (((([] : List Int) ++ a0.supply))) (((([] : List Int) ++ a0.demand)))
end Go.D7

set_option linter.unusedVariables false
namespace Go.D7
open Go.Tb
def ref07_Least (a0 : Trade) : Option (Int × Int) :=
  bnd (ref07_Validate a0) fun r1 =>
  if r1 = 0 then
    bnd (ref07_best a0) fun r2 =>
    bnd (ref07_cost a0 r2) fun r3 =>
    some (r3, (0 : Int))
  else
    some ((0 : Int), r1)
def bulk_IsBest (a0 : Trade) (a1 : List (List Int)) : Option (Bool × Int) :=
  bnd (bulk_CheckPlan a0 a1) fun r1 =>
  if r1 = 0 then
    bnd (bulk_search a0 a1) fun r2 =>
    some (decide (r2.2 = []), (0 : Int))
  else
    some (false, r1)
def ref07_IsBest (a0 : Trade) (a1 : List (List Int)) : Option (Bool × Int) :=
  bnd (ref07_CheckPlan a0 a1) fun r1 =>
  if r1 = 0 then
    bnd (ref07_cost a0 a1) fun r2 =>
    bnd (ref07_best a0) fun r3 =>
    bnd (ref07_cost a0 r3) fun r4 =>
    some (decide (r2 = r4), (0 : Int))
  else
    some (false, r1)
end Go.D7

set_option linter.unusedVariables false
namespace Go.D7
open Go.Tb
def ref07_CheckPrices_k1 : Option Int :=
  some ((0 : Int))
def ref07_CheckPrices_k2 (t8_1 : Int) (rec1 : Int → Option Int) : Option Int :=
  gd (InR (t8_1 + 1)) <|
  rec1 ((t8_1 + 1))
def ref07_CheckPrices_B1 (a0 : Trade) (a1 : Prices) (t8_1 : Int) (rec1 : Int → Option Int) (rec2 : Int → Option Int) (t9_1 : Int) : Option Int :=
  if t9_1 < ((a1.buyers.length : Int)) then
    ix a1.stores t8_1 fun x1 =>
    ix a1.buyers t9_1 fun x2 =>
    gd (InR (x1 + x2)) <|
    ix a0.cost t8_1 fun x3 =>
    ix x3 t9_1 fun x4 =>
    if x4 < (x1 + x2) then
      some ((6 : Int))
    else
      gd (InR (t9_1 + 1)) <|
      rec2 ((t9_1 + 1))
  else
    ref07_CheckPrices_k2 t8_1 rec1
def ref07_CheckPrices_L1 (a0 : Trade) (a1 : Prices) (t8_1 : Int) (rec1 : Int → Option Int) : Nat → Int → Option Int
  | 0, _ => none
  | n_ + 1, t9_1 => ref07_CheckPrices_B1 a0 a1 t8_1 rec1 (ref07_CheckPrices_L1 a0 a1 t8_1 rec1 n_) t9_1
def ref07_CheckPrices_B2 (a0 : Trade) (a1 : Prices) (rec1 : Int → Option Int) (t8_1 : Int) : Option Int :=
  if t8_1 < ((a1.stores.length : Int)) then
    ref07_CheckPrices_L1 a0 a1 t8_1 rec1 FU (((0 : Int)))
  else
    ref07_CheckPrices_k1
def ref07_CheckPrices_L2 (a0 : Trade) (a1 : Prices) : Nat → Int → Option Int
  | 0, _ => none
  | n_ + 1, t8_1 => ref07_CheckPrices_B2 a0 a1 (ref07_CheckPrices_L2 a0 a1 n_) t8_1
def ref07_CheckPrices_k3 (a0 : Trade) (a1 : Prices) : Option Int :=
  ref07_CheckPrices_L2 a0 a1 FU (((0 : Int)))
def ref07_CheckPrices_B3 (a0 : Trade) (a1 : Prices) (rec3 : Int → Option Int) (t7_1 : Int) : Option Int :=
  if t7_1 < ((a1.buyers.length : Int)) then
    ix a1.buyers t7_1 fun x5 =>
    bnd (ref07_within x5 ((-1000 : Int)) ((1000 : Int))) fun r1 =>
    if r1 = true then
      gd (InR (t7_1 + 1)) <|
      rec3 ((t7_1 + 1))
    else
      some ((1 : Int))
  else
    ref07_CheckPrices_k3 a0 a1
def ref07_CheckPrices_L3 (a0 : Trade) (a1 : Prices) : Nat → Int → Option Int
  | 0, _ => none
  | n_ + 1, t7_1 => ref07_CheckPrices_B3 a0 a1 (ref07_CheckPrices_L3 a0 a1 n_) t7_1
def ref07_CheckPrices_k4 (a0 : Trade) (a1 : Prices) : Option Int :=
  ref07_CheckPrices_L3 a0 a1 FU (((0 : Int)))
def ref07_CheckPrices_B4 (a0 : Trade) (a1 : Prices) (rec4 : Int → Option Int) (t6_1 : Int) : Option Int :=
  if t6_1 < ((a1.stores.length : Int)) then
    ix a1.stores t6_1 fun x6 =>
    bnd (ref07_within x6 ((-1000 : Int)) ((1000 : Int))) fun r2 =>
    if r2 = true then
      gd (InR (t6_1 + 1)) <|
      rec4 ((t6_1 + 1))
    else
      some ((1 : Int))
  else
    ref07_CheckPrices_k4 a0 a1
def ref07_CheckPrices_L4 (a0 : Trade) (a1 : Prices) : Nat → Int → Option Int
  | 0, _ => none
  | n_ + 1, t6_1 => ref07_CheckPrices_B4 a0 a1 (ref07_CheckPrices_L4 a0 a1 n_) t6_1
def ref07_CheckPrices_k5 (a0 : Trade) (a1 : Prices) (t30_1 : Bool) : Option Int :=
  if t30_1 = true then
    some ((1 : Int))
  else
    ref07_CheckPrices_L4 a0 a1 FU (((0 : Int)))
def ref07_CheckPrices (a0 : Trade) (a1 : Prices) : Option Int :=
  bnd (ref07_Validate a0) fun r3 =>
  if r3 = 0 then
    if ((a1.stores.length : Int)) = ((a0.supply.length : Int)) then
      ref07_CheckPrices_k5 a0 a1 ((!(decide (((a1.buyers.length : Int)) = ((a0.demand.length : Int))))))
    else
      ref07_CheckPrices_k5 a0 a1 true
  else
    some r3
def ref07_Worth_k1 (t7_1 : Int) : Option (Int × Int) :=
  some (t7_1, (0 : Int))
def ref07_Worth_B1 (a0 : Trade) (a1 : Prices) (rec1 : Int → Int → Option (Int × Int)) (t7_2 : Int) (t9_1 : Int) : Option (Int × Int) :=
  if t9_1 < ((a1.buyers.length : Int)) then
    ix a1.buyers t9_1 fun x1 =>
    ix a0.demand t9_1 fun x2 =>
    gd (InR (x1 * x2)) <|
    gd (InR (t7_2 + (x1 * x2))) <|
    gd (InR (t9_1 + 1)) <|
    rec1 ((t7_2 + (x1 * x2))) ((t9_1 + 1))
  else
    ref07_Worth_k1 t7_2
def ref07_Worth_L1 (a0 : Trade) (a1 : Prices) : Nat → Int → Int → Option (Int × Int)
  | 0, _, _ => none
  | n_ + 1, t7_2, t9_1 => ref07_Worth_B1 a0 a1 (ref07_Worth_L1 a0 a1 n_) t7_2 t9_1
def ref07_Worth_k2 (a0 : Trade) (a1 : Prices) (t7_3 : Int) : Option (Int × Int) :=
  ref07_Worth_L1 a0 a1 FU t7_3 (((0 : Int)))
def ref07_Worth_B2 (a0 : Trade) (a1 : Prices) (rec2 : Int → Int → Option (Int × Int)) (t7_4 : Int) (t8_1 : Int) : Option (Int × Int) :=
  if t8_1 < ((a1.stores.length : Int)) then
    ix a1.stores t8_1 fun x3 =>
    ix a0.supply t8_1 fun x4 =>
    gd (InR (x3 * x4)) <|
    gd (InR (t7_4 + (x3 * x4))) <|
    gd (InR (t8_1 + 1)) <|
    rec2 ((t7_4 + (x3 * x4))) ((t8_1 + 1))
  else
    ref07_Worth_k2 a0 a1 t7_4
def ref07_Worth_L2 (a0 : Trade) (a1 : Prices) : Nat → Int → Int → Option (Int × Int)
  | 0, _, _ => none
  | n_ + 1, t7_4, t8_1 => ref07_Worth_B2 a0 a1 (ref07_Worth_L2 a0 a1 n_) t7_4 t8_1
def ref07_Worth (a0 : Trade) (a1 : Prices) : Option (Int × Int) :=
  bnd (ref07_CheckPrices a0 a1) fun r1 =>
  if r1 = 0 then
    ref07_Worth_L2 a0 a1 FU (((0 : Int))) (((0 : Int)))
  else
    some ((0 : Int), r1)
end Go.D7

set_option linter.unusedVariables false
namespace Go.D7
open Go.Tb
structure Prices_ where
  t : Trade
  lowest : List Int
def bulk_prices_store (a0 : Prices_) (a1 : Int) : Option Int :=
  ix a0.lowest a1 fun x1 =>
  gd (InR (-x1)) <|
  some (-x1)
def bulk_list_k1 (l1 : List Int) : Option ((List Int)) :=
  some l1
def bulk_list_B1 (a0 : Int) (a1 : Int → Option Int) (rec1 : Int → (List Int) → Option ((List Int))) (t8_1 : Int) (l2 : List Int) : Option ((List Int)) :=
  if t8_1 < a0 then
    bnd (a1 t8_1) fun r1 =>
    gd (l2.length + (([r1] : List Int)).length ≤ 1000000) <|
    gd (InR (t8_1 + 1)) <|
    rec1 ((t8_1 + 1)) (((l2 ++ ([r1] : List Int))))
  else
    bulk_list_k1 l2
def bulk_list_L1 (a0 : Int) (a1 : Int → Option Int) : Nat → Int → (List Int) → Option ((List Int))
  | 0, _, _ => none
  | n_ + 1, t8_1, l2 => bulk_list_B1 a0 a1 (bulk_list_L1 a0 a1 n_) t8_1 l2
theorem bulk_list_L1_s {a0 : Int} {a1 : Int → Option Int} {m_ : Nat} {t8_1 : Int} {l2 : List Int} {res : (List Int)} (h : bulk_list_L1 a0 a1 m_ t8_1 l2 = some res) : ∃ k, m_ = k + 1 ∧ bulk_list_B1 a0 a1 (bulk_list_L1 a0 a1 k) t8_1 l2 = some res := by
  cases m_ with
  | zero => cases h
  | succ k => exact ⟨k, rfl, h⟩
def bulk_list (a0 : Int) (a1 : Int → Option Int) : Option ((List Int)) :=
  bulk_list_L1 a0 a1 FU (((0 : Int))) ((([] : List Int)))
def bulk_prices_buyer (a0 : Prices_) (a1 : Int) : Option Int :=
  gd (InR (((a0.t.supply.length : Int)) + a1)) <|
  ix a0.lowest (((a0.t.supply.length : Int)) + a1) fun x1 =>
  some x1
def bulk_Prove (a0 : Trade) : Option (Prices × Int) :=
  bnd (bulk_Validate a0) fun r1 =>
  if r1 = 0 then
    bnd (bulk_best a0) fun r2 =>
    bnd (bulk_list ((a0.supply.length : Int)) ((fun x0 => bulk_prices_store ((⟨a0, r2.2⟩ : Prices_)) x0))) fun r3 =>
    bnd (bulk_list ((a0.demand.length : Int)) ((fun x0 => bulk_prices_buyer ((⟨a0, r2.2⟩ : Prices_)) x0))) fun r4 =>
    some ((⟨r3, r4⟩ : Prices), (0 : Int))
  else
    some ((⟨[], []⟩ : Prices), r1)
def bulk_Round (a0 : Trade) (a1 : List (List Int)) : Option ((List Arr2) × Bool × Int) :=
  bnd (bulk_CheckPlan a0 a1) fun r1 =>
  if r1 = 0 then
    bnd (bulk_search a0 a1) fun r2 =>
    if r2.2 = [] then
      some (([] : List Arr2), false, (0 : Int))
    else
      bnd (bulk_pairs r2.2) fun r3 =>
      some (r3, true, (0 : Int))
  else
    some (([] : List Arr2), false, r1)
end Go.D7

set_option linter.unusedVariables false
namespace Go.D7
open Go.Tb
def ref07_isRound_k1 : Option Bool :=
  some true
def ref07_isRound_k2 (t3_1 : Int) (rec1 : Int → Option Bool) : Option Bool :=
  gd (InR (t3_1 + 1)) <|
  rec1 ((t3_1 + 1))
def ref07_isRound_B1 (a0 : List Arr2) (t3_1 : Int) (rec1 : Int → Option Bool) (rec2 : Int → Option Bool) (t5_1 : Int) : Option Bool :=
  if t5_1 < t3_1 then
    ix a0 t3_1 fun x1 =>
    ix a0 t5_1 fun x2 =>
    if ((x1.at0 == x2.at0) && (x1.at1 == x2.at1)) = true then
      some false
    else
      gd (InR (t5_1 + 1)) <|
      rec2 ((t5_1 + 1))
  else
    ref07_isRound_k2 t3_1 rec1
def ref07_isRound_L1 (a0 : List Arr2) (t3_1 : Int) (rec1 : Int → Option Bool) : Nat → Int → Option Bool
  | 0, _ => none
  | n_ + 1, t5_1 => ref07_isRound_B1 a0 t3_1 rec1 (ref07_isRound_L1 a0 t3_1 rec1 n_) t5_1
def ref07_isRound_B2 (a0 : List Arr2) (rec1 : Int → Option Bool) (t3_1 : Int) : Option Bool :=
  if t3_1 < ((a0.length : Int)) then
    gd (InR (t3_1 + 1)) <|
    gd ((a0.length : Int) ≠ 0 ∧ InR (Int.tmod (t3_1 + 1) ((a0.length : Int)))) <|
    ix a0 (Int.tmod (t3_1 + 1) ((a0.length : Int))) fun x3 =>
    gd ((2 : Int) ≠ 0 ∧ InR (Int.tmod t3_1 2)) <|
    ix a0 t3_1 fun x4 =>
    ix (([x4.at0, x4.at1] : List Int)) (Int.tmod t3_1 2) fun x5 =>
    gd ((2 : Int) ≠ 0 ∧ InR (Int.tmod t3_1 2)) <|
    ix (([x3.at0, x3.at1] : List Int)) (Int.tmod t3_1 2) fun x6 =>
    if x5 = x6 then
      ref07_isRound_L1 a0 t3_1 rec1 FU (((0 : Int)))
    else
      some false
  else
    ref07_isRound_k1
def ref07_isRound_L2 (a0 : List Arr2) : Nat → Int → Option Bool
  | 0, _ => none
  | n_ + 1, t3_1 => ref07_isRound_B2 a0 (ref07_isRound_L2 a0 n_) t3_1
def ref07_isRound_k3 (a0 : List Arr2) (t14_1 : Bool) : Option Bool :=
  if t14_1 = true then
    some false
  else
    ref07_isRound_L2 a0 FU (((0 : Int)))
def ref07_isRound (a0 : List Arr2) : Option Bool :=
  if ((a0.length : Int)) < 4 then
    ref07_isRound_k3 a0 true
  else
    gd ((2 : Int) ≠ 0 ∧ InR (Int.tmod ((a0.length : Int)) 2)) <|
    ref07_isRound_k3 a0 ((!(decide ((Int.tmod ((a0.length : Int)) 2) = 0))))
def ref07_CopyTable_k1 (m1 : List (List Int)) : Option ((List (List Int))) :=
  some m1
def ref07_CopyTable_B1 (a0 : List (List Int)) (rec1 : Int → (List (List Int)) → Option ((List (List Int)))) (t4_1 : Int) (m2 : List (List Int)) : Option ((List (List Int))) :=
  if t4_1 < ((a0.length : Int)) then
    ix a0 t4_1 fun x1 =>
    gd ((([] : List Int)).length + x1.length ≤ 1000000) <|
    gd (m2.length + 1 ≤ 1000000) <|
    gd (InR (t4_1 + 1)) <|
    rec1 ((t4_1 + 1)) (((m2 ++ [(([] : List Int) ++ x1)])))
  else
    ref07_CopyTable_k1 m2
def ref07_CopyTable_L1 (a0 : List (List Int)) : Nat → Int → (List (List Int)) → Option ((List (List Int)))
  | 0, _, _ => none
  | n_ + 1, t4_1, m2 => ref07_CopyTable_B1 a0 (ref07_CopyTable_L1 a0 n_) t4_1 m2
theorem ref07_CopyTable_L1_s {a0 : List (List Int)} {m_ : Nat} {t4_1 : Int} {m2 : List (List Int)} {res : (List (List Int))} (h : ref07_CopyTable_L1 a0 m_ t4_1 m2 = some res) : ∃ k, m_ = k + 1 ∧ ref07_CopyTable_B1 a0 (ref07_CopyTable_L1 a0 k) t4_1 m2 = some res := by
  cases m_ with
  | zero => cases h
  | succ k => exact ⟨k, rfl, h⟩
def ref07_CopyTable (a0 : List (List Int)) : Option ((List (List Int))) :=
  ref07_CopyTable_L1 a0 FU (((0 : Int))) ((([] : List (List Int))))
def ref07_Along_k1 (t11_1 : Int) (m1 : List (List Int)) : Option ((List (List Int)) × Int × Int) :=
  some (m1, t11_1, (0 : Int))
def ref07_Along_B1 (a2 : List Arr2) (t11_1 : Int) (rec1 : Int → (List (List Int)) → Option ((List (List Int)) × Int × Int)) (t14_1 : Int) (m2 : List (List Int)) : Option ((List (List Int)) × Int × Int) :=
  if t14_1 < ((a2.length : Int)) then
    ix a2 t14_1 fun x1 =>
    ix m2 x1.at0 fun x2 =>
    ix a2 t14_1 fun x3 =>
    ix x2 x3.at1 fun x4 =>
    gd (InR (x4 + t11_1)) <|
    ix x2 x3.at1 fun x5 =>
    gd (InR (t14_1 + 1)) <|
    ix a2 (t14_1 + 1) fun x6 =>
    ix ((m2.set (Int.toNat x1.at0) (x2.set (Int.toNat x3.at1) (x4 + t11_1)))) x6.at0 fun x7 =>
    gd (InR (t14_1 + 1)) <|
    ix a2 (t14_1 + 1) fun x8 =>
    ix x7 x8.at1 fun x9 =>
    gd (InR (x9 - t11_1)) <|
    ix x7 x8.at1 fun x10 =>
    gd (InR (t14_1 + 2)) <|
    rec1 ((t14_1 + 2)) (((((m2.set (Int.toNat x1.at0) (x2.set (Int.toNat x3.at1) (x4 + t11_1)))).set (Int.toNat x6.at0) (x7.set (Int.toNat x8.at1) (x9 - t11_1)))))
  else
    ref07_Along_k1 t11_1 m2
def ref07_Along_L1 (a2 : List Arr2) (t11_1 : Int) : Nat → Int → (List (List Int)) → Option ((List (List Int)) × Int × Int)
  | 0, _, _ => none
  | n_ + 1, t14_1, m2 => ref07_Along_B1 a2 t11_1 (ref07_Along_L1 a2 t11_1 n_) t14_1 m2
def ref07_Along_k2 (a1 : List (List Int)) (a2 : List Arr2) (t11_1 : Int) : Option ((List (List Int)) × Int × Int) :=
  bnd (ref07_CopyTable a1) fun r1 =>
  ref07_Along_L1 a2 t11_1 FU (((0 : Int))) r1
def ref07_Along_B2 (a1 : List (List Int)) (a2 : List Arr2) (rec2 : Int → Int → Option ((List (List Int)) × Int × Int)) (t11_2 : Int) (t12_1 : Int) : Option ((List (List Int)) × Int × Int) :=
  if t12_1 < ((a2.length : Int)) then
    ix a2 t12_1 fun x11 =>
    ix a1 x11.at0 fun x12 =>
    ix a2 t12_1 fun x13 =>
    ix x12 x13.at1 fun x14 =>
    gd (InR (t12_1 + 2)) <|
    rec2 ((min t11_2 x14)) ((t12_1 + 2))
  else
    ref07_Along_k2 a1 a2 t11_2
def ref07_Along_L2 (a1 : List (List Int)) (a2 : List Arr2) : Nat → Int → Int → Option ((List (List Int)) × Int × Int)
  | 0, _, _ => none
  | n_ + 1, t11_2, t12_1 => ref07_Along_B2 a1 a2 (ref07_Along_L2 a1 a2 n_) t11_2 t12_1
def ref07_Along_k3 (a1 : List (List Int)) (a2 : List Arr2) : Option ((List (List Int)) × Int × Int) :=
  bnd (ref07_isRound a2) fun r2 =>
  if r2 = true then
    ix a2 1 fun x15 =>
    ix a1 x15.at0 fun x16 =>
    ix a2 1 fun x17 =>
    ix x16 x17.at1 fun x18 =>
    ref07_Along_L2 a1 a2 FU x18 (((1 : Int)))
  else
    some (([] : List (List Int)), (0 : Int), (1 : Int))
def ref07_Along_k4 (t10_1 : Int) (rec3 : Int → Option ((List (List Int)) × Int × Int)) (t53_1 : Bool) : Option ((List (List Int)) × Int × Int) :=
  if t53_1 = true then
    some (([] : List (List Int)), (0 : Int), (4 : Int))
  else
    gd (InR (t10_1 + 1)) <|
    rec3 ((t10_1 + 1))
def ref07_Along_B3 (a0 : Trade) (a1 : List (List Int)) (a2 : List Arr2) (rec3 : Int → Option ((List (List Int)) × Int × Int)) (t10_1 : Int) : Option ((List (List Int)) × Int × Int) :=
  if t10_1 < ((a2.length : Int)) then
    ix a2 t10_1 fun x19 =>
    gd (InR (((a0.supply.length : Int)) - 1)) <|
    bnd (ref07_within x19.at0 ((0 : Int)) (((a0.supply.length : Int)) - 1)) fun r3 =>
    if r3 = true then
      ix a2 t10_1 fun x20 =>
      gd (InR (((a0.demand.length : Int)) - 1)) <|
      bnd (ref07_within x20.at1 ((0 : Int)) (((a0.demand.length : Int)) - 1)) fun r4 =>
      ref07_Along_k4 t10_1 rec3 ((!r4))
    else
      ref07_Along_k4 t10_1 rec3 true
  else
    ref07_Along_k3 a1 a2
def ref07_Along_L3 (a0 : Trade) (a1 : List (List Int)) (a2 : List Arr2) : Nat → Int → Option ((List (List Int)) × Int × Int)
  | 0, _ => none
  | n_ + 1, t10_1 => ref07_Along_B3 a0 a1 a2 (ref07_Along_L3 a0 a1 a2 n_) t10_1
def ref07_Along (a0 : Trade) (a1 : List (List Int)) (a2 : List Arr2) : Option ((List (List Int)) × Int × Int) :=
  bnd (ref07_CheckPlan a0 a1) fun r5 =>
  if r5 = 0 then
    if (8 : Int) < ((a2.length : Int)) then
      some (([] : List (List Int)), (0 : Int), (3 : Int))
    else
      ref07_Along_L3 a0 a1 a2 FU (((0 : Int)))
  else
    some (([] : List (List Int)), (0 : Int), r5)
end Go.D7

set_option linter.unusedVariables false
namespace Go.D7
open Go.Tb
def slices_Index_2_int_2_int_k1 : Option Int :=
  some ((-1 : Int))
def slices_Index_2_int_2_int_B1 (a0 : List Arr2) (a1 : Arr2) (rec1 : Int → Option Int) (t8_1 : Int) : Option Int :=
  if t8_1 < ((a0.length : Int)) then
    gd ((([a1.at0, a1.at1] : List Int)).length = 2) <|
    ix (([a1.at0, a1.at1] : List Int)) 0 fun x1 =>
    ix (([a1.at0, a1.at1] : List Int)) 1 fun x2 =>
    ix a0 t8_1 fun x3 =>
    if ((x1 == x3.at0) && (x2 == x3.at1)) = true then
      some t8_1
    else
      gd (InR (t8_1 + 1)) <|
      rec1 ((t8_1 + 1))
  else
    slices_Index_2_int_2_int_k1
def slices_Index_2_int_2_int_L1 (a0 : List Arr2) (a1 : Arr2) : Nat → Int → Option Int
  | 0, _ => none
  | n_ + 1, t8_1 => slices_Index_2_int_2_int_B1 a0 a1 (slices_Index_2_int_2_int_L1 a0 a1 n_) t8_1
theorem slices_Index_2_int_2_int_L1_s {a0 : List Arr2} {a1 : Arr2} {m_ : Nat} {t8_1 : Int} {res : Int} (h : slices_Index_2_int_2_int_L1 a0 a1 m_ t8_1 = some res) : ∃ k, m_ = k + 1 ∧ slices_Index_2_int_2_int_B1 a0 a1 (slices_Index_2_int_2_int_L1 a0 a1 k) t8_1 = some res := by
  cases m_ with
  | zero => cases h
  | succ k => exact ⟨k, rfl, h⟩
def slices_Index_2_int_2_int (a0 : List Arr2) (a1 : Arr2) : Option Int :=
  slices_Index_2_int_2_int_L1 a0 a1 FU (((0 : Int)))
def slices_Contains_2_int_2_int (a0 : List Arr2) (a1 : Arr2) : Option Bool :=
  gd ((([a1.at0, a1.at1] : List Int)).length = 2) <|
  ix (([a1.at0, a1.at1] : List Int)) 0 fun x1 =>
  ix (([a1.at0, a1.at1] : List Int)) 1 fun x2 =>
  bnd (slices_Index_2_int_2_int a0 ((⟨x1, x2⟩ : Arr2))) fun r1 =>
  some (decide ((0 : Int) ≤ r1))
def bulk_isRound_k1 : Option Bool :=
  some true
def bulk_isRound_k2 (t17_1 : Int) (rec1 : Int → Option Bool) (t45_1 : Bool) : Option Bool :=
  if t45_1 = true then
    some false
  else
    gd (InR (t17_1 + 1)) <|
    rec1 ((t17_1 + 1))
def bulk_isRound_B1 (a0 : List Arr2) (rec1 : Int → Option Bool) (t17_1 : Int) : Option Bool :=
  if t17_1 < ((a0.length : Int)) then
    ix a0 t17_1 fun x1 =>
    gd (InR (t17_1 + 1)) <|
    gd ((a0.length : Int) ≠ 0 ∧ InR (Int.tmod (t17_1 + 1) ((a0.length : Int)))) <|
    ix a0 (Int.tmod (t17_1 + 1) ((a0.length : Int))) fun x2 =>
    gd ((2 : Int) ≠ 0 ∧ InR (Int.tmod t17_1 2)) <|
    ix (([x1.at0, x1.at1] : List Int)) (Int.tmod t17_1 2) fun x3 =>
    gd ((2 : Int) ≠ 0 ∧ InR (Int.tmod t17_1 2)) <|
    ix (([x2.at0, x2.at1] : List Int)) (Int.tmod t17_1 2) fun x4 =>
    if x3 = x4 then
      gd (0 ≤ t17_1 ∧ t17_1 ≤ (a0.length : Int)) <|
      gd ((([x1.at0, x1.at1] : List Int)).length = 2) <|
      ix (([x1.at0, x1.at1] : List Int)) 0 fun x5 =>
      ix (([x1.at0, x1.at1] : List Int)) 1 fun x6 =>
      bnd (slices_Contains_2_int_2_int ((List.take (Int.toNat t17_1) a0)) ((⟨x5, x6⟩ : Arr2))) fun r1 =>
      bulk_isRound_k2 t17_1 rec1 r1
    else
      bulk_isRound_k2 t17_1 rec1 true
  else
    bulk_isRound_k1
def bulk_isRound_L1 (a0 : List Arr2) : Nat → Int → Option Bool
  | 0, _ => none
  | n_ + 1, t17_1 => bulk_isRound_B1 a0 (bulk_isRound_L1 a0 n_) t17_1
theorem bulk_isRound_L1_s {a0 : List Arr2} {m_ : Nat} {t17_1 : Int} {res : Bool} (h : bulk_isRound_L1 a0 m_ t17_1 = some res) : ∃ k, m_ = k + 1 ∧ bulk_isRound_B1 a0 (bulk_isRound_L1 a0 k) t17_1 = some res := by
  cases m_ with
  | zero => cases h
  | succ k => exact ⟨k, rfl, h⟩
def bulk_isRound_k3 (a0 : List Arr2) (t14_1 : Bool) : Option Bool :=
  if t14_1 = true then
    some false
  else
    bulk_isRound_L1 a0 FU (((0 : Int)))
def bulk_isRound (a0 : List Arr2) : Option Bool :=
  if ((a0.length : Int)) < 4 then
    bulk_isRound_k3 a0 true
  else
    gd ((2 : Int) ≠ 0 ∧ InR (Int.tmod ((a0.length : Int)) 2)) <|
    bulk_isRound_k3 a0 ((!(decide ((Int.tmod ((a0.length : Int)) 2) = 0))))
end Go.D7

set_option linter.unusedVariables false
namespace Go.D7
open Go.Tb
def bulk_Along_k1 (a1 : List (List Int)) (a2 : List Arr2) : Option ((List (List Int)) × Int × Int) :=
  bnd (bulk_isRound a2) fun r1 =>
  if r1 = true then
    bnd (bulk_along a1 a2) fun r2 =>
    some (r2.1, r2.2, (0 : Int))
  else
    some (([] : List (List Int)), (0 : Int), (1 : Int))
def bulk_Along_k2 (t25_1 : Int) (rec1 : Int → Option ((List (List Int)) × Int × Int)) (t46_1 : Bool) : Option ((List (List Int)) × Int × Int) :=
  if t46_1 = true then
    some (([] : List (List Int)), (0 : Int), (4 : Int))
  else
    gd (InR (t25_1 + 1)) <|
    rec1 ((t25_1 + 1))
def bulk_Along_B1 (a0 : Trade) (a1 : List (List Int)) (a2 : List Arr2) (rec1 : Int → Option ((List (List Int)) × Int × Int)) (t25_1 : Int) : Option ((List (List Int)) × Int × Int) :=
  if t25_1 < ((a2.length : Int)) then
    ix a2 t25_1 fun x1 =>
    ix (([x1.at0, x1.at1] : List Int)) 0 fun x2 =>
    gd (InR (((a0.supply.length : Int)) - 1)) <|
    bnd (bulk_within x2 ((0 : Int)) (((a0.supply.length : Int)) - 1)) fun r3 =>
    if r3 = true then
      ix (([x1.at0, x1.at1] : List Int)) 1 fun x3 =>
      gd (InR (((a0.demand.length : Int)) - 1)) <|
      bnd (bulk_within x3 ((0 : Int)) (((a0.demand.length : Int)) - 1)) fun r4 =>
      bulk_Along_k2 t25_1 rec1 ((!r4))
    else
      bulk_Along_k2 t25_1 rec1 true
  else
    bulk_Along_k1 a1 a2
def bulk_Along_L1 (a0 : Trade) (a1 : List (List Int)) (a2 : List Arr2) : Nat → Int → Option ((List (List Int)) × Int × Int)
  | 0, _ => none
  | n_ + 1, t25_1 => bulk_Along_B1 a0 a1 a2 (bulk_Along_L1 a0 a1 a2 n_) t25_1
theorem bulk_Along_L1_s {a0 : Trade} {a1 : List (List Int)} {a2 : List Arr2} {m_ : Nat} {t25_1 : Int} {res : (List (List Int)) × Int × Int} (h : bulk_Along_L1 a0 a1 a2 m_ t25_1 = some res) : ∃ k, m_ = k + 1 ∧ bulk_Along_B1 a0 a1 a2 (bulk_Along_L1 a0 a1 a2 k) t25_1 = some res := by
  cases m_ with
  | zero => cases h
  | succ k => exact ⟨k, rfl, h⟩
def bulk_Along (a0 : Trade) (a1 : List (List Int)) (a2 : List Arr2) : Option ((List (List Int)) × Int × Int) :=
  bnd (bulk_CheckPlan a0 a1) fun r5 =>
  if r5 = 0 then
    if (8 : Int) < ((a2.length : Int)) then
      some (([] : List (List Int)), (0 : Int), (3 : Int))
    else
      bulk_Along_L1 a0 a1 a2 FU (((0 : Int)))
  else
    some (([] : List (List Int)), (0 : Int), r5)
end Go.D7

set_option linter.unusedVariables false
set_option linter.unusedSimpArgs false
namespace Go.Tb
open Go.RowKit
section
variable {P : Program} {n : Nat} {ops : Array Oper} {Q : Exit → Env → World → Prop} {ρ : Env} {w : World}
variable {d : Option Tmp} {ty : TypeId} {pos : String} {after : Array Edge} {g : Option (Nat × Bool)} {K : Value → World → Prop}
theorem Mod.refl (w : World) (A : Option Addr) : Mod w w A := ⟨rfl, rfl, rfl, Nat.le_refl _, fun _ _ _ => rfl⟩
theorem Mod.trans {w w1 w2 : World} {A : Option Addr} (a : Mod w w1 A) (b : Mod w1 w2 A) : Mod w w2 A :=
  ⟨b.os.trans a.os, b.tape.trans a.tape, b.output.trans a.output, Nat.le_trans a.size b.size, fun k hk hn => (b.block k (Nat.lt_of_lt_of_le hk a.size) hn).trans (a.block k hk hn)⟩
end
section
variable {α : Type} {w : World} {A : Option Addr} {c e k : Nat} {enc : α → List Value} {l : List α}
theorem Own.at0 (h : Own w A c e k (l.map enc)) (h0 : 0 < l.length) : ∃ b, A = some ⟨b, 0, none⟩ := by
  rcases h.own.2 with ⟨hv, hn⟩ | ⟨g, cap, cur, hv, r⟩
  · simp at hn; simp [hn] at h0
  · injection hv with hv1
    exact ⟨g, hv1⟩
end
section
variable {w0 w w' : World} {L : List Ck}
end
end Go.Tb

set_option linter.unusedVariables false
namespace Go.D7
open Go.Tb
def top_TopPlans_k1 (t16_1 : Int) (rec1 : Int → Int → (List (List Int)) → Option Bool) (r1 : (List (List Int)) × Int × Int) (r2 : Int × Int) (t196_1 : Bool) : Option Bool :=
  if t196_1 = true then
    some false
  else
    bnd (ref07_CopyTable r1.1) fun r3 =>
    gd (InR (t16_1 + 1)) <|
    rec1 r2.1 ((t16_1 + 1)) r3
def top_TopPlans_k2 (a0 : Trade) (t15_1 : Int) (t16_1 : Int) (t1_1 : List (List Int)) (rec1 : Int → Int → (List (List Int)) → Option Bool) (r4 : (List Arr2) × Bool × Int) (t167_1 : Bool) : Option Bool :=
  if t167_1 = true then
    some true
  else
    bnd (bulk_Along a0 t1_1 r4.1) fun r1 =>
    bnd (bulk_Cost a0 r1.1) fun r2 =>
    if r1.2.2 = 0 then
      if r2.2 = 0 then
        if r1.2.1 < 1 then
          top_TopPlans_k1 t16_1 rec1 r1 r2 true
        else
          top_TopPlans_k1 t16_1 rec1 r1 r2 ((decide (t15_1 ≤ r2.1)))
      else
        top_TopPlans_k1 t16_1 rec1 r1 r2 true
    else
      top_TopPlans_k1 t16_1 rec1 r1 r2 true
def top_TopPlans_k3 (a0 : Trade) (t15_1 : Int) (t16_1 : Int) (t1_1 : List (List Int)) (rec1 : Int → Int → (List (List Int)) → Option Bool) (r5 : Bool × Int) (r4 : (List Arr2) × Bool × Int) (t162_1 : Bool) : Option Bool :=
  if t162_1 = true then
    some false
  else
    if r5.1 = true then
      top_TopPlans_k2 a0 t15_1 t16_1 t1_1 rec1 r4 true
    else
      top_TopPlans_k2 a0 t15_1 t16_1 t1_1 rec1 r4 ((decide ((40 : Int) < t16_1)))
def top_TopPlans_B1 (a0 : Trade) (r6 : Int × Int) (rec1 : Int → Int → (List (List Int)) → Option Bool) (t15_1 : Int) (t16_1 : Int) (t1_1 : List (List Int)) : Option Bool :=
  bnd (bulk_IsBest a0 t1_1) fun r5 =>
  bnd (bulk_Round a0 t1_1) fun r4 =>
  if r5.2 = 0 then
    if r4.2.2 = 0 then
      if (r5.1 == r4.2.1) = true then
        top_TopPlans_k3 a0 t15_1 t16_1 t1_1 rec1 r5 r4 true
      else
        if (r5.1 == (decide (t15_1 = r6.1))) = true then
          top_TopPlans_k3 a0 t15_1 t16_1 t1_1 rec1 r5 r4 ((decide (t15_1 < r6.1)))
        else
          top_TopPlans_k3 a0 t15_1 t16_1 t1_1 rec1 r5 r4 true
    else
      top_TopPlans_k3 a0 t15_1 t16_1 t1_1 rec1 r5 r4 true
  else
    top_TopPlans_k3 a0 t15_1 t16_1 t1_1 rec1 r5 r4 true
def top_TopPlans_L1 (a0 : Trade) (r6 : Int × Int) : Nat → Int → Int → (List (List Int)) → Option Bool
  | 0, _, _, _ => none
  | n_ + 1, t15_1, t16_1, t1_1 => top_TopPlans_B1 a0 r6 (top_TopPlans_L1 a0 r6 n_) t15_1 t16_1 t1_1
theorem top_TopPlans_L1_s {a0 : Trade} {r6 : Int × Int} {m_ : Nat} {t15_1 : Int} {t16_1 : Int} {t1_1 : List (List Int)} {res : Bool} (h : top_TopPlans_L1 a0 r6 m_ t15_1 t16_1 t1_1 = some res) : ∃ k, m_ = k + 1 ∧ top_TopPlans_B1 a0 r6 (top_TopPlans_L1 a0 r6 k) t15_1 t16_1 t1_1 = some res := by
  cases m_ with
  | zero => cases h
  | succ k => exact ⟨k, rfl, h⟩
def top_TopPlans_k4 (a0 : Trade) (a1 : List (List Int)) (r6 : Int × Int) (r7 : Int × Int) (t124_1 : Bool) : Option Bool :=
  if t124_1 = true then
    some false
  else
    top_TopPlans_L1 a0 r6 FU r7.1 (((0 : Int))) a1
def top_TopPlans_k5 (a0 : Trade) (a1 : List (List Int)) (r6 : Int × Int) (r8 : Int × Int) (t104_1 : Bool) : Option Bool :=
  if t104_1 = true then
    some false
  else
    bnd (bulk_Cost a0 a1) fun r7 =>
    if r7.2 = 0 then
      if r8.2 = 0 then
        top_TopPlans_k4 a0 a1 r6 r7 ((decide (r7.1 < r8.1)))
      else
        top_TopPlans_k4 a0 a1 r6 r7 false
    else
      bnd (bulk_CheckPlan a0 a1) fun r9 =>
      some (decide (r9 = r7.2))
def top_TopPlans_k6 (a0 : Trade) (a1 : List (List Int)) (a2 : Prices) (t57_1 : Bool) : Option Bool :=
  if t57_1 = true then
    some true
  else
    bnd (bulk_Least a0) fun r6 =>
    bnd (bulk_Prove a0) fun r10 =>
    if r6.2 = r10.2 then
      if r6.2 = 0 then
        bnd (bulk_Worth a0 r10.1) fun r11 =>
        bnd (bulk_Worth a0 a2) fun r8 =>
        if r11.2 = 0 then
          if r11.1 = r6.1 then
            if r8.2 = 0 then
              top_TopPlans_k5 a0 a1 r6 r8 ((decide (r6.1 < r8.1)))
            else
              top_TopPlans_k5 a0 a1 r6 r8 false
          else
            top_TopPlans_k5 a0 a1 r6 r8 true
        else
          top_TopPlans_k5 a0 a1 r6 r8 true
      else
        bnd (bulk_Validate a0) fun r12 =>
        some (decide (r12 = r6.2))
    else
      some false
def top_TopPlans_k7 (a0 : Trade) (a1 : List (List Int)) (a2 : Prices) (t41_1 : Bool) : Option Bool :=
  if t41_1 = true then
    some false
  else
    bnd (law07_Long a0 ([a1])) fun r13 =>
    if r13 = true then
      top_TopPlans_k6 a0 a1 a2 true
    else
      if (50 : Int) < ((a2.stores.length : Int)) then
        top_TopPlans_k6 a0 a1 a2 true
      else
        top_TopPlans_k6 a0 a1 a2 ((decide ((50 : Int) < ((a2.buyers.length : Int)))))
def top_TopPlans (a0 : Trade) (a1 : List (List Int)) (a2 : Prices) : Option Bool :=
  bnd (bulk_Least ((⟨([2] : List Int), ([2] : List Int), ([([3] : List Int)] : List (List Int))⟩ : Trade))) fun r14 =>
  if r14.2 = 0 then
    top_TopPlans_k7 a0 a1 a2 ((!(decide (r14.1 = 6))))
  else
    top_TopPlans_k7 a0 a1 a2 true
end Go.D7
