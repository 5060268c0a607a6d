/- Lemmas and walks that the proof of this claim uses: Tb30, Tb31, Tb32, Tb34, Tb35, Tb36, Tb37, TryShelf1, D1m1D, D1m2D, D1m3D, D1m4D, D1m5D, D1m6D, D1m14D, D1m16D, D1m27D, TbLevelOpen, Tb22, D1p1, D1p2, D1p3, D1p4, D1p5, D1p6. -/
import Derived.Test.YtgnlfgkmkkjkoaaLevelWalks0
set_option linter.unusedVariables false
set_option linter.unusedSimpArgs false
namespace Go.Tb
open Go.RowKit
structure FitsD (n : Nat) (ds : List Deferred) (ρ : Env) (a : Act) : Prop where
  defers : a.defers = ds
  fits : Fits n ρ { a with defers := [] }
def liftD (n : Nat) (ds : List Deferred) (Q : Exit → Env → World → Prop) : Exit → Act → World → Prop := fun e a w => ∃ ρ, FitsD n ds ρ a ∧ Q e ρ w
def CWD (P : Program) (n : Nat) (ds : List Deferred) (c : Code) (Q : Exit → Env → World → Prop) (ρ : Env) (w : World) : Prop := ∀ a, FitsD n ds ρ a → c.wp P (liftD n ds Q) a w
def LWD (P : Program) (n : Nat) (ds : List Deferred) (ops : Array Oper) (Q : Exit → Env → World → Prop) (l : List Oper) (ρ : Env) (w : World) : Prop := ∀ a, FitsD n ds ρ a → wpList P ops (liftD n ds Q) l a w
section
variable {P : Program} {n : Nat} {ds : List Deferred} {ops : Array Oper} {Q : Exit → Env → World → Prop} {ρ : Env} {w : World}
theorem eval_defers (a : Act) (l : List Deferred) : ({ a with defers := l } : Act).eval = a.eval := by
  funext x; cases x <;> rfl
theorem OW.toD {o : Oper} {K : Value → World → Prop} (h : OW P n Q o ρ w K) {a : Act} (ha : FitsD n ds ρ a) : wpV P o a w K (fun c w' => Q (.panic c) ρ w') := by
  have := h _ ha.fits
  unfold wpV at this ⊢
  rw [eval_defers] at this
  exact this
theorem FitsD.upd {a : Act} (h : FitsD n ds ρ a) {d : Option Nat} (hd : okDst n d = true) (v : Value) : FitsD n ds (Tb.upd ρ d v) (a.put d v) := by
  have := h.fits.upd hd v
  refine ⟨?_, ?_⟩
  · cases d <;> exact h.defers
  · cases d <;> exact this
theorem LWD.go {o : Oper} {rest : List Oper} (hg : o.guard = none) (hd : okDst n o.dst = true) (h : OW P n Q o ρ w (fun v w' => LWD P n ds ops Q rest (upd ρ o.dst v) w')) : LWD P n ds ops Q (o :: rest) ρ w := fun a ha => by
  unfold wpList
  rw [if_pos (by simp [Region.wanted, hg])]
  exact .inl (wp_of_wpV (h.toD ha) (fun v w' hk => hk _ (ha.upd hd v)) (fun c w' hk => ⟨ρ, ha, hk⟩))
theorem LWD.pure {o : Oper} {rest : List Oper} {v : Value} (hg : o.guard = none) (hd : okDst n o.dst = true) (h : RV P n o ρ w v) (k : LWD P n ds ops Q rest (upd ρ o.dst v) w) : LWD P n ds ops Q (o :: rest) ρ w :=
  LWD.go hg hd (OW.value h k)
theorem LWD.nil (h : Q .normal ρ w) : LWD P n ds ops Q [] ρ w := fun _ ha => wpList_nil ⟨ρ, ha, h⟩
theorem CWD.region {id : Nat} {l : List Oper} (h : LWD P n ds l.toArray Q l ρ w) : CWD P n ds (.region id l.toArray false) Q ρ w := fun a ha => wp_region_lit (h a ha)
theorem CWD.seq {x y : Code} (h : CWD P n ds x (thenE (fun ρ w => CWD P n ds y Q ρ w) Q) ρ w) : CWD P n ds (.seq x y) Q ρ w := fun a ha => by
  refine wp_seq (wp_mono (h a ha) fun e a' w' hq => ?_)
  obtain ⟨ρ', hf, hq⟩ := hq
  cases e <;> first | exact hq a' hf | exact ⟨ρ', hf, hq⟩
theorem CWD.ret (h : Q .ret ρ w) : CWD P n ds .ret Q ρ w := fun _ ha => wp_ret ⟨ρ, ha, h⟩
variable {d : Option Tmp} {ty : TypeId} {pos : String} {after : Array Edge} {g : Option (Nat × Bool)} {K : Value → World → Prop}
end
end Go.Tb
namespace Go.Tb
theorem Fits.add {n k : Nat} {v : Value} {ρ : Env} {a : Act} (h : Fits n ρ a) (hv : a.tmps[k]? = some v) : Fits n ((k, v) :: ρ) a := ⟨h.defers, h.size, fun t u hl => by
  unfold Tb.look at hl
  split at hl
  · rename_i hb
    have : k = t := Nat.eq_of_beq_eq_true hb
    subst this
    simp at hl; subst hl; exact hv
  · exact h.at_ t u hl⟩
end Go.Tb
namespace Go.Tb
section
variable {P : Program} {n : Nat} {ops : Array Oper} {Q : Exit → Act → World → Prop} {a : Act} {w : World} {ρ : Env}
end
end Go.Tb
namespace Go.Tb
section
variable {P : Program} {n : Nat} {ρ : Env} {w : World} {d : Option Tmp} {ty : TypeId} {pos : String} {after : Array Edge} {g : Option (Nat × Bool)}
end
end Go.Tb
namespace Go.Tb
section
variable {P : Program} {n : Nat} {ρ : Env} {w : World} {d : Option Tmp} {ty : TypeId} {pos : String} {after : Array Edge} {g : Option (Nat × Bool)}
end
end Go.Tb

set_option linter.unusedVariables false
namespace Go.Tb
structure SlT {α β : Type} (w : World) (A : Option Addr) (c k : Nat) (enc : (Option Addr × Nat) × α → List Value) (f : α → List β) (k2 : Nat) (enc2 : β → List Value) (l : List α) : Prop where
  ex : ∃ hs : List (Option Addr × Nat), hs.length = l.length ∧ Sl w A c k ((hs.zip l).map enc) ∧ ∀ (j : Nat) (h : Option Addr × Nat) (x : α), hs[j]? = some h → l[j]? = some x → Sl w h.1 h.2 k2 ((f x).map enc2)
section
variable {α β : Type} {w w' : World} {A : Option Addr} {c k k2 : Nat} {enc : (Option Addr × Nat) × α → List Value} {f : α → List β} {enc2 : β → List Value} {l : List α}
theorem SlT.ext (h : SlT w A c k enc f k2 enc2 l) (e : Ext w w') : SlT w' A c k enc f k2 enc2 l := by
  obtain ⟨hs, h1, h2, h3⟩ := h.ex
  exact ⟨hs, h1, h2.ext e, fun j h x hj hx => (h3 j h x hj hx).ext e⟩
theorem SlT.at_ (h : SlT w A c k enc f k2 enc2 l) {j : Nat} {x : α} (hx : l[j]? = some x) : ∃ (Aj : Option Addr) (cj : Nat), Cells w (elemPtr A k j) (enc ((Aj, cj), x)) ∧ Sl w Aj cj k2 ((f x).map enc2) := by
  obtain ⟨hs, h1, h2, h3⟩ := h.ex
  have hlt := lt_of_at hx
  have hh : hs[j]? = some hs[j] := by simp [h1, hlt]
  refine ⟨hs[j].1, hs[j].2, ?_, h3 j _ x hh hx⟩
  exact h2.at_ (enc := enc) (x := (hs[j], x)) (by simp [List.getElem?_zip_eq_some, hh, hx])
theorem SlT.addr (h : SlT w A c k enc f k2 enc2 l) {i : Int} (h0 : 0 ≤ i ∧ i < l.length) : ∃ a, A = some a := by
  obtain ⟨hs, h1, h2, _⟩ := h.ex
  exact h2.addr (i := i) (by simp [h1]; omega)
theorem SlT.max (h : SlT w A c k enc f k2 enc2 l) : (l.length : Int) ≤ 9223372036854775807 := by
  obtain ⟨hs, h1, h2, _⟩ := h.ex
  have := h2.max
  simp [h1] at this
  omega
theorem SlT.nil_ : SlT w none 0 k enc f k2 enc2 [] := ⟨⟨[], rfl, Sl.nil (by decide), fun j h l hj => by simp at hj⟩⟩
end
end Go.Tb

set_option linter.unusedVariables false
namespace Go.Tb
open Go.RowKit
section
variable {P : Program} {n : Nat} {ops : Array Oper} {Q : Exit → Env → World → Prop} {ρ : Env} {w : World} {d : Option Tmp} {ty : TypeId} {pos : String} {after : Array Edge} {g : Option (Nat × Bool)} {K : Value → World → Prop}
/-- What an assertion to the type q gives, with its word on whether it holds. -/
def AssertM (P : Program) (q : TypeId) (v r : Value) : Prop := ∀ (t : TypeId) (w : World), (Instr.typeAssert v t q true).run P w = .ok r w
theorem AssertM.yes {q : TypeId} {fs : TypeDesc} {v : Value} (hT : P.underlying q = some fs) (hn : (match fs with | .interface _ => true | _ => false) = false) : AssertM P q (.iface q v) (.tuple #[v, .bool true]) := fun t w => by
  simp only [Instr.typeAssert, Sem.run_bind, run_underlying hT, Result.andThen_ok]
  cases fs <;> simp_all
theorem zeroV_run {q : TypeId} {z : Value} (hz : tyZ P q = some z) (w : World) : (zeroValue q).run P w = .ok z w := by
  unfold tyZ at hz
  cases hi : P.info? q with
  | none => simp [hi] at hz
  | some i => simp [hi] at hz; simp [zeroValue, typeInfo, hi, hz]
theorem AssertM.no {q q' : TypeId} {fs : TypeDesc} {v z : Value} (hT : P.underlying q = some fs) (hn : (match fs with | .interface _ => true | _ => false) = false) (hz : tyZ P q = some z) (hq : q' ≠ q) : AssertM P q (.iface q' v) (.tuple #[z, .bool false]) := fun t w => by
  simp only [Instr.typeAssert, Sem.run_bind, run_underlying hT, Result.andThen_ok]
  cases fs <;> simp_all [zeroV_run hz]
theorem AssertM.nil {q : TypeId} {fs : TypeDesc} {z : Value} (hT : P.underlying q = some fs) (hn : (match fs with | .interface _ => true | _ => false) = false) (hz : tyZ P q = some z) : AssertM P q .nilIface (.tuple #[z, .bool false]) := fun t w => by
  simp only [Instr.typeAssert, Sem.run_bind, run_underlying hT, Result.andThen_ok]
  cases fs <;> simp_all [zeroV_run hz]
/-- A method called through an interface. -/
def CallsM (P : Program) (v : Value) (name : String) (args : List Value) (w : World) (R : Ending → World → Prop) : Prop :=
  ∃ (t : TypeId) (u : Value) (f : FuncId) (r : Value), v = .iface t u ∧ (∀ w, (method (P.types.size + Made.depth) t u name).run P w = .ok (f, r) w) ∧ callable P f = true ∧ Calls P f (r :: args).toArray w R
theorem OW.invoke {recv : Operand} {name : String} {args : Array Operand} {tys : Array TypeId} {vs : List Value} {v : Value} {R : Ending → World → Prop} (hx : ev ρ recv = some v) (hargs : evs ρ args.toList = some vs)
    (hc : CallsM P v name vs w R) (k : ∀ e w', R e w' → ∃ v, e = .returned v ∧ K v w') : OW P n Q ⟨d, .call ⟨.invoke recv name, args, tys⟩, ty, pos, after, g⟩ ρ w K := by
  obtain ⟨t, u, f, r, rfl, hm, hf, hc⟩ := hc
  refine OW.enters (f := f) (args := (r :: vs).toArray) (fun a ha => ?_) hc k
  have h1 : args.map a.eval = vs.toArray := by
    have := ha.evs hargs
    apply Array.toList_inj.1
    rw [Array.toList_map]; exact this
  have hx' := ha.ev hx
  simp only [execOp, resolve, hx', Sem.run_bind, Sem.run_pure, Result.andThen_ok, Go.invoke]
  rw [show (Array.map a.eval args) = vs.toArray from h1]
  have e0 : (#[Value.iface t u] ++ vs.toArray)[0]? = some (.iface t u) := by simp
  have e1 : (#[Value.iface t u] ++ vs.toArray).extract 1 (#[Value.iface t u] ++ vs.toArray).size = vs.toArray := by
    apply Array.toList_inj.1; simp
  simp only [e0, callMethod, Sem.run_bind]
  rw [e1]
  have hp : (program : Sem Program).run P w = .ok P w := rfl
  rw [hp]
  simp only [Result.andThen_ok, hm w]
  have e2 : (#[r] ++ vs.toArray) = (r :: vs).toArray := by
    apply Array.toList_inj.1; simp
  rw [e2]
  exact run_callFunc hf _
end
structure Sl3 {α : Type} (w : World) (A : Option Addr) (c k : Nat) (enc : α → List Value) (lll : List (List (List α))) : Prop where
  ex : ∃ hs : List (Option Addr × Nat), hs.length = lll.length ∧ Sl w A c 1 ((hs.zip lll).map encH) ∧ ∀ (j : Nat) (h : Option Addr × Nat) (l : List (List α)), hs[j]? = some h → lll[j]? = some l → Sl2 w h.1 h.2 k enc l
section
variable {α : Type} {w w' : World} {A : Option Addr} {c k : Nat} {enc : α → List Value} {ll : List (List (List α))}
theorem Sl3.ext (h : Sl3 w A c k enc ll) (e : Ext w w') : Sl3 w' A c k enc ll := by
  obtain ⟨hs, h1, h2, h3⟩ := h.ex
  exact ⟨hs, h1, h2.ext e, fun j h l hj hl => (h3 j h l hj hl).ext e⟩
theorem Sl3.at_ (h : Sl3 w A c k enc ll) {j : Nat} {l : List (List α)} (hl : ll[j]? = some l) : ∃ (Aj : Option Addr) (cj : Nat), Cells w (elemPtr A 1 j) [.slice Aj l.length cj] ∧ Sl2 w Aj cj k enc l := by
  obtain ⟨hs, h1, h2, h3⟩ := h.ex
  have hlt := lt_of_at hl
  have hh : hs[j]? = some hs[j] := by simp [h1, hlt]
  refine ⟨hs[j].1, hs[j].2, ?_, h3 j _ l hh hl⟩
  exact h2.at_ (enc := encH) (x := (hs[j], l)) (by simp [List.getElem?_zip_eq_some, hh, hl])
theorem Sl3.addr (h : Sl3 w A c k enc ll) {i : Int} (h0 : 0 ≤ i ∧ i < ll.length) : ∃ a, A = some a := by
  obtain ⟨hs, h1, h2, _⟩ := h.ex
  exact h2.addr (i := i) (by simp [h1]; omega)
theorem Sl3.nil_ : Sl3 w none 0 k enc ([] : List (List (List α))) := ⟨⟨[], rfl, Sl.nil (by decide), fun j h l hj => by simp at hj⟩⟩
theorem Sl3.one {A1 : Option Addr} {c1 : Nat} {l1 : List (List α)} (h : Sl w A c 1 ([((A1, c1), l1)].map encH)) (s1 : Sl2 w A1 c1 k enc l1) : Sl3 w A c k enc [l1] := by
  refine ⟨[(A1, c1)], rfl, h, fun j x l hj hl => ?_⟩
  match j, hj, hl with
  | 0, hj, hl => simp at hj hl; subst hj; subst hl; exact s1
end
end Go.Tb

set_option linter.unusedVariables false
set_option linter.unusedSimpArgs false
namespace Go.Tb
open Go.RowKit
section
variable {P : Program} {n : Nat} {ops : Array Oper} {Q : Exit → Env → World → Prop} {ρ : Env} {w : World}
variable {d : Option Tmp} {ty : TypeId} {pos : String} {after : Array Edge} {g : Option (Nat × Bool)} {K : Value → World → Prop}
theorem RV.sliceLHM {t e m bt : Nat} {z : List Value} {x y u s : Operand} {A : Option Addr} {len cap : Nat} {l h q : Int} (hT : tyS P t = some (e, m, bt, z)) (hx : ev ρ x = some (.slice A len cap)) (hy : ev ρ y = some (.int .i64 l)) (hu : ev ρ u = some (.int .i64 h)) (hs' : ev ρ s = some (.int .i64 q)) (h0 : 0 ≤ l ∧ l ≤ h ∧ h ≤ q ∧ q ≤ cap) :
    RV P n ⟨d, .slice t x (some y) (some u) (some s), ty, pos, after, g⟩ ρ w (.slice (cutA A (q.toNat) m l.toNat) (h.toNat - l.toNat) (q.toNat - l.toNat)) := fun a ha => by
  obtain ⟨hu', i', zv, hi, hs, _, _, _⟩ := tyS_spec hT
  have h1 : 0 ≤ h := by omega
  have h2 : l ≤ (h.toNat : Int) := by omega
  have h3 : 0 ≤ q := by omega
  have h4 : h ≤ (q.toNat : Int) := by omega
  have h5 : h ≤ max q 0 := by omega
  have h6 : l ≤ max h 0 := by omega
  simp [execOp, ha.ev hx, ha.ev hy, ha.ev hu, ha.ev hs', Instr.sliceAt, Instr.slice, run_underlying hu', Instr.sliceBounds, Instr.sliceBound, asIntOf, h0.1, h0.2.1, h0.2.2.1, h0.2.2.2, h1, h2, h3, h4, h5, h6, sizeOf, typeInfo, hi, hs, cutA]
  try omega
theorem Mod.refl (w : World) (A : Option Addr) : Mod w w A := ⟨rfl, rfl, rfl, Nat.le_refl _, fun _ _ _ => rfl⟩
theorem Mod.trans {w w1 w2 : World} {A : Option Addr} (a : Mod w w1 A) (b : Mod w1 w2 A) : Mod w w2 A :=
  ⟨b.os.trans a.os, b.tape.trans a.tape, b.output.trans a.output, Nat.le_trans a.size b.size, fun k hk hn => (b.block k (Nat.lt_of_lt_of_le hk a.size) hn).trans (a.block k hk hn)⟩
theorem Mod.of_ext {w w1 : World} {A : Option Addr} (a : Ext w w1) : Mod w w1 A := ⟨a.os, a.tape, a.output, a.size, fun k hk hn => Below.block a k hk⟩
/-- append to a beginning of an owned slice, of so many elements that what lies there is long enough. -/
theorem OW.appendOver {α : Type} {enc : α → List Value} {l xs zs : List α} {t e m bt : Nat} {z : List Value} {x y : Operand} {b c cs q r : Nat} {As : Option Addr} (hT : tyS P t = some (e, m, bt, z)) (hx : ev ρ x = some (.slice (some ⟨b, 0, none⟩) q c)) (hq : q = l.length) (hy : ev ρ y = some (.slice As r cs)) (hr0 : r = xs.length)
    (own : Own w (some ⟨b, 0, none⟩) c e m ((l ++ zs).map enc)) (hA : ∃ a, As = some a) (src : Sl w As cs m (xs.map enc)) (hk : ∀ u, (enc u).length = m) (h1 : ∀ u, (enc u).all Value.oneCell' = true) (hm0 : Nat.blt 0 m = true) (hroom : xs.length ≤ zs.length)
    (k : ∀ w', Own w' (some ⟨b, 0, none⟩) c e m ((l ++ xs ++ zs.drop xs.length).map enc) → Mod w w' (some ⟨b, 0, none⟩) → K (.slice (some ⟨b, 0, none⟩) (l ++ xs).length c) w') :
    OW P n Q ⟨d, .call ⟨.builtin .append, #[x, y], #[t, t]⟩, ty, pos, after, g⟩ ρ w K := by
  subst hq hr0
  obtain ⟨hu, i, zv, hi, hs1, hs2, hs3, hs4⟩ := tyS_spec hT
  have hm0' : 0 < m := by simpa [Nat.blt_eq] using hm0
  subst hs1
  obtain ⟨a, rfl⟩ := hA
  rcases own.own.2 with ⟨hv, hn⟩ | ⟨g', cap, cur, hv, hbg, hg, hnc, hcm, hcs, htake⟩
  · injection hv with hv1; cases hv1
  · injection hv with hv1 hv2 hv3
    cases hv1
    subst hv3
    have hF : ∀ p : List α, (p.map enc).flatten.length = p.length * i.size := fun p => by rw [← List.flatMap_def, len_flatMap hk]
    have hol := hF l
    have hnl := hF xs
    have hzl := hF zs
    have hxr : ∀ r ∈ xs.map enc, r.length = i.size := fun r hr => by
      obtain ⟨u, _, rfl⟩ := List.mem_map.1 hr
      exact hk u
    have hcell : ∀ (j : Nat) (u : Value), (xs.map enc).flatten[j]? = some u → w.cell? (a.add j) = some u := by
      intro j u hj
      have hjl : j < xs.length * i.size := by rw [← hnl]; exact (List.getElem?_eq_some_iff.1 hj).1
      have hq : j / i.size < xs.length := (Nat.div_lt_iff_lt_mul hm0').2 hjl
      have hr : (xs.map enc)[j / i.size]? = some (enc xs[j / i.size]) := by simp [hq]
      obtain ⟨hl, _, hc⟩ := src.row (j / i.size) _ hr
      have hmod : j % i.size < i.size := Nat.mod_lt _ hm0'
      have hv : (enc xs[j / i.size])[j % i.size]? = some ((enc xs[j / i.size])[j % i.size]'(by omega)) := by simp [hl, hmod]
      have hf := flatten_row hxr (j / i.size) _ hr (j % i.size) _ hv
      have hjm : j / i.size * i.size + j % i.size = j := by rw [Nat.mul_comm]; exact Nat.div_add_mod j i.size
      rw [hjm, hj] at hf
      have := hc (j % i.size) _ hv
      simp only [elemPtr, Option.getD_some, add_add, hjm] at this
      rw [this, ← Option.some.inj hf]
    have hone : ∀ u ∈ (xs.map enc).flatten, u.oneCell' = true := by
      intro u hu'
      obtain ⟨r, hr, hur⟩ := List.mem_flatten.1 hu'
      obtain ⟨q, _, rfl⟩ := List.mem_map.1 hr
      exact List.all_eq_true.1 (h1 q) u hur
    have hlz : ((l ++ zs).map enc).length = l.length + zs.length := by simp
    rw [hlz] at htake hnc
    have hflat : ((l ++ zs).map enc).flatten = (l.map enc).flatten ++ (zs.map enc).flatten := by rw [List.map_append, List.flatten_append]
    rw [hflat] at htake
    have hlen2 : ((l.map enc).flatten ++ (zs.map enc).flatten).length = (l.length + zs.length) * i.size := by rw [List.length_append, hol, hzl, Nat.add_mul]
    -- what lies there is the list and the rest
    obtain ⟨rest, hrest⟩ : ∃ rest, cur.toList = (l.map enc).flatten ++ (zs.map enc).flatten ++ rest := ⟨cur.toList.drop ((l.length + zs.length) * i.size), by rw [← htake, List.take_append_drop]⟩
    have hxz : xs.length * i.size ≤ zs.length * i.size := Nat.mul_le_mul_right _ hroom
    have hcz : cur.size = (l.length + zs.length) * i.size + rest.length := by
      have := congrArg List.length hrest
      rw [List.length_append, hlen2] at this
      simpa using this
    have hfit : l.length * i.size + (xs.map enc).flatten.length ≤ cur.size := by rw [hnl, hcz, Nat.add_mul]; omega
    have hr := run_append_room (P := P) w t ty e i hu hi b l.length c cur hg a xs.length cs (xs.map enc).flatten hnl hcell hone (by omega) hfit
    refine OW.value (w' := w.setRow b (cur.toList.take (l.length * i.size) ++ (xs.map enc).flatten ++ cur.toList.drop (l.length * i.size + (xs.map enc).flatten.length)).toArray) (v := .slice (some ⟨b, 0, none⟩) (l.length + xs.length) c) (fun a ha => by
      simp only [execOp, resolve, ha.ev hx, ha.ev hy, Go.invoke, builtin] at hr ⊢
      simp [execOp, resolve, ha.ev hx, ha.ev hy, Go.invoke, builtin, hr]) ?_
    have hz2 : ((zs.drop xs.length).map enc).flatten = (zs.map enc).flatten.drop (xs.length * i.size) := by
      have e : zs.map enc = (zs.take xs.length).map enc ++ (zs.drop xs.length).map enc := by rw [← List.map_append, List.take_append_drop]
      have e2 : ((zs.take xs.length).map enc).flatten.length = xs.length * i.size := by rw [hF, List.length_take, Nat.min_eq_left hroom]
      rw [e, List.flatten_append, ← e2, List.drop_left]
    have hnew : cur.toList.take (l.length * i.size) ++ (xs.map enc).flatten ++ cur.toList.drop (l.length * i.size + (xs.map enc).flatten.length) = ((l ++ xs ++ zs.drop xs.length).map enc).flatten ++ rest := by
      rw [hrest, hnl, List.map_append, List.map_append, List.flatten_append, List.flatten_append, hz2, List.append_assoc (l.map enc).flatten]
      have t1 : List.take (l.length * i.size) ((l.map enc).flatten ++ ((zs.map enc).flatten ++ rest)) = (l.map enc).flatten := by rw [← hol, List.take_left]
      have t2 : List.drop (l.length * i.size + xs.length * i.size) ((l.map enc).flatten ++ ((zs.map enc).flatten ++ rest)) = (zs.map enc).flatten.drop (xs.length * i.size) ++ rest := by
        rw [← hol, ← List.drop_drop, List.drop_left, List.drop_append_of_le_length (by rw [hzl]; exact hxz)]
      rw [t1, t2]; simp [List.append_assoc]
    have hll : (l ++ xs ++ zs.drop xs.length).length = l.length + zs.length := by simp; omega
    have hrow : ∀ r ∈ (l ++ xs ++ zs.drop xs.length).map enc, r.length = i.size := fun r hr => by
      obtain ⟨u, _, rfl⟩ := List.mem_map.1 hr
      exact hk u
    have := k (w.setRow b (cur.toList.take (l.length * i.size) ++ (xs.map enc).flatten ++ cur.toList.drop (l.length * i.size + (xs.map enc).flatten.length)).toArray) ⟨⟨?_, .inr ⟨b, c, _, rfl, hbg, setRow_heap w b cur _ e _ hg, ?_, hcm, ?_, ?_⟩⟩, hrow⟩ ⟨rfl, rfl, rfl, by simp, fun k _ hk => setRow_other w b k _ (fun e => hk (by simp [blkOf, e]))⟩
    · rw [List.length_append] at this; exact this
    · rw [hF, List.length_map]
    · rw [List.length_map, hll]; exact hnc
    · rw [hnew]
      simp only [List.size_toArray, List.length_append]
      rw [hF, hll, ← hcs, hcz]
    · rw [hnew, List.length_map, ← hF]
      exact List.take_left
end
section
variable {α : Type} {w : World} {A : Option Addr} {c e k : Nat} {enc : α → List Value} {l : List α}
theorem Own.at0 (h : Own w A c e k (l.map enc)) (h0 : 0 < l.length) : ∃ b, A = some ⟨b, 0, none⟩ := by
  rcases h.own.2 with ⟨hv, hn⟩ | ⟨g, cap, cur, hv, r⟩
  · simp at hn; simp [hn] at h0
  · injection hv with hv1
    exact ⟨g, hv1⟩
end
section
variable {w0 w w' : World} {L : List Ck}
end
end Go.Tb

set_option linter.unusedVariables false
set_option linter.unusedSimpArgs false
namespace Go.Tb
open Go.RowKit
section
variable {α β : Type}
structure TbxH (A : Option Addr) (c to ko : Nat) (enc : (Option Addr × Nat) × α → List Value) (f : α → List β) (ti k2 : Nat) (enc2 : β → List Value) (hs : List (Option Addr × Nat)) (l : List α) (w : World) : Prop where
  len : hs.length = l.length
  outer : Own w A c to ko ((hs.zip l).map enc)
  row : ∀ (i : Nat) (h : Option Addr × Nat) (t : α), hs[i]? = some h → l[i]? = some t → Own w h.1 h.2 ti k2 ((f t).map enc2)
  ne : ∀ (i : Nat) (h : Option Addr × Nat) (b : Nat), hs[i]? = some h → b ∈ adB h.1 → b ∉ adB A
def tbxB (A : Option Addr) (hs : List (Option Addr × Nat)) : List Nat := adB A ++ hs.flatMap fun h => adB h.1
theorem mem_tbxB {A : Option Addr} {hs : List (Option Addr × Nat)} {b : Nat} : b ∈ tbxB A hs ↔ b ∈ adB A ∨ ∃ (i : Nat) (h : Option Addr × Nat), hs[i]? = some h ∧ b ∈ adB h.1 := by
  unfold tbxB
  simp only [List.mem_append, List.mem_flatMap]
  refine or_congr Iff.rfl ⟨?_, ?_⟩
  · rintro ⟨h, hm, hb⟩
    obtain ⟨i, hi⟩ := List.getElem?_of_mem hm
    exact ⟨i, h, hi, hb⟩
  · rintro ⟨i, h, hi, hb⟩
    exact ⟨h, List.mem_of_getElem? hi, hb⟩
variable {A : Option Addr} {c to ko : Nat} {enc : (Option Addr × Nat) × α → List Value} {f : α → List β} {ti k2 : Nat} {enc2 : β → List Value} {hs : List (Option Addr × Nat)} {l : List α} {w w' w0 : World} {L : List Ck}
theorem TbxH.keep (h : TbxH A c to ko enc f ti k2 enc2 hs l w) (hb : ∀ b ∈ tbxB A hs, w'.heap[b]? = w.heap[b]?) : TbxH A c to ko enc f ti k2 enc2 hs l w' :=
  ⟨h.len, h.outer.keep fun b h' => hb b (mem_tbxB.2 (.inl h')), fun i x t hx ht => (h.row i x t hx ht).keep fun b h' => hb b (mem_tbxB.2 (.inr ⟨i, x, hx, h'⟩)), h.ne⟩
theorem TbxH.lt (h : TbxH A c to ko enc f ti k2 enc2 hs l w) : ∀ b ∈ tbxB A hs, b < w.heap.size := by
  intro b hb
  rcases mem_tbxB.1 hb with hb | ⟨i, x, hx, hb⟩
  · exact h.outer.lt b hb
  · have hl : i < l.length := by rw [← h.len]; exact lt_of_at hx
    exact (h.row i x l[i] hx (by simp [hl])).lt b hb
theorem TbxH.holds (h : TbxH A c to ko enc f ti k2 enc2 hs l w) : (Ck.inv (tbxB A hs) (TbxH A c to ko enc f ti k2 enc2 hs l)).holds w :=
  ⟨h.lt, h, fun w1 w2 _ hb q => q.keep hb⟩
end
section
variable {P : Program} {n : Nat} {ops : Array Oper} {Q : Exit → Env → World → Prop} {ρ : Env} {w : World}
variable {d : Option Tmp} {ty : TypeId} {pos : String} {after : Array Edge} {g : Option (Nat × Bool)} {K : Value → World → Prop}
end
section
variable {w0 w w' : World} {L M : List Ck}
theorem ModX.frz {X : Nat → Prop} {A : Option Addr} (hs : w.heap.size ≤ w'.heap.size) (hk : ∀ k, k < w.heap.size → k ∉ adB A → w'.heap[k]? = w.heap[k]?) (hX : ∀ a, A = some a → X a.block) : ModX X w w' :=
  ⟨hs, fun k hk' hn => hk k hk' fun hc => by
    obtain ⟨a, rfl, rfl⟩ := mem_adB.1 hc
    exact hn (hX a rfl)⟩
/-- A chunk that does not change while others do. -/
def frz (w : World) (x : Ck) : Ck := .inv x.bl fun w' => x.holds w' ∧ ∀ b ∈ x.bl, w'.heap[b]? = w.heap[b]?
theorem frz_holds {x : Ck} (h : x.holds w) : (frz w x).holds w :=
  ⟨Ck.lt h, ⟨h, fun _ _ => rfl⟩, fun w1 w2 _ h2 h3 => ⟨Ck.keep h3.1 h2, fun b hb => (h2 b hb).trans (h3.2 b hb)⟩⟩
end
end Go.Tb

set_option linter.unusedVariables false
set_option linter.unusedSimpArgs false
namespace Go.Tb
open Go.RowKit
section
variable {P : Program} {n : Nat} {ops : Array Oper} {Q : Exit → Env → World → Prop} {ρ : Env} {w : World}
variable {d : Option Tmp} {ty : TypeId} {pos : String} {after : Array Edge} {g : Option (Nat × Bool)} {K : Value → World → Prop}
theorem OW.copyM {t u e m bt b o dl dc sl sc : Nat} {z : List Value} {x y : Operand} {p : Addr} {As : Option Addr} {cs vs : List Value} {t' : TypeId} (hT : tyS P t = some (e, m, bt, z)) (hx : ev ρ x = some (.slice (some p) dl dc)) (hp : p = ⟨b, o, none⟩) (hy : ev ρ y = some (.slice As sl sc))
    (f : Blk w b t' cs) (hin : o + dl * m ≤ cs.length) (hl : vs.length = min sl dl * m) (hc : 0 < vs.length → ∃ a, As = some a ∧ Cells w a vs) (h1 : vs.all Value.oneCell' = true) (k : ∀ w', Stored w w' b t' (over cs o vs) → K (.int .i64 (min sl dl : Nat)) w') :
    OW P n Q ⟨d, .call ⟨.builtin .copy, #[x, y], #[t, u]⟩, ty, pos, after, g⟩ ρ w K := by
  obtain ⟨hu, i', zv, hi, hs, _, _, _⟩ := tyS_spec hT
  have hle : min sl dl * m ≤ dl * m := Nat.mul_le_mul_right _ (Nat.min_le_right _ _)
  have hst := run_storeCells_at P b o t' vs 0 cs.toArray w f (by simp; omega) (by simpa [List.all_eq_true] using h1)
  have hcells : (Builtin.firstCells m (min sl dl) (.slice As sl sc)).run P w = .ok vs.toArray w := by
    by_cases h0 : 0 < vs.length
    · obtain ⟨a, rfl, hcc⟩ := hc h0
      simp only [Builtin.firstCells]
      rw [← hl]
      exact run_loadCells_list w a vs hcc
    · have hv : vs = [] := List.eq_nil_of_length_eq_zero (by omega)
      subst hv
      have hm : min sl dl * m = 0 := by simpa using hl.symm
      cases As with
      | none => simp [Builtin.firstCells]
      | some a =>
        simp only [Builtin.firstCells]
        rw [hm]
        simp [loadCells, loadCellsFrom]
  have hrow : w.setRow b (over cs o vs).toArray = w.setRow b (cs.toArray.toList.take (o + 0) ++ vs ++ cs.toArray.toList.drop (o + 0 + vs.length)).toArray := by simp [over]
  refine OW.value (w' := w.setRow b (over cs o vs).toArray) (fun a ha => ?_) (k _ (setRow_stored f))
  rw [hrow]
  simp [execOp, resolve, ha.ev hx, ha.ev hy, Go.invoke, Go.builtin, Builtin.copy_, run_underlying hu, Builtin.lenOf, sizeOf, typeInfo, hi, hs, Nat.min_def]
  have e : (if sl ≤ dl then sl else dl) = min sl dl := by rw [Nat.min_def]
  rw [e]
  rw [hcells]
  simp only [Result.andThen_ok, hp]
  rw [hst]
  simp [goInt, Nat.min_def]
end
theorem rep_step {α : Type} {enc : α → List Value} {k : Nat} (hk : ∀ x, (enc x).length = k) (v z : α) (N m q : Nat) (hm : m ≤ N) (hq : q ≤ N - m) :
    over ((List.replicate m v ++ List.replicate (N - m) z).flatMap enc) (m * k) ((List.replicate q v).flatMap enc) = (List.replicate (m + q) v ++ List.replicate (N - (m + q)) z).flatMap enc := by
  have e : List.replicate (N - m) z = List.replicate q z ++ List.replicate (N - (m + q)) z := by
    rw [List.replicate_append_replicate]; congr 1; omega
  have e2 : List.replicate (m + q) v = List.replicate m v ++ List.replicate q v := by rw [List.replicate_append_replicate]
  have h1 := len_flatMap hk (List.replicate m v)
  have h2 := len_flatMap hk (List.replicate q v)
  have h3 := len_flatMap hk (List.replicate q z)
  rw [List.length_replicate] at h1 h2 h3
  rw [e, e2]
  simp only [List.flatMap_append]
  unfold over
  rw [List.take_append_of_le_length (by omega), List.take_of_length_le (by omega), List.drop_append, List.drop_of_length_le (by omega), List.nil_append, List.drop_append, List.drop_of_length_le (by omega), List.nil_append, h1, h2, h3, show m * k + q * k - m * k - q * k = 0 by omega, List.drop_zero]
theorem rep_src {α : Type} {enc : α → List Value} {k : Nat} (hk : ∀ x, (enc x).length = k) {v z : α} {w : World} {b t N m q : Nat} (hq : q ≤ m) (f : Blk w b t ((List.replicate m v ++ List.replicate (N - m) z).flatMap enc)) : Cells w ⟨b, 0, none⟩ ((List.replicate q v).flatMap enc) := by
  have h := f.cells.take (q * k)
  have h2 := len_flatMap hk (List.replicate q v)
  rw [List.length_replicate] at h2
  rw [show List.replicate m v = List.replicate q v ++ List.replicate (m - q) v by rw [List.replicate_append_replicate]; congr 1; omega, List.flatMap_append, List.flatMap_append, List.append_assoc, List.take_append_of_le_length (by omega), List.take_of_length_le (by omega)] at h
  exact h
theorem rep_one {α : Type} {enc : α → List Value} (h1 : ∀ x, (enc x).all Value.oneCell' = true) (v : α) (q : Nat) : ((List.replicate q v).flatMap enc).all Value.oneCell' = true := by
  rw [List.all_eq_true]
  intro x hx
  obtain ⟨y, hy, hx⟩ := List.mem_flatMap.1 hx
  exact List.all_eq_true.1 (h1 y) x hx
/-- Two rows of a table change places. -/
theorem Hp.tabSwap {α : Type} {enc : α → List Value} {w0 w w' : World} {L : List Ck} (h : Hp w0 w L) (p : Nat) {A : Option Addr} {c to ti k i j : Nat} {hs : List (Option Addr × Nat)} {m : List (List α)} {x y : List α} {B C : Option Addr} {d e : Nat} (hp : L[p]? = some (.tab A c to hs ti k (encM enc m))) (md : Mod w w' A)
    (hi : m[i]? = some x) (hj : m[j]? = some y) (hhi : hs[i]? = some (B, d)) (hhj : hs[j]? = some (C, e))
    (o : Own w' A c to 1 ((((hs.zip (encM enc m)).set i ((C, e), y.map enc)).set j ((B, d), x.map enc)).map encH)) :
    Hp w0 w' (L.set p (.tab A c to ((hs.set i (C, e)).set j (B, d)) ti k (encM enc ((m.set i y).set j x)))) := by
  have T := h.tab p hp
  have hlen : hs.length = (encM enc m).length := T.len
  have li := lt_of_at hi
  have lj := lt_of_at hj
  have hl2 : m.length = (encM enc m).length := by rw [encM_len]
  -- where a row was
  let σ : Nat → Nat := fun a => if a = j then i else if a = i then j else a
  have hσ : ∀ a a', σ a = σ a' → a = a' := fun a a' => by
    simp only [σ]
    repeat' split
    all_goals omega
  have hs' : ∀ a z, ((hs.set i (C, e)).set j (B, d))[a]? = some z → hs[σ a]? = some z := fun a z ha => by
    simp only [List.getElem?_set, List.length_set] at ha
    simp only [σ]
    by_cases e1 : a = j
    · subst e1
      rw [if_pos rfl, if_pos (by omega)] at ha
      rw [if_pos rfl, hhi]; exact ha
    · rw [if_neg (fun q => e1 q.symm)] at ha
      rw [if_neg e1]
      by_cases e2 : a = i
      · subst e2
        rw [if_pos rfl, if_pos (by omega)] at ha
        rw [if_pos rfl, hhj]; exact ha
      · rw [if_neg (fun q => e2 q.symm)] at ha
        rw [if_neg e2]; exact ha
  have hm' : ∀ a z, (encM enc ((m.set i y).set j x))[a]? = some z → (encM enc m)[σ a]? = some z := fun a z ha => by
    have key : (encM enc m)[σ a]? = (encM enc ((m.set i y).set j x))[a]? := by
      unfold encM
      rw [List.getElem?_map, List.getElem?_map, List.getElem?_set, List.getElem?_set, List.length_set]
      by_cases e1 : a = j
      · have e : σ a = i := if_pos e1
        rw [e, if_pos e1.symm, if_pos lj, hi]
      · rw [if_neg (fun q => e1 q.symm)]
        by_cases e2 : a = i
        · have e : σ a = j := by show (if a = j then i else if a = i then j else a) = j; rw [if_neg e1, if_pos e2]
          rw [e, if_pos e2.symm, if_pos li, hj]
        · have e : σ a = a := by show (if a = j then i else if a = i then j else a) = a; rw [if_neg e1, if_neg e2]
          rw [e, if_neg (fun q => e2 q.symm)]
    rw [key]; exact ha
  have ext : Ext w0 w' := h.ext.mod md fun a ha => h.fresh p _ hp a.block (by subst ha; simp [Ck.bl, adB])
  refine h.step p hp ext (fun b hb hn => md.other hb fun hc => hn ?_) (y := .tab A c to ((hs.set i (C, e)).set j (B, d)) ti k (encM enc ((m.set i y).set j x))) ?_ fun b hb => .inl ?_
  · exact (TabH.bl_at (w := w)).2 (.inl hc)
  · refine ⟨by rw [List.length_set, List.length_set, encM_len, List.length_set, List.length_set, hlen, encM_len], by rw [encM_set, encM_set, ← zip_set', ← zip_set']; exact o, fun a B' d' l ha hl => ?_, fun a a' B1 d1 B2 d2 b h1 h2 hb1 hb2 => ?_, fun a B' d' b ha hb => ?_⟩
    · have R := T.row _ B' d' l (hs' a _ ha) (hm' a _ hl)
      exact R.keep fun b hb => md.other (R.lt b hb) fun hc => T.ne _ B' d' b (hs' a _ ha) hb hc
    · exact hσ a a' (T.nd _ _ B1 d1 B2 d2 b (hs' a _ h1) (hs' a' _ h2) hb1 hb2)
    · exact T.ne _ B' d' b (hs' a _ ha) hb
  · rcases (TabH.bl_at (w := w')).1 hb with hb | ⟨a, B', d', ha, hb⟩
    · exact (TabH.bl_at (w := w)).2 (.inl hb)
    · exact (TabH.bl_at (w := w)).2 (.inr ⟨σ a, B', d', hs' a _ ha, hb⟩)
end Go.Tb

set_option linter.unusedVariables false
set_option linter.unusedSimpArgs false
namespace Go.Tb
open Go.RowKit
section
variable {w0 w w' : World} {L M : List Ck}
theorem Hp.freezeL {F : List Ck} (h : Hp w0 w (F ++ L)) : ∃ R, Hp w0 w (F ++ R) ∧ ∀ (w' : World) (F' M : List Ck), (∀ x ∈ F, ∀ b ∈ x.bl, ∃ y ∈ F', b ∈ y.bl) → Hp w0 w' ((F' ++ M) ++ R) → Hp w0 w' ((F' ++ M) ++ L) ∧ w.heap.size ≤ w'.heap.size ∧ ∀ k, k < w.heap.size → (∀ x ∈ F, k ∉ x.bl) → w'.heap[k]? = w.heap[k]? := by
  let bs : List Nat := (List.range w.heap.size).filter fun b => decide (w0.heap.size ≤ b) && !((F ++ L).any fun x => decide (b ∈ x.bl))
  have mem : ∀ b, b ∈ bs ↔ b < w.heap.size ∧ w0.heap.size ≤ b ∧ ∀ x ∈ F ++ L, b ∉ x.bl := fun b => by
    simp only [bs, List.mem_filter, List.mem_range, Bool.and_eq_true, decide_eq_true_eq, Bool.not_eq_true', List.any_eq_false, decide_eq_true_eq]
  let E : Ck := .inv bs fun w' => ∀ b ∈ bs, w'.heap[b]? = w.heap[b]?
  have hE : E.holds w := ⟨fun b hb => ((mem b).1 hb).1, fun _ _ => rfl, fun w1 w2 _ h2 h3 b hb => (h2 b hb).trans (h3 b hb)⟩
  have hl : ∀ (i : Nat), i < L.length → (L.map (frz w) ++ [E])[i]? = (L[i]?).map (frz w) := fun i hi => by
    rw [List.getElem?_append_left (by rw [List.length_map]; exact hi), List.getElem?_map]
  have cs : ∀ (i : Nat) (x : Ck), (F ++ (L.map (frz w) ++ [E]))[i]? = some x → (∃ y, (F ++ L)[i]? = some y ∧ y.bl = x.bl ∧ (y.holds w → x.holds w)) ∨ (i = L.length + F.length ∧ x = E) := by
    intro i x hx
    by_cases hF : i < F.length
    · rw [List.getElem?_append_left hF] at hx
      exact .inl ⟨x, by rw [List.getElem?_append_left hF]; exact hx, rfl, id⟩
    · rw [List.getElem?_append_right (by omega)] at hx
      by_cases hi : i - F.length < L.length
      · rw [hl _ hi] at hx
        have e : L[i - F.length]? = some L[i - F.length] := by simp [hi]
        rw [e] at hx
        simp only [Option.map_some] at hx
        refine .inl ⟨L[i - F.length], by rw [List.getElem?_append_right (by omega)]; exact e, ?_, fun hh => ?_⟩
        · rw [← Option.some.inj hx]; rfl
        · rw [← Option.some.inj hx]; exact frz_holds hh
      · have hle := lt_of_at hx
        simp only [List.length_append, List.length_map, List.length_singleton] at hle
        have e : i - F.length = L.length := by omega
        rw [List.getElem?_append_right (by rw [List.length_map]; omega), List.length_map, e, Nat.sub_self] at hx
        simp at hx
        exact .inr ⟨by omega, hx.symm⟩
  refine ⟨L.map (frz w) ++ [E], ⟨h.ext, fun i x hx => ?_, fun i j x y hx hy hij b hb => ?_, fun i x hx b hb => ?_⟩, fun w' F' M hbl h' => ?_⟩
  · rcases cs i x hx with ⟨y, hy, _, hh⟩ | ⟨_, rfl⟩
    · exact hh (h.holds i y hy)
    · exact hE
  · rcases cs i x hx with ⟨p, hp, ep, _⟩ | ⟨e1, rfl⟩ <;> rcases cs j y hy with ⟨q, hq, eq, _⟩ | ⟨e2, rfl⟩
    · rw [← eq]; exact h.disj i j p q hp hq hij b (by rw [ep]; exact hb)
    · intro hc
      exact ((mem b).1 hc).2.2 p (List.mem_of_getElem? hp) (by rw [ep]; exact hb)
    · intro hc
      rw [← eq] at hc
      exact ((mem b).1 hb).2.2 q (List.mem_of_getElem? hq) hc
    · exact absurd (e1.trans e2.symm) hij
  · rcases cs i x hx with ⟨y, hy, ey, _⟩ | ⟨_, rfl⟩
    · exact h.fresh i y hy b (by rw [ey]; exact hb)
    · exact ((mem b).1 hb).2.1
  · -- behind the call
    have at2 : ∀ (i : Nat) (y : Ck), L[i]? = some y → ((F' ++ M) ++ (L.map (frz w) ++ [E]))[(F' ++ M).length + i]? = some (frz w y) := fun i y hy => by
      rw [List.getElem?_append_right (by omega), Nat.add_sub_cancel_left, hl i (lt_of_at hy), hy]; rfl
    have atE : ((F' ++ M) ++ (L.map (frz w) ++ [E]))[(F' ++ M).length + L.length]? = some E := by
      rw [List.getElem?_append_right (by omega), Nat.add_sub_cancel_left, List.getElem?_append_right (by rw [List.length_map]; exact Nat.le_refl _), List.length_map, Nat.sub_self]; rfl
    have old : ∀ (i : Nat) (x : Ck), ((F' ++ M) ++ L)[i]? = some x → ∃ z, ((F' ++ M) ++ (L.map (frz w) ++ [E]))[i]? = some z ∧ z.bl = x.bl ∧ (z.holds w' → x.holds w') := by
      intro i x hx
      by_cases hi : i < (F' ++ M).length
      · rw [List.getElem?_append_left hi] at hx
        exact ⟨x, by rw [List.getElem?_append_left hi]; exact hx, rfl, id⟩
      · rw [List.getElem?_append_right (by omega)] at hx
        have := at2 _ x hx
        rw [show (F' ++ M).length + (i - (F' ++ M).length) = i by omega] at this
        exact ⟨frz w x, this, rfl, fun hz => hz.2.1.1⟩
    have same : ∀ k, k < w.heap.size → (∀ x ∈ F, k ∉ x.bl) → w'.heap[k]? = w.heap[k]? := by
      intro k hk hn
      by_cases h1 : k < w0.heap.size
      · rw [Below.block h'.ext k h1, Below.block h.ext k h1]
      · by_cases h2 : ∃ x ∈ L, k ∈ x.bl
        · obtain ⟨x, hx, hb⟩ := h2
          obtain ⟨i, hi⟩ := List.getElem?_of_mem hx
          exact (h'.holds _ _ (at2 i x hi)).2.1.2 k hb
        · have hm : k ∈ bs := (mem k).2 ⟨hk, by omega, fun x hx hb => by
            rcases List.mem_append.1 hx with hx | hx
            · exact hn x hx hb
            · exact h2 ⟨x, hx, hb⟩⟩
          exact (h'.holds _ _ atE).2.1 k hm
    refine ⟨⟨h'.ext, fun i x hx => ?_, fun i j x y hx hy hij b hb => ?_, fun i x hx b hb => ?_⟩, ?_, same⟩
    · obtain ⟨z, hz, _, hh⟩ := old i x hx
      exact hh (h'.holds i z hz)
    · obtain ⟨z, hz, ez, _⟩ := old i x hx
      obtain ⟨u, hu, eu, _⟩ := old j y hy
      rw [← eu]
      exact h'.disj i j z u hz hu hij b (by rw [ez]; exact hb)
    · obtain ⟨z, hz, ez, _⟩ := old i x hx
      exact h'.fresh i z hz b (by rw [ez]; exact hb)
    · rcases Nat.eq_zero_or_pos w.heap.size with h0 | h0
      · omega
      · by_cases hin : ∃ x ∈ F, w.heap.size - 1 ∈ x.bl
        · obtain ⟨x, hx, hb⟩ := hin
          obtain ⟨y, hy, hb⟩ := hbl x hx _ hb
          obtain ⟨i, hi⟩ := List.getElem?_of_mem hy
          have hi' : ((F' ++ M) ++ (L.map (frz w) ++ [E]))[i]? = some y := by
            rw [List.append_assoc, List.getElem?_append_left (lt_of_at hi)]; exact hi
          have := Ck.lt (h'.holds i y hi') (w.heap.size - 1) hb
          omega
        · have e := same (w.heap.size - 1) (by omega) (fun x hx hb => hin ⟨x, hx, hb⟩)
          rw [Array.getElem?_eq_getElem (show w.heap.size - 1 < w.heap.size by omega)] at e
          have := (Array.getElem?_eq_some_iff.1 e).1
          omega
/-- A slice in a captured box. -/
theorem Hp.freeze2 {a : Ck} {b t : Nat} {cs : List Value} (h : Hp w0 w ([a, .blk b t cs] ++ L)) : ∃ R, Hp w0 w ([a, .blk b t cs] ++ R) ∧ ∀ (w' : World) (a' : Ck) (M : List Ck), a'.bl = a.bl → Hp w0 w' (([a', .blk b t cs] ++ M) ++ R) → Hp w0 w' (([a', .blk b t cs] ++ M) ++ L) ∧ w.heap.size ≤ w'.heap.size ∧ ∀ k, k < w.heap.size → k ∉ a.bl → w'.heap[k]? = w.heap[k]? := by
  obtain ⟨R, h1, h2⟩ := Hp.freezeL (F := [a, .blk b t cs]) h
  refine ⟨R, h1, fun w' a' M hbl h' => ?_⟩
  obtain ⟨q1, q2, q3⟩ := h2 w' [a', .blk b t cs] M (fun x hx b' hb => by
    simp only [List.mem_cons, List.not_mem_nil, or_false] at hx
    rcases hx with rfl | rfl
    · exact ⟨a', by simp, by rw [hbl]; exact hb⟩
    · exact ⟨_, by simp, hb⟩) h'
  refine ⟨q1, q2, fun k hk hn => ?_⟩
  by_cases e : k = b
  · subst e
    have u1 : Blk w' k t cs := h'.holds 1 (.blk k t cs) rfl
    have u2 : Blk w k t cs := h.holds 1 (.blk k t cs) rfl
    exact Eq.trans u1 u2.symm
  · refine q3 k hk fun x hx hb => ?_
    simp only [List.mem_cons, List.not_mem_nil, or_false] at hx
    rcases hx with rfl | rfl
    · exact hn hb
    · simp only [Ck.bl, List.mem_singleton] at hb
      exact e hb
end
end Go.Tb
namespace Go.Tb
open Go.RowKit
section
variable {P : Program} {n : Nat} {ops : Array Oper} {Q : Exit → Env → World → Prop} {ρ : Env} {w : World}
variable {d : Option Tmp} {ty : TypeId} {pos : String} {after : Array Edge} {g : Option (Nat × Bool)} {K : Value → World → Prop}
theorem RV.indexV {α : Type} {enc : α → List Value} {l : List α} {x0 : α} {t e m N : Nat} {x y : Operand} {i : Int} {vs : List Value} (hT : tyA P t = some (e, N, m)) (hK : tyK P e = some (true, m)) (hx : ev ρ x = some (.agg vs.toArray)) (hvs : vs = l.flatMap enc) (hk : ∀ x, (enc x).length = m) (hN : l.length = N)
    (hy : ev ρ y = some (.int .i64 i)) (h0 : 0 ≤ i) (hi : l[i.toNat]? = some x0) :
    RV P n ⟨d, .index t x y, ty, pos, after, g⟩ ρ w (.agg (enc x0).toArray) := fun a ha => by
  obtain ⟨hu, i', hi', hs⟩ := tyA_spec hT
  have hlt := lt_of_at hi
  have h1 : i < (N : Int) := by omega
  have key : ∀ (l : List α) (j : Nat) (x0 : α), l[j]? = some x0 → ((l.flatMap enc).drop (j * m)).take m = enc x0 := by
    intro l
    induction l with
    | nil => intro j x0 h; simp at h
    | cons y r ih =>
      intro j x0 h
      cases j with
      | zero =>
        simp at h; subst h
        rw [List.flatMap_cons, Nat.zero_mul, List.drop_zero, List.take_append_of_le_length (by rw [hk]; exact Nat.le_refl _), List.take_of_length_le (by rw [hk]; exact Nat.le_refl _)]
      | succ j =>
        rw [List.flatMap_cons, List.drop_append, List.drop_of_length_le (by rw [hk, Nat.succ_mul]; omega), List.nil_append, hk, show (j + 1) * m - m = j * m by rw [Nat.succ_mul]; omega]
        exact ih j x0 (by simpa using h)
  have := key l i.toNat x0 hi
  subst hvs
  have hA := (tyK_spec (w := w) hK).1
  simp [execOp, ha.ev hx, ha.ev hy, Instr.index, asIntOf, run_underlying hu, h0, h1, sizeOf, typeInfo, hi', hs, part, this, hA]
end
end Go.Tb
namespace Go.Tb
theorem set_at_ex {α : Type} {l : List α} {i j : Nat} {a z : α} (h : l[j]? = some z) : ∃ y, (l.set i a)[j]? = some y := by
  have hj := lt_of_at h
  exact ⟨_, List.getElem?_eq_getElem (by rw [List.length_set]; exact hj)⟩
end Go.Tb
namespace Go.Tb
section
variable {w0 w w' : World} {L M : List Ck}
/-- A row is taken out of a table, which is given up. -/
theorem Hp.rowOut {α : Type} {enc : α → List Value} (h : Hp w0 w L) (p : Nat) {A : Option Addr} {c to ti k i e : Nat} {hs : List (Option Addr × Nat)} {m : List (List α)} {B : Option Addr} {l : List α} (hp : L[p]? = some (.tab A c to hs ti k (encM enc m))) (hl : m[i]? = some l) (hh : hs[i]? = some (B, e)) :
    Hp w0 w (L.set p (.own B e ti k (l.map enc))) := by
  have T := h.tab p hp
  refine h.step p hp h.ext (fun _ _ _ => rfl) (y := .own B e ti k (l.map enc)) (T.rowO hl hh) fun b hb => .inl ?_
  exact (TabH.bl_at (w := w)).2 (.inr ⟨i, B, e, hh, hb⟩)
/-- All the handles of old are still there. -/
def Cov (hs' hs : List (Option Addr × Nat)) : Prop := ∀ x ∈ hs, x ∈ hs'
theorem Cov.refl (hs : List (Option Addr × Nat)) : Cov hs hs := fun _ h => h
theorem Cov.trans {a b c : List (Option Addr × Nat)} (h : Cov a b) (h' : Cov b c) : Cov a c := fun x hx => h x (h' x hx)
theorem Cov.swap {hs : List (Option Addr × Nat)} {i j : Nat} {x y : Option Addr × Nat} (hi : hs[i]? = some x) (hj : hs[j]? = some y) : Cov ((hs.set i y).set j x) hs := fun z hz => by
  obtain ⟨a, ha⟩ := List.getElem?_of_mem hz
  have li := lt_of_at hi
  have lj := lt_of_at hj
  by_cases e1 : a = i
  · subst e1
    rw [hi] at ha; cases ha
    exact List.mem_of_getElem? (i := j) (by rw [List.getElem?_set, if_pos rfl, if_pos (by rw [List.length_set]; exact lj)])
  · by_cases e2 : a = j
    · subst e2
      rw [hj] at ha; cases ha
      exact List.mem_of_getElem? (i := i) (by rw [List.getElem?_set, if_neg e1, List.getElem?_set, if_pos rfl, if_pos li])
    · exact List.mem_of_getElem? (i := a) (by rw [List.getElem?_set, if_neg (fun h => e2 h.symm), List.getElem?_set, if_neg (fun h => e1 h.symm)]; exact ha)
/-- A call that turns a table, inside a region that draws. -/
theorem Hp.freezeT {A : Option Addr} {c to ti k : Nat} {hs : List (Option Addr × Nat)} {m : List (List (List Value))} (h : Hp w0 w ([.tab A c to hs ti k m] ++ L)) : ∃ R, Hp w0 w ([.tab A c to hs ti k m] ++ R) ∧ ∀ (w' : World) (c' : Nat) (hs' : List (Option Addr × Nat)) (m' : List (List (List Value))) (M : List Ck), Cov hs' hs → Hp w0 w' (([.tab A c' to hs' ti k m'] ++ M) ++ R) → Hp w0 w' (([.tab A c' to hs' ti k m'] ++ M) ++ L) ∧ w.heap.size ≤ w'.heap.size ∧ ∀ k', k' < w.heap.size → k' ∉ (Ck.tab A c to hs ti k m).bl → w'.heap[k']? = w.heap[k']? := by
  obtain ⟨R, h1, h2⟩ := Hp.freezeL (F := [.tab A c to hs ti k m]) h
  refine ⟨R, h1, fun w' c' hs' m' M hc h' => ?_⟩
  obtain ⟨q1, q2, q3⟩ := h2 w' [.tab A c' to hs' ti k m'] M (fun x hx b hb => by
    rw [List.mem_singleton] at hx
    subst hx
    refine ⟨_, List.mem_singleton.2 rfl, ?_⟩
    simp only [Ck.bl, List.mem_append, List.mem_flatMap] at hb ⊢
    rcases hb with hb | ⟨z, hz, hb⟩
    · exact .inl hb
    · exact .inr ⟨z, hc z hz, hb⟩) h'
  exact ⟨q1, q2, fun k' hk hn => q3 k' hk fun x hx => by rw [List.mem_singleton] at hx; subst hx; exact hn⟩
theorem ModX.frzB {X : Nat → Prop} {bl : List Nat} (hs : w.heap.size ≤ w'.heap.size) (hk : ∀ k, k < w.heap.size → k ∉ bl → w'.heap[k]? = w.heap[k]?) (hX : ∀ b ∈ bl, X b) : ModX X w w' :=
  ⟨hs, fun k hk' hn => hk k hk' fun hc => hn (hX k hc)⟩
end
end Go.Tb
namespace Go.Tb
end Go.Tb

namespace Go.Proofs
open Go.Shelf
def Try.lays212_ren : Go.Shelf.Ren := ⟨fun | 212 => 110 | 263 => 111 | 264 => 112 | n => n, fun | 46 => 115 | 51 => 118 | 146 => 119 | 53 => 121 | 148 => 122 | n => n, fun | n => n⟩
theorem Try.lays212 : Go.Proofs.Lays.n212 Try.prog Try.lays212_ren := {
  mixed := by kernel_rfl
  f212 := Try.func110.trans (congrArg some (by kernel_rfl))
  f263 := Try.func111.trans (congrArg some (by kernel_rfl))
  f264 := Try.func112.trans (congrArg some (by kernel_rfl))
  t46 := Try.underlying115
  a46 := Try.isAgg115
  z46 := Try.sizeOf115
  v46 := Try.zeroValue115
  t51 := Try.underlying118
  a51 := Try.isAgg118
  z51 := Try.sizeOf118
  v51 := Try.zeroValue118
  t53 := Try.underlying121
  a53 := Try.isAgg121
  z53 := Try.sizeOf121
  v53 := Try.zeroValue121
  t146 := Try.underlying119
  a146 := Try.isAgg119
  z146 := Try.sizeOf119
  v146 := Try.zeroValue119
  t148 := Try.underlying122
  a148 := Try.isAgg122
  z148 := Try.sizeOf122
  v148 := Try.zeroValue122 }
open Go.RowKit Go.Lib in
/-- math/bits.Mul: "Mul returns the full-width product of x and y": on a machine of 64 bits: Mul64's. (LAID: no walk: one application.) -/
theorem Try.bits_Mul (x y : Nat) (hx : x < 18446744073709551616) (hy : y < 18446744073709551616) (w : World) :
    Calls Try.prog 110 #[.int .u64 x, .int .u64 y] w fun e w' => e = .returned (.tuple #[.int .u64 ((x * y / 18446744073709551616 : Nat) : Int), .int .u64 ((x * y % 18446744073709551616 : Nat) : Int)]) ∧ w' = w := Any.bits_Mul Try.lays212 x y hx hy w
end Go.Proofs

set_option linter.unusedVariables false
namespace Go.D1
open Go.Tb
structure Reading where
  from_ : Int
  to_ : Int
  rise : Int
  weight : Int
structure Survey where
  points : Int
  readings : List Reading
def encReading (x : Reading) : List Value := [.int .i64 x.from_, .int .i64 x.to_, .int .i64 x.rise, .int .i64 x.weight]
def level_within (a0 : Int) (a1 : Int) (a2 : Int) : Option Bool :=
  if a1 ≤ a0 then
    some (decide (a0 ≤ a2))
  else
    some false
def level_Validate_k1 : Option Int :=
  some ((0 : Int))
def level_Validate_k2 (t16_1 : Int) (rec1 : Int → Option Int) (t54_1 : Bool) : Option Int :=
  if t54_1 = true then
    some ((1 : Int))
  else
    gd (InR (t16_1 + 1)) <|
    rec1 ((t16_1 + 1))
def level_Validate_B1 (a0 : Survey) (rec1 : Int → Option Int) (t16_1 : Int) : Option Int :=
  if t16_1 < ((a0.readings.length : Int)) then
    ix a0.readings t16_1 fun x1 =>
    gd (InR (a0.points - 1)) <|
    bnd (level_within x1.from_ ((0 : Int)) (a0.points - 1)) fun r1 =>
    if r1 = true then
      gd (InR (a0.points - 1)) <|
      bnd (level_within x1.to_ ((0 : Int)) (a0.points - 1)) fun r2 =>
      if r2 = true then
        if x1.from_ = x1.to_ then
          level_Validate_k2 t16_1 rec1 true
        else
          bnd (level_within x1.rise ((-1000 : Int)) ((1000 : Int))) fun r3 =>
          if r3 = true then
            bnd (level_within x1.weight ((1 : Int)) ((3 : Int))) fun r4 =>
            level_Validate_k2 t16_1 rec1 ((!r4))
          else
            level_Validate_k2 t16_1 rec1 true
      else
        level_Validate_k2 t16_1 rec1 true
    else
      level_Validate_k2 t16_1 rec1 true
  else
    level_Validate_k1
def level_Validate_L1 (a0 : Survey) : Nat → Int → Option Int
  | 0, _ => none
  | n_ + 1, t16_1 => level_Validate_B1 a0 (level_Validate_L1 a0 n_) t16_1
theorem level_Validate_L1_s {a0 : Survey} {m_ : Nat} {t16_1 : Int} {res : Int} (h : level_Validate_L1 a0 m_ t16_1 = some res) : ∃ k, m_ = k + 1 ∧ level_Validate_B1 a0 (level_Validate_L1 a0 k) t16_1 = some res := by
  cases m_ with
  | zero => cases h
  | succ k => exact ⟨k, rfl, h⟩
def level_Validate (a0 : Survey) : Option Int :=
  bnd (level_within a0.points ((1 : Int)) ((5 : Int))) fun r5 =>
  if r5 = true then
    if (8 : Int) < ((a0.readings.length : Int)) then
      some ((3 : Int))
    else
      level_Validate_L1 a0 FU (((0 : Int)))
  else
    some ((1 : Int))
def level_forest_1_k1 (x1 : Int) (x2 : Int) (x3 : Int) (x4 : Int) (l1 : List Int) : Option (Bool × (List Int)) :=
  some (!(decide ((min x1 x2) = (max x3 x4))), l1)
def level_forest_1_k2 (t29_1 : Int) (rec1 : Int → (List Int) → Option (Bool × (List Int))) (l2 : List Int) : Option (Bool × (List Int)) :=
  gd (InR (t29_1 + 1)) <|
  rec1 ((t29_1 + 1)) l2
def level_forest_1_B1 (cap0 : List Int) (x1 : Int) (x2 : Int) (x3 : Int) (x4 : Int) (rec1 : Int → (List Int) → Option (Bool × (List Int))) (t29_1 : Int) (l3 : List Int) : Option (Bool × (List Int)) :=
  if t29_1 < ((cap0.length : Int)) then
    ix l3 t29_1 fun x5 =>
    if x5 = (max x3 x4) then
      ix l3 t29_1 fun x6 =>
      level_forest_1_k2 t29_1 rec1 (((l3.set (Int.toNat t29_1) (min x1 x2))))
    else
      level_forest_1_k2 t29_1 rec1 l3
  else
    level_forest_1_k1 x1 x2 x3 x4 l3
def level_forest_1_L1 (cap0 : List Int) (x1 : Int) (x2 : Int) (x3 : Int) (x4 : Int) : Nat → Int → (List Int) → Option (Bool × (List Int))
  | 0, _, _ => none
  | n_ + 1, t29_1, l3 => level_forest_1_B1 cap0 x1 x2 x3 x4 (level_forest_1_L1 cap0 x1 x2 x3 x4 n_) t29_1 l3
theorem level_forest_1_L1_s {cap0 : List Int} {x1 : Int} {x2 : Int} {x3 : Int} {x4 : Int} {m_ : Nat} {t29_1 : Int} {l3 : List Int} {res : Bool × (List Int)} (h : level_forest_1_L1 cap0 x1 x2 x3 x4 m_ t29_1 l3 = some res) : ∃ k, m_ = k + 1 ∧ level_forest_1_B1 cap0 x1 x2 x3 x4 (level_forest_1_L1 cap0 x1 x2 x3 x4 k) t29_1 l3 = some res := by
  cases m_ with
  | zero => cases h
  | succ k => exact ⟨k, rfl, h⟩
def level_forest_1 (cap0 : List Int) (a0 : Int) (a1 : Int) : Option (Bool × (List Int)) :=
  ix cap0 a0 fun x1 =>
  ix cap0 a1 fun x2 =>
  ix cap0 a0 fun x3 =>
  ix cap0 a1 fun x4 =>
  level_forest_1_L1 cap0 x1 x2 x3 x4 FU (((0 : Int))) cap0
def level_forest_k1 (l1 : List Int) (l2 : List Int) : Option ((List Int) × (List Int)) :=
  some (l2, l1)
def level_forest_k2 (t22_1 : Int) (rec1 : Int → (List Int) → (List Int) → Option ((List Int) × (List Int))) (l3 : List Int) (l4 : List Int) : Option ((List Int) × (List Int)) :=
  gd (InR (t22_1 + 1)) <|
  rec1 ((t22_1 + 1)) l3 l4
def level_forest_B1 (a0 : Survey) (rec1 : Int → (List Int) → (List Int) → Option ((List Int) × (List Int))) (t22_1 : Int) (l5 : List Int) (l6 : List Int) : Option ((List Int) × (List Int)) :=
  if t22_1 < ((a0.readings.length : Int)) then
    ix a0.readings t22_1 fun x1 =>
    bnd (level_forest_1 l6 x1.from_ x1.to_) fun r1 =>
    if r1.1 = true then
      gd (l5.length + (([t22_1] : List Int)).length ≤ 1000000) <|
      level_forest_k2 t22_1 rec1 (((l5 ++ ([t22_1] : List Int)))) r1.2
    else
      level_forest_k2 t22_1 rec1 l5 r1.2
  else
    level_forest_k1 l5 l6
def level_forest_L1 (a0 : Survey) : Nat → Int → (List Int) → (List Int) → Option ((List Int) × (List Int))
  | 0, _, _, _ => none
  | n_ + 1, t22_1, l5, l6 => level_forest_B1 a0 (level_forest_L1 a0 n_) t22_1 l5 l6
theorem level_forest_L1_s {a0 : Survey} {m_ : Nat} {t22_1 : Int} {l5 : List Int} {l6 : List Int} {res : (List Int) × (List Int)} (h : level_forest_L1 a0 m_ t22_1 l5 l6 = some res) : ∃ k, m_ = k + 1 ∧ level_forest_B1 a0 (level_forest_L1 a0 k) t22_1 l5 l6 = some res := by
  cases m_ with
  | zero => cases h
  | succ k => exact ⟨k, rfl, h⟩
def level_forest_k3 (a0 : Survey) (l7 : List Int) : Option ((List Int) × (List Int)) :=
  level_forest_L1 a0 FU (((0 : Int))) ((([] : List Int))) l7
def level_forest_B2 (a0 : Survey) (rec2 : Int → (List Int) → Option ((List Int) × (List Int))) (t10_1 : Int) (l8 : List Int) : Option ((List Int) × (List Int)) :=
  if t10_1 < a0.points then
    gd (l8.length + (([t10_1] : List Int)).length ≤ 1000000) <|
    gd (InR (t10_1 + 1)) <|
    rec2 ((t10_1 + 1)) (((l8 ++ ([t10_1] : List Int))))
  else
    level_forest_k3 a0 l8
def level_forest_L2 (a0 : Survey) : Nat → Int → (List Int) → Option ((List Int) × (List Int))
  | 0, _, _ => none
  | n_ + 1, t10_1, l8 => level_forest_B2 a0 (level_forest_L2 a0 n_) t10_1 l8
theorem level_forest_L2_s {a0 : Survey} {m_ : Nat} {t10_1 : Int} {l8 : List Int} {res : (List Int) × (List Int)} (h : level_forest_L2 a0 m_ t10_1 l8 = some res) : ∃ k, m_ = k + 1 ∧ level_forest_B2 a0 (level_forest_L2 a0 k) t10_1 l8 = some res := by
  cases m_ with
  | zero => cases h
  | succ k => exact ⟨k, rfl, h⟩
def level_forest (a0 : Survey) : Option ((List Int) × (List Int)) :=
  level_forest_L2 a0 FU (((0 : Int))) ((([] : List Int)))
end Go.D1

set_option linter.unusedVariables false
namespace Go.D1
open Go.Tb
structure Rat where
  num : Int
  den : Int
def encRat (x : Rat) : List Value := [.int .i64 x.num, .int .i64 x.den]
structure Arr2 where
  at0 : Int
  at1 : Int
def encArr2 (x : Arr2) : List Value := [.int .i64 x.at0, .int .i64 x.at1]
def level_parts_k1 (m1 : List (List Int)) : Option ((List (List Int))) :=
  some m1
def level_parts_k2 (t16_1 : Int) (rec1 : Int → (List (List Int)) → Option ((List (List Int)))) (m2 : List (List Int)) : Option ((List (List Int))) :=
  gd (InR (t16_1 + 1)) <|
  rec1 ((t16_1 + 1)) m2
def level_parts_k3 (t16_1 : Int) (m3 : List (List Int)) (rec1 : Int → (List (List Int)) → Option ((List (List Int)))) (l1 : List Int) : Option ((List (List Int))) :=
  gd (m3.length + 1 ≤ 1000000) <|
  level_parts_k2 t16_1 rec1 (((m3 ++ [l1])))
def level_parts_k4 (t27_1 : Int) (rec2 : Int → (List Int) → Option ((List (List Int)))) (l2 : List Int) : Option ((List (List Int))) :=
  gd (InR (t27_1 + 1)) <|
  rec2 ((t27_1 + 1)) l2
def level_parts_B1 (r1 : (List Int) × (List Int)) (t16_1 : Int) (m3 : List (List Int)) (rec1 : Int → (List (List Int)) → Option ((List (List Int)))) (rec2 : Int → (List Int) → Option ((List (List Int)))) (t27_1 : Int) (l3 : List Int) : Option ((List (List Int))) :=
  if t27_1 < ((r1.1.length : Int)) then
    ix r1.1 t27_1 fun x1 =>
    if x1 = t16_1 then
      gd (l3.length + (([t27_1] : List Int)).length ≤ 1000000) <|
      level_parts_k4 t27_1 rec2 (((l3 ++ ([t27_1] : List Int))))
    else
      level_parts_k4 t27_1 rec2 l3
  else
    level_parts_k3 t16_1 m3 rec1 l3
def level_parts_L1 (r1 : (List Int) × (List Int)) (t16_1 : Int) (m3 : List (List Int)) (rec1 : Int → (List (List Int)) → Option ((List (List Int)))) : Nat → Int → (List Int) → Option ((List (List Int)))
  | 0, _, _ => none
  | n_ + 1, t27_1, l3 => level_parts_B1 r1 t16_1 m3 rec1 (level_parts_L1 r1 t16_1 m3 rec1 n_) t27_1 l3
theorem level_parts_L1_s {r1 : (List Int) × (List Int)} {t16_1 : Int} {m3 : List (List Int)} {rec1 : Int → (List (List Int)) → Option ((List (List Int)))} {m_ : Nat} {t27_1 : Int} {l3 : List Int} {res : (List (List Int))} (h : level_parts_L1 r1 t16_1 m3 rec1 m_ t27_1 l3 = some res) : ∃ k, m_ = k + 1 ∧ level_parts_B1 r1 t16_1 m3 rec1 (level_parts_L1 r1 t16_1 m3 rec1 k) t27_1 l3 = some res := by
  cases m_ with
  | zero => cases h
  | succ k => exact ⟨k, rfl, h⟩
def level_parts_B2 (r1 : (List Int) × (List Int)) (rec1 : Int → (List (List Int)) → Option ((List (List Int)))) (t16_1 : Int) (m3 : List (List Int)) : Option ((List (List Int))) :=
  if t16_1 < ((r1.1.length : Int)) then
    ix r1.1 t16_1 fun x2 =>
    if x2 = t16_1 then
      level_parts_L1 r1 t16_1 m3 rec1 FU (((0 : Int))) ((([] : List Int)))
    else
      level_parts_k2 t16_1 rec1 m3
  else
    level_parts_k1 m3
def level_parts_L2 (r1 : (List Int) × (List Int)) : Nat → Int → (List (List Int)) → Option ((List (List Int)))
  | 0, _, _ => none
  | n_ + 1, t16_1, m3 => level_parts_B2 r1 (level_parts_L2 r1 n_) t16_1 m3
theorem level_parts_L2_s {r1 : (List Int) × (List Int)} {m_ : Nat} {t16_1 : Int} {m3 : List (List Int)} {res : (List (List Int))} (h : level_parts_L2 r1 m_ t16_1 m3 = some res) : ∃ k, m_ = k + 1 ∧ level_parts_B2 r1 (level_parts_L2 r1 k) t16_1 m3 = some res := by
  cases m_ with
  | zero => cases h
  | succ k => exact ⟨k, rfl, h⟩
def level_parts (a0 : Survey) : Option ((List (List Int))) :=
  bnd (level_forest a0) fun r1 =>
  level_parts_L2 r1 FU (((0 : Int))) ((([] : List (List Int))))
def slices_Index_int_k1 : Option Int :=
  some ((-1 : Int))
def slices_Index_int_B1 (a0 : List Int) (a1 : Int) (rec1 : Int → Option Int) (t8_1 : Int) : Option Int :=
  if t8_1 < ((a0.length : Int)) then
    ix a0 t8_1 fun x1 =>
    if a1 = x1 then
      some t8_1
    else
      gd (InR (t8_1 + 1)) <|
      rec1 ((t8_1 + 1))
  else
    slices_Index_int_k1
def slices_Index_int_L1 (a0 : List Int) (a1 : Int) : Nat → Int → Option Int
  | 0, _ => none
  | n_ + 1, t8_1 => slices_Index_int_B1 a0 a1 (slices_Index_int_L1 a0 a1 n_) t8_1
theorem slices_Index_int_L1_s {a0 : List Int} {a1 : Int} {m_ : Nat} {t8_1 : Int} {res : Int} (h : slices_Index_int_L1 a0 a1 m_ t8_1 = some res) : ∃ k, m_ = k + 1 ∧ slices_Index_int_B1 a0 a1 (slices_Index_int_L1 a0 a1 k) t8_1 = some res := by
  cases m_ with
  | zero => cases h
  | succ k => exact ⟨k, rfl, h⟩
def slices_Index_int (a0 : List Int) (a1 : Int) : Option Int :=
  slices_Index_int_L1 a0 a1 FU (((0 : Int)))
def slices_Delete_int (a0 : List Int) (a1 : Int) (a2 : Int) : Option (List Int) :=
  gd (0 ≤ a1 ∧ a1 ≤ a2 ∧ a2 ≤ (a0.length : Int)) <|
  some (a0.take (Int.toNat a1) ++ a0.drop (Int.toNat a2))
def level_resist_1 (cap0 : Int) (a0 : Int) : Option Int :=
  if a0 = cap0 then
    some ((1 : Int))
  else
    some ((0 : Int))
def slices_Repeat_Rat (a0 : List Rat) (a1 : Int) : Option (List Rat) :=
  match a0 with
  | [v] => gd (1 ≤ a1 ∧ a1 ≤ 8) <| some (List.replicate (Int.toNat a1) v)
  | _ => none
def level_balance_1 (cap0 : List Rat) (a0 : Int) (a1 : Int) : Option ((List Rat)) :=
  if (0 : Int) ≤ a0 then
    ix cap0 a0 fun x1 =>
    gd (InR (x1.num + a1)) <|
    ix cap0 a0 fun x2 =>
    some ((cap0.set (Int.toNat a0) ((⟨x1.num + a1, x2.den⟩ : Rat))))
  else
    some cap0
def level_balance_k1 (m1 : List (List Rat)) : Option ((List (List Rat))) :=
  some m1
def level_balance_k2 (t18_1 : Int) (rec1 : Int → (List (List Rat)) → Option ((List (List Rat)))) (m2 : List (List Rat)) : Option ((List (List Rat))) :=
  gd (InR (t18_1 + 1)) <|
  rec1 ((t18_1 + 1)) m2
def level_balance_k3 (a1 : List Int) (a2 : Int → Option Int) (t18_1 : Int) (m3 : List (List Rat)) (rec1 : Int → (List (List Rat)) → Option ((List (List Rat)))) (x1 : Int) (l1 : List Rat) : Option ((List (List Rat))) :=
  bnd (a2 x1) fun r1 =>
  ix l1 ((a1.length : Int)) fun x2 =>
  gd (m3.length + 1 ≤ 1000000) <|
  level_balance_k2 t18_1 rec1 (((m3 ++ [(l1.set (Int.toNat ((a1.length : Int))) ((⟨r1, x2.den⟩ : Rat)))])))
def level_balance_k4 (t32_1 : Int) (rec2 : Int → (List Rat) → Option ((List (List Rat)))) (l2 : List Rat) : Option ((List (List Rat))) :=
  gd (InR (t32_1 + 1)) <|
  rec2 ((t32_1 + 1)) l2
def level_balance_k5 (t47_1 : Int) (rec3 : Int → (List Rat) → Option ((List (List Rat)))) (l3 : List Rat) : Option ((List (List Rat))) :=
  gd (InR (t47_1 + 1)) <|
  rec3 ((t47_1 + 1)) l3
def level_balance_B1 (a1 : List Int) (x1 : Int) (t32_1 : Int) (rec2 : Int → (List Rat) → Option ((List (List Rat)))) (x3 : Reading) (rec3 : Int → (List Rat) → Option ((List (List Rat)))) (t47_1 : Int) (l4 : List Rat) : Option ((List (List Rat))) :=
  if t47_1 < 2 then
    ix (([(⟨x3.from_, x3.to_⟩ : Arr2), (⟨x3.to_, x3.from_⟩ : Arr2)] : List Arr2)) t47_1 fun x4 =>
    ix (([x4.at0, x4.at1] : List Int)) 0 fun x5 =>
    if x5 = x1 then
      bnd (slices_Index_int a1 x1) fun r2 =>
      bnd (level_balance_1 l4 r2 x3.weight) fun r3 =>
      ix (([x4.at0, x4.at1] : List Int)) 1 fun x6 =>
      bnd (slices_Index_int a1 x6) fun r4 =>
      gd (InR (-x3.weight)) <|
      bnd (level_balance_1 r3 r4 (-x3.weight)) fun r5 =>
      level_balance_k5 t47_1 rec3 r5
    else
      level_balance_k5 t47_1 rec3 l4
  else
    level_balance_k4 t32_1 rec2 l4
def level_balance_L1 (a1 : List Int) (x1 : Int) (t32_1 : Int) (rec2 : Int → (List Rat) → Option ((List (List Rat)))) (x3 : Reading) : Nat → Int → (List Rat) → Option ((List (List Rat)))
  | 0, _, _ => none
  | n_ + 1, t47_1, l4 => level_balance_B1 a1 x1 t32_1 rec2 x3 (level_balance_L1 a1 x1 t32_1 rec2 x3 n_) t47_1 l4
theorem level_balance_L1_s {a1 : List Int} {x1 : Int} {t32_1 : Int} {rec2 : Int → (List Rat) → Option ((List (List Rat)))} {x3 : Reading} {m_ : Nat} {t47_1 : Int} {l4 : List Rat} {res : (List (List Rat))} (h : level_balance_L1 a1 x1 t32_1 rec2 x3 m_ t47_1 l4 = some res) : ∃ k, m_ = k + 1 ∧ level_balance_B1 a1 x1 t32_1 rec2 x3 (level_balance_L1 a1 x1 t32_1 rec2 x3 k) t47_1 l4 = some res := by
  cases m_ with
  | zero => cases h
  | succ k => exact ⟨k, rfl, h⟩
def level_balance_B2 (a0 : Survey) (a1 : List Int) (a2 : Int → Option Int) (t18_1 : Int) (m3 : List (List Rat)) (rec1 : Int → (List (List Rat)) → Option ((List (List Rat)))) (x1 : Int) (rec2 : Int → (List Rat) → Option ((List (List Rat)))) (t32_1 : Int) (l5 : List Rat) : Option ((List (List Rat))) :=
  if t32_1 < ((a0.readings.length : Int)) then
    ix a0.readings t32_1 fun x3 =>
    level_balance_L1 a1 x1 t32_1 rec2 x3 FU (((0 : Int))) l5
  else
    level_balance_k3 a1 a2 t18_1 m3 rec1 x1 l5
def level_balance_L2 (a0 : Survey) (a1 : List Int) (a2 : Int → Option Int) (t18_1 : Int) (m3 : List (List Rat)) (rec1 : Int → (List (List Rat)) → Option ((List (List Rat)))) (x1 : Int) : Nat → Int → (List Rat) → Option ((List (List Rat)))
  | 0, _, _ => none
  | n_ + 1, t32_1, l5 => level_balance_B2 a0 a1 a2 t18_1 m3 rec1 x1 (level_balance_L2 a0 a1 a2 t18_1 m3 rec1 x1 n_) t32_1 l5
theorem level_balance_L2_s {a0 : Survey} {a1 : List Int} {a2 : Int → Option Int} {t18_1 : Int} {m3 : List (List Rat)} {rec1 : Int → (List (List Rat)) → Option ((List (List Rat)))} {x1 : Int} {m_ : Nat} {t32_1 : Int} {l5 : List Rat} {res : (List (List Rat))} (h : level_balance_L2 a0 a1 a2 t18_1 m3 rec1 x1 m_ t32_1 l5 = some res) : ∃ k, m_ = k + 1 ∧ level_balance_B2 a0 a1 a2 t18_1 m3 rec1 x1 (level_balance_L2 a0 a1 a2 t18_1 m3 rec1 x1 k) t32_1 l5 = some res := by
  cases m_ with
  | zero => cases h
  | succ k => exact ⟨k, rfl, h⟩
def level_balance_B3 (a0 : Survey) (a1 : List Int) (a2 : Int → Option Int) (rec1 : Int → (List (List Rat)) → Option ((List (List Rat)))) (t18_1 : Int) (m3 : List (List Rat)) : Option ((List (List Rat))) :=
  if t18_1 < ((a1.length : Int)) then
    ix a1 t18_1 fun x1 =>
    gd (InR (((a1.length : Int)) + 1)) <|
    bnd (slices_Repeat_Rat (([(⟨0, 1⟩ : Rat)] : List Rat)) (((a1.length : Int)) + 1)) fun r6 =>
    level_balance_L2 a0 a1 a2 t18_1 m3 rec1 x1 FU (((0 : Int))) r6
  else
    level_balance_k1 m3
def level_balance_L3 (a0 : Survey) (a1 : List Int) (a2 : Int → Option Int) : Nat → Int → (List (List Rat)) → Option ((List (List Rat)))
  | 0, _, _ => none
  | n_ + 1, t18_1, m3 => level_balance_B3 a0 a1 a2 (level_balance_L3 a0 a1 a2 n_) t18_1 m3
theorem level_balance_L3_s {a0 : Survey} {a1 : List Int} {a2 : Int → Option Int} {m_ : Nat} {t18_1 : Int} {m3 : List (List Rat)} {res : (List (List Rat))} (h : level_balance_L3 a0 a1 a2 m_ t18_1 m3 = some res) : ∃ k, m_ = k + 1 ∧ level_balance_B3 a0 a1 a2 (level_balance_L3 a0 a1 a2 k) t18_1 m3 = some res := by
  cases m_ with
  | zero => cases h
  | succ k => exact ⟨k, rfl, h⟩
def level_balance (a0 : Survey) (a1 : List Int) (a2 : Int → Option Int) : Option ((List (List Rat))) :=
  level_balance_L3 a0 a1 a2 FU (((0 : Int))) ((([] : List (List Rat))))
end Go.D1

set_option linter.unusedVariables false
namespace Go.D1
open Go.Tb
def level_gcd_k1 (t0_1 : Int) : Option Int :=
  gd (InR (-t0_1)) <|
  some (max t0_1 (-t0_1))
def level_gcd_B1 (rec1 : Int → Int → Option Int) (t0_2 : Int) (t1_1 : Int) : Option Int :=
  if t1_1 = 0 then
    level_gcd_k1 t0_2
  else
    gd (t1_1 ≠ 0 ∧ InR (Int.tmod t0_2 t1_1)) <|
    rec1 t1_1 ((Int.tmod t0_2 t1_1))
def level_gcd_L1 : Nat → Int → Int → Option Int
  | 0, _, _ => none
  | n_ + 1, t0_2, t1_1 => level_gcd_B1 (level_gcd_L1 n_) t0_2 t1_1
theorem level_gcd_L1_s {m_ : Nat} {t0_2 : Int} {t1_1 : Int} {res : Int} (h : level_gcd_L1 m_ t0_2 t1_1 = some res) : ∃ k, m_ = k + 1 ∧ level_gcd_B1 (level_gcd_L1 k) t0_2 t1_1 = some res := by
  cases m_ with
  | zero => cases h
  | succ k => exact ⟨k, rfl, h⟩
def level_gcd (a0 : Int) (a1 : Int) : Option Int :=
  level_gcd_L1 FU a0 a1
def level_ratio_k1 (a0 : Int) (a1 : Int) (t5_1 : Int) : Option Rat :=
  gd (t5_1 ≠ 0 ∧ InR (Int.tdiv a0 t5_1)) <|
  gd (t5_1 ≠ 0 ∧ InR (Int.tdiv a1 t5_1)) <|
  some ((⟨Int.tdiv a0 t5_1, Int.tdiv a1 t5_1⟩ : Rat))
def level_ratio (a0 : Int) (a1 : Int) : Option Rat :=
  bnd (level_gcd a0 a1) fun r1 =>
  if a1 < 0 then
    gd (InR (-r1)) <|
    level_ratio_k1 a0 a1 ((-r1))
  else
    level_ratio_k1 a0 a1 r1
def level_mul_k1 (c1_0_1 : Int) (c1_1_1 : Int) (c2_0_1 : Int) (c2_1_1 : Int) : Option Rat :=
  gd (InR (c1_0_1 * c2_0_1)) <|
  gd (InR (c1_1_1 * c2_1_1)) <|
  some ((⟨c1_0_1 * c2_0_1, c1_1_1 * c2_1_1⟩ : Rat))
def level_mul (a0 : Rat) (a1 : Rat) : Option Rat :=
  bnd (level_ratio a0.num a1.den) fun r1 =>
  bnd (level_ratio a1.num a0.den) fun r2 =>
  level_mul_k1 r1.num r1.den r2.num r2.den
def level_div (a0 : Rat) (a1 : Rat) : Option Rat :=
  bnd (level_ratio a1.den a1.num) fun r1 =>
  bnd (level_mul a0 r1) fun r2 =>
  some r2
end Go.D1

set_option linter.unusedVariables false
namespace Go.D1
open Go.Tb
def level_sub (a0 : Rat) (a1 : Rat) : Option Rat :=
  gd (InR (a0.num * a1.den)) <|
  gd (InR (a1.num * a0.den)) <|
  gd (InR ((a0.num * a1.den) - (a1.num * a0.den))) <|
  gd (InR (a0.den * a1.den)) <|
  bnd (level_ratio ((a0.num * a1.den) - (a1.num * a0.den)) (a0.den * a1.den)) fun r1 =>
  some r1
def level_solve_k1 (m1 : List (List Rat)) (l1 : List Rat) : Option ((List Rat) × (List (List Rat))) :=
  some (l1, m1)
def level_solve_B1 (m1 : List (List Rat)) (rec1 : Int → (List Rat) → Option ((List Rat) × (List (List Rat)))) (t109_1 : Int) (l2 : List Rat) : Option ((List Rat) × (List (List Rat))) :=
  if t109_1 < ((m1.length : Int)) then
    ix m1 t109_1 fun x1 =>
    ix x1 ((m1.length : Int)) fun x2 =>
    ix m1 t109_1 fun x3 =>
    ix x3 t109_1 fun x4 =>
    bnd (level_div x2 x4) fun r1 =>
    gd (l2.length + (([r1] : List Rat)).length ≤ 1000000) <|
    gd (InR (t109_1 + 1)) <|
    rec1 ((t109_1 + 1)) (((l2 ++ ([r1] : List Rat))))
  else
    level_solve_k1 m1 l2
def level_solve_L1 (m1 : List (List Rat)) : Nat → Int → (List Rat) → Option ((List Rat) × (List (List Rat)))
  | 0, _, _ => none
  | n_ + 1, t109_1, l2 => level_solve_B1 m1 (level_solve_L1 m1 n_) t109_1 l2
theorem level_solve_L1_s {m1 : List (List Rat)} {m_ : Nat} {t109_1 : Int} {l2 : List Rat} {res : (List Rat) × (List (List Rat))} (h : level_solve_L1 m1 m_ t109_1 l2 = some res) : ∃ k, m_ = k + 1 ∧ level_solve_B1 m1 (level_solve_L1 m1 k) t109_1 l2 = some res := by
  cases m_ with
  | zero => cases h
  | succ k => exact ⟨k, rfl, h⟩
def level_solve_k2 (m1 : List (List Rat)) : Option ((List Rat) × (List (List Rat))) :=
  level_solve_L1 m1 FU (((0 : Int))) ((([] : List Rat)))
def level_solve_k3 (t12_1 : Int) (rec2 : Int → (List (List Rat)) → Option ((List Rat) × (List (List Rat)))) (m2 : List (List Rat)) : Option ((List Rat) × (List (List Rat))) :=
  gd (InR (t12_1 + 1)) <|
  rec2 ((t12_1 + 1)) m2
def level_solve_k4 (t43_1 : Int) (rec3 : Int → (List (List Rat)) → Option ((List Rat) × (List (List Rat)))) (m3 : List (List Rat)) : Option ((List Rat) × (List (List Rat))) :=
  gd (InR (t43_1 + 1)) <|
  rec3 ((t43_1 + 1)) m3
def level_solve_B2 (t12_1 : Int) (t43_1 : Int) (rec3 : Int → (List (List Rat)) → Option ((List Rat) × (List (List Rat)))) (c0_0_1 : Int) (c0_1_1 : Int) (rec4 : Int → (List (List Rat)) → Option ((List Rat) × (List (List Rat)))) (t7_1 : Int) (m4 : List (List Rat)) : Option ((List Rat) × (List (List Rat))) :=
  if t7_1 ≤ ((m4.length : Int)) then
    ix m4 t43_1 fun x5 =>
    ix m4 t43_1 fun x6 =>
    ix x6 t7_1 fun x7 =>
    ix m4 t12_1 fun x8 =>
    ix x8 t7_1 fun x9 =>
    bnd (level_mul ((⟨c0_0_1, c0_1_1⟩ : Rat)) x9) fun r2 =>
    bnd (level_sub x7 r2) fun r3 =>
    ix x5 t7_1 fun x10 =>
    gd (InR (t7_1 + 1)) <|
    rec4 ((t7_1 + 1)) (((m4.set (Int.toNat t43_1) (x5.set (Int.toNat t7_1) r3))))
  else
    level_solve_k4 t43_1 rec3 m4
def level_solve_L2 (t12_1 : Int) (t43_1 : Int) (rec3 : Int → (List (List Rat)) → Option ((List Rat) × (List (List Rat)))) (c0_0_1 : Int) (c0_1_1 : Int) : Nat → Int → (List (List Rat)) → Option ((List Rat) × (List (List Rat)))
  | 0, _, _ => none
  | n_ + 1, t7_1, m4 => level_solve_B2 t12_1 t43_1 rec3 c0_0_1 c0_1_1 (level_solve_L2 t12_1 t43_1 rec3 c0_0_1 c0_1_1 n_) t7_1 m4
theorem level_solve_L2_s {t12_1 : Int} {t43_1 : Int} {rec3 : Int → (List (List Rat)) → Option ((List Rat) × (List (List Rat)))} {c0_0_1 : Int} {c0_1_1 : Int} {m_ : Nat} {t7_1 : Int} {m4 : List (List Rat)} {res : (List Rat) × (List (List Rat))} (h : level_solve_L2 t12_1 t43_1 rec3 c0_0_1 c0_1_1 m_ t7_1 m4 = some res) : ∃ k, m_ = k + 1 ∧ level_solve_B2 t12_1 t43_1 rec3 c0_0_1 c0_1_1 (level_solve_L2 t12_1 t43_1 rec3 c0_0_1 c0_1_1 k) t7_1 m4 = some res := by
  cases m_ with
  | zero => cases h
  | succ k => exact ⟨k, rfl, h⟩
def level_solve_k5 (t12_1 : Int) (t43_1 : Int) (m5 : List (List Rat)) (rec3 : Int → (List (List Rat)) → Option ((List Rat) × (List (List Rat)))) (c0_0_1 : Int) (c0_1_1 : Int) : Option ((List Rat) × (List (List Rat))) :=
  level_solve_L2 t12_1 t43_1 rec3 c0_0_1 c0_1_1 FU t12_1 m5
def level_solve_k6 (t12_1 : Int) (t43_1 : Int) (m5 : List (List Rat)) (rec3 : Int → (List (List Rat)) → Option ((List Rat) × (List (List Rat)))) (t59_1 : Bool) : Option ((List Rat) × (List (List Rat))) :=
  if t59_1 = true then
    level_solve_k4 t43_1 rec3 m5
  else
    ix m5 t43_1 fun x11 =>
    ix x11 t12_1 fun x12 =>
    ix m5 t12_1 fun x13 =>
    ix x13 t12_1 fun x14 =>
    bnd (level_div x12 x14) fun r4 =>
    level_solve_k5 t12_1 t43_1 m5 rec3 r4.num r4.den
def level_solve_B3 (t12_1 : Int) (m6 : List (List Rat)) (rec2 : Int → (List (List Rat)) → Option ((List Rat) × (List (List Rat)))) (rec3 : Int → (List (List Rat)) → Option ((List Rat) × (List (List Rat)))) (t43_1 : Int) (m5 : List (List Rat)) : Option ((List Rat) × (List (List Rat))) :=
  if t43_1 < ((m6.length : Int)) then
    if t43_1 = t12_1 then
      level_solve_k6 t12_1 t43_1 m5 rec3 true
    else
      ix m5 t43_1 fun x15 =>
      ix x15 t12_1 fun x16 =>
      level_solve_k6 t12_1 t43_1 m5 rec3 ((decide (x16.num = 0)))
  else
    level_solve_k3 t12_1 rec2 m5
def level_solve_L3 (t12_1 : Int) (m6 : List (List Rat)) (rec2 : Int → (List (List Rat)) → Option ((List Rat) × (List (List Rat)))) : Nat → Int → (List (List Rat)) → Option ((List Rat) × (List (List Rat)))
  | 0, _, _ => none
  | n_ + 1, t43_1, m5 => level_solve_B3 t12_1 m6 rec2 (level_solve_L3 t12_1 m6 rec2 n_) t43_1 m5
theorem level_solve_L3_s {t12_1 : Int} {m6 : List (List Rat)} {rec2 : Int → (List (List Rat)) → Option ((List Rat) × (List (List Rat)))} {m_ : Nat} {t43_1 : Int} {m5 : List (List Rat)} {res : (List Rat) × (List (List Rat))} (h : level_solve_L3 t12_1 m6 rec2 m_ t43_1 m5 = some res) : ∃ k, m_ = k + 1 ∧ level_solve_B3 t12_1 m6 rec2 (level_solve_L3 t12_1 m6 rec2 k) t43_1 m5 = some res := by
  cases m_ with
  | zero => cases h
  | succ k => exact ⟨k, rfl, h⟩
def level_solve_k7 (t12_1 : Int) (m6 : List (List Rat)) (rec2 : Int → (List (List Rat)) → Option ((List Rat) × (List (List Rat)))) (t4_1 : Int) : Option ((List Rat) × (List (List Rat))) :=
  ix m6 t4_1 fun x17 =>
  ix m6 t12_1 fun x18 =>
  ix m6 t12_1 fun x19 =>
  ix m6 t4_1 fun x20 =>
  level_solve_L3 t12_1 m6 rec2 FU (((0 : Int))) ((((m6.set (Int.toNat t12_1) x17).set (Int.toNat t4_1) x18)))
def level_solve_B4 (t12_1 : Int) (m6 : List (List Rat)) (rec2 : Int → (List (List Rat)) → Option ((List Rat) × (List (List Rat)))) (rec5 : Int → Option ((List Rat) × (List (List Rat)))) (t4_2 : Int) : Option ((List Rat) × (List (List Rat))) :=
  ix m6 t4_2 fun x21 =>
  ix x21 t12_1 fun x22 =>
  if x22.num = 0 then
    gd (InR (t4_2 + 1)) <|
    rec5 ((t4_2 + 1))
  else
    level_solve_k7 t12_1 m6 rec2 t4_2
def level_solve_L4 (t12_1 : Int) (m6 : List (List Rat)) (rec2 : Int → (List (List Rat)) → Option ((List Rat) × (List (List Rat)))) : Nat → Int → Option ((List Rat) × (List (List Rat)))
  | 0, _ => none
  | n_ + 1, t4_2 => level_solve_B4 t12_1 m6 rec2 (level_solve_L4 t12_1 m6 rec2 n_) t4_2
theorem level_solve_L4_s {t12_1 : Int} {m6 : List (List Rat)} {rec2 : Int → (List (List Rat)) → Option ((List Rat) × (List (List Rat)))} {m_ : Nat} {t4_2 : Int} {res : (List Rat) × (List (List Rat))} (h : level_solve_L4 t12_1 m6 rec2 m_ t4_2 = some res) : ∃ k, m_ = k + 1 ∧ level_solve_B4 t12_1 m6 rec2 (level_solve_L4 t12_1 m6 rec2 k) t4_2 = some res := by
  cases m_ with
  | zero => cases h
  | succ k => exact ⟨k, rfl, h⟩
def level_solve_B5 (a0 : List (List Rat)) (rec2 : Int → (List (List Rat)) → Option ((List Rat) × (List (List Rat)))) (t12_1 : Int) (m6 : List (List Rat)) : Option ((List Rat) × (List (List Rat))) :=
  if t12_1 < ((a0.length : Int)) then
    level_solve_L4 t12_1 m6 rec2 FU t12_1
  else
    level_solve_k2 m6
def level_solve_L5 (a0 : List (List Rat)) : Nat → Int → (List (List Rat)) → Option ((List Rat) × (List (List Rat)))
  | 0, _, _ => none
  | n_ + 1, t12_1, m6 => level_solve_B5 a0 (level_solve_L5 a0 n_) t12_1 m6
theorem level_solve_L5_s {a0 : List (List Rat)} {m_ : Nat} {t12_1 : Int} {m6 : List (List Rat)} {res : (List Rat) × (List (List Rat))} (h : level_solve_L5 a0 m_ t12_1 m6 = some res) : ∃ k, m_ = k + 1 ∧ level_solve_B5 a0 (level_solve_L5 a0 k) t12_1 m6 = some res := by
  cases m_ with
  | zero => cases h
  | succ k => exact ⟨k, rfl, h⟩
def level_solve (a0 : List (List Rat)) : Option ((List Rat) × (List (List Rat))) :=
  level_solve_L5 a0 FU (((0 : Int))) a0
end Go.D1

set_option linter.unusedVariables false
namespace Go.D1
open Go.Tb
def level_resist_k1 : Option Rat :=
  some ((⟨0, 1⟩ : Rat))
def level_resist_B1 (a0 : Survey) (a1 : Int) (a2 : Int) (r1 : (List (List Int))) (rec1 : Int → Option Rat) (t18_1 : Int) : Option Rat :=
  if t18_1 < ((r1.length : Int)) then
    ix r1 t18_1 fun x1 =>
    bnd (slices_Index_int x1 a2) fun r2 =>
    if (0 : Int) ≤ r2 then
      gd (InR (r2 + 1)) <|
      bnd (slices_Delete_int x1 r2 (r2 + 1)) fun r3 =>
      bnd (level_balance a0 r3 ((fun x2 => level_resist_1 a1 x2))) fun r4 =>
      bnd (level_solve r4) fun r5 =>
      bnd (slices_Index_int r3 a1) fun r6 =>
      ix r5.1 r6 fun x3 =>
      some x3
    else
      gd (InR (t18_1 + 1)) <|
      rec1 ((t18_1 + 1))
  else
    level_resist_k1
def level_resist_L1 (a0 : Survey) (a1 : Int) (a2 : Int) (r1 : (List (List Int))) : Nat → Int → Option Rat
  | 0, _ => none
  | n_ + 1, t18_1 => level_resist_B1 a0 a1 a2 r1 (level_resist_L1 a0 a1 a2 r1 n_) t18_1
theorem level_resist_L1_s {a0 : Survey} {a1 : Int} {a2 : Int} {r1 : (List (List Int))} {m_ : Nat} {t18_1 : Int} {res : Rat} (h : level_resist_L1 a0 a1 a2 r1 m_ t18_1 = some res) : ∃ k, m_ = k + 1 ∧ level_resist_B1 a0 a1 a2 r1 (level_resist_L1 a0 a1 a2 r1 k) t18_1 = some res := by
  cases m_ with
  | zero => cases h
  | succ k => exact ⟨k, rfl, h⟩
def level_resist (a0 : Survey) (a1 : Int) (a2 : Int) : Option Rat :=
  if a1 = a2 then
    some ((⟨0, 1⟩ : Rat))
  else
    bnd (level_parts a0) fun r1 =>
    level_resist_L1 a0 a1 a2 r1 FU (((0 : Int)))
def level_Error_k1 (a0 : Survey) (a1 : Int) (a2 : Int) (t30_1 : Bool) : Option (Rat × Int) :=
  if t30_1 = true then
    some ((⟨0, 0⟩ : Rat), (4 : Int))
  else
    bnd (level_forest a0) fun r1 =>
    ix r1.1 a1 fun x1 =>
    ix r1.1 a2 fun x2 =>
    if x1 = x2 then
      bnd (level_resist a0 a1 a2) fun r2 =>
      some (r2, (0 : Int))
    else
      some ((⟨0, 0⟩ : Rat), (9 : Int))
def level_Error (a0 : Survey) (a1 : Int) (a2 : Int) : Option (Rat × Int) :=
  bnd (level_Validate a0) fun r3 =>
  if r3 = 0 then
    gd (InR (a0.points - 1)) <|
    bnd (level_within a1 ((0 : Int)) (a0.points - 1)) fun r4 =>
    if r4 = true then
      gd (InR (a0.points - 1)) <|
      bnd (level_within a2 ((0 : Int)) (a0.points - 1)) fun r5 =>
      level_Error_k1 a0 a1 a2 ((!r5))
    else
      level_Error_k1 a0 a1 a2 true
  else
    some ((⟨0, 0⟩ : Rat), r3)
def level_best_1_k1 (t4_1 : Int) : Option Int :=
  some t4_1
def level_best_1_k2 (t10_1 : Int) (rec1 : Int → Int → Option Int) (t4_2 : Int) : Option Int :=
  gd (InR (t10_1 + 1)) <|
  rec1 t4_2 ((t10_1 + 1))
def level_best_1_B1 (a0 : Int) (cap0 : Survey) (rec1 : Int → Int → Option Int) (t4_3 : Int) (t10_1 : Int) : Option Int :=
  if t10_1 < ((cap0.readings.length : Int)) then
    ix cap0.readings t10_1 fun x1 =>
    if a0 = x1.to_ then
      gd (InR (x1.weight * x1.rise)) <|
      gd (InR (t4_3 + (x1.weight * x1.rise))) <|
      level_best_1_k2 t10_1 rec1 ((t4_3 + (x1.weight * x1.rise)))
    else
      if a0 = x1.from_ then
        gd (InR (x1.weight * x1.rise)) <|
        gd (InR (t4_3 - (x1.weight * x1.rise))) <|
        level_best_1_k2 t10_1 rec1 ((t4_3 - (x1.weight * x1.rise)))
      else
        level_best_1_k2 t10_1 rec1 t4_3
  else
    level_best_1_k1 t4_3
def level_best_1_L1 (a0 : Int) (cap0 : Survey) : Nat → Int → Int → Option Int
  | 0, _, _ => none
  | n_ + 1, t4_3, t10_1 => level_best_1_B1 a0 cap0 (level_best_1_L1 a0 cap0 n_) t4_3 t10_1
theorem level_best_1_L1_s {a0 : Int} {cap0 : Survey} {m_ : Nat} {t4_3 : Int} {t10_1 : Int} {res : Int} (h : level_best_1_L1 a0 cap0 m_ t4_3 t10_1 = some res) : ∃ k, m_ = k + 1 ∧ level_best_1_B1 a0 cap0 (level_best_1_L1 a0 cap0 k) t4_3 t10_1 = some res := by
  cases m_ with
  | zero => cases h
  | succ k => exact ⟨k, rfl, h⟩
def level_best_1 (cap0 : Survey) (a0 : Int) : Option Int :=
  level_best_1_L1 a0 cap0 FU (((0 : Int))) (((0 : Int)))
def level_best_k1 (l1 : List Rat) : Option ((List Rat)) :=
  some l1
def level_best_k2 (t17_1 : Int) (rec1 : Int → (List Rat) → Option ((List Rat))) (l2 : List Rat) : Option ((List Rat)) :=
  gd (InR (t17_1 + 1)) <|
  rec1 ((t17_1 + 1)) l2
def level_best_B1 (t17_1 : Int) (rec1 : Int → (List Rat) → Option ((List Rat))) (x1 : List Int) (r1 : (List Rat) × (List (List Rat))) (rec2 : Int → (List Rat) → Option ((List Rat))) (t30_1 : Int) (l3 : List Rat) : Option ((List Rat)) :=
  if t30_1 < (((List.drop (Int.toNat 1) x1).length : Int)) then
    ix ((List.drop (Int.toNat 1) x1)) t30_1 fun x2 =>
    ix r1.1 t30_1 fun x3 =>
    ix l3 x2 fun x4 =>
    gd (InR (t30_1 + 1)) <|
    rec2 ((t30_1 + 1)) (((l3.set (Int.toNat x2) x3)))
  else
    level_best_k2 t17_1 rec1 l3
def level_best_L1 (t17_1 : Int) (rec1 : Int → (List Rat) → Option ((List Rat))) (x1 : List Int) (r1 : (List Rat) × (List (List Rat))) : Nat → Int → (List Rat) → Option ((List Rat))
  | 0, _, _ => none
  | n_ + 1, t30_1, l3 => level_best_B1 t17_1 rec1 x1 r1 (level_best_L1 t17_1 rec1 x1 r1 n_) t30_1 l3
theorem level_best_L1_s {t17_1 : Int} {rec1 : Int → (List Rat) → Option ((List Rat))} {x1 : List Int} {r1 : (List Rat) × (List (List Rat))} {m_ : Nat} {t30_1 : Int} {l3 : List Rat} {res : (List Rat)} (h : level_best_L1 t17_1 rec1 x1 r1 m_ t30_1 l3 = some res) : ∃ k, m_ = k + 1 ∧ level_best_B1 t17_1 rec1 x1 r1 (level_best_L1 t17_1 rec1 x1 r1 k) t30_1 l3 = some res := by
  cases m_ with
  | zero => cases h
  | succ k => exact ⟨k, rfl, h⟩
def level_best_B2 (a0 : Survey) (r2 : (List (List Int))) (rec1 : Int → (List Rat) → Option ((List Rat))) (t17_1 : Int) (l4 : List Rat) : Option ((List Rat)) :=
  if t17_1 < ((r2.length : Int)) then
    ix r2 t17_1 fun x1 =>
    gd (0 ≤ ((1 : Int)) ∧ ((1 : Int)) ≤ (x1.length : Int)) <|
    bnd (level_balance a0 ((List.drop (Int.toNat 1) x1)) ((fun x5 => level_best_1 a0 x5))) fun r3 =>
    bnd (level_solve r3) fun r1 =>
    gd (0 ≤ ((1 : Int)) ∧ ((1 : Int)) ≤ (x1.length : Int)) <|
    level_best_L1 t17_1 rec1 x1 r1 FU (((0 : Int))) l4
  else
    level_best_k1 l4
def level_best_L2 (a0 : Survey) (r2 : (List (List Int))) : Nat → Int → (List Rat) → Option ((List Rat))
  | 0, _, _ => none
  | n_ + 1, t17_1, l4 => level_best_B2 a0 r2 (level_best_L2 a0 r2 n_) t17_1 l4
theorem level_best_L2_s {a0 : Survey} {r2 : (List (List Int))} {m_ : Nat} {t17_1 : Int} {l4 : List Rat} {res : (List Rat)} (h : level_best_L2 a0 r2 m_ t17_1 l4 = some res) : ∃ k, m_ = k + 1 ∧ level_best_B2 a0 r2 (level_best_L2 a0 r2 k) t17_1 l4 = some res := by
  cases m_ with
  | zero => cases h
  | succ k => exact ⟨k, rfl, h⟩
def level_best (a0 : Survey) : Option ((List Rat)) :=
  bnd (slices_Repeat_Rat (([(⟨0, 1⟩ : Rat)] : List Rat)) a0.points) fun r4 =>
  bnd (level_parts a0) fun r2 =>
  level_best_L2 a0 r2 FU (((0 : Int))) r4
end Go.D1

set_option linter.unusedVariables false
namespace Go.D1
open Go.Tb
def level_Best (a0 : Survey) : Option ((List Rat) × Int) :=
  bnd (level_Validate a0) fun r1 =>
  if r1 = 0 then
    bnd (level_best a0) fun r2 =>
    some (r2, (0 : Int))
  else
    some (([] : List Rat), r1)
def law01_known : Option Bool :=
  bnd (level_Best ((⟨2, ([(⟨0, 1, 10, 1⟩ : Reading), (⟨0, 1, 13, 2⟩ : Reading)] : List Reading)⟩ : Survey))) fun r1 =>
  bnd (level_Error ((⟨2, ([(⟨0, 1, 10, 1⟩ : Reading), (⟨0, 1, 13, 2⟩ : Reading)] : List Reading)⟩ : Survey)) ((0 : Int)) ((1 : Int))) fun r2 =>
  if r1.2 = 0 then
    if ((r1.1.length : Int)) = 2 then
      ix r1.1 1 fun x1 =>
      if ((x1.num == 12) && (x1.den == 1)) = true then
        if r2.2 = 0 then
          some ((r2.1.num == 1) && (r2.1.den == 3))
        else
          some false
      else
        some false
    else
      some false
  else
    some false
def law01_Long (a0 : Survey) : Option Bool :=
  some (decide ((100 : Int) < ((a0.readings.length : Int))))
def ref01_within (a0 : Int) (a1 : Int) (a2 : Int) : Option Bool :=
  if a1 ≤ a0 then
    some (decide (a0 ≤ a2))
  else
    some false
def ref01_Validate_k1 : Option Int :=
  some ((0 : Int))
def ref01_Validate_k2 (t3_1 : Int) (rec1 : Int → Option Int) (t59_1 : Bool) : Option Int :=
  if t59_1 = true then
    some ((1 : Int))
  else
    gd (InR (t3_1 + 1)) <|
    rec1 ((t3_1 + 1))
def ref01_Validate_B1 (a0 : Survey) (rec1 : Int → Option Int) (t3_1 : Int) : Option Int :=
  if t3_1 < ((a0.readings.length : Int)) then
    ix a0.readings t3_1 fun x1 =>
    gd (InR (a0.points - 1)) <|
    bnd (ref01_within x1.from_ ((0 : Int)) (a0.points - 1)) fun r1 =>
    if r1 = true then
      gd (InR (a0.points - 1)) <|
      bnd (ref01_within x1.to_ ((0 : Int)) (a0.points - 1)) fun r2 =>
      if r2 = true then
        if x1.from_ = x1.to_ then
          ref01_Validate_k2 t3_1 rec1 true
        else
          bnd (ref01_within x1.rise ((-1000 : Int)) ((1000 : Int))) fun r3 =>
          if r3 = true then
            bnd (ref01_within x1.weight ((1 : Int)) ((3 : Int))) fun r4 =>
            ref01_Validate_k2 t3_1 rec1 ((!r4))
          else
            ref01_Validate_k2 t3_1 rec1 true
      else
        ref01_Validate_k2 t3_1 rec1 true
    else
      ref01_Validate_k2 t3_1 rec1 true
  else
    ref01_Validate_k1
def ref01_Validate_L1 (a0 : Survey) : Nat → Int → Option Int
  | 0, _ => none
  | n_ + 1, t3_1 => ref01_Validate_B1 a0 (ref01_Validate_L1 a0 n_) t3_1
theorem ref01_Validate_L1_s {a0 : Survey} {m_ : Nat} {t3_1 : Int} {res : Int} (h : ref01_Validate_L1 a0 m_ t3_1 = some res) : ∃ k, m_ = k + 1 ∧ ref01_Validate_B1 a0 (ref01_Validate_L1 a0 k) t3_1 = some res := by
  cases m_ with
  | zero => cases h
  | succ k => exact ⟨k, rfl, h⟩
def ref01_Validate (a0 : Survey) : Option Int :=
  bnd (ref01_within a0.points ((1 : Int)) ((5 : Int))) fun r5 =>
  if r5 = true then
    if (8 : Int) < ((a0.readings.length : Int)) then
      some ((3 : Int))
    else
      ref01_Validate_L1 a0 FU (((0 : Int)))
  else
    some ((1 : Int))
end Go.D1

set_option linter.unusedVariables false
namespace Go.D1
open Go.Tb
def level_byTree_k1 (l1 : List Int) : Option ((List Int)) :=
  some l1
def level_byTree_k2 (t39_1 : Int) (rec1 : Int → (List Int) → (List Bool) → Option ((List Int))) (l2 : List Int) (l3 : List Bool) : Option ((List Int)) :=
  gd (InR (t39_1 + 1)) <|
  rec1 ((t39_1 + 1)) l2 l3
def level_byTree_k3 (t43_1 : Int) (rec2 : Int → (List Int) → (List Bool) → Option ((List Int))) (l4 : List Int) (l5 : List Bool) : Option ((List Int)) :=
  gd (InR (t43_1 + 1)) <|
  rec2 ((t43_1 + 1)) l4 l5
def level_byTree_k4 (t43_1 : Int) (l6 : List Int) (l7 : List Bool) (rec2 : Int → (List Int) → (List Bool) → Option ((List Int))) (x1 : Reading) (t82_1 : Bool) : Option ((List Int)) :=
  if t82_1 = true then
    ix l6 x1.to_ fun x2 =>
    gd (InR (x2 - x1.rise)) <|
    ix l6 x1.from_ fun x3 =>
    ix l7 x1.from_ fun x4 =>
    level_byTree_k3 t43_1 rec2 (((l6.set (Int.toNat x1.from_) (x2 - x1.rise)))) (((l7.set (Int.toNat x1.from_) true)))
  else
    level_byTree_k3 t43_1 rec2 l6 l7
def level_byTree_k5 (t43_1 : Int) (l6 : List Int) (l7 : List Bool) (rec2 : Int → (List Int) → (List Bool) → Option ((List Int))) (x1 : Reading) (t52_1 : Bool) : Option ((List Int)) :=
  if t52_1 = true then
    ix l6 x1.from_ fun x5 =>
    gd (InR (x5 + x1.rise)) <|
    ix l6 x1.to_ fun x6 =>
    ix l7 x1.to_ fun x7 =>
    level_byTree_k3 t43_1 rec2 (((l6.set (Int.toNat x1.to_) (x5 + x1.rise)))) (((l7.set (Int.toNat x1.to_) true)))
  else
    ix l7 x1.to_ fun x8 =>
    if x8 = true then
      ix l7 x1.from_ fun x9 =>
      level_byTree_k4 t43_1 l6 l7 rec2 x1 ((!x9))
    else
      level_byTree_k4 t43_1 l6 l7 rec2 x1 false
def level_byTree_B1 (a0 : Survey) (r1 : (List Int) × (List Int)) (t39_1 : Int) (rec1 : Int → (List Int) → (List Bool) → Option ((List Int))) (rec2 : Int → (List Int) → (List Bool) → Option ((List Int))) (t43_1 : Int) (l6 : List Int) (l7 : List Bool) : Option ((List Int)) :=
  if t43_1 < ((r1.2.length : Int)) then
    ix r1.2 t43_1 fun x10 =>
    ix a0.readings x10 fun x1 =>
    ix l7 x1.from_ fun x11 =>
    if x11 = true then
      ix l7 x1.to_ fun x12 =>
      level_byTree_k5 t43_1 l6 l7 rec2 x1 ((!x12))
    else
      level_byTree_k5 t43_1 l6 l7 rec2 x1 false
  else
    level_byTree_k2 t39_1 rec1 l6 l7
def level_byTree_L1 (a0 : Survey) (r1 : (List Int) × (List Int)) (t39_1 : Int) (rec1 : Int → (List Int) → (List Bool) → Option ((List Int))) : Nat → Int → (List Int) → (List Bool) → Option ((List Int))
  | 0, _, _, _ => none
  | n_ + 1, t43_1, l6, l7 => level_byTree_B1 a0 r1 t39_1 rec1 (level_byTree_L1 a0 r1 t39_1 rec1 n_) t43_1 l6 l7
theorem level_byTree_L1_s {a0 : Survey} {r1 : (List Int) × (List Int)} {t39_1 : Int} {rec1 : Int → (List Int) → (List Bool) → Option ((List Int))} {m_ : Nat} {t43_1 : Int} {l6 : List Int} {l7 : List Bool} {res : (List Int)} (h : level_byTree_L1 a0 r1 t39_1 rec1 m_ t43_1 l6 l7 = some res) : ∃ k, m_ = k + 1 ∧ level_byTree_B1 a0 r1 t39_1 rec1 (level_byTree_L1 a0 r1 t39_1 rec1 k) t43_1 l6 l7 = some res := by
  cases m_ with
  | zero => cases h
  | succ k => exact ⟨k, rfl, h⟩
def level_byTree_B2 (a0 : Survey) (r1 : (List Int) × (List Int)) (rec1 : Int → (List Int) → (List Bool) → Option ((List Int))) (t39_1 : Int) (l8 : List Int) (l9 : List Bool) : Option ((List Int)) :=
  if t39_1 < ((r1.2.length : Int)) then
    level_byTree_L1 a0 r1 t39_1 rec1 FU (((0 : Int))) l8 l9
  else
    level_byTree_k1 l8
def level_byTree_L2 (a0 : Survey) (r1 : (List Int) × (List Int)) : Nat → Int → (List Int) → (List Bool) → Option ((List Int))
  | 0, _, _, _ => none
  | n_ + 1, t39_1, l8, l9 => level_byTree_B2 a0 r1 (level_byTree_L2 a0 r1 n_) t39_1 l8 l9
theorem level_byTree_L2_s {a0 : Survey} {r1 : (List Int) × (List Int)} {m_ : Nat} {t39_1 : Int} {l8 : List Int} {l9 : List Bool} {res : (List Int)} (h : level_byTree_L2 a0 r1 m_ t39_1 l8 l9 = some res) : ∃ k, m_ = k + 1 ∧ level_byTree_B2 a0 r1 (level_byTree_L2 a0 r1 k) t39_1 l8 l9 = some res := by
  cases m_ with
  | zero => cases h
  | succ k => exact ⟨k, rfl, h⟩
def level_byTree_k6 (a0 : Survey) (r1 : (List Int) × (List Int)) (l10 : List Int) (l11 : List Bool) : Option ((List Int)) :=
  level_byTree_L2 a0 r1 FU (((0 : Int))) l10 l11
def level_byTree_B3 (a0 : Survey) (r1 : (List Int) × (List Int)) (l10 : List Int) (rec3 : Int → (List Bool) → Option ((List Int))) (t24_1 : Int) (l12 : List Bool) : Option ((List Int)) :=
  if t24_1 < ((r1.1.length : Int)) then
    ix r1.1 t24_1 fun x13 =>
    ix l12 t24_1 fun x14 =>
    gd (InR (t24_1 + 1)) <|
    rec3 ((t24_1 + 1)) (((l12.set (Int.toNat t24_1) (decide (x13 = t24_1)))))
  else
    level_byTree_k6 a0 r1 l10 l12
def level_byTree_L3 (a0 : Survey) (r1 : (List Int) × (List Int)) (l10 : List Int) : Nat → Int → (List Bool) → Option ((List Int))
  | 0, _, _ => none
  | n_ + 1, t24_1, l12 => level_byTree_B3 a0 r1 l10 (level_byTree_L3 a0 r1 l10 n_) t24_1 l12
theorem level_byTree_L3_s {a0 : Survey} {r1 : (List Int) × (List Int)} {l10 : List Int} {m_ : Nat} {t24_1 : Int} {l12 : List Bool} {res : (List Int)} (h : level_byTree_L3 a0 r1 l10 m_ t24_1 l12 = some res) : ∃ k, m_ = k + 1 ∧ level_byTree_B3 a0 r1 l10 (level_byTree_L3 a0 r1 l10 k) t24_1 l12 = some res := by
  cases m_ with
  | zero => cases h
  | succ k => exact ⟨k, rfl, h⟩
def level_byTree_k7 (a0 : Survey) (r1 : (List Int) × (List Int)) (l10 : List Int) (l13 : List Bool) : Option ((List Int)) :=
  level_byTree_L3 a0 r1 l10 FU (((0 : Int))) l13
def level_byTree (a0 : Survey) : Option ((List Int)) :=
  bnd (level_forest a0) fun r1 =>
  gd (0 ≤ a0.points ∧ a0.points ≤ 1000000) <|
  gd (0 ≤ a0.points ∧ a0.points ≤ 1000000) <|
  level_byTree_k7 a0 r1 (((List.replicate (Int.toNat a0.points) (0 : Int)))) (((List.replicate (Int.toNat a0.points) (false : Bool))))
end Go.D1

set_option linter.unusedVariables false
namespace Go.D1
open Go.Tb
def level_closures_k1 (l1 : List Int) : Option ((List Int)) :=
  some l1
def level_closures_B1 (a0 : Survey) (r1 : (List Int)) (rec1 : Int → (List Int) → Option ((List Int))) (t12_1 : Int) (l2 : List Int) : Option ((List Int)) :=
  if t12_1 < ((a0.readings.length : Int)) then
    ix a0.readings t12_1 fun x1 =>
    ix r1 x1.to_ fun x2 =>
    gd (InR (x1.rise - x2)) <|
    ix r1 x1.from_ fun x3 =>
    gd (InR ((x1.rise - x2) + x3)) <|
    gd (l2.length + (([(x1.rise - x2) + x3] : List Int)).length ≤ 1000000) <|
    gd (InR (t12_1 + 1)) <|
    rec1 ((t12_1 + 1)) (((l2 ++ ([(x1.rise - x2) + x3] : List Int))))
  else
    level_closures_k1 l2
def level_closures_L1 (a0 : Survey) (r1 : (List Int)) : Nat → Int → (List Int) → Option ((List Int))
  | 0, _, _ => none
  | n_ + 1, t12_1, l2 => level_closures_B1 a0 r1 (level_closures_L1 a0 r1 n_) t12_1 l2
theorem level_closures_L1_s {a0 : Survey} {r1 : (List Int)} {m_ : Nat} {t12_1 : Int} {l2 : List Int} {res : (List Int)} (h : level_closures_L1 a0 r1 m_ t12_1 l2 = some res) : ∃ k, m_ = k + 1 ∧ level_closures_B1 a0 r1 (level_closures_L1 a0 r1 k) t12_1 l2 = some res := by
  cases m_ with
  | zero => cases h
  | succ k => exact ⟨k, rfl, h⟩
def level_closures (a0 : Survey) : Option ((List Int)) :=
  bnd (level_byTree a0) fun r1 =>
  level_closures_L1 a0 r1 FU (((0 : Int))) ((([] : List Int)))
def slices_IndexFunc_int_k1 : Option Int :=
  some ((-1 : Int))
def slices_IndexFunc_int_B1 (a0 : List Int) (a1 : Int → Option Bool) (rec1 : Int → Option Int) (t8_1 : Int) : Option Int :=
  if t8_1 < ((a0.length : Int)) then
    ix a0 t8_1 fun x1 =>
    bnd (a1 x1) fun r1 =>
    if r1 = true then
      some t8_1
    else
      gd (InR (t8_1 + 1)) <|
      rec1 ((t8_1 + 1))
  else
    slices_IndexFunc_int_k1
def slices_IndexFunc_int_L1 (a0 : List Int) (a1 : Int → Option Bool) : Nat → Int → Option Int
  | 0, _ => none
  | n_ + 1, t8_1 => slices_IndexFunc_int_B1 a0 a1 (slices_IndexFunc_int_L1 a0 a1 n_) t8_1
theorem slices_IndexFunc_int_L1_s {a0 : List Int} {a1 : Int → Option Bool} {m_ : Nat} {t8_1 : Int} {res : Int} (h : slices_IndexFunc_int_L1 a0 a1 m_ t8_1 = some res) : ∃ k, m_ = k + 1 ∧ slices_IndexFunc_int_B1 a0 a1 (slices_IndexFunc_int_L1 a0 a1 k) t8_1 = some res := by
  cases m_ with
  | zero => cases h
  | succ k => exact ⟨k, rfl, h⟩
def slices_IndexFunc_int (a0 : List Int) (a1 : Int → Option Bool) : Option Int :=
  slices_IndexFunc_int_L1 a0 a1 FU (((0 : Int)))
def slices_ContainsFunc_int (a0 : List Int) (a1 : Int → Option Bool) : Option Bool :=
  bnd (slices_IndexFunc_int a0 a1) fun r1 =>
  some (decide ((0 : Int) ≤ r1))
def level_IsTrue_1 (a0 : Int) : Option Bool :=
  some (!(decide (a0 = 0)))
def level_IsTrue (a0 : Survey) : Option (Bool × Int) :=
  bnd (level_Validate a0) fun r1 =>
  if r1 = 0 then
    bnd (level_closures a0) fun r2 =>
    bnd (slices_ContainsFunc_int r2 level_IsTrue_1) fun r3 =>
    some (!r3, (0 : Int))
  else
    some (false, r1)
end Go.D1

set_option linter.unusedVariables false
namespace Go.D1
open Go.Tb
def ref01_Walk_k1 (t11_1 : Int) (t12_1 : Int) : Option (Int × Int × Int) :=
  some (t11_1, t12_1, (0 : Int))
def ref01_Walk_k2 (t11_2 : Int) (t12_2 : Int) (t13_1 : Int) (rec1 : Int → Int → Int → Option (Int × Int × Int)) (c1_0_1 : Int) (c1_1_1 : Int) (c1_2_1 : Int) (c1_3_1 : Int) : Option (Int × Int × Int) :=
  if c1_0_1 = t11_2 then
    gd (InR (t12_2 + c1_2_1)) <|
    gd (InR (t13_1 + 1)) <|
    rec1 c1_1_1 ((t12_2 + c1_2_1)) ((t13_1 + 1))
  else
    some ((0 : Int), (0 : Int), (9 : Int))
def ref01_Walk_B1 (a0 : Survey) (a2 : List Int) (rec1 : Int → Int → Int → Option (Int × Int × Int)) (t11_2 : Int) (t12_2 : Int) (t13_1 : Int) : Option (Int × Int × Int) :=
  if t13_1 < ((a2.length : Int)) then
    ix a2 t13_1 fun x1 =>
    ix a2 t13_1 fun x2 =>
    gd (InR (-x2)) <|
    gd (InR ((max x1 (-x2)) - 1)) <|
    ix a0.readings ((max x1 (-x2)) - 1) fun x3 =>
    ix a2 t13_1 fun x4 =>
    if x4 < 0 then
      gd (InR (-x3.rise)) <|
      ref01_Walk_k2 t11_2 t12_2 t13_1 rec1 x3.to_ x3.from_ ((-x3.rise)) (((0 : Int)))
    else
      ref01_Walk_k2 t11_2 t12_2 t13_1 rec1 x3.from_ x3.to_ x3.rise x3.weight
  else
    ref01_Walk_k1 t11_2 t12_2
def ref01_Walk_L1 (a0 : Survey) (a2 : List Int) : Nat → Int → Int → Int → Option (Int × Int × Int)
  | 0, _, _, _ => none
  | n_ + 1, t11_2, t12_2, t13_1 => ref01_Walk_B1 a0 a2 (ref01_Walk_L1 a0 a2 n_) t11_2 t12_2 t13_1
theorem ref01_Walk_L1_s {a0 : Survey} {a2 : List Int} {m_ : Nat} {t11_2 : Int} {t12_2 : Int} {t13_1 : Int} {res : Int × Int × Int} (h : ref01_Walk_L1 a0 a2 m_ t11_2 t12_2 t13_1 = some res) : ∃ k, m_ = k + 1 ∧ ref01_Walk_B1 a0 a2 (ref01_Walk_L1 a0 a2 k) t11_2 t12_2 t13_1 = some res := by
  cases m_ with
  | zero => cases h
  | succ k => exact ⟨k, rfl, h⟩
def ref01_Walk_k3 (a0 : Survey) (a1 : Int) (a2 : List Int) : Option (Int × Int × Int) :=
  ref01_Walk_L1 a0 a2 FU a1 (((0 : Int))) (((0 : Int)))
def ref01_Walk_k4 (t10_1 : Int) (rec2 : Int → Option (Int × Int × Int)) (t54_1 : Bool) : Option (Int × Int × Int) :=
  if t54_1 = true then
    some ((0 : Int), (0 : Int), (4 : Int))
  else
    gd (InR (t10_1 + 1)) <|
    rec2 ((t10_1 + 1))
def ref01_Walk_B2 (a0 : Survey) (a1 : Int) (a2 : List Int) (rec2 : Int → Option (Int × Int × Int)) (t10_1 : Int) : Option (Int × Int × Int) :=
  if t10_1 < ((a2.length : Int)) then
    ix a2 t10_1 fun x5 =>
    if x5 = 0 then
      ref01_Walk_k4 t10_1 rec2 true
    else
      ix a2 t10_1 fun x6 =>
      gd (InR (-((a0.readings.length : Int)))) <|
      bnd (ref01_within x6 (-((a0.readings.length : Int))) ((a0.readings.length : Int))) fun r1 =>
      ref01_Walk_k4 t10_1 rec2 ((!r1))
  else
    ref01_Walk_k3 a0 a1 a2
def ref01_Walk_L2 (a0 : Survey) (a1 : Int) (a2 : List Int) : Nat → Int → Option (Int × Int × Int)
  | 0, _ => none
  | n_ + 1, t10_1 => ref01_Walk_B2 a0 a1 a2 (ref01_Walk_L2 a0 a1 a2 n_) t10_1
theorem ref01_Walk_L2_s {a0 : Survey} {a1 : Int} {a2 : List Int} {m_ : Nat} {t10_1 : Int} {res : Int × Int × Int} (h : ref01_Walk_L2 a0 a1 a2 m_ t10_1 = some res) : ∃ k, m_ = k + 1 ∧ ref01_Walk_B2 a0 a1 a2 (ref01_Walk_L2 a0 a1 a2 k) t10_1 = some res := by
  cases m_ with
  | zero => cases h
  | succ k => exact ⟨k, rfl, h⟩
def ref01_Walk (a0 : Survey) (a1 : Int) (a2 : List Int) : Option (Int × Int × Int) :=
  bnd (ref01_Validate a0) fun r2 =>
  if r2 = 0 then
    gd (InR (a0.points - 1)) <|
    bnd (ref01_within a1 ((0 : Int)) (a0.points - 1)) fun r3 =>
    if r3 = true then
      if (20 : Int) < ((a2.length : Int)) then
        some ((0 : Int), (0 : Int), (3 : Int))
      else
        ref01_Walk_L2 a0 a1 a2 FU (((0 : Int)))
    else
      some ((0 : Int), (0 : Int), (4 : Int))
  else
    some ((0 : Int), (0 : Int), r2)
end Go.D1

namespace Go.Open1
open Go.Tb Go.Proofs Go.ChangeShapes Go.WideShapes Go.ChangeAt Go.RowKit Go.Joins Go.D1
theorem own_ : ownKnob Try.prog.godebug = none := by kernel_rfl
theorem laidOut_ : laidOutB Try.prog = true := by kernel_rfl
theorem cells24_ : Try.prog.cellsOf 24 = 2 := by kernel_rfl
theorem cells46_ : Try.prog.cellsOf 46 = 4 := by kernel_rfl
section
variable {H : Type} {enc : TypeId × Value → H} {W : World} {sp : Nat → Bool} {held : Bool} {r : Reach} {b0 base : Nat} {v : Value} {d : DataW H} {p : List MemPlace}
theorem trod_lt_ {t : TypeId} (h : DataW.Trod enc Try.prog W base sp held t v d p) : ∀ x ∈ p, x.block < W.heap.size := by obtain ⟨m, hm⟩ := h; exact DataW.trod_lt m _ _ _ hm
theorem open_readings {fuel : Nat} {c1 : Value} {y : DataW H × List MemPlace} (h : DataW.trod enc Try.prog W base sp held fuel 22 [c1] = some y) : ∃ (l : List Reading) (A : Option Addr) (c : Nat), c1 = .slice A l.length c ∧ Sl W A c 4 (l.map encReading) := by
  rcases open_rows Try.underlying22 Try.underlying46 (by kernel_rfl) cells46_ h with hcs | ⟨a, len, cap, hcs, hl, hm, hi⟩
  · simp at hcs; subst hcs
    exact ⟨[], none, 0, rfl, Sl.nil (by omega)⟩
  · simp at hcs; subst hcs
    obtain ⟨l, hlen, hl2⟩ := ex_list (Q := fun i (x : Reading) => ∀ (j : Nat) (u : Value), (encReading x)[j]? = some u → W.cell? (a.add (i * 4 + j)) = some u) len (fun i hilt => by
      obtain ⟨v0, y0, n0, h0, t0⟩ := hi i hilt 0 _ rfl
      obtain ⟨v1, y1, n1, h1, t1⟩ := hi i hilt 1 _ rfl
      obtain ⟨v2, y2, n2, h2, t2⟩ := hi i hilt 2 _ rfl
      obtain ⟨v3, y3, n3, h3, t3⟩ := hi i hilt 3 _ rfl
      obtain ⟨z0, e0, _, _⟩ := DataW.trod_int Try.underlying3 t0
      obtain ⟨z1, e1, _, _⟩ := DataW.trod_int Try.underlying3 t1
      obtain ⟨z2, e2, _, _⟩ := DataW.trod_int Try.underlying3 t2
      obtain ⟨z3, e3, _, _⟩ := DataW.trod_int Try.underlying3 t3
      simp at e0 e1 e2 e3
      subst e0 e1 e2 e3
      refine ⟨⟨z0, z1, z2, z3⟩, fun j u hu => ?_⟩
      match j, hu with
      | 0, hu => cases hu; exact h0
      | 1, hu => cases hu; exact h1
      | 2, hu => cases hu; exact h2
      | 3, hu => cases hu; exact h3)
    subst hlen
    exact ⟨l, some a, cap, rfl, Sl.mk_ hl hm (fun _ => rfl) rfl hl2⟩
set_option maxRecDepth 100000 in
theorem open_ints_ (hv : Value.okWide Try.prog W r b0 39 v) (h : DataW.Trod enc Try.prog W base sp held 39 v d p) : ∃ (l : List Int) (A : Option Addr) (c : Nat), v = .slice A l.length c ∧ Sl W A c 1 (l.map encN) := by
  obtain ⟨a0, len0, cap0, rfl⟩ := okWide_slice Try.underlying39 hv
  obtain ⟨fuel, hf⟩ := h
  rcases open_ints Try.underlying39 Try.underlying3 (by kernel_rfl) hf with ⟨hcs, _⟩ | ⟨x, l, c, zs, hcs, _, hl, hm, hz, _, hcell, hwz⟩
  · simp [Value.cells] at hcs
    obtain ⟨rfl, rfl, rfl⟩ := hcs
    exact ⟨[], none, 0, rfl, Sl.nil (by omega)⟩
  · simp [Value.cells] at hcs
    obtain ⟨rfl, rfl, rfl⟩ := hcs
    have hzl : len0 ≤ zs.length := by rw [hz]; split <;> omega
    have htl : (zs.take len0).length = len0 := by simp; omega
    refine ⟨zs.take len0, some x, cap0, by rw [htl], ?_⟩
    · refine Sl.mk_ (len := (zs.take len0).length) (by rw [htl]; exact hl) hm (fun _ => rfl) rfl (fun i z hi j u hu => ?_)
      cases j with
      | zero =>
        cases hu
        have hlt := lt_of_at hi
        simp at hlt
        have h2 := hcell i (by omega)
        simp only [List.getElem?_take] at hi
        split at hi
        · simp [List.getD, hi] at h2; simpa using h2
        · cases hi
      | succ j => simp [encN] at hu
set_option maxRecDepth 100000 in
theorem open_survey (hv : Value.okWide Try.prog W r b0 24 v) (h : DataW.Trod enc Try.prog W base sp held 24 v d p) : ∃ (n : Survey) (A : Option Addr) (cc : Nat), v = .agg #[.int .i64 n.points, .slice A n.readings.length cc] ∧ Sl W A cc 4 (n.readings.map encReading) := by
  obtain ⟨c0, c1, y0, y1, m, rfl, _, _, hy0, hy1⟩ := open_agg2 Try.underlying24 (by kernel_rfl) cells24_ hv h
  obtain ⟨a, e0, _, _⟩ := DataW.trod_int Try.underlying3 hy0
  simp at e0; subst e0
  obtain ⟨l, A, c', rfl, hs⟩ := open_readings hy1
  exact ⟨⟨a, l⟩, A, c', rfl, hs⟩
end
end Go.Open1

namespace Go.Tb
/-- A loop over 0 .. N - 1 with a state, that is left at the first i for which p does not hold. -/
theorem scan_loop {S R : Type} (N : Nat) (p : Nat → Bool) (g : Nat → S) (L : Nat → S → Int → Option R) (yes : Option R) (no : Nat → Option R)
    (step : ∀ n i : Nat, i < N → L (n + 1) (g i) (i : Int) = if p i = true then L n (g (i + 1)) ((i + 1 : Nat) : Int) else no i)
    (stop : ∀ n : Nat, L (n + 1) (g N) (N : Int) = yes) : ∀ (d n i : Nat), N = i + d → d < n → L n (g i) (i : Int) = match (List.range' i d).find? (fun j => !p j) with | none => yes | some j => no j
  | 0, n + 1, i, hd, hn => by
    have hi : i = N := by omega
    subst hi
    rw [stop n]; rfl
  | d + 1, n + 1, i, hd, hn => by
    rw [step n i (by omega), List.range'_succ, List.find?_cons]
    cases hp : p i
    · simp
    · simp only [if_true, Bool.not_true]
      exact scan_loop N p g L yes no step stop d n (i + 1) (by omega) (by omega)
theorem find_all {p : Nat → Bool} {i d : Nat} : (List.range' i d).find? (fun j => !p j) = none ↔ ∀ j, i ≤ j → j < i + d → p j = true := by
  rw [List.find?_eq_none]
  constructor
  · intro h j h1 h2
    have := h j (by rw [List.mem_range'_1]; omega)
    simpa using this
  · intro h x hx
    rw [List.mem_range'_1] at hx
    simp [h x hx.1 hx.2]
/-- A loop over 0 .. N - 1 with a state and no way out. -/
theorem for_loop {S R : Type} (N : Nat) (g : Nat → S) (L : Nat → S → Int → Option R) (yes : Option R)
    (step : ∀ n i : Nat, i < N → L (n + 1) (g i) (i : Int) = L n (g (i + 1)) ((i + 1 : Nat) : Int))
    (stop : ∀ n : Nat, L (n + 1) (g N) (N : Int) = yes) : ∀ (d n i : Nat), N = i + d → d < n → L n (g i) (i : Int) = yes
  | 0, n + 1, i, hd, hn => by
    have hi : i = N := by omega
    subst hi
    exact stop n
  | d + 1, n + 1, i, hd, hn => by
    rw [step n i (by omega)]
    exact for_loop N g L yes step stop d n (i + 1) (by omega) (by omega)
theorem for_loop0 {S R : Type} (N : Nat) (g : Nat → S) (L : Nat → S → Int → Option R) (yes : Option R)
    (step : ∀ n i : Nat, i < N → L (n + 1) (g i) (i : Int) = L n (g (i + 1)) ((i + 1 : Nat) : Int))
    (stop : ∀ n : Nat, L (n + 1) (g N) (N : Int) = yes) (hN : N ≤ 9223372036854775807) : L FU (g 0) 0 = yes :=
  for_loop N g L yes step stop N FU 0 (by omega) (by have := FU_pos; omega)
theorem scan_loop0 {S R : Type} (N : Nat) (p : Nat → Bool) (g : Nat → S) (L : Nat → S → Int → Option R) (yes no : Option R)
    (step : ∀ n i : Nat, i < N → L (n + 1) (g i) (i : Int) = if p i = true then L n (g (i + 1)) ((i + 1 : Nat) : Int) else no)
    (stop : ∀ n : Nat, L (n + 1) (g N) (N : Int) = yes) (hN : N ≤ 9223372036854775807) : L FU (g 0) 0 = if (∀ j, j < N → p j = true) then yes else no := by
  have h := scan_loop N p g L yes (fun _ => no) step stop N FU 0 (by omega) (by have := FU_pos; omega)
  refine Eq.trans h ?_
  cases hf : (List.range' 0 N).find? (fun j => !p j) with
  | none => rw [if_pos (fun j hj => find_all.1 hf j (by omega) (by omega))]
  | some j =>
    have h1 := List.find?_some hf
    have h2 := List.mem_of_find?_eq_some hf
    rw [List.mem_range'_1] at h2
    rw [if_neg]
    intro hall
    have := hall j (by omega)
    simp [this] at h1
/-- The same over the elements of a list. -/
theorem list_loop0 {α R : Type} (l : List α) (p : α → Bool) (L : Nat → Int → Option R) (yes no : Option R)
    (step : ∀ (n i : Nat) (x : α), l[i]? = some x → L (n + 1) (i : Int) = if p x = true then L n ((i + 1 : Nat) : Int) else no)
    (stop : ∀ n : Nat, L (n + 1) (l.length : Int) = yes) (hl : l.length ≤ 9223372036854775807) : L FU 0 = if l.all p = true then yes else no := by
  have h := scan_loop0 l.length (fun i => (l[i]?.map p).getD true) (fun _ => ()) (fun n _ i => L n i) yes no (fun n i hi => by
    have hx : l[i]? = some l[i] := by simp [hi]
    rw [step n i _ hx]; simp [hx]) stop hl
  refine Eq.trans h ?_
  by_cases ha : l.all p = true
  · rw [if_pos ha, if_pos]
    intro j hj
    have := List.all_eq_true.1 ha l[j] (List.getElem_mem hj)
    simp [hj, this]
  · rw [if_neg ha, if_neg]
    intro hc
    refine ha (List.all_eq_true.2 fun x hx => ?_)
    obtain ⟨j, hj⟩ := List.getElem?_of_mem hx
    have := hc j (lt_of_at hj)
    simpa [hj] using this
end Go.Tb

set_option linter.unusedVariables false
set_option linter.unusedSimpArgs false
namespace Go.D1
open Go.Tb
theorem known_eq : law01_known = some true := by decide +kernel
theorem for0 {S R : Type} (N : Nat) (g : Nat → S) (L : Nat → S → Int → Option R) (yes : Option R) {s0 : S} (h0 : g 0 = s0)
    (step : ∀ n i : Nat, i < N → L (n + 1) (g i) (i : Int) = L n (g (i + 1)) ((i + 1 : Nat) : Int))
    (stop : ∀ n : Nat, L (n + 1) (g N) (N : Int) = yes) (hN : N ≤ 9223372036854775807) : L FU s0 0 = yes := by
  rw [← h0]; exact for_loop0 N g L yes step stop hN
def gi (l : List Int) (i : Nat) : Int := l.getD i 0
theorem gi_at {l : List Int} {i : Nat} (h : i < l.length) : l[i]? = some (gi l i) := by simp [gi, List.getD, h]
theorem gi_of {l : List Int} {i : Nat} {x : Int} (h : l[i]? = some x) : gi l i = x := by simp [gi, List.getD, h]
theorem gi_set {l : List Int} {i j : Nat} {x : Int} : gi (l.set i x) j = if i = j ∧ j < l.length then x else gi l j := by
  unfold gi
  simp only [List.getD_eq_getElem?_getD, List.getElem?_set]
  by_cases h : i = j
  · subst h
    by_cases h2 : i < l.length
    · simp [h2]
    · simp [h2]
  · simp [h]
def within (n lo hi : Int) : Bool := decide (lo ≤ n) && decide (n ≤ hi)
theorem within_iff {n lo hi : Int} : within n lo hi = true ↔ lo ≤ n ∧ n ≤ hi := by unfold within; simp
theorem lwithin_eq (n lo hi : Int) : level_within n lo hi = some (within n lo hi) := by
  unfold level_within within
  by_cases h : lo ≤ n <;> simp [h]
theorem rwithin_eq (n lo hi : Int) : ref01_within n lo hi = some (within n lo hi) := by
  unfold ref01_within within
  by_cases h : lo ≤ n <;> simp [h]
def okR (s : Survey) (r : Reading) : Bool := within r.from_ 0 (s.points - 1) && within r.to_ 0 (s.points - 1) && !decide (r.from_ = r.to_) && within r.rise (-1000) 1000 && within r.weight 1 3
def validate (s : Survey) : Int := if within s.points 1 5 = true then (if 8 < s.readings.length then 3 else if s.readings.all (okR s) = true then 0 else 1) else 1
theorem Validate_eq (s : Survey) : level_Validate s = some (validate s) := by
  unfold level_Validate validate
  rw [bnd_eq (lwithin_eq _ _ _)]
  by_cases hp : within s.points 1 5 = true
  · have hw := within_iff.1 hp
    rw [if_pos hp, if_pos hp]
    by_cases h8 : 8 < s.readings.length
    · rw [if_pos (by omega), if_pos h8]
    · rw [if_neg (by omega), if_neg h8]
      refine Eq.trans (list_loop0 s.readings (okR s) (level_Validate_L1 s) (some 0) (some 1) (fun k i x hx => ?_) (fun k => ?_) (by omega)) (by split <;> rfl)
      · have := lt_of_at hx
        show level_Validate_B1 s (level_Validate_L1 s k) _ = _
        unfold level_Validate_B1 okR level_Validate_k2
        rw [if_pos (by omega), ix_nat hx, gd_pos (by omega), bnd_eq (lwithin_eq _ _ _)]
        cases h1 : within x.from_ 0 (s.points - 1)
        · rw [if_neg (by simp), if_pos rfl]; rfl
        · rw [if_pos rfl, gd_pos (by omega), bnd_eq (lwithin_eq _ _ _)]
          cases h2 : within x.to_ 0 (s.points - 1)
          · rw [if_neg (by simp), if_pos rfl]; rfl
          · rw [if_pos rfl]
            by_cases h3 : x.from_ = x.to_
            · rw [if_pos h3, if_pos rfl, decide_eq_true h3]; rfl
            · rw [if_neg h3, decide_eq_false h3, bnd_eq (lwithin_eq _ _ _)]
              cases h4 : within x.rise (-1000) 1000
              · rw [if_neg (by simp), if_pos rfl]; rfl
              · rw [if_pos rfl, bnd_eq (lwithin_eq _ _ _)]
                cases h5 : within x.weight 1 3
                · rw [if_pos (by rfl)]; rfl
                · rw [if_neg (by simp), gd_pos (by omega)]; rfl
      · show level_Validate_B1 s (level_Validate_L1 s k) _ = _
        unfold level_Validate_B1
        rw [if_neg (by omega)]; rfl
  · rw [if_neg hp, if_neg hp]
theorem rValidate_eq (s : Survey) : ref01_Validate s = some (validate s) := by
  unfold ref01_Validate validate
  rw [bnd_eq (rwithin_eq _ _ _)]
  by_cases hp : within s.points 1 5 = true
  · have hw := within_iff.1 hp
    rw [if_pos hp, if_pos hp]
    by_cases h8 : 8 < s.readings.length
    · rw [if_pos (by omega), if_pos h8]
    · rw [if_neg (by omega), if_neg h8]
      refine Eq.trans (list_loop0 s.readings (okR s) (ref01_Validate_L1 s) (some 0) (some 1) (fun k i x hx => ?_) (fun k => ?_) (by omega)) (by split <;> rfl)
      · have := lt_of_at hx
        show ref01_Validate_B1 s (ref01_Validate_L1 s k) _ = _
        unfold ref01_Validate_B1 okR ref01_Validate_k2
        rw [if_pos (by omega), ix_nat hx, gd_pos (by omega), bnd_eq (rwithin_eq _ _ _)]
        cases h1 : within x.from_ 0 (s.points - 1)
        · rw [if_neg (by simp), if_pos rfl]; rfl
        · rw [if_pos rfl, gd_pos (by omega), bnd_eq (rwithin_eq _ _ _)]
          cases h2 : within x.to_ 0 (s.points - 1)
          · rw [if_neg (by simp), if_pos rfl]; rfl
          · rw [if_pos rfl]
            by_cases h3 : x.from_ = x.to_
            · rw [if_pos h3, if_pos rfl, decide_eq_true h3]; rfl
            · rw [if_neg h3, decide_eq_false h3, bnd_eq (rwithin_eq _ _ _)]
              cases h4 : within x.rise (-1000) 1000
              · rw [if_neg (by simp), if_pos rfl]; rfl
              · rw [if_pos rfl, bnd_eq (rwithin_eq _ _ _)]
                cases h5 : within x.weight 1 3
                · rw [if_pos (by rfl)]; rfl
                · rw [if_neg (by simp), gd_pos (by omega)]; rfl
      · show ref01_Validate_B1 s (ref01_Validate_L1 s k) _ = _
        unfold ref01_Validate_B1
        rw [if_neg (by omega)]; rfl
  · rw [if_neg hp, if_neg hp]
structure SvOk (s : Survey) : Prop where
  p1 : 1 ≤ s.points
  p5 : s.points ≤ 5
  len : s.readings.length ≤ 8
  rd : ∀ r ∈ s.readings, (0 ≤ r.from_ ∧ r.from_ < s.points) ∧ (0 ≤ r.to_ ∧ r.to_ < s.points) ∧ r.from_ ≠ r.to_ ∧ (-1000 ≤ r.rise ∧ r.rise ≤ 1000) ∧ (1 ≤ r.weight ∧ r.weight ≤ 3)
theorem val0 {s : Survey} : validate s = 0 ↔ SvOk s := by
  unfold validate
  constructor
  · intro h
    split at h
    · rename_i hp
      have hw := within_iff.1 hp
      split at h
      · omega
      · split at h
        · rename_i hall
          refine ⟨hw.1, hw.2, by omega, fun r hr => ?_⟩
          have := List.all_eq_true.1 hall r hr
          unfold okR at this
          simp only [Bool.and_eq_true, within_iff, Bool.not_eq_true', decide_eq_false_iff_not] at this
          omega
        · omega
    · omega
  · intro h
    rw [if_pos (within_iff.2 ⟨h.p1, h.p5⟩), if_neg (by have := h.len; omega), if_pos]
    rw [List.all_eq_true]
    intro r hr
    have := h.rd r hr
    unfold okR
    simp only [Bool.and_eq_true, within_iff, Bool.not_eq_true', decide_eq_false_iff_not]
    omega
theorem Long_eq (s : Survey) : law01_Long s = some (decide ((100 : Int) < (s.readings.length : Int))) := rfl
end Go.D1

set_option linter.unusedVariables false
set_option linter.unusedSimpArgs false
namespace Go.D1
open Go.Tb
def gr (l : List Reading) (i : Nat) : Reading := l.getD i ⟨0, 0, 0, 0⟩
theorem gr_at {l : List Reading} {i : Nat} (h : i < l.length) : l[i]? = some (gr l i) := by simp [gr, List.getD, h]
theorem gr_ok {s : Survey} (h : SvOk s) {i : Nat} (hi : i < s.readings.length) : (0 ≤ (gr s.readings i).from_ ∧ (gr s.readings i).from_ < s.points) ∧ (0 ≤ (gr s.readings i).to_ ∧ (gr s.readings i).to_ < s.points) ∧ (gr s.readings i).from_ ≠ (gr s.readings i).to_ ∧ (-1000 ≤ (gr s.readings i).rise ∧ (gr s.readings i).rise ≤ 1000) ∧ (1 ≤ (gr s.readings i).weight ∧ (gr s.readings i).weight ≤ 3) := h.rd _ (List.mem_of_getElem? (gr_at hi))
/-- Joined by the first j readings. -/
inductive Con (s : Survey) (j : Nat) : Int → Int → Prop where
  | refl (a : Int) : Con s j a a
  | edge {i : Nat} : i < j → i < s.readings.length → Con s j (gr s.readings i).from_ (gr s.readings i).to_
  | symm {a b : Int} : Con s j a b → Con s j b a
  | trans {a b c : Int} : Con s j a b → Con s j b c → Con s j a c
theorem Con.mono {s : Survey} {j k : Nat} (hjk : j ≤ k) {a b : Int} (h : Con s j a b) : Con s k a b := by
  induction h with
  | refl a => exact .refl a
  | edge h1 h2 => exact .edge (by omega) h2
  | symm _ ih => exact ih.symm
  | trans _ _ i1 i2 => exact i1.trans i2
/-- A list that gives the smallest point of each point's part. -/
structure Roots (s : Survey) (j : Nat) (f : List Int) : Prop where
  len : f.length = s.points.toNat
  le : ∀ i, i < f.length → 0 ≤ gi f i ∧ gi f i ≤ i
  con : ∀ i, i < f.length → Con s j (gi f i) (i : Int)
  same : ∀ i, i < j → i < s.readings.length → gi f (gr s.readings i).from_.toNat = gi f (gr s.readings i).to_.toNat
def relab (f : List Int) (a b : Int) : List Int := f.map fun x => if x = max (gi f a.toNat) (gi f b.toNat) then min (gi f a.toNat) (gi f b.toNat) else x
theorem relab_len (f : List Int) (a b : Int) : (relab f a b).length = f.length := by unfold relab; simp
theorem relab_gi {f : List Int} {a b : Int} {i : Nat} (hi : i < f.length) : gi (relab f a b) i = if gi f i = max (gi f a.toNat) (gi f b.toNat) then min (gi f a.toNat) (gi f b.toNat) else gi f i := by
  apply gi_of
  unfold relab
  rw [List.getElem?_map, gi_at hi]; rfl
theorem join_eq {f : List Int} {a b : Int} (hf : f.length ≤ 1000) (ha : 0 ≤ a ∧ a < (f.length : Int)) (hb : 0 ≤ b ∧ b < (f.length : Int)) : level_forest_1 f a b = some (!decide (gi f a.toNat = gi f b.toNat), relab f a b) := by
  have hA : f[a.toNat]? = some (gi f a.toNat) := gi_at (by omega)
  have hB : f[b.toNat]? = some (gi f b.toNat) := gi_at (by omega)
  unfold level_forest_1
  rw [ix_eq ha.1 hA, ix_eq hb.1 hB, ix_eq ha.1 hA, ix_eq hb.1 hB]
  refine Eq.trans (for0 f.length (fun i => (relab f a b).take i ++ f.drop i) (fun k s i => level_forest_1_L1 f (gi f a.toNat) (gi f b.toNat) (gi f a.toNat) (gi f b.toNat) k i s) (some (!decide (gi f a.toNat = gi f b.toNat), relab f a b)) (by simp) (fun k i hi => ?_) (fun k => ?_) (by omega)) rfl
  · show level_forest_1_B1 f _ _ _ _ (level_forest_1_L1 f _ _ _ _ k) _ _ = _
    have hl := relab_len f a b
    have hx : ((relab f a b).take i ++ f.drop i)[i]? = some (gi f i) := by
      rw [List.getElem?_append_right (by rw [List.length_take]; omega), List.length_take, hl, List.getElem?_drop, show i + (i - min i f.length) = i by omega]
      exact gi_at hi
    have hnext : (relab f a b).take (i + 1) ++ f.drop (i + 1) = ((relab f a b).take i ++ f.drop i).set i (gi (relab f a b) i) := by
      rw [List.set_append_right _ _ (by rw [List.length_take]; omega), List.length_take, hl, show i - min i f.length = 0 by omega, List.drop_eq_getElem_cons hi, List.set_cons_zero, List.take_add_one, gi_at (by omega)]
      simp
    unfold level_forest_1_B1 level_forest_1_k2
    rw [if_pos (by omega), ix_nat hx]
    by_cases hm : gi f i = max (gi f a.toNat) (gi f b.toNat)
    · rw [if_pos hm, ix_nat hx, gd_pos (by omega), hnext, relab_gi hi, if_pos hm]; rfl
    · rw [if_neg hm, gd_pos (by omega), hnext, relab_gi hi, if_neg hm]
      have e : ((relab f a b).take i ++ f.drop i).set i (gi f i) = (relab f a b).take i ++ f.drop i := by
        apply List.ext_getElem?
        intro q
        rw [List.getElem?_set]
        by_cases hq : i = q
        · subst hq; rw [if_pos rfl, if_pos (lt_of_at hx), hx]
        · rw [if_neg hq]
      rw [e]; rfl
  · show level_forest_1_B1 f _ _ _ _ (level_forest_1_L1 f _ _ _ _ k) _ _ = _
    unfold level_forest_1_B1 level_forest_1_k1
    have hl := relab_len f a b
    rw [if_neg (by omega), List.drop_of_length_le (Nat.le_refl _), List.append_nil, List.take_of_length_le (by omega)]
    congr 3
    exact decide_eq_decide.2 (by omega)
def iota (n : Nat) : List Int := (List.range n).map fun (i : Nat) => (i : Int)
theorem iota_gi {n i : Nat} (h : i < n) : gi (iota n) i = i := by
  apply gi_of
  unfold iota
  rw [List.getElem?_map, List.getElem?_range h]; rfl
theorem iota_len (n : Nat) : (iota n).length = n := by unfold iota; simp
theorem iota_succ (n : Nat) : iota (n + 1) = iota n ++ [(n : Int)] := by unfold iota; rw [List.range_succ, List.map_append]; rfl
def firsts (s : Survey) : Nat → List Int
  | 0 => iota s.points.toNat
  | j + 1 => relab (firsts s j) (gr s.readings j).from_ (gr s.readings j).to_
theorem firsts_ok {s : Survey} (hs : SvOk s) : ∀ j, j ≤ s.readings.length → Roots s j (firsts s j)
  | 0, _ => {
    len := iota_len _
    le := fun i hi => by
      simp only [firsts] at hi ⊢
      rw [iota_len] at hi
      rw [iota_gi hi]; omega
    con := fun i hi => by
      simp only [firsts] at hi ⊢
      rw [iota_len] at hi
      rw [iota_gi hi]; exact .refl _
    same := fun i hi => by omega }
  | j + 1, hj => by
    have ih := firsts_ok hs j (by omega)
    have hr := gr_ok hs (i := j) (by omega)
    have hl := ih.len
    have hp := hs.p1
    have la := ih.le (gr s.readings j).from_.toNat (by omega)
    have lb := ih.le (gr s.readings j).to_.toNat (by omega)
    have ca := (ih.con (gr s.readings j).from_.toNat (by omega)).mono (Nat.le_succ j)
    have cb := (ih.con (gr s.readings j).to_.toNat (by omega)).mono (Nat.le_succ j)
    rw [show (((gr s.readings j).from_.toNat : Nat) : Int) = (gr s.readings j).from_ by omega] at ca
    rw [show (((gr s.readings j).to_.toNat : Nat) : Int) = (gr s.readings j).to_ by omega] at cb
    have cab : Con s (j + 1) (gi (firsts s j) (gr s.readings j).from_.toNat) (gi (firsts s j) (gr s.readings j).to_.toNat) := ca.trans ((Con.edge (Nat.lt_succ_self j) (by omega)).trans cb.symm)
    have hg : ∀ i, i < (firsts s j).length → gi (firsts s (j + 1)) i = if gi (firsts s j) i = max (gi (firsts s j) (gr s.readings j).from_.toNat) (gi (firsts s j) (gr s.readings j).to_.toNat) then min (gi (firsts s j) (gr s.readings j).from_.toNat) (gi (firsts s j) (gr s.readings j).to_.toNat) else gi (firsts s j) i := fun i hi => relab_gi hi
    generalize hA : gi (firsts s j) (gr s.readings j).from_.toNat = A at *
    generalize hB : gi (firsts s j) (gr s.readings j).to_.toNat = B at *
    have hl' : (firsts s (j + 1)).length = (firsts s j).length := relab_len _ _ _
    refine ⟨by rw [hl', hl], fun i hi => ?_, fun i hi => ?_, fun i hi hi2 => ?_⟩
    · rw [hl'] at hi
      have := ih.le i hi
      rw [hg i hi]
      split <;> omega
    · rw [hl'] at hi
      rw [hg i hi]
      have hc := (ih.con i hi).mono (Nat.le_succ j)
      split
      · rename_i he
        rw [he] at hc
        have cm : Con s (j + 1) (min A B) (max A B) := by
          rcases Int.le_total A B with h | h
          · rw [show min A B = A by omega, show max A B = B by omega]; exact cab
          · rw [show min A B = B by omega, show max A B = A by omega]; exact cab.symm
        exact cm.trans hc
      · exact hc
    · have hri := gr_ok hs hi2
      rw [hg _ (by omega), hg _ (by omega)]
      by_cases e : i = j
      · subst e
        rw [hA, hB]
        split <;> split <;> omega
      · rw [ih.same i (by omega) hi2]
def treeL (s : Survey) : Nat → List Int
  | 0 => []
  | j + 1 => treeL s j ++ (if gi (firsts s j) (gr s.readings j).from_.toNat = gi (firsts s j) (gr s.readings j).to_.toNat then [] else [(j : Int)])
theorem treeL_len (s : Survey) : ∀ j, (treeL s j).length ≤ j
  | 0 => Nat.le_refl _
  | j + 1 => by
    have := treeL_len s j
    simp only [treeL]
    split <;> simp <;> omega
theorem forest_eq {s : Survey} (hs : SvOk s) : level_forest s = some (firsts s s.readings.length, treeL s s.readings.length) := by
  have hp := hs.p1
  have hp5 := hs.p5
  have h8 := hs.len
  unfold level_forest
  refine for0 s.points.toNat iota (fun k l i => level_forest_L2 s k i l) _ rfl (fun k i hi => ?_) (fun k => ?_) (by omega)
  · show level_forest_B2 s (level_forest_L2 s k) _ _ = _
    unfold level_forest_B2
    have := iota_len i
    rw [if_pos (by omega), gd_pos (by rw [this]; simp; omega), gd_pos (by omega), iota_succ]; rfl
  · show level_forest_B2 s (level_forest_L2 s k) _ _ = _
    unfold level_forest_B2 level_forest_k3
    rw [if_neg (by omega)]
    refine for0 s.readings.length (fun i => (treeL s i, firsts s i)) (fun k l i => level_forest_L1 s k i l.1 l.2) _ (s0 := ([], iota s.points.toNat)) rfl (fun k i hi => ?_) (fun k => ?_) (by omega)
    · show level_forest_B1 s (level_forest_L1 s k) (i : Int) (treeL s i) (firsts s i) = _
      have hF := firsts_ok hs i (by omega)
      have hl := hF.len
      have hr := gr_ok hs hi
      have ht := treeL_len s i
      unfold level_forest_B1 level_forest_k2
      rw [if_pos (by omega), ix_nat (gr_at hi), bnd_eq (join_eq (by omega) (by omega) (by omega))]
      simp only [treeL, firsts]
      by_cases he : gi (firsts s i) (gr s.readings i).from_.toNat = gi (firsts s i) (gr s.readings i).to_.toNat
      · rw [if_neg (by simp [he]), gd_pos (by omega), if_pos he, List.append_nil]; rfl
      · rw [if_pos (by simp [he]), gd_pos (by simp; omega), gd_pos (by omega), if_neg he]; rfl
    · show level_forest_B1 s (level_forest_L1 s k) _ _ _ = _
      unfold level_forest_B1
      rw [if_neg (by omega)]; rfl
/-- One step: two points are told the smaller number. -/
def step (f : List Int) (a b : Nat) : List Int := (f.set a (min (gi f a) (gi f b))).set b (min (gi f a) (gi f b))
end Go.D1

set_option linter.unusedVariables false
set_option linter.unusedSimpArgs false
namespace Go.D1
open Go.Tb
def isRoot (f : List Int) (i : Int) : Bool := decide (gi f i.toNat = i)
def rootsOf (s : Survey) : List Int := firsts s s.readings.length
theorem rootsOf_ok {s : Survey} (hs : SvOk s) : Roots s s.readings.length (rootsOf s) := firsts_ok hs _ (Nat.le_refl _)
def treeR (s : Survey) : List Int := treeL s s.readings.length
end Go.D1

set_option linter.unusedVariables false
set_option linter.unusedSimpArgs false
namespace Go.D1
open Go.Tb
def gb (l : List Bool) (i : Nat) : Bool := l.getD i false
theorem gb_at {l : List Bool} {i : Nat} (h : i < l.length) : l[i]? = some (gb l i) := by simp [gb, List.getD, h]
theorem gb_set {l : List Bool} {i j : Nat} {x : Bool} : gb (l.set i x) j = if i = j ∧ j < l.length then x else gb l j := by
  unfold gb
  simp only [List.getD_eq_getElem?_getD, List.getElem?_set]
  by_cases h : i = j
  · subst h
    by_cases h2 : i < l.length
    · simp [h2]
    · simp [h2]
  · simp [h]
abbrev HK := List Int × List Bool
/-- One reading of the tree is gone along, if one of its points alone is known. -/
def go1 (r : Reading) (x : HK) : HK :=
  if gb x.2 r.from_.toNat = true ∧ gb x.2 r.to_.toNat = false then (x.1.set r.to_.toNat (gi x.1 r.from_.toNat + r.rise), x.2.set r.to_.toNat true)
  else if gb x.2 r.to_.toNat = true ∧ gb x.2 r.from_.toNat = false then (x.1.set r.from_.toNat (gi x.1 r.to_.toNat - r.rise), x.2.set r.from_.toNat true)
  else x
def goTo (s : Survey) (l : List Int) (q : Nat) (x : HK) : HK := (l.take q).foldl (fun y k => go1 (gr s.readings k.toNat) y) x
theorem goTo_succ {s : Survey} {l : List Int} {q : Nat} (hq : q < l.length) (x : HK) : goTo s l (q + 1) x = go1 (gr s.readings (gi l q).toNat) (goTo s l q x) := by
  unfold goTo
  rw [List.take_add_one, gi_at hq, List.foldl_append]; rfl
def round1 (s : Survey) (l : List Int) (x : HK) : HK := goTo s l l.length x
def rounds (s : Survey) (l : List Int) (x : HK) : Nat → HK
  | 0 => x
  | q + 1 => round1 s l (rounds s l x q)
structure HB (s : Survey) (B : Int) (x : HK) : Prop where
  l1 : x.1.length = s.points.toNat
  l2 : x.2.length = s.points.toNat
  bd : ∀ i, -B ≤ gi x.1 i ∧ gi x.1 i ≤ B
theorem HB.mono {s : Survey} {B B' : Int} {x : HK} (h : HB s B x) (hb : B ≤ B') : HB s B' x := ⟨h.l1, h.l2, fun i => by have := h.bd i; omega⟩
theorem HB.go {s : Survey} {B : Int} {x : HK} (h : HB s B x) (hB : 0 ≤ B) {r : Reading} (hr : -1000 ≤ r.rise ∧ r.rise ≤ 1000) : HB s (B + 1000) (go1 r x) := by
  have hf := h.bd r.from_.toNat
  have ht := h.bd r.to_.toNat
  unfold go1
  split
  · refine ⟨by simp [h.l1], by simp [h.l2], fun i => ?_⟩
    have := h.bd i
    rw [gi_set]
    split <;> omega
  · split
    · refine ⟨by simp [h.l1], by simp [h.l2], fun i => ?_⟩
      have := h.bd i
      rw [gi_set]
      split <;> omega
    · exact h.mono (by omega)
def okL (s : Survey) (l : List Int) : Prop := ∀ q, q < l.length → 0 ≤ gi l q ∧ gi l q < (s.readings.length : Int)
theorem HB.goTo {s : Survey} (hs : SvOk s) {l : List Int} (hl : okL s l) {B : Int} {x : HK} (h : HB s B x) (hB : 0 ≤ B) : ∀ q, q ≤ l.length → HB s (B + 1000 * (q : Int)) (goTo s l q x)
  | 0, _ => by simpa [D1.goTo] using h
  | q + 1, hq => by
    have ih := HB.goTo hs hl h hB q (by omega)
    have hk := hl q (by omega)
    have hr := gr_ok hs (i := (gi l q).toNat) (by omega)
    rw [goTo_succ (by omega), show B + 1000 * ((q + 1 : Nat) : Int) = B + 1000 * (q : Int) + 1000 by omega]
    exact ih.go (by omega) hr.2.2.2.1
theorem HB.rounds {s : Survey} (hs : SvOk s) {l : List Int} (hl : okL s l) (h8 : l.length ≤ 8) {x : HK} (h : HB s 0 x) : ∀ q : Nat, HB s (8000 * (q : Int)) (rounds s l x q)
  | 0 => by simpa [D1.rounds] using h
  | q + 1 => by
    have := HB.goTo hs hl (HB.rounds hs hl h8 h q) (by omega) l.length (Nat.le_refl _)
    exact this.mono (by omega)
def op (x : HK) (r : Reading) : Bool := !(gb x.2 r.from_.toNat && gb x.2 r.to_.toNat)
def opens (s : Survey) (l : List Int) (x : HK) : Nat := (l.filter fun k => op x (gr s.readings k.toNat)).length
def unk (x : HK) : Nat := (x.2.filter fun b => !b).length
theorem filter_le {α : Type} {p q : α → Bool} : ∀ l : List α, (∀ x ∈ l, p x = true → q x = true) → (l.filter p).length ≤ (l.filter q).length
  | [], _ => Nat.le_refl _
  | x :: r, h => by
    have ih := filter_le (p := p) (q := q) r (fun y hy => h y (List.mem_cons_of_mem _ hy))
    have hx := h x (List.mem_cons_self ..)
    simp only [List.filter_cons]
    by_cases h1 : p x = true
    · rw [if_pos h1, if_pos (hx h1)]; simp only [List.length_cons]; omega
    · rw [if_neg h1]
      split
      · simp only [List.length_cons]; omega
      · exact ih
theorem filter_lt {α : Type} {p q : α → Bool} : ∀ (l : List α) (y : α), y ∈ l → (∀ x ∈ l, p x = true → q x = true) → p y = false → q y = true → (l.filter p).length < (l.filter q).length
  | x :: r, y, hy, h, hp, hq => by
    have h' : ∀ z ∈ r, p z = true → q z = true := fun z hz => h z (List.mem_cons_of_mem _ hz)
    simp only [List.filter_cons]
    rcases List.mem_cons.1 hy with rfl | hy
    · rw [if_neg (by simp [hp]), if_pos hq]
      have := filter_le r h'
      simp only [List.length_cons]; omega
    · have ih := filter_lt r y hy h' hp hq
      have hx := h x (List.mem_cons_self ..)
      by_cases h1 : p x = true
      · rw [if_pos h1, if_pos (hx h1)]; simp only [List.length_cons]; omega
      · rw [if_neg h1]
        split
        · simp only [List.length_cons]; omega
        · exact ih
theorem filter_set : ∀ {l : List Bool} {i : Nat}, i < l.length → gb l i = false → ((l.set i true).filter fun b => !b).length + 1 = (l.filter fun b => !b).length
  | [], i, h, _ => by simp at h
  | b :: r, 0, h, hb => by
    simp [gb] at hb; subst hb
    simp
  | b :: r, i + 1, h, hb => by
    have := filter_set (l := r) (i := i) (by simpa using h) (by simpa [gb] using hb)
    simp only [List.set_cons_succ, List.filter_cons]
    cases b <;> simp <;> omega
/-- What one reading does. -/
theorem go1_cases {s : Survey} {r : Reading} (hr : (0 ≤ r.from_ ∧ r.from_ < s.points) ∧ (0 ≤ r.to_ ∧ r.to_ < s.points) ∧ r.from_ ≠ r.to_) (x : HK) (hx : x.2.length = s.points.toNat) :
    go1 r x = x ∨ (op x r = true ∧ op (go1 r x) r = false ∧ (∀ i, gb x.2 i = true → gb (go1 r x).2 i = true) ∧ unk (go1 r x) + 1 = unk x) := by
  have key : ∀ (u : List Int) (p q : Nat), p < s.points.toNat → gb x.2 q = true → gb x.2 p = false → p ≠ q → (gb (x.2.set p true) q = true ∧ gb (x.2.set p true) p = true) ∧ (∀ i, gb x.2 i = true → gb (x.2.set p true) i = true) ∧ unk (u, x.2.set p true) + 1 = unk x := fun u p q h1 h2 h3 h4 => by
    refine ⟨⟨?_, ?_⟩, fun i hi => ?_, ?_⟩
    · rw [gb_set, if_neg (fun h => h4 h.1)]; exact h2
    · rw [gb_set, if_pos ⟨rfl, by omega⟩]
    · rw [gb_set]
      split
      · rfl
      · exact hi
    · exact filter_set (by omega) h3
  unfold go1
  split
  · rename_i h
    right
    have := key (x.1.set r.to_.toNat (gi x.1 r.from_.toNat + r.rise)) r.to_.toNat r.from_.toNat (by omega) h.1 h.2 (by omega)
    exact ⟨by unfold op; rw [h.1, h.2]; rfl, by unfold op; simp only; rw [this.1.1, this.1.2]; rfl, this.2.1, this.2.2⟩
  · split
    · rename_i h
      right
      have := key (x.1.set r.from_.toNat (gi x.1 r.to_.toNat - r.rise)) r.from_.toNat r.to_.toNat (by omega) h.1 h.2 (by omega)
      exact ⟨by unfold op; rw [h.1, h.2]; rfl, by unfold op; simp only; rw [this.1.1, this.1.2]; rfl, this.2.1, this.2.2⟩
    · exact .inl rfl
theorem go1_len {r : Reading} {x : HK} : (go1 r x).2.length = x.2.length := by
  unfold go1
  split
  · simp
  · split <;> simp
theorem goTo_rest {s : Survey} (hs : SvOk s) {l : List Int} (hl : okL s l) (x : HK) (hx : x.2.length = s.points.toNat) : ∀ q, q ≤ l.length →
    (goTo s l q x).2.length = s.points.toNat ∧ (∀ i, gb x.2 i = true → gb (goTo s l q x).2 i = true) ∧ (goTo s l q x = x ∨ (unk (goTo s l q x) < unk x ∧ opens s l (goTo s l q x) < opens s l x))
  | 0, _ => ⟨hx, fun _ h => h, .inl rfl⟩
  | q + 1, hq => by
    have ⟨h1, h2, h3⟩ := goTo_rest hs hl x hx q (by omega)
    have hk := hl q (by omega)
    have hr := gr_ok hs (i := (gi l q).toNat) (by omega)
    rw [goTo_succ (by omega)]
    have hc := go1_cases (s := s) (r := gr s.readings (gi l q).toNat) ⟨hr.1, hr.2.1, hr.2.2.1⟩ (goTo s l q x) h1
    refine ⟨by rw [go1_len, h1], fun i hi => ?_, ?_⟩
    · rcases hc with h | h
      · rw [h]; exact h2 i hi
      · exact h.2.2.1 i (h2 i hi)
    · rcases hc with h | ⟨o1, o2, o3, o4⟩
      · rw [h]; exact h3
      · right
        have hop : opens s l (go1 (gr s.readings (gi l q).toNat) (goTo s l q x)) < opens s l (goTo s l q x) := by
          refine filter_lt l (gi l q) (List.mem_of_getElem? (gi_at (by omega))) (fun k _ hk' => ?_) o2 o1
          unfold op at hk' ⊢
          simp only [Bool.not_eq_true', Bool.and_eq_false_iff] at hk' ⊢
          rcases hk' with h | h
          · left
            cases hq' : gb (goTo s l q x).2 (gr s.readings k.toNat).from_.toNat
            · rfl
            · rw [o3 _ hq'] at h; cases h
          · right
            cases hq' : gb (goTo s l q x).2 (gr s.readings k.toNat).to_.toNat
            · rfl
            · rw [o3 _ hq'] at h; cases h
        rcases h3 with h3 | h3
        · rw [h3] at hop o4 ⊢
          exact ⟨by omega, hop⟩
        · exact ⟨by omega, by omega⟩
theorem rounds_len {s : Survey} (hs : SvOk s) {l : List Int} (hl : okL s l) {x : HK} (hx : x.2.length = s.points.toNat) : ∀ q, (rounds s l x q).2.length = s.points.toNat
  | 0 => hx
  | q + 1 => (goTo_rest hs hl _ (rounds_len hs hl hx q) l.length (Nat.le_refl _)).1
theorem rounds_rest {s : Survey} (hs : SvOk s) {l : List Int} (hl : okL s l) {x : HK} (hx : x.2.length = s.points.toNat) (μ : HK → Nat) (hμ : ∀ y : HK, y.2.length = s.points.toNat → round1 s l y = y ∨ μ (round1 s l y) < μ y) : ∀ q : Nat, round1 s l (rounds s l x q) = rounds s l x q ∨ μ (rounds s l x q) + q ≤ μ x
  | 0 => .inr (by simp [rounds])
  | q + 1 => by
    rcases rounds_rest hs hl hx μ hμ q with h | h
    · left
      show round1 s l (round1 s l (rounds s l x q)) = round1 s l (rounds s l x q)
      rw [h, h]
    · rcases hμ _ (rounds_len hs hl hx q) with h2 | h2
      · left
        show round1 s l (round1 s l (rounds s l x q)) = round1 s l (rounds s l x q)
        rw [h2, h2]
      · right
        show μ (round1 s l (rounds s l x q)) + (q + 1) ≤ μ x
        omega
theorem rounds_stay {s : Survey} {l : List Int} {x : HK} {q : Nat} (h : round1 s l (rounds s l x q) = rounds s l x q) : ∀ d, rounds s l x (q + d) = rounds s l x q
  | 0 => rfl
  | d + 1 => by
    show round1 s l (rounds s l x (q + d)) = _
    rw [rounds_stay h d, h]
theorem rounds_same {s : Survey} (hs : SvOk s) {l : List Int} (hl : okL s l) {x : HK} (hx : x.2.length = s.points.toNat) {a b : Nat} (ha : l.length ≤ a) (hb : s.points.toNat ≤ b) : rounds s l x a = rounds s l x b := by
  have fa : round1 s l (rounds s l x a) = rounds s l x a := by
    rcases rounds_rest hs hl hx (opens s l) (fun y hy => by
      rcases (goTo_rest hs hl y hy l.length (Nat.le_refl _)).2.2 with h | h
      · exact .inl h
      · exact .inr h.2) a with h | h
    · exact h
    · have h1 : opens s l x ≤ l.length := List.length_filter_le _ _
      rcases (goTo_rest hs hl _ (rounds_len hs hl hx a) l.length (Nat.le_refl _)).2.2 with h2 | h2
      · exact h2
      · have := h2.2; omega
  have fb : round1 s l (rounds s l x b) = rounds s l x b := by
    rcases rounds_rest hs hl hx unk (fun y hy => by
      rcases (goTo_rest hs hl y hy l.length (Nat.le_refl _)).2.2 with h | h
      · exact .inl h
      · exact .inr h.1) b with h | h
    · exact h
    · have h1 : unk x ≤ x.2.length := List.length_filter_le _ _
      rcases (goTo_rest hs hl _ (rounds_len hs hl hx b) l.length (Nat.le_refl _)).2.2 with h2 | h2
      · exact h2
      · have := h2.1; omega
  rcases Nat.le_total a b with h | h
  · rw [show b = a + (b - a) by omega, rounds_stay fa]
  · rw [show a = b + (a - b) by omega, rounds_stay fb]
end Go.D1

set_option linter.unusedVariables false
set_option linter.unusedSimpArgs false
namespace Go.D1
open Go.Tb
theorem treeL_ok (s : Survey) : ∀ j, j ≤ s.readings.length → ∀ x ∈ treeL s j, 0 ≤ x ∧ x < (j : Int)
  | 0, _, x, hx => by simp [treeL] at hx
  | j + 1, hj, x, hx => by
    simp only [treeL] at hx
    rcases List.mem_append.1 hx with h | h
    · have := treeL_ok s j (by omega) x h; omega
    · split at h
      · simp at h
      · simp at h; omega
theorem treeR_ok (s : Survey) : okL s (treeR s) := fun q hq => treeL_ok s _ (Nat.le_refl _) _ (List.mem_of_getElem? (gi_at hq))
theorem step_eq {s : Survey} (hs : SvOk s) {B : Int} {x : HK} (h : HB s B x) (hB : 0 ≤ B ∧ B ≤ 1000000) {r : Reading} (hr : (0 ≤ r.from_ ∧ r.from_ < s.points) ∧ (0 ≤ r.to_ ∧ r.to_ < s.points) ∧ r.from_ ≠ r.to_ ∧ (-1000 ≤ r.rise ∧ r.rise ≤ 1000)) (t : Int) (ht : InR (t + 1)) (rec2 : Int → List Int → List Bool → Option (List Int)) :
    (ix x.2 r.from_ fun x11 => if x11 = true then ix x.2 r.to_ fun x12 => level_byTree_k5 t x.1 x.2 rec2 r (!x12) else level_byTree_k5 t x.1 x.2 rec2 r false) = rec2 (t + 1) (go1 r x).1 (go1 r x).2 := by
  have l1 := h.l1
  have l2 := h.l2
  have hf := h.bd r.from_.toNat
  have hto := h.bd r.to_.toNat
  have bA : x.2[r.from_.toNat]? = some (gb x.2 r.from_.toNat) := gb_at (by omega)
  have bB : x.2[r.to_.toNat]? = some (gb x.2 r.to_.toNat) := gb_at (by omega)
  have hA : x.1[r.from_.toNat]? = some (gi x.1 r.from_.toNat) := gi_at (by omega)
  have hBB : x.1[r.to_.toNat]? = some (gi x.1 r.to_.toNat) := gi_at (by omega)
  unfold level_byTree_k5 level_byTree_k4 level_byTree_k3 go1
  rw [ix_eq hr.1.1 bA]
  cases e1 : gb x.2 r.from_.toNat <;> cases e2 : gb x.2 r.to_.toNat
  · rw [e2] at bB
    rw [if_neg (by simp), if_neg (by simp), ix_eq hr.2.1.1 bB, if_neg (by simp), if_neg (by simp), gd_pos ht, if_neg (by simp), if_neg (by simp)]
  · rw [e1] at bA
    rw [e2] at bB
    rw [if_neg (by simp), if_neg (by simp), ix_eq hr.2.1.1 bB, if_pos rfl, ix_eq hr.1.1 bA, if_pos (by rfl), ix_eq hr.2.1.1 hBB, gd_pos (by omega), ix_eq hr.1.1 hA, ix_eq hr.1.1 bA, gd_pos ht, if_neg (by simp), if_pos ⟨rfl, rfl⟩]
  · rw [e2] at bB
    rw [if_pos rfl, ix_eq hr.2.1.1 bB, if_pos (by rfl), ix_eq hr.1.1 hA, gd_pos (by omega), ix_eq hr.2.1.1 hBB, ix_eq hr.2.1.1 bB, gd_pos ht, if_pos ⟨rfl, rfl⟩]
  · rw [e1] at bA
    rw [e2] at bB
    rw [if_pos rfl, ix_eq hr.2.1.1 bB, if_neg (by simp), ix_eq hr.2.1.1 bB, if_pos rfl, ix_eq hr.1.1 bA, if_neg (by simp), gd_pos ht, if_neg (by simp), if_neg (by simp)]
/-- Where the heights begin. -/
def start (s : Survey) : HK := (List.replicate s.points.toNat 0, (iota s.points.toNat).map (isRoot (rootsOf s)))
theorem start_HB (s : Survey) : HB s 0 (start s) := ⟨by simp [start], by simp [start, iota_len], fun i => by
  have : gi (start s).1 i = 0 := by unfold start gi; simp [List.getD_eq_getElem?_getD, List.getElem?_replicate]; split <;> rfl
  omega⟩
def heightsR (s : Survey) : List Int := (rounds s (treeR s) (start s) s.points.toNat).1
theorem known_loop {s : Survey} (hs : SvOk s) (L : Nat → Int → List Bool → Option (List Int)) (yes : Option (List Int))
    (step : ∀ k i : Nat, ∀ l : List Bool, i < s.points.toNat → i < l.length → L (k + 1) (i : Int) l = L k ((i + 1 : Nat) : Int) (l.set i (isRoot (rootsOf s) (i : Int))))
    (stop : ∀ k : Nat, L (k + 1) (s.points.toNat : Int) (start s).2 = yes) : L FU 0 (List.replicate s.points.toNat false) = yes := by
  have hp5 := hs.p5
  have hll : ((iota s.points.toNat).map (isRoot (rootsOf s))).length = s.points.toNat := by rw [List.length_map, iota_len]
  refine for0 s.points.toNat (fun i => ((iota s.points.toNat).map (isRoot (rootsOf s))).take i ++ List.replicate (s.points.toNat - i) false) (fun k l i => L k i l) yes (by simp) (fun k i hi => ?_) (fun k => ?_) (by omega)
  · rw [step k i _ hi (by rw [List.length_append, List.length_take, hll, List.length_replicate]; omega)]
    congr 1
    have h1 : (((iota s.points.toNat).map (isRoot (rootsOf s))).take i).length = i := by rw [List.length_take, hll]; omega
    have h2 : ((iota s.points.toNat).map (isRoot (rootsOf s)))[i]? = some (isRoot (rootsOf s) (i : Int)) := by
      rw [List.getElem?_map, gi_at (by rw [iota_len]; exact hi), iota_gi hi]; rfl
    rw [List.set_append_right _ _ (by omega), h1, Nat.sub_self, show s.points.toNat - i = (s.points.toNat - (i + 1)) + 1 by omega, List.replicate_succ, List.set_cons_zero, List.take_add_one, h2]
    simp
  · have := stop k
    rw [Nat.sub_self, List.replicate_zero, List.append_nil, List.take_of_length_le (by omega)]
    exact this
theorem byTree_eq {s : Survey} (hs : SvOk s) : level_byTree s = some (heightsR s) := by
  have hp := hs.p1
  have hp5 := hs.p5
  have h8 := hs.len
  have hf := rootsOf_ok hs
  have hfl := hf.len
  have htl : (treeR s).length ≤ s.readings.length := treeL_len s _
  have hok := treeR_ok s
  unfold level_byTree
  rw [bnd_eq (forest_eq hs), gd_pos (by omega), gd_pos (by omega)]
  show level_byTree_L3 s (rootsOf s, treeR s) (List.replicate (Int.toNat s.points) 0) FU 0 (List.replicate (Int.toNat s.points) false) = _
  refine known_loop hs (fun k i l => level_byTree_L3 s (rootsOf s, treeR s) (List.replicate (Int.toNat s.points) 0) k i l) _ (fun k i l hi hl => ?_) (fun k => ?_)
  · show level_byTree_B3 s (rootsOf s, treeR s) _ (level_byTree_L3 s (rootsOf s, treeR s) _ k) _ _ = _
    unfold level_byTree_B3
    rw [if_pos (by simp only; omega), ix_nat (gi_at (l := rootsOf s) (by omega)), ix_nat (gb_at hl), gd_pos (by omega)]; rfl
  · show level_byTree_B3 s (rootsOf s, treeR s) _ (level_byTree_L3 s (rootsOf s, treeR s) _ k) _ _ = _
    unfold level_byTree_B3 level_byTree_k6
    rw [if_neg (by simp only; omega)]
    have e : heightsR s = (rounds s (treeR s) (start s) (treeR s).length).1 := by
      unfold heightsR
      rw [rounds_same hs hok (start_HB s).l2 (a := (treeR s).length) (b := s.points.toNat) (Nat.le_refl _) (Nat.le_refl _)]
    rw [e]
    refine for0 (treeR s).length (rounds s (treeR s) (start s)) (fun k x i => level_byTree_L2 s (rootsOf s, treeR s) k i x.1 x.2) _ (s0 := start s) rfl (fun k i hi => ?_) (fun k => ?_) (by omega)
    · have hR := HB.rounds hs hok (by omega) (start_HB s) i
      show level_byTree_B2 s (rootsOf s, treeR s) (level_byTree_L2 s (rootsOf s, treeR s) k) _ _ _ = _
      unfold level_byTree_B2
      rw [if_pos (by simp only; omega)]
      refine for0 (treeR s).length (fun q => goTo s (treeR s) q (rounds s (treeR s) (start s) i)) (fun k' x q => level_byTree_L1 s (rootsOf s, treeR s) (i : Int) (level_byTree_L2 s (rootsOf s, treeR s) k) k' q x.1 x.2) _ (s0 := rounds s (treeR s) (start s) i) (by simp [goTo]) (fun k' q hq => ?_) (fun k' => ?_) (by omega)
      · have hG := HB.goTo hs hok hR (by omega) q (by omega)
        have hk := hok q hq
        have hr := gr_ok hs (i := (gi (treeR s) q).toNat) (by omega)
        show level_byTree_B1 s (rootsOf s, treeR s) _ _ (level_byTree_L1 s (rootsOf s, treeR s) _ _ k') _ _ _ = _
        unfold level_byTree_B1
        rw [if_pos (by simp only; omega), ix_nat (gi_at (l := treeR s) hq), ix_eq hk.1 (gr_at (by omega)), step_eq hs hG (by omega) ⟨hr.1, hr.2.1, hr.2.2.1, hr.2.2.2.1⟩ (q : Int) (by omega), goTo_succ hq]; rfl
      · show level_byTree_B1 s (rootsOf s, treeR s) _ _ (level_byTree_L1 s (rootsOf s, treeR s) _ _ k') _ _ _ = _
        unfold level_byTree_B1 level_byTree_k2
        rw [if_neg (by simp only; omega), gd_pos (by omega)]; rfl
    · show level_byTree_B2 s (rootsOf s, treeR s) (level_byTree_L2 s (rootsOf s, treeR s) k) _ _ _ = _
      unfold level_byTree_B2
      rw [if_neg (by simp only; omega)]; rfl
end Go.D1

set_option linter.unusedVariables false
set_option linter.unusedSimpArgs false
namespace Go.D1
open Go.Tb
theorem heights_ok {s : Survey} (hs : SvOk s) : (heightsR s).length = s.points.toNat ∧ ∀ i, -40000 ≤ gi (heightsR s) i ∧ gi (heightsR s) i ≤ 40000 := by
  have hp5 := hs.p5
  have h8 := hs.len
  have htl : (treeR s).length ≤ s.readings.length := treeL_len s _
  have h := HB.rounds hs (treeR_ok s) (by omega) (start_HB s) s.points.toNat
  refine ⟨h.l1, fun i => ?_⟩
  have := h.bd i
  unfold heightsR
  omega
/-- What does not close. -/
def closeR (s : Survey) (r : Reading) : Int := r.rise - gi (heightsR s) r.to_.toNat + gi (heightsR s) r.from_.toNat
def closuresR (s : Survey) : List Int := s.readings.map (closeR s)
theorem map_loop0 {α β R : Type} (l : List α) (f : α → β) (L : Nat → List β → Int → Option R) (yes : Option R)
    (step : ∀ (n i : Nat) (x : α), l[i]? = some x → L (n + 1) ((l.map f).take i) (i : Int) = L n ((l.map f).take i ++ [f x]) ((i + 1 : Nat) : Int))
    (stop : ∀ n : Nat, L (n + 1) (l.map f) (l.length : Int) = yes) (hl : l.length ≤ 9223372036854775807) : L FU [] 0 = yes := by
  refine for0 l.length (fun i => (l.map f).take i) L yes rfl (fun n i hi => ?_) (fun n => ?_) hl
  · have hx : l[i]? = some l[i] := by simp [hi]
    have hs : (l.map f)[i]? = some (f l[i]) := by rw [List.getElem?_map, hx]; rfl
    rw [step n i _ hx, List.take_add_one, hs]; rfl
  · rw [List.take_of_length_le (by simp)]; exact stop n
theorem take_len {α β : Type} (l : List α) (f : α → β) (i : Nat) : ((l.map f).take i).length ≤ i := by rw [List.length_take]; omega
theorem closures_eq {s : Survey} (hs : SvOk s) : level_closures s = some (closuresR s) := by
  have h8 := hs.len
  have ⟨hl, hb⟩ := heights_ok hs
  unfold level_closures
  rw [bnd_eq (byTree_eq hs)]
  refine map_loop0 s.readings (closeR s) (fun k l i => level_closures_L1 s (heightsR s) k i l) _ (fun k i x hx => ?_) (fun k => ?_) (by omega)
  · have hi := lt_of_at hx
    have hr := hs.rd x (List.mem_of_getElem? hx)
    have hA : (heightsR s)[x.from_.toNat]? = some (gi (heightsR s) x.from_.toNat) := gi_at (by omega)
    have hB : (heightsR s)[x.to_.toNat]? = some (gi (heightsR s) x.to_.toNat) := gi_at (by omega)
    have b1 := hb x.from_.toNat
    have b2 := hb x.to_.toNat
    have := take_len s.readings (closeR s) i
    show level_closures_B1 s (heightsR s) (level_closures_L1 s (heightsR s) k) _ _ = _
    unfold level_closures_B1
    rw [if_pos (by omega), ix_nat hx, ix_eq hr.2.1.1 hB, gd_pos (by omega), ix_eq hr.1.1 hA, gd_pos (by omega), gd_pos (by simp only [List.length_singleton]; omega), gd_pos (by omega)]; rfl
  · show level_closures_B1 s (heightsR s) (level_closures_L1 s (heightsR s) k) _ _ = _
    unfold level_closures_B1
    rw [if_neg (by omega)]; rfl
/-- Whether a list holds a number with a property. -/
theorem has_eq {l : List Int} (hl : l.length ≤ 1000) {f : Int → Option Bool} {p : Int → Bool} (hf : ∀ x ∈ l, f x = some (p x)) : slices_ContainsFunc_int l f = some (l.any p) := by
  unfold slices_ContainsFunc_int slices_IndexFunc_int
  have h := scan_loop l.length (fun i => (l[i]?.map fun x => !p x).getD true) (fun _ => ()) (fun n _ i => slices_IndexFunc_int_L1 l f n i) (some (-1)) (fun j => some (j : Int)) (fun n i hi => ?_) (fun n => ?_) l.length FU 0 (by omega) (by have := FU_pos; omega)
  · have h' : slices_IndexFunc_int_L1 l f FU 0 = _ := h
    cases hf' : (List.range' 0 l.length).find? (fun j => !((l[j]?.map fun x => !p x).getD true)) with
    | none =>
      rw [hf'] at h'
      rw [bnd_eq h']
      have hall := find_all.1 hf'
      have : l.any p = false := by
        rw [List.any_eq_false]
        intro x hx hpx
        obtain ⟨i, hi⟩ := List.getElem?_of_mem hx
        have := hall i (by omega) (by have := lt_of_at hi; omega)
        simp [hi, hpx] at this
      rw [this]; rfl
    | some j =>
      rw [hf'] at h'
      rw [bnd_eq h']
      have hj := List.find?_some hf'
      have hm := List.mem_of_find?_eq_some hf'
      rw [List.mem_range'] at hm
      obtain ⟨q, hq, hjq⟩ := hm
      have hlt : j < l.length := by omega
      have hx : l[j]? = some l[j] := by simp [hlt]
      rw [hx] at hj
      simp at hj
      have : l.any p = true := List.any_eq_true.2 ⟨_, List.getElem_mem hlt, hj⟩
      rw [this, decide_eq_true (by omega)]
  · have hx : l[i]? = some l[i] := by simp [hi]
    show slices_IndexFunc_int_B1 l f (slices_IndexFunc_int_L1 l f n) _ = _
    unfold slices_IndexFunc_int_B1
    rw [if_pos (by omega), ix_nat hx, bnd_eq (hf _ (List.getElem_mem hi))]
    simp only [hx, Option.map_some, Option.getD_some]
    cases hp : p l[i]
    · rw [if_neg (by simp), gd_pos (by omega), if_pos (by rfl)]; rfl
    · rw [if_pos rfl, if_neg (by simp)]
  · show slices_IndexFunc_int_B1 l f (slices_IndexFunc_int_L1 l f n) _ = _
    unfold slices_IndexFunc_int_B1
    rw [if_neg (by omega)]; rfl
def trueR (s : Survey) : Bool := !(closuresR s).any fun x => !decide (x = 0)
theorem IsTrue_eq (s : Survey) : level_IsTrue s = some (if validate s = 0 then (trueR s, 0) else (false, validate s)) := by
  unfold level_IsTrue
  rw [bnd_eq (Validate_eq s)]
  by_cases hv : validate s = 0
  · have hs := val0.1 hv
    have h8 := hs.len
    rw [if_pos hv, if_pos hv, bnd_eq (closures_eq hs), bnd_eq (has_eq (l := closuresR s) (f := level_IsTrue_1) (p := fun x => !decide (x = 0)) (by unfold closuresR; rw [List.length_map]; omega) (fun x _ => rfl))]; rfl
  · rw [if_neg hv, if_neg hv]
end Go.D1
