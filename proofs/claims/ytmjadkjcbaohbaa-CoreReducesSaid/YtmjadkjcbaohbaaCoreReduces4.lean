/- Lemmas and walks that the proof of this claim uses: Tb23, Tb24, Tb25, Tb26, Tb28, Tb29, Tb30, Tb31, Tb32, Tb34, D3n1D, D3q1, D3n1, Tb35, Tb37, D3s1. -/
import Derived.Test.YtmjadkjcbaohbaaCoreReduces3
set_option linter.unusedVariables false
set_option linter.unusedSimpArgs false
namespace Go.Tb
open Go.RowKit
section
variable {P : Program} {n : Nat} {ops : Array Oper} {Q : Exit → Env → World → Prop} {ρ : Env} {w : World}
variable {d : Option Tmp} {ty : TypeId} {pos : String} {after : Array Edge} {g : Option (Nat × Bool)} {K : Value → World → Prop}
/-- clear of a part of a slice or an array of the call's own. -/
theorem zero_flat {α : Type} {enc : α → List Value} {x0 : α} {z : List Value} {m : Nat} (hz : enc x0 = z) (hm : z.length = m) (h0 : Nat.blt 0 m = true) (c : Nat) : Builtin.zeroCells z.toArray c = ((List.replicate c x0).flatMap enc).toArray := by
  have h0' : 0 < m := by simpa [Nat.blt_eq] using h0
  apply Array.toList_inj.1
  apply List.ext_getElem?
  intro i
  have hl : ((List.replicate c x0).flatMap enc).length = c * m := by
    induction c with
    | zero => simp
    | succ c ih => simp only [List.replicate_succ, List.flatMap_cons, List.length_append, ih, hz, hm, Nat.succ_mul]; omega
  have hrow : ∀ r ∈ (List.replicate c x0).map enc, r.length = m := by
    intro r hr
    obtain ⟨x, hx, rfl⟩ := List.mem_map.1 hr
    rw [(List.mem_replicate.1 hx).2, hz, hm]
  by_cases hi : i < c * m
  · have hmod : i % m < m := Nat.mod_lt _ h0'
    have hq : i / m < c := (Nat.div_lt_iff_lt_mul h0').2 hi
    have hv : z[i % m]? = some (z[i % m]'(by rw [hm]; exact hmod)) := by simp [hm, hmod]
    have hf := flatten_row hrow (i / m) z (by simp [hq, hz]) (i % m) _ hv
    have hjm : i / m * m + i % m = i := by rw [Nat.mul_comm]; exact Nat.div_add_mod i m
    rw [hjm] at hf
    simp only [List.flatMap_def, List.toList_toArray]
    rw [hf]
    simp only [Builtin.zeroCells]
    simp [hi, hm, hmod]
  · rw [List.getElem?_eq_none (by simp [Builtin.zeroCells, hm]; omega), List.getElem?_eq_none (by simp only [List.toList_toArray]; rw [hl]; omega)]
theorem OW.clearSub {α : Type} {enc : α → List Value} {l : List α} (x0 : α) {t e k bt b c cap len lo hi t' : Nat} {z : List Value} {x : Operand} {A : Option Addr} (hT : tyS P t = some (e, k, bt, z)) (hx : ev ρ x = some (.slice A len cap))
    (o : Own w (some ⟨b, 0, none⟩) c t' k (l.map enc)) (hk : ∀ x, (enc x).length = k) (hz : enc x0 = z) (hzl : z.length = k) (hk0 : Nat.blt 0 k = true) (hA : A = cutA (some ⟨b, 0, none⟩) c k lo) (hlen : len = hi - lo) (h1 : lo ≤ hi) (h2 : hi ≤ l.length) (ho : z.all Value.oneCell' = true)
    (kk : ∀ v w', Mod w w' (some ⟨b, 0, none⟩) → Own w' (some ⟨b, 0, none⟩) c t' k ((l.take lo ++ List.replicate (hi - lo) x0 ++ l.drop hi).map enc) → K v w') : OW P n Q ⟨d, .call ⟨.builtin .clear, #[x], #[t]⟩, ty, pos, after, g⟩ ρ w K := by
  obtain ⟨hu, i, zv, hinf, hs1, hs2, hs3, hs4⟩ := tyS_spec hT
  by_cases h0 : hi - lo = 0
  · refine OW.value (w' := w) (v := .tuple #[]) (fun a ha => ?_) (kk _ w ⟨rfl, rfl, rfl, Nat.le_refl _, fun _ _ _ => rfl⟩ (by
      have e : l.take lo ++ List.replicate (hi - lo) x0 ++ l.drop hi = l := by rw [h0, show hi = lo by omega]; simp
      rw [e]; exact o))
    have : len = 0 := by omega
    subst this
    cases A <;> simp [execOp, resolve, ha.ev hx, invoke, builtin, Builtin.clear_, run_underlying hu]
  · rcases o.blk with ⟨h, _⟩ | ⟨b', sp, h, f, h3, h4⟩
    · cases h
    · cases h
      have hlc : l.length ≤ c := by simpa using h3
      have hcl : c ≠ lo := by omega
      have hk' : 0 < k := by simpa [Nat.blt_eq] using hk0
      have hAe : A = some ⟨b, lo * k, none⟩ := by
        rw [hA]; unfold cutA; rw [if_neg hcl]
        simp only [Option.map_some]; unfold Addr.add; split
        · rename_i h; rw [h]
        · simp
      have hL : (l.flatMap enc).length = l.length * k := len_flatMap hk l
      have hR : ((List.replicate (hi - lo) x0).flatMap enc).length = (hi - lo) * k := by rw [len_flatMap hk]; simp
      have f' : Blk w b t' (l.flatMap enc ++ sp) := by rw [List.flatMap_def]; exact f
      have hhk : hi * k ≤ l.length * k := Nat.mul_le_mul_right _ h2
      have hlk : lo * k + (hi - lo) * k = hi * k := by rw [← Nat.add_mul]; congr 1; omega
      have hall : ((List.replicate (hi - lo) x0).flatMap enc).all Value.oneCell' = true := by
        rw [List.all_eq_true]
        intro v hv
        obtain ⟨y, hy, hv⟩ := List.mem_flatMap.1 hv
        rw [(List.mem_replicate.1 hy).2, hz] at hv
        exact List.all_eq_true.1 ho v hv
      have hst := run_storeCells_at P b (lo * k) t' ((List.replicate (hi - lo) x0).flatMap enc) 0 (l.flatMap enc ++ sp).toArray w f' (by simp [hR, hL]; omega) (fun v hv => List.all_eq_true.1 hall v hv)
      have hs : Stored w (w.setRow b (over (l.flatMap enc ++ sp) (lo * k) ((List.replicate (hi - lo) x0).flatMap enc)).toArray) b t' (over (l.flatMap enc ++ sp) (lo * k) ((List.replicate (hi - lo) x0).flatMap enc)) := setRow_stored f'
      refine OW.value (w' := w.setRow b (over (l.flatMap enc ++ sp) (lo * k) ((List.replicate (hi - lo) x0).flatMap enc)).toArray) (v := .tuple #[]) (fun a ha => ?_) (kk _ _ ⟨hs.os, hs.tape, hs.output, by rw [hs.size]; exact Nat.le_refl _, fun i _ hi => hs.other i (fun e => hi (by simp [blkOf, e]))⟩ ?_)
      · have hlen' : len = hi - lo := hlen
        obtain ⟨q, hq⟩ : ∃ q, len = q + 1 := ⟨len - 1, by omega⟩
        have hzc : Builtin.zeroCells zv.cells (q + 1) = ((List.replicate (hi - lo) x0).flatMap enc).toArray := by
          have := zero_flat (x0 := x0) (c := hi - lo) hz hzl hk0
          rw [← this, show q + 1 = hi - lo by omega, ← hs4]
        simp [execOp, resolve, ha.ev hx, invoke, builtin, Builtin.clear_, run_underlying hu, hq, hAe, zeroValue, typeInfo, hinf, hs3, hzc]
        have hover : over (l.flatMap enc ++ sp) (lo * k) ((List.replicate (hi - lo) x0).flatMap enc) = List.take (lo * k + 0) (l.flatMap enc ++ sp).toArray.toList ++ ((List.replicate (hi - lo) x0).flatMap enc) ++ List.drop (lo * k + 0 + ((List.replicate (hi - lo) x0).flatMap enc).length) (l.flatMap enc ++ sp).toArray.toList := by simp [over]
        have hst' := hst
        rw [hover, hst']
        simp
      · have htk : ∀ j, j ≤ l.length → (l.take j).flatMap enc = (l.flatMap enc).take (j * k) := by
          intro j hj
          have e : l.flatMap enc = (l.take j).flatMap enc ++ (l.drop j).flatMap enc := by rw [← List.flatMap_append, List.take_append_drop]
          have e2 : ((l.take j).flatMap enc).length = j * k := by rw [len_flatMap hk]; simp [Nat.min_eq_left hj]
          rw [e, ← e2, List.take_left]
        have hdk : ∀ j, j ≤ l.length → (l.drop j).flatMap enc = (l.flatMap enc).drop (j * k) := by
          intro j hj
          have e : l.flatMap enc = (l.take j).flatMap enc ++ (l.drop j).flatMap enc := by rw [← List.flatMap_append, List.take_append_drop]
          have e2 : ((l.take j).flatMap enc).length = j * k := by rw [len_flatMap hk]; simp [Nat.min_eq_left hj]
          rw [e, ← e2, List.drop_left]
        have hov : over (l.flatMap enc ++ sp) (lo * k) ((List.replicate (hi - lo) x0).flatMap enc) = (l.take lo ++ List.replicate (hi - lo) x0 ++ l.drop hi).flatMap enc ++ sp := by
          rw [over_app (by rw [hR, hL]; omega)]
          congr 1
          unfold over
          rw [hR, hlk, List.flatMap_append, List.flatMap_append, htk lo (by omega), hdk hi h2]
        rw [hov] at hs
        have hl' : (l.take lo ++ List.replicate (hi - lo) x0 ++ l.drop hi).length = l.length := by simp; omega
        have hL' : ((l.take lo ++ List.replicate (hi - lo) x0 ++ l.drop hi).flatMap enc).length = (l.flatMap enc).length := by rw [len_flatMap hk, len_flatMap hk, hl']
        rw [hov]
        exact Own.stored o f' hk hl' (by simp only [List.length_append]; rw [hL']) (by rw [← hL, ← hL']; exact List.take_left) hs
end
end Go.Tb

set_option linter.unusedVariables false
set_option linter.unusedSimpArgs false
namespace Go.Tb
open Go.RowKit
theorem Sl.none_nil {α : Type} {enc : α → List Value} {w : World} {c k : Nat} {l : List α} (h : Sl w none c k (l.map enc)) : l = [] := by
  cases l with
  | nil => rfl
  | cons x r => obtain ⟨_, ⟨a, ha⟩, _⟩ := h.row 0 (enc x) (by simp); cases ha
theorem evs_cast {ρ : Env} {a : List Operand} {vs vs' : List Value} (h : evs ρ a = some vs) (e : vs = vs') : evs ρ a = some vs' := e ▸ h
theorem CallsV.cap {P : Program} {f : Nat} {first cap args all : Array Value} {w : World} {R : Ending → World → Prop} (hc : callable P f = true) (e : first ++ args ++ cap = all) (h : Calls P f all w R) : CallsV P f first cap args w R := ⟨hc, by rw [e]; exact h⟩
section
variable {P : Program} {n : Nat} {ops : Array Oper} {Q : Exit → Env → World → Prop} {ρ : Env} {w : World}
variable {d : Option Tmp} {ty : TypeId} {pos : String} {after : Array Edge} {g : Option (Nat × Bool)} {K : Value → World → Prop}
theorem RV.makeFunc {f : Fn} {first cap : Array Operand} {fs cs : List Value} (hf : evs ρ first.toList = some fs) (hc : evs ρ cap.toList = some cs) : RV P n ⟨d, .makeFunc f first cap, ty, pos, after, g⟩ ρ w (.func f fs.toArray cs.toArray) := fun a ha => by
  have h1 : first.map a.eval = fs.toArray := by
    apply Array.toList_inj.1; rw [Array.toList_map]; exact ha.evs hf
  have h2 : cap.map a.eval = cs.toArray := by
    apply Array.toList_inj.1; rw [Array.toList_map]; exact ha.evs hc
  simp only [execOp, Instr.makeFunc]
  rw [show Array.map a.eval first = fs.toArray from h1, show Array.map a.eval cap = cs.toArray from h2]
  rfl
end
end Go.Tb

set_option linter.unusedVariables false
set_option linter.unusedSimpArgs false
namespace Go.Tb
open Go.RowKit
/-- The rows hs, m are rows of the table hT, mT. -/
structure SubT {α : Type} (hs : List (Option Addr × Nat)) (m : List (List α)) (hT : List (Option Addr × Nat)) (mT : List (List α)) : Prop where
  len : hs.length = m.length
  sub : ∀ p ∈ hs.zip m, p ∈ hT.zip mT
section
variable {α : Type} {enc : α → List Value} {hs hT : List (Option Addr × Nat)} {m mT : List (List α)} {w : World} {A AT : Option Addr} {c cT to toT ti k : Nat}
theorem SubT.nil : SubT (α := α) [] [] hT mT := ⟨rfl, by simp⟩
theorem SubT.sl2 (s : SubT hs m hT mT) (o : Own w A c to 1 ((hs.zip m).map encH)) (T : TabH w AT cT toT hT ti k (encM enc mT)) : Sl2 w A c k enc m := by
  refine ⟨hs, s.len, o.sl, fun j h l hj hl => ?_⟩
  have hm : (h, l) ∈ hs.zip m := List.mem_of_getElem? (i := j) (by simp [List.getElem?_zip_eq_some, hj, hl])
  obtain ⟨i, hi⟩ := List.getElem?_of_mem (s.sub _ hm)
  rw [List.getElem?_zip_eq_some] at hi
  exact (T.row i h.1 h.2 _ hi.1 (by simp [encM, hi.2])).sl
end
section
variable {P : Program} {n : Nat} {ops : Array Oper} {Q : Exit → Env → World → Prop} {ρ : Env} {w : World}
variable {d : Option Tmp} {ty : TypeId} {pos : String} {after : Array Edge} {g : Option (Nat × Bool)} {K : Value → World → Prop}
end
end Go.Tb

set_option linter.unusedVariables false
set_option linter.unusedSimpArgs false
namespace Go.Tb
open Go.RowKit
section
variable {κ ν : Type}
/-- Where an entry lies. -/
def mfind (eq : κ → κ → Bool) (x : κ) : List κ → List MapEntry → Nat → Option (Nat × Value)
  | y :: ks, e :: es, i => if eq x y = true then some (i, e.val) else mfind eq x ks es (i + 1)
  | _, _, _ => none
/-- What a key's type must have: its values are asked for and compared ags eq says. -/
structure KeyOK (P : Program) (k : TypeId) (ek : κ → Value) (eq : κ → κ → Bool) : Prop where
  check : ∀ (w : World) (em : Bool) (x : κ), (Instr.checkKey em 10000 k (ek x)).run P w = .ok () w
  same : ∀ x y : κ, eq x y = true ↔ ek x = ek y
  find : ∀ (w : World) (x : κ) (es : List MapEntry) (ks : List κ), es.map (·.key) = ks.map ek → (Instr.findKey k (ek x) es).run P w = .ok (mfind eq x ks es 0) w
  stays : ∀ (w : World) (x : κ), (Instr.keyThatStays (ek x) (ek x)).run P w = .ok (ek x) w
def ekI (x : Int) : Value := .int .i64 x
def eqI (x y : Int) : Bool := x == y
theorem KeyOK.int {P : Program} {k : TypeId} (hk : P.underlying k = some (.int .i64)) : KeyOK P k ekI eqI where
  check w em x := MapKept.run_checkKey hk (show MapKept.IsKey (.int .i64) (.int .i64 x) from rfl) em 9999
  same x y := by simp [eqI, ekI]
  find w x es ks h := by
    refine MapKept.run_findKey hk ?_
    have : ∀ (es : List MapEntry) (ks : List Int) (i : Nat), es.map (·.key) = ks.map ekI → Instr.findNow (.int .i64) (ekI x) es i = some (mfind eqI x ks es i) := by
      intro es
      induction es with
      | nil => intro ks i h; cases ks <;> rfl
      | cons e es ih =>
        intro ks i h
        cases ks with
        | nil => simp at h
        | cons y ks =>
          simp only [List.map_cons, List.cons.injEq] at h
          unfold Instr.findNow mfind
          rw [h.1]
          have e1 : Instr.sameNow (.int .i64) (ekI x) (ekI y) = some (eqI x y) := by simp [Instr.sameNow, ekI, eqI]
          rw [e1]
          cases eqI x y
          · simpa using ih ks (i + 1) h.2
          · simp
    exact this es ks 0 h
  stays w x := MapKept.run_keyThatStays (show MapKept.IsKey (.int .i64) (.int .i64 x) from rfl)
theorem KeyOK.agg {P : Program} {k : TypeId} {d : TypeDesc} {ek : κ → Value} {eq : κ → κ → Bool} (ags : κ → Array Value) (hk : P.underlying k = some d) (hek : ∀ x, ek x = .agg (ags x)) (hc : ∀ (w : World) (em : Bool) (x : κ), (Instr.checkKey em 10000 k (.agg (ags x))).run P w = .ok () w)
    (he : ∀ (w : World) (x y : κ), (Op.equalIn 10000 k (.agg (ags x)) (.agg (ags y))).run P w = .ok (eq x y) w) (hs : ∀ x y : κ, eq x y = true ↔ ags x = ags y) (hb : ∀ x : κ, Instr.sameBits 10000 (.agg (ags x)) (.agg (ags x)) = true) : KeyOK P k ek eq where
  check w em x := by rw [hek]; exact hc w em x
  same x y := by rw [hs, hek, hek]; constructor <;> intro h <;> simp_all
  find w x es ks h := by
    have asking : ∀ (es : List MapEntry) (ks : List κ) (i : Nat), es.map (·.key) = ks.map ek → (Instr.findAsking k (ek x) es i).run P w = .ok (mfind eq x ks es i) w := by
      intro es
      induction es with
      | nil => intro ks i h; cases ks <;> rfl
      | cons e es ih =>
        intro ks i h
        cases ks with
        | nil => simp at h
        | cons y ks =>
          simp only [List.map_cons, List.cons.injEq] at h
          unfold Instr.findAsking mfind
          rw [h.1, hek, hek]
          have e1 : (Op.equal k (.agg (ags x)) (.agg (ags y))).run P w = .ok (eq x y) w := he w x y
          simp only [Sem.run_bind, e1, Result.andThen_ok, Sem.run_ite, Sem.run_pure]
          cases eq x y
          · have := ih ks (i + 1) h.2
            rw [hek] at this
            simpa using this
          · simp
    cases es with
    | nil => cases ks <;> simp [Instr.findKey, run_underlying hk, Result.andThen, Instr.findNow, mfind]
    | cons e es =>
      cases ks with
      | nil => simp at h
      | cons y ks =>
        have e0 : e.key = ek y := by simp at h; exact h.1
        have e1 : Instr.findNow d (ek x) (e :: es) 0 = none := by
          unfold Instr.findNow
          rw [e0, hek, hek]
          simp [Instr.sameNow]
        simp only [Instr.findKey, Sem.run_bind, run_underlying hk, Result.andThen_ok, e1]
        exact asking _ _ 0 h
  stays w x := by rw [hek]; simp [Instr.keyThatStays, hb x]
end
section
variable {κ ν : Type} {P : Program} {k : TypeId} {ek : κ → Value} {ev : ν → Value} {eq : κ → κ → Bool} {w : World} {b : Nat} {m : List (κ × ν)}
end
section
variable {P : Program} {n : Nat} {ops : Array Oper} {Q : Exit → Env → World → Prop} {ρ : Env} {w : World}
variable {d : Option Tmp} {ty : TypeId} {pos : String} {after : Array Edge} {g : Option (Nat × Bool)} {K : Value → World → Prop}
end
section
variable {w0 w w' : World} {L : List Ck}
end
end Go.Tb

set_option linter.unusedVariables false
set_option linter.unusedSimpArgs false
namespace Go.Tb
open Go.RowKit
theorem Own.shrink {w : World} {A : Option Addr} {c : Nat} {e : TypeId} {k : Nat} {rows news : List (List Value)} (h : Own w A c e k (rows ++ news)) (hA : A ≠ none) : Own w A c e k rows := by
  refine ⟨?_, fun r hr => h.row r (List.mem_append.2 (.inl hr))⟩
  obtain ⟨h1, h2⟩ := h.own
  have hlen : ∀ l : List (List Value), (∀ r ∈ l, r.length = k) → l.flatten.length = l.length * k := fun l hl => by
    induction l with
    | nil => simp
    | cons r q ih =>
      simp only [List.flatten_cons, List.length_append, List.length_cons, Nat.succ_mul]
      rw [ih (fun r hr => hl r (List.mem_cons_of_mem _ hr)), hl r (List.mem_cons_self ..)]; omega
  have hr := hlen rows (fun r hr => h.row r (List.mem_append.2 (.inl hr)))
  refine ⟨hr, ?_⟩
  rcases h2 with ⟨hv, _⟩ | ⟨g, cap, cur, hv, hg, hh, hn, hm, hs, ht⟩
  · injection hv with hv1; exact absurd hv1 hA
  · injection hv with hv1 hv2 hv3
    subst hv1 hv3
    have hle : rows.length ≤ (rows ++ news).length := by simp
    refine .inr ⟨g, c, cur, rfl, hg, hh, Nat.le_trans hle hn, hm, hs, ?_⟩
    have hk : rows.length * k ≤ (rows ++ news).length * k := Nat.mul_le_mul_right _ hle
    rw [← Nat.min_eq_left hk, ← List.take_take, ht, List.flatten_append, ← hr, List.take_left]
section
variable {P : Program} {n : Nat} {ops : Array Oper} {Q : Exit → Env → World → Prop} {ρ : Env} {w : World}
variable {d : Option Tmp} {ty : TypeId} {pos : String} {after : Array Edge} {g : Option (Nat × Bool)} {K : Value → World → Prop}
end
section
variable {w0 w w' : World} {L : List Ck}
end
end Go.Tb

set_option linter.unusedVariables false
set_option linter.unusedSimpArgs false
namespace Go.Tb
open Go.RowKit
section
variable {P : Program} {n : Nat} {ops : Array Oper} {Q : Exit → Env → World → Prop} {ρ : Env} {w : World}
variable {d : Option Tmp} {ty : TypeId} {pos : String} {after : Array Edge} {g : Option (Nat × Bool)} {K : Value → World → Prop}
end
theorem Own.ne {w : World} {A : Option Addr} {c : Nat} {e : TypeId} {k : Nat} {rows : List (List Value)} (h : Own w A c e k rows) (hr : rows ≠ []) : A ≠ none := by
  rintro rfl
  rcases h.blk with ⟨_, h1, _⟩ | ⟨b, sp, h1, _⟩
  · exact hr h1
  · cases h1
end Go.Tb

set_option linter.unusedVariables false
set_option linter.unusedSimpArgs false
namespace Go.Tb
open Go.RowKit
structure FitsD (n : Nat) (ds : List Deferred) (ρ : Env) (a : Act) : Prop where
  defers : a.defers = ds
  fits : Fits n ρ { a with defers := [] }
def liftD (n : Nat) (ds : List Deferred) (Q : Exit → Env → World → Prop) : Exit → Act → World → Prop := fun e a w => ∃ ρ, FitsD n ds ρ a ∧ Q e ρ w
def CWD (P : Program) (n : Nat) (ds : List Deferred) (c : Code) (Q : Exit → Env → World → Prop) (ρ : Env) (w : World) : Prop := ∀ a, FitsD n ds ρ a → c.wp P (liftD n ds Q) a w
def LWD (P : Program) (n : Nat) (ds : List Deferred) (ops : Array Oper) (Q : Exit → Env → World → Prop) (l : List Oper) (ρ : Env) (w : World) : Prop := ∀ a, FitsD n ds ρ a → wpList P ops (liftD n ds Q) l a w
section
variable {P : Program} {n : Nat} {ds : List Deferred} {ops : Array Oper} {Q : Exit → Env → World → Prop} {ρ : Env} {w : World}
theorem eval_defers (a : Act) (l : List Deferred) : ({ a with defers := l } : Act).eval = a.eval := by
  funext x; cases x <;> rfl
theorem OW.toD {o : Oper} {K : Value → World → Prop} (h : OW P n Q o ρ w K) {a : Act} (ha : FitsD n ds ρ a) : wpV P o a w K (fun c w' => Q (.panic c) ρ w') := by
  have := h _ ha.fits
  unfold wpV at this ⊢
  rw [eval_defers] at this
  exact this
theorem FitsD.upd {a : Act} (h : FitsD n ds ρ a) {d : Option Nat} (hd : okDst n d = true) (v : Value) : FitsD n ds (Tb.upd ρ d v) (a.put d v) := by
  have := h.fits.upd hd v
  refine ⟨?_, ?_⟩
  · cases d <;> exact h.defers
  · cases d <;> exact this
theorem LWD.go {o : Oper} {rest : List Oper} (hg : o.guard = none) (hd : okDst n o.dst = true) (h : OW P n Q o ρ w (fun v w' => LWD P n ds ops Q rest (upd ρ o.dst v) w')) : LWD P n ds ops Q (o :: rest) ρ w := fun a ha => by
  unfold wpList
  rw [if_pos (by simp [Region.wanted, hg])]
  exact .inl (wp_of_wpV (h.toD ha) (fun v w' hk => hk _ (ha.upd hd v)) (fun c w' hk => ⟨ρ, ha, hk⟩))
theorem LWD.pure {o : Oper} {rest : List Oper} {v : Value} (hg : o.guard = none) (hd : okDst n o.dst = true) (h : RV P n o ρ w v) (k : LWD P n ds ops Q rest (upd ρ o.dst v) w) : LWD P n ds ops Q (o :: rest) ρ w :=
  LWD.go hg hd (OW.value h k)
theorem LWD.nil (h : Q .normal ρ w) : LWD P n ds ops Q [] ρ w := fun _ ha => wpList_nil ⟨ρ, ha, h⟩
theorem CWD.region {id : Nat} {l : List Oper} (h : LWD P n ds l.toArray Q l ρ w) : CWD P n ds (.region id l.toArray false) Q ρ w := fun a ha => wp_region_lit (h a ha)
theorem CWD.seq {x y : Code} (h : CWD P n ds x (thenE (fun ρ w => CWD P n ds y Q ρ w) Q) ρ w) : CWD P n ds (.seq x y) Q ρ w := fun a ha => by
  refine wp_seq (wp_mono (h a ha) fun e a' w' hq => ?_)
  obtain ⟨ρ', hf, hq⟩ := hq
  cases e <;> first | exact hq a' hf | exact ⟨ρ', hf, hq⟩
theorem CWD.ret (h : Q .ret ρ w) : CWD P n ds .ret Q ρ w := fun _ ha => wp_ret ⟨ρ, ha, h⟩
variable {d : Option Tmp} {ty : TypeId} {pos : String} {after : Array Edge} {g : Option (Nat × Bool)} {K : Value → World → Prop}
end
end Go.Tb
namespace Go.Tb
theorem Fits.empty {n : Nat} {a : Act} (hd : a.defers = []) (hs : a.tmps.size = n) : Fits n [] a := ⟨hd, hs, fun t v h => by simp [Tb.look] at h⟩
theorem Fits.add {n k : Nat} {v : Value} {ρ : Env} {a : Act} (h : Fits n ρ a) (hv : a.tmps[k]? = some v) : Fits n ((k, v) :: ρ) a := ⟨h.defers, h.size, fun t u hl => by
  unfold Tb.look at hl
  split at hl
  · rename_i hb
    have : k = t := Nat.eq_of_beq_eq_true hb
    subst this
    simp at hl; subst hl; exact hv
  · exact h.at_ t u hl⟩
end Go.Tb
namespace Go.Tb
section
variable {P : Program} {n : Nat} {ops : Array Oper} {Q : Exit → Act → World → Prop} {a : Act} {w : World} {ρ : Env}
end
end Go.Tb
namespace Go.Tb
section
variable {P : Program} {n : Nat} {ρ : Env} {w : World} {d : Option Tmp} {ty : TypeId} {pos : String} {after : Array Edge} {g : Option (Nat × Bool)}
end
end Go.Tb
namespace Go.Tb
section
variable {P : Program} {n : Nat} {ρ : Env} {w : World} {d : Option Tmp} {ty : TypeId} {pos : String} {after : Array Edge} {g : Option (Nat × Bool)}
end
end Go.Tb

set_option linter.unusedVariables false
namespace Go.Tb
structure SlT {α β : Type} (w : World) (A : Option Addr) (c k : Nat) (enc : (Option Addr × Nat) × α → List Value) (f : α → List β) (k2 : Nat) (enc2 : β → List Value) (l : List α) : Prop where
  ex : ∃ hs : List (Option Addr × Nat), hs.length = l.length ∧ Sl w A c k ((hs.zip l).map enc) ∧ ∀ (j : Nat) (h : Option Addr × Nat) (x : α), hs[j]? = some h → l[j]? = some x → Sl w h.1 h.2 k2 ((f x).map enc2)
section
variable {α β : Type} {w w' : World} {A : Option Addr} {c k k2 : Nat} {enc : (Option Addr × Nat) × α → List Value} {f : α → List β} {enc2 : β → List Value} {l : List α}
theorem SlT.ext (h : SlT w A c k enc f k2 enc2 l) (e : Ext w w') : SlT w' A c k enc f k2 enc2 l := by
  obtain ⟨hs, h1, h2, h3⟩ := h.ex
  exact ⟨hs, h1, h2.ext e, fun j h x hj hx => (h3 j h x hj hx).ext e⟩
theorem SlT.at_ (h : SlT w A c k enc f k2 enc2 l) {j : Nat} {x : α} (hx : l[j]? = some x) : ∃ (Aj : Option Addr) (cj : Nat), Cells w (elemPtr A k j) (enc ((Aj, cj), x)) ∧ Sl w Aj cj k2 ((f x).map enc2) := by
  obtain ⟨hs, h1, h2, h3⟩ := h.ex
  have hlt := lt_of_at hx
  have hh : hs[j]? = some hs[j] := by simp [h1, hlt]
  refine ⟨hs[j].1, hs[j].2, ?_, h3 j _ x hh hx⟩
  exact h2.at_ (enc := enc) (x := (hs[j], x)) (by simp [List.getElem?_zip_eq_some, hh, hx])
theorem SlT.addr (h : SlT w A c k enc f k2 enc2 l) {i : Int} (h0 : 0 ≤ i ∧ i < l.length) : ∃ a, A = some a := by
  obtain ⟨hs, h1, h2, _⟩ := h.ex
  exact h2.addr (i := i) (by simp [h1]; omega)
theorem SlT.max (h : SlT w A c k enc f k2 enc2 l) : (l.length : Int) ≤ 9223372036854775807 := by
  obtain ⟨hs, h1, h2, _⟩ := h.ex
  have := h2.max
  simp [h1] at this
  omega
theorem SlT.nil_ : SlT w none 0 k enc f k2 enc2 [] := ⟨⟨[], rfl, Sl.nil (by decide), fun j h l hj => by simp at hj⟩⟩
end
end Go.Tb

set_option linter.unusedVariables false
namespace Go.Tb
open Go.RowKit
section
variable {P : Program} {n : Nat} {ops : Array Oper} {Q : Exit → Env → World → Prop} {ρ : Env} {w : World} {d : Option Tmp} {ty : TypeId} {pos : String} {after : Array Edge} {g : Option (Nat × Bool)} {K : Value → World → Prop}
/-- What an assertion to the type q gives, with its word on whether it holds. -/
def AssertM (P : Program) (q : TypeId) (v r : Value) : Prop := ∀ (t : TypeId) (w : World), (Instr.typeAssert v t q true).run P w = .ok r w
theorem AssertM.yes {q : TypeId} {fs : TypeDesc} {v : Value} (hT : P.underlying q = some fs) (hn : (match fs with | .interface _ => true | _ => false) = false) : AssertM P q (.iface q v) (.tuple #[v, .bool true]) := fun t w => by
  simp only [Instr.typeAssert, Sem.run_bind, run_underlying hT, Result.andThen_ok]
  cases fs <;> simp_all
theorem zeroV_run {q : TypeId} {z : Value} (hz : tyZ P q = some z) (w : World) : (zeroValue q).run P w = .ok z w := by
  unfold tyZ at hz
  cases hi : P.info? q with
  | none => simp [hi] at hz
  | some i => simp [hi] at hz; simp [zeroValue, typeInfo, hi, hz]
theorem AssertM.no {q q' : TypeId} {fs : TypeDesc} {v z : Value} (hT : P.underlying q = some fs) (hn : (match fs with | .interface _ => true | _ => false) = false) (hz : tyZ P q = some z) (hq : q' ≠ q) : AssertM P q (.iface q' v) (.tuple #[z, .bool false]) := fun t w => by
  simp only [Instr.typeAssert, Sem.run_bind, run_underlying hT, Result.andThen_ok]
  cases fs <;> simp_all [zeroV_run hz]
theorem AssertM.nil {q : TypeId} {fs : TypeDesc} {z : Value} (hT : P.underlying q = some fs) (hn : (match fs with | .interface _ => true | _ => false) = false) (hz : tyZ P q = some z) : AssertM P q .nilIface (.tuple #[z, .bool false]) := fun t w => by
  simp only [Instr.typeAssert, Sem.run_bind, run_underlying hT, Result.andThen_ok]
  cases fs <;> simp_all [zeroV_run hz]
/-- A method called through an interface. -/
def CallsM (P : Program) (v : Value) (name : String) (args : List Value) (w : World) (R : Ending → World → Prop) : Prop :=
  ∃ (t : TypeId) (u : Value) (f : FuncId) (r : Value), v = .iface t u ∧ (∀ w, (method (P.types.size + Made.depth) t u name).run P w = .ok (f, r) w) ∧ callable P f = true ∧ Calls P f (r :: args).toArray w R
theorem OW.invoke {recv : Operand} {name : String} {args : Array Operand} {tys : Array TypeId} {vs : List Value} {v : Value} {R : Ending → World → Prop} (hx : ev ρ recv = some v) (hargs : evs ρ args.toList = some vs)
    (hc : CallsM P v name vs w R) (k : ∀ e w', R e w' → ∃ v, e = .returned v ∧ K v w') : OW P n Q ⟨d, .call ⟨.invoke recv name, args, tys⟩, ty, pos, after, g⟩ ρ w K := by
  obtain ⟨t, u, f, r, rfl, hm, hf, hc⟩ := hc
  refine OW.enters (f := f) (args := (r :: vs).toArray) (fun a ha => ?_) hc k
  have h1 : args.map a.eval = vs.toArray := by
    have := ha.evs hargs
    apply Array.toList_inj.1
    rw [Array.toList_map]; exact this
  have hx' := ha.ev hx
  simp only [execOp, resolve, hx', Sem.run_bind, Sem.run_pure, Result.andThen_ok, Go.invoke]
  rw [show (Array.map a.eval args) = vs.toArray from h1]
  have e0 : (#[Value.iface t u] ++ vs.toArray)[0]? = some (.iface t u) := by simp
  have e1 : (#[Value.iface t u] ++ vs.toArray).extract 1 (#[Value.iface t u] ++ vs.toArray).size = vs.toArray := by
    apply Array.toList_inj.1; simp
  simp only [e0, callMethod, Sem.run_bind]
  rw [e1]
  have hp : (program : Sem Program).run P w = .ok P w := rfl
  rw [hp]
  simp only [Result.andThen_ok, hm w]
  have e2 : (#[r] ++ vs.toArray) = (r :: vs).toArray := by
    apply Array.toList_inj.1; simp
  rw [e2]
  exact run_callFunc hf _
end
structure Sl3 {α : Type} (w : World) (A : Option Addr) (c k : Nat) (enc : α → List Value) (lll : List (List (List α))) : Prop where
  ex : ∃ hs : List (Option Addr × Nat), hs.length = lll.length ∧ Sl w A c 1 ((hs.zip lll).map encH) ∧ ∀ (j : Nat) (h : Option Addr × Nat) (l : List (List α)), hs[j]? = some h → lll[j]? = some l → Sl2 w h.1 h.2 k enc l
section
variable {α : Type} {w w' : World} {A : Option Addr} {c k : Nat} {enc : α → List Value} {ll : List (List (List α))}
theorem Sl3.ext (h : Sl3 w A c k enc ll) (e : Ext w w') : Sl3 w' A c k enc ll := by
  obtain ⟨hs, h1, h2, h3⟩ := h.ex
  exact ⟨hs, h1, h2.ext e, fun j h l hj hl => (h3 j h l hj hl).ext e⟩
theorem Sl3.at_ (h : Sl3 w A c k enc ll) {j : Nat} {l : List (List α)} (hl : ll[j]? = some l) : ∃ (Aj : Option Addr) (cj : Nat), Cells w (elemPtr A 1 j) [.slice Aj l.length cj] ∧ Sl2 w Aj cj k enc l := by
  obtain ⟨hs, h1, h2, h3⟩ := h.ex
  have hlt := lt_of_at hl
  have hh : hs[j]? = some hs[j] := by simp [h1, hlt]
  refine ⟨hs[j].1, hs[j].2, ?_, h3 j _ l hh hl⟩
  exact h2.at_ (enc := encH) (x := (hs[j], l)) (by simp [List.getElem?_zip_eq_some, hh, hl])
theorem Sl3.addr (h : Sl3 w A c k enc ll) {i : Int} (h0 : 0 ≤ i ∧ i < ll.length) : ∃ a, A = some a := by
  obtain ⟨hs, h1, h2, _⟩ := h.ex
  exact h2.addr (i := i) (by simp [h1]; omega)
theorem Sl3.nil_ : Sl3 w none 0 k enc ([] : List (List (List α))) := ⟨⟨[], rfl, Sl.nil (by decide), fun j h l hj => by simp at hj⟩⟩
theorem Sl3.one {A1 : Option Addr} {c1 : Nat} {l1 : List (List α)} (h : Sl w A c 1 ([((A1, c1), l1)].map encH)) (s1 : Sl2 w A1 c1 k enc l1) : Sl3 w A c k enc [l1] := by
  refine ⟨[(A1, c1)], rfl, h, fun j x l hj hl => ?_⟩
  match j, hj, hl with
  | 0, hj, hl => simp at hj hl; subst hj; subst hl; exact s1
end
end Go.Tb

set_option linter.unusedVariables false
set_option linter.unusedSimpArgs false
namespace Go.Tb
open Go.RowKit
section
variable {P : Program} {n : Nat} {ops : Array Oper} {Q : Exit → Env → World → Prop} {ρ : Env} {w : World}
variable {d : Option Tmp} {ty : TypeId} {pos : String} {after : Array Edge} {g : Option (Nat × Bool)} {K : Value → World → Prop}
theorem RV.sliceLHM {t e m bt : Nat} {z : List Value} {x y u s : Operand} {A : Option Addr} {len cap : Nat} {l h q : Int} (hT : tyS P t = some (e, m, bt, z)) (hx : ev ρ x = some (.slice A len cap)) (hy : ev ρ y = some (.int .i64 l)) (hu : ev ρ u = some (.int .i64 h)) (hs' : ev ρ s = some (.int .i64 q)) (h0 : 0 ≤ l ∧ l ≤ h ∧ h ≤ q ∧ q ≤ cap) :
    RV P n ⟨d, .slice t x (some y) (some u) (some s), ty, pos, after, g⟩ ρ w (.slice (cutA A (q.toNat) m l.toNat) (h.toNat - l.toNat) (q.toNat - l.toNat)) := fun a ha => by
  obtain ⟨hu', i', zv, hi, hs, _, _, _⟩ := tyS_spec hT
  have h1 : 0 ≤ h := by omega
  have h2 : l ≤ (h.toNat : Int) := by omega
  have h3 : 0 ≤ q := by omega
  have h4 : h ≤ (q.toNat : Int) := by omega
  have h5 : h ≤ max q 0 := by omega
  have h6 : l ≤ max h 0 := by omega
  simp [execOp, ha.ev hx, ha.ev hy, ha.ev hu, ha.ev hs', Instr.sliceAt, Instr.slice, run_underlying hu', Instr.sliceBounds, Instr.sliceBound, asIntOf, h0.1, h0.2.1, h0.2.2.1, h0.2.2.2, h1, h2, h3, h4, h5, h6, sizeOf, typeInfo, hi, hs, cutA]
  try omega
theorem Mod.refl (w : World) (A : Option Addr) : Mod w w A := ⟨rfl, rfl, rfl, Nat.le_refl _, fun _ _ _ => rfl⟩
theorem Mod.trans {w w1 w2 : World} {A : Option Addr} (a : Mod w w1 A) (b : Mod w1 w2 A) : Mod w w2 A :=
  ⟨b.os.trans a.os, b.tape.trans a.tape, b.output.trans a.output, Nat.le_trans a.size b.size, fun k hk hn => (b.block k (Nat.lt_of_lt_of_le hk a.size) hn).trans (a.block k hk hn)⟩
theorem Mod.of_ext {w w1 : World} {A : Option Addr} (a : Ext w w1) : Mod w w1 A := ⟨a.os, a.tape, a.output, a.size, fun k hk hn => Below.block a k hk⟩
/-- append to a beginning of an owned slice, of so many elements that what lies there is long enough. -/
theorem OW.appendOver {α : Type} {enc : α → List Value} {l xs zs : List α} {t e m bt : Nat} {z : List Value} {x y : Operand} {b c cs q r : Nat} {As : Option Addr} (hT : tyS P t = some (e, m, bt, z)) (hx : ev ρ x = some (.slice (some ⟨b, 0, none⟩) q c)) (hq : q = l.length) (hy : ev ρ y = some (.slice As r cs)) (hr0 : r = xs.length)
    (own : Own w (some ⟨b, 0, none⟩) c e m ((l ++ zs).map enc)) (hA : ∃ a, As = some a) (src : Sl w As cs m (xs.map enc)) (hk : ∀ u, (enc u).length = m) (h1 : ∀ u, (enc u).all Value.oneCell' = true) (hm0 : Nat.blt 0 m = true) (hroom : xs.length ≤ zs.length)
    (k : ∀ w', Own w' (some ⟨b, 0, none⟩) c e m ((l ++ xs ++ zs.drop xs.length).map enc) → Mod w w' (some ⟨b, 0, none⟩) → K (.slice (some ⟨b, 0, none⟩) (l ++ xs).length c) w') :
    OW P n Q ⟨d, .call ⟨.builtin .append, #[x, y], #[t, t]⟩, ty, pos, after, g⟩ ρ w K := by
  subst hq hr0
  obtain ⟨hu, i, zv, hi, hs1, hs2, hs3, hs4⟩ := tyS_spec hT
  have hm0' : 0 < m := by simpa [Nat.blt_eq] using hm0
  subst hs1
  obtain ⟨a, rfl⟩ := hA
  rcases own.own.2 with ⟨hv, hn⟩ | ⟨g', cap, cur, hv, hbg, hg, hnc, hcm, hcs, htake⟩
  · injection hv with hv1; cases hv1
  · injection hv with hv1 hv2 hv3
    cases hv1
    subst hv3
    have hF : ∀ p : List α, (p.map enc).flatten.length = p.length * i.size := fun p => by rw [← List.flatMap_def, len_flatMap hk]
    have hol := hF l
    have hnl := hF xs
    have hzl := hF zs
    have hxr : ∀ r ∈ xs.map enc, r.length = i.size := fun r hr => by
      obtain ⟨u, _, rfl⟩ := List.mem_map.1 hr
      exact hk u
    have hcell : ∀ (j : Nat) (u : Value), (xs.map enc).flatten[j]? = some u → w.cell? (a.add j) = some u := by
      intro j u hj
      have hjl : j < xs.length * i.size := by rw [← hnl]; exact (List.getElem?_eq_some_iff.1 hj).1
      have hq : j / i.size < xs.length := (Nat.div_lt_iff_lt_mul hm0').2 hjl
      have hr : (xs.map enc)[j / i.size]? = some (enc xs[j / i.size]) := by simp [hq]
      obtain ⟨hl, _, hc⟩ := src.row (j / i.size) _ hr
      have hmod : j % i.size < i.size := Nat.mod_lt _ hm0'
      have hv : (enc xs[j / i.size])[j % i.size]? = some ((enc xs[j / i.size])[j % i.size]'(by omega)) := by simp [hl, hmod]
      have hf := flatten_row hxr (j / i.size) _ hr (j % i.size) _ hv
      have hjm : j / i.size * i.size + j % i.size = j := by rw [Nat.mul_comm]; exact Nat.div_add_mod j i.size
      rw [hjm, hj] at hf
      have := hc (j % i.size) _ hv
      simp only [elemPtr, Option.getD_some, add_add, hjm] at this
      rw [this, ← Option.some.inj hf]
    have hone : ∀ u ∈ (xs.map enc).flatten, u.oneCell' = true := by
      intro u hu'
      obtain ⟨r, hr, hur⟩ := List.mem_flatten.1 hu'
      obtain ⟨q, _, rfl⟩ := List.mem_map.1 hr
      exact List.all_eq_true.1 (h1 q) u hur
    have hlz : ((l ++ zs).map enc).length = l.length + zs.length := by simp
    rw [hlz] at htake hnc
    have hflat : ((l ++ zs).map enc).flatten = (l.map enc).flatten ++ (zs.map enc).flatten := by rw [List.map_append, List.flatten_append]
    rw [hflat] at htake
    have hlen2 : ((l.map enc).flatten ++ (zs.map enc).flatten).length = (l.length + zs.length) * i.size := by rw [List.length_append, hol, hzl, Nat.add_mul]
    -- what lies there is the list and the rest
    obtain ⟨rest, hrest⟩ : ∃ rest, cur.toList = (l.map enc).flatten ++ (zs.map enc).flatten ++ rest := ⟨cur.toList.drop ((l.length + zs.length) * i.size), by rw [← htake, List.take_append_drop]⟩
    have hxz : xs.length * i.size ≤ zs.length * i.size := Nat.mul_le_mul_right _ hroom
    have hcz : cur.size = (l.length + zs.length) * i.size + rest.length := by
      have := congrArg List.length hrest
      rw [List.length_append, hlen2] at this
      simpa using this
    have hfit : l.length * i.size + (xs.map enc).flatten.length ≤ cur.size := by rw [hnl, hcz, Nat.add_mul]; omega
    have hr := run_append_room (P := P) w t ty e i hu hi b l.length c cur hg a xs.length cs (xs.map enc).flatten hnl hcell hone (by omega) hfit
    refine OW.value (w' := w.setRow b (cur.toList.take (l.length * i.size) ++ (xs.map enc).flatten ++ cur.toList.drop (l.length * i.size + (xs.map enc).flatten.length)).toArray) (v := .slice (some ⟨b, 0, none⟩) (l.length + xs.length) c) (fun a ha => by
      simp only [execOp, resolve, ha.ev hx, ha.ev hy, Go.invoke, builtin] at hr ⊢
      simp [execOp, resolve, ha.ev hx, ha.ev hy, Go.invoke, builtin, hr]) ?_
    have hz2 : ((zs.drop xs.length).map enc).flatten = (zs.map enc).flatten.drop (xs.length * i.size) := by
      have e : zs.map enc = (zs.take xs.length).map enc ++ (zs.drop xs.length).map enc := by rw [← List.map_append, List.take_append_drop]
      have e2 : ((zs.take xs.length).map enc).flatten.length = xs.length * i.size := by rw [hF, List.length_take, Nat.min_eq_left hroom]
      rw [e, List.flatten_append, ← e2, List.drop_left]
    have hnew : cur.toList.take (l.length * i.size) ++ (xs.map enc).flatten ++ cur.toList.drop (l.length * i.size + (xs.map enc).flatten.length) = ((l ++ xs ++ zs.drop xs.length).map enc).flatten ++ rest := by
      rw [hrest, hnl, List.map_append, List.map_append, List.flatten_append, List.flatten_append, hz2, List.append_assoc (l.map enc).flatten]
      have t1 : List.take (l.length * i.size) ((l.map enc).flatten ++ ((zs.map enc).flatten ++ rest)) = (l.map enc).flatten := by rw [← hol, List.take_left]
      have t2 : List.drop (l.length * i.size + xs.length * i.size) ((l.map enc).flatten ++ ((zs.map enc).flatten ++ rest)) = (zs.map enc).flatten.drop (xs.length * i.size) ++ rest := by
        rw [← hol, ← List.drop_drop, List.drop_left, List.drop_append_of_le_length (by rw [hzl]; exact hxz)]
      rw [t1, t2]; simp [List.append_assoc]
    have hll : (l ++ xs ++ zs.drop xs.length).length = l.length + zs.length := by simp; omega
    have hrow : ∀ r ∈ (l ++ xs ++ zs.drop xs.length).map enc, r.length = i.size := fun r hr => by
      obtain ⟨u, _, rfl⟩ := List.mem_map.1 hr
      exact hk u
    have := k (w.setRow b (cur.toList.take (l.length * i.size) ++ (xs.map enc).flatten ++ cur.toList.drop (l.length * i.size + (xs.map enc).flatten.length)).toArray) ⟨⟨?_, .inr ⟨b, c, _, rfl, hbg, setRow_heap w b cur _ e _ hg, ?_, hcm, ?_, ?_⟩⟩, hrow⟩ ⟨rfl, rfl, rfl, by simp, fun k _ hk => setRow_other w b k _ (fun e => hk (by simp [blkOf, e]))⟩
    · rw [List.length_append] at this; exact this
    · rw [hF, List.length_map]
    · rw [List.length_map, hll]; exact hnc
    · rw [hnew]
      simp only [List.size_toArray, List.length_append]
      rw [hF, hll, ← hcs, hcz]
    · rw [hnew, List.length_map, ← hF]
      exact List.take_left
end
section
variable {α : Type} {w : World} {A : Option Addr} {c e k : Nat} {enc : α → List Value} {l : List α}
theorem Own.at0 (h : Own w A c e k (l.map enc)) (h0 : 0 < l.length) : ∃ b, A = some ⟨b, 0, none⟩ := by
  rcases h.own.2 with ⟨hv, hn⟩ | ⟨g, cap, cur, hv, r⟩
  · simp at hn; simp [hn] at h0
  · injection hv with hv1
    exact ⟨g, hv1⟩
end
section
variable {w0 w w' : World} {L : List Ck}
end
end Go.Tb

set_option linter.unusedVariables false
namespace Go.D3
open Go.Tb Go.Core
def core_both (a0 : Core) (a1 : Core) : Option Int :=
  bnd (core_Validate a0) fun r1 =>
  if r1 = 0 then
    bnd (core_Validate a1) fun r2 =>
    if r2 = 0 then
      if a0.layers = a1.layers then
        some ((0 : Int))
      else
        some ((1 : Int))
    else
      some r2
  else
    some r1
def ref03_two (a0 : Core) (a1 : Core) : Option Int :=
  bnd (ref03_Validate a0) fun r1 =>
  if r1 = 0 then
    bnd (ref03_Validate a1) fun r2 =>
    if r2 = 0 then
      if a0.layers = a1.layers then
        some ((0 : Int))
      else
        some ((1 : Int))
    else
      some r2
  else
    some r1
end Go.D3

set_option linter.unusedVariables false
set_option linter.unusedSimpArgs false
namespace Go.D3
open Go.Tb Go.Core
def twoE (c d : Core) : Int := if validate c = 0 then (if validate d = 0 then (if c.layers = d.layers then 0 else 1) else validate d) else validate c
section
variable {c d : Core}
theorem both_eq (hc : c.bounds.length ≤ 100) (hd : d.bounds.length ≤ 100) : core_both c d = some (twoE c d) ∧ ref03_two c d = some (twoE c d) := by
  unfold core_both ref03_two twoE
  rw [bnd_eq (Validate_eq c hc), bnd_eq (rValidate_eq c hc), bnd_eq (Validate_eq d hd), bnd_eq (rValidate_eq d hd)]
  by_cases h1 : validate c = 0
  · rw [if_pos h1, if_pos h1]
    by_cases h2 : validate d = 0
    · rw [if_pos h2, if_pos h2]
      by_cases h3 : c.layers = d.layers
      · rw [if_pos h3, if_pos h3]; exact ⟨rfl, rfl⟩
      · rw [if_neg h3, if_neg h3]; exact ⟨rfl, rfl⟩
    · rw [if_neg h2, if_neg h2]; exact ⟨rfl, rfl⟩
  · rw [if_neg h1, if_neg h1]; exact ⟨rfl, rfl⟩
end
end Go.D3

set_option linter.unusedVariables false
set_option linter.unusedSimpArgs false
namespace Go.D3
open Go.Tb Go.Proofs Go.RowKit Go.Core
theorem Tc74 : callable Try.prog 74 = true := by kernel_rfl
set_option maxRecDepth 20000 in
set_option maxHeartbeats 1000000 in
theorem core_both_ok {a0 : Core} {a1 : Core} {A_a0_bounds : Option Addr} {c_a0_bounds : Nat} {A_a1_bounds : Option Addr} {c_a1_bounds : Nat} {w : World} {res : Int} (h_a0_bounds : Sl w A_a0_bounds c_a0_bounds 3 (a0.bounds.map encBound)) (h_a1_bounds : Sl w A_a1_bounds c_a1_bounds 3 (a1.bounds.map encBound)) (F : core_both a0 a1 = some res) : Calls Try.prog 74 #[.agg #[.int .i64 a0.layers, .slice A_a0_bounds a0.bounds.length c_a0_bounds], .agg #[.int .i64 a1.layers, .slice A_a1_bounds a1.bounds.length c_a1_bounds]] w (Rt w (.int .i64 res)) := by
  refine calls_of_cw (args := [.agg #[.int .i64 a0.layers, .slice A_a0_bounds a0.bounds.length c_a0_bounds], .agg #[.int .i64 a1.layers, .slice A_a1_bounds a1.bounds.length c_a1_bounds]]) Try.func74 rfl rfl rfl rfl ?_
  have H := Hp.start w
  have R0 := H.ext
  unfold core_both at F
  refine CW.seq fun K1 hK1 => ?_
  refine CW.region ?_
  refine LW.go rfl rfl (OW.box rfl fun b1 w1 N1 => ?_)
  replace H := H.new N1 N1.blk
  replace R0 := H.ext
  refine LW.go rfl rfl (OW.box rfl fun b2 w2 N2 => ?_)
  replace H := H.new N2 N2.blk
  replace R0 := H.ext
  refine LW.pure rfl rfl (RV.assign rfl) ?_
  refine LW.nil (hK1 _ _ ?_)
  refine CW.seq fun K2 hK2 => ?_
  refine CW.seq fun K3 hK3 => ?_
  obtain ⟨r1, hr1, F⟩ := bnd_some F
  refine CW.region ?_
  refine LW.pure rfl rfl (RV.loadA [.int .i64 a0.layers, .slice A_a0_bounds a0.bounds.length c_a0_bounds] Tk24 rfl (H.blk 1 rfl).cells rfl rfl) ?_
  refine LW.go rfl rfl (OW.call Tc36 rfl (core_Validate_ok (a0 := a0) (h_a0_bounds.ext R0) hr1) ?_)
  rintro _ w3 ⟨rfl, E1⟩
  refine ⟨_, rfl, ?_⟩
  replace H := H.grow E1
  replace R0 := H.ext
  refine LW.pure rfl rfl (RV.assign rfl) ?_
  refine LW.nil (hK3 _ _ ?_)
  refine CW.seq fun K4 hK4 => ?_
  refine CW.region ?_
  refine LW.pure rfl rfl (RV.move rfl) ?_
  refine LW.pure rfl rfl (RV.nei rfl rfl) ?_
  refine LW.nil (hK4 _ _ ?_)
  by_cases hp1 : r1 = 0
  ·
    replace F := ite_y hp1 F
    have hq1 := dec_t hp1
    refine CW.condF rfl (not_f hq1) ?_
    refine CW.skip (hK2 _ _ ?_)
    refine CW.seq fun K5 hK5 => ?_
    refine CW.seq fun K6 hK6 => ?_
    obtain ⟨r2, hr2, F⟩ := bnd_some F
    refine CW.region ?_
    refine LW.pure rfl rfl (RV.loadA [.int .i64 a1.layers, .slice A_a1_bounds a1.bounds.length c_a1_bounds] Tk24 rfl (H.blk 0 rfl).cells rfl rfl) ?_
    refine LW.go rfl rfl (OW.call Tc36 rfl (core_Validate_ok (a0 := a1) (h_a1_bounds.ext R0) hr2) ?_)
    rintro _ w4 ⟨rfl, E2⟩
    refine ⟨_, rfl, ?_⟩
    replace H := H.grow E2
    replace R0 := H.ext
    refine LW.pure rfl rfl (RV.assign rfl) ?_
    refine LW.nil (hK6 _ _ ?_)
    refine CW.seq fun K7 hK7 => ?_
    refine CW.region ?_
    refine LW.pure rfl rfl (RV.move rfl) ?_
    refine LW.pure rfl rfl (RV.nei rfl rfl) ?_
    refine LW.nil (hK7 _ _ ?_)
    by_cases hp2 : r2 = 0
    ·
      replace F := ite_y hp2 F
      have hq2 := dec_t hp2
      refine CW.condF rfl (not_f hq2) ?_
      refine CW.skip (hK5 _ _ ?_)
      refine CW.seq fun K8 hK8 => ?_
      refine CW.seq fun K9 hK9 => ?_
      refine CW.region ?_
      refine LW.pure rfl rfl (RV.fieldAddr Tf24_0 rfl) ?_
      refine LW.pure rfl rfl (RV.load1 Tk3 rfl ((H.blk 1 rfl).cells.off 0) rfl) ?_
      refine LW.pure rfl rfl (RV.fieldAddr Tf24_0 rfl) ?_
      refine LW.pure rfl rfl (RV.load1 Tk3 rfl ((H.blk 0 rfl).cells.off 0) rfl) ?_
      refine LW.pure rfl rfl (RV.nei rfl rfl) ?_
      refine LW.nil (hK9 _ _ ?_)
      by_cases hp3 : a0.layers = a1.layers
      ·
        replace F := ite_y hp3 F
        have hq3 := dec_t hp3
        refine CW.condF rfl (not_f hq3) ?_
        refine CW.skip (hK8 _ _ ?_)
        refine CW.seq fun K10 hK10 => ?_
        refine CW.region ?_
        refine LW.pure rfl rfl (RV.assign rfl) ?_
        refine LW.nil (hK10 _ _ ?_)
        refine CW.ret ?_
        obtain rfl := Option.some.inj F
        refine ⟨_, (ResOK.one rfl), ?_⟩
        refine ⟨(by first | rfl | simp), R0⟩
      ·
        replace F := ite_n hp3 F
        have hq3 := dec_f hp3
        refine CW.condT rfl (not_t hq3) ?_
        refine CW.seq fun K11 hK11 => ?_
        refine CW.region ?_
        refine LW.pure rfl rfl (RV.assign rfl) ?_
        refine LW.nil (hK11 _ _ ?_)
        refine CW.ret ?_
        obtain rfl := Option.some.inj F
        refine ⟨_, (ResOK.one rfl), ?_⟩
        refine ⟨(by first | rfl | simp), R0⟩
    ·
      replace F := ite_n hp2 F
      have hq2 := dec_f hp2
      refine CW.condT rfl (not_t hq2) ?_
      refine CW.seq fun K12 hK12 => ?_
      refine CW.region ?_
      refine LW.pure rfl rfl (RV.move rfl) ?_
      refine LW.pure rfl rfl (RV.assign rfl) ?_
      refine LW.nil (hK12 _ _ ?_)
      refine CW.ret ?_
      obtain rfl := Option.some.inj F
      refine ⟨_, (ResOK.one rfl), ?_⟩
      refine ⟨(by first | rfl | simp), R0⟩
  ·
    replace F := ite_n hp1 F
    have hq1 := dec_f hp1
    refine CW.condT rfl (not_t hq1) ?_
    refine CW.seq fun K13 hK13 => ?_
    refine CW.region ?_
    refine LW.pure rfl rfl (RV.move rfl) ?_
    refine LW.pure rfl rfl (RV.assign rfl) ?_
    refine LW.nil (hK13 _ _ ?_)
    refine CW.ret ?_
    obtain rfl := Option.some.inj F
    refine ⟨_, (ResOK.one rfl), ?_⟩
    refine ⟨(by first | rfl | simp), R0⟩
end Go.D3

set_option linter.unusedVariables false
set_option linter.unusedSimpArgs false
namespace Go.Tb
open Go.RowKit
section
variable {α β : Type}
structure TbxH (A : Option Addr) (c to ko : Nat) (enc : (Option Addr × Nat) × α → List Value) (f : α → List β) (ti k2 : Nat) (enc2 : β → List Value) (hs : List (Option Addr × Nat)) (l : List α) (w : World) : Prop where
  len : hs.length = l.length
  outer : Own w A c to ko ((hs.zip l).map enc)
  row : ∀ (i : Nat) (h : Option Addr × Nat) (t : α), hs[i]? = some h → l[i]? = some t → Own w h.1 h.2 ti k2 ((f t).map enc2)
  ne : ∀ (i : Nat) (h : Option Addr × Nat) (b : Nat), hs[i]? = some h → b ∈ adB h.1 → b ∉ adB A
def tbxB (A : Option Addr) (hs : List (Option Addr × Nat)) : List Nat := adB A ++ hs.flatMap fun h => adB h.1
theorem mem_tbxB {A : Option Addr} {hs : List (Option Addr × Nat)} {b : Nat} : b ∈ tbxB A hs ↔ b ∈ adB A ∨ ∃ (i : Nat) (h : Option Addr × Nat), hs[i]? = some h ∧ b ∈ adB h.1 := by
  unfold tbxB
  simp only [List.mem_append, List.mem_flatMap]
  refine or_congr Iff.rfl ⟨?_, ?_⟩
  · rintro ⟨h, hm, hb⟩
    obtain ⟨i, hi⟩ := List.getElem?_of_mem hm
    exact ⟨i, h, hi, hb⟩
  · rintro ⟨i, h, hi, hb⟩
    exact ⟨h, List.mem_of_getElem? hi, hb⟩
variable {A : Option Addr} {c to ko : Nat} {enc : (Option Addr × Nat) × α → List Value} {f : α → List β} {ti k2 : Nat} {enc2 : β → List Value} {hs : List (Option Addr × Nat)} {l : List α} {w w' w0 : World} {L : List Ck}
theorem TbxH.keep (h : TbxH A c to ko enc f ti k2 enc2 hs l w) (hb : ∀ b ∈ tbxB A hs, w'.heap[b]? = w.heap[b]?) : TbxH A c to ko enc f ti k2 enc2 hs l w' :=
  ⟨h.len, h.outer.keep fun b h' => hb b (mem_tbxB.2 (.inl h')), fun i x t hx ht => (h.row i x t hx ht).keep fun b h' => hb b (mem_tbxB.2 (.inr ⟨i, x, hx, h'⟩)), h.ne⟩
theorem TbxH.lt (h : TbxH A c to ko enc f ti k2 enc2 hs l w) : ∀ b ∈ tbxB A hs, b < w.heap.size := by
  intro b hb
  rcases mem_tbxB.1 hb with hb | ⟨i, x, hx, hb⟩
  · exact h.outer.lt b hb
  · have hl : i < l.length := by rw [← h.len]; exact lt_of_at hx
    exact (h.row i x l[i] hx (by simp [hl])).lt b hb
theorem TbxH.holds (h : TbxH A c to ko enc f ti k2 enc2 hs l w) : (Ck.inv (tbxB A hs) (TbxH A c to ko enc f ti k2 enc2 hs l)).holds w :=
  ⟨h.lt, h, fun w1 w2 _ hb q => q.keep hb⟩
end
section
variable {P : Program} {n : Nat} {ops : Array Oper} {Q : Exit → Env → World → Prop} {ρ : Env} {w : World}
variable {d : Option Tmp} {ty : TypeId} {pos : String} {after : Array Edge} {g : Option (Nat × Bool)} {K : Value → World → Prop}
end
section
variable {w0 w w' : World} {L M : List Ck}
theorem ModX.frz {X : Nat → Prop} {A : Option Addr} (hs : w.heap.size ≤ w'.heap.size) (hk : ∀ k, k < w.heap.size → k ∉ adB A → w'.heap[k]? = w.heap[k]?) (hX : ∀ a, A = some a → X a.block) : ModX X w w' :=
  ⟨hs, fun k hk' hn => hk k hk' fun hc => by
    obtain ⟨a, rfl, rfl⟩ := mem_adB.1 hc
    exact hn (hX a rfl)⟩
/-- A chunk that does not change while others do. -/
def frz (w : World) (x : Ck) : Ck := .inv x.bl fun w' => x.holds w' ∧ ∀ b ∈ x.bl, w'.heap[b]? = w.heap[b]?
theorem frz_holds {x : Ck} (h : x.holds w) : (frz w x).holds w :=
  ⟨Ck.lt h, ⟨h, fun _ _ => rfl⟩, fun w1 w2 _ h2 h3 => ⟨Ck.keep h3.1 h2, fun b hb => (h2 b hb).trans (h3.2 b hb)⟩⟩
/-- What a call does not name stays as it was. -/
theorem Hp.freeze {a : Ck} (h : Hp w0 w ([a] ++ L)) : ∃ R, Hp w0 w ([a] ++ R) ∧ ∀ (w' : World) (a' : Ck) (M : List Ck), a'.bl = a.bl → Hp w0 w' (([a'] ++ M) ++ R) → Hp w0 w' (([a'] ++ M) ++ L) ∧ w.heap.size ≤ w'.heap.size ∧ ∀ k, k < w.heap.size → k ∉ a.bl → w'.heap[k]? = w.heap[k]? := by
  let bs : List Nat := (List.range w.heap.size).filter fun b => decide (w0.heap.size ≤ b) && !(([a] ++ L).any fun x => decide (b ∈ x.bl))
  have mem : ∀ b, b ∈ bs ↔ b < w.heap.size ∧ w0.heap.size ≤ b ∧ ∀ x ∈ [a] ++ L, b ∉ x.bl := fun b => by
    simp only [bs, List.mem_filter, List.mem_range, Bool.and_eq_true, decide_eq_true_eq, Bool.not_eq_true', List.any_eq_false, decide_eq_true_eq]
  let E : Ck := .inv bs fun w' => ∀ b ∈ bs, w'.heap[b]? = w.heap[b]?
  have hE : E.holds w := ⟨fun b hb => ((mem b).1 hb).1, fun _ _ => rfl, fun w1 w2 _ h2 h3 b hb => (h2 b hb).trans (h3 b hb)⟩
  have hl : ∀ (i : Nat), i < L.length → (L.map (frz w) ++ [E])[i]? = (L[i]?).map (frz w) := fun i hi => by
    rw [List.getElem?_append_left (by rw [List.length_map]; exact hi), List.getElem?_map]
  have cs : ∀ (i : Nat) (x : Ck), ([a] ++ (L.map (frz w) ++ [E]))[i]? = some x → (∃ y, ([a] ++ L)[i]? = some y ∧ y.bl = x.bl ∧ (y.holds w → x.holds w)) ∨ (i = L.length + 1 ∧ x = E) := by
    intro i x hx
    cases i with
    | zero =>
      simp at hx; subst hx
      exact .inl ⟨a, by simp, rfl, id⟩
    | succ i =>
      have hx' : (L.map (frz w) ++ [E])[i]? = some x := by simpa using hx
      by_cases hi : i < L.length
      · rw [hl i hi] at hx'
        have e : L[i]? = some L[i] := by simp [hi]
        rw [e] at hx'
        simp only [Option.map_some] at hx'
        refine .inl ⟨L[i], by simp, ?_, fun hh => ?_⟩
        · rw [← Option.some.inj hx']; rfl
        · rw [← Option.some.inj hx']; exact frz_holds hh
      · have hle := lt_of_at hx'
        simp only [List.length_append, List.length_map, List.length_singleton] at hle
        have e : i = L.length := by omega
        rw [List.getElem?_append_right (by rw [List.length_map]; omega), List.length_map, e, Nat.sub_self] at hx'
        simp at hx'
        exact .inr ⟨by omega, hx'.symm⟩
  refine ⟨L.map (frz w) ++ [E], ⟨h.ext, fun i x hx => ?_, fun i j x y hx hy hij b hb => ?_, fun i x hx b hb => ?_⟩, fun w' a' M hbl h' => ?_⟩
  · rcases cs i x hx with ⟨y, hy, _, hh⟩ | ⟨_, rfl⟩
    · exact hh (h.holds i y hy)
    · exact hE
  · rcases cs i x hx with ⟨p, hp, ep, _⟩ | ⟨e1, rfl⟩ <;> rcases cs j y hy with ⟨q, hq, eq, _⟩ | ⟨e2, rfl⟩
    · rw [← eq]; exact h.disj i j p q hp hq hij b (by rw [ep]; exact hb)
    · intro hc
      exact ((mem b).1 hc).2.2 p (List.mem_of_getElem? hp) (by rw [ep]; exact hb)
    · intro hc
      rw [← eq] at hc
      exact ((mem b).1 hb).2.2 q (List.mem_of_getElem? hq) hc
    · exact absurd (e1.trans e2.symm) hij
  · rcases cs i x hx with ⟨y, hy, ey, _⟩ | ⟨_, rfl⟩
    · exact h.fresh i y hy b (by rw [ey]; exact hb)
    · exact ((mem b).1 hb).2.1
  · -- behind the call
    have at2 : ∀ (i : Nat) (y : Ck), L[i]? = some y → (([a'] ++ M) ++ (L.map (frz w) ++ [E]))[([a'] ++ M).length + i]? = some (frz w y) := fun i y hy => by
      rw [List.getElem?_append_right (by omega), Nat.add_sub_cancel_left, hl i (lt_of_at hy), hy]; rfl
    have atE : (([a'] ++ M) ++ (L.map (frz w) ++ [E]))[([a'] ++ M).length + L.length]? = some E := by
      rw [List.getElem?_append_right (by omega), Nat.add_sub_cancel_left, List.getElem?_append_right (by rw [List.length_map]; exact Nat.le_refl _), List.length_map, Nat.sub_self]; rfl
    have old : ∀ (i : Nat) (x : Ck), (([a'] ++ M) ++ L)[i]? = some x → ∃ z, (([a'] ++ M) ++ (L.map (frz w) ++ [E]))[i]? = some z ∧ z.bl = x.bl ∧ (z.holds w' → x.holds w') := by
      intro i x hx
      by_cases hi : i < ([a'] ++ M).length
      · rw [List.getElem?_append_left hi] at hx
        exact ⟨x, by rw [List.getElem?_append_left hi]; exact hx, rfl, id⟩
      · rw [List.getElem?_append_right (by omega)] at hx
        have := at2 _ x hx
        rw [show ([a'] ++ M).length + (i - ([a'] ++ M).length) = i by omega] at this
        exact ⟨frz w x, this, rfl, fun hz => hz.2.1.1⟩
    have same : ∀ k, k < w.heap.size → k ∉ a.bl → w'.heap[k]? = w.heap[k]? := by
      intro k hk hn
      by_cases h1 : k < w0.heap.size
      · rw [Below.block h'.ext k h1, Below.block h.ext k h1]
      · by_cases h2 : ∃ x ∈ L, k ∈ x.bl
        · obtain ⟨x, hx, hb⟩ := h2
          obtain ⟨i, hi⟩ := List.getElem?_of_mem hx
          exact (h'.holds _ _ (at2 i x hi)).2.1.2 k hb
        · have hm : k ∈ bs := (mem k).2 ⟨hk, by omega, fun x hx hb => by
            rcases List.mem_append.1 hx with hx | hx
            · rw [List.mem_singleton.1 hx] at hb; exact hn hb
            · exact h2 ⟨x, hx, hb⟩⟩
          exact (h'.holds _ _ atE).2.1 k hm
    refine ⟨⟨h'.ext, fun i x hx => ?_, fun i j x y hx hy hij b hb => ?_, fun i x hx b hb => ?_⟩, ?_, same⟩
    · obtain ⟨z, hz, _, hh⟩ := old i x hx
      exact hh (h'.holds i z hz)
    · obtain ⟨z, hz, ez, _⟩ := old i x hx
      obtain ⟨u, hu, eu, _⟩ := old j y hy
      rw [← eu]
      exact h'.disj i j z u hz hu hij b (by rw [ez]; exact hb)
    · obtain ⟨z, hz, ez, _⟩ := old i x hx
      exact h'.fresh i z hz b (by rw [ez]; exact hb)
    · rcases Nat.eq_zero_or_pos w.heap.size with h0 | h0
      · omega
      · by_cases hin : w.heap.size - 1 ∈ a.bl
        · have := Ck.lt (h'.holds 0 a' (by simp)) (w.heap.size - 1) (by rw [hbl]; exact hin)
          omega
        · have e := same (w.heap.size - 1) (by omega) hin
          rw [Array.getElem?_eq_getElem (show w.heap.size - 1 < w.heap.size by omega)] at e
          have := (Array.getElem?_eq_some_iff.1 e).1
          omega
end
end Go.Tb

set_option linter.unusedVariables false
set_option linter.unusedSimpArgs false
namespace Go.Tb
open Go.RowKit
section
variable {w0 w w' : World} {L M : List Ck}
end
end Go.Tb
namespace Go.Tb
open Go.RowKit
section
variable {P : Program} {n : Nat} {ops : Array Oper} {Q : Exit → Env → World → Prop} {ρ : Env} {w : World}
variable {d : Option Tmp} {ty : TypeId} {pos : String} {after : Array Edge} {g : Option (Nat × Bool)} {K : Value → World → Prop}
end
end Go.Tb
namespace Go.Tb
end Go.Tb
namespace Go.Tb
section
variable {w0 w w' : World} {L M : List Ck}
/-- All the handles of old are still there. -/
def Cov (hs' hs : List (Option Addr × Nat)) : Prop := ∀ x ∈ hs, x ∈ hs'
theorem Cov.refl (hs : List (Option Addr × Nat)) : Cov hs hs := fun _ h => h
theorem Cov.trans {a b c : List (Option Addr × Nat)} (h : Cov a b) (h' : Cov b c) : Cov a c := fun x hx => h x (h' x hx)
end
end Go.Tb
namespace Go.Tb
end Go.Tb

set_option linter.unusedVariables false
set_option linter.unusedSimpArgs false
namespace Go.D3s
open Go.Tb Go.Proofs Go.RowKit
theorem Tc112 : callable Try.prog 112 = true := by kernel_rfl
theorem Tk3 : tyK Try.prog 3 = some (false, 1) := by kernel_rfl
theorem Ts43 : tyS Try.prog 43 = some (3, 1, 8, [.int .i64 0]) := by kernel_rfl
def cmp_isNaN_int (a0 : Int) : Option Bool :=
  some (!(decide (a0 = a0)))
def cmp_Compare_int (a0 : Int) (a1 : Int) : Option Int :=
  bnd (cmp_isNaN_int a0) fun r1 =>
  bnd (cmp_isNaN_int a1) fun r2 =>
  if r1 = true then
    if r2 = true then
      some ((0 : Int))
    else
      some ((-1 : Int))
  else
    if r2 = true then
      some ((1 : Int))
    else
      if a0 < a1 then
        some ((-1 : Int))
      else
        if a1 < a0 then
          some ((1 : Int))
        else
          some ((0 : Int))
def cmp_Or_int_k1 : Option Int :=
  some ((0 : Int))
def cmp_Or_int_B1 (a0 : List Int) (rec1 : Int → Option Int) (t8_1 : Int) : Option Int :=
  if t8_1 < ((a0.length : Int)) then
    ix a0 t8_1 fun x1 =>
    if x1 = 0 then
      gd (InR (t8_1 + 1)) <|
      rec1 ((t8_1 + 1))
    else
      some x1
  else
    cmp_Or_int_k1
def cmp_Or_int_L1 (a0 : List Int) : Nat → Int → Option Int
  | 0, _ => none
  | n_ + 1, t8_1 => cmp_Or_int_B1 a0 (cmp_Or_int_L1 a0 n_) t8_1
theorem cmp_Or_int_L1_s {a0 : List Int} {m_ : Nat} {t8_1 : Int} {res : Int} (h : cmp_Or_int_L1 a0 m_ t8_1 = some res) : ∃ k, m_ = k + 1 ∧ cmp_Or_int_B1 a0 (cmp_Or_int_L1 a0 k) t8_1 = some res := by
  cases m_ with
  | zero => cases h
  | succ k => exact ⟨k, rfl, h⟩
def cmp_Or_int (a0 : List Int) : Option Int :=
  cmp_Or_int_L1 a0 FU (((0 : Int)))
set_option maxRecDepth 20000 in
set_option maxHeartbeats 1000000 in
theorem cmp_isNaN_int_ex {a0 : Int} {w : World} {res : Bool} (F : cmp_isNaN_int a0 = some res) : Calls Try.prog 112 #[.int .i64 a0] w (fun e w' => e = .returned (.bool res) ∧ w' = w) := by
  refine calls_of_cw (args := [.int .i64 a0]) Try.func112 rfl rfl rfl rfl ?_
  have R0 : Ext w w := Ext.refl w
  unfold cmp_isNaN_int at F
  refine CW.seq fun K1 hK1 => ?_
  refine CW.region ?_
  refine LW.pure rfl rfl (RV.assign rfl) ?_
  refine LW.nil (hK1 _ _ ?_)
  refine CW.seq fun K2 hK2 => ?_
  refine CW.region ?_
  refine LW.pure rfl rfl (RV.move rfl) ?_
  refine LW.pure rfl rfl (RV.move rfl) ?_
  refine LW.pure rfl rfl (RV.nei rfl rfl) ?_
  refine LW.pure rfl rfl (RV.assign rfl) ?_
  refine LW.nil (hK2 _ _ ?_)
  refine CW.ret ?_
  obtain rfl := Option.some.inj F
  refine ⟨_, (ResOK.one rfl), ?_⟩
  refine ⟨(by first | rfl | simp), rfl⟩
set_option maxRecDepth 20000 in
set_option maxHeartbeats 1000000 in
theorem cmp_Compare_int_ex {a0 : Int} {a1 : Int} {w : World} {res : Int} (F : cmp_Compare_int a0 a1 = some res) : Calls Try.prog 99 #[.int .i64 a0, .int .i64 a1] w (fun e w' => e = .returned (.int .i64 res) ∧ w' = w) := by
  refine calls_of_cw (args := [.int .i64 a0, .int .i64 a1]) Try.func99 rfl rfl rfl rfl ?_
  have R0 : Ext w w := Ext.refl w
  unfold cmp_Compare_int at F
  refine CW.seq fun K1 hK1 => ?_
  refine CW.region ?_
  refine LW.pure rfl rfl (RV.assign rfl) ?_
  refine LW.nil (hK1 _ _ ?_)
  refine CW.seq fun K2 hK2 => ?_
  obtain ⟨r1, hr1, F⟩ := bnd_some F
  refine CW.region ?_
  refine LW.pure rfl rfl (RV.move rfl) ?_
  refine LW.go rfl rfl (OW.call Tc112 rfl (cmp_isNaN_int_ex (a0 := a0) hr1) ?_)
  rintro _ w1 ⟨rfl, rfl⟩
  refine ⟨_, rfl, ?_⟩
  refine LW.pure rfl rfl (RV.assign rfl) ?_
  refine LW.nil (hK2 _ _ ?_)
  refine CW.seq fun K3 hK3 => ?_
  obtain ⟨r2, hr2, F⟩ := bnd_some F
  refine CW.region ?_
  refine LW.pure rfl rfl (RV.move rfl) ?_
  refine LW.go rfl rfl (OW.call Tc112 rfl (cmp_isNaN_int_ex (a0 := a1) hr2) ?_)
  rintro _ w2 ⟨rfl, rfl⟩
  refine ⟨_, rfl, ?_⟩
  refine LW.pure rfl rfl (RV.assign rfl) ?_
  refine LW.nil (hK3 _ _ ?_)
  refine CW.seq fun K4 hK4 => ?_
  refine CW.seq fun K5 hK5 => ?_
  refine CW.region ?_
  refine LW.pure rfl rfl (RV.move rfl) ?_
  refine LW.nil (hK5 _ _ ?_)
  by_cases hp1 : r1 = true
  ·
    replace F := ite_y hp1 F
    have hq1 : r1 = true := hp1
    refine CW.condT rfl hq1 ?_
    refine CW.seq fun K6 hK6 => ?_
    refine CW.seq fun K7 hK7 => ?_
    refine CW.region ?_
    refine LW.pure rfl rfl (RV.move rfl) ?_
    refine LW.nil (hK7 _ _ ?_)
    by_cases hp2 : r2 = true
    ·
      replace F := ite_y hp2 F
      have hq2 : r2 = true := hp2
      refine CW.condT rfl hq2 ?_
      refine CW.seq fun K8 hK8 => ?_
      refine CW.region ?_
      refine LW.pure rfl rfl (RV.assign rfl) ?_
      refine LW.nil (hK8 _ _ ?_)
      refine CW.ret ?_
      obtain rfl := Option.some.inj F
      refine ⟨_, (ResOK.one rfl), ?_⟩
      refine ⟨(by first | rfl | simp), rfl⟩
    ·
      replace F := ite_n hp2 F
      have hq2 : r2 = false := raw_f hp2
      refine CW.condF rfl hq2 ?_
      refine CW.skip (hK6 _ _ ?_)
      refine CW.seq fun K9 hK9 => ?_
      refine CW.region ?_
      refine LW.pure rfl rfl (RV.assign rfl) ?_
      refine LW.nil (hK9 _ _ ?_)
      refine CW.ret ?_
      obtain rfl := Option.some.inj F
      refine ⟨_, (ResOK.one rfl), ?_⟩
      refine ⟨(by first | rfl | simp), rfl⟩
  ·
    replace F := ite_n hp1 F
    have hq1 : r1 = false := raw_f hp1
    refine CW.condF rfl hq1 ?_
    refine CW.skip (hK4 _ _ ?_)
    refine CW.seq fun K10 hK10 => ?_
    refine CW.seq fun K11 hK11 => ?_
    refine CW.region ?_
    refine LW.pure rfl rfl (RV.move rfl) ?_
    refine LW.nil (hK11 _ _ ?_)
    by_cases hp3 : r2 = true
    ·
      replace F := ite_y hp3 F
      have hq3 : r2 = true := hp3
      refine CW.condT rfl hq3 ?_
      refine CW.seq fun K12 hK12 => ?_
      refine CW.region ?_
      refine LW.pure rfl rfl (RV.assign rfl) ?_
      refine LW.nil (hK12 _ _ ?_)
      refine CW.ret ?_
      obtain rfl := Option.some.inj F
      refine ⟨_, (ResOK.one rfl), ?_⟩
      refine ⟨(by first | rfl | simp), rfl⟩
    ·
      replace F := ite_n hp3 F
      have hq3 : r2 = false := raw_f hp3
      refine CW.condF rfl hq3 ?_
      refine CW.skip (hK10 _ _ ?_)
      refine CW.seq fun K13 hK13 => ?_
      refine CW.seq fun K14 hK14 => ?_
      refine CW.region ?_
      refine LW.pure rfl rfl (RV.move rfl) ?_
      refine LW.pure rfl rfl (RV.move rfl) ?_
      refine LW.pure rfl rfl (RV.lss rfl rfl) ?_
      refine LW.nil (hK14 _ _ ?_)
      by_cases hp4 : a0 < a1
      ·
        replace F := ite_y hp4 F
        have hq4 := dec_t hp4
        refine CW.condT rfl hq4 ?_
        refine CW.seq fun K15 hK15 => ?_
        refine CW.region ?_
        refine LW.pure rfl rfl (RV.assign rfl) ?_
        refine LW.nil (hK15 _ _ ?_)
        refine CW.ret ?_
        obtain rfl := Option.some.inj F
        refine ⟨_, (ResOK.one rfl), ?_⟩
        refine ⟨(by first | rfl | simp), rfl⟩
      ·
        replace F := ite_n hp4 F
        have hq4 := dec_f hp4
        refine CW.condF rfl hq4 ?_
        refine CW.skip (hK13 _ _ ?_)
        refine CW.seq fun K16 hK16 => ?_
        refine CW.seq fun K17 hK17 => ?_
        refine CW.region ?_
        refine LW.pure rfl rfl (RV.move rfl) ?_
        refine LW.pure rfl rfl (RV.move rfl) ?_
        refine LW.pure rfl rfl (RV.gtr rfl rfl) ?_
        refine LW.nil (hK17 _ _ ?_)
        by_cases hp5 : a1 < a0
        ·
          replace F := ite_y hp5 F
          have hq5 := dec_t hp5
          refine CW.condT rfl hq5 ?_
          refine CW.seq fun K18 hK18 => ?_
          refine CW.region ?_
          refine LW.pure rfl rfl (RV.assign rfl) ?_
          refine LW.nil (hK18 _ _ ?_)
          refine CW.ret ?_
          obtain rfl := Option.some.inj F
          refine ⟨_, (ResOK.one rfl), ?_⟩
          refine ⟨(by first | rfl | simp), rfl⟩
        ·
          replace F := ite_n hp5 F
          have hq5 := dec_f hp5
          refine CW.condF rfl hq5 ?_
          refine CW.skip (hK16 _ _ ?_)
          refine CW.seq fun K19 hK19 => ?_
          refine CW.region ?_
          refine LW.pure rfl rfl (RV.assign rfl) ?_
          refine LW.nil (hK19 _ _ ?_)
          refine CW.ret ?_
          obtain rfl := Option.some.inj F
          refine ⟨_, (ResOK.one rfl), ?_⟩
          refine ⟨(by first | rfl | simp), rfl⟩
set_option maxRecDepth 20000 in
set_option maxHeartbeats 1000000 in
theorem cmp_Or_int_ex {a0 : List Int} {A_a0 : Option Addr} {c_a0 : Nat} {w : World} {res : Int} (h_a0 : Sl w A_a0 c_a0 1 (a0.map encN)) (F : cmp_Or_int a0 = some res) : Calls Try.prog 98 #[.slice A_a0 a0.length c_a0] w (fun e w' => e = .returned (.int .i64 res) ∧ w' = w) := by
  refine calls_of_cw (args := [.slice A_a0 a0.length c_a0]) Try.func98 rfl rfl rfl rfl ?_
  have R0 : Ext w w := Ext.refl w
  unfold cmp_Or_int at F
  refine CW.seq fun K1 hK1 => ?_
  refine CW.region ?_
  refine LW.pure rfl rfl (RV.assign rfl) ?_
  refine LW.nil (hK1 _ _ ?_)
  refine CW.seq fun K2 hK2 => ?_
  refine CW.region ?_
  refine LW.pure rfl rfl (RV.assign rfl) ?_
  refine LW.nil (hK2 _ _ ?_)
  refine CW.seqJ (fun ρ wl1 => (cmp_Or_int_k1 = some res ∧ ρ = [(2, .int .i64 0), (3, .int .i64 0)] ∧ w = wl1)) ?_ ?_
  ·
    rintro _ _ ⟨F, rfl, rfl⟩
    have R0 : Ext w w := Ext.refl w
    unfold cmp_Or_int_k1 at F
    refine CW.seq fun K3 hK3 => ?_
    refine CW.region ?_
    refine LW.pure rfl rfl (RV.move rfl) ?_
    refine LW.pure rfl rfl (RV.assign rfl) ?_
    refine LW.nil (hK3 _ _ ?_)
    refine CW.ret ?_
    obtain rfl := Option.some.inj F
    refine ⟨_, (ResOK.one rfl), ?_⟩
    refine ⟨(by first | rfl | simp), rfl⟩
  ·
    intro K4 hK4 jK65
    refine CW.seq fun K5 hK5 => ?_
    refine CW.region ?_
    refine LW.pure rfl rfl (RV.move rfl) ?_
    refine LW.pure rfl rfl (RV.len Ts43 rfl) ?_
    refine LW.pure rfl rfl (RV.move rfl) ?_
    refine LW.nil (hK5 _ _ ?_)
    refine CW.block ?_
    refine CW.loop (fun meas ρ wl2 => ∃ (t8_1 : Int), cmp_Or_int_L1 a0 meas t8_1 = some res ∧ ρ = [(2, .int .i64 0), (3, .int .i64 0), (6, .slice A_a0 a0.length c_a0), (7, .int .i64 ((a0.length : Int))), (8, .int .i64 t8_1)] ∧ w = wl2) FU ⟨_, ?_, ((0 : Int)), F, rfl, rfl⟩ ?_
    · exact ⟨rfl, rfl, rfl, rfl, rfl, trivial⟩
    rintro mk1 _ _ ⟨t8_1, F, rfl, rfl⟩
    have R0 : Ext w w := Ext.refl w
    replace F := cmp_Or_int_L1_s F
    obtain ⟨mk1, rfl, F⟩ := F
    generalize hrec1 : cmp_Or_int_L1 a0 mk1 = rec1 at F
    unfold cmp_Or_int_B1 at F
    refine CW.seq fun K6 hK6 => ?_
    refine CW.region ?_
    refine LW.pure rfl rfl (RV.lss rfl rfl) ?_
    refine LW.nil (hK6 _ _ ?_)
    refine CW.seq fun K7 hK7 => ?_
    by_cases hp1 : t8_1 < ((a0.length : Int))
    ·
      replace F := ite_y hp1 F
      have hq1 := dec_t hp1
      refine CW.condT rfl hq1 ?_
      refine CW.skip (hK7 _ _ ?_)
      refine CW.seq fun K8 hK8 => ?_
      refine CW.block ?_
      refine CW.seq fun K9 hK9 => ?_
      obtain ⟨x1, hbx1, hx1, F⟩ := ix_some F
      refine CW.region ?_
      refine LW.pure rfl rfl (RV.indexAddr Ts43 rfl rfl hbx1 (h_a0.addr_ hx1)) ?_
      refine LW.pure rfl rfl (RV.load1 Tk3 rfl ((h_a0.at_ hx1).ext R0) rfl) ?_
      refine LW.pure rfl rfl (RV.assign rfl) ?_
      refine LW.nil (hK9 _ _ ?_)
      refine CW.seq fun K10 hK10 => ?_
      refine CW.region ?_
      refine LW.pure rfl rfl (RV.move rfl) ?_
      refine LW.pure rfl rfl (RV.move rfl) ?_
      refine LW.pure rfl rfl (RV.nei rfl rfl) ?_
      refine LW.nil (hK10 _ _ ?_)
      by_cases hp2 : x1 = 0
      ·
        replace F := ite_y hp2 F
        have hq2 := dec_t hp2
        refine CW.condF rfl (not_f hq2) ?_
        refine CW.skip (hK8 _ _ ?_)
        obtain ⟨hg1, F⟩ := gd_some F
        refine CW.region ?_
        refine LW.pure rfl rfl (RV.add rfl rfl hg1) ?_
        refine LW.pure rfl rfl (RV.move rfl) ?_
        refine LW.nil ?_
        subst hrec1
        refine ⟨mk1, Nat.lt_succ_self _, _, ?_, (t8_1 + 1), F, rfl, rfl⟩
        exact ⟨rfl, rfl, rfl, rfl, rfl, trivial⟩
      ·
        replace F := ite_n hp2 F
        have hq2 := dec_f hp2
        refine CW.condT rfl (not_t hq2) ?_
        refine CW.seq fun K11 hK11 => ?_
        refine CW.region ?_
        refine LW.pure rfl rfl (RV.move rfl) ?_
        refine LW.pure rfl rfl (RV.assign rfl) ?_
        refine LW.nil (hK11 _ _ ?_)
        refine CW.ret ?_
        obtain rfl := Option.some.inj F
        refine ⟨_, (ResOK.one rfl), ?_⟩
        refine ⟨(by first | rfl | simp), rfl⟩
    ·
      replace F := ite_n hp1 F
      have hq1 := dec_f hp1
      refine CW.condF rfl hq1 ?_
      refine CW.exit (jK65 _ _ ⟨_, ?_, ⟨F, rfl, rfl⟩⟩)
      exact ⟨rfl, rfl, trivial⟩
end Go.D3s
