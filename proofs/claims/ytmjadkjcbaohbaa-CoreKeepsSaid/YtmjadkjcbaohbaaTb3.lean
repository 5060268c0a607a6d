/- Lemmas and walks that the proof of this claim uses: Tb3. -/
import Derived.Test.YtmjadkjcbaohbaaTb2
namespace Go.Tb
open Go.RowKit

section
variable {P : Program} {n : Nat} {ops : Array Oper} {Q : Exit → Env → World → Prop} {ρ : Env} {w : World}

/-! ### lists of operations -/
theorem LW.nil (h : Q .normal ρ w) : LW P n ops Q [] ρ w := fun _ ha => wpList_nil ⟨ρ, ha, h⟩

theorem LW.go {o : Oper} {rest : List Oper} (hg : o.guard = none) (hd : okDst n o.dst = true)
    (h : OW P n Q o ρ w (fun v w' => LW P n ops Q rest (upd ρ o.dst v) w')) : LW P n ops Q (o :: rest) ρ w := fun a ha => by
  unfold wpList
  rw [if_pos (by simp [Region.wanted, hg])]
  exact .inl (wp_of_wpV (h a ha) (fun v w' hk => hk _ (ha.upd hd v)) (fun c w' hk => ⟨ρ, ha, hk⟩))

/-- Its guard says yes. -/
theorem LW.yes {o : Oper} {rest : List Oper} {j t : Nat} {b : Bool} (hg : o.guard = some (j, b)) (hj : (ops[j]?).bind (·.dst) = some t) (hl : look ρ t = some (.bool b)) (hd : okDst n o.dst = true)
    (h : OW P n Q o ρ w (fun v w' => LW P n ops Q rest (upd ρ o.dst v) w')) : LW P n ops Q (o :: rest) ρ w := fun a ha => by
  unfold wpList
  have := ha.at_ t _ hl
  rw [if_pos (by simp [Region.wanted, hg, yielded, hj, this])]
  exact .inl (wp_of_wpV (h a ha) (fun v w' hk => hk _ (ha.upd hd v)) (fun c w' hk => ⟨ρ, ha, hk⟩))

/-- Its guard says no. -/
theorem LW.no {o : Oper} {rest : List Oper} {j t : Nat} {b c : Bool} (hg : o.guard = some (j, b)) (hj : (ops[j]?).bind (·.dst) = some t) (hl : look ρ t = some (.bool c)) (hbc : (c == b) = false)
    (hd : okDst n o.dst = true) (h : LW P n ops Q rest (upd ρ o.dst undef) w) : LW P n ops Q (o :: rest) ρ w := fun a ha => by
  unfold wpList
  have := ha.at_ t _ hl
  rw [if_neg (by simp [Region.wanted, hg, yielded, hj, this]; intro e; subst e; simp at hbc)]
  exact h _ (ha.upd hd undef)

theorem CW.region {id : Nat} {l : List Oper} (h : LW P n l.toArray Q l ρ w) : CW P n (.region id l.toArray false) Q ρ w := fun a ha => wp_region_lit (h a ha)

/-! ### entering a function, and its end -/
def argEnv : Nat → List Value → Env
  | _, [] => []
  | i, v :: r => (i, v) :: argEnv (i + 1) r

theorem look_argEnv : ∀ (vs : List Value) (i t : Nat) (v : Value), look (argEnv i vs) t = some v → i ≤ t ∧ vs[t - i]? = some v
  | [], _, _, _, h => by simp [argEnv, look] at h
  | u :: r, i, t, v, h => by
    simp only [argEnv, look] at h
    split at h
    · rename_i hb
      have : i = t := Nat.eq_of_beq_eq_true hb
      subst this
      exact ⟨Nat.le_refl _, by simpa using h⟩
    · rename_i hb
      obtain ⟨h1, h2⟩ := look_argEnv r (i + 1) t v h
      refine ⟨by omega, ?_⟩
      rw [show t - i = (t - (i + 1)) + 1 by omega]
      simpa using h2

def ResOK (P : Program) (n : Nat) (rs : Array ResultVar) (ρ : Env) (w : World) (v : Value) : Prop :=
  ∀ (fn : Func) (a : Act), fn.results = rs → Fits n ρ a → (results fn a.tmps).run P w = .ok v w

def bodyE (P : Program) (n : Nat) (rs : Array ResultVar) (R : Ending → World → Prop) : Exit → Env → World → Prop
  | .normal, ρ, w | .ret, ρ, w => ∃ v, ResOK P n rs ρ w v ∧ R (.returned v) w
  | .panic chain, _, w => R (.panicked chain) w
  | .outgrown, _, w => R .outgrown w
  | _, _, _ => False

theorem calls_of_cw {f : FuncId} {fn : Func} {c : Code} {rs : Array ResultVar} {args : List Value} {R : Ending → World → Prop}
    (hf : P.funcs[f]? = some fn) (hb : fn.body = some c) (hn : fn.ntmps = n) (hr : fn.results = rs) (ha : Nat.ble args.length n = true)
    (h : CW P n c (bodyE P n rs R) (argEnv 0 args) w) : Calls P f args.toArray w R := by
  have ha' : args.length ≤ n := Nat.le_of_ble_eq_true ha
  refine calls_of_wp hf hb (wp_mono (h _ ⟨rfl, ?_, fun t v hl => ?_⟩) fun e a w' hq => ?_)
  · simp [hn]; omega
  · obtain ⟨_, h2⟩ := look_argEnv args 0 t v hl
    have hlt : t < args.length := by
      rcases Nat.lt_or_ge t args.length with h' | h'
      · exact h'
      · simp [List.getElem?_eq_none h'] at h2
    simp only [Nat.sub_zero] at h2
    rw [Array.getElem?_append_left (by simpa using hlt)]
    simpa using h2
  · obtain ⟨ρ', hf', hq⟩ := hq
    cases e with
    | normal => obtain ⟨v, h1, h2⟩ := hq; exact ⟨hf'.defers, v, h1 fn a hr hf', h2⟩
    | ret => obtain ⟨v, h1, h2⟩ := hq; exact ⟨hf'.defers, v, h1 fn a hr hf', h2⟩
    | panic ch => exact ⟨hf'.defers, hq⟩
    | outgrown => exact hq
    | exit id => exact hq.elim
    | goto l => exact hq.elim

theorem ResOK.none_ : ResOK P n #[] ρ w (.tuple #[]) := fun _ _ hr _ => results_none hr _ _ _
theorem ResOK.one {t : Nat} {v : Value} (h : look ρ t = some v) : ResOK P n #[.tmp t] ρ w v := fun fn a hr hf => by
  rw [results_tmp hr]
  have := hf.at_ t v h
  simp [this]

/-- One result, read. -/
def resAt (P : Program) (ρ : Env) (w : World) : ResultVar → Value → Prop
  | .tmp t, v => look ρ t = some v
  | .cell t ty, v => ∃ p, look ρ t = some (.pointer (some p)) ∧ (loadVar ty p).run P w = .ok v w

def resOf (tmps : Array Value) : ResultVar → Sem Value
  | .tmp t => pure (tmps.getD t undef)
  | .cell a t => do loadVar t (← asAddr (tmps.getD a undef))
theorem results_eq (fn : Func) (tmps : Array Value) : results fn tmps = (do let vs ← fn.results.mapM (resOf tmps); pure (if h : vs.size = 1 then vs[0] else .tuple vs)) := by
  unfold results
  congr 2
theorem resOf_run {r : ResultVar} {v : Value} (h : resAt P ρ w r v) {a : Act} (hf : Fits n ρ a) : (resOf a.tmps r).run P w = .ok v w := by
  cases r with
  | tmp t =>
    have := hf.at_ t v h
    simp [resOf, this]
  | cell x ty =>
    obtain ⟨p, hp, hr⟩ := h
    have := hf.at_ x _ hp
    simp [resOf, this, asAddr, hr]

theorem ResOK.two {r0 r1 : ResultVar} {v0 v1 : Value} (h0 : resAt P ρ w r0 v0) (h1 : resAt P ρ w r1 v1) : ResOK P n #[r0, r1] ρ w (.tuple #[v0, v1]) := fun fn a hr hf => by
  rw [results_eq, hr]
  simp [List.mapM_toArray, List.mapM_cons, resOf_run h0 hf, resOf_run h1 hf]
theorem ResOK.three {r0 r1 r2 : ResultVar} {v0 v1 v2 : Value} (h0 : resAt P ρ w r0 v0) (h1 : resAt P ρ w r1 v1) (h2 : resAt P ρ w r2 v2) : ResOK P n #[r0, r1, r2] ρ w (.tuple #[v0, v1, v2]) := fun fn a hr hf => by
  rw [results_eq, hr]
  simp [List.mapM_toArray, List.mapM_cons, resOf_run h0 hf, resOf_run h1 hf, resOf_run h2 hf]
theorem ResOK.cell1 {t ty : Nat} {v : Value} (h0 : resAt P ρ w (.cell t ty) v) : ResOK P n #[.cell t ty] ρ w v := fun fn a hr hf => by
  rw [results_eq, hr]
  simp [List.mapM_toArray, List.mapM_cons, resOf_run h0 hf]

/-! ### operations -/
variable {d : Option Tmp} {ty : TypeId} {pos : String} {after : Array Edge} {g : Option (Nat × Bool)} {K : Value → World → Prop}

theorem OW.value {o : Oper} {v : Value} {w' : World} (h : ∀ a, Fits n ρ a → (execOp a.eval o).run P w = .ok (.value v) w') (k : K v w') : OW P n Q o ρ w K := fun a ha => by
  unfold wpV
  rw [h a ha]
  exact k
theorem OW.skip_ {o : Oper} {w' : World} (h : ∀ a, Fits n ρ a → (execOp a.eval o).run P w = .ok .skip w') (k : K undef w') : OW P n Q o ρ w K := fun a ha => by
  unfold wpV
  rw [h a ha]
  exact k
/-- What an operation yields that leaves the world alone. -/
def RV (P : Program) (n : Nat) (o : Oper) (ρ : Env) (w : World) (v : Value) : Prop := ∀ a, Fits n ρ a → (execOp a.eval o).run P w = .ok (.value v) w
theorem LW.pure {o : Oper} {rest : List Oper} {v : Value} (hg : o.guard = none) (hd : okDst n o.dst = true) (h : RV P n o ρ w v) (k : LW P n ops Q rest (upd ρ o.dst v) w) : LW P n ops Q (o :: rest) ρ w :=
  LW.go hg hd (OW.value h k)
theorem LW.pureY {o : Oper} {rest : List Oper} {v : Value} {j t : Nat} {b : Bool} (hg : o.guard = some (j, b)) (hj : (ops[j]?).bind (·.dst) = some t) (hl : look ρ t = some (.bool b)) (hd : okDst n o.dst = true)
    (h : RV P n o ρ w v) (k : LW P n ops Q rest (upd ρ o.dst v) w) : LW P n ops Q (o :: rest) ρ w :=
  LW.yes hg hj hl hd (OW.value h k)

theorem RV.move {x : Operand} {v : Value} (hx : ev ρ x = some v) : RV P n ⟨d, .move x, ty, pos, after, g⟩ ρ w v :=
  (fun a ha => by simp [execOp, ha.ev hx])
theorem RV.assign {x : Operand} {v : Value} (hx : ev ρ x = some v) : RV P n ⟨d, .assign x, ty, pos, after, g⟩ ρ w v :=
  (fun a ha => by simp [execOp, ha.ev hx])
theorem RV.pickT {c x y : Operand} {v : Value} (hc : ev ρ c = some (.bool true)) (hx : ev ρ x = some v) : RV P n ⟨d, .pick c x y, ty, pos, after, g⟩ ρ w v :=
  (fun a ha => by simp [execOp, ha.ev hc, ha.ev hx, asBool])
theorem RV.pickF {c x y : Operand} {v : Value} (hc : ev ρ c = some (.bool false)) (hy : ev ρ y = some v) : RV P n ⟨d, .pick c x y, ty, pos, after, g⟩ ρ w v :=
  (fun a ha => by simp [execOp, ha.ev hc, ha.ev hy, asBool])

theorem RV.load1 {t m : Nat} {x : Operand} {p : Addr} {v : Value} {vs : List Value} (hT : tyK P t = some (false, m)) (hx : ev ρ x = some (.pointer (some p))) (hc : Cells w p vs) (hv : vs.head? = some v) : RV P n ⟨d, .load t x, ty, pos, after, g⟩ ρ w v :=
  (fun a ha => by
    have h0 : w.cell? p = some v := by
      have := hc 0 v (by cases vs <;> simp_all)
      exact this
    simp [execOp, ha.ev hx, Instr.loadAt, Instr.sureAddr, run_loadVar_cell hT h0])
theorem RV.loadA {t m : Nat} {x : Operand} {p : Addr} {vs : List Value} (us : List Value) (hT : tyK P t = some (true, m)) (hx : ev ρ x = some (.pointer (some p))) (hc : Cells w p vs) (hk : vs.take m = us) (hl : us.length = m) : RV P n ⟨d, .load t x, ty, pos, after, g⟩ ρ w (.agg us.toArray) :=
  (fun a ha => by simp [execOp, ha.ev hx, Instr.loadAt, Instr.sureAddr, run_loadVar_agg hT hc hk hl])

theorem OW.box {t : Nat} {x : Operand} {v : Value} (hx : ev ρ x = some v) (k : ∀ b w', New w w' b (.cells v.cells t) → K (.pointer (some ⟨b, 0, none⟩)) w') : OW P n Q ⟨d, .box t x, ty, pos, after, g⟩ ρ w K :=
  OW.value (w' := w.alloc (.cells v.cells t)) (fun a ha => by simp [execOp, ha.ev hx, Instr.box, newVar, newRow]) (k _ _ (New.mk' _ _))
theorem OW.alloc {t : Nat} {z : Value} (hz : tyZ P t = some z) (k : ∀ b w', New w w' b (.cells z.cells t) → K (.pointer (some ⟨b, 0, none⟩)) w') : OW P n Q ⟨d, .alloc t, ty, pos, after, g⟩ ρ w K :=
  OW.value (w' := w.alloc (.cells z.cells t)) (fun a ha => by
    have hz' : (zeroValue t).run P w = .ok z w := by
      unfold tyZ at hz
      cases hi : P.info? t with
      | none => simp [hi] at hz
      | some i => simp [hi] at hz; simp [zeroValue, typeInfo, hi, hz]
    simp [execOp, Instr.alloc, newVar, newRow, hz']) (k _ _ (New.mk' _ _))

theorem RV.fieldAddr {t f o : Nat} {x : Operand} {p : Addr} (hF : tyF P t f = some o) (hx : ev ρ x = some (.pointer (some p))) : RV P n ⟨d, .fieldAddr t x f, ty, pos, after, g⟩ ρ w (.pointer (some (p.add o))) :=
  (fun a ha => by
    unfold tyF at hF
    split at hF
    · rename_i fs hfs
      split at hF
      · rename_i fl hfl
        split at hF
        · rename_i i hi
          split at hF
          · cases hF
          · rename_i hne
            simp at hF; subst hF
            simp [execOp, ha.ev hx, Instr.fieldAt, run_underlying hfs, hfl, Instr.sureAddr, fieldPlace, sizeOf, typeInfo, hi, hne]
        · cases hF
      · cases hF
    · cases hF)

theorem RV.extract {x : Operand} {vs : Array Value} {i : Nat} {v : Value} (hx : ev ρ x = some (.tuple vs)) (hv : vs[i]? = some v) : RV P n ⟨d, .extract x i, ty, pos, after, g⟩ ρ w v :=
  (fun a ha => by simp [execOp, ha.ev hx, Instr.extract, hv])

theorem RV.not {t : Nat} {x : Operand} {b : Bool} (hx : ev ρ x = some (.bool b)) : RV P n ⟨d, .unOp .not t x, ty, pos, after, g⟩ ρ w (.bool (!b)) :=
  (fun a ha => by simp [execOp, ha.ev hx, Op.unary])

section ints
variable {t u : Nat} {x y : Operand} {i j : Int} {kd : IntKind}
theorem RV.lss (hx : ev ρ x = some (.int kd i)) (hy : ev ρ y = some (.int kd j)) : RV P n ⟨d, .binOp .lss t x y u, ty, pos, after, g⟩ ρ w (.bool (decide (i < j))) :=
  (fun a ha => by simp [execOp, ha.ev hx, ha.ev hy, eqGuard, binOp, Op.intCmp])
theorem RV.leq (hx : ev ρ x = some (.int kd i)) (hy : ev ρ y = some (.int kd j)) : RV P n ⟨d, .binOp .leq t x y u, ty, pos, after, g⟩ ρ w (.bool (decide (i ≤ j))) :=
  (fun a ha => by simp [execOp, ha.ev hx, ha.ev hy, eqGuard, binOp, Op.intCmp])
theorem RV.gtr (hx : ev ρ x = some (.int kd i)) (hy : ev ρ y = some (.int kd j)) : RV P n ⟨d, .binOp .gtr t x y u, ty, pos, after, g⟩ ρ w (.bool (decide (j < i))) :=
  (fun a ha => by simp [execOp, ha.ev hx, ha.ev hy, eqGuard, binOp, Op.intCmp])
theorem RV.geq (hx : ev ρ x = some (.int kd i)) (hy : ev ρ y = some (.int kd j)) : RV P n ⟨d, .binOp .geq t x y u, ty, pos, after, g⟩ ρ w (.bool (decide (j ≤ i))) :=
  (fun a ha => by simp [execOp, ha.ev hx, ha.ev hy, eqGuard, binOp, Op.intCmp])
theorem RV.eqi (hx : ev ρ x = some (.int kd i)) (hy : ev ρ y = some (.int kd j)) : RV P n ⟨d, .binOp .eql t x y u, ty, pos, after, g⟩ ρ w (.bool (decide (i = j))) :=
  (fun a ha => by
    have e : (i == j) = decide (i = j) := rfl
    simp [execOp, ha.ev hx, ha.ev hy, eqGuard, binOp, Op.intCmp, e])
theorem RV.nei (hx : ev ρ x = some (.int kd i)) (hy : ev ρ y = some (.int kd j)) : RV P n ⟨d, .binOp .neq t x y u, ty, pos, after, g⟩ ρ w (.bool (!decide (i = j))) :=
  (fun a ha => by
    have e : (i != j) = !decide (i = j) := rfl
    simp [execOp, ha.ev hx, ha.ev hy, eqGuard, binOp, Op.intCmp, e])

theorem wrap_id {z : Int} (h : -9223372036854775808 ≤ z ∧ z ≤ 9223372036854775807) : IntKind.i64.wrap z = z := IntWalk.i64_in _ (by omega)

theorem RV.add (hx : ev ρ x = some (.int .i64 i)) (hy : ev ρ y = some (.int .i64 j)) (h : -9223372036854775808 ≤ i + j ∧ i + j ≤ 9223372036854775807) : RV P n ⟨d, .binOp .add t x y u, ty, pos, after, g⟩ ρ w (.int .i64 (i + j)) :=
  (fun a ha => by simp [execOp, ha.ev hx, ha.ev hy, eqGuard, binOp, Op.intArith, wrap_id h])
theorem RV.sub (hx : ev ρ x = some (.int .i64 i)) (hy : ev ρ y = some (.int .i64 j)) (h : -9223372036854775808 ≤ i - j ∧ i - j ≤ 9223372036854775807) : RV P n ⟨d, .binOp .sub t x y u, ty, pos, after, g⟩ ρ w (.int .i64 (i - j)) :=
  (fun a ha => by simp [execOp, ha.ev hx, ha.ev hy, eqGuard, binOp, Op.intArith, wrap_id h])
theorem RV.mul (hx : ev ρ x = some (.int .i64 i)) (hy : ev ρ y = some (.int .i64 j)) (h : -9223372036854775808 ≤ i * j ∧ i * j ≤ 9223372036854775807) : RV P n ⟨d, .binOp .mul t x y u, ty, pos, after, g⟩ ρ w (.int .i64 (i * j)) :=
  (fun a ha => by simp [execOp, ha.ev hx, ha.ev hy, eqGuard, binOp, Op.intArith, wrap_id h])
theorem RV.neg (hx : ev ρ x = some (.int .i64 i)) (h : -9223372036854775808 ≤ -i ∧ -i ≤ 9223372036854775807) : RV P n ⟨d, .unOp .neg t x, ty, pos, after, g⟩ ρ w (.int .i64 (-i)) :=
  (fun a ha => by simp [execOp, ha.ev hx, Op.unary, Op.intArith, wrap_id h])
end ints

theorem eqGuard_bool (op : BinOp) (t : TypeId) (x y : Operand) (a b : Bool) : (eqGuard op t x y (.bool a) (.bool b)).run P w = .ok () w := by
  unfold eqGuard
  cases op <;> simp
theorem run_equalIn_bool (t : TypeId) (m : Nat) (a b : Bool) (hT : P.underlying t = some .bool) : (Op.equalIn (m + 1) t (.bool a) (.bool b)).run P w = .ok (a == b) w := by
  simp [Op.equalIn, run_underlying hT]
theorem run_binOp_eqb (t : TypeId) (a b : Bool) (hT : P.underlying t = some .bool) : (binOp .eql t (.bool a) (.bool b)).run P w = .ok (.bool (a == b)) w := by
  simp only [binOp]
  simp only [Op.equal, Op.maxDepth, Sem.run_bind, run_equalIn_bool (w := w) t 9999 a b hT, Result.andThen_ok, Sem.run_pure]
theorem run_binOp_neb (t : TypeId) (a b : Bool) (hT : P.underlying t = some .bool) : (binOp .neq t (.bool a) (.bool b)).run P w = .ok (.bool (!(a == b))) w := by
  simp only [binOp]
  simp only [Op.equal, Op.maxDepth, Sem.run_bind, run_equalIn_bool (w := w) t 9999 a b hT, Result.andThen_ok, Sem.run_pure]
theorem RV.eqb {t u : Nat} {x y : Operand} {a b : Bool} (hT : P.underlying t = some .bool) (hx : ev ρ x = some (.bool a)) (hy : ev ρ y = some (.bool b)) : RV P n ⟨d, .binOp .eql t x y u, ty, pos, after, g⟩ ρ w (.bool (a == b)) :=
  (fun c hc => by simp only [execOp, hc.ev hx, hc.ev hy, Sem.run_bind, eqGuard_bool, Result.andThen_ok, run_binOp_eqb t a b hT, Sem.run_pure])
theorem RV.neb {t u : Nat} {x y : Operand} {a b : Bool} (hT : P.underlying t = some .bool) (hx : ev ρ x = some (.bool a)) (hy : ev ρ y = some (.bool b)) : RV P n ⟨d, .binOp .neq t x y u, ty, pos, after, g⟩ ρ w (.bool (!(a == b))) :=
  (fun c hc => by simp only [execOp, hc.ev hx, hc.ev hy, Sem.run_bind, eqGuard_bool, Result.andThen_ok, run_binOp_neb t a b hT, Sem.run_pure])

/-! ### slices -/
def elemPtr (A : Option Addr) (k j : Nat) : Addr := (A.getD ⟨0, 0, none⟩).add (j * k)

theorem tyS_spec {t e k b : Nat} {z : List Value} (h : tyS P t = some (e, k, b, z)) : P.underlying t = some (.slice e) ∧ ∃ i zv, P.info? e = some i ∧ i.size = k ∧ i.bytes = b ∧ i.zero = some zv ∧ zv.cells.toList = z := by
  unfold tyS at h
  split at h
  · rename_i e' he
    split at h
    · rename_i i hi
      split at h
      · rename_i zv hz
        simp only [Option.some.injEq, Prod.mk.injEq] at h
        obtain ⟨rfl, h2, h3, h4⟩ := h
        exact ⟨he, i, zv, hi, h2, h3, hz, h4⟩
      · cases h
    · cases h
  · cases h

theorem RV.indexAddr {t e m b : Nat} {z : List Value} {x y : Operand} {A : Option Addr} {len cap : Nat} {i : Int} (hT : tyS P t = some (e, m, b, z)) (hx : ev ρ x = some (.slice A len cap)) (hy : ev ρ y = some (.int .i64 i))
    (h0 : 0 ≤ i ∧ i < len) (hA : ∃ a, A = some a) : RV P n ⟨d, .indexAddr t x y, ty, pos, after, g⟩ ρ w (.pointer (some (elemPtr A m i.toNat))) :=
  (fun a ha => by
    obtain ⟨hu, i', zv, hi, hs, _, _, _⟩ := tyS_spec hT
    obtain ⟨ad, rfl⟩ := hA
    simp [execOp, ha.ev hx, ha.ev hy, Instr.indexAt, asIntOf, run_underlying hu, h0.1, h0.2, sizeOf, typeInfo, hi, hs, elemPtr])

theorem RV.len {t e m b : Nat} {z : List Value} {x : Operand} {A : Option Addr} {len cap : Nat} (hT : tyS P t = some (e, m, b, z)) (hx : ev ρ x = some (.slice A len cap)) : RV P n ⟨d, .call ⟨.builtin .len, #[x], #[t]⟩, ty, pos, after, g⟩ ρ w (.int .i64 len) :=
  (fun a ha => by
    obtain ⟨hu, _⟩ := tyS_spec hT
    simp [execOp, resolve, ha.ev hx, invoke, builtin, Builtin.len_, run_underlying hu, goInt])

/-- A slice that reads as rows of k cells. -/
structure Sl (w : World) (A : Option Addr) (c k : Nat) (rows : List (List Value)) : Prop where
  len : rows.length ≤ c
  cap : c ≤ 9223372036854775807
  row : ∀ (j : Nat) (r : List Value), rows[j]? = some r → r.length = k ∧ (∃ a, A = some a) ∧ Cells w (elemPtr A k j) r
theorem Sl.ext {w w' : World} {A : Option Addr} {c k : Nat} {rows : List (List Value)} (h : Sl w A c k rows) (e : Ext w w') : Sl w' A c k rows :=
  ⟨h.len, h.cap, fun j r hj => let ⟨h1, h2, h3⟩ := h.row j r hj; ⟨h1, h2, h3.ext e⟩⟩
theorem Sl.nil {w : World} {A : Option Addr} {c k : Nat} (hc : c ≤ 9223372036854775807) : Sl w A c k [] := ⟨by simp, hc, fun j r h => by simp at h⟩
section
variable {α : Type} {w : World} {A : Option Addr} {c k : Nat} {enc : α → List Value} {l : List α}
theorem Sl.addr (h : Sl w A c k (l.map enc)) {i : Int} (h0 : 0 ≤ i ∧ i < l.length) : ∃ a, A = some a := by
  have : i.toNat < l.length := by omega
  exact (h.row i.toNat (enc l[i.toNat]) (by simp [this])).2.1
theorem Sl.at_ (h : Sl w A c k (l.map enc)) {j : Nat} {x : α} (hj : l[j]? = some x) : Cells w (elemPtr A k j) (enc x) :=
  (h.row j (enc x) (by simp [hj])).2.2
theorem Sl.le (h : Sl w A c k (l.map enc)) : l.length ≤ c := by simpa using h.len
theorem Sl.max (h : Sl w A c k (l.map enc)) : (l.length : Int) ≤ 9223372036854775807 := by have := h.le; have := h.cap; omega
end
theorem ex_at {α : Type} {l : List α} {j : Nat} (h : j < l.length) : ∃ x, l[j]? = some x := ⟨l[j], by simp [h]⟩

/-! ### calls -/
def callable (P : Program) (f : FuncId) : Bool :=
  match P.funcs[f]? with
  | some fn => !(fn.name == "runtime.NumGoroutine") && fn.body.isSome
  | none => false

theorem run_callFunc {f : FuncId} (h : callable P f = true) (args : Array Value) : (callFunc f args).run P w = .ok (.enter f args) w := by
  unfold callable at h
  cases hf : P.funcs[f]? with
  | none => simp [hf] at h
  | some fn =>
    simp [hf] at h
    cases hb : fn.body with
    | none => simp [hb] at h
    | some c => simp [callFunc, hf, h.1, hb]

theorem OW.enters {o : Oper} {f : FuncId} {args : Array Value} {R : Ending → World → Prop} (h : ∀ a, Fits n ρ a → (execOp a.eval o).run P w = .ok (.enter f args) w)
    (hc : Calls P f args w R) (k : ∀ e w', R e w' → ∃ v, e = .returned v ∧ K v w') : OW P n Q o ρ w K := fun a ha => by
  unfold wpV
  rw [h a ha]
  refine hc.mono fun e w' hr => ?_
  obtain ⟨v, rfl, hk⟩ := k e w' hr
  exact hk

theorem OW.call {f : FuncId} {args : Array Operand} {tys : Array TypeId} {vs : List Value} {R : Ending → World → Prop} (hf : callable P f = true) (hargs : evs ρ args.toList = some vs)
    (hc : Calls P f vs.toArray w R) (k : ∀ e w', R e w' → ∃ v, e = .returned v ∧ K v w') : OW P n Q ⟨d, .call ⟨.value (.func f), args, tys⟩, ty, pos, after, g⟩ ρ w K :=
  OW.enters (f := f) (args := vs.toArray) (fun a ha => by
    have h1 : args.map a.eval = vs.toArray := by
      have := ha.evs hargs
      apply Array.toList_inj.1
      rw [Array.toList_map]; exact this
    simp only [execOp, resolve, Act.eval, Deferred.ofValue, Sem.run_bind, Sem.run_pure, Result.andThen_ok, invoke]
    rw [show (Array.map a.eval args) = vs.toArray from h1]
    simpa using run_callFunc hf _) hc k
end
end Go.Tb
