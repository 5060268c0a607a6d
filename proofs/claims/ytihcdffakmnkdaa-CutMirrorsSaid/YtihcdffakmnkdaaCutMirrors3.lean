/- Lemmas and walks that the proof of this claim uses: D4m9, Tb29, Tb30, Tb31, Tb32, Tb34, Tb35, Tb37. -/
import Derived.Test.YtihcdffakmnkdaaCutMirrors2
set_option linter.unusedVariables false
set_option linter.unusedSimpArgs false
namespace Go.D4
open Go.Tb Go.Proofs Go.RowKit
theorem Tc43 : callable Try.prog 43 = true := by kernel_rfl
theorem Tc46 : callable Try.prog 46 = true := by kernel_rfl
set_option maxRecDepth 20000 in
set_option maxHeartbeats 1000000 in
theorem ref04_Same_ok {a0 : Bog} {a1 : Bog} {A_a0_worth : Option Addr} {c_a0_worth : Nat} {A_a1_worth : Option Addr} {c_a1_worth : Nat} {w : World} {res : Bool} (h_a0_worth : Sl2 w A_a0_worth c_a0_worth 1 encN a0.worth) (h_a1_worth : Sl2 w A_a1_worth c_a1_worth 1 encN a1.worth) (F : ref04_Same a0 a1 = some res) : Calls Try.prog 46 #[.agg #[.slice A_a0_worth a0.worth.length c_a0_worth], .agg #[.slice A_a1_worth a1.worth.length c_a1_worth]] w (Rt w (.bool res)) := by
  refine calls_of_cw (args := [.agg #[.slice A_a0_worth a0.worth.length c_a0_worth], .agg #[.slice A_a1_worth a1.worth.length c_a1_worth]]) Try.func46 rfl rfl rfl rfl ?_
  have H := Hp.start w
  have R0 := H.ext
  unfold ref04_Same at F
  refine CW.seq fun K1 hK1 => ?_
  refine CW.region ?_
  refine LW.go rfl rfl (OW.box rfl fun b1 w1 N1 => ?_)
  replace H := H.new N1 N1.blk
  replace R0 := H.ext
  refine LW.go rfl rfl (OW.box rfl fun b2 w2 N2 => ?_)
  replace H := H.new N2 N2.blk
  replace R0 := H.ext
  refine LW.pure rfl rfl (RV.assign rfl) ?_
  refine LW.nil (hK1 _ _ ?_)
  refine CW.seq fun K2 hK2 => ?_
  refine CW.seq fun K3 hK3 => ?_
  refine CW.region ?_
  refine LW.pure rfl rfl (RV.fieldAddr Tf24_0 rfl) ?_
  refine LW.pure rfl rfl (RV.load1 Tk22 rfl ((H.blk 1 rfl).cells.off 0) rfl) ?_
  refine LW.pure rfl rfl (RV.len Ts22 rfl) ?_
  refine LW.pure rfl rfl (RV.fieldAddr Tf24_0 rfl) ?_
  refine LW.pure rfl rfl (RV.load1 Tk22 rfl ((H.blk 0 rfl).cells.off 0) rfl) ?_
  refine LW.pure rfl rfl (RV.len Ts22 rfl) ?_
  refine LW.pure rfl rfl (RV.nei rfl rfl) ?_
  refine LW.nil (hK3 _ _ ?_)
  by_cases hp1 : ((a0.worth.length : Int)) = ((a1.worth.length : Int))
  ·
    replace F := ite_y hp1 F
    have hq1 := dec_t hp1
    refine CW.condF rfl (not_f hq1) ?_
    refine CW.skip (hK2 _ _ ?_)
    refine CW.seqJ (fun ρ wl1 => (ref04_Same_k1 = some res ∧ ρ = [(4, .bool false)] ∧ Hp w wl1 [])) ?_ ?_
    ·
      rintro _ wl1 ⟨F, rfl, H⟩
      have R0 := H.ext
      unfold ref04_Same_k1 at F
      refine CW.seq fun K4 hK4 => ?_
      refine CW.region ?_
      refine LW.pure rfl rfl (RV.assign rfl) ?_
      refine LW.nil (hK4 _ _ ?_)
      refine CW.ret ?_
      obtain rfl := Option.some.inj F
      refine ⟨_, (ResOK.one rfl), ?_⟩
      refine ⟨(by first | rfl | simp), R0⟩
    ·
      intro K5 hK5 jK59
      refine CW.seq fun K6 hK6 => ?_
      refine CW.region ?_
      refine LW.pure rfl rfl (RV.assign rfl) ?_
      refine LW.nil (hK6 _ _ ?_)
      refine CW.block ?_
      replace H := H.pick (L' := [.blk b1 24 [.slice A_a0_worth a0.worth.length c_a0_worth], .blk b2 24 [.slice A_a1_worth a1.worth.length c_a1_worth]]) [1, 0] (by decide) rfl
      replace R0 := H.ext
      refine CW.loop (fun meas ρ wl2 => ∃ (t5_1 : Int), ref04_Same_L1 a0 a1 meas t5_1 = some res ∧ ρ = [(2, .pointer (some (⟨b1, 0, none⟩))), (3, .pointer (some (⟨b2, 0, none⟩))), (4, .bool false), (5, .int .i64 t5_1)] ∧ Hp w wl2 [.blk b1 24 [.slice A_a0_worth a0.worth.length c_a0_worth], .blk b2 24 [.slice A_a1_worth a1.worth.length c_a1_worth]]) FU ⟨_, ?_, ((0 : Int)), F, rfl, H⟩ ?_
      · exact ⟨rfl, rfl, rfl, rfl, trivial⟩
      rintro mk1 _ wl2 ⟨t5_1, F, rfl, H⟩
      have R0 := H.ext
      replace F := ref04_Same_L1_s F
      obtain ⟨mk1, rfl, F⟩ := F
      generalize hrec1 : ref04_Same_L1 a0 a1 mk1 = rec1 at F
      unfold ref04_Same_B1 at F
      refine CW.seq fun K7 hK7 => ?_
      refine CW.seq fun K8 hK8 => ?_
      refine CW.region ?_
      refine LW.pure rfl rfl (RV.move rfl) ?_
      refine LW.pure rfl rfl (RV.fieldAddr Tf24_0 rfl) ?_
      refine LW.pure rfl rfl (RV.load1 Tk22 rfl ((H.blk 0 rfl).cells.off 0) rfl) ?_
      refine LW.pure rfl rfl (RV.len Ts22 rfl) ?_
      refine LW.pure rfl rfl (RV.lss rfl rfl) ?_
      refine LW.nil (hK8 _ _ ?_)
      by_cases hp2 : t5_1 < ((a0.worth.length : Int))
      ·
        replace F := ite_y hp2 F
        have hq2 := dec_t hp2
        refine CW.condT rfl hq2 ?_
        refine CW.skip (hK7 _ _ ?_)
        refine CW.seq fun K9 hK9 => ?_
        refine CW.block ?_
        refine CW.seq fun K10 hK10 => ?_
        obtain ⟨x1, hbx1, hx1, F⟩ := ix_some F
        obtain ⟨x2, hbx2, hx2, F⟩ := ix_some F
        obtain ⟨r1, hr1, F⟩ := bnd_some F
        refine CW.draw [] (fun _ => True) (.cons 0 1 (.cons 1 1 (.cons 2 1 (.cons 3 1 (.cons 4 1 (.cons 5 1 (.cons 6 1 (.cons 7 1 (.cons 8 1 (.cons 9 1 (.cons 10 0 (.cons 11 1 .nil)))))))))))) mixed (by kernel_rfl) fun w3 E1 => ?_
        replace H := H.grow E1
        replace R0 := H.ext
        refine DW.fix rfl rfl rfl (fun _ EQ => RV.fieldAddr Tf24_0 rfl) ?_
        refine DW.fix rfl rfl rfl (fun _ EQ => RV.load1 Tk22 rfl (((H.grow EQ).blk 0 rfl).cells.off 0) rfl) ?_
        refine DW.fix rfl rfl rfl (fun _ EQ => RV.move rfl) ?_
        obtain ⟨A1, c1, hC1, hS1⟩ := h_a0_worth.at_ hx1
        refine DW.fix rfl rfl rfl (fun _ EQ => RV.indexAddr Ts22 rfl rfl hbx1 (h_a0_worth.addr hbx1)) ?_
        refine DW.fix rfl rfl rfl (fun _ EQ => RV.load1 Tk25 rfl (hC1.ext (R0.trans EQ)) rfl) ?_
        refine DW.fix rfl rfl rfl (fun _ EQ => RV.fieldAddr Tf24_0 rfl) ?_
        refine DW.fix rfl rfl rfl (fun _ EQ => RV.load1 Tk22 rfl (((H.grow EQ).blk 1 rfl).cells.off 0) rfl) ?_
        refine DW.fix rfl rfl rfl (fun _ EQ => RV.move rfl) ?_
        obtain ⟨A2, c2, hC2, hS2⟩ := h_a1_worth.at_ hx2
        refine DW.fix rfl rfl rfl (fun _ EQ => RV.indexAddr Ts22 rfl rfl hbx2 (h_a1_worth.addr hbx2)) ?_
        refine DW.fix rfl rfl rfl (fun _ EQ => RV.load1 Tk25 rfl (hC2.ext (R0.trans EQ)) rfl) ?_
        refine DW.sole rfl rfl rfl (OW.call Tc21 rfl (ref04_SameInts_ok (a0 := x1) (a1 := x2) (hS1.ext R0) (hS2.ext R0) hr1) ?_)
        rintro _ w4 ⟨rfl, E2⟩
        refine ⟨_, rfl, fun _ => E2, ModX.ext E2, ?_⟩
        replace H := H.grow E2
        replace R0 := H.ext
        refine DW.fix rfl rfl rfl (fun _ EQ => RV.not rfl) ?_
        refine DW.nil (hK10 _ _ ?_)
        by_cases hp3 : r1 = true
        ·
          replace F := ite_y hp3 F
          have hq3 : r1 = true := hp3
          refine CW.condF rfl (not_f hq3) ?_
          refine CW.skip (hK9 _ _ ?_)
          obtain ⟨hg1, F⟩ := gd_some F
          refine CW.region ?_
          refine LW.pure rfl rfl (RV.move rfl) ?_
          refine LW.pure rfl rfl (RV.add rfl rfl hg1) ?_
          refine LW.pure rfl rfl (RV.assign rfl) ?_
          refine LW.nil ?_
          subst hrec1
          refine ⟨mk1, Nat.lt_succ_self _, _, ?_, (t5_1 + 1), F, rfl, H⟩
          exact ⟨rfl, rfl, rfl, rfl, trivial⟩
        ·
          replace F := ite_n hp3 F
          have hq3 : r1 = false := raw_f hp3
          refine CW.condT rfl (not_t hq3) ?_
          refine CW.seq fun K11 hK11 => ?_
          refine CW.region ?_
          refine LW.pure rfl rfl (RV.assign rfl) ?_
          refine LW.nil (hK11 _ _ ?_)
          refine CW.ret ?_
          obtain rfl := Option.some.inj F
          refine ⟨_, (ResOK.one rfl), ?_⟩
          refine ⟨(by first | rfl | simp), R0⟩
      ·
        replace F := ite_n hp2 F
        have hq2 := dec_f hp2
        refine CW.condF rfl hq2 ?_
        replace H := H.pick (L' := []) [] (by decide) rfl
        replace R0 := H.ext
        refine CW.exit (jK59 _ _ ⟨_, ?_, ⟨F, rfl, H⟩⟩)
        exact ⟨rfl, trivial⟩
  ·
    replace F := ite_n hp1 F
    have hq1 := dec_f hp1
    refine CW.condT rfl (not_t hq1) ?_
    refine CW.seq fun K12 hK12 => ?_
    refine CW.region ?_
    refine LW.pure rfl rfl (RV.assign rfl) ?_
    refine LW.nil (hK12 _ _ ?_)
    refine CW.ret ?_
    obtain rfl := Option.some.inj F
    refine ⟨_, (ResOK.one rfl), ?_⟩
    refine ⟨(by first | rfl | simp), R0⟩
end Go.D4

set_option linter.unusedVariables false
set_option linter.unusedSimpArgs false
namespace Go.Tb
open Go.RowKit
section
variable {P : Program} {n : Nat} {ops : Array Oper} {Q : Exit → Env → World → Prop} {ρ : Env} {w : World}
variable {d : Option Tmp} {ty : TypeId} {pos : String} {after : Array Edge} {g : Option (Nat × Bool)} {K : Value → World → Prop}
end
theorem Own.ne {w : World} {A : Option Addr} {c : Nat} {e : TypeId} {k : Nat} {rows : List (List Value)} (h : Own w A c e k rows) (hr : rows ≠ []) : A ≠ none := by
  rintro rfl
  rcases h.blk with ⟨_, h1, _⟩ | ⟨b, sp, h1, _⟩
  · exact hr h1
  · cases h1
end Go.Tb

set_option linter.unusedVariables false
set_option linter.unusedSimpArgs false
namespace Go.Tb
open Go.RowKit
structure FitsD (n : Nat) (ds : List Deferred) (ρ : Env) (a : Act) : Prop where
  defers : a.defers = ds
  fits : Fits n ρ { a with defers := [] }
def liftD (n : Nat) (ds : List Deferred) (Q : Exit → Env → World → Prop) : Exit → Act → World → Prop := fun e a w => ∃ ρ, FitsD n ds ρ a ∧ Q e ρ w
def CWD (P : Program) (n : Nat) (ds : List Deferred) (c : Code) (Q : Exit → Env → World → Prop) (ρ : Env) (w : World) : Prop := ∀ a, FitsD n ds ρ a → c.wp P (liftD n ds Q) a w
def LWD (P : Program) (n : Nat) (ds : List Deferred) (ops : Array Oper) (Q : Exit → Env → World → Prop) (l : List Oper) (ρ : Env) (w : World) : Prop := ∀ a, FitsD n ds ρ a → wpList P ops (liftD n ds Q) l a w
section
variable {P : Program} {n : Nat} {ds : List Deferred} {ops : Array Oper} {Q : Exit → Env → World → Prop} {ρ : Env} {w : World}
theorem eval_defers (a : Act) (l : List Deferred) : ({ a with defers := l } : Act).eval = a.eval := by
  funext x; cases x <;> rfl
theorem OW.toD {o : Oper} {K : Value → World → Prop} (h : OW P n Q o ρ w K) {a : Act} (ha : FitsD n ds ρ a) : wpV P o a w K (fun c w' => Q (.panic c) ρ w') := by
  have := h _ ha.fits
  unfold wpV at this ⊢
  rw [eval_defers] at this
  exact this
theorem FitsD.upd {a : Act} (h : FitsD n ds ρ a) {d : Option Nat} (hd : okDst n d = true) (v : Value) : FitsD n ds (Tb.upd ρ d v) (a.put d v) := by
  have := h.fits.upd hd v
  refine ⟨?_, ?_⟩
  · cases d <;> exact h.defers
  · cases d <;> exact this
theorem LWD.go {o : Oper} {rest : List Oper} (hg : o.guard = none) (hd : okDst n o.dst = true) (h : OW P n Q o ρ w (fun v w' => LWD P n ds ops Q rest (upd ρ o.dst v) w')) : LWD P n ds ops Q (o :: rest) ρ w := fun a ha => by
  unfold wpList
  rw [if_pos (by simp [Region.wanted, hg])]
  exact .inl (wp_of_wpV (h.toD ha) (fun v w' hk => hk _ (ha.upd hd v)) (fun c w' hk => ⟨ρ, ha, hk⟩))
theorem LWD.pure {o : Oper} {rest : List Oper} {v : Value} (hg : o.guard = none) (hd : okDst n o.dst = true) (h : RV P n o ρ w v) (k : LWD P n ds ops Q rest (upd ρ o.dst v) w) : LWD P n ds ops Q (o :: rest) ρ w :=
  LWD.go hg hd (OW.value h k)
theorem LWD.nil (h : Q .normal ρ w) : LWD P n ds ops Q [] ρ w := fun _ ha => wpList_nil ⟨ρ, ha, h⟩
theorem CWD.region {id : Nat} {l : List Oper} (h : LWD P n ds l.toArray Q l ρ w) : CWD P n ds (.region id l.toArray false) Q ρ w := fun a ha => wp_region_lit (h a ha)
theorem CWD.seq {x y : Code} (h : CWD P n ds x (thenE (fun ρ w => CWD P n ds y Q ρ w) Q) ρ w) : CWD P n ds (.seq x y) Q ρ w := fun a ha => by
  refine wp_seq (wp_mono (h a ha) fun e a' w' hq => ?_)
  obtain ⟨ρ', hf, hq⟩ := hq
  cases e <;> first | exact hq a' hf | exact ⟨ρ', hf, hq⟩
theorem CWD.ret (h : Q .ret ρ w) : CWD P n ds .ret Q ρ w := fun _ ha => wp_ret ⟨ρ, ha, h⟩
variable {d : Option Tmp} {ty : TypeId} {pos : String} {after : Array Edge} {g : Option (Nat × Bool)} {K : Value → World → Prop}
end
end Go.Tb
namespace Go.Tb
theorem Fits.add {n k : Nat} {v : Value} {ρ : Env} {a : Act} (h : Fits n ρ a) (hv : a.tmps[k]? = some v) : Fits n ((k, v) :: ρ) a := ⟨h.defers, h.size, fun t u hl => by
  unfold Tb.look at hl
  split at hl
  · rename_i hb
    have : k = t := Nat.eq_of_beq_eq_true hb
    subst this
    simp at hl; subst hl; exact hv
  · exact h.at_ t u hl⟩
end Go.Tb
namespace Go.Tb
section
variable {P : Program} {n : Nat} {ops : Array Oper} {Q : Exit → Act → World → Prop} {a : Act} {w : World} {ρ : Env}
end
end Go.Tb
namespace Go.Tb
section
variable {P : Program} {n : Nat} {ρ : Env} {w : World} {d : Option Tmp} {ty : TypeId} {pos : String} {after : Array Edge} {g : Option (Nat × Bool)}
end
end Go.Tb
namespace Go.Tb
section
variable {P : Program} {n : Nat} {ρ : Env} {w : World} {d : Option Tmp} {ty : TypeId} {pos : String} {after : Array Edge} {g : Option (Nat × Bool)}
end
end Go.Tb

set_option linter.unusedVariables false
namespace Go.Tb
structure SlT {α β : Type} (w : World) (A : Option Addr) (c k : Nat) (enc : (Option Addr × Nat) × α → List Value) (f : α → List β) (k2 : Nat) (enc2 : β → List Value) (l : List α) : Prop where
  ex : ∃ hs : List (Option Addr × Nat), hs.length = l.length ∧ Sl w A c k ((hs.zip l).map enc) ∧ ∀ (j : Nat) (h : Option Addr × Nat) (x : α), hs[j]? = some h → l[j]? = some x → Sl w h.1 h.2 k2 ((f x).map enc2)
section
variable {α β : Type} {w w' : World} {A : Option Addr} {c k k2 : Nat} {enc : (Option Addr × Nat) × α → List Value} {f : α → List β} {enc2 : β → List Value} {l : List α}
theorem SlT.ext (h : SlT w A c k enc f k2 enc2 l) (e : Ext w w') : SlT w' A c k enc f k2 enc2 l := by
  obtain ⟨hs, h1, h2, h3⟩ := h.ex
  exact ⟨hs, h1, h2.ext e, fun j h x hj hx => (h3 j h x hj hx).ext e⟩
theorem SlT.at_ (h : SlT w A c k enc f k2 enc2 l) {j : Nat} {x : α} (hx : l[j]? = some x) : ∃ (Aj : Option Addr) (cj : Nat), Cells w (elemPtr A k j) (enc ((Aj, cj), x)) ∧ Sl w Aj cj k2 ((f x).map enc2) := by
  obtain ⟨hs, h1, h2, h3⟩ := h.ex
  have hlt := lt_of_at hx
  have hh : hs[j]? = some hs[j] := by simp [h1, hlt]
  refine ⟨hs[j].1, hs[j].2, ?_, h3 j _ x hh hx⟩
  exact h2.at_ (enc := enc) (x := (hs[j], x)) (by simp [List.getElem?_zip_eq_some, hh, hx])
theorem SlT.addr (h : SlT w A c k enc f k2 enc2 l) {i : Int} (h0 : 0 ≤ i ∧ i < l.length) : ∃ a, A = some a := by
  obtain ⟨hs, h1, h2, _⟩ := h.ex
  exact h2.addr (i := i) (by simp [h1]; omega)
theorem SlT.max (h : SlT w A c k enc f k2 enc2 l) : (l.length : Int) ≤ 9223372036854775807 := by
  obtain ⟨hs, h1, h2, _⟩ := h.ex
  have := h2.max
  simp [h1] at this
  omega
theorem SlT.nil_ : SlT w none 0 k enc f k2 enc2 [] := ⟨⟨[], rfl, Sl.nil (by decide), fun j h l hj => by simp at hj⟩⟩
end
end Go.Tb

set_option linter.unusedVariables false
namespace Go.Tb
open Go.RowKit
section
variable {P : Program} {n : Nat} {ops : Array Oper} {Q : Exit → Env → World → Prop} {ρ : Env} {w : World} {d : Option Tmp} {ty : TypeId} {pos : String} {after : Array Edge} {g : Option (Nat × Bool)} {K : Value → World → Prop}
/-- What an assertion to the type q gives, with its word on whether it holds. -/
def AssertM (P : Program) (q : TypeId) (v r : Value) : Prop := ∀ (t : TypeId) (w : World), (Instr.typeAssert v t q true).run P w = .ok r w
theorem AssertM.yes {q : TypeId} {fs : TypeDesc} {v : Value} (hT : P.underlying q = some fs) (hn : (match fs with | .interface _ => true | _ => false) = false) : AssertM P q (.iface q v) (.tuple #[v, .bool true]) := fun t w => by
  simp only [Instr.typeAssert, Sem.run_bind, run_underlying hT, Result.andThen_ok]
  cases fs <;> simp_all
theorem zeroV_run {q : TypeId} {z : Value} (hz : tyZ P q = some z) (w : World) : (zeroValue q).run P w = .ok z w := by
  unfold tyZ at hz
  cases hi : P.info? q with
  | none => simp [hi] at hz
  | some i => simp [hi] at hz; simp [zeroValue, typeInfo, hi, hz]
theorem AssertM.no {q q' : TypeId} {fs : TypeDesc} {v z : Value} (hT : P.underlying q = some fs) (hn : (match fs with | .interface _ => true | _ => false) = false) (hz : tyZ P q = some z) (hq : q' ≠ q) : AssertM P q (.iface q' v) (.tuple #[z, .bool false]) := fun t w => by
  simp only [Instr.typeAssert, Sem.run_bind, run_underlying hT, Result.andThen_ok]
  cases fs <;> simp_all [zeroV_run hz]
theorem AssertM.nil {q : TypeId} {fs : TypeDesc} {z : Value} (hT : P.underlying q = some fs) (hn : (match fs with | .interface _ => true | _ => false) = false) (hz : tyZ P q = some z) : AssertM P q .nilIface (.tuple #[z, .bool false]) := fun t w => by
  simp only [Instr.typeAssert, Sem.run_bind, run_underlying hT, Result.andThen_ok]
  cases fs <;> simp_all [zeroV_run hz]
/-- A method called through an interface. -/
def CallsM (P : Program) (v : Value) (name : String) (args : List Value) (w : World) (R : Ending → World → Prop) : Prop :=
  ∃ (t : TypeId) (u : Value) (f : FuncId) (r : Value), v = .iface t u ∧ (∀ w, (method (P.types.size + Made.depth) t u name).run P w = .ok (f, r) w) ∧ callable P f = true ∧ Calls P f (r :: args).toArray w R
theorem OW.invoke {recv : Operand} {name : String} {args : Array Operand} {tys : Array TypeId} {vs : List Value} {v : Value} {R : Ending → World → Prop} (hx : ev ρ recv = some v) (hargs : evs ρ args.toList = some vs)
    (hc : CallsM P v name vs w R) (k : ∀ e w', R e w' → ∃ v, e = .returned v ∧ K v w') : OW P n Q ⟨d, .call ⟨.invoke recv name, args, tys⟩, ty, pos, after, g⟩ ρ w K := by
  obtain ⟨t, u, f, r, rfl, hm, hf, hc⟩ := hc
  refine OW.enters (f := f) (args := (r :: vs).toArray) (fun a ha => ?_) hc k
  have h1 : args.map a.eval = vs.toArray := by
    have := ha.evs hargs
    apply Array.toList_inj.1
    rw [Array.toList_map]; exact this
  have hx' := ha.ev hx
  simp only [execOp, resolve, hx', Sem.run_bind, Sem.run_pure, Result.andThen_ok, Go.invoke]
  rw [show (Array.map a.eval args) = vs.toArray from h1]
  have e0 : (#[Value.iface t u] ++ vs.toArray)[0]? = some (.iface t u) := by simp
  have e1 : (#[Value.iface t u] ++ vs.toArray).extract 1 (#[Value.iface t u] ++ vs.toArray).size = vs.toArray := by
    apply Array.toList_inj.1; simp
  simp only [e0, callMethod, Sem.run_bind]
  rw [e1]
  have hp : (program : Sem Program).run P w = .ok P w := rfl
  rw [hp]
  simp only [Result.andThen_ok, hm w]
  have e2 : (#[r] ++ vs.toArray) = (r :: vs).toArray := by
    apply Array.toList_inj.1; simp
  rw [e2]
  exact run_callFunc hf _
end
structure Sl3 {α : Type} (w : World) (A : Option Addr) (c k : Nat) (enc : α → List Value) (lll : List (List (List α))) : Prop where
  ex : ∃ hs : List (Option Addr × Nat), hs.length = lll.length ∧ Sl w A c 1 ((hs.zip lll).map encH) ∧ ∀ (j : Nat) (h : Option Addr × Nat) (l : List (List α)), hs[j]? = some h → lll[j]? = some l → Sl2 w h.1 h.2 k enc l
section
variable {α : Type} {w w' : World} {A : Option Addr} {c k : Nat} {enc : α → List Value} {ll : List (List (List α))}
theorem Sl3.ext (h : Sl3 w A c k enc ll) (e : Ext w w') : Sl3 w' A c k enc ll := by
  obtain ⟨hs, h1, h2, h3⟩ := h.ex
  exact ⟨hs, h1, h2.ext e, fun j h l hj hl => (h3 j h l hj hl).ext e⟩
theorem Sl3.at_ (h : Sl3 w A c k enc ll) {j : Nat} {l : List (List α)} (hl : ll[j]? = some l) : ∃ (Aj : Option Addr) (cj : Nat), Cells w (elemPtr A 1 j) [.slice Aj l.length cj] ∧ Sl2 w Aj cj k enc l := by
  obtain ⟨hs, h1, h2, h3⟩ := h.ex
  have hlt := lt_of_at hl
  have hh : hs[j]? = some hs[j] := by simp [h1, hlt]
  refine ⟨hs[j].1, hs[j].2, ?_, h3 j _ l hh hl⟩
  exact h2.at_ (enc := encH) (x := (hs[j], l)) (by simp [List.getElem?_zip_eq_some, hh, hl])
theorem Sl3.addr (h : Sl3 w A c k enc ll) {i : Int} (h0 : 0 ≤ i ∧ i < ll.length) : ∃ a, A = some a := by
  obtain ⟨hs, h1, h2, _⟩ := h.ex
  exact h2.addr (i := i) (by simp [h1]; omega)
theorem Sl3.nil_ : Sl3 w none 0 k enc ([] : List (List (List α))) := ⟨⟨[], rfl, Sl.nil (by decide), fun j h l hj => by simp at hj⟩⟩
theorem Sl3.one {A1 : Option Addr} {c1 : Nat} {l1 : List (List α)} (h : Sl w A c 1 ([((A1, c1), l1)].map encH)) (s1 : Sl2 w A1 c1 k enc l1) : Sl3 w A c k enc [l1] := by
  refine ⟨[(A1, c1)], rfl, h, fun j x l hj hl => ?_⟩
  match j, hj, hl with
  | 0, hj, hl => simp at hj hl; subst hj; subst hl; exact s1
end
end Go.Tb

set_option linter.unusedVariables false
set_option linter.unusedSimpArgs false
namespace Go.Tb
open Go.RowKit
section
variable {P : Program} {n : Nat} {ops : Array Oper} {Q : Exit → Env → World → Prop} {ρ : Env} {w : World}
variable {d : Option Tmp} {ty : TypeId} {pos : String} {after : Array Edge} {g : Option (Nat × Bool)} {K : Value → World → Prop}
theorem Mod.refl (w : World) (A : Option Addr) : Mod w w A := ⟨rfl, rfl, rfl, Nat.le_refl _, fun _ _ _ => rfl⟩
theorem Mod.trans {w w1 w2 : World} {A : Option Addr} (a : Mod w w1 A) (b : Mod w1 w2 A) : Mod w w2 A :=
  ⟨b.os.trans a.os, b.tape.trans a.tape, b.output.trans a.output, Nat.le_trans a.size b.size, fun k hk hn => (b.block k (Nat.lt_of_lt_of_le hk a.size) hn).trans (a.block k hk hn)⟩
end
section
variable {α : Type} {w : World} {A : Option Addr} {c e k : Nat} {enc : α → List Value} {l : List α}
theorem Own.at0 (h : Own w A c e k (l.map enc)) (h0 : 0 < l.length) : ∃ b, A = some ⟨b, 0, none⟩ := by
  rcases h.own.2 with ⟨hv, hn⟩ | ⟨g, cap, cur, hv, r⟩
  · simp at hn; simp [hn] at h0
  · injection hv with hv1
    exact ⟨g, hv1⟩
end
section
variable {w0 w w' : World} {L : List Ck}
end
end Go.Tb

set_option linter.unusedVariables false
set_option linter.unusedSimpArgs false
namespace Go.Tb
open Go.RowKit
section
variable {α β : Type}
structure TbxH (A : Option Addr) (c to ko : Nat) (enc : (Option Addr × Nat) × α → List Value) (f : α → List β) (ti k2 : Nat) (enc2 : β → List Value) (hs : List (Option Addr × Nat)) (l : List α) (w : World) : Prop where
  len : hs.length = l.length
  outer : Own w A c to ko ((hs.zip l).map enc)
  row : ∀ (i : Nat) (h : Option Addr × Nat) (t : α), hs[i]? = some h → l[i]? = some t → Own w h.1 h.2 ti k2 ((f t).map enc2)
  ne : ∀ (i : Nat) (h : Option Addr × Nat) (b : Nat), hs[i]? = some h → b ∈ adB h.1 → b ∉ adB A
def tbxB (A : Option Addr) (hs : List (Option Addr × Nat)) : List Nat := adB A ++ hs.flatMap fun h => adB h.1
theorem mem_tbxB {A : Option Addr} {hs : List (Option Addr × Nat)} {b : Nat} : b ∈ tbxB A hs ↔ b ∈ adB A ∨ ∃ (i : Nat) (h : Option Addr × Nat), hs[i]? = some h ∧ b ∈ adB h.1 := by
  unfold tbxB
  simp only [List.mem_append, List.mem_flatMap]
  refine or_congr Iff.rfl ⟨?_, ?_⟩
  · rintro ⟨h, hm, hb⟩
    obtain ⟨i, hi⟩ := List.getElem?_of_mem hm
    exact ⟨i, h, hi, hb⟩
  · rintro ⟨i, h, hi, hb⟩
    exact ⟨h, List.mem_of_getElem? hi, hb⟩
variable {A : Option Addr} {c to ko : Nat} {enc : (Option Addr × Nat) × α → List Value} {f : α → List β} {ti k2 : Nat} {enc2 : β → List Value} {hs : List (Option Addr × Nat)} {l : List α} {w w' w0 : World} {L : List Ck}
theorem TbxH.keep (h : TbxH A c to ko enc f ti k2 enc2 hs l w) (hb : ∀ b ∈ tbxB A hs, w'.heap[b]? = w.heap[b]?) : TbxH A c to ko enc f ti k2 enc2 hs l w' :=
  ⟨h.len, h.outer.keep fun b h' => hb b (mem_tbxB.2 (.inl h')), fun i x t hx ht => (h.row i x t hx ht).keep fun b h' => hb b (mem_tbxB.2 (.inr ⟨i, x, hx, h'⟩)), h.ne⟩
theorem TbxH.lt (h : TbxH A c to ko enc f ti k2 enc2 hs l w) : ∀ b ∈ tbxB A hs, b < w.heap.size := by
  intro b hb
  rcases mem_tbxB.1 hb with hb | ⟨i, x, hx, hb⟩
  · exact h.outer.lt b hb
  · have hl : i < l.length := by rw [← h.len]; exact lt_of_at hx
    exact (h.row i x l[i] hx (by simp [hl])).lt b hb
theorem TbxH.holds (h : TbxH A c to ko enc f ti k2 enc2 hs l w) : (Ck.inv (tbxB A hs) (TbxH A c to ko enc f ti k2 enc2 hs l)).holds w :=
  ⟨h.lt, h, fun w1 w2 _ hb q => q.keep hb⟩
end
section
variable {P : Program} {n : Nat} {ops : Array Oper} {Q : Exit → Env → World → Prop} {ρ : Env} {w : World}
variable {d : Option Tmp} {ty : TypeId} {pos : String} {after : Array Edge} {g : Option (Nat × Bool)} {K : Value → World → Prop}
end
section
variable {w0 w w' : World} {L M : List Ck}
end
end Go.Tb

set_option linter.unusedVariables false
set_option linter.unusedSimpArgs false
namespace Go.Tb
open Go.RowKit
section
variable {w0 w w' : World} {L M : List Ck}
end
end Go.Tb
namespace Go.Tb
open Go.RowKit
section
variable {P : Program} {n : Nat} {ops : Array Oper} {Q : Exit → Env → World → Prop} {ρ : Env} {w : World}
variable {d : Option Tmp} {ty : TypeId} {pos : String} {after : Array Edge} {g : Option (Nat × Bool)} {K : Value → World → Prop}
end
end Go.Tb
namespace Go.Tb
end Go.Tb
namespace Go.Tb
section
variable {w0 w w' : World} {L M : List Ck}
/-- All the handles of old are still there. -/
def Cov (hs' hs : List (Option Addr × Nat)) : Prop := ∀ x ∈ hs, x ∈ hs'
theorem Cov.refl (hs : List (Option Addr × Nat)) : Cov hs hs := fun _ h => h
theorem Cov.trans {a b c : List (Option Addr × Nat)} (h : Cov a b) (h' : Cov b c) : Cov a c := fun x hx => h x (h' x hx)
end
end Go.Tb
namespace Go.Tb
end Go.Tb
