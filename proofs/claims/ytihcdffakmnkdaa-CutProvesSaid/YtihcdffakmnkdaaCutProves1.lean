/- Lemmas and walks that the proof of this claim uses: Tb26, Tb27, D4m1D, TbCutOpen, D4m2D, D4m3D, D4m4D, D4m5D, D4m6D, D4m8D, D4m12D, Tb29, Tb30, Tb31, Tb32, Tb34, Tb35, Tb37, Tb44, Tb45, D4w1D, D4w2D, D4x0D, D4x1D, D4x2D, D4x3D, D4x4D. -/
import Derived.Test.YtihcdffakmnkdaaCutProves0
set_option linter.unusedVariables false
set_option linter.unusedSimpArgs false
namespace Go.Tb
open Go.RowKit
/-- A map type: its key's and its element's. -/
def tyM (P : Program) (t : TypeId) : Option (TypeId × TypeId) := match P.underlying t with | some (.map k e) => some (k, e) | _ => none
theorem tyM_spec {P : Program} {t k e : TypeId} (h : tyM P t = some (k, e)) : P.underlying t = some (.map k e) := by
  unfold tyM at h
  split at h
  · rename_i h1; cases h; exact h1
  · cases h
theorem zero_run {P : Program} {t : TypeId} {z : Value} {w : World} (hz : tyZ P t = some z) : (zeroValue t).run P w = .ok z w := by
  unfold tyZ at hz
  cases hi : P.info? t with
  | none => simp [hi] at hz
  | some i => simp [hi] at hz; simp [zeroValue, typeInfo, hi, hz]
section
variable {κ ν : Type}
def mget (eq : κ → κ → Bool) : List (κ × ν) → κ → Option ν
  | [], _ => none
  | p :: r, x => if eq x p.1 = true then some p.2 else mget eq r x
def mset (eq : κ → κ → Bool) : List (κ × ν) → κ → ν → List (κ × ν)
  | [], x, v => [(x, v)]
  | p :: r, x, v => if eq x p.1 = true then (p.1, v) :: r else p :: mset eq r x v
def encMap (ek : κ → Value) (ev : ν → Value) (m : List (κ × ν)) : List (Value × Value) := m.map fun p => (ek p.1, ev p.2)
/-- Where an entry lies. -/
def mfind (eq : κ → κ → Bool) (x : κ) : List κ → List MapEntry → Nat → Option (Nat × Value)
  | y :: ks, e :: es, i => if eq x y = true then some (i, e.val) else mfind eq x ks es (i + 1)
  | _, _, _ => none
/-- What a key's type must have: its values are asked for and compared ags eq says. -/
structure KeyOK (P : Program) (k : TypeId) (ek : κ → Value) (eq : κ → κ → Bool) : Prop where
  check : ∀ (w : World) (em : Bool) (x : κ), (Instr.checkKey em 10000 k (ek x)).run P w = .ok () w
  same : ∀ x y : κ, eq x y = true ↔ ek x = ek y
  find : ∀ (w : World) (x : κ) (es : List MapEntry) (ks : List κ), es.map (·.key) = ks.map ek → (Instr.findKey k (ek x) es).run P w = .ok (mfind eq x ks es 0) w
  stays : ∀ (w : World) (x : κ), (Instr.keyThatStays (ek x) (ek x)).run P w = .ok (ek x) w
def ekI (x : Int) : Value := .int .i64 x
def eqI (x y : Int) : Bool := x == y
theorem KeyOK.int {P : Program} {k : TypeId} (hk : P.underlying k = some (.int .i64)) : KeyOK P k ekI eqI where
  check w em x := MapKept.run_checkKey hk (show MapKept.IsKey (.int .i64) (.int .i64 x) from rfl) em 9999
  same x y := by simp [eqI, ekI]
  find w x es ks h := by
    refine MapKept.run_findKey hk ?_
    have : ∀ (es : List MapEntry) (ks : List Int) (i : Nat), es.map (·.key) = ks.map ekI → Instr.findNow (.int .i64) (ekI x) es i = some (mfind eqI x ks es i) := by
      intro es
      induction es with
      | nil => intro ks i h; cases ks <;> rfl
      | cons e es ih =>
        intro ks i h
        cases ks with
        | nil => simp at h
        | cons y ks =>
          simp only [List.map_cons, List.cons.injEq] at h
          unfold Instr.findNow mfind
          rw [h.1]
          have e1 : Instr.sameNow (.int .i64) (ekI x) (ekI y) = some (eqI x y) := by simp [Instr.sameNow, ekI, eqI]
          rw [e1]
          cases eqI x y
          · simpa using ih ks (i + 1) h.2
          · simp
    exact this es ks 0 h
  stays w x := MapKept.run_keyThatStays (show MapKept.IsKey (.int .i64) (.int .i64 x) from rfl)
theorem KeyOK.agg {P : Program} {k : TypeId} {d : TypeDesc} {ek : κ → Value} {eq : κ → κ → Bool} (ags : κ → Array Value) (hk : P.underlying k = some d) (hek : ∀ x, ek x = .agg (ags x)) (hc : ∀ (w : World) (em : Bool) (x : κ), (Instr.checkKey em 10000 k (.agg (ags x))).run P w = .ok () w)
    (he : ∀ (w : World) (x y : κ), (Op.equalIn 10000 k (.agg (ags x)) (.agg (ags y))).run P w = .ok (eq x y) w) (hs : ∀ x y : κ, eq x y = true ↔ ags x = ags y) (hb : ∀ x : κ, Instr.sameBits 10000 (.agg (ags x)) (.agg (ags x)) = true) : KeyOK P k ek eq where
  check w em x := by rw [hek]; exact hc w em x
  same x y := by rw [hs, hek, hek]; constructor <;> intro h <;> simp_all
  find w x es ks h := by
    have asking : ∀ (es : List MapEntry) (ks : List κ) (i : Nat), es.map (·.key) = ks.map ek → (Instr.findAsking k (ek x) es i).run P w = .ok (mfind eq x ks es i) w := by
      intro es
      induction es with
      | nil => intro ks i h; cases ks <;> rfl
      | cons e es ih =>
        intro ks i h
        cases ks with
        | nil => simp at h
        | cons y ks =>
          simp only [List.map_cons, List.cons.injEq] at h
          unfold Instr.findAsking mfind
          rw [h.1, hek, hek]
          have e1 : (Op.equal k (.agg (ags x)) (.agg (ags y))).run P w = .ok (eq x y) w := he w x y
          simp only [Sem.run_bind, e1, Result.andThen_ok, Sem.run_ite, Sem.run_pure]
          cases eq x y
          · have := ih ks (i + 1) h.2
            rw [hek] at this
            simpa using this
          · simp
    cases es with
    | nil => cases ks <;> simp [Instr.findKey, run_underlying hk, Result.andThen, Instr.findNow, mfind]
    | cons e es =>
      cases ks with
      | nil => simp at h
      | cons y ks =>
        have e0 : e.key = ek y := by simp at h; exact h.1
        have e1 : Instr.findNow d (ek x) (e :: es) 0 = none := by
          unfold Instr.findNow
          rw [e0, hek, hek]
          simp [Instr.sameNow]
        simp only [Instr.findKey, Sem.run_bind, run_underlying hk, Result.andThen_ok, e1]
        exact asking _ _ 0 h
  stays w x := by rw [hek]; simp [Instr.keyThatStays, hb x]
theorem mfind_spec {ek : κ → Value} {ev : ν → Value} {eq : κ → κ → Bool} (same : ∀ x y : κ, eq x y = true ↔ ek x = ek y) (x : κ) (v : ν) : ∀ (m : List (κ × ν)) (es : List MapEntry) (i : Nat), es.map (fun e => (e.key, e.val)) = encMap ek ev m →
    (mfind eq x (m.map (·.1)) es i = none ∧ mget eq m x = none ∧ mset eq m x v = m ++ [(x, v)] ∧ ∀ e ∈ es, e.key ≠ ek x) ∨
    ∃ j e u, mfind eq x (m.map (·.1)) es i = some (i + j, e.val) ∧ es[j]? = some e ∧ e.key = ek x ∧ mget eq m x = some u ∧ e.val = ev u ∧ encMap ek ev (mset eq m x v) = (encMap ek ev m).set j (ek x, ev v)
  | [], es, i, h => by
    have : es = [] := by simpa [encMap] using h
    subst this
    exact .inl ⟨rfl, rfl, rfl, by simp⟩
  | p :: m, [], i, h => by simp [encMap] at h
  | p :: m, e :: es, i, h => by
    have h1 : e.key = ek p.1 ∧ e.val = ev p.2 := by simp [encMap] at h; exact h.1
    have h2 : es.map (fun e => (e.key, e.val)) = encMap ek ev m := by simp [encMap] at h ⊢; exact h.2
    by_cases hx : eq x p.1 = true
    · refine .inr ⟨0, e, p.2, ?_, rfl, ?_, ?_, h1.2, ?_⟩
      · simp [mfind, hx]
      · rw [h1.1, (same x p.1).1 hx]
      · simp [mget, hx]
      · simp [mset, hx, encMap, (same x p.1).1 hx]
    · rcases mfind_spec same x v m es (i + 1) h2 with ⟨a1, a2, a3, a4⟩ | ⟨j, e', u, a1, a2, a3, a4, a5, a6⟩
      · refine .inl ⟨by simp [mfind, hx, a1], by simp [mget, hx, a2], by simp [mset, hx, a3], fun e' he => ?_⟩
        rcases List.mem_cons.1 he with rfl | he
        · rw [h1.1]; exact fun hc => hx ((same x p.1).2 hc.symm)
        · exact a4 e' he
      · refine .inr ⟨j + 1, e', u, ?_, by simpa using a2, a3, by simp [mget, hx, a4], a5, ?_⟩
        · simp [mfind, hx, a1]; omega
        · simp only [mset, hx, encMap, Bool.false_eq_true, if_false, List.map_cons, List.set_cons_succ]
          congr 1
end
section
variable {κ ν : Type} {P : Program} {k : TypeId} {ek : κ → Value} {ev : ν → Value} {eq : κ → κ → Bool} {w : World} {b : Nat} {m : List (κ × ν)}
theorem keys_of {es : List MapEntry} (h : es.map (fun e => (e.key, e.val)) = encMap ek ev m) : es.map (·.key) = (m.map (·.1)).map ek := by
  have := congrArg (List.map Prod.fst) h
  simpa [encMap, Function.comp_def] using this
theorem run_lookupM {t e : TypeId} (KO : KeyOK P k ek eq) (hT : tyM P t = some (k, e)) {v0 : ν} (hz : tyZ P e = some (ev v0)) (h : MpH w b (encMap ek ev m)) (x : κ) :
    (Instr.lookup t (.map (some b)) (ek x) false).run P w = .ok (ev ((mget eq m x).getD v0)) w := by
  obtain ⟨es, clock, hb, _, hes⟩ := h
  have hf := KO.find w x es.toList _ (keys_of hes)
  rcases mfind_spec KO.same x v0 m es.toList 0 hes with ⟨a1, a2, _⟩ | ⟨j, e', u, a1, _, _, a4, a5, _⟩
  · rw [a1] at hf
    simp [Instr.lookup, run_underlying (tyM_spec hT), MapKept.run_getObj_map hb, KO.check, hf, zero_run hz, Result.andThen, a2]
  · rw [a1] at hf
    simp [Instr.lookup, run_underlying (tyM_spec hT), MapKept.run_getObj_map hb, KO.check, hf, Result.andThen, a4, a5]
theorem run_updateM {t e : TypeId} (KO : KeyOK P k ek eq) (hT : tyM P t = some (k, e)) (h : MpH w b (encMap ek ev m)) (x : κ) (v : ν) :
    ∃ w', (Instr.mapUpdate t (.map (some b)) (ek x) (ev v)).run P w = .ok () w' ∧ MpH w' b (encMap ek ev (mset eq m x v)) ∧ Mod w w' (some ⟨b, 0, none⟩) := by
  obtain ⟨es, clock, hb, hst, hes⟩ := h
  have hf := KO.find w x es.toList _ (keys_of hes)
  have md : ∀ o : Obj, Mod w (ChangeMaps.setBlock w b o) (some ⟨b, 0, none⟩) := fun o => ⟨rfl, rfl, rfl, by simp [ChangeMaps.setBlock], fun i _ hi => (MapKept.heap_set hb).2 i (fun e => hi (by rw [e]; rfl))⟩
  rcases mfind_spec KO.same x v m es.toList 0 hes with ⟨a1, _, a3, a4⟩ | ⟨j, e', u, a1, a2, a3, _, _, a6⟩
  · rw [a1] at hf
    refine ⟨ChangeMaps.setBlock w b (.map (es.push ⟨ek x, ev v, clock⟩) (clock + 1)), ?_, ⟨_, _, (MapKept.heap_set hb).1, MapKept.stamped_push hst a4, ?_⟩, md _⟩
    · simp [Instr.mapUpdate, run_underlying (tyM_spec hT), MapKept.run_getObj_map hb, KO.check, hf, MapKept.run_setObj_map _ hb, Result.andThen, ChangeMaps.setBlock]
    · rw [a3, Array.toList_push, List.map_append, hes]; simp [encMap]
  · rw [a1] at hf
    have hj : es[j]? = some e' := by simpa using a2
    have hjl : j < es.toList.length := lt_of_at a2
    refine ⟨ChangeMaps.setBlock w b (.map (es.modify j fun e => { e with key := ek x, val := ev v }) clock), ?_, ⟨_, _, (MapKept.heap_set hb).1, MapKept.stamped_modify hst _ _ (fun _ _ => rfl) (fun e'' _ he'' => by rw [hj] at he''; cases he''; exact a3.symm), ?_⟩, md _⟩
    · simp [Instr.mapUpdate, run_underlying (tyM_spec hT), MapKept.run_getObj_map hb, KO.check, hf, hj, a3, KO.stays, MapKept.run_setObj_map _ hb, Result.andThen, ChangeMaps.setBlock]
    · rw [a6, ← hes, Array.toList_modify]
      apply List.ext_getElem?
      intro i
      rw [List.getElem?_map, List.getElem?_modify, List.getElem?_set, List.getElem?_map, List.length_map]
      by_cases hi : j = i
      · subst hi; rw [a2]; simpa using hjl
      · simp [hi]
end
section
variable {P : Program} {n : Nat} {ops : Array Oper} {Q : Exit → Env → World → Prop} {ρ : Env} {w : World}
variable {d : Option Tmp} {ty : TypeId} {pos : String} {after : Array Edge} {g : Option (Nat × Bool)} {K : Value → World → Prop}
theorem RV.lookupM {κ ν : Type} {t k e : TypeId} {ek : κ → Value} {ev' : ν → Value} {eq : κ → κ → Bool} {b : Nat} {m : List (κ × ν)} {x y : Operand} (key : κ) (v0 : ν) (KO : KeyOK P k ek eq) (hT : tyM P t = some (k, e)) (hz : tyZ P e = some (ev' v0)) (hx : ev ρ x = some (.map (some b))) (hy : ev ρ y = some (ek key)) (h : MpH w b (encMap ek ev' m)) :
    RV P n ⟨d, .lookup t x y false, ty, pos, after, g⟩ ρ w (ev' ((mget eq m key).getD v0)) :=
  (fun a ha => by simp [execOp, ha.ev hx, ha.ev hy, run_lookupM KO hT hz h key])
theorem OW.makeMap {t : TypeId} (kk : ∀ b w', New w w' b (.map #[] 0) → MpH w' b [] → K (.map (some b)) w') : OW P n Q ⟨d, .makeMap t none, ty, pos, after, g⟩ ρ w K :=
  OW.value (w' := w.alloc (.map #[] 0)) (fun a ha => by simp [execOp, run_makeMap]) (kk _ _ (New.mk' _ _) ⟨#[], 0, (New.mk' _ _).blk, MapKept.stamped_empty 0, rfl⟩)
theorem OW.updateM {κ ν : Type} {t k e : TypeId} {ek : κ → Value} {ev' : ν → Value} {eq : κ → κ → Bool} {b : Nat} {m : List (κ × ν)} {x y z : Operand} (key : κ) (v : ν) (KO : KeyOK P k ek eq) (hT : tyM P t = some (k, e)) (hx : ev ρ x = some (.map (some b))) (hy : ev ρ y = some (ek key)) (hz : ev ρ z = some (ev' v)) (h : MpH w b (encMap ek ev' m))
    (kk : ∀ w', Mod w w' (some ⟨b, 0, none⟩) → MpH w' b (encMap ek ev' (mset eq m key v)) → K undef w') : OW P n Q ⟨d, .mapUpdate t x y z, ty, pos, after, g⟩ ρ w K := by
  obtain ⟨w', hr, h1, h2⟩ := run_updateM KO hT h key v
  exact OW.skip_ (w' := w') (fun c hc => by simp [execOp, hc.ev hx, hc.ev hy, hc.ev hz, hr]) (kk w' h2 h1)
end
section
variable {w0 w w' : World} {L : List Ck}
theorem Hp.newM (h : Hp w0 w L) {b : Nat} {o : Obj} {m : List (Value × Value)} (n : New w w' b o) (f : MpH w' b m) : Hp w0 w' (.mp b m :: L) :=
  h.cons n.ext f (by intro b' hb; simp [Ck.bl] at hb; subst hb; rw [n.at_]; exact Nat.le_refl _)
theorem Hp.setM (h : Hp w0 w L) (p : Nat) {b : Nat} {m m' : List (Value × Value)} (hp : L[p]? = some (.mp b m)) (md : Mod w w' (some ⟨b, 0, none⟩)) (o : MpH w' b m') : Hp w0 w' (L.set p (.mp b m')) := by
  refine h.step p hp (h.extMod md fun b' hb => ?_) (fun b' hb hn => md.other hb (fun hc => hn ?_)) o fun b' hb => .inl hb
  · simp [adB] at hb; subst hb; exact h.fresh p _ hp b' (by simp [Ck.bl])
  · simp [adB] at hc; simp [Ck.bl, hc]
end
end Go.Tb

set_option linter.unusedVariables false
set_option linter.unusedSimpArgs false
namespace Go.Tb
open Go.RowKit
section
variable {P : Program} {n : Nat} {ops : Array Oper} {Q : Exit → Env → World → Prop} {ρ : Env} {w : World}
variable {d : Option Tmp} {ty : TypeId} {pos : String} {after : Array Edge} {g : Option (Nat × Bool)} {K : Value → World → Prop}
end
end Go.Tb
namespace Go.Tb
def ekBl (x : Bool) : Value := .bool x
end Go.Tb
namespace Go.Tb
section
variable {P : Program} {n : Nat} {ρ : Env} {w : World} {d : Option Tmp} {ty : TypeId} {pos : String} {after : Array Edge} {g : Option (Nat × Bool)}
end
end Go.Tb

set_option linter.unusedVariables false
namespace Go.D4
open Go.Tb
structure Bog where
  worth : List (List Int)
structure Arr6 where
  at0 : Int
  at1 : Int
  at2 : Int
  at3 : Int
  at4 : Int
  at5 : Int
def encArr6 (x : Arr6) : List Value := [.int .i64 x.at0, .int .i64 x.at1, .int .i64 x.at2, .int .i64 x.at3, .int .i64 x.at4, .int .i64 x.at5]
def law04_Long_k1 (a0 : Bog) : Option Bool :=
  some (decide ((50 : Int) < ((a0.worth.length : Int))))
def law04_Long_B1 (a0 : Bog) (rec1 : Int → Option Bool) (t6_1 : Int) : Option Bool :=
  if t6_1 < ((a0.worth.length : Int)) then
    ix a0.worth t6_1 fun x1 =>
    if (50 : Int) < ((x1.length : Int)) then
      some true
    else
      gd (InR (t6_1 + 1)) <|
      rec1 ((t6_1 + 1))
  else
    law04_Long_k1 a0
def law04_Long_L1 (a0 : Bog) : Nat → Int → Option Bool
  | 0, _ => none
  | n_ + 1, t6_1 => law04_Long_B1 a0 (law04_Long_L1 a0 n_) t6_1
theorem law04_Long_L1_s {a0 : Bog} {m_ : Nat} {t6_1 : Int} {res : Bool} (h : law04_Long_L1 a0 m_ t6_1 = some res) : ∃ k, m_ = k + 1 ∧ law04_Long_B1 a0 (law04_Long_L1 a0 k) t6_1 = some res := by
  cases m_ with
  | zero => cases h
  | succ k => exact ⟨k, rfl, h⟩
def law04_Long_k2 (a0 : Bog) : Option Bool :=
  law04_Long_L1 a0 FU (((0 : Int)))
def law04_Long_B2 (a0 : Bog) (a1 : List (List Int)) (rec2 : Int → Option Bool) (t5_1 : Int) : Option Bool :=
  if t5_1 < ((a1.length : Int)) then
    ix a1 t5_1 fun x2 =>
    if (100 : Int) < ((x2.length : Int)) then
      some true
    else
      gd (InR (t5_1 + 1)) <|
      rec2 ((t5_1 + 1))
  else
    law04_Long_k2 a0
def law04_Long_L2 (a0 : Bog) (a1 : List (List Int)) : Nat → Int → Option Bool
  | 0, _ => none
  | n_ + 1, t5_1 => law04_Long_B2 a0 a1 (law04_Long_L2 a0 a1 n_) t5_1
theorem law04_Long_L2_s {a0 : Bog} {a1 : List (List Int)} {m_ : Nat} {t5_1 : Int} {res : Bool} (h : law04_Long_L2 a0 a1 m_ t5_1 = some res) : ∃ k, m_ = k + 1 ∧ law04_Long_B2 a0 a1 (law04_Long_L2 a0 a1 k) t5_1 = some res := by
  cases m_ with
  | zero => cases h
  | succ k => exact ⟨k, rfl, h⟩
def law04_Long (a0 : Bog) (a1 : List (List Int)) : Option Bool :=
  law04_Long_L2 a0 a1 FU (((0 : Int)))
def cut_from (a0 : Int) (a1 : Int) (a2 : Int) : Option Bool :=
  if a1 ≤ a0 then
    some (decide (a0 ≤ a2))
  else
    some false
def cut_depth (a0 : Bog) : Option Int :=
  ix a0.worth 0 fun x1 =>
  some ((x1.length : Int))
def slices_IndexFunc_int_k1 : Option Int :=
  some ((-1 : Int))
def slices_IndexFunc_int_B1 (a0 : List Int) (a1 : Int → Option Bool) (rec1 : Int → Option Int) (t8_1 : Int) : Option Int :=
  if t8_1 < ((a0.length : Int)) then
    ix a0 t8_1 fun x1 =>
    bnd (a1 x1) fun r1 =>
    if r1 = true then
      some t8_1
    else
      gd (InR (t8_1 + 1)) <|
      rec1 ((t8_1 + 1))
  else
    slices_IndexFunc_int_k1
def slices_IndexFunc_int_L1 (a0 : List Int) (a1 : Int → Option Bool) : Nat → Int → Option Int
  | 0, _ => none
  | n_ + 1, t8_1 => slices_IndexFunc_int_B1 a0 a1 (slices_IndexFunc_int_L1 a0 a1 n_) t8_1
theorem slices_IndexFunc_int_L1_s {a0 : List Int} {a1 : Int → Option Bool} {m_ : Nat} {t8_1 : Int} {res : Int} (h : slices_IndexFunc_int_L1 a0 a1 m_ t8_1 = some res) : ∃ k, m_ = k + 1 ∧ slices_IndexFunc_int_B1 a0 a1 (slices_IndexFunc_int_L1 a0 a1 k) t8_1 = some res := by
  cases m_ with
  | zero => cases h
  | succ k => exact ⟨k, rfl, h⟩
def slices_IndexFunc_int (a0 : List Int) (a1 : Int → Option Bool) : Option Int :=
  slices_IndexFunc_int_L1 a0 a1 FU (((0 : Int)))
def slices_ContainsFunc_int (a0 : List Int) (a1 : Int → Option Bool) : Option Bool :=
  bnd (slices_IndexFunc_int a0 a1) fun r1 =>
  some (decide ((0 : Int) ≤ r1))
def cut_Validate_1 (a0 : Int) : Option Bool :=
  bnd (cut_from a0 ((-50 : Int)) ((50 : Int))) fun r1 =>
  some (!r1)
def cut_Validate_k1 : Option Int :=
  some ((0 : Int))
def cut_Validate_k2 (t19_1 : Int) (rec1 : Int → Option Int) (t31_1 : Bool) : Option Int :=
  if t31_1 = true then
    some ((1 : Int))
  else
    gd (InR (t19_1 + 1)) <|
    rec1 ((t19_1 + 1))
def cut_Validate_B1 (a0 : Bog) (rec1 : Int → Option Int) (t19_1 : Int) : Option Int :=
  if t19_1 < ((a0.worth.length : Int)) then
    ix a0.worth t19_1 fun x1 =>
    bnd (cut_depth a0) fun r1 =>
    if ((x1.length : Int)) = r1 then
      bnd (slices_ContainsFunc_int x1 cut_Validate_1) fun r2 =>
      cut_Validate_k2 t19_1 rec1 r2
    else
      cut_Validate_k2 t19_1 rec1 true
  else
    cut_Validate_k1
def cut_Validate_L1 (a0 : Bog) : Nat → Int → Option Int
  | 0, _ => none
  | n_ + 1, t19_1 => cut_Validate_B1 a0 (cut_Validate_L1 a0 n_) t19_1
theorem cut_Validate_L1_s {a0 : Bog} {m_ : Nat} {t19_1 : Int} {res : Int} (h : cut_Validate_L1 a0 m_ t19_1 = some res) : ∃ k, m_ = k + 1 ∧ cut_Validate_B1 a0 (cut_Validate_L1 a0 k) t19_1 = some res := by
  cases m_ with
  | zero => cases h
  | succ k => exact ⟨k, rfl, h⟩
def cut_Validate_k3 (a0 : Bog) (t15_1 : Bool) : Option Int :=
  if t15_1 = true then
    some ((1 : Int))
  else
    cut_Validate_L1 a0 FU (((0 : Int)))
def cut_Validate (a0 : Bog) : Option Int :=
  bnd (cut_from ((a0.worth.length : Int)) ((1 : Int)) ((6 : Int))) fun r3 =>
  if r3 = true then
    bnd (cut_depth a0) fun r4 =>
    bnd (cut_from r4 ((1 : Int)) ((4 : Int))) fun r5 =>
    cut_Validate_k3 a0 ((!r5))
  else
    cut_Validate_k3 a0 true
def cut_raise_k1 (a0 : List Int) : Option (Bool × (List Int)) :=
  some (false, a0)
def cut_raise_B1 (a0 : List Int) (a2 : Int) (a3 : Int) (rec1 : Int → Option (Bool × (List Int))) (t1_1 : Int) : Option (Bool × (List Int)) :=
  if (0 : Int) ≤ t1_1 then
    ix a0 t1_1 fun x1 =>
    if x1 < a3 then
      ix a0 t1_1 fun x2 =>
      gd (InR (x2 + 1)) <|
      ix a0 t1_1 fun x3 =>
      gd (InR (t1_1 + 1)) <|
      gd (0 ≤ (t1_1 + 1) ∧ (t1_1 + 1) ≤ a2 ∧ a2 ≤ 6) <|
      some (true, (List.take (Int.toNat (t1_1 + 1)) ((a0.set (Int.toNat t1_1) (x2 + 1))) ++ List.replicate ((Int.toNat a2) - Int.toNat (t1_1 + 1)) (0 : Int) ++ List.drop ((Int.toNat a2)) ((a0.set (Int.toNat t1_1) (x2 + 1)))))
    else
      gd (InR (t1_1 - 1)) <|
      rec1 ((t1_1 - 1))
  else
    cut_raise_k1 a0
def cut_raise_L1 (a0 : List Int) (a2 : Int) (a3 : Int) : Nat → Int → Option (Bool × (List Int))
  | 0, _ => none
  | n_ + 1, t1_1 => cut_raise_B1 a0 a2 a3 (cut_raise_L1 a0 a2 a3 n_) t1_1
theorem cut_raise_L1_s {a0 : List Int} {a2 : Int} {a3 : Int} {m_ : Nat} {t1_1 : Int} {res : Bool × (List Int)} (h : cut_raise_L1 a0 a2 a3 m_ t1_1 = some res) : ∃ k, m_ = k + 1 ∧ cut_raise_B1 a0 a2 a3 (cut_raise_L1 a0 a2 a3 k) t1_1 = some res := by
  cases m_ with
  | zero => cases h
  | succ k => exact ⟨k, rfl, h⟩
def cut_raise (a0 : List Int) (a1 : Int) (a2 : Int) (a3 : Int) : Option (Bool × (List Int)) :=
  cut_raise_L1 a0 a2 a3 FU a1
def cut_all_k1 (a0 : Bog) (l1 : List Arr6) (l2 : List Int) (rec1 : (List Arr6) → (List Int) → Option ((List Arr6))) : Option ((List Arr6)) :=
  gd (l2.length = 6) <|
  ix l2 0 fun x1 =>
  ix l2 1 fun x2 =>
  ix l2 2 fun x3 =>
  ix l2 3 fun x4 =>
  ix l2 4 fun x5 =>
  ix l2 5 fun x6 =>
  gd (l1.length + (([(⟨x1, x2, x3, x4, x5, x6⟩ : Arr6)] : List Arr6)).length ≤ 1000000) <|
  gd (InR (((a0.worth.length : Int)) - 1)) <|
  bnd (cut_depth a0) fun r1 =>
  bnd (cut_raise l2 (((a0.worth.length : Int)) - 1) ((a0.worth.length : Int)) r1) fun r2 =>
  if r2.1 = true then
    rec1 (((l1 ++ ([(⟨x1, x2, x3, x4, x5, x6⟩ : Arr6)] : List Arr6)))) r2.2
  else
    some ((l1 ++ ([(⟨x1, x2, x3, x4, x5, x6⟩ : Arr6)] : List Arr6)))
def cut_all_B1 (a0 : Bog) (l1 : List Arr6) (l2 : List Int) (rec1 : (List Arr6) → (List Int) → Option ((List Arr6))) (rec2 : Int → Option ((List Arr6))) (t6_1 : Int) : Option ((List Arr6)) :=
  if t6_1 < ((a0.worth.length : Int)) then
    ix l2 t6_1 fun x7 =>
    gd (InR (t6_1 - 1)) <|
    ix l2 (t6_1 - 1) fun x8 =>
    gd (InR (x7 - x8)) <|
    bnd (cut_from (x7 - x8) ((-1 : Int)) ((1 : Int))) fun r3 =>
    if r3 = true then
      gd (InR (t6_1 + 1)) <|
      rec2 ((t6_1 + 1))
    else
      ix l2 t6_1 fun x9 =>
      gd (InR (t6_1 - 1)) <|
      ix l2 (t6_1 - 1) fun x10 =>
      if x9 < x10 then
        gd (InR (t6_1 - 1)) <|
        ix l2 (t6_1 - 1) fun x11 =>
        gd (InR (x11 - 1)) <|
        ix l2 t6_1 fun x12 =>
        gd (InR (t6_1 + 1)) <|
        gd (0 ≤ (t6_1 + 1) ∧ (t6_1 + 1) ≤ ((a0.worth.length : Int)) ∧ ((a0.worth.length : Int)) ≤ 6) <|
        rec1 l1 (((List.take (Int.toNat (t6_1 + 1)) ((l2.set (Int.toNat t6_1) (x11 - 1))) ++ List.replicate ((Int.toNat ((a0.worth.length : Int))) - Int.toNat (t6_1 + 1)) (0 : Int) ++ List.drop ((Int.toNat ((a0.worth.length : Int)))) ((l2.set (Int.toNat t6_1) (x11 - 1))))))
      else
        gd (InR (t6_1 - 1)) <|
        bnd (cut_depth a0) fun r4 =>
        bnd (cut_raise l2 (t6_1 - 1) ((a0.worth.length : Int)) r4) fun r5 =>
        if r5.1 = true then
          rec1 l1 r5.2
        else
          some l1
  else
    cut_all_k1 a0 l1 l2 rec1
def cut_all_L1 (a0 : Bog) (l1 : List Arr6) (l2 : List Int) (rec1 : (List Arr6) → (List Int) → Option ((List Arr6))) : Nat → Int → Option ((List Arr6))
  | 0, _ => none
  | n_ + 1, t6_1 => cut_all_B1 a0 l1 l2 rec1 (cut_all_L1 a0 l1 l2 rec1 n_) t6_1
theorem cut_all_L1_s {a0 : Bog} {l1 : List Arr6} {l2 : List Int} {rec1 : (List Arr6) → (List Int) → Option ((List Arr6))} {m_ : Nat} {t6_1 : Int} {res : (List Arr6)} (h : cut_all_L1 a0 l1 l2 rec1 m_ t6_1 = some res) : ∃ k, m_ = k + 1 ∧ cut_all_B1 a0 l1 l2 rec1 (cut_all_L1 a0 l1 l2 rec1 k) t6_1 = some res := by
  cases m_ with
  | zero => cases h
  | succ k => exact ⟨k, rfl, h⟩
def cut_all_B2 (a0 : Bog) (rec1 : (List Arr6) → (List Int) → Option ((List Arr6))) (l1 : List Arr6) (l2 : List Int) : Option ((List Arr6)) :=
  cut_all_L1 a0 l1 l2 rec1 FU (((1 : Int)))
def cut_all_L2 (a0 : Bog) : Nat → (List Arr6) → (List Int) → Option ((List Arr6))
  | 0, _, _ => none
  | n_ + 1, l1, l2 => cut_all_B2 a0 (cut_all_L2 a0 n_) l1 l2
theorem cut_all_L2_s {a0 : Bog} {m_ : Nat} {l1 : List Arr6} {l2 : List Int} {res : (List Arr6)} (h : cut_all_L2 a0 m_ l1 l2 = some res) : ∃ k, m_ = k + 1 ∧ cut_all_B2 a0 (cut_all_L2 a0 k) l1 l2 = some res := by
  cases m_ with
  | zero => cases h
  | succ k => exact ⟨k, rfl, h⟩
def cut_all (a0 : Bog) : Option ((List Arr6)) :=
  cut_all_L2 a0 FU ((([] : List Arr6))) ((([0, 0, 0, 0, 0, 0] : List Int)))
end Go.D4

namespace Go.Open
open Go.Tb Go.Proofs Go.ChangeShapes Go.WideShapes Go.ChangeAt Go.RowKit Go.Joins Go.Deep
theorem own_ : ownKnob Try.prog.godebug = none := by kernel_rfl
theorem laidOut_ : laidOutB Try.prog = true := by kernel_rfl
theorem cells22_ : Try.prog.cellsOf 22 = 1 := by kernel_rfl
theorem cells24_ : Try.prog.cellsOf 24 = 1 := by kernel_rfl
section
variable {H : Type} {enc : TypeId × Value → H} {W : World} {sp : Nat → Bool} {held : Bool} {r : Reach} {b0 base : Nat} {v : Value} {d : DataW H} {p : List MemPlace}
theorem trod_lt_ {t : TypeId} (h : DataW.Trod enc Try.prog W base sp held t v d p) : ∀ x ∈ p, x.block < W.heap.size := by obtain ⟨m, hm⟩ := h; exact DataW.trod_lt m _ _ _ hm
set_option maxRecDepth 100000 in
theorem open_row {fuel : Nat} {y : DataW H × List MemPlace} (hf : DataW.trod enc Try.prog W base sp held fuel 25 [v] = some y) : ∃ (l : List Int) (A : Option Addr) (c : Nat), v = .slice A l.length c ∧ Sl W A c 1 (l.map encN) := by
  rcases open_ints Try.underlying25 Try.underlying3 (by kernel_rfl) hf with ⟨hcs, _⟩ | ⟨x, l, c, zs, hcs, _, hl, hm, hz, _, hcell, hwz⟩
  · cases hcs
    exact ⟨[], none, 0, rfl, Sl.nil (by omega)⟩
  · cases hcs
    have hzl : l ≤ zs.length := by rw [hz]; split <;> omega
    have htl : (zs.take l).length = l := by simp; omega
    refine ⟨zs.take l, some x, c, by rw [htl], ?_⟩
    · refine Sl.mk_ (len := (zs.take l).length) (by rw [htl]; exact hl) hm (fun _ => rfl) rfl (fun i z hi j u hu => ?_)
      cases j with
      | zero =>
        cases hu
        have hlt := lt_of_at hi
        simp at hlt
        have h2 := hcell i (by omega)
        simp only [List.getElem?_take] at hi
        split at hi
        · simp [List.getD, hi] at h2; simpa using h2
        · cases hi
      | succ j => simp [encN] at hu
set_option maxRecDepth 100000 in
theorem open_table {fuel : Nat} {y : DataW H × List MemPlace} (hf : DataW.trod enc Try.prog W base sp held fuel 22 [v] = some y) : ∃ (ll : List (List Int)) (A : Option Addr) (c : Nat), v = .slice A ll.length c ∧ Sl2 W A c 1 encN ll := by
  rcases open_slice1 Try.underlying22 (by kernel_rfl) hf with ⟨hcs, _⟩ | ⟨x, l, c, m, n, V, D, Pl, hcs, _, hl, hm, hmm, _, hi⟩
  · cases hcs
    exact ⟨[], none, 0, rfl, Sl2.nil_⟩
  · cases hcs
    have hml : l ≤ m := by rw [hmm]; split <;> omega
    obtain ⟨L, hlen, hL⟩ := ex_list (Q := fun i (q : (Option Addr × Nat) × List Int) => W.cell? (x.add i) = some (.slice q.1.1 q.2.length q.1.2) ∧ Sl W q.1.1 q.1.2 1 (q.2.map encN)) l (fun i hil => by
      obtain ⟨h1, h2⟩ := hi i (by omega)
      obtain ⟨q, A, c', e, hs⟩ := open_row h2
      exact ⟨((A, c'), q), by rw [h1, e], hs⟩)
    have e1 : (L.map (·.2)).length = l := by simp [hlen]
    refine ⟨L.map (·.2), some x, c, by rw [e1], ⟨L.map (·.1), by simp, ?_, fun j h q hj hq => ?_⟩⟩
    · have e2 : (L.map (·.1)).zip (L.map (·.2)) = L := by
        rw [List.zip_map']; simp
      rw [e2]
      refine Sl.mk_ (len := l) hl hm (fun _ => rfl) hlen (fun i z hz j u hu => ?_)
      cases j with
      | zero => cases hu; simpa [encH] using (hL i z hz).1
      | succ j => simp [encH] at hu
    · simp only [List.getElem?_map, Option.map_eq_some_iff] at hj hq
      obtain ⟨z, hz, rfl⟩ := hj
      obtain ⟨z', hz', rfl⟩ := hq
      rw [hz] at hz'; cases hz'
      exact (hL j z hz).2
set_option maxRecDepth 100000 in
theorem open_bog (hv : Value.okWide Try.prog W r b0 24 v) (h : DataW.Trod enc Try.prog W base sp held 24 v d p) : ∃ (b : Go.D4.Bog) (A : Option Addr) (c : Nat), v = .agg #[.slice A b.worth.length c] ∧ Sl2 W A c 1 encN b.worth := by
  obtain ⟨cs, rfl, hsz⟩ := okWide_struct Try.underlying24 hv
  obtain ⟨c0, rfl⟩ : ∃ c0, cs = #[c0] := by
    obtain ⟨l⟩ := cs
    match l, hsz.trans cells24_ with
    | [c0], _ => exact ⟨c0, rfl⟩
  obtain ⟨fuel, hf⟩ := h
  obtain ⟨xs, n, _, _, _, hlen, hfi⟩ := DataW.trod_struct Try.underlying24 hf
  match xs, hlen with
  | [y0], _ =>
    have h0 := hfi 0 _ rfl
    obtain ⟨ll, A, c, rfl, hs⟩ := open_table (v := c0) (y := y0) (by simpa [Value.cells, cells22_] using h0)
    exact ⟨⟨ll⟩, A, c, rfl, hs⟩
end
end Go.Open

set_option linter.unusedVariables false
namespace Go.D4
open Go.Tb
def slices_Clone_int (a0 : List Int) : Option (List Int) :=
  gd ((([] : List Int)).length + a0.length ≤ 1000000) <|
  some ((([] : List Int) ++ a0))
def cut_hollow_list (a0 : Arr6) (a1 : Bog) : Option ((List Int)) :=
  gd (0 ≤ ((a1.worth.length : Int)) ∧ ((a1.worth.length : Int)) ≤ 6) <|
  bnd (slices_Clone_int ((List.take (Int.toNat ((a1.worth.length : Int))) (([a0.at0, a0.at1, a0.at2, a0.at3, a0.at4, a0.at5] : List Int))))) fun r1 =>
  some r1
def cut_worth_k1 (t5_1 : Int) : Option Int :=
  some t5_1
def cut_worth_k2 (t12_1 : Int) (rec1 : Int → Int → Option Int) (t5_2 : Int) : Option Int :=
  gd (InR (t12_1 + 1)) <|
  rec1 t5_2 ((t12_1 + 1))
def cut_worth_B1 (t12_1 : Int) (rec1 : Int → Int → Option Int) (x1 : Int) (x2 : List Int) (rec2 : Int → Int → Option Int) (t5_3 : Int) (t25_1 : Int) : Option Int :=
  if t25_1 < (((List.take (Int.toNat x1) x2).length : Int)) then
    ix ((List.take (Int.toNat x1) x2)) t25_1 fun x3 =>
    gd (InR (t5_3 + x3)) <|
    gd (InR (t25_1 + 1)) <|
    rec2 ((t5_3 + x3)) ((t25_1 + 1))
  else
    cut_worth_k2 t12_1 rec1 t5_3
def cut_worth_L1 (t12_1 : Int) (rec1 : Int → Int → Option Int) (x1 : Int) (x2 : List Int) : Nat → Int → Int → Option Int
  | 0, _, _ => none
  | n_ + 1, t5_3, t25_1 => cut_worth_B1 t12_1 rec1 x1 x2 (cut_worth_L1 t12_1 rec1 x1 x2 n_) t5_3 t25_1
theorem cut_worth_L1_s {t12_1 : Int} {rec1 : Int → Int → Option Int} {x1 : Int} {x2 : List Int} {m_ : Nat} {t5_3 : Int} {t25_1 : Int} {res : Int} (h : cut_worth_L1 t12_1 rec1 x1 x2 m_ t5_3 t25_1 = some res) : ∃ k, m_ = k + 1 ∧ cut_worth_B1 t12_1 rec1 x1 x2 (cut_worth_L1 t12_1 rec1 x1 x2 k) t5_3 t25_1 = some res := by
  cases m_ with
  | zero => cases h
  | succ k => exact ⟨k, rfl, h⟩
def cut_worth_B2 (a0 : Bog) (a1 : List Int) (rec1 : Int → Int → Option Int) (t5_4 : Int) (t12_1 : Int) : Option Int :=
  if t12_1 < ((a1.length : Int)) then
    ix a1 t12_1 fun x1 =>
    ix a0.worth t12_1 fun x2 =>
    gd (0 ≤ x1 ∧ x1 ≤ (x2.length : Int)) <|
    cut_worth_L1 t12_1 rec1 x1 x2 FU t5_4 (((0 : Int)))
  else
    cut_worth_k1 t5_4
def cut_worth_L2 (a0 : Bog) (a1 : List Int) : Nat → Int → Int → Option Int
  | 0, _, _ => none
  | n_ + 1, t5_4, t12_1 => cut_worth_B2 a0 a1 (cut_worth_L2 a0 a1 n_) t5_4 t12_1
theorem cut_worth_L2_s {a0 : Bog} {a1 : List Int} {m_ : Nat} {t5_4 : Int} {t12_1 : Int} {res : Int} (h : cut_worth_L2 a0 a1 m_ t5_4 t12_1 = some res) : ∃ k, m_ = k + 1 ∧ cut_worth_B2 a0 a1 (cut_worth_L2 a0 a1 k) t5_4 t12_1 = some res := by
  cases m_ with
  | zero => cases h
  | succ k => exact ⟨k, rfl, h⟩
def cut_worth (a0 : Bog) (a1 : List Int) : Option Int :=
  cut_worth_L2 a0 a1 FU (((0 : Int))) (((0 : Int)))
def cut_joined_k1 (l1 : List Int) : Option ((List Int)) :=
  some l1
def cut_joined_B1 (a0 : List Int) (a1 : List Int) (a2 : Int → Int → Option Int) (rec1 : Int → (List Int) → Option ((List Int))) (t11_1 : Int) (l2 : List Int) : Option ((List Int)) :=
  if t11_1 < ((a0.length : Int)) then
    ix a0 t11_1 fun x1 =>
    ix a1 t11_1 fun x2 =>
    bnd (a2 x1 x2) fun r1 =>
    gd (l2.length + (([r1] : List Int)).length ≤ 1000000) <|
    gd (InR (t11_1 + 1)) <|
    rec1 ((t11_1 + 1)) (((l2 ++ ([r1] : List Int))))
  else
    cut_joined_k1 l2
def cut_joined_L1 (a0 : List Int) (a1 : List Int) (a2 : Int → Int → Option Int) : Nat → Int → (List Int) → Option ((List Int))
  | 0, _, _ => none
  | n_ + 1, t11_1, l2 => cut_joined_B1 a0 a1 a2 (cut_joined_L1 a0 a1 a2 n_) t11_1 l2
theorem cut_joined_L1_s {a0 : List Int} {a1 : List Int} {a2 : Int → Int → Option Int} {m_ : Nat} {t11_1 : Int} {l2 : List Int} {res : (List Int)} (h : cut_joined_L1 a0 a1 a2 m_ t11_1 l2 = some res) : ∃ k, m_ = k + 1 ∧ cut_joined_B1 a0 a1 a2 (cut_joined_L1 a0 a1 a2 k) t11_1 l2 = some res := by
  cases m_ with
  | zero => cases h
  | succ k => exact ⟨k, rfl, h⟩
def cut_joined (a0 : List Int) (a1 : List Int) (a2 : Int → Int → Option Int) : Option ((List Int)) :=
  cut_joined_L1 a0 a1 a2 FU (((0 : Int))) ((([] : List Int)))
def cut_best_k1 (t7_1 : Int) (l1 : List Int) : Option ((List Int) × Int) :=
  some (l1, t7_1)
def cut_best_k2 (t15_1 : Int) (rec1 : Int → Int → (List Int) → Option ((List Int) × Int)) (t7_2 : Int) (l2 : List Int) : Option ((List Int) × Int) :=
  gd (InR (t15_1 + 1)) <|
  rec1 t7_2 ((t15_1 + 1)) l2
def cut_best_k3 (a1 : Int → Int → Option Int) (t7_3 : Int) (t15_1 : Int) (l3 : List Int) (rec1 : Int → Int → (List Int) → Option ((List Int) × Int)) (r1 : (List Int)) (r2 : Int) (t26_1 : Bool) : Option ((List Int) × Int) :=
  if t26_1 = true then
    cut_best_k2 t15_1 rec1 r2 r1
  else
    if r2 = t7_3 then
      bnd (cut_joined l3 r1 a1) fun r3 =>
      cut_best_k2 t15_1 rec1 t7_3 r3
    else
      cut_best_k2 t15_1 rec1 t7_3 l3
def cut_best_B1 (a0 : Bog) (a1 : Int → Int → Option Int) (r4 : (List Arr6)) (rec1 : Int → Int → (List Int) → Option ((List Int) × Int)) (t7_3 : Int) (t15_1 : Int) (l3 : List Int) : Option ((List Int) × Int) :=
  if t15_1 < ((r4.length : Int)) then
    ix r4 t15_1 fun x1 =>
    gd ((([x1.at0, x1.at1, x1.at2, x1.at3, x1.at4, x1.at5] : List Int)).length = 6) <|
    ix (([x1.at0, x1.at1, x1.at2, x1.at3, x1.at4, x1.at5] : List Int)) 0 fun x2 =>
    ix (([x1.at0, x1.at1, x1.at2, x1.at3, x1.at4, x1.at5] : List Int)) 1 fun x3 =>
    ix (([x1.at0, x1.at1, x1.at2, x1.at3, x1.at4, x1.at5] : List Int)) 2 fun x4 =>
    ix (([x1.at0, x1.at1, x1.at2, x1.at3, x1.at4, x1.at5] : List Int)) 3 fun x5 =>
    ix (([x1.at0, x1.at1, x1.at2, x1.at3, x1.at4, x1.at5] : List Int)) 4 fun x6 =>
    ix (([x1.at0, x1.at1, x1.at2, x1.at3, x1.at4, x1.at5] : List Int)) 5 fun x7 =>
    bnd (cut_hollow_list ((⟨x2, x3, x4, x5, x6, x7⟩ : Arr6)) a0) fun r1 =>
    bnd (cut_worth a0 r1) fun r2 =>
    if t15_1 = 0 then
      cut_best_k3 a1 t7_3 t15_1 l3 rec1 r1 r2 true
    else
      cut_best_k3 a1 t7_3 t15_1 l3 rec1 r1 r2 ((decide (t7_3 < r2)))
  else
    cut_best_k1 t7_3 l3
def cut_best_L1 (a0 : Bog) (a1 : Int → Int → Option Int) (r4 : (List Arr6)) : Nat → Int → Int → (List Int) → Option ((List Int) × Int)
  | 0, _, _, _ => none
  | n_ + 1, t7_3, t15_1, l3 => cut_best_B1 a0 a1 r4 (cut_best_L1 a0 a1 r4 n_) t7_3 t15_1 l3
theorem cut_best_L1_s {a0 : Bog} {a1 : Int → Int → Option Int} {r4 : (List Arr6)} {m_ : Nat} {t7_3 : Int} {t15_1 : Int} {l3 : List Int} {res : (List Int) × Int} (h : cut_best_L1 a0 a1 r4 m_ t7_3 t15_1 l3 = some res) : ∃ k, m_ = k + 1 ∧ cut_best_B1 a0 a1 r4 (cut_best_L1 a0 a1 r4 k) t7_3 t15_1 l3 = some res := by
  cases m_ with
  | zero => cases h
  | succ k => exact ⟨k, rfl, h⟩
def cut_best (a0 : Bog) (a1 : Int → Int → Option Int) : Option ((List Int) × Int) :=
  bnd (cut_all a0) fun r4 =>
  cut_best_L1 a0 a1 r4 FU (((0 : Int))) (((0 : Int))) ((([] : List Int)))
def cut_smaller (a0 : Int) (a1 : Int) : Option Int :=
  some (min a0 a1)
def cut_Best (a0 : Bog) : Option ((List Int) × Int × Int) :=
  bnd (cut_Validate a0) fun r1 =>
  if r1 = 0 then
    bnd (cut_best a0 cut_smaller) fun r2 =>
    some (r2.1, r2.2, (0 : Int))
  else
    some (([] : List Int), (0 : Int), r1)
def cut_Count (a0 : Bog) : Option (Int × Int) :=
  bnd (cut_Validate a0) fun r1 =>
  if r1 = 0 then
    bnd (cut_all a0) fun r2 =>
    some ((r2.length : Int), (0 : Int))
  else
    some ((0 : Int), r1)
end Go.D4

set_option linter.unusedVariables false
namespace Go.D4
open Go.Tb
def cut_isList_1 (cap0 : Bog) (a0 : Int) : Option Bool :=
  bnd (cut_depth cap0) fun r1 =>
  bnd (cut_from a0 ((0 : Int)) r1) fun r2 =>
  some (!r2)
def cut_isList_k1 (t21_1 : Bool) : Option Int :=
  if t21_1 = true then
    some ((1 : Int))
  else
    some ((0 : Int))
def cut_isList (a0 : Bog) (a1 : List Int) : Option Int :=
  bnd (cut_Validate a0) fun r1 =>
  if r1 = 0 then
    if ((a1.length : Int)) = ((a0.worth.length : Int)) then
      bnd (slices_ContainsFunc_int a1 ((fun x0 => cut_isList_1 a0 x0))) fun r2 =>
      cut_isList_k1 r2
    else
      cut_isList_k1 true
  else
    some r1
def cut_right_k1 : Option Bool :=
  some true
def cut_right_B1 (a0 : List Int) (rec1 : Int → Option Bool) (t3_1 : Int) : Option Bool :=
  if t3_1 < ((a0.length : Int)) then
    ix a0 t3_1 fun x1 =>
    gd (InR (t3_1 - 1)) <|
    ix a0 (t3_1 - 1) fun x2 =>
    gd (InR (x1 - x2)) <|
    bnd (cut_from (x1 - x2) ((-1 : Int)) ((1 : Int))) fun r1 =>
    if r1 = true then
      gd (InR (t3_1 + 1)) <|
      rec1 ((t3_1 + 1))
    else
      some false
  else
    cut_right_k1
def cut_right_L1 (a0 : List Int) : Nat → Int → Option Bool
  | 0, _ => none
  | n_ + 1, t3_1 => cut_right_B1 a0 (cut_right_L1 a0 n_) t3_1
theorem cut_right_L1_s {a0 : List Int} {m_ : Nat} {t3_1 : Int} {res : Bool} (h : cut_right_L1 a0 m_ t3_1 = some res) : ∃ k, m_ = k + 1 ∧ cut_right_B1 a0 (cut_right_L1 a0 k) t3_1 = some res := by
  cases m_ with
  | zero => cases h
  | succ k => exact ⟨k, rfl, h⟩
def cut_right (a0 : List Int) : Option Bool :=
  cut_right_L1 a0 FU (((1 : Int)))
def cut_CheckHollow (a0 : Bog) (a1 : List Int) : Option Int :=
  bnd (cut_isList a0 a1) fun r1 =>
  if r1 = 0 then
    bnd (cut_right a1) fun r2 =>
    if r2 = true then
      some ((0 : Int))
    else
      some ((6 : Int))
  else
    some r1
def cut_open (a0 : Bog) (a1 : List Int) (a2 : Int) : Option Bool :=
  bnd (slices_Clone_int a1) fun r1 =>
  ix r1 a2 fun x1 =>
  gd (InR (x1 + 1)) <|
  ix r1 a2 fun x2 =>
  ix ((r1.set (Int.toNat a2) (x1 + 1))) a2 fun x3 =>
  bnd (cut_depth a0) fun r2 =>
  if x3 ≤ r2 then
    bnd (cut_right ((r1.set (Int.toNat a2) (x1 + 1)))) fun r3 =>
    some r3
  else
    some false
def cut_Open_k1 (l1 : List Int) : Option ((List Int) × Int) :=
  some (l1, (0 : Int))
def cut_Open_k2 (t17_1 : Int) (rec1 : Int → (List Int) → Option ((List Int) × Int)) (l2 : List Int) : Option ((List Int) × Int) :=
  gd (InR (t17_1 + 1)) <|
  rec1 ((t17_1 + 1)) l2
def cut_Open_B1 (a0 : Bog) (a1 : List Int) (rec1 : Int → (List Int) → Option ((List Int) × Int)) (t17_1 : Int) (l3 : List Int) : Option ((List Int) × Int) :=
  if t17_1 < ((a1.length : Int)) then
    bnd (cut_open a0 a1 t17_1) fun r1 =>
    if r1 = true then
      gd (l3.length + (([t17_1] : List Int)).length ≤ 1000000) <|
      cut_Open_k2 t17_1 rec1 (((l3 ++ ([t17_1] : List Int))))
    else
      cut_Open_k2 t17_1 rec1 l3
  else
    cut_Open_k1 l3
def cut_Open_L1 (a0 : Bog) (a1 : List Int) : Nat → Int → (List Int) → Option ((List Int) × Int)
  | 0, _, _ => none
  | n_ + 1, t17_1, l3 => cut_Open_B1 a0 a1 (cut_Open_L1 a0 a1 n_) t17_1 l3
theorem cut_Open_L1_s {a0 : Bog} {a1 : List Int} {m_ : Nat} {t17_1 : Int} {l3 : List Int} {res : (List Int) × Int} (h : cut_Open_L1 a0 a1 m_ t17_1 l3 = some res) : ∃ k, m_ = k + 1 ∧ cut_Open_B1 a0 a1 (cut_Open_L1 a0 a1 k) t17_1 l3 = some res := by
  cases m_ with
  | zero => cases h
  | succ k => exact ⟨k, rfl, h⟩
def cut_Open (a0 : Bog) (a1 : List Int) : Option ((List Int) × Int) :=
  bnd (cut_CheckHollow a0 a1) fun r2 =>
  if r2 = 0 then
    cut_Open_L1 a0 a1 FU (((0 : Int))) ((([] : List Int)))
  else
    some (([] : List Int), r2)
def ref04_SameInts_k1 : Option Bool :=
  some true
def ref04_SameInts_B1 (a0 : List Int) (a1 : List Int) (rec1 : Int → Option Bool) (t5_1 : Int) : Option Bool :=
  if t5_1 < ((a0.length : Int)) then
    ix a0 t5_1 fun x1 =>
    ix a1 t5_1 fun x2 =>
    if x1 = x2 then
      gd (InR (t5_1 + 1)) <|
      rec1 ((t5_1 + 1))
    else
      some false
  else
    ref04_SameInts_k1
def ref04_SameInts_L1 (a0 : List Int) (a1 : List Int) : Nat → Int → Option Bool
  | 0, _ => none
  | n_ + 1, t5_1 => ref04_SameInts_B1 a0 a1 (ref04_SameInts_L1 a0 a1 n_) t5_1
theorem ref04_SameInts_L1_s {a0 : List Int} {a1 : List Int} {m_ : Nat} {t5_1 : Int} {res : Bool} (h : ref04_SameInts_L1 a0 a1 m_ t5_1 = some res) : ∃ k, m_ = k + 1 ∧ ref04_SameInts_B1 a0 a1 (ref04_SameInts_L1 a0 a1 k) t5_1 = some res := by
  cases m_ with
  | zero => cases h
  | succ k => exact ⟨k, rfl, h⟩
def ref04_SameInts (a0 : List Int) (a1 : List Int) : Option Bool :=
  if ((a0.length : Int)) = ((a1.length : Int)) then
    ref04_SameInts_L1 a0 a1 FU (((0 : Int)))
  else
    some false
def law04_sane : Option Bool :=
  bnd (cut_Best ((⟨([([-3, 5] : List Int)] : List (List Int))⟩ : Bog))) fun r1 =>
  bnd (cut_Count ((⟨([([1, 1] : List Int), ([1, 1] : List Int)] : List (List Int))⟩ : Bog))) fun r2 =>
  bnd (cut_Open ((⟨([([0] : List Int), ([0] : List Int), ([0] : List Int)] : List (List Int))⟩ : Bog)) (([1, 0, 0] : List Int))) fun r3 =>
  if r1.2.2 = 0 then
    if r1.2.1 = 2 then
      bnd (ref04_SameInts r1.1 (([2] : List Int))) fun r4 =>
      if r4 = true then
        if r2.2 = 0 then
          if r2.1 = 7 then
            if r3.2 = 0 then
              bnd (ref04_SameInts r3.1 (([1, 2] : List Int))) fun r5 =>
              some r5
            else
              some false
          else
            some false
        else
          some false
      else
        some false
    else
      some false
  else
    some false
end Go.D4

set_option linter.unusedVariables false
namespace Go.D4
open Go.Tb
def ref04_Validate_k1 : Option Int :=
  some ((0 : Int))
def ref04_Validate_k2 (t4_1 : Int) (rec1 : Int → Option Int) : Option Int :=
  gd (InR (t4_1 + 1)) <|
  rec1 ((t4_1 + 1))
def ref04_Validate_k3 (t5_1 : Int) (rec2 : Int → Option Int) (t77_1 : Bool) : Option Int :=
  if t77_1 = true then
    some ((1 : Int))
  else
    gd (InR (t5_1 + 1)) <|
    rec2 ((t5_1 + 1))
def ref04_Validate_B1 (a0 : Bog) (t4_1 : Int) (rec1 : Int → Option Int) (rec2 : Int → Option Int) (t5_1 : Int) : Option Int :=
  ix a0.worth t4_1 fun x1 =>
  if t5_1 < ((x1.length : Int)) then
    ix a0.worth t4_1 fun x2 =>
    ix x2 t5_1 fun x3 =>
    if (50 : Int) < x3 then
      ref04_Validate_k3 t5_1 rec2 true
    else
      ix a0.worth t4_1 fun x4 =>
      ix x4 t5_1 fun x5 =>
      ref04_Validate_k3 t5_1 rec2 ((decide (x5 < (-50))))
  else
    ref04_Validate_k2 t4_1 rec1
def ref04_Validate_L1 (a0 : Bog) (t4_1 : Int) (rec1 : Int → Option Int) : Nat → Int → Option Int
  | 0, _ => none
  | n_ + 1, t5_1 => ref04_Validate_B1 a0 t4_1 rec1 (ref04_Validate_L1 a0 t4_1 rec1 n_) t5_1
theorem ref04_Validate_L1_s {a0 : Bog} {t4_1 : Int} {rec1 : Int → Option Int} {m_ : Nat} {t5_1 : Int} {res : Int} (h : ref04_Validate_L1 a0 t4_1 rec1 m_ t5_1 = some res) : ∃ k, m_ = k + 1 ∧ ref04_Validate_B1 a0 t4_1 rec1 (ref04_Validate_L1 a0 t4_1 rec1 k) t5_1 = some res := by
  cases m_ with
  | zero => cases h
  | succ k => exact ⟨k, rfl, h⟩
def ref04_Validate_B2 (a0 : Bog) (rec1 : Int → Option Int) (t4_1 : Int) : Option Int :=
  if t4_1 < ((a0.worth.length : Int)) then
    ix a0.worth t4_1 fun x6 =>
    ix a0.worth 0 fun x7 =>
    if ((x6.length : Int)) = ((x7.length : Int)) then
      ref04_Validate_L1 a0 t4_1 rec1 FU (((0 : Int)))
    else
      some ((1 : Int))
  else
    ref04_Validate_k1
def ref04_Validate_L2 (a0 : Bog) : Nat → Int → Option Int
  | 0, _ => none
  | n_ + 1, t4_1 => ref04_Validate_B2 a0 (ref04_Validate_L2 a0 n_) t4_1
theorem ref04_Validate_L2_s {a0 : Bog} {m_ : Nat} {t4_1 : Int} {res : Int} (h : ref04_Validate_L2 a0 m_ t4_1 = some res) : ∃ k, m_ = k + 1 ∧ ref04_Validate_B2 a0 (ref04_Validate_L2 a0 k) t4_1 = some res := by
  cases m_ with
  | zero => cases h
  | succ k => exact ⟨k, rfl, h⟩
def ref04_Validate_k4 (a0 : Bog) (t30_1 : Bool) : Option Int :=
  if t30_1 = true then
    some ((1 : Int))
  else
    ref04_Validate_L2 a0 FU (((0 : Int)))
def ref04_Validate (a0 : Bog) : Option Int :=
  if ((a0.worth.length : Int)) < 1 then
    ref04_Validate_k4 a0 true
  else
    if (6 : Int) < ((a0.worth.length : Int)) then
      ref04_Validate_k4 a0 true
    else
      ix a0.worth 0 fun x8 =>
      if ((x8.length : Int)) < 1 then
        ref04_Validate_k4 a0 true
      else
        ix a0.worth 0 fun x9 =>
        ref04_Validate_k4 a0 ((decide ((4 : Int) < ((x9.length : Int)))))
def ref04_depth (a0 : Bog) : Option Int :=
  ix a0.worth 0 fun x1 =>
  some ((x1.length : Int))
def ref04_right_k1 : Option Bool :=
  some true
def ref04_right_k2 (t3_1 : Int) (rec1 : Int → Option Bool) (t33_1 : Bool) : Option Bool :=
  if t33_1 = true then
    some false
  else
    gd (InR (t3_1 + 1)) <|
    rec1 ((t3_1 + 1))
def ref04_right_B1 (a0 : List Int) (rec1 : Int → Option Bool) (t3_1 : Int) : Option Bool :=
  if t3_1 < ((a0.length : Int)) then
    ix a0 t3_1 fun x1 =>
    gd (InR (t3_1 - 1)) <|
    ix a0 (t3_1 - 1) fun x2 =>
    gd (InR (x1 - x2)) <|
    if (1 : Int) < (x1 - x2) then
      ref04_right_k2 t3_1 rec1 true
    else
      gd (InR (t3_1 - 1)) <|
      ix a0 (t3_1 - 1) fun x3 =>
      ix a0 t3_1 fun x4 =>
      gd (InR (x3 - x4)) <|
      ref04_right_k2 t3_1 rec1 ((decide ((1 : Int) < (x3 - x4))))
  else
    ref04_right_k1
def ref04_right_L1 (a0 : List Int) : Nat → Int → Option Bool
  | 0, _ => none
  | n_ + 1, t3_1 => ref04_right_B1 a0 (ref04_right_L1 a0 n_) t3_1
theorem ref04_right_L1_s {a0 : List Int} {m_ : Nat} {t3_1 : Int} {res : Bool} (h : ref04_right_L1 a0 m_ t3_1 = some res) : ∃ k, m_ = k + 1 ∧ ref04_right_B1 a0 (ref04_right_L1 a0 k) t3_1 = some res := by
  cases m_ with
  | zero => cases h
  | succ k => exact ⟨k, rfl, h⟩
def ref04_right (a0 : List Int) : Option Bool :=
  ref04_right_L1 a0 FU (((1 : Int)))
end Go.D4

set_option linter.unusedVariables false
namespace Go.D4
open Go.Tb
def ref04_worth_k1 (t5_1 : Int) : Option Int :=
  some t5_1
def ref04_worth_k2 (t6_1 : Int) (rec1 : Int → Int → Option Int) (t5_2 : Int) : Option Int :=
  gd (InR (t6_1 + 1)) <|
  rec1 t5_2 ((t6_1 + 1))
def ref04_worth_B1 (a0 : Bog) (a1 : List Int) (t6_1 : Int) (rec1 : Int → Int → Option Int) (rec2 : Int → Int → Option Int) (t5_3 : Int) (t7_1 : Int) : Option Int :=
  ix a1 t6_1 fun x1 =>
  if t7_1 < x1 then
    ix a0.worth t6_1 fun x2 =>
    ix x2 t7_1 fun x3 =>
    gd (InR (t5_3 + x3)) <|
    gd (InR (t7_1 + 1)) <|
    rec2 ((t5_3 + x3)) ((t7_1 + 1))
  else
    ref04_worth_k2 t6_1 rec1 t5_3
def ref04_worth_L1 (a0 : Bog) (a1 : List Int) (t6_1 : Int) (rec1 : Int → Int → Option Int) : Nat → Int → Int → Option Int
  | 0, _, _ => none
  | n_ + 1, t5_3, t7_1 => ref04_worth_B1 a0 a1 t6_1 rec1 (ref04_worth_L1 a0 a1 t6_1 rec1 n_) t5_3 t7_1
theorem ref04_worth_L1_s {a0 : Bog} {a1 : List Int} {t6_1 : Int} {rec1 : Int → Int → Option Int} {m_ : Nat} {t5_3 : Int} {t7_1 : Int} {res : Int} (h : ref04_worth_L1 a0 a1 t6_1 rec1 m_ t5_3 t7_1 = some res) : ∃ k, m_ = k + 1 ∧ ref04_worth_B1 a0 a1 t6_1 rec1 (ref04_worth_L1 a0 a1 t6_1 rec1 k) t5_3 t7_1 = some res := by
  cases m_ with
  | zero => cases h
  | succ k => exact ⟨k, rfl, h⟩
def ref04_worth_B2 (a0 : Bog) (a1 : List Int) (rec1 : Int → Int → Option Int) (t5_4 : Int) (t6_1 : Int) : Option Int :=
  if t6_1 < ((a1.length : Int)) then
    ref04_worth_L1 a0 a1 t6_1 rec1 FU t5_4 (((0 : Int)))
  else
    ref04_worth_k1 t5_4
def ref04_worth_L2 (a0 : Bog) (a1 : List Int) : Nat → Int → Int → Option Int
  | 0, _, _ => none
  | n_ + 1, t5_4, t6_1 => ref04_worth_B2 a0 a1 (ref04_worth_L2 a0 a1 n_) t5_4 t6_1
theorem ref04_worth_L2_s {a0 : Bog} {a1 : List Int} {m_ : Nat} {t5_4 : Int} {t6_1 : Int} {res : Int} (h : ref04_worth_L2 a0 a1 m_ t5_4 t6_1 = some res) : ∃ k, m_ = k + 1 ∧ ref04_worth_B2 a0 a1 (ref04_worth_L2 a0 a1 k) t5_4 t6_1 = some res := by
  cases m_ with
  | zero => cases h
  | succ k => exact ⟨k, rfl, h⟩
def ref04_worth (a0 : Bog) (a1 : List Int) : Option Int :=
  ref04_worth_L2 a0 a1 FU (((0 : Int))) (((0 : Int)))
end Go.D4

set_option linter.unusedVariables false
namespace Go.D4
open Go.Tb
def ref04_least_k1 (l1 : List Int) : Option ((List Int)) :=
  some l1
def ref04_least_k2 (t4_1 : Int) (rec1 : Int → (List Int) → Option ((List Int))) (l2 : List Int) : Option ((List Int)) :=
  gd (InR (t4_1 + 1)) <|
  rec1 ((t4_1 + 1)) l2
def ref04_least_B1 (a0 : List (List Int)) (t4_1 : Int) (rec1 : Int → (List Int) → Option ((List Int))) (rec2 : Int → (List Int) → Option ((List Int))) (t5_1 : Int) (l3 : List Int) : Option ((List Int)) :=
  if t5_1 < ((l3.length : Int)) then
    ix l3 t5_1 fun x1 =>
    ix a0 t4_1 fun x2 =>
    ix x2 t5_1 fun x3 =>
    ix l3 t5_1 fun x4 =>
    gd (InR (t5_1 + 1)) <|
    rec2 ((t5_1 + 1)) (((l3.set (Int.toNat t5_1) (min x1 x3))))
  else
    ref04_least_k2 t4_1 rec1 l3
def ref04_least_L1 (a0 : List (List Int)) (t4_1 : Int) (rec1 : Int → (List Int) → Option ((List Int))) : Nat → Int → (List Int) → Option ((List Int))
  | 0, _, _ => none
  | n_ + 1, t5_1, l3 => ref04_least_B1 a0 t4_1 rec1 (ref04_least_L1 a0 t4_1 rec1 n_) t5_1 l3
theorem ref04_least_L1_s {a0 : List (List Int)} {t4_1 : Int} {rec1 : Int → (List Int) → Option ((List Int))} {m_ : Nat} {t5_1 : Int} {l3 : List Int} {res : (List Int)} (h : ref04_least_L1 a0 t4_1 rec1 m_ t5_1 l3 = some res) : ∃ k, m_ = k + 1 ∧ ref04_least_B1 a0 t4_1 rec1 (ref04_least_L1 a0 t4_1 rec1 k) t5_1 l3 = some res := by
  cases m_ with
  | zero => cases h
  | succ k => exact ⟨k, rfl, h⟩
def ref04_least_B2 (a0 : List (List Int)) (rec1 : Int → (List Int) → Option ((List Int))) (t4_1 : Int) (l4 : List Int) : Option ((List Int)) :=
  if t4_1 < ((a0.length : Int)) then
    ref04_least_L1 a0 t4_1 rec1 FU (((0 : Int))) l4
  else
    ref04_least_k1 l4
def ref04_least_L2 (a0 : List (List Int)) : Nat → Int → (List Int) → Option ((List Int))
  | 0, _, _ => none
  | n_ + 1, t4_1, l4 => ref04_least_B2 a0 (ref04_least_L2 a0 n_) t4_1 l4
theorem ref04_least_L2_s {a0 : List (List Int)} {m_ : Nat} {t4_1 : Int} {l4 : List Int} {res : (List Int)} (h : ref04_least_L2 a0 m_ t4_1 l4 = some res) : ∃ k, m_ = k + 1 ∧ ref04_least_B2 a0 (ref04_least_L2 a0 k) t4_1 l4 = some res := by
  cases m_ with
  | zero => cases h
  | succ k => exact ⟨k, rfl, h⟩
def ref04_least (a0 : List (List Int)) : Option ((List Int)) :=
  ix a0 0 fun x5 =>
  gd ((([] : List Int)).length + x5.length ≤ 1000000) <|
  ref04_least_L2 a0 FU (((0 : Int))) (((([] : List Int) ++ x5)))
end Go.D4

set_option linter.unusedVariables false
namespace Go.D4
open Go.Tb
def ref04_Copy_k1 (m1 : List (List Int)) : Option Bog :=
  some ((⟨m1⟩ : Bog))
def ref04_Copy_B1 (a0 : Bog) (rec1 : Int → (List (List Int)) → Option Bog) (t4_1 : Int) (m2 : List (List Int)) : Option Bog :=
  if t4_1 < ((a0.worth.length : Int)) then
    ix a0.worth t4_1 fun x1 =>
    gd ((([] : List Int)).length + x1.length ≤ 1000000) <|
    gd (m2.length + 1 ≤ 1000000) <|
    gd (InR (t4_1 + 1)) <|
    rec1 ((t4_1 + 1)) (((m2 ++ [(([] : List Int) ++ x1)])))
  else
    ref04_Copy_k1 m2
def ref04_Copy_L1 (a0 : Bog) : Nat → Int → (List (List Int)) → Option Bog
  | 0, _, _ => none
  | n_ + 1, t4_1, m2 => ref04_Copy_B1 a0 (ref04_Copy_L1 a0 n_) t4_1 m2
theorem ref04_Copy_L1_s {a0 : Bog} {m_ : Nat} {t4_1 : Int} {m2 : List (List Int)} {res : Bog} (h : ref04_Copy_L1 a0 m_ t4_1 m2 = some res) : ∃ k, m_ = k + 1 ∧ ref04_Copy_B1 a0 (ref04_Copy_L1 a0 k) t4_1 m2 = some res := by
  cases m_ with
  | zero => cases h
  | succ k => exact ⟨k, rfl, h⟩
def ref04_Copy (a0 : Bog) : Option Bog :=
  ref04_Copy_L1 a0 FU (((0 : Int))) ((([] : List (List Int))))
end Go.D4

set_option linter.unusedVariables false
namespace Go.D4
open Go.Tb
def ref04_all_k1 (m1 : List (List Int)) : Option ((List (List Int))) :=
  some m1
def ref04_all_k2 (t4_1 : Int) (rec1 : Int → (List (List Int)) → Option ((List (List Int)))) (m2 : List (List Int)) : Option ((List (List Int))) :=
  gd (InR (t4_1 + 1)) <|
  rec1 ((t4_1 + 1)) m2
def ref04_all_k3 (t4_1 : Int) (rec1 : Int → (List (List Int)) → Option ((List (List Int)))) (m3 : List (List Int)) : Option ((List (List Int))) :=
  ref04_all_k2 t4_1 rec1 m3
def ref04_all_k4 (t6_1 : Int) (rec2 : Int → (List (List Int)) → Option ((List (List Int)))) (m4 : List (List Int)) : Option ((List (List Int))) :=
  gd (InR (t6_1 + 1)) <|
  rec2 ((t6_1 + 1)) m4
def ref04_all_k5 (t7_1 : Int) (rec3 : Int → (List (List Int)) → Option ((List (List Int)))) (m5 : List (List Int)) : Option ((List (List Int))) :=
  gd (InR (t7_1 + 1)) <|
  rec3 ((t7_1 + 1)) m5
def ref04_all_B1 (a0 : Bog) (m6 : List (List Int)) (t6_1 : Int) (rec2 : Int → (List (List Int)) → Option ((List (List Int)))) (rec3 : Int → (List (List Int)) → Option ((List (List Int)))) (t7_1 : Int) (m7 : List (List Int)) : Option ((List (List Int))) :=
  bnd (ref04_depth a0) fun r1 =>
  if t7_1 ≤ r1 then
    ix m6 t6_1 fun x1 =>
    gd ((([] : List Int)).length + x1.length ≤ 1000000) <|
    gd (((([] : List Int) ++ x1)).length + (([t7_1] : List Int)).length ≤ 1000000) <|
    bnd (ref04_right (((([] : List Int) ++ x1) ++ ([t7_1] : List Int)))) fun r2 =>
    if r2 = true then
      gd (m7.length + 1 ≤ 1000000) <|
      ref04_all_k5 t7_1 rec3 (((m7 ++ [((([] : List Int) ++ x1) ++ ([t7_1] : List Int))])))
    else
      ref04_all_k5 t7_1 rec3 m7
  else
    ref04_all_k4 t6_1 rec2 m7
def ref04_all_L1 (a0 : Bog) (m6 : List (List Int)) (t6_1 : Int) (rec2 : Int → (List (List Int)) → Option ((List (List Int)))) : Nat → Int → (List (List Int)) → Option ((List (List Int)))
  | 0, _, _ => none
  | n_ + 1, t7_1, m7 => ref04_all_B1 a0 m6 t6_1 rec2 (ref04_all_L1 a0 m6 t6_1 rec2 n_) t7_1 m7
theorem ref04_all_L1_s {a0 : Bog} {m6 : List (List Int)} {t6_1 : Int} {rec2 : Int → (List (List Int)) → Option ((List (List Int)))} {m_ : Nat} {t7_1 : Int} {m7 : List (List Int)} {res : (List (List Int))} (h : ref04_all_L1 a0 m6 t6_1 rec2 m_ t7_1 m7 = some res) : ∃ k, m_ = k + 1 ∧ ref04_all_B1 a0 m6 t6_1 rec2 (ref04_all_L1 a0 m6 t6_1 rec2 k) t7_1 m7 = some res := by
  cases m_ with
  | zero => cases h
  | succ k => exact ⟨k, rfl, h⟩
def ref04_all_B2 (a0 : Bog) (t4_1 : Int) (m6 : List (List Int)) (rec1 : Int → (List (List Int)) → Option ((List (List Int)))) (rec2 : Int → (List (List Int)) → Option ((List (List Int)))) (t6_1 : Int) (m8 : List (List Int)) : Option ((List (List Int))) :=
  if t6_1 < ((m6.length : Int)) then
    ref04_all_L1 a0 m6 t6_1 rec2 FU (((0 : Int))) m8
  else
    ref04_all_k3 t4_1 rec1 m8
def ref04_all_L2 (a0 : Bog) (t4_1 : Int) (m6 : List (List Int)) (rec1 : Int → (List (List Int)) → Option ((List (List Int)))) : Nat → Int → (List (List Int)) → Option ((List (List Int)))
  | 0, _, _ => none
  | n_ + 1, t6_1, m8 => ref04_all_B2 a0 t4_1 m6 rec1 (ref04_all_L2 a0 t4_1 m6 rec1 n_) t6_1 m8
theorem ref04_all_L2_s {a0 : Bog} {t4_1 : Int} {m6 : List (List Int)} {rec1 : Int → (List (List Int)) → Option ((List (List Int)))} {m_ : Nat} {t6_1 : Int} {m8 : List (List Int)} {res : (List (List Int))} (h : ref04_all_L2 a0 t4_1 m6 rec1 m_ t6_1 m8 = some res) : ∃ k, m_ = k + 1 ∧ ref04_all_B2 a0 t4_1 m6 rec1 (ref04_all_L2 a0 t4_1 m6 rec1 k) t6_1 m8 = some res := by
  cases m_ with
  | zero => cases h
  | succ k => exact ⟨k, rfl, h⟩
def ref04_all_B3 (a0 : Bog) (rec1 : Int → (List (List Int)) → Option ((List (List Int)))) (t4_1 : Int) (m6 : List (List Int)) : Option ((List (List Int))) :=
  if t4_1 < ((a0.worth.length : Int)) then
    ref04_all_L2 a0 t4_1 m6 rec1 FU (((0 : Int))) ((([] : List (List Int))))
  else
    ref04_all_k1 m6
def ref04_all_L3 (a0 : Bog) : Nat → Int → (List (List Int)) → Option ((List (List Int)))
  | 0, _, _ => none
  | n_ + 1, t4_1, m6 => ref04_all_B3 a0 (ref04_all_L3 a0 n_) t4_1 m6
theorem ref04_all_L3_s {a0 : Bog} {m_ : Nat} {t4_1 : Int} {m6 : List (List Int)} {res : (List (List Int))} (h : ref04_all_L3 a0 m_ t4_1 m6 = some res) : ∃ k, m_ = k + 1 ∧ ref04_all_B3 a0 (ref04_all_L3 a0 k) t4_1 m6 = some res := by
  cases m_ with
  | zero => cases h
  | succ k => exact ⟨k, rfl, h⟩
def ref04_all (a0 : Bog) : Option ((List (List Int))) :=
  ref04_all_L3 a0 FU (((0 : Int))) (((List.replicate 1 ([] : List Int))))
def ref04_bests_k1 (t6_1 : Int) (m1 : List (List Int)) : Option ((List (List Int)) × Int) :=
  some (m1, t6_1)
def ref04_bests_k2 (t7_1 : Int) (rec1 : Int → Int → (List (List Int)) → Option ((List (List Int)) × Int)) (t6_2 : Int) (m2 : List (List Int)) : Option ((List (List Int)) × Int) :=
  gd (InR (t7_1 + 1)) <|
  rec1 t6_2 ((t7_1 + 1)) m2
def ref04_bests_k3 (r1 : (List (List Int))) (t7_1 : Int) (rec1 : Int → Int → (List (List Int)) → Option ((List (List Int)) × Int)) (r2 : Int) (t6_3 : Int) (m3 : List (List Int)) : Option ((List (List Int)) × Int) :=
  if r2 = t6_3 then
    ix r1 t7_1 fun x1 =>
    gd (m3.length + 1 ≤ 1000000) <|
    ref04_bests_k2 t7_1 rec1 t6_3 (((m3 ++ [x1])))
  else
    ref04_bests_k2 t7_1 rec1 t6_3 m3
def ref04_bests_B1 (a0 : Bog) (r1 : (List (List Int))) (rec1 : Int → Int → (List (List Int)) → Option ((List (List Int)) × Int)) (t6_4 : Int) (t7_1 : Int) (m4 : List (List Int)) : Option ((List (List Int)) × Int) :=
  if t7_1 < ((r1.length : Int)) then
    ix r1 t7_1 fun x2 =>
    bnd (ref04_worth a0 x2) fun r2 =>
    if t6_4 < r2 then
      ref04_bests_k3 r1 t7_1 rec1 r2 r2 ((([] : List (List Int))))
    else
      ref04_bests_k3 r1 t7_1 rec1 r2 t6_4 m4
  else
    ref04_bests_k1 t6_4 m4
def ref04_bests_L1 (a0 : Bog) (r1 : (List (List Int))) : Nat → Int → Int → (List (List Int)) → Option ((List (List Int)) × Int)
  | 0, _, _, _ => none
  | n_ + 1, t6_4, t7_1, m4 => ref04_bests_B1 a0 r1 (ref04_bests_L1 a0 r1 n_) t6_4 t7_1 m4
theorem ref04_bests_L1_s {a0 : Bog} {r1 : (List (List Int))} {m_ : Nat} {t6_4 : Int} {t7_1 : Int} {m4 : List (List Int)} {res : (List (List Int)) × Int} (h : ref04_bests_L1 a0 r1 m_ t6_4 t7_1 m4 = some res) : ∃ k, m_ = k + 1 ∧ ref04_bests_B1 a0 r1 (ref04_bests_L1 a0 r1 k) t6_4 t7_1 m4 = some res := by
  cases m_ with
  | zero => cases h
  | succ k => exact ⟨k, rfl, h⟩
def ref04_bests (a0 : Bog) : Option ((List (List Int)) × Int) :=
  bnd (ref04_all a0) fun r1 =>
  ix r1 0 fun x3 =>
  bnd (ref04_worth a0 x3) fun r3 =>
  ref04_bests_L1 a0 r1 FU r3 (((0 : Int))) ((([] : List (List Int))))
def ref04_Best (a0 : Bog) : Option ((List Int) × Int × Int) :=
  bnd (ref04_Validate a0) fun r1 =>
  if r1 = 0 then
    bnd (ref04_bests a0) fun r2 =>
    bnd (ref04_least r2.1) fun r3 =>
    some (r3, r2.2, (0 : Int))
  else
    some (([] : List Int), (0 : Int), r1)
end Go.D4

set_option linter.unusedVariables false
set_option linter.unusedSimpArgs false
namespace Go.Tb
open Go.RowKit
section
variable {P : Program} {n : Nat} {ops : Array Oper} {Q : Exit → Env → World → Prop} {ρ : Env} {w : World}
variable {d : Option Tmp} {ty : TypeId} {pos : String} {after : Array Edge} {g : Option (Nat × Bool)} {K : Value → World → Prop}
end
theorem Own.ne {w : World} {A : Option Addr} {c : Nat} {e : TypeId} {k : Nat} {rows : List (List Value)} (h : Own w A c e k rows) (hr : rows ≠ []) : A ≠ none := by
  rintro rfl
  rcases h.blk with ⟨_, h1, _⟩ | ⟨b, sp, h1, _⟩
  · exact hr h1
  · cases h1
end Go.Tb

set_option linter.unusedVariables false
set_option linter.unusedSimpArgs false
namespace Go.Tb
open Go.RowKit
structure FitsD (n : Nat) (ds : List Deferred) (ρ : Env) (a : Act) : Prop where
  defers : a.defers = ds
  fits : Fits n ρ { a with defers := [] }
def liftD (n : Nat) (ds : List Deferred) (Q : Exit → Env → World → Prop) : Exit → Act → World → Prop := fun e a w => ∃ ρ, FitsD n ds ρ a ∧ Q e ρ w
def CWD (P : Program) (n : Nat) (ds : List Deferred) (c : Code) (Q : Exit → Env → World → Prop) (ρ : Env) (w : World) : Prop := ∀ a, FitsD n ds ρ a → c.wp P (liftD n ds Q) a w
def LWD (P : Program) (n : Nat) (ds : List Deferred) (ops : Array Oper) (Q : Exit → Env → World → Prop) (l : List Oper) (ρ : Env) (w : World) : Prop := ∀ a, FitsD n ds ρ a → wpList P ops (liftD n ds Q) l a w
section
variable {P : Program} {n : Nat} {ds : List Deferred} {ops : Array Oper} {Q : Exit → Env → World → Prop} {ρ : Env} {w : World}
theorem eval_defers (a : Act) (l : List Deferred) : ({ a with defers := l } : Act).eval = a.eval := by
  funext x; cases x <;> rfl
theorem OW.toD {o : Oper} {K : Value → World → Prop} (h : OW P n Q o ρ w K) {a : Act} (ha : FitsD n ds ρ a) : wpV P o a w K (fun c w' => Q (.panic c) ρ w') := by
  have := h _ ha.fits
  unfold wpV at this ⊢
  rw [eval_defers] at this
  exact this
theorem FitsD.upd {a : Act} (h : FitsD n ds ρ a) {d : Option Nat} (hd : okDst n d = true) (v : Value) : FitsD n ds (Tb.upd ρ d v) (a.put d v) := by
  have := h.fits.upd hd v
  refine ⟨?_, ?_⟩
  · cases d <;> exact h.defers
  · cases d <;> exact this
theorem LWD.go {o : Oper} {rest : List Oper} (hg : o.guard = none) (hd : okDst n o.dst = true) (h : OW P n Q o ρ w (fun v w' => LWD P n ds ops Q rest (upd ρ o.dst v) w')) : LWD P n ds ops Q (o :: rest) ρ w := fun a ha => by
  unfold wpList
  rw [if_pos (by simp [Region.wanted, hg])]
  exact .inl (wp_of_wpV (h.toD ha) (fun v w' hk => hk _ (ha.upd hd v)) (fun c w' hk => ⟨ρ, ha, hk⟩))
theorem LWD.pure {o : Oper} {rest : List Oper} {v : Value} (hg : o.guard = none) (hd : okDst n o.dst = true) (h : RV P n o ρ w v) (k : LWD P n ds ops Q rest (upd ρ o.dst v) w) : LWD P n ds ops Q (o :: rest) ρ w :=
  LWD.go hg hd (OW.value h k)
theorem LWD.nil (h : Q .normal ρ w) : LWD P n ds ops Q [] ρ w := fun _ ha => wpList_nil ⟨ρ, ha, h⟩
theorem CWD.region {id : Nat} {l : List Oper} (h : LWD P n ds l.toArray Q l ρ w) : CWD P n ds (.region id l.toArray false) Q ρ w := fun a ha => wp_region_lit (h a ha)
theorem CWD.seq {x y : Code} (h : CWD P n ds x (thenE (fun ρ w => CWD P n ds y Q ρ w) Q) ρ w) : CWD P n ds (.seq x y) Q ρ w := fun a ha => by
  refine wp_seq (wp_mono (h a ha) fun e a' w' hq => ?_)
  obtain ⟨ρ', hf, hq⟩ := hq
  cases e <;> first | exact hq a' hf | exact ⟨ρ', hf, hq⟩
theorem CWD.ret (h : Q .ret ρ w) : CWD P n ds .ret Q ρ w := fun _ ha => wp_ret ⟨ρ, ha, h⟩
variable {d : Option Tmp} {ty : TypeId} {pos : String} {after : Array Edge} {g : Option (Nat × Bool)} {K : Value → World → Prop}
end
end Go.Tb
namespace Go.Tb
theorem Fits.empty {n : Nat} {a : Act} (hd : a.defers = []) (hs : a.tmps.size = n) : Fits n [] a := ⟨hd, hs, fun t v h => by simp [Tb.look] at h⟩
theorem Fits.add {n k : Nat} {v : Value} {ρ : Env} {a : Act} (h : Fits n ρ a) (hv : a.tmps[k]? = some v) : Fits n ((k, v) :: ρ) a := ⟨h.defers, h.size, fun t u hl => by
  unfold Tb.look at hl
  split at hl
  · rename_i hb
    have : k = t := Nat.eq_of_beq_eq_true hb
    subst this
    simp at hl; subst hl; exact hv
  · exact h.at_ t u hl⟩
end Go.Tb
namespace Go.Tb
section
variable {P : Program} {n : Nat} {ops : Array Oper} {Q : Exit → Act → World → Prop} {a : Act} {w : World} {ρ : Env}
end
end Go.Tb
namespace Go.Tb
section
variable {P : Program} {n : Nat} {ρ : Env} {w : World} {d : Option Tmp} {ty : TypeId} {pos : String} {after : Array Edge} {g : Option (Nat × Bool)}
end
end Go.Tb
namespace Go.Tb
section
variable {P : Program} {n : Nat} {ρ : Env} {w : World} {d : Option Tmp} {ty : TypeId} {pos : String} {after : Array Edge} {g : Option (Nat × Bool)}
end
end Go.Tb

set_option linter.unusedVariables false
namespace Go.Tb
structure SlT {α β : Type} (w : World) (A : Option Addr) (c k : Nat) (enc : (Option Addr × Nat) × α → List Value) (f : α → List β) (k2 : Nat) (enc2 : β → List Value) (l : List α) : Prop where
  ex : ∃ hs : List (Option Addr × Nat), hs.length = l.length ∧ Sl w A c k ((hs.zip l).map enc) ∧ ∀ (j : Nat) (h : Option Addr × Nat) (x : α), hs[j]? = some h → l[j]? = some x → Sl w h.1 h.2 k2 ((f x).map enc2)
section
variable {α β : Type} {w w' : World} {A : Option Addr} {c k k2 : Nat} {enc : (Option Addr × Nat) × α → List Value} {f : α → List β} {enc2 : β → List Value} {l : List α}
theorem SlT.ext (h : SlT w A c k enc f k2 enc2 l) (e : Ext w w') : SlT w' A c k enc f k2 enc2 l := by
  obtain ⟨hs, h1, h2, h3⟩ := h.ex
  exact ⟨hs, h1, h2.ext e, fun j h x hj hx => (h3 j h x hj hx).ext e⟩
theorem SlT.at_ (h : SlT w A c k enc f k2 enc2 l) {j : Nat} {x : α} (hx : l[j]? = some x) : ∃ (Aj : Option Addr) (cj : Nat), Cells w (elemPtr A k j) (enc ((Aj, cj), x)) ∧ Sl w Aj cj k2 ((f x).map enc2) := by
  obtain ⟨hs, h1, h2, h3⟩ := h.ex
  have hlt := lt_of_at hx
  have hh : hs[j]? = some hs[j] := by simp [h1, hlt]
  refine ⟨hs[j].1, hs[j].2, ?_, h3 j _ x hh hx⟩
  exact h2.at_ (enc := enc) (x := (hs[j], x)) (by simp [List.getElem?_zip_eq_some, hh, hx])
theorem SlT.addr (h : SlT w A c k enc f k2 enc2 l) {i : Int} (h0 : 0 ≤ i ∧ i < l.length) : ∃ a, A = some a := by
  obtain ⟨hs, h1, h2, _⟩ := h.ex
  exact h2.addr (i := i) (by simp [h1]; omega)
theorem SlT.max (h : SlT w A c k enc f k2 enc2 l) : (l.length : Int) ≤ 9223372036854775807 := by
  obtain ⟨hs, h1, h2, _⟩ := h.ex
  have := h2.max
  simp [h1] at this
  omega
theorem SlT.nil_ : SlT w none 0 k enc f k2 enc2 [] := ⟨⟨[], rfl, Sl.nil (by decide), fun j h l hj => by simp at hj⟩⟩
end
end Go.Tb

set_option linter.unusedVariables false
namespace Go.Tb
open Go.RowKit
section
variable {P : Program} {n : Nat} {ops : Array Oper} {Q : Exit → Env → World → Prop} {ρ : Env} {w : World} {d : Option Tmp} {ty : TypeId} {pos : String} {after : Array Edge} {g : Option (Nat × Bool)} {K : Value → World → Prop}
/-- What an assertion to the type q gives, with its word on whether it holds. -/
def AssertM (P : Program) (q : TypeId) (v r : Value) : Prop := ∀ (t : TypeId) (w : World), (Instr.typeAssert v t q true).run P w = .ok r w
theorem AssertM.yes {q : TypeId} {fs : TypeDesc} {v : Value} (hT : P.underlying q = some fs) (hn : (match fs with | .interface _ => true | _ => false) = false) : AssertM P q (.iface q v) (.tuple #[v, .bool true]) := fun t w => by
  simp only [Instr.typeAssert, Sem.run_bind, run_underlying hT, Result.andThen_ok]
  cases fs <;> simp_all
theorem zeroV_run {q : TypeId} {z : Value} (hz : tyZ P q = some z) (w : World) : (zeroValue q).run P w = .ok z w := by
  unfold tyZ at hz
  cases hi : P.info? q with
  | none => simp [hi] at hz
  | some i => simp [hi] at hz; simp [zeroValue, typeInfo, hi, hz]
theorem AssertM.no {q q' : TypeId} {fs : TypeDesc} {v z : Value} (hT : P.underlying q = some fs) (hn : (match fs with | .interface _ => true | _ => false) = false) (hz : tyZ P q = some z) (hq : q' ≠ q) : AssertM P q (.iface q' v) (.tuple #[z, .bool false]) := fun t w => by
  simp only [Instr.typeAssert, Sem.run_bind, run_underlying hT, Result.andThen_ok]
  cases fs <;> simp_all [zeroV_run hz]
theorem AssertM.nil {q : TypeId} {fs : TypeDesc} {z : Value} (hT : P.underlying q = some fs) (hn : (match fs with | .interface _ => true | _ => false) = false) (hz : tyZ P q = some z) : AssertM P q .nilIface (.tuple #[z, .bool false]) := fun t w => by
  simp only [Instr.typeAssert, Sem.run_bind, run_underlying hT, Result.andThen_ok]
  cases fs <;> simp_all [zeroV_run hz]
/-- A method called through an interface. -/
def CallsM (P : Program) (v : Value) (name : String) (args : List Value) (w : World) (R : Ending → World → Prop) : Prop :=
  ∃ (t : TypeId) (u : Value) (f : FuncId) (r : Value), v = .iface t u ∧ (∀ w, (method (P.types.size + Made.depth) t u name).run P w = .ok (f, r) w) ∧ callable P f = true ∧ Calls P f (r :: args).toArray w R
theorem OW.invoke {recv : Operand} {name : String} {args : Array Operand} {tys : Array TypeId} {vs : List Value} {v : Value} {R : Ending → World → Prop} (hx : ev ρ recv = some v) (hargs : evs ρ args.toList = some vs)
    (hc : CallsM P v name vs w R) (k : ∀ e w', R e w' → ∃ v, e = .returned v ∧ K v w') : OW P n Q ⟨d, .call ⟨.invoke recv name, args, tys⟩, ty, pos, after, g⟩ ρ w K := by
  obtain ⟨t, u, f, r, rfl, hm, hf, hc⟩ := hc
  refine OW.enters (f := f) (args := (r :: vs).toArray) (fun a ha => ?_) hc k
  have h1 : args.map a.eval = vs.toArray := by
    have := ha.evs hargs
    apply Array.toList_inj.1
    rw [Array.toList_map]; exact this
  have hx' := ha.ev hx
  simp only [execOp, resolve, hx', Sem.run_bind, Sem.run_pure, Result.andThen_ok, Go.invoke]
  rw [show (Array.map a.eval args) = vs.toArray from h1]
  have e0 : (#[Value.iface t u] ++ vs.toArray)[0]? = some (.iface t u) := by simp
  have e1 : (#[Value.iface t u] ++ vs.toArray).extract 1 (#[Value.iface t u] ++ vs.toArray).size = vs.toArray := by
    apply Array.toList_inj.1; simp
  simp only [e0, callMethod, Sem.run_bind]
  rw [e1]
  have hp : (program : Sem Program).run P w = .ok P w := rfl
  rw [hp]
  simp only [Result.andThen_ok, hm w]
  have e2 : (#[r] ++ vs.toArray) = (r :: vs).toArray := by
    apply Array.toList_inj.1; simp
  rw [e2]
  exact run_callFunc hf _
end
structure Sl3 {α : Type} (w : World) (A : Option Addr) (c k : Nat) (enc : α → List Value) (lll : List (List (List α))) : Prop where
  ex : ∃ hs : List (Option Addr × Nat), hs.length = lll.length ∧ Sl w A c 1 ((hs.zip lll).map encH) ∧ ∀ (j : Nat) (h : Option Addr × Nat) (l : List (List α)), hs[j]? = some h → lll[j]? = some l → Sl2 w h.1 h.2 k enc l
section
variable {α : Type} {w w' : World} {A : Option Addr} {c k : Nat} {enc : α → List Value} {ll : List (List (List α))}
theorem Sl3.ext (h : Sl3 w A c k enc ll) (e : Ext w w') : Sl3 w' A c k enc ll := by
  obtain ⟨hs, h1, h2, h3⟩ := h.ex
  exact ⟨hs, h1, h2.ext e, fun j h l hj hl => (h3 j h l hj hl).ext e⟩
theorem Sl3.at_ (h : Sl3 w A c k enc ll) {j : Nat} {l : List (List α)} (hl : ll[j]? = some l) : ∃ (Aj : Option Addr) (cj : Nat), Cells w (elemPtr A 1 j) [.slice Aj l.length cj] ∧ Sl2 w Aj cj k enc l := by
  obtain ⟨hs, h1, h2, h3⟩ := h.ex
  have hlt := lt_of_at hl
  have hh : hs[j]? = some hs[j] := by simp [h1, hlt]
  refine ⟨hs[j].1, hs[j].2, ?_, h3 j _ l hh hl⟩
  exact h2.at_ (enc := encH) (x := (hs[j], l)) (by simp [List.getElem?_zip_eq_some, hh, hl])
theorem Sl3.addr (h : Sl3 w A c k enc ll) {i : Int} (h0 : 0 ≤ i ∧ i < ll.length) : ∃ a, A = some a := by
  obtain ⟨hs, h1, h2, _⟩ := h.ex
  exact h2.addr (i := i) (by simp [h1]; omega)
theorem Sl3.nil_ : Sl3 w none 0 k enc ([] : List (List (List α))) := ⟨⟨[], rfl, Sl.nil (by decide), fun j h l hj => by simp at hj⟩⟩
theorem Sl3.one {A1 : Option Addr} {c1 : Nat} {l1 : List (List α)} (h : Sl w A c 1 ([((A1, c1), l1)].map encH)) (s1 : Sl2 w A1 c1 k enc l1) : Sl3 w A c k enc [l1] := by
  refine ⟨[(A1, c1)], rfl, h, fun j x l hj hl => ?_⟩
  match j, hj, hl with
  | 0, hj, hl => simp at hj hl; subst hj; subst hl; exact s1
end
end Go.Tb

set_option linter.unusedVariables false
set_option linter.unusedSimpArgs false
namespace Go.Tb
open Go.RowKit
section
variable {P : Program} {n : Nat} {ops : Array Oper} {Q : Exit → Env → World → Prop} {ρ : Env} {w : World}
variable {d : Option Tmp} {ty : TypeId} {pos : String} {after : Array Edge} {g : Option (Nat × Bool)} {K : Value → World → Prop}
theorem Mod.refl (w : World) (A : Option Addr) : Mod w w A := ⟨rfl, rfl, rfl, Nat.le_refl _, fun _ _ _ => rfl⟩
theorem Mod.trans {w w1 w2 : World} {A : Option Addr} (a : Mod w w1 A) (b : Mod w1 w2 A) : Mod w w2 A :=
  ⟨b.os.trans a.os, b.tape.trans a.tape, b.output.trans a.output, Nat.le_trans a.size b.size, fun k hk hn => (b.block k (Nat.lt_of_lt_of_le hk a.size) hn).trans (a.block k hk hn)⟩
end
section
variable {α : Type} {w : World} {A : Option Addr} {c e k : Nat} {enc : α → List Value} {l : List α}
theorem Own.at0 (h : Own w A c e k (l.map enc)) (h0 : 0 < l.length) : ∃ b, A = some ⟨b, 0, none⟩ := by
  rcases h.own.2 with ⟨hv, hn⟩ | ⟨g, cap, cur, hv, r⟩
  · simp at hn; simp [hn] at h0
  · injection hv with hv1
    exact ⟨g, hv1⟩
end
section
variable {w0 w w' : World} {L : List Ck}
end
end Go.Tb

set_option linter.unusedVariables false
set_option linter.unusedSimpArgs false
namespace Go.Tb
open Go.RowKit
section
variable {α β : Type}
structure TbxH (A : Option Addr) (c to ko : Nat) (enc : (Option Addr × Nat) × α → List Value) (f : α → List β) (ti k2 : Nat) (enc2 : β → List Value) (hs : List (Option Addr × Nat)) (l : List α) (w : World) : Prop where
  len : hs.length = l.length
  outer : Own w A c to ko ((hs.zip l).map enc)
  row : ∀ (i : Nat) (h : Option Addr × Nat) (t : α), hs[i]? = some h → l[i]? = some t → Own w h.1 h.2 ti k2 ((f t).map enc2)
  ne : ∀ (i : Nat) (h : Option Addr × Nat) (b : Nat), hs[i]? = some h → b ∈ adB h.1 → b ∉ adB A
def tbxB (A : Option Addr) (hs : List (Option Addr × Nat)) : List Nat := adB A ++ hs.flatMap fun h => adB h.1
theorem mem_tbxB {A : Option Addr} {hs : List (Option Addr × Nat)} {b : Nat} : b ∈ tbxB A hs ↔ b ∈ adB A ∨ ∃ (i : Nat) (h : Option Addr × Nat), hs[i]? = some h ∧ b ∈ adB h.1 := by
  unfold tbxB
  simp only [List.mem_append, List.mem_flatMap]
  refine or_congr Iff.rfl ⟨?_, ?_⟩
  · rintro ⟨h, hm, hb⟩
    obtain ⟨i, hi⟩ := List.getElem?_of_mem hm
    exact ⟨i, h, hi, hb⟩
  · rintro ⟨i, h, hi, hb⟩
    exact ⟨h, List.mem_of_getElem? hi, hb⟩
variable {A : Option Addr} {c to ko : Nat} {enc : (Option Addr × Nat) × α → List Value} {f : α → List β} {ti k2 : Nat} {enc2 : β → List Value} {hs : List (Option Addr × Nat)} {l : List α} {w w' w0 : World} {L : List Ck}
theorem TbxH.keep (h : TbxH A c to ko enc f ti k2 enc2 hs l w) (hb : ∀ b ∈ tbxB A hs, w'.heap[b]? = w.heap[b]?) : TbxH A c to ko enc f ti k2 enc2 hs l w' :=
  ⟨h.len, h.outer.keep fun b h' => hb b (mem_tbxB.2 (.inl h')), fun i x t hx ht => (h.row i x t hx ht).keep fun b h' => hb b (mem_tbxB.2 (.inr ⟨i, x, hx, h'⟩)), h.ne⟩
theorem TbxH.lt (h : TbxH A c to ko enc f ti k2 enc2 hs l w) : ∀ b ∈ tbxB A hs, b < w.heap.size := by
  intro b hb
  rcases mem_tbxB.1 hb with hb | ⟨i, x, hx, hb⟩
  · exact h.outer.lt b hb
  · have hl : i < l.length := by rw [← h.len]; exact lt_of_at hx
    exact (h.row i x l[i] hx (by simp [hl])).lt b hb
theorem TbxH.holds (h : TbxH A c to ko enc f ti k2 enc2 hs l w) : (Ck.inv (tbxB A hs) (TbxH A c to ko enc f ti k2 enc2 hs l)).holds w :=
  ⟨h.lt, h, fun w1 w2 _ hb q => q.keep hb⟩
end
section
variable {P : Program} {n : Nat} {ops : Array Oper} {Q : Exit → Env → World → Prop} {ρ : Env} {w : World}
variable {d : Option Tmp} {ty : TypeId} {pos : String} {after : Array Edge} {g : Option (Nat × Bool)} {K : Value → World → Prop}
end
section
variable {w0 w w' : World} {L M : List Ck}
end
end Go.Tb

set_option linter.unusedVariables false
set_option linter.unusedSimpArgs false
namespace Go.Tb
open Go.RowKit
section
variable {w0 w w' : World} {L M : List Ck}
end
end Go.Tb
namespace Go.Tb
open Go.RowKit
section
variable {P : Program} {n : Nat} {ops : Array Oper} {Q : Exit → Env → World → Prop} {ρ : Env} {w : World}
variable {d : Option Tmp} {ty : TypeId} {pos : String} {after : Array Edge} {g : Option (Nat × Bool)} {K : Value → World → Prop}
end
end Go.Tb
namespace Go.Tb
end Go.Tb
namespace Go.Tb
section
variable {w0 w w' : World} {L M : List Ck}
/-- All the handles of old are still there. -/
def Cov (hs' hs : List (Option Addr × Nat)) : Prop := ∀ x ∈ hs, x ∈ hs'
theorem Cov.refl (hs : List (Option Addr × Nat)) : Cov hs hs := fun _ h => h
theorem Cov.trans {a b c : List (Option Addr × Nat)} (h : Cov a b) (h' : Cov b c) : Cov a c := fun x hx => h x (h' x hx)
end
end Go.Tb
namespace Go.Tb
end Go.Tb

set_option linter.unusedVariables false
set_option linter.unusedSimpArgs false
namespace Go.Tb
open Go.RowKit
section
variable {κ ν : Type}
/-- The map with an entry for the key, zero if there was none. -/
def ment (eq : κ → κ → Bool) (m : List (κ × ν)) (x : κ) (v0 : ν) : List (κ × ν) := mset eq m x ((mget eq m x).getD v0)
theorem mset_mset (eq : κ → κ → Bool) (hr : ∀ x, eq x x = true) : ∀ (m : List (κ × ν)) (x : κ) (u v : ν), mset eq (mset eq m x u) x v = mset eq m x v
  | [], x, u, v => by simp [mset, hr]
  | p :: m, x, u, v => by
    by_cases h : eq x p.1 = true
    · simp [mset, h, hr]
    · simp only [mset, h, Bool.false_eq_true, if_false]
      rw [mset_mset eq hr m x u v]
theorem mget_mset (eq : κ → κ → Bool) (hr : ∀ x, eq x x = true) : ∀ (m : List (κ × ν)) (x : κ) (u : ν), mget eq (mset eq m x u) x = some u
  | [], x, u => by simp [mset, mget, hr]
  | p :: m, x, u => by
    by_cases h : eq x p.1 = true
    · simp [mset, mget, h, hr]
    · simp only [mset, mget, h, Bool.false_eq_true, if_false]
      exact mget_mset eq hr m x u
theorem ment_get (eq : κ → κ → Bool) (hr : ∀ x, eq x x = true) (m : List (κ × ν)) (x : κ) (v0 : ν) : (mget eq (ment eq m x v0) x).getD v0 = (mget eq m x).getD v0 := by
  unfold ment; rw [mget_mset eq hr]; rfl
theorem ment_set (eq : κ → κ → Bool) (hr : ∀ x, eq x x = true) (m : List (κ × ν)) (x : κ) (v0 v : ν) : mset eq (ment eq m x v0) x v = mset eq m x v := mset_mset eq hr m x _ v
end
section
variable {κ ν : Type} {P : Program} {k : TypeId} {ek : κ → Value} {ev : ν → Value} {eq : κ → κ → Bool} {w : World} {b : Nat} {m : List (κ × ν)}
def EntH (W : World) (b : Nat) (m : List (Value × Value)) (key : Value) (born : Nat) : Prop :=
  ∃ es clock, W.heap[b]? = some (.map es clock) ∧ MapKept.Stamped es clock ∧ es.toList.map (fun e => (e.key, e.val)) = m ∧ ∃ (j : Nat) (e : MapEntry), es[j]? = some e ∧ e.key = key ∧ e.born = born
theorem EntH.mp {W : World} {b : Nat} {m : List (Value × Value)} {key : Value} {born : Nat} (h : EntH W b m key born) : MpH W b m := by
  obtain ⟨es, clock, h1, h2, h3, _⟩ := h
  exact ⟨es, clock, h1, h2, h3⟩
theorem modB (b : Nat) (w : World) (o : Obj) {es : Array MapEntry} {clock : Nat} (hb : w.heap[b]? = some (.map es clock)) : Mod w (ChangeMaps.setBlock w b o) (some ⟨b, 0, none⟩) :=
  ⟨rfl, rfl, rfl, by simp [ChangeMaps.setBlock], fun i _ hi => (MapKept.heap_set hb).2 i (fun e => hi (by rw [e]; rfl))⟩
theorem run_entryM {t e : TypeId} (KO : KeyOK P k ek eq) (hT : tyM P t = some (k, e)) {v0 : ν} (hz : tyZ P e = some (ev v0)) (h : MpH w b (encMap ek ev m)) (x : κ) :
    ∃ w' born, (Instr.mapEntry t (.map (some b)) (ek x)).run P w = .ok (.tuple #[ev ((mget eq m x).getD v0), .int .i64 (born : Nat)]) w' ∧ EntH w' b (encMap ek ev (ment eq m x v0)) (ek x) born ∧ Mod w w' (some ⟨b, 0, none⟩) := by
  obtain ⟨es, clock, hb, hst, hes⟩ := h
  have hf := KO.find w x es.toList _ (keys_of hes)
  unfold ment
  rcases mfind_spec KO.same x ((mget eq m x).getD v0) m es.toList 0 hes with ⟨a1, a2, a3, a4⟩ | ⟨j, e', u, a1, a2, a3, a4, a5, a6⟩
  · rw [a1] at hf
    refine ⟨ChangeMaps.setBlock w b (.map (es.push ⟨ek x, ev v0, clock⟩) (clock + 1)), clock, ?_, ⟨_, _, (MapKept.heap_set hb).1, MapKept.stamped_push hst a4, ?_, es.size, ⟨ek x, ev v0, clock⟩, by simp, rfl, rfl⟩, modB b w _ hb⟩
    · simp [Instr.mapEntry, run_underlying (tyM_spec hT), MapKept.run_getObj_map hb, KO.check, hf, zero_run hz, MapKept.run_setObj_map _ hb, Result.andThen, ChangeMaps.setBlock, a2, goInt]
    · rw [a3, a2, Array.toList_push, List.map_append, hes]; simp [encMap]
  · rw [a1] at hf
    have hj : es[j]? = some e' := by simpa using a2
    have hjl : j < es.toList.length := lt_of_at a2
    have hmod : (es.modify j fun e => { e with key := ek x })[j]? = some { e' with key := ek x } := by
      rw [Array.getElem?_modify, if_pos rfl, hj]; rfl
    refine ⟨ChangeMaps.setBlock w b (.map (es.modify j fun e => { e with key := ek x }) clock), e'.born, ?_, ⟨_, _, (MapKept.heap_set hb).1, MapKept.stamped_modify hst _ _ (fun _ _ => rfl) (fun e'' _ he'' => by rw [hj] at he''; cases he''; exact a3.symm), ?_, j, _, hmod, rfl, rfl⟩, modB b w _ hb⟩
    · simp [Instr.mapEntry, run_underlying (tyM_spec hT), MapKept.run_getObj_map hb, KO.check, hf, hj, a3, a4, a5, KO.stays, MapKept.run_setObj_map _ hb, Result.andThen, ChangeMaps.setBlock, goInt]
    · rw [a6, a4, ← hes, Array.toList_modify]
      apply List.ext_getElem?
      intro i
      rw [List.getElem?_map, List.getElem?_modify, List.getElem?_set, List.getElem?_map, List.length_map]
      by_cases hi : j = i
      · subst hi; rw [a2]; simp [a5]; simpa using hjl
      · simp [hi]
theorem find_born {es : Array MapEntry} {clock : Nat} (hst : MapKept.Stamped es clock) {j : Nat} {e : MapEntry} (hj : es[j]? = some e) : es.findIdx? (fun x => (x.born : Int) == (e.born : Int)) = some j := by
  rw [Array.findIdx?_eq_some_iff_getElem]
  obtain ⟨hlt, rfl⟩ := Array.getElem?_eq_some_iff.1 hj
  refine ⟨hlt, by simp, fun i hi => ?_⟩
  have hnd := hst.2.1
  have hne : es[i].born ≠ es[j].born := by
    intro h
    have := List.pairwise_iff_getElem.1 hnd i j (by simp; omega) (by simpa using hlt) hi
    simp at this
    exact this h
  intro h
  have h' := eq_of_beq h
  exact hne (by omega)
theorem run_storeM {t : TypeId} (KO : KeyOK P k ek eq) {x : κ} {born : Nat} (h : EntH w b (encMap ek ev m) (ek x) born) (v : ν) :
    ∃ w', (Instr.entryStore t (.map (some b)) (.int .i64 (born : Nat)) (ev v)).run P w = .ok () w' ∧ MpH w' b (encMap ek ev (mset eq m x v)) ∧ Mod w w' (some ⟨b, 0, none⟩) := by
  obtain ⟨es, clock, hb, hst, hes, j, e, hj, hk, rfl⟩ := h
  have hfi := find_born hst hj
  have hjl : j < es.toList.length := by simpa using (Array.getElem?_eq_some_iff.1 hj).1
  have hj' : es.toList[j]? = some e := by simpa using hj
  refine ⟨ChangeMaps.setBlock w b (.map (es.modify j fun e => { e with val := ev v }) clock), ?_, ⟨_, _, (MapKept.heap_set hb).1, MapKept.stamped_modify hst _ _ (fun _ _ => rfl) (fun _ _ _ => rfl), ?_⟩, modB b w _ hb⟩
  · simp [Instr.entryStore, MapKept.run_getObj_map hb, asInt, asIntOf, hfi, MapKept.run_setObj_map _ hb, Result.andThen, ChangeMaps.setBlock]
  · rcases mfind_spec KO.same x v m es.toList 0 hes with ⟨_, _, _, a4⟩ | ⟨j2, e2, u, _, a2, a3, _, _, a6⟩
    · exact absurd hk (a4 e (List.mem_of_getElem? hj'))
    · have hjj : j2 = j := by
        have hkeys := hst.2.2
        have l2 := lt_of_at a2
        rcases Nat.lt_trichotomy j2 j with h | h | h
        · have := List.pairwise_iff_getElem.1 hkeys j2 j (by simpa using l2) (by simpa using hjl) h
          simp only [List.getElem_map] at this
          obtain ⟨_, e3⟩ := List.getElem?_eq_some_iff.1 a2
          obtain ⟨_, e4⟩ := List.getElem?_eq_some_iff.1 hj'
          rw [e3, e4, a3, hk] at this
          exact absurd rfl this
        · exact h
        · have := List.pairwise_iff_getElem.1 hkeys j j2 (by simpa using hjl) (by simpa using l2) h
          simp only [List.getElem_map] at this
          obtain ⟨_, e3⟩ := List.getElem?_eq_some_iff.1 a2
          obtain ⟨_, e4⟩ := List.getElem?_eq_some_iff.1 hj'
          rw [e3, e4, a3, hk] at this
          exact absurd rfl this
      subst hjj
      rw [a6, ← hes, Array.toList_modify]
      apply List.ext_getElem?
      intro i
      rw [List.getElem?_map, List.getElem?_modify, List.getElem?_set, List.getElem?_map, List.length_map]
      by_cases hi : j2 = i
      · subst hi; rw [hj']; simp [hk]; simpa using hjl
      · simp [hi]
end
section
variable {P : Program} {n : Nat} {ops : Array Oper} {Q : Exit → Env → World → Prop} {ρ : Env} {w : World}
variable {d : Option Tmp} {ty : TypeId} {pos : String} {after : Array Edge} {g : Option (Nat × Bool)} {K : Value → World → Prop}
theorem OW.entryM {κ ν : Type} {t k e : TypeId} {ek : κ → Value} {ev' : ν → Value} {eq : κ → κ → Bool} {b : Nat} {m : List (κ × ν)} {x y : Operand} (key : κ) (v0 : ν) (KO : KeyOK P k ek eq) (hT : tyM P t = some (k, e)) (hz : tyZ P e = some (ev' v0)) (hx : ev ρ x = some (.map (some b))) (hy : ev ρ y = some (ek key)) (h : MpH w b (encMap ek ev' m))
    (kk : ∀ w' born, Mod w w' (some ⟨b, 0, none⟩) → EntH w' b (encMap ek ev' (ment eq m key v0)) (ek key) born → K (.tuple #[ev' ((mget eq m key).getD v0), .int .i64 (born : Nat)]) w') : OW P n Q ⟨d, .mapEntry t x y, ty, pos, after, g⟩ ρ w K := by
  obtain ⟨w', born, hr, h1, h2⟩ := run_entryM KO hT hz h key
  exact OW.value (w' := w') (fun c hc => by simp [execOp, hc.ev hx, hc.ev hy, hr]) (kk w' born h2 h1)
theorem OW.storeM {κ ν : Type} {t k : TypeId} {ek : κ → Value} {ev' : ν → Value} {eq : κ → κ → Bool} {b born : Nat} {m : List (κ × ν)} {x y z : Operand} (key : κ) (v : ν) (KO : KeyOK P k ek eq) (hx : ev ρ x = some (.map (some b))) (hy : ev ρ y = some (.int .i64 (born : Nat))) (hz : ev ρ z = some (ev' v)) (h : EntH w b (encMap ek ev' m) (ek key) born)
    (kk : ∀ w', Mod w w' (some ⟨b, 0, none⟩) → MpH w' b (encMap ek ev' (mset eq m key v)) → K undef w') : OW P n Q ⟨d, .entryStore t x y z, ty, pos, after, g⟩ ρ w K := by
  obtain ⟨w', hr, h1, h2⟩ := run_storeM (t := t) KO h v
  exact OW.skip_ (w' := w') (fun c hc => by simp [execOp, hc.ev hx, hc.ev hy, hc.ev hz, hr]) (kk w' h2 h1)
end
section
variable {P : Program} {n : Nat} {ops : Array Oper} {Q : Exit → Env → World → Prop} {ρ : Env} {w : World}
variable {d : Option Tmp} {ty : TypeId} {pos : String} {after : Array Edge} {g : Option (Nat × Bool)} {K : Value → World → Prop}
theorem RV.lookupE {κ ν : Type} {t k e : TypeId} {ek : κ → Value} {ev' : ν → Value} {eq : κ → κ → Bool} {b born : Nat} {m : List (κ × ν)} {x y : Operand} (key : κ) (v0 : ν) (KO : KeyOK P k ek eq) (hT : tyM P t = some (k, e)) (hz : tyZ P e = some (ev' v0)) (hx : ev ρ x = some (.map (some b))) (hy : ev ρ y = some (ek key)) (h : EntH w b (encMap ek ev' (ment eq m key v0)) (ek key) born) :
    RV P n ⟨d, .lookup t x y false, ty, pos, after, g⟩ ρ w (ev' ((mget eq m key).getD v0)) := by
  have := RV.lookupM (n := n) (d := d) (ty := ty) (pos := pos) (after := after) (g := g) key v0 KO hT hz hx hy h.mp
  rwa [ment_get eq (fun x => (KO.same x x).2 rfl)] at this
theorem OW.storeEnt {κ ν : Type} {t k : TypeId} {ek : κ → Value} {ev' : ν → Value} {eq : κ → κ → Bool} {b born : Nat} {m : List (κ × ν)} {x y z : Operand} (key : κ) (v0 v : ν) (KO : KeyOK P k ek eq) (hx : ev ρ x = some (.map (some b))) (hy : ev ρ y = some (.int .i64 (born : Nat))) (hz : ev ρ z = some (ev' v)) (h : EntH w b (encMap ek ev' (ment eq m key v0)) (ek key) born)
    (kk : ∀ w', Mod w w' (some ⟨b, 0, none⟩) → MpH w' b (encMap ek ev' (mset eq m key v)) → K undef w') : OW P n Q ⟨d, .entryStore t x y z, ty, pos, after, g⟩ ρ w K :=
  OW.storeM key v KO hx hy hz h fun w' M O => kk w' M (by rwa [ment_set eq (fun x => (KO.same x x).2 rfl)] at O)
end
/-- An entry that a store waits for. -/
def eck (b : Nat) (m : List (Value × Value)) (key : Value) (born : Nat) : Ck := .inv [b] fun W => EntH W b m key born
theorem eck_holds {W : World} {b born : Nat} {m : List (Value × Value)} {key : Value} (h : EntH W b m key born) : (eck b m key born).holds W :=
  ⟨fun b' hb => by simp at hb; subst hb; exact h.mp.lt, h, fun w1 w2 hl he hq => by
    obtain ⟨es, clock, h1, r⟩ := hq
    exact ⟨es, clock, (he b (by simp)).trans h1, r⟩⟩
section
variable {w0 w w' : World} {L : List Ck}
theorem Hp.setE (h : Hp w0 w L) (p : Nat) {b born : Nat} {m m' : List (Value × Value)} {key : Value} (hp : L[p]? = some (.mp b m)) (md : Mod w w' (some ⟨b, 0, none⟩)) (o : EntH w' b m' key born) : Hp w0 w' (L.set p (eck b m' key born)) := by
  refine h.step p hp (h.extMod md fun b' hb => ?_) (fun b' hb hn => md.other hb (fun hc => hn ?_)) (eck_holds o) fun b' hb => .inl (by simpa [eck, Ck.bl] using hb)
  · simp [adB] at hb; subst hb; exact h.fresh p _ hp b' (by simp [Ck.bl])
  · simp [adB] at hc; simp [Ck.bl, hc]
theorem Hp.ent (h : Hp w0 w L) (p : Nat) {b born : Nat} {m : List (Value × Value)} {key : Value} (hp : L[p]? = some (eck b m key born)) : EntH w b m key born := (h.holds p _ hp).2.1
theorem Hp.setS (h : Hp w0 w L) (p : Nat) {b born : Nat} {m m' : List (Value × Value)} {key : Value} (hp : L[p]? = some (eck b m key born)) (md : Mod w w' (some ⟨b, 0, none⟩)) (o : MpH w' b m') : Hp w0 w' (L.set p (.mp b m')) := by
  refine h.step p hp (h.extMod md fun b' hb => ?_) (fun b' hb hn => md.other hb (fun hc => hn ?_)) o fun b' hb => .inl (by simpa [eck, Ck.bl] using hb)
  · simp [adB] at hb; subst hb; exact h.fresh p _ hp b' (by simp [eck, Ck.bl])
  · simp [adB] at hc; simp [eck, Ck.bl, hc]
end
end Go.Tb

set_option linter.unusedVariables false
set_option linter.unusedSimpArgs false
namespace Go.Tb
open Go.RowKit
section
variable {P : Program} {W : World} {bi bm since c0 clock : Nat} {seen : Array Nat} {es : Array MapEntry}
end
section
variable {P : Program} {n : Nat} {ops : Array Oper} {Q : Exit → Env → World → Prop} {ρ : Env} {w : World}
variable {d : Option Tmp} {ty : TypeId} {pos : String} {after : Array Edge} {g : Option (Nat × Bool)} {K : Value → World → Prop}
theorem RV.entryM {bi : Nat} {x : Operand} {v : Value} (hx : ev ρ x = some (.pointer (some ⟨bi, 0, none⟩))) (h : (Instr.entry (.pointer (some ⟨bi, 0, none⟩))).run P w = .ok v w) : RV P n ⟨d, .entry x, ty, pos, after, g⟩ ρ w v :=
  fun a ha => by simp [execOp, ha.ev hx, h]
end
end Go.Tb

set_option linter.unusedVariables false
namespace Go.D4
open Go.Tb
structure Pass where
  column : Int
  row : Int
  to_ : Int
  amount : Int
def encPass (x : Pass) : List Value := [.int .i64 x.column, .int .i64 x.row, .int .i64 x.to_, .int .i64 x.amount]
structure Block where
  column : Int
  row : Int
def ekBlock (x : Block) : Value := .agg #[.int .i64 x.column, .int .i64 x.row]
def eqBlock (x y : Block) : Bool := (x.column == y.column) && (x.row == y.row)
end Go.D4

set_option linter.unusedVariables false
namespace Go.D4
open Go.Tb
def ref04_CheckProof_k1 (t11_1 : Int) : Option (Int × Int) :=
  some (t11_1, (0 : Int))
def ref04_CheckProof_k2 (t12_1 : Int) (rec1 : Int → Int → Option (Int × Int)) (t11_2 : Int) : Option (Int × Int) :=
  gd (InR (t12_1 + 1)) <|
  rec1 t11_2 ((t12_1 + 1))
def ref04_CheckProof_B1 (a0 : Bog) (m1 : List (List Int)) (t12_1 : Int) (rec1 : Int → Int → Option (Int × Int)) (rec2 : Int → Int → Option (Int × Int)) (t11_3 : Int) (t13_1 : Int) : Option (Int × Int) :=
  bnd (ref04_depth a0) fun r1 =>
  if t13_1 < r1 then
    ix m1 t12_1 fun x1 =>
    ix x1 t13_1 fun x2 =>
    gd (InR (t11_3 + (max 0 x2))) <|
    gd (InR (t13_1 + 1)) <|
    rec2 ((t11_3 + (max 0 x2))) ((t13_1 + 1))
  else
    ref04_CheckProof_k2 t12_1 rec1 t11_3
def ref04_CheckProof_L1 (a0 : Bog) (m1 : List (List Int)) (t12_1 : Int) (rec1 : Int → Int → Option (Int × Int)) : Nat → Int → Int → Option (Int × Int)
  | 0, _, _ => none
  | n_ + 1, t11_3, t13_1 => ref04_CheckProof_B1 a0 m1 t12_1 rec1 (ref04_CheckProof_L1 a0 m1 t12_1 rec1 n_) t11_3 t13_1
theorem ref04_CheckProof_L1_s {a0 : Bog} {m1 : List (List Int)} {t12_1 : Int} {rec1 : Int → Int → Option (Int × Int)} {m_ : Nat} {t11_3 : Int} {t13_1 : Int} {res : Int × Int} (h : ref04_CheckProof_L1 a0 m1 t12_1 rec1 m_ t11_3 t13_1 = some res) : ∃ k, m_ = k + 1 ∧ ref04_CheckProof_B1 a0 m1 t12_1 rec1 (ref04_CheckProof_L1 a0 m1 t12_1 rec1 k) t11_3 t13_1 = some res := by
  cases m_ with
  | zero => cases h
  | succ k => exact ⟨k, rfl, h⟩
def ref04_CheckProof_B2 (a0 : Bog) (m1 : List (List Int)) (rec1 : Int → Int → Option (Int × Int)) (t11_4 : Int) (t12_1 : Int) : Option (Int × Int) :=
  if t12_1 < ((a0.worth.length : Int)) then
    ref04_CheckProof_L1 a0 m1 t12_1 rec1 FU t11_4 (((0 : Int)))
  else
    ref04_CheckProof_k1 t11_4
def ref04_CheckProof_L2 (a0 : Bog) (m1 : List (List Int)) : Nat → Int → Int → Option (Int × Int)
  | 0, _, _ => none
  | n_ + 1, t11_4, t12_1 => ref04_CheckProof_B2 a0 m1 (ref04_CheckProof_L2 a0 m1 n_) t11_4 t12_1
theorem ref04_CheckProof_L2_s {a0 : Bog} {m1 : List (List Int)} {m_ : Nat} {t11_4 : Int} {t12_1 : Int} {res : Int × Int} (h : ref04_CheckProof_L2 a0 m1 m_ t11_4 t12_1 = some res) : ∃ k, m_ = k + 1 ∧ ref04_CheckProof_B2 a0 m1 (ref04_CheckProof_L2 a0 m1 k) t11_4 t12_1 = some res := by
  cases m_ with
  | zero => cases h
  | succ k => exact ⟨k, rfl, h⟩
def ref04_CheckProof_k3 (a0 : Bog) (m1 : List (List Int)) : Option (Int × Int) :=
  ref04_CheckProof_L2 a0 m1 FU (((0 : Int))) (((0 : Int)))
def ref04_CheckProof_k4 (t9_1 : Int) (m2 : List (List Int)) (rec3 : Int → (List (List Int)) → Option (Int × Int)) (x3 : Pass) (t85_1 : Bool) : Option (Int × Int) :=
  if t85_1 = true then
    some ((0 : Int), (1 : Int))
  else
    ix m2 x3.column fun x4 =>
    ix x4 x3.row fun x5 =>
    gd (InR (x5 - x3.amount)) <|
    ix x4 x3.row fun x6 =>
    ix ((m2.set (Int.toNat x3.column) (x4.set (Int.toNat x3.row) (x5 - x3.amount)))) x3.to_ fun x7 =>
    gd (InR (x3.row - 1)) <|
    ix x7 (x3.row - 1) fun x8 =>
    gd (InR (x8 + x3.amount)) <|
    ix x7 (x3.row - 1) fun x9 =>
    gd (InR (t9_1 + 1)) <|
    rec3 ((t9_1 + 1)) (((((m2.set (Int.toNat x3.column) (x4.set (Int.toNat x3.row) (x5 - x3.amount)))).set (Int.toNat x3.to_) (x7.set (Int.toNat (x3.row - 1)) (x8 + x3.amount)))))
def ref04_CheckProof_k5 (t9_1 : Int) (m2 : List (List Int)) (rec3 : Int → (List (List Int)) → Option (Int × Int)) (x3 : Pass) (t77_1 : Bool) : Option (Int × Int) :=
  if t77_1 = true then
    some ((0 : Int), (4 : Int))
  else
    if x3.amount < 1 then
      ref04_CheckProof_k4 t9_1 m2 rec3 x3 true
    else
      ref04_CheckProof_k4 t9_1 m2 rec3 x3 ((decide ((1000 : Int) < x3.amount)))
def ref04_CheckProof_B3 (a0 : Bog) (a1 : List Pass) (rec3 : Int → (List (List Int)) → Option (Int × Int)) (t9_1 : Int) (m2 : List (List Int)) : Option (Int × Int) :=
  if t9_1 < ((a1.length : Int)) then
    ix a1 t9_1 fun x3 =>
    if x3.column < 0 then
      ref04_CheckProof_k5 t9_1 m2 rec3 x3 true
    else
      if ((a0.worth.length : Int)) ≤ x3.column then
        ref04_CheckProof_k5 t9_1 m2 rec3 x3 true
      else
        if x3.row < 1 then
          ref04_CheckProof_k5 t9_1 m2 rec3 x3 true
        else
          bnd (ref04_depth a0) fun r2 =>
          if r2 ≤ x3.row then
            ref04_CheckProof_k5 t9_1 m2 rec3 x3 true
          else
            gd (InR (x3.column - 1)) <|
            if x3.to_ < (max 0 (x3.column - 1)) then
              ref04_CheckProof_k5 t9_1 m2 rec3 x3 true
            else
              gd (InR (((a0.worth.length : Int)) - 1)) <|
              gd (InR (x3.column + 1)) <|
              ref04_CheckProof_k5 t9_1 m2 rec3 x3 ((decide ((min (((a0.worth.length : Int)) - 1) (x3.column + 1)) < x3.to_)))
  else
    ref04_CheckProof_k3 a0 m2
def ref04_CheckProof_L3 (a0 : Bog) (a1 : List Pass) : Nat → Int → (List (List Int)) → Option (Int × Int)
  | 0, _, _ => none
  | n_ + 1, t9_1, m2 => ref04_CheckProof_B3 a0 a1 (ref04_CheckProof_L3 a0 a1 n_) t9_1 m2
theorem ref04_CheckProof_L3_s {a0 : Bog} {a1 : List Pass} {m_ : Nat} {t9_1 : Int} {m2 : List (List Int)} {res : Int × Int} (h : ref04_CheckProof_L3 a0 a1 m_ t9_1 m2 = some res) : ∃ k, m_ = k + 1 ∧ ref04_CheckProof_B3 a0 a1 (ref04_CheckProof_L3 a0 a1 k) t9_1 m2 = some res := by
  cases m_ with
  | zero => cases h
  | succ k => exact ⟨k, rfl, h⟩
def ref04_CheckProof (a0 : Bog) (a1 : List Pass) : Option (Int × Int) :=
  bnd (ref04_Validate a0) fun r3 =>
  if r3 = 0 then
    if (60 : Int) < ((a1.length : Int)) then
      some ((0 : Int), (3 : Int))
    else
      bnd (ref04_Copy a0) fun r4 =>
      ref04_CheckProof_L3 a0 a1 FU (((0 : Int))) r4.worth
  else
    some ((0 : Int), r3)
end Go.D4

set_option linter.unusedVariables false
namespace Go.D4
open Go.Tb
structure Link where
  from_ : Block
  to_ : Block
def encLink (x : Link) : List Value := [.int .i64 x.from_.column, .int .i64 x.from_.row, .int .i64 x.to_.column, .int .i64 x.to_.row]
def ekLink (x : Link) : Value := .agg #[.int .i64 x.from_.column, .int .i64 x.from_.row, .int .i64 x.to_.column, .int .i64 x.to_.row]
def eqLink (x y : Link) : Bool := (x.from_.column == y.from_.column) && (x.from_.row == y.from_.row) && (x.to_.column == y.to_.column) && (x.to_.row == y.to_.row)
end Go.D4

set_option linter.unusedVariables false
namespace Go.D4
open Go.Tb
structure Payer where
  bog : Bog
  has : List (Block × Int)
  passed : List (Link × Int)
def cut_payer_way_k1 (m1 : List (Block × Int)) (m2 : List (Link × Int)) (m3 : List (Block × Bool)) : Option ((List Link) × Bool × (List (Block × Int)) × (List (Link × Int)) × (List (Block × Bool))) :=
  some (([] : List Link), false, m1, m2, m3)
def cut_payer_way_k2 (t8_1 : Int) (rec1 : Int → (List (Block × Bool)) → (List (Block × Int)) → (List (Link × Int)) → Option ((List Link) × Bool × (List (Block × Int)) × (List (Link × Int)) × (List (Block × Bool)))) (m4 : List (Block × Bool)) (m5 : List (Block × Int)) (m6 : List (Link × Int)) : Option ((List Link) × Bool × (List (Block × Int)) × (List (Link × Int)) × (List (Block × Bool))) :=
  gd (InR (t8_1 + 1)) <|
  rec1 ((t8_1 + 1)) m4 m5 m6
def cut_payer_way_k3 (a0 : Payer) (a1 : Block) (recf : Payer → Block → (List (Block × Bool)) → Option ((List Link) × Bool × (List (Block × Int)) × (List (Link × Int)) × (List (Block × Bool)))) (t8_1 : Int) (rec1 : Int → (List (Block × Bool)) → (List (Block × Int)) → (List (Link × Int)) → Option ((List Link) × Bool × (List (Block × Int)) × (List (Link × Int)) × (List (Block × Bool)))) (m7 : List (Block × Bool)) (m8 : List (Block × Int)) (m9 : List (Link × Int)) (t87_1 : Bool) : Option ((List Link) × Bool × (List (Block × Int)) × (List (Link × Int)) × (List (Block × Bool))) :=
  if t87_1 = true then
    bnd (recf ((⟨a0.bog, m8, m9⟩ : Payer)) ((⟨a1.column + t8_1, a1.row + 1⟩ : Block)) m7) fun r1 =>
    if r1.2.1 = true then
      gd ((([(⟨a1, (⟨a1.column + t8_1, a1.row + 1⟩ : Block)⟩ : Link)] : List Link)).length + r1.1.length ≤ 1000000) <|
      some ((([(⟨a1, (⟨a1.column + t8_1, a1.row + 1⟩ : Block)⟩ : Link)] : List Link) ++ r1.1), true, r1.2.2.1, r1.2.2.2.1, r1.2.2.2.2)
    else
      cut_payer_way_k2 t8_1 rec1 r1.2.2.2.2 r1.2.2.1 r1.2.2.2.1
  else
    cut_payer_way_k2 t8_1 rec1 m7 m8 m9
def cut_payer_way_k4 (a0 : Payer) (a1 : Block) (recf : Payer → Block → (List (Block × Bool)) → Option ((List Link) × Bool × (List (Block × Int)) × (List (Link × Int)) × (List (Block × Bool)))) (t8_1 : Int) (rec1 : Int → (List (Block × Bool)) → (List (Block × Int)) → (List (Link × Int)) → Option ((List Link) × Bool × (List (Block × Int)) × (List (Link × Int)) × (List (Block × Bool)))) (m7 : List (Block × Bool)) (m8 : List (Block × Int)) (m9 : List (Link × Int)) : Option ((List Link) × Bool × (List (Block × Int)) × (List (Link × Int)) × (List (Block × Bool))) :=
  gd (InR (a1.column + t8_1)) <|
  gd (InR (a1.row + 1)) <|
  if (0 : Int) < ((mget eqLink m9 ((⟨(⟨a1.column + t8_1, a1.row + 1⟩ : Block), (⟨a1.column, a1.row⟩ : Block)⟩ : Link))).getD 0) then
    cut_payer_way_k3 a0 a1 recf t8_1 rec1 m7 m8 m9 ((!((mget eqBlock m7 ((⟨a1.column + t8_1, a1.row + 1⟩ : Block))).getD false)))
  else
    cut_payer_way_k3 a0 a1 recf t8_1 rec1 m7 m8 m9 false
def cut_payer_way_k5 (a0 : Payer) (a1 : Block) (recf : Payer → Block → (List (Block × Bool)) → Option ((List Link) × Bool × (List (Block × Int)) × (List (Link × Int)) × (List (Block × Bool)))) (t8_1 : Int) (m10 : List (Block × Bool)) (m11 : List (Block × Int)) (m12 : List (Link × Int)) (rec1 : Int → (List (Block × Bool)) → (List (Block × Int)) → (List (Link × Int)) → Option ((List Link) × Bool × (List (Block × Int)) × (List (Link × Int)) × (List (Block × Bool)))) (t52_1 : Bool) : Option ((List Link) × Bool × (List (Block × Int)) × (List (Link × Int)) × (List (Block × Bool))) :=
  if t52_1 = true then
    bnd (recf ((⟨a0.bog, m11, m12⟩ : Payer)) ((⟨a1.column + t8_1, a1.row - 1⟩ : Block)) m10) fun r2 =>
    if r2.2.1 = true then
      gd ((([(⟨a1, (⟨a1.column + t8_1, a1.row - 1⟩ : Block)⟩ : Link)] : List Link)).length + r2.1.length ≤ 1000000) <|
      some ((([(⟨a1, (⟨a1.column + t8_1, a1.row - 1⟩ : Block)⟩ : Link)] : List Link) ++ r2.1), true, r2.2.2.1, r2.2.2.2.1, r2.2.2.2.2)
    else
      cut_payer_way_k4 a0 a1 recf t8_1 rec1 r2.2.2.2.2 r2.2.2.1 r2.2.2.2.1
  else
    cut_payer_way_k4 a0 a1 recf t8_1 rec1 m10 m11 m12
def cut_payer_way_B1 (a0 : Payer) (a1 : Block) (recf : Payer → Block → (List (Block × Bool)) → Option ((List Link) × Bool × (List (Block × Int)) × (List (Link × Int)) × (List (Block × Bool)))) (rec1 : Int → (List (Block × Bool)) → (List (Block × Int)) → (List (Link × Int)) → Option ((List Link) × Bool × (List (Block × Int)) × (List (Link × Int)) × (List (Block × Bool)))) (t8_1 : Int) (m10 : List (Block × Bool)) (m11 : List (Block × Int)) (m12 : List (Link × Int)) : Option ((List Link) × Bool × (List (Block × Int)) × (List (Link × Int)) × (List (Block × Bool))) :=
  if t8_1 ≤ 1 then
    gd (InR (a1.column + t8_1)) <|
    gd (InR (a1.row - 1)) <|
    if (0 : Int) ≤ (a1.row - 1) then
      gd (InR (((a0.bog.worth.length : Int)) - 1)) <|
      bnd (cut_from (a1.column + t8_1) ((0 : Int)) (((a0.bog.worth.length : Int)) - 1)) fun r3 =>
      if r3 = true then
        cut_payer_way_k5 a0 a1 recf t8_1 m10 m11 m12 rec1 ((!((mget eqBlock m10 ((⟨a1.column + t8_1, a1.row - 1⟩ : Block))).getD false)))
      else
        cut_payer_way_k5 a0 a1 recf t8_1 m10 m11 m12 rec1 false
    else
      cut_payer_way_k5 a0 a1 recf t8_1 m10 m11 m12 rec1 false
  else
    cut_payer_way_k1 m11 m12 m10
def cut_payer_way_L1 (a0 : Payer) (a1 : Block) (recf : Payer → Block → (List (Block × Bool)) → Option ((List Link) × Bool × (List (Block × Int)) × (List (Link × Int)) × (List (Block × Bool)))) : Nat → Int → (List (Block × Bool)) → (List (Block × Int)) → (List (Link × Int)) → Option ((List Link) × Bool × (List (Block × Int)) × (List (Link × Int)) × (List (Block × Bool)))
  | 0, _, _, _, _ => none
  | n_ + 1, t8_1, m10, m11, m12 => cut_payer_way_B1 a0 a1 recf (cut_payer_way_L1 a0 a1 recf n_) t8_1 m10 m11 m12
theorem cut_payer_way_L1_s {a0 : Payer} {a1 : Block} {recf : Payer → Block → (List (Block × Bool)) → Option ((List Link) × Bool × (List (Block × Int)) × (List (Link × Int)) × (List (Block × Bool)))} {m_ : Nat} {t8_1 : Int} {m10 : List (Block × Bool)} {m11 : List (Block × Int)} {m12 : List (Link × Int)} {res : (List Link) × Bool × (List (Block × Int)) × (List (Link × Int)) × (List (Block × Bool))} (h : cut_payer_way_L1 a0 a1 recf m_ t8_1 m10 m11 m12 = some res) : ∃ k, m_ = k + 1 ∧ cut_payer_way_B1 a0 a1 recf (cut_payer_way_L1 a0 a1 recf k) t8_1 m10 m11 m12 = some res := by
  cases m_ with
  | zero => cases h
  | succ k => exact ⟨k, rfl, h⟩
def cut_payer_way_body (recf : Payer → Block → (List (Block × Bool)) → Option ((List Link) × Bool × (List (Block × Int)) × (List (Link × Int)) × (List (Block × Bool)))) (a0 : Payer) (a1 : Block) (a2 : List (Block × Bool)) : Option ((List Link) × Bool × (List (Block × Int)) × (List (Link × Int)) × (List (Block × Bool))) :=
  if ((mget eqBlock a0.has ((⟨a1.column, a1.row⟩ : Block))).getD 0) < 0 then
    some (([] : List Link), true, a0.has, a0.passed, (mset eqBlock a2 ((⟨a1.column, a1.row⟩ : Block)) true))
  else
    cut_payer_way_L1 a0 a1 recf FU (((-1 : Int))) (((mset eqBlock a2 ((⟨a1.column, a1.row⟩ : Block)) true))) a0.has a0.passed
def cut_payer_way_F : Nat → Payer → Block → (List (Block × Bool)) → Option ((List Link) × Bool × (List (Block × Int)) × (List (Link × Int)) × (List (Block × Bool)))
  | 0, _, _, _ => none
  | n_ + 1, a0, a1, a2 => cut_payer_way_body (cut_payer_way_F n_) a0 a1 a2
def cut_payer_way (a0 : Payer) (a1 : Block) (a2 : List (Block × Bool)) : Option ((List Link) × Bool × (List (Block × Int)) × (List (Link × Int)) × (List (Block × Bool))) := cut_payer_way_F FU a0 a1 a2
end Go.D4

set_option linter.unusedVariables false
namespace Go.D4
open Go.Tb
def cut_payer_pay_k1 (a1 : Block) (r1 : (List Link) × Bool × (List (Block × Int)) × (List (Link × Int)) × (List (Block × Bool))) (x1 : Link) (t8_1 : Int) (m1 : List (Link × Int)) : Option (Bool × (List (Block × Int)) × (List (Link × Int))) :=
  some (true, (mset eqBlock ((mset eqBlock r1.2.2.1 ((⟨a1.column, a1.row⟩ : Block)) (((mget eqBlock r1.2.2.1 ((⟨a1.column, a1.row⟩ : Block))).getD 0) - t8_1))) ((⟨x1.to_.column, x1.to_.row⟩ : Block)) (((mget eqBlock ((mset eqBlock r1.2.2.1 ((⟨a1.column, a1.row⟩ : Block)) (((mget eqBlock r1.2.2.1 ((⟨a1.column, a1.row⟩ : Block))).getD 0) - t8_1))) ((⟨x1.to_.column, x1.to_.row⟩ : Block))).getD 0) + t8_1)), m1)
def cut_payer_pay_k2 (t81_1 : Int) (rec1 : Int → (List (Link × Int)) → Option (Bool × (List (Block × Int)) × (List (Link × Int)))) (m2 : List (Link × Int)) : Option (Bool × (List (Block × Int)) × (List (Link × Int))) :=
  gd (InR (t81_1 + 1)) <|
  rec1 ((t81_1 + 1)) m2
def cut_payer_pay_B1 (a1 : Block) (r1 : (List Link) × Bool × (List (Block × Int)) × (List (Link × Int)) × (List (Block × Bool))) (x1 : Link) (t8_1 : Int) (rec1 : Int → (List (Link × Int)) → Option (Bool × (List (Block × Int)) × (List (Link × Int)))) (t81_1 : Int) (m3 : List (Link × Int)) : Option (Bool × (List (Block × Int)) × (List (Link × Int))) :=
  if t81_1 < ((r1.1.length : Int)) then
    ix r1.1 t81_1 fun x2 =>
    if x2.from_.row < x2.to_.row then
      gd (InR (((mget eqLink m3 ((⟨(⟨x2.to_.column, x2.to_.row⟩ : Block), (⟨x2.from_.column, x2.from_.row⟩ : Block)⟩ : Link))).getD 0) - t8_1)) <|
      cut_payer_pay_k2 t81_1 rec1 (((mset eqLink m3 ((⟨(⟨x2.to_.column, x2.to_.row⟩ : Block), (⟨x2.from_.column, x2.from_.row⟩ : Block)⟩ : Link)) (((mget eqLink m3 ((⟨(⟨x2.to_.column, x2.to_.row⟩ : Block), (⟨x2.from_.column, x2.from_.row⟩ : Block)⟩ : Link))).getD 0) - t8_1))))
    else
      gd (InR (((mget eqLink m3 ((⟨(⟨x2.from_.column, x2.from_.row⟩ : Block), (⟨x2.to_.column, x2.to_.row⟩ : Block)⟩ : Link))).getD 0) + t8_1)) <|
      cut_payer_pay_k2 t81_1 rec1 (((mset eqLink m3 ((⟨(⟨x2.from_.column, x2.from_.row⟩ : Block), (⟨x2.to_.column, x2.to_.row⟩ : Block)⟩ : Link)) (((mget eqLink m3 ((⟨(⟨x2.from_.column, x2.from_.row⟩ : Block), (⟨x2.to_.column, x2.to_.row⟩ : Block)⟩ : Link))).getD 0) + t8_1))))
  else
    cut_payer_pay_k1 a1 r1 x1 t8_1 m3
def cut_payer_pay_L1 (a1 : Block) (r1 : (List Link) × Bool × (List (Block × Int)) × (List (Link × Int)) × (List (Block × Bool))) (x1 : Link) (t8_1 : Int) : Nat → Int → (List (Link × Int)) → Option (Bool × (List (Block × Int)) × (List (Link × Int)))
  | 0, _, _ => none
  | n_ + 1, t81_1, m3 => cut_payer_pay_B1 a1 r1 x1 t8_1 (cut_payer_pay_L1 a1 r1 x1 t8_1 n_) t81_1 m3
theorem cut_payer_pay_L1_s {a1 : Block} {r1 : (List Link) × Bool × (List (Block × Int)) × (List (Link × Int)) × (List (Block × Bool))} {x1 : Link} {t8_1 : Int} {m_ : Nat} {t81_1 : Int} {m3 : List (Link × Int)} {res : Bool × (List (Block × Int)) × (List (Link × Int))} (h : cut_payer_pay_L1 a1 r1 x1 t8_1 m_ t81_1 m3 = some res) : ∃ k, m_ = k + 1 ∧ cut_payer_pay_B1 a1 r1 x1 t8_1 (cut_payer_pay_L1 a1 r1 x1 t8_1 k) t81_1 m3 = some res := by
  cases m_ with
  | zero => cases h
  | succ k => exact ⟨k, rfl, h⟩
def cut_payer_pay_k3 (a1 : Block) (r1 : (List Link) × Bool × (List (Block × Int)) × (List (Link × Int)) × (List (Block × Bool))) (x1 : Link) (t8_1 : Int) : Option (Bool × (List (Block × Int)) × (List (Link × Int))) :=
  cut_payer_pay_L1 a1 r1 x1 t8_1 FU (((0 : Int))) r1.2.2.2.1
def cut_payer_pay_k4 (a1 : Block) (r1 : (List Link) × Bool × (List (Block × Int)) × (List (Link × Int)) × (List (Block × Bool))) (x1 : Link) (t8_1 : Int) : Option (Bool × (List (Block × Int)) × (List (Link × Int))) :=
  gd (InR (((mget eqBlock ((mset eqBlock r1.2.2.1 ((⟨a1.column, a1.row⟩ : Block)) (((mget eqBlock r1.2.2.1 ((⟨a1.column, a1.row⟩ : Block))).getD 0) - t8_1))) ((⟨x1.to_.column, x1.to_.row⟩ : Block))).getD 0) + t8_1)) <|
  cut_payer_pay_k3 a1 r1 x1 t8_1
def cut_payer_pay_k5 (a1 : Block) (r1 : (List Link) × Bool × (List (Block × Int)) × (List (Link × Int)) × (List (Block × Bool))) (x1 : Link) (t8_1 : Int) : Option (Bool × (List (Block × Int)) × (List (Link × Int))) :=
  gd (InR (((mget eqBlock r1.2.2.1 ((⟨a1.column, a1.row⟩ : Block))).getD 0) - t8_1)) <|
  cut_payer_pay_k4 a1 r1 x1 t8_1
def cut_payer_pay_k6 (t41_1 : Int) (rec2 : Int → Int → Option (Bool × (List (Block × Int)) × (List (Link × Int)))) (t8_2 : Int) : Option (Bool × (List (Block × Int)) × (List (Link × Int))) :=
  gd (InR (t41_1 + 1)) <|
  rec2 t8_2 ((t41_1 + 1))
def cut_payer_pay_B2 (a1 : Block) (r1 : (List Link) × Bool × (List (Block × Int)) × (List (Link × Int)) × (List (Block × Bool))) (x1 : Link) (rec2 : Int → Int → Option (Bool × (List (Block × Int)) × (List (Link × Int)))) (t8_3 : Int) (t41_1 : Int) : Option (Bool × (List (Block × Int)) × (List (Link × Int))) :=
  if t41_1 < ((r1.1.length : Int)) then
    ix r1.1 t41_1 fun x3 =>
    if x3.from_.row < x3.to_.row then
      cut_payer_pay_k6 t41_1 rec2 ((min t8_3 ((mget eqLink r1.2.2.2.1 ((⟨(⟨x3.to_.column, x3.to_.row⟩ : Block), (⟨x3.from_.column, x3.from_.row⟩ : Block)⟩ : Link))).getD 0)))
    else
      cut_payer_pay_k6 t41_1 rec2 t8_3
  else
    cut_payer_pay_k5 a1 r1 x1 t8_3
def cut_payer_pay_L2 (a1 : Block) (r1 : (List Link) × Bool × (List (Block × Int)) × (List (Link × Int)) × (List (Block × Bool))) (x1 : Link) : Nat → Int → Int → Option (Bool × (List (Block × Int)) × (List (Link × Int)))
  | 0, _, _ => none
  | n_ + 1, t8_3, t41_1 => cut_payer_pay_B2 a1 r1 x1 (cut_payer_pay_L2 a1 r1 x1 n_) t8_3 t41_1
theorem cut_payer_pay_L2_s {a1 : Block} {r1 : (List Link) × Bool × (List (Block × Int)) × (List (Link × Int)) × (List (Block × Bool))} {x1 : Link} {m_ : Nat} {t8_3 : Int} {t41_1 : Int} {res : Bool × (List (Block × Int)) × (List (Link × Int))} (h : cut_payer_pay_L2 a1 r1 x1 m_ t8_3 t41_1 = some res) : ∃ k, m_ = k + 1 ∧ cut_payer_pay_B2 a1 r1 x1 (cut_payer_pay_L2 a1 r1 x1 k) t8_3 t41_1 = some res := by
  cases m_ with
  | zero => cases h
  | succ k => exact ⟨k, rfl, h⟩
def cut_payer_pay (a0 : Payer) (a1 : Block) : Option (Bool × (List (Block × Int)) × (List (Link × Int))) :=
  bnd (cut_payer_way a0 a1 (([] : List (Block × Bool)))) fun r1 =>
  if r1.2.1 = true then
    gd (InR (((r1.1.length : Int)) - 1)) <|
    ix r1.1 (((r1.1.length : Int)) - 1) fun x1 =>
    gd (InR (-((mget eqBlock r1.2.2.1 ((⟨x1.to_.column, x1.to_.row⟩ : Block))).getD 0))) <|
    cut_payer_pay_L2 a1 r1 x1 FU ((min ((mget eqBlock r1.2.2.1 ((⟨a1.column, a1.row⟩ : Block))).getD 0) (-((mget eqBlock r1.2.2.1 ((⟨x1.to_.column, x1.to_.row⟩ : Block))).getD 0)))) (((0 : Int)))
  else
    some (false, r1.2.2.1, r1.2.2.2.1)
end Go.D4

set_option linter.unusedVariables false
namespace Go.D4
open Go.Tb
def cut_Proof_k1 (l1 : List Pass) : Option ((List Pass) × Int) :=
  some (l1, (0 : Int))
def cut_Proof_k2 (t81_1 : Int) (rec1 : Int → (List Pass) → Option ((List Pass) × Int)) (l2 : List Pass) : Option ((List Pass) × Int) :=
  gd (InR (t81_1 + 1)) <|
  rec1 ((t81_1 + 1)) l2
def cut_Proof_k3 (t15_1 : Int) (rec2 : Int → (List Pass) → Option ((List Pass) × Int)) (l3 : List Pass) : Option ((List Pass) × Int) :=
  gd (InR (t15_1 + 1)) <|
  rec2 ((t15_1 + 1)) l3
def cut_Proof_k4 (t16_1 : Int) (rec3 : Int → (List Pass) → Option ((List Pass) × Int)) (l4 : List Pass) : Option ((List Pass) × Int) :=
  gd (InR (t16_1 + 1)) <|
  rec3 ((t16_1 + 1)) l4
def cut_Proof_B1 (m1 : List (Link × Int)) (t81_1 : Int) (t15_1 : Int) (rec2 : Int → (List Pass) → Option ((List Pass) × Int)) (rec3 : Int → (List Pass) → Option ((List Pass) × Int)) (t16_1 : Int) (l5 : List Pass) : Option ((List Pass) × Int) :=
  gd (InR (t81_1 + 1)) <|
  if t16_1 ≤ (t81_1 + 1) then
    gd (InR (t15_1 - 1)) <|
    if (0 : Int) < ((mget eqLink m1 ((⟨(⟨t81_1, t15_1⟩ : Block), (⟨t16_1, t15_1 - 1⟩ : Block)⟩ : Link))).getD 0) then
      gd (l5.length + (([(⟨t81_1, t15_1, t16_1, (mget eqLink m1 ((⟨(⟨t81_1, t15_1⟩ : Block), (⟨t16_1, t15_1 - 1⟩ : Block)⟩ : Link))).getD 0⟩ : Pass)] : List Pass)).length ≤ 1000000) <|
      cut_Proof_k4 t16_1 rec3 (((l5 ++ ([(⟨t81_1, t15_1, t16_1, (mget eqLink m1 ((⟨(⟨t81_1, t15_1⟩ : Block), (⟨t16_1, t15_1 - 1⟩ : Block)⟩ : Link))).getD 0⟩ : Pass)] : List Pass))))
    else
      cut_Proof_k4 t16_1 rec3 l5
  else
    cut_Proof_k3 t15_1 rec2 l5
def cut_Proof_L1 (m1 : List (Link × Int)) (t81_1 : Int) (t15_1 : Int) (rec2 : Int → (List Pass) → Option ((List Pass) × Int)) : Nat → Int → (List Pass) → Option ((List Pass) × Int)
  | 0, _, _ => none
  | n_ + 1, t16_1, l5 => cut_Proof_B1 m1 t81_1 t15_1 rec2 (cut_Proof_L1 m1 t81_1 t15_1 rec2 n_) t16_1 l5
theorem cut_Proof_L1_s {m1 : List (Link × Int)} {t81_1 : Int} {t15_1 : Int} {rec2 : Int → (List Pass) → Option ((List Pass) × Int)} {m_ : Nat} {t16_1 : Int} {l5 : List Pass} {res : (List Pass) × Int} (h : cut_Proof_L1 m1 t81_1 t15_1 rec2 m_ t16_1 l5 = some res) : ∃ k, m_ = k + 1 ∧ cut_Proof_B1 m1 t81_1 t15_1 rec2 (cut_Proof_L1 m1 t81_1 t15_1 rec2 k) t16_1 l5 = some res := by
  cases m_ with
  | zero => cases h
  | succ k => exact ⟨k, rfl, h⟩
def cut_Proof_B2 (a0 : Bog) (m1 : List (Link × Int)) (t81_1 : Int) (rec1 : Int → (List Pass) → Option ((List Pass) × Int)) (rec2 : Int → (List Pass) → Option ((List Pass) × Int)) (t15_1 : Int) (l6 : List Pass) : Option ((List Pass) × Int) :=
  bnd (cut_depth a0) fun r1 =>
  if t15_1 < r1 then
    gd (InR (t81_1 - 1)) <|
    cut_Proof_L1 m1 t81_1 t15_1 rec2 FU ((t81_1 - 1)) l6
  else
    cut_Proof_k2 t81_1 rec1 l6
def cut_Proof_L2 (a0 : Bog) (m1 : List (Link × Int)) (t81_1 : Int) (rec1 : Int → (List Pass) → Option ((List Pass) × Int)) : Nat → Int → (List Pass) → Option ((List Pass) × Int)
  | 0, _, _ => none
  | n_ + 1, t15_1, l6 => cut_Proof_B2 a0 m1 t81_1 rec1 (cut_Proof_L2 a0 m1 t81_1 rec1 n_) t15_1 l6
theorem cut_Proof_L2_s {a0 : Bog} {m1 : List (Link × Int)} {t81_1 : Int} {rec1 : Int → (List Pass) → Option ((List Pass) × Int)} {m_ : Nat} {t15_1 : Int} {l6 : List Pass} {res : (List Pass) × Int} (h : cut_Proof_L2 a0 m1 t81_1 rec1 m_ t15_1 l6 = some res) : ∃ k, m_ = k + 1 ∧ cut_Proof_B2 a0 m1 t81_1 rec1 (cut_Proof_L2 a0 m1 t81_1 rec1 k) t15_1 l6 = some res := by
  cases m_ with
  | zero => cases h
  | succ k => exact ⟨k, rfl, h⟩
def cut_Proof_B3 (a0 : Bog) (m1 : List (Link × Int)) (rec1 : Int → (List Pass) → Option ((List Pass) × Int)) (t81_1 : Int) (l7 : List Pass) : Option ((List Pass) × Int) :=
  if t81_1 < ((a0.worth.length : Int)) then
    cut_Proof_L2 a0 m1 t81_1 rec1 FU (((1 : Int))) l7
  else
    cut_Proof_k1 l7
def cut_Proof_L3 (a0 : Bog) (m1 : List (Link × Int)) : Nat → Int → (List Pass) → Option ((List Pass) × Int)
  | 0, _, _ => none
  | n_ + 1, t81_1, l7 => cut_Proof_B3 a0 m1 (cut_Proof_L3 a0 m1 n_) t81_1 l7
theorem cut_Proof_L3_s {a0 : Bog} {m1 : List (Link × Int)} {m_ : Nat} {t81_1 : Int} {l7 : List Pass} {res : (List Pass) × Int} (h : cut_Proof_L3 a0 m1 m_ t81_1 l7 = some res) : ∃ k, m_ = k + 1 ∧ cut_Proof_B3 a0 m1 (cut_Proof_L3 a0 m1 k) t81_1 l7 = some res := by
  cases m_ with
  | zero => cases h
  | succ k => exact ⟨k, rfl, h⟩
def cut_Proof_k5 (a0 : Bog) (m2 : List (Block × Int)) (m1 : List (Link × Int)) : Option ((List Pass) × Int) :=
  cut_Proof_L3 a0 m1 FU (((0 : Int))) ((([] : List Pass)))
def cut_Proof_k6 (t54_1 : Int) (rec4 : Bool → Int → (List (Block × Int)) → (List (Link × Int)) → Option ((List Pass) × Int)) (t10_1 : Bool) (m3 : List (Block × Int)) (m4 : List (Link × Int)) : Option ((List Pass) × Int) :=
  gd (InR (t54_1 + 1)) <|
  rec4 t10_1 ((t54_1 + 1)) m3 m4
def cut_Proof_k7 (t59_1 : Int) (rec5 : Bool → Int → (List (Block × Int)) → (List (Link × Int)) → Option ((List Pass) × Int)) (t10_2 : Bool) (m5 : List (Block × Int)) (m6 : List (Link × Int)) : Option ((List Pass) × Int) :=
  gd (InR (t59_1 + 1)) <|
  rec5 t10_2 ((t59_1 + 1)) m5 m6
def cut_Proof_k8 (t10_3 : Bool) (t59_1 : Int) (rec5 : Bool → Int → (List (Block × Int)) → (List (Link × Int)) → Option ((List Pass) × Int)) (t75_1 : Bool) (m7 : List (Block × Int)) (m8 : List (Link × Int)) : Option ((List Pass) × Int) :=
  if t75_1 = true then
    cut_Proof_k7 t59_1 rec5 true m7 m8
  else
    cut_Proof_k7 t59_1 rec5 t10_3 m7 m8
def cut_Proof_B4 (a0 : Bog) (t54_1 : Int) (rec4 : Bool → Int → (List (Block × Int)) → (List (Link × Int)) → Option ((List Pass) × Int)) (r2 : Int) (rec5 : Bool → Int → (List (Block × Int)) → (List (Link × Int)) → Option ((List Pass) × Int)) (t10_3 : Bool) (t59_1 : Int) (m9 : List (Block × Int)) (m10 : List (Link × Int)) : Option ((List Pass) × Int) :=
  if t59_1 < r2 then
    if (0 : Int) < ((mget eqBlock m9 ((⟨t54_1, t59_1⟩ : Block))).getD 0) then
      bnd (cut_payer_pay ((⟨a0, m9, m10⟩ : Payer)) ((⟨t54_1, t59_1⟩ : Block))) fun r3 =>
      cut_Proof_k8 t10_3 t59_1 rec5 r3.1 r3.2.1 r3.2.2
    else
      cut_Proof_k8 t10_3 t59_1 rec5 false m9 m10
  else
    cut_Proof_k6 t54_1 rec4 t10_3 m9 m10
def cut_Proof_L4 (a0 : Bog) (t54_1 : Int) (rec4 : Bool → Int → (List (Block × Int)) → (List (Link × Int)) → Option ((List Pass) × Int)) (r2 : Int) : Nat → Bool → Int → (List (Block × Int)) → (List (Link × Int)) → Option ((List Pass) × Int)
  | 0, _, _, _, _ => none
  | n_ + 1, t10_3, t59_1, m9, m10 => cut_Proof_B4 a0 t54_1 rec4 r2 (cut_Proof_L4 a0 t54_1 rec4 r2 n_) t10_3 t59_1 m9 m10
theorem cut_Proof_L4_s {a0 : Bog} {t54_1 : Int} {rec4 : Bool → Int → (List (Block × Int)) → (List (Link × Int)) → Option ((List Pass) × Int)} {r2 : Int} {m_ : Nat} {t10_3 : Bool} {t59_1 : Int} {m9 : List (Block × Int)} {m10 : List (Link × Int)} {res : (List Pass) × Int} (h : cut_Proof_L4 a0 t54_1 rec4 r2 m_ t10_3 t59_1 m9 m10 = some res) : ∃ k, m_ = k + 1 ∧ cut_Proof_B4 a0 t54_1 rec4 r2 (cut_Proof_L4 a0 t54_1 rec4 r2 k) t10_3 t59_1 m9 m10 = some res := by
  cases m_ with
  | zero => cases h
  | succ k => exact ⟨k, rfl, h⟩
def cut_Proof_B5 (a0 : Bog) (rec6 : Bool → (List (Block × Int)) → (List (Link × Int)) → Option ((List Pass) × Int)) (rec4 : Bool → Int → (List (Block × Int)) → (List (Link × Int)) → Option ((List Pass) × Int)) (t10_4 : Bool) (t54_1 : Int) (m11 : List (Block × Int)) (m12 : List (Link × Int)) : Option ((List Pass) × Int) :=
  if t54_1 < ((a0.worth.length : Int)) then
    bnd (cut_depth a0) fun r2 =>
    cut_Proof_L4 a0 t54_1 rec4 r2 FU t10_4 (((0 : Int))) m11 m12
  else
    rec6 t10_4 m11 m12
def cut_Proof_L5 (a0 : Bog) (rec6 : Bool → (List (Block × Int)) → (List (Link × Int)) → Option ((List Pass) × Int)) : Nat → Bool → Int → (List (Block × Int)) → (List (Link × Int)) → Option ((List Pass) × Int)
  | 0, _, _, _, _ => none
  | n_ + 1, t10_4, t54_1, m11, m12 => cut_Proof_B5 a0 rec6 (cut_Proof_L5 a0 rec6 n_) t10_4 t54_1 m11 m12
theorem cut_Proof_L5_s {a0 : Bog} {rec6 : Bool → (List (Block × Int)) → (List (Link × Int)) → Option ((List Pass) × Int)} {m_ : Nat} {t10_4 : Bool} {t54_1 : Int} {m11 : List (Block × Int)} {m12 : List (Link × Int)} {res : (List Pass) × Int} (h : cut_Proof_L5 a0 rec6 m_ t10_4 t54_1 m11 m12 = some res) : ∃ k, m_ = k + 1 ∧ cut_Proof_B5 a0 rec6 (cut_Proof_L5 a0 rec6 k) t10_4 t54_1 m11 m12 = some res := by
  cases m_ with
  | zero => cases h
  | succ k => exact ⟨k, rfl, h⟩
def cut_Proof_B6 (a0 : Bog) (rec6 : Bool → (List (Block × Int)) → (List (Link × Int)) → Option ((List Pass) × Int)) (t10_5 : Bool) (m13 : List (Block × Int)) (m14 : List (Link × Int)) : Option ((List Pass) × Int) :=
  if t10_5 = true then
    cut_Proof_L5 a0 rec6 FU false (((0 : Int))) m13 m14
  else
    cut_Proof_k5 a0 m13 m14
def cut_Proof_L6 (a0 : Bog) : Nat → Bool → (List (Block × Int)) → (List (Link × Int)) → Option ((List Pass) × Int)
  | 0, _, _, _ => none
  | n_ + 1, t10_5, m13, m14 => cut_Proof_B6 a0 (cut_Proof_L6 a0 n_) t10_5 m13 m14
theorem cut_Proof_L6_s {a0 : Bog} {m_ : Nat} {t10_5 : Bool} {m13 : List (Block × Int)} {m14 : List (Link × Int)} {res : (List Pass) × Int} (h : cut_Proof_L6 a0 m_ t10_5 m13 m14 = some res) : ∃ k, m_ = k + 1 ∧ cut_Proof_B6 a0 (cut_Proof_L6 a0 k) t10_5 m13 m14 = some res := by
  cases m_ with
  | zero => cases h
  | succ k => exact ⟨k, rfl, h⟩
def cut_Proof_k9 (a0 : Bog) (m15 : List (Block × Int)) : Option ((List Pass) × Int) :=
  cut_Proof_L6 a0 FU true m15 ((([] : List (Link × Int))))
def cut_Proof_k10 (t30_1 : Int) (rec7 : Int → (List (Block × Int)) → Option ((List Pass) × Int)) (m16 : List (Block × Int)) : Option ((List Pass) × Int) :=
  gd (InR (t30_1 + 1)) <|
  rec7 ((t30_1 + 1)) m16
def cut_Proof_B7 (t30_1 : Int) (rec7 : Int → (List (Block × Int)) → Option ((List Pass) × Int)) (x1 : List Int) (rec8 : Int → (List (Block × Int)) → Option ((List Pass) × Int)) (t37_1 : Int) (m17 : List (Block × Int)) : Option ((List Pass) × Int) :=
  if t37_1 < ((x1.length : Int)) then
    ix x1 t37_1 fun x2 =>
    gd (InR (t37_1 + 1)) <|
    rec8 ((t37_1 + 1)) (((mset eqBlock m17 ((⟨t30_1, t37_1⟩ : Block)) x2)))
  else
    cut_Proof_k10 t30_1 rec7 m17
def cut_Proof_L7 (t30_1 : Int) (rec7 : Int → (List (Block × Int)) → Option ((List Pass) × Int)) (x1 : List Int) : Nat → Int → (List (Block × Int)) → Option ((List Pass) × Int)
  | 0, _, _ => none
  | n_ + 1, t37_1, m17 => cut_Proof_B7 t30_1 rec7 x1 (cut_Proof_L7 t30_1 rec7 x1 n_) t37_1 m17
theorem cut_Proof_L7_s {t30_1 : Int} {rec7 : Int → (List (Block × Int)) → Option ((List Pass) × Int)} {x1 : List Int} {m_ : Nat} {t37_1 : Int} {m17 : List (Block × Int)} {res : (List Pass) × Int} (h : cut_Proof_L7 t30_1 rec7 x1 m_ t37_1 m17 = some res) : ∃ k, m_ = k + 1 ∧ cut_Proof_B7 t30_1 rec7 x1 (cut_Proof_L7 t30_1 rec7 x1 k) t37_1 m17 = some res := by
  cases m_ with
  | zero => cases h
  | succ k => exact ⟨k, rfl, h⟩
def cut_Proof_B8 (a0 : Bog) (rec7 : Int → (List (Block × Int)) → Option ((List Pass) × Int)) (t30_1 : Int) (m18 : List (Block × Int)) : Option ((List Pass) × Int) :=
  if t30_1 < ((a0.worth.length : Int)) then
    ix a0.worth t30_1 fun x1 =>
    cut_Proof_L7 t30_1 rec7 x1 FU (((0 : Int))) m18
  else
    cut_Proof_k9 a0 m18
def cut_Proof_L8 (a0 : Bog) : Nat → Int → (List (Block × Int)) → Option ((List Pass) × Int)
  | 0, _, _ => none
  | n_ + 1, t30_1, m18 => cut_Proof_B8 a0 (cut_Proof_L8 a0 n_) t30_1 m18
theorem cut_Proof_L8_s {a0 : Bog} {m_ : Nat} {t30_1 : Int} {m18 : List (Block × Int)} {res : (List Pass) × Int} (h : cut_Proof_L8 a0 m_ t30_1 m18 = some res) : ∃ k, m_ = k + 1 ∧ cut_Proof_B8 a0 (cut_Proof_L8 a0 k) t30_1 m18 = some res := by
  cases m_ with
  | zero => cases h
  | succ k => exact ⟨k, rfl, h⟩
def cut_Proof (a0 : Bog) : Option ((List Pass) × Int) :=
  bnd (cut_Validate a0) fun r4 =>
  if r4 = 0 then
    cut_Proof_L8 a0 FU (((0 : Int))) ((([] : List (Block × Int))))
  else
    some (([] : List Pass), r4)
end Go.D4

set_option linter.unusedVariables false
namespace Go.D4
open Go.Tb
def law04_CutProves (a0 : Bog) : Option Bool :=
  bnd (law04_Long a0 (([] : List (List Int)))) fun r1 =>
  if r1 = true then
    bnd (law04_sane) fun r2 =>
    some r2
  else
    bnd (cut_Proof a0) fun r3 =>
    bnd (ref04_Best a0) fun r4 =>
    if r3.2 = r4.2.2 then
      if r3.2 = 0 then
        bnd (ref04_CheckProof a0 r3.1) fun r5 =>
        if r5.2 = 0 then
          if r5.1 = r4.2.1 then
            bnd (law04_sane) fun r6 =>
            some r6
          else
            some false
        else
          some false
      else
        if ((r3.1.length : Int)) = 0 then
          bnd (law04_sane) fun r7 =>
          some r7
        else
          some false
    else
      some false
end Go.D4
