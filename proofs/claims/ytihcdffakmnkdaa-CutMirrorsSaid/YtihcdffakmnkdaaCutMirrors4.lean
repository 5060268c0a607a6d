/- Lemmas and walks that the proof of this claim uses: Tb40, Tb41, Tb42, Tb43D, Tb43, D4u1, D4v1D, D4v1, D4t1. -/
import Derived.Test.YtihcdffakmnkdaaCutMirrors3
import Derived.RangeFuncRecord
import Derived.RangeFuncCalls
import Derived.OrdersIn
import Derived.TacticsIn
set_option linter.unusedVariables false
set_option linter.unusedSimpArgs false
namespace Go.Tb
open Go.RowKit
abbrev RF (r : Nat) : Fence := Fence.wide.inRound r
def noD (o : Oper) : Bool := match o.op with
  | .defer _ => false
  | _ => true
section
variable {P : Program} {m r : Nat} {ops : Array Oper} {Q : Exit → Act → World → Prop}
theorem noD_ne {o : Oper} (h : noD o = true) : ∀ c, o.op ≠ .defer c := fun c e => by unfold noD at h; rw [e] at h; cases h
theorem wide_no {p : Prop} : (RF r).depth.isSome = true → p := fun h => by cases h
theorem rowsIn_of {k : Nat} {row : String} {args : Array Value} {w : World} {R : Value → World → Prop} (h : Rows P row args w R) : RowsIn (RF r) k P row args w R := fun c cs _ =>
  let ⟨v, w', hr, s⟩ := h c cs
  ⟨v, w', hr, stepsIn_wide.2 s⟩
theorem callsIn_of {k : Nat} {f : FuncId} {args : Array Value} {w : World} {R : Ending → World → Prop} (h : Calls P f args w R) : CallsIn (RF r) k P f args w R := CallsIn.inRound r (callsIn_wide.2 h)
theorem op_in {o : Oper} {a : Act} {w : World} {next : Act → World → Prop} (hn : noD o = true) (h : o.wp P a w next Q) : o.wpIn (RF r) m P a w next Q := by
  refine ⟨fun _ _ => trivial, ?_⟩
  rw [Oper.semAt_eq _ _ _ (noD_ne hn)]
  unfold Oper.wp at h
  generalize (execOp a.eval o).run P w = x at *
  cases x with
  | ok y w' =>
    cases y <;> simp only [Oper.upon] at h <;> simp only [Oper.uponIn] <;> first
      | exact h
      | exact h.elim
      | exact ⟨wide_no, callsIn_of h⟩
      | exact ⟨wide_no, rowsIn_of h⟩
  | halt y w' => cases y <;> simp only [Oper.upon] at h <;> simp only [Oper.uponIn] <;> first | exact h | exact h.elim
theorem list_in (hL : ¬ LetsOut Q) : ∀ {l : List Oper}, l.all noD = true → ∀ {a : Act} {w : World}, wpList P ops Q l a w → wpListIn (RF r) m P ops Q l a w
  | [], _, a, w, h => h
  | o :: rest, hn, a, w, h => by
    simp only [List.all_cons, Bool.and_eq_true] at hn
    unfold wpList at h
    unfold wpListIn
    split at h
    · rename_i hw
      rw [if_pos hw]
      rcases h with h | h
      · exact Oper.wpIn_mono (fun a w => list_in hL hn.2) (op_in hn.1 h)
      · exact absurd h.2 hL
    · rename_i hw
      rw [if_neg hw]
      exact ⟨fun _ _ => trivial, list_in hL hn.2 h⟩
theorem op_at_in (hL : ¬ LetsOut Q) (hn : ∀ (i : Nat) (o : Oper), ops[i]? = some o → noD o = true) {i : Nat} {K : Act → World → Prop} {a : Act} {w : World} (h : wpOp P ops Q i K a w) : wpOpIn (RF r) m P ops Q i K a w := by
  unfold wpOp at h
  unfold wpOpIn
  cases ho : ops[i]? with
  | none => simpa [ho] using h
  | some o =>
    simp only [ho] at h ⊢
    split
    · rename_i hw
      rw [if_pos hw] at h
      rcases h with h | h
      · exact op_in (hn i o ho) h
      · exact absurd h.2 hL
    · rename_i hw
      rw [if_neg hw] at h
      exact ⟨fun _ _ => trivial, h⟩
theorem any_in (hL : ¬ LetsOut Q) (hn : ∀ (i : Nat) (o : Oper), ops[i]? = some o → noD o = true) {md : Region.Mode} : ∀ {fuel : Nat} {listed : Array Bool} {a : Act} {w : World}, wpAny P md ops Q fuel listed a w → wpAnyIn (RF r) m P md ops Q fuel listed a w
  | 0, _, _, _, h => h
  | fuel + 1, listed, a, w, h => ⟨h.1, fun i hi => wpOpIn_mono (fun a w h => any_in hL hn h) (op_at_in hL hn (h.2 i hi))⟩
end
def CR (P : Program) (r m n : Nat) (c : Code) (Q : Exit → Env → World → Prop) (ρ : Env) (w : World) : Prop := ∀ a, Fits n ρ a → c.wpIn (RF r) m P (lift n Q) a w
def NoOut (Q : Exit → Env → World → Prop) : Prop := ∀ ρ w, ¬ Q .outgrown ρ w
section
variable {P : Program} {r m n : Nat} {ops : Array Oper} {Q : Exit → Env → World → Prop} {ρ : Env} {w : World}
theorem NoOut.out (h : NoOut Q) : ¬ LetsOut (lift n Q) := fun ⟨_, w, ρ, _, hq⟩ => h ρ w hq
theorem CR.region {id : Nat} {l : List Oper} (hO : NoOut Q) (hn : l.all noD = true) (h : LW P n l.toArray Q l ρ w) : CR P r m n (.region id l.toArray false) Q ρ w := fun a ha => wpIn_region_lit (list_in hO.out hn (h a ha))
theorem CR.draw (hO : NoOut Q) (hn : ops.toList.all noD = true) (S : List Nat) (X : Nat → Prop) (t : DT) {id : Nat} (hm : P.follows .mixedOrders = true) (hB : drawB ops S t = true) (h : ∀ w', Ext w w' → DW P n ops Q S X t ρ w') : CR P r m n (.region id ops true) Q ρ w := fun a ha => by
  simp only [drawB, Bool.and_eq_true, decide_eq_true_eq] at hB
  refine wpIn_region_any hm ?_
  have hs := WA.sound (Q' := lift n Q) (fun _ _ h => h) _ _ _ _ ((DW.sound hB.1.1 t [] _ ρ _ a hB.2 (h { w with drawn := w.drawn + 1 } (Ext.drew (Ext.refl w))) ha).1 rfl)
  rw [hB.1.2] at hs
  exact any_in hO.out (fun i o ho => List.all_eq_true.1 hn o (Array.mem_toList_iff.2 (Array.mem_of_getElem? ho))) hs
theorem CR.seq {x y : Code} (h : ∀ K : Env → World → Prop, (∀ ρ w, CR P r m n y Q ρ w → K ρ w) → CR P r m n x (thenE K Q) ρ w) : CR P r m n (.seq x y) Q ρ w := fun a ha => by
  refine wpIn_seq (wpIn_mono (h (fun ρ w => CR P r m n y Q ρ w) (fun _ _ h => h) a ha) fun e a' w' hq => ?_)
  obtain ⟨ρ', hf, hq⟩ := hq
  cases e <;> first | exact hq a' hf | exact ⟨ρ', hf, hq⟩
theorem CR.sub {c : Code} (ρ' : Env) (hs : Sub ρ' ρ) (h : CR P r m n c Q ρ' w) : CR P r m n c Q ρ w := fun a ha => h a (ha.sub hs)
theorem CR.cond {c : Operand} {x y : Code} {t : Bool} (hc : ev ρ c = some (.bool t)) (ht : t = true → CR P r m n x Q ρ w) (hf : t = false → CR P r m n y Q ρ w) : CR P r m n (.cond c x y) Q ρ w :=
  fun a ha => wpIn_cond_split (ha.ev hc) (fun h => ht h a ha) (fun h => hf h a ha)
theorem CR.condT {c : Operand} {x y : Code} {t : Bool} (hc : ev ρ c = some (.bool t)) (ht : t = true) (h : CR P r m n x Q ρ w) : CR P r m n (.cond c x y) Q ρ w :=
  CR.cond hc (fun _ => h) (fun hf => absurd (ht.symm.trans hf) (by decide))
theorem CR.condF {c : Operand} {x y : Code} {t : Bool} (hc : ev ρ c = some (.bool t)) (ht : t = false) (h : CR P r m n y Q ρ w) : CR P r m n (.cond c x y) Q ρ w :=
  CR.cond hc (fun hf => absurd (ht.symm.trans hf) (by decide)) (fun _ => h)
theorem CR.skip (h : Q .normal ρ w) : CR P r m n .skip Q ρ w := fun _ ha => wpIn_skip ⟨ρ, ha, h⟩
theorem CR.ret (h : Q .ret ρ w) : CR P r m n .ret Q ρ w := fun _ ha => wpIn_ret ⟨ρ, ha, h⟩
theorem CR.block {id : Nat} {c : Code} (h : CR P r m n c (blockE id Q) ρ w) : CR P r m n (.block id c) Q ρ w := fun a ha => by
  refine wpIn_block (wpIn_mono (h a ha) fun e a' w' hq => ?_)
  obtain ⟨ρ', hf, hq⟩ := hq
  cases e with
  | exit id' =>
    simp only [blockE] at hq
    simp only [Exit.inBlock]
    split at hq
    · rename_i hb
      rw [if_pos (Nat.eq_of_beq_eq_true hb)]
      exact ⟨ρ', hf, hq⟩
    · rename_i hb
      rw [if_neg (fun e => by subst e; simp at hb)]
      exact ⟨ρ', hf, hq⟩
  | _ => exact ⟨ρ', hf, hq⟩
theorem CR.seqJ {x y : Code} (J : Env → World → Prop) (hJ : ∀ ρ w, J ρ w → CR P r m n y Q ρ w)
    (h : ∀ K : Env → World → Prop, (∀ ρ w, CR P r m n y Q ρ w → K ρ w) → (∀ ρ w, (∃ ρ', Sub ρ' ρ ∧ J ρ' w) → K ρ w) → CR P r m n x (thenE K Q) ρ w) : CR P r m n (.seq x y) Q ρ w :=
  CR.seq fun K hK => h K hK fun ρ w ⟨ρ', hs, hj⟩ => hK ρ w (CR.sub ρ' hs (hJ ρ' w hj))
end
/-- What is called with yield hands over the rows of xs, one after another, and stops where yield says so; in a world of which Rd says what it reads. -/
def Iter (P : Program) (gf : Nat) (lb : Array Value) (xs : List (Array Value)) (Rd : World → Prop) : Prop :=
  ∀ (r : Nat) (J : Nat → World → Prop) (Jx : World → Prop) (W : World),
    (∀ i W1, J i W1 → Rd W1) → (∀ i W1 W2, J i W1 → Ext W1 W2 → J i W2) →
    (∀ i W1 x, J i W1 → xs[i]? = some x → YieldAt Fence.wide 1 P r x W1 fun e W' => (e = .returned (.bool true) ∧ J (i + 1) W') ∨ (e = .returned (.bool false) ∧ Jx W')) →
    J 0 W →
    CallsIn Fence.wide 2 P gf (#[.func (.yield r) #[] #[]] ++ lb) W fun e W' => (∃ v, e = .returned v) ∧ (J xs.length W' ∨ Jx W')
abbrev lrec (fn : FuncId) (a : Act) (ps : Array Tmp) (assign body : Code) (D : Nat) (st : LoopState) (pe : Option Code) : Loop := { state := st, pending := pe, fn, tmps := a.tmps, params := ps, assign, body, defers := D }
def lck (r D : Nat) (o : Obj) : Ck := .inv [r, D] fun W => W.heap[r]? = some o ∧ W.heap[D]? = some (.deferred (some []))
theorem lck_holds {W : World} {r D : Nat} {o : Obj} (h1 : W.heap[r]? = some o) (h2 : W.heap[D]? = some (.deferred (some []))) : (lck r D o).holds W :=
  ⟨fun b hb => by
    simp at hb
    rcases hb with rfl | rfl
    · exact (Array.getElem?_eq_some_iff.1 h1).1
    · exact (Array.getElem?_eq_some_iff.1 h2).1, ⟨h1, h2⟩, fun w1 w2 hl h hq => ⟨(h r (by simp)).trans hq.1, (h D (by simp)).trans hq.2⟩⟩
theorem lck_at {w0 W : World} {L : List Ck} {r D : Nat} {o : Obj} (H : Hp w0 W (L ++ [lck r D o])) : W.heap[r]? = some o ∧ W.heap[D]? = some (.deferred (some [])) := (H.holds L.length (lck r D o) (by simp)).2.1
theorem lck_put {w0 W : World} {L : List Ck} {r D : Nat} {o : Obj} (o' : Obj) (hne : D ≠ r) (H : Hp w0 W (L ++ [lck r D o])) : Hp w0 (W.putObj r o') (L ++ [lck r D o']) := by
  obtain ⟨h1, h2⟩ := lck_at H
  have hlt := (Array.getElem?_eq_some_iff.1 h1).1
  have hf := H.fresh L.length (lck r D o) (by simp) r (by simp [lck, Ck.bl])
  have h := H.step (w' := W.putObj r o') L.length (x := lck r D o) (y := lck r D o') (by simp)
    (Below.grown H.ext (grownBy_putObj' W r o') (Below.size H.ext) (fun k e => by cases e; exact hf))
    (fun b _ hb => World.putObj_heap_other (fun e => hb (by rw [e]; simp [lck, Ck.bl])))
    (lck_holds (World.putObj_heap_same hlt) ((World.putObj_heap_other hne).trans h2)) (fun b hb => .inl hb)
  simpa using h
def dck (D : Nat) : Ck := .inv [D] fun W => W.heap[D]? = some (.deferred (some []))
theorem lck_dck {w0 W : World} {L : List Ck} {r D : Nat} {o : Obj} (H : Hp w0 W (L ++ [lck r D o])) : Hp w0 W (L ++ [dck D]) := by
  obtain ⟨_, h2⟩ := lck_at H
  have h := H.step (w' := W) L.length (x := lck r D o) (y := dck D) (by simp) H.ext (fun _ _ _ => rfl)
    ⟨fun b hb => by simp at hb; rw [hb]; exact (Array.getElem?_eq_some_iff.1 h2).1, h2, fun w1 w2 hl h hq => (h D (by simp)).trans hq⟩ (fun b hb => .inl (by simp [dck, lck, Ck.bl] at *; exact .inr hb))
  simpa using h
/-- The mark's block is shut; all else lies as it lay. -/
theorem dck_take {w0 W : World} {L : List Ck} {D : Nat} (H : Hp w0 W (L ++ [dck D])) : W.heap[D]? = some (.deferred (some [])) ∧ Hp w0 (W.putObj D (.deferred none)) L := by
  have h2 : W.heap[D]? = some (.deferred (some [])) := (H.holds L.length (dck D) (by simp)).2.1
  have hlt := (Array.getElem?_eq_some_iff.1 h2).1
  have hf := H.fresh L.length (dck D) (by simp) D (by simp [dck, Ck.bl])
  have h := H.step (w' := W.putObj D (.deferred none)) L.length (x := dck D) (y := .inv [D] fun W => W.heap[D]? = some (.deferred none)) (by simp)
    (Below.grown H.ext (grownBy_putObj' W D _) (Below.size H.ext) (fun k e => by cases e; exact hf))
    (fun b _ hb => World.putObj_heap_other (fun e => hb (by rw [e]; simp [dck, Ck.bl])))
    ⟨fun b hb => by simp at hb; rw [hb]; simpa using hlt, World.putObj_heap_same hlt, fun w1 w2 hl h hq => (h D (by simp)).trans hq⟩ (fun b hb => .inl hb)
  refine ⟨h2, ?_⟩
  have h' : Hp w0 (W.putObj D (.deferred none)) (L ++ [.inv [D] fun W => W.heap[D]? = some (.deferred none)]) := by simpa using h
  have g := Hp.pick (L' := L) h' (List.range L.length) List.nodup_range (by
    apply List.ext_getElem?
    intro i
    by_cases hi : i < L.length
    · simp [hi, List.getElem?_append_left hi]
    · rw [List.getElem?_eq_none (by simpa using hi), List.getElem?_eq_none (by simpa using hi)])
  exact g
/-- The env of a round: yield's arguments in the parameters. -/
def penv : List Tmp → List Value → Env → Env
  | p :: ps, x :: xs, ρ => penv ps xs ((p, x) :: ρ)
  | _, _, ρ => ρ
theorem penv_fits {n : Nat} : ∀ (ps : List Tmp) (xs : List Value) (ρ : Env) (t : Array Value) (ds : List Deferred), Fits n ρ { tmps := t, defers := [] } → (∀ p ∈ ps, p < n) → Fits n (penv ps xs ρ) { tmps := (ps.zip xs).foldl (fun t (px : Tmp × Value) => t.setIfInBounds px.1 px.2) t, defers := [] }
  | [], _, ρ, t, ds, h, _ => by simpa [penv] using h
  | p :: ps, [], ρ, t, ds, h, _ => by simpa [penv] using h
  | p :: ps, x :: xs, ρ, t, ds, h, hp => by
    simp only [penv, List.zip_cons_cons, List.foldl_cons]
    refine penv_fits ps xs _ _ ds ?_ (fun q hq => hp q (by simp [hq]))
    exact h.upd (d := some p) (by simp [okDst, Nat.blt_eq, hp p (by simp)]) x
end Go.Tb

set_option linter.unusedVariables false
set_option linter.unusedSimpArgs false
namespace Go.Tb
open Go.RowKit
theorem Hp.snoc {w0 w w' : World} {L : List Ck} (h : Hp w0 w L) (e : Ext w w') {x : Ck} (hx : x.holds w') (fr : ∀ b ∈ x.bl, w.heap.size ≤ b) : Hp w0 w' (L ++ [x]) := by
  refine Hp.pick (h.cons e hx fr) (List.range' 1 L.length ++ [0]) ?_ ?_
  · rw [List.nodup_append]
    refine ⟨List.nodup_range', by simp, fun a ha b hb => ?_⟩
    rw [List.mem_range'_1] at ha
    simp at hb
    omega
  · rw [List.map_append, List.map_append]
    congr 1
    apply List.ext_getElem?
    intro i
    by_cases hi : i < L.length
    · simp [hi, Nat.add_comm 1 i]
    · rw [List.getElem?_eq_none (by simpa using hi), List.getElem?_eq_none (by simpa using hi)]
abbrev mark (D : Nat) : Deferred := { target := .collected D, args := #[] }
def rpost {V Vx : Type} (w0 : World) (Φ : Nat → V → Prop) (Lv : V → List Ck) (Ψ : Vx → Prop) (Lx : Vx → List Ck) (i : Nat) (X : Ck) : Exit → Env → World → Prop
  | .normal, _, W => ∃ v, Φ (i + 1) v ∧ Hp w0 W (Lv v ++ [X])
  | .ret, _, W => ∃ v, Ψ v ∧ Hp w0 W (Lx v ++ [X])
  | _, _, _ => False
theorem zip_fold (ps : Array Tmp) (xs : Array Value) (t : Array Value) : (ps.zip xs).foldl (fun t (px : Tmp × Value) => t.setIfInBounds px.1 px.2) t = (ps.toList.zip xs.toList).foldl (fun t (px : Tmp × Value) => t.setIfInBounds px.1 px.2) t := by
  rw [← Array.foldl_toList, Array.toList_zip]
theorem wp_range {P : Program} {n : Nat} {ρ : Env} {w0 w : World} {a : Act} {V Vx Va : Type} {g : Operand} {ps : Array Tmp} {assign body : Code} {Q : Exit → Act → World → Prop} (ha : Fits n ρ a)
    {gf : Nat} {lb : Array Value} (hg : ev ρ g = some (.func (.func gf) #[] lb)) (eg : ∀ args w, (callFunc gf args).run P w = .ok (.enter gf args) w)
    {xs : List (Array Value)} (hps : ∀ x ∈ xs, x.size = ps.size) (hpn : ∀ p ∈ ps.toList, p < n) {Rd : World → Prop} (hit : Iter P gf lb xs Rd)
    (Φ : Nat → V → Prop) (Lv : V → List Ck) (Φa : Nat → Va → Env → Prop) (La : Va → List Ck) (Ψ : Vx → Prop) (Lx : Vx → List Ck)
    (hRd : ∀ i v W X, Φ i v → Hp w0 W (Lv v ++ [X]) → Rd W) (v0 : V) (h0 : Φ 0 v0) (H : Hp w0 w (Lv v0))
    (hassign : ∀ r i v W X x, Φ i v → xs[i]? = some x → Hp w0 W (Lv v ++ [X]) → CR P r 1 n assign (fun e ρ' W' => e = .normal ∧ ∃ v', Φa i v' ρ' ∧ Hp w0 W' (La v' ++ [X])) (penv ps.toList x.toList ρ) W)
    (hbody : ∀ r i v ρ' W X, Φa i v ρ' → Hp w0 W (La v ++ [X]) → CR P r 1 n body (rpost w0 Φ Lv Ψ Lx i X) ρ' W)
    (hdone : ∀ D v W, Φ xs.length v → Hp w0 W (Lv v ++ [dck D]) → Q .normal { a with defers := [mark D] } W)
    (hret : ∀ D v W, Ψ v → Hp w0 W (Lx v ++ [dck D]) → Q .ret { a with defers := [mark D] } W) :
    (Code.rangeFunc g ps assign body).wp P Q a w := by
  refine (wpIn_wide (n := 3)).1 (wpIn_rangeFunc ?_)
  intro fn _
  obtain ⟨rec, hrec⟩ : ∃ rec : LoopState → Option Code → Loop, rec = lrec fn a ps assign body w.heap.size := ⟨_, rfl⟩
  obtain ⟨W1, hW1⟩ : ∃ W1, (w.alloc (.deferred (some []))).alloc (.loop (rec .ready none)) = W1 := ⟨_, rfl⟩
  have had := ha.defers
  have hne : w.heap.size ≠ w.heap.size + 1 := by omega
  have hL1 : W1.heap[w.heap.size + 1]? = some (.loop (rec .ready none)) := by
    rw [← hW1]; have := World.alloc_heap_new (w.alloc (.deferred (some []))) (.loop (rec .ready none)); rwa [World.size_alloc] at this
  have hK1 : W1.heap[w.heap.size]? = some (.deferred (some [])) := by
    rw [← hW1]; exact (Below.heap_alloc _ _ _ (by simp)).trans (World.alloc_heap_new w _)
  have hE : Ext w W1 := by
    rw [← hW1]; exact ((Below.refl _ w).alloc (Nat.le_refl _) _).alloc (by simp) _
  have H1 : Hp w0 W1 (Lv v0 ++ [lck (w.heap.size + 1) w.heap.size (.loop (rec .ready none))]) := H.snoc hE (lck_holds hL1 hK1) (by
    intro b hb
    simp [lck, Ck.bl] at hb
    omega)
  refine ⟨w.heap.size + 1, [mark w.heap.size], W1, { target := .fn (.func gf) lb, args := #[.func (.yield (w.heap.size + 1)) #[] #[]] }, W1, gf,
    #[.func (.yield (w.heap.size + 1)) #[] #[]] ++ lb, W1, ?_, ?_, fun _ _ => trivial, ?_, (fun h => by cases h), ?_⟩
  · rw [← hW1, hrec]; exact run_enterLoop_outer _ _ _ _ _
  · simp only [resolve, ha.ev hg]
    simp [go_sem]
  · simp [invoke, go_sem, eg]
  refine (hit (w.heap.size + 1) (fun i W => ∃ v, Φ i v ∧ Hp w0 W (Lv v ++ [lck (w.heap.size + 1) w.heap.size (.loop (rec .ready none))]))
    (fun W => ∃ v, Ψ v ∧ Hp w0 W (Lx v ++ [lck (w.heap.size + 1) w.heap.size (.loop (rec .done (some .ret)))])) W1
    (fun i W ⟨v, h1, h2⟩ => hRd i v W _ h1 h2) (fun i W W' ⟨v, h1, h2⟩ e => ⟨v, h1, h2.grow e⟩) ?_ ⟨v0, h0, H1⟩).mono ?_
  · rintro i W x ⟨v, hv, HW⟩ hx
    obtain ⟨hl, _⟩ := lck_at HW
    have hsz := hps x (List.mem_of_getElem? hx)
    have hy := run_yield (P := P) (args := x) hl (by rw [hrec]; exact hsz)
    rw [hrec] at hy
    refine ⟨fn, _, assign, body, hy, roundIn_of_wpIn trivial ?_⟩
    have hfit : Fits n (penv ps.toList x.toList ρ) { tmps := (ps.zip x).foldl (fun t (px : Tmp × Value) => t.setIfInBounds px.1 px.2) a.tmps, defers := [] } := by
      rw [zip_fold]
      exact penv_fits _ _ _ _ [] ⟨rfl, ha.size, ha.at_⟩ hpn
    refine wpIn_mono (hassign (w.heap.size + 1) i v W _ x hv hx HW _ hfit) ?_
    rintro e a1 W2 ⟨ρ', hf1, rfl, v', hv', H2⟩
    obtain ⟨hl2, _⟩ := lck_at H2
    refine ⟨_, run_beginRound hl2 (by rw [hrec]), ?_⟩
    have H3 := lck_put (.loop { rec .ready none with state := .busy }) hne H2
    refine wpIn_mono (hbody (w.heap.size + 1) i v' ρ' _ _ hv' H3 a1 hf1) ?_
    rintro e a2 W3 ⟨ρ2, hf2, hp⟩
    cases e with
    | normal =>
      obtain ⟨v2, hv2, H4⟩ := hp
      obtain ⟨hl4, _⟩ := lck_at H4
      refine ⟨_, _, run_endRound none hl4, .inl ⟨rfl, v2, hv2, ?_⟩⟩
      have := lck_put (.loop { { rec .ready none with state := .busy } with state := .ready, pending := none }) hne H4
      rw [hrec] at this ⊢
      exact this
    | ret =>
      obtain ⟨v2, hv2, H4⟩ := hp
      obtain ⟨hl4, _⟩ := lck_at H4
      refine ⟨_, _, run_endRound (some .ret) hl4, .inr ⟨rfl, v2, hv2, ?_⟩⟩
      have := lck_put (.loop { { rec .ready none with state := .busy } with state := .done, pending := some .ret }) hne H4
      rw [hrec] at this ⊢
      exact this
    | exit id => exact hp.elim
    | goto t => exact hp.elim
    | panic ch => exact hp.elim
    | outgrown => exact hp.elim
  · subst hrec
    rintro e W2 ⟨⟨v, rfl⟩, (⟨v2, hv2, H2⟩ | ⟨v2, hv2, H2⟩)⟩
    · obtain ⟨hl, _⟩ := lck_at H2
      have hend := run_endLoop (P := P) hl (by simp)
      have H3 := lck_dck (lck_put (.loop { lrec fn a ps assign body w.heap.size .ready none with state := .exhausted }) hne H2)
      refine ⟨none, _, hend, ?_⟩
      have := hdone w.heap.size v2 _ hv2 H3
      rw [had]
      exact this
    · obtain ⟨hl, _⟩ := lck_at H2
      have hend := run_endLoop (P := P) hl (by simp)
      have H3 := lck_dck (lck_put (.loop { lrec fn a ps assign body w.heap.size .done (some .ret) with state := .exhausted }) hne H2)
      refine ⟨some .ret, _, hend, ?_⟩
      have := hret w.heap.size v2 _ hv2 H3
      rw [had]
      exact wpIn_ret this
def qop (o : Oper) : Bool := match o.op with
  | .move _ | .assign _ | .load _ _ | .store _ _ _ | .fieldAddr _ _ _ | .indexAddr _ _ _ | .binOp _ _ _ _ _ | .unOp _ _ _ | .extract _ _ | .field _ _ _ | .build _ _ => true
  | _ => false
def isVS : Result Next → Bool
  | .ok (.value _) _ => true
  | .ok .skip _ => true
  | .ok _ _ => false
  | .halt _ _ => true
section
variable {P : Program} {ops : Array Oper} {Q : Exit → Act → World → Prop} {ds : List Deferred}
theorem isVS_v {s : Sem Value} {w : World} : isVS ((do pure (Next.value (← s)) : Sem Next).run P w) = true := by
  rw [Sem.run_bind]
  cases s.run P w <;> simp [Result.andThen, isVS]
theorem isVS_u {s : Sem Unit} {w : World} : isVS ((do s; pure Next.skip : Sem Next).run P w) = true := by
  rw [Sem.run_bind]
  cases s.run P w <;> simp [Result.andThen, isVS]
theorem qop_run {o : Oper} (h : qop o = true) (ρ : Operand → Value) (w : World) : isVS ((execOp ρ o).run P w) = true := by
  unfold qop at h
  unfold execOp
  cases ho : o.op <;> rw [ho] at h <;> simp only at h ⊢ <;> first
    | exact isVS_v
    | exact isVS_u
    | (simp [isVS]; done)
    | (exfalso; cases h; done)
    | cases h
def Qd (ds : List Deferred) (Q : Exit → Act → World → Prop) : Exit → Act → World → Prop := fun e a w => a.defers = ds ∧ Q e { a with defers := [] } w
theorem put_defers (a : Act) (d : Option Nat) (v : Value) : (a.put d v).defers = a.defers ∧ ({ a with defers := [] } : Act).put d v = { (a.put d v) with defers := [] } := by
  cases d <;> exact ⟨rfl, rfl⟩
theorem op_ds {o : Oper} {a : Act} {w : World} {K : Act → World → Prop} (hq : qop o = true) (ha : a.defers = ds) (h : o.wp P { a with defers := [] } w K Q) : o.wp P a w (fun a' w' => a'.defers = ds ∧ K { a' with defers := [] } w') (Qd ds Q) := by
  unfold Oper.wp at *
  rw [eval_defers] at h
  have hr := qop_run (P := P) hq a.eval w
  generalize (execOp a.eval o).run P w = x at *
  cases x with
  | ok y w' =>
    cases y <;> simp only [isVS] at hr <;> first
      | (simp only [Oper.upon] at h ⊢
         rw [(put_defers a o.dst _).2] at h
         exact ⟨(put_defers a o.dst _).1.trans ha, h⟩)
      | (exfalso; cases hr; done)
      | cases hr
  | halt y w' => cases y <;> simp only [Oper.upon] at h ⊢ <;> first | exact h | exact ⟨ha, h⟩
theorem asks_ds {o : Oper} {a : Act} {w : World} (h : o.asks P { a with defers := [] } w) : o.asks P a w := by
  unfold Oper.asks at *
  rw [eval_defers] at h
  exact h
theorem lets_ds (hQ : ∀ a w, Q .outgrown a w → a.defers = []) (h : LetsOut Q) : LetsOut (Qd ds Q) := by
  obtain ⟨a, w, h⟩ := h
  have := hQ a w h
  refine ⟨{ a with defers := ds }, w, rfl, ?_⟩
  obtain ⟨t, d⟩ := a
  simp only at this
  subst this
  exact h
theorem op_at_ds (hQ : ∀ a w, Q .outgrown a w → a.defers = []) (hn : ∀ (i : Nat) (o : Oper), ops[i]? = some o → qop o = true) {i : Nat} {K : Act → World → Prop} {a : Act} {w : World} (ha : a.defers = ds) (h : wpOp P ops Q i K { a with defers := [] } w) :
    wpOp P ops (Qd ds Q) i (fun a' w' => a'.defers = ds ∧ K { a' with defers := [] } w') a w := by
  unfold wpOp at *
  cases ho : ops[i]? with
  | none => simp only [ho] at h ⊢; exact ⟨ha, h⟩
  | some o =>
    simp only [ho] at h ⊢
    split
    · rename_i hw
      rw [if_pos hw] at h
      rcases h with h | h
      · exact .inl (op_ds (hn i o ho) ha h)
      · exact .inr ⟨asks_ds h.1, lets_ds hQ h.2⟩
    · rename_i hw
      rw [if_neg hw] at h
      obtain ⟨e1, e2⟩ := put_defers a o.dst undef
      rw [e2] at h
      exact ⟨e1.trans ha, h⟩
theorem any_ds (hQ : ∀ a w, Q .outgrown a w → a.defers = []) (hn : ∀ (i : Nat) (o : Oper), ops[i]? = some o → qop o = true) {md : Region.Mode} : ∀ {fuel : Nat} {listed : Array Bool} {a : Act} {w : World}, a.defers = ds → wpAny P md ops Q fuel listed { a with defers := [] } w → wpAny P md ops (Qd ds Q) fuel listed a w
  | 0, _, _, _, ha, h => ⟨h.1, ha, h.2⟩
  | fuel + 1, listed, a, w, ha, h => ⟨fun hr => ⟨ha, h.1 hr⟩, fun i hi => wpOp_mono (fun a w h => any_ds hQ hn h.1 h.2) (op_at_ds hQ hn ha (h.2 i hi))⟩
end
section
variable {P : Program} {n : Nat} {ds : List Deferred} {ops : Array Oper} {Q : Exit → Env → World → Prop} {ρ : Env} {w : World}
theorem CWD.draw (hn : ops.toList.all qop = true) (S : List Nat) (X : Nat → Prop) (t : DT) {id : Nat} (hm : P.follows .mixedOrders = true) (hB : drawB ops S t = true) (h : ∀ w', Ext w w' → DW P n ops Q S X t ρ w') : CWD P n ds (.region id ops true) Q ρ w := fun a ha => by
  simp only [drawB, Bool.and_eq_true, decide_eq_true_eq] at hB
  refine wp_mono (Q := Qd ds (lift n Q)) (wp_region_any hm ?_) ?_
  · have hs := WA.sound (Q' := lift n Q) (fun _ _ h => h) _ _ _ _ ((DW.sound hB.1.1 t [] _ ρ _ { a with defers := [] } hB.2 (h { w with drawn := w.drawn + 1 } (Ext.drew (Ext.refl w))) ha.fits).1 rfl)
    rw [hB.1.2] at hs
    exact any_ds (fun a w ⟨ρ, hf, _⟩ => hf.defers) (fun i o ho => List.all_eq_true.1 hn o (Array.mem_toList_iff.2 (Array.mem_of_getElem? ho))) ha.defers hs
  · rintro e a' w' ⟨h1, ρ', hf, hq⟩
    exact ⟨ρ', ⟨h1, hf⟩, hq⟩
end
def bodyD (P : Program) (n : Nat) (rs : Array ResultVar) (R : Ending → World → Prop) (D : Nat) : Exit → Env → World → Prop
  | .normal, ρ, w | .ret, ρ, w => w.heap[D]? = some (.deferred (some [])) ∧ ∃ v, ResOK P n rs ρ (w.putObj D (.deferred none)) v ∧ R (.returned v) (w.putObj D (.deferred none))
  | _, _, _ => False
section
variable {P : Program} {n : Nat} {fn : Func} {rs : Array ResultVar} {R : Ending → World → Prop} {ρ : Env} {w : World}
theorem post_plain (hr : fn.results = rs) {e : Exit} {a : Act} (h : lift n (bodyE P n rs R) e a w) : bodyPostM Fence.wide 1 P fn R e a w := by
  obtain ⟨ρ, hf, hq⟩ := h
  have hd := hf.defers
  cases e with
  | normal => obtain ⟨v, h1, h2⟩ := hq; simp only [bodyPostM, hd]; exact ⟨v, h1 fn a hr hf, h2⟩
  | ret => obtain ⟨v, h1, h2⟩ := hq; simp only [bodyPostM, hd]; exact ⟨v, h1 fn a hr hf, h2⟩
  | panic ch => simp only [bodyPostM, hd]; exact hq
  | outgrown => exact hq
  | exit id => exact hq.elim
  | goto l => exact hq.elim
theorem post_mark (hr : fn.results = rs) {D : Nat} {e : Exit} {a : Act} (h : liftD n [mark D] (bodyD P n rs R D) e a w) : bodyPostM Fence.wide 1 P fn R e a w := by
  obtain ⟨ρ, hf, hq⟩ := h
  have hd := hf.defers
  have key : ∀ v, w.heap[D]? = some (.deferred (some [])) → ResOK P n rs ρ (w.putObj D (.deferred none)) v → R (.returned v) (w.putObj D (.deferred none)) → LeavesInM Fence.wide 1 P fn a.tmps R [mark D] .returning w := fun v h1 h2 h3 =>
    ⟨by simp, .inl ⟨D, _, rfl, run_takeDeferred h1, v, h2 fn { a with defers := [] } hr hf.fits, h3⟩⟩
  cases e with
  | normal => obtain ⟨h1, v, h2, h3⟩ := hq; simp only [bodyPostM, hd]; exact key v h1 h2 h3
  | ret => obtain ⟨h1, v, h2, h3⟩ := hq; simp only [bodyPostM, hd]; exact key v h1 h2 h3
  | panic ch => exact hq.elim
  | outgrown => exact hq.elim
  | exit id => exact hq.elim
  | goto l => exact hq.elim
def CM (P : Program) (n : Nat) (fn : Func) (c : Code) (R : Ending → World → Prop) (ρ : Env) (w : World) : Prop := ∀ a, Fits n ρ a → c.wp P (bodyPostM Fence.wide 1 P fn R) a w
theorem calls_of_cm {f : FuncId} {c : Code} {args : List Value} (hf : P.funcs[f]? = some fn) (hb : fn.body = some c) (hn : fn.ntmps = n) (ha : Nat.ble args.length n = true) (h : CM P n fn c R (argEnv 0 args) w) : Calls P f args.toArray w R := by
  have ha' : args.length ≤ n := Nat.le_of_ble_eq_true ha
  refine (callsIn_wide (n := 1)).1 (callsIn_of_wp_marks hf hb trivial (wpIn_wide.2 (h _ ⟨rfl, ?_, fun t v hl => ?_⟩)))
  · simp [hn]; omega
  · obtain ⟨_, h2⟩ := look_argEnv args 0 t v hl
    have hlt : t < args.length := by
      rcases Nat.lt_or_ge t args.length with h' | h'
      · exact h'
      · simp [List.getElem?_eq_none h'] at h2
    simp only [Nat.sub_zero] at h2
    rw [Array.getElem?_append_left (by simpa using hlt)]
    simpa using h2
theorem CM.seq (hr : fn.results = rs) {x y : Code} (h : ∀ K : Env → World → Prop, (∀ ρ w, CM P n fn y R ρ w → K ρ w) → CW P n x (thenE K (bodyE P n rs R)) ρ w) : CM P n fn (.seq x y) R ρ w := fun a ha => by
  refine wp_seq (wp_mono (h (fun ρ w => CM P n fn y R ρ w) (fun _ _ h => h) a ha) fun e a' w' hq => ?_)
  obtain ⟨ρ', hf, hq⟩ := hq
  cases e with
  | normal => exact hq a' hf
  | exit id => exact post_plain (P := P) (n := n) (R := R) (rs := rs) (w := w') (e := .exit id) hr ⟨ρ', hf, hq⟩
  | goto l => exact post_plain (P := P) (n := n) (R := R) (rs := rs) (w := w') (e := .goto l) hr ⟨ρ', hf, hq⟩
  | ret => exact post_plain (P := P) (n := n) (R := R) (rs := rs) (w := w') (e := .ret) hr ⟨ρ', hf, hq⟩
  | panic ch => exact post_plain (P := P) (n := n) (R := R) (rs := rs) (w := w') (e := .panic ch) hr ⟨ρ', hf, hq⟩
  | outgrown => exact post_plain (P := P) (n := n) (R := R) (rs := rs) (w := w') (e := .outgrown) hr ⟨ρ', hf, hq⟩
theorem CM.sub {c : Code} (ρ' : Env) (hs : Sub ρ' ρ) (h : CM P n fn c R ρ' w) : CM P n fn c R ρ w := fun a ha => h a (ha.sub hs)
theorem CM.seqJ (hr : fn.results = rs) {x y : Code} (J : Env → World → Prop) (hJ : ∀ ρ w, J ρ w → CM P n fn y R ρ w)
    (h : ∀ K : Env → World → Prop, (∀ ρ w, CM P n fn y R ρ w → K ρ w) → (∀ ρ w, (∃ ρ', Sub ρ' ρ ∧ J ρ' w) → K ρ w) → CW P n x (thenE K (bodyE P n rs R)) ρ w) : CM P n fn (.seq x y) R ρ w :=
  CM.seq hr fun K hK => h K hK fun ρ w ⟨ρ', hs, hj⟩ => hK ρ w (CM.sub ρ' hs (hJ ρ' w hj))
/-- The last part of a statement, with what stands behind the statement. -/
def CB (P : Program) (n : Nat) (fn : Func) (b y : Code) (R : Ending → World → Prop) (ρ : Env) (w : World) : Prop := ∀ a, Fits n ρ a → b.wp P (Exit.then (y.wp P (bodyPostM Fence.wide 1 P fn R)) (bodyPostM Fence.wide 1 P fn R)) a w
theorem CM.seqA (hr : fn.results = rs) {x b y : Code} (h : ∀ K : Env → World → Prop, (∀ ρ w, CB P n fn b y R ρ w → K ρ w) → CW P n x (thenE K (bodyE P n rs R)) ρ w) : CM P n fn (.seq (.seq x b) y) R ρ w := fun a ha => by
  refine wp_seq (wp_seq (wp_mono (h (fun ρ w => CB P n fn b y R ρ w) (fun _ _ h => h) a ha) fun e a' w' hq => ?_))
  obtain ⟨ρ', hf, hq⟩ := hq
  cases e with
  | normal => exact hq a' hf
  | exit id => exact post_plain (P := P) (n := n) (R := R) (rs := rs) (w := w') (e := .exit id) hr ⟨ρ', hf, hq⟩
  | goto l => exact post_plain (P := P) (n := n) (R := R) (rs := rs) (w := w') (e := .goto l) hr ⟨ρ', hf, hq⟩
  | ret => exact post_plain (P := P) (n := n) (R := R) (rs := rs) (w := w') (e := .ret) hr ⟨ρ', hf, hq⟩
  | panic ch => exact post_plain (P := P) (n := n) (R := R) (rs := rs) (w := w') (e := .panic ch) hr ⟨ρ', hf, hq⟩
  | outgrown => exact post_plain (P := P) (n := n) (R := R) (rs := rs) (w := w') (e := .outgrown) hr ⟨ρ', hf, hq⟩
theorem CB.range (hr : fn.results = rs) {w0 : World} {V Vx Va : Type} {id : Nat} {g : Operand} {ps : Array Tmp} {assign body y : Code}
    {gf : Nat} {lb : Array Value} (hg : ev ρ g = some (.func (.func gf) #[] lb)) (eg : ∀ args w, (callFunc gf args).run P w = .ok (.enter gf args) w)
    {xs : List (Array Value)} (hps : ∀ x ∈ xs, x.size = ps.size) (hpn : ∀ p ∈ ps.toList, p < n) {Rd : World → Prop} (hit : Iter P gf lb xs Rd)
    (Φ : Nat → V → Prop) (Lv : V → List Ck) (Φa : Nat → Va → Env → Prop) (La : Va → List Ck) (Ψ : Vx → Prop) (Lx : Vx → List Ck)
    (hRd : ∀ i v W X, Φ i v → Hp w0 W (Lv v ++ [X]) → Rd W) (v0 : V) (h0 : Φ 0 v0) (H : Hp w0 w (Lv v0))
    (hassign : ∀ r i v W X x, Φ i v → xs[i]? = some x → Hp w0 W (Lv v ++ [X]) → CR P r 1 n assign (fun e ρ' W' => e = .normal ∧ ∃ v', Φa i v' ρ' ∧ Hp w0 W' (La v' ++ [X])) (penv ps.toList x.toList ρ) W)
    (hbody : ∀ r i v ρ' W X, Φa i v ρ' → Hp w0 W (La v ++ [X]) → CR P r 1 n body (rpost w0 Φ Lv Ψ Lx i X) ρ' W)
    (hdone : ∀ D v W, Φ xs.length v → Hp w0 W (Lv v ++ [dck D]) → CWD P n [mark D] y (bodyD P n rs R D) ρ W)
    (hret : ∀ D v W, Ψ v → Hp w0 W (Lx v ++ [dck D]) → bodyD P n rs R D .ret ρ W) :
    CB P n fn (.block id (.rangeFunc g ps assign body)) y R ρ w := fun a ha => by
  have hfd : ∀ D, FitsD n [mark D] ρ { a with defers := [mark D] } := fun D => ⟨rfl, by
    obtain ⟨t, d⟩ := a
    have := ha.defers
    simp only at this
    subst this
    exact ha⟩
  refine wp_block (wp_range ha hg eg hps hpn hit Φ Lv Φa La Ψ Lx hRd v0 h0 H hassign hbody (fun D v W hv HW => ?_) (fun D v W hv HW => ?_))
  · show y.wp P (bodyPostM Fence.wide 1 P fn R) _ W
    exact wp_mono (hdone D v W hv HW _ (hfd D)) fun e a' w' h => post_mark hr h
  · exact post_mark hr (D := D) ⟨ρ, hfd D, hret D v W hv HW⟩
end
end Go.Tb

set_option linter.unusedVariables false
set_option linter.unusedSimpArgs false
namespace Go.Tb
open Go.RowKit
def LI (P : Program) (m n : Nat) (ops : Array Oper) (Q : Exit → Env → World → Prop) (l : List Oper) (ρ : Env) (w : World) : Prop := ∀ a, Fits n ρ a → wpListIn Fence.wide m P ops (lift n Q) l a w
section
variable {P : Program} {m n : Nat} {ops : Array Oper} {Q : Exit → Env → World → Prop} {ρ : Env} {w : World} {d : Option Tmp} {ty : TypeId} {pos : String} {after : Array Edge}
theorem CW.regionI {id : Nat} {l : List Oper} (h : LI P m n l.toArray Q l ρ w) : CW P n (.region id l.toArray false) Q ρ w := fun a ha => wpIn_wide.1 (wpIn_region_lit (h a ha))
theorem LI.nil (h : Q .normal ρ w) : LI P m n ops Q [] ρ w := fun _ ha => wpListIn_nil ⟨ρ, ha, h⟩
theorem LI.pure {o : Oper} {rest : List Oper} {v : Value} (hg : o.guard = none) (hd : okDst n o.dst = true) (h : RV P n o ρ w v) (k : LI P m n ops Q rest (upd ρ o.dst v) w) : LI P m n ops Q (o :: rest) ρ w := fun a ha => by
  unfold wpListIn
  rw [if_pos (by simp [Region.wanted, hg])]
  refine ⟨fun _ _ => trivial, ?_⟩
  show o.uponIn Fence.wide m P a _ _ ((o.semAt none a.eval).run P w)
  rw [Oper.semAt_none, h a ha]
  exact k _ (ha.upd hd v)
theorem LI.yield {rest : List Oper} {x : Operand} {args : List Operand} {tys : Array TypeId} {vs : List Value} {r : Nat} {R : Ending → World → Prop} (hd : okDst n d = true) (hx : ev ρ x = some (.func (.yield r) #[] #[])) (hv : evs ρ args = some vs)
    (hy : YieldAt Fence.wide m P r vs.toArray w R) (k : ∀ e w', R e w' → ∃ v, e = .returned v ∧ LI P (m + 1) n ops Q rest (upd ρ d v) w') : LI P (m + 1) n ops Q (⟨d, .call ⟨.value x, args.toArray, tys⟩, ty, pos, after, none⟩ :: rest) ρ w := fun a ha => by
  unfold wpListIn
  rw [if_pos (by simp [Region.wanted])]
  refine ⟨fun _ _ => trivial, ?_⟩
  obtain ⟨fn, tmps, assign, body, hy, hR⟩ := hy
  have he : (execOp a.eval ⟨d, .call ⟨.value x, args.toArray, tys⟩, ty, pos, after, none⟩).run P w = .ok (.round r fn tmps assign body) w := by
    simp only [execOp, resolve, ha.ev hx, Deferred.ofValue, Sem.run_bind, Sem.run_pure, Result.andThen_ok]
    simp only [invoke, List.map_toArray, ha.evs hv]
    simpa using hy
  show Oper.uponIn Fence.wide (m + 1) P _ a _ _ ((Oper.semAt none a.eval _).run P w)
  rw [Oper.semAt_none, he, Oper.uponIn_round]
  refine ⟨(fun h => by cases h), hR.mono fun e w' h => ?_⟩
  obtain ⟨v, rfl, h2⟩ := k e w' h
  exact h2 _ (ha.upd hd v)
end
end Go.Tb

namespace Go.Tb
/-- The places of a list and what stands there, from the last to the first. -/
def backL {α : Type} (l : List α) : List (Int × α) := (l.zipIdx.map fun p => ((p.2 : Int), p.1)).reverse
theorem backL_len {α : Type} (l : List α) : (backL l).length = l.length := by unfold backL; simp
theorem backL_at {α : Type} {l : List α} {j : Nat} {x : α} (hx : l[l.length - 1 - j]? = some x) (hj : j < l.length) : (backL l)[j]? = some (((l.length - 1 - j : Nat) : Int), x) := by
  unfold backL
  rw [List.getElem?_reverse (by simpa using hj)]
  simp only [List.length_map, List.length_zipIdx, List.getElem?_map, List.getElem?_zipIdx, hx, Option.map_some]
  simp
theorem drop_at {α : Type} {l : List α} {i : Nat} {p : α} (h : l[i]? = some p) : l.drop i = p :: l.drop (i + 1) := by
  obtain ⟨hlt, rfl⟩ := List.getElem?_eq_some_iff.1 h
  exact List.drop_eq_getElem_cons hlt
end Go.Tb

set_option linter.unusedVariables false
set_option linter.unusedSimpArgs false
namespace Go.Tb
open Go.RowKit
section
variable {P : Program} {ops : Array Oper} {Q : Exit → Act → World → Prop} {ds : List Deferred}
theorem list_ds (hQ : ∀ a w, Q .outgrown a w → a.defers = []) : ∀ {l : List Oper}, l.all qop = true → ∀ {a : Act} {w : World}, a.defers = ds → wpList P ops Q l { a with defers := [] } w → wpList P ops (Qd ds Q) l a w
  | [], _, a, w, ha, h => ⟨ha, h⟩
  | o :: rest, hn, a, w, ha, h => by
    simp only [List.all_cons, Bool.and_eq_true] at hn
    unfold wpList at h ⊢
    have hy : yielded ops ({ a with defers := [] } : Act).tmps = yielded ops a.tmps := rfl
    split at h
    · rename_i hw
      rw [if_pos hw]
      rcases h with h | h
      · refine .inl ?_
        refine Oper.wp_mono (fun a' w' h => ?_) (op_ds hn.1 ha h)
        exact list_ds hQ hn.2 h.1 h.2
      · exact .inr ⟨asks_ds h.1, lets_ds hQ h.2⟩
    · rename_i hw
      rw [if_neg hw]
      obtain ⟨e1, e2⟩ := put_defers a o.dst undef
      rw [e2] at h
      exact list_ds hQ hn.2 (e1.trans ha) h
end
section
variable {P : Program} {n : Nat} {ds : List Deferred} {Q : Exit → Env → World → Prop} {ρ : Env} {w : World}
theorem CWD.regionL {id : Nat} {l : List Oper} (hn : l.all qop = true) (h : LW P n l.toArray Q l ρ w) : CWD P n ds (.region id l.toArray false) Q ρ w := fun a ha => by
  refine wp_mono (Q := Qd ds (lift n Q)) (wp_region_lit (list_ds (fun a w ⟨ρ, hf, _⟩ => hf.defers) hn ha.defers (h _ ha.fits))) ?_
  rintro e a' w' ⟨h1, ρ', hf, hq⟩
  exact ⟨ρ', ⟨h1, hf⟩, hq⟩
theorem CWD.seqK {x y : Code} (h : ∀ K : Env → World → Prop, (∀ ρ w, CWD P n ds y Q ρ w → K ρ w) → CWD P n ds x (thenE K Q) ρ w) : CWD P n ds (.seq x y) Q ρ w :=
  CWD.seq (h (fun ρ w => CWD P n ds y Q ρ w) fun _ _ h => h)
end
end Go.Tb

set_option linter.unusedVariables false
set_option linter.unusedSimpArgs false
namespace Go.D4u
open Go.Tb Go.Proofs Go.RowKit
theorem Tc86 : callable Try.prog 86 = true := by kernel_rfl
theorem Tk22 : tyK Try.prog 22 = some (false, 1) := by kernel_rfl
theorem Ts22 : tyS Try.prog 22 = some (25, 1, 24, [.slice none 0 0]) := by kernel_rfl
theorem Tk25 : tyK Try.prog 25 = some (false, 1) := by kernel_rfl
set_option maxRecDepth 20000 in
theorem backward_ok {A : Option Addr} {n c : Nat} {w : World} :
    Calls Try.prog 86 #[.slice A n c] w fun e w' => ∃ b : Nat, e = .returned (.func (.func 98) #[] #[.pointer (some ⟨b, 0, none⟩)]) ∧ Hp w w' [.blk b 22 [.slice A n c]] := by
  refine calls_of_cw (args := [.slice A n c]) Try.func86 rfl rfl rfl rfl ?_
  have H := Hp.start w
  refine CW.seq fun K1 hK1 => ?_
  refine CW.region ?_
  refine LW.go rfl rfl (OW.box rfl fun b1 w1 N1 => ?_)
  replace H := H.new N1 N1.blk
  refine LW.pure rfl rfl (RV.assign rfl) ?_
  refine LW.nil (hK1 _ _ ?_)
  refine CW.seq fun K2 hK2 => ?_
  refine CW.region ?_
  refine LW.pure rfl rfl (RV.makeFunc (fs := []) (cs := [.pointer (some ⟨b1, 0, none⟩)]) rfl rfl) ?_
  refine LW.pure rfl rfl (RV.assign rfl) ?_
  refine LW.nil (hK2 _ _ ?_)
  refine CW.ret ?_
  exact ⟨_, ResOK.one rfl, b1, rfl, H⟩
abbrev HL := (Option Addr × Nat) × List Int
def rowB (p : Int × HL) : Array Value := #[.int .i64 p.1, .slice p.2.1.1 p.2.2.length p.2.1.2]
def backX (l : List HL) : List (Array Value) := (backL l).map rowB
theorem backX_size {l : List HL} : ∀ x ∈ backX l, x.size = 2 := fun x hx => by
  obtain ⟨p, _, rfl⟩ := List.mem_map.1 hx
  rfl
theorem backL_zip {hs : List (Option Addr × Nat)} {ll : List (List Int)} (hl : hs.length = ll.length) {i : Nat} {p : Int × HL} (h : (backL (hs.zip ll))[i]? = some p) : (backL ll)[i]? = some (p.1, p.2.2) ∧ ∃ j : Nat, hs[j]? = some p.2.1 ∧ ll[j]? = some p.2.2 := by
  have hi : i < ll.length := by
    have := lt_of_at h
    rw [backL_len, List.length_zip] at this
    omega
  obtain ⟨x, hx⟩ := ex_at (l := ll) (j := ll.length - 1 - i) (by omega)
  obtain ⟨y, hy⟩ := ex_at (l := hs) (j := ll.length - 1 - i) (by omega)
  have hz : (hs.zip ll).length = ll.length := by rw [List.length_zip]; omega
  have hzx : (hs.zip ll)[(hs.zip ll).length - 1 - i]? = some (y, x) := by rw [hz]; simp [List.getElem?_zip_eq_some, hy, hx]
  have h1 := backL_at hzx (by omega)
  rw [h1] at h
  cases h
  have h2 := backL_at hx hi
  rw [hz]
  exact ⟨h2, _, hy, hx⟩
theorem backX_at {w : World} {hs : List (Option Addr × Nat)} {ll : List (List Int)} (hl : hs.length = ll.length) (hS : ∀ (j : Nat) (h : Option Addr × Nat) (l : List Int), hs[j]? = some h → ll[j]? = some l → Sl w h.1 h.2 1 (l.map encN)) {i : Nat} {x : Array Value} (h : (backX (hs.zip ll))[i]? = some x) :
    ∃ (A : Option Addr) (c : Nat) (p : Int × List Int), (backL ll)[i]? = some p ∧ Sl w A c 1 (p.2.map encN) ∧ x = #[.int .i64 p.1, .slice A p.2.length c] := by
  unfold backX at h
  rw [List.getElem?_map] at h
  obtain ⟨q, hq, rfl⟩ := Option.map_eq_some_iff.1 h
  obtain ⟨h1, j, h2, h3⟩ := backL_zip hl hq
  exact ⟨q.2.1.1, q.2.1.2, (q.1, q.2.2), h1, hS j _ _ h2 h3, rfl⟩
theorem drop_all {hs : List (Option Addr × Nat)} {ll : List (List Int)} (hl : hs.length = ll.length) : (backL ll).drop (backX (hs.zip ll)).length = [] := by
  unfold backX
  rw [List.length_map, backL_len, List.length_zip]
  exact List.drop_of_length_le (by rw [backL_len]; omega)
structure BackRd (l : List HL) (n : Nat) (b : Nat) (A : Option Addr) (c : Nat) (W : World) : Prop where
  sl : Sl W A c 1 (l.map encH)
  bx : Cells W ⟨b, 0, none⟩ [.slice A n c]
set_option maxRecDepth 20000 in
set_option maxHeartbeats 1000000 in
theorem back_iter {l : List HL} {n : Nat} {b : Nat} {A : Option Addr} {c : Nat} (hn : l.length = n) (hl : n ≤ 1000000) : Iter Try.prog 98 #[.pointer (some ⟨b, 0, none⟩)] (backX l) (BackRd l n b A c) := by
  subst hn
  intro r J Jx w hRd hJe hY h0
  refine callsIn_wide.2 ?_
  refine calls_of_cw (args := [.func (.yield r) #[] #[], .pointer (some (⟨b, 0, none⟩))]) Try.func98 rfl rfl rfl rfl ?_
  have hR := hRd 0 w h0
  refine CW.seq fun K1 hK1 => ?_
  refine CW.region ?_
  refine LW.pure rfl rfl (RV.load1 Tk22 rfl hR.bx rfl) ?_
  refine LW.pure rfl rfl (RV.len Ts22 rfl) ?_
  refine LW.pure rfl rfl (RV.sub rfl rfl (by omega)) ?_
  refine LW.pure rfl rfl (RV.assign rfl) ?_
  refine LW.nil (hK1 _ _ ?_)
  refine CW.block ?_
  refine CW.loop (fun meas ρ wl => ∃ i : Nat, meas + i = l.length ∧ J i wl ∧ ρ = [(0, .func (.yield r) #[] #[]), (1, .pointer (some (⟨b, 0, none⟩))), (3, .int .i64 ((l.length : Int) - 1 - (i : Int)))]) l.length ⟨_, ?_, 0, by omega, h0, rfl⟩ ?_
  · exact ⟨rfl, rfl, look_int rfl (by omega), trivial⟩
  rintro mk _ wl ⟨i, hm, hJ, rfl⟩
  have hR := hRd i wl hJ
  refine CW.seq fun K3 hK3 => ?_
  refine CW.seq fun K2 hK2 => ?_
  refine CW.region ?_
  refine LW.pure rfl rfl (RV.move rfl) ?_
  refine LW.pure rfl rfl (RV.geq rfl rfl) ?_
  refine LW.nil (hK2 _ _ ?_)
  by_cases hp1 : (0 : Int) ≤ (l.length : Int) - 1 - (i : Int)
  · have hq1 := dec_t hp1
    have hil : i < l.length := by omega
    obtain ⟨x, hx⟩ : ∃ x, l[l.length - 1 - i]? = some x := ⟨l[l.length - 1 - i]'(by omega), by rw [List.getElem?_eq_getElem]⟩
    have hxx : (backX l)[i]? = some (rowB (((l.length - 1 - i : Nat) : Int), x)) := by unfold backX; rw [List.getElem?_map, backL_at hx hil]; rfl
    have e : ((l.length - 1 - i : Nat) : Int) = (l.length : Int) - 1 - (i : Int) := by omega
    have hx' : l[((l.length : Int) - 1 - (i : Int)).toNat]? = some x := by rw [← e]; exact hx
    rw [e] at hxx
    refine CW.condT rfl hq1 ?_
    refine CW.skip (hK3 _ _ ?_)
    refine CW.seq fun K4 hK4 => ?_
    refine CW.block ?_
    refine CW.seq fun K7 hK7 => ?_
    refine CW.regionI (m := 2) ?_
    refine LI.pure rfl rfl (RV.move rfl) ?_
    refine LI.pure rfl rfl (RV.move rfl) ?_
    refine LI.pure rfl rfl (RV.load1 Tk22 rfl hR.bx rfl) ?_
    refine LI.pure rfl rfl (RV.move rfl) ?_
    refine LI.pure rfl rfl (RV.indexAddr Ts22 rfl rfl (by omega) (hR.sl.addr_ hx')) ?_
    refine LI.pure rfl rfl (RV.load1 Tk25 rfl (hR.sl.at_ hx') rfl) ?_
    refine LI.yield (m := 1) (args := [_, _]) rfl rfl rfl (hY i _ _ hJ hxx) ?_
    rintro e w4 (⟨rfl, hJ4⟩ | ⟨rfl, hJx⟩)
    · refine ⟨_, rfl, ?_⟩
      refine LI.pure rfl rfl (RV.not rfl) ?_
      refine LI.nil (hK7 _ _ ?_)
      refine CW.condF rfl rfl ?_
      refine CW.skip (hK4 _ _ ?_)
      refine CW.region ?_
      refine LW.pure rfl rfl (RV.move rfl) ?_
      refine LW.pure rfl rfl (RV.sub rfl rfl (by omega)) ?_
      refine LW.pure rfl rfl (RV.assign rfl) ?_
      refine LW.nil ?_
      refine ⟨mk - 1, by omega, _, ?_, i + 1, by omega, hJ4, rfl⟩
      exact ⟨rfl, rfl, look_int rfl (by omega), trivial⟩
    · refine ⟨_, rfl, ?_⟩
      refine LI.pure rfl rfl (RV.not rfl) ?_
      refine LI.nil (hK7 _ _ ?_)
      refine CW.condT rfl rfl ?_
      refine CW.ret ?_
      exact ⟨_, ResOK.none_, ⟨_, rfl⟩, .inr hJx⟩
  · have hq1 := dec_f hp1
    refine CW.condF rfl hq1 ?_
    refine CW.exit ?_
    have hi : i = (backX l).length := by unfold backX; rw [List.length_map, backL_len]; omega
    exact ⟨_, ResOK.none_, ⟨_, rfl⟩, .inl (hi ▸ hJ)⟩
end Go.D4u

set_option linter.unusedVariables false
namespace Go.D4
open Go.Tb
def cut_Mirror_k1 (m1 : List (List Int)) : Option (Bog × Int) :=
  some ((⟨m1⟩ : Bog), (0 : Int))
def cut_Mirror_B1 (rec1 : (List (List Int)) → Option (Bog × Int)) (p : Int × (List Int)) (m1 : List (List Int)) : Option (Bog × Int) :=
  bnd (slices_Clone_int p.2) fun r1 =>
  gd (m1.length + 1 ≤ 1000000) <|
  rec1 (((m1 ++ [r1])))
def cut_Mirror_L1 : List (Int × (List Int)) → (List (List Int)) → Option (Bog × Int)
  | [], m1 => cut_Mirror_k1 m1
  | p :: l_, m1 => cut_Mirror_B1 (cut_Mirror_L1 l_) p m1
def cut_Mirror (a0 : Bog) : Option (Bog × Int) :=
  bnd (cut_Validate a0) fun r2 =>
  if r2 = 0 then
    gd (a0.worth.length ≤ 1000000) <|
    cut_Mirror_L1 (backL a0.worth) ((([] : List (List Int))))
  else
    some ((⟨[]⟩ : Bog), r2)
def ref04_Mirror_k1 (m1 : List (List Int)) : Option (Bog × Int) :=
  some ((⟨m1⟩ : Bog), (0 : Int))
def ref04_Mirror_B1 (a0 : Bog) (rec1 : Int → (List (List Int)) → Option (Bog × Int)) (t7_1 : Int) (m2 : List (List Int)) : Option (Bog × Int) :=
  if t7_1 < ((a0.worth.length : Int)) then
    gd (InR (((a0.worth.length : Int)) - 1)) <|
    gd (InR ((((a0.worth.length : Int)) - 1) - t7_1)) <|
    ix a0.worth ((((a0.worth.length : Int)) - 1) - t7_1) fun x1 =>
    gd ((([] : List Int)).length + x1.length ≤ 1000000) <|
    ix m2 t7_1 fun x2 =>
    gd (InR (t7_1 + 1)) <|
    rec1 ((t7_1 + 1)) (((m2.set (Int.toNat t7_1) ((([] : List Int) ++ x1)))))
  else
    ref04_Mirror_k1 m2
def ref04_Mirror_L1 (a0 : Bog) : Nat → Int → (List (List Int)) → Option (Bog × Int)
  | 0, _, _ => none
  | n_ + 1, t7_1, m2 => ref04_Mirror_B1 a0 (ref04_Mirror_L1 a0 n_) t7_1 m2
theorem ref04_Mirror_L1_s {a0 : Bog} {m_ : Nat} {t7_1 : Int} {m2 : List (List Int)} {res : Bog × Int} (h : ref04_Mirror_L1 a0 m_ t7_1 m2 = some res) : ∃ k, m_ = k + 1 ∧ ref04_Mirror_B1 a0 (ref04_Mirror_L1 a0 k) t7_1 m2 = some res := by
  cases m_ with
  | zero => cases h
  | succ k => exact ⟨k, rfl, h⟩
def ref04_Mirror (a0 : Bog) : Option (Bog × Int) :=
  bnd (ref04_Validate a0) fun r1 =>
  if r1 = 0 then
    bnd (ref04_Copy a0) fun r2 =>
    ref04_Mirror_L1 a0 FU (((0 : Int))) r2.worth
  else
    some ((⟨[]⟩ : Bog), r1)
def law04_CutMirrors_k1 (a0 : Bog) (r1 : Bog) : Option Bool :=
  bnd (ref04_Same r1 a0) fun r2 =>
  if r2 = true then
    bnd (law04_sane) fun r3 =>
    some r3
  else
    some false
def law04_CutMirrors_B1 (a0 : Bog) (r1 : Bog) (rec1 : Int → (List (List Int)) → Option Bool) (t16_1 : Int) (m1 : List (List Int)) : Option Bool :=
  if t16_1 < ((m1.length : Int)) then
    ix m1 t16_1 fun x1 =>
    ix x1 0 fun x2 =>
    gd (InR (t16_1 + 1)) <|
    rec1 ((t16_1 + 1)) (((m1.set (Int.toNat t16_1) (x1.set (Int.toNat 0) 99))))
  else
    law04_CutMirrors_k1 a0 r1
def law04_CutMirrors_L1 (a0 : Bog) (r1 : Bog) : Nat → Int → (List (List Int)) → Option Bool
  | 0, _, _ => none
  | n_ + 1, t16_1, m1 => law04_CutMirrors_B1 a0 r1 (law04_CutMirrors_L1 a0 r1 n_) t16_1 m1
theorem law04_CutMirrors_L1_s {a0 : Bog} {r1 : Bog} {m_ : Nat} {t16_1 : Int} {m1 : List (List Int)} {res : Bool} (h : law04_CutMirrors_L1 a0 r1 m_ t16_1 m1 = some res) : ∃ k, m_ = k + 1 ∧ law04_CutMirrors_B1 a0 r1 (law04_CutMirrors_L1 a0 r1 k) t16_1 m1 = some res := by
  cases m_ with
  | zero => cases h
  | succ k => exact ⟨k, rfl, h⟩
def law04_CutMirrors_k2 (a0 : Bog) (r1 : Bog) (r4 : Bog × Int) (t80_1 : Bool) : Option Bool :=
  if t80_1 = true then
    some false
  else
    law04_CutMirrors_L1 a0 r1 FU (((0 : Int))) r4.1.worth
def law04_CutMirrors_k3 (a0 : Bog) (r1 : Bog) (r4 : Bog × Int) (r5 : Int × Int) (l1 : List Int) : Option Bool :=
  bnd (cut_Worth r4.1 l1) fun r6 =>
  if r4.2 = 0 then
    if r5.1 = r6.1 then
      law04_CutMirrors_k2 a0 r1 r4 ((!(decide (r5.2 = r6.2))))
    else
      law04_CutMirrors_k2 a0 r1 r4 true
  else
    law04_CutMirrors_k2 a0 r1 r4 false
def law04_CutMirrors_B2 (a0 : Bog) (a1 : List Int) (r1 : Bog) (r4 : Bog × Int) (r5 : Int × Int) (rec2 : Int → (List Int) → Option Bool) (t13_1 : Int) (l2 : List Int) : Option Bool :=
  if (0 : Int) ≤ t13_1 then
    ix a1 t13_1 fun x3 =>
    gd (l2.length + (([x3] : List Int)).length ≤ 1000000) <|
    gd (InR (t13_1 - 1)) <|
    rec2 ((t13_1 - 1)) (((l2 ++ ([x3] : List Int))))
  else
    law04_CutMirrors_k3 a0 r1 r4 r5 l2
def law04_CutMirrors_L2 (a0 : Bog) (a1 : List Int) (r1 : Bog) (r4 : Bog × Int) (r5 : Int × Int) : Nat → Int → (List Int) → Option Bool
  | 0, _, _ => none
  | n_ + 1, t13_1, l2 => law04_CutMirrors_B2 a0 a1 r1 r4 r5 (law04_CutMirrors_L2 a0 a1 r1 r4 r5 n_) t13_1 l2
theorem law04_CutMirrors_L2_s {a0 : Bog} {a1 : List Int} {r1 : Bog} {r4 : Bog × Int} {r5 : Int × Int} {m_ : Nat} {t13_1 : Int} {l2 : List Int} {res : Bool} (h : law04_CutMirrors_L2 a0 a1 r1 r4 r5 m_ t13_1 l2 = some res) : ∃ k, m_ = k + 1 ∧ law04_CutMirrors_B2 a0 a1 r1 r4 r5 (law04_CutMirrors_L2 a0 a1 r1 r4 r5 k) t13_1 l2 = some res := by
  cases m_ with
  | zero => cases h
  | succ k => exact ⟨k, rfl, h⟩
def law04_CutMirrors_k4 (a0 : Bog) (a1 : List Int) (r1 : Bog) (r4 : Bog × Int) (t42_1 : Bool) : Option Bool :=
  if t42_1 = true then
    some false
  else
    bnd (cut_Worth a0 a1) fun r5 =>
    gd (InR (((a1.length : Int)) - 1)) <|
    law04_CutMirrors_L2 a0 a1 r1 r4 r5 FU ((((a1.length : Int)) - 1)) ((([] : List Int)))
def law04_CutMirrors (a0 : Bog) (a1 : List Int) : Option Bool :=
  bnd (law04_Long a0 (([a1] : List (List Int)))) fun r7 =>
  if r7 = true then
    bnd (law04_sane) fun r8 =>
    some r8
  else
    bnd (ref04_Copy a0) fun r1 =>
    bnd (cut_Mirror r1) fun r4 =>
    bnd (ref04_Mirror a0) fun r9 =>
    bnd (ref04_Same r4.1 r9.1) fun r10 =>
    if r10 = true then
      law04_CutMirrors_k4 a0 a1 r1 r4 ((!(decide (r4.2 = r9.2))))
    else
      law04_CutMirrors_k4 a0 a1 r1 r4 true
end Go.D4

set_option linter.unusedVariables false
set_option linter.unusedSimpArgs false
namespace Go.D4
open Go.Tb Go.Proofs Go.RowKit
theorem Tc44 : callable Try.prog 44 = true := by kernel_rfl
theorem Tc45 : callable Try.prog 45 = true := by kernel_rfl
theorem Tc86 : callable Try.prog 86 = true := by kernel_rfl
set_option maxRecDepth 20000 in
set_option maxHeartbeats 1000000 in
theorem cut_Mirror_ok {a0 : Bog} {A_a0_worth : Option Addr} {c_a0_worth : Nat} {w : World} {res : Bog × Int} (h_a0_worth : Sl2 w A_a0_worth c_a0_worth 1 encN a0.worth) (F : cut_Mirror a0 = some res) : Calls Try.prog 44 #[.agg #[.slice A_a0_worth a0.worth.length c_a0_worth]] w (fun e w' => ∃ (A0_worth : Option Addr) (c0_worth : Nat) (hs0_worth : List (Option Addr × Nat)), e = .returned (.tuple #[.agg #[.slice A0_worth res.1.worth.length c0_worth], .int .i64 res.2]) ∧ Hp w w' [.tab A0_worth c0_worth 25 hs0_worth 3 1 (encM encN res.1.worth)]) := by
  refine calls_of_cm (args := [.agg #[.slice A_a0_worth a0.worth.length c_a0_worth]]) Try.func44 rfl rfl rfl ?_
  have H := Hp.start w
  have R0 := H.ext
  unfold cut_Mirror at F
  refine CM.seq rfl fun K1 hK1 => ?_
  refine CW.region ?_
  refine LW.go rfl rfl (OW.box rfl fun b1 w1 N1 => ?_)
  replace H := H.new N1 N1.blk
  replace R0 := H.ext
  refine LW.go rfl rfl (OW.alloc Tz24 fun b2 w2 N2 => ?_)
  replace H := H.new N2 N2.blk
  replace R0 := H.ext
  refine LW.pure rfl rfl (RV.assign rfl) ?_
  refine LW.nil (hK1 _ _ ?_)
  refine CM.seq rfl fun K2 hK2 => ?_
  refine CW.seq fun K3 hK3 => ?_
  obtain ⟨r2, hr2, F⟩ := bnd_some F
  refine CW.region ?_
  refine LW.pure rfl rfl (RV.loadA [.slice A_a0_worth a0.worth.length c_a0_worth] Tk24 rfl (H.blk 1 rfl).cells rfl rfl) ?_
  refine LW.go rfl rfl (OW.call Tc25 rfl (cut_Validate_ok (a0 := a0) (h_a0_worth.ext R0) hr2) ?_)
  rintro _ w3 ⟨rfl, E1⟩
  refine ⟨_, rfl, ?_⟩
  replace H := H.grow E1
  replace R0 := H.ext
  refine LW.pure rfl rfl (RV.assign rfl) ?_
  refine LW.nil (hK3 _ _ ?_)
  refine CW.seq fun K4 hK4 => ?_
  refine CW.region ?_
  refine LW.pure rfl rfl (RV.move rfl) ?_
  refine LW.pure rfl rfl (RV.nei rfl rfl) ?_
  refine LW.nil (hK4 _ _ ?_)
  by_cases hp1 : r2 = 0
  ·
    replace F := ite_y hp1 F
    have hq1 := dec_t hp1
    refine CW.condF rfl (not_f hq1) ?_
    refine CW.skip (hK2 _ _ ?_)
    refine CM.seq rfl fun K5 hK5 => ?_
    refine CW.region ?_
    refine LW.go rfl rfl (OW.alloc Tz24 fun b3 w4 N3 => ?_)
    replace H := H.new N3 N3.blk
    replace R0 := H.ext
    refine LW.nil (hK5 _ _ ?_)
    refine CM.seqA rfl fun K6 hK6 => ?_
    refine CW.region ?_
    refine LW.pure rfl rfl (RV.fieldAddr Tf24_0 rfl) ?_
    refine LW.pure rfl rfl (RV.load1 Tk22 rfl ((H.blk 2 rfl).cells.off 0) rfl) ?_
    refine LW.go rfl rfl (OW.call Tc86 rfl D4u.backward_ok ?_)
    rintro _ w5 ⟨b4, rfl, E2⟩
    refine ⟨_, rfl, ?_⟩
    replace H : Hp w w5 [.blk b4 22 [.slice A_a0_worth a0.worth.length c_a0_worth], .blk b3 24 [.slice none 0 0], .blk b2 24 [.slice none 0 0], .blk b1 24 [.slice A_a0_worth a0.worth.length c_a0_worth]] := H.append E2
    replace R0 := H.ext
    refine LW.nil (hK6 _ _ ?_)
    obtain ⟨hg1, F⟩ := gd_some F
    replace H := H.nilTab encN 25 3 1
    replace R0 := H.ext
    replace H := H.pick (L' := [.tab none 0 25 ([]) 3 1 (encM encN (([] : List (List Int)))), .blk b2 24 [.slice none 0 0], .blk b3 24 [.slice none 0 0], .blk b4 22 [.slice A_a0_worth a0.worth.length c_a0_worth]]) [0, 3, 2, 1] (by decide) rfl
    replace R0 := H.ext
    replace H := H.cast (L' := [.tab none 0 25 ([]) 3 1 (encM encN (([] : List (List Int)))), .blk b2 24 [.slice none 0 0], .blk b3 24 [.slice none ((([] : List (List Int))).length) 0], .blk b4 22 [.slice A_a0_worth a0.worth.length c_a0_worth]]) (by first | rfl | (simp only [List.length_set]; done) | simp)
    obtain ⟨hs_, hsl_, hsS_, hsR_⟩ := h_a0_worth.ex
    refine CB.range (V := List Ck) (Va := List Ck) (Vx := List Ck) rfl (gf := 98) (lb := #[.pointer (some ⟨b4, 0, none⟩)]) rfl (fun _ _ => rfl) (xs := D4u.backX (hs_.zip a0.worth)) D4u.backX_size (by decide)
      (D4u.back_iter (n := a0.worth.length) (b := b4) (A := A_a0_worth) (c := c_a0_worth) (by rw [List.length_zip, hsl_]; exact Nat.min_self _) ?_)
      (fun i L => ∃ (m1 : List (List Int)) (hsm1 : List (Option Addr × Nat)) (Am1 : Option Addr) (cm1 : Nat), cut_Mirror_L1 ((backL a0.worth).drop i) m1 = some res ∧ L = [.tab Am1 cm1 25 hsm1 3 1 (encM encN m1), .blk b2 24 [.slice none 0 0], .blk b3 24 [.slice Am1 m1.length cm1], .blk b4 22 [.slice A_a0_worth a0.worth.length c_a0_worth]]) id
      (fun i L ρ' => ∃ (m1 : List (List Int)) (hsm1 : List (Option Addr × Nat)) (Am1 : Option Addr) (cm1 : Nat) (p : Int × (List Int)) (Ap : Option Addr) (cp : Nat), cut_Mirror_B1 (cut_Mirror_L1 ((backL a0.worth).drop (i + 1))) p m1 = some res ∧ L = [.tab Am1 cm1 25 hsm1 3 1 (encM encN m1), .blk b2 24 [.slice none 0 0], .blk b3 24 [.slice Am1 m1.length cm1], .blk b4 22 [.slice A_a0_worth a0.worth.length c_a0_worth]] ∧ Sl w Ap cp 1 (p.2.map encN) ∧ Tb.Sub [(2, .pointer (some (⟨b2, 0, none⟩))), (3, .int .i64 0), (5, .pointer (some (⟨b3, 0, none⟩))), (7, .slice Ap p.2.length cp), (16, .func (.func 98) #[] #[.pointer (some (⟨b4, 0, none⟩))])] ρ') id
      (fun _ => False) id ?_ [.tab none 0 25 ([]) 3 1 (encM encN (([] : List (List Int)))), .blk b2 24 [.slice none 0 0], .blk b3 24 [.slice none ((([] : List (List Int))).length) 0], .blk b4 22 [.slice A_a0_worth a0.worth.length c_a0_worth]] ⟨(([] : List (List Int))), ([]), none, 0, F, rfl⟩ H ?_ ?_ ?_ (fun _ _ _ h => h.elim)
    · exact hg1
    ·
      rintro i _ W X ⟨m1, hsm1, Am1, cm1, hF, rfl⟩ HW
      exact ⟨hsS_.ext HW.ext, (HW.blk 3 rfl).cells⟩
    ·
      rintro r i _ W X x ⟨m1, hsm1, Am1, cm1, F, rfl⟩ hx H
      obtain ⟨Ap, cp, p, hp, hSp, rfl⟩ := D4u.backX_at hsl_ hsR_ hx
      rw [Tb.drop_at hp] at F
      replace F : cut_Mirror_B1 (cut_Mirror_L1 ((backL a0.worth).drop (i + 1))) p m1 = some res := F
      refine CR.sub [(2, .pointer (some (⟨b2, 0, none⟩))), (3, .int .i64 0), (5, .pointer (some (⟨b3, 0, none⟩))), (16, .func (.func 98) #[] #[.pointer (some (⟨b4, 0, none⟩))]), (17, .int .i64 p.1), (18, .slice Ap p.2.length cp)] ⟨rfl, rfl, rfl, rfl, rfl, rfl, trivial⟩ ?_
      have R0 := H.ext
      refine CR.region (fun _ _ h => by cases h.1) rfl ?_
      refine LW.pure rfl rfl (RV.assign rfl) ?_
      refine LW.nil ?_
      exact ⟨rfl, _, ⟨m1, hsm1, Am1, cm1, p, Ap, cp, F, rfl, hSp, ⟨rfl, rfl, rfl, rfl, rfl, trivial⟩⟩, H⟩
    ·
      rintro r i _ ρ' W X ⟨m1, hsm1, Am1, cm1, p, Ap, cp, F, rfl, hSp, hsub⟩ H
      refine CR.sub _ hsub ?_
      have R0 := H.ext
      generalize hrec1 : cut_Mirror_L1 ((backL a0.worth).drop (i + 1)) = rec1 at F
      unfold cut_Mirror_B1 at F
      refine CR.block ?_
      obtain ⟨r1, hr1, F⟩ := bnd_some F
      obtain ⟨hg2, F⟩ := gd_some F
      refine CR.draw (fun _ _ h => h) rfl [5, 7] (fun _ => True) (.cons 0 2 (.cons 1 1 (.cons 2 2 (.cons 3 0 (.cons 4 0 (.cons 5 0 (.cons 6 2 (.cons 7 0 .nil)))))))) mixed (by kernel_rfl) fun w6 E3 => ?_
      replace H := H.grow E3
      replace R0 := H.ext
      refine DW.thru rfl rfl rfl (fun _ EQ => RV.fieldAddr Tf24_0 rfl) ?_
      refine DW.fix rfl rfl rfl (fun _ EQ => RV.load1 Tk22 rfl (((H.grow EQ).blk 2 rfl).cells.off 0) rfl) ?_
      refine DW.thru rfl rfl rfl (fun _ EQ => RV.move rfl) ?_
      refine DW.sole rfl rfl rfl (OW.call Tc87 rfl (slices_Clone_int_ok (a0 := p.2) (hSp.ext R0) hr1) ?_)
      rintro _ w7 ⟨A9_0, c9_0, rfl, E4⟩
      refine ⟨_, rfl, fun _ => E4.ext, ModX.ext E4.ext, ?_⟩
      replace H : Hp w w7 ([.own A9_0 c9_0 3 1 (List.map encN r1), .tab Am1 cm1 25 hsm1 3 1 (encM encN m1), .blk b2 24 [.slice none 0 0], .blk b3 24 [.slice Am1 m1.length cm1], .blk b4 22 [.slice A_a0_worth a0.worth.length c_a0_worth]] ++ [X]) := H.append E4
      replace R0 := H.ext
      refine DW.sole rfl rfl rfl (OW.buildSlice (e := 25) (vs := [.slice A9_0 r1.length c9_0]) (cs := [.slice A9_0 r1.length c9_0]) rfl (fun _ => by kernel_rfl) fun b5 w8 N4 => ?_)
      refine ⟨fun _ => N4.ext, ModX.ext N4.ext, ?_⟩
      replace H := H.made' (k := 1) (t := 25) (enc := encH) (l := ([((A9_0, c9_0), List.map encN r1)] : List ((Option Addr × Nat) × List (List Value)))) N4 (by have q := N4.blk; simp only [List.flatMap_cons, List.flatMap_nil, encH, List.length_map, List.append_nil, List.cons_append, List.nil_append]; first | done | exact q) (fun _ => rfl) rfl (by first | decide | omega | (simp; done) | (simp; omega))
      replace R0 := H.ext
      refine DW.sole rfl rfl rfl (OW.appendT (enc := encN) (m := m1) (l := r1) Ts22 rfl rfl (H.tab 2 rfl) (H.own 0 rfl).sl rfl hg2 (by decide) fun A1 c1 w9 O1 M1 D1 => ?_)
      refine ⟨fun h => absurd h (by decide), M1.modx (fun _ _ => trivial), ?_⟩
      replace H : Hp w w9 ([.own (some ⟨b5, 0, none⟩) ((([((A9_0, c9_0), List.map encN r1)] : List ((Option Addr × Nat) × List (List Value)))).length) 25 1 (List.map encH (([((A9_0, c9_0), List.map encN r1)] : List ((Option Addr × Nat) × List (List Value))))), .tab A1 c1 25 ((hsm1 ++ [(A9_0, c9_0)])) 3 1 (encM encN ((m1 ++ [r1]))), .blk b2 24 [.slice none 0 0], .blk b3 24 [.slice Am1 m1.length cm1], .blk b4 22 [.slice A_a0_worth a0.worth.length c_a0_worth]] ++ [X]) := H.tabPush 2 1 (by decide) rfl rfl M1 D1 O1
      replace R0 := H.ext
      refine DW.thru rfl rfl rfl (fun _ EQ => RV.fieldAddr Tf24_0 rfl) ?_
      refine DW.sole rfl rfl rfl (OW.store Tk22 rfl rfl (H.blk 3 rfl) (off := 0) (vs := [.slice A1 (((m1 ++ [r1])).length) c1]) rfl rfl rfl rfl rfl fun w10 S1 => ?_)
      refine ⟨fun h => absurd h (by decide), S1.modx trivial, ?_⟩
      replace H : Hp w w10 ([.own (some ⟨b5, 0, none⟩) ((([((A9_0, c9_0), List.map encN r1)] : List ((Option Addr × Nat) × List (List Value)))).length) 25 1 (List.map encH (([((A9_0, c9_0), List.map encN r1)] : List ((Option Addr × Nat) × List (List Value))))), .tab A1 c1 25 ((hsm1 ++ [(A9_0, c9_0)])) 3 1 (encM encN ((m1 ++ [r1]))), .blk b2 24 [.slice none 0 0], .blk b3 24 [.slice A1 (((m1 ++ [r1])).length) c1], .blk b4 22 [.slice A_a0_worth a0.worth.length c_a0_worth]] ++ [X]) := H.stored 3 rfl S1
      replace R0 := H.ext
      refine DW.nil ?_
      replace H := H.pickR (C := [.own (some ⟨b5, 0, none⟩) ((([((A9_0, c9_0), List.map encN r1)] : List ((Option Addr × Nat) × List (List Value)))).length) 25 1 (List.map encH (([((A9_0, c9_0), List.map encN r1)] : List ((Option Addr × Nat) × List (List Value))))), .tab A1 c1 25 ((hsm1 ++ [(A9_0, c9_0)])) 3 1 (encM encN ((m1 ++ [r1]))), .blk b2 24 [.slice none 0 0], .blk b3 24 [.slice A1 (((m1 ++ [r1])).length) c1], .blk b4 22 [.slice A_a0_worth a0.worth.length c_a0_worth]]) (C' := [.tab A1 c1 25 ((hsm1 ++ [(A9_0, c9_0)])) 3 1 (encM encN ((m1 ++ [r1]))), .blk b2 24 [.slice none 0 0], .blk b3 24 [.slice A1 (((m1 ++ [r1])).length) c1], .blk b4 22 [.slice A_a0_worth a0.worth.length c_a0_worth]]) [1, 2, 3, 4] (by decide) rfl
      replace R0 := H.ext
      subst hrec1
      exact ⟨_, ⟨((m1 ++ [r1])), ((hsm1 ++ [(A9_0, c9_0)])), A1, c1, F, rfl⟩, H⟩
    ·
      rintro D _ W ⟨m1, hsm1, Am1, cm1, F, rfl⟩ H
      rw [D4u.drop_all hsl_] at F
      replace F : cut_Mirror_k1 m1 = some res := F
      unfold cut_Mirror_k1 at F
      have R0 := H.ext
      refine CWD.seqK fun K7 hK7 => ?_
      refine CWD.regionL rfl ?_
      refine LW.pure rfl rfl (RV.loadA [.slice Am1 m1.length cm1] Tk24 rfl (H.blk 2 rfl).cells rfl rfl) ?_
      refine LW.go rfl rfl (OW.store Tk24 rfl rfl (H.blk 1 rfl) (off := 0) (vs := [.slice Am1 m1.length cm1]) rfl rfl rfl rfl rfl fun w11 S2 => ?_)
      replace H : Hp w w11 ([.tab Am1 cm1 25 hsm1 3 1 (encM encN m1), .blk b2 24 [.slice Am1 m1.length cm1], .blk b3 24 [.slice Am1 m1.length cm1], .blk b4 22 [.slice A_a0_worth a0.worth.length c_a0_worth]] ++ [dck D]) := H.stored 1 rfl S2
      replace R0 := H.ext
      refine LW.pure rfl rfl (RV.assign rfl) ?_
      refine LW.nil (hK7 _ _ ?_)
      refine CWD.ret ?_
      obtain ⟨hD, H⟩ := dck_take H
      refine ⟨hD, ?_⟩
      replace R0 := H.ext
      obtain rfl := Option.some.inj F
      refine ⟨_, (ResOK.two ⟨_, rfl, run_loadVar_agg Tk24 (H.blk 1 rfl).cells (us := [.slice Am1 m1.length cm1]) rfl rfl⟩ rfl), ?_⟩
      replace H := H.pick (L' := [.tab Am1 cm1 25 hsm1 3 1 (encM encN m1)]) [0] (by decide) rfl
      replace R0 := H.ext
      exact ⟨Am1, cm1, hsm1, (by first | rfl | (simp; done) | (simp; omega)), H⟩
  ·
    replace F := ite_n hp1 F
    have hq1 := dec_f hp1
    refine CW.condT rfl (not_t hq1) ?_
    refine CW.seq fun K8 hK8 => ?_
    refine CW.region ?_
    refine LW.pure rfl rfl (RV.build (vs := []) (cs := [.slice none 0 0]) rfl (fun _ => by kernel_rfl)) ?_
    refine LW.pure rfl rfl (RV.move rfl) ?_
    refine LW.go rfl rfl (OW.store Tk24 rfl rfl (H.blk 0 rfl) (off := 0) (vs := [.slice none 0 0]) rfl rfl rfl rfl rfl fun w12 S3 => ?_)
    replace H : Hp w w12 [.blk b2 24 [.slice none 0 0], .blk b1 24 [.slice A_a0_worth a0.worth.length c_a0_worth]] := H.stored 0 rfl S3
    replace R0 := H.ext
    refine LW.pure rfl rfl (RV.assign rfl) ?_
    refine LW.nil (hK8 _ _ ?_)
    refine CW.ret ?_
    obtain rfl := Option.some.inj F
    refine ⟨_, (ResOK.two ⟨_, rfl, run_loadVar_agg Tk24 (H.blk 0 rfl).cells (us := [.slice none 0 0]) rfl rfl⟩ rfl), ?_⟩
    replace H := H.nilTab encN 25 3 1
    replace R0 := H.ext
    replace H := H.pick (L' := [.tab none 0 25 ([]) 3 1 (encM encN (([] : List (List Int))))]) [0] (by decide) rfl
    replace R0 := H.ext
    exact ⟨none, 0, ([]), (by first | rfl | (simp; done) | (simp; omega)), H⟩
set_option maxRecDepth 20000 in
set_option maxHeartbeats 1000000 in
theorem ref04_Mirror_ok {a0 : Bog} {A_a0_worth : Option Addr} {c_a0_worth : Nat} {w : World} {res : Bog × Int} (h_a0_worth : Sl2 w A_a0_worth c_a0_worth 1 encN a0.worth) (F : ref04_Mirror a0 = some res) : Calls Try.prog 45 #[.agg #[.slice A_a0_worth a0.worth.length c_a0_worth]] w (fun e w' => ∃ (A0_worth : Option Addr) (c0_worth : Nat) (hs0_worth : List (Option Addr × Nat)), e = .returned (.tuple #[.agg #[.slice A0_worth res.1.worth.length c0_worth], .int .i64 res.2]) ∧ Hp w w' [.tab A0_worth c0_worth 25 hs0_worth 3 1 (encM encN res.1.worth)]) := by
  refine calls_of_cw (args := [.agg #[.slice A_a0_worth a0.worth.length c_a0_worth]]) Try.func45 rfl rfl rfl rfl ?_
  have H := Hp.start w
  have R0 := H.ext
  unfold ref04_Mirror at F
  refine CW.seq fun K1 hK1 => ?_
  refine CW.region ?_
  refine LW.go rfl rfl (OW.box rfl fun b1 w1 N1 => ?_)
  replace H := H.new N1 N1.blk
  replace R0 := H.ext
  refine LW.go rfl rfl (OW.alloc Tz24 fun b2 w2 N2 => ?_)
  replace H := H.new N2 N2.blk
  replace R0 := H.ext
  refine LW.pure rfl rfl (RV.assign rfl) ?_
  refine LW.nil (hK1 _ _ ?_)
  refine CW.seq fun K2 hK2 => ?_
  obtain ⟨r1, hr1, F⟩ := bnd_some F
  refine CW.region ?_
  refine LW.pure rfl rfl (RV.loadA [.slice A_a0_worth a0.worth.length c_a0_worth] Tk24 rfl (H.blk 1 rfl).cells rfl rfl) ?_
  refine LW.go rfl rfl (OW.call Tc26 rfl (ref04_Validate_ok (a0 := a0) (h_a0_worth.ext R0) hr1) ?_)
  rintro _ w3 ⟨rfl, E1⟩
  refine ⟨_, rfl, ?_⟩
  replace H := H.grow E1
  replace R0 := H.ext
  refine LW.pure rfl rfl (RV.assign rfl) ?_
  refine LW.nil (hK2 _ _ ?_)
  refine CW.seq fun K3 hK3 => ?_
  refine CW.seq fun K4 hK4 => ?_
  refine CW.region ?_
  refine LW.pure rfl rfl (RV.move rfl) ?_
  refine LW.pure rfl rfl (RV.nei rfl rfl) ?_
  refine LW.nil (hK4 _ _ ?_)
  by_cases hp1 : r1 = 0
  ·
    replace F := ite_y hp1 F
    have hq1 := dec_t hp1
    refine CW.condF rfl (not_f hq1) ?_
    refine CW.skip (hK3 _ _ ?_)
    refine CW.seq fun K5 hK5 => ?_
    obtain ⟨r2, hr2, F⟩ := bnd_some F
    refine CW.region ?_
    refine LW.pure rfl rfl (RV.loadA [.slice A_a0_worth a0.worth.length c_a0_worth] Tk24 rfl (H.blk 1 rfl).cells rfl rfl) ?_
    refine LW.go rfl rfl (OW.call Tc43 rfl (ref04_Copy_ok (a0 := a0) (h_a0_worth.ext R0) hr2) ?_)
    rintro _ w4 ⟨A6_0_worth, c6_0_worth, hs6_0_worth, rfl, E2⟩
    refine ⟨_, rfl, ?_⟩
    replace H : Hp w w4 [.tab A6_0_worth c6_0_worth 25 hs6_0_worth 3 1 (encM encN r2.worth), .blk b2 24 [.slice none 0 0], .blk b1 24 [.slice A_a0_worth a0.worth.length c_a0_worth]] := H.append E2
    replace R0 := H.ext
    refine LW.go rfl rfl (OW.alloc Tz24 fun b3 w5 N3 => ?_)
    replace H := H.new N3 N3.blk
    replace R0 := H.ext
    refine LW.go rfl rfl (OW.store Tk24 rfl rfl (H.blk 0 rfl) (off := 0) (vs := [.slice A6_0_worth r2.worth.length c6_0_worth]) rfl rfl rfl rfl rfl fun w6 S1 => ?_)
    replace H : Hp w w6 [.blk b3 24 [.slice A6_0_worth r2.worth.length c6_0_worth], .tab A6_0_worth c6_0_worth 25 hs6_0_worth 3 1 (encM encN r2.worth), .blk b2 24 [.slice none 0 0], .blk b1 24 [.slice A_a0_worth a0.worth.length c_a0_worth]] := H.stored 0 rfl S1
    replace R0 := H.ext
    refine LW.nil (hK5 _ _ ?_)
    refine CW.seq fun K6 hK6 => ?_
    refine CW.region ?_
    refine LW.pure rfl rfl (RV.fieldAddr Tf24_0 rfl) ?_
    refine LW.pure rfl rfl (RV.load1 Tk22 rfl ((H.blk 3 rfl).cells.off 0) rfl) ?_
    refine LW.pure rfl rfl (RV.len Ts22 rfl) ?_
    refine LW.pure rfl rfl (RV.assign rfl) ?_
    refine LW.nil (hK6 _ _ ?_)
    refine CW.seqJ (fun ρ wl1 => (∃ (m1 : List (List Int)) (hsm1 : List (Option Addr × Nat)), ref04_Mirror_k1 m1 = some res ∧ ρ = [(2, .pointer (some (⟨b2, 0, none⟩))), (3, .int .i64 0), (5, .pointer (some (⟨b3, 0, none⟩)))] ∧ Hp w wl1 [.tab A6_0_worth c6_0_worth 25 hsm1 3 1 (encM encN m1), .blk b2 24 [.slice none 0 0], .blk b3 24 [.slice A6_0_worth m1.length c6_0_worth]])) ?_ ?_
    ·
      rintro _ wl1 ⟨m1, hsm1, F, rfl, H⟩
      have R0 := H.ext
      unfold ref04_Mirror_k1 at F
      refine CW.seq fun K7 hK7 => ?_
      refine CW.region ?_
      refine LW.pure rfl rfl (RV.loadA [.slice A6_0_worth m1.length c6_0_worth] Tk24 rfl (H.blk 2 rfl).cells rfl rfl) ?_
      refine LW.go rfl rfl (OW.store Tk24 rfl rfl (H.blk 1 rfl) (off := 0) (vs := [.slice A6_0_worth m1.length c6_0_worth]) rfl rfl rfl rfl rfl fun w7 S2 => ?_)
      replace H : Hp w w7 [.tab A6_0_worth c6_0_worth 25 hsm1 3 1 (encM encN m1), .blk b2 24 [.slice A6_0_worth m1.length c6_0_worth], .blk b3 24 [.slice A6_0_worth m1.length c6_0_worth]] := H.stored 1 rfl S2
      replace R0 := H.ext
      refine LW.pure rfl rfl (RV.assign rfl) ?_
      refine LW.nil (hK7 _ _ ?_)
      refine CW.ret ?_
      obtain rfl := Option.some.inj F
      refine ⟨_, (ResOK.two ⟨_, rfl, run_loadVar_agg Tk24 (H.blk 1 rfl).cells (us := [.slice A6_0_worth m1.length c6_0_worth]) rfl rfl⟩ rfl), ?_⟩
      replace H := H.pick (L' := [.tab A6_0_worth c6_0_worth 25 hsm1 3 1 (encM encN m1)]) [0] (by decide) rfl
      replace R0 := H.ext
      exact ⟨A6_0_worth, c6_0_worth, hsm1, (by first | rfl | (simp; done) | (simp; omega)), H⟩
    ·
      intro K8 hK8 jK47
      refine CW.seq fun K9 hK9 => ?_
      refine CW.region ?_
      refine LW.pure rfl rfl (RV.assign rfl) ?_
      refine LW.nil (hK9 _ _ ?_)
      refine CW.block ?_
      replace H := H.pick (L' := [.tab A6_0_worth c6_0_worth 25 hs6_0_worth 3 1 (encM encN r2.worth), .blk b1 24 [.slice A_a0_worth a0.worth.length c_a0_worth], .blk b2 24 [.slice none 0 0], .blk b3 24 [.slice A6_0_worth r2.worth.length c6_0_worth]]) [1, 3, 2, 0] (by decide) rfl
      replace R0 := H.ext
      refine CW.loop (fun meas ρ wl2 => ∃ (t7_1 : Int) (m2 : List (List Int)) (hsm2 : List (Option Addr × Nat)), ref04_Mirror_L1 a0 meas t7_1 m2 = some res ∧ ρ = [(1, .pointer (some (⟨b1, 0, none⟩))), (2, .pointer (some (⟨b2, 0, none⟩))), (3, .int .i64 0), (5, .pointer (some (⟨b3, 0, none⟩))), (6, .int .i64 ((a0.worth.length : Int))), (7, .int .i64 t7_1)] ∧ Hp w wl2 [.tab A6_0_worth c6_0_worth 25 hsm2 3 1 (encM encN m2), .blk b1 24 [.slice A_a0_worth a0.worth.length c_a0_worth], .blk b2 24 [.slice none 0 0], .blk b3 24 [.slice A6_0_worth m2.length c6_0_worth]]) FU ⟨_, ?_, ((0 : Int)), r2.worth, hs6_0_worth, F, rfl, H⟩ ?_
      · exact ⟨rfl, rfl, rfl, rfl, rfl, rfl, trivial⟩
      rintro mk1 _ wl2 ⟨t7_1, m2, hsm2, F, rfl, H⟩
      have R0 := H.ext
      replace F := ref04_Mirror_L1_s F
      obtain ⟨mk1, rfl, F⟩ := F
      generalize hrec1 : ref04_Mirror_L1 a0 mk1 = rec1 at F
      unfold ref04_Mirror_B1 at F
      refine CW.seq fun K10 hK10 => ?_
      refine CW.seq fun K11 hK11 => ?_
      refine CW.region ?_
      refine LW.pure rfl rfl (RV.move rfl) ?_
      refine LW.pure rfl rfl (RV.move rfl) ?_
      refine LW.pure rfl rfl (RV.lss rfl rfl) ?_
      refine LW.nil (hK11 _ _ ?_)
      by_cases hp2 : t7_1 < ((a0.worth.length : Int))
      ·
        replace F := ite_y hp2 F
        have hq2 := dec_t hp2
        refine CW.condT rfl hq2 ?_
        refine CW.skip (hK10 _ _ ?_)
        refine CW.seq fun K12 hK12 => ?_
        refine CW.block ?_
        obtain ⟨hg1, F⟩ := gd_some F
        obtain ⟨hg2, F⟩ := gd_some F
        obtain ⟨x1, hbx1, hx1, F⟩ := ix_some F
        obtain ⟨hg3, F⟩ := gd_some F
        obtain ⟨x2, hbx2, hx2, F⟩ := ix_some F
        have H0 := H
        have hz : wl2.heap.size ≤ wl2.heap.size := Nat.le_refl _
        refine CW.draw [12, 14] (XB wl2 [.tab A6_0_worth c6_0_worth 25 hsm2 3 1 (encM encN m2), .blk b1 24 [.slice A_a0_worth a0.worth.length c_a0_worth], .blk b2 24 [.slice none 0 0], .blk b3 24 [.slice A6_0_worth m2.length c6_0_worth]] [0]) (.cons 0 2 (.cons 1 2 (.cons 2 2 (.cons 4 2 (.cons 5 2 (.cons 6 2 (.cons 7 2 (.cons 8 2 (.cons 9 2 (.cons 10 2 (.cons 11 1 (.cons 3 0 (.cons 12 0 (.cons 13 2 (.cons 14 0 .nil))))))))))))))) mixed (by kernel_rfl) fun w8 E3 => ?_
        replace H := H.grow E3
        replace R0 := H.ext
        replace hz := Nat.le_trans hz (Ext.size E3)
        refine DW.thru rfl rfl rfl (fun _ EQ => RV.fieldAddr Tf24_0 rfl) ?_
        refine DW.thru rfl rfl rfl (fun _ EQ => RV.load1 Tk22 rfl ((H.thruB 3 rfl EQ (H0.notX [0] 3 rfl (by decide))).cells.off 0) rfl) ?_
        refine DW.thru rfl rfl rfl (fun _ EQ => RV.move rfl) ?_
        refine DW.thru rfl rfl rfl (fun _ EQ => RV.fieldAddr Tf24_0 rfl) ?_
        refine DW.thru rfl rfl rfl (fun _ EQ => RV.load1 Tk22 rfl ((H.thruB 1 rfl EQ (H0.notX [0] 1 rfl (by decide))).cells.off 0) rfl) ?_
        refine DW.thru rfl rfl rfl (fun _ EQ => RV.move rfl) ?_
        refine DW.thru rfl rfl rfl (fun _ EQ => RV.sub rfl rfl hg1) ?_
        refine DW.thru rfl rfl rfl (fun _ EQ => RV.move rfl) ?_
        refine DW.thru rfl rfl rfl (fun _ EQ => RV.sub rfl rfl hg2) ?_
        obtain ⟨A1, c1, hC1, hS1⟩ := h_a0_worth.at_ hx1
        refine DW.thru rfl rfl rfl (fun _ EQ => RV.indexAddr Ts22 rfl rfl hbx1 (h_a0_worth.addr hbx1)) ?_
        refine DW.fix rfl rfl rfl (fun _ EQ => RV.load1 Tk25 rfl (hC1.ext (R0.trans EQ)) rfl) ?_
        refine DW.sole rfl rfl rfl (OW.buildSlice (e := 3) (vs := []) (cs := []) rfl (fun _ => by kernel_rfl) fun b4 w9 N4 => ?_)
        refine ⟨fun _ => N4.ext, ModX.ext N4.ext, ?_⟩
        have G0_b4 : wl2.heap.size ≤ b4 := by rw [N4.at_]; exact hz
        replace H := H.made' (k := 1) (t := 3) (enc := encN) (l := ([] : List Int)) N4 N4.blk (fun _ => rfl) rfl (by first | decide | omega | (simp; done) | (simp; omega))
        replace R0 := H.ext
        replace hz := Nat.le_trans hz (Ext.size N4.ext)
        refine DW.sole rfl rfl rfl (OW.appendG (enc := encN) (l := ([] : List Int)) (xs := x1) Ts25 (look_slice rfl (by first | rfl | (simp; done) | (simp; omega))) rfl (H.own 0 rfl) (hS1.ext R0) (fun _ => rfl) rfl rfl hg3 (by decide) fun A2 c2 w10 O1 M1 D1 => ?_)
        have G0_A2 := Fresh.nextZ (Fresh.at_ G0_b4) D1 hz
        refine ⟨fun h => absurd h (by decide), M1.modx (XB.newA (Fresh.at_ G0_b4)), ?_⟩
        replace H : Hp w w10 [.own A2 c2 3 1 (List.map encN ((([] : List Int) ++ x1))), .tab A6_0_worth c6_0_worth 25 hsm2 3 1 (encM encN m2), .blk b1 24 [.slice A_a0_worth a0.worth.length c_a0_worth], .blk b2 24 [.slice none 0 0], .blk b3 24 [.slice A6_0_worth m2.length c6_0_worth]] := H.mod 0 rfl M1 O1 D1
        replace R0 := H.ext
        replace hz := Nat.le_trans hz M1.size
        obtain ⟨B1, e1, hh1⟩ := (H.tab 1 rfl).hd hx2
        refine DW.thru rfl rfl rfl (fun _ EQ => RV.indexAddr Ts22 rfl rfl hbx2 ((H.tab 1 rfl).addr_ hx2)) ?_
        have hn1 : (((([] : List Int) ++ x1)).length) = ((([] : List Int) ++ x1)).length := by first | rfl | (simp; done) | (simp; omega)
        refine DW.sole rfl rfl rfl (OW.storeO (enc := encH) (vs := [.slice A2 (((([] : List Int) ++ x1)).length) c2]) 0 ((A2, c2), List.map encN ((([] : List Int) ++ x1))) Tk25 rfl rfl (H.tab 1 rfl).outer (fun _ => rfl) rfl ((H.tab 1 rfl).zipAt hx2 hh1) rfl rfl (by decide) rfl (by rw [hn1]; simp [encH, over]) fun w11 M2 O2 => ?_)
        refine ⟨fun h => absurd h (by decide), M2.modx (XB.tabO 0 (by decide) rfl), ?_⟩
        replace H : Hp w w11 [.tab A6_0_worth c6_0_worth 25 ((hsm2.set (Int.toNat t7_1) (A2, c2))) 3 1 (encM encN ((m2.set (Int.toNat t7_1) ((([] : List Int) ++ x1))))), .blk b1 24 [.slice A_a0_worth a0.worth.length c_a0_worth], .blk b2 24 [.slice none 0 0], .blk b3 24 [.slice A6_0_worth m2.length c6_0_worth]] := H.tabSet 1 0 (by decide) rfl rfl (lt_of_at hx2) M2 O2
        replace R0 := H.ext
        replace hz := Nat.le_trans hz M2.size
        refine DW.nil (hK12 _ _ ?_)
        obtain ⟨hg4, F⟩ := gd_some F
        refine CW.region ?_
        refine LW.pure rfl rfl (RV.move rfl) ?_
        refine LW.pure rfl rfl (RV.add rfl rfl hg4) ?_
        refine LW.pure rfl rfl (RV.assign rfl) ?_
        refine LW.nil ?_
        replace H := H.cast (L' := [.tab A6_0_worth c6_0_worth 25 ((hsm2.set (Int.toNat t7_1) (A2, c2))) 3 1 (encM encN ((m2.set (Int.toNat t7_1) ((([] : List Int) ++ x1))))), .blk b1 24 [.slice A_a0_worth a0.worth.length c_a0_worth], .blk b2 24 [.slice none 0 0], .blk b3 24 [.slice A6_0_worth (((m2.set (Int.toNat t7_1) ((([] : List Int) ++ x1)))).length) c6_0_worth]]) (by first | rfl | (simp only [List.length_set]; done) | simp)
        subst hrec1
        refine ⟨mk1, Nat.lt_succ_self _, _, ?_, (t7_1 + 1), ((m2.set (Int.toNat t7_1) ((([] : List Int) ++ x1)))), ((hsm2.set (Int.toNat t7_1) (A2, c2))), F, rfl, H⟩
        exact ⟨rfl, rfl, rfl, rfl, rfl, rfl, trivial⟩
      ·
        replace F := ite_n hp2 F
        have hq2 := dec_f hp2
        refine CW.condF rfl hq2 ?_
        replace H := H.pick (L' := [.tab A6_0_worth c6_0_worth 25 hsm2 3 1 (encM encN m2), .blk b2 24 [.slice none 0 0], .blk b3 24 [.slice A6_0_worth m2.length c6_0_worth]]) [0, 2, 3] (by decide) rfl
        replace R0 := H.ext
        refine CW.exit (jK47 _ _ ⟨_, ?_, ⟨m2, hsm2, F, rfl, H⟩⟩)
        exact ⟨rfl, rfl, rfl, trivial⟩
  ·
    replace F := ite_n hp1 F
    have hq1 := dec_f hp1
    refine CW.condT rfl (not_t hq1) ?_
    refine CW.seq fun K13 hK13 => ?_
    refine CW.region ?_
    refine LW.pure rfl rfl (RV.build (vs := []) (cs := [.slice none 0 0]) rfl (fun _ => by kernel_rfl)) ?_
    refine LW.pure rfl rfl (RV.move rfl) ?_
    refine LW.go rfl rfl (OW.store Tk24 rfl rfl (H.blk 0 rfl) (off := 0) (vs := [.slice none 0 0]) rfl rfl rfl rfl rfl fun w12 S3 => ?_)
    replace H : Hp w w12 [.blk b2 24 [.slice none 0 0], .blk b1 24 [.slice A_a0_worth a0.worth.length c_a0_worth]] := H.stored 0 rfl S3
    replace R0 := H.ext
    refine LW.pure rfl rfl (RV.assign rfl) ?_
    refine LW.nil (hK13 _ _ ?_)
    refine CW.ret ?_
    obtain rfl := Option.some.inj F
    refine ⟨_, (ResOK.two ⟨_, rfl, run_loadVar_agg Tk24 (H.blk 0 rfl).cells (us := [.slice none 0 0]) rfl rfl⟩ rfl), ?_⟩
    replace H := H.nilTab encN 25 3 1
    replace R0 := H.ext
    replace H := H.pick (L' := [.tab none 0 25 ([]) 3 1 (encM encN (([] : List (List Int))))]) [0] (by decide) rfl
    replace R0 := H.ext
    exact ⟨none, 0, ([]), (by first | rfl | (simp; done) | (simp; omega)), H⟩
set_option maxRecDepth 20000 in
set_option maxHeartbeats 1000000 in
theorem law04_CutMirrors_ok {a0 : Bog} {a1 : List Int} {A_a0_worth : Option Addr} {c_a0_worth : Nat} {A_a1 : Option Addr} {c_a1 : Nat} {w : World} {res : Bool} (h_a0_worth : Sl2 w A_a0_worth c_a0_worth 1 encN a0.worth) (h_a1 : Sl w A_a1 c_a1 1 (a1.map encN)) (F : law04_CutMirrors a0 a1 = some res) : Calls Try.prog 9 #[.agg #[.slice A_a0_worth a0.worth.length c_a0_worth], .slice A_a1 a1.length c_a1] w (Rt w (.bool res)) := by
  refine calls_of_cw (args := [.agg #[.slice A_a0_worth a0.worth.length c_a0_worth], .slice A_a1 a1.length c_a1]) Try.func9 rfl rfl rfl rfl ?_
  have H := Hp.start w
  have R0 := H.ext
  unfold law04_CutMirrors at F
  refine CW.seq fun K1 hK1 => ?_
  refine CW.region ?_
  refine LW.go rfl rfl (OW.box rfl fun b1 w1 N1 => ?_)
  replace H := H.new N1 N1.blk
  replace R0 := H.ext
  refine LW.pure rfl rfl (RV.assign rfl) ?_
  refine LW.nil (hK1 _ _ ?_)
  refine CW.seq fun K2 hK2 => ?_
  refine CW.seq fun K3 hK3 => ?_
  obtain ⟨r7, hr7, F⟩ := bnd_some F
  refine CW.region ?_
  refine LW.pure rfl rfl (RV.loadA [.slice A_a0_worth a0.worth.length c_a0_worth] Tk24 rfl (H.blk 0 rfl).cells rfl rfl) ?_
  refine LW.pure rfl rfl (RV.move rfl) ?_
  refine LW.go rfl rfl (OW.buildSlice (e := 25) (vs := [.slice A_a1 a1.length c_a1]) (cs := [.slice A_a1 a1.length c_a1]) rfl (fun _ => by kernel_rfl) fun b2 w2 N2 => ?_)
  replace H := H.made' (k := 1) (t := 25) (enc := encH) (l := ([((A_a1, c_a1), a1)] : List ((Option Addr × Nat) × List Int))) N2 (by have q := N2.blk; simp only [List.flatMap_cons, List.flatMap_nil, encH, List.length_nil, List.append_nil, List.cons_append, List.nil_append]; first | done | exact q) (fun _ => rfl) rfl (by first | decide | omega | (simp; done) | (simp; omega))
  replace R0 := H.ext
  have hS23 : Sl2 w2 (some ⟨b2, 0, none⟩) 1 1 encN [a1] := Sl2.one (H.own 0 rfl).sl (h_a1.ext R0)
  refine LW.go rfl rfl (OW.call Tc17 (evs_cast rfl (by first | rfl | (simp; done) | (simp; omega))) (law04_Long_ok (a0 := a0) (a1 := ([a1] : List (List Int))) (h_a0_worth.ext R0) hS23 hr7) ?_)
  rintro _ w3 ⟨rfl, E1⟩
  refine ⟨_, rfl, ?_⟩
  have hS23 := hS23.ext E1
  replace H := H.grow E1
  replace R0 := H.ext
  refine LW.nil (hK3 _ _ ?_)
  by_cases hp1 : r7 = true
  ·
    replace F := ite_y hp1 F
    have hq1 : r7 = true := hp1
    refine CW.condT rfl hq1 ?_
    refine CW.seq fun K4 hK4 => ?_
    obtain ⟨r8, hr8, F⟩ := bnd_some F
    refine CW.region ?_
    refine LW.go rfl rfl (OW.call Tc18 rfl (law04_sane_ok hr8) ?_)
    rintro _ w4 ⟨rfl, E2⟩
    refine ⟨_, rfl, ?_⟩
    have hS23 := hS23.ext E2
    replace H := H.grow E2
    replace R0 := H.ext
    refine LW.pure rfl rfl (RV.assign rfl) ?_
    refine LW.nil (hK4 _ _ ?_)
    refine CW.ret ?_
    obtain rfl := Option.some.inj F
    refine ⟨_, (ResOK.one rfl), ?_⟩
    refine ⟨(by first | rfl | simp), R0⟩
  ·
    replace F := ite_n hp1 F
    have hq1 : r7 = false := raw_f hp1
    refine CW.condF rfl hq1 ?_
    refine CW.skip (hK2 _ _ ?_)
    refine CW.seq fun K5 hK5 => ?_
    obtain ⟨r1, hr1, F⟩ := bnd_some F
    refine CW.region ?_
    refine LW.pure rfl rfl (RV.loadA [.slice A_a0_worth a0.worth.length c_a0_worth] Tk24 rfl (H.blk 1 rfl).cells rfl rfl) ?_
    refine LW.go rfl rfl (OW.call Tc43 rfl (ref04_Copy_ok (a0 := a0) (h_a0_worth.ext R0) hr1) ?_)
    rintro _ w5 ⟨A17_0_worth, c17_0_worth, hs17_0_worth, rfl, E3⟩
    refine ⟨_, rfl, ?_⟩
    have hS23 := hS23.ext E3.ext
    replace H : Hp w w5 [.tab A17_0_worth c17_0_worth 25 hs17_0_worth 3 1 (encM encN r1.worth), .own (some ⟨b2, 0, none⟩) ((([((A_a1, c_a1), a1)] : List ((Option Addr × Nat) × List Int))).length) 25 1 (List.map encH (([((A_a1, c_a1), a1)] : List ((Option Addr × Nat) × List Int)))), .blk b1 24 [.slice A_a0_worth a0.worth.length c_a0_worth]] := H.append E3
    replace R0 := H.ext
    refine LW.go rfl rfl (OW.alloc Tz24 fun b3 w6 N3 => ?_)
    have hS23 := hS23.ext N3.ext
    replace H := H.new N3 N3.blk
    replace R0 := H.ext
    refine LW.go rfl rfl (OW.store Tk24 rfl rfl (H.blk 0 rfl) (off := 0) (vs := [.slice A17_0_worth r1.worth.length c17_0_worth]) rfl rfl rfl rfl rfl fun w7 S1 => ?_)
    replace H : Hp w w7 [.blk b3 24 [.slice A17_0_worth r1.worth.length c17_0_worth], .tab A17_0_worth c17_0_worth 25 hs17_0_worth 3 1 (encM encN r1.worth), .own (some ⟨b2, 0, none⟩) ((([((A_a1, c_a1), a1)] : List ((Option Addr × Nat) × List Int))).length) 25 1 (List.map encH (([((A_a1, c_a1), a1)] : List ((Option Addr × Nat) × List Int)))), .blk b1 24 [.slice A_a0_worth a0.worth.length c_a0_worth]] := H.stored 0 rfl S1
    replace R0 := H.ext
    refine LW.nil (hK5 _ _ ?_)
    refine CW.seq fun K6 hK6 => ?_
    obtain ⟨r4, hr4, F⟩ := bnd_some F
    refine CW.region ?_
    refine LW.pure rfl rfl (RV.loadA [.slice A17_0_worth r1.worth.length c17_0_worth] Tk24 rfl (H.blk 0 rfl).cells rfl rfl) ?_
    refine LW.go rfl rfl (OW.call Tc44 rfl (cut_Mirror_ok (a0 := r1) (H.tab 1 rfl).sl2 hr4) ?_)
    rintro _ w8 ⟨A19_0_worth, c19_0_worth, hs19_0_worth, rfl, E4⟩
    refine ⟨_, rfl, ?_⟩
    replace H : Hp w w8 [.tab A19_0_worth c19_0_worth 25 hs19_0_worth 3 1 (encM encN r4.1.worth), .blk b3 24 [.slice A17_0_worth r1.worth.length c17_0_worth], .tab A17_0_worth c17_0_worth 25 hs17_0_worth 3 1 (encM encN r1.worth), .own (some ⟨b2, 0, none⟩) ((([((A_a1, c_a1), a1)] : List ((Option Addr × Nat) × List Int))).length) 25 1 (List.map encH (([((A_a1, c_a1), a1)] : List ((Option Addr × Nat) × List Int)))), .blk b1 24 [.slice A_a0_worth a0.worth.length c_a0_worth]] := H.append E4
    replace R0 := H.ext
    refine LW.pure rfl rfl (RV.move rfl) ?_
    refine LW.pure rfl rfl (RV.extract rfl rfl) ?_
    refine LW.pure rfl rfl (RV.extract rfl rfl) ?_
    refine LW.go rfl rfl (OW.alloc Tz24 fun b4 w9 N4 => ?_)
    replace H := H.new N4 N4.blk
    replace R0 := H.ext
    refine LW.go rfl rfl (OW.store Tk24 rfl rfl (H.blk 0 rfl) (off := 0) (vs := [.slice A19_0_worth r4.1.worth.length c19_0_worth]) rfl rfl rfl rfl rfl fun w10 S2 => ?_)
    replace H : Hp w w10 [.blk b4 24 [.slice A19_0_worth r4.1.worth.length c19_0_worth], .tab A19_0_worth c19_0_worth 25 hs19_0_worth 3 1 (encM encN r4.1.worth), .blk b3 24 [.slice A17_0_worth r1.worth.length c17_0_worth], .tab A17_0_worth c17_0_worth 25 hs17_0_worth 3 1 (encM encN r1.worth), .own (some ⟨b2, 0, none⟩) ((([((A_a1, c_a1), a1)] : List ((Option Addr × Nat) × List Int))).length) 25 1 (List.map encH (([((A_a1, c_a1), a1)] : List ((Option Addr × Nat) × List Int)))), .blk b1 24 [.slice A_a0_worth a0.worth.length c_a0_worth]] := H.stored 0 rfl S2
    replace R0 := H.ext
    refine LW.pure rfl rfl (RV.assign rfl) ?_
    refine LW.nil (hK6 _ _ ?_)
    refine CW.seq fun K7 hK7 => ?_
    obtain ⟨r9, hr9, F⟩ := bnd_some F
    refine CW.region ?_
    refine LW.pure rfl rfl (RV.loadA [.slice A_a0_worth a0.worth.length c_a0_worth] Tk24 rfl (H.blk 5 rfl).cells rfl rfl) ?_
    refine LW.go rfl rfl (OW.call Tc45 rfl (ref04_Mirror_ok (a0 := a0) (h_a0_worth.ext R0) hr9) ?_)
    rintro _ w11 ⟨A21_0_worth, c21_0_worth, hs21_0_worth, rfl, E5⟩
    refine ⟨_, rfl, ?_⟩
    replace H : Hp w w11 [.tab A21_0_worth c21_0_worth 25 hs21_0_worth 3 1 (encM encN r9.1.worth), .blk b4 24 [.slice A19_0_worth r4.1.worth.length c19_0_worth], .tab A19_0_worth c19_0_worth 25 hs19_0_worth 3 1 (encM encN r4.1.worth), .blk b3 24 [.slice A17_0_worth r1.worth.length c17_0_worth], .tab A17_0_worth c17_0_worth 25 hs17_0_worth 3 1 (encM encN r1.worth), .own (some ⟨b2, 0, none⟩) ((([((A_a1, c_a1), a1)] : List ((Option Addr × Nat) × List Int))).length) 25 1 (List.map encH (([((A_a1, c_a1), a1)] : List ((Option Addr × Nat) × List Int)))), .blk b1 24 [.slice A_a0_worth a0.worth.length c_a0_worth]] := H.append E5
    replace R0 := H.ext
    refine LW.pure rfl rfl (RV.move rfl) ?_
    refine LW.pure rfl rfl (RV.extract rfl rfl) ?_
    refine LW.pure rfl rfl (RV.extract rfl rfl) ?_
    refine LW.go rfl rfl (OW.alloc Tz24 fun b5 w12 N5 => ?_)
    replace H := H.new N5 N5.blk
    replace R0 := H.ext
    refine LW.go rfl rfl (OW.store Tk24 rfl rfl (H.blk 0 rfl) (off := 0) (vs := [.slice A21_0_worth r9.1.worth.length c21_0_worth]) rfl rfl rfl rfl rfl fun w13 S3 => ?_)
    replace H : Hp w w13 [.blk b5 24 [.slice A21_0_worth r9.1.worth.length c21_0_worth], .tab A21_0_worth c21_0_worth 25 hs21_0_worth 3 1 (encM encN r9.1.worth), .blk b4 24 [.slice A19_0_worth r4.1.worth.length c19_0_worth], .tab A19_0_worth c19_0_worth 25 hs19_0_worth 3 1 (encM encN r4.1.worth), .blk b3 24 [.slice A17_0_worth r1.worth.length c17_0_worth], .tab A17_0_worth c17_0_worth 25 hs17_0_worth 3 1 (encM encN r1.worth), .own (some ⟨b2, 0, none⟩) ((([((A_a1, c_a1), a1)] : List ((Option Addr × Nat) × List Int))).length) 25 1 (List.map encH (([((A_a1, c_a1), a1)] : List ((Option Addr × Nat) × List Int)))), .blk b1 24 [.slice A_a0_worth a0.worth.length c_a0_worth]] := H.stored 0 rfl S3
    replace R0 := H.ext
    refine LW.pure rfl rfl (RV.assign rfl) ?_
    refine LW.nil (hK7 _ _ ?_)
    refine CW.seq fun K8 hK8 => ?_
    refine CW.seqJ (fun ρ wl1 => (∃ (t42_1 : Bool), law04_CutMirrors_k4 a0 a1 r1 r4 t42_1 = some res ∧ ρ = [(1, .slice A_a1 a1.length c_a1), (2, .pointer (some (⟨b1, 0, none⟩))), (4, .bool false), (5, .pointer (some (⟨b3, 0, none⟩))), (6, .pointer (some (⟨b4, 0, none⟩))), (7, .int .i64 r4.2), (42, .bool t42_1)] ∧ Hp w wl1 [.tab A17_0_worth c17_0_worth 25 hs17_0_worth 3 1 (encM encN r1.worth), .tab A19_0_worth c19_0_worth 25 hs19_0_worth 3 1 (encM encN r4.1.worth), .blk b1 24 [.slice A_a0_worth a0.worth.length c_a0_worth], .blk b3 24 [.slice A17_0_worth r1.worth.length c17_0_worth], .blk b4 24 [.slice A19_0_worth r4.1.worth.length c19_0_worth]])) ?_ ?_
    ·
      rintro _ wl1 ⟨t42_1, F, rfl, H⟩
      have R0 := H.ext
      unfold law04_CutMirrors_k4 at F
      by_cases hp2 : t42_1 = true
      ·
        replace F := ite_y hp2 F
        have hq2 : t42_1 = true := hp2
        refine CW.condT rfl hq2 ?_
        refine CW.seq fun K9 hK9 => ?_
        refine CW.region ?_
        refine LW.pure rfl rfl (RV.assign rfl) ?_
        refine LW.nil (hK9 _ _ ?_)
        refine CW.ret ?_
        obtain rfl := Option.some.inj F
        refine ⟨_, (ResOK.one rfl), ?_⟩
        refine ⟨(by first | rfl | simp), R0⟩
      ·
        replace F := ite_n hp2 F
        have hq2 : t42_1 = false := raw_f hp2
        refine CW.condF rfl hq2 ?_
        refine CW.skip (hK8 _ _ ?_)
        refine CW.seq fun K10 hK10 => ?_
        obtain ⟨r5, hr5, F⟩ := bnd_some F
        refine CW.region ?_
        refine LW.pure rfl rfl (RV.loadA [.slice A_a0_worth a0.worth.length c_a0_worth] Tk24 rfl (H.blk 2 rfl).cells rfl rfl) ?_
        refine LW.pure rfl rfl (RV.move rfl) ?_
        refine LW.go rfl rfl (OW.call Tc23 rfl (cut_Worth_ok (a0 := a0) (a1 := a1) (h_a0_worth.ext R0) (h_a1.ext R0) hr5) ?_)
        rintro _ w14 ⟨rfl, E6⟩
        refine ⟨_, rfl, ?_⟩
        replace H := H.grow E6
        replace R0 := H.ext
        refine LW.pure rfl rfl (RV.move rfl) ?_
        refine LW.pure rfl rfl (RV.extract rfl rfl) ?_
        refine LW.pure rfl rfl (RV.extract rfl rfl) ?_
        refine LW.pure rfl rfl (RV.assign rfl) ?_
        refine LW.pure rfl rfl (RV.assign rfl) ?_
        refine LW.nil (hK10 _ _ ?_)
        refine CW.seq fun K11 hK11 => ?_
        refine CW.region ?_
        refine LW.pure rfl rfl (RV.assign rfl) ?_
        refine LW.nil (hK11 _ _ ?_)
        refine CW.seqJ (fun ρ wl2 => (∃ (l1 : List Int) (Al1 : Option Addr) (cl1 : Nat), law04_CutMirrors_k3 a0 r1 r4 r5 l1 = some res ∧ ρ = [(2, .pointer (some (⟨b1, 0, none⟩))), (4, .bool false), (5, .pointer (some (⟨b3, 0, none⟩))), (6, .pointer (some (⟨b4, 0, none⟩))), (7, .int .i64 r4.2), (10, .int .i64 r5.1), (11, .int .i64 r5.2), (12, .slice Al1 l1.length cl1)] ∧ Hp w wl2 [.own Al1 cl1 3 1 (List.map encN l1), .tab A17_0_worth c17_0_worth 25 hs17_0_worth 3 1 (encM encN r1.worth), .tab A19_0_worth c19_0_worth 25 hs19_0_worth 3 1 (encM encN r4.1.worth), .blk b1 24 [.slice A_a0_worth a0.worth.length c_a0_worth], .blk b3 24 [.slice A17_0_worth r1.worth.length c17_0_worth], .blk b4 24 [.slice A19_0_worth r4.1.worth.length c19_0_worth]])) ?_ ?_
        ·
          rintro _ wl2 ⟨l1, Al1, cl1, F, rfl, H⟩
          have R0 := H.ext
          unfold law04_CutMirrors_k3 at F
          refine CW.seq fun K12 hK12 => ?_
          obtain ⟨r6, hr6, F⟩ := bnd_some F
          refine CW.region ?_
          refine LW.pure rfl rfl (RV.loadA [.slice A19_0_worth r4.1.worth.length c19_0_worth] Tk24 rfl (H.blk 5 rfl).cells rfl rfl) ?_
          refine LW.pure rfl rfl (RV.move rfl) ?_
          refine LW.go rfl rfl (OW.call Tc23 rfl (cut_Worth_ok (a0 := r4.1) (a1 := l1) (H.tab 2 rfl).sl2 (H.own 0 rfl).sl hr6) ?_)
          rintro _ w15 ⟨rfl, E7⟩
          refine ⟨_, rfl, ?_⟩
          replace H := H.grow E7
          replace R0 := H.ext
          refine LW.pure rfl rfl (RV.move rfl) ?_
          refine LW.pure rfl rfl (RV.extract rfl rfl) ?_
          refine LW.pure rfl rfl (RV.extract rfl rfl) ?_
          refine LW.pure rfl rfl (RV.assign rfl) ?_
          refine LW.pure rfl rfl (RV.assign rfl) ?_
          refine LW.nil (hK12 _ _ ?_)
          refine CW.seq fun K13 hK13 => ?_
          refine CW.seqJ (fun ρ wl3 => (∃ (t80_1 : Bool), law04_CutMirrors_k2 a0 r1 r4 t80_1 = some res ∧ ρ = [(2, .pointer (some (⟨b1, 0, none⟩))), (4, .bool false), (5, .pointer (some (⟨b3, 0, none⟩))), (6, .pointer (some (⟨b4, 0, none⟩))), (80, .bool t80_1)] ∧ Hp w wl3 [.tab A17_0_worth c17_0_worth 25 hs17_0_worth 3 1 (encM encN r1.worth), .tab A19_0_worth c19_0_worth 25 hs19_0_worth 3 1 (encM encN r4.1.worth), .blk b1 24 [.slice A_a0_worth a0.worth.length c_a0_worth], .blk b3 24 [.slice A17_0_worth r1.worth.length c17_0_worth], .blk b4 24 [.slice A19_0_worth r4.1.worth.length c19_0_worth]])) ?_ ?_
          ·
            rintro _ wl3 ⟨t80_1, F, rfl, H⟩
            have R0 := H.ext
            unfold law04_CutMirrors_k2 at F
            by_cases hp3 : t80_1 = true
            ·
              replace F := ite_y hp3 F
              have hq3 : t80_1 = true := hp3
              refine CW.condT rfl hq3 ?_
              refine CW.seq fun K14 hK14 => ?_
              refine CW.region ?_
              refine LW.pure rfl rfl (RV.assign rfl) ?_
              refine LW.nil (hK14 _ _ ?_)
              refine CW.ret ?_
              obtain rfl := Option.some.inj F
              refine ⟨_, (ResOK.one rfl), ?_⟩
              refine ⟨(by first | rfl | simp), R0⟩
            ·
              replace F := ite_n hp3 F
              have hq3 : t80_1 = false := raw_f hp3
              refine CW.condF rfl hq3 ?_
              refine CW.skip (hK13 _ _ ?_)
              refine CW.seqJ (fun ρ wl4 => (law04_CutMirrors_k1 a0 r1 = some res ∧ ρ = [(2, .pointer (some (⟨b1, 0, none⟩))), (4, .bool false), (5, .pointer (some (⟨b3, 0, none⟩)))] ∧ Hp w wl4 [.tab A17_0_worth c17_0_worth 25 hs17_0_worth 3 1 (encM encN r1.worth), .blk b1 24 [.slice A_a0_worth a0.worth.length c_a0_worth], .blk b3 24 [.slice A17_0_worth r1.worth.length c17_0_worth]])) ?_ ?_
              ·
                rintro _ wl4 ⟨F, rfl, H⟩
                have R0 := H.ext
                unfold law04_CutMirrors_k1 at F
                refine CW.seq fun K15 hK15 => ?_
                obtain ⟨r2, hr2, F⟩ := bnd_some F
                by_cases hp4 : r2 = true
                ·
                  replace F := ite_y hp4 F
                  have hq4 : r2 = true := hp4
                  obtain ⟨r3, hr3, F⟩ := bnd_some F
                  refine CW.region ?_
                  refine LW.pure rfl rfl (RV.loadA [.slice A17_0_worth r1.worth.length c17_0_worth] Tk24 rfl (H.blk 2 rfl).cells rfl rfl) ?_
                  refine LW.pure rfl rfl (RV.loadA [.slice A_a0_worth a0.worth.length c_a0_worth] Tk24 rfl (H.blk 1 rfl).cells rfl rfl) ?_
                  refine LW.go rfl rfl (OW.call Tc46 rfl (ref04_Same_ok (a0 := r1) (a1 := a0) (H.tab 0 rfl).sl2 (h_a0_worth.ext R0) hr2) ?_)
                  rintro _ w16 ⟨rfl, E8⟩
                  refine ⟨_, rfl, ?_⟩
                  replace H := H.grow E8
                  replace R0 := H.ext
                  refine LW.pure rfl rfl (RV.move rfl) ?_
                  refine LW.yesB rfl rfl rfl rfl hq4 (OW.call Tc18 rfl (law04_sane_ok hr3) ?_)
                  rintro _ w17 ⟨rfl, E9⟩
                  refine ⟨_, rfl, ?_⟩
                  replace H := H.grow E9
                  replace R0 := H.ext
                  refine LW.pure rfl rfl (RV.pickTB rfl hq4 rfl) ?_
                  refine LW.pure rfl rfl (RV.assign rfl) ?_
                  refine LW.nil (hK15 _ _ ?_)
                  refine CW.ret ?_
                  obtain rfl := Option.some.inj F
                  refine ⟨_, (ResOK.one rfl), ?_⟩
                  refine ⟨(by first | rfl | simp), R0⟩
                ·
                  replace F := ite_n hp4 F
                  have hq4 : r2 = false := raw_f hp4
                  refine CW.region ?_
                  refine LW.pure rfl rfl (RV.loadA [.slice A17_0_worth r1.worth.length c17_0_worth] Tk24 rfl (H.blk 2 rfl).cells rfl rfl) ?_
                  refine LW.pure rfl rfl (RV.loadA [.slice A_a0_worth a0.worth.length c_a0_worth] Tk24 rfl (H.blk 1 rfl).cells rfl rfl) ?_
                  refine LW.go rfl rfl (OW.call Tc46 rfl (ref04_Same_ok (a0 := r1) (a1 := a0) (H.tab 0 rfl).sl2 (h_a0_worth.ext R0) hr2) ?_)
                  rintro _ w18 ⟨rfl, E10⟩
                  refine ⟨_, rfl, ?_⟩
                  replace H := H.grow E10
                  replace R0 := H.ext
                  refine LW.pure rfl rfl (RV.move rfl) ?_
                  refine LW.noB rfl rfl rfl rfl (ne_beq (v := false) hq4 rfl) ?_
                  refine LW.pure rfl rfl (RV.pickFB rfl hq4 rfl) ?_
                  refine LW.pure rfl rfl (RV.assign rfl) ?_
                  refine LW.nil (hK15 _ _ ?_)
                  refine CW.ret ?_
                  obtain rfl := Option.some.inj F
                  refine ⟨_, (ResOK.one rfl), ?_⟩
                  refine ⟨(by first | rfl | simp), R0⟩
              ·
                intro K16 hK16 jK95
                refine CW.seq fun K17 hK17 => ?_
                refine CW.region ?_
                refine LW.pure rfl rfl (RV.assign rfl) ?_
                refine LW.nil (hK17 _ _ ?_)
                refine CW.block ?_
                refine CW.loop (fun meas ρ wl5 => ∃ (t16_1 : Int) (m1 : List (List Int)), law04_CutMirrors_L1 a0 r1 meas t16_1 m1 = some res ∧ ρ = [(2, .pointer (some (⟨b1, 0, none⟩))), (4, .bool false), (5, .pointer (some (⟨b3, 0, none⟩))), (6, .pointer (some (⟨b4, 0, none⟩))), (16, .int .i64 t16_1)] ∧ Hp w wl5 [.tab A17_0_worth c17_0_worth 25 hs17_0_worth 3 1 (encM encN r1.worth), .tab A19_0_worth c19_0_worth 25 hs19_0_worth 3 1 (encM encN m1), .blk b1 24 [.slice A_a0_worth a0.worth.length c_a0_worth], .blk b3 24 [.slice A17_0_worth r1.worth.length c17_0_worth], .blk b4 24 [.slice A19_0_worth m1.length c19_0_worth]]) FU ⟨_, ?_, ((0 : Int)), r4.1.worth, F, rfl, H⟩ ?_
                · exact ⟨rfl, rfl, rfl, rfl, rfl, trivial⟩
                rintro mk1 _ wl5 ⟨t16_1, m1, F, rfl, H⟩
                have R0 := H.ext
                replace F := law04_CutMirrors_L1_s F
                obtain ⟨mk1, rfl, F⟩ := F
                generalize hrec1 : law04_CutMirrors_L1 a0 r1 mk1 = rec1 at F
                unfold law04_CutMirrors_B1 at F
                refine CW.seq fun K18 hK18 => ?_
                refine CW.seq fun K19 hK19 => ?_
                refine CW.region ?_
                refine LW.pure rfl rfl (RV.move rfl) ?_
                refine LW.pure rfl rfl (RV.fieldAddr Tf24_0 rfl) ?_
                refine LW.pure rfl rfl (RV.load1 Tk22 rfl ((H.blk 4 rfl).cells.off 0) rfl) ?_
                refine LW.pure rfl rfl (RV.len Ts22 rfl) ?_
                refine LW.pure rfl rfl (RV.lss rfl rfl) ?_
                refine LW.nil (hK19 _ _ ?_)
                by_cases hp5 : t16_1 < ((m1.length : Int))
                ·
                  replace F := ite_y hp5 F
                  have hq5 := dec_t hp5
                  refine CW.condT rfl hq5 ?_
                  refine CW.skip (hK18 _ _ ?_)
                  refine CW.seq fun K20 hK20 => ?_
                  refine CW.block ?_
                  obtain ⟨x1, hbx1, hx1, F⟩ := ix_some F
                  obtain ⟨x2, hbx2, hx2, F⟩ := ix_some F
                  refine CW.region ?_
                  refine LW.pure rfl rfl (RV.fieldAddr Tf24_0 rfl) ?_
                  refine LW.pure rfl rfl (RV.load1 Tk22 rfl ((H.blk 4 rfl).cells.off 0) rfl) ?_
                  refine LW.pure rfl rfl (RV.move rfl) ?_
                  obtain ⟨B1, e1, hh1⟩ := (H.tab 1 rfl).hd hx1
                  refine LW.pure rfl rfl (RV.indexAddr Ts22 rfl rfl hbx1 ((H.tab 1 rfl).addr_ hx1)) ?_
                  refine LW.pure rfl rfl (RV.load1 Tk25 rfl ((H.tab 1 rfl).cell hx1 hh1) rfl) ?_
                  refine LW.pure rfl rfl (RV.indexAddr Ts25 rfl rfl hbx2 (((H.tab 1 rfl).rowO hx1 hh1).sl.addr_ hx2)) ?_
                  refine LW.go rfl rfl (OW.storeO (enc := encN) (vs := [.int .i64 99]) 0 (99) Tk3 rfl rfl ((H.tab 1 rfl).rowO hx1 hh1) (fun _ => rfl) rfl hx2 rfl rfl (by decide) rfl rfl fun w19 M1 O1 => ?_)
                  replace H : Hp w w19 [.tab A17_0_worth c17_0_worth 25 hs17_0_worth 3 1 (encM encN r1.worth), .tab A19_0_worth c19_0_worth 25 hs19_0_worth 3 1 (encM encN ((m1.set (Int.toNat t16_1) (x1.set (Int.toNat 0) 99)))), .blk b1 24 [.slice A_a0_worth a0.worth.length c_a0_worth], .blk b3 24 [.slice A17_0_worth r1.worth.length c17_0_worth], .blk b4 24 [.slice A19_0_worth m1.length c19_0_worth]] := H.tabRow 1 rfl hh1 hx1 (by simp) M1 O1
                  replace R0 := H.ext
                  have hrw1 : ((m1.set (Int.toNat t16_1) (x1.set (Int.toNat 0) 99)))[Int.toNat t16_1]? = some (x1.set (Int.toNat 0) 99) := List.getElem?_set_self (lt_of_at hx1)
                  refine LW.nil (hK20 _ _ ?_)
                  obtain ⟨hg1, F⟩ := gd_some F
                  refine CW.region ?_
                  refine LW.pure rfl rfl (RV.move rfl) ?_
                  refine LW.pure rfl rfl (RV.add rfl rfl hg1) ?_
                  refine LW.pure rfl rfl (RV.assign rfl) ?_
                  refine LW.nil ?_
                  replace H := H.cast (L' := [.tab A17_0_worth c17_0_worth 25 hs17_0_worth 3 1 (encM encN r1.worth), .tab A19_0_worth c19_0_worth 25 hs19_0_worth 3 1 (encM encN ((m1.set (Int.toNat t16_1) (x1.set (Int.toNat 0) 99)))), .blk b1 24 [.slice A_a0_worth a0.worth.length c_a0_worth], .blk b3 24 [.slice A17_0_worth r1.worth.length c17_0_worth], .blk b4 24 [.slice A19_0_worth (((m1.set (Int.toNat t16_1) (x1.set (Int.toNat 0) 99))).length) c19_0_worth]]) (by first | rfl | (simp only [List.length_set]; done) | simp)
                  subst hrec1
                  refine ⟨mk1, Nat.lt_succ_self _, _, ?_, (t16_1 + 1), ((m1.set (Int.toNat t16_1) (x1.set (Int.toNat 0) 99))), F, rfl, H⟩
                  exact ⟨rfl, rfl, rfl, rfl, rfl, trivial⟩
                ·
                  replace F := ite_n hp5 F
                  have hq5 := dec_f hp5
                  refine CW.condF rfl hq5 ?_
                  replace H := H.pick (L' := [.tab A17_0_worth c17_0_worth 25 hs17_0_worth 3 1 (encM encN r1.worth), .blk b1 24 [.slice A_a0_worth a0.worth.length c_a0_worth], .blk b3 24 [.slice A17_0_worth r1.worth.length c17_0_worth]]) [0, 2, 3] (by decide) rfl
                  replace R0 := H.ext
                  refine CW.exit (jK95 _ _ ⟨_, ?_, ⟨F, rfl, H⟩⟩)
                  exact ⟨rfl, rfl, rfl, trivial⟩
          ·
            intro K21 hK21 jK106
            by_cases hp6 : r4.2 = 0
            ·
              replace F := ite_y hp6 F
              have hq6 := dec_t hp6
              by_cases hp7 : r5.1 = r6.1
              ·
                replace F := ite_y hp7 F
                have hq7 := dec_t hp7
                refine CW.region ?_
                refine LW.pure rfl rfl (RV.move rfl) ?_
                refine LW.pure rfl rfl (RV.eqi rfl rfl) ?_
                refine LW.pure rfl rfl (RV.move rfl) ?_
                refine LW.pureYB rfl rfl rfl rfl hq6 (RV.move rfl) ?_
                refine LW.pureYB rfl rfl rfl rfl hq6 (RV.move rfl) ?_
                refine LW.pureYB rfl rfl rfl rfl hq6 (RV.nei rfl rfl) ?_
                refine LW.pureYB rfl rfl rfl rfl hq6 (RV.move rfl) ?_
                refine LW.pureYB rfl rfl rfl rfl (not_f hq7) (RV.move rfl) ?_
                refine LW.pureYB rfl rfl rfl rfl (not_f hq7) (RV.move rfl) ?_
                refine LW.pureYB rfl rfl rfl rfl (not_f hq7) (RV.nei rfl rfl) ?_
                refine LW.pureYB rfl rfl rfl rfl hq6 (RV.pickFB rfl (not_f hq7) rfl) ?_
                refine LW.pure rfl rfl (RV.pickTB rfl hq6 rfl) ?_
                replace H := H.pick (L' := [.tab A17_0_worth c17_0_worth 25 hs17_0_worth 3 1 (encM encN r1.worth), .tab A19_0_worth c19_0_worth 25 hs19_0_worth 3 1 (encM encN r4.1.worth), .blk b1 24 [.slice A_a0_worth a0.worth.length c_a0_worth], .blk b3 24 [.slice A17_0_worth r1.worth.length c17_0_worth], .blk b4 24 [.slice A19_0_worth r4.1.worth.length c19_0_worth]]) [1, 2, 3, 4, 5] (by decide) rfl
                replace R0 := H.ext
                refine LW.nil (jK106 _ _ ⟨_, ?_, ⟨(!(decide (r5.2 = r6.2))), F, rfl, H⟩⟩)
                exact ⟨rfl, rfl, rfl, rfl, rfl, trivial⟩
              ·
                replace F := ite_n hp7 F
                have hq7 := dec_f hp7
                refine CW.region ?_
                refine LW.pure rfl rfl (RV.move rfl) ?_
                refine LW.pure rfl rfl (RV.eqi rfl rfl) ?_
                refine LW.pure rfl rfl (RV.move rfl) ?_
                refine LW.pureYB rfl rfl rfl rfl hq6 (RV.move rfl) ?_
                refine LW.pureYB rfl rfl rfl rfl hq6 (RV.move rfl) ?_
                refine LW.pureYB rfl rfl rfl rfl hq6 (RV.nei rfl rfl) ?_
                refine LW.pureYB rfl rfl rfl rfl hq6 (RV.move rfl) ?_
                refine LW.noB rfl rfl rfl rfl (ne_beq (v := true) (not_t hq7) rfl) ?_
                refine LW.noB rfl rfl rfl rfl (ne_beq (v := true) (not_t hq7) rfl) ?_
                refine LW.noB rfl rfl rfl rfl (ne_beq (v := true) (not_t hq7) rfl) ?_
                refine LW.pureYB rfl rfl rfl rfl hq6 (RV.pickTB rfl (not_t hq7) rfl) ?_
                refine LW.pure rfl rfl (RV.pickTB rfl hq6 rfl) ?_
                replace H := H.pick (L' := [.tab A17_0_worth c17_0_worth 25 hs17_0_worth 3 1 (encM encN r1.worth), .tab A19_0_worth c19_0_worth 25 hs19_0_worth 3 1 (encM encN r4.1.worth), .blk b1 24 [.slice A_a0_worth a0.worth.length c_a0_worth], .blk b3 24 [.slice A17_0_worth r1.worth.length c17_0_worth], .blk b4 24 [.slice A19_0_worth r4.1.worth.length c19_0_worth]]) [1, 2, 3, 4, 5] (by decide) rfl
                replace R0 := H.ext
                refine LW.nil (jK106 _ _ ⟨_, ?_, ⟨true, F, rfl, H⟩⟩)
                exact ⟨rfl, rfl, rfl, rfl, rfl, trivial⟩
            ·
              replace F := ite_n hp6 F
              have hq6 := dec_f hp6
              refine CW.region ?_
              refine LW.pure rfl rfl (RV.move rfl) ?_
              refine LW.pure rfl rfl (RV.eqi rfl rfl) ?_
              refine LW.pure rfl rfl (RV.move rfl) ?_
              refine LW.noB rfl rfl rfl rfl (ne_beq (v := false) hq6 rfl) ?_
              refine LW.noB rfl rfl rfl rfl (ne_beq (v := false) hq6 rfl) ?_
              refine LW.noB rfl rfl rfl rfl (ne_beq (v := false) hq6 rfl) ?_
              refine LW.noB rfl rfl rfl rfl (ne_beq (v := false) hq6 rfl) ?_
              refine LW.noU rfl rfl rfl rfl ?_
              refine LW.noU rfl rfl rfl rfl ?_
              refine LW.noU rfl rfl rfl rfl ?_
              refine LW.noB rfl rfl rfl rfl (ne_beq (v := false) hq6 rfl) ?_
              refine LW.pure rfl rfl (RV.pickFB rfl hq6 rfl) ?_
              replace H := H.pick (L' := [.tab A17_0_worth c17_0_worth 25 hs17_0_worth 3 1 (encM encN r1.worth), .tab A19_0_worth c19_0_worth 25 hs19_0_worth 3 1 (encM encN r4.1.worth), .blk b1 24 [.slice A_a0_worth a0.worth.length c_a0_worth], .blk b3 24 [.slice A17_0_worth r1.worth.length c17_0_worth], .blk b4 24 [.slice A19_0_worth r4.1.worth.length c19_0_worth]]) [1, 2, 3, 4, 5] (by decide) rfl
              replace R0 := H.ext
              refine LW.nil (jK106 _ _ ⟨_, ?_, ⟨false, F, rfl, H⟩⟩)
              exact ⟨rfl, rfl, rfl, rfl, rfl, trivial⟩
        ·
          intro K22 hK22 jK107
          refine CW.seq fun K23 hK23 => ?_
          obtain ⟨hg2, F⟩ := gd_some F
          refine CW.region ?_
          refine LW.pure rfl rfl (RV.move rfl) ?_
          refine LW.pure rfl rfl (RV.len Ts25 rfl) ?_
          refine LW.pure rfl rfl (RV.sub rfl rfl hg2) ?_
          refine LW.pure rfl rfl (RV.assign rfl) ?_
          refine LW.nil (hK23 _ _ ?_)
          refine CW.block ?_
          replace H := H.nilOwn 3 1
          replace R0 := H.ext
          refine CW.loop (fun meas ρ wl6 => ∃ (t13_1 : Int) (l2 : List Int) (Al2 : Option Addr) (cl2 : Nat), law04_CutMirrors_L2 a0 a1 r1 r4 r5 meas t13_1 l2 = some res ∧ ρ = [(1, .slice A_a1 a1.length c_a1), (2, .pointer (some (⟨b1, 0, none⟩))), (4, .bool false), (5, .pointer (some (⟨b3, 0, none⟩))), (6, .pointer (some (⟨b4, 0, none⟩))), (7, .int .i64 r4.2), (10, .int .i64 r5.1), (11, .int .i64 r5.2), (12, .slice Al2 l2.length cl2), (13, .int .i64 t13_1)] ∧ Hp w wl6 [.own Al2 cl2 3 1 (List.map encN l2), .tab A17_0_worth c17_0_worth 25 hs17_0_worth 3 1 (encM encN r1.worth), .tab A19_0_worth c19_0_worth 25 hs19_0_worth 3 1 (encM encN r4.1.worth), .blk b1 24 [.slice A_a0_worth a0.worth.length c_a0_worth], .blk b3 24 [.slice A17_0_worth r1.worth.length c17_0_worth], .blk b4 24 [.slice A19_0_worth r4.1.worth.length c19_0_worth]]) FU ⟨_, ?_, (((a1.length : Int)) - 1), (([] : List Int)), none, 0, F, rfl, H⟩ ?_
          · exact ⟨rfl, rfl, rfl, rfl, rfl, rfl, rfl, rfl, (look_slice rfl (by first | rfl | (simp; done) | omega | (simp; omega))), rfl, trivial⟩
          rintro mk2 _ wl6 ⟨t13_1, l2, Al2, cl2, F, rfl, H⟩
          have R0 := H.ext
          replace F := law04_CutMirrors_L2_s F
          obtain ⟨mk2, rfl, F⟩ := F
          generalize hrec2 : law04_CutMirrors_L2 a0 a1 r1 r4 r5 mk2 = rec2 at F
          unfold law04_CutMirrors_B2 at F
          refine CW.seq fun K24 hK24 => ?_
          refine CW.seq fun K25 hK25 => ?_
          refine CW.region ?_
          refine LW.pure rfl rfl (RV.move rfl) ?_
          refine LW.pure rfl rfl (RV.geq rfl rfl) ?_
          refine LW.nil (hK25 _ _ ?_)
          by_cases hp8 : (0 : Int) ≤ t13_1
          ·
            replace F := ite_y hp8 F
            have hq8 := dec_t hp8
            refine CW.condT rfl hq8 ?_
            refine CW.skip (hK24 _ _ ?_)
            refine CW.seq fun K26 hK26 => ?_
            refine CW.block ?_
            obtain ⟨x3, hbx3, hx3, F⟩ := ix_some F
            obtain ⟨hg3, F⟩ := gd_some F
            refine CW.region ?_
            refine LW.pure rfl rfl (RV.move rfl) ?_
            refine LW.pure rfl rfl (RV.move rfl) ?_
            refine LW.pure rfl rfl (RV.move rfl) ?_
            refine LW.pure rfl rfl (RV.indexAddr Ts25 rfl rfl hbx3 (h_a1.addr_ hx3)) ?_
            refine LW.pure rfl rfl (RV.load1 Tk3 rfl ((h_a1.at_ hx3).ext R0) rfl) ?_
            refine LW.go rfl rfl (OW.buildSlice (e := 3) (vs := [.int .i64 x3]) (cs := [.int .i64 x3]) rfl (fun _ => by kernel_rfl) fun b6 w20 N6 => ?_)
            replace H := H.made' (k := 1) (t := 3) (enc := encN) (l := ([x3] : List Int)) N6 N6.blk (fun _ => rfl) rfl (by first | decide | omega | (simp; done) | (simp; omega))
            replace R0 := H.ext
            refine LW.go rfl rfl (OW.appendG (enc := encN) (l := l2) (xs := ([x3] : List Int)) Ts25 rfl (look_slice rfl (by first | rfl | (simp; done) | (simp; omega))) (H.own 1 rfl) (H.own 0 rfl).sl (fun _ => rfl) rfl rfl hg3 (by decide) fun A1 c1 w21 O2 M2 D1 => ?_)
            replace H : Hp w w21 [.own (some ⟨b6, 0, none⟩) ((([x3] : List Int)).length) 3 1 (List.map encN (([x3] : List Int))), .own A1 c1 3 1 (List.map encN ((l2 ++ ([x3] : List Int)))), .tab A17_0_worth c17_0_worth 25 hs17_0_worth 3 1 (encM encN r1.worth), .tab A19_0_worth c19_0_worth 25 hs19_0_worth 3 1 (encM encN r4.1.worth), .blk b1 24 [.slice A_a0_worth a0.worth.length c_a0_worth], .blk b3 24 [.slice A17_0_worth r1.worth.length c17_0_worth], .blk b4 24 [.slice A19_0_worth r4.1.worth.length c19_0_worth]] := H.mod 1 rfl M2 O2 D1
            replace R0 := H.ext
            refine LW.pure rfl rfl (RV.assign rfl) ?_
            refine LW.nil (hK26 _ _ ?_)
            obtain ⟨hg4, F⟩ := gd_some F
            refine CW.region ?_
            refine LW.pure rfl rfl (RV.move rfl) ?_
            refine LW.pure rfl rfl (RV.sub rfl rfl hg4) ?_
            refine LW.pure rfl rfl (RV.assign rfl) ?_
            refine LW.nil ?_
            replace H := H.pick (L' := [.own A1 c1 3 1 (List.map encN ((l2 ++ ([x3] : List Int)))), .tab A17_0_worth c17_0_worth 25 hs17_0_worth 3 1 (encM encN r1.worth), .tab A19_0_worth c19_0_worth 25 hs19_0_worth 3 1 (encM encN r4.1.worth), .blk b1 24 [.slice A_a0_worth a0.worth.length c_a0_worth], .blk b3 24 [.slice A17_0_worth r1.worth.length c17_0_worth], .blk b4 24 [.slice A19_0_worth r4.1.worth.length c19_0_worth]]) [1, 2, 3, 4, 5, 6] (by decide) rfl
            replace R0 := H.ext
            subst hrec2
            refine ⟨mk2, Nat.lt_succ_self _, _, ?_, (t13_1 - 1), ((l2 ++ ([x3] : List Int))), A1, c1, F, rfl, H⟩
            exact ⟨rfl, rfl, rfl, rfl, rfl, rfl, rfl, rfl, (look_slice rfl (by first | rfl | (simp; done) | omega | (simp; omega))), rfl, trivial⟩
          ·
            replace F := ite_n hp8 F
            have hq8 := dec_f hp8
            refine CW.condF rfl hq8 ?_
            refine CW.exit (jK107 _ _ ⟨_, ?_, ⟨l2, Al2, cl2, F, rfl, H⟩⟩)
            exact ⟨rfl, rfl, rfl, rfl, rfl, rfl, rfl, (look_slice rfl (by first | rfl | (simp; done) | omega | (simp; omega))), trivial⟩
    ·
      intro K27 hK27 jK118
      obtain ⟨r10, hr10, F⟩ := bnd_some F
      by_cases hp9 : r10 = true
      ·
        replace F := ite_y hp9 F
        have hq9 : r10 = true := hp9
        refine CW.region ?_
        refine LW.pure rfl rfl (RV.loadA [.slice A19_0_worth r4.1.worth.length c19_0_worth] Tk24 rfl (H.blk 2 rfl).cells rfl rfl) ?_
        refine LW.pure rfl rfl (RV.loadA [.slice A21_0_worth r9.1.worth.length c21_0_worth] Tk24 rfl (H.blk 0 rfl).cells rfl rfl) ?_
        refine LW.go rfl rfl (OW.call Tc46 rfl (ref04_Same_ok (a0 := r4.1) (a1 := r9.1) (H.tab 3 rfl).sl2 (H.tab 1 rfl).sl2 hr10) ?_)
        rintro _ w22 ⟨rfl, E11⟩
        refine ⟨_, rfl, ?_⟩
        replace H := H.grow E11
        replace R0 := H.ext
        refine LW.pure rfl rfl (RV.not rfl) ?_
        refine LW.pure rfl rfl (RV.move rfl) ?_
        refine LW.pureYB rfl rfl rfl rfl (not_f hq9) (RV.move rfl) ?_
        refine LW.pureYB rfl rfl rfl rfl (not_f hq9) (RV.move rfl) ?_
        refine LW.pureYB rfl rfl rfl rfl (not_f hq9) (RV.nei rfl rfl) ?_
        refine LW.pure rfl rfl (RV.pickFB rfl (not_f hq9) rfl) ?_
        replace H := H.pick (L' := [.tab A17_0_worth c17_0_worth 25 hs17_0_worth 3 1 (encM encN r1.worth), .tab A19_0_worth c19_0_worth 25 hs19_0_worth 3 1 (encM encN r4.1.worth), .blk b1 24 [.slice A_a0_worth a0.worth.length c_a0_worth], .blk b3 24 [.slice A17_0_worth r1.worth.length c17_0_worth], .blk b4 24 [.slice A19_0_worth r4.1.worth.length c19_0_worth]]) [5, 3, 7, 4, 2] (by decide) rfl
        replace R0 := H.ext
        refine LW.nil (jK118 _ _ ⟨_, ?_, ⟨(!(decide (r4.2 = r9.2))), F, rfl, H⟩⟩)
        exact ⟨rfl, rfl, rfl, rfl, rfl, rfl, rfl, trivial⟩
      ·
        replace F := ite_n hp9 F
        have hq9 : r10 = false := raw_f hp9
        refine CW.region ?_
        refine LW.pure rfl rfl (RV.loadA [.slice A19_0_worth r4.1.worth.length c19_0_worth] Tk24 rfl (H.blk 2 rfl).cells rfl rfl) ?_
        refine LW.pure rfl rfl (RV.loadA [.slice A21_0_worth r9.1.worth.length c21_0_worth] Tk24 rfl (H.blk 0 rfl).cells rfl rfl) ?_
        refine LW.go rfl rfl (OW.call Tc46 rfl (ref04_Same_ok (a0 := r4.1) (a1 := r9.1) (H.tab 3 rfl).sl2 (H.tab 1 rfl).sl2 hr10) ?_)
        rintro _ w23 ⟨rfl, E12⟩
        refine ⟨_, rfl, ?_⟩
        replace H := H.grow E12
        replace R0 := H.ext
        refine LW.pure rfl rfl (RV.not rfl) ?_
        refine LW.pure rfl rfl (RV.move rfl) ?_
        refine LW.noB rfl rfl rfl rfl (ne_beq (v := true) (not_t hq9) rfl) ?_
        refine LW.noB rfl rfl rfl rfl (ne_beq (v := true) (not_t hq9) rfl) ?_
        refine LW.noB rfl rfl rfl rfl (ne_beq (v := true) (not_t hq9) rfl) ?_
        refine LW.pure rfl rfl (RV.pickTB rfl (not_t hq9) rfl) ?_
        replace H := H.pick (L' := [.tab A17_0_worth c17_0_worth 25 hs17_0_worth 3 1 (encM encN r1.worth), .tab A19_0_worth c19_0_worth 25 hs19_0_worth 3 1 (encM encN r4.1.worth), .blk b1 24 [.slice A_a0_worth a0.worth.length c_a0_worth], .blk b3 24 [.slice A17_0_worth r1.worth.length c17_0_worth], .blk b4 24 [.slice A19_0_worth r4.1.worth.length c19_0_worth]]) [5, 3, 7, 4, 2] (by decide) rfl
        replace R0 := H.ext
        refine LW.nil (jK118 _ _ ⟨_, ?_, ⟨true, F, rfl, H⟩⟩)
        exact ⟨rfl, rfl, rfl, rfl, rfl, rfl, rfl, trivial⟩
end Go.D4

set_option linter.unusedVariables false
set_option linter.unusedSimpArgs false
namespace Go.D4
open Go.Tb
def mir (b : Bog) : Bog := ⟨b.worth.reverse⟩
theorem gi_rev {h : List Int} {j : Nat} (hj : j < h.length) : gi h.reverse j = gi h (h.length - 1 - j) := by
  simp only [gi, List.getD_eq_getElem?_getD]
  rw [List.getElem?_reverse hj]
theorem right_rev (h : List Int) : rightB h.reverse = rightB h := by
  have key : ∀ h : List Int, rightB h = true → rightB h.reverse = true := fun h hr => by
    unfold rightB at hr ⊢
    rw [decide_eq_true_eq] at hr ⊢
    intro j hj h1
    rw [List.length_reverse] at hj
    have := hr (h.length - j) (by omega) (by omega)
    rw [gi_rev hj, gi_rev (by omega)]
    rw [within_iff] at this ⊢
    have e1 : h.length - j - 1 = h.length - 1 - j := by omega
    have e2 : h.length - 1 - (j - 1) = h.length - j := by omega
    rw [e1] at this
    rw [e2]
    omega
  cases h1 : rightB h with
  | true => exact key h h1
  | false =>
    cases h2 : rightB h.reverse with
    | false => rfl
    | true =>
      have := key _ h2
      rw [List.reverse_reverse, h1] at this
      cases this
theorem dep_rev {b : Bog} (hb : Ok b) : dep (mir b) = dep b := by
  have h1 := hb.n1
  have hx : (mir b).worth[0]? = some b.worth[b.worth.length - 1] := by
    unfold mir
    simp only
    rw [List.getElem?_reverse (by omega), show b.worth.length - 1 - 0 = b.worth.length - 1 by omega]
    simp
  have hd : dep (mir b) = ((b.worth[b.worth.length - 1]).length : Int) := by
    unfold dep
    rw [hx]; rfl
  rw [hd]
  exact (hb.col _ (List.getElem_mem _)).1
theorem ok_mir {b : Bog} (hb : Ok b) : Ok (mir b) := by
  have hd := dep_rev hb
  refine ⟨?_, ?_, ?_, ?_, fun c hc => ?_⟩
  · have := hb.n1; unfold mir; simpa using this
  · have := hb.n6; unfold mir; simpa using this
  · rw [hd]; exact hb.d1
  · rw [hd]; exact hb.d4
  · rw [hd]
    refine hb.col c ?_
    unfold mir at hc
    simpa using hc
theorem hollow_mir {b : Bog} (hb : Ok b) (h : List Int) : hollowE (mir b) h.reverse = hollowE b h := by
  have hd := dep_rev hb
  have e : okL (mir b) h.reverse = okL b h := by
    unfold okL
    rw [hd]
    simp [mir]
  unfold hollowE listE
  rw [if_pos (val0.2 hb), if_pos (val0.2 (ok_mir hb)), e, right_rev]
theorem wsum_eq (b : Bog) (h : List Int) : ∀ n, wsum b h n = ((List.range n).map fun c => colW b c (gi h c)).sum
  | 0 => rfl
  | n + 1 => by
    rw [List.range_succ, List.map_append, List.sum_append, ← wsum_eq b h n]
    simp [wsum]
theorem wsum_mir {b : Bog} {h : List Int} (hl : h.length = b.worth.length) : wsum (mir b) h.reverse h.length = wsum b h h.length := by
  rw [wsum_eq, wsum_eq]
  have hrev : ((List.range h.length).map fun c => colW (mir b) c (gi h.reverse c)) = ((List.range h.length).map fun c => colW b c (gi h c)).reverse := by
    apply List.ext_getElem?
    intro c
    by_cases hc : c < h.length
    · rw [List.getElem?_reverse (by simpa using hc)]
      simp only [List.length_map, List.length_range, List.getElem?_map]
      rw [List.getElem?_range hc, List.getElem?_range (by omega)]
      simp only [Option.map_some]
      rw [gi_rev hc]
      have : colW (mir b) c (gi h (h.length - 1 - c)) = colW b (h.length - 1 - c) (gi h (h.length - 1 - c)) := by
        unfold colW mir
        simp only [List.getD_eq_getElem?_getD]
        rw [List.getElem?_reverse (by omega), hl]
      rw [this]
    · rw [List.getElem?_eq_none (by simp; omega), List.getElem?_eq_none (by simp; omega)]
  rw [hrev, List.sum_reverse]
theorem worth_mir {b : Bog} (hb : Ok b) (h : List Int) : worthR (mir b) h.reverse = worthR b h := by
  unfold worthR
  rw [hollow_mir hb]
  by_cases h0 : hollowE b h = 0
  · rw [if_pos h0, if_pos h0, List.length_reverse, wsum_mir (okL_iff.1 (hollow0.1 h0).2.1).1]
  · rw [if_neg h0, if_neg h0]
def mirE (b : Bog) : Bog × Int := if validate b = 0 then (mir b, 0) else (⟨[]⟩, validate b)
theorem mir_loop : ∀ (L : List (Int × List Int)) (m : List (List Int)), (∀ p ∈ L, p.2.length ≤ 1000) → m.length + L.length ≤ 1000 → cut_Mirror_L1 L m = some (⟨m ++ L.map (·.2)⟩, 0)
  | [], m, _, _ => by
    show cut_Mirror_k1 m = _
    unfold cut_Mirror_k1
    simp
  | p :: L, m, hp, hl => by
    have h1 := hp p (by simp)
    have ec : slices_Clone_int p.2 = some p.2 := by unfold slices_Clone_int; rw [gd_pos (by simp; omega)]; rfl
    simp only [List.length_cons] at hl
    show cut_Mirror_B1 (cut_Mirror_L1 L) p m = _
    unfold cut_Mirror_B1
    rw [bnd_eq ec, gd_pos (by omega), mir_loop L (m ++ [p.2]) (fun q hq => hp q (by simp [hq])) (by simp; omega)]
    simp
theorem backL_snd {α : Type} (l : List α) : (backL l).map (·.2) = l.reverse := by
  unfold backL
  rw [List.map_reverse, List.map_map]
  congr 1
  apply List.ext_getElem?
  intro i
  simp only [List.getElem?_map, List.getElem?_zipIdx, Option.map_map]
  cases l[i]? <;> rfl
theorem Mirror_eq {b : Bog} (hs : Short b) : cut_Mirror b = some (mirE b) := by
  unfold cut_Mirror mirE
  rw [bnd_eq (Validate_eq hs)]
  by_cases hv : validate b = 0
  · have h1 := hs.1
    rw [if_pos hv, if_pos hv, gd_pos (by omega), mir_loop _ _ (fun p hp => ?_) (by rw [backL_len]; simp; omega)]
    · rw [List.nil_append, backL_snd]; rfl
    · have : p.2 ∈ (backL b.worth).map (·.2) := List.mem_map.2 ⟨p, hp, rfl⟩
      rw [backL_snd, List.mem_reverse] at this
      have := hs.2 _ this
      omega
  · rw [if_neg hv, if_neg hv]
theorem copy_short {b : Bog} (hs : Short b) : ref04_Copy b = some b := by
  have h6 := hs.1
  unfold ref04_Copy
  refine Eq.trans (for0 b.worth.length (fun i => b.worth.take i) (fun n s i => ref04_Copy_L1 b n i s) (some b) (by simp) (fun n i hi => ?_) (fun n => ?_) (by omega)) rfl
  · have hx : b.worth[i]? = some b.worth[i] := by simp [hi]
    have hc := hs.2 b.worth[i] (List.getElem_mem _)
    have e : b.worth.take (i + 1) = b.worth.take i ++ [b.worth[i]] := by rw [List.take_add_one, hx]; rfl
    show ref04_Copy_B1 b (ref04_Copy_L1 b n) _ _ = _
    unfold ref04_Copy_B1
    rw [if_pos (by omega), ix_nat hx, gd_pos (by simp; omega), gd_pos (by simp; omega), gd_pos (by omega), e, List.nil_append]; rfl
  · show ref04_Copy_B1 b (ref04_Copy_L1 b n) _ _ = _
    unfold ref04_Copy_B1
    rw [if_neg (by omega)]
    unfold ref04_Copy_k1
    rw [List.take_length]
def mst (l : List (List Int)) : Nat → List (List Int)
  | 0 => l
  | i + 1 => (mst l i).set i (l.getD (l.length - 1 - i) [])
theorem mst_len (l : List (List Int)) : ∀ i, (mst l i).length = l.length
  | 0 => rfl
  | i + 1 => by unfold mst; rw [List.length_set]; exact mst_len l i
theorem mst_at (l : List (List Int)) {c : Nat} (hc : c < l.length) : ∀ i, i ≤ l.length → (mst l i)[c]? = if c < i then l[l.length - 1 - c]? else l[c]?
  | 0, _ => by simp [mst]
  | i + 1, hi => by
    have ih := mst_at l hc i (by omega)
    have hl := mst_len l i
    unfold mst
    by_cases h : c = i
    · subst h
      rw [List.getElem?_set_self (by omega), if_pos (by omega)]
      obtain ⟨x, hx⟩ := ex_at (l := l) (j := l.length - 1 - c) (by omega)
      rw [List.getD_eq_getElem?_getD, hx]; rfl
    · rw [List.getElem?_set_ne (Ne.symm h), ih]
      by_cases h2 : c < i
      · rw [if_pos h2, if_pos (by omega)]
      · rw [if_neg h2, if_neg (by omega)]
theorem mst_rev (l : List (List Int)) : mst l l.length = l.reverse := by
  apply List.ext_getElem?
  intro c
  by_cases hc : c < l.length
  · rw [mst_at l hc _ (Nat.le_refl _), if_pos hc, List.getElem?_reverse hc]
  · rw [List.getElem?_eq_none (by rw [mst_len]; omega), List.getElem?_eq_none (by simp; omega)]
theorem rMirror_eq {b : Bog} (hs : Short b) : ref04_Mirror b = some (mirE b) := by
  unfold ref04_Mirror mirE
  rw [bnd_eq (rValidate_eq hs)]
  by_cases hv : validate b = 0
  · have h1 := hs.1
    rw [if_pos hv, if_pos hv, bnd_eq (copy_short hs)]
    refine Eq.trans (for0 b.worth.length (fun i => mst b.worth i) (fun n s i => ref04_Mirror_L1 b n i s) (some (mir b, 0)) rfl (fun n i hi => ?_) (fun n => ?_) (by omega)) rfl
    · have hl := mst_len b.worth i
      obtain ⟨x, hx⟩ := ex_at (l := b.worth) (j := b.worth.length - 1 - i) (by omega)
      obtain ⟨y, hy⟩ := ex_at (l := mst b.worth i) (j := i) (by omega)
      have hxl := hs.2 x (List.mem_of_getElem? hx)
      have hxx : b.worth[((b.worth.length : Int) - 1 - (i : Int)).toNat]? = some x := by
        rw [show ((b.worth.length : Int) - 1 - (i : Int)).toNat = b.worth.length - 1 - i by omega]; exact hx
      show ref04_Mirror_B1 b (ref04_Mirror_L1 b n) _ _ = ref04_Mirror_L1 b n _ ((mst b.worth i).set i (b.worth.getD (b.worth.length - 1 - i) []))
      rw [List.getD_eq_getElem?_getD, hx]
      unfold ref04_Mirror_B1
      rw [if_pos (by omega), gd_pos (by omega), gd_pos (by omega), ix_eq (by omega) hxx, gd_pos (by simp; omega), ix_nat hy, gd_pos (by omega), List.nil_append, Int.toNat_natCast]; rfl
    · show ref04_Mirror_B1 b (ref04_Mirror_L1 b n) _ _ = _
      unfold ref04_Mirror_B1 ref04_Mirror_k1
      rw [if_neg (by omega), mst_rev]; rfl
  · rw [if_neg hv, if_neg hv]
def nst (m : List (List Int)) : Nat → List (List Int)
  | 0 => m
  | i + 1 => match (nst m i)[i]? with
    | some x => (nst m i).set i (x.set 0 99)
    | none => nst m i
theorem nst_ok {m : List (List Int)} (hm : ∀ x ∈ m, 0 < x.length) : ∀ i, (nst m i).length = m.length ∧ ∀ x ∈ nst m i, 0 < x.length
  | 0 => ⟨rfl, hm⟩
  | i + 1 => by
    obtain ⟨h1, h2⟩ := nst_ok hm i
    unfold nst
    split
    · rename_i x hx
      refine ⟨by rw [List.length_set]; exact h1, fun y hy => ?_⟩
      rcases List.mem_or_eq_of_mem_set hy with h | rfl
      · exact h2 y h
      · rw [List.length_set]; exact h2 x (List.mem_of_getElem? hx)
    · exact ⟨h1, h2⟩
theorem law_CutMirrors (b : Bog) (h : List Int) (hb : b.worth.length ≤ 9223372036854775807) : law04_CutMirrors b h = some true := by
  unfold law04_CutMirrors
  rw [bnd_eq (Long_eq (by simp) hb)]
  cases hL : longB b [h]
  · obtain ⟨hs, h2⟩ := long_short hL
    have hl := h2 h (by simp)
    have hms : Short (mirE b).1 := by
      unfold mirE
      by_cases hv : validate b = 0
      · rw [if_pos hv]
        exact ⟨by have := hs.1; simpa [mir] using this, fun c hc => hs.2 c (by simpa [mir] using hc)⟩
      · rw [if_neg hv]; exact ⟨by simp, by simp⟩
    have hrow : ∀ x ∈ (mirE b).1.worth, 0 < x.length := by
      unfold mirE
      by_cases hv : validate b = 0
      · rw [if_pos hv]
        have hob := val0.1 hv
        intro x hx
        have hx' : x ∈ b.worth := by simpa [mir] using hx
        have h1 := (hob.col x hx').1
        have := hob.d1
        omega
      · rw [if_neg hv]; simp
    have fin : law04_CutMirrors_k2 b b (mirE b) false = some true := by
      unfold law04_CutMirrors_k2
      rw [if_neg (by simp)]
      refine for0 (mirE b).1.worth.length (fun i => nst (mirE b).1.worth i) (fun n s i => law04_CutMirrors_L1 b b n i s) (some true) rfl (fun n i hi => ?_) (fun n => ?_) (by have := hms.1; omega)
      · obtain ⟨n1, n2⟩ := nst_ok hrow i
        obtain ⟨x, hx⟩ := ex_at (l := nst (mirE b).1.worth i) (j := i) (by omega)
        have hx0 := n2 x (List.mem_of_getElem? hx)
        obtain ⟨y, hy⟩ := ex_at (l := x) (j := 0) hx0
        have hml := hms.1
        have e : nst (mirE b).1.worth (i + 1) = (nst (mirE b).1.worth i).set i (x.set 0 99) := by
          show (match (nst (mirE b).1.worth i)[i]? with
            | some x => (nst (mirE b).1.worth i).set i (x.set 0 99)
            | none => nst (mirE b).1.worth i) = _
          rw [hx]
        show law04_CutMirrors_B1 b b (law04_CutMirrors_L1 b b n) _ _ = _
        unfold law04_CutMirrors_B1
        rw [if_pos (by omega), ix_nat hx, ix0 hy, gd_pos (by omega), e, Int.toNat_natCast]; rfl
      · obtain ⟨n1, _⟩ := nst_ok hrow (mirE b).1.worth.length
        show law04_CutMirrors_B1 b b (law04_CutMirrors_L1 b b n) _ _ = _
        unfold law04_CutMirrors_B1 law04_CutMirrors_k1
        rw [if_neg (by omega), bnd_eq (Same_self ⟨by have := hs.1; omega, fun c hc => by have := hs.2 c hc; omega⟩), if_pos rfl, bnd_eq sane_eq]
    have k3 : law04_CutMirrors_k3 b b (mirE b) (worthR b h) h.reverse = some true := by
      unfold law04_CutMirrors_k3
      rw [bnd_eq (Worth_eq hms (by simp; omega))]
      by_cases he : (mirE b).2 = 0
      · rw [if_pos he]
        have hv : validate b = 0 := by
          unfold mirE at he
          by_cases hv : validate b = 0
          · exact hv
          · rw [if_neg hv] at he; exact absurd he hv
        have e1 : (mirE b).1 = mir b := by unfold mirE; rw [if_pos hv]
        rw [e1, worth_mir (val0.1 hv), if_pos rfl, decide_eq_true rfl]
        exact fin
      · rw [if_neg he]; exact fin
    rw [if_neg (by simp), bnd_eq (copy_short hs), bnd_eq (Mirror_eq hs), bnd_eq (rMirror_eq hs), bnd_eq (Same_self ⟨by have := hms.1; omega, fun c hc => by have := hms.2 c hc; omega⟩), if_pos rfl, decide_eq_true rfl]
    unfold law04_CutMirrors_k4
    rw [if_neg (by simp), bnd_eq (Worth_eq hs (by omega)), gd_pos (by omega)]
    have down : ∀ (d k : Nat) (l2 : List Int), d ≤ h.length → d < k → l2 = (h.drop d).reverse → law04_CutMirrors_L2 b h b (mirE b) (worthR b h) k ((d : Int) - 1) l2 = some true := by
      intro d
      induction d with
      | zero =>
        intro k l2 hd hk e
        obtain ⟨k, rfl⟩ : ∃ k', k = k' + 1 := ⟨k - 1, by omega⟩
        show law04_CutMirrors_B2 b h b (mirE b) (worthR b h) (law04_CutMirrors_L2 b h b (mirE b) (worthR b h) k) _ _ = _
        unfold law04_CutMirrors_B2
        rw [if_neg (by omega), e, List.drop_zero]
        exact k3
      | succ d ih =>
        intro k l2 hd hk e
        obtain ⟨k, rfl⟩ : ∃ k', k = k' + 1 := ⟨k - 1, by omega⟩
        obtain ⟨x, hx⟩ := ex_at (l := h) (j := d) (by omega)
        have hll : l2.length ≤ 100 := by rw [e, List.length_reverse, List.length_drop]; omega
        have e2 : l2 ++ [x] = (h.drop d).reverse := by
          rw [e, Tb.drop_at hx, List.reverse_cons]
        have ed : (((d + 1 : Nat) : Int) - 1) = (d : Int) := by omega
        rw [ed]
        show law04_CutMirrors_B2 b h b (mirE b) (worthR b h) (law04_CutMirrors_L2 b h b (mirE b) (worthR b h) k) _ _ = _
        unfold law04_CutMirrors_B2
        rw [if_pos (by omega), ix_nat hx, gd_pos (by simp only [List.length_singleton]; omega), gd_pos (by omega)]
        exact ih k _ (by omega) (by omega) e2
    exact down h.length FU [] (Nat.le_refl _) (by have := FU_pos; omega) (by rw [List.drop_length]; rfl)
  · rw [if_pos rfl, bnd_eq sane_eq]
end Go.D4
