/- Lemmas and walks that the proof of this claim uses: Tb40, Tb41, Tb42, Tb43D, D4u1, D4t2, D4t3, D4t4, D4t5, D4t6, D4y1, D4y2, D4y3, D4t7, D4y4, D4y5, D4y6, D4y7, D4t8, D4q2, D4y8, D4q3, D4y9. -/
import Derived.Test.YtihcdffakmnkdaaTopHollows6
import Derived.RangeFuncRecord
import Derived.RangeFuncCalls
import Derived.OrdersIn
import Derived.TacticsIn
set_option linter.unusedVariables false
set_option linter.unusedSimpArgs false
namespace Go.Tb
open Go.RowKit
abbrev RF (r : Nat) : Fence := Fence.wide.inRound r
def noD (o : Oper) : Bool := match o.op with
  | .defer _ => false
  | _ => true
section
variable {P : Program} {m r : Nat} {ops : Array Oper} {Q : Exit → Act → World → Prop}
theorem noD_ne {o : Oper} (h : noD o = true) : ∀ c, o.op ≠ .defer c := fun c e => by unfold noD at h; rw [e] at h; cases h
theorem wide_no {p : Prop} : (RF r).depth.isSome = true → p := fun h => by cases h
theorem rowsIn_of {k : Nat} {row : String} {args : Array Value} {w : World} {R : Value → World → Prop} (h : Rows P row args w R) : RowsIn (RF r) k P row args w R := fun c cs _ =>
  let ⟨v, w', hr, s⟩ := h c cs
  ⟨v, w', hr, stepsIn_wide.2 s⟩
theorem callsIn_of {k : Nat} {f : FuncId} {args : Array Value} {w : World} {R : Ending → World → Prop} (h : Calls P f args w R) : CallsIn (RF r) k P f args w R := CallsIn.inRound r (callsIn_wide.2 h)
theorem op_in {o : Oper} {a : Act} {w : World} {next : Act → World → Prop} (hn : noD o = true) (h : o.wp P a w next Q) : o.wpIn (RF r) m P a w next Q := by
  refine ⟨fun _ _ => trivial, ?_⟩
  rw [Oper.semAt_eq _ _ _ (noD_ne hn)]
  unfold Oper.wp at h
  generalize (execOp a.eval o).run P w = x at *
  cases x with
  | ok y w' =>
    cases y <;> simp only [Oper.upon] at h <;> simp only [Oper.uponIn] <;> first
      | exact h
      | exact h.elim
      | exact ⟨wide_no, callsIn_of h⟩
      | exact ⟨wide_no, rowsIn_of h⟩
  | halt y w' => cases y <;> simp only [Oper.upon] at h <;> simp only [Oper.uponIn] <;> first | exact h | exact h.elim
theorem list_in (hL : ¬ LetsOut Q) : ∀ {l : List Oper}, l.all noD = true → ∀ {a : Act} {w : World}, wpList P ops Q l a w → wpListIn (RF r) m P ops Q l a w
  | [], _, a, w, h => h
  | o :: rest, hn, a, w, h => by
    simp only [List.all_cons, Bool.and_eq_true] at hn
    unfold wpList at h
    unfold wpListIn
    split at h
    · rename_i hw
      rw [if_pos hw]
      rcases h with h | h
      · exact Oper.wpIn_mono (fun a w => list_in hL hn.2) (op_in hn.1 h)
      · exact absurd h.2 hL
    · rename_i hw
      rw [if_neg hw]
      exact ⟨fun _ _ => trivial, list_in hL hn.2 h⟩
theorem op_at_in (hL : ¬ LetsOut Q) (hn : ∀ (i : Nat) (o : Oper), ops[i]? = some o → noD o = true) {i : Nat} {K : Act → World → Prop} {a : Act} {w : World} (h : wpOp P ops Q i K a w) : wpOpIn (RF r) m P ops Q i K a w := by
  unfold wpOp at h
  unfold wpOpIn
  cases ho : ops[i]? with
  | none => simpa [ho] using h
  | some o =>
    simp only [ho] at h ⊢
    split
    · rename_i hw
      rw [if_pos hw] at h
      rcases h with h | h
      · exact op_in (hn i o ho) h
      · exact absurd h.2 hL
    · rename_i hw
      rw [if_neg hw] at h
      exact ⟨fun _ _ => trivial, h⟩
theorem any_in (hL : ¬ LetsOut Q) (hn : ∀ (i : Nat) (o : Oper), ops[i]? = some o → noD o = true) {md : Region.Mode} : ∀ {fuel : Nat} {listed : Array Bool} {a : Act} {w : World}, wpAny P md ops Q fuel listed a w → wpAnyIn (RF r) m P md ops Q fuel listed a w
  | 0, _, _, _, h => h
  | fuel + 1, listed, a, w, h => ⟨h.1, fun i hi => wpOpIn_mono (fun a w h => any_in hL hn h) (op_at_in hL hn (h.2 i hi))⟩
end
def CR (P : Program) (r m n : Nat) (c : Code) (Q : Exit → Env → World → Prop) (ρ : Env) (w : World) : Prop := ∀ a, Fits n ρ a → c.wpIn (RF r) m P (lift n Q) a w
def NoOut (Q : Exit → Env → World → Prop) : Prop := ∀ ρ w, ¬ Q .outgrown ρ w
section
variable {P : Program} {r m n : Nat} {ops : Array Oper} {Q : Exit → Env → World → Prop} {ρ : Env} {w : World}
theorem NoOut.out (h : NoOut Q) : ¬ LetsOut (lift n Q) := fun ⟨_, w, ρ, _, hq⟩ => h ρ w hq
theorem CR.region {id : Nat} {l : List Oper} (hO : NoOut Q) (hn : l.all noD = true) (h : LW P n l.toArray Q l ρ w) : CR P r m n (.region id l.toArray false) Q ρ w := fun a ha => wpIn_region_lit (list_in hO.out hn (h a ha))
theorem CR.draw (hO : NoOut Q) (hn : ops.toList.all noD = true) (S : List Nat) (X : Nat → Prop) (t : DT) {id : Nat} (hm : P.follows .mixedOrders = true) (hB : drawB ops S t = true) (h : ∀ w', Ext w w' → DW P n ops Q S X t ρ w') : CR P r m n (.region id ops true) Q ρ w := fun a ha => by
  simp only [drawB, Bool.and_eq_true, decide_eq_true_eq] at hB
  refine wpIn_region_any hm ?_
  have hs := WA.sound (Q' := lift n Q) (fun _ _ h => h) _ _ _ _ ((DW.sound hB.1.1 t [] _ ρ _ a hB.2 (h { w with drawn := w.drawn + 1 } (Ext.drew (Ext.refl w))) ha).1 rfl)
  rw [hB.1.2] at hs
  exact any_in hO.out (fun i o ho => List.all_eq_true.1 hn o (Array.mem_toList_iff.2 (Array.mem_of_getElem? ho))) hs
theorem CR.seq {x y : Code} (h : ∀ K : Env → World → Prop, (∀ ρ w, CR P r m n y Q ρ w → K ρ w) → CR P r m n x (thenE K Q) ρ w) : CR P r m n (.seq x y) Q ρ w := fun a ha => by
  refine wpIn_seq (wpIn_mono (h (fun ρ w => CR P r m n y Q ρ w) (fun _ _ h => h) a ha) fun e a' w' hq => ?_)
  obtain ⟨ρ', hf, hq⟩ := hq
  cases e <;> first | exact hq a' hf | exact ⟨ρ', hf, hq⟩
theorem CR.sub {c : Code} (ρ' : Env) (hs : Sub ρ' ρ) (h : CR P r m n c Q ρ' w) : CR P r m n c Q ρ w := fun a ha => h a (ha.sub hs)
theorem CR.cond {c : Operand} {x y : Code} {t : Bool} (hc : ev ρ c = some (.bool t)) (ht : t = true → CR P r m n x Q ρ w) (hf : t = false → CR P r m n y Q ρ w) : CR P r m n (.cond c x y) Q ρ w :=
  fun a ha => wpIn_cond_split (ha.ev hc) (fun h => ht h a ha) (fun h => hf h a ha)
theorem CR.condT {c : Operand} {x y : Code} {t : Bool} (hc : ev ρ c = some (.bool t)) (ht : t = true) (h : CR P r m n x Q ρ w) : CR P r m n (.cond c x y) Q ρ w :=
  CR.cond hc (fun _ => h) (fun hf => absurd (ht.symm.trans hf) (by decide))
theorem CR.condF {c : Operand} {x y : Code} {t : Bool} (hc : ev ρ c = some (.bool t)) (ht : t = false) (h : CR P r m n y Q ρ w) : CR P r m n (.cond c x y) Q ρ w :=
  CR.cond hc (fun hf => absurd (ht.symm.trans hf) (by decide)) (fun _ => h)
theorem CR.skip (h : Q .normal ρ w) : CR P r m n .skip Q ρ w := fun _ ha => wpIn_skip ⟨ρ, ha, h⟩
theorem CR.ret (h : Q .ret ρ w) : CR P r m n .ret Q ρ w := fun _ ha => wpIn_ret ⟨ρ, ha, h⟩
theorem CR.block {id : Nat} {c : Code} (h : CR P r m n c (blockE id Q) ρ w) : CR P r m n (.block id c) Q ρ w := fun a ha => by
  refine wpIn_block (wpIn_mono (h a ha) fun e a' w' hq => ?_)
  obtain ⟨ρ', hf, hq⟩ := hq
  cases e with
  | exit id' =>
    simp only [blockE] at hq
    simp only [Exit.inBlock]
    split at hq
    · rename_i hb
      rw [if_pos (Nat.eq_of_beq_eq_true hb)]
      exact ⟨ρ', hf, hq⟩
    · rename_i hb
      rw [if_neg (fun e => by subst e; simp at hb)]
      exact ⟨ρ', hf, hq⟩
  | _ => exact ⟨ρ', hf, hq⟩
theorem CR.seqJ {x y : Code} (J : Env → World → Prop) (hJ : ∀ ρ w, J ρ w → CR P r m n y Q ρ w)
    (h : ∀ K : Env → World → Prop, (∀ ρ w, CR P r m n y Q ρ w → K ρ w) → (∀ ρ w, (∃ ρ', Sub ρ' ρ ∧ J ρ' w) → K ρ w) → CR P r m n x (thenE K Q) ρ w) : CR P r m n (.seq x y) Q ρ w :=
  CR.seq fun K hK => h K hK fun ρ w ⟨ρ', hs, hj⟩ => hK ρ w (CR.sub ρ' hs (hJ ρ' w hj))
end
/-- What is called with yield hands over the rows of xs, one after another, and stops where yield says so; in a world of which Rd says what it reads. -/
def Iter (P : Program) (gf : Nat) (lb : Array Value) (xs : List (Array Value)) (Rd : World → Prop) : Prop :=
  ∀ (r : Nat) (J : Nat → World → Prop) (Jx : World → Prop) (W : World),
    (∀ i W1, J i W1 → Rd W1) → (∀ i W1 W2, J i W1 → Ext W1 W2 → J i W2) →
    (∀ i W1 x, J i W1 → xs[i]? = some x → YieldAt Fence.wide 1 P r x W1 fun e W' => (e = .returned (.bool true) ∧ J (i + 1) W') ∨ (e = .returned (.bool false) ∧ Jx W')) →
    J 0 W →
    CallsIn Fence.wide 2 P gf (#[.func (.yield r) #[] #[]] ++ lb) W fun e W' => (∃ v, e = .returned v) ∧ (J xs.length W' ∨ Jx W')
abbrev lrec (fn : FuncId) (a : Act) (ps : Array Tmp) (assign body : Code) (D : Nat) (st : LoopState) (pe : Option Code) : Loop := { state := st, pending := pe, fn, tmps := a.tmps, params := ps, assign, body, defers := D }
def lck (r D : Nat) (o : Obj) : Ck := .inv [r, D] fun W => W.heap[r]? = some o ∧ W.heap[D]? = some (.deferred (some []))
theorem lck_holds {W : World} {r D : Nat} {o : Obj} (h1 : W.heap[r]? = some o) (h2 : W.heap[D]? = some (.deferred (some []))) : (lck r D o).holds W :=
  ⟨fun b hb => by
    simp at hb
    rcases hb with rfl | rfl
    · exact (Array.getElem?_eq_some_iff.1 h1).1
    · exact (Array.getElem?_eq_some_iff.1 h2).1, ⟨h1, h2⟩, fun w1 w2 hl h hq => ⟨(h r (by simp)).trans hq.1, (h D (by simp)).trans hq.2⟩⟩
theorem lck_at {w0 W : World} {L : List Ck} {r D : Nat} {o : Obj} (H : Hp w0 W (L ++ [lck r D o])) : W.heap[r]? = some o ∧ W.heap[D]? = some (.deferred (some [])) := (H.holds L.length (lck r D o) (by simp)).2.1
theorem lck_put {w0 W : World} {L : List Ck} {r D : Nat} {o : Obj} (o' : Obj) (hne : D ≠ r) (H : Hp w0 W (L ++ [lck r D o])) : Hp w0 (W.putObj r o') (L ++ [lck r D o']) := by
  obtain ⟨h1, h2⟩ := lck_at H
  have hlt := (Array.getElem?_eq_some_iff.1 h1).1
  have hf := H.fresh L.length (lck r D o) (by simp) r (by simp [lck, Ck.bl])
  have h := H.step (w' := W.putObj r o') L.length (x := lck r D o) (y := lck r D o') (by simp)
    (Below.grown H.ext (grownBy_putObj' W r o') (Below.size H.ext) (fun k e => by cases e; exact hf))
    (fun b _ hb => World.putObj_heap_other (fun e => hb (by rw [e]; simp [lck, Ck.bl])))
    (lck_holds (World.putObj_heap_same hlt) ((World.putObj_heap_other hne).trans h2)) (fun b hb => .inl hb)
  simpa using h
def dck (D : Nat) : Ck := .inv [D] fun W => W.heap[D]? = some (.deferred (some []))
theorem lck_dck {w0 W : World} {L : List Ck} {r D : Nat} {o : Obj} (H : Hp w0 W (L ++ [lck r D o])) : Hp w0 W (L ++ [dck D]) := by
  obtain ⟨_, h2⟩ := lck_at H
  have h := H.step (w' := W) L.length (x := lck r D o) (y := dck D) (by simp) H.ext (fun _ _ _ => rfl)
    ⟨fun b hb => by simp at hb; rw [hb]; exact (Array.getElem?_eq_some_iff.1 h2).1, h2, fun w1 w2 hl h hq => (h D (by simp)).trans hq⟩ (fun b hb => .inl (by simp [dck, lck, Ck.bl] at *; exact .inr hb))
  simpa using h
/-- The env of a round: yield's arguments in the parameters. -/
def penv : List Tmp → List Value → Env → Env
  | p :: ps, x :: xs, ρ => penv ps xs ((p, x) :: ρ)
  | _, _, ρ => ρ
theorem penv_fits {n : Nat} : ∀ (ps : List Tmp) (xs : List Value) (ρ : Env) (t : Array Value) (ds : List Deferred), Fits n ρ { tmps := t, defers := [] } → (∀ p ∈ ps, p < n) → Fits n (penv ps xs ρ) { tmps := (ps.zip xs).foldl (fun t (px : Tmp × Value) => t.setIfInBounds px.1 px.2) t, defers := [] }
  | [], _, ρ, t, ds, h, _ => by simpa [penv] using h
  | p :: ps, [], ρ, t, ds, h, _ => by simpa [penv] using h
  | p :: ps, x :: xs, ρ, t, ds, h, hp => by
    simp only [penv, List.zip_cons_cons, List.foldl_cons]
    refine penv_fits ps xs _ _ ds ?_ (fun q hq => hp q (by simp [hq]))
    exact h.upd (d := some p) (by simp [okDst, Nat.blt_eq, hp p (by simp)]) x
end Go.Tb

set_option linter.unusedVariables false
set_option linter.unusedSimpArgs false
namespace Go.Tb
open Go.RowKit
theorem Hp.snoc {w0 w w' : World} {L : List Ck} (h : Hp w0 w L) (e : Ext w w') {x : Ck} (hx : x.holds w') (fr : ∀ b ∈ x.bl, w.heap.size ≤ b) : Hp w0 w' (L ++ [x]) := by
  refine Hp.pick (h.cons e hx fr) (List.range' 1 L.length ++ [0]) ?_ ?_
  · rw [List.nodup_append]
    refine ⟨List.nodup_range', by simp, fun a ha b hb => ?_⟩
    rw [List.mem_range'_1] at ha
    simp at hb
    omega
  · rw [List.map_append, List.map_append]
    congr 1
    apply List.ext_getElem?
    intro i
    by_cases hi : i < L.length
    · simp [hi, Nat.add_comm 1 i]
    · rw [List.getElem?_eq_none (by simpa using hi), List.getElem?_eq_none (by simpa using hi)]
abbrev mark (D : Nat) : Deferred := { target := .collected D, args := #[] }
def rpost {V Vx : Type} (w0 : World) (Φ : Nat → V → Prop) (Lv : V → List Ck) (Ψ : Vx → Prop) (Lx : Vx → List Ck) (i : Nat) (X : Ck) : Exit → Env → World → Prop
  | .normal, _, W => ∃ v, Φ (i + 1) v ∧ Hp w0 W (Lv v ++ [X])
  | .ret, _, W => ∃ v, Ψ v ∧ Hp w0 W (Lx v ++ [X])
  | _, _, _ => False
theorem zip_fold (ps : Array Tmp) (xs : Array Value) (t : Array Value) : (ps.zip xs).foldl (fun t (px : Tmp × Value) => t.setIfInBounds px.1 px.2) t = (ps.toList.zip xs.toList).foldl (fun t (px : Tmp × Value) => t.setIfInBounds px.1 px.2) t := by
  rw [← Array.foldl_toList, Array.toList_zip]
theorem wp_range {P : Program} {n : Nat} {ρ : Env} {w0 w : World} {a : Act} {V Vx Va : Type} {g : Operand} {ps : Array Tmp} {assign body : Code} {Q : Exit → Act → World → Prop} (ha : Fits n ρ a)
    {gf : Nat} {lb : Array Value} (hg : ev ρ g = some (.func (.func gf) #[] lb)) (eg : ∀ args w, (callFunc gf args).run P w = .ok (.enter gf args) w)
    {xs : List (Array Value)} (hps : ∀ x ∈ xs, x.size = ps.size) (hpn : ∀ p ∈ ps.toList, p < n) {Rd : World → Prop} (hit : Iter P gf lb xs Rd)
    (Φ : Nat → V → Prop) (Lv : V → List Ck) (Φa : Nat → Va → Env → Prop) (La : Va → List Ck) (Ψ : Vx → Prop) (Lx : Vx → List Ck)
    (hRd : ∀ i v W X, Φ i v → Hp w0 W (Lv v ++ [X]) → Rd W) (v0 : V) (h0 : Φ 0 v0) (H : Hp w0 w (Lv v0))
    (hassign : ∀ r i v W X x, Φ i v → xs[i]? = some x → Hp w0 W (Lv v ++ [X]) → CR P r 1 n assign (fun e ρ' W' => e = .normal ∧ ∃ v', Φa i v' ρ' ∧ Hp w0 W' (La v' ++ [X])) (penv ps.toList x.toList ρ) W)
    (hbody : ∀ r i v ρ' W X, Φa i v ρ' → Hp w0 W (La v ++ [X]) → CR P r 1 n body (rpost w0 Φ Lv Ψ Lx i X) ρ' W)
    (hdone : ∀ D v W, Φ xs.length v → Hp w0 W (Lv v ++ [dck D]) → Q .normal { a with defers := [mark D] } W)
    (hret : ∀ D v W, Ψ v → Hp w0 W (Lx v ++ [dck D]) → Q .ret { a with defers := [mark D] } W) :
    (Code.rangeFunc g ps assign body).wp P Q a w := by
  refine (wpIn_wide (n := 3)).1 (wpIn_rangeFunc ?_)
  intro fn _
  obtain ⟨rec, hrec⟩ : ∃ rec : LoopState → Option Code → Loop, rec = lrec fn a ps assign body w.heap.size := ⟨_, rfl⟩
  obtain ⟨W1, hW1⟩ : ∃ W1, (w.alloc (.deferred (some []))).alloc (.loop (rec .ready none)) = W1 := ⟨_, rfl⟩
  have had := ha.defers
  have hne : w.heap.size ≠ w.heap.size + 1 := by omega
  have hL1 : W1.heap[w.heap.size + 1]? = some (.loop (rec .ready none)) := by
    rw [← hW1]; have := World.alloc_heap_new (w.alloc (.deferred (some []))) (.loop (rec .ready none)); rwa [World.size_alloc] at this
  have hK1 : W1.heap[w.heap.size]? = some (.deferred (some [])) := by
    rw [← hW1]; exact (Below.heap_alloc _ _ _ (by simp)).trans (World.alloc_heap_new w _)
  have hE : Ext w W1 := by
    rw [← hW1]; exact ((Below.refl _ w).alloc (Nat.le_refl _) _).alloc (by simp) _
  have H1 : Hp w0 W1 (Lv v0 ++ [lck (w.heap.size + 1) w.heap.size (.loop (rec .ready none))]) := H.snoc hE (lck_holds hL1 hK1) (by
    intro b hb
    simp [lck, Ck.bl] at hb
    omega)
  refine ⟨w.heap.size + 1, [mark w.heap.size], W1, { target := .fn (.func gf) lb, args := #[.func (.yield (w.heap.size + 1)) #[] #[]] }, W1, gf,
    #[.func (.yield (w.heap.size + 1)) #[] #[]] ++ lb, W1, ?_, ?_, fun _ _ => trivial, ?_, (fun h => by cases h), ?_⟩
  · rw [← hW1, hrec]; exact run_enterLoop_outer _ _ _ _ _
  · simp only [resolve, ha.ev hg]
    simp [go_sem]
  · simp [invoke, go_sem, eg]
  refine (hit (w.heap.size + 1) (fun i W => ∃ v, Φ i v ∧ Hp w0 W (Lv v ++ [lck (w.heap.size + 1) w.heap.size (.loop (rec .ready none))]))
    (fun W => ∃ v, Ψ v ∧ Hp w0 W (Lx v ++ [lck (w.heap.size + 1) w.heap.size (.loop (rec .done (some .ret)))])) W1
    (fun i W ⟨v, h1, h2⟩ => hRd i v W _ h1 h2) (fun i W W' ⟨v, h1, h2⟩ e => ⟨v, h1, h2.grow e⟩) ?_ ⟨v0, h0, H1⟩).mono ?_
  · rintro i W x ⟨v, hv, HW⟩ hx
    obtain ⟨hl, _⟩ := lck_at HW
    have hsz := hps x (List.mem_of_getElem? hx)
    have hy := run_yield (P := P) (args := x) hl (by rw [hrec]; exact hsz)
    rw [hrec] at hy
    refine ⟨fn, _, assign, body, hy, roundIn_of_wpIn trivial ?_⟩
    have hfit : Fits n (penv ps.toList x.toList ρ) { tmps := (ps.zip x).foldl (fun t (px : Tmp × Value) => t.setIfInBounds px.1 px.2) a.tmps, defers := [] } := by
      rw [zip_fold]
      exact penv_fits _ _ _ _ [] ⟨rfl, ha.size, ha.at_⟩ hpn
    refine wpIn_mono (hassign (w.heap.size + 1) i v W _ x hv hx HW _ hfit) ?_
    rintro e a1 W2 ⟨ρ', hf1, rfl, v', hv', H2⟩
    obtain ⟨hl2, _⟩ := lck_at H2
    refine ⟨_, run_beginRound hl2 (by rw [hrec]), ?_⟩
    have H3 := lck_put (.loop { rec .ready none with state := .busy }) hne H2
    refine wpIn_mono (hbody (w.heap.size + 1) i v' ρ' _ _ hv' H3 a1 hf1) ?_
    rintro e a2 W3 ⟨ρ2, hf2, hp⟩
    cases e with
    | normal =>
      obtain ⟨v2, hv2, H4⟩ := hp
      obtain ⟨hl4, _⟩ := lck_at H4
      refine ⟨_, _, run_endRound none hl4, .inl ⟨rfl, v2, hv2, ?_⟩⟩
      have := lck_put (.loop { { rec .ready none with state := .busy } with state := .ready, pending := none }) hne H4
      rw [hrec] at this ⊢
      exact this
    | ret =>
      obtain ⟨v2, hv2, H4⟩ := hp
      obtain ⟨hl4, _⟩ := lck_at H4
      refine ⟨_, _, run_endRound (some .ret) hl4, .inr ⟨rfl, v2, hv2, ?_⟩⟩
      have := lck_put (.loop { { rec .ready none with state := .busy } with state := .done, pending := some .ret }) hne H4
      rw [hrec] at this ⊢
      exact this
    | exit id => exact hp.elim
    | goto t => exact hp.elim
    | panic ch => exact hp.elim
    | outgrown => exact hp.elim
  · subst hrec
    rintro e W2 ⟨⟨v, rfl⟩, (⟨v2, hv2, H2⟩ | ⟨v2, hv2, H2⟩)⟩
    · obtain ⟨hl, _⟩ := lck_at H2
      have hend := run_endLoop (P := P) hl (by simp)
      have H3 := lck_dck (lck_put (.loop { lrec fn a ps assign body w.heap.size .ready none with state := .exhausted }) hne H2)
      refine ⟨none, _, hend, ?_⟩
      have := hdone w.heap.size v2 _ hv2 H3
      rw [had]
      exact this
    · obtain ⟨hl, _⟩ := lck_at H2
      have hend := run_endLoop (P := P) hl (by simp)
      have H3 := lck_dck (lck_put (.loop { lrec fn a ps assign body w.heap.size .done (some .ret) with state := .exhausted }) hne H2)
      refine ⟨some .ret, _, hend, ?_⟩
      have := hret w.heap.size v2 _ hv2 H3
      rw [had]
      exact wpIn_ret this
def qop (o : Oper) : Bool := match o.op with
  | .move _ | .assign _ | .load _ _ | .store _ _ _ | .fieldAddr _ _ _ | .indexAddr _ _ _ | .binOp _ _ _ _ _ | .unOp _ _ _ | .extract _ _ | .field _ _ _ | .build _ _ => true
  | _ => false
def isVS : Result Next → Bool
  | .ok (.value _) _ => true
  | .ok .skip _ => true
  | .ok _ _ => false
  | .halt _ _ => true
section
variable {P : Program} {ops : Array Oper} {Q : Exit → Act → World → Prop} {ds : List Deferred}
theorem isVS_v {s : Sem Value} {w : World} : isVS ((do pure (Next.value (← s)) : Sem Next).run P w) = true := by
  rw [Sem.run_bind]
  cases s.run P w <;> simp [Result.andThen, isVS]
theorem isVS_u {s : Sem Unit} {w : World} : isVS ((do s; pure Next.skip : Sem Next).run P w) = true := by
  rw [Sem.run_bind]
  cases s.run P w <;> simp [Result.andThen, isVS]
theorem qop_run {o : Oper} (h : qop o = true) (ρ : Operand → Value) (w : World) : isVS ((execOp ρ o).run P w) = true := by
  unfold qop at h
  unfold execOp
  cases ho : o.op <;> rw [ho] at h <;> simp only at h ⊢ <;> first
    | exact isVS_v
    | exact isVS_u
    | (simp [isVS]; done)
    | (exfalso; cases h; done)
    | cases h
def Qd (ds : List Deferred) (Q : Exit → Act → World → Prop) : Exit → Act → World → Prop := fun e a w => a.defers = ds ∧ Q e { a with defers := [] } w
theorem put_defers (a : Act) (d : Option Nat) (v : Value) : (a.put d v).defers = a.defers ∧ ({ a with defers := [] } : Act).put d v = { (a.put d v) with defers := [] } := by
  cases d <;> exact ⟨rfl, rfl⟩
theorem op_ds {o : Oper} {a : Act} {w : World} {K : Act → World → Prop} (hq : qop o = true) (ha : a.defers = ds) (h : o.wp P { a with defers := [] } w K Q) : o.wp P a w (fun a' w' => a'.defers = ds ∧ K { a' with defers := [] } w') (Qd ds Q) := by
  unfold Oper.wp at *
  rw [eval_defers] at h
  have hr := qop_run (P := P) hq a.eval w
  generalize (execOp a.eval o).run P w = x at *
  cases x with
  | ok y w' =>
    cases y <;> simp only [isVS] at hr <;> first
      | (simp only [Oper.upon] at h ⊢
         rw [(put_defers a o.dst _).2] at h
         exact ⟨(put_defers a o.dst _).1.trans ha, h⟩)
      | (exfalso; cases hr; done)
      | cases hr
  | halt y w' => cases y <;> simp only [Oper.upon] at h ⊢ <;> first | exact h | exact ⟨ha, h⟩
theorem asks_ds {o : Oper} {a : Act} {w : World} (h : o.asks P { a with defers := [] } w) : o.asks P a w := by
  unfold Oper.asks at *
  rw [eval_defers] at h
  exact h
theorem lets_ds (hQ : ∀ a w, Q .outgrown a w → a.defers = []) (h : LetsOut Q) : LetsOut (Qd ds Q) := by
  obtain ⟨a, w, h⟩ := h
  have := hQ a w h
  refine ⟨{ a with defers := ds }, w, rfl, ?_⟩
  obtain ⟨t, d⟩ := a
  simp only at this
  subst this
  exact h
theorem op_at_ds (hQ : ∀ a w, Q .outgrown a w → a.defers = []) (hn : ∀ (i : Nat) (o : Oper), ops[i]? = some o → qop o = true) {i : Nat} {K : Act → World → Prop} {a : Act} {w : World} (ha : a.defers = ds) (h : wpOp P ops Q i K { a with defers := [] } w) :
    wpOp P ops (Qd ds Q) i (fun a' w' => a'.defers = ds ∧ K { a' with defers := [] } w') a w := by
  unfold wpOp at *
  cases ho : ops[i]? with
  | none => simp only [ho] at h ⊢; exact ⟨ha, h⟩
  | some o =>
    simp only [ho] at h ⊢
    split
    · rename_i hw
      rw [if_pos hw] at h
      rcases h with h | h
      · exact .inl (op_ds (hn i o ho) ha h)
      · exact .inr ⟨asks_ds h.1, lets_ds hQ h.2⟩
    · rename_i hw
      rw [if_neg hw] at h
      obtain ⟨e1, e2⟩ := put_defers a o.dst undef
      rw [e2] at h
      exact ⟨e1.trans ha, h⟩
theorem any_ds (hQ : ∀ a w, Q .outgrown a w → a.defers = []) (hn : ∀ (i : Nat) (o : Oper), ops[i]? = some o → qop o = true) {md : Region.Mode} : ∀ {fuel : Nat} {listed : Array Bool} {a : Act} {w : World}, a.defers = ds → wpAny P md ops Q fuel listed { a with defers := [] } w → wpAny P md ops (Qd ds Q) fuel listed a w
  | 0, _, _, _, ha, h => ⟨h.1, ha, h.2⟩
  | fuel + 1, listed, a, w, ha, h => ⟨fun hr => ⟨ha, h.1 hr⟩, fun i hi => wpOp_mono (fun a w h => any_ds hQ hn h.1 h.2) (op_at_ds hQ hn ha (h.2 i hi))⟩
end
section
variable {P : Program} {n : Nat} {ds : List Deferred} {ops : Array Oper} {Q : Exit → Env → World → Prop} {ρ : Env} {w : World}
theorem CWD.draw (hn : ops.toList.all qop = true) (S : List Nat) (X : Nat → Prop) (t : DT) {id : Nat} (hm : P.follows .mixedOrders = true) (hB : drawB ops S t = true) (h : ∀ w', Ext w w' → DW P n ops Q S X t ρ w') : CWD P n ds (.region id ops true) Q ρ w := fun a ha => by
  simp only [drawB, Bool.and_eq_true, decide_eq_true_eq] at hB
  refine wp_mono (Q := Qd ds (lift n Q)) (wp_region_any hm ?_) ?_
  · have hs := WA.sound (Q' := lift n Q) (fun _ _ h => h) _ _ _ _ ((DW.sound hB.1.1 t [] _ ρ _ { a with defers := [] } hB.2 (h { w with drawn := w.drawn + 1 } (Ext.drew (Ext.refl w))) ha.fits).1 rfl)
    rw [hB.1.2] at hs
    exact any_ds (fun a w ⟨ρ, hf, _⟩ => hf.defers) (fun i o ho => List.all_eq_true.1 hn o (Array.mem_toList_iff.2 (Array.mem_of_getElem? ho))) ha.defers hs
  · rintro e a' w' ⟨h1, ρ', hf, hq⟩
    exact ⟨ρ', ⟨h1, hf⟩, hq⟩
end
def bodyD (P : Program) (n : Nat) (rs : Array ResultVar) (R : Ending → World → Prop) (D : Nat) : Exit → Env → World → Prop
  | .normal, ρ, w | .ret, ρ, w => w.heap[D]? = some (.deferred (some [])) ∧ ∃ v, ResOK P n rs ρ (w.putObj D (.deferred none)) v ∧ R (.returned v) (w.putObj D (.deferred none))
  | _, _, _ => False
section
variable {P : Program} {n : Nat} {fn : Func} {rs : Array ResultVar} {R : Ending → World → Prop} {ρ : Env} {w : World}
theorem post_plain (hr : fn.results = rs) {e : Exit} {a : Act} (h : lift n (bodyE P n rs R) e a w) : bodyPostM Fence.wide 1 P fn R e a w := by
  obtain ⟨ρ, hf, hq⟩ := h
  have hd := hf.defers
  cases e with
  | normal => obtain ⟨v, h1, h2⟩ := hq; simp only [bodyPostM, hd]; exact ⟨v, h1 fn a hr hf, h2⟩
  | ret => obtain ⟨v, h1, h2⟩ := hq; simp only [bodyPostM, hd]; exact ⟨v, h1 fn a hr hf, h2⟩
  | panic ch => simp only [bodyPostM, hd]; exact hq
  | outgrown => exact hq
  | exit id => exact hq.elim
  | goto l => exact hq.elim
theorem post_mark (hr : fn.results = rs) {D : Nat} {e : Exit} {a : Act} (h : liftD n [mark D] (bodyD P n rs R D) e a w) : bodyPostM Fence.wide 1 P fn R e a w := by
  obtain ⟨ρ, hf, hq⟩ := h
  have hd := hf.defers
  have key : ∀ v, w.heap[D]? = some (.deferred (some [])) → ResOK P n rs ρ (w.putObj D (.deferred none)) v → R (.returned v) (w.putObj D (.deferred none)) → LeavesInM Fence.wide 1 P fn a.tmps R [mark D] .returning w := fun v h1 h2 h3 =>
    ⟨by simp, .inl ⟨D, _, rfl, run_takeDeferred h1, v, h2 fn { a with defers := [] } hr hf.fits, h3⟩⟩
  cases e with
  | normal => obtain ⟨h1, v, h2, h3⟩ := hq; simp only [bodyPostM, hd]; exact key v h1 h2 h3
  | ret => obtain ⟨h1, v, h2, h3⟩ := hq; simp only [bodyPostM, hd]; exact key v h1 h2 h3
  | panic ch => exact hq.elim
  | outgrown => exact hq.elim
  | exit id => exact hq.elim
  | goto l => exact hq.elim
def CM (P : Program) (n : Nat) (fn : Func) (c : Code) (R : Ending → World → Prop) (ρ : Env) (w : World) : Prop := ∀ a, Fits n ρ a → c.wp P (bodyPostM Fence.wide 1 P fn R) a w
theorem CM.seq (hr : fn.results = rs) {x y : Code} (h : ∀ K : Env → World → Prop, (∀ ρ w, CM P n fn y R ρ w → K ρ w) → CW P n x (thenE K (bodyE P n rs R)) ρ w) : CM P n fn (.seq x y) R ρ w := fun a ha => by
  refine wp_seq (wp_mono (h (fun ρ w => CM P n fn y R ρ w) (fun _ _ h => h) a ha) fun e a' w' hq => ?_)
  obtain ⟨ρ', hf, hq⟩ := hq
  cases e with
  | normal => exact hq a' hf
  | exit id => exact post_plain (P := P) (n := n) (R := R) (rs := rs) (w := w') (e := .exit id) hr ⟨ρ', hf, hq⟩
  | goto l => exact post_plain (P := P) (n := n) (R := R) (rs := rs) (w := w') (e := .goto l) hr ⟨ρ', hf, hq⟩
  | ret => exact post_plain (P := P) (n := n) (R := R) (rs := rs) (w := w') (e := .ret) hr ⟨ρ', hf, hq⟩
  | panic ch => exact post_plain (P := P) (n := n) (R := R) (rs := rs) (w := w') (e := .panic ch) hr ⟨ρ', hf, hq⟩
  | outgrown => exact post_plain (P := P) (n := n) (R := R) (rs := rs) (w := w') (e := .outgrown) hr ⟨ρ', hf, hq⟩
theorem CM.sub {c : Code} (ρ' : Env) (hs : Sub ρ' ρ) (h : CM P n fn c R ρ' w) : CM P n fn c R ρ w := fun a ha => h a (ha.sub hs)
theorem CM.seqJ (hr : fn.results = rs) {x y : Code} (J : Env → World → Prop) (hJ : ∀ ρ w, J ρ w → CM P n fn y R ρ w)
    (h : ∀ K : Env → World → Prop, (∀ ρ w, CM P n fn y R ρ w → K ρ w) → (∀ ρ w, (∃ ρ', Sub ρ' ρ ∧ J ρ' w) → K ρ w) → CW P n x (thenE K (bodyE P n rs R)) ρ w) : CM P n fn (.seq x y) R ρ w :=
  CM.seq hr fun K hK => h K hK fun ρ w ⟨ρ', hs, hj⟩ => hK ρ w (CM.sub ρ' hs (hJ ρ' w hj))
/-- The last part of a statement, with what stands behind the statement. -/
def CB (P : Program) (n : Nat) (fn : Func) (b y : Code) (R : Ending → World → Prop) (ρ : Env) (w : World) : Prop := ∀ a, Fits n ρ a → b.wp P (Exit.then (y.wp P (bodyPostM Fence.wide 1 P fn R)) (bodyPostM Fence.wide 1 P fn R)) a w
theorem CB.range (hr : fn.results = rs) {w0 : World} {V Vx Va : Type} {id : Nat} {g : Operand} {ps : Array Tmp} {assign body y : Code}
    {gf : Nat} {lb : Array Value} (hg : ev ρ g = some (.func (.func gf) #[] lb)) (eg : ∀ args w, (callFunc gf args).run P w = .ok (.enter gf args) w)
    {xs : List (Array Value)} (hps : ∀ x ∈ xs, x.size = ps.size) (hpn : ∀ p ∈ ps.toList, p < n) {Rd : World → Prop} (hit : Iter P gf lb xs Rd)
    (Φ : Nat → V → Prop) (Lv : V → List Ck) (Φa : Nat → Va → Env → Prop) (La : Va → List Ck) (Ψ : Vx → Prop) (Lx : Vx → List Ck)
    (hRd : ∀ i v W X, Φ i v → Hp w0 W (Lv v ++ [X]) → Rd W) (v0 : V) (h0 : Φ 0 v0) (H : Hp w0 w (Lv v0))
    (hassign : ∀ r i v W X x, Φ i v → xs[i]? = some x → Hp w0 W (Lv v ++ [X]) → CR P r 1 n assign (fun e ρ' W' => e = .normal ∧ ∃ v', Φa i v' ρ' ∧ Hp w0 W' (La v' ++ [X])) (penv ps.toList x.toList ρ) W)
    (hbody : ∀ r i v ρ' W X, Φa i v ρ' → Hp w0 W (La v ++ [X]) → CR P r 1 n body (rpost w0 Φ Lv Ψ Lx i X) ρ' W)
    (hdone : ∀ D v W, Φ xs.length v → Hp w0 W (Lv v ++ [dck D]) → CWD P n [mark D] y (bodyD P n rs R D) ρ W)
    (hret : ∀ D v W, Ψ v → Hp w0 W (Lx v ++ [dck D]) → bodyD P n rs R D .ret ρ W) :
    CB P n fn (.block id (.rangeFunc g ps assign body)) y R ρ w := fun a ha => by
  have hfd : ∀ D, FitsD n [mark D] ρ { a with defers := [mark D] } := fun D => ⟨rfl, by
    obtain ⟨t, d⟩ := a
    have := ha.defers
    simp only at this
    subst this
    exact ha⟩
  refine wp_block (wp_range ha hg eg hps hpn hit Φ Lv Φa La Ψ Lx hRd v0 h0 H hassign hbody (fun D v W hv HW => ?_) (fun D v W hv HW => ?_))
  · show y.wp P (bodyPostM Fence.wide 1 P fn R) _ W
    exact wp_mono (hdone D v W hv HW _ (hfd D)) fun e a' w' h => post_mark hr h
  · exact post_mark hr (D := D) ⟨ρ, hfd D, hret D v W hv HW⟩
end
end Go.Tb

set_option linter.unusedVariables false
set_option linter.unusedSimpArgs false
namespace Go.Tb
open Go.RowKit
def LI (P : Program) (m n : Nat) (ops : Array Oper) (Q : Exit → Env → World → Prop) (l : List Oper) (ρ : Env) (w : World) : Prop := ∀ a, Fits n ρ a → wpListIn Fence.wide m P ops (lift n Q) l a w
section
variable {P : Program} {m n : Nat} {ops : Array Oper} {Q : Exit → Env → World → Prop} {ρ : Env} {w : World} {d : Option Tmp} {ty : TypeId} {pos : String} {after : Array Edge}
theorem LI.nil (h : Q .normal ρ w) : LI P m n ops Q [] ρ w := fun _ ha => wpListIn_nil ⟨ρ, ha, h⟩
theorem LI.pure {o : Oper} {rest : List Oper} {v : Value} (hg : o.guard = none) (hd : okDst n o.dst = true) (h : RV P n o ρ w v) (k : LI P m n ops Q rest (upd ρ o.dst v) w) : LI P m n ops Q (o :: rest) ρ w := fun a ha => by
  unfold wpListIn
  rw [if_pos (by simp [Region.wanted, hg])]
  refine ⟨fun _ _ => trivial, ?_⟩
  show o.uponIn Fence.wide m P a _ _ ((o.semAt none a.eval).run P w)
  rw [Oper.semAt_none, h a ha]
  exact k _ (ha.upd hd v)
theorem LI.yield {rest : List Oper} {x : Operand} {args : List Operand} {tys : Array TypeId} {vs : List Value} {r : Nat} {R : Ending → World → Prop} (hd : okDst n d = true) (hx : ev ρ x = some (.func (.yield r) #[] #[])) (hv : evs ρ args = some vs)
    (hy : YieldAt Fence.wide m P r vs.toArray w R) (k : ∀ e w', R e w' → ∃ v, e = .returned v ∧ LI P (m + 1) n ops Q rest (upd ρ d v) w') : LI P (m + 1) n ops Q (⟨d, .call ⟨.value x, args.toArray, tys⟩, ty, pos, after, none⟩ :: rest) ρ w := fun a ha => by
  unfold wpListIn
  rw [if_pos (by simp [Region.wanted])]
  refine ⟨fun _ _ => trivial, ?_⟩
  obtain ⟨fn, tmps, assign, body, hy, hR⟩ := hy
  have he : (execOp a.eval ⟨d, .call ⟨.value x, args.toArray, tys⟩, ty, pos, after, none⟩).run P w = .ok (.round r fn tmps assign body) w := by
    simp only [execOp, resolve, ha.ev hx, Deferred.ofValue, Sem.run_bind, Sem.run_pure, Result.andThen_ok]
    simp only [invoke, List.map_toArray, ha.evs hv]
    simpa using hy
  show Oper.uponIn Fence.wide (m + 1) P _ a _ _ ((Oper.semAt none a.eval _).run P w)
  rw [Oper.semAt_none, he, Oper.uponIn_round]
  refine ⟨(fun h => by cases h), hR.mono fun e w' h => ?_⟩
  obtain ⟨v, rfl, h2⟩ := k e w' h
  exact h2 _ (ha.upd hd v)
end
end Go.Tb

namespace Go.Tb
theorem drop_at {α : Type} {l : List α} {i : Nat} {p : α} (h : l[i]? = some p) : l.drop i = p :: l.drop (i + 1) := by
  obtain ⟨hlt, rfl⟩ := List.getElem?_eq_some_iff.1 h
  exact List.drop_eq_getElem_cons hlt
end Go.Tb

set_option linter.unusedVariables false
set_option linter.unusedSimpArgs false
namespace Go.D4u
open Go.Tb Go.Proofs Go.RowKit
theorem Tk22 : tyK Try.prog 22 = some (false, 1) := by kernel_rfl
theorem Ts22 : tyS Try.prog 22 = some (25, 1, 24, [.slice none 0 0]) := by kernel_rfl
theorem Tk25 : tyK Try.prog 25 = some (false, 1) := by kernel_rfl
end Go.D4u

set_option linter.unusedVariables false
set_option linter.unusedSimpArgs false
namespace Go.D4
open Go.Tb
theorem eqB_iff (x y : Block) : eqBlock x y = true ↔ x = y := by
  cases x; cases y
  simp [eqBlock]
section
variable {κ ν : Type} {eq : κ → κ → Bool} (hs : ∀ x y, eq x y = true ↔ x = y)
include hs
theorem mset_map : ∀ (m : List (κ × ν)) (x : κ) (v : ν), (m.map (·.1)).Nodup → x ∈ m.map (·.1) → mset eq m x v = m.map fun p => if eq x p.1 = true then (p.1, v) else p
  | [], x, v, _, hx => by simp at hx
  | p :: m, x, v, hn, hx => by
    have hn' := List.nodup_cons.1 hn
    unfold mset
    by_cases h : eq x p.1 = true
    · rw [if_pos h, List.map_cons, if_pos h]
      congr 1
      have hxp := (hs _ _).1 h
      have hid : m.map (fun q => if eq x q.1 = true then (q.1, v) else q) = m.map id := List.map_congr_left fun q hq => by
        by_cases h2 : eq x q.1 = true
        · have := (hs _ _).1 h2
          exact absurd (List.mem_map.2 ⟨q, hq, by rw [← this, hxp]⟩) hn'.1
        · rw [if_neg h2]; rfl
      rw [hid, List.map_id]
    · rw [if_neg h, List.map_cons, if_neg h]
      have hx' : x ∈ m.map (·.1) := by
        rcases List.mem_cons.1 hx with h2 | h2
        · exact absurd ((hs _ _).2 h2) h
        · exact h2
      rw [mset_map m x v hn'.2 hx']
theorem mget_mem : ∀ (m : List (κ × ν)) (x : κ) (v : ν), (m.map (·.1)).Nodup → (x, v) ∈ m → mget eq m x = some v
  | p :: m, x, v, hn, hx => by
    have hn' := List.nodup_cons.1 hn
    unfold mget
    by_cases h : eq x p.1 = true
    · rw [if_pos h]
      rcases List.mem_cons.1 hx with h2 | h2
      · rw [← h2]
      · have hxp := (hs _ _).1 h
        exact absurd (List.mem_map.2 ⟨(x, v), h2, hxp⟩) hn'.1
    · rw [if_neg h]
      rcases List.mem_cons.1 hx with h2 | h2
      · exact absurd ((hs _ _).2 (by rw [← h2])) h
      · exact mget_mem m x v hn'.2 h2
theorem mset_new : ∀ (m : List (κ × ν)) (x : κ) (v : ν), x ∉ m.map (·.1) → mset eq m x v = m ++ [(x, v)]
  | [], x, v, _ => rfl
  | p :: m, x, v, hx => by
    rw [List.map_cons, List.mem_cons, not_or] at hx
    unfold mset
    rw [if_neg (fun h => hx.1 ((hs _ _).1 h)), mset_new m x v hx.2]; rfl
end
/-- The map of a table: columns one after another, each from above. -/
def colM (t : Nat → Nat → Int) (c : Nat) (d : Nat) : List (Block × Int) := (List.range d).map fun (r : Nat) => ((⟨(c : Int), (r : Int)⟩ : Block), t c r)
def mapM (t : Nat → Nat → Int) (n d : Nat) : List (Block × Int) := (List.range n).flatMap fun c => colM t c d
def updM (t : Nat → Nat → Int) (c r : Nat) (v : Int) : Nat → Nat → Int := fun c' r' => if c' = c ∧ r' = r then v else t c' r'
theorem mem_mapM {t : Nat → Nat → Int} {n d : Nat} {p : Block × Int} : p ∈ mapM t n d ↔ ∃ c r, c < n ∧ r < d ∧ p = (⟨(c : Int), (r : Int)⟩, t c r) := by
  unfold mapM colM
  rw [List.mem_flatMap]
  constructor
  · rintro ⟨c, hc, h⟩
    obtain ⟨r, hr, rfl⟩ := List.mem_map.1 h
    exact ⟨c, r, List.mem_range.1 hc, List.mem_range.1 hr, rfl⟩
  · rintro ⟨c, r, hc, hr, rfl⟩
    exact ⟨c, List.mem_range.2 hc, List.mem_map.2 ⟨r, List.mem_range.2 hr, rfl⟩⟩
theorem mapM_nodup (t : Nat → Nat → Int) (n d : Nat) : ((mapM t n d).map (·.1)).Nodup := by
  induction n with
  | zero => simp [mapM]
  | succ n ih =>
    have e : mapM t (n + 1) d = mapM t n d ++ colM t n d := by unfold mapM; rw [List.range_succ, List.flatMap_append]; simp
    rw [e, List.map_append, List.nodup_append]
    refine ⟨ih, ?_, ?_⟩
    · unfold colM
      rw [List.map_map]
      have : ((fun x : Block × Int => x.1) ∘ fun r : Nat => ((⟨(n : Int), (r : Int)⟩ : Block), t n r)) = fun r : Nat => (⟨(n : Int), (r : Int)⟩ : Block) := rfl
      rw [this]
      unfold List.Nodup
      rw [List.pairwise_map]
      refine List.Pairwise.imp ?_ List.nodup_range
      intro a b hab h
      have := congrArg Block.row h
      simp only at this
      omega
    · intro a ha b hb hab
      obtain ⟨p, hp, rfl⟩ := List.mem_map.1 ha
      obtain ⟨q, hq, rfl⟩ := List.mem_map.1 hb
      obtain ⟨c, r, hc, hr, rfl⟩ := mem_mapM.1 hp
      unfold colM at hq
      obtain ⟨r', hr', rfl⟩ := List.mem_map.1 hq
      have := congrArg Block.column hab
      simp only at this
      omega
theorem mapM_get {t : Nat → Nat → Int} {n d c r : Nat} (hc : c < n) (hr : r < d) : mget eqBlock (mapM t n d) ⟨(c : Int), (r : Int)⟩ = some (t c r) :=
  mget_mem eqB_iff _ _ _ (mapM_nodup t n d) (mem_mapM.2 ⟨c, r, hc, hr, rfl⟩)
theorem mapM_set {t : Nat → Nat → Int} {n d c r : Nat} (hc : c < n) (hr : r < d) (v : Int) : mset eqBlock (mapM t n d) ⟨(c : Int), (r : Int)⟩ v = mapM (updM t c r v) n d := by
  rw [mset_map eqB_iff _ _ _ (mapM_nodup t n d) (List.mem_map.2 ⟨_, mem_mapM.2 ⟨c, r, hc, hr, rfl⟩, rfl⟩)]
  unfold mapM
  rw [List.map_flatMap]
  congr 1
  funext c'
  unfold colM
  rw [List.map_map]
  congr 1
  funext r'
  simp only [Function.comp]
  unfold updM
  by_cases h : c' = c ∧ r' = r
  · rw [if_pos ((eqB_iff _ _).2 (by rw [h.1, h.2])), if_pos h]
  · rw [if_neg (fun e => h (by
      have e' := (eqB_iff _ _).1 e
      have e1 := congrArg Block.column e'
      have e2 := congrArg Block.row e'
      simp only at e1 e2
      omega)), if_neg h]
end Go.D4

set_option linter.unusedVariables false
set_option linter.unusedSimpArgs false
namespace Go.D4
open Go.Tb
def s1 (f : Nat → Int) (n : Nat) : Int := ((List.range n).map f).sum
theorem s1_succ (f : Nat → Int) (n : Nat) : s1 f (n + 1) = s1 f n + f n := by
  unfold s1
  rw [List.range_succ, List.map_append, List.sum_append]
  simp
theorem s1_congr {f f' : Nat → Int} : ∀ {n : Nat}, (∀ i, i < n → f' i = f i) → s1 f' n = s1 f n
  | 0, _ => rfl
  | n + 1, h => by rw [s1_succ, s1_succ, s1_congr (fun i hi => h i (by omega)), h n (by omega)]
theorem s1_one {f f' : Nat → Int} {k : Nat} (h : ∀ i, i ≠ k → f' i = f i) : ∀ {n : Nat}, k < n → s1 f' n = s1 f n + (f' k - f k)
  | n + 1, hk => by
    rw [s1_succ, s1_succ]
    by_cases e : k = n
    · subst e
      rw [s1_congr (f := f) (f' := f') fun i hi => h i (by omega)]
      omega
    · rw [s1_one h (n := n) (by omega), h n (fun e' => e e'.symm)]
      omega
theorem s1_le {f g : Nat → Int} : ∀ {n : Nat}, (∀ i, i < n → f i ≤ g i) → s1 f n ≤ s1 g n
  | 0, _ => Int.le_refl _
  | n + 1, h => by
    rw [s1_succ, s1_succ]
    have := s1_le (n := n) fun i hi => h i (by omega)
    have := h n (by omega)
    omega
def s2 (f : Nat → Nat → Int) (n d : Nat) : Int := s1 (fun c => s1 (f c) d) n
theorem s2_one {f f' : Nat → Nat → Int} {k l n d : Nat} (hk : k < n) (hl : l < d) (h : ∀ c r, ¬ (c = k ∧ r = l) → f' c r = f c r) : s2 f' n d = s2 f n d + (f' k l - f k l) := by
  unfold s2
  rw [s1_one (f := fun c => s1 (f c) d) (f' := fun c => s1 (f' c) d) (k := k) (fun c hc => s1_congr fun r _ => h c r (fun e => hc e.1)) hk]
  rw [s1_one (f := f k) (f' := f' k) (k := l) (fun r hr => h k r (fun e => hr e.2)) hl]
  omega
theorem s2_le {f g : Nat → Nat → Int} {n d : Nat} (h : ∀ c r, c < n → r < d → f c r ≤ g c r) : s2 f n d ≤ s2 g n d :=
  s1_le fun c hc => s1_le fun r hr => h c r hc hr
theorem posSum_map (t : Nat → Nat → Int) (n d : Nat) : posSum (mapM t n d) = s2 (fun c r => max 0 (t c r)) n d := by
  induction n with
  | zero => rfl
  | succ n ih =>
    have e : mapM t (n + 1) d = mapM t n d ++ colM t n d := by unfold mapM; rw [List.range_succ, List.flatMap_append]; simp
    have e2 : s2 (fun c r => max 0 (t c r)) (n + 1) d = s2 (fun c r => max 0 (t c r)) n d + s1 (fun r => max 0 (t n r)) d := s1_succ _ n
    rw [e, e2, ← ih]
    unfold posSum
    rw [List.map_append, List.sum_append]
    congr 1
    unfold colM s1
    rw [List.map_map]; rfl
/-- What a table holds where a hollow has dug. -/
def dug (h : Nat → Nat) (t : Nat → Nat → Int) (n d : Nat) : Int := s2 (fun c r => if r < h c then t c r else 0) n d
/-- What a pass leaves. -/
def passM (t : Nat → Nat → Int) (c r c2 : Nat) (a : Int) : Nat → Nat → Int := updM (updM t c r (t c r - a)) c2 (r - 1) (updM t c r (t c r - a) c2 (r - 1) + a)
theorem dug_upd {h : Nat → Nat} {t : Nat → Nat → Int} {n d c r : Nat} (hc : c < n) (hr : r < d) (v : Int) : dug h (updM t c r v) n d = dug h t n d + (if r < h c then v - t c r else 0) := by
  unfold dug
  rw [s2_one (f := fun c r => if r < h c then t c r else 0) hc hr fun c' r' hne => by
    simp only [updM]
    rw [if_neg hne]]
  simp only [updM, and_self, if_true]
  split <;> omega
theorem dug_pass {h : Nat → Nat} {t : Nat → Nat → Int} {n d c r c2 : Nat} {a : Int} (hc : c < n) (hr : r < d) (hr1 : 1 ≤ r) (hc2 : c2 < n) (ha : 0 ≤ a) (hh : r < h c → r - 1 < h c2) : dug h t n d ≤ dug h (passM t c r c2 a) n d := by
  unfold passM
  rw [dug_upd hc2 (by omega), dug_upd hc hr]
  by_cases h1 : r < h c
  · rw [if_pos h1, if_pos (hh h1)]; omega
  · rw [if_neg h1]
    split <;> omega
theorem dug_le {h : Nat → Nat} {t : Nat → Nat → Int} {n d : Nat} : dug h t n d ≤ s2 (fun c r => max 0 (t c r)) n d :=
  s2_le fun c r _ _ => by split <;> omega
end Go.D4

set_option linter.unusedVariables false
set_option linter.unusedSimpArgs false
namespace Go.D4
open Go.Tb
def passOk (b : Bog) (p : Pass) : Bool := within p.column 0 ((b.worth.length : Int) - 1) && within p.row 1 (dep b - 1) && within p.to_ 0 ((b.worth.length : Int) - 1) && within (p.to_ - p.column) (-1) 1
def passE (b : Bog) (p : Pass) : Int := if passOk b p = true then (if within p.amount 1 1000 = true then 0 else 1) else 4
theorem isPass_eq {b : Bog} (hb : Ok b) (p : Pass) : cut_isPass b p = some (passE b p) := by
  have h6 := hb.n6
  have h1 := hb.n1
  have d1 := hb.d1
  have d4 := hb.d4
  have k1 : ∀ t, cut_isPass_k1 p t = some (if t = true then 4 else (if within p.amount 1 1000 = true then 0 else 1)) := fun t => by
    unfold cut_isPass_k1
    cases t
    · rw [if_neg (by simp), bnd_eq (from_eq _ _ _)]
      simp
      split <;> rfl
    · rfl
  unfold cut_isPass passE passOk
  rw [gd_pos (by omega), bnd_eq (from_eq _ _ _)]
  cases g1 : within p.column 0 ((b.worth.length : Int) - 1)
  · rw [if_neg (by simp), k1]; simp
  have w1 := within_iff.1 g1
  rw [if_pos rfl, bnd_eq (depth_eq h1), gd_pos (by omega), bnd_eq (from_eq _ _ _)]
  cases g2 : within p.row 1 (dep b - 1)
  · rw [if_neg (by simp), k1]; simp
  rw [if_pos rfl, gd_pos (by omega), bnd_eq (from_eq _ _ _)]
  cases g3 : within p.to_ 0 ((b.worth.length : Int) - 1)
  · rw [if_neg (by simp), k1]; simp
  have w3 := within_iff.1 g3
  rw [if_pos rfl, gd_pos (by omega), bnd_eq (from_eq _ _ _), k1]
  cases g4 : within (p.to_ - p.column) (-1) 1 <;> simp
theorem passE_0 {b : Bog} {p : Pass} (h : passE b p = 0) : (0 ≤ p.column ∧ p.column < (b.worth.length : Int)) ∧ (1 ≤ p.row ∧ p.row < dep b) ∧ (0 ≤ p.to_ ∧ p.to_ < (b.worth.length : Int)) ∧ (-1 ≤ p.to_ - p.column ∧ p.to_ - p.column ≤ 1) ∧ 1 ≤ p.amount ∧ p.amount ≤ 1000 := by
  unfold passE at h
  split at h
  · rename_i g
    unfold passOk at g
    simp only [Bool.and_eq_true, within_iff] at g
    split at h
    · rename_i g2
      have := within_iff.1 g2
      omega
    · omega
  · omega
def runP (b : Bog) : (Nat → Nat → Int) → List Pass → (Nat → Nat → Int) × Int
  | t, [] => (t, 0)
  | t, p :: l => if passE b p = 0 then runP b (passM t p.column.toNat p.row.toNat p.to_.toNat p.amount) l else (t, passE b p)
def sumP (b : Bog) (t : Nat → Nat → Int) : Int := s2 (fun c r => max 0 (t c r)) b.worth.length (dep b).toNat
def proofL (b : Bog) (t : Nat → Nat → Int) (l : List Pass) : Int × Int := if (runP b t l).2 = 0 then (sumP b (runP b t l).1, 0) else (0, (runP b t l).2)
theorem passM_bd {t : Nat → Nat → Int} {c r c2 : Nat} {a B : Int} (hr : 1 ≤ r) (ha : 0 ≤ a ∧ a ≤ 1000) (hB : ∀ c r, -B ≤ t c r ∧ t c r ≤ B) : ∀ c' r', -(B + 1000) ≤ passM t c r c2 a c' r' ∧ passM t c r c2 a c' r' ≤ B + 1000 := by
  intro c' r'
  have h1 := hB c' r'
  have h2 := hB c r
  have h3 := hB c2 (r - 1)
  unfold passM updM
  split
  · rw [if_neg (by omega)]; omega
  · split <;> omega
theorem mapM_len (t : Nat → Nat → Int) (n d : Nat) : (mapM t n d).length = n * d := by
  induction n with
  | zero => simp [mapM]
  | succ n ih =>
    have e : mapM t (n + 1) d = mapM t n d ++ colM t n d := by unfold mapM; rw [List.range_succ, List.flatMap_append]; simp
    rw [e, List.length_append, ih, Nat.succ_mul]
    simp [colM]
theorem core_passes {b : Bog} (hb : Ok b) (l : List Pass) (hl : l.length ≤ 60) : ∀ (dd k i : Nat) (t : Nat → Nat → Int), l.length = i + dd → dd < k → (∀ c r, -(50 + 1000 * (i : Int)) ≤ t c r ∧ t c r ≤ 50 + 1000 * (i : Int)) →
    cut_CheckProof_L1 b l k (i : Int) (mapM t b.worth.length (dep b).toNat) = some (proofL b t (l.drop i)) := by
  have h6 := hb.n6
  have h1 := hb.n1
  have d1 := hb.d1
  have d4 := hb.d4
  intro dd
  induction dd with
  | zero =>
    intro k i t hi hk hB
    obtain ⟨k, rfl⟩ : ∃ k', k = k' + 1 := ⟨k - 1, by omega⟩
    show cut_CheckProof_B1 b l (cut_CheckProof_L1 b l k) _ _ = _
    have hlen : b.worth.length * (dep b).toNat ≤ 1000 := Nat.le_trans (Nat.mul_le_mul (show b.worth.length ≤ 6 by omega) (show (dep b).toNat ≤ 4 by omega)) (by decide)
    unfold cut_CheckProof_B1 cut_CheckProof_k1
    rw [if_neg (by omega), gd_pos ⟨by rw [mapM_len]; exact hlen, fun p hp => by
      obtain ⟨c, r, _, _, rfl⟩ := mem_mapM.1 hp
      have := hB c r
      simp only
      omega⟩, posSum_map, List.drop_of_length_le (by omega)]
    rfl
  | succ dd ih =>
    intro k i t hi hk hB
    obtain ⟨k, rfl⟩ : ∃ k', k = k' + 1 := ⟨k - 1, by omega⟩
    obtain ⟨p, hp⟩ := ex_at (l := l) (j := i) (by omega)
    show cut_CheckProof_B1 b l (cut_CheckProof_L1 b l k) _ _ = _
    rw [Tb.drop_at hp]
    unfold cut_CheckProof_B1 proofL runP
    rw [if_pos (by omega), ix_nat hp, bnd_eq (isPass_eq hb p)]
    by_cases he : passE b p = 0
    · obtain ⟨c1, c2, c3, c4, c5⟩ := passE_0 he
      have q1 : (⟨p.column, p.row⟩ : Block) = ⟨((p.column.toNat : Nat) : Int), ((p.row.toNat : Nat) : Int)⟩ := by
        rw [show ((p.column.toNat : Nat) : Int) = p.column by omega, show ((p.row.toNat : Nat) : Int) = p.row by omega]
      have q2 : (⟨p.to_, p.row - 1⟩ : Block) = ⟨((p.to_.toNat : Nat) : Int), ((p.row.toNat - 1 : Nat) : Int)⟩ := by
        rw [show ((p.to_.toNat : Nat) : Int) = p.to_ by omega, show ((p.row.toNat - 1 : Nat) : Int) = p.row - 1 by omega]
      have g1 := mapM_get (t := t) (n := b.worth.length) (d := (dep b).toNat) (c := p.column.toNat) (r := p.row.toNat) (by omega) (by omega)
      have b1 := hB p.column.toNat p.row.toNat
      have s1' := mapM_set (t := t) (n := b.worth.length) (d := (dep b).toNat) (c := p.column.toNat) (r := p.row.toNat) (by omega) (by omega) (t p.column.toNat p.row.toNat - p.amount)
      have g2 := mapM_get (t := updM t p.column.toNat p.row.toNat (t p.column.toNat p.row.toNat - p.amount)) (n := b.worth.length) (d := (dep b).toNat) (c := p.to_.toNat) (r := p.row.toNat - 1) (by omega) (by omega)
      have s2' := mapM_set (t := updM t p.column.toNat p.row.toNat (t p.column.toNat p.row.toNat - p.amount)) (n := b.worth.length) (d := (dep b).toNat) (c := p.to_.toNat) (r := p.row.toNat - 1) (by omega) (by omega) (updM t p.column.toNat p.row.toNat (t p.column.toNat p.row.toNat - p.amount) p.to_.toNat (p.row.toNat - 1) + p.amount)
      have hx : updM t p.column.toNat p.row.toNat (t p.column.toNat p.row.toNat - p.amount) p.to_.toNat (p.row.toNat - 1) = t p.to_.toNat (p.row.toNat - 1) := by
        unfold updM; rw [if_neg (by omega)]
      have b2 := hB p.to_.toNat (p.row.toNat - 1)
      rw [if_pos he, if_pos he]
      unfold cut_CheckProof_k2
      simp only [q1, q2, g1, Option.getD_some, s1', g2, s2']
      rw [gd_pos (by omega), gd_pos (by omega), gd_pos (by rw [hx]; omega), gd_pos (by omega)]
      have := ih k (i + 1) (passM t p.column.toNat p.row.toNat p.to_.toNat p.amount) (by omega) (by omega) (fun c r => by
        have := passM_bd (t := t) (c := p.column.toNat) (r := p.row.toNat) (c2 := p.to_.toNat) (a := p.amount) (B := 50 + 1000 * (i : Int)) (by omega) (by omega) hB c r
        omega)
      exact this
    · rw [if_neg he, if_neg he, if_neg he]
end Go.D4

set_option linter.unusedVariables false
set_option linter.unusedSimpArgs false
namespace Go.D4
open Go.Tb
def tab0 (b : Bog) (c r : Nat) : Int := (b.worth.getD c []).getD r 0
def proofE (b : Bog) (l : List Pass) : Int × Int := if validate b = 0 then (if 60 < l.length then (0, 3) else proofL b (tab0 b) l) else (0, validate b)
theorem tab0_bd {b : Bog} (hb : Ok b) (c r : Nat) : -50 ≤ tab0 b c r ∧ tab0 b c r ≤ 50 := by
  unfold tab0
  simp only [List.getD_eq_getElem?_getD]
  cases hc : b.worth[c]? with
  | none => simp
  | some x =>
    simp only [Option.getD_some]
    cases hr : x[r]? with
    | none => simp
    | some v =>
      have := (hb.col x (List.mem_of_getElem? hc)).2 v (List.mem_of_getElem? hr)
      simpa using this
theorem colM_succ (t : Nat → Nat → Int) (c r : Nat) : colM t c (r + 1) = colM t c r ++ [(⟨(c : Int), (r : Int)⟩, t c r)] := by
  unfold colM
  rw [List.range_succ, List.map_append]; rfl
theorem mapM_succ (t : Nat → Nat → Int) (n d : Nat) : mapM t (n + 1) d = mapM t n d ++ colM t n d := by
  unfold mapM; rw [List.range_succ, List.flatMap_append]; simp
theorem new_key (t : Nat → Nat → Int) (c d r : Nat) : (⟨(c : Int), (r : Int)⟩ : Block) ∉ ((mapM t c d ++ colM t c r).map (·.1)) := by
  intro h
  obtain ⟨p, hp, e⟩ := List.mem_map.1 h
  rcases List.mem_append.1 hp with h1 | h1
  · obtain ⟨c', r', hc, _, rfl⟩ := mem_mapM.1 h1
    have := congrArg Block.column e
    simp only at this
    omega
  · unfold colM at h1
    obtain ⟨r', hr, rfl⟩ := List.mem_map.1 h1
    have h2 := List.mem_range.1 hr
    have := congrArg Block.row e
    simp only at this
    omega
theorem CheckProof_eq {b : Bog} (hs : Short b) (l : List Pass) (hl : l.length ≤ 1000) : cut_CheckProof b l = some (proofE b l) := by
  unfold cut_CheckProof proofE
  rw [bnd_eq (Validate_eq hs)]
  by_cases hv : validate b = 0
  · have hb := val0.1 hv
    have h6 := hb.n6
    have d1 := hb.d1
    have d4 := hb.d4
    rw [if_pos hv, if_pos hv]
    by_cases h60 : 60 < l.length
    · rw [if_pos (by omega), if_pos h60]
    rw [if_neg (by omega), if_neg h60]
    have last : cut_CheckProof_k3 b l (mapM (tab0 b) b.worth.length (dep b).toNat) = some (proofL b (tab0 b) l) :=
      core_passes hb l (by omega) l.length FU 0 (tab0 b) (by omega) (by have := FU_pos; omega) (fun c r => by have := tab0_bd hb c r; omega)
    rw [← last]
    refine for_loop0 b.worth.length (fun c => mapM (tab0 b) c (dep b).toNat) (fun n m c => cut_CheckProof_L3 b l n c m) _ (fun n c hc => ?_) (fun n => ?_) (by omega)
    · obtain ⟨x, hx⟩ := ex_at (l := b.worth) (j := c) hc
      have hxl := (hb.col x (List.mem_of_getElem? hx)).1
      show cut_CheckProof_B3 b l (cut_CheckProof_L3 b l n) _ _ = _
      unfold cut_CheckProof_B3
      rw [if_pos (by omega), ix_nat hx]
      generalize hR : cut_CheckProof_L3 b l n = rec2
      have h := for_loop0 (dep b).toNat (fun r => mapM (tab0 b) c (dep b).toNat ++ colM (tab0 b) c r) (fun k m r => cut_CheckProof_L2 (c : Int) rec2 x k r m) (cut_CheckProof_k4 (c : Int) rec2 (mapM (tab0 b) (c + 1) (dep b).toNat)) (fun k r hr => ?_) (fun k => ?_) (by omega)
      · have h' : cut_CheckProof_L2 (c : Int) rec2 x FU 0 (mapM (tab0 b) c (dep b).toNat ++ colM (tab0 b) c 0) = _ := h
        rw [show mapM (tab0 b) c (dep b).toNat ++ colM (tab0 b) c 0 = mapM (tab0 b) c (dep b).toNat from List.append_nil _] at h'
        rw [h']
        unfold cut_CheckProof_k4
        rw [gd_pos (by omega), ← hR]; rfl
      · obtain ⟨v, hv'⟩ := ex_at (l := x) (j := r) (by omega)
        have ht : tab0 b c r = v := by simp [tab0, List.getD, hx, hv']
        show cut_CheckProof_B2 (c : Int) rec2 x (cut_CheckProof_L2 (c : Int) rec2 x k) _ _ = _
        unfold cut_CheckProof_B2
        rw [if_pos (by omega), ix_nat hv', gd_pos (by omega), mset_new eqB_iff _ _ _ (new_key (tab0 b) c (dep b).toNat r), List.append_assoc]
        simp only [colM_succ, ht]; rfl
      · show cut_CheckProof_B2 (c : Int) rec2 x (cut_CheckProof_L2 (c : Int) rec2 x k) _ _ = _
        unfold cut_CheckProof_B2
        rw [if_neg (by omega), ← mapM_succ]
    · show cut_CheckProof_B3 b l (cut_CheckProof_L3 b l n) _ _ = _
      unfold cut_CheckProof_B3
      rw [if_neg (by omega)]
  · rw [if_neg hv, if_neg hv]
end Go.D4

set_option linter.unusedVariables false
set_option linter.unusedSimpArgs false
namespace Go.D4
open Go.Tb
theorem isum_snoc (l : List Int) (x : Int) : isum (l ++ [x]) = isum l + x := by
  induction l with
  | nil => simp [isum]
  | cons y l ih =>
    have e1 : isum (y :: l ++ [x]) = y + isum (l ++ [x]) := rfl
    have e2 : isum (y :: l) = y + isum l := rfl
    rw [e1, e2, ih]; omega
theorem take_s1 (x : List Int) (d : Nat) (hd : x.length = d) : ∀ k, k ≤ d → isum (x.take k) = s1 (fun r => if r < k then x.getD r 0 else 0) d
  | 0, _ => by
    have : s1 (fun r => if r < 0 then x.getD r 0 else 0) d = s1 (fun _ => 0) d := s1_congr fun i _ => by simp
    rw [this]
    have z : ∀ n, s1 (fun _ => (0 : Int)) n = 0 := fun n => by
      induction n with
      | zero => rfl
      | succ n ih => rw [s1_succ, ih]; rfl
    rw [z]; rfl
  | k + 1, hk => by
    obtain ⟨v, hv⟩ := ex_at (l := x) (j := k) (by omega)
    have ih := take_s1 x d hd k (by omega)
    have e := s1_one (f := fun r => if r < k then x.getD r 0 else 0) (f' := fun r => if r < k + 1 then x.getD r 0 else 0) (k := k) (fun i hi => by
      by_cases h : i < k
      · simp only [h, if_true]; rw [if_pos (by omega)]
      · simp only [h, if_false]; rw [if_neg (by omega)]) (n := d) (by omega)
    rw [e, ← ih, List.take_add_one, hv]
    show isum (x.take k ++ [v]) = _
    rw [isum_snoc]
    simp [List.getD, hv]
theorem wsum_dug {b : Bog} (hb : Ok b) {h : List Int} (ho : okL b h = true) : wsum b h h.length = dug (fun c => (gi h c).toNat) (tab0 b) b.worth.length (dep b).toNat := by
  obtain ⟨hl, hr⟩ := okL_iff.1 ho
  have key : ∀ n, n ≤ b.worth.length → wsum b h n = s1 (fun c => s1 (fun r => if r < (gi h c).toNat then tab0 b c r else 0) (dep b).toNat) n := by
    intro n
    induction n with
    | zero => intro _; rfl
    | succ n ih =>
      intro hn
      obtain ⟨x, hx⟩ := ex_at (l := b.worth) (j := n) (by omega)
      obtain ⟨v, hv⟩ := ex_at (l := h) (j := n) (by omega)
      have hc := hb.col x (List.mem_of_getElem? hx)
      have hvr := hr v (List.mem_of_getElem? hv)
      have d1 := hb.d1
      rw [s1_succ, ← ih (by omega)]
      show wsum b h n + colW b n (gi h n) = _
      rw [gi_of hv, col_of hx, take_s1 x (dep b).toNat (by omega) v.toNat (by omega)]
      congr 1
      exact s1_congr fun r _ => by simp [tab0, List.getD, hx]
  rw [hl]
  exact key _ (Nat.le_refl _)
theorem right_step {h : List Int} (hr : rightB h = true) {c c2 : Nat} (h1 : c < h.length) (h2 : c2 < h.length) (hd : (c2 : Int) - (c : Int) ≤ 1 ∧ -1 ≤ (c2 : Int) - (c : Int)) : gi h c - 1 ≤ gi h c2 := by
  unfold rightB at hr
  rw [decide_eq_true_eq] at hr
  have : c2 = c ∨ c2 = c + 1 ∨ c = c2 + 1 := by omega
  rcases this with rfl | rfl | rfl
  · omega
  · have := within_iff.1 (hr (c + 1) h2 (by omega))
    simp only [Nat.add_sub_cancel] at this
    omega
  · have := within_iff.1 (hr (c2 + 1) h1 (by omega))
    simp only [Nat.add_sub_cancel] at this
    omega
theorem run_dug {b : Bog} (hb : Ok b) {h : List Int} (ho : okL b h = true) (hr : rightB h = true) : ∀ (l : List Pass) (t : Nat → Nat → Int), (runP b t l).2 = 0 →
    dug (fun c => (gi h c).toNat) t b.worth.length (dep b).toNat ≤ dug (fun c => (gi h c).toNat) (runP b t l).1 b.worth.length (dep b).toNat
  | [], t, _ => Int.le_refl _
  | p :: l, t, he => by
    obtain ⟨hl, _⟩ := okL_iff.1 ho
    unfold runP at he ⊢
    by_cases h0 : passE b p = 0
    · rw [if_pos h0] at he ⊢
      obtain ⟨c1, c2, c3, c4, c5⟩ := passE_0 h0
      refine Int.le_trans (dug_pass (h := fun c => (gi h c).toNat) (t := t) (c := p.column.toNat) (r := p.row.toNat) (c2 := p.to_.toNat) (a := p.amount) (by omega) (by omega) (by omega) (by omega) (by omega) (fun hlt => ?_)) (run_dug hb ho hr l _ he)
      have := right_step hr (c := p.column.toNat) (c2 := p.to_.toNat) (by omega) (by omega) (by omega)
      omega
    · rw [if_neg h0] at he
      exact absurd he h0
/-- The worth of a right hollow is at most what a proof says. -/
theorem proof_bound {b : Bog} {l : List Pass} (he : (proofE b l).2 = 0) {h : List Int} (hh : (worthR b h).2 = 0) : (worthR b h).1 ≤ (proofE b l).1 := by
  have hv : validate b = 0 := by
    unfold proofE at he
    by_cases hv : validate b = 0
    · exact hv
    · rw [if_neg hv] at he; exact absurd he hv
  have h0 : hollowE b h = 0 := by
    unfold worthR at hh
    by_cases h0 : hollowE b h = 0
    · exact h0
    · rw [if_neg h0] at hh; exact absurd hh h0
  obtain ⟨hb, ho, hr⟩ := hollow0.1 h0
  unfold proofE at he ⊢
  rw [if_pos hv] at he ⊢
  by_cases h60 : 60 < l.length
  · rw [if_pos h60] at he; cases he
  rw [if_neg h60] at he ⊢
  unfold proofL at he ⊢
  by_cases hrun : (runP b (tab0 b) l).2 = 0
  · rw [if_pos hrun]
    unfold worthR
    rw [if_pos h0]
    show wsum b h h.length ≤ sumP b _
    rw [wsum_dug hb ho]
    exact Int.le_trans (run_dug hb ho hr l (tab0 b) hrun) dug_le
  · rw [if_neg hrun] at he; exact absurd he hrun
end Go.D4

set_option linter.unusedVariables false
set_option linter.unusedSimpArgs false
namespace Go.D4
open Go.Tb
instance decBlock : DecidableEq Block := fun x y => decidable_of_iff _ (eqB_iff x y)
theorem bk_iff (x y : Block) : x = y ↔ x.column = y.column ∧ x.row = y.row := by
  cases x; cases y; simp
def inB (n d : Nat) (u : Block) : Prop := 0 ≤ u.column ∧ u.column < (n : Int) ∧ 0 ≤ u.row ∧ u.row < (d : Int)
instance decInB (n d : Nat) (u : Block) : Decidable (inB n d u) := by unfold inB; infer_instance
/-- From the first block to the second one worth can be passed. -/
def upL (n d : Nat) (u v : Block) : Prop := inB n d u ∧ inB n d v ∧ v.row = u.row - 1 ∧ -1 ≤ v.column - u.column ∧ v.column - u.column ≤ 1
def adF (F : Block → Block → Int) (u v : Block) (a : Int) : Block → Block → Int := fun x y => F x y + if x = u ∧ y = v then a else 0
def adT (T : Block → Int) (u : Block) (a : Int) : Block → Int := fun x => T x + if x = u then a else 0
/-- What a block gets by what is passed. -/
def net (F : Block → Block → Int) (u : Block) : Int :=
  F ⟨u.column + -1, u.row + 1⟩ u + F ⟨u.column + 0, u.row + 1⟩ u + F ⟨u.column + 1, u.row + 1⟩ u
    - F u ⟨u.column + -1, u.row - 1⟩ - F u ⟨u.column + 0, u.row - 1⟩ - F u ⟨u.column + 1, u.row - 1⟩
def nearU (u v : Block) : Prop := v.row = u.row - 1 ∧ -1 ≤ v.column - u.column ∧ v.column - u.column ≤ 1
theorem net_ad {F : Block → Block → Int} {u v : Block} (a : Int) (h : nearU u v) (w : Block) : net (adF F u v a) w = net F w + (if w = v then a else 0) - (if w = u then a else 0) := by
  obtain ⟨uc, ur⟩ := u
  obtain ⟨vc, vr⟩ := v
  obtain ⟨wc, wr⟩ := w
  obtain ⟨h1, h2, h3⟩ := h
  simp only at h1 h2 h3
  unfold net adF
  simp only [Block.mk.injEq]
  have k : vc - uc = -1 ∨ vc - uc = 0 ∨ vc - uc = 1 := by omega
  have e1 : ∀ p q : Int, (wc + p = uc ∧ wr + 1 = ur) ∧ wc = vc ∧ wr = vr ↔ (wc = vc ∧ wr = vr) ∧ uc - vc = p := by intro p q; omega
  have e2 : ∀ p : Int, (wc = uc ∧ wr = ur) ∧ wc + p = vc ∧ wr - 1 = vr ↔ (wc = uc ∧ wr = ur) ∧ vc - uc = p := by intro p; omega
  simp only [e1 _ 0, e2]
  generalize F ⟨wc + -1, wr + 1⟩ ⟨wc, wr⟩ = f1
  generalize F ⟨wc + 0, wr + 1⟩ ⟨wc, wr⟩ = f2
  generalize F ⟨wc + 1, wr + 1⟩ ⟨wc, wr⟩ = f3
  generalize F ⟨wc, wr⟩ ⟨wc + -1, wr - 1⟩ = f4
  generalize F ⟨wc, wr⟩ ⟨wc + 0, wr - 1⟩ = f5
  generalize F ⟨wc, wr⟩ ⟨wc + 1, wr - 1⟩ = f6
  by_cases p1 : wc = vc ∧ wr = vr <;> by_cases p2 : wc = uc ∧ wr = ur <;> rcases k with k | k | k <;> simp only [p1, p2, and_self, true_and, false_and, if_true, if_false, k] <;> first | omega | (repeat' split) <;> omega
def Chain (R : Block → Block → Prop) : List (Block × Block) → Block → Block → Prop
  | [], u, e => u = e
  | x :: l, u, e => x.1 = u ∧ R x.1 x.2 ∧ Chain R l x.2 e
theorem Chain.mono {R S : Block → Block → Prop} (h : ∀ x y, R x y → S x y) : ∀ {l : List (Block × Block)} {u e : Block}, Chain R l u e → Chain S l u e
  | [], _, _, c => c
  | x :: l, _, _, c => ⟨c.1, h _ _ c.2.1, Chain.mono h c.2.2⟩
theorem Chain.mem {R : Block → Block → Prop} : ∀ {l : List (Block × Block)} {u e : Block}, Chain R l u e → ∀ x ∈ l, R x.1 x.2
  | y :: l, _, _, c, x, hx => by
    rcases List.mem_cons.1 hx with rfl | hx
    · exact c.2.1
    · exact Chain.mem c.2.2 x hx
theorem Chain.last {R : Block → Block → Prop} : ∀ {l : List (Block × Block)} {u e : Block}, Chain R l u e → l ≠ [] → ∃ x, l[l.length - 1]? = some x ∧ x.2 = e
  | [], _, _, c, h => absurd rfl h
  | [x], _, _, c, h => ⟨x, rfl, c.2.2⟩
  | x :: y :: l, _, _, c, h => by
    obtain ⟨z, h1, h2⟩ := Chain.last c.2.2 (by simp)
    exact ⟨z, by simpa using h1, h2⟩
def stepL (a : Int) (F : Block → Block → Int) (x : Block × Block) : Block → Block → Int := if x.1.row < x.2.row then adF F x.2 x.1 (-a) else adF F x.1 x.2 a
def applyL (a : Int) (F : Block → Block → Int) (l : List (Block × Block)) : Block → Block → Int := l.foldl (stepL a) F
/-- A step of a way: up, or back down along what is passed. -/
def nearR (x y : Block) : Prop := (¬ x.row < y.row ∧ nearU x y) ∨ (x.row < y.row ∧ nearU y x)
theorem net_step {F : Block → Block → Int} {x : Block × Block} (a : Int) (h : nearR x.1 x.2) (w : Block) : net (stepL a F x) w = net F w + (if w = x.2 then a else 0) - (if w = x.1 then a else 0) := by
  unfold stepL
  rcases h with ⟨h1, h2⟩ | ⟨h1, h2⟩
  · rw [if_neg h1, net_ad a h2]
  · rw [if_pos h1, net_ad (-a) h2]
    split <;> split <;> omega
theorem net_apply (a : Int) : ∀ (l : List (Block × Block)) (F : Block → Block → Int) (u e : Block), Chain nearR l u e → ∀ w, net (applyL a F l) w = net F w + (if w = e then a else 0) - (if w = u then a else 0)
  | [], F, u, e, c, w => by
    have c : u = e := c
    subst c
    show net F w = _
    split <;> omega
  | x :: l, F, u, e, c, w => by
    obtain ⟨c1, c2, c3⟩ := c
    subst c1
    have := net_apply a l (stepL a F x) x.2 e c3 w
    have h2 := net_step (F := F) a c2 w
    show net (applyL a (stepL a F x) l) w = _
    rw [this, h2]
    split <;> split <;> split <;> omega
theorem apply_bd {a : Int} (ha : 0 ≤ a) : ∀ (l : List (Block × Block)) (F : Block → Block → Int), (l.map (·.2)).Nodup → ∀ x y, F x y - (if (y, x) ∈ l ∧ y.row < x.row then a else 0) ≤ applyL a F l x y ∧ applyL a F l x y ≤ F x y + (if (x, y) ∈ l ∧ ¬ x.row < y.row then a else 0)
  | [], F, _, x, y => by simp [applyL]
  | z :: l, F, hn, x, y => by
    rw [List.map_cons, List.nodup_cons] at hn
    have ih := apply_bd ha l (stepL a F z) hn.2 x y
    show F x y - _ ≤ applyL a (stepL a F z) l x y ∧ applyL a (stepL a F z) l x y ≤ _
    generalize applyL a (stepL a F z) l x y = r at ih ⊢
    have m1 : (x, y) ∈ l → y ≠ z.2 := fun h e => hn.1 (by rw [← e]; exact List.mem_map.2 ⟨_, h, rfl⟩)
    have m2 : (y, x) ∈ l → x ≠ z.2 := fun h e => hn.1 (by rw [← e]; exact List.mem_map.2 ⟨_, h, rfl⟩)
    obtain ⟨z1, z2⟩ := z
    simp only [List.mem_cons, Prod.mk.injEq] at *
    unfold stepL at ih
    simp only at ih
    by_cases hz : z1.row < z2.row
    · rw [if_pos hz] at ih
      unfold adF at ih
      by_cases he : x = z2 ∧ y = z1
      · obtain ⟨rfl, rfl⟩ := he
        have n2 : ¬ (y, x) ∈ l := fun h => m2 h rfl
        simp only [and_self, if_true, n2, false_and, if_false, true_or, true_and, hz] at ih ⊢
        by_cases h1 : (x, y) ∈ l ∧ ¬ x.row < y.row
        · rw [if_pos h1] at ih; rw [if_pos ⟨.inr h1.1, h1.2⟩]; omega
        · rw [if_neg h1] at ih
          split <;> omega
      · rw [if_neg he] at ih
        have c1 : ((y = z1 ∧ x = z2) ∨ (y, x) ∈ l) ↔ (y, x) ∈ l := ⟨fun h => h.elim (fun h => absurd ⟨h.2, h.1⟩ he) id, .inr⟩
        simp only [c1]
        have c2 : (((x = z1 ∧ y = z2) ∨ (x, y) ∈ l) ∧ ¬ x.row < y.row) ↔ ((x, y) ∈ l ∧ ¬ x.row < y.row) := ⟨fun h => ⟨h.1.elim (fun h' => absurd (show x.row < y.row by rw [h'.1, h'.2]; exact hz) h.2) id, h.2⟩, fun h => ⟨.inr h.1, h.2⟩⟩
        simp only [c2]
        omega
    · rw [if_neg hz] at ih
      unfold adF at ih
      by_cases he : x = z1 ∧ y = z2
      · obtain ⟨rfl, rfl⟩ := he
        have n1 : ¬ (x, y) ∈ l := fun h => m1 h rfl
        simp only [and_self, if_true, n1, false_and, if_false, true_or, true_and, hz, not_false_eq_true] at ih ⊢
        by_cases h1 : (y, x) ∈ l ∧ y.row < x.row
        · rw [if_pos h1] at ih; rw [if_pos ⟨.inr h1.1, h1.2⟩]; omega
        · rw [if_neg h1] at ih
          split <;> omega
      · rw [if_neg he] at ih
        have c1 : ((x = z1 ∧ y = z2) ∨ (x, y) ∈ l) ↔ (x, y) ∈ l := ⟨fun h => h.elim (fun h => absurd h he) id, .inr⟩
        simp only [c1]
        have c2 : (((y = z1 ∧ x = z2) ∨ (y, x) ∈ l) ∧ y.row < x.row) ↔ ((y, x) ∈ l ∧ y.row < x.row) := ⟨fun h => ⟨h.1.elim (fun h' => absurd (show z1.row < z2.row by rw [← h'.1, ← h'.2]; exact h.2) hz) id, h.2⟩, fun h => ⟨.inr h.1, h.2⟩⟩
        simp only [c2]
        omega
end Go.D4

set_option linter.unusedVariables false
set_option linter.unusedSimpArgs false
namespace Go.D4
open Go.Tb
theorem eqK_iff (x y : Link) : eqLink x y = true ↔ x = y := by
  obtain ⟨⟨a, b⟩, ⟨c, d⟩⟩ := x
  obtain ⟨⟨a', b'⟩, ⟨c', d'⟩⟩ := y
  simp [eqLink, and_assoc]
theorem mget_set {κ ν : Type} {eq : κ → κ → Bool} (hs : ∀ x y, eq x y = true ↔ x = y) : ∀ (m : List (κ × ν)) (x : κ) (v : ν) (y : κ), mget eq (mset eq m x v) y = if eq y x = true then some v else mget eq m y
  | [], x, v, y => by simp [mset, mget]
  | p :: m, x, v, y => by
    by_cases h : eq x p.1 = true
    · have e := (hs _ _).1 h
      have hm : mset eq (p :: m) x v = (p.1, v) :: m := by simp only [mset]; rw [if_pos h]
      rw [hm, e]
      simp only [mget]
      by_cases h2 : eq y p.1 = true
      · rw [if_pos h2, if_pos h2]
      · rw [if_neg h2, if_neg h2, if_neg h2]
    · simp only [mset, h, Bool.false_eq_true, if_false, mget]
      rw [mget_set hs m x v y]
      by_cases h2 : eq y p.1 = true
      · have e2 := (hs _ _).1 h2
        have : ¬ eq y x = true := fun h3 => h (by rw [← (hs _ _).1 h3, e2]; exact (hs _ _).2 rfl)
        simp [h2, this]
      · simp [h2]
def hasT (m : List (Block × Int)) (u : Block) : Int := (mget eqBlock m u).getD 0
def pasF (m : List (Link × Int)) (x y : Block) : Int := (mget eqLink m ⟨x, y⟩).getD 0
def seesB (s : List (Block × Bool)) (u : Block) : Bool := (mget eqBlock s u).getD false
theorem hasT_set (m : List (Block × Int)) (u : Block) (a : Int) : hasT (mset eqBlock m u (hasT m u + a)) = adT (hasT m) u a := by
  funext w
  unfold hasT adT
  rw [mget_set eqB_iff]
  by_cases h : w = u
  · subst h; simp [(eqB_iff w w).2 rfl]
  · rw [if_neg (fun e => h ((eqB_iff _ _).1 e)), if_neg h]; simp
theorem pasF_set (m : List (Link × Int)) (x y : Block) (a : Int) : pasF (mset eqLink m ⟨x, y⟩ (pasF m x y + a)) = adF (pasF m) x y a := by
  funext u v
  unfold pasF adF
  rw [mget_set eqK_iff]
  by_cases h : u = x ∧ v = y
  · obtain ⟨rfl, rfl⟩ := h; simp [(eqK_iff ⟨u, v⟩ ⟨u, v⟩).2 rfl]
  · rw [if_neg (fun e => h (by have := (eqK_iff _ _).1 e; simpa using this)), if_neg h]; simp
theorem sees_set (s : List (Block × Bool)) (u w : Block) : seesB (mset eqBlock s u true) w = if w = u then true else seesB s w := by
  unfold seesB
  rw [mget_set eqB_iff]
  by_cases h : w = u
  · subst h; simp [(eqB_iff w w).2 rfl]
  · rw [if_neg (fun e => h ((eqB_iff _ _).1 e)), if_neg h]
def blocks (n d : Nat) : List Block := (mapM (fun _ _ => 0) n d).map (·.1)
theorem mem_blocks {n d : Nat} {u : Block} : u ∈ blocks n d ↔ inB n d u := by
  unfold blocks
  rw [List.mem_map]
  constructor
  · rintro ⟨p, hp, rfl⟩
    obtain ⟨c, r, hc, hr, rfl⟩ := mem_mapM.1 hp
    exact ⟨by simp, by simp; omega, by simp, by simp; omega⟩
  · rintro ⟨h1, h2, h3, h4⟩
    refine ⟨_, mem_mapM.2 ⟨u.column.toNat, u.row.toNat, by omega, by omega, rfl⟩, ?_⟩
    rw [bk_iff]
    simp only
    omega
def unseen (n d : Nat) (s : List (Block × Bool)) : Nat := (blocks n d).countP fun u => !seesB s u
theorem cnt_lt {α : Type} {p q : α → Bool} : ∀ {l : List α}, (∀ x ∈ l, p x = true → q x = true) → ∀ x ∈ l, p x = false → q x = true → l.countP p < l.countP q
  | y :: l, h, x, hx, h1, h2 => by
    rw [List.countP_cons, List.countP_cons]
    have hm := List.countP_mono_left (l := l) fun z hz => h z (List.mem_cons_of_mem _ hz)
    rcases List.mem_cons.1 hx with rfl | hx
    · simp only [h1, h2]; simp; omega
    · have := cnt_lt (fun z hz => h z (List.mem_cons_of_mem _ hz)) x hx h1 h2
      have hy := h y (by simp)
      cases hp : p y
      · split <;> simp at * <;> omega
      · simp only [hy hp, if_true]; omega
theorem unseen_le {n d : Nat} {s s' : List (Block × Bool)} (h : ∀ v, seesB s v = true → seesB s' v = true) : unseen n d s' ≤ unseen n d s :=
  List.countP_mono_left fun x _ hx => by
    cases hs : seesB s x
    · rfl
    · rw [h x hs] at hx; cases hx
theorem unseen_lt {n d : Nat} {s s' : List (Block × Bool)} (h : ∀ v, seesB s v = true → seesB s' v = true) {u : Block} (hu : inB n d u) (h1 : seesB s u = false) (h2 : seesB s' u = true) : unseen n d s' < unseen n d s :=
  cnt_lt (fun x _ hx => by
    cases hs : seesB s x
    · rfl
    · rw [h x hs] at hx; cases hx) u (mem_blocks.2 hu) (by rw [h2]; rfl) (by rw [h1]; rfl)
theorem unseen_max (n d : Nat) (s : List (Block × Bool)) : unseen n d s ≤ n * d := by
  have : (blocks n d).length = n * d := by unfold blocks; rw [List.length_map, mapM_len]
  rw [← this]
  exact List.countP_le_length
def Rs (n d : Nat) (F : Block → Block → Int) (u v : Block) : Prop := upL n d u v ∨ 0 < F v u
def prs (l : List Link) : List (Block × Block) := l.map fun x => (x.from_, x.to_)
abbrev WRes := List Link × Bool × List (Block × Int) × List (Link × Int) × List (Block × Bool)
structure WayR (n d : Nat) (T : Block → Int) (F : Block → Block → Int) (m : List (Block × Int)) (p : List (Link × Int)) (s : List (Block × Bool)) (u : Block) (r : WRes) : Prop where
  hm : r.2.2.1 = m
  hp : r.2.2.2.1 = p
  more : ∀ v, seesB s v = true → seesB r.2.2.2.2 v = true
  at_ : seesB r.2.2.2.2 u = true
  old : ∀ v, seesB r.2.2.2.2 v = true → seesB s v = true ∨ inB n d v
  len : r.1.length ≤ unseen n d s
  yes : r.2.1 = true → ∃ e, Chain (Rs n d F) (prs r.1) u e ∧ T e < 0 ∧ inB n d e ∧ ((prs r.1).map (·.2)).Nodup ∧ ∀ x ∈ prs r.1, seesB s x.2 = false ∧ x.2 ≠ u
  no : r.2.1 = false → ∀ v, seesB r.2.2.2.2 v = true → seesB s v = false → 0 ≤ T v ∧ ∀ w, Rs n d F v w → seesB r.2.2.2.2 w = true
/-- The blocks seen so far, but the one where the search stands, are done. -/
structure LInv (n d : Nat) (T : Block → Int) (F : Block → Block → Int) (s1 s : List (Block × Bool)) : Prop where
  more : ∀ v, seesB s1 v = true → seesB s v = true
  old : ∀ v, seesB s v = true → seesB s1 v = true ∨ inB n d v
  no : ∀ v, seesB s v = true → seesB s1 v = false → 0 ≤ T v ∧ ∀ w, Rs n d F v w → seesB s w = true
section
variable {n d : Nat} {T : Block → Int} {F : Block → Block → Int} {m : List (Block × Int)} {p : List (Link × Int)} {s s1 si : List (Block × Bool)} {u v : Block} {r : WRes}
theorem LInv.refl (s : List (Block × Bool)) : LInv n d T F s s := ⟨fun _ h => h, fun _ h => .inl h, fun v h1 h2 => by rw [h1] at h2; cases h2⟩
theorem LInv.next (h : LInv n d T F s1 si) (w : WayR n d T F m p si v r) (hn : r.2.1 = false) : LInv n d T F s1 r.2.2.2.2 where
  more := fun x hx => w.more x (h.more x hx)
  old := fun x hx => by
    rcases w.old x hx with h1 | h1
    · exact h.old x h1
    · exact .inr h1
  no := fun x hx h1 => by
    cases hs : seesB si x
    · exact w.no hn x hx hs
    · obtain ⟨q1, q2⟩ := h.no x hs h1
      exact ⟨q1, fun y hy => w.more y (q2 y hy)⟩
theorem LInv.found (h : LInv n d T F s1 si) (hu : inB n d u) (h1 : s1 = mset eqBlock s u true) (hu0 : seesB s u = false) (hr : Rs n d F u v) (hv : seesB si v = false) (w : WayR n d T F m p si v r) (hy : r.2.1 = true) :
    WayR n d T F m p s u ((⟨u, v⟩ : Link) :: r.1, true, r.2.2.1, r.2.2.2.1, r.2.2.2.2) := by
  have h01 : ∀ x, seesB s x = true → seesB s1 x = true := fun x hx => by rw [h1, sees_set]; split <;> simp [hx]
  have hs1 : seesB s1 u = true := by rw [h1, sees_set, if_pos rfl]
  have hsu : seesB si u = true := h.more u hs1
  have hvu : v ≠ u := fun e => by rw [e, hsu] at hv; cases hv
  have hold : ∀ x, seesB si x = false → seesB s x = false := fun x hx => by
    cases hs : seesB s x
    · rfl
    · rw [h.more x (h01 x hs)] at hx; cases hx
  refine ⟨w.hm, w.hp, fun x hx => w.more x (h.more x (h01 x hx)), w.more u hsu, fun x hx => ?_, ?_, fun _ => ?_, fun hc => by cases hc⟩
  · rcases w.old x hx with h2 | h2
    · rcases h.old x h2 with h3 | h3
      · rw [h1, sees_set] at h3
        split at h3
        · rename_i e; rw [e]; exact .inr hu
        · exact .inl h3
      · exact .inr h3
    · exact .inr h2
  · have e1 := w.len
    have e2 := unseen_le (n := n) (d := d) h.more
    have e3 := unseen_lt (n := n) (d := d) h01 hu hu0 hs1
    rw [List.length_cons]
    omega
  · obtain ⟨e, c, te, ie, nd, al⟩ := w.yes hy
    have hpr : prs ((⟨u, v⟩ : Link) :: r.1) = (u, v) :: prs r.1 := rfl
    rw [hpr]
    refine ⟨e, ⟨rfl, hr, c⟩, te, ie, ?_, ?_⟩
    · rw [List.map_cons, List.nodup_cons]
      refine ⟨fun hmem => ?_, nd⟩
      obtain ⟨x, hx, e2⟩ := List.mem_map.1 hmem
      exact (al x hx).2 e2
    · intro x hx
      rcases List.mem_cons.1 hx with rfl | hx
      · exact ⟨hold v hv, hvu⟩
      · obtain ⟨a1, a2⟩ := al x hx
        refine ⟨hold _ a1, fun e2 => ?_⟩
        rw [e2, hsu] at a1; cases a1
theorem LInv.done (h : LInv n d T F s1 si) (hu : inB n d u) (h1 : s1 = mset eqBlock s u true) (ht : 0 ≤ T u) (hall : ∀ w, Rs n d F u w → seesB si w = true) : WayR n d T F m p s u ([], false, m, p, si) := by
  have h01 : ∀ x, seesB s x = true → seesB s1 x = true := fun x hx => by rw [h1, sees_set]; split <;> simp [hx]
  have hs1 : seesB s1 u = true := by rw [h1, sees_set, if_pos rfl]
  refine ⟨rfl, rfl, fun x hx => h.more x (h01 x hx), h.more u hs1, fun x hx => ?_, Nat.zero_le _, fun hc => (by cases hc), fun _ x hx hx0 => ?_⟩
  · rcases h.old x hx with h3 | h3
    · rw [h1, sees_set] at h3
      split at h3
      · rename_i e; rw [e]; exact .inr hu
      · exact .inl h3
    · exact .inr h3
  · cases hs : seesB s1 x
    · exact h.no x hx hs
    · rw [h1, sees_set] at hs
      split at hs
      · rename_i e; rw [e]; exact ⟨ht, hall⟩
      · rw [hx0] at hs; cases hs
end
end Go.D4

set_option linter.unusedVariables false
set_option linter.unusedSimpArgs false
namespace Go.D4
open Go.Tb
abbrev RecF := Payer → Block → List (Block × Bool) → Option WRes
section
variable {b : Bog} {m : List (Block × Int)} {pm : List (Link × Int)} {s s1 si : List (Block × Bool)} {u : Block} {recf : RecF} {k : Nat}
theorem unseen_24 (hb : Ok b) (s : List (Block × Bool)) : unseen b.worth.length (dep b).toNat s ≤ 24 := by
  have h1 := unseen_max b.worth.length (dep b).toNat s
  have h6 := hb.n6
  have d1 := hb.d1
  have d4 := hb.d4
  exact Nat.le_trans h1 (Nat.le_trans (Nat.mul_le_mul (show b.worth.length ≤ 6 by omega) (show (dep b).toNat ≤ 4 by omega)) (by decide))
theorem half_up (hb : Ok b) (hrec : ∀ v s, inB b.worth.length (dep b).toNat v → seesB s v = false → unseen b.worth.length (dep b).toNat s ≤ k → ∃ r, recf ⟨b, m, pm⟩ v s = some r ∧ WayR b.worth.length (dep b).toNat (hasT m) (pasF pm) m pm s v r)
    (hu : inB b.worth.length (dep b).toNat u) (hI : LInv b.worth.length (dep b).toNat (hasT m) (pasF pm) s1 si) (h1 : s1 = mset eqBlock s u true) (hu0 : seesB s u = false) (hk : unseen b.worth.length (dep b).toNat s1 ≤ k)
    (st : Int) (t : Bool) (ht : t = true → upL b.worth.length (dep b).toNat u ⟨u.column + st, u.row - 1⟩ ∧ seesB si ⟨u.column + st, u.row - 1⟩ = false) (hf : t = false → upL b.worth.length (dep b).toNat u ⟨u.column + st, u.row - 1⟩ → seesB si ⟨u.column + st, u.row - 1⟩ = true) (rec1 : Int → List (Block × Bool) → List (Block × Int) → List (Link × Int) → Option WRes) :
    (∃ r, cut_payer_way_k5 ⟨b, m, pm⟩ u recf st si m pm rec1 t = some r ∧ WayR b.worth.length (dep b).toNat (hasT m) (pasF pm) m pm s u r) ∨
    ∃ s2, cut_payer_way_k5 ⟨b, m, pm⟩ u recf st si m pm rec1 t = cut_payer_way_k4 ⟨b, m, pm⟩ u recf st rec1 s2 m pm ∧ LInv b.worth.length (dep b).toNat (hasT m) (pasF pm) s1 s2 ∧ (∀ v, seesB si v = true → seesB s2 v = true) ∧ (upL b.worth.length (dep b).toNat u ⟨u.column + st, u.row - 1⟩ → seesB s2 ⟨u.column + st, u.row - 1⟩ = true) := by
  unfold cut_payer_way_k5
  cases t
  · rw [if_neg (by simp)]
    exact .inr ⟨si, rfl, hI, fun _ h => h, hf rfl⟩
  · obtain ⟨g1, g2⟩ := ht rfl
    obtain ⟨r, hr, w⟩ := hrec _ si g1.2.1 g2 (Nat.le_trans (unseen_le hI.more) hk)
    rw [if_pos rfl, bnd_eq hr]
    cases hy : r.2.1
    · rw [if_neg (by simp), w.hm, w.hp]
      exact .inr ⟨_, rfl, hI.next w hy, w.more, fun _ => w.at_⟩
    · rw [if_pos rfl, gd_pos (by have := w.len; have := unseen_24 hb si; simp; omega)]
      exact .inl ⟨_, rfl, hI.found hu h1 hu0 (.inl g1) g2 w hy⟩
theorem half_down (hb : Ok b) (hval : ∀ x y, 0 < pasF pm x y → upL b.worth.length (dep b).toNat x y) (hrec : ∀ v s, inB b.worth.length (dep b).toNat v → seesB s v = false → unseen b.worth.length (dep b).toNat s ≤ k → ∃ r, recf ⟨b, m, pm⟩ v s = some r ∧ WayR b.worth.length (dep b).toNat (hasT m) (pasF pm) m pm s v r)
    (hu : inB b.worth.length (dep b).toNat u) (hI : LInv b.worth.length (dep b).toNat (hasT m) (pasF pm) s1 si) (h1 : s1 = mset eqBlock s u true) (hu0 : seesB s u = false) (hk : unseen b.worth.length (dep b).toNat s1 ≤ k)
    (st : Int) (hst : -1 ≤ st ∧ st ≤ 1) (rec1 : Int → List (Block × Bool) → List (Block × Int) → List (Link × Int) → Option WRes) :
    (∃ r, cut_payer_way_k4 ⟨b, m, pm⟩ u recf st rec1 si m pm = some r ∧ WayR b.worth.length (dep b).toNat (hasT m) (pasF pm) m pm s u r) ∨
    ∃ s2, cut_payer_way_k4 ⟨b, m, pm⟩ u recf st rec1 si m pm = rec1 (st + 1) s2 m pm ∧ LInv b.worth.length (dep b).toNat (hasT m) (pasF pm) s1 s2 ∧ (∀ v, seesB si v = true → seesB s2 v = true) ∧ (0 < pasF pm ⟨u.column + st, u.row + 1⟩ u → seesB s2 ⟨u.column + st, u.row + 1⟩ = true) := by
  have h6 := hb.n6
  have d4 := hb.d4
  obtain ⟨u1, u2, u3, u4⟩ := hu
  have k2 : ∀ s2 : List (Block × Bool), cut_payer_way_k2 st rec1 s2 m pm = rec1 (st + 1) s2 m pm := fun s2 => by
    unfold cut_payer_way_k2; rw [gd_pos (by omega)]
  have k3 : ∀ t : Bool, (t = true → 0 < pasF pm ⟨u.column + st, u.row + 1⟩ u ∧ seesB si ⟨u.column + st, u.row + 1⟩ = false) → (t = false → 0 < pasF pm ⟨u.column + st, u.row + 1⟩ u → seesB si ⟨u.column + st, u.row + 1⟩ = true) →
      ((∃ r, cut_payer_way_k3 ⟨b, m, pm⟩ u recf st rec1 si m pm t = some r ∧ WayR b.worth.length (dep b).toNat (hasT m) (pasF pm) m pm s u r) ∨
      ∃ s2, cut_payer_way_k3 ⟨b, m, pm⟩ u recf st rec1 si m pm t = rec1 (st + 1) s2 m pm ∧ LInv b.worth.length (dep b).toNat (hasT m) (pasF pm) s1 s2 ∧ (∀ v, seesB si v = true → seesB s2 v = true) ∧ (0 < pasF pm ⟨u.column + st, u.row + 1⟩ u → seesB s2 ⟨u.column + st, u.row + 1⟩ = true)) := by
    intro t ht hf
    unfold cut_payer_way_k3
    cases t
    · rw [if_neg (by simp), k2]
      exact .inr ⟨si, rfl, hI, fun _ h => h, hf rfl⟩
    · obtain ⟨g1, g2⟩ := ht rfl
      obtain ⟨r, hr, w⟩ := hrec _ si (hval _ _ g1).1 g2 (Nat.le_trans (unseen_le hI.more) hk)
      rw [if_pos rfl, bnd_eq hr]
      cases hy : r.2.1
      · rw [if_neg (by simp), w.hm, w.hp, k2]
        exact .inr ⟨_, rfl, hI.next w hy, w.more, fun _ => w.at_⟩
      · rw [if_pos rfl, gd_pos (by have := w.len; have := unseen_24 hb si; simp; omega)]
        exact .inl ⟨_, rfl, hI.found ⟨u1, u2, u3, u4⟩ h1 hu0 (.inr g1) g2 w hy⟩
  unfold cut_payer_way_k4
  rw [gd_pos (by omega), gd_pos (by omega)]
  by_cases hp : 0 < pasF pm ⟨u.column + st, u.row + 1⟩ u
  · have hp' : (0 : Int) < (mget eqLink pm (⟨(⟨u.column + st, u.row + 1⟩ : Block), (⟨u.column, u.row⟩ : Block)⟩ : Link)).getD 0 := hp
    rw [if_pos hp']
    refine k3 _ (fun h => ⟨hp, ?_⟩) (fun h _ => ?_)
    · unfold seesB; simpa using h
    · unfold seesB; simpa using h
  · have hp' : ¬ (0 : Int) < (mget eqLink pm (⟨(⟨u.column + st, u.row + 1⟩ : Block), (⟨u.column, u.row⟩ : Block)⟩ : Link)).getD 0 := hp
    rw [if_neg hp']
    exact k3 _ (fun h => by cases h) (fun _ h => absurd h hp)
theorem one_step (hb : Ok b) (hval : ∀ x y, 0 < pasF pm x y → upL b.worth.length (dep b).toNat x y) (hrec : ∀ v s, inB b.worth.length (dep b).toNat v → seesB s v = false → unseen b.worth.length (dep b).toNat s ≤ k → ∃ r, recf ⟨b, m, pm⟩ v s = some r ∧ WayR b.worth.length (dep b).toNat (hasT m) (pasF pm) m pm s v r)
    (hu : inB b.worth.length (dep b).toNat u) (hI : LInv b.worth.length (dep b).toNat (hasT m) (pasF pm) s1 si) (h1 : s1 = mset eqBlock s u true) (hu0 : seesB s u = false) (hk : unseen b.worth.length (dep b).toNat s1 ≤ k)
    (st : Int) (hst : -1 ≤ st ∧ st ≤ 1) (rec1 : Int → List (Block × Bool) → List (Block × Int) → List (Link × Int) → Option WRes) :
    (∃ r, cut_payer_way_B1 ⟨b, m, pm⟩ u recf rec1 st si m pm = some r ∧ WayR b.worth.length (dep b).toNat (hasT m) (pasF pm) m pm s u r) ∨
    ∃ s2, cut_payer_way_B1 ⟨b, m, pm⟩ u recf rec1 st si m pm = rec1 (st + 1) s2 m pm ∧ LInv b.worth.length (dep b).toNat (hasT m) (pasF pm) s1 s2 ∧ (∀ v, seesB si v = true → seesB s2 v = true) ∧ (upL b.worth.length (dep b).toNat u ⟨u.column + st, u.row - 1⟩ → seesB s2 ⟨u.column + st, u.row - 1⟩ = true) ∧ (0 < pasF pm ⟨u.column + st, u.row + 1⟩ u → seesB s2 ⟨u.column + st, u.row + 1⟩ = true) := by
  have h6 := hb.n6
  have n1 := hb.n1
  have d4 := hb.d4
  have hu' := hu
  obtain ⟨u1, u2, u3, u4⟩ := hu'
  have join : ∀ t : Bool, (t = true → upL b.worth.length (dep b).toNat u ⟨u.column + st, u.row - 1⟩ ∧ seesB si ⟨u.column + st, u.row - 1⟩ = false) → (t = false → upL b.worth.length (dep b).toNat u ⟨u.column + st, u.row - 1⟩ → seesB si ⟨u.column + st, u.row - 1⟩ = true) →
      ((∃ r, cut_payer_way_k5 ⟨b, m, pm⟩ u recf st si m pm rec1 t = some r ∧ WayR b.worth.length (dep b).toNat (hasT m) (pasF pm) m pm s u r) ∨
      ∃ s2, cut_payer_way_k5 ⟨b, m, pm⟩ u recf st si m pm rec1 t = rec1 (st + 1) s2 m pm ∧ LInv b.worth.length (dep b).toNat (hasT m) (pasF pm) s1 s2 ∧ (∀ v, seesB si v = true → seesB s2 v = true) ∧ (upL b.worth.length (dep b).toNat u ⟨u.column + st, u.row - 1⟩ → seesB s2 ⟨u.column + st, u.row - 1⟩ = true) ∧ (0 < pasF pm ⟨u.column + st, u.row + 1⟩ u → seesB s2 ⟨u.column + st, u.row + 1⟩ = true)) := by
    intro t ht hf
    rcases half_up hb hrec hu hI h1 hu0 hk st t ht hf rec1 with h | ⟨s2, e2, i2, m2, c2⟩
    · exact .inl h
    · rw [e2]
      rcases half_down hb hval hrec hu i2 h1 hu0 hk st hst rec1 with h | ⟨s3, e3, i3, m3, c3⟩
      · exact .inl h
      · exact .inr ⟨s3, e3, i3, fun v hv => m3 v (m2 v hv), fun hc => m3 _ (c2 hc), c3⟩
  unfold cut_payer_way_B1
  rw [if_pos (by omega), gd_pos (by omega), gd_pos (by omega)]
  by_cases hr : 0 ≤ u.row - 1
  · rw [if_pos hr, gd_pos (show InR ((b.worth.length : Int) - 1) by omega), bnd_eq (from_eq _ _ _)]
    by_cases hw : within (u.column + st) 0 ((b.worth.length : Int) - 1) = true
    · rw [if_pos hw]
      have hw' := within_iff.1 hw
      refine join _ (fun h => ⟨⟨hu, ⟨hw'.1, by simp only; omega, hr, by simp only; omega⟩, rfl, by simp only; omega, by simp only; omega⟩, ?_⟩) (fun h _ => ?_)
      · unfold seesB; simpa using h
      · unfold seesB; simpa using h
    · rw [if_neg hw]
      refine join _ (fun h => by cases h) (fun _ h => absurd (within_iff.2 ?_) hw)
      obtain ⟨_, ⟨q1, q2, _⟩, _⟩ := h
      simp only at q1 q2
      omega
  · rw [if_neg hr]
    refine join _ (fun h => by cases h) (fun _ h => ?_)
    obtain ⟨_, ⟨_, _, q3, _⟩, _⟩ := h
    simp only at q3
    omega
end
theorem way_spec {b : Bog} {m : List (Block × Int)} {pm : List (Link × Int)} (hb : Ok b) (hval : ∀ x y, 0 < pasF pm x y → upL b.worth.length (dep b).toNat x y) : ∀ (k : Nat) (u : Block) (s : List (Block × Bool)), inB b.worth.length (dep b).toNat u → seesB s u = false → unseen b.worth.length (dep b).toNat s ≤ k →
    ∃ r, cut_payer_way_F k ⟨b, m, pm⟩ u s = some r ∧ WayR b.worth.length (dep b).toNat (hasT m) (pasF pm) m pm s u r
  | 0, u, s, hu, h0, hk => by
    have h1 : ∀ v, seesB s v = true → seesB (mset eqBlock s u true) v = true := fun v hv => by rw [sees_set]; split <;> simp [hv]
    have := unseen_lt h1 hu h0 (by rw [sees_set, if_pos rfl])
    omega
  | k + 1, u, s, hu, h0, hk => by
    have h01 : ∀ v, seesB s v = true → seesB (mset eqBlock s u true) v = true := fun v hv => by rw [sees_set]; split <;> simp [hv]
    have hlt := unseen_lt h01 hu h0 (by rw [sees_set, if_pos rfl])
    have hk1 : unseen b.worth.length (dep b).toNat (mset eqBlock s u true) ≤ k := by omega
    have hs1 : seesB (mset eqBlock s u true) u = true := by rw [sees_set, if_pos rfl]
    show ∃ r, cut_payer_way_body (cut_payer_way_F k) ⟨b, m, pm⟩ u s = some r ∧ _
    unfold cut_payer_way_body
    by_cases ht : hasT m u < 0
    · have ht' : (mget eqBlock m (⟨u.column, u.row⟩ : Block)).getD 0 < 0 := ht
      rw [if_pos ht']
      refine ⟨_, rfl, rfl, rfl, h01, hs1, fun v hv => ?_, Nat.zero_le _, fun _ => ⟨u, rfl, ht, hu, by simp [prs], fun x hx => by simp [prs] at hx⟩, fun hc => by cases hc⟩
      have hv : seesB (mset eqBlock s u true) v = true := hv
      rw [sees_set] at hv
      split at hv
      · rename_i e; rw [e]; exact .inr hu
      · exact .inl hv
    · have ht' : ¬ (mget eqBlock m (⟨u.column, u.row⟩ : Block)).getD 0 < 0 := ht
      rw [if_neg ht']
      have hrec := way_spec (b := b) (m := m) (pm := pm) hb hval k
      obtain ⟨q, hq⟩ : ∃ q, FU = q + 4 := ⟨FU - 4, by have := FU_pos; omega⟩
      rw [hq]
      show ∃ r, cut_payer_way_B1 ⟨b, m, pm⟩ u (cut_payer_way_F k) (cut_payer_way_L1 ⟨b, m, pm⟩ u (cut_payer_way_F k) (q + 3)) (-1) (mset eqBlock s u true) m pm = some r ∧ _
      rcases one_step hb hval hrec hu (LInv.refl _) rfl h0 hk1 (-1) (by omega) (cut_payer_way_L1 ⟨b, m, pm⟩ u (cut_payer_way_F k) (q + 3)) with h | ⟨sa, ea, ia, ma, ca, da⟩
      · exact h
      rw [ea]
      show ∃ r, cut_payer_way_B1 ⟨b, m, pm⟩ u (cut_payer_way_F k) (cut_payer_way_L1 ⟨b, m, pm⟩ u (cut_payer_way_F k) (q + 2)) 0 sa m pm = some r ∧ _
      rcases one_step hb hval hrec hu ia rfl h0 hk1 0 (by omega) (cut_payer_way_L1 ⟨b, m, pm⟩ u (cut_payer_way_F k) (q + 2)) with h | ⟨sb, eb, ib, mb, cb, db⟩
      · exact h
      rw [eb]
      show ∃ r, cut_payer_way_B1 ⟨b, m, pm⟩ u (cut_payer_way_F k) (cut_payer_way_L1 ⟨b, m, pm⟩ u (cut_payer_way_F k) (q + 1)) 1 sb m pm = some r ∧ _
      rcases one_step hb hval hrec hu ib rfl h0 hk1 1 (by omega) (cut_payer_way_L1 ⟨b, m, pm⟩ u (cut_payer_way_F k) (q + 1)) with h | ⟨sc, ec, ic, mc, cc, dc⟩
      · exact h
      rw [ec]
      show ∃ r, cut_payer_way_B1 ⟨b, m, pm⟩ u (cut_payer_way_F k) (cut_payer_way_L1 ⟨b, m, pm⟩ u (cut_payer_way_F k) q) 2 sc m pm = some r ∧ _
      unfold cut_payer_way_B1 cut_payer_way_k1
      rw [if_neg (by omega)]
      refine ⟨_, rfl, ic.done hu rfl (by omega) fun w hw => ?_⟩
      have hab : ∀ v, seesB sa v = true → seesB sc v = true := fun v hv => mc v (mb v hv)
      rcases hw with hw | hw
      · have hw' := hw
        obtain ⟨_, _, h3, h4, h5⟩ := hw'
        have e : w.column - u.column = -1 ∨ w.column - u.column = 0 ∨ w.column - u.column = 1 := by omega
        rcases e with e | e | e
        · have ew : w = ⟨u.column + -1, u.row - 1⟩ := (bk_iff _ _).2 ⟨by simp only; omega, by simp only; omega⟩
          subst ew
          exact hab _ (ca hw)
        · have ew : w = ⟨u.column + 0, u.row - 1⟩ := (bk_iff _ _).2 ⟨by simp only; omega, by simp only; omega⟩
          subst ew
          exact mc _ (cb hw)
        · have ew : w = ⟨u.column + 1, u.row - 1⟩ := (bk_iff _ _).2 ⟨by simp only; omega, by simp only; omega⟩
          subst ew
          exact cc hw
      · obtain ⟨_, _, h3, h4, h5⟩ := hval _ _ hw
        have e : w.column - u.column = -1 ∨ w.column - u.column = 0 ∨ w.column - u.column = 1 := by omega
        rcases e with e | e | e
        · have ew : w = ⟨u.column + -1, u.row + 1⟩ := (bk_iff _ _).2 ⟨by simp only; omega, by simp only; omega⟩
          subst ew
          exact hab _ (da hw)
        · have ew : w = ⟨u.column + 0, u.row + 1⟩ := (bk_iff _ _).2 ⟨by simp only; omega, by simp only; omega⟩
          subst ew
          exact mc _ (db hw)
        · have ew : w = ⟨u.column + 1, u.row + 1⟩ := (bk_iff _ _).2 ⟨by simp only; omega, by simp only; omega⟩
          subst ew
          exact dc hw
end Go.D4

set_option linter.unusedVariables false
set_option linter.unusedSimpArgs false
namespace Go.D4
open Go.Tb
theorem s1_bd {f : Nat → Int} {B : Int} : ∀ {n : Nat}, (∀ i, i < n → 0 ≤ f i ∧ f i ≤ B) → 0 ≤ s1 f n ∧ s1 f n ≤ B * (n : Int)
  | 0, _ => by constructor <;> simp [s1]
  | n + 1, h => by
    have ih := s1_bd (n := n) (fun i hi => h i (by omega))
    have h2 := h n (by omega)
    rw [s1_succ, show B * ((n + 1 : Nat) : Int) = B * (n : Int) + B by rw [Int.natCast_add, Int.mul_add]; simp]
    omega
end Go.D4

set_option linter.unusedVariables false
set_option linter.unusedSimpArgs false
namespace Go.D4
open Go.Tb
def Pos (n d : Nat) (T : Block → Int) : Int := s2 (fun c r => max 0 (T ⟨(c : Int), (r : Int)⟩)) n d
def Neg (n d : Nat) (T : Block → Int) : Int := s2 (fun c r => max 0 (-(T ⟨(c : Int), (r : Int)⟩))) n d
theorem nat_bk {n d : Nat} {u : Block} (h : inB n d u) : (⟨((u.column.toNat : Nat) : Int), ((u.row.toNat : Nat) : Int)⟩ : Block) = u := by
  obtain ⟨h1, h2, h3, h4⟩ := h
  rw [bk_iff]; simp only; omega
theorem ad_other {T : Block → Int} {n d : Nat} {u : Block} {a : Int} (h : inB n d u) (c r : Nat) (hne : ¬ (c = u.column.toNat ∧ r = u.row.toNat)) : adT T u a ⟨(c : Int), (r : Int)⟩ = T ⟨(c : Int), (r : Int)⟩ := by
  obtain ⟨h1, h2, h3, h4⟩ := h
  unfold adT
  rw [if_neg (fun e => by have := (bk_iff _ _).1 e; simp only at this; omega), Int.add_zero]
theorem Pos_ad {n d : Nat} {T : Block → Int} {u : Block} (h : inB n d u) (a : Int) : Pos n d (adT T u a) = Pos n d T + (max 0 (T u + a) - max 0 (T u)) := by
  have h' := h
  obtain ⟨h1, h2, h3, h4⟩ := h'
  unfold Pos
  rw [s2_one (f := fun c r => max 0 (T ⟨(c : Int), (r : Int)⟩)) (k := u.column.toNat) (l := u.row.toNat) (by omega) (by omega) (fun c r hne => by rw [ad_other h c r hne])]
  rw [nat_bk h]
  unfold adT
  rw [if_pos rfl]
theorem Neg_ad {n d : Nat} {T : Block → Int} {u : Block} (h : inB n d u) (a : Int) : Neg n d (adT T u a) = Neg n d T + (max 0 (-(T u + a)) - max 0 (-(T u))) := by
  have h' := h
  obtain ⟨h1, h2, h3, h4⟩ := h'
  unfold Neg
  rw [s2_one (f := fun c r => max 0 (-(T ⟨(c : Int), (r : Int)⟩))) (k := u.column.toNat) (l := u.row.toNat) (by omega) (by omega) (fun c r hne => by rw [ad_other h c r hne])]
  rw [nat_bk h]
  unfold adT
  rw [if_pos rfl]
/-- What is known of what blocks have, and of what is passed. -/
structure StF (n d : Nat) (T0 T : Block → Int) (F : Block → Block → Int) : Prop where
  pos : ∀ x y, 0 ≤ F x y
  val : ∀ x y, 0 < F x y → upL n d x y
  bal : ∀ u, inB n d u → T u = T0 u + net F u
  capP : ∀ x y, F x y ≤ Pos n d T0 - Pos n d T
  capN : ∀ x y, F x y ≤ Neg n d T0 - Neg n d T
theorem Rs.near {n d : Nat} {F : Block → Block → Int} (hv : ∀ x y, 0 < F x y → upL n d x y) {x y : Block} (h : Rs n d F x y) : nearR x y := by
  rcases h with h | h
  · obtain ⟨_, _, h1, h2, h3⟩ := h
    exact .inl ⟨by omega, h1, h2, h3⟩
  · obtain ⟨_, _, h1, h2, h3⟩ := hv _ _ h
    exact .inr ⟨by omega, h1, h2, h3⟩
theorem StF.pay {n d : Nat} {T0 T : Block → Int} {F : Block → Block → Int} (h : StF n d T0 T F) {l : List (Block × Block)} {u e : Block} {a : Int} (hu : inB n d u) (he : inB n d e) (c : Chain (Rs n d F) l u e) (hn : (l.map (·.2)).Nodup)
    (ha : 1 ≤ a) (h1 : a ≤ T u) (h2 : a ≤ -(T e)) (h3 : ∀ x ∈ l, x.1.row < x.2.row → a ≤ F x.2 x.1) :
    StF n d T0 (adT (adT T u (-a)) e a) (applyL a F l) ∧ Pos n d (adT (adT T u (-a)) e a) = Pos n d T - a := by
  have hue : ¬ e = u := fun h => by rw [h] at h2; omega
  have he1 : adT T u (-a) e = T e := by unfold adT; rw [if_neg hue, Int.add_zero]
  have bd := apply_bd (a := a) (by omega) l F hn
  have hP : Pos n d (adT (adT T u (-a)) e a) = Pos n d T - a := by
    rw [Pos_ad he, he1, Pos_ad hu]; omega
  have hN : Neg n d (adT (adT T u (-a)) e a) = Neg n d T - a := by
    rw [Neg_ad he, he1, Neg_ad hu]; omega
  refine ⟨⟨fun x y => ?_, fun x y hxy => ?_, fun w hw => ?_, fun x y => ?_, fun x y => ?_⟩, hP⟩
  · have := (bd x y).1
    have hp := h.pos x y
    by_cases hm : (y, x) ∈ l ∧ y.row < x.row
    · rw [if_pos hm] at this
      have := h3 _ hm.1 hm.2
      simp only at this
      omega
    · rw [if_neg hm] at this; omega
  · have h4 := (bd x y).2
    have hp := h.pos x y
    by_cases hf : 0 < F x y
    · exact h.val x y hf
    · by_cases hm : (x, y) ∈ l ∧ ¬ x.row < y.row
      · rcases c.mem _ hm.1 with hr | hr
        · exact hr
        · obtain ⟨_, _, q, _⟩ := h.val _ _ hr
          simp only at q
          exact absurd (by omega) hm.2
      · rw [if_neg hm] at h4; omega
  · rw [net_apply a l F u e (c.mono fun x y hr => hr.near h.val) w]
    have := h.bal w hw
    unfold adT
    split <;> split <;> omega
  · have h4 := (bd x y).2
    have := h.capP x y
    rw [hP]
    split at h4 <;> omega
  · have h4 := (bd x y).2
    have := h.capN x y
    rw [hN]
    split at h4 <;> omega
theorem s1_add (f g : Nat → Int) : ∀ n, s1 (fun i => f i + g i) n = s1 f n + s1 g n
  | 0 => rfl
  | n + 1 => by rw [s1_succ, s1_succ, s1_succ, s1_add f g n]; omega
theorem s2_add (f g : Nat → Nat → Int) (n d : Nat) : s2 (fun c r => f c r + g c r) n d = s2 f n d + s2 g n d := by
  unfold s2
  rw [← s1_add]
  exact s1_congr fun c _ => s1_add _ _ d
theorem s2_bd {f : Nat → Nat → Int} {n d : Nat} (hd : d ≤ 4) (hn : n ≤ 6) {B : Int} (hB : 0 ≤ B) (h : ∀ c r, 0 ≤ f c r ∧ f c r ≤ B) : 0 ≤ s2 f n d ∧ s2 f n d ≤ 24 * B := by
  have h1 : ∀ c, 0 ≤ s1 (f c) d ∧ s1 (f c) d ≤ 4 * B := fun c => by
    have := s1_bd (f := f c) (B := B) (n := d) (fun i _ => h c i)
    have h2 : B * (d : Int) ≤ B * 4 := Int.mul_le_mul_of_nonneg_left (by omega) hB
    omega
  have := s1_bd (f := fun c => s1 (f c) d) (B := 4 * B) (n := n) (fun i _ => h1 i)
  have h2 : 4 * B * (n : Int) ≤ 4 * B * 6 := Int.mul_le_mul_of_nonneg_left (by omega) (by omega)
  unfold s2
  omega
theorem Pos_nonneg (n d : Nat) (T : Block → Int) : 0 ≤ Pos n d T := by
  have key : ∀ (f : Nat → Int) (n : Nat), (∀ i, 0 ≤ f i) → 0 ≤ s1 f n := by
    intro f n h
    induction n with
    | zero => exact Int.le_refl _
    | succ n ih => rw [s1_succ]; have := h n; omega
  exact key _ _ fun c => key _ _ fun r => Int.le_max_left _ _
theorem Neg_nonneg (n d : Nat) (T : Block → Int) : 0 ≤ Neg n d T := Pos_nonneg n d fun u => -(T u)
theorem le_Pos {n d : Nat} (T : Block → Int) {u : Block} (h : inB n d u) : T u ≤ Pos n d T := by
  have h1 := Pos_ad (T := T) h (-(T u))
  have h2 := Pos_nonneg n d (adT T u (-(T u)))
  omega
theorem le_Neg {n d : Nat} (T : Block → Int) {u : Block} (h : inB n d u) : -(T u) ≤ Neg n d T := by
  have h1 := Neg_ad (T := T) h (-(T u))
  have h2 := Neg_nonneg n d (adT T u (-(T u)))
  omega
/-- What the blocks of a bog have at first. -/
def T0 (b : Bog) (u : Block) : Int := tab0 b u.column.toNat u.row.toNat
theorem PN0 {b : Bog} (hb : Ok b) : Pos b.worth.length (dep b).toNat (T0 b) + Neg b.worth.length (dep b).toNat (T0 b) ≤ 1200 := by
  unfold Pos Neg
  rw [← s2_add]
  have h6 := hb.n6
  have d1 := hb.d1
  have d4 := hb.d4
  have := s2_bd (n := b.worth.length) (d := (dep b).toNat) (B := 50) (by omega) h6 (by omega) (f := fun c r => max 0 (T0 b ⟨(c : Int), (r : Int)⟩) + max 0 (-(T0 b ⟨(c : Int), (r : Int)⟩))) (fun c r => by
    have := tab0_bd hb c r
    simp only [T0, Int.toNat_natCast]
    omega)
  omega
/-- The bounds that the code needs. -/
theorem StF.bds {b : Bog} (hb : Ok b) {T : Block → Int} {F : Block → Block → Int} (h : StF b.worth.length (dep b).toNat (T0 b) T F) : (∀ x y, 0 ≤ F x y ∧ F x y ≤ 600) ∧ ∀ u, inB b.worth.length (dep b).toNat u → -1200 ≤ T u ∧ T u ≤ 1200 := by
  have h0 := PN0 hb
  have p1 := Pos_nonneg b.worth.length (dep b).toNat T
  have p2 := Neg_nonneg b.worth.length (dep b).toNat T
  have p3 := Pos_nonneg b.worth.length (dep b).toNat (T0 b)
  have p4 := Neg_nonneg b.worth.length (dep b).toNat (T0 b)
  refine ⟨fun x y => ?_, fun u hu => ?_⟩
  · have := h.pos x y
    have := h.capP x y
    have := h.capN x y
    omega
  · have q0 := h.pos u u
    have q1 := h.capP u u
    have q2 := h.capN u u
    have q3 := le_Pos T hu
    have q4 := le_Neg T hu
    omega
def minA (pm : List (Link × Int)) (a : Int) (x : Link) : Int := if x.from_.row < x.to_.row then min a (pasF pm x.to_ x.from_) else a
def stepM (a : Int) (pm : List (Link × Int)) (x : Link) : List (Link × Int) := if x.from_.row < x.to_.row then mset eqLink pm ⟨x.to_, x.from_⟩ (pasF pm x.to_ x.from_ - a) else mset eqLink pm ⟨x.from_, x.to_⟩ (pasF pm x.from_ x.to_ + a)
def foldT {α β : Type} (f : β → α → β) (a : β) (l : List α) (i : Nat) : β := (l.take i).foldl f a
theorem foldT_succ {α β : Type} (f : β → α → β) (a : β) {l : List α} {i : Nat} {x : α} (hx : l[i]? = some x) : foldT f a l (i + 1) = f (foldT f a l i) x := by
  unfold foldT
  rw [List.take_add_one, hx, List.foldl_append]; rfl
theorem foldT_all {α β : Type} (f : β → α → β) (a : β) (l : List α) : foldT f a l l.length = l.foldl f a := by
  unfold foldT; rw [List.take_length]
theorem minA_spec (pm : List (Link × Int)) : ∀ (l : List Link) (a : Int), l.foldl (minA pm) a ≤ a ∧ (∀ x ∈ l, x.from_.row < x.to_.row → l.foldl (minA pm) a ≤ pasF pm x.to_ x.from_) ∧ (1 ≤ a → (∀ x ∈ l, x.from_.row < x.to_.row → 1 ≤ pasF pm x.to_ x.from_) → 1 ≤ l.foldl (minA pm) a)
  | [], a => ⟨Int.le_refl _, fun x hx => (by cases hx), fun h _ => h⟩
  | y :: l, a => by
    obtain ⟨h1, h2, h3⟩ := minA_spec pm l (minA pm a y)
    have hm : minA pm a y ≤ a := by unfold minA; split <;> omega
    refine ⟨by show l.foldl (minA pm) (minA pm a y) ≤ a; omega, fun x hx hd => ?_, fun ha hall => ?_⟩
    · show l.foldl (minA pm) (minA pm a y) ≤ _
      rcases List.mem_cons.1 hx with rfl | hx
      · have : minA pm a x ≤ pasF pm x.to_ x.from_ := by unfold minA; rw [if_pos hd]; omega
        omega
      · exact h2 x hx hd
    · refine h3 ?_ (fun x hx => hall x (List.mem_cons_of_mem _ hx))
      unfold minA
      split
      · rename_i hd
        have := hall y (by simp) hd
        omega
      · exact ha
theorem stepM_pas (a : Int) (pm : List (Link × Int)) (x : Link) : pasF (stepM a pm x) = stepL a (pasF pm) (x.from_, x.to_) := by
  unfold stepM stepL
  simp only
  split
  · rw [Int.sub_eq_add_neg, pasF_set]
  · rw [pasF_set]
theorem foldM_pas (a : Int) : ∀ (l : List Link) (pm : List (Link × Int)), pasF (l.foldl (stepM a) pm) = applyL a (pasF pm) (prs l)
  | [], pm => rfl
  | x :: l, pm => by
    show pasF (l.foldl (stepM a) (stepM a pm x)) = applyL a (stepL a (pasF pm) (x.from_, x.to_)) (prs l)
    rw [foldM_pas a l, stepM_pas]
end Go.D4

set_option linter.unusedVariables false
set_option linter.unusedSimpArgs false
namespace Go.D4
open Go.Tb
theorem prs_at {l : List Link} {i : Nat} {x : Link} (h : l[i]? = some x) : (prs l)[i]? = some (x.from_, x.to_) := by
  unfold prs; rw [List.getElem?_map, h]; rfl
theorem mem_prs {l : List Link} {x : Link} (h : x ∈ l) : (x.from_, x.to_) ∈ prs l := List.mem_map.2 ⟨x, h, rfl⟩
theorem prs_take (l : List Link) (i : Nat) : prs (l.take i) = (prs l).take i := by unfold prs; rw [List.map_take]
section
variable {b : Bog} {m : List (Block × Int)} {pm : List (Link × Int)} {u e : Block} {r : WRes} {x1 : Link} {a : Int}
theorem pay_min (hlen : r.1.length ≤ 1000) (hp : r.2.2.2.1 = pm) (a0 : Int) : cut_payer_pay_L2 u r x1 FU a0 0 = cut_payer_pay_k5 u r x1 (r.1.foldl (minA pm) a0) := by
  have h := for_loop0 r.1.length (foldT (minA pm) a0 r.1) (fun n s i => cut_payer_pay_L2 u r x1 n s i) (cut_payer_pay_k5 u r x1 (foldT (minA pm) a0 r.1 r.1.length)) (fun n i hi => ?_) (fun n => ?_) (by omega)
  · rw [foldT_all] at h
    exact h
  · obtain ⟨x, hx⟩ := ex_at (l := r.1) (j := i) hi
    show cut_payer_pay_B2 u r x1 (cut_payer_pay_L2 u r x1 n) _ _ = _
    unfold cut_payer_pay_B2 cut_payer_pay_k6
    rw [if_pos (by omega), ix_nat hx, foldT_succ _ _ hx]
    unfold minA
    by_cases hd : x.from_.row < x.to_.row
    · rw [if_pos hd, if_pos hd, gd_pos (by omega), hp]; rfl
    · rw [if_neg hd, if_neg hd, gd_pos (by omega)]; rfl
  · show cut_payer_pay_B2 u r x1 (cut_payer_pay_L2 u r x1 n) _ _ = _
    unfold cut_payer_pay_B2
    rw [if_neg (by omega)]
theorem pay_run (hlen : r.1.length ≤ 1000) (hp : r.2.2.2.1 = pm) (ha : 0 ≤ a ∧ a ≤ 1200) (hF : ∀ x y, 0 ≤ pasF pm x y ∧ pasF pm x y ≤ 600) (hn : ((prs r.1).map (·.2)).Nodup) : cut_payer_pay_k3 u r x1 a = cut_payer_pay_k1 u r x1 a (r.1.foldl (stepM a) pm) := by
  unfold cut_payer_pay_k3
  have h := for_loop0 r.1.length (foldT (stepM a) pm r.1) (fun n s i => cut_payer_pay_L1 u r x1 a n i s) (cut_payer_pay_k1 u r x1 a (foldT (stepM a) pm r.1 r.1.length)) (fun n i hi => ?_) (fun n => ?_) (by omega)
  · rw [foldT_all] at h
    rw [hp]
    exact h
  · obtain ⟨x, hx⟩ := ex_at (l := r.1) (j := i) hi
    have hbd : ∀ v w, -1200 ≤ pasF (foldT (stepM a) pm r.1 i) v w ∧ pasF (foldT (stepM a) pm r.1 i) v w ≤ 1800 := fun v w => by
      unfold foldT
      rw [foldM_pas, prs_take]
      have := apply_bd ha.1 ((prs r.1).take i) (pasF pm) (by rw [List.map_take]; exact hn.sublist (List.take_sublist _ _)) v w
      have := hF v w
      split at * <;> split at * <;> omega
    show cut_payer_pay_B1 u r x1 a (cut_payer_pay_L1 u r x1 a n) _ _ = _
    unfold cut_payer_pay_B1 cut_payer_pay_k2
    rw [if_pos (by omega), ix_nat hx, foldT_succ _ _ hx]
    generalize foldT (stepM a) pm r.1 i = pi at hbd ⊢
    unfold stepM
    by_cases hd : x.from_.row < x.to_.row
    · have q := hbd x.to_ x.from_
      rw [if_pos hd, if_pos hd]
      refine (gd_pos (show InR (pasF pi x.to_ x.from_ - a) by omega)).trans ?_
      rw [gd_pos (by omega)]; rfl
    · have q := hbd x.from_ x.to_
      rw [if_neg hd, if_neg hd]
      refine (gd_pos (show InR (pasF pi x.from_ x.to_ + a) by omega)).trans ?_
      rw [gd_pos (by omega)]; rfl
  · show cut_payer_pay_B1 u r x1 a (cut_payer_pay_L1 u r x1 a n) _ _ = _
    unfold cut_payer_pay_B1
    rw [if_neg (by omega)]
end
/-- What is known of the maps of a payer. -/
def StM (b : Bog) (m : List (Block × Int)) (pm : List (Link × Int)) : Prop := StF b.worth.length (dep b).toNat (T0 b) (hasT m) (pasF pm)
/-- Nothing that lacks worth can be reached from the block. -/
def Stuck (n d : Nat) (T : Block → Int) (F : Block → Block → Int) (u : Block) : Prop := ∃ S : Block → Bool, S u = true ∧ ∀ v, S v = true → inB n d v ∧ 0 ≤ T v ∧ ∀ w, Rs n d F v w → S w = true
theorem pay_spec {b : Bog} {m : List (Block × Int)} {pm : List (Link × Int)} {u : Block} (hb : Ok b) (st : StM b m pm) (hu : inB b.worth.length (dep b).toNat u) (hT : 0 < hasT m u) :
    (cut_payer_pay ⟨b, m, pm⟩ u = some (false, m, pm) ∧ Stuck b.worth.length (dep b).toNat (hasT m) (pasF pm) u) ∨
    ∃ m' pm', cut_payer_pay ⟨b, m, pm⟩ u = some (true, m', pm') ∧ StM b m' pm' ∧ Pos b.worth.length (dep b).toNat (hasT m') < Pos b.worth.length (dep b).toNat (hasT m) := by
  obtain ⟨bF, bT⟩ := StF.bds hb st
  have hs0 : ∀ v, seesB [] v = false := fun v => rfl
  obtain ⟨r, hr, w⟩ := way_spec hb st.val FU u [] hu rfl (by have := unseen_24 hb []; have := FU_pos; omega)
  have hr' : cut_payer_way ⟨b, m, pm⟩ u [] = some r := hr
  have hlen := w.len
  have h24 := unseen_24 hb []
  unfold cut_payer_pay
  rw [bnd_eq hr']
  cases hy : r.2.1
  · rw [if_neg (by simp), w.hm, w.hp]
    refine .inl ⟨rfl, fun v => seesB r.2.2.2.2 v, w.at_, fun v hv => ?_⟩
    obtain ⟨q1, q2⟩ := w.no hy v hv rfl
    refine ⟨?_, q1, q2⟩
    rcases w.old v hv with h | h
    · rw [hs0] at h; cases h
    · exact h
  · rw [if_pos rfl]
    obtain ⟨e, c, te, ie, nd, al⟩ := w.yes hy
    have hne : r.1 ≠ [] := fun h => by
      rw [h] at c
      have : u = e := c
      rw [this] at hT; omega
    have hl1 : 1 ≤ r.1.length := by
      cases hl : r.1 with
      | nil => exact absurd hl hne
      | cons _ _ => simp
    obtain ⟨x1, hx1⟩ := ex_at (l := r.1) (j := r.1.length - 1) (by omega)
    have hxe : x1.to_ = e := by
      obtain ⟨z, hz, ze⟩ := c.last (fun h => hne (by
        unfold prs at h
        simpa using h))
      have hz' := prs_at hx1
      have hlp : (prs r.1).length = r.1.length := by simp [prs]
      rw [hlp, hz'] at hz
      cases hz
      exact ze
    have te' := bT e ie
    have tu' := bT u hu
    have hkey : (mget eqBlock r.2.2.1 (⟨x1.to_.column, x1.to_.row⟩ : Block)).getD 0 = hasT m e := by rw [w.hm, ← hxe]; rfl
    have hkeyu : (mget eqBlock r.2.2.1 (⟨u.column, u.row⟩ : Block)).getD 0 = hasT m u := by rw [w.hm]; rfl
    rw [gd_pos (by omega), ix_eq (by omega) (by rw [show ((r.1.length : Int) - 1).toNat = r.1.length - 1 by omega]; exact hx1), hkey, hkeyu, gd_pos (by omega), pay_min (by omega) w.hp]
    obtain ⟨a1, a2, a3⟩ := minA_spec pm r.1 (min (hasT m u) (-(hasT m e)))
    have hdown : ∀ x ∈ r.1, x.from_.row < x.to_.row → 1 ≤ pasF pm x.to_ x.from_ := fun x hx hd => by
      rcases c.mem _ (mem_prs hx) with h | h
      · obtain ⟨_, _, q, _⟩ := h
        simp only at q
        omega
      · simp only at h; omega
    have a4 := a3 (by omega) hdown
    generalize r.1.foldl (minA pm) (min (hasT m u) (-(hasT m e))) = a at a1 a2 a4
    unfold cut_payer_pay_k5 cut_payer_pay_k4
    have hset : mset eqBlock r.2.2.1 (⟨u.column, u.row⟩ : Block) ((mget eqBlock r.2.2.1 (⟨u.column, u.row⟩ : Block)).getD 0 - a) = mset eqBlock m u (hasT m u + -a) := by rw [w.hm]; rfl
    have hs1 : hasT (mset eqBlock m u (hasT m u + -a)) = adT (hasT m) u (-a) := hasT_set m u (-a)
    have hue : ¬ e = u := fun h => by rw [h] at te; omega
    have he1 : hasT (mset eqBlock m u (hasT m u + -a)) e = hasT m e := by rw [hs1]; unfold adT; rw [if_neg hue, Int.add_zero]
    have hkey2 : (mget eqBlock (mset eqBlock r.2.2.1 (⟨u.column, u.row⟩ : Block) ((mget eqBlock r.2.2.1 (⟨u.column, u.row⟩ : Block)).getD 0 - a)) (⟨x1.to_.column, x1.to_.row⟩ : Block)).getD 0 = hasT m e := by rw [hset, ← he1, ← hxe]; rfl
    rw [gd_pos (by rw [hkeyu]; omega), hkey2, gd_pos (by omega), pay_run (by omega) w.hp (by omega) bF nd]
    unfold cut_payer_pay_k1
    rw [hkey2, hset]
    have hfin : mset eqBlock (mset eqBlock m u (hasT m u + -a)) (⟨x1.to_.column, x1.to_.row⟩ : Block) (hasT m e + a) = mset eqBlock (mset eqBlock m u (hasT m u + -a)) e (hasT (mset eqBlock m u (hasT m u + -a)) e + a) := by rw [he1, ← hxe]
    rw [hfin]
    refine .inr ⟨_, _, rfl, ?_⟩
    have P := st.pay hu ie c nd a4 (by omega) (by omega) (fun x hx hd => by
      obtain ⟨y, hy2, rfl⟩ := List.mem_map.1 hx
      exact a2 y hy2 hd)
    unfold StM
    rw [hasT_set, hs1, foldM_pas]
    exact ⟨P.1, by rw [P.2]; omega⟩
end Go.D4

set_option linter.unusedVariables false
set_option linter.unusedSimpArgs false
namespace Go.D4
open Go.Tb
abbrev PRes := List Pass × Int
abbrev Rec4 := Bool → Int → List (Block × Int) → List (Link × Int) → Option PRes
abbrev Rec6 := Bool → List (Block × Int) → List (Link × Int) → Option PRes
def StuckU (b : Bog) (m : List (Block × Int)) (pm : List (Link × Int)) (u : Block) : Prop := 0 < hasT m u → Stuck b.worth.length (dep b).toNat (hasT m) (pasF pm) u
def PosM (b : Bog) (m : List (Block × Int)) : Int := Pos b.worth.length (dep b).toNat (hasT m)
/-- Where a round stands: nothing was paid, and the blocks before are stuck; or something was paid. -/
def RInv (b : Bog) (m0 : List (Block × Int)) (p0 : List (Link × Int)) (before : Block → Prop) (t : Bool) (m : List (Block × Int)) (pm : List (Link × Int)) : Prop :=
  StM b m pm ∧ ((t = false ∧ m = m0 ∧ pm = p0 ∧ ∀ u, inB b.worth.length (dep b).toNat u → before u → StuckU b m0 p0 u) ∨ (t = true ∧ PosM b m < PosM b m0))
theorem RInv.weak {b : Bog} {m0 m : List (Block × Int)} {p0 pm : List (Link × Int)} {B B' : Block → Prop} {t : Bool} (h : RInv b m0 p0 B t m pm) (hB : ∀ u, inB b.worth.length (dep b).toNat u → B' u → B u) : RInv b m0 p0 B' t m pm := by
  obtain ⟨h1, h2⟩ := h
  refine ⟨h1, ?_⟩
  rcases h2 with ⟨a, c, d, e⟩ | h2
  · exact .inl ⟨a, c, d, fun u hu hb => e u hu (hB u hu hb)⟩
  · exact .inr h2
/-- One block of a round. -/
theorem RInv.next {b : Bog} (hb : Ok b) {m0 m : List (Block × Int)} {p0 pm : List (Link × Int)} {B : Block → Prop} {t : Bool} (h : RInv b m0 p0 B t m pm) {c r : Int} (hu : inB b.worth.length (dep b).toNat ⟨c, r⟩) (rec4 : Rec4) (rec5 : Rec4) {n : Nat}
    (hlt : r < dep b) : ∃ t' m' pm', RInv b m0 p0 (fun u => B u ∨ u = ⟨c, r⟩) t' m' pm' ∧ cut_Proof_B4 b c rec4 (dep b) rec5 t r m pm = rec5 t' (r + 1) m' pm' := by
  have d4 := hb.d4
  have hu' := hu
  obtain ⟨_, _, u3, u4⟩ := hu'
  simp only at u3 u4
  have k7 : ∀ t m pm, cut_Proof_k7 r rec5 t m pm = rec5 t (r + 1) m pm := fun t m pm => by unfold cut_Proof_k7; rw [gd_pos (by omega)]
  unfold cut_Proof_B4
  rw [if_pos hlt]
  by_cases hp : 0 < hasT m ⟨c, r⟩
  · have hp' : (0 : Int) < (mget eqBlock m (⟨c, r⟩ : Block)).getD 0 := hp
    rw [if_pos hp']
    rcases pay_spec hb h.1 hu hp with ⟨h1, h2⟩ | ⟨m', pm', h1, h2, h3⟩
    · rw [bnd_eq h1]
      unfold cut_Proof_k8
      rw [if_neg (by simp), k7]
      refine ⟨t, m, pm, ⟨h.1, ?_⟩, rfl⟩
      rcases h.2 with ⟨a, rfl, rfl, e⟩ | h2'
      · refine .inl ⟨a, rfl, rfl, fun u hu hB => ?_⟩
        rcases hB with hB | rfl
        · exact e u hu hB
        · exact fun _ => h2
      · exact .inr h2'
    · rw [bnd_eq h1]
      unfold cut_Proof_k8
      rw [if_pos rfl, k7]
      refine ⟨true, m', pm', ⟨h2, .inr ⟨rfl, ?_⟩⟩, rfl⟩
      have h3 : PosM b m' < PosM b m := h3
      rcases h.2 with ⟨a, rfl, rfl, e⟩ | ⟨_, h2'⟩
      · exact h3
      · omega
  · have hp' : ¬ (0 : Int) < (mget eqBlock m (⟨c, r⟩ : Block)).getD 0 := hp
    rw [if_neg hp']
    unfold cut_Proof_k8
    rw [if_neg (by simp), k7]
    refine ⟨t, m, pm, ⟨h.1, ?_⟩, rfl⟩
    rcases h.2 with ⟨a, rfl, rfl, e⟩ | h2'
    · refine .inl ⟨a, rfl, rfl, fun u hu hB => ?_⟩
      rcases hB with hB | rfl
      · exact e u hu hB
      · exact fun h => absurd h hp
    · exact .inr h2'
def befB (c r : Int) (u : Block) : Prop := u.column < c ∨ (u.column = c ∧ u.row < r)
theorem rows_run {b : Bog} (hb : Ok b) {m0 : List (Block × Int)} {p0 : List (Link × Int)} {c : Nat} (hc : c < b.worth.length) (rec4 : Rec4) : ∀ (dd k r : Nat) (t : Bool) (m : List (Block × Int)) (pm : List (Link × Int)), (dep b).toNat = r + dd → dd < k → RInv b m0 p0 (befB c r) t m pm →
    ∃ t' m' pm', RInv b m0 p0 (befB ((c + 1 : Nat) : Int) 0) t' m' pm' ∧ cut_Proof_L4 b c rec4 (dep b) k t r m pm = rec4 t' ((c + 1 : Nat) : Int) m' pm'
  | 0, k + 1, r, t, m, pm, hr, hk, h => by
    have d1 := hb.d1
    have h6 := hb.n6
    refine ⟨t, m, pm, h.weak fun u hu hB => ?_, ?_⟩
    · obtain ⟨_, _, u3, u4⟩ := hu
      unfold befB at hB ⊢
      omega
    · show cut_Proof_B4 b c rec4 (dep b) (cut_Proof_L4 b c rec4 (dep b) k) t r m pm = _
      unfold cut_Proof_B4 cut_Proof_k6
      rw [if_neg (by omega), gd_pos (by omega)]; rfl
  | dd + 1, k + 1, r, t, m, pm, hr, hk, h => by
    have d1 := hb.d1
    have h6 := hb.n6
    obtain ⟨t', m', pm', h', e⟩ := h.next hb (c := c) (r := r) ⟨by simp only; omega, by simp only; omega, by simp only; omega, by simp only; omega⟩ rec4 (cut_Proof_L4 b c rec4 (dep b) k) (n := 0) (by omega)
    obtain ⟨t2, m2, pm2, h2, e2⟩ := rows_run hb hc rec4 dd k (r + 1) t' m' pm' (by omega) (by omega) (h'.weak fun u hu hB => by
      rw [bk_iff]
      unfold befB at hB ⊢
      simp only
      omega)
    refine ⟨t2, m2, pm2, h2, ?_⟩
    show cut_Proof_B4 b c rec4 (dep b) (cut_Proof_L4 b c rec4 (dep b) k) t r m pm = _
    rw [e]; exact e2
theorem cols_run {b : Bog} (hb : Ok b) {m0 : List (Block × Int)} {p0 : List (Link × Int)} (rec6 : Rec6) : ∀ (dd k c : Nat) (t : Bool) (m : List (Block × Int)) (pm : List (Link × Int)), b.worth.length = c + dd → dd < k → RInv b m0 p0 (befB c 0) t m pm →
    ∃ t' m' pm', RInv b m0 p0 (fun _ => True) t' m' pm' ∧ cut_Proof_L5 b rec6 k t c m pm = rec6 t' m' pm'
  | 0, k + 1, c, t, m, pm, hc, hk, h => by
    refine ⟨t, m, pm, h.weak fun u hu hB => ?_, ?_⟩
    · obtain ⟨u1, u2, u3, u4⟩ := hu
      unfold befB
      omega
    · show cut_Proof_B5 b rec6 (cut_Proof_L5 b rec6 k) t c m pm = _
      unfold cut_Proof_B5
      rw [if_neg (by omega)]
  | dd + 1, k + 1, c, t, m, pm, hc, hk, h => by
    have d4 := hb.d4
    obtain ⟨t', m', pm', h', e⟩ := rows_run hb (c := c) (by omega) (cut_Proof_L5 b rec6 k) (dep b).toNat FU 0 t m pm (by omega) (by have := FU_pos; omega) h
    obtain ⟨t2, m2, pm2, h2, e2⟩ := cols_run hb rec6 dd k (c + 1) t' m' pm' (by omega) (by omega) h'
    refine ⟨t2, m2, pm2, h2, ?_⟩
    show cut_Proof_B5 b rec6 (cut_Proof_L5 b rec6 k) t c m pm = _
    unfold cut_Proof_B5
    rw [if_pos (by omega), bnd_eq (depth_eq hb.n1)]
    exact e.trans e2
theorem rounds_run {b : Bog} (hb : Ok b) : ∀ (N k : Nat) (t : Bool) (m : List (Block × Int)) (pm : List (Link × Int)), StM b m pm → PosM b m < (N : Int) → N + 1 < k → (t = false → ∀ u, inB b.worth.length (dep b).toNat u → StuckU b m pm u) →
    ∃ m' pm', StM b m' pm' ∧ (∀ u, inB b.worth.length (dep b).toNat u → StuckU b m' pm' u) ∧ cut_Proof_L6 b k t m pm = cut_Proof_k5 b m' pm'
  | 0, k + 1, t, m, pm, hs, hP, hk, ht => by
    have := Pos_nonneg b.worth.length (dep b).toNat (hasT m)
    unfold PosM at hP
    omega
  | N + 1, k + 1, t, m, pm, hs, hP, hk, ht => by
    show ∃ m' pm', _ ∧ _ ∧ cut_Proof_B6 b (cut_Proof_L6 b k) t m pm = _
    unfold cut_Proof_B6
    cases t
    · rw [if_neg (by simp)]
      exact ⟨m, pm, hs, ht rfl, rfl⟩
    · rw [if_pos rfl]
      have h6 := hb.n6
      obtain ⟨t', m', pm', h', e⟩ := cols_run hb (m0 := m) (p0 := pm) (cut_Proof_L6 b k) b.worth.length FU 0 false m pm (by omega) (by have := FU_pos; omega) ⟨hs, .inl ⟨rfl, rfl, rfl, fun u hu hB => by
        obtain ⟨u1, u2, u3, u4⟩ := hu
        unfold befB at hB
        omega⟩⟩
      have e' : cut_Proof_L5 b (cut_Proof_L6 b k) FU false 0 m pm = _ := e
      rw [e']
      rcases h'.2 with ⟨rfl, rfl, rfl, hst⟩ | ⟨rfl, hlt⟩
      · obtain ⟨k, rfl⟩ : ∃ k', k = k' + 1 := ⟨k - 1, by omega⟩
        refine ⟨m', pm', h'.1, fun u hu => hst u hu trivial, ?_⟩
        show cut_Proof_B6 b (cut_Proof_L6 b k) false m' pm' = _
        unfold cut_Proof_B6
        rw [if_neg (by simp)]
      · exact rounds_run hb N k true m' pm' h'.1 (by omega) (by omega) (fun h => by cases h)
theorem st0 {b : Bog} (hb : Ok b) : StM b (mapM (tab0 b) b.worth.length (dep b).toNat) [] ∧ PosM b (mapM (tab0 b) b.worth.length (dep b).toNat) < ((1201 : Nat) : Int) := by
  have hT : ∀ u, inB b.worth.length (dep b).toNat u → hasT (mapM (tab0 b) b.worth.length (dep b).toNat) u = T0 b u := fun u hu => by
    have h' := hu
    obtain ⟨h1, h2, h3, h4⟩ := h'
    have := mapM_get (t := tab0 b) (n := b.worth.length) (d := (dep b).toNat) (c := u.column.toNat) (r := u.row.toNat) (by omega) (by omega)
    rw [nat_bk hu] at this
    unfold hasT
    rw [this]; rfl
  have hF : ∀ x y, pasF [] x y = 0 := fun _ _ => rfl
  have hP : Pos b.worth.length (dep b).toNat (hasT (mapM (tab0 b) b.worth.length (dep b).toNat)) = Pos b.worth.length (dep b).toNat (T0 b) := by
    unfold Pos s2
    exact s1_congr fun c hc => s1_congr fun r hr => by simp only; rw [hT _ ⟨by simp only; omega, by simp only; omega, by simp only; omega, by simp only; omega⟩]
  have hN : Neg b.worth.length (dep b).toNat (hasT (mapM (tab0 b) b.worth.length (dep b).toNat)) = Neg b.worth.length (dep b).toNat (T0 b) := by
    unfold Neg s2
    exact s1_congr fun c hc => s1_congr fun r hr => by simp only; rw [hT _ ⟨by simp only; omega, by simp only; omega, by simp only; omega, by simp only; omega⟩]
  refine ⟨⟨fun x y => by rw [hF]; omega, fun x y h => by rw [hF] at h; omega, fun u hu => ?_, fun x y => by rw [hF, hP]; omega, fun x y => by rw [hF, hN]; omega⟩, ?_⟩
  · rw [hT u hu]
    unfold net
    simp only [hF]
    omega
  · unfold PosM
    rw [hP]
    have := PN0 hb
    have := Neg_nonneg b.worth.length (dep b).toNat (T0 b)
    omega
theorem fill_run {b : Bog} (hb : Ok b) : cut_Proof_L8 b FU 0 [] = cut_Proof_k9 b (mapM (tab0 b) b.worth.length (dep b).toNat) := by
  have h6 := hb.n6
  have d1 := hb.d1
  have d4 := hb.d4
  refine for_loop0 b.worth.length (fun c => mapM (tab0 b) c (dep b).toNat) (fun n m c => cut_Proof_L8 b n c m) _ (fun n c hc => ?_) (fun n => ?_) (by omega)
  · obtain ⟨x, hx⟩ := ex_at (l := b.worth) (j := c) hc
    have hxl := (hb.col x (List.mem_of_getElem? hx)).1
    show cut_Proof_B8 b (cut_Proof_L8 b n) _ _ = _
    unfold cut_Proof_B8
    rw [if_pos (by omega), ix_nat hx]
    generalize hR : cut_Proof_L8 b n = rec2
    have h := for_loop0 (dep b).toNat (fun r => mapM (tab0 b) c (dep b).toNat ++ colM (tab0 b) c r) (fun k m r => cut_Proof_L7 (c : Int) rec2 x k r m) (cut_Proof_k10 (c : Int) rec2 (mapM (tab0 b) (c + 1) (dep b).toNat)) (fun k r hr => ?_) (fun k => ?_) (by omega)
    · have h' : cut_Proof_L7 (c : Int) rec2 x FU 0 (mapM (tab0 b) c (dep b).toNat ++ colM (tab0 b) c 0) = _ := h
      rw [show mapM (tab0 b) c (dep b).toNat ++ colM (tab0 b) c 0 = mapM (tab0 b) c (dep b).toNat from List.append_nil _] at h'
      rw [h']
      unfold cut_Proof_k10
      rw [gd_pos (by omega), ← hR]; rfl
    · obtain ⟨v, hv'⟩ := ex_at (l := x) (j := r) (by omega)
      have ht : tab0 b c r = v := by simp [tab0, List.getD, hx, hv']
      show cut_Proof_B7 (c : Int) rec2 x (cut_Proof_L7 (c : Int) rec2 x k) _ _ = _
      unfold cut_Proof_B7
      rw [if_pos (by omega), ix_nat hv', gd_pos (by omega), mset_new eqB_iff _ _ _ (new_key (tab0 b) c (dep b).toNat r), List.append_assoc]
      simp only [colM_succ, ht]; rfl
    · show cut_Proof_B7 (c : Int) rec2 x (cut_Proof_L7 (c : Int) rec2 x k) _ _ = _
      unfold cut_Proof_B7
      rw [if_neg (by omega), ← mapM_succ]
  · show cut_Proof_B8 b (cut_Proof_L8 b n) _ _ = _
    unfold cut_Proof_B8
    rw [if_neg (by omega)]
theorem Proof_run {b : Bog} (hs : Short b) (hb : Ok b) : ∃ m pm, StM b m pm ∧ (∀ u, inB b.worth.length (dep b).toNat u → StuckU b m pm u) ∧ cut_Proof b = cut_Proof_k5 b m pm := by
  obtain ⟨s0, p0⟩ := st0 hb
  obtain ⟨m, pm, h1, h2, h3⟩ := rounds_run hb 1201 FU true _ [] s0 p0 (by have := FU_pos; omega) (fun h => by cases h)
  refine ⟨m, pm, h1, h2, ?_⟩
  unfold cut_Proof
  rw [bnd_eq (Validate_eq hs), if_pos (val0.2 hb)]
  show cut_Proof_L8 b FU 0 [] = _
  rw [fill_run hb]
  exact h3
end Go.D4

set_option linter.unusedVariables false
set_option linter.unusedSimpArgs false
namespace Go.D4
open Go.Tb
def oneP (F : Block → Block → Int) (z : Block × Block) : List Pass := if 0 < F z.1 z.2 then [⟨z.1.column, z.1.row, z.2.column, F z.1 z.2⟩] else []
def emitL (F : Block → Block → Int) (L : List (Block × Block)) : List Pass := L.flatMap (oneP F)
theorem emit_app (F : Block → Block → Int) (L M : List (Block × Block)) : emitL F (L ++ M) = emitL F L ++ emitL F M := List.flatMap_append
theorem one_len (F : Block → Block → Int) (z : Block × Block) : (oneP F z).length ≤ 1 := by unfold oneP; split <;> simp
theorem emit_len (F : Block → Block → Int) : ∀ L : List (Block × Block), (emitL F L).length ≤ L.length
  | [] => Nat.le_refl _
  | z :: L => by
    have := emit_len F L
    have := one_len F z
    show (oneP F z ++ emitL F L).length ≤ _
    rw [List.length_append, List.length_cons]; omega
/-- The links up from a block. -/
def tri (c r : Int) : List (Block × Block) := [(⟨c, r⟩, ⟨c - 1, r - 1⟩), (⟨c, r⟩, ⟨c - 1 + 1, r - 1⟩), (⟨c, r⟩, ⟨c - 1 + 1 + 1, r - 1⟩)]
def candC (c : Int) (k : Nat) : List (Block × Block) := (List.range k).flatMap fun (r : Nat) => tri c ((r : Int) + 1)
def candA (n k : Nat) : List (Block × Block) := (List.range n).flatMap fun (c : Nat) => candC (c : Int) k
theorem candC_succ (c : Int) (k : Nat) : candC c (k + 1) = candC c k ++ tri c ((k : Int) + 1) := by
  unfold candC; rw [List.range_succ, List.flatMap_append]; simp
theorem candA_succ (n k : Nat) : candA (n + 1) k = candA n k ++ candC (n : Int) k := by
  unfold candA; rw [List.range_succ, List.flatMap_append]; simp
theorem candC_len (c : Int) (k : Nat) : (candC c k).length = 3 * k := by
  induction k with
  | zero => rfl
  | succ k ih => rw [candC_succ, List.length_append, ih]; simp [tri]; omega
theorem candA_len (n k : Nat) : (candA n k).length = 3 * k * n := by
  induction n with
  | zero => rfl
  | succ n ih => rw [candA_succ, List.length_append, ih, candC_len, Nat.mul_succ]
theorem tri_mem {c r : Int} {z : Block × Block} (h : z ∈ tri c r) : z.1 = ⟨c, r⟩ ∧ nearU z.1 z.2 := by
  unfold tri at h
  simp only [List.mem_cons, List.not_mem_nil, or_false] at h
  rcases h with rfl | rfl | rfl <;> exact ⟨rfl, by refine ⟨?_, ?_, ?_⟩ <;> simp only <;> omega⟩
theorem candC_mem {c : Int} {k : Nat} {z : Block × Block} : z ∈ candC c k ↔ ∃ r : Nat, r < k ∧ z ∈ tri c ((r : Int) + 1) := by
  unfold candC
  rw [List.mem_flatMap]
  constructor
  · rintro ⟨r, hr, h⟩; exact ⟨r, List.mem_range.1 hr, h⟩
  · rintro ⟨r, hr, h⟩; exact ⟨r, List.mem_range.2 hr, h⟩
theorem candA_mem {n k : Nat} {z : Block × Block} : z ∈ candA n k ↔ ∃ c r : Nat, c < n ∧ r < k ∧ z ∈ tri c ((r : Int) + 1) := by
  unfold candA
  rw [List.mem_flatMap]
  constructor
  · rintro ⟨c, hc, h⟩
    obtain ⟨r, hr, h⟩ := candC_mem.1 h
    exact ⟨c, r, List.mem_range.1 hc, hr, h⟩
  · rintro ⟨c, r, hc, hr, h⟩; exact ⟨c, List.mem_range.2 hc, candC_mem.2 ⟨r, hr, h⟩⟩
theorem tri_nodup (c r : Int) : (tri c r).Nodup := by
  unfold tri
  simp only [List.nodup_cons, List.mem_cons, List.not_mem_nil, or_false, Prod.mk.injEq, Block.mk.injEq, true_and, and_true, not_false_eq_true, List.nodup_nil]
  omega
theorem candC_nodup (c : Int) (k : Nat) : (candC c k).Nodup := by
  induction k with
  | zero => exact List.nodup_nil
  | succ k ih =>
    rw [candC_succ, List.nodup_append]
    refine ⟨ih, tri_nodup _ _, fun a ha b hb hab => ?_⟩
    subst hab
    obtain ⟨r, hr, h1⟩ := candC_mem.1 ha
    have e1 := (tri_mem h1).1
    have e2 := (tri_mem hb).1
    rw [e1] at e2
    have := congrArg Block.row e2
    simp only at this
    omega
theorem candA_nodup (n k : Nat) : (candA n k).Nodup := by
  induction n with
  | zero => exact List.nodup_nil
  | succ n ih =>
    rw [candA_succ, List.nodup_append]
    refine ⟨ih, candC_nodup _ _, fun a ha b hb hab => ?_⟩
    subst hab
    obtain ⟨c, r, hc, hr, h1⟩ := candA_mem.1 ha
    obtain ⟨r', hr', h2⟩ := candC_mem.1 hb
    have e1 := (tri_mem h1).1
    have e2 := (tri_mem h2).1
    rw [e1] at e2
    have := congrArg Block.column e2
    simp only at this
    omega
section
variable {pm : List (Link × Int)}
theorem one_out (t81 t15 : Int) (rec2 rec3 : Int → List Pass → Option PRes) (t16 : Int) (l : List Pass) (h1 : 0 ≤ t81 ∧ t81 ≤ 10) (h2 : 0 ≤ t15 ∧ t15 ≤ 10) (h3 : -10 ≤ t16 ∧ t16 ≤ t81 + 1) (hl : l.length ≤ 1000) :
    cut_Proof_B1 pm t81 t15 rec2 rec3 t16 l = rec3 (t16 + 1) (l ++ oneP (pasF pm) (⟨t81, t15⟩, ⟨t16, t15 - 1⟩)) := by
  have k4 : ∀ l, cut_Proof_k4 t16 rec3 l = rec3 (t16 + 1) l := fun l => by unfold cut_Proof_k4; rw [gd_pos (by omega)]
  unfold cut_Proof_B1
  rw [gd_pos (by omega), if_pos h3.2, gd_pos (by omega)]
  unfold oneP
  by_cases hp : 0 < pasF pm ⟨t81, t15⟩ ⟨t16, t15 - 1⟩
  · have hp' : (0 : Int) < (mget eqLink pm (⟨(⟨t81, t15⟩ : Block), (⟨t16, t15 - 1⟩ : Block)⟩ : Link)).getD 0 := hp
    rw [if_pos hp', if_pos hp, gd_pos (by simp; omega), k4]; rfl
  · have hp' : ¬ (0 : Int) < (mget eqLink pm (⟨(⟨t81, t15⟩ : Block), (⟨t16, t15 - 1⟩ : Block)⟩ : Link)).getD 0 := hp
    rw [if_neg hp', if_neg hp, k4, List.append_nil]
theorem tri_out (t81 t15 : Int) (rec2 : Int → List Pass → Option PRes) (l : List Pass) (h1 : 0 ≤ t81 ∧ t81 ≤ 10) (h2 : 0 ≤ t15 ∧ t15 ≤ 10) (hl : l.length ≤ 900) :
    cut_Proof_L1 pm t81 t15 rec2 FU (t81 - 1) l = rec2 (t15 + 1) (l ++ emitL (pasF pm) (tri t81 t15)) := by
  obtain ⟨q, hq⟩ : ∃ q, FU = q + 4 := ⟨FU - 4, by have := FU_pos; omega⟩
  rw [hq]
  have o1 := one_len (pasF pm) (⟨t81, t15⟩, ⟨t81 - 1, t15 - 1⟩)
  have o2 := one_len (pasF pm) (⟨t81, t15⟩, ⟨t81 - 1 + 1, t15 - 1⟩)
  show cut_Proof_B1 pm t81 t15 rec2 (cut_Proof_L1 pm t81 t15 rec2 (q + 3)) (t81 - 1) l = _
  rw [one_out t81 t15 _ _ (t81 - 1) l h1 h2 (by omega) (by omega)]
  show cut_Proof_B1 pm t81 t15 rec2 (cut_Proof_L1 pm t81 t15 rec2 (q + 2)) (t81 - 1 + 1) _ = _
  rw [one_out t81 t15 _ _ (t81 - 1 + 1) _ h1 h2 (by omega) (by rw [List.length_append]; omega)]
  show cut_Proof_B1 pm t81 t15 rec2 (cut_Proof_L1 pm t81 t15 rec2 (q + 1)) (t81 - 1 + 1 + 1) _ = _
  rw [one_out t81 t15 _ _ (t81 - 1 + 1 + 1) _ h1 h2 (by omega) (by rw [List.length_append, List.length_append]; omega)]
  show cut_Proof_B1 pm t81 t15 rec2 (cut_Proof_L1 pm t81 t15 rec2 q) (t81 - 1 + 1 + 1 + 1) _ = _
  unfold cut_Proof_B1 cut_Proof_k3
  rw [gd_pos (by omega), if_neg (by omega), gd_pos (by omega)]
  unfold emitL tri
  simp only [List.flatMap_cons, List.flatMap_nil, List.append_nil, List.append_assoc]
theorem out_run {b : Bog} (hb : Ok b) (m : List (Block × Int)) : cut_Proof_k5 b m pm = some (emitL (pasF pm) (candA b.worth.length ((dep b).toNat - 1)), 0) := by
  have h6 := hb.n6
  have n1 := hb.n1
  have d1 := hb.d1
  have d4 := hb.d4
  have lenA : ∀ c, c ≤ 6 → (emitL (pasF pm) (candA c ((dep b).toNat - 1))).length ≤ 54 := fun c hc => by
    have h1 := emit_len (pasF pm) (candA c ((dep b).toNat - 1))
    rw [candA_len] at h1
    have : 3 * ((dep b).toNat - 1) * c ≤ 9 * 6 := Nat.mul_le_mul (by omega) hc
    omega
  unfold cut_Proof_k5
  refine for_loop0 b.worth.length (fun c => emitL (pasF pm) (candA c ((dep b).toNat - 1))) (fun n l c => cut_Proof_L3 b pm n c l) _ (fun n c hc => ?_) (fun n => ?_) (by omega)
  · show cut_Proof_B3 b pm (cut_Proof_L3 b pm n) _ _ = _
    unfold cut_Proof_B3
    rw [if_pos (by omega)]
    generalize hR : cut_Proof_L3 b pm n = rec1
    have la := lenA c (by omega)
    have h := for_loop0 ((dep b).toNat - 1) (fun r => emitL (pasF pm) (candA c ((dep b).toNat - 1)) ++ emitL (pasF pm) (candC (c : Int) r)) (fun k l r => cut_Proof_L2 b pm (c : Int) rec1 k (r + 1) l) (cut_Proof_k2 (c : Int) rec1 (emitL (pasF pm) (candA (c + 1) ((dep b).toNat - 1)))) (fun k r hr => ?_) (fun k => ?_) (by omega)
    · have h' : cut_Proof_L2 b pm (c : Int) rec1 FU (0 + 1) (emitL (pasF pm) (candA c ((dep b).toNat - 1)) ++ emitL (pasF pm) (candC (c : Int) 0)) = _ := h
      rw [show emitL (pasF pm) (candA c ((dep b).toNat - 1)) ++ emitL (pasF pm) (candC (c : Int) 0) = emitL (pasF pm) (candA c ((dep b).toNat - 1)) from List.append_nil _] at h'
      refine Eq.trans h' ?_
      unfold cut_Proof_k2
      rw [gd_pos (by omega), ← hR]; rfl
    · have lc := emit_len (pasF pm) (candC (c : Int) r)
      rw [candC_len] at lc
      show cut_Proof_B2 b pm (c : Int) rec1 (cut_Proof_L2 b pm (c : Int) rec1 k) _ _ = _
      unfold cut_Proof_B2
      rw [bnd_eq (depth_eq n1), if_pos (by omega), gd_pos (by omega), tri_out (c : Int) ((r : Int) + 1) _ _ (by omega) (by omega) (by rw [List.length_append]; omega), List.append_assoc, ← emit_app, ← candC_succ]
      rfl
    · show cut_Proof_B2 b pm (c : Int) rec1 (cut_Proof_L2 b pm (c : Int) rec1 k) _ _ = _
      unfold cut_Proof_B2
      rw [bnd_eq (depth_eq n1), if_neg (by omega), candA_succ, emit_app]
  · show cut_Proof_B3 b pm (cut_Proof_L3 b pm n) _ _ = _
    unfold cut_Proof_B3 cut_Proof_k1
    rw [if_neg (by omega)]
end
def resF (F : Block → Block → Int) (L : List (Block × Block)) (x y : Block) : Int := if (x, y) ∈ L then F x y else 0
theorem res_cons {F : Block → Block → Int} {z : Block × Block} {L : List (Block × Block)} (h : z ∉ L) : resF F (z :: L) = adF (resF F L) z.1 z.2 (F z.1 z.2) := by
  funext x y
  unfold resF adF
  by_cases e : (x, y) = z
  · subst e
    simp [h]
  · have e' : ¬ (x = z.1 ∧ y = z.2) := fun q => e (by rw [q.1, q.2])
    rw [if_neg e', Int.add_zero]
    simp only [List.mem_cons, e, false_or]
theorem passM_at {n d : Nat} {t : Nat → Nat → Int} {z : Block × Block} {a : Int} (h : upL n d z.1 z.2) {u : Block} (hu : inB n d u) :
    passM t z.1.column.toNat z.1.row.toNat z.2.column.toNat a u.column.toNat u.row.toNat = t u.column.toNat u.row.toNat + (if u = z.2 then a else 0) - (if u = z.1 then a else 0) := by
  obtain ⟨⟨a1, a2, a3, a4⟩, ⟨b1, b2, b3, b4⟩, h1, h2, h3⟩ := h
  obtain ⟨u1, u2, u3, u4⟩ := hu
  unfold passM updM
  have e1 : (u = z.2) ↔ (u.column.toNat = z.2.column.toNat ∧ u.row.toNat = z.1.row.toNat - 1) := by rw [bk_iff]; omega
  have e2 : (u = z.1) ↔ (u.column.toNat = z.1.column.toNat ∧ u.row.toNat = z.1.row.toNat) := by rw [bk_iff]; omega
  rw [if_neg (show ¬ (z.2.column.toNat = z.1.column.toNat ∧ z.1.row.toNat - 1 = z.1.row.toNat) by omega)]
  by_cases c1 : u = z.2
  · have c1' := e1.1 c1
    have c2 : ¬ u = z.1 := fun h => by have := e2.1 h; omega
    rw [if_pos c1, if_neg c2, if_pos c1', c1'.1, c1'.2]; omega
  · rw [if_neg c1, if_neg (fun h => c1 (e1.2 h))]
    by_cases c2 : u = z.1
    · have c2' := e2.1 c2
      rw [if_pos c2, if_pos c2', c2'.1, c2'.2]; omega
    · rw [if_neg c2, if_neg (fun h => c2 (e2.2 h))]; omega
theorem passE_ok {b : Bog} {z : Block × Block} {a : Int} (h : upL b.worth.length (dep b).toNat z.1 z.2) (ha : 1 ≤ a ∧ a ≤ 1000) : passE b ⟨z.1.column, z.1.row, z.2.column, a⟩ = 0 := by
  obtain ⟨⟨a1, a2, a3, a4⟩, ⟨b1, b2, b3, b4⟩, h1, h2, h3⟩ := h
  unfold passE passOk
  rw [if_pos (by simp only [Bool.and_eq_true, within_iff]; omega), if_pos (within_iff.2 ha)]
theorem run_emit {b : Bog} {F : Block → Block → Int} (hF : ∀ x y, 0 ≤ F x y ∧ F x y ≤ 600) (hv : ∀ x y, 0 < F x y → upL b.worth.length (dep b).toNat x y) : ∀ (L : List (Block × Block)) (t : Nat → Nat → Int), L.Nodup → (∀ z ∈ L, nearU z.1 z.2) →
    (runP b t (emitL F L)).2 = 0 ∧ ∀ u, inB b.worth.length (dep b).toNat u → (runP b t (emitL F L)).1 u.column.toNat u.row.toNat = t u.column.toNat u.row.toNat + net (resF F L) u
  | [], t, _, _ => by
    have hz : resF F [] = fun _ _ => 0 := by funext x y; simp [resF]
    refine ⟨rfl, fun u _ => ?_⟩
    rw [hz]
    show t u.column.toNat u.row.toNat = _
    simp [net]
  | z :: L, t, hn, hr => by
    rw [List.nodup_cons] at hn
    have hz := hr z (by simp)
    rw [res_cons hn.1]
    have hF' := hF z.1 z.2
    show (runP b t (oneP F z ++ emitL F L)).2 = 0 ∧ _
    by_cases hp : 0 < F z.1 z.2
    · have e : oneP F z = [⟨z.1.column, z.1.row, z.2.column, F z.1 z.2⟩] := if_pos hp
      have ok := passE_ok (hv _ _ hp) (a := F z.1 z.2) (by omega)
      have er : ∀ l, runP b t ((⟨z.1.column, z.1.row, z.2.column, F z.1 z.2⟩ : Pass) :: l) = runP b (passM t z.1.column.toNat z.1.row.toNat z.2.column.toNat (F z.1 z.2)) l := fun l => by
        rw [runP, if_pos ok]
      have ih := run_emit hF hv L (passM t z.1.column.toNat z.1.row.toNat z.2.column.toNat (F z.1 z.2)) hn.2 (fun x hx => hr x (List.mem_cons_of_mem _ hx))
      show (runP b t (oneP F z ++ emitL F L)).2 = 0 ∧ ∀ u, _ → (runP b t (oneP F z ++ emitL F L)).1 _ _ = _
      rw [e, List.singleton_append, er]
      refine ⟨ih.1, fun u hu => ?_⟩
      rw [ih.2 u hu, passM_at (hv _ _ hp) hu, net_ad _ hz]
      omega
    · have e : oneP F z = [] := if_neg hp
      have ih := run_emit hF hv L t hn.2 (fun x hx => hr x (List.mem_cons_of_mem _ hx))
      show (runP b t (oneP F z ++ emitL F L)).2 = 0 ∧ ∀ u, _ → (runP b t (oneP F z ++ emitL F L)).1 _ _ = _
      rw [e, List.nil_append]
      refine ⟨ih.1, fun u hu => ?_⟩
      rw [ih.2 u hu, net_ad _ hz, show F z.1 z.2 = 0 by omega]
      split <;> split <;> omega
theorem res_all {n d : Nat} {F : Block → Block → Int} (hF : ∀ x y, 0 ≤ F x y) (hv : ∀ x y, 0 < F x y → upL n d x y) : resF F (candA n (d - 1)) = F := by
  funext x y
  unfold resF
  by_cases hm : (x, y) ∈ candA n (d - 1)
  · rw [if_pos hm]
  · rw [if_neg hm]
    have h0 := hF x y
    by_cases hp : 0 < F x y
    · exfalso
      obtain ⟨⟨a1, a2, a3, a4⟩, ⟨b1, b2, b3, b4⟩, h1, h2, h3⟩ := hv x y hp
      refine hm (candA_mem.2 ⟨x.column.toNat, (x.row - 1).toNat, by omega, by omega, ?_⟩)
      obtain ⟨xc, xr⟩ := x
      obtain ⟨yc, yr⟩ := y
      simp only at *
      unfold tri
      simp only [List.mem_cons, List.not_mem_nil, or_false, Prod.mk.injEq, Block.mk.injEq]
      omega
    · omega
end Go.D4

set_option linter.unusedVariables false
set_option linter.unusedSimpArgs false
namespace Go.D4
open Go.Tb
theorem proof_best {b : Bog} {l : List Pass} (he : (proofE b l).2 = 0) : (bestR min b).2.2 = 0 ∧ (bestR min b).2.1 ≤ (proofE b l).1 := by
  have hv : validate b = 0 := by
    unfold proofE at he
    by_cases hv : validate b = 0
    · exact hv
    · rw [if_neg hv] at he; exact absurd he hv
  have ob := val0.1 hv
  have K := best_spec (f := min) (.inl fun _ _ => rfl) ob
  have r1 : bestR min b = _ := if_pos hv
  have kw : worthR b (bestN min b (hollows b) (hollows b).length).1 = (W b (bestN min b (hollows b) (hollows b).length).1, 0) := if_pos K.hol
  have h := proof_bound he (h := (bestN min b (hollows b) (hollows b).length).1) (by rw [kw])
  rw [kw, K.w] at h
  rw [r1]
  exact ⟨rfl, h⟩
end Go.D4

set_option linter.unusedVariables false
set_option linter.unusedSimpArgs false
namespace Go.D4
open Go.Tb
theorem best_both {b : Bog} {s t : List Int × Int} (K : Best min b s) (V : Best max b t) : s.2 = t.2 ∧ ∀ j, j < s.1.length → gi s.1 j ≤ gi t.1 j := by
  have h1 := V.top _ K.hol
  have h2 := K.top _ V.hol
  have kw := K.w
  have vw := V.w
  have he : s.2 = t.2 := by omega
  have hall := K.all _ V.hol (by omega)
  have hl : t.1.length = s.1.length := by rw [hollow_len K.hol, hollow_len V.hol]
  refine ⟨he, fun j hj => ?_⟩
  have := zw_gi (f := min) hl hj
  rw [hall] at this; omega
end Go.D4

set_option linter.unusedVariables false
set_option linter.unusedSimpArgs false
namespace Go.D4
open Go.Tb
/-- The blocks to which worth can be passed from blocks that have some. -/
def Rset (n d : Nat) (T : Block → Int) (F : Block → Block → Int) (u : Block) : Prop := ∃ v, inB n d v ∧ 0 < T v ∧ ∀ S : Block → Prop, S v → (∀ x y, S x → Rs n d F x y → S y) → S u
section
variable {n d : Nat} {T : Block → Int} {F : Block → Block → Int} {u w : Block}
theorem Rset.step (h : Rset n d T F u) (hr : Rs n d F u w) : Rset n d T F w := by
  obtain ⟨v, h1, h2, h3⟩ := h
  exact ⟨v, h1, h2, fun S hS hc => hc u w (h3 S hS hc) hr⟩
theorem Rset.pos (h1 : inB n d u) (h2 : 0 < T u) : Rset n d T F u := ⟨u, h1, h2, fun S hS _ => hS⟩
theorem Rset.in_ (hs : ∀ v, inB n d v → 0 < T v → Stuck n d T F v) (h : Rset n d T F u) : inB n d u ∧ 0 ≤ T u := by
  obtain ⟨v, h1, h2, h3⟩ := h
  obtain ⟨S, q1, q2⟩ := hs v h1 h2
  have := h3 (fun x => S x = true) q1 (fun x y hx hr => (q2 x hx).2.2 y hr)
  exact ⟨(q2 u this).1, (q2 u this).2.1⟩
end
open Classical in
noncomputable def hN (P : Nat → Prop) : Nat → Nat
  | 0 => 0
  | k + 1 => if P k then k + 1 else hN P k
theorem hN_spec {P : Nat → Prop} (down : ∀ r, P (r + 1) → P r) : ∀ k r, r < hN P k ↔ r < k ∧ P r
  | 0, r => by simp [hN]
  | k + 1, r => by
    have all : P k → ∀ j, P (k - j) := fun h j => by
      induction j with
      | zero => exact h
      | succ j ih =>
        by_cases hk : k - j = 0
        · rw [show k - (j + 1) = k - j by omega]; exact ih
        · exact down _ (by rw [show k - (j + 1) + 1 = k - j by omega]; exact ih)
    unfold hN
    by_cases h : P k
    · rw [if_pos h]
      refine ⟨fun hr => ⟨hr, ?_⟩, fun hr => hr.1⟩
      have := all h (k - r)
      rwa [show k - (k - r) = r by omega] at this
    · rw [if_neg h, hN_spec down k r]
      refine ⟨fun hr => ⟨by omega, hr.2⟩, fun hr => ⟨?_, hr.2⟩⟩
      by_cases e : r = k
      · rw [e] at hr; exact absurd hr.2 h
      · omega
theorem hN_le (P : Nat → Prop) : ∀ k, hN P k ≤ k
  | 0 => Nat.le_refl _
  | k + 1 => by
    unfold hN
    split
    · exact Nat.le_refl _
    · have := hN_le P k; omega
theorem dug_pass_eq {h : Nat → Nat} {t : Nat → Nat → Int} {n d c r c2 : Nat} {a : Int} (hc : c < n) (hr : r < d) (hr1 : 1 ≤ r) (hc2 : c2 < n) (hh : r < h c ↔ r - 1 < h c2) : dug h (passM t c r c2 a) n d = dug h t n d := by
  unfold passM
  rw [dug_upd hc2 (by omega), dug_upd hc hr]
  by_cases h1 : r < h c
  · rw [if_pos h1, if_pos (hh.1 h1)]; omega
  · rw [if_neg h1, if_neg (fun h2 => h1 (hh.2 h2))]; omega
theorem run_dug_eq {b : Bog} {h : Nat → Nat} : ∀ (l : List Pass) (t : Nat → Nat → Int), (∀ p ∈ l, passE b p = 0 ∧ (p.row.toNat < h p.column.toNat ↔ p.row.toNat - 1 < h p.to_.toNat)) → dug h (runP b t l).1 b.worth.length (dep b).toNat = dug h t b.worth.length (dep b).toNat
  | [], t, _ => rfl
  | p :: l, t, hl => by
    obtain ⟨h0, h1⟩ := hl p (by simp)
    obtain ⟨c1, c2, c3, c4, c5⟩ := passE_0 h0
    unfold runP
    rw [if_pos h0, run_dug_eq l _ (fun q hq => hl q (List.mem_cons_of_mem _ hq)), dug_pass_eq (by omega) (by omega) (by omega) (by omega) h1]
theorem emit_mem {F : Block → Block → Int} {L : List (Block × Block)} {p : Pass} (h : p ∈ emitL F L) : ∃ z ∈ L, 0 < F z.1 z.2 ∧ p = ⟨z.1.column, z.1.row, z.2.column, F z.1 z.2⟩ := by
  obtain ⟨z, hz, hp⟩ := List.mem_flatMap.1 h
  unfold oneP at hp
  split at hp
  · rename_i h0
    exact ⟨z, hz, h0, by simpa using hp⟩
  · cases hp
theorem tight {b : Bog} (hb : Ok b) {m : List (Block × Int)} {pm : List (Link × Int)} (st : StM b m pm) (stuck : ∀ u, inB b.worth.length (dep b).toNat u → StuckU b m pm u) :
    (proofE b (emitL (pasF pm) (candA b.worth.length ((dep b).toNat - 1)))).2 = 0 ∧ ∃ h, hollowE b h = 0 ∧ W b h = (proofE b (emitL (pasF pm) (candA b.worth.length ((dep b).toNat - 1)))).1 := by
  have h6 := hb.n6
  have n1 := hb.n1
  have d1 := hb.d1
  have d4 := hb.d4
  obtain ⟨bF, bT⟩ := StF.bds hb st
  have hlen : (emitL (pasF pm) (candA b.worth.length ((dep b).toNat - 1))).length ≤ 60 := by
    have h1 := emit_len (pasF pm) (candA b.worth.length ((dep b).toNat - 1))
    rw [candA_len] at h1
    have : 3 * ((dep b).toNat - 1) * b.worth.length ≤ 9 * 6 := Nat.mul_le_mul (by omega) h6
    omega
  obtain ⟨r1, r2⟩ := run_emit bF st.val (candA b.worth.length ((dep b).toNat - 1)) (tab0 b) (candA_nodup _ _) (fun z hz => by
    obtain ⟨c, r, _, _, h⟩ := candA_mem.1 hz
    exact (tri_mem h).2)
  rw [res_all st.pos st.val] at r2
  have r3 : ∀ c r : Nat, c < b.worth.length → r < (dep b).toNat → (runP b (tab0 b) (emitL (pasF pm) (candA b.worth.length ((dep b).toNat - 1)))).1 c r = hasT m ⟨(c : Int), (r : Int)⟩ := fun c r hc hr => by
    have hi : inB b.worth.length (dep b).toNat ⟨(c : Int), (r : Int)⟩ := ⟨by simp only; omega, by simp only; omega, by simp only; omega, by simp only; omega⟩
    have e1 := r2 _ hi
    have e2 := st.bal _ hi
    simp only [Int.toNat_natCast] at e1
    rw [e1, e2]; rfl
  have hp : proofE b (emitL (pasF pm) (candA b.worth.length ((dep b).toNat - 1))) = (sumP b (runP b (tab0 b) (emitL (pasF pm) (candA b.worth.length ((dep b).toNat - 1)))).1, 0) := by
    unfold proofE proofL
    rw [if_pos (val0.2 hb), if_neg (by omega), if_pos r1]
  rw [hp]
  refine ⟨rfl, ?_⟩
  -- the hollow
  have hin : ∀ u, Rset b.worth.length (dep b).toNat (hasT m) (pasF pm) u → inB b.worth.length (dep b).toNat u ∧ 0 ≤ hasT m u := fun u h => h.in_ stuck
  have hk : ∀ c : Nat, ∀ r, r < hN (fun (r : Nat) => Rset b.worth.length (dep b).toNat (hasT m) (pasF pm) ⟨(c : Int), (r : Int)⟩) (dep b).toNat ↔ r < (dep b).toNat ∧ Rset b.worth.length (dep b).toNat (hasT m) (pasF pm) ⟨(c : Int), (r : Int)⟩ := fun c => hN_spec (fun r h => by
    obtain ⟨q, _⟩ := hin _ h
    have q' := q
    obtain ⟨a1, a2, a3, a4⟩ := q'
    simp only at a1 a2 a3 a4
    exact h.step (.inl ⟨q, ⟨a1, a2, by simp only; omega, by simp only; omega⟩, by simp only; omega, by simp only; omega, by simp only; omega⟩)) _
  let hh : Nat → Nat := fun c => hN (fun (r : Nat) => Rset b.worth.length (dep b).toNat (hasT m) (pasF pm) ⟨(c : Int), (r : Int)⟩) (dep b).toNat
  have hk' : ∀ c r : Nat, r < hh c ↔ r < (dep b).toNat ∧ Rset b.worth.length (dep b).toNat (hasT m) (pasF pm) ⟨(c : Int), (r : Int)⟩ := hk
  have hle : ∀ c, hh c ≤ (dep b).toNat := fun c => hN_le _ _
  clear_value hh
  have hgi : ∀ c, c < b.worth.length → gi ((List.range b.worth.length).map fun (c : Nat) => ((hh c : Nat) : Int)) c = ((hh c : Nat) : Int) := fun c hc => gi_of (by simp [hc])
  have ho : okL b ((List.range b.worth.length).map fun (c : Nat) => ((hh c : Nat) : Int)) = true := okL_iff.2 ⟨by simp, fun x hx => by
    obtain ⟨c, _, rfl⟩ := List.mem_map.1 hx
    have := hle c
    omega⟩
  have stepH : ∀ c c2 : Nat, c2 < b.worth.length → (c2 : Int) - (c : Int) ≤ 1 → -1 ≤ (c2 : Int) - (c : Int) → hh c ≤ hh c2 + 1 := fun c c2 h2 e1 e2 => by
    by_cases h0 : hh c ≤ 1
    · omega
    · have q := (hk' c (hh c - 1)).1 (by omega)
      obtain ⟨q1, _⟩ := hin _ q.2
      have q1' := q1
      obtain ⟨a1, a2, a3, a4⟩ := q1'
      simp only at a1 a2 a3 a4
      have := (hk' c2 (hh c - 1 - 1)).2 ⟨by omega, q.2.step (.inl ⟨q1, ⟨by simp only; omega, by simp only; omega, by simp only; omega, by simp only; omega⟩, by simp only; omega, by simp only; omega, by simp only; omega⟩)⟩
      omega
  have hr : rightB ((List.range b.worth.length).map fun (c : Nat) => ((hh c : Nat) : Int)) = true := rightB_iff.2 fun j hj h1 => by
    have hj' : j < b.worth.length := by simpa using hj
    rw [hgi j hj', hgi (j - 1) (by omega)]
    have q1 := stepH j (j - 1) (by omega) (by omega) (by omega)
    have q2 := stepH (j - 1) j hj' (by omega) (by omega)
    omega
  refine ⟨(List.range b.worth.length).map fun (c : Nat) => ((hh c : Nat) : Int), hollow0.2 ⟨hb, ho, hr⟩, ?_⟩
  have e0 : ∀ t : Nat → Nat → Int, dug (fun c => (gi ((List.range b.worth.length).map fun (c : Nat) => ((hh c : Nat) : Int)) c).toNat) t b.worth.length (dep b).toNat = dug hh t b.worth.length (dep b).toNat := fun t => by
    unfold dug s2
    refine s1_congr fun c hc => s1_congr fun r _ => ?_
    simp only [hgi c hc, Int.toNat_natCast]
  unfold W
  rw [wsum_dug hb ho, e0, ← run_dug_eq (b := b) (h := hh) (emitL (pasF pm) (candA b.worth.length ((dep b).toNat - 1))) (tab0 b) (fun p hp => by
    obtain ⟨z, _, hz, rfl⟩ := emit_mem hp
    have hu := st.val _ _ hz
    have bz := bF z.1 z.2
    refine ⟨passE_ok hu (by omega), ?_⟩
    have hu' := hu
    obtain ⟨i1, i2, g1, g2, g3⟩ := hu'
    have i1' := i1
    have i2' := i2
    obtain ⟨a1, a2, a3, a4⟩ := i1'
    obtain ⟨b1, b2, b3, b4⟩ := i2'
    have n1 := nat_bk i1
    have n2 := nat_bk i2
    show z.1.row.toNat < hh z.1.column.toNat ↔ z.1.row.toNat - 1 < hh z.2.column.toNat
    rw [hk', hk', show z.1.row.toNat - 1 = z.2.row.toNat by omega, n1, n2]
    exact ⟨fun q => ⟨by omega, q.2.step (.inl hu)⟩, fun q => ⟨by omega, q.2.step (.inr hz)⟩⟩)]
  unfold dug sumP s2
  refine s1_congr fun c hc => s1_congr fun r hr => ?_
  simp only
  rw [r3 c r hc hr]
  by_cases hlt : r < hh c
  · rw [if_pos hlt]
    have := (hin _ ((hk' c r).1 hlt).2).2
    omega
  · rw [if_neg hlt]
    by_cases hpos : 0 < hasT m ⟨(c : Int), (r : Int)⟩
    · exact absurd ((hk' c r).2 ⟨hr, Rset.pos ⟨by simp only; omega, by simp only; omega, by simp only; omega, by simp only; omega⟩ hpos⟩) hlt
    · omega
/-- What the code returns. -/
theorem Proof_eq {b : Bog} (hs : Short b) : ∃ l, cut_Proof b = some (l, validate b) ∧ l.length ≤ 60 ∧ (validate b ≠ 0 → l = []) ∧ (validate b = 0 → (proofE b l).2 = 0 ∧ (proofE b l).1 = (bestR min b).2.1) := by
  by_cases hv : validate b = 0
  · have hb := val0.1 hv
    obtain ⟨m, pm, h1, h2, h3⟩ := Proof_run hs hb
    rw [h3, out_run hb m, hv]
    have h6 := hb.n6
    have d4 := hb.d4
    refine ⟨_, rfl, ?_, fun h => absurd rfl h, fun _ => ?_⟩
    · have h1 := emit_len (pasF pm) (candA b.worth.length ((dep b).toNat - 1))
      rw [candA_len] at h1
      have : 3 * ((dep b).toNat - 1) * b.worth.length ≤ 9 * 6 := Nat.mul_le_mul (by omega) h6
      omega
    · obtain ⟨t1, h, t2, t3⟩ := tight hb h1 h2
      refine ⟨t1, Int.le_antisymm ?_ (proof_best t1).2⟩
      rw [← t3]
      have K := best_spec (f := min) (.inl fun _ _ => rfl) hb
      have r1 : bestR min b = _ := if_pos hv
      rw [r1]
      exact K.top h t2
  · refine ⟨[], ?_, by simp, fun _ => rfl, fun h => absurd h hv⟩
    unfold cut_Proof
    rw [bnd_eq (Validate_eq hs), if_neg hv]
end Go.D4

set_option linter.unusedVariables false
set_option linter.unusedSimpArgs false
namespace Go.D4
open Go.Tb
section
variable {f : Int → Int → Int} {s : Int} {l : List Int}
end
theorem gi_ext {a b : List Int} (hl : a.length = b.length) (h : ∀ c, c < a.length → gi a c = gi b c) : a = b := by
  apply List.ext_getElem hl
  intro c h1 h2
  have := h c h1
  rw [gi_of (List.getElem?_eq_getElem h1), gi_of (List.getElem?_eq_getElem h2)] at this
  exact this
end Go.D4

set_option linter.unusedVariables false
set_option linter.unusedSimpArgs false
namespace Go.D4
open Go.Tb
theorem count_4 : cut_Count ((⟨([([1] : List Int), ([1] : List Int)] : List (List Int))⟩ : Bog)) = some (4, 0) := by decide +kernel
theorem Same5_self {l : List Int} (hl : l.length ≤ 1000) : ref05_SameInts l l = some true := by
  unfold ref05_SameInts
  rw [if_pos rfl]
  refine for_loop0 l.length (fun _ => ()) (fun n _ i => ref05_SameInts_L1 l l n i) _ (fun n i hi => ?_) (fun n => ?_) (by omega)
  · obtain ⟨x, hx⟩ := ex_at (l := l) (j := i) hi
    show ref05_SameInts_B1 l l (ref05_SameInts_L1 l l n) _ = _
    unfold ref05_SameInts_B1
    rw [if_pos (by omega), ix_nat hx, ix_nat hx, if_pos rfl, gd_pos (by omega)]; rfl
  · show ref05_SameInts_B1 l l (ref05_SameInts_L1 l l n) _ = _
    unfold ref05_SameInts_B1
    rw [if_neg (by omega)]; rfl
theorem worthR_W {b : Bog} {h : List Int} (h0 : hollowE b h = 0) : worthR b h = (W b h, 0) := if_pos h0
theorem joinR_0 {f : Int → Int → Int} {b : Bog} {h k : List Int} (h0 : hollowE b h = 0) (k0 : hollowE b k = 0) : joinR f b h k = (List.zipWith f h k, 0) := by
  unfold joinR
  rw [if_pos (by unfold twoE; rw [if_pos h0, k0])]
/-- The orders of a hollow, as CutPlans has them. -/
theorem plan_check {b : Bog} {h : List Int} (h0 : hollowE b h = 0) : ∃ o, planR b h = (o, 0) ∧ o.length ≤ 24 ∧ checkR b o = (h, (o.length : Int), 0) := by
  have ⟨i, h24⟩ := Inv.zero h0
  have hbo := (hollow0.1 h0).1
  have e0 : List.replicate b.worth.length (0 : Int) = List.replicate h.length 0 := by rw [(okL_iff.1 i.lh).1]
  have l0 : Led b [] (List.replicate h.length 0) := ⟨fun x hx => (List.not_mem_nil hx).elim, fun j hj => absurd hj (Nat.not_lt_zero _), e0⟩
  have ⟨ld, ln⟩ := plan_led _ _ _ i l0
  have e : planR b h = (plan b h (isum h).toNat [] (List.replicate h.length 0), 0) := by unfold planR; rw [if_pos h0]
  have hpl : (plan b h (isum h).toNat [] (List.replicate h.length 0)).length ≤ 24 := by rw [ln]; simpa using h24
  exact ⟨_, e, hpl, ld.check hbo hpl⟩
theorem law_TopHollows (b : Bog) (h : List Int) (t : Int) (hlen : b.worth.length ≤ 9223372036854775807) : top_TopHollows b h t = some true := by
  unfold top_TopHollows
  rw [bnd_eq count_4, if_pos rfl]
  unfold top_TopHollows_k6
  rw [decide_eq_true rfl, if_neg (by simp), bnd_eq (Long_eq (by simp) hlen)]
  cases hL : longB b [h]
  · obtain ⟨hs, h2⟩ := long_short hL
    have hl := h2 h (by simp)
    obtain ⟨l, el, l60, lno, lyes⟩ := Proof_eq hs
    rw [if_neg (by simp), bnd_eq (Best_eq hs), bnd_eq (Deepest_eq hs), bnd_eq el]
    by_cases hv : validate b = 0
    · have ob := val0.1 hv
      have h6 := ob.n6
      obtain ⟨p1, p2⟩ := lyes hv
      have K := best_spec (f := min) (.inl fun _ _ => rfl) ob
      have V := best_spec (f := max) (.inr fun _ _ => rfl) ob
      have ⟨kv, _⟩ := best_both K V
      have r2 : bestR min b = _ := if_pos hv
      have r4 : bestR max b = _ := if_pos hv
      rw [r2] at p2
      rw [r2, r4, if_pos rfl, hv]
      generalize bestN min b (hollows b) (hollows b).length = sk at K kv p2
      generalize bestN max b (hollows b) (hollows b).length = sv at V kv
      have kl := hollow_len K.hol
      have vl := hollow_len V.hol
      have kw := K.w
      have vw := V.w
      unfold top_TopHollows_k5
      obtain ⟨o, eo, o24, eo2⟩ := plan_check V.hol
      rw [decide_eq_true rfl, if_neg (by simp), if_pos rfl, bnd_eq (CheckProof_eq hs l (by omega)), bnd_eq (Order_eq hs (by simp only; omega)), eo, bnd_eq (CheckOrder_eq hs (by simp only; omega)), eo2, bnd_eq (Worth_eq hs (by simp only; omega)), worthR_W V.hol, if_pos p1, if_pos rfl, if_pos rfl, if_pos rfl, if_pos (show sk.2 = sv.2 from kv), if_pos (show (proofE b l).1 = sk.2 from p2), if_pos (show W b sv.1 = sk.2 by omega), bnd_eq (Same5_self (by simp only; omega))]
      -- a hollow, joined with the best ones
      have last : top_TopHollows_k1 b h (sk.1, sk.2, 0) (sv.1, sv.2, 0) = some true := by
        unfold top_TopHollows_k1
        rw [bnd_eq (Worth_eq hs (by omega))]
        by_cases h0 : hollowE b h = 0
        · have hh := hollow_len h0
          have z1 := hollow_zip (f := max) (.inr fun _ _ => rfl) h0 K.hol
          have z2 := hollow_zip (f := min) (.inl fun _ _ => rfl) h0 V.hol
          have m1 := W_mm h0 K.hol
          have m2 := W_mm h0 V.hol
          have t1 := K.top _ (hollow_zip (f := min) (.inl fun _ _ => rfl) h0 K.hol)
          have t2 := V.top _ (hollow_zip (f := max) (.inr fun _ _ => rfl) h0 V.hol)
          have t3 := K.top _ h0
          have y1 := hollow_len z1
          have y2 := hollow_len z2
          rw [worthR_W h0, if_pos rfl, bnd_eq (Either_eq hs (by omega) (by simp only; omega)), bnd_eq (Both_eq hs (by omega) (by simp only; omega)), joinR_0 h0 K.hol, joinR_0 h0 V.hol, bnd_eq (Worth_eq hs (by simp only; omega)), bnd_eq (Worth_eq hs (by simp only; omega)), worthR_W z1, worthR_W z2, if_pos rfl, if_pos rfl, if_pos rfl, if_pos rfl, if_pos (show W b h ≤ sk.2 from t3), if_pos (show W b h ≤ W b (List.zipWith max h sk.1) by omega), decide_eq_true (show W b h ≤ W b (List.zipWith min h sv.1) by omega)]
        · have e : worthR b h = (0, hollowE b h) := if_neg h0
          rw [e, if_neg h0]
      unfold top_TopHollows_k4
      rw [if_neg (by simp), bnd_eq (Toll_eq hs t)]
      by_cases ht0 : (tollR b t).2 = 0
      · have ⟨_, ot, et⟩ := tollR_ok ht0
        rw [if_pos ht0, et]
        unfold top_TopHollows_k3
        by_cases hn : 0 ≤ t
        · have ts := toll_short hs t
          have U := best_spec (f := max) (.inr fun _ _ => rfl) ot
          have r3 : bestR max (tollB b t) = _ := if_pos (val0.2 ot)
          rw [decide_eq_true hn, if_pos rfl, bnd_eq (Deepest_eq ts), r3]
          generalize bestN max (tollB b t) (hollows (tollB b t)) (hollows (tollB b t)).length = su at U
          have ub := (hollow_toll ob ot).1 U.hol
          have ul := hollow_len ub
          have l3 := tolls_most ob ot hn U V
          have hzip : List.zipWith min su.1 sv.1 = su.1 := by
            have hzl : (List.zipWith min su.1 sv.1).length = su.1.length := by simp; omega
            refine gi_ext hzl fun c hc => ?_
            rw [hzl] at hc
            rw [zw_gi (by omega) hc]
            have := l3 c hc
            omega
          rw [bnd_eq (Both_eq hs (by simp only; omega) (by simp only; omega)), joinR_0 ub V.hol, if_pos rfl, if_pos rfl, hzip, bnd_eq (Same5_self (by simp only; omega))]
          unfold top_TopHollows_k2
          rw [if_neg (by simp)]
          exact last
        · rw [decide_eq_false hn, if_neg (by simp)]
          exact last
      · rw [if_neg ht0]
        unfold top_TopHollows_k3
        rw [if_neg (by simp)]
        exact last
    · have r2 : bestR min b = ([], 0, validate b) := if_neg hv
      have r4 : bestR max b = ([], 0, validate b) := if_neg hv
      rw [r2, r4, if_pos rfl]
      unfold top_TopHollows_k5
      rw [decide_eq_true rfl, if_neg (by simp), if_neg hv, bnd_eq (Validate_eq hs), decide_eq_true rfl]
  · rw [if_pos rfl]
end Go.D4
