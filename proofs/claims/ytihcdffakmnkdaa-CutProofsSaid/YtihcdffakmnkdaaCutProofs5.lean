/- Lemmas and walks that the proof of this claim uses: Tb40, Tb41, Tb42, Tb43D, D4u1, D4t1, D4t2, D4t3, D4t4, D4t5, D4t6, D4t7, D4t8. -/
import Derived.Test.YtihcdffakmnkdaaCutProofs4
import Derived.RangeFuncRecord
import Derived.RangeFuncCalls
import Derived.OrdersIn
import Derived.TacticsIn
set_option linter.unusedVariables false
set_option linter.unusedSimpArgs false
namespace Go.Tb
open Go.RowKit
abbrev RF (r : Nat) : Fence := Fence.wide.inRound r
def noD (o : Oper) : Bool := match o.op with
  | .defer _ => false
  | _ => true
section
variable {P : Program} {m r : Nat} {ops : Array Oper} {Q : Exit → Act → World → Prop}
theorem noD_ne {o : Oper} (h : noD o = true) : ∀ c, o.op ≠ .defer c := fun c e => by unfold noD at h; rw [e] at h; cases h
theorem wide_no {p : Prop} : (RF r).depth.isSome = true → p := fun h => by cases h
theorem rowsIn_of {k : Nat} {row : String} {args : Array Value} {w : World} {R : Value → World → Prop} (h : Rows P row args w R) : RowsIn (RF r) k P row args w R := fun c cs _ =>
  let ⟨v, w', hr, s⟩ := h c cs
  ⟨v, w', hr, stepsIn_wide.2 s⟩
theorem callsIn_of {k : Nat} {f : FuncId} {args : Array Value} {w : World} {R : Ending → World → Prop} (h : Calls P f args w R) : CallsIn (RF r) k P f args w R := CallsIn.inRound r (callsIn_wide.2 h)
theorem op_in {o : Oper} {a : Act} {w : World} {next : Act → World → Prop} (hn : noD o = true) (h : o.wp P a w next Q) : o.wpIn (RF r) m P a w next Q := by
  refine ⟨fun _ _ => trivial, ?_⟩
  rw [Oper.semAt_eq _ _ _ (noD_ne hn)]
  unfold Oper.wp at h
  generalize (execOp a.eval o).run P w = x at *
  cases x with
  | ok y w' =>
    cases y <;> simp only [Oper.upon] at h <;> simp only [Oper.uponIn] <;> first
      | exact h
      | exact h.elim
      | exact ⟨wide_no, callsIn_of h⟩
      | exact ⟨wide_no, rowsIn_of h⟩
  | halt y w' => cases y <;> simp only [Oper.upon] at h <;> simp only [Oper.uponIn] <;> first | exact h | exact h.elim
theorem list_in (hL : ¬ LetsOut Q) : ∀ {l : List Oper}, l.all noD = true → ∀ {a : Act} {w : World}, wpList P ops Q l a w → wpListIn (RF r) m P ops Q l a w
  | [], _, a, w, h => h
  | o :: rest, hn, a, w, h => by
    simp only [List.all_cons, Bool.and_eq_true] at hn
    unfold wpList at h
    unfold wpListIn
    split at h
    · rename_i hw
      rw [if_pos hw]
      rcases h with h | h
      · exact Oper.wpIn_mono (fun a w => list_in hL hn.2) (op_in hn.1 h)
      · exact absurd h.2 hL
    · rename_i hw
      rw [if_neg hw]
      exact ⟨fun _ _ => trivial, list_in hL hn.2 h⟩
theorem op_at_in (hL : ¬ LetsOut Q) (hn : ∀ (i : Nat) (o : Oper), ops[i]? = some o → noD o = true) {i : Nat} {K : Act → World → Prop} {a : Act} {w : World} (h : wpOp P ops Q i K a w) : wpOpIn (RF r) m P ops Q i K a w := by
  unfold wpOp at h
  unfold wpOpIn
  cases ho : ops[i]? with
  | none => simpa [ho] using h
  | some o =>
    simp only [ho] at h ⊢
    split
    · rename_i hw
      rw [if_pos hw] at h
      rcases h with h | h
      · exact op_in (hn i o ho) h
      · exact absurd h.2 hL
    · rename_i hw
      rw [if_neg hw] at h
      exact ⟨fun _ _ => trivial, h⟩
theorem any_in (hL : ¬ LetsOut Q) (hn : ∀ (i : Nat) (o : Oper), ops[i]? = some o → noD o = true) {md : Region.Mode} : ∀ {fuel : Nat} {listed : Array Bool} {a : Act} {w : World}, wpAny P md ops Q fuel listed a w → wpAnyIn (RF r) m P md ops Q fuel listed a w
  | 0, _, _, _, h => h
  | fuel + 1, listed, a, w, h => ⟨h.1, fun i hi => wpOpIn_mono (fun a w h => any_in hL hn h) (op_at_in hL hn (h.2 i hi))⟩
end
def CR (P : Program) (r m n : Nat) (c : Code) (Q : Exit → Env → World → Prop) (ρ : Env) (w : World) : Prop := ∀ a, Fits n ρ a → c.wpIn (RF r) m P (lift n Q) a w
def NoOut (Q : Exit → Env → World → Prop) : Prop := ∀ ρ w, ¬ Q .outgrown ρ w
section
variable {P : Program} {r m n : Nat} {ops : Array Oper} {Q : Exit → Env → World → Prop} {ρ : Env} {w : World}
theorem NoOut.out (h : NoOut Q) : ¬ LetsOut (lift n Q) := fun ⟨_, w, ρ, _, hq⟩ => h ρ w hq
theorem CR.region {id : Nat} {l : List Oper} (hO : NoOut Q) (hn : l.all noD = true) (h : LW P n l.toArray Q l ρ w) : CR P r m n (.region id l.toArray false) Q ρ w := fun a ha => wpIn_region_lit (list_in hO.out hn (h a ha))
theorem CR.draw (hO : NoOut Q) (hn : ops.toList.all noD = true) (S : List Nat) (X : Nat → Prop) (t : DT) {id : Nat} (hm : P.follows .mixedOrders = true) (hB : drawB ops S t = true) (h : ∀ w', Ext w w' → DW P n ops Q S X t ρ w') : CR P r m n (.region id ops true) Q ρ w := fun a ha => by
  simp only [drawB, Bool.and_eq_true, decide_eq_true_eq] at hB
  refine wpIn_region_any hm ?_
  have hs := WA.sound (Q' := lift n Q) (fun _ _ h => h) _ _ _ _ ((DW.sound hB.1.1 t [] _ ρ _ a hB.2 (h { w with drawn := w.drawn + 1 } (Ext.drew (Ext.refl w))) ha).1 rfl)
  rw [hB.1.2] at hs
  exact any_in hO.out (fun i o ho => List.all_eq_true.1 hn o (Array.mem_toList_iff.2 (Array.mem_of_getElem? ho))) hs
theorem CR.seq {x y : Code} (h : ∀ K : Env → World → Prop, (∀ ρ w, CR P r m n y Q ρ w → K ρ w) → CR P r m n x (thenE K Q) ρ w) : CR P r m n (.seq x y) Q ρ w := fun a ha => by
  refine wpIn_seq (wpIn_mono (h (fun ρ w => CR P r m n y Q ρ w) (fun _ _ h => h) a ha) fun e a' w' hq => ?_)
  obtain ⟨ρ', hf, hq⟩ := hq
  cases e <;> first | exact hq a' hf | exact ⟨ρ', hf, hq⟩
theorem CR.sub {c : Code} (ρ' : Env) (hs : Sub ρ' ρ) (h : CR P r m n c Q ρ' w) : CR P r m n c Q ρ w := fun a ha => h a (ha.sub hs)
theorem CR.cond {c : Operand} {x y : Code} {t : Bool} (hc : ev ρ c = some (.bool t)) (ht : t = true → CR P r m n x Q ρ w) (hf : t = false → CR P r m n y Q ρ w) : CR P r m n (.cond c x y) Q ρ w :=
  fun a ha => wpIn_cond_split (ha.ev hc) (fun h => ht h a ha) (fun h => hf h a ha)
theorem CR.condT {c : Operand} {x y : Code} {t : Bool} (hc : ev ρ c = some (.bool t)) (ht : t = true) (h : CR P r m n x Q ρ w) : CR P r m n (.cond c x y) Q ρ w :=
  CR.cond hc (fun _ => h) (fun hf => absurd (ht.symm.trans hf) (by decide))
theorem CR.condF {c : Operand} {x y : Code} {t : Bool} (hc : ev ρ c = some (.bool t)) (ht : t = false) (h : CR P r m n y Q ρ w) : CR P r m n (.cond c x y) Q ρ w :=
  CR.cond hc (fun hf => absurd (ht.symm.trans hf) (by decide)) (fun _ => h)
theorem CR.skip (h : Q .normal ρ w) : CR P r m n .skip Q ρ w := fun _ ha => wpIn_skip ⟨ρ, ha, h⟩
theorem CR.ret (h : Q .ret ρ w) : CR P r m n .ret Q ρ w := fun _ ha => wpIn_ret ⟨ρ, ha, h⟩
theorem CR.block {id : Nat} {c : Code} (h : CR P r m n c (blockE id Q) ρ w) : CR P r m n (.block id c) Q ρ w := fun a ha => by
  refine wpIn_block (wpIn_mono (h a ha) fun e a' w' hq => ?_)
  obtain ⟨ρ', hf, hq⟩ := hq
  cases e with
  | exit id' =>
    simp only [blockE] at hq
    simp only [Exit.inBlock]
    split at hq
    · rename_i hb
      rw [if_pos (Nat.eq_of_beq_eq_true hb)]
      exact ⟨ρ', hf, hq⟩
    · rename_i hb
      rw [if_neg (fun e => by subst e; simp at hb)]
      exact ⟨ρ', hf, hq⟩
  | _ => exact ⟨ρ', hf, hq⟩
theorem CR.seqJ {x y : Code} (J : Env → World → Prop) (hJ : ∀ ρ w, J ρ w → CR P r m n y Q ρ w)
    (h : ∀ K : Env → World → Prop, (∀ ρ w, CR P r m n y Q ρ w → K ρ w) → (∀ ρ w, (∃ ρ', Sub ρ' ρ ∧ J ρ' w) → K ρ w) → CR P r m n x (thenE K Q) ρ w) : CR P r m n (.seq x y) Q ρ w :=
  CR.seq fun K hK => h K hK fun ρ w ⟨ρ', hs, hj⟩ => hK ρ w (CR.sub ρ' hs (hJ ρ' w hj))
end
/-- What is called with yield hands over the rows of xs, one after another, and stops where yield says so; in a world of which Rd says what it reads. -/
def Iter (P : Program) (gf : Nat) (lb : Array Value) (xs : List (Array Value)) (Rd : World → Prop) : Prop :=
  ∀ (r : Nat) (J : Nat → World → Prop) (Jx : World → Prop) (W : World),
    (∀ i W1, J i W1 → Rd W1) → (∀ i W1 W2, J i W1 → Ext W1 W2 → J i W2) →
    (∀ i W1 x, J i W1 → xs[i]? = some x → YieldAt Fence.wide 1 P r x W1 fun e W' => (e = .returned (.bool true) ∧ J (i + 1) W') ∨ (e = .returned (.bool false) ∧ Jx W')) →
    J 0 W →
    CallsIn Fence.wide 2 P gf (#[.func (.yield r) #[] #[]] ++ lb) W fun e W' => (∃ v, e = .returned v) ∧ (J xs.length W' ∨ Jx W')
abbrev lrec (fn : FuncId) (a : Act) (ps : Array Tmp) (assign body : Code) (D : Nat) (st : LoopState) (pe : Option Code) : Loop := { state := st, pending := pe, fn, tmps := a.tmps, params := ps, assign, body, defers := D }
def lck (r D : Nat) (o : Obj) : Ck := .inv [r, D] fun W => W.heap[r]? = some o ∧ W.heap[D]? = some (.deferred (some []))
theorem lck_holds {W : World} {r D : Nat} {o : Obj} (h1 : W.heap[r]? = some o) (h2 : W.heap[D]? = some (.deferred (some []))) : (lck r D o).holds W :=
  ⟨fun b hb => by
    simp at hb
    rcases hb with rfl | rfl
    · exact (Array.getElem?_eq_some_iff.1 h1).1
    · exact (Array.getElem?_eq_some_iff.1 h2).1, ⟨h1, h2⟩, fun w1 w2 hl h hq => ⟨(h r (by simp)).trans hq.1, (h D (by simp)).trans hq.2⟩⟩
theorem lck_at {w0 W : World} {L : List Ck} {r D : Nat} {o : Obj} (H : Hp w0 W (L ++ [lck r D o])) : W.heap[r]? = some o ∧ W.heap[D]? = some (.deferred (some [])) := (H.holds L.length (lck r D o) (by simp)).2.1
theorem lck_put {w0 W : World} {L : List Ck} {r D : Nat} {o : Obj} (o' : Obj) (hne : D ≠ r) (H : Hp w0 W (L ++ [lck r D o])) : Hp w0 (W.putObj r o') (L ++ [lck r D o']) := by
  obtain ⟨h1, h2⟩ := lck_at H
  have hlt := (Array.getElem?_eq_some_iff.1 h1).1
  have hf := H.fresh L.length (lck r D o) (by simp) r (by simp [lck, Ck.bl])
  have h := H.step (w' := W.putObj r o') L.length (x := lck r D o) (y := lck r D o') (by simp)
    (Below.grown H.ext (grownBy_putObj' W r o') (Below.size H.ext) (fun k e => by cases e; exact hf))
    (fun b _ hb => World.putObj_heap_other (fun e => hb (by rw [e]; simp [lck, Ck.bl])))
    (lck_holds (World.putObj_heap_same hlt) ((World.putObj_heap_other hne).trans h2)) (fun b hb => .inl hb)
  simpa using h
def dck (D : Nat) : Ck := .inv [D] fun W => W.heap[D]? = some (.deferred (some []))
theorem lck_dck {w0 W : World} {L : List Ck} {r D : Nat} {o : Obj} (H : Hp w0 W (L ++ [lck r D o])) : Hp w0 W (L ++ [dck D]) := by
  obtain ⟨_, h2⟩ := lck_at H
  have h := H.step (w' := W) L.length (x := lck r D o) (y := dck D) (by simp) H.ext (fun _ _ _ => rfl)
    ⟨fun b hb => by simp at hb; rw [hb]; exact (Array.getElem?_eq_some_iff.1 h2).1, h2, fun w1 w2 hl h hq => (h D (by simp)).trans hq⟩ (fun b hb => .inl (by simp [dck, lck, Ck.bl] at *; exact .inr hb))
  simpa using h
/-- The env of a round: yield's arguments in the parameters. -/
def penv : List Tmp → List Value → Env → Env
  | p :: ps, x :: xs, ρ => penv ps xs ((p, x) :: ρ)
  | _, _, ρ => ρ
theorem penv_fits {n : Nat} : ∀ (ps : List Tmp) (xs : List Value) (ρ : Env) (t : Array Value) (ds : List Deferred), Fits n ρ { tmps := t, defers := [] } → (∀ p ∈ ps, p < n) → Fits n (penv ps xs ρ) { tmps := (ps.zip xs).foldl (fun t (px : Tmp × Value) => t.setIfInBounds px.1 px.2) t, defers := [] }
  | [], _, ρ, t, ds, h, _ => by simpa [penv] using h
  | p :: ps, [], ρ, t, ds, h, _ => by simpa [penv] using h
  | p :: ps, x :: xs, ρ, t, ds, h, hp => by
    simp only [penv, List.zip_cons_cons, List.foldl_cons]
    refine penv_fits ps xs _ _ ds ?_ (fun q hq => hp q (by simp [hq]))
    exact h.upd (d := some p) (by simp [okDst, Nat.blt_eq, hp p (by simp)]) x
end Go.Tb

set_option linter.unusedVariables false
set_option linter.unusedSimpArgs false
namespace Go.Tb
open Go.RowKit
theorem Hp.snoc {w0 w w' : World} {L : List Ck} (h : Hp w0 w L) (e : Ext w w') {x : Ck} (hx : x.holds w') (fr : ∀ b ∈ x.bl, w.heap.size ≤ b) : Hp w0 w' (L ++ [x]) := by
  refine Hp.pick (h.cons e hx fr) (List.range' 1 L.length ++ [0]) ?_ ?_
  · rw [List.nodup_append]
    refine ⟨List.nodup_range', by simp, fun a ha b hb => ?_⟩
    rw [List.mem_range'_1] at ha
    simp at hb
    omega
  · rw [List.map_append, List.map_append]
    congr 1
    apply List.ext_getElem?
    intro i
    by_cases hi : i < L.length
    · simp [hi, Nat.add_comm 1 i]
    · rw [List.getElem?_eq_none (by simpa using hi), List.getElem?_eq_none (by simpa using hi)]
abbrev mark (D : Nat) : Deferred := { target := .collected D, args := #[] }
def rpost {V Vx : Type} (w0 : World) (Φ : Nat → V → Prop) (Lv : V → List Ck) (Ψ : Vx → Prop) (Lx : Vx → List Ck) (i : Nat) (X : Ck) : Exit → Env → World → Prop
  | .normal, _, W => ∃ v, Φ (i + 1) v ∧ Hp w0 W (Lv v ++ [X])
  | .ret, _, W => ∃ v, Ψ v ∧ Hp w0 W (Lx v ++ [X])
  | _, _, _ => False
theorem zip_fold (ps : Array Tmp) (xs : Array Value) (t : Array Value) : (ps.zip xs).foldl (fun t (px : Tmp × Value) => t.setIfInBounds px.1 px.2) t = (ps.toList.zip xs.toList).foldl (fun t (px : Tmp × Value) => t.setIfInBounds px.1 px.2) t := by
  rw [← Array.foldl_toList, Array.toList_zip]
theorem wp_range {P : Program} {n : Nat} {ρ : Env} {w0 w : World} {a : Act} {V Vx Va : Type} {g : Operand} {ps : Array Tmp} {assign body : Code} {Q : Exit → Act → World → Prop} (ha : Fits n ρ a)
    {gf : Nat} {lb : Array Value} (hg : ev ρ g = some (.func (.func gf) #[] lb)) (eg : ∀ args w, (callFunc gf args).run P w = .ok (.enter gf args) w)
    {xs : List (Array Value)} (hps : ∀ x ∈ xs, x.size = ps.size) (hpn : ∀ p ∈ ps.toList, p < n) {Rd : World → Prop} (hit : Iter P gf lb xs Rd)
    (Φ : Nat → V → Prop) (Lv : V → List Ck) (Φa : Nat → Va → Env → Prop) (La : Va → List Ck) (Ψ : Vx → Prop) (Lx : Vx → List Ck)
    (hRd : ∀ i v W X, Φ i v → Hp w0 W (Lv v ++ [X]) → Rd W) (v0 : V) (h0 : Φ 0 v0) (H : Hp w0 w (Lv v0))
    (hassign : ∀ r i v W X x, Φ i v → xs[i]? = some x → Hp w0 W (Lv v ++ [X]) → CR P r 1 n assign (fun e ρ' W' => e = .normal ∧ ∃ v', Φa i v' ρ' ∧ Hp w0 W' (La v' ++ [X])) (penv ps.toList x.toList ρ) W)
    (hbody : ∀ r i v ρ' W X, Φa i v ρ' → Hp w0 W (La v ++ [X]) → CR P r 1 n body (rpost w0 Φ Lv Ψ Lx i X) ρ' W)
    (hdone : ∀ D v W, Φ xs.length v → Hp w0 W (Lv v ++ [dck D]) → Q .normal { a with defers := [mark D] } W)
    (hret : ∀ D v W, Ψ v → Hp w0 W (Lx v ++ [dck D]) → Q .ret { a with defers := [mark D] } W) :
    (Code.rangeFunc g ps assign body).wp P Q a w := by
  refine (wpIn_wide (n := 3)).1 (wpIn_rangeFunc ?_)
  intro fn _
  obtain ⟨rec, hrec⟩ : ∃ rec : LoopState → Option Code → Loop, rec = lrec fn a ps assign body w.heap.size := ⟨_, rfl⟩
  obtain ⟨W1, hW1⟩ : ∃ W1, (w.alloc (.deferred (some []))).alloc (.loop (rec .ready none)) = W1 := ⟨_, rfl⟩
  have had := ha.defers
  have hne : w.heap.size ≠ w.heap.size + 1 := by omega
  have hL1 : W1.heap[w.heap.size + 1]? = some (.loop (rec .ready none)) := by
    rw [← hW1]; have := World.alloc_heap_new (w.alloc (.deferred (some []))) (.loop (rec .ready none)); rwa [World.size_alloc] at this
  have hK1 : W1.heap[w.heap.size]? = some (.deferred (some [])) := by
    rw [← hW1]; exact (Below.heap_alloc _ _ _ (by simp)).trans (World.alloc_heap_new w _)
  have hE : Ext w W1 := by
    rw [← hW1]; exact ((Below.refl _ w).alloc (Nat.le_refl _) _).alloc (by simp) _
  have H1 : Hp w0 W1 (Lv v0 ++ [lck (w.heap.size + 1) w.heap.size (.loop (rec .ready none))]) := H.snoc hE (lck_holds hL1 hK1) (by
    intro b hb
    simp [lck, Ck.bl] at hb
    omega)
  refine ⟨w.heap.size + 1, [mark w.heap.size], W1, { target := .fn (.func gf) lb, args := #[.func (.yield (w.heap.size + 1)) #[] #[]] }, W1, gf,
    #[.func (.yield (w.heap.size + 1)) #[] #[]] ++ lb, W1, ?_, ?_, fun _ _ => trivial, ?_, (fun h => by cases h), ?_⟩
  · rw [← hW1, hrec]; exact run_enterLoop_outer _ _ _ _ _
  · simp only [resolve, ha.ev hg]
    simp [go_sem]
  · simp [invoke, go_sem, eg]
  refine (hit (w.heap.size + 1) (fun i W => ∃ v, Φ i v ∧ Hp w0 W (Lv v ++ [lck (w.heap.size + 1) w.heap.size (.loop (rec .ready none))]))
    (fun W => ∃ v, Ψ v ∧ Hp w0 W (Lx v ++ [lck (w.heap.size + 1) w.heap.size (.loop (rec .done (some .ret)))])) W1
    (fun i W ⟨v, h1, h2⟩ => hRd i v W _ h1 h2) (fun i W W' ⟨v, h1, h2⟩ e => ⟨v, h1, h2.grow e⟩) ?_ ⟨v0, h0, H1⟩).mono ?_
  · rintro i W x ⟨v, hv, HW⟩ hx
    obtain ⟨hl, _⟩ := lck_at HW
    have hsz := hps x (List.mem_of_getElem? hx)
    have hy := run_yield (P := P) (args := x) hl (by rw [hrec]; exact hsz)
    rw [hrec] at hy
    refine ⟨fn, _, assign, body, hy, roundIn_of_wpIn trivial ?_⟩
    have hfit : Fits n (penv ps.toList x.toList ρ) { tmps := (ps.zip x).foldl (fun t (px : Tmp × Value) => t.setIfInBounds px.1 px.2) a.tmps, defers := [] } := by
      rw [zip_fold]
      exact penv_fits _ _ _ _ [] ⟨rfl, ha.size, ha.at_⟩ hpn
    refine wpIn_mono (hassign (w.heap.size + 1) i v W _ x hv hx HW _ hfit) ?_
    rintro e a1 W2 ⟨ρ', hf1, rfl, v', hv', H2⟩
    obtain ⟨hl2, _⟩ := lck_at H2
    refine ⟨_, run_beginRound hl2 (by rw [hrec]), ?_⟩
    have H3 := lck_put (.loop { rec .ready none with state := .busy }) hne H2
    refine wpIn_mono (hbody (w.heap.size + 1) i v' ρ' _ _ hv' H3 a1 hf1) ?_
    rintro e a2 W3 ⟨ρ2, hf2, hp⟩
    cases e with
    | normal =>
      obtain ⟨v2, hv2, H4⟩ := hp
      obtain ⟨hl4, _⟩ := lck_at H4
      refine ⟨_, _, run_endRound none hl4, .inl ⟨rfl, v2, hv2, ?_⟩⟩
      have := lck_put (.loop { { rec .ready none with state := .busy } with state := .ready, pending := none }) hne H4
      rw [hrec] at this ⊢
      exact this
    | ret =>
      obtain ⟨v2, hv2, H4⟩ := hp
      obtain ⟨hl4, _⟩ := lck_at H4
      refine ⟨_, _, run_endRound (some .ret) hl4, .inr ⟨rfl, v2, hv2, ?_⟩⟩
      have := lck_put (.loop { { rec .ready none with state := .busy } with state := .done, pending := some .ret }) hne H4
      rw [hrec] at this ⊢
      exact this
    | exit id => exact hp.elim
    | goto t => exact hp.elim
    | panic ch => exact hp.elim
    | outgrown => exact hp.elim
  · subst hrec
    rintro e W2 ⟨⟨v, rfl⟩, (⟨v2, hv2, H2⟩ | ⟨v2, hv2, H2⟩)⟩
    · obtain ⟨hl, _⟩ := lck_at H2
      have hend := run_endLoop (P := P) hl (by simp)
      have H3 := lck_dck (lck_put (.loop { lrec fn a ps assign body w.heap.size .ready none with state := .exhausted }) hne H2)
      refine ⟨none, _, hend, ?_⟩
      have := hdone w.heap.size v2 _ hv2 H3
      rw [had]
      exact this
    · obtain ⟨hl, _⟩ := lck_at H2
      have hend := run_endLoop (P := P) hl (by simp)
      have H3 := lck_dck (lck_put (.loop { lrec fn a ps assign body w.heap.size .done (some .ret) with state := .exhausted }) hne H2)
      refine ⟨some .ret, _, hend, ?_⟩
      have := hret w.heap.size v2 _ hv2 H3
      rw [had]
      exact wpIn_ret this
def qop (o : Oper) : Bool := match o.op with
  | .move _ | .assign _ | .load _ _ | .store _ _ _ | .fieldAddr _ _ _ | .indexAddr _ _ _ | .binOp _ _ _ _ _ | .unOp _ _ _ | .extract _ _ | .field _ _ _ | .build _ _ => true
  | _ => false
def isVS : Result Next → Bool
  | .ok (.value _) _ => true
  | .ok .skip _ => true
  | .ok _ _ => false
  | .halt _ _ => true
section
variable {P : Program} {ops : Array Oper} {Q : Exit → Act → World → Prop} {ds : List Deferred}
theorem isVS_v {s : Sem Value} {w : World} : isVS ((do pure (Next.value (← s)) : Sem Next).run P w) = true := by
  rw [Sem.run_bind]
  cases s.run P w <;> simp [Result.andThen, isVS]
theorem isVS_u {s : Sem Unit} {w : World} : isVS ((do s; pure Next.skip : Sem Next).run P w) = true := by
  rw [Sem.run_bind]
  cases s.run P w <;> simp [Result.andThen, isVS]
theorem qop_run {o : Oper} (h : qop o = true) (ρ : Operand → Value) (w : World) : isVS ((execOp ρ o).run P w) = true := by
  unfold qop at h
  unfold execOp
  cases ho : o.op <;> rw [ho] at h <;> simp only at h ⊢ <;> first
    | exact isVS_v
    | exact isVS_u
    | (simp [isVS]; done)
    | (exfalso; cases h; done)
    | cases h
def Qd (ds : List Deferred) (Q : Exit → Act → World → Prop) : Exit → Act → World → Prop := fun e a w => a.defers = ds ∧ Q e { a with defers := [] } w
theorem put_defers (a : Act) (d : Option Nat) (v : Value) : (a.put d v).defers = a.defers ∧ ({ a with defers := [] } : Act).put d v = { (a.put d v) with defers := [] } := by
  cases d <;> exact ⟨rfl, rfl⟩
theorem op_ds {o : Oper} {a : Act} {w : World} {K : Act → World → Prop} (hq : qop o = true) (ha : a.defers = ds) (h : o.wp P { a with defers := [] } w K Q) : o.wp P a w (fun a' w' => a'.defers = ds ∧ K { a' with defers := [] } w') (Qd ds Q) := by
  unfold Oper.wp at *
  rw [eval_defers] at h
  have hr := qop_run (P := P) hq a.eval w
  generalize (execOp a.eval o).run P w = x at *
  cases x with
  | ok y w' =>
    cases y <;> simp only [isVS] at hr <;> first
      | (simp only [Oper.upon] at h ⊢
         rw [(put_defers a o.dst _).2] at h
         exact ⟨(put_defers a o.dst _).1.trans ha, h⟩)
      | (exfalso; cases hr; done)
      | cases hr
  | halt y w' => cases y <;> simp only [Oper.upon] at h ⊢ <;> first | exact h | exact ⟨ha, h⟩
theorem asks_ds {o : Oper} {a : Act} {w : World} (h : o.asks P { a with defers := [] } w) : o.asks P a w := by
  unfold Oper.asks at *
  rw [eval_defers] at h
  exact h
theorem lets_ds (hQ : ∀ a w, Q .outgrown a w → a.defers = []) (h : LetsOut Q) : LetsOut (Qd ds Q) := by
  obtain ⟨a, w, h⟩ := h
  have := hQ a w h
  refine ⟨{ a with defers := ds }, w, rfl, ?_⟩
  obtain ⟨t, d⟩ := a
  simp only at this
  subst this
  exact h
theorem op_at_ds (hQ : ∀ a w, Q .outgrown a w → a.defers = []) (hn : ∀ (i : Nat) (o : Oper), ops[i]? = some o → qop o = true) {i : Nat} {K : Act → World → Prop} {a : Act} {w : World} (ha : a.defers = ds) (h : wpOp P ops Q i K { a with defers := [] } w) :
    wpOp P ops (Qd ds Q) i (fun a' w' => a'.defers = ds ∧ K { a' with defers := [] } w') a w := by
  unfold wpOp at *
  cases ho : ops[i]? with
  | none => simp only [ho] at h ⊢; exact ⟨ha, h⟩
  | some o =>
    simp only [ho] at h ⊢
    split
    · rename_i hw
      rw [if_pos hw] at h
      rcases h with h | h
      · exact .inl (op_ds (hn i o ho) ha h)
      · exact .inr ⟨asks_ds h.1, lets_ds hQ h.2⟩
    · rename_i hw
      rw [if_neg hw] at h
      obtain ⟨e1, e2⟩ := put_defers a o.dst undef
      rw [e2] at h
      exact ⟨e1.trans ha, h⟩
theorem any_ds (hQ : ∀ a w, Q .outgrown a w → a.defers = []) (hn : ∀ (i : Nat) (o : Oper), ops[i]? = some o → qop o = true) {md : Region.Mode} : ∀ {fuel : Nat} {listed : Array Bool} {a : Act} {w : World}, a.defers = ds → wpAny P md ops Q fuel listed { a with defers := [] } w → wpAny P md ops (Qd ds Q) fuel listed a w
  | 0, _, _, _, ha, h => ⟨h.1, ha, h.2⟩
  | fuel + 1, listed, a, w, ha, h => ⟨fun hr => ⟨ha, h.1 hr⟩, fun i hi => wpOp_mono (fun a w h => any_ds hQ hn h.1 h.2) (op_at_ds hQ hn ha (h.2 i hi))⟩
end
section
variable {P : Program} {n : Nat} {ds : List Deferred} {ops : Array Oper} {Q : Exit → Env → World → Prop} {ρ : Env} {w : World}
theorem CWD.draw (hn : ops.toList.all qop = true) (S : List Nat) (X : Nat → Prop) (t : DT) {id : Nat} (hm : P.follows .mixedOrders = true) (hB : drawB ops S t = true) (h : ∀ w', Ext w w' → DW P n ops Q S X t ρ w') : CWD P n ds (.region id ops true) Q ρ w := fun a ha => by
  simp only [drawB, Bool.and_eq_true, decide_eq_true_eq] at hB
  refine wp_mono (Q := Qd ds (lift n Q)) (wp_region_any hm ?_) ?_
  · have hs := WA.sound (Q' := lift n Q) (fun _ _ h => h) _ _ _ _ ((DW.sound hB.1.1 t [] _ ρ _ { a with defers := [] } hB.2 (h { w with drawn := w.drawn + 1 } (Ext.drew (Ext.refl w))) ha.fits).1 rfl)
    rw [hB.1.2] at hs
    exact any_ds (fun a w ⟨ρ, hf, _⟩ => hf.defers) (fun i o ho => List.all_eq_true.1 hn o (Array.mem_toList_iff.2 (Array.mem_of_getElem? ho))) ha.defers hs
  · rintro e a' w' ⟨h1, ρ', hf, hq⟩
    exact ⟨ρ', ⟨h1, hf⟩, hq⟩
end
def bodyD (P : Program) (n : Nat) (rs : Array ResultVar) (R : Ending → World → Prop) (D : Nat) : Exit → Env → World → Prop
  | .normal, ρ, w | .ret, ρ, w => w.heap[D]? = some (.deferred (some [])) ∧ ∃ v, ResOK P n rs ρ (w.putObj D (.deferred none)) v ∧ R (.returned v) (w.putObj D (.deferred none))
  | _, _, _ => False
section
variable {P : Program} {n : Nat} {fn : Func} {rs : Array ResultVar} {R : Ending → World → Prop} {ρ : Env} {w : World}
theorem post_plain (hr : fn.results = rs) {e : Exit} {a : Act} (h : lift n (bodyE P n rs R) e a w) : bodyPostM Fence.wide 1 P fn R e a w := by
  obtain ⟨ρ, hf, hq⟩ := h
  have hd := hf.defers
  cases e with
  | normal => obtain ⟨v, h1, h2⟩ := hq; simp only [bodyPostM, hd]; exact ⟨v, h1 fn a hr hf, h2⟩
  | ret => obtain ⟨v, h1, h2⟩ := hq; simp only [bodyPostM, hd]; exact ⟨v, h1 fn a hr hf, h2⟩
  | panic ch => simp only [bodyPostM, hd]; exact hq
  | outgrown => exact hq
  | exit id => exact hq.elim
  | goto l => exact hq.elim
theorem post_mark (hr : fn.results = rs) {D : Nat} {e : Exit} {a : Act} (h : liftD n [mark D] (bodyD P n rs R D) e a w) : bodyPostM Fence.wide 1 P fn R e a w := by
  obtain ⟨ρ, hf, hq⟩ := h
  have hd := hf.defers
  have key : ∀ v, w.heap[D]? = some (.deferred (some [])) → ResOK P n rs ρ (w.putObj D (.deferred none)) v → R (.returned v) (w.putObj D (.deferred none)) → LeavesInM Fence.wide 1 P fn a.tmps R [mark D] .returning w := fun v h1 h2 h3 =>
    ⟨by simp, .inl ⟨D, _, rfl, run_takeDeferred h1, v, h2 fn { a with defers := [] } hr hf.fits, h3⟩⟩
  cases e with
  | normal => obtain ⟨h1, v, h2, h3⟩ := hq; simp only [bodyPostM, hd]; exact key v h1 h2 h3
  | ret => obtain ⟨h1, v, h2, h3⟩ := hq; simp only [bodyPostM, hd]; exact key v h1 h2 h3
  | panic ch => exact hq.elim
  | outgrown => exact hq.elim
  | exit id => exact hq.elim
  | goto l => exact hq.elim
def CM (P : Program) (n : Nat) (fn : Func) (c : Code) (R : Ending → World → Prop) (ρ : Env) (w : World) : Prop := ∀ a, Fits n ρ a → c.wp P (bodyPostM Fence.wide 1 P fn R) a w
theorem CM.seq (hr : fn.results = rs) {x y : Code} (h : ∀ K : Env → World → Prop, (∀ ρ w, CM P n fn y R ρ w → K ρ w) → CW P n x (thenE K (bodyE P n rs R)) ρ w) : CM P n fn (.seq x y) R ρ w := fun a ha => by
  refine wp_seq (wp_mono (h (fun ρ w => CM P n fn y R ρ w) (fun _ _ h => h) a ha) fun e a' w' hq => ?_)
  obtain ⟨ρ', hf, hq⟩ := hq
  cases e with
  | normal => exact hq a' hf
  | exit id => exact post_plain (P := P) (n := n) (R := R) (rs := rs) (w := w') (e := .exit id) hr ⟨ρ', hf, hq⟩
  | goto l => exact post_plain (P := P) (n := n) (R := R) (rs := rs) (w := w') (e := .goto l) hr ⟨ρ', hf, hq⟩
  | ret => exact post_plain (P := P) (n := n) (R := R) (rs := rs) (w := w') (e := .ret) hr ⟨ρ', hf, hq⟩
  | panic ch => exact post_plain (P := P) (n := n) (R := R) (rs := rs) (w := w') (e := .panic ch) hr ⟨ρ', hf, hq⟩
  | outgrown => exact post_plain (P := P) (n := n) (R := R) (rs := rs) (w := w') (e := .outgrown) hr ⟨ρ', hf, hq⟩
theorem CM.sub {c : Code} (ρ' : Env) (hs : Sub ρ' ρ) (h : CM P n fn c R ρ' w) : CM P n fn c R ρ w := fun a ha => h a (ha.sub hs)
theorem CM.seqJ (hr : fn.results = rs) {x y : Code} (J : Env → World → Prop) (hJ : ∀ ρ w, J ρ w → CM P n fn y R ρ w)
    (h : ∀ K : Env → World → Prop, (∀ ρ w, CM P n fn y R ρ w → K ρ w) → (∀ ρ w, (∃ ρ', Sub ρ' ρ ∧ J ρ' w) → K ρ w) → CW P n x (thenE K (bodyE P n rs R)) ρ w) : CM P n fn (.seq x y) R ρ w :=
  CM.seq hr fun K hK => h K hK fun ρ w ⟨ρ', hs, hj⟩ => hK ρ w (CM.sub ρ' hs (hJ ρ' w hj))
/-- The last part of a statement, with what stands behind the statement. -/
def CB (P : Program) (n : Nat) (fn : Func) (b y : Code) (R : Ending → World → Prop) (ρ : Env) (w : World) : Prop := ∀ a, Fits n ρ a → b.wp P (Exit.then (y.wp P (bodyPostM Fence.wide 1 P fn R)) (bodyPostM Fence.wide 1 P fn R)) a w
theorem CB.range (hr : fn.results = rs) {w0 : World} {V Vx Va : Type} {id : Nat} {g : Operand} {ps : Array Tmp} {assign body y : Code}
    {gf : Nat} {lb : Array Value} (hg : ev ρ g = some (.func (.func gf) #[] lb)) (eg : ∀ args w, (callFunc gf args).run P w = .ok (.enter gf args) w)
    {xs : List (Array Value)} (hps : ∀ x ∈ xs, x.size = ps.size) (hpn : ∀ p ∈ ps.toList, p < n) {Rd : World → Prop} (hit : Iter P gf lb xs Rd)
    (Φ : Nat → V → Prop) (Lv : V → List Ck) (Φa : Nat → Va → Env → Prop) (La : Va → List Ck) (Ψ : Vx → Prop) (Lx : Vx → List Ck)
    (hRd : ∀ i v W X, Φ i v → Hp w0 W (Lv v ++ [X]) → Rd W) (v0 : V) (h0 : Φ 0 v0) (H : Hp w0 w (Lv v0))
    (hassign : ∀ r i v W X x, Φ i v → xs[i]? = some x → Hp w0 W (Lv v ++ [X]) → CR P r 1 n assign (fun e ρ' W' => e = .normal ∧ ∃ v', Φa i v' ρ' ∧ Hp w0 W' (La v' ++ [X])) (penv ps.toList x.toList ρ) W)
    (hbody : ∀ r i v ρ' W X, Φa i v ρ' → Hp w0 W (La v ++ [X]) → CR P r 1 n body (rpost w0 Φ Lv Ψ Lx i X) ρ' W)
    (hdone : ∀ D v W, Φ xs.length v → Hp w0 W (Lv v ++ [dck D]) → CWD P n [mark D] y (bodyD P n rs R D) ρ W)
    (hret : ∀ D v W, Ψ v → Hp w0 W (Lx v ++ [dck D]) → bodyD P n rs R D .ret ρ W) :
    CB P n fn (.block id (.rangeFunc g ps assign body)) y R ρ w := fun a ha => by
  have hfd : ∀ D, FitsD n [mark D] ρ { a with defers := [mark D] } := fun D => ⟨rfl, by
    obtain ⟨t, d⟩ := a
    have := ha.defers
    simp only at this
    subst this
    exact ha⟩
  refine wp_block (wp_range ha hg eg hps hpn hit Φ Lv Φa La Ψ Lx hRd v0 h0 H hassign hbody (fun D v W hv HW => ?_) (fun D v W hv HW => ?_))
  · show y.wp P (bodyPostM Fence.wide 1 P fn R) _ W
    exact wp_mono (hdone D v W hv HW _ (hfd D)) fun e a' w' h => post_mark hr h
  · exact post_mark hr (D := D) ⟨ρ, hfd D, hret D v W hv HW⟩
end
end Go.Tb

set_option linter.unusedVariables false
set_option linter.unusedSimpArgs false
namespace Go.Tb
open Go.RowKit
def LI (P : Program) (m n : Nat) (ops : Array Oper) (Q : Exit → Env → World → Prop) (l : List Oper) (ρ : Env) (w : World) : Prop := ∀ a, Fits n ρ a → wpListIn Fence.wide m P ops (lift n Q) l a w
section
variable {P : Program} {m n : Nat} {ops : Array Oper} {Q : Exit → Env → World → Prop} {ρ : Env} {w : World} {d : Option Tmp} {ty : TypeId} {pos : String} {after : Array Edge}
theorem LI.nil (h : Q .normal ρ w) : LI P m n ops Q [] ρ w := fun _ ha => wpListIn_nil ⟨ρ, ha, h⟩
theorem LI.pure {o : Oper} {rest : List Oper} {v : Value} (hg : o.guard = none) (hd : okDst n o.dst = true) (h : RV P n o ρ w v) (k : LI P m n ops Q rest (upd ρ o.dst v) w) : LI P m n ops Q (o :: rest) ρ w := fun a ha => by
  unfold wpListIn
  rw [if_pos (by simp [Region.wanted, hg])]
  refine ⟨fun _ _ => trivial, ?_⟩
  show o.uponIn Fence.wide m P a _ _ ((o.semAt none a.eval).run P w)
  rw [Oper.semAt_none, h a ha]
  exact k _ (ha.upd hd v)
theorem LI.yield {rest : List Oper} {x : Operand} {args : List Operand} {tys : Array TypeId} {vs : List Value} {r : Nat} {R : Ending → World → Prop} (hd : okDst n d = true) (hx : ev ρ x = some (.func (.yield r) #[] #[])) (hv : evs ρ args = some vs)
    (hy : YieldAt Fence.wide m P r vs.toArray w R) (k : ∀ e w', R e w' → ∃ v, e = .returned v ∧ LI P (m + 1) n ops Q rest (upd ρ d v) w') : LI P (m + 1) n ops Q (⟨d, .call ⟨.value x, args.toArray, tys⟩, ty, pos, after, none⟩ :: rest) ρ w := fun a ha => by
  unfold wpListIn
  rw [if_pos (by simp [Region.wanted])]
  refine ⟨fun _ _ => trivial, ?_⟩
  obtain ⟨fn, tmps, assign, body, hy, hR⟩ := hy
  have he : (execOp a.eval ⟨d, .call ⟨.value x, args.toArray, tys⟩, ty, pos, after, none⟩).run P w = .ok (.round r fn tmps assign body) w := by
    simp only [execOp, resolve, ha.ev hx, Deferred.ofValue, Sem.run_bind, Sem.run_pure, Result.andThen_ok]
    simp only [invoke, List.map_toArray, ha.evs hv]
    simpa using hy
  show Oper.uponIn Fence.wide (m + 1) P _ a _ _ ((Oper.semAt none a.eval _).run P w)
  rw [Oper.semAt_none, he, Oper.uponIn_round]
  refine ⟨(fun h => by cases h), hR.mono fun e w' h => ?_⟩
  obtain ⟨v, rfl, h2⟩ := k e w' h
  exact h2 _ (ha.upd hd v)
end
end Go.Tb

namespace Go.Tb
theorem drop_at {α : Type} {l : List α} {i : Nat} {p : α} (h : l[i]? = some p) : l.drop i = p :: l.drop (i + 1) := by
  obtain ⟨hlt, rfl⟩ := List.getElem?_eq_some_iff.1 h
  exact List.drop_eq_getElem_cons hlt
end Go.Tb

set_option linter.unusedVariables false
set_option linter.unusedSimpArgs false
namespace Go.D4u
open Go.Tb Go.Proofs Go.RowKit
theorem Tk22 : tyK Try.prog 22 = some (false, 1) := by kernel_rfl
theorem Ts22 : tyS Try.prog 22 = some (25, 1, 24, [.slice none 0 0]) := by kernel_rfl
theorem Tk25 : tyK Try.prog 25 = some (false, 1) := by kernel_rfl
end Go.D4u

set_option linter.unusedVariables false
set_option linter.unusedSimpArgs false
namespace Go.D4
open Go.Tb
theorem copy_short {b : Bog} (hs : Short b) : ref04_Copy b = some b := by
  have h6 := hs.1
  unfold ref04_Copy
  refine Eq.trans (for0 b.worth.length (fun i => b.worth.take i) (fun n s i => ref04_Copy_L1 b n i s) (some b) (by simp) (fun n i hi => ?_) (fun n => ?_) (by omega)) rfl
  · have hx : b.worth[i]? = some b.worth[i] := by simp [hi]
    have hc := hs.2 b.worth[i] (List.getElem_mem _)
    have e : b.worth.take (i + 1) = b.worth.take i ++ [b.worth[i]] := by rw [List.take_add_one, hx]; rfl
    show ref04_Copy_B1 b (ref04_Copy_L1 b n) _ _ = _
    unfold ref04_Copy_B1
    rw [if_pos (by omega), ix_nat hx, gd_pos (by simp; omega), gd_pos (by simp; omega), gd_pos (by omega), e, List.nil_append]; rfl
  · show ref04_Copy_B1 b (ref04_Copy_L1 b n) _ _ = _
    unfold ref04_Copy_B1
    rw [if_neg (by omega)]
    unfold ref04_Copy_k1
    rw [List.take_length]
end Go.D4

set_option linter.unusedVariables false
set_option linter.unusedSimpArgs false
namespace Go.D4
open Go.Tb
theorem eqB_iff (x y : Block) : eqBlock x y = true ↔ x = y := by
  cases x; cases y
  simp [eqBlock]
section
variable {κ ν : Type} {eq : κ → κ → Bool} (hs : ∀ x y, eq x y = true ↔ x = y)
include hs
theorem mset_map : ∀ (m : List (κ × ν)) (x : κ) (v : ν), (m.map (·.1)).Nodup → x ∈ m.map (·.1) → mset eq m x v = m.map fun p => if eq x p.1 = true then (p.1, v) else p
  | [], x, v, _, hx => by simp at hx
  | p :: m, x, v, hn, hx => by
    have hn' := List.nodup_cons.1 hn
    unfold mset
    by_cases h : eq x p.1 = true
    · rw [if_pos h, List.map_cons, if_pos h]
      congr 1
      have hxp := (hs _ _).1 h
      have hid : m.map (fun q => if eq x q.1 = true then (q.1, v) else q) = m.map id := List.map_congr_left fun q hq => by
        by_cases h2 : eq x q.1 = true
        · have := (hs _ _).1 h2
          exact absurd (List.mem_map.2 ⟨q, hq, by rw [← this, hxp]⟩) hn'.1
        · rw [if_neg h2]; rfl
      rw [hid, List.map_id]
    · rw [if_neg h, List.map_cons, if_neg h]
      have hx' : x ∈ m.map (·.1) := by
        rcases List.mem_cons.1 hx with h2 | h2
        · exact absurd ((hs _ _).2 h2) h
        · exact h2
      rw [mset_map m x v hn'.2 hx']
theorem mget_mem : ∀ (m : List (κ × ν)) (x : κ) (v : ν), (m.map (·.1)).Nodup → (x, v) ∈ m → mget eq m x = some v
  | p :: m, x, v, hn, hx => by
    have hn' := List.nodup_cons.1 hn
    unfold mget
    by_cases h : eq x p.1 = true
    · rw [if_pos h]
      rcases List.mem_cons.1 hx with h2 | h2
      · rw [← h2]
      · have hxp := (hs _ _).1 h
        exact absurd (List.mem_map.2 ⟨(x, v), h2, hxp⟩) hn'.1
    · rw [if_neg h]
      rcases List.mem_cons.1 hx with h2 | h2
      · exact absurd ((hs _ _).2 (by rw [← h2])) h
      · exact mget_mem m x v hn'.2 h2
theorem mset_new : ∀ (m : List (κ × ν)) (x : κ) (v : ν), x ∉ m.map (·.1) → mset eq m x v = m ++ [(x, v)]
  | [], x, v, _ => rfl
  | p :: m, x, v, hx => by
    rw [List.map_cons, List.mem_cons, not_or] at hx
    unfold mset
    rw [if_neg (fun h => hx.1 ((hs _ _).1 h)), mset_new m x v hx.2]; rfl
end
/-- The map of a table: columns one after another, each from above. -/
def colM (t : Nat → Nat → Int) (c : Nat) (d : Nat) : List (Block × Int) := (List.range d).map fun (r : Nat) => ((⟨(c : Int), (r : Int)⟩ : Block), t c r)
def mapM (t : Nat → Nat → Int) (n d : Nat) : List (Block × Int) := (List.range n).flatMap fun c => colM t c d
def tbM (t : Nat → Nat → Int) (n d : Nat) : List (List Int) := (List.range n).map fun c => (List.range d).map fun r => t c r
def updM (t : Nat → Nat → Int) (c r : Nat) (v : Int) : Nat → Nat → Int := fun c' r' => if c' = c ∧ r' = r then v else t c' r'
theorem mem_mapM {t : Nat → Nat → Int} {n d : Nat} {p : Block × Int} : p ∈ mapM t n d ↔ ∃ c r, c < n ∧ r < d ∧ p = (⟨(c : Int), (r : Int)⟩, t c r) := by
  unfold mapM colM
  rw [List.mem_flatMap]
  constructor
  · rintro ⟨c, hc, h⟩
    obtain ⟨r, hr, rfl⟩ := List.mem_map.1 h
    exact ⟨c, r, List.mem_range.1 hc, List.mem_range.1 hr, rfl⟩
  · rintro ⟨c, r, hc, hr, rfl⟩
    exact ⟨c, List.mem_range.2 hc, List.mem_map.2 ⟨r, List.mem_range.2 hr, rfl⟩⟩
theorem mapM_nodup (t : Nat → Nat → Int) (n d : Nat) : ((mapM t n d).map (·.1)).Nodup := by
  induction n with
  | zero => simp [mapM]
  | succ n ih =>
    have e : mapM t (n + 1) d = mapM t n d ++ colM t n d := by unfold mapM; rw [List.range_succ, List.flatMap_append]; simp
    rw [e, List.map_append, List.nodup_append]
    refine ⟨ih, ?_, ?_⟩
    · unfold colM
      rw [List.map_map]
      have : ((fun x : Block × Int => x.1) ∘ fun r : Nat => ((⟨(n : Int), (r : Int)⟩ : Block), t n r)) = fun r : Nat => (⟨(n : Int), (r : Int)⟩ : Block) := rfl
      rw [this]
      unfold List.Nodup
      rw [List.pairwise_map]
      refine List.Pairwise.imp ?_ List.nodup_range
      intro a b hab h
      have := congrArg Block.row h
      simp only at this
      omega
    · intro a ha b hb hab
      obtain ⟨p, hp, rfl⟩ := List.mem_map.1 ha
      obtain ⟨q, hq, rfl⟩ := List.mem_map.1 hb
      obtain ⟨c, r, hc, hr, rfl⟩ := mem_mapM.1 hp
      unfold colM at hq
      obtain ⟨r', hr', rfl⟩ := List.mem_map.1 hq
      have := congrArg Block.column hab
      simp only at this
      omega
theorem mapM_get {t : Nat → Nat → Int} {n d c r : Nat} (hc : c < n) (hr : r < d) : mget eqBlock (mapM t n d) ⟨(c : Int), (r : Int)⟩ = some (t c r) :=
  mget_mem eqB_iff _ _ _ (mapM_nodup t n d) (mem_mapM.2 ⟨c, r, hc, hr, rfl⟩)
theorem mapM_set {t : Nat → Nat → Int} {n d c r : Nat} (hc : c < n) (hr : r < d) (v : Int) : mset eqBlock (mapM t n d) ⟨(c : Int), (r : Int)⟩ v = mapM (updM t c r v) n d := by
  rw [mset_map eqB_iff _ _ _ (mapM_nodup t n d) (List.mem_map.2 ⟨_, mem_mapM.2 ⟨c, r, hc, hr, rfl⟩, rfl⟩)]
  unfold mapM
  rw [List.map_flatMap]
  congr 1
  funext c'
  unfold colM
  rw [List.map_map]
  congr 1
  funext r'
  simp only [Function.comp]
  unfold updM
  by_cases h : c' = c ∧ r' = r
  · rw [if_pos ((eqB_iff _ _).2 (by rw [h.1, h.2])), if_pos h]
  · rw [if_neg (fun e => h (by
      have e' := (eqB_iff _ _).1 e
      have e1 := congrArg Block.column e'
      have e2 := congrArg Block.row e'
      simp only at e1 e2
      omega)), if_neg h]
end Go.D4

set_option linter.unusedVariables false
set_option linter.unusedSimpArgs false
namespace Go.D4
open Go.Tb
def s1 (f : Nat → Int) (n : Nat) : Int := ((List.range n).map f).sum
theorem s1_succ (f : Nat → Int) (n : Nat) : s1 f (n + 1) = s1 f n + f n := by
  unfold s1
  rw [List.range_succ, List.map_append, List.sum_append]
  simp
theorem s1_congr {f f' : Nat → Int} : ∀ {n : Nat}, (∀ i, i < n → f' i = f i) → s1 f' n = s1 f n
  | 0, _ => rfl
  | n + 1, h => by rw [s1_succ, s1_succ, s1_congr (fun i hi => h i (by omega)), h n (by omega)]
theorem s1_one {f f' : Nat → Int} {k : Nat} (h : ∀ i, i ≠ k → f' i = f i) : ∀ {n : Nat}, k < n → s1 f' n = s1 f n + (f' k - f k)
  | n + 1, hk => by
    rw [s1_succ, s1_succ]
    by_cases e : k = n
    · subst e
      rw [s1_congr (f := f) (f' := f') fun i hi => h i (by omega)]
      omega
    · rw [s1_one h (n := n) (by omega), h n (fun e' => e e'.symm)]
      omega
theorem s1_le {f g : Nat → Int} : ∀ {n : Nat}, (∀ i, i < n → f i ≤ g i) → s1 f n ≤ s1 g n
  | 0, _ => Int.le_refl _
  | n + 1, h => by
    rw [s1_succ, s1_succ]
    have := s1_le (n := n) fun i hi => h i (by omega)
    have := h n (by omega)
    omega
def s2 (f : Nat → Nat → Int) (n d : Nat) : Int := s1 (fun c => s1 (f c) d) n
theorem s2_one {f f' : Nat → Nat → Int} {k l n d : Nat} (hk : k < n) (hl : l < d) (h : ∀ c r, ¬ (c = k ∧ r = l) → f' c r = f c r) : s2 f' n d = s2 f n d + (f' k l - f k l) := by
  unfold s2
  rw [s1_one (f := fun c => s1 (f c) d) (f' := fun c => s1 (f' c) d) (k := k) (fun c hc => s1_congr fun r _ => h c r (fun e => hc e.1)) hk]
  rw [s1_one (f := f k) (f' := f' k) (k := l) (fun r hr => h k r (fun e => hr e.2)) hl]
  omega
theorem s2_le {f g : Nat → Nat → Int} {n d : Nat} (h : ∀ c r, c < n → r < d → f c r ≤ g c r) : s2 f n d ≤ s2 g n d :=
  s1_le fun c hc => s1_le fun r hr => h c r hc hr
theorem posSum_map (t : Nat → Nat → Int) (n d : Nat) : posSum (mapM t n d) = s2 (fun c r => max 0 (t c r)) n d := by
  induction n with
  | zero => rfl
  | succ n ih =>
    have e : mapM t (n + 1) d = mapM t n d ++ colM t n d := by unfold mapM; rw [List.range_succ, List.flatMap_append]; simp
    have e2 : s2 (fun c r => max 0 (t c r)) (n + 1) d = s2 (fun c r => max 0 (t c r)) n d + s1 (fun r => max 0 (t n r)) d := s1_succ _ n
    rw [e, e2, ← ih]
    unfold posSum
    rw [List.map_append, List.sum_append]
    congr 1
    unfold colM s1
    rw [List.map_map]; rfl
/-- What a table holds where a hollow has dug. -/
def dug (h : Nat → Nat) (t : Nat → Nat → Int) (n d : Nat) : Int := s2 (fun c r => if r < h c then t c r else 0) n d
/-- What a pass leaves. -/
def passM (t : Nat → Nat → Int) (c r c2 : Nat) (a : Int) : Nat → Nat → Int := updM (updM t c r (t c r - a)) c2 (r - 1) (updM t c r (t c r - a) c2 (r - 1) + a)
theorem dug_upd {h : Nat → Nat} {t : Nat → Nat → Int} {n d c r : Nat} (hc : c < n) (hr : r < d) (v : Int) : dug h (updM t c r v) n d = dug h t n d + (if r < h c then v - t c r else 0) := by
  unfold dug
  rw [s2_one (f := fun c r => if r < h c then t c r else 0) hc hr fun c' r' hne => by
    simp only [updM]
    rw [if_neg hne]]
  simp only [updM, and_self, if_true]
  split <;> omega
theorem dug_pass {h : Nat → Nat} {t : Nat → Nat → Int} {n d c r c2 : Nat} {a : Int} (hc : c < n) (hr : r < d) (hr1 : 1 ≤ r) (hc2 : c2 < n) (ha : 0 ≤ a) (hh : r < h c → r - 1 < h c2) : dug h t n d ≤ dug h (passM t c r c2 a) n d := by
  unfold passM
  rw [dug_upd hc2 (by omega), dug_upd hc hr]
  by_cases h1 : r < h c
  · rw [if_pos h1, if_pos (hh h1)]; omega
  · rw [if_neg h1]
    split <;> omega
theorem dug_le {h : Nat → Nat} {t : Nat → Nat → Int} {n d : Nat} : dug h t n d ≤ s2 (fun c r => max 0 (t c r)) n d :=
  s2_le fun c r _ _ => by split <;> omega
end Go.D4

set_option linter.unusedVariables false
set_option linter.unusedSimpArgs false
namespace Go.D4
open Go.Tb
def passOk (b : Bog) (p : Pass) : Bool := within p.column 0 ((b.worth.length : Int) - 1) && within p.row 1 (dep b - 1) && within p.to_ 0 ((b.worth.length : Int) - 1) && within (p.to_ - p.column) (-1) 1
def passE (b : Bog) (p : Pass) : Int := if passOk b p = true then (if within p.amount 1 1000 = true then 0 else 1) else 4
theorem isPass_eq {b : Bog} (hb : Ok b) (p : Pass) : cut_isPass b p = some (passE b p) := by
  have h6 := hb.n6
  have h1 := hb.n1
  have d1 := hb.d1
  have d4 := hb.d4
  have k1 : ∀ t, cut_isPass_k1 p t = some (if t = true then 4 else (if within p.amount 1 1000 = true then 0 else 1)) := fun t => by
    unfold cut_isPass_k1
    cases t
    · rw [if_neg (by simp), bnd_eq (from_eq _ _ _)]
      simp
      split <;> rfl
    · rfl
  unfold cut_isPass passE passOk
  rw [gd_pos (by omega), bnd_eq (from_eq _ _ _)]
  cases g1 : within p.column 0 ((b.worth.length : Int) - 1)
  · rw [if_neg (by simp), k1]; simp
  have w1 := within_iff.1 g1
  rw [if_pos rfl, bnd_eq (depth_eq h1), gd_pos (by omega), bnd_eq (from_eq _ _ _)]
  cases g2 : within p.row 1 (dep b - 1)
  · rw [if_neg (by simp), k1]; simp
  rw [if_pos rfl, gd_pos (by omega), bnd_eq (from_eq _ _ _)]
  cases g3 : within p.to_ 0 ((b.worth.length : Int) - 1)
  · rw [if_neg (by simp), k1]; simp
  have w3 := within_iff.1 g3
  rw [if_pos rfl, gd_pos (by omega), bnd_eq (from_eq _ _ _), k1]
  cases g4 : within (p.to_ - p.column) (-1) 1 <;> simp
theorem passE_0 {b : Bog} {p : Pass} (h : passE b p = 0) : (0 ≤ p.column ∧ p.column < (b.worth.length : Int)) ∧ (1 ≤ p.row ∧ p.row < dep b) ∧ (0 ≤ p.to_ ∧ p.to_ < (b.worth.length : Int)) ∧ (-1 ≤ p.to_ - p.column ∧ p.to_ - p.column ≤ 1) ∧ 1 ≤ p.amount ∧ p.amount ≤ 1000 := by
  unfold passE at h
  split at h
  · rename_i g
    unfold passOk at g
    simp only [Bool.and_eq_true, within_iff] at g
    split at h
    · rename_i g2
      have := within_iff.1 g2
      omega
    · omega
  · omega
def runP (b : Bog) : (Nat → Nat → Int) → List Pass → (Nat → Nat → Int) × Int
  | t, [] => (t, 0)
  | t, p :: l => if passE b p = 0 then runP b (passM t p.column.toNat p.row.toNat p.to_.toNat p.amount) l else (t, passE b p)
def sumP (b : Bog) (t : Nat → Nat → Int) : Int := s2 (fun c r => max 0 (t c r)) b.worth.length (dep b).toNat
def proofL (b : Bog) (t : Nat → Nat → Int) (l : List Pass) : Int × Int := if (runP b t l).2 = 0 then (sumP b (runP b t l).1, 0) else (0, (runP b t l).2)
theorem passM_bd {t : Nat → Nat → Int} {c r c2 : Nat} {a B : Int} (hr : 1 ≤ r) (ha : 0 ≤ a ∧ a ≤ 1000) (hB : ∀ c r, -B ≤ t c r ∧ t c r ≤ B) : ∀ c' r', -(B + 1000) ≤ passM t c r c2 a c' r' ∧ passM t c r c2 a c' r' ≤ B + 1000 := by
  intro c' r'
  have h1 := hB c' r'
  have h2 := hB c r
  have h3 := hB c2 (r - 1)
  unfold passM updM
  split
  · rw [if_neg (by omega)]; omega
  · split <;> omega
theorem mapM_len (t : Nat → Nat → Int) (n d : Nat) : (mapM t n d).length = n * d := by
  induction n with
  | zero => simp [mapM]
  | succ n ih =>
    have e : mapM t (n + 1) d = mapM t n d ++ colM t n d := by unfold mapM; rw [List.range_succ, List.flatMap_append]; simp
    rw [e, List.length_append, ih, Nat.succ_mul]
    simp [colM]
theorem core_passes {b : Bog} (hb : Ok b) (l : List Pass) (hl : l.length ≤ 60) : ∀ (dd k i : Nat) (t : Nat → Nat → Int), l.length = i + dd → dd < k → (∀ c r, -(50 + 1000 * (i : Int)) ≤ t c r ∧ t c r ≤ 50 + 1000 * (i : Int)) →
    cut_CheckProof_L1 b l k (i : Int) (mapM t b.worth.length (dep b).toNat) = some (proofL b t (l.drop i)) := by
  have h6 := hb.n6
  have h1 := hb.n1
  have d1 := hb.d1
  have d4 := hb.d4
  intro dd
  induction dd with
  | zero =>
    intro k i t hi hk hB
    obtain ⟨k, rfl⟩ : ∃ k', k = k' + 1 := ⟨k - 1, by omega⟩
    show cut_CheckProof_B1 b l (cut_CheckProof_L1 b l k) _ _ = _
    have hlen : b.worth.length * (dep b).toNat ≤ 1000 := Nat.le_trans (Nat.mul_le_mul (show b.worth.length ≤ 6 by omega) (show (dep b).toNat ≤ 4 by omega)) (by decide)
    unfold cut_CheckProof_B1 cut_CheckProof_k1
    rw [if_neg (by omega), gd_pos ⟨by rw [mapM_len]; exact hlen, fun p hp => by
      obtain ⟨c, r, _, _, rfl⟩ := mem_mapM.1 hp
      have := hB c r
      simp only
      omega⟩, posSum_map, List.drop_of_length_le (by omega)]
    rfl
  | succ dd ih =>
    intro k i t hi hk hB
    obtain ⟨k, rfl⟩ : ∃ k', k = k' + 1 := ⟨k - 1, by omega⟩
    obtain ⟨p, hp⟩ := ex_at (l := l) (j := i) (by omega)
    show cut_CheckProof_B1 b l (cut_CheckProof_L1 b l k) _ _ = _
    rw [Tb.drop_at hp]
    unfold cut_CheckProof_B1 proofL runP
    rw [if_pos (by omega), ix_nat hp, bnd_eq (isPass_eq hb p)]
    by_cases he : passE b p = 0
    · obtain ⟨c1, c2, c3, c4, c5⟩ := passE_0 he
      have q1 : (⟨p.column, p.row⟩ : Block) = ⟨((p.column.toNat : Nat) : Int), ((p.row.toNat : Nat) : Int)⟩ := by
        rw [show ((p.column.toNat : Nat) : Int) = p.column by omega, show ((p.row.toNat : Nat) : Int) = p.row by omega]
      have q2 : (⟨p.to_, p.row - 1⟩ : Block) = ⟨((p.to_.toNat : Nat) : Int), ((p.row.toNat - 1 : Nat) : Int)⟩ := by
        rw [show ((p.to_.toNat : Nat) : Int) = p.to_ by omega, show ((p.row.toNat - 1 : Nat) : Int) = p.row - 1 by omega]
      have g1 := mapM_get (t := t) (n := b.worth.length) (d := (dep b).toNat) (c := p.column.toNat) (r := p.row.toNat) (by omega) (by omega)
      have b1 := hB p.column.toNat p.row.toNat
      have s1' := mapM_set (t := t) (n := b.worth.length) (d := (dep b).toNat) (c := p.column.toNat) (r := p.row.toNat) (by omega) (by omega) (t p.column.toNat p.row.toNat - p.amount)
      have g2 := mapM_get (t := updM t p.column.toNat p.row.toNat (t p.column.toNat p.row.toNat - p.amount)) (n := b.worth.length) (d := (dep b).toNat) (c := p.to_.toNat) (r := p.row.toNat - 1) (by omega) (by omega)
      have s2' := mapM_set (t := updM t p.column.toNat p.row.toNat (t p.column.toNat p.row.toNat - p.amount)) (n := b.worth.length) (d := (dep b).toNat) (c := p.to_.toNat) (r := p.row.toNat - 1) (by omega) (by omega) (updM t p.column.toNat p.row.toNat (t p.column.toNat p.row.toNat - p.amount) p.to_.toNat (p.row.toNat - 1) + p.amount)
      have hx : updM t p.column.toNat p.row.toNat (t p.column.toNat p.row.toNat - p.amount) p.to_.toNat (p.row.toNat - 1) = t p.to_.toNat (p.row.toNat - 1) := by
        unfold updM; rw [if_neg (by omega)]
      have b2 := hB p.to_.toNat (p.row.toNat - 1)
      rw [if_pos he, if_pos he]
      unfold cut_CheckProof_k2
      simp only [q1, q2, g1, Option.getD_some, s1', g2, s2']
      rw [gd_pos (by omega), gd_pos (by omega), gd_pos (by rw [hx]; omega), gd_pos (by omega)]
      have := ih k (i + 1) (passM t p.column.toNat p.row.toNat p.to_.toNat p.amount) (by omega) (by omega) (fun c r => by
        have := passM_bd (t := t) (c := p.column.toNat) (r := p.row.toNat) (c2 := p.to_.toNat) (a := p.amount) (B := 50 + 1000 * (i : Int)) (by omega) (by omega) hB c r
        omega)
      exact this
    · rw [if_neg he, if_neg he, if_neg he]
end Go.D4

set_option linter.unusedVariables false
set_option linter.unusedSimpArgs false
namespace Go.D4
open Go.Tb
def tab0 (b : Bog) (c r : Nat) : Int := (b.worth.getD c []).getD r 0
def proofE (b : Bog) (l : List Pass) : Int × Int := if validate b = 0 then (if 60 < l.length then (0, 3) else proofL b (tab0 b) l) else (0, validate b)
theorem tab0_bd {b : Bog} (hb : Ok b) (c r : Nat) : -50 ≤ tab0 b c r ∧ tab0 b c r ≤ 50 := by
  unfold tab0
  simp only [List.getD_eq_getElem?_getD]
  cases hc : b.worth[c]? with
  | none => simp
  | some x =>
    simp only [Option.getD_some]
    cases hr : x[r]? with
    | none => simp
    | some v =>
      have := (hb.col x (List.mem_of_getElem? hc)).2 v (List.mem_of_getElem? hr)
      simpa using this
theorem colM_succ (t : Nat → Nat → Int) (c r : Nat) : colM t c (r + 1) = colM t c r ++ [(⟨(c : Int), (r : Int)⟩, t c r)] := by
  unfold colM
  rw [List.range_succ, List.map_append]; rfl
theorem mapM_succ (t : Nat → Nat → Int) (n d : Nat) : mapM t (n + 1) d = mapM t n d ++ colM t n d := by
  unfold mapM; rw [List.range_succ, List.flatMap_append]; simp
theorem new_key (t : Nat → Nat → Int) (c d r : Nat) : (⟨(c : Int), (r : Int)⟩ : Block) ∉ ((mapM t c d ++ colM t c r).map (·.1)) := by
  intro h
  obtain ⟨p, hp, e⟩ := List.mem_map.1 h
  rcases List.mem_append.1 hp with h1 | h1
  · obtain ⟨c', r', hc, _, rfl⟩ := mem_mapM.1 h1
    have := congrArg Block.column e
    simp only at this
    omega
  · unfold colM at h1
    obtain ⟨r', hr, rfl⟩ := List.mem_map.1 h1
    have h2 := List.mem_range.1 hr
    have := congrArg Block.row e
    simp only at this
    omega
theorem CheckProof_eq {b : Bog} (hs : Short b) (l : List Pass) (hl : l.length ≤ 1000) : cut_CheckProof b l = some (proofE b l) := by
  unfold cut_CheckProof proofE
  rw [bnd_eq (Validate_eq hs)]
  by_cases hv : validate b = 0
  · have hb := val0.1 hv
    have h6 := hb.n6
    have d1 := hb.d1
    have d4 := hb.d4
    rw [if_pos hv, if_pos hv]
    by_cases h60 : 60 < l.length
    · rw [if_pos (by omega), if_pos h60]
    rw [if_neg (by omega), if_neg h60]
    have last : cut_CheckProof_k3 b l (mapM (tab0 b) b.worth.length (dep b).toNat) = some (proofL b (tab0 b) l) :=
      core_passes hb l (by omega) l.length FU 0 (tab0 b) (by omega) (by have := FU_pos; omega) (fun c r => by have := tab0_bd hb c r; omega)
    rw [← last]
    refine for_loop0 b.worth.length (fun c => mapM (tab0 b) c (dep b).toNat) (fun n m c => cut_CheckProof_L3 b l n c m) _ (fun n c hc => ?_) (fun n => ?_) (by omega)
    · obtain ⟨x, hx⟩ := ex_at (l := b.worth) (j := c) hc
      have hxl := (hb.col x (List.mem_of_getElem? hx)).1
      show cut_CheckProof_B3 b l (cut_CheckProof_L3 b l n) _ _ = _
      unfold cut_CheckProof_B3
      rw [if_pos (by omega), ix_nat hx]
      generalize hR : cut_CheckProof_L3 b l n = rec2
      have h := for_loop0 (dep b).toNat (fun r => mapM (tab0 b) c (dep b).toNat ++ colM (tab0 b) c r) (fun k m r => cut_CheckProof_L2 (c : Int) rec2 x k r m) (cut_CheckProof_k4 (c : Int) rec2 (mapM (tab0 b) (c + 1) (dep b).toNat)) (fun k r hr => ?_) (fun k => ?_) (by omega)
      · have h' : cut_CheckProof_L2 (c : Int) rec2 x FU 0 (mapM (tab0 b) c (dep b).toNat ++ colM (tab0 b) c 0) = _ := h
        rw [show mapM (tab0 b) c (dep b).toNat ++ colM (tab0 b) c 0 = mapM (tab0 b) c (dep b).toNat from List.append_nil _] at h'
        rw [h']
        unfold cut_CheckProof_k4
        rw [gd_pos (by omega), ← hR]; rfl
      · obtain ⟨v, hv'⟩ := ex_at (l := x) (j := r) (by omega)
        have ht : tab0 b c r = v := by simp [tab0, List.getD, hx, hv']
        show cut_CheckProof_B2 (c : Int) rec2 x (cut_CheckProof_L2 (c : Int) rec2 x k) _ _ = _
        unfold cut_CheckProof_B2
        rw [if_pos (by omega), ix_nat hv', gd_pos (by omega), mset_new eqB_iff _ _ _ (new_key (tab0 b) c (dep b).toNat r), List.append_assoc]
        simp only [colM_succ, ht]; rfl
      · show cut_CheckProof_B2 (c : Int) rec2 x (cut_CheckProof_L2 (c : Int) rec2 x k) _ _ = _
        unfold cut_CheckProof_B2
        rw [if_neg (by omega), ← mapM_succ]
    · show cut_CheckProof_B3 b l (cut_CheckProof_L3 b l n) _ _ = _
      unfold cut_CheckProof_B3
      rw [if_neg (by omega)]
  · rw [if_neg hv, if_neg hv]
end Go.D4

set_option linter.unusedVariables false
set_option linter.unusedSimpArgs false
namespace Go.D4
open Go.Tb
theorem isum_snoc (l : List Int) (x : Int) : isum (l ++ [x]) = isum l + x := by
  induction l with
  | nil => simp [isum]
  | cons y l ih =>
    have e1 : isum (y :: l ++ [x]) = y + isum (l ++ [x]) := rfl
    have e2 : isum (y :: l) = y + isum l := rfl
    rw [e1, e2, ih]; omega
theorem take_s1 (x : List Int) (d : Nat) (hd : x.length = d) : ∀ k, k ≤ d → isum (x.take k) = s1 (fun r => if r < k then x.getD r 0 else 0) d
  | 0, _ => by
    have : s1 (fun r => if r < 0 then x.getD r 0 else 0) d = s1 (fun _ => 0) d := s1_congr fun i _ => by simp
    rw [this]
    have z : ∀ n, s1 (fun _ => (0 : Int)) n = 0 := fun n => by
      induction n with
      | zero => rfl
      | succ n ih => rw [s1_succ, ih]; rfl
    rw [z]; rfl
  | k + 1, hk => by
    obtain ⟨v, hv⟩ := ex_at (l := x) (j := k) (by omega)
    have ih := take_s1 x d hd k (by omega)
    have e := s1_one (f := fun r => if r < k then x.getD r 0 else 0) (f' := fun r => if r < k + 1 then x.getD r 0 else 0) (k := k) (fun i hi => by
      by_cases h : i < k
      · simp only [h, if_true]; rw [if_pos (by omega)]
      · simp only [h, if_false]; rw [if_neg (by omega)]) (n := d) (by omega)
    rw [e, ← ih, List.take_add_one, hv]
    show isum (x.take k ++ [v]) = _
    rw [isum_snoc]
    simp [List.getD, hv]
theorem wsum_dug {b : Bog} (hb : Ok b) {h : List Int} (ho : okL b h = true) : wsum b h h.length = dug (fun c => (gi h c).toNat) (tab0 b) b.worth.length (dep b).toNat := by
  obtain ⟨hl, hr⟩ := okL_iff.1 ho
  have key : ∀ n, n ≤ b.worth.length → wsum b h n = s1 (fun c => s1 (fun r => if r < (gi h c).toNat then tab0 b c r else 0) (dep b).toNat) n := by
    intro n
    induction n with
    | zero => intro _; rfl
    | succ n ih =>
      intro hn
      obtain ⟨x, hx⟩ := ex_at (l := b.worth) (j := n) (by omega)
      obtain ⟨v, hv⟩ := ex_at (l := h) (j := n) (by omega)
      have hc := hb.col x (List.mem_of_getElem? hx)
      have hvr := hr v (List.mem_of_getElem? hv)
      have d1 := hb.d1
      rw [s1_succ, ← ih (by omega)]
      show wsum b h n + colW b n (gi h n) = _
      rw [gi_of hv, col_of hx, take_s1 x (dep b).toNat (by omega) v.toNat (by omega)]
      congr 1
      exact s1_congr fun r _ => by simp [tab0, List.getD, hx]
  rw [hl]
  exact key _ (Nat.le_refl _)
theorem right_step {h : List Int} (hr : rightB h = true) {c c2 : Nat} (h1 : c < h.length) (h2 : c2 < h.length) (hd : (c2 : Int) - (c : Int) ≤ 1 ∧ -1 ≤ (c2 : Int) - (c : Int)) : gi h c - 1 ≤ gi h c2 := by
  unfold rightB at hr
  rw [decide_eq_true_eq] at hr
  have : c2 = c ∨ c2 = c + 1 ∨ c = c2 + 1 := by omega
  rcases this with rfl | rfl | rfl
  · omega
  · have := within_iff.1 (hr (c + 1) h2 (by omega))
    simp only [Nat.add_sub_cancel] at this
    omega
  · have := within_iff.1 (hr (c2 + 1) h1 (by omega))
    simp only [Nat.add_sub_cancel] at this
    omega
theorem run_dug {b : Bog} (hb : Ok b) {h : List Int} (ho : okL b h = true) (hr : rightB h = true) : ∀ (l : List Pass) (t : Nat → Nat → Int), (runP b t l).2 = 0 →
    dug (fun c => (gi h c).toNat) t b.worth.length (dep b).toNat ≤ dug (fun c => (gi h c).toNat) (runP b t l).1 b.worth.length (dep b).toNat
  | [], t, _ => Int.le_refl _
  | p :: l, t, he => by
    obtain ⟨hl, _⟩ := okL_iff.1 ho
    unfold runP at he ⊢
    by_cases h0 : passE b p = 0
    · rw [if_pos h0] at he ⊢
      obtain ⟨c1, c2, c3, c4, c5⟩ := passE_0 h0
      refine Int.le_trans (dug_pass (h := fun c => (gi h c).toNat) (t := t) (c := p.column.toNat) (r := p.row.toNat) (c2 := p.to_.toNat) (a := p.amount) (by omega) (by omega) (by omega) (by omega) (by omega) (fun hlt => ?_)) (run_dug hb ho hr l _ he)
      have := right_step hr (c := p.column.toNat) (c2 := p.to_.toNat) (by omega) (by omega) (by omega)
      omega
    · rw [if_neg h0] at he
      exact absurd he h0
/-- The worth of a right hollow is at most what a proof says. -/
theorem proof_bound {b : Bog} {l : List Pass} (he : (proofE b l).2 = 0) {h : List Int} (hh : (worthR b h).2 = 0) : (worthR b h).1 ≤ (proofE b l).1 := by
  have hv : validate b = 0 := by
    unfold proofE at he
    by_cases hv : validate b = 0
    · exact hv
    · rw [if_neg hv] at he; exact absurd he hv
  have h0 : hollowE b h = 0 := by
    unfold worthR at hh
    by_cases h0 : hollowE b h = 0
    · exact h0
    · rw [if_neg h0] at hh; exact absurd hh h0
  obtain ⟨hb, ho, hr⟩ := hollow0.1 h0
  unfold proofE at he ⊢
  rw [if_pos hv] at he ⊢
  by_cases h60 : 60 < l.length
  · rw [if_pos h60] at he; cases he
  rw [if_neg h60] at he ⊢
  unfold proofL at he ⊢
  by_cases hrun : (runP b (tab0 b) l).2 = 0
  · rw [if_pos hrun]
    unfold worthR
    rw [if_pos h0]
    show wsum b h h.length ≤ sumP b _
    rw [wsum_dug hb ho]
    exact Int.le_trans (run_dug hb ho hr l (tab0 b) hrun) dug_le
  · rw [if_neg hrun] at he; exact absurd he hrun
end Go.D4

set_option linter.unusedVariables false
set_option linter.unusedSimpArgs false
namespace Go.D4
open Go.Tb
def rowT (t : Nat → Nat → Int) (c d : Nat) : List Int := (List.range d).map fun r => t c r
theorem tbM_at {t : Nat → Nat → Int} {n d c : Nat} (hc : c < n) : (tbM t n d)[c]? = some (rowT t c d) := by
  unfold tbM rowT
  simp [hc]
theorem rowT_at {t : Nat → Nat → Int} {c d r : Nat} (hr : r < d) : (rowT t c d)[r]? = some (t c r) := by
  unfold rowT
  simp [hr]
theorem tbM_set {t : Nat → Nat → Int} {n d c r : Nat} (v : Int) : (tbM t n d).set c ((rowT t c d).set r v) = tbM (updM t c r v) n d := by
  apply List.ext_getElem
  · simp [tbM]
  intro i h1 h2
  simp only [tbM, List.length_set, List.length_map, List.length_range] at h1 h2
  simp only [List.getElem_set, tbM, List.getElem_map, List.getElem_range]
  by_cases hi : c = i
  · subst hi
    rw [if_pos rfl]
    apply List.ext_getElem
    · simp [rowT]
    intro j h3 h4
    simp only [rowT, List.getElem_set, List.getElem_map, List.getElem_range, updM]
    by_cases hj : r = j
    · subst hj; simp
    · rw [if_neg hj, if_neg (by omega)]
  · rw [if_neg hi]
    apply List.map_congr_left
    intro j _
    unfold updM
    rw [if_neg (by omega)]
theorem tb0_eq {b : Bog} (hb : Ok b) : b.worth = tbM (tab0 b) b.worth.length (dep b).toNat := by
  apply List.ext_getElem
  · simp [tbM]
  intro i h1 h2
  have hx : b.worth[i]? = some b.worth[i] := List.getElem?_eq_getElem h1
  have hl := (hb.col _ (List.mem_of_getElem? hx)).1
  simp only [tbM, List.getElem_map, List.getElem_range]
  apply List.ext_getElem
  · simp; omega
  intro j h3 h4
  simp [tab0, List.getD, hx, List.getElem?_eq_getElem h3]
theorem s1_bd {f : Nat → Int} {B : Int} : ∀ {n : Nat}, (∀ i, i < n → 0 ≤ f i ∧ f i ≤ B) → 0 ≤ s1 f n ∧ s1 f n ≤ B * (n : Int)
  | 0, _ => by constructor <;> simp [s1]
  | n + 1, h => by
    have ih := s1_bd (n := n) (fun i hi => h i (by omega))
    have h2 := h n (by omega)
    rw [s1_succ, show B * ((n + 1 : Nat) : Int) = B * (n : Int) + B by rw [Int.natCast_add, Int.mul_add]; simp]
    omega
theorem ref_sum {b : Bog} (hb : Ok b) (t : Nat → Nat → Int) (hB : ∀ c r, -100000 ≤ t c r ∧ t c r ≤ 100000) : ref04_CheckProof_k3 b (tbM t b.worth.length (dep b).toNat) = some (sumP b t, 0) := by
  have h6 := hb.n6
  have h1 := hb.n1
  have d1 := hb.d1
  have d4 := hb.d4
  have rb : ∀ c n, n ≤ 4 → 0 ≤ s1 (fun r => max 0 (t c r)) n ∧ s1 (fun r => max 0 (t c r)) n ≤ 400000 := by
    intro c n hn
    have := s1_bd (f := fun r => max 0 (t c r)) (B := 100000) (n := n) (fun i _ => by have := hB c i; omega)
    omega
  have cb : ∀ n, n ≤ 6 → 0 ≤ s2 (fun c r => max 0 (t c r)) n (dep b).toNat ∧ s2 (fun c r => max 0 (t c r)) n (dep b).toNat ≤ 2400000 := by
    intro n hn
    have := s1_bd (f := fun c => s1 (fun r => max 0 (t c r)) (dep b).toNat) (B := 400000) (n := n) (fun i _ => rb i _ (by omega))
    have e : s2 (fun c r => max 0 (t c r)) n (dep b).toNat = s1 (fun c => s1 (fun r => max 0 (t c r)) (dep b).toNat) n := rfl
    rw [e]
    omega
  unfold ref04_CheckProof_k3
  refine for_loop0 b.worth.length (fun c => s2 (fun c r => max 0 (t c r)) c (dep b).toNat) (fun n s c => ref04_CheckProof_L2 b (tbM t b.worth.length (dep b).toNat) n s c) _ (fun n c hc => ?_) (fun n => ?_) (by omega)
  · show ref04_CheckProof_B2 b _ (ref04_CheckProof_L2 b _ n) _ _ = _
    unfold ref04_CheckProof_B2
    rw [if_pos (by omega)]
    generalize hR : ref04_CheckProof_L2 b (tbM t b.worth.length (dep b).toNat) n = rec1
    have h := for_loop0 (dep b).toNat (fun r => s2 (fun c r => max 0 (t c r)) c (dep b).toNat + s1 (fun r => max 0 (t c r)) r) (fun k s r => ref04_CheckProof_L1 b (tbM t b.worth.length (dep b).toNat) (c : Int) rec1 k s r) (ref04_CheckProof_k2 (c : Int) rec1 (s2 (fun c r => max 0 (t c r)) (c + 1) (dep b).toNat)) (fun k r hr => ?_) (fun k => ?_) (by omega)
    · have h' : ref04_CheckProof_L1 b (tbM t b.worth.length (dep b).toNat) (c : Int) rec1 FU (s2 (fun c r => max 0 (t c r)) c (dep b).toNat + 0) 0 = _ := h
      rw [Int.add_zero] at h'
      rw [h']
      unfold ref04_CheckProof_k2
      rw [gd_pos (by omega), ← hR]; rfl
    · show ref04_CheckProof_B1 b _ (c : Int) rec1 (ref04_CheckProof_L1 b _ (c : Int) rec1 k) _ _ = _
      unfold ref04_CheckProof_B1
      have q1 := rb c r (by omega)
      have q2 := cb c (by omega)
      have q3 := hB c r
      rw [bnd_eq (rdepth_eq h1), if_pos (by omega), ix_nat (tbM_at hc), ix_nat (rowT_at hr), gd_pos (by omega), gd_pos (by omega)]
      simp only [s1_succ, Int.add_assoc]; rfl
    · show ref04_CheckProof_B1 b _ (c : Int) rec1 (ref04_CheckProof_L1 b _ (c : Int) rec1 k) _ _ = _
      unfold ref04_CheckProof_B1
      rw [bnd_eq (rdepth_eq h1), if_neg (by omega)]
      have e : s2 (fun c r => max 0 (t c r)) (c + 1) (dep b).toNat = s2 (fun c r => max 0 (t c r)) c (dep b).toNat + s1 (fun r => max 0 (t c r)) (dep b).toNat := s1_succ _ _
      rw [e]
  · show ref04_CheckProof_B2 b _ (ref04_CheckProof_L2 b _ n) _ _ = _
    unfold ref04_CheckProof_B2
    rw [if_neg (by omega)]
    rfl
theorem ref_passes {b : Bog} (hb : Ok b) (l : List Pass) (hl : l.length ≤ 60) : ∀ (dd k i : Nat) (t : Nat → Nat → Int), l.length = i + dd → dd < k → (∀ c r, -(50 + 1000 * (i : Int)) ≤ t c r ∧ t c r ≤ 50 + 1000 * (i : Int)) →
    ref04_CheckProof_L3 b l k (i : Int) (tbM t b.worth.length (dep b).toNat) = some (proofL b t (l.drop i)) := by
  have h6 := hb.n6
  have h1 := hb.n1
  have d1 := hb.d1
  have d4 := hb.d4
  intro dd
  induction dd with
  | zero =>
    intro k i t hi hk hB
    obtain ⟨k, rfl⟩ : ∃ k', k = k' + 1 := ⟨k - 1, by omega⟩
    show ref04_CheckProof_B3 b l (ref04_CheckProof_L3 b l k) _ _ = _
    unfold ref04_CheckProof_B3
    rw [if_neg (by omega), ref_sum hb t (fun c r => by have := hB c r; omega), List.drop_of_length_le (by omega)]
    rfl
  | succ dd ih =>
    intro k i t hi hk hB
    obtain ⟨k, rfl⟩ : ∃ k', k = k' + 1 := ⟨k - 1, by omega⟩
    obtain ⟨p, hp⟩ := ex_at (l := l) (j := i) (by omega)
    show ref04_CheckProof_B3 b l (ref04_CheckProof_L3 b l k) _ _ = _
    rw [Tb.drop_at hp]
    unfold ref04_CheckProof_B3
    rw [if_pos (by omega), ix_nat hp]
    generalize hR : ref04_CheckProof_L3 b l k = rec3
    have bad : ∀ q : Bool, (q = true → passOk b p = false) → (q = false → passOk b p = true) → ref04_CheckProof_k5 (i : Int) (tbM t b.worth.length (dep b).toNat) rec3 p q = some (proofL b t (p :: l.drop (i + 1))) := by
      intro q hq1 hq2
      unfold ref04_CheckProof_k5 proofL runP
      cases q
      · have hok := hq2 rfl
        rw [if_neg (by simp)]
        have am : passE b p = if within p.amount 1 1000 = true then 0 else 1 := by unfold passE; rw [if_pos hok]
        cases hw : within p.amount 1 1000
        · rw [hw, if_neg (by simp)] at am
          have nw : ¬ (1 ≤ p.amount ∧ p.amount ≤ 1000) := fun h => by rw [within_iff.2 h] at hw; cases hw
          rw [am]
          by_cases h1' : p.amount < 1
          · rw [if_pos h1']; rfl
          · rw [if_neg h1', decide_eq_true (by omega)]; rfl
        · rw [hw, if_pos rfl] at am
          obtain ⟨c1, c2, c3, c4, c5⟩ := passE_0 am
          rw [if_neg (by omega), decide_eq_false (by omega), am]
          unfold ref04_CheckProof_k4
          rw [if_neg (by simp), if_pos rfl]
          have e1 : p.column = ((p.column.toNat : Nat) : Int) := by omega
          have e2 : p.row = ((p.row.toNat : Nat) : Int) := by omega
          have e3 : p.to_ = ((p.to_.toNat : Nat) : Int) := by omega
          have e4 : p.row - 1 = ((p.row.toNat - 1 : Nat) : Int) := by omega
          have b1 := hB p.column.toNat p.row.toNat
          have b2 := hB p.to_.toNat (p.row.toNat - 1)
          have hx : updM t p.column.toNat p.row.toNat (t p.column.toNat p.row.toNat - p.amount) p.to_.toNat (p.row.toNat - 1) = t p.to_.toNat (p.row.toNat - 1) := by
            unfold updM; rw [if_neg (by omega)]
          rw [ix_eq (by omega) (tbM_at (by omega)), ix_eq (by omega) (rowT_at (by omega)), gd_pos (by omega), ix_eq (by omega) (rowT_at (by omega)), tbM_set, ix_eq (by omega) (tbM_at (by omega)), gd_pos (by omega), ix_eq (by omega) (by rw [show (p.row - 1).toNat = p.row.toNat - 1 by omega]; exact rowT_at (by omega)), gd_pos (by rw [hx]; omega), ix_eq (by omega) (by rw [show (p.row - 1).toNat = p.row.toNat - 1 by omega]; exact rowT_at (by omega)), gd_pos (by omega), show (p.row - 1).toNat = p.row.toNat - 1 by omega, tbM_set, ← hR]
          exact ih k (i + 1) (passM t p.column.toNat p.row.toNat p.to_.toNat p.amount) (by omega) (by omega) (fun c r => by
            have := passM_bd (t := t) (c := p.column.toNat) (r := p.row.toNat) (c2 := p.to_.toNat) (a := p.amount) (B := 50 + 1000 * (i : Int)) (by omega) (by omega) hB c r
            omega)
      · have hok := hq1 rfl
        have am : passE b p = 4 := by unfold passE; rw [hok]; rfl
        rw [if_pos rfl, am]
        rfl
    have okI : passOk b p = true ↔ (0 ≤ p.column ∧ p.column ≤ (b.worth.length : Int) - 1) ∧ (1 ≤ p.row ∧ p.row ≤ dep b - 1) ∧ (0 ≤ p.to_ ∧ p.to_ ≤ (b.worth.length : Int) - 1) ∧ (-1 ≤ p.to_ - p.column ∧ p.to_ - p.column ≤ 1) := by
      unfold passOk
      simp only [Bool.and_eq_true, within_iff, and_assoc]
    have no : ¬ (passOk b p = true) → passOk b p = false := fun h => by simpa using h
    by_cases g1 : p.column < 0
    · rw [if_pos g1]; exact bad true (fun _ => no (fun h => by have := okI.1 h; omega)) (fun h => by cases h)
    by_cases g2 : (b.worth.length : Int) ≤ p.column
    · rw [if_neg g1, if_pos g2]; exact bad true (fun _ => no (fun h => by have := okI.1 h; omega)) (fun h => by cases h)
    by_cases g3 : p.row < 1
    · rw [if_neg g1, if_neg g2, if_pos g3]; exact bad true (fun _ => no (fun h => by have := okI.1 h; omega)) (fun h => by cases h)
    rw [if_neg g1, if_neg g2, if_neg g3, bnd_eq (rdepth_eq h1)]
    by_cases g4 : dep b ≤ p.row
    · rw [if_pos g4]; exact bad true (fun _ => no (fun h => by have := okI.1 h; omega)) (fun h => by cases h)
    rw [if_neg g4, gd_pos (by omega)]
    by_cases g5 : p.to_ < max 0 (p.column - 1)
    · rw [if_pos g5]; exact bad true (fun _ => no (fun h => by have := okI.1 h; omega)) (fun h => by cases h)
    rw [if_neg g5, gd_pos (by omega), gd_pos (by omega)]
    refine bad _ (fun h => no (fun h' => ?_)) (fun h => okI.2 ?_)
    · have := of_decide_eq_true h
      have := okI.1 h'
      omega
    · have := of_decide_eq_false h
      omega
theorem rCheckProof_eq {b : Bog} (hs : Short b) (l : List Pass) : ref04_CheckProof b l = some (proofE b l) := by
  unfold ref04_CheckProof proofE
  rw [bnd_eq (rValidate_eq hs)]
  by_cases hv : validate b = 0
  · have hb := val0.1 hv
    rw [if_pos hv, if_pos hv]
    by_cases h60 : 60 < l.length
    · rw [if_pos (by omega), if_pos h60]
    rw [if_neg (by omega), if_neg h60, bnd_eq (copy_short hs)]
    have := ref_passes hb l (by omega) l.length FU 0 (tab0 b) (by omega) (by have := FU_pos; omega) (fun c r => by have := tab0_bd hb c r; omega)
    rw [← tb0_eq hb] at this
    exact this
  · rw [if_neg hv, if_neg hv]
end Go.D4

set_option linter.unusedVariables false
set_option linter.unusedSimpArgs false
namespace Go.D4
open Go.Tb
theorem proof_best {b : Bog} {l : List Pass} (he : (proofE b l).2 = 0) : (bestR min b).2.2 = 0 ∧ (bestR min b).2.1 ≤ (proofE b l).1 := by
  have hv : validate b = 0 := by
    unfold proofE at he
    by_cases hv : validate b = 0
    · exact hv
    · rw [if_neg hv] at he; exact absurd he hv
  have ob := val0.1 hv
  have K := best_spec (f := min) (.inl fun _ _ => rfl) ob
  have r1 : bestR min b = _ := if_pos hv
  have kw : worthR b (bestN min b (hollows b) (hollows b).length).1 = (W b (bestN min b (hollows b) (hollows b).length).1, 0) := if_pos K.hol
  have h := proof_bound he (h := (bestN min b (hollows b) (hollows b).length).1) (by rw [kw])
  rw [kw, K.w] at h
  rw [r1]
  exact ⟨rfl, h⟩
theorem law_CutProofs (b : Bog) (l : List Pass) (h : List Int) (hb : b.worth.length ≤ 9223372036854775807) : law04_CutProofs b l h = some true := by
  unfold law04_CutProofs law04_CutProofs_k2
  rw [bnd_eq (Long_eq (by simp) hb)]
  cases hL : longB b [h]
  · obtain ⟨hs, h2⟩ := long_short hL
    have hl := h2 h (by simp)
    rw [if_neg (by simp)]
    by_cases h200 : (200 : Int) < (l.length : Int)
    · rw [decide_eq_true h200, if_pos rfl, bnd_eq sane_eq]
    · rw [decide_eq_false h200, if_neg (by simp), bnd_eq (CheckProof_eq hs l (by omega)), bnd_eq (rCheckProof_eq hs l), if_pos rfl]
      unfold law04_CutProofs_k1
      rw [decide_eq_true rfl, if_neg (by simp), bnd_eq (Worth_eq hs (by omega)), bnd_eq (Best_eq hs)]
      by_cases he : (proofE b l).2 = 0
      · obtain ⟨q1, q2⟩ := proof_best he
        rw [if_pos he, if_pos q1, if_pos q2]
        by_cases hw : (worthR b h).2 = 0
        · rw [if_pos hw, if_pos (proof_bound he hw), bnd_eq sane_eq]
        · rw [if_neg hw, bnd_eq sane_eq]
      · rw [if_neg he, bnd_eq sane_eq]
  · rw [if_pos rfl, if_pos rfl, bnd_eq sane_eq]
end Go.D4
