/- Lemmas and walks that the proof of this claim uses: Tb40, Tb41, Tb42, D1s1, D1s2, D1s3D, D1s3, D1s4. -/
import Derived.Test.YtgnlfgkmkkjkoaaLevelWalks4
import Derived.RangeFuncRecord
import Derived.RangeFuncCalls
import Derived.OrdersIn
import Derived.TacticsIn
set_option linter.unusedVariables false
set_option linter.unusedSimpArgs false
namespace Go.Tb
open Go.RowKit
abbrev RF (r : Nat) : Fence := Fence.wide.inRound r
def noD (o : Oper) : Bool := match o.op with
  | .defer _ => false
  | _ => true
section
variable {P : Program} {m r : Nat} {ops : Array Oper} {Q : Exit → Act → World → Prop}
theorem noD_ne {o : Oper} (h : noD o = true) : ∀ c, o.op ≠ .defer c := fun c e => by unfold noD at h; rw [e] at h; cases h
theorem wide_no {p : Prop} : (RF r).depth.isSome = true → p := fun h => by cases h
theorem rowsIn_of {k : Nat} {row : String} {args : Array Value} {w : World} {R : Value → World → Prop} (h : Rows P row args w R) : RowsIn (RF r) k P row args w R := fun c cs _ =>
  let ⟨v, w', hr, s⟩ := h c cs
  ⟨v, w', hr, stepsIn_wide.2 s⟩
theorem callsIn_of {k : Nat} {f : FuncId} {args : Array Value} {w : World} {R : Ending → World → Prop} (h : Calls P f args w R) : CallsIn (RF r) k P f args w R := CallsIn.inRound r (callsIn_wide.2 h)
theorem op_in {o : Oper} {a : Act} {w : World} {next : Act → World → Prop} (hn : noD o = true) (h : o.wp P a w next Q) : o.wpIn (RF r) m P a w next Q := by
  refine ⟨fun _ _ => trivial, ?_⟩
  rw [Oper.semAt_eq _ _ _ (noD_ne hn)]
  unfold Oper.wp at h
  generalize (execOp a.eval o).run P w = x at *
  cases x with
  | ok y w' =>
    cases y <;> simp only [Oper.upon] at h <;> simp only [Oper.uponIn] <;> first
      | exact h
      | exact h.elim
      | exact ⟨wide_no, callsIn_of h⟩
      | exact ⟨wide_no, rowsIn_of h⟩
  | halt y w' => cases y <;> simp only [Oper.upon] at h <;> simp only [Oper.uponIn] <;> first | exact h | exact h.elim
theorem list_in (hL : ¬ LetsOut Q) : ∀ {l : List Oper}, l.all noD = true → ∀ {a : Act} {w : World}, wpList P ops Q l a w → wpListIn (RF r) m P ops Q l a w
  | [], _, a, w, h => h
  | o :: rest, hn, a, w, h => by
    simp only [List.all_cons, Bool.and_eq_true] at hn
    unfold wpList at h
    unfold wpListIn
    split at h
    · rename_i hw
      rw [if_pos hw]
      rcases h with h | h
      · exact Oper.wpIn_mono (fun a w => list_in hL hn.2) (op_in hn.1 h)
      · exact absurd h.2 hL
    · rename_i hw
      rw [if_neg hw]
      exact ⟨fun _ _ => trivial, list_in hL hn.2 h⟩
theorem op_at_in (hL : ¬ LetsOut Q) (hn : ∀ (i : Nat) (o : Oper), ops[i]? = some o → noD o = true) {i : Nat} {K : Act → World → Prop} {a : Act} {w : World} (h : wpOp P ops Q i K a w) : wpOpIn (RF r) m P ops Q i K a w := by
  unfold wpOp at h
  unfold wpOpIn
  cases ho : ops[i]? with
  | none => simpa [ho] using h
  | some o =>
    simp only [ho] at h ⊢
    split
    · rename_i hw
      rw [if_pos hw] at h
      rcases h with h | h
      · exact op_in (hn i o ho) h
      · exact absurd h.2 hL
    · rename_i hw
      rw [if_neg hw] at h
      exact ⟨fun _ _ => trivial, h⟩
theorem any_in (hL : ¬ LetsOut Q) (hn : ∀ (i : Nat) (o : Oper), ops[i]? = some o → noD o = true) {md : Region.Mode} : ∀ {fuel : Nat} {listed : Array Bool} {a : Act} {w : World}, wpAny P md ops Q fuel listed a w → wpAnyIn (RF r) m P md ops Q fuel listed a w
  | 0, _, _, _, h => h
  | fuel + 1, listed, a, w, h => ⟨h.1, fun i hi => wpOpIn_mono (fun a w h => any_in hL hn h) (op_at_in hL hn (h.2 i hi))⟩
end
def CR (P : Program) (r m n : Nat) (c : Code) (Q : Exit → Env → World → Prop) (ρ : Env) (w : World) : Prop := ∀ a, Fits n ρ a → c.wpIn (RF r) m P (lift n Q) a w
def NoOut (Q : Exit → Env → World → Prop) : Prop := ∀ ρ w, ¬ Q .outgrown ρ w
section
variable {P : Program} {r m n : Nat} {ops : Array Oper} {Q : Exit → Env → World → Prop} {ρ : Env} {w : World}
theorem NoOut.out (h : NoOut Q) : ¬ LetsOut (lift n Q) := fun ⟨_, w, ρ, _, hq⟩ => h ρ w hq
theorem CR.region {id : Nat} {l : List Oper} (hO : NoOut Q) (hn : l.all noD = true) (h : LW P n l.toArray Q l ρ w) : CR P r m n (.region id l.toArray false) Q ρ w := fun a ha => wpIn_region_lit (list_in hO.out hn (h a ha))
theorem CR.draw (hO : NoOut Q) (hn : ops.toList.all noD = true) (S : List Nat) (X : Nat → Prop) (t : DT) {id : Nat} (hm : P.follows .mixedOrders = true) (hB : drawB ops S t = true) (h : ∀ w', Ext w w' → DW P n ops Q S X t ρ w') : CR P r m n (.region id ops true) Q ρ w := fun a ha => by
  simp only [drawB, Bool.and_eq_true, decide_eq_true_eq] at hB
  refine wpIn_region_any hm ?_
  have hs := WA.sound (Q' := lift n Q) (fun _ _ h => h) _ _ _ _ ((DW.sound hB.1.1 t [] _ ρ _ a hB.2 (h { w with drawn := w.drawn + 1 } (Ext.drew (Ext.refl w))) ha).1 rfl)
  rw [hB.1.2] at hs
  exact any_in hO.out (fun i o ho => List.all_eq_true.1 hn o (Array.mem_toList_iff.2 (Array.mem_of_getElem? ho))) hs
theorem CR.seq {x y : Code} (h : ∀ K : Env → World → Prop, (∀ ρ w, CR P r m n y Q ρ w → K ρ w) → CR P r m n x (thenE K Q) ρ w) : CR P r m n (.seq x y) Q ρ w := fun a ha => by
  refine wpIn_seq (wpIn_mono (h (fun ρ w => CR P r m n y Q ρ w) (fun _ _ h => h) a ha) fun e a' w' hq => ?_)
  obtain ⟨ρ', hf, hq⟩ := hq
  cases e <;> first | exact hq a' hf | exact ⟨ρ', hf, hq⟩
theorem CR.sub {c : Code} (ρ' : Env) (hs : Sub ρ' ρ) (h : CR P r m n c Q ρ' w) : CR P r m n c Q ρ w := fun a ha => h a (ha.sub hs)
theorem CR.cond {c : Operand} {x y : Code} {t : Bool} (hc : ev ρ c = some (.bool t)) (ht : t = true → CR P r m n x Q ρ w) (hf : t = false → CR P r m n y Q ρ w) : CR P r m n (.cond c x y) Q ρ w :=
  fun a ha => wpIn_cond_split (ha.ev hc) (fun h => ht h a ha) (fun h => hf h a ha)
theorem CR.condT {c : Operand} {x y : Code} {t : Bool} (hc : ev ρ c = some (.bool t)) (ht : t = true) (h : CR P r m n x Q ρ w) : CR P r m n (.cond c x y) Q ρ w :=
  CR.cond hc (fun _ => h) (fun hf => absurd (ht.symm.trans hf) (by decide))
theorem CR.condF {c : Operand} {x y : Code} {t : Bool} (hc : ev ρ c = some (.bool t)) (ht : t = false) (h : CR P r m n y Q ρ w) : CR P r m n (.cond c x y) Q ρ w :=
  CR.cond hc (fun hf => absurd (ht.symm.trans hf) (by decide)) (fun _ => h)
theorem CR.skip (h : Q .normal ρ w) : CR P r m n .skip Q ρ w := fun _ ha => wpIn_skip ⟨ρ, ha, h⟩
theorem CR.ret (h : Q .ret ρ w) : CR P r m n .ret Q ρ w := fun _ ha => wpIn_ret ⟨ρ, ha, h⟩
theorem CR.block {id : Nat} {c : Code} (h : CR P r m n c (blockE id Q) ρ w) : CR P r m n (.block id c) Q ρ w := fun a ha => by
  refine wpIn_block (wpIn_mono (h a ha) fun e a' w' hq => ?_)
  obtain ⟨ρ', hf, hq⟩ := hq
  cases e with
  | exit id' =>
    simp only [blockE] at hq
    simp only [Exit.inBlock]
    split at hq
    · rename_i hb
      rw [if_pos (Nat.eq_of_beq_eq_true hb)]
      exact ⟨ρ', hf, hq⟩
    · rename_i hb
      rw [if_neg (fun e => by subst e; simp at hb)]
      exact ⟨ρ', hf, hq⟩
  | _ => exact ⟨ρ', hf, hq⟩
theorem CR.seqJ {x y : Code} (J : Env → World → Prop) (hJ : ∀ ρ w, J ρ w → CR P r m n y Q ρ w)
    (h : ∀ K : Env → World → Prop, (∀ ρ w, CR P r m n y Q ρ w → K ρ w) → (∀ ρ w, (∃ ρ', Sub ρ' ρ ∧ J ρ' w) → K ρ w) → CR P r m n x (thenE K Q) ρ w) : CR P r m n (.seq x y) Q ρ w :=
  CR.seq fun K hK => h K hK fun ρ w ⟨ρ', hs, hj⟩ => hK ρ w (CR.sub ρ' hs (hJ ρ' w hj))
end
/-- What is called with yield hands over the rows of xs, one after another, and stops where yield says so; in a world of which Rd says what it reads. -/
def Iter (P : Program) (gf : Nat) (lb : Array Value) (xs : List (Array Value)) (Rd : World → Prop) : Prop :=
  ∀ (r : Nat) (J : Nat → World → Prop) (Jx : World → Prop) (W : World),
    (∀ i W1, J i W1 → Rd W1) → (∀ i W1 W2, J i W1 → Ext W1 W2 → J i W2) →
    (∀ i W1 x, J i W1 → xs[i]? = some x → YieldAt Fence.wide 1 P r x W1 fun e W' => (e = .returned (.bool true) ∧ J (i + 1) W') ∨ (e = .returned (.bool false) ∧ Jx W')) →
    J 0 W →
    CallsIn Fence.wide 2 P gf (#[.func (.yield r) #[] #[]] ++ lb) W fun e W' => (∃ v, e = .returned v) ∧ (J xs.length W' ∨ Jx W')
abbrev lrec (fn : FuncId) (a : Act) (ps : Array Tmp) (assign body : Code) (D : Nat) (st : LoopState) (pe : Option Code) : Loop := { state := st, pending := pe, fn, tmps := a.tmps, params := ps, assign, body, defers := D }
def lck (r D : Nat) (o : Obj) : Ck := .inv [r, D] fun W => W.heap[r]? = some o ∧ W.heap[D]? = some (.deferred (some []))
theorem lck_holds {W : World} {r D : Nat} {o : Obj} (h1 : W.heap[r]? = some o) (h2 : W.heap[D]? = some (.deferred (some []))) : (lck r D o).holds W :=
  ⟨fun b hb => by
    simp at hb
    rcases hb with rfl | rfl
    · exact (Array.getElem?_eq_some_iff.1 h1).1
    · exact (Array.getElem?_eq_some_iff.1 h2).1, ⟨h1, h2⟩, fun w1 w2 hl h hq => ⟨(h r (by simp)).trans hq.1, (h D (by simp)).trans hq.2⟩⟩
theorem lck_at {w0 W : World} {L : List Ck} {r D : Nat} {o : Obj} (H : Hp w0 W (L ++ [lck r D o])) : W.heap[r]? = some o ∧ W.heap[D]? = some (.deferred (some [])) := (H.holds L.length (lck r D o) (by simp)).2.1
theorem lck_put {w0 W : World} {L : List Ck} {r D : Nat} {o : Obj} (o' : Obj) (hne : D ≠ r) (H : Hp w0 W (L ++ [lck r D o])) : Hp w0 (W.putObj r o') (L ++ [lck r D o']) := by
  obtain ⟨h1, h2⟩ := lck_at H
  have hlt := (Array.getElem?_eq_some_iff.1 h1).1
  have hf := H.fresh L.length (lck r D o) (by simp) r (by simp [lck, Ck.bl])
  have h := H.step (w' := W.putObj r o') L.length (x := lck r D o) (y := lck r D o') (by simp)
    (Below.grown H.ext (grownBy_putObj' W r o') (Below.size H.ext) (fun k e => by cases e; exact hf))
    (fun b _ hb => World.putObj_heap_other (fun e => hb (by rw [e]; simp [lck, Ck.bl])))
    (lck_holds (World.putObj_heap_same hlt) ((World.putObj_heap_other hne).trans h2)) (fun b hb => .inl hb)
  simpa using h
def dck (D : Nat) : Ck := .inv [D] fun W => W.heap[D]? = some (.deferred (some []))
theorem lck_dck {w0 W : World} {L : List Ck} {r D : Nat} {o : Obj} (H : Hp w0 W (L ++ [lck r D o])) : Hp w0 W (L ++ [dck D]) := by
  obtain ⟨_, h2⟩ := lck_at H
  have h := H.step (w' := W) L.length (x := lck r D o) (y := dck D) (by simp) H.ext (fun _ _ _ => rfl)
    ⟨fun b hb => by simp at hb; rw [hb]; exact (Array.getElem?_eq_some_iff.1 h2).1, h2, fun w1 w2 hl h hq => (h D (by simp)).trans hq⟩ (fun b hb => .inl (by simp [dck, lck, Ck.bl] at *; exact .inr hb))
  simpa using h
/-- The mark's block is shut; all else lies as it lay. -/
theorem dck_take {w0 W : World} {L : List Ck} {D : Nat} (H : Hp w0 W (L ++ [dck D])) : W.heap[D]? = some (.deferred (some [])) ∧ Hp w0 (W.putObj D (.deferred none)) L := by
  have h2 : W.heap[D]? = some (.deferred (some [])) := (H.holds L.length (dck D) (by simp)).2.1
  have hlt := (Array.getElem?_eq_some_iff.1 h2).1
  have hf := H.fresh L.length (dck D) (by simp) D (by simp [dck, Ck.bl])
  have h := H.step (w' := W.putObj D (.deferred none)) L.length (x := dck D) (y := .inv [D] fun W => W.heap[D]? = some (.deferred none)) (by simp)
    (Below.grown H.ext (grownBy_putObj' W D _) (Below.size H.ext) (fun k e => by cases e; exact hf))
    (fun b _ hb => World.putObj_heap_other (fun e => hb (by rw [e]; simp [dck, Ck.bl])))
    ⟨fun b hb => by simp at hb; rw [hb]; simpa using hlt, World.putObj_heap_same hlt, fun w1 w2 hl h hq => (h D (by simp)).trans hq⟩ (fun b hb => .inl hb)
  refine ⟨h2, ?_⟩
  have h' : Hp w0 (W.putObj D (.deferred none)) (L ++ [.inv [D] fun W => W.heap[D]? = some (.deferred none)]) := by simpa using h
  have g := Hp.pick (L' := L) h' (List.range L.length) List.nodup_range (by
    apply List.ext_getElem?
    intro i
    by_cases hi : i < L.length
    · simp [hi, List.getElem?_append_left hi]
    · rw [List.getElem?_eq_none (by simpa using hi), List.getElem?_eq_none (by simpa using hi)])
  exact g
/-- The env of a round: yield's arguments in the parameters. -/
def penv : List Tmp → List Value → Env → Env
  | p :: ps, x :: xs, ρ => penv ps xs ((p, x) :: ρ)
  | _, _, ρ => ρ
theorem penv_fits {n : Nat} : ∀ (ps : List Tmp) (xs : List Value) (ρ : Env) (t : Array Value) (ds : List Deferred), Fits n ρ { tmps := t, defers := [] } → (∀ p ∈ ps, p < n) → Fits n (penv ps xs ρ) { tmps := (ps.zip xs).foldl (fun t (px : Tmp × Value) => t.setIfInBounds px.1 px.2) t, defers := [] }
  | [], _, ρ, t, ds, h, _ => by simpa [penv] using h
  | p :: ps, [], ρ, t, ds, h, _ => by simpa [penv] using h
  | p :: ps, x :: xs, ρ, t, ds, h, hp => by
    simp only [penv, List.zip_cons_cons, List.foldl_cons]
    refine penv_fits ps xs _ _ ds ?_ (fun q hq => hp q (by simp [hq]))
    exact h.upd (d := some p) (by simp [okDst, Nat.blt_eq, hp p (by simp)]) x
end Go.Tb

set_option linter.unusedVariables false
set_option linter.unusedSimpArgs false
namespace Go.Tb
open Go.RowKit
theorem Hp.snoc {w0 w w' : World} {L : List Ck} (h : Hp w0 w L) (e : Ext w w') {x : Ck} (hx : x.holds w') (fr : ∀ b ∈ x.bl, w.heap.size ≤ b) : Hp w0 w' (L ++ [x]) := by
  refine Hp.pick (h.cons e hx fr) (List.range' 1 L.length ++ [0]) ?_ ?_
  · rw [List.nodup_append]
    refine ⟨List.nodup_range', by simp, fun a ha b hb => ?_⟩
    rw [List.mem_range'_1] at ha
    simp at hb
    omega
  · rw [List.map_append, List.map_append]
    congr 1
    apply List.ext_getElem?
    intro i
    by_cases hi : i < L.length
    · simp [hi, Nat.add_comm 1 i]
    · rw [List.getElem?_eq_none (by simpa using hi), List.getElem?_eq_none (by simpa using hi)]
abbrev mark (D : Nat) : Deferred := { target := .collected D, args := #[] }
def rpost {V Vx : Type} (w0 : World) (Φ : Nat → V → Prop) (Lv : V → List Ck) (Ψ : Vx → Prop) (Lx : Vx → List Ck) (i : Nat) (X : Ck) : Exit → Env → World → Prop
  | .normal, _, W => ∃ v, Φ (i + 1) v ∧ Hp w0 W (Lv v ++ [X])
  | .ret, _, W => ∃ v, Ψ v ∧ Hp w0 W (Lx v ++ [X])
  | _, _, _ => False
theorem zip_fold (ps : Array Tmp) (xs : Array Value) (t : Array Value) : (ps.zip xs).foldl (fun t (px : Tmp × Value) => t.setIfInBounds px.1 px.2) t = (ps.toList.zip xs.toList).foldl (fun t (px : Tmp × Value) => t.setIfInBounds px.1 px.2) t := by
  rw [← Array.foldl_toList, Array.toList_zip]
theorem wp_range {P : Program} {n : Nat} {ρ : Env} {w0 w : World} {a : Act} {V Vx Va : Type} {g : Operand} {ps : Array Tmp} {assign body : Code} {Q : Exit → Act → World → Prop} (ha : Fits n ρ a)
    {gf : Nat} {lb : Array Value} (hg : ev ρ g = some (.func (.func gf) #[] lb)) (eg : ∀ args w, (callFunc gf args).run P w = .ok (.enter gf args) w)
    {xs : List (Array Value)} (hps : ∀ x ∈ xs, x.size = ps.size) (hpn : ∀ p ∈ ps.toList, p < n) {Rd : World → Prop} (hit : Iter P gf lb xs Rd)
    (Φ : Nat → V → Prop) (Lv : V → List Ck) (Φa : Nat → Va → Env → Prop) (La : Va → List Ck) (Ψ : Vx → Prop) (Lx : Vx → List Ck)
    (hRd : ∀ i v W X, Φ i v → Hp w0 W (Lv v ++ [X]) → Rd W) (v0 : V) (h0 : Φ 0 v0) (H : Hp w0 w (Lv v0))
    (hassign : ∀ r i v W X x, Φ i v → xs[i]? = some x → Hp w0 W (Lv v ++ [X]) → CR P r 1 n assign (fun e ρ' W' => e = .normal ∧ ∃ v', Φa i v' ρ' ∧ Hp w0 W' (La v' ++ [X])) (penv ps.toList x.toList ρ) W)
    (hbody : ∀ r i v ρ' W X, Φa i v ρ' → Hp w0 W (La v ++ [X]) → CR P r 1 n body (rpost w0 Φ Lv Ψ Lx i X) ρ' W)
    (hdone : ∀ D v W, Φ xs.length v → Hp w0 W (Lv v ++ [dck D]) → Q .normal { a with defers := [mark D] } W)
    (hret : ∀ D v W, Ψ v → Hp w0 W (Lx v ++ [dck D]) → Q .ret { a with defers := [mark D] } W) :
    (Code.rangeFunc g ps assign body).wp P Q a w := by
  refine (wpIn_wide (n := 3)).1 (wpIn_rangeFunc ?_)
  intro fn _
  obtain ⟨rec, hrec⟩ : ∃ rec : LoopState → Option Code → Loop, rec = lrec fn a ps assign body w.heap.size := ⟨_, rfl⟩
  obtain ⟨W1, hW1⟩ : ∃ W1, (w.alloc (.deferred (some []))).alloc (.loop (rec .ready none)) = W1 := ⟨_, rfl⟩
  have had := ha.defers
  have hne : w.heap.size ≠ w.heap.size + 1 := by omega
  have hL1 : W1.heap[w.heap.size + 1]? = some (.loop (rec .ready none)) := by
    rw [← hW1]; have := World.alloc_heap_new (w.alloc (.deferred (some []))) (.loop (rec .ready none)); rwa [World.size_alloc] at this
  have hK1 : W1.heap[w.heap.size]? = some (.deferred (some [])) := by
    rw [← hW1]; exact (Below.heap_alloc _ _ _ (by simp)).trans (World.alloc_heap_new w _)
  have hE : Ext w W1 := by
    rw [← hW1]; exact ((Below.refl _ w).alloc (Nat.le_refl _) _).alloc (by simp) _
  have H1 : Hp w0 W1 (Lv v0 ++ [lck (w.heap.size + 1) w.heap.size (.loop (rec .ready none))]) := H.snoc hE (lck_holds hL1 hK1) (by
    intro b hb
    simp [lck, Ck.bl] at hb
    omega)
  refine ⟨w.heap.size + 1, [mark w.heap.size], W1, { target := .fn (.func gf) lb, args := #[.func (.yield (w.heap.size + 1)) #[] #[]] }, W1, gf,
    #[.func (.yield (w.heap.size + 1)) #[] #[]] ++ lb, W1, ?_, ?_, fun _ _ => trivial, ?_, (fun h => by cases h), ?_⟩
  · rw [← hW1, hrec]; exact run_enterLoop_outer _ _ _ _ _
  · simp only [resolve, ha.ev hg]
    simp [go_sem]
  · simp [invoke, go_sem, eg]
  refine (hit (w.heap.size + 1) (fun i W => ∃ v, Φ i v ∧ Hp w0 W (Lv v ++ [lck (w.heap.size + 1) w.heap.size (.loop (rec .ready none))]))
    (fun W => ∃ v, Ψ v ∧ Hp w0 W (Lx v ++ [lck (w.heap.size + 1) w.heap.size (.loop (rec .done (some .ret)))])) W1
    (fun i W ⟨v, h1, h2⟩ => hRd i v W _ h1 h2) (fun i W W' ⟨v, h1, h2⟩ e => ⟨v, h1, h2.grow e⟩) ?_ ⟨v0, h0, H1⟩).mono ?_
  · rintro i W x ⟨v, hv, HW⟩ hx
    obtain ⟨hl, _⟩ := lck_at HW
    have hsz := hps x (List.mem_of_getElem? hx)
    have hy := run_yield (P := P) (args := x) hl (by rw [hrec]; exact hsz)
    rw [hrec] at hy
    refine ⟨fn, _, assign, body, hy, roundIn_of_wpIn trivial ?_⟩
    have hfit : Fits n (penv ps.toList x.toList ρ) { tmps := (ps.zip x).foldl (fun t (px : Tmp × Value) => t.setIfInBounds px.1 px.2) a.tmps, defers := [] } := by
      rw [zip_fold]
      exact penv_fits _ _ _ _ [] ⟨rfl, ha.size, ha.at_⟩ hpn
    refine wpIn_mono (hassign (w.heap.size + 1) i v W _ x hv hx HW _ hfit) ?_
    rintro e a1 W2 ⟨ρ', hf1, rfl, v', hv', H2⟩
    obtain ⟨hl2, _⟩ := lck_at H2
    refine ⟨_, run_beginRound hl2 (by rw [hrec]), ?_⟩
    have H3 := lck_put (.loop { rec .ready none with state := .busy }) hne H2
    refine wpIn_mono (hbody (w.heap.size + 1) i v' ρ' _ _ hv' H3 a1 hf1) ?_
    rintro e a2 W3 ⟨ρ2, hf2, hp⟩
    cases e with
    | normal =>
      obtain ⟨v2, hv2, H4⟩ := hp
      obtain ⟨hl4, _⟩ := lck_at H4
      refine ⟨_, _, run_endRound none hl4, .inl ⟨rfl, v2, hv2, ?_⟩⟩
      have := lck_put (.loop { { rec .ready none with state := .busy } with state := .ready, pending := none }) hne H4
      rw [hrec] at this ⊢
      exact this
    | ret =>
      obtain ⟨v2, hv2, H4⟩ := hp
      obtain ⟨hl4, _⟩ := lck_at H4
      refine ⟨_, _, run_endRound (some .ret) hl4, .inr ⟨rfl, v2, hv2, ?_⟩⟩
      have := lck_put (.loop { { rec .ready none with state := .busy } with state := .done, pending := some .ret }) hne H4
      rw [hrec] at this ⊢
      exact this
    | exit id => exact hp.elim
    | goto t => exact hp.elim
    | panic ch => exact hp.elim
    | outgrown => exact hp.elim
  · subst hrec
    rintro e W2 ⟨⟨v, rfl⟩, (⟨v2, hv2, H2⟩ | ⟨v2, hv2, H2⟩)⟩
    · obtain ⟨hl, _⟩ := lck_at H2
      have hend := run_endLoop (P := P) hl (by simp)
      have H3 := lck_dck (lck_put (.loop { lrec fn a ps assign body w.heap.size .ready none with state := .exhausted }) hne H2)
      refine ⟨none, _, hend, ?_⟩
      have := hdone w.heap.size v2 _ hv2 H3
      rw [had]
      exact this
    · obtain ⟨hl, _⟩ := lck_at H2
      have hend := run_endLoop (P := P) hl (by simp)
      have H3 := lck_dck (lck_put (.loop { lrec fn a ps assign body w.heap.size .done (some .ret) with state := .exhausted }) hne H2)
      refine ⟨some .ret, _, hend, ?_⟩
      have := hret w.heap.size v2 _ hv2 H3
      rw [had]
      exact wpIn_ret this
def qop (o : Oper) : Bool := match o.op with
  | .move _ | .assign _ | .load _ _ | .store _ _ _ | .fieldAddr _ _ _ | .indexAddr _ _ _ | .binOp _ _ _ _ _ | .unOp _ _ _ | .extract _ _ | .field _ _ _ | .build _ _ => true
  | _ => false
def isVS : Result Next → Bool
  | .ok (.value _) _ => true
  | .ok .skip _ => true
  | .ok _ _ => false
  | .halt _ _ => true
section
variable {P : Program} {ops : Array Oper} {Q : Exit → Act → World → Prop} {ds : List Deferred}
theorem isVS_v {s : Sem Value} {w : World} : isVS ((do pure (Next.value (← s)) : Sem Next).run P w) = true := by
  rw [Sem.run_bind]
  cases s.run P w <;> simp [Result.andThen, isVS]
theorem isVS_u {s : Sem Unit} {w : World} : isVS ((do s; pure Next.skip : Sem Next).run P w) = true := by
  rw [Sem.run_bind]
  cases s.run P w <;> simp [Result.andThen, isVS]
theorem qop_run {o : Oper} (h : qop o = true) (ρ : Operand → Value) (w : World) : isVS ((execOp ρ o).run P w) = true := by
  unfold qop at h
  unfold execOp
  cases ho : o.op <;> rw [ho] at h <;> simp only at h ⊢ <;> first
    | exact isVS_v
    | exact isVS_u
    | (simp [isVS]; done)
    | (exfalso; cases h; done)
    | cases h
def Qd (ds : List Deferred) (Q : Exit → Act → World → Prop) : Exit → Act → World → Prop := fun e a w => a.defers = ds ∧ Q e { a with defers := [] } w
theorem put_defers (a : Act) (d : Option Nat) (v : Value) : (a.put d v).defers = a.defers ∧ ({ a with defers := [] } : Act).put d v = { (a.put d v) with defers := [] } := by
  cases d <;> exact ⟨rfl, rfl⟩
theorem op_ds {o : Oper} {a : Act} {w : World} {K : Act → World → Prop} (hq : qop o = true) (ha : a.defers = ds) (h : o.wp P { a with defers := [] } w K Q) : o.wp P a w (fun a' w' => a'.defers = ds ∧ K { a' with defers := [] } w') (Qd ds Q) := by
  unfold Oper.wp at *
  rw [eval_defers] at h
  have hr := qop_run (P := P) hq a.eval w
  generalize (execOp a.eval o).run P w = x at *
  cases x with
  | ok y w' =>
    cases y <;> simp only [isVS] at hr <;> first
      | (simp only [Oper.upon] at h ⊢
         rw [(put_defers a o.dst _).2] at h
         exact ⟨(put_defers a o.dst _).1.trans ha, h⟩)
      | (exfalso; cases hr; done)
      | cases hr
  | halt y w' => cases y <;> simp only [Oper.upon] at h ⊢ <;> first | exact h | exact ⟨ha, h⟩
theorem asks_ds {o : Oper} {a : Act} {w : World} (h : o.asks P { a with defers := [] } w) : o.asks P a w := by
  unfold Oper.asks at *
  rw [eval_defers] at h
  exact h
theorem lets_ds (hQ : ∀ a w, Q .outgrown a w → a.defers = []) (h : LetsOut Q) : LetsOut (Qd ds Q) := by
  obtain ⟨a, w, h⟩ := h
  have := hQ a w h
  refine ⟨{ a with defers := ds }, w, rfl, ?_⟩
  obtain ⟨t, d⟩ := a
  simp only at this
  subst this
  exact h
theorem op_at_ds (hQ : ∀ a w, Q .outgrown a w → a.defers = []) (hn : ∀ (i : Nat) (o : Oper), ops[i]? = some o → qop o = true) {i : Nat} {K : Act → World → Prop} {a : Act} {w : World} (ha : a.defers = ds) (h : wpOp P ops Q i K { a with defers := [] } w) :
    wpOp P ops (Qd ds Q) i (fun a' w' => a'.defers = ds ∧ K { a' with defers := [] } w') a w := by
  unfold wpOp at *
  cases ho : ops[i]? with
  | none => simp only [ho] at h ⊢; exact ⟨ha, h⟩
  | some o =>
    simp only [ho] at h ⊢
    split
    · rename_i hw
      rw [if_pos hw] at h
      rcases h with h | h
      · exact .inl (op_ds (hn i o ho) ha h)
      · exact .inr ⟨asks_ds h.1, lets_ds hQ h.2⟩
    · rename_i hw
      rw [if_neg hw] at h
      obtain ⟨e1, e2⟩ := put_defers a o.dst undef
      rw [e2] at h
      exact ⟨e1.trans ha, h⟩
theorem any_ds (hQ : ∀ a w, Q .outgrown a w → a.defers = []) (hn : ∀ (i : Nat) (o : Oper), ops[i]? = some o → qop o = true) {md : Region.Mode} : ∀ {fuel : Nat} {listed : Array Bool} {a : Act} {w : World}, a.defers = ds → wpAny P md ops Q fuel listed { a with defers := [] } w → wpAny P md ops (Qd ds Q) fuel listed a w
  | 0, _, _, _, ha, h => ⟨h.1, ha, h.2⟩
  | fuel + 1, listed, a, w, ha, h => ⟨fun hr => ⟨ha, h.1 hr⟩, fun i hi => wpOp_mono (fun a w h => any_ds hQ hn h.1 h.2) (op_at_ds hQ hn ha (h.2 i hi))⟩
end
section
variable {P : Program} {n : Nat} {ds : List Deferred} {ops : Array Oper} {Q : Exit → Env → World → Prop} {ρ : Env} {w : World}
theorem CWD.draw (hn : ops.toList.all qop = true) (S : List Nat) (X : Nat → Prop) (t : DT) {id : Nat} (hm : P.follows .mixedOrders = true) (hB : drawB ops S t = true) (h : ∀ w', Ext w w' → DW P n ops Q S X t ρ w') : CWD P n ds (.region id ops true) Q ρ w := fun a ha => by
  simp only [drawB, Bool.and_eq_true, decide_eq_true_eq] at hB
  refine wp_mono (Q := Qd ds (lift n Q)) (wp_region_any hm ?_) ?_
  · have hs := WA.sound (Q' := lift n Q) (fun _ _ h => h) _ _ _ _ ((DW.sound hB.1.1 t [] _ ρ _ { a with defers := [] } hB.2 (h { w with drawn := w.drawn + 1 } (Ext.drew (Ext.refl w))) ha.fits).1 rfl)
    rw [hB.1.2] at hs
    exact any_ds (fun a w ⟨ρ, hf, _⟩ => hf.defers) (fun i o ho => List.all_eq_true.1 hn o (Array.mem_toList_iff.2 (Array.mem_of_getElem? ho))) ha.defers hs
  · rintro e a' w' ⟨h1, ρ', hf, hq⟩
    exact ⟨ρ', ⟨h1, hf⟩, hq⟩
end
def bodyD (P : Program) (n : Nat) (rs : Array ResultVar) (R : Ending → World → Prop) (D : Nat) : Exit → Env → World → Prop
  | .normal, ρ, w | .ret, ρ, w => w.heap[D]? = some (.deferred (some [])) ∧ ∃ v, ResOK P n rs ρ (w.putObj D (.deferred none)) v ∧ R (.returned v) (w.putObj D (.deferred none))
  | _, _, _ => False
section
variable {P : Program} {n : Nat} {fn : Func} {rs : Array ResultVar} {R : Ending → World → Prop} {ρ : Env} {w : World}
theorem post_plain (hr : fn.results = rs) {e : Exit} {a : Act} (h : lift n (bodyE P n rs R) e a w) : bodyPostM Fence.wide 1 P fn R e a w := by
  obtain ⟨ρ, hf, hq⟩ := h
  have hd := hf.defers
  cases e with
  | normal => obtain ⟨v, h1, h2⟩ := hq; simp only [bodyPostM, hd]; exact ⟨v, h1 fn a hr hf, h2⟩
  | ret => obtain ⟨v, h1, h2⟩ := hq; simp only [bodyPostM, hd]; exact ⟨v, h1 fn a hr hf, h2⟩
  | panic ch => simp only [bodyPostM, hd]; exact hq
  | outgrown => exact hq
  | exit id => exact hq.elim
  | goto l => exact hq.elim
theorem post_mark (hr : fn.results = rs) {D : Nat} {e : Exit} {a : Act} (h : liftD n [mark D] (bodyD P n rs R D) e a w) : bodyPostM Fence.wide 1 P fn R e a w := by
  obtain ⟨ρ, hf, hq⟩ := h
  have hd := hf.defers
  have key : ∀ v, w.heap[D]? = some (.deferred (some [])) → ResOK P n rs ρ (w.putObj D (.deferred none)) v → R (.returned v) (w.putObj D (.deferred none)) → LeavesInM Fence.wide 1 P fn a.tmps R [mark D] .returning w := fun v h1 h2 h3 =>
    ⟨by simp, .inl ⟨D, _, rfl, run_takeDeferred h1, v, h2 fn { a with defers := [] } hr hf.fits, h3⟩⟩
  cases e with
  | normal => obtain ⟨h1, v, h2, h3⟩ := hq; simp only [bodyPostM, hd]; exact key v h1 h2 h3
  | ret => obtain ⟨h1, v, h2, h3⟩ := hq; simp only [bodyPostM, hd]; exact key v h1 h2 h3
  | panic ch => exact hq.elim
  | outgrown => exact hq.elim
  | exit id => exact hq.elim
  | goto l => exact hq.elim
def CM (P : Program) (n : Nat) (fn : Func) (c : Code) (R : Ending → World → Prop) (ρ : Env) (w : World) : Prop := ∀ a, Fits n ρ a → c.wp P (bodyPostM Fence.wide 1 P fn R) a w
theorem calls_of_cm {f : FuncId} {c : Code} {args : List Value} (hf : P.funcs[f]? = some fn) (hb : fn.body = some c) (hn : fn.ntmps = n) (ha : Nat.ble args.length n = true) (h : CM P n fn c R (argEnv 0 args) w) : Calls P f args.toArray w R := by
  have ha' : args.length ≤ n := Nat.le_of_ble_eq_true ha
  refine (callsIn_wide (n := 1)).1 (callsIn_of_wp_marks hf hb trivial (wpIn_wide.2 (h _ ⟨rfl, ?_, fun t v hl => ?_⟩)))
  · simp [hn]; omega
  · obtain ⟨_, h2⟩ := look_argEnv args 0 t v hl
    have hlt : t < args.length := by
      rcases Nat.lt_or_ge t args.length with h' | h'
      · exact h'
      · simp [List.getElem?_eq_none h'] at h2
    simp only [Nat.sub_zero] at h2
    rw [Array.getElem?_append_left (by simpa using hlt)]
    simpa using h2
theorem CM.seq (hr : fn.results = rs) {x y : Code} (h : ∀ K : Env → World → Prop, (∀ ρ w, CM P n fn y R ρ w → K ρ w) → CW P n x (thenE K (bodyE P n rs R)) ρ w) : CM P n fn (.seq x y) R ρ w := fun a ha => by
  refine wp_seq (wp_mono (h (fun ρ w => CM P n fn y R ρ w) (fun _ _ h => h) a ha) fun e a' w' hq => ?_)
  obtain ⟨ρ', hf, hq⟩ := hq
  cases e with
  | normal => exact hq a' hf
  | exit id => exact post_plain (P := P) (n := n) (R := R) (rs := rs) (w := w') (e := .exit id) hr ⟨ρ', hf, hq⟩
  | goto l => exact post_plain (P := P) (n := n) (R := R) (rs := rs) (w := w') (e := .goto l) hr ⟨ρ', hf, hq⟩
  | ret => exact post_plain (P := P) (n := n) (R := R) (rs := rs) (w := w') (e := .ret) hr ⟨ρ', hf, hq⟩
  | panic ch => exact post_plain (P := P) (n := n) (R := R) (rs := rs) (w := w') (e := .panic ch) hr ⟨ρ', hf, hq⟩
  | outgrown => exact post_plain (P := P) (n := n) (R := R) (rs := rs) (w := w') (e := .outgrown) hr ⟨ρ', hf, hq⟩
theorem CM.sub {c : Code} (ρ' : Env) (hs : Sub ρ' ρ) (h : CM P n fn c R ρ' w) : CM P n fn c R ρ w := fun a ha => h a (ha.sub hs)
theorem CM.seqJ (hr : fn.results = rs) {x y : Code} (J : Env → World → Prop) (hJ : ∀ ρ w, J ρ w → CM P n fn y R ρ w)
    (h : ∀ K : Env → World → Prop, (∀ ρ w, CM P n fn y R ρ w → K ρ w) → (∀ ρ w, (∃ ρ', Sub ρ' ρ ∧ J ρ' w) → K ρ w) → CW P n x (thenE K (bodyE P n rs R)) ρ w) : CM P n fn (.seq x y) R ρ w :=
  CM.seq hr fun K hK => h K hK fun ρ w ⟨ρ', hs, hj⟩ => hK ρ w (CM.sub ρ' hs (hJ ρ' w hj))
/-- The last part of a statement, with what stands behind the statement. -/
def CB (P : Program) (n : Nat) (fn : Func) (b y : Code) (R : Ending → World → Prop) (ρ : Env) (w : World) : Prop := ∀ a, Fits n ρ a → b.wp P (Exit.then (y.wp P (bodyPostM Fence.wide 1 P fn R)) (bodyPostM Fence.wide 1 P fn R)) a w
theorem CM.seqA (hr : fn.results = rs) {x b y : Code} (h : ∀ K : Env → World → Prop, (∀ ρ w, CB P n fn b y R ρ w → K ρ w) → CW P n x (thenE K (bodyE P n rs R)) ρ w) : CM P n fn (.seq (.seq x b) y) R ρ w := fun a ha => by
  refine wp_seq (wp_seq (wp_mono (h (fun ρ w => CB P n fn b y R ρ w) (fun _ _ h => h) a ha) fun e a' w' hq => ?_))
  obtain ⟨ρ', hf, hq⟩ := hq
  cases e with
  | normal => exact hq a' hf
  | exit id => exact post_plain (P := P) (n := n) (R := R) (rs := rs) (w := w') (e := .exit id) hr ⟨ρ', hf, hq⟩
  | goto l => exact post_plain (P := P) (n := n) (R := R) (rs := rs) (w := w') (e := .goto l) hr ⟨ρ', hf, hq⟩
  | ret => exact post_plain (P := P) (n := n) (R := R) (rs := rs) (w := w') (e := .ret) hr ⟨ρ', hf, hq⟩
  | panic ch => exact post_plain (P := P) (n := n) (R := R) (rs := rs) (w := w') (e := .panic ch) hr ⟨ρ', hf, hq⟩
  | outgrown => exact post_plain (P := P) (n := n) (R := R) (rs := rs) (w := w') (e := .outgrown) hr ⟨ρ', hf, hq⟩
theorem CB.range (hr : fn.results = rs) {w0 : World} {V Vx Va : Type} {id : Nat} {g : Operand} {ps : Array Tmp} {assign body y : Code}
    {gf : Nat} {lb : Array Value} (hg : ev ρ g = some (.func (.func gf) #[] lb)) (eg : ∀ args w, (callFunc gf args).run P w = .ok (.enter gf args) w)
    {xs : List (Array Value)} (hps : ∀ x ∈ xs, x.size = ps.size) (hpn : ∀ p ∈ ps.toList, p < n) {Rd : World → Prop} (hit : Iter P gf lb xs Rd)
    (Φ : Nat → V → Prop) (Lv : V → List Ck) (Φa : Nat → Va → Env → Prop) (La : Va → List Ck) (Ψ : Vx → Prop) (Lx : Vx → List Ck)
    (hRd : ∀ i v W X, Φ i v → Hp w0 W (Lv v ++ [X]) → Rd W) (v0 : V) (h0 : Φ 0 v0) (H : Hp w0 w (Lv v0))
    (hassign : ∀ r i v W X x, Φ i v → xs[i]? = some x → Hp w0 W (Lv v ++ [X]) → CR P r 1 n assign (fun e ρ' W' => e = .normal ∧ ∃ v', Φa i v' ρ' ∧ Hp w0 W' (La v' ++ [X])) (penv ps.toList x.toList ρ) W)
    (hbody : ∀ r i v ρ' W X, Φa i v ρ' → Hp w0 W (La v ++ [X]) → CR P r 1 n body (rpost w0 Φ Lv Ψ Lx i X) ρ' W)
    (hdone : ∀ D v W, Φ xs.length v → Hp w0 W (Lv v ++ [dck D]) → CWD P n [mark D] y (bodyD P n rs R D) ρ W)
    (hret : ∀ D v W, Ψ v → Hp w0 W (Lx v ++ [dck D]) → bodyD P n rs R D .ret ρ W) :
    CB P n fn (.block id (.rangeFunc g ps assign body)) y R ρ w := fun a ha => by
  have hfd : ∀ D, FitsD n [mark D] ρ { a with defers := [mark D] } := fun D => ⟨rfl, by
    obtain ⟨t, d⟩ := a
    have := ha.defers
    simp only at this
    subst this
    exact ha⟩
  refine wp_block (wp_range ha hg eg hps hpn hit Φ Lv Φa La Ψ Lx hRd v0 h0 H hassign hbody (fun D v W hv HW => ?_) (fun D v W hv HW => ?_))
  · show y.wp P (bodyPostM Fence.wide 1 P fn R) _ W
    exact wp_mono (hdone D v W hv HW _ (hfd D)) fun e a' w' h => post_mark hr h
  · exact post_mark hr (D := D) ⟨ρ, hfd D, hret D v W hv HW⟩
end
end Go.Tb

set_option linter.unusedVariables false
set_option linter.unusedSimpArgs false
namespace Go.Tb
open Go.RowKit
def LI (P : Program) (m n : Nat) (ops : Array Oper) (Q : Exit → Env → World → Prop) (l : List Oper) (ρ : Env) (w : World) : Prop := ∀ a, Fits n ρ a → wpListIn Fence.wide m P ops (lift n Q) l a w
section
variable {P : Program} {m n : Nat} {ops : Array Oper} {Q : Exit → Env → World → Prop} {ρ : Env} {w : World} {d : Option Tmp} {ty : TypeId} {pos : String} {after : Array Edge}
theorem CW.regionI {id : Nat} {l : List Oper} (h : LI P m n l.toArray Q l ρ w) : CW P n (.region id l.toArray false) Q ρ w := fun a ha => wpIn_wide.1 (wpIn_region_lit (h a ha))
theorem LI.nil (h : Q .normal ρ w) : LI P m n ops Q [] ρ w := fun _ ha => wpListIn_nil ⟨ρ, ha, h⟩
theorem LI.pure {o : Oper} {rest : List Oper} {v : Value} (hg : o.guard = none) (hd : okDst n o.dst = true) (h : RV P n o ρ w v) (k : LI P m n ops Q rest (upd ρ o.dst v) w) : LI P m n ops Q (o :: rest) ρ w := fun a ha => by
  unfold wpListIn
  rw [if_pos (by simp [Region.wanted, hg])]
  refine ⟨fun _ _ => trivial, ?_⟩
  show o.uponIn Fence.wide m P a _ _ ((o.semAt none a.eval).run P w)
  rw [Oper.semAt_none, h a ha]
  exact k _ (ha.upd hd v)
theorem LI.yield {rest : List Oper} {x : Operand} {args : List Operand} {tys : Array TypeId} {vs : List Value} {r : Nat} {R : Ending → World → Prop} (hd : okDst n d = true) (hx : ev ρ x = some (.func (.yield r) #[] #[])) (hv : evs ρ args = some vs)
    (hy : YieldAt Fence.wide m P r vs.toArray w R) (k : ∀ e w', R e w' → ∃ v, e = .returned v ∧ LI P (m + 1) n ops Q rest (upd ρ d v) w') : LI P (m + 1) n ops Q (⟨d, .call ⟨.value x, args.toArray, tys⟩, ty, pos, after, none⟩ :: rest) ρ w := fun a ha => by
  unfold wpListIn
  rw [if_pos (by simp [Region.wanted])]
  refine ⟨fun _ _ => trivial, ?_⟩
  obtain ⟨fn, tmps, assign, body, hy, hR⟩ := hy
  have he : (execOp a.eval ⟨d, .call ⟨.value x, args.toArray, tys⟩, ty, pos, after, none⟩).run P w = .ok (.round r fn tmps assign body) w := by
    simp only [execOp, resolve, ha.ev hx, Deferred.ofValue, Sem.run_bind, Sem.run_pure, Result.andThen_ok]
    simp only [invoke, List.map_toArray, ha.evs hv]
    simpa using hy
  show Oper.uponIn Fence.wide (m + 1) P _ a _ _ ((Oper.semAt none a.eval _).run P w)
  rw [Oper.semAt_none, he, Oper.uponIn_round]
  refine ⟨(fun h => by cases h), hR.mono fun e w' h => ?_⟩
  obtain ⟨v, rfl, h2⟩ := k e w' h
  exact h2 _ (ha.upd hd v)
end
end Go.Tb

set_option linter.unusedVariables false
set_option linter.unusedSimpArgs false
namespace Go.D1
open Go.Tb Go.Proofs Go.RowKit
def aggR (r : Reading) : Value := .agg #[.int .i64 r.from_, .int .i64 r.to_, .int .i64 r.rise, .int .i64 r.weight]
def alongX (s : Survey) (walk : List Int) : List (Array Value) := walk.map fun x => #[aggR (goneR s x)]
structure StepOk (s : Survey) (x : Int) : Prop where
  neg : InR (-x)
  sub : InR (max x (-x) - 1)
  ge : 0 ≤ max x (-x) - 1
  lt : max x (-x) - 1 < (s.readings.length : Int)
  rise : ∀ r ∈ s.readings, InR (-r.rise)
structure AlongRd (s : Survey) (walk : List Int) (b0 b1 : Nat) (A0 A1 : Option Addr) (c0 c1 : Nat) (W : World) : Prop where
  sl0 : Sl W A0 c0 1 (walk.map encN)
  bx0 : Cells W ⟨b0, 0, none⟩ [.slice A0 walk.length c0]
  sl1 : Sl W A1 c1 4 (s.readings.map encReading)
  bx1 : Cells W ⟨b1, 0, none⟩ [.int .i64 s.points, .slice A1 s.readings.length c1]
set_option maxRecDepth 20000 in
set_option maxHeartbeats 1000000 in
theorem along_iter {s : Survey} {walk : List Int} {b0 b1 : Nat} {A0 A1 : Option Addr} {c0 c1 : Nat} (hw : walk.length ≤ 1000000) (hok : ∀ x ∈ walk, StepOk s x) :
    Iter Try.prog 108 #[.pointer (some ⟨b0, 0, none⟩), .pointer (some ⟨b1, 0, none⟩)] (alongX s walk) (AlongRd s walk b0 b1 A0 A1 c0 c1) := by
  intro r J Jx w hRd hJe hY h0
  refine callsIn_wide.2 ?_
  refine calls_of_cw (args := [.func (.yield r) #[] #[], .pointer (some (⟨b0, 0, none⟩)), .pointer (some (⟨b1, 0, none⟩))]) Try.func108 rfl rfl rfl rfl ?_
  have hR := hRd 0 w h0
  refine CW.seq fun K1 hK1 => ?_
  refine CW.region ?_
  refine LW.pure rfl rfl (RV.load1 Tk39 rfl hR.bx0 rfl) ?_
  refine LW.pure rfl rfl (RV.len Ts39 rfl) ?_
  refine LW.pure rfl rfl (RV.move rfl) ?_
  refine LW.nil (hK1 _ _ ?_)
  refine CW.block ?_
  refine CW.loop (fun meas ρ wl => ∃ i : Nat, meas + i = walk.length ∧ J i wl ∧ ρ = [(0, .func (.yield r) #[] #[]), (2, .pointer (some (⟨b1, 0, none⟩))), (7, .slice A0 walk.length c0), (8, .int .i64 ((walk.length : Int))), (9, .int .i64 (i : Int))]) walk.length ⟨_, ?_, 0, by omega, h0, rfl⟩ ?_
  · exact ⟨rfl, rfl, rfl, rfl, rfl, trivial⟩
  rintro mk _ wl ⟨i, hm, hJ, rfl⟩
  have hR := hRd i wl hJ
  refine CW.seq fun K2 hK2 => ?_
  refine CW.region ?_
  refine LW.pure rfl rfl (RV.lss rfl rfl) ?_
  refine LW.nil (hK2 _ _ ?_)
  refine CW.seq fun K3 hK3 => ?_
  by_cases hp1 : (i : Int) < ((walk.length : Int))
  · have hq1 := dec_t hp1
    have hil : i < walk.length := by omega
    obtain ⟨x, hx⟩ : ∃ x, walk[i]? = some x := ⟨walk[i], by simp [hil]⟩
    obtain ⟨s1, s2, s3, s4, s5⟩ := hok x (List.mem_of_getElem? hx)
    obtain ⟨rd, hrd⟩ : ∃ rd, s.readings[(max x (-x) - 1).toNat]? = some rd := ⟨s.readings[(max x (-x) - 1).toNat]'(by omega), by rw [List.getElem?_eq_getElem]⟩
    have hg : s.readings.getD (max x (-x) - 1).toNat ⟨0, 0, 0, 0⟩ = rd := by rw [List.getD_eq_getElem?_getD, hrd]; rfl
    have hri := s5 rd (List.mem_of_getElem? hrd)
    have hxx : (alongX s walk)[i]? = some #[aggR (goneR s x)] := by unfold alongX; rw [List.getElem?_map, hx]; rfl
    have hbi : 0 ≤ (i : Int) ∧ (i : Int) < (walk.length : Int) := by omega
    have hbr : 0 ≤ max x (-x) - 1 ∧ max x (-x) - 1 < (s.readings.length : Int) := ⟨s3, s4⟩
    have hx' : walk[((i : Int)).toNat]? = some x := hx
    refine CW.condT rfl hq1 ?_
    refine CW.skip (hK3 _ _ ?_)
    refine CW.seq fun K4 hK4 => ?_
    refine CW.block ?_
    refine CW.seq fun K5 hK5 => ?_
    refine CW.region ?_
    refine LW.pure rfl rfl (RV.indexAddr Ts39 rfl rfl hbi (hR.sl0.addr_ hx')) ?_
    refine LW.pure rfl rfl (RV.load1 Tk3 rfl (hR.sl0.at_ hx') rfl) ?_
    refine LW.pure rfl rfl (RV.assign rfl) ?_
    refine LW.nil (hK5 _ _ ?_)
    refine CW.seq fun K6 hK6 => ?_
    have H := Hp.start wl
    have R0 := H.ext
    refine CW.region ?_
    refine LW.pure rfl rfl (RV.fieldAddr Tf24_1 rfl) ?_
    refine LW.pure rfl rfl (RV.load1 Tk22 rfl (hR.bx1.off 1) rfl) ?_
    refine LW.pure rfl rfl (RV.move rfl) ?_
    refine LW.pure rfl rfl (RV.move rfl) ?_
    refine LW.pure rfl rfl (RV.neg rfl s1) ?_
    refine LW.pure rfl rfl (RV.max2 rfl rfl) ?_
    refine LW.pure rfl rfl (RV.sub rfl rfl s2) ?_
    refine LW.pure rfl rfl (RV.indexAddr Ts22 rfl rfl hbr (hR.sl1.addr_ hrd)) ?_
    refine LW.pure rfl rfl (RV.loadA [.int .i64 rd.from_, .int .i64 rd.to_, .int .i64 rd.rise, .int .i64 rd.weight] Tk46 rfl (hR.sl1.at_ hrd) rfl rfl) ?_
    refine LW.go rfl rfl (OW.alloc Tz46 fun b1' w2 N1 => ?_)
    replace H := H.new N1 N1.blk
    replace R0 := H.ext
    refine LW.go rfl rfl (OW.store Tk46 rfl rfl (H.blk 0 rfl) (off := 0) (vs := [.int .i64 rd.from_, .int .i64 rd.to_, .int .i64 rd.rise, .int .i64 rd.weight]) rfl rfl rfl rfl rfl fun w3 S1 => ?_)
    replace H : Hp wl w3 [.blk b1' 46 [.int .i64 rd.from_, .int .i64 rd.to_, .int .i64 rd.rise, .int .i64 rd.weight]] := H.stored 0 rfl S1
    replace R0 := H.ext
    refine LW.nil (hK6 _ _ ?_)
    refine CW.seqJ (fun ρ wl2 => ρ = [(0, .func (.yield r) #[] #[]), (2, .pointer (some (⟨b1, 0, none⟩))), (6, .pointer (some (⟨b1', 0, none⟩))), (7, .slice A0 walk.length c0), (8, .int .i64 ((walk.length : Int))), (9, .int .i64 (i : Int))] ∧ Hp wl wl2 [.blk b1' 46 [.int .i64 (goneR s x).from_, .int .i64 (goneR s x).to_, .int .i64 (goneR s x).rise, .int .i64 (goneR s x).weight]]) ?_ ?_
    · rintro _ wl2 ⟨rfl, H⟩
      have R0 := H.ext
      refine CW.seq fun K7 hK7 => ?_
      refine CW.regionI (m := 2) ?_
      refine LI.pure rfl rfl (RV.move rfl) ?_
      refine LI.pure rfl rfl (RV.loadA [.int .i64 (goneR s x).from_, .int .i64 (goneR s x).to_, .int .i64 (goneR s x).rise, .int .i64 (goneR s x).weight] Tk46 rfl (H.blk 0 rfl).cells rfl rfl) ?_
      refine LI.yield (m := 1) (args := [_]) rfl rfl rfl (hY i _ _ (hJe i wl wl2 hJ R0) hxx) ?_
      rintro e w4 (⟨rfl, hJ4⟩ | ⟨rfl, hJx⟩)
      · refine ⟨_, rfl, ?_⟩
        refine LI.pure rfl rfl (RV.not rfl) ?_
        refine LI.nil (hK7 _ _ ?_)
        refine CW.condF rfl rfl ?_
        refine CW.skip (hK4 _ _ ?_)
        refine CW.region ?_
        refine LW.pure rfl rfl (RV.add rfl rfl (by omega)) ?_
        refine LW.pure rfl rfl (RV.move rfl) ?_
        refine LW.nil ?_
        refine ⟨mk - 1, by omega, _, ?_, i + 1, by omega, hJ4, rfl⟩
        exact ⟨rfl, rfl, rfl, rfl, rfl, trivial⟩
      · refine ⟨_, rfl, ?_⟩
        refine LI.pure rfl rfl (RV.not rfl) ?_
        refine LI.nil (hK7 _ _ ?_)
        refine CW.condT rfl rfl ?_
        refine CW.ret ?_
        exact ⟨_, ResOK.none_, ⟨_, rfl⟩, .inr hJx⟩
    · intro K8 hK8 jK55
      refine CW.seq fun K9 hK9 => ?_
      refine CW.region ?_
      refine LW.pure rfl rfl (RV.move rfl) ?_
      refine LW.pure rfl rfl (RV.lss rfl rfl) ?_
      refine LW.nil (hK9 _ _ ?_)
      by_cases hp3 : x < 0
      · have hq3 := dec_t hp3
        have hgo : goneR s x = ⟨rd.to_, rd.from_, -rd.rise, rd.weight⟩ := by
          unfold goneR
          simp only [hg, hp3, if_true]
        rw [hgo] at jK55
        refine CW.condT rfl hq3 ?_
        refine CW.region ?_
        refine LW.pure rfl rfl (RV.fieldAddr Tf46_1 rfl) ?_
        refine LW.pure rfl rfl (RV.load1 Tk3 rfl ((H.blk 0 rfl).cells.off 1) rfl) ?_
        refine LW.pure rfl rfl (RV.fieldAddr Tf46_0 rfl) ?_
        refine LW.pure rfl rfl (RV.load1 Tk3 rfl ((H.blk 0 rfl).cells.off 0) rfl) ?_
        refine LW.pure rfl rfl (RV.fieldAddr Tf46_2 rfl) ?_
        refine LW.pure rfl rfl (RV.load1 Tk3 rfl ((H.blk 0 rfl).cells.off 2) rfl) ?_
        refine LW.pure rfl rfl (RV.neg rfl hri) ?_
        refine LW.pure rfl rfl (RV.fieldAddr Tf46_0 rfl) ?_
        refine LW.go rfl rfl (OW.store Tk3 rfl rfl (H.blk 0 rfl) (off := 0) (vs := [.int .i64 rd.to_]) rfl rfl rfl rfl rfl fun w5 S2 => ?_)
        replace H : Hp wl w5 [.blk b1' 46 [.int .i64 rd.to_, .int .i64 rd.to_, .int .i64 rd.rise, .int .i64 rd.weight]] := H.stored 0 rfl S2
        refine LW.pure rfl rfl (RV.fieldAddr Tf46_1 rfl) ?_
        refine LW.go rfl rfl (OW.store Tk3 rfl rfl (H.blk 0 rfl) (off := 1) (vs := [.int .i64 rd.from_]) rfl rfl rfl rfl rfl fun w6 S3 => ?_)
        replace H : Hp wl w6 [.blk b1' 46 [.int .i64 rd.to_, .int .i64 rd.from_, .int .i64 rd.rise, .int .i64 rd.weight]] := H.stored 0 rfl S3
        refine LW.pure rfl rfl (RV.fieldAddr Tf46_2 rfl) ?_
        refine LW.go rfl rfl (OW.store Tk3 rfl rfl (H.blk 0 rfl) (off := 2) (vs := [.int .i64 (-rd.rise)]) rfl rfl rfl rfl rfl fun w7 S4 => ?_)
        replace H : Hp wl w7 [.blk b1' 46 [.int .i64 rd.to_, .int .i64 rd.from_, .int .i64 (-rd.rise), .int .i64 rd.weight]] := H.stored 0 rfl S4
        refine LW.nil (jK55 _ _ ⟨_, ?_, rfl, H⟩)
        exact ⟨rfl, rfl, rfl, rfl, rfl, rfl, trivial⟩
      · have hq3 := dec_f hp3
        have hgo : goneR s x = rd := by
          unfold goneR
          simp only [hg]
          rw [if_neg hp3]
        rw [hgo] at jK55
        refine CW.condF rfl hq3 ?_
        refine CW.skip (jK55 _ _ ⟨_, ?_, rfl, H⟩)
        exact ⟨rfl, rfl, rfl, rfl, rfl, rfl, trivial⟩
  · have hq1 := dec_f hp1
    refine CW.condF rfl hq1 ?_
    refine CW.exit ?_
    have hi : i = (alongX s walk).length := by unfold alongX; rw [List.length_map]; omega
    exact ⟨_, ResOK.none_, ⟨_, rfl⟩, .inl (hi ▸ hJ)⟩
end Go.D1

set_option linter.unusedVariables false
set_option linter.unusedSimpArgs false
namespace Go.D1
open Go.Tb Go.Proofs Go.RowKit
theorem Tc92 : callable Try.prog 92 = true := by kernel_rfl
theorem Tk29 : tyK Try.prog 29 = some (false, 1) := by kernel_rfl
theorem Tz3 : tyZ Try.prog 3 = some (.int .i64 0) := by kernel_rfl
theorem Tz29 : tyZ Try.prog 29 = some (.int .i64 0) := by kernel_rfl
set_option maxRecDepth 20000 in
theorem level_along_ok {a0 : Survey} {a1 : List Int} {A0 A1 : Option Addr} {c0 c1 : Nat} {w : World} :
    Calls Try.prog 92 #[.agg #[.int .i64 a0.points, .slice A1 a0.readings.length c1], .slice A0 a1.length c0] w fun e w' => ∃ b0 b1 : Nat, e = .returned (.func (.func 108) #[] #[.pointer (some ⟨b0, 0, none⟩), .pointer (some ⟨b1, 0, none⟩)]) ∧ Hp w w' [.blk b0 39 [.slice A0 a1.length c0], .blk b1 24 [.int .i64 a0.points, .slice A1 a0.readings.length c1]] := by
  refine calls_of_cw (args := [.agg #[.int .i64 a0.points, .slice A1 a0.readings.length c1], .slice A0 a1.length c0]) Try.func92 rfl rfl rfl rfl ?_
  have H := Hp.start w
  refine CW.seq fun K1 hK1 => ?_
  refine CW.region ?_
  refine LW.go rfl rfl (OW.box rfl fun b1 w1 N1 => ?_)
  replace H := H.new N1 N1.blk
  refine LW.go rfl rfl (OW.box rfl fun b0 w2 N2 => ?_)
  replace H := H.new N2 N2.blk
  refine LW.pure rfl rfl (RV.assign rfl) ?_
  refine LW.nil (hK1 _ _ ?_)
  refine CW.seq fun K2 hK2 => ?_
  refine CW.region ?_
  refine LW.pure rfl rfl (RV.makeFunc (fs := []) (cs := [.pointer (some ⟨b0, 0, none⟩), .pointer (some ⟨b1, 0, none⟩)]) rfl rfl) ?_
  refine LW.pure rfl rfl (RV.assign rfl) ?_
  refine LW.nil (hK2 _ _ ?_)
  refine CW.ret ?_
  exact ⟨_, ResOK.one rfl, b0, b1, rfl, H⟩
theorem stepB_ok {s : Survey} (hl : s.readings.length ≤ 1000000) (hr : ∀ r ∈ s.readings, InR (-r.rise)) {x : Int} (h : stepB s x = true) : StepOk s x := by
  unfold stepB at h
  simp only [Bool.and_eq_true, Bool.not_eq_true', decide_eq_false_iff_not, decide_eq_true_eq] at h
  refine ⟨by omega, by omega, by omega, by omega, hr⟩
abbrev wkB (s : Survey) (A1 : Option Addr) (c1 : Nat) (A0 : Option Addr) (n0 c0 : Nat) (b0 b1 b12 b3 b4 b6 b7 b8 : Nat) (z : Int) (v : Int × Int) : List Ck :=
  [.blk b0 39 [.slice A0 n0 c0], .blk b1 24 [.int .i64 s.points, .slice A1 s.readings.length c1], .blk b12 3 [.int .i64 v.2], .blk b3 24 [.int .i64 s.points, .slice A1 s.readings.length c1], .blk b4 3 [.int .i64 v.1], .blk b6 3 [.int .i64 0], .blk b7 3 [.int .i64 0], .blk b8 29 [.int .i64 z]]
set_option maxRecDepth 20000 in
set_option maxHeartbeats 1000000 in
theorem level_Walk_ok {a0 : Survey} {a1 : Int} {a2 : List Int} {A_a0_readings : Option Addr} {c_a0_readings : Nat} {A_a2 : Option Addr} {c_a2 : Nat} {w : World} {res : Int × Int × Int} (h_a0_readings : Sl w A_a0_readings c_a0_readings 4 (a0.readings.map encReading)) (h_a2 : Sl w A_a2 c_a2 1 (a2.map encN)) (F : level_Walk a0 a1 a2 = some res) : Calls Try.prog 59 #[.agg #[.int .i64 a0.points, .slice A_a0_readings a0.readings.length c_a0_readings], .int .i64 a1, .slice A_a2 a2.length c_a2] w (Rt w (.tuple #[.int .i64 res.1, .int .i64 res.2.1, .int .i64 res.2.2])) := by
  refine calls_of_cm (args := [.agg #[.int .i64 a0.points, .slice A_a0_readings a0.readings.length c_a0_readings], .int .i64 a1, .slice A_a2 a2.length c_a2]) Try.func59 rfl rfl rfl ?_
  have H := Hp.start w
  have R0 := H.ext
  unfold level_Walk at F
  refine CM.seq rfl fun K1 hK1 => ?_
  refine CW.region ?_
  refine LW.go rfl rfl (OW.box rfl fun b1 w1 N1 => ?_)
  replace H := H.new N1 N1.blk
  replace R0 := H.ext
  refine LW.go rfl rfl (OW.box rfl fun b2 w2 N2 => ?_)
  replace H := H.new N2 N2.blk
  replace R0 := H.ext
  refine LW.go rfl rfl (OW.alloc Tz3 fun b3 w3 N3 => ?_)
  replace H := H.new N3 N3.blk
  replace R0 := H.ext
  refine LW.go rfl rfl (OW.alloc Tz3 fun b4 w4 N4 => ?_)
  replace H := H.new N4 N4.blk
  replace R0 := H.ext
  refine LW.go rfl rfl (OW.alloc Tz29 fun b5 w5 N5 => ?_)
  replace H := H.new N5 N5.blk
  replace R0 := H.ext
  refine LW.nil (hK1 _ _ ?_)
  refine CM.seq rfl fun K2 hK2 => ?_
  refine CW.seq fun K3 hK3 => ?_
  obtain ⟨r2, hr2, F⟩ := bnd_some F
  refine CW.region ?_
  refine LW.pure rfl rfl (RV.loadA [.int .i64 a0.points, .slice A_a0_readings a0.readings.length c_a0_readings] Tk24 rfl (H.blk 4 rfl).cells rfl rfl) ?_
  refine LW.go rfl rfl (OW.call Tc25 rfl (level_Validate_ok (a0 := a0) (h_a0_readings.ext R0) hr2) ?_)
  rintro _ w6 ⟨rfl, E1⟩
  refine ⟨_, rfl, ?_⟩
  replace H := H.grow E1
  replace R0 := H.ext
  refine LW.pure rfl rfl (RV.assign rfl) ?_
  refine LW.nil (hK3 _ _ ?_)
  refine CW.seq fun K4 hK4 => ?_
  refine CW.region ?_
  refine LW.pure rfl rfl (RV.move rfl) ?_
  refine LW.pure rfl rfl (RV.nei rfl rfl) ?_
  refine LW.nil (hK4 _ _ ?_)
  by_cases hp1 : r2 = 0
  ·
    replace F := ite_y hp1 F
    have hq1 := dec_t hp1
    refine CW.condF rfl (not_f hq1) ?_
    refine CW.skip (hK2 _ _ ?_)
    refine CM.seq rfl fun K5 hK5 => ?_
    refine CW.seq fun K6 hK6 => ?_
    obtain ⟨hg1, F⟩ := gd_some F
    obtain ⟨r3, hr3, F⟩ := bnd_some F
    refine CW.region ?_
    refine LW.pure rfl rfl (RV.load1 Tk3 rfl (H.blk 3 rfl).cells rfl) ?_
    refine LW.pure rfl rfl (RV.fieldAddr Tf24_0 rfl) ?_
    refine LW.pure rfl rfl (RV.load1 Tk3 rfl ((H.blk 4 rfl).cells.off 0) rfl) ?_
    refine LW.pure rfl rfl (RV.sub rfl rfl hg1) ?_
    refine LW.go rfl rfl (OW.call Tc61 rfl (level_within_ok (a0 := a1) (a1 := (0 : Int)) (a2 := a0.points - 1) hr3) ?_)
    rintro _ w7 ⟨rfl, E2⟩
    refine ⟨_, rfl, ?_⟩
    replace H := H.grow E2
    replace R0 := H.ext
    refine LW.pure rfl rfl (RV.not rfl) ?_
    refine LW.nil (hK6 _ _ ?_)
    by_cases hp2 : r3 = true
    ·
      replace F := ite_y hp2 F
      have hq2 : r3 = true := hp2
      refine CW.condF rfl (not_f hq2) ?_
      refine CW.skip (hK5 _ _ ?_)
      refine CM.seq rfl fun K7 hK7 => ?_
      refine CW.seq fun K8 hK8 => ?_
      refine CW.region ?_
      refine LW.pure rfl rfl (RV.move rfl) ?_
      refine LW.pure rfl rfl (RV.len Ts39 rfl) ?_
      refine LW.pure rfl rfl (RV.gtr rfl rfl) ?_
      refine LW.nil (hK8 _ _ ?_)
      by_cases hp3 : (20 : Int) < ((a2.length : Int))
      ·
        replace F := ite_y hp3 F
        have hq3 := dec_t hp3
        refine CW.condT rfl hq3 ?_
        refine CW.seq fun K9 hK9 => ?_
        refine CW.region ?_
        refine LW.go rfl rfl (OW.store Tk3 rfl rfl (H.blk 2 rfl) (off := 0) (vs := [.int .i64 0]) rfl rfl rfl rfl rfl fun w8 S1 => ?_)
        replace H : Hp w w8 [.blk b5 29 [.int .i64 0], .blk b4 3 [.int .i64 0], .blk b3 3 [.int .i64 0], .blk b2 3 [.int .i64 a1], .blk b1 24 [.int .i64 a0.points, .slice A_a0_readings a0.readings.length c_a0_readings]] := H.stored 2 rfl S1
        replace R0 := H.ext
        refine LW.go rfl rfl (OW.store Tk3 rfl rfl (H.blk 1 rfl) (off := 0) (vs := [.int .i64 0]) rfl rfl rfl rfl rfl fun w9 S2 => ?_)
        replace H : Hp w w9 [.blk b5 29 [.int .i64 0], .blk b4 3 [.int .i64 0], .blk b3 3 [.int .i64 0], .blk b2 3 [.int .i64 a1], .blk b1 24 [.int .i64 a0.points, .slice A_a0_readings a0.readings.length c_a0_readings]] := H.stored 1 rfl S2
        replace R0 := H.ext
        refine LW.go rfl rfl (OW.store Tk29 rfl rfl (H.blk 0 rfl) (off := 0) (vs := [.int .i64 3]) rfl rfl rfl rfl rfl fun w10 S3 => ?_)
        replace H : Hp w w10 [.blk b5 29 [.int .i64 3], .blk b4 3 [.int .i64 0], .blk b3 3 [.int .i64 0], .blk b2 3 [.int .i64 a1], .blk b1 24 [.int .i64 a0.points, .slice A_a0_readings a0.readings.length c_a0_readings]] := H.stored 0 rfl S3
        replace R0 := H.ext
        refine LW.nil (hK9 _ _ ?_)
        refine CW.ret ?_
        obtain rfl := Option.some.inj F
        refine ⟨_, (ResOK.three ⟨_, rfl, run_loadVar_cell Tk3 ((H.blk 2 rfl).cells 0 _ rfl)⟩ ⟨_, rfl, run_loadVar_cell Tk3 ((H.blk 1 rfl).cells 0 _ rfl)⟩ ⟨_, rfl, run_loadVar_cell Tk29 ((H.blk 0 rfl).cells 0 _ rfl)⟩), ?_⟩
        refine ⟨(by first | rfl | simp), R0⟩
      ·
        replace F := ite_n hp3 F
        have hq3 := dec_f hp3
        refine CW.condF rfl hq3 ?_
        refine CW.skip (hK7 _ _ ?_)
        refine CM.seqJ rfl (fun ρ wl1 => (level_Walk_k1 a0 a1 a2 = some res ∧ ρ = [(2, .slice A_a2 a2.length c_a2), (3, .pointer (some (⟨b1, 0, none⟩))), (4, .pointer (some (⟨b2, 0, none⟩))), (6, .pointer (some (⟨b3, 0, none⟩))), (7, .pointer (some (⟨b4, 0, none⟩))), (8, .pointer (some (⟨b5, 0, none⟩)))] ∧ Hp w wl1 [.blk b1 24 [.int .i64 a0.points, .slice A_a0_readings a0.readings.length c_a0_readings], .blk b2 3 [.int .i64 a1], .blk b3 3 [.int .i64 0], .blk b4 3 [.int .i64 0], .blk b5 29 [.int .i64 0]])) ?_ ?_
        ·
          rintro _ wl1 ⟨F, rfl, H⟩
          have R0 := H.ext
          unfold level_Walk_k1 at F
          refine CM.seq rfl fun K10 hK10 => ?_
          obtain ⟨⟨hwl, hwa, hrl, hrr⟩, F⟩ := gd_some F
          refine CW.region ?_
          refine LW.go rfl rfl (OW.alloc Tz3 fun b12 w1 N1 => ?_)
          replace H := H.new N1 N1.blk
          refine LW.go rfl rfl (OW.store Tk3 rfl rfl (H.blk 0 rfl) (off := 0) (vs := [.int .i64 0]) rfl rfl rfl rfl rfl fun w2 S1 => ?_)
          replace H : Hp w w2 [.blk b12 3 [.int .i64 0], .blk b1 24 [.int .i64 a0.points, .slice A_a0_readings a0.readings.length c_a0_readings], .blk b2 3 [.int .i64 a1], .blk b3 3 [.int .i64 0], .blk b4 3 [.int .i64 0], .blk b5 29 [.int .i64 0]] := H.stored 0 rfl S1
          refine LW.nil (hK10 _ _ ?_)
          refine CM.seqA rfl fun K21 hK21 => ?_
          refine CW.region ?_
          refine LW.pure rfl rfl (RV.loadA [.int .i64 a0.points, .slice A_a0_readings a0.readings.length c_a0_readings] Tk24 rfl (H.blk 1 rfl).cells rfl rfl) ?_
          refine LW.pure rfl rfl (RV.move rfl) ?_
          refine LW.go rfl rfl (OW.call Tc92 rfl level_along_ok ?_)
          rintro _ w3 ⟨c0, c1, rfl, Hb⟩
          refine ⟨_, rfl, ?_⟩
          replace H : Hp w w3 (wkB a0 A_a0_readings c_a0_readings A_a2 a2.length c_a2 c0 c1 b12 b1 b2 b3 b4 b5 0 (a1, 0)) := H.append Hb
          refine LW.nil (hK21 _ _ ?_)
          refine CB.range (V := Int × Int) (Vx := Int × Int) (Va := (Int × Int) × Int × Nat) rfl (gf := 108) (lb := #[.pointer (some ⟨c0, 0, none⟩), .pointer (some ⟨c1, 0, none⟩)]) rfl (fun _ _ => rfl)
            (xs := alongX a0 a2) ?_ ?_ (along_iter (b0 := c0) (b1 := c1) (A0 := A_a2) (c0 := c_a2) (A1 := A_a0_readings) (c1 := c_a0_readings) hwl fun x hx => stepB_ok hrl hrr (List.all_eq_true.1 hwa x hx))
            (fun i v => walkL a0 v.1 v.2 (a2.drop i) = some res) (wkB a0 A_a0_readings c_a0_readings A_a2 a2.length c_a2 c0 c1 b12 b1 b2 b3 b4 b5 0)
            (fun i va ρ' => ∃ l, a2.drop i = va.2.1 :: l ∧ walkL a0 va.1.1 va.1.2 (va.2.1 :: l) = some res ∧ a2.drop (i + 1) = l ∧ Sub [(4, .pointer (some ⟨b2, 0, none⟩)), (6, .pointer (some ⟨b3, 0, none⟩)), (7, .pointer (some ⟨b4, 0, none⟩)), (8, .pointer (some ⟨b5, 0, none⟩)), (12, .pointer (some ⟨b12, 0, none⟩)), (13, .pointer (some ⟨va.2.2, 0, none⟩))] ρ')
            (fun va => .blk va.2.2 46 [.int .i64 (goneR a0 va.2.1).from_, .int .i64 (goneR a0 va.2.1).to_, .int .i64 (goneR a0 va.2.1).rise, .int .i64 (goneR a0 va.2.1).weight] :: wkB a0 A_a0_readings c_a0_readings A_a2 a2.length c_a2 c0 c1 b12 b1 b2 b3 b4 b5 0 va.1)
            (fun _ => ((0 : Int), (0 : Int), (9 : Int)) = res) (wkB a0 A_a0_readings c_a0_readings A_a2 a2.length c_a2 c0 c1 b12 b1 b2 b3 b4 b5 9)
            ?_ (a1, 0) F H ?_ ?_ ?_ ?_
          · intro x hx
            obtain ⟨y, _, rfl⟩ := List.mem_map.1 hx
            rfl
          · decide
          · intro i v W X hv HW
            exact ⟨h_a2.ext HW.ext, (HW.blk 0 rfl).cells, h_a0_readings.ext HW.ext, (HW.blk 1 rfl).cells⟩
          · intro r i v W X x hv hx HW
            rw [show (alongX a0 a2)[i]? = (a2[i]?).map fun x => #[aggR (goneR a0 x)] from List.getElem?_map] at hx
            obtain ⟨y, hy, rfl⟩ := Option.map_eq_some_iff.1 hx
            have hd : a2.drop i = y :: a2.drop (i + 1) := by
              obtain ⟨hlt, rfl⟩ := List.getElem?_eq_some_iff.1 hy
              exact List.drop_eq_getElem_cons hlt
            refine CR.region (fun _ _ h => by cases h.1) rfl ?_
            refine LW.go rfl rfl (OW.alloc Tz46 fun b13 w4 N4 => ?_)
            replace HW := HW.new N4 N4.blk
            refine LW.go rfl rfl (OW.store Tk46 rfl rfl (HW.blk 0 rfl) (off := 0) (vs := [.int .i64 (goneR a0 y).from_, .int .i64 (goneR a0 y).to_, .int .i64 (goneR a0 y).rise, .int .i64 (goneR a0 y).weight]) rfl rfl rfl rfl rfl fun w5 S2 => ?_)
            replace HW := HW.stored 0 rfl S2
            refine LW.nil ⟨rfl, (v, y, b13), ⟨_, hd, hd ▸ hv, rfl, ?_⟩, HW⟩
            exact ⟨rfl, rfl, rfl, rfl, rfl, rfl, trivial⟩
          · rintro r i ⟨⟨at_, rise⟩, y, b13⟩ ρ' W X ⟨l, hd, hv, hd1, hsub⟩ HW
            refine CR.sub _ hsub ?_
            refine CR.block ?_
            refine CR.seq fun K31 hK31 => ?_
            refine CR.seq fun K32 hK32 => ?_
            refine CR.region (fun _ _ h => h) rfl ?_
            refine LW.pure rfl rfl (RV.fieldAddr Tf46_0 rfl) ?_
            refine LW.pure rfl rfl (RV.load1 Tk3 rfl ((HW.blk 0 rfl).cells.off 0) rfl) ?_
            refine LW.pure rfl rfl (RV.load1 Tk3 rfl (HW.blk 5 rfl).cells rfl) ?_
            refine LW.pure rfl rfl (RV.nei rfl rfl) ?_
            refine LW.nil (hK32 _ _ ?_)
            unfold walkL at hv
            by_cases hp : (goneR a0 y).from_ = at_
            · replace hv := ite_y hp hv
              have hq := dec_t hp
              obtain ⟨hg, hv⟩ := gd_some hv
              refine CR.condF rfl (not_f hq) ?_
              refine CR.skip (hK31 _ _ ?_)
              have H0 := HW
              refine CR.draw (fun _ _ h => h) rfl [6, 7] (XB W (.blk b13 46 [.int .i64 (goneR a0 y).from_, .int .i64 (goneR a0 y).to_, .int .i64 (goneR a0 y).rise, .int .i64 (goneR a0 y).weight] :: (wkB a0 A_a0_readings c_a0_readings A_a2 a2.length c_a2 c0 c1 b12 b1 b2 b3 b4 b5 0 (at_, rise) ++ [X])) [5, 3]) (.cons 0 1 (.cons 1 1 (.cons 3 2 (.cons 4 2 (.alt 2 (.cons 5 2 (.cons 6 0 (.cons 7 0 .nil))) (.cons 6 0 (.cons 2 0 (.cons 5 2 (.cons 7 0 .nil))))))))) mixed (by kernel_rfl) fun w8 E2 => ?_
              replace HW := HW.grow E2
              refine DW.fix rfl rfl rfl (fun _ EQ => RV.fieldAddr Tf46_1 rfl) ?_
              refine DW.fix rfl rfl rfl (fun _ EQ => RV.load1 Tk3 rfl (((HW.grow EQ).blk 0 rfl).cells.off 1) rfl) ?_
              refine DW.thru rfl rfl rfl (fun _ EQ => RV.fieldAddr Tf46_2 rfl) ?_
              refine DW.thru rfl rfl rfl (fun _ EQ => RV.load1 Tk3 rfl ((HW.thruB 0 rfl EQ (H0.notX [5, 3] 0 rfl (by decide))).cells.off 2) rfl) ?_
              refine DW.alt ?_ ?_
              ·
                refine DW.sole rfl rfl rfl (OW.value (RV.load1 Tk3 rfl (HW.blk 3 rfl).cells rfl) ⟨fun _ => Ext.refl _, ModX.refl _ _, ?_⟩)
                refine DW.thru rfl rfl rfl (fun _ EQ => RV.add rfl rfl hg) ?_
                refine DW.sole rfl rfl rfl (OW.store Tk3 rfl rfl (HW.blk 5 rfl) (off := 0) (vs := [.int .i64 (goneR a0 y).to_]) rfl rfl rfl rfl rfl fun w9 S3 => ?_)
                refine ⟨fun h => absurd h (by decide), S3.modx (XB.in_ 5 (by decide) rfl (List.mem_singleton.2 rfl)), ?_⟩
                replace HW : Hp w w9 (.blk b13 46 [.int .i64 (goneR a0 y).from_, .int .i64 (goneR a0 y).to_, .int .i64 (goneR a0 y).rise, .int .i64 (goneR a0 y).weight] :: (wkB a0 A_a0_readings c_a0_readings A_a2 a2.length c_a2 c0 c1 b12 b1 b2 b3 b4 b5 0 ((goneR a0 y).to_, rise) ++ [X])) := HW.stored 5 rfl S3
                refine DW.sole rfl rfl rfl (OW.store Tk3 rfl rfl (HW.blk 3 rfl) (off := 0) (vs := [.int .i64 (rise + (goneR a0 y).rise)]) rfl rfl rfl rfl rfl fun w10 S4 => ?_)
                refine ⟨fun h => absurd h (by decide), S4.modx (XB.in_ 3 (by decide) rfl (List.mem_singleton.2 rfl)), ?_⟩
                replace HW : Hp w w10 (.blk b13 46 [.int .i64 (goneR a0 y).from_, .int .i64 (goneR a0 y).to_, .int .i64 (goneR a0 y).rise, .int .i64 (goneR a0 y).weight] :: (wkB a0 A_a0_readings c_a0_readings A_a2 a2.length c_a2 c0 c1 b12 b1 b2 b3 b4 b5 0 ((goneR a0 y).to_, rise + (goneR a0 y).rise) ++ [X])) := HW.stored 3 rfl S4
                refine DW.nil ?_
                exact ⟨((goneR a0 y).to_, rise + (goneR a0 y).rise), by subst hd1; exact hv, HW.erase 0⟩
              ·
                refine DW.sole rfl rfl rfl (OW.store Tk3 rfl rfl (HW.blk 5 rfl) (off := 0) (vs := [.int .i64 (goneR a0 y).to_]) rfl rfl rfl rfl rfl fun w9 S3 => ?_)
                refine ⟨fun h => absurd h (by decide), S3.modx (XB.in_ 5 (by decide) rfl (List.mem_singleton.2 rfl)), ?_⟩
                replace HW : Hp w w9 (.blk b13 46 [.int .i64 (goneR a0 y).from_, .int .i64 (goneR a0 y).to_, .int .i64 (goneR a0 y).rise, .int .i64 (goneR a0 y).weight] :: (wkB a0 A_a0_readings c_a0_readings A_a2 a2.length c_a2 c0 c1 b12 b1 b2 b3 b4 b5 0 ((goneR a0 y).to_, rise) ++ [X])) := HW.stored 5 rfl S3
                refine DW.sole rfl rfl rfl (OW.value (RV.load1 Tk3 rfl (HW.blk 3 rfl).cells rfl) ⟨fun _ => Ext.refl _, ModX.refl _ _, ?_⟩)
                refine DW.thru rfl rfl rfl (fun _ EQ => RV.add rfl rfl hg) ?_
                refine DW.sole rfl rfl rfl (OW.store Tk3 rfl rfl (HW.blk 3 rfl) (off := 0) (vs := [.int .i64 (rise + (goneR a0 y).rise)]) rfl rfl rfl rfl rfl fun w10 S4 => ?_)
                refine ⟨fun h => absurd h (by decide), S4.modx (XB.in_ 3 (by decide) rfl (List.mem_singleton.2 rfl)), ?_⟩
                replace HW : Hp w w10 (.blk b13 46 [.int .i64 (goneR a0 y).from_, .int .i64 (goneR a0 y).to_, .int .i64 (goneR a0 y).rise, .int .i64 (goneR a0 y).weight] :: (wkB a0 A_a0_readings c_a0_readings A_a2 a2.length c_a2 c0 c1 b12 b1 b2 b3 b4 b5 0 ((goneR a0 y).to_, rise + (goneR a0 y).rise) ++ [X])) := HW.stored 3 rfl S4
                refine DW.nil ?_
                exact ⟨((goneR a0 y).to_, rise + (goneR a0 y).rise), by subst hd1; exact hv, HW.erase 0⟩
            · replace hv := ite_n hp hv
              have hq := dec_f hp
              refine CR.condT rfl (not_t hq) ?_
              refine CR.seq fun K33 hK33 => ?_
              refine CR.region (fun _ _ h => h) rfl ?_
              refine LW.go rfl rfl (OW.store Tk3 rfl rfl (HW.blk 6 rfl) (off := 0) (vs := [.int .i64 0]) rfl rfl rfl rfl rfl fun w8 S3 => ?_)
              replace HW : Hp w w8 (.blk b13 46 [.int .i64 (goneR a0 y).from_, .int .i64 (goneR a0 y).to_, .int .i64 (goneR a0 y).rise, .int .i64 (goneR a0 y).weight] :: (wkB a0 A_a0_readings c_a0_readings A_a2 a2.length c_a2 c0 c1 b12 b1 b2 b3 b4 b5 0 (at_, rise) ++ [X])) := HW.stored 6 rfl S3
              refine LW.go rfl rfl (OW.store Tk3 rfl rfl (HW.blk 7 rfl) (off := 0) (vs := [.int .i64 0]) rfl rfl rfl rfl rfl fun w9 S4 => ?_)
              replace HW : Hp w w9 (.blk b13 46 [.int .i64 (goneR a0 y).from_, .int .i64 (goneR a0 y).to_, .int .i64 (goneR a0 y).rise, .int .i64 (goneR a0 y).weight] :: (wkB a0 A_a0_readings c_a0_readings A_a2 a2.length c_a2 c0 c1 b12 b1 b2 b3 b4 b5 0 (at_, rise) ++ [X])) := HW.stored 7 rfl S4
              refine LW.go rfl rfl (OW.store Tk29 rfl rfl (HW.blk 8 rfl) (off := 0) (vs := [.int .i64 9]) rfl rfl rfl rfl rfl fun w10 S5 => ?_)
              replace HW : Hp w w10 (.blk b13 46 [.int .i64 (goneR a0 y).from_, .int .i64 (goneR a0 y).to_, .int .i64 (goneR a0 y).rise, .int .i64 (goneR a0 y).weight] :: (wkB a0 A_a0_readings c_a0_readings A_a2 a2.length c_a2 c0 c1 b12 b1 b2 b3 b4 b5 9 (at_, rise) ++ [X])) := HW.stored 8 rfl S5
              refine LW.nil (hK33 _ _ ?_)
              refine CR.ret ?_
              exact ⟨(at_, rise), Option.some.inj hv, HW.erase 0⟩
          · rintro D ⟨at_, rise⟩ W hv HW
            have hl : a2.drop (alongX a0 a2).length = [] := by
              rw [show (alongX a0 a2).length = a2.length from List.length_map ..]
              exact List.drop_length
            rw [hl] at hv
            have hv' : some (at_, rise, (0 : Int)) = some res := hv
            obtain rfl := Option.some.inj hv'
            refine CWD.seq ?_
            have H0 := HW
            refine CWD.draw rfl [2, 3, 4] (XB W (wkB a0 A_a0_readings c_a0_readings A_a2 a2.length c_a2 c0 c1 b12 b1 b2 b3 b4 b5 0 (at_, rise) ++ [dck D]) [5, 6, 7]) (.cons 0 1 (.cons 1 2 (.cons 2 0 (.cons 3 0 (.cons 4 0 .nil))))) mixed (by kernel_rfl) fun w8 E2 => ?_
            replace HW := HW.grow E2
            refine DW.fix rfl rfl rfl (fun _ EQ => RV.load1 Tk3 rfl ((HW.grow EQ).blk 4 rfl).cells rfl) ?_
            refine DW.thru rfl rfl rfl (fun _ EQ => RV.load1 Tk3 rfl (HW.thruB 2 rfl EQ (H0.notX [5, 6, 7] 2 rfl (by decide))).cells rfl) ?_
            refine DW.sole rfl rfl rfl (OW.store Tk3 rfl rfl (HW.blk 5 rfl) (off := 0) (vs := [.int .i64 at_]) rfl rfl rfl rfl rfl fun w9 S3 => ?_)
            refine ⟨fun h => absurd h (by decide), S3.modx (XB.in_ 5 (by decide) rfl (List.mem_singleton.2 rfl)), ?_⟩
            replace HW := HW.stored 5 rfl S3
            refine DW.sole rfl rfl rfl (OW.store Tk3 rfl rfl (HW.blk 6 rfl) (off := 0) (vs := [.int .i64 rise]) rfl rfl rfl rfl rfl fun w10 S4 => ?_)
            refine ⟨fun h => absurd h (by decide), S4.modx (XB.in_ 6 (by decide) rfl (List.mem_singleton.2 rfl)), ?_⟩
            replace HW := HW.stored 6 rfl S4
            refine DW.sole rfl rfl rfl (OW.store Tk29 rfl rfl (HW.blk 7 rfl) (off := 0) (vs := [.int .i64 0]) rfl rfl rfl rfl rfl fun w11 S5 => ?_)
            refine ⟨fun h => absurd h (by decide), S5.modx (XB.in_ 7 (by decide) rfl (List.mem_singleton.2 rfl)), ?_⟩
            replace HW : Hp w w11 ([.blk c0 39 [.slice A_a2 a2.length c_a2], .blk c1 24 [.int .i64 a0.points, .slice A_a0_readings a0.readings.length c_a0_readings], .blk b12 3 [.int .i64 rise], .blk b1 24 [.int .i64 a0.points, .slice A_a0_readings a0.readings.length c_a0_readings], .blk b2 3 [.int .i64 at_], .blk b3 3 [.int .i64 at_], .blk b4 3 [.int .i64 rise], .blk b5 29 [.int .i64 0]] ++ [dck D]) := HW.stored 7 rfl S5
            refine DW.nil ?_
            refine CWD.ret ?_
            obtain ⟨hD, HW⟩ := dck_take HW
            refine ⟨hD, _, ResOK.three ⟨_, rfl, run_loadVar_cell Tk3 ((HW.blk 5 rfl).cells 0 _ rfl)⟩ ⟨_, rfl, run_loadVar_cell Tk3 ((HW.blk 6 rfl).cells 0 _ rfl)⟩ ⟨_, rfl, run_loadVar_cell Tk29 ((HW.blk 7 rfl).cells 0 _ rfl)⟩, ?_⟩
            exact ⟨rfl, HW.ext⟩
          · rintro D ⟨at_, rise⟩ W hv HW
            subst hv
            obtain ⟨hD, HW⟩ := dck_take HW
            refine ⟨hD, _, ResOK.three ⟨_, rfl, run_loadVar_cell Tk3 ((HW.blk 5 rfl).cells 0 _ rfl)⟩ ⟨_, rfl, run_loadVar_cell Tk3 ((HW.blk 6 rfl).cells 0 _ rfl)⟩ ⟨_, rfl, run_loadVar_cell Tk29 ((HW.blk 7 rfl).cells 0 _ rfl)⟩, ?_⟩
            exact ⟨rfl, HW.ext⟩
        ·
          intro K11 hK11 jK81
          refine CW.seq fun K12 hK12 => ?_
          refine CW.region ?_
          refine LW.pure rfl rfl (RV.move rfl) ?_
          refine LW.pure rfl rfl (RV.len Ts39 rfl) ?_
          refine LW.pure rfl rfl (RV.move rfl) ?_
          refine LW.nil (hK12 _ _ ?_)
          refine CW.block ?_
          replace H := H.pick (L' := [.blk b1 24 [.int .i64 a0.points, .slice A_a0_readings a0.readings.length c_a0_readings], .blk b2 3 [.int .i64 a1], .blk b3 3 [.int .i64 0], .blk b4 3 [.int .i64 0], .blk b5 29 [.int .i64 0]]) [4, 3, 2, 1, 0] (by decide) rfl
          replace R0 := H.ext
          refine CW.loop (fun meas ρ wl2 => ∃ (t30_1 : Int), level_Walk_L1 a0 a1 a2 meas t30_1 = some res ∧ ρ = [(2, .slice A_a2 a2.length c_a2), (3, .pointer (some (⟨b1, 0, none⟩))), (4, .pointer (some (⟨b2, 0, none⟩))), (6, .pointer (some (⟨b3, 0, none⟩))), (7, .pointer (some (⟨b4, 0, none⟩))), (8, .pointer (some (⟨b5, 0, none⟩))), (28, .slice A_a2 a2.length c_a2), (29, .int .i64 ((a2.length : Int))), (30, .int .i64 t30_1)] ∧ Hp w wl2 [.blk b1 24 [.int .i64 a0.points, .slice A_a0_readings a0.readings.length c_a0_readings], .blk b2 3 [.int .i64 a1], .blk b3 3 [.int .i64 0], .blk b4 3 [.int .i64 0], .blk b5 29 [.int .i64 0]]) FU ⟨_, ?_, ((0 : Int)), F, rfl, H⟩ ?_
          · exact ⟨rfl, rfl, rfl, rfl, rfl, rfl, rfl, rfl, rfl, trivial⟩
          rintro mk1 _ wl2 ⟨t30_1, F, rfl, H⟩
          have R0 := H.ext
          replace F := level_Walk_L1_s F
          obtain ⟨mk1, rfl, F⟩ := F
          generalize hrec1 : level_Walk_L1 a0 a1 a2 mk1 = rec1 at F
          unfold level_Walk_B1 at F
          refine CW.seq fun K13 hK13 => ?_
          refine CW.region ?_
          refine LW.pure rfl rfl (RV.lss rfl rfl) ?_
          refine LW.nil (hK13 _ _ ?_)
          refine CW.seq fun K14 hK14 => ?_
          by_cases hp4 : t30_1 < ((a2.length : Int))
          ·
            replace F := ite_y hp4 F
            have hq4 := dec_t hp4
            refine CW.condT rfl hq4 ?_
            refine CW.skip (hK14 _ _ ?_)
            refine CW.seq fun K15 hK15 => ?_
            refine CW.block ?_
            refine CW.seq fun K16 hK16 => ?_
            obtain ⟨x1, hbx1, hx1, F⟩ := ix_some F
            refine CW.region ?_
            refine LW.pure rfl rfl (RV.indexAddr Ts39 rfl rfl hbx1 (h_a2.addr_ hx1)) ?_
            refine LW.pure rfl rfl (RV.load1 Tk3 rfl ((h_a2.at_ hx1).ext R0) rfl) ?_
            refine LW.pure rfl rfl (RV.assign rfl) ?_
            refine LW.nil (hK16 _ _ ?_)
            refine CW.seqJ (fun ρ wl3 => (∃ (t47_1 : Bool), level_Walk_k2 t30_1 rec1 t47_1 = some res ∧ ρ = [(2, .slice A_a2 a2.length c_a2), (3, .pointer (some (⟨b1, 0, none⟩))), (4, .pointer (some (⟨b2, 0, none⟩))), (6, .pointer (some (⟨b3, 0, none⟩))), (7, .pointer (some (⟨b4, 0, none⟩))), (8, .pointer (some (⟨b5, 0, none⟩))), (28, .slice A_a2 a2.length c_a2), (29, .int .i64 ((a2.length : Int))), (30, .int .i64 t30_1), (47, .bool t47_1)] ∧ Hp w wl3 [.blk b1 24 [.int .i64 a0.points, .slice A_a0_readings a0.readings.length c_a0_readings], .blk b2 3 [.int .i64 a1], .blk b3 3 [.int .i64 0], .blk b4 3 [.int .i64 0], .blk b5 29 [.int .i64 0]])) ?_ ?_
            ·
              rintro _ wl3 ⟨t47_1, F, rfl, H⟩
              have R0 := H.ext
              unfold level_Walk_k2 at F
              by_cases hp5 : t47_1 = true
              ·
                replace F := ite_y hp5 F
                have hq5 : t47_1 = true := hp5
                refine CW.condT rfl hq5 ?_
                refine CW.seq fun K17 hK17 => ?_
                refine CW.region ?_
                refine LW.go rfl rfl (OW.store Tk3 rfl rfl (H.blk 2 rfl) (off := 0) (vs := [.int .i64 0]) rfl rfl rfl rfl rfl fun w11 S4 => ?_)
                replace H : Hp w w11 [.blk b1 24 [.int .i64 a0.points, .slice A_a0_readings a0.readings.length c_a0_readings], .blk b2 3 [.int .i64 a1], .blk b3 3 [.int .i64 0], .blk b4 3 [.int .i64 0], .blk b5 29 [.int .i64 0]] := H.stored 2 rfl S4
                replace R0 := H.ext
                refine LW.go rfl rfl (OW.store Tk3 rfl rfl (H.blk 3 rfl) (off := 0) (vs := [.int .i64 0]) rfl rfl rfl rfl rfl fun w12 S5 => ?_)
                replace H : Hp w w12 [.blk b1 24 [.int .i64 a0.points, .slice A_a0_readings a0.readings.length c_a0_readings], .blk b2 3 [.int .i64 a1], .blk b3 3 [.int .i64 0], .blk b4 3 [.int .i64 0], .blk b5 29 [.int .i64 0]] := H.stored 3 rfl S5
                replace R0 := H.ext
                refine LW.go rfl rfl (OW.store Tk29 rfl rfl (H.blk 4 rfl) (off := 0) (vs := [.int .i64 4]) rfl rfl rfl rfl rfl fun w13 S6 => ?_)
                replace H : Hp w w13 [.blk b1 24 [.int .i64 a0.points, .slice A_a0_readings a0.readings.length c_a0_readings], .blk b2 3 [.int .i64 a1], .blk b3 3 [.int .i64 0], .blk b4 3 [.int .i64 0], .blk b5 29 [.int .i64 4]] := H.stored 4 rfl S6
                replace R0 := H.ext
                refine LW.nil (hK17 _ _ ?_)
                refine CW.ret ?_
                obtain rfl := Option.some.inj F
                refine ⟨_, (ResOK.three ⟨_, rfl, run_loadVar_cell Tk3 ((H.blk 2 rfl).cells 0 _ rfl)⟩ ⟨_, rfl, run_loadVar_cell Tk3 ((H.blk 3 rfl).cells 0 _ rfl)⟩ ⟨_, rfl, run_loadVar_cell Tk29 ((H.blk 4 rfl).cells 0 _ rfl)⟩), ?_⟩
                refine ⟨(by first | rfl | simp), R0⟩
              ·
                replace F := ite_n hp5 F
                have hq5 : t47_1 = false := raw_f hp5
                refine CW.condF rfl hq5 ?_
                refine CW.skip (hK15 _ _ ?_)
                obtain ⟨hg2, F⟩ := gd_some F
                refine CW.region ?_
                refine LW.pure rfl rfl (RV.add rfl rfl hg2) ?_
                refine LW.pure rfl rfl (RV.move rfl) ?_
                refine LW.nil ?_
                subst hrec1
                refine ⟨mk1, Nat.lt_succ_self _, _, ?_, (t30_1 + 1), F, rfl, H⟩
                exact ⟨rfl, rfl, rfl, rfl, rfl, rfl, rfl, rfl, rfl, trivial⟩
            ·
              intro K18 hK18 jK100
              by_cases hp6 : x1 = 0
              ·
                replace F := ite_y hp6 F
                have hq6 := dec_t hp6
                refine CW.region ?_
                refine LW.pure rfl rfl (RV.move rfl) ?_
                refine LW.pure rfl rfl (RV.eqi rfl rfl) ?_
                refine LW.pure rfl rfl (RV.move rfl) ?_
                refine LW.noB rfl rfl rfl rfl (ne_beq (v := true) hq6 rfl) ?_
                refine LW.noB rfl rfl rfl rfl (ne_beq (v := true) hq6 rfl) ?_
                refine LW.noB rfl rfl rfl rfl (ne_beq (v := true) hq6 rfl) ?_
                refine LW.noB rfl rfl rfl rfl (ne_beq (v := true) hq6 rfl) ?_
                refine LW.noB rfl rfl rfl rfl (ne_beq (v := true) hq6 rfl) ?_
                refine LW.noB rfl rfl rfl rfl (ne_beq (v := true) hq6 rfl) ?_
                refine LW.noB rfl rfl rfl rfl (ne_beq (v := true) hq6 rfl) ?_
                refine LW.noB rfl rfl rfl rfl (ne_beq (v := true) hq6 rfl) ?_
                refine LW.noB rfl rfl rfl rfl (ne_beq (v := true) hq6 rfl) ?_
                refine LW.noB rfl rfl rfl rfl (ne_beq (v := true) hq6 rfl) ?_
                refine LW.pure rfl rfl (RV.pickTB rfl hq6 rfl) ?_
                refine LW.nil (jK100 _ _ ⟨_, ?_, ⟨true, F, rfl, H⟩⟩)
                exact ⟨rfl, rfl, rfl, rfl, rfl, rfl, rfl, rfl, rfl, rfl, trivial⟩
              ·
                replace F := ite_n hp6 F
                have hq6 := dec_f hp6
                obtain ⟨hg3, F⟩ := gd_some F
                obtain ⟨r1, hr1, F⟩ := bnd_some F
                refine CW.region ?_
                refine LW.pure rfl rfl (RV.move rfl) ?_
                refine LW.pure rfl rfl (RV.eqi rfl rfl) ?_
                refine LW.pure rfl rfl (RV.move rfl) ?_
                refine LW.pureYB rfl rfl rfl rfl hq6 (RV.move rfl) ?_
                refine LW.pureYB rfl rfl rfl rfl hq6 (RV.fieldAddr Tf24_1 rfl) ?_
                refine LW.pureYB rfl rfl rfl rfl hq6 (RV.load1 Tk22 rfl ((H.blk 0 rfl).cells.off 1) rfl) ?_
                refine LW.pureYB rfl rfl rfl rfl hq6 (RV.len Ts22 rfl) ?_
                refine LW.pureYB rfl rfl rfl rfl hq6 (RV.neg rfl hg3) ?_
                refine LW.pureYB rfl rfl rfl rfl hq6 (RV.fieldAddr Tf24_1 rfl) ?_
                refine LW.pureYB rfl rfl rfl rfl hq6 (RV.load1 Tk22 rfl ((H.blk 0 rfl).cells.off 1) rfl) ?_
                refine LW.pureYB rfl rfl rfl rfl hq6 (RV.len Ts22 rfl) ?_
                refine LW.yesB rfl rfl rfl rfl hq6 (OW.call Tc61 rfl (level_within_ok (a0 := x1) (a1 := -((a0.readings.length : Int))) (a2 := (a0.readings.length : Int)) hr1) ?_)
                rintro _ w14 ⟨rfl, E3⟩
                refine ⟨_, rfl, ?_⟩
                replace H := H.grow E3
                replace R0 := H.ext
                refine LW.pureYB rfl rfl rfl rfl hq6 (RV.not rfl) ?_
                refine LW.pure rfl rfl (RV.pickFB rfl hq6 rfl) ?_
                refine LW.nil (jK100 _ _ ⟨_, ?_, ⟨(!r1), F, rfl, H⟩⟩)
                exact ⟨rfl, rfl, rfl, rfl, rfl, rfl, rfl, rfl, rfl, rfl, trivial⟩
          ·
            replace F := ite_n hp4 F
            have hq4 := dec_f hp4
            refine CW.condF rfl hq4 ?_
            refine CW.exit (jK81 _ _ ⟨_, ?_, ⟨F, rfl, H⟩⟩)
            exact ⟨rfl, rfl, rfl, rfl, rfl, rfl, trivial⟩
    ·
      replace F := ite_n hp2 F
      have hq2 : r3 = false := raw_f hp2
      refine CW.condT rfl (not_t hq2) ?_
      refine CW.seq fun K19 hK19 => ?_
      refine CW.region ?_
      refine LW.go rfl rfl (OW.store Tk3 rfl rfl (H.blk 2 rfl) (off := 0) (vs := [.int .i64 0]) rfl rfl rfl rfl rfl fun w15 S7 => ?_)
      replace H : Hp w w15 [.blk b5 29 [.int .i64 0], .blk b4 3 [.int .i64 0], .blk b3 3 [.int .i64 0], .blk b2 3 [.int .i64 a1], .blk b1 24 [.int .i64 a0.points, .slice A_a0_readings a0.readings.length c_a0_readings]] := H.stored 2 rfl S7
      replace R0 := H.ext
      refine LW.go rfl rfl (OW.store Tk3 rfl rfl (H.blk 1 rfl) (off := 0) (vs := [.int .i64 0]) rfl rfl rfl rfl rfl fun w16 S8 => ?_)
      replace H : Hp w w16 [.blk b5 29 [.int .i64 0], .blk b4 3 [.int .i64 0], .blk b3 3 [.int .i64 0], .blk b2 3 [.int .i64 a1], .blk b1 24 [.int .i64 a0.points, .slice A_a0_readings a0.readings.length c_a0_readings]] := H.stored 1 rfl S8
      replace R0 := H.ext
      refine LW.go rfl rfl (OW.store Tk29 rfl rfl (H.blk 0 rfl) (off := 0) (vs := [.int .i64 4]) rfl rfl rfl rfl rfl fun w17 S9 => ?_)
      replace H : Hp w w17 [.blk b5 29 [.int .i64 4], .blk b4 3 [.int .i64 0], .blk b3 3 [.int .i64 0], .blk b2 3 [.int .i64 a1], .blk b1 24 [.int .i64 a0.points, .slice A_a0_readings a0.readings.length c_a0_readings]] := H.stored 0 rfl S9
      replace R0 := H.ext
      refine LW.nil (hK19 _ _ ?_)
      refine CW.ret ?_
      obtain rfl := Option.some.inj F
      refine ⟨_, (ResOK.three ⟨_, rfl, run_loadVar_cell Tk3 ((H.blk 2 rfl).cells 0 _ rfl)⟩ ⟨_, rfl, run_loadVar_cell Tk3 ((H.blk 1 rfl).cells 0 _ rfl)⟩ ⟨_, rfl, run_loadVar_cell Tk29 ((H.blk 0 rfl).cells 0 _ rfl)⟩), ?_⟩
      refine ⟨(by first | rfl | simp), R0⟩
  ·
    replace F := ite_n hp1 F
    have hq1 := dec_f hp1
    refine CW.condT rfl (not_t hq1) ?_
    refine CW.seq fun K20 hK20 => ?_
    refine CW.region ?_
    refine LW.pure rfl rfl (RV.move rfl) ?_
    refine LW.go rfl rfl (OW.store Tk3 rfl rfl (H.blk 2 rfl) (off := 0) (vs := [.int .i64 0]) rfl rfl rfl rfl rfl fun w18 S10 => ?_)
    replace H : Hp w w18 [.blk b5 29 [.int .i64 0], .blk b4 3 [.int .i64 0], .blk b3 3 [.int .i64 0], .blk b2 3 [.int .i64 a1], .blk b1 24 [.int .i64 a0.points, .slice A_a0_readings a0.readings.length c_a0_readings]] := H.stored 2 rfl S10
    replace R0 := H.ext
    refine LW.go rfl rfl (OW.store Tk3 rfl rfl (H.blk 1 rfl) (off := 0) (vs := [.int .i64 0]) rfl rfl rfl rfl rfl fun w19 S11 => ?_)
    replace H : Hp w w19 [.blk b5 29 [.int .i64 0], .blk b4 3 [.int .i64 0], .blk b3 3 [.int .i64 0], .blk b2 3 [.int .i64 a1], .blk b1 24 [.int .i64 a0.points, .slice A_a0_readings a0.readings.length c_a0_readings]] := H.stored 1 rfl S11
    replace R0 := H.ext
    refine LW.go rfl rfl (OW.store Tk29 rfl rfl (H.blk 0 rfl) (off := 0) (vs := [.int .i64 r2]) rfl rfl rfl rfl rfl fun w20 S12 => ?_)
    replace H : Hp w w20 [.blk b5 29 [.int .i64 r2], .blk b4 3 [.int .i64 0], .blk b3 3 [.int .i64 0], .blk b2 3 [.int .i64 a1], .blk b1 24 [.int .i64 a0.points, .slice A_a0_readings a0.readings.length c_a0_readings]] := H.stored 0 rfl S12
    replace R0 := H.ext
    refine LW.nil (hK20 _ _ ?_)
    refine CW.ret ?_
    obtain rfl := Option.some.inj F
    refine ⟨_, (ResOK.three ⟨_, rfl, run_loadVar_cell Tk3 ((H.blk 2 rfl).cells 0 _ rfl)⟩ ⟨_, rfl, run_loadVar_cell Tk3 ((H.blk 1 rfl).cells 0 _ rfl)⟩ ⟨_, rfl, run_loadVar_cell Tk29 ((H.blk 0 rfl).cells 0 _ rfl)⟩), ?_⟩
    refine ⟨(by first | rfl | simp), R0⟩
end Go.D1

set_option linter.unusedVariables false
namespace Go.D1
open Go.Tb
def law01_LevelWalks_k1 (a0 : Survey) (a1 : Int) (r1 : Int × Int × Int) (t51_1 : Bool) : Option Bool :=
  if t51_1 = true then
    some false
  else
    bnd (level_IsTrue a0) fun r2 =>
    if r1.2.2 = 0 then
      if r2.2 = 0 then
        if r2.1 = true then
          if r1.1 = a1 then
            if r1.2.1 = 0 then
              bnd (law01_known) fun r3 =>
              some r3
            else
              some false
          else
            bnd (law01_known) fun r4 =>
            some r4
        else
          bnd (law01_known) fun r5 =>
          some r5
      else
        some false
    else
      bnd (law01_known) fun r6 =>
      some r6
def law01_LevelWalks_k2 (a0 : Survey) (a1 : Int) (a2 : List Int) (t21_1 : Bool) : Option Bool :=
  if t21_1 = true then
    bnd (law01_known) fun r7 =>
    some r7
  else
    bnd (level_Walk a0 a1 a2) fun r1 =>
    bnd (ref01_Walk a0 a1 a2) fun r8 =>
    if r1.1 = r8.1 then
      if r1.2.1 = r8.2.1 then
        law01_LevelWalks_k1 a0 a1 r1 ((!(decide (r1.2.2 = r8.2.2))))
      else
        law01_LevelWalks_k1 a0 a1 r1 true
    else
      law01_LevelWalks_k1 a0 a1 r1 true
def law01_LevelWalks (a0 : Survey) (a1 : Int) (a2 : List Int) : Option Bool :=
  bnd (law01_Long a0) fun r9 =>
  if r9 = true then
    law01_LevelWalks_k2 a0 a1 a2 true
  else
    law01_LevelWalks_k2 a0 a1 a2 ((decide ((100 : Int) < ((a2.length : Int)))))
end Go.D1

set_option linter.unusedVariables false
set_option linter.unusedSimpArgs false
namespace Go.D1
open Go.Tb Go.Proofs Go.RowKit
theorem Tc59 : callable Try.prog 59 = true := by kernel_rfl
theorem Tc60 : callable Try.prog 60 = true := by kernel_rfl
set_option maxRecDepth 20000 in
set_option maxHeartbeats 1000000 in
theorem law01_LevelWalks_ok {a0 : Survey} {a1 : Int} {a2 : List Int} {A_a0_readings : Option Addr} {c_a0_readings : Nat} {A_a2 : Option Addr} {c_a2 : Nat} {w : World} {res : Bool} (h_a0_readings : Sl w A_a0_readings c_a0_readings 4 (a0.readings.map encReading)) (h_a2 : Sl w A_a2 c_a2 1 (a2.map encN)) (F : law01_LevelWalks a0 a1 a2 = some res) : Calls Try.prog 15 #[.agg #[.int .i64 a0.points, .slice A_a0_readings a0.readings.length c_a0_readings], .int .i64 a1, .slice A_a2 a2.length c_a2] w (Rt w (.bool res)) := by
  refine calls_of_cw (args := [.agg #[.int .i64 a0.points, .slice A_a0_readings a0.readings.length c_a0_readings], .int .i64 a1, .slice A_a2 a2.length c_a2]) Try.func15 rfl rfl rfl rfl ?_
  have H := Hp.start w
  have R0 := H.ext
  unfold law01_LevelWalks at F
  refine CW.seq fun K1 hK1 => ?_
  refine CW.region ?_
  refine LW.go rfl rfl (OW.box rfl fun b1 w1 N1 => ?_)
  replace H := H.new N1 N1.blk
  replace R0 := H.ext
  refine LW.pure rfl rfl (RV.assign rfl) ?_
  refine LW.nil (hK1 _ _ ?_)
  refine CW.seq fun K2 hK2 => ?_
  refine CW.seqJ (fun ρ wl1 => (∃ (t21_1 : Bool), law01_LevelWalks_k2 a0 a1 a2 t21_1 = some res ∧ ρ = [(1, .int .i64 a1), (2, .slice A_a2 a2.length c_a2), (3, .pointer (some (⟨b1, 0, none⟩))), (6, .bool false), (21, .bool t21_1)] ∧ Hp w wl1 [.blk b1 24 [.int .i64 a0.points, .slice A_a0_readings a0.readings.length c_a0_readings]])) ?_ ?_
  ·
    rintro _ wl1 ⟨t21_1, F, rfl, H⟩
    have R0 := H.ext
    unfold law01_LevelWalks_k2 at F
    by_cases hp1 : t21_1 = true
    ·
      replace F := ite_y hp1 F
      have hq1 : t21_1 = true := hp1
      refine CW.condT rfl hq1 ?_
      refine CW.seq fun K3 hK3 => ?_
      obtain ⟨r7, hr7, F⟩ := bnd_some F
      refine CW.region ?_
      refine LW.go rfl rfl (OW.call Tc18 rfl (law01_known_ok hr7) ?_)
      rintro _ w2 ⟨rfl, E1⟩
      refine ⟨_, rfl, ?_⟩
      replace H := H.grow E1
      replace R0 := H.ext
      refine LW.pure rfl rfl (RV.assign rfl) ?_
      refine LW.nil (hK3 _ _ ?_)
      refine CW.ret ?_
      obtain rfl := Option.some.inj F
      refine ⟨_, (ResOK.one rfl), ?_⟩
      refine ⟨(by first | rfl | simp), R0⟩
    ·
      replace F := ite_n hp1 F
      have hq1 : t21_1 = false := raw_f hp1
      refine CW.condF rfl hq1 ?_
      refine CW.skip (hK2 _ _ ?_)
      refine CW.seq fun K4 hK4 => ?_
      obtain ⟨r1, hr1, F⟩ := bnd_some F
      refine CW.region ?_
      refine LW.pure rfl rfl (RV.loadA [.int .i64 a0.points, .slice A_a0_readings a0.readings.length c_a0_readings] Tk24 rfl (H.blk 0 rfl).cells rfl rfl) ?_
      refine LW.pure rfl rfl (RV.move rfl) ?_
      refine LW.pure rfl rfl (RV.move rfl) ?_
      refine LW.go rfl rfl (OW.call Tc59 rfl (level_Walk_ok (a0 := a0) (a1 := a1) (a2 := a2) (h_a0_readings.ext R0) (h_a2.ext R0) hr1) ?_)
      rintro _ w3 ⟨rfl, E2⟩
      refine ⟨_, rfl, ?_⟩
      replace H := H.grow E2
      replace R0 := H.ext
      refine LW.pure rfl rfl (RV.move rfl) ?_
      refine LW.pure rfl rfl (RV.extract rfl rfl) ?_
      refine LW.pure rfl rfl (RV.extract rfl rfl) ?_
      refine LW.pure rfl rfl (RV.extract rfl rfl) ?_
      refine LW.pure rfl rfl (RV.assign rfl) ?_
      refine LW.pure rfl rfl (RV.assign rfl) ?_
      refine LW.pure rfl rfl (RV.assign rfl) ?_
      refine LW.nil (hK4 _ _ ?_)
      refine CW.seq fun K5 hK5 => ?_
      obtain ⟨r8, hr8, F⟩ := bnd_some F
      refine CW.region ?_
      refine LW.pure rfl rfl (RV.loadA [.int .i64 a0.points, .slice A_a0_readings a0.readings.length c_a0_readings] Tk24 rfl (H.blk 0 rfl).cells rfl rfl) ?_
      refine LW.pure rfl rfl (RV.move rfl) ?_
      refine LW.pure rfl rfl (RV.move rfl) ?_
      refine LW.go rfl rfl (OW.call Tc60 rfl (ref01_Walk_ok (a0 := a0) (a1 := a1) (a2 := a2) (h_a0_readings.ext R0) (h_a2.ext R0) hr8) ?_)
      rintro _ w4 ⟨rfl, E3⟩
      refine ⟨_, rfl, ?_⟩
      replace H := H.grow E3
      replace R0 := H.ext
      refine LW.pure rfl rfl (RV.move rfl) ?_
      refine LW.pure rfl rfl (RV.extract rfl rfl) ?_
      refine LW.pure rfl rfl (RV.extract rfl rfl) ?_
      refine LW.pure rfl rfl (RV.extract rfl rfl) ?_
      refine LW.pure rfl rfl (RV.assign rfl) ?_
      refine LW.pure rfl rfl (RV.assign rfl) ?_
      refine LW.pure rfl rfl (RV.assign rfl) ?_
      refine LW.nil (hK5 _ _ ?_)
      refine CW.seq fun K6 hK6 => ?_
      refine CW.seqJ (fun ρ wl2 => (∃ (t51_1 : Bool), law01_LevelWalks_k1 a0 a1 r1 t51_1 = some res ∧ ρ = [(1, .int .i64 a1), (3, .pointer (some (⟨b1, 0, none⟩))), (6, .bool false), (7, .int .i64 r1.1), (8, .int .i64 r1.2.1), (9, .int .i64 r1.2.2), (51, .bool t51_1)] ∧ Hp w wl2 [.blk b1 24 [.int .i64 a0.points, .slice A_a0_readings a0.readings.length c_a0_readings]])) ?_ ?_
      ·
        rintro _ wl2 ⟨t51_1, F, rfl, H⟩
        have R0 := H.ext
        unfold law01_LevelWalks_k1 at F
        by_cases hp2 : t51_1 = true
        ·
          replace F := ite_y hp2 F
          have hq2 : t51_1 = true := hp2
          refine CW.condT rfl hq2 ?_
          refine CW.seq fun K7 hK7 => ?_
          refine CW.region ?_
          refine LW.pure rfl rfl (RV.assign rfl) ?_
          refine LW.nil (hK7 _ _ ?_)
          refine CW.ret ?_
          obtain rfl := Option.some.inj F
          refine ⟨_, (ResOK.one rfl), ?_⟩
          refine ⟨(by first | rfl | simp), R0⟩
        ·
          replace F := ite_n hp2 F
          have hq2 : t51_1 = false := raw_f hp2
          refine CW.condF rfl hq2 ?_
          refine CW.skip (hK6 _ _ ?_)
          refine CW.seq fun K8 hK8 => ?_
          obtain ⟨r2, hr2, F⟩ := bnd_some F
          refine CW.region ?_
          refine LW.pure rfl rfl (RV.loadA [.int .i64 a0.points, .slice A_a0_readings a0.readings.length c_a0_readings] Tk24 rfl (H.blk 0 rfl).cells rfl rfl) ?_
          refine LW.go rfl rfl (OW.call Tc55 rfl (level_IsTrue_ok (a0 := a0) (h_a0_readings.ext R0) hr2) ?_)
          rintro _ w5 ⟨rfl, E4⟩
          refine ⟨_, rfl, ?_⟩
          replace H := H.grow E4
          replace R0 := H.ext
          refine LW.pure rfl rfl (RV.move rfl) ?_
          refine LW.pure rfl rfl (RV.extract rfl rfl) ?_
          refine LW.pure rfl rfl (RV.extract rfl rfl) ?_
          refine LW.pure rfl rfl (RV.assign rfl) ?_
          refine LW.pure rfl rfl (RV.assign rfl) ?_
          refine LW.nil (hK8 _ _ ?_)
          refine CW.seq fun K9 hK9 => ?_
          by_cases hp3 : r1.2.2 = 0
          ·
            replace F := ite_y hp3 F
            have hq3 := dec_t hp3
            by_cases hp4 : r2.2 = 0
            ·
              replace F := ite_y hp4 F
              have hq4 := dec_t hp4
              by_cases hp5 : r2.1 = true
              ·
                replace F := ite_y hp5 F
                have hq5 : r2.1 = true := hp5
                by_cases hp6 : r1.1 = a1
                ·
                  replace F := ite_y hp6 F
                  have hq6 := dec_t hp6
                  by_cases hp7 : r1.2.1 = 0
                  ·
                    replace F := ite_y hp7 F
                    have hq7 := dec_t hp7
                    obtain ⟨r3, hr3, F⟩ := bnd_some F
                    refine CW.region ?_
                    refine LW.pure rfl rfl (RV.move rfl) ?_
                    refine LW.pure rfl rfl (RV.nei rfl rfl) ?_
                    refine LW.pure rfl rfl (RV.move rfl) ?_
                    refine LW.pureYB rfl rfl rfl rfl (not_f hq3) (RV.move rfl) ?_
                    refine LW.pureYB rfl rfl rfl rfl (not_f hq3) (RV.eqi rfl rfl) ?_
                    refine LW.pureYB rfl rfl rfl rfl (not_f hq3) (RV.move rfl) ?_
                    refine LW.pureYB rfl rfl rfl rfl hq4 (RV.move rfl) ?_
                    refine LW.pureYB rfl rfl rfl rfl hq4 (RV.not rfl) ?_
                    refine LW.pureYB rfl rfl rfl rfl hq4 (RV.move rfl) ?_
                    refine LW.pureYB rfl rfl rfl rfl (not_f hq5) (RV.move rfl) ?_
                    refine LW.pureYB rfl rfl rfl rfl (not_f hq5) (RV.move rfl) ?_
                    refine LW.pureYB rfl rfl rfl rfl (not_f hq5) (RV.nei rfl rfl) ?_
                    refine LW.pureYB rfl rfl rfl rfl hq4 (RV.pickFB rfl (not_f hq5) rfl) ?_
                    refine LW.pureYB rfl rfl rfl rfl hq4 (RV.move rfl) ?_
                    refine LW.pureYB rfl rfl rfl rfl (not_f hq6) (RV.move rfl) ?_
                    refine LW.pureYB rfl rfl rfl rfl (not_f hq6) (RV.eqi rfl rfl) ?_
                    refine LW.pureYB rfl rfl rfl rfl hq4 (RV.pickFB rfl (not_f hq6) rfl) ?_
                    refine LW.pureYB rfl rfl rfl rfl (not_f hq3) (RV.pickTB rfl hq4 rfl) ?_
                    refine LW.pure rfl rfl (RV.pickFB rfl (not_f hq3) rfl) ?_
                    refine LW.pure rfl rfl (RV.move rfl) ?_
                    refine LW.yesB rfl rfl rfl rfl hq7 (OW.call Tc18 rfl (law01_known_ok hr3) ?_)
                    rintro _ w6 ⟨rfl, E5⟩
                    refine ⟨_, rfl, ?_⟩
                    replace H := H.grow E5
                    replace R0 := H.ext
                    refine LW.pure rfl rfl (RV.pickTB rfl hq7 rfl) ?_
                    refine LW.pure rfl rfl (RV.assign rfl) ?_
                    refine LW.nil (hK9 _ _ ?_)
                    refine CW.ret ?_
                    obtain rfl := Option.some.inj F
                    refine ⟨_, (ResOK.one rfl), ?_⟩
                    refine ⟨(by first | rfl | simp), R0⟩
                  ·
                    replace F := ite_n hp7 F
                    have hq7 := dec_f hp7
                    refine CW.region ?_
                    refine LW.pure rfl rfl (RV.move rfl) ?_
                    refine LW.pure rfl rfl (RV.nei rfl rfl) ?_
                    refine LW.pure rfl rfl (RV.move rfl) ?_
                    refine LW.pureYB rfl rfl rfl rfl (not_f hq3) (RV.move rfl) ?_
                    refine LW.pureYB rfl rfl rfl rfl (not_f hq3) (RV.eqi rfl rfl) ?_
                    refine LW.pureYB rfl rfl rfl rfl (not_f hq3) (RV.move rfl) ?_
                    refine LW.pureYB rfl rfl rfl rfl hq4 (RV.move rfl) ?_
                    refine LW.pureYB rfl rfl rfl rfl hq4 (RV.not rfl) ?_
                    refine LW.pureYB rfl rfl rfl rfl hq4 (RV.move rfl) ?_
                    refine LW.pureYB rfl rfl rfl rfl (not_f hq5) (RV.move rfl) ?_
                    refine LW.pureYB rfl rfl rfl rfl (not_f hq5) (RV.move rfl) ?_
                    refine LW.pureYB rfl rfl rfl rfl (not_f hq5) (RV.nei rfl rfl) ?_
                    refine LW.pureYB rfl rfl rfl rfl hq4 (RV.pickFB rfl (not_f hq5) rfl) ?_
                    refine LW.pureYB rfl rfl rfl rfl hq4 (RV.move rfl) ?_
                    refine LW.pureYB rfl rfl rfl rfl (not_f hq6) (RV.move rfl) ?_
                    refine LW.pureYB rfl rfl rfl rfl (not_f hq6) (RV.eqi rfl rfl) ?_
                    refine LW.pureYB rfl rfl rfl rfl hq4 (RV.pickFB rfl (not_f hq6) rfl) ?_
                    refine LW.pureYB rfl rfl rfl rfl (not_f hq3) (RV.pickTB rfl hq4 rfl) ?_
                    refine LW.pure rfl rfl (RV.pickFB rfl (not_f hq3) rfl) ?_
                    refine LW.pure rfl rfl (RV.move rfl) ?_
                    refine LW.noB rfl rfl rfl rfl (ne_beq (v := false) hq7 rfl) ?_
                    refine LW.pure rfl rfl (RV.pickFB rfl hq7 rfl) ?_
                    refine LW.pure rfl rfl (RV.assign rfl) ?_
                    refine LW.nil (hK9 _ _ ?_)
                    refine CW.ret ?_
                    obtain rfl := Option.some.inj F
                    refine ⟨_, (ResOK.one rfl), ?_⟩
                    refine ⟨(by first | rfl | simp), R0⟩
                ·
                  replace F := ite_n hp6 F
                  have hq6 := dec_f hp6
                  obtain ⟨r4, hr4, F⟩ := bnd_some F
                  refine CW.region ?_
                  refine LW.pure rfl rfl (RV.move rfl) ?_
                  refine LW.pure rfl rfl (RV.nei rfl rfl) ?_
                  refine LW.pure rfl rfl (RV.move rfl) ?_
                  refine LW.pureYB rfl rfl rfl rfl (not_f hq3) (RV.move rfl) ?_
                  refine LW.pureYB rfl rfl rfl rfl (not_f hq3) (RV.eqi rfl rfl) ?_
                  refine LW.pureYB rfl rfl rfl rfl (not_f hq3) (RV.move rfl) ?_
                  refine LW.pureYB rfl rfl rfl rfl hq4 (RV.move rfl) ?_
                  refine LW.pureYB rfl rfl rfl rfl hq4 (RV.not rfl) ?_
                  refine LW.pureYB rfl rfl rfl rfl hq4 (RV.move rfl) ?_
                  refine LW.pureYB rfl rfl rfl rfl (not_f hq5) (RV.move rfl) ?_
                  refine LW.pureYB rfl rfl rfl rfl (not_f hq5) (RV.move rfl) ?_
                  refine LW.pureYB rfl rfl rfl rfl (not_f hq5) (RV.nei rfl rfl) ?_
                  refine LW.pureYB rfl rfl rfl rfl hq4 (RV.pickFB rfl (not_f hq5) rfl) ?_
                  refine LW.pureYB rfl rfl rfl rfl hq4 (RV.move rfl) ?_
                  refine LW.noB rfl rfl rfl rfl (ne_beq (v := true) (not_t hq6) rfl) ?_
                  refine LW.noB rfl rfl rfl rfl (ne_beq (v := true) (not_t hq6) rfl) ?_
                  refine LW.pureYB rfl rfl rfl rfl hq4 (RV.pickTB rfl (not_t hq6) rfl) ?_
                  refine LW.pureYB rfl rfl rfl rfl (not_f hq3) (RV.pickTB rfl hq4 rfl) ?_
                  refine LW.pure rfl rfl (RV.pickFB rfl (not_f hq3) rfl) ?_
                  refine LW.pure rfl rfl (RV.move rfl) ?_
                  refine LW.yesB rfl rfl rfl rfl rfl (OW.call Tc18 rfl (law01_known_ok hr4) ?_)
                  rintro _ w7 ⟨rfl, E6⟩
                  refine ⟨_, rfl, ?_⟩
                  replace H := H.grow E6
                  replace R0 := H.ext
                  refine LW.pure rfl rfl (RV.pickTB rfl rfl rfl) ?_
                  refine LW.pure rfl rfl (RV.assign rfl) ?_
                  refine LW.nil (hK9 _ _ ?_)
                  refine CW.ret ?_
                  obtain rfl := Option.some.inj F
                  refine ⟨_, (ResOK.one rfl), ?_⟩
                  refine ⟨(by first | rfl | simp), R0⟩
              ·
                replace F := ite_n hp5 F
                have hq5 : r2.1 = false := raw_f hp5
                obtain ⟨r5, hr5, F⟩ := bnd_some F
                refine CW.region ?_
                refine LW.pure rfl rfl (RV.move rfl) ?_
                refine LW.pure rfl rfl (RV.nei rfl rfl) ?_
                refine LW.pure rfl rfl (RV.move rfl) ?_
                refine LW.pureYB rfl rfl rfl rfl (not_f hq3) (RV.move rfl) ?_
                refine LW.pureYB rfl rfl rfl rfl (not_f hq3) (RV.eqi rfl rfl) ?_
                refine LW.pureYB rfl rfl rfl rfl (not_f hq3) (RV.move rfl) ?_
                refine LW.pureYB rfl rfl rfl rfl hq4 (RV.move rfl) ?_
                refine LW.pureYB rfl rfl rfl rfl hq4 (RV.not rfl) ?_
                refine LW.pureYB rfl rfl rfl rfl hq4 (RV.move rfl) ?_
                refine LW.noB rfl rfl rfl rfl (ne_beq (v := true) (not_t hq5) rfl) ?_
                refine LW.noB rfl rfl rfl rfl (ne_beq (v := true) (not_t hq5) rfl) ?_
                refine LW.noB rfl rfl rfl rfl (ne_beq (v := true) (not_t hq5) rfl) ?_
                refine LW.pureYB rfl rfl rfl rfl hq4 (RV.pickTB rfl (not_t hq5) rfl) ?_
                refine LW.pureYB rfl rfl rfl rfl hq4 (RV.move rfl) ?_
                refine LW.noB rfl rfl rfl rfl (ne_beq (v := true) rfl rfl) ?_
                refine LW.noB rfl rfl rfl rfl (ne_beq (v := true) rfl rfl) ?_
                refine LW.pureYB rfl rfl rfl rfl hq4 (RV.pickTB rfl rfl rfl) ?_
                refine LW.pureYB rfl rfl rfl rfl (not_f hq3) (RV.pickTB rfl hq4 rfl) ?_
                refine LW.pure rfl rfl (RV.pickFB rfl (not_f hq3) rfl) ?_
                refine LW.pure rfl rfl (RV.move rfl) ?_
                refine LW.yesB rfl rfl rfl rfl rfl (OW.call Tc18 rfl (law01_known_ok hr5) ?_)
                rintro _ w8 ⟨rfl, E7⟩
                refine ⟨_, rfl, ?_⟩
                replace H := H.grow E7
                replace R0 := H.ext
                refine LW.pure rfl rfl (RV.pickTB rfl rfl rfl) ?_
                refine LW.pure rfl rfl (RV.assign rfl) ?_
                refine LW.nil (hK9 _ _ ?_)
                refine CW.ret ?_
                obtain rfl := Option.some.inj F
                refine ⟨_, (ResOK.one rfl), ?_⟩
                refine ⟨(by first | rfl | simp), R0⟩
            ·
              replace F := ite_n hp4 F
              have hq4 := dec_f hp4
              refine CW.region ?_
              refine LW.pure rfl rfl (RV.move rfl) ?_
              refine LW.pure rfl rfl (RV.nei rfl rfl) ?_
              refine LW.pure rfl rfl (RV.move rfl) ?_
              refine LW.pureYB rfl rfl rfl rfl (not_f hq3) (RV.move rfl) ?_
              refine LW.pureYB rfl rfl rfl rfl (not_f hq3) (RV.eqi rfl rfl) ?_
              refine LW.pureYB rfl rfl rfl rfl (not_f hq3) (RV.move rfl) ?_
              refine LW.noB rfl rfl rfl rfl (ne_beq (v := false) hq4 rfl) ?_
              refine LW.noB rfl rfl rfl rfl (ne_beq (v := false) hq4 rfl) ?_
              refine LW.noB rfl rfl rfl rfl (ne_beq (v := false) hq4 rfl) ?_
              refine LW.noU rfl rfl rfl rfl ?_
              refine LW.noU rfl rfl rfl rfl ?_
              refine LW.noU rfl rfl rfl rfl ?_
              refine LW.noB rfl rfl rfl rfl (ne_beq (v := false) hq4 rfl) ?_
              refine LW.noB rfl rfl rfl rfl (ne_beq (v := false) hq4 rfl) ?_
              refine LW.noU rfl rfl rfl rfl ?_
              refine LW.noU rfl rfl rfl rfl ?_
              refine LW.noB rfl rfl rfl rfl (ne_beq (v := false) hq4 rfl) ?_
              refine LW.pureYB rfl rfl rfl rfl (not_f hq3) (RV.pickFB rfl hq4 rfl) ?_
              refine LW.pure rfl rfl (RV.pickFB rfl (not_f hq3) rfl) ?_
              refine LW.pure rfl rfl (RV.move rfl) ?_
              refine LW.noB rfl rfl rfl rfl (ne_beq (v := false) rfl rfl) ?_
              refine LW.pure rfl rfl (RV.pickFB rfl rfl rfl) ?_
              refine LW.pure rfl rfl (RV.assign rfl) ?_
              refine LW.nil (hK9 _ _ ?_)
              refine CW.ret ?_
              obtain rfl := Option.some.inj F
              refine ⟨_, (ResOK.one rfl), ?_⟩
              refine ⟨(by first | rfl | simp), R0⟩
          ·
            replace F := ite_n hp3 F
            have hq3 := dec_f hp3
            obtain ⟨r6, hr6, F⟩ := bnd_some F
            refine CW.region ?_
            refine LW.pure rfl rfl (RV.move rfl) ?_
            refine LW.pure rfl rfl (RV.nei rfl rfl) ?_
            refine LW.pure rfl rfl (RV.move rfl) ?_
            refine LW.noB rfl rfl rfl rfl (ne_beq (v := true) (not_t hq3) rfl) ?_
            refine LW.noB rfl rfl rfl rfl (ne_beq (v := true) (not_t hq3) rfl) ?_
            refine LW.noB rfl rfl rfl rfl (ne_beq (v := true) (not_t hq3) rfl) ?_
            refine LW.noU rfl rfl rfl rfl ?_
            refine LW.noU rfl rfl rfl rfl ?_
            refine LW.noU rfl rfl rfl rfl ?_
            refine LW.noU rfl rfl rfl rfl ?_
            refine LW.noU rfl rfl rfl rfl ?_
            refine LW.noU rfl rfl rfl rfl ?_
            refine LW.noU rfl rfl rfl rfl ?_
            refine LW.noU rfl rfl rfl rfl ?_
            refine LW.noU rfl rfl rfl rfl ?_
            refine LW.noU rfl rfl rfl rfl ?_
            refine LW.noU rfl rfl rfl rfl ?_
            refine LW.noB rfl rfl rfl rfl (ne_beq (v := true) (not_t hq3) rfl) ?_
            refine LW.pure rfl rfl (RV.pickTB rfl (not_t hq3) rfl) ?_
            refine LW.pure rfl rfl (RV.move rfl) ?_
            refine LW.yesB rfl rfl rfl rfl rfl (OW.call Tc18 rfl (law01_known_ok hr6) ?_)
            rintro _ w9 ⟨rfl, E8⟩
            refine ⟨_, rfl, ?_⟩
            replace H := H.grow E8
            replace R0 := H.ext
            refine LW.pure rfl rfl (RV.pickTB rfl rfl rfl) ?_
            refine LW.pure rfl rfl (RV.assign rfl) ?_
            refine LW.nil (hK9 _ _ ?_)
            refine CW.ret ?_
            obtain rfl := Option.some.inj F
            refine ⟨_, (ResOK.one rfl), ?_⟩
            refine ⟨(by first | rfl | simp), R0⟩
      ·
        intro K10 hK10 jK21
        by_cases hp8 : r1.1 = r8.1
        ·
          replace F := ite_y hp8 F
          have hq8 := dec_t hp8
          by_cases hp9 : r1.2.1 = r8.2.1
          ·
            replace F := ite_y hp9 F
            have hq9 := dec_t hp9
            refine CW.region ?_
            refine LW.pure rfl rfl (RV.move rfl) ?_
            refine LW.pure rfl rfl (RV.move rfl) ?_
            refine LW.pure rfl rfl (RV.nei rfl rfl) ?_
            refine LW.pure rfl rfl (RV.move rfl) ?_
            refine LW.pureYB rfl rfl rfl rfl (not_f hq8) (RV.move rfl) ?_
            refine LW.pureYB rfl rfl rfl rfl (not_f hq8) (RV.move rfl) ?_
            refine LW.pureYB rfl rfl rfl rfl (not_f hq8) (RV.nei rfl rfl) ?_
            refine LW.pure rfl rfl (RV.pickFB rfl (not_f hq8) rfl) ?_
            refine LW.pure rfl rfl (RV.move rfl) ?_
            refine LW.pureYB rfl rfl rfl rfl (not_f hq9) (RV.move rfl) ?_
            refine LW.pureYB rfl rfl rfl rfl (not_f hq9) (RV.move rfl) ?_
            refine LW.pureYB rfl rfl rfl rfl (not_f hq9) (RV.nei rfl rfl) ?_
            refine LW.pure rfl rfl (RV.pickFB rfl (not_f hq9) rfl) ?_
            refine LW.nil (jK21 _ _ ⟨_, ?_, ⟨(!(decide (r1.2.2 = r8.2.2))), F, rfl, H⟩⟩)
            exact ⟨rfl, rfl, rfl, rfl, rfl, rfl, rfl, trivial⟩
          ·
            replace F := ite_n hp9 F
            have hq9 := dec_f hp9
            refine CW.region ?_
            refine LW.pure rfl rfl (RV.move rfl) ?_
            refine LW.pure rfl rfl (RV.move rfl) ?_
            refine LW.pure rfl rfl (RV.nei rfl rfl) ?_
            refine LW.pure rfl rfl (RV.move rfl) ?_
            refine LW.pureYB rfl rfl rfl rfl (not_f hq8) (RV.move rfl) ?_
            refine LW.pureYB rfl rfl rfl rfl (not_f hq8) (RV.move rfl) ?_
            refine LW.pureYB rfl rfl rfl rfl (not_f hq8) (RV.nei rfl rfl) ?_
            refine LW.pure rfl rfl (RV.pickFB rfl (not_f hq8) rfl) ?_
            refine LW.pure rfl rfl (RV.move rfl) ?_
            refine LW.noB rfl rfl rfl rfl (ne_beq (v := true) (not_t hq9) rfl) ?_
            refine LW.noB rfl rfl rfl rfl (ne_beq (v := true) (not_t hq9) rfl) ?_
            refine LW.noB rfl rfl rfl rfl (ne_beq (v := true) (not_t hq9) rfl) ?_
            refine LW.pure rfl rfl (RV.pickTB rfl (not_t hq9) rfl) ?_
            refine LW.nil (jK21 _ _ ⟨_, ?_, ⟨true, F, rfl, H⟩⟩)
            exact ⟨rfl, rfl, rfl, rfl, rfl, rfl, rfl, trivial⟩
        ·
          replace F := ite_n hp8 F
          have hq8 := dec_f hp8
          refine CW.region ?_
          refine LW.pure rfl rfl (RV.move rfl) ?_
          refine LW.pure rfl rfl (RV.move rfl) ?_
          refine LW.pure rfl rfl (RV.nei rfl rfl) ?_
          refine LW.pure rfl rfl (RV.move rfl) ?_
          refine LW.noB rfl rfl rfl rfl (ne_beq (v := true) (not_t hq8) rfl) ?_
          refine LW.noB rfl rfl rfl rfl (ne_beq (v := true) (not_t hq8) rfl) ?_
          refine LW.noB rfl rfl rfl rfl (ne_beq (v := true) (not_t hq8) rfl) ?_
          refine LW.pure rfl rfl (RV.pickTB rfl (not_t hq8) rfl) ?_
          refine LW.pure rfl rfl (RV.move rfl) ?_
          refine LW.noB rfl rfl rfl rfl (ne_beq (v := true) rfl rfl) ?_
          refine LW.noB rfl rfl rfl rfl (ne_beq (v := true) rfl rfl) ?_
          refine LW.noB rfl rfl rfl rfl (ne_beq (v := true) rfl rfl) ?_
          refine LW.pure rfl rfl (RV.pickTB rfl rfl rfl) ?_
          refine LW.nil (jK21 _ _ ⟨_, ?_, ⟨true, F, rfl, H⟩⟩)
          exact ⟨rfl, rfl, rfl, rfl, rfl, rfl, rfl, trivial⟩
  ·
    intro K11 hK11 jK22
    obtain ⟨r9, hr9, F⟩ := bnd_some F
    by_cases hp10 : r9 = true
    ·
      replace F := ite_y hp10 F
      have hq10 : r9 = true := hp10
      refine CW.region ?_
      refine LW.pure rfl rfl (RV.loadA [.int .i64 a0.points, .slice A_a0_readings a0.readings.length c_a0_readings] Tk24 rfl (H.blk 0 rfl).cells rfl rfl) ?_
      refine LW.go rfl rfl (OW.call Tc17 rfl (law01_Long_ok (a0 := a0) (h_a0_readings.ext R0) hr9) ?_)
      rintro _ w10 ⟨rfl, E9⟩
      refine ⟨_, rfl, ?_⟩
      replace H := H.grow E9
      replace R0 := H.ext
      refine LW.pure rfl rfl (RV.move rfl) ?_
      refine LW.noB rfl rfl rfl rfl (ne_beq (v := true) hq10 rfl) ?_
      refine LW.noB rfl rfl rfl rfl (ne_beq (v := true) hq10 rfl) ?_
      refine LW.noB rfl rfl rfl rfl (ne_beq (v := true) hq10 rfl) ?_
      refine LW.pure rfl rfl (RV.pickTB rfl hq10 rfl) ?_
      refine LW.nil (jK22 _ _ ⟨_, ?_, ⟨true, F, rfl, H⟩⟩)
      exact ⟨rfl, rfl, rfl, rfl, rfl, trivial⟩
    ·
      replace F := ite_n hp10 F
      have hq10 : r9 = false := raw_f hp10
      refine CW.region ?_
      refine LW.pure rfl rfl (RV.loadA [.int .i64 a0.points, .slice A_a0_readings a0.readings.length c_a0_readings] Tk24 rfl (H.blk 0 rfl).cells rfl rfl) ?_
      refine LW.go rfl rfl (OW.call Tc17 rfl (law01_Long_ok (a0 := a0) (h_a0_readings.ext R0) hr9) ?_)
      rintro _ w11 ⟨rfl, E10⟩
      refine ⟨_, rfl, ?_⟩
      replace H := H.grow E10
      replace R0 := H.ext
      refine LW.pure rfl rfl (RV.move rfl) ?_
      refine LW.pureYB rfl rfl rfl rfl hq10 (RV.move rfl) ?_
      refine LW.pureYB rfl rfl rfl rfl hq10 (RV.len Ts39 rfl) ?_
      refine LW.pureYB rfl rfl rfl rfl hq10 (RV.gtr rfl rfl) ?_
      refine LW.pure rfl rfl (RV.pickFB rfl hq10 rfl) ?_
      refine LW.nil (jK22 _ _ ⟨_, ?_, ⟨(decide ((100 : Int) < ((a2.length : Int)))), F, rfl, H⟩⟩)
      exact ⟨rfl, rfl, rfl, rfl, rfl, trivial⟩
end Go.D1

set_option linter.unusedVariables false
set_option linter.unusedSimpArgs false
namespace Go.D1
open Go.Tb
def walkP (s : Survey) : Int → Int → List Int → Int × Int × Int
  | a, r, [] => (a, r, 0)
  | a, r, x :: l => if (goneR s x).from_ = a then walkP s (goneR s x).to_ (r + (goneR s x).rise) l else (0, 0, 9)
def walkV (s : Survey) (a1 : Int) (a2 : List Int) : Int × Int × Int :=
  if validate s = 0 then
    if within a1 0 (s.points - 1) = true then
      if (20 : Int) < (a2.length : Int) then (0, 0, 3) else if a2.all (stepB s) = true then walkP s a1 0 a2 else (0, 0, 4)
    else (0, 0, 4)
  else (0, 0, validate s)
theorem stepB_iff {s : Survey} {x : Int} : stepB s x = true ↔ x ≠ 0 ∧ -(s.readings.length : Int) ≤ x ∧ x ≤ (s.readings.length : Int) := by
  unfold stepB
  simp
theorem gone_at {s : Survey} {x : Int} (h : stepB s x = true) : ∃ r, r ∈ s.readings ∧ s.readings[(max x (-x) - 1).toNat]? = some r ∧ goneR s x = (if x < 0 then ⟨r.to_, r.from_, -r.rise, r.weight⟩ else r) := by
  have h' := stepB_iff.1 h
  have hlt : (max x (-x) - 1).toNat < s.readings.length := by omega
  have hx : s.readings[(max x (-x) - 1).toNat]? = some s.readings[(max x (-x) - 1).toNat] := by simp [hlt]
  refine ⟨_, List.getElem_mem hlt, hx, ?_⟩
  unfold goneR
  rw [List.getD_eq_getElem?_getD, hx]; rfl
theorem gone_rise {s : Survey} (hs : SvOk s) {x : Int} (h : stepB s x = true) : -1000 ≤ (goneR s x).rise ∧ (goneR s x).rise ≤ 1000 := by
  obtain ⟨r, hr, _, e⟩ := gone_at h
  have := (hs.rd r hr).2.2.2.1
  rw [e]
  split
  · simp only; omega
  · exact this
theorem walkL_eq {s : Survey} (hs : SvOk s) : ∀ (l : List Int) (a r : Int), (∀ x ∈ l, stepB s x = true) → (r.natAbs : Int) + 1000 * (l.length : Int) ≤ 1000000 → walkL s a r l = some (walkP s a r l) := by
  intro l
  induction l with
  | nil => intro a r _ _; rfl
  | cons x l ih =>
    intro a r h hb
    have hx := gone_rise hs (h x (by simp))
    unfold walkL walkP
    simp only [List.length_cons] at hb
    by_cases e : (goneR s x).from_ = a
    · rw [if_pos e, if_pos e, gd_pos (by omega), ih _ _ (fun y hy => h y (by simp [hy])) (by omega)]
    · rw [if_neg e, if_neg e]
theorem Walk_eq (s : Survey) (a1 : Int) (a2 : List Int) : level_Walk s a1 a2 = some (walkV s a1 a2) := by
  unfold level_Walk walkV
  rw [bnd_eq (Validate_eq s)]
  by_cases hv : validate s = 0
  · have hs := val0.1 hv
    have hp5 := hs.p5
    have hp1 := hs.p1
    have h8 := hs.len
    rw [if_pos hv, if_pos hv, gd_pos (by omega), bnd_eq (lwithin_eq _ _ _)]
    by_cases hw : within a1 0 (s.points - 1) = true
    · rw [if_pos hw, if_pos hw]
      by_cases h20 : (20 : Int) < (a2.length : Int)
      · rw [if_pos h20, if_pos h20]
      · rw [if_neg h20, if_neg h20]
        refine Eq.trans (list_loop0 a2 (stepB s) (level_Walk_L1 s a1 a2) (level_Walk_k1 s a1 a2) (some (0, 0, 4)) (fun k i x hx => ?_) (fun k => ?_) (by omega)) ?_
        · have hi := lt_of_at hx
          show level_Walk_B1 s a1 a2 (level_Walk_L1 s a1 a2 k) _ = _
          unfold level_Walk_B1 level_Walk_k2
          rw [if_pos (by omega), ix_nat hx]
          by_cases h0 : x = 0
          · rw [if_pos h0, if_pos rfl, if_neg (by rw [stepB_iff]; omega)]
          · rw [if_neg h0, gd_pos (by omega), bnd_eq (lwithin_eq _ _ _)]
            by_cases hx' : within x (-(s.readings.length : Int)) (s.readings.length : Int) = true
            · rw [hx', if_neg (by simp), gd_pos (by omega), if_pos (stepB_iff.2 ⟨h0, within_iff.1 hx'⟩)]; rfl
            · rw [if_pos (by simpa using hx'), if_neg (fun h => hx' (within_iff.2 (stepB_iff.1 h).2))]
        · show level_Walk_B1 s a1 a2 (level_Walk_L1 s a1 a2 k) _ = _
          unfold level_Walk_B1
          rw [if_neg (by omega)]
        · by_cases ha : a2.all (stepB s) = true
          · rw [if_pos ha, if_pos ha]
            unfold level_Walk_k1
            rw [gd_pos ⟨by omega, ha, by omega, fun r hr => by have := (hs.rd r hr).2.2.2.1; omega⟩, walkL_eq hs a2 a1 0 (fun x hx => List.all_eq_true.1 ha x hx) (by simp; omega)]
          · rw [if_neg ha, if_neg ha]
    · rw [if_neg hw, if_neg hw]
  · rw [if_neg hv, if_neg hv]
theorem rwalk_eq {s : Survey} (hs : SvOk s) {a2 : List Int} (h20 : (a2.length : Int) ≤ 20) (ha : a2.all (stepB s) = true) : ∀ (d k i : Nat) (a r : Int), a2.length = i + d → d < k → (r.natAbs : Int) + 1000 * (d : Int) ≤ 1000000 → ref01_Walk_L1 s a2 k a r (i : Int) = some (walkP s a r (a2.drop i)) := by
  intro d
  induction d with
  | zero =>
    intro k i a r hi hk hb
    obtain ⟨k, rfl⟩ : ∃ k', k = k' + 1 := ⟨k - 1, by omega⟩
    show ref01_Walk_B1 s a2 (ref01_Walk_L1 s a2 k) _ _ _ = _
    unfold ref01_Walk_B1
    rw [if_neg (by omega), List.drop_of_length_le (by omega)]; rfl
  | succ d ih =>
    intro k i a r hi hk hb
    obtain ⟨k, rfl⟩ : ∃ k', k = k' + 1 := ⟨k - 1, by omega⟩
    have hlt : i < a2.length := by omega
    have hx : a2[i]? = some a2[i] := by simp [hlt]
    have hd : a2.drop i = a2[i] :: a2.drop (i + 1) := List.drop_eq_getElem_cons hlt
    generalize a2[i] = x at hx hd
    have hst := List.all_eq_true.1 ha x (List.mem_of_getElem? hx)
    have hst' := stepB_iff.1 hst
    have h8 := hs.len
    obtain ⟨q, hq, hqx, e⟩ := gone_at hst
    have hqr := (hs.rd q hq).2.2.2.1
    have hgr := gone_rise hs hst
    show ref01_Walk_B1 s a2 (ref01_Walk_L1 s a2 k) _ _ _ = _
    unfold ref01_Walk_B1
    rw [if_pos (by omega), ix_nat hx, ix_nat hx, gd_pos (by omega), gd_pos (by omega), ix_eq (by omega) hqx, ix_nat hx, hd]
    unfold walkP
    by_cases hn : x < 0
    · rw [if_pos hn] at e
      rw [if_pos hn, gd_pos (by omega)]
      unfold ref01_Walk_k2
      rw [e] at hgr ⊢
      simp only at hgr ⊢
      by_cases hf : q.to_ = a
      · rw [if_pos hf, if_pos hf, gd_pos (by omega), gd_pos (by omega)]
        exact ih k (i + 1) _ _ (by omega) (by omega) (by omega)
      · rw [if_neg hf, if_neg hf]
    · rw [if_neg hn] at e
      rw [if_neg hn]
      unfold ref01_Walk_k2
      rw [e] at hgr ⊢
      by_cases hf : q.from_ = a
      · rw [if_pos hf, if_pos hf, gd_pos (by omega), gd_pos (by omega)]
        exact ih k (i + 1) _ _ (by omega) (by omega) (by omega)
      · rw [if_neg hf, if_neg hf]
theorem rWalk_eq (s : Survey) (a1 : Int) (a2 : List Int) : ref01_Walk s a1 a2 = some (walkV s a1 a2) := by
  unfold ref01_Walk walkV
  rw [bnd_eq (rValidate_eq s)]
  by_cases hv : validate s = 0
  · have hs := val0.1 hv
    have hp5 := hs.p5
    have hp1 := hs.p1
    have h8 := hs.len
    rw [if_pos hv, if_pos hv, gd_pos (by omega), bnd_eq (rwithin_eq _ _ _)]
    by_cases hw : within a1 0 (s.points - 1) = true
    · rw [if_pos hw, if_pos hw]
      by_cases h20 : (20 : Int) < (a2.length : Int)
      · rw [if_pos h20, if_pos h20]
      · rw [if_neg h20, if_neg h20]
        refine Eq.trans (list_loop0 a2 (stepB s) (ref01_Walk_L2 s a1 a2) (ref01_Walk_k3 s a1 a2) (some (0, 0, 4)) (fun k i x hx => ?_) (fun k => ?_) (by omega)) ?_
        · have hi := lt_of_at hx
          show ref01_Walk_B2 s a1 a2 (ref01_Walk_L2 s a1 a2 k) _ = _
          unfold ref01_Walk_B2 ref01_Walk_k4
          rw [if_pos (by omega), ix_nat hx]
          by_cases h0 : x = 0
          · rw [if_pos h0, if_pos rfl, if_neg (by rw [stepB_iff]; omega)]
          · rw [if_neg h0, ix_nat hx, gd_pos (by omega), bnd_eq (rwithin_eq _ _ _)]
            by_cases hx' : within x (-(s.readings.length : Int)) (s.readings.length : Int) = true
            · rw [hx', if_neg (by simp), gd_pos (by omega), if_pos (stepB_iff.2 ⟨h0, within_iff.1 hx'⟩)]; rfl
            · rw [if_pos (by simpa using hx'), if_neg (fun h => hx' (within_iff.2 (stepB_iff.1 h).2))]
        · show ref01_Walk_B2 s a1 a2 (ref01_Walk_L2 s a1 a2 k) _ = _
          unfold ref01_Walk_B2
          rw [if_neg (by omega)]
        · by_cases ha : a2.all (stepB s) = true
          · rw [if_pos ha, if_pos ha]
            unfold ref01_Walk_k3
            exact rwalk_eq hs (by omega) ha a2.length FU 0 a1 0 (by omega) (by have := FU_pos; omega) (by simp; omega)
          · rw [if_neg ha, if_neg ha]
    · rw [if_neg hw, if_neg hw]
  · rw [if_neg hv, if_neg hv]
theorem walk_rise {s : Survey} (ht : trueR s = true) : ∀ (l : List Int) (a r : Int), (∀ x ∈ l, stepB s x = true) → (walkP s a r l).2.2 = 0 → (walkP s a r l).2.1 - r = gi (heightsR s) (walkP s a r l).1.toNat - gi (heightsR s) a.toNat
  | [], a, r, _, _ => by show r - r = _; simp [walkP]
  | x :: l, a, r, h, h0 => by
    have hx := h x (by simp)
    unfold walkP at h0 ⊢
    by_cases e : (goneR s x).from_ = a
    · rw [if_pos e] at h0 ⊢
      have ih := walk_rise ht l _ _ (fun y hy => h y (by simp [hy])) h0
      have hr : (goneR s x).rise = gi (heightsR s) (goneR s x).to_.toNat - gi (heightsR s) (goneR s x).from_.toNat := by
        obtain ⟨q, hq, _, eg⟩ := gone_at hx
        have hc : closeR s q = 0 := by
          unfold trueR at ht
          have := ht
          simp only [Bool.not_eq_true', List.any_eq_false] at this
          have h1 := this (closeR s q) (List.mem_map.2 ⟨q, hq, rfl⟩)
          simpa using h1
        unfold closeR at hc
        rw [eg]
        split
        · simp only; omega
        · omega
      rw [e] at hr
      omega
    · rw [if_neg e] at h0
      cases h0
theorem law_LevelWalks (s : Survey) (a1 : Int) (a2 : List Int) (hb : s.readings.length ≤ 9223372036854775807) (hb2 : a2.length ≤ 9223372036854775807) : law01_LevelWalks s a1 a2 = some true := by
  have key : ∀ t, law01_LevelWalks_k2 s a1 a2 t = some true := by
    intro t
    unfold law01_LevelWalks_k2
    by_cases ht : t = true
    · rw [if_pos ht, bnd_eq known_eq]
    rw [if_neg ht, bnd_eq (Walk_eq s a1 a2), bnd_eq (rWalk_eq s a1 a2), if_pos rfl, if_pos rfl, decide_eq_true rfl]
    unfold law01_LevelWalks_k1
    rw [if_neg (by simp), bnd_eq (IsTrue_eq s)]
    by_cases h0 : (walkV s a1 a2).2.2 = 0
    · rw [if_pos h0]
      unfold walkV at h0 ⊢
      by_cases hv : validate s = 0
      · rw [if_pos hv] at h0 ⊢
        rw [if_pos hv, if_pos rfl]
        by_cases hw : within a1 0 (s.points - 1) = true
        · rw [if_pos hw] at h0 ⊢
          by_cases h20 : (20 : Int) < (a2.length : Int)
          · rw [if_pos h20] at h0; cases h0
          · rw [if_neg h20] at h0 ⊢
            by_cases ha : a2.all (stepB s) = true
            · rw [if_pos ha] at h0 ⊢
              by_cases htr : trueR s = true
              · have := walk_rise htr a2 a1 0 (fun x hx => List.all_eq_true.1 ha x hx) h0
                rw [if_pos htr]
                by_cases he : (walkP s a1 0 a2).1 = a1
                · rw [if_pos he, if_pos (by rw [he] at this; omega), bnd_eq known_eq]
                · rw [if_neg he, bnd_eq known_eq]
              · rw [if_neg htr, bnd_eq known_eq]
            · rw [if_neg ha] at h0; cases h0
        · rw [if_neg hw] at h0; cases h0
      · rw [if_neg hv] at h0; exact absurd h0 hv
    · rw [if_neg h0, bnd_eq known_eq]
  unfold law01_LevelWalks
  rw [bnd_eq (Long_eq s)]
  split <;> exact key _
end Go.D1
