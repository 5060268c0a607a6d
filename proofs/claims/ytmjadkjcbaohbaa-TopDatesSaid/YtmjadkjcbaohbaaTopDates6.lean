/- Lemmas and walks that the proof of this claim uses: Tb40, Tb41, Tb42, Tb43D, Tb43, D3u1, D3v1D, D3v2D, D3v3D, D3v1. -/
import Derived.Test.YtmjadkjcbaohbaaTopDates5
import Derived.RangeFuncRecord
import Derived.RangeFuncCalls
import Derived.OrdersIn
import Derived.TacticsIn
set_option linter.unusedVariables false
set_option linter.unusedSimpArgs false
namespace Go.Tb
open Go.RowKit
abbrev RF (r : Nat) : Fence := Fence.wide.inRound r
def noD (o : Oper) : Bool := match o.op with
  | .defer _ => false
  | _ => true
section
variable {P : Program} {m r : Nat} {ops : Array Oper} {Q : Exit → Act → World → Prop}
theorem noD_ne {o : Oper} (h : noD o = true) : ∀ c, o.op ≠ .defer c := fun c e => by unfold noD at h; rw [e] at h; cases h
theorem wide_no {p : Prop} : (RF r).depth.isSome = true → p := fun h => by cases h
theorem rowsIn_of {k : Nat} {row : String} {args : Array Value} {w : World} {R : Value → World → Prop} (h : Rows P row args w R) : RowsIn (RF r) k P row args w R := fun c cs _ =>
  let ⟨v, w', hr, s⟩ := h c cs
  ⟨v, w', hr, stepsIn_wide.2 s⟩
theorem callsIn_of {k : Nat} {f : FuncId} {args : Array Value} {w : World} {R : Ending → World → Prop} (h : Calls P f args w R) : CallsIn (RF r) k P f args w R := CallsIn.inRound r (callsIn_wide.2 h)
theorem op_in {o : Oper} {a : Act} {w : World} {next : Act → World → Prop} (hn : noD o = true) (h : o.wp P a w next Q) : o.wpIn (RF r) m P a w next Q := by
  refine ⟨fun _ _ => trivial, ?_⟩
  rw [Oper.semAt_eq _ _ _ (noD_ne hn)]
  unfold Oper.wp at h
  generalize (execOp a.eval o).run P w = x at *
  cases x with
  | ok y w' =>
    cases y <;> simp only [Oper.upon] at h <;> simp only [Oper.uponIn] <;> first
      | exact h
      | exact h.elim
      | exact ⟨wide_no, callsIn_of h⟩
      | exact ⟨wide_no, rowsIn_of h⟩
  | halt y w' => cases y <;> simp only [Oper.upon] at h <;> simp only [Oper.uponIn] <;> first | exact h | exact h.elim
theorem list_in (hL : ¬ LetsOut Q) : ∀ {l : List Oper}, l.all noD = true → ∀ {a : Act} {w : World}, wpList P ops Q l a w → wpListIn (RF r) m P ops Q l a w
  | [], _, a, w, h => h
  | o :: rest, hn, a, w, h => by
    simp only [List.all_cons, Bool.and_eq_true] at hn
    unfold wpList at h
    unfold wpListIn
    split at h
    · rename_i hw
      rw [if_pos hw]
      rcases h with h | h
      · exact Oper.wpIn_mono (fun a w => list_in hL hn.2) (op_in hn.1 h)
      · exact absurd h.2 hL
    · rename_i hw
      rw [if_neg hw]
      exact ⟨fun _ _ => trivial, list_in hL hn.2 h⟩
theorem op_at_in (hL : ¬ LetsOut Q) (hn : ∀ (i : Nat) (o : Oper), ops[i]? = some o → noD o = true) {i : Nat} {K : Act → World → Prop} {a : Act} {w : World} (h : wpOp P ops Q i K a w) : wpOpIn (RF r) m P ops Q i K a w := by
  unfold wpOp at h
  unfold wpOpIn
  cases ho : ops[i]? with
  | none => simpa [ho] using h
  | some o =>
    simp only [ho] at h ⊢
    split
    · rename_i hw
      rw [if_pos hw] at h
      rcases h with h | h
      · exact op_in (hn i o ho) h
      · exact absurd h.2 hL
    · rename_i hw
      rw [if_neg hw] at h
      exact ⟨fun _ _ => trivial, h⟩
theorem any_in (hL : ¬ LetsOut Q) (hn : ∀ (i : Nat) (o : Oper), ops[i]? = some o → noD o = true) {md : Region.Mode} : ∀ {fuel : Nat} {listed : Array Bool} {a : Act} {w : World}, wpAny P md ops Q fuel listed a w → wpAnyIn (RF r) m P md ops Q fuel listed a w
  | 0, _, _, _, h => h
  | fuel + 1, listed, a, w, h => ⟨h.1, fun i hi => wpOpIn_mono (fun a w h => any_in hL hn h) (op_at_in hL hn (h.2 i hi))⟩
end
def CR (P : Program) (r m n : Nat) (c : Code) (Q : Exit → Env → World → Prop) (ρ : Env) (w : World) : Prop := ∀ a, Fits n ρ a → c.wpIn (RF r) m P (lift n Q) a w
def NoOut (Q : Exit → Env → World → Prop) : Prop := ∀ ρ w, ¬ Q .outgrown ρ w
section
variable {P : Program} {r m n : Nat} {ops : Array Oper} {Q : Exit → Env → World → Prop} {ρ : Env} {w : World}
theorem NoOut.out (h : NoOut Q) : ¬ LetsOut (lift n Q) := fun ⟨_, w, ρ, _, hq⟩ => h ρ w hq
theorem CR.region {id : Nat} {l : List Oper} (hO : NoOut Q) (hn : l.all noD = true) (h : LW P n l.toArray Q l ρ w) : CR P r m n (.region id l.toArray false) Q ρ w := fun a ha => wpIn_region_lit (list_in hO.out hn (h a ha))
theorem CR.draw (hO : NoOut Q) (hn : ops.toList.all noD = true) (S : List Nat) (X : Nat → Prop) (t : DT) {id : Nat} (hm : P.follows .mixedOrders = true) (hB : drawB ops S t = true) (h : ∀ w', Ext w w' → DW P n ops Q S X t ρ w') : CR P r m n (.region id ops true) Q ρ w := fun a ha => by
  simp only [drawB, Bool.and_eq_true, decide_eq_true_eq] at hB
  refine wpIn_region_any hm ?_
  have hs := WA.sound (Q' := lift n Q) (fun _ _ h => h) _ _ _ _ ((DW.sound hB.1.1 t [] _ ρ _ a hB.2 (h { w with drawn := w.drawn + 1 } (Ext.drew (Ext.refl w))) ha).1 rfl)
  rw [hB.1.2] at hs
  exact any_in hO.out (fun i o ho => List.all_eq_true.1 hn o (Array.mem_toList_iff.2 (Array.mem_of_getElem? ho))) hs
theorem CR.seq {x y : Code} (h : ∀ K : Env → World → Prop, (∀ ρ w, CR P r m n y Q ρ w → K ρ w) → CR P r m n x (thenE K Q) ρ w) : CR P r m n (.seq x y) Q ρ w := fun a ha => by
  refine wpIn_seq (wpIn_mono (h (fun ρ w => CR P r m n y Q ρ w) (fun _ _ h => h) a ha) fun e a' w' hq => ?_)
  obtain ⟨ρ', hf, hq⟩ := hq
  cases e <;> first | exact hq a' hf | exact ⟨ρ', hf, hq⟩
theorem CR.sub {c : Code} (ρ' : Env) (hs : Sub ρ' ρ) (h : CR P r m n c Q ρ' w) : CR P r m n c Q ρ w := fun a ha => h a (ha.sub hs)
theorem CR.cond {c : Operand} {x y : Code} {t : Bool} (hc : ev ρ c = some (.bool t)) (ht : t = true → CR P r m n x Q ρ w) (hf : t = false → CR P r m n y Q ρ w) : CR P r m n (.cond c x y) Q ρ w :=
  fun a ha => wpIn_cond_split (ha.ev hc) (fun h => ht h a ha) (fun h => hf h a ha)
theorem CR.condT {c : Operand} {x y : Code} {t : Bool} (hc : ev ρ c = some (.bool t)) (ht : t = true) (h : CR P r m n x Q ρ w) : CR P r m n (.cond c x y) Q ρ w :=
  CR.cond hc (fun _ => h) (fun hf => absurd (ht.symm.trans hf) (by decide))
theorem CR.condF {c : Operand} {x y : Code} {t : Bool} (hc : ev ρ c = some (.bool t)) (ht : t = false) (h : CR P r m n y Q ρ w) : CR P r m n (.cond c x y) Q ρ w :=
  CR.cond hc (fun hf => absurd (ht.symm.trans hf) (by decide)) (fun _ => h)
theorem CR.skip (h : Q .normal ρ w) : CR P r m n .skip Q ρ w := fun _ ha => wpIn_skip ⟨ρ, ha, h⟩
theorem CR.ret (h : Q .ret ρ w) : CR P r m n .ret Q ρ w := fun _ ha => wpIn_ret ⟨ρ, ha, h⟩
theorem CR.block {id : Nat} {c : Code} (h : CR P r m n c (blockE id Q) ρ w) : CR P r m n (.block id c) Q ρ w := fun a ha => by
  refine wpIn_block (wpIn_mono (h a ha) fun e a' w' hq => ?_)
  obtain ⟨ρ', hf, hq⟩ := hq
  cases e with
  | exit id' =>
    simp only [blockE] at hq
    simp only [Exit.inBlock]
    split at hq
    · rename_i hb
      rw [if_pos (Nat.eq_of_beq_eq_true hb)]
      exact ⟨ρ', hf, hq⟩
    · rename_i hb
      rw [if_neg (fun e => by subst e; simp at hb)]
      exact ⟨ρ', hf, hq⟩
  | _ => exact ⟨ρ', hf, hq⟩
theorem CR.seqJ {x y : Code} (J : Env → World → Prop) (hJ : ∀ ρ w, J ρ w → CR P r m n y Q ρ w)
    (h : ∀ K : Env → World → Prop, (∀ ρ w, CR P r m n y Q ρ w → K ρ w) → (∀ ρ w, (∃ ρ', Sub ρ' ρ ∧ J ρ' w) → K ρ w) → CR P r m n x (thenE K Q) ρ w) : CR P r m n (.seq x y) Q ρ w :=
  CR.seq fun K hK => h K hK fun ρ w ⟨ρ', hs, hj⟩ => hK ρ w (CR.sub ρ' hs (hJ ρ' w hj))
end
/-- What is called with yield hands over the rows of xs, one after another, and stops where yield says so; in a world of which Rd says what it reads. -/
def Iter (P : Program) (gf : Nat) (lb : Array Value) (xs : List (Array Value)) (Rd : World → Prop) : Prop :=
  ∀ (r : Nat) (J : Nat → World → Prop) (Jx : World → Prop) (W : World),
    (∀ i W1, J i W1 → Rd W1) → (∀ i W1 W2, J i W1 → Ext W1 W2 → J i W2) →
    (∀ i W1 x, J i W1 → xs[i]? = some x → YieldAt Fence.wide 1 P r x W1 fun e W' => (e = .returned (.bool true) ∧ J (i + 1) W') ∨ (e = .returned (.bool false) ∧ Jx W')) →
    J 0 W →
    CallsIn Fence.wide 2 P gf (#[.func (.yield r) #[] #[]] ++ lb) W fun e W' => (∃ v, e = .returned v) ∧ (J xs.length W' ∨ Jx W')
abbrev lrec (fn : FuncId) (a : Act) (ps : Array Tmp) (assign body : Code) (D : Nat) (st : LoopState) (pe : Option Code) : Loop := { state := st, pending := pe, fn, tmps := a.tmps, params := ps, assign, body, defers := D }
def lck (r D : Nat) (o : Obj) : Ck := .inv [r, D] fun W => W.heap[r]? = some o ∧ W.heap[D]? = some (.deferred (some []))
theorem lck_holds {W : World} {r D : Nat} {o : Obj} (h1 : W.heap[r]? = some o) (h2 : W.heap[D]? = some (.deferred (some []))) : (lck r D o).holds W :=
  ⟨fun b hb => by
    simp at hb
    rcases hb with rfl | rfl
    · exact (Array.getElem?_eq_some_iff.1 h1).1
    · exact (Array.getElem?_eq_some_iff.1 h2).1, ⟨h1, h2⟩, fun w1 w2 hl h hq => ⟨(h r (by simp)).trans hq.1, (h D (by simp)).trans hq.2⟩⟩
theorem lck_at {w0 W : World} {L : List Ck} {r D : Nat} {o : Obj} (H : Hp w0 W (L ++ [lck r D o])) : W.heap[r]? = some o ∧ W.heap[D]? = some (.deferred (some [])) := (H.holds L.length (lck r D o) (by simp)).2.1
theorem lck_put {w0 W : World} {L : List Ck} {r D : Nat} {o : Obj} (o' : Obj) (hne : D ≠ r) (H : Hp w0 W (L ++ [lck r D o])) : Hp w0 (W.putObj r o') (L ++ [lck r D o']) := by
  obtain ⟨h1, h2⟩ := lck_at H
  have hlt := (Array.getElem?_eq_some_iff.1 h1).1
  have hf := H.fresh L.length (lck r D o) (by simp) r (by simp [lck, Ck.bl])
  have h := H.step (w' := W.putObj r o') L.length (x := lck r D o) (y := lck r D o') (by simp)
    (Below.grown H.ext (grownBy_putObj' W r o') (Below.size H.ext) (fun k e => by cases e; exact hf))
    (fun b _ hb => World.putObj_heap_other (fun e => hb (by rw [e]; simp [lck, Ck.bl])))
    (lck_holds (World.putObj_heap_same hlt) ((World.putObj_heap_other hne).trans h2)) (fun b hb => .inl hb)
  simpa using h
def dck (D : Nat) : Ck := .inv [D] fun W => W.heap[D]? = some (.deferred (some []))
theorem lck_dck {w0 W : World} {L : List Ck} {r D : Nat} {o : Obj} (H : Hp w0 W (L ++ [lck r D o])) : Hp w0 W (L ++ [dck D]) := by
  obtain ⟨_, h2⟩ := lck_at H
  have h := H.step (w' := W) L.length (x := lck r D o) (y := dck D) (by simp) H.ext (fun _ _ _ => rfl)
    ⟨fun b hb => by simp at hb; rw [hb]; exact (Array.getElem?_eq_some_iff.1 h2).1, h2, fun w1 w2 hl h hq => (h D (by simp)).trans hq⟩ (fun b hb => .inl (by simp [dck, lck, Ck.bl] at *; exact .inr hb))
  simpa using h
/-- The mark's block is shut; all else lies as it lay. -/
theorem dck_take {w0 W : World} {L : List Ck} {D : Nat} (H : Hp w0 W (L ++ [dck D])) : W.heap[D]? = some (.deferred (some [])) ∧ Hp w0 (W.putObj D (.deferred none)) L := by
  have h2 : W.heap[D]? = some (.deferred (some [])) := (H.holds L.length (dck D) (by simp)).2.1
  have hlt := (Array.getElem?_eq_some_iff.1 h2).1
  have hf := H.fresh L.length (dck D) (by simp) D (by simp [dck, Ck.bl])
  have h := H.step (w' := W.putObj D (.deferred none)) L.length (x := dck D) (y := .inv [D] fun W => W.heap[D]? = some (.deferred none)) (by simp)
    (Below.grown H.ext (grownBy_putObj' W D _) (Below.size H.ext) (fun k e => by cases e; exact hf))
    (fun b _ hb => World.putObj_heap_other (fun e => hb (by rw [e]; simp [dck, Ck.bl])))
    ⟨fun b hb => by simp at hb; rw [hb]; simpa using hlt, World.putObj_heap_same hlt, fun w1 w2 hl h hq => (h D (by simp)).trans hq⟩ (fun b hb => .inl hb)
  refine ⟨h2, ?_⟩
  have h' : Hp w0 (W.putObj D (.deferred none)) (L ++ [.inv [D] fun W => W.heap[D]? = some (.deferred none)]) := by simpa using h
  have g := Hp.pick (L' := L) h' (List.range L.length) List.nodup_range (by
    apply List.ext_getElem?
    intro i
    by_cases hi : i < L.length
    · simp [hi, List.getElem?_append_left hi]
    · rw [List.getElem?_eq_none (by simpa using hi), List.getElem?_eq_none (by simpa using hi)])
  exact g
/-- The env of a round: yield's arguments in the parameters. -/
def penv : List Tmp → List Value → Env → Env
  | p :: ps, x :: xs, ρ => penv ps xs ((p, x) :: ρ)
  | _, _, ρ => ρ
theorem penv_fits {n : Nat} : ∀ (ps : List Tmp) (xs : List Value) (ρ : Env) (t : Array Value) (ds : List Deferred), Fits n ρ { tmps := t, defers := [] } → (∀ p ∈ ps, p < n) → Fits n (penv ps xs ρ) { tmps := (ps.zip xs).foldl (fun t (px : Tmp × Value) => t.setIfInBounds px.1 px.2) t, defers := [] }
  | [], _, ρ, t, ds, h, _ => by simpa [penv] using h
  | p :: ps, [], ρ, t, ds, h, _ => by simpa [penv] using h
  | p :: ps, x :: xs, ρ, t, ds, h, hp => by
    simp only [penv, List.zip_cons_cons, List.foldl_cons]
    refine penv_fits ps xs _ _ ds ?_ (fun q hq => hp q (by simp [hq]))
    exact h.upd (d := some p) (by simp [okDst, Nat.blt_eq, hp p (by simp)]) x
end Go.Tb

set_option linter.unusedVariables false
set_option linter.unusedSimpArgs false
namespace Go.Tb
open Go.RowKit
theorem Hp.snoc {w0 w w' : World} {L : List Ck} (h : Hp w0 w L) (e : Ext w w') {x : Ck} (hx : x.holds w') (fr : ∀ b ∈ x.bl, w.heap.size ≤ b) : Hp w0 w' (L ++ [x]) := by
  refine Hp.pick (h.cons e hx fr) (List.range' 1 L.length ++ [0]) ?_ ?_
  · rw [List.nodup_append]
    refine ⟨List.nodup_range', by simp, fun a ha b hb => ?_⟩
    rw [List.mem_range'_1] at ha
    simp at hb
    omega
  · rw [List.map_append, List.map_append]
    congr 1
    apply List.ext_getElem?
    intro i
    by_cases hi : i < L.length
    · simp [hi, Nat.add_comm 1 i]
    · rw [List.getElem?_eq_none (by simpa using hi), List.getElem?_eq_none (by simpa using hi)]
abbrev mark (D : Nat) : Deferred := { target := .collected D, args := #[] }
def rpost {V Vx : Type} (w0 : World) (Φ : Nat → V → Prop) (Lv : V → List Ck) (Ψ : Vx → Prop) (Lx : Vx → List Ck) (i : Nat) (X : Ck) : Exit → Env → World → Prop
  | .normal, _, W => ∃ v, Φ (i + 1) v ∧ Hp w0 W (Lv v ++ [X])
  | .ret, _, W => ∃ v, Ψ v ∧ Hp w0 W (Lx v ++ [X])
  | _, _, _ => False
theorem zip_fold (ps : Array Tmp) (xs : Array Value) (t : Array Value) : (ps.zip xs).foldl (fun t (px : Tmp × Value) => t.setIfInBounds px.1 px.2) t = (ps.toList.zip xs.toList).foldl (fun t (px : Tmp × Value) => t.setIfInBounds px.1 px.2) t := by
  rw [← Array.foldl_toList, Array.toList_zip]
theorem wp_range {P : Program} {n : Nat} {ρ : Env} {w0 w : World} {a : Act} {V Vx Va : Type} {g : Operand} {ps : Array Tmp} {assign body : Code} {Q : Exit → Act → World → Prop} (ha : Fits n ρ a)
    {gf : Nat} {lb : Array Value} (hg : ev ρ g = some (.func (.func gf) #[] lb)) (eg : ∀ args w, (callFunc gf args).run P w = .ok (.enter gf args) w)
    {xs : List (Array Value)} (hps : ∀ x ∈ xs, x.size = ps.size) (hpn : ∀ p ∈ ps.toList, p < n) {Rd : World → Prop} (hit : Iter P gf lb xs Rd)
    (Φ : Nat → V → Prop) (Lv : V → List Ck) (Φa : Nat → Va → Env → Prop) (La : Va → List Ck) (Ψ : Vx → Prop) (Lx : Vx → List Ck)
    (hRd : ∀ i v W X, Φ i v → Hp w0 W (Lv v ++ [X]) → Rd W) (v0 : V) (h0 : Φ 0 v0) (H : Hp w0 w (Lv v0))
    (hassign : ∀ r i v W X x, Φ i v → xs[i]? = some x → Hp w0 W (Lv v ++ [X]) → CR P r 1 n assign (fun e ρ' W' => e = .normal ∧ ∃ v', Φa i v' ρ' ∧ Hp w0 W' (La v' ++ [X])) (penv ps.toList x.toList ρ) W)
    (hbody : ∀ r i v ρ' W X, Φa i v ρ' → Hp w0 W (La v ++ [X]) → CR P r 1 n body (rpost w0 Φ Lv Ψ Lx i X) ρ' W)
    (hdone : ∀ D v W, Φ xs.length v → Hp w0 W (Lv v ++ [dck D]) → Q .normal { a with defers := [mark D] } W)
    (hret : ∀ D v W, Ψ v → Hp w0 W (Lx v ++ [dck D]) → Q .ret { a with defers := [mark D] } W) :
    (Code.rangeFunc g ps assign body).wp P Q a w := by
  refine (wpIn_wide (n := 3)).1 (wpIn_rangeFunc ?_)
  intro fn _
  obtain ⟨rec, hrec⟩ : ∃ rec : LoopState → Option Code → Loop, rec = lrec fn a ps assign body w.heap.size := ⟨_, rfl⟩
  obtain ⟨W1, hW1⟩ : ∃ W1, (w.alloc (.deferred (some []))).alloc (.loop (rec .ready none)) = W1 := ⟨_, rfl⟩
  have had := ha.defers
  have hne : w.heap.size ≠ w.heap.size + 1 := by omega
  have hL1 : W1.heap[w.heap.size + 1]? = some (.loop (rec .ready none)) := by
    rw [← hW1]; have := World.alloc_heap_new (w.alloc (.deferred (some []))) (.loop (rec .ready none)); rwa [World.size_alloc] at this
  have hK1 : W1.heap[w.heap.size]? = some (.deferred (some [])) := by
    rw [← hW1]; exact (Below.heap_alloc _ _ _ (by simp)).trans (World.alloc_heap_new w _)
  have hE : Ext w W1 := by
    rw [← hW1]; exact ((Below.refl _ w).alloc (Nat.le_refl _) _).alloc (by simp) _
  have H1 : Hp w0 W1 (Lv v0 ++ [lck (w.heap.size + 1) w.heap.size (.loop (rec .ready none))]) := H.snoc hE (lck_holds hL1 hK1) (by
    intro b hb
    simp [lck, Ck.bl] at hb
    omega)
  refine ⟨w.heap.size + 1, [mark w.heap.size], W1, { target := .fn (.func gf) lb, args := #[.func (.yield (w.heap.size + 1)) #[] #[]] }, W1, gf,
    #[.func (.yield (w.heap.size + 1)) #[] #[]] ++ lb, W1, ?_, ?_, fun _ _ => trivial, ?_, (fun h => by cases h), ?_⟩
  · rw [← hW1, hrec]; exact run_enterLoop_outer _ _ _ _ _
  · simp only [resolve, ha.ev hg]
    simp [go_sem]
  · simp [invoke, go_sem, eg]
  refine (hit (w.heap.size + 1) (fun i W => ∃ v, Φ i v ∧ Hp w0 W (Lv v ++ [lck (w.heap.size + 1) w.heap.size (.loop (rec .ready none))]))
    (fun W => ∃ v, Ψ v ∧ Hp w0 W (Lx v ++ [lck (w.heap.size + 1) w.heap.size (.loop (rec .done (some .ret)))])) W1
    (fun i W ⟨v, h1, h2⟩ => hRd i v W _ h1 h2) (fun i W W' ⟨v, h1, h2⟩ e => ⟨v, h1, h2.grow e⟩) ?_ ⟨v0, h0, H1⟩).mono ?_
  · rintro i W x ⟨v, hv, HW⟩ hx
    obtain ⟨hl, _⟩ := lck_at HW
    have hsz := hps x (List.mem_of_getElem? hx)
    have hy := run_yield (P := P) (args := x) hl (by rw [hrec]; exact hsz)
    rw [hrec] at hy
    refine ⟨fn, _, assign, body, hy, roundIn_of_wpIn trivial ?_⟩
    have hfit : Fits n (penv ps.toList x.toList ρ) { tmps := (ps.zip x).foldl (fun t (px : Tmp × Value) => t.setIfInBounds px.1 px.2) a.tmps, defers := [] } := by
      rw [zip_fold]
      exact penv_fits _ _ _ _ [] ⟨rfl, ha.size, ha.at_⟩ hpn
    refine wpIn_mono (hassign (w.heap.size + 1) i v W _ x hv hx HW _ hfit) ?_
    rintro e a1 W2 ⟨ρ', hf1, rfl, v', hv', H2⟩
    obtain ⟨hl2, _⟩ := lck_at H2
    refine ⟨_, run_beginRound hl2 (by rw [hrec]), ?_⟩
    have H3 := lck_put (.loop { rec .ready none with state := .busy }) hne H2
    refine wpIn_mono (hbody (w.heap.size + 1) i v' ρ' _ _ hv' H3 a1 hf1) ?_
    rintro e a2 W3 ⟨ρ2, hf2, hp⟩
    cases e with
    | normal =>
      obtain ⟨v2, hv2, H4⟩ := hp
      obtain ⟨hl4, _⟩ := lck_at H4
      refine ⟨_, _, run_endRound none hl4, .inl ⟨rfl, v2, hv2, ?_⟩⟩
      have := lck_put (.loop { { rec .ready none with state := .busy } with state := .ready, pending := none }) hne H4
      rw [hrec] at this ⊢
      exact this
    | ret =>
      obtain ⟨v2, hv2, H4⟩ := hp
      obtain ⟨hl4, _⟩ := lck_at H4
      refine ⟨_, _, run_endRound (some .ret) hl4, .inr ⟨rfl, v2, hv2, ?_⟩⟩
      have := lck_put (.loop { { rec .ready none with state := .busy } with state := .done, pending := some .ret }) hne H4
      rw [hrec] at this ⊢
      exact this
    | exit id => exact hp.elim
    | goto t => exact hp.elim
    | panic ch => exact hp.elim
    | outgrown => exact hp.elim
  · subst hrec
    rintro e W2 ⟨⟨v, rfl⟩, (⟨v2, hv2, H2⟩ | ⟨v2, hv2, H2⟩)⟩
    · obtain ⟨hl, _⟩ := lck_at H2
      have hend := run_endLoop (P := P) hl (by simp)
      have H3 := lck_dck (lck_put (.loop { lrec fn a ps assign body w.heap.size .ready none with state := .exhausted }) hne H2)
      refine ⟨none, _, hend, ?_⟩
      have := hdone w.heap.size v2 _ hv2 H3
      rw [had]
      exact this
    · obtain ⟨hl, _⟩ := lck_at H2
      have hend := run_endLoop (P := P) hl (by simp)
      have H3 := lck_dck (lck_put (.loop { lrec fn a ps assign body w.heap.size .done (some .ret) with state := .exhausted }) hne H2)
      refine ⟨some .ret, _, hend, ?_⟩
      have := hret w.heap.size v2 _ hv2 H3
      rw [had]
      exact wpIn_ret this
def qop (o : Oper) : Bool := match o.op with
  | .move _ | .assign _ | .load _ _ | .store _ _ _ | .fieldAddr _ _ _ | .indexAddr _ _ _ | .binOp _ _ _ _ _ | .unOp _ _ _ | .extract _ _ | .field _ _ _ | .build _ _ => true
  | _ => false
def isVS : Result Next → Bool
  | .ok (.value _) _ => true
  | .ok .skip _ => true
  | .ok _ _ => false
  | .halt _ _ => true
section
variable {P : Program} {ops : Array Oper} {Q : Exit → Act → World → Prop} {ds : List Deferred}
theorem isVS_v {s : Sem Value} {w : World} : isVS ((do pure (Next.value (← s)) : Sem Next).run P w) = true := by
  rw [Sem.run_bind]
  cases s.run P w <;> simp [Result.andThen, isVS]
theorem isVS_u {s : Sem Unit} {w : World} : isVS ((do s; pure Next.skip : Sem Next).run P w) = true := by
  rw [Sem.run_bind]
  cases s.run P w <;> simp [Result.andThen, isVS]
theorem qop_run {o : Oper} (h : qop o = true) (ρ : Operand → Value) (w : World) : isVS ((execOp ρ o).run P w) = true := by
  unfold qop at h
  unfold execOp
  cases ho : o.op <;> rw [ho] at h <;> simp only at h ⊢ <;> first
    | exact isVS_v
    | exact isVS_u
    | (simp [isVS]; done)
    | (exfalso; cases h; done)
    | cases h
def Qd (ds : List Deferred) (Q : Exit → Act → World → Prop) : Exit → Act → World → Prop := fun e a w => a.defers = ds ∧ Q e { a with defers := [] } w
theorem put_defers (a : Act) (d : Option Nat) (v : Value) : (a.put d v).defers = a.defers ∧ ({ a with defers := [] } : Act).put d v = { (a.put d v) with defers := [] } := by
  cases d <;> exact ⟨rfl, rfl⟩
theorem op_ds {o : Oper} {a : Act} {w : World} {K : Act → World → Prop} (hq : qop o = true) (ha : a.defers = ds) (h : o.wp P { a with defers := [] } w K Q) : o.wp P a w (fun a' w' => a'.defers = ds ∧ K { a' with defers := [] } w') (Qd ds Q) := by
  unfold Oper.wp at *
  rw [eval_defers] at h
  have hr := qop_run (P := P) hq a.eval w
  generalize (execOp a.eval o).run P w = x at *
  cases x with
  | ok y w' =>
    cases y <;> simp only [isVS] at hr <;> first
      | (simp only [Oper.upon] at h ⊢
         rw [(put_defers a o.dst _).2] at h
         exact ⟨(put_defers a o.dst _).1.trans ha, h⟩)
      | (exfalso; cases hr; done)
      | cases hr
  | halt y w' => cases y <;> simp only [Oper.upon] at h ⊢ <;> first | exact h | exact ⟨ha, h⟩
theorem asks_ds {o : Oper} {a : Act} {w : World} (h : o.asks P { a with defers := [] } w) : o.asks P a w := by
  unfold Oper.asks at *
  rw [eval_defers] at h
  exact h
theorem lets_ds (hQ : ∀ a w, Q .outgrown a w → a.defers = []) (h : LetsOut Q) : LetsOut (Qd ds Q) := by
  obtain ⟨a, w, h⟩ := h
  have := hQ a w h
  refine ⟨{ a with defers := ds }, w, rfl, ?_⟩
  obtain ⟨t, d⟩ := a
  simp only at this
  subst this
  exact h
theorem op_at_ds (hQ : ∀ a w, Q .outgrown a w → a.defers = []) (hn : ∀ (i : Nat) (o : Oper), ops[i]? = some o → qop o = true) {i : Nat} {K : Act → World → Prop} {a : Act} {w : World} (ha : a.defers = ds) (h : wpOp P ops Q i K { a with defers := [] } w) :
    wpOp P ops (Qd ds Q) i (fun a' w' => a'.defers = ds ∧ K { a' with defers := [] } w') a w := by
  unfold wpOp at *
  cases ho : ops[i]? with
  | none => simp only [ho] at h ⊢; exact ⟨ha, h⟩
  | some o =>
    simp only [ho] at h ⊢
    split
    · rename_i hw
      rw [if_pos hw] at h
      rcases h with h | h
      · exact .inl (op_ds (hn i o ho) ha h)
      · exact .inr ⟨asks_ds h.1, lets_ds hQ h.2⟩
    · rename_i hw
      rw [if_neg hw] at h
      obtain ⟨e1, e2⟩ := put_defers a o.dst undef
      rw [e2] at h
      exact ⟨e1.trans ha, h⟩
theorem any_ds (hQ : ∀ a w, Q .outgrown a w → a.defers = []) (hn : ∀ (i : Nat) (o : Oper), ops[i]? = some o → qop o = true) {md : Region.Mode} : ∀ {fuel : Nat} {listed : Array Bool} {a : Act} {w : World}, a.defers = ds → wpAny P md ops Q fuel listed { a with defers := [] } w → wpAny P md ops (Qd ds Q) fuel listed a w
  | 0, _, _, _, ha, h => ⟨h.1, ha, h.2⟩
  | fuel + 1, listed, a, w, ha, h => ⟨fun hr => ⟨ha, h.1 hr⟩, fun i hi => wpOp_mono (fun a w h => any_ds hQ hn h.1 h.2) (op_at_ds hQ hn ha (h.2 i hi))⟩
end
section
variable {P : Program} {n : Nat} {ds : List Deferred} {ops : Array Oper} {Q : Exit → Env → World → Prop} {ρ : Env} {w : World}
theorem CWD.draw (hn : ops.toList.all qop = true) (S : List Nat) (X : Nat → Prop) (t : DT) {id : Nat} (hm : P.follows .mixedOrders = true) (hB : drawB ops S t = true) (h : ∀ w', Ext w w' → DW P n ops Q S X t ρ w') : CWD P n ds (.region id ops true) Q ρ w := fun a ha => by
  simp only [drawB, Bool.and_eq_true, decide_eq_true_eq] at hB
  refine wp_mono (Q := Qd ds (lift n Q)) (wp_region_any hm ?_) ?_
  · have hs := WA.sound (Q' := lift n Q) (fun _ _ h => h) _ _ _ _ ((DW.sound hB.1.1 t [] _ ρ _ { a with defers := [] } hB.2 (h { w with drawn := w.drawn + 1 } (Ext.drew (Ext.refl w))) ha.fits).1 rfl)
    rw [hB.1.2] at hs
    exact any_ds (fun a w ⟨ρ, hf, _⟩ => hf.defers) (fun i o ho => List.all_eq_true.1 hn o (Array.mem_toList_iff.2 (Array.mem_of_getElem? ho))) ha.defers hs
  · rintro e a' w' ⟨h1, ρ', hf, hq⟩
    exact ⟨ρ', ⟨h1, hf⟩, hq⟩
end
def bodyD (P : Program) (n : Nat) (rs : Array ResultVar) (R : Ending → World → Prop) (D : Nat) : Exit → Env → World → Prop
  | .normal, ρ, w | .ret, ρ, w => w.heap[D]? = some (.deferred (some [])) ∧ ∃ v, ResOK P n rs ρ (w.putObj D (.deferred none)) v ∧ R (.returned v) (w.putObj D (.deferred none))
  | _, _, _ => False
section
variable {P : Program} {n : Nat} {fn : Func} {rs : Array ResultVar} {R : Ending → World → Prop} {ρ : Env} {w : World}
theorem post_plain (hr : fn.results = rs) {e : Exit} {a : Act} (h : lift n (bodyE P n rs R) e a w) : bodyPostM Fence.wide 1 P fn R e a w := by
  obtain ⟨ρ, hf, hq⟩ := h
  have hd := hf.defers
  cases e with
  | normal => obtain ⟨v, h1, h2⟩ := hq; simp only [bodyPostM, hd]; exact ⟨v, h1 fn a hr hf, h2⟩
  | ret => obtain ⟨v, h1, h2⟩ := hq; simp only [bodyPostM, hd]; exact ⟨v, h1 fn a hr hf, h2⟩
  | panic ch => simp only [bodyPostM, hd]; exact hq
  | outgrown => exact hq
  | exit id => exact hq.elim
  | goto l => exact hq.elim
theorem post_mark (hr : fn.results = rs) {D : Nat} {e : Exit} {a : Act} (h : liftD n [mark D] (bodyD P n rs R D) e a w) : bodyPostM Fence.wide 1 P fn R e a w := by
  obtain ⟨ρ, hf, hq⟩ := h
  have hd := hf.defers
  have key : ∀ v, w.heap[D]? = some (.deferred (some [])) → ResOK P n rs ρ (w.putObj D (.deferred none)) v → R (.returned v) (w.putObj D (.deferred none)) → LeavesInM Fence.wide 1 P fn a.tmps R [mark D] .returning w := fun v h1 h2 h3 =>
    ⟨by simp, .inl ⟨D, _, rfl, run_takeDeferred h1, v, h2 fn { a with defers := [] } hr hf.fits, h3⟩⟩
  cases e with
  | normal => obtain ⟨h1, v, h2, h3⟩ := hq; simp only [bodyPostM, hd]; exact key v h1 h2 h3
  | ret => obtain ⟨h1, v, h2, h3⟩ := hq; simp only [bodyPostM, hd]; exact key v h1 h2 h3
  | panic ch => exact hq.elim
  | outgrown => exact hq.elim
  | exit id => exact hq.elim
  | goto l => exact hq.elim
def CM (P : Program) (n : Nat) (fn : Func) (c : Code) (R : Ending → World → Prop) (ρ : Env) (w : World) : Prop := ∀ a, Fits n ρ a → c.wp P (bodyPostM Fence.wide 1 P fn R) a w
theorem calls_of_cm {f : FuncId} {c : Code} {args : List Value} (hf : P.funcs[f]? = some fn) (hb : fn.body = some c) (hn : fn.ntmps = n) (ha : Nat.ble args.length n = true) (h : CM P n fn c R (argEnv 0 args) w) : Calls P f args.toArray w R := by
  have ha' : args.length ≤ n := Nat.le_of_ble_eq_true ha
  refine (callsIn_wide (n := 1)).1 (callsIn_of_wp_marks hf hb trivial (wpIn_wide.2 (h _ ⟨rfl, ?_, fun t v hl => ?_⟩)))
  · simp [hn]; omega
  · obtain ⟨_, h2⟩ := look_argEnv args 0 t v hl
    have hlt : t < args.length := by
      rcases Nat.lt_or_ge t args.length with h' | h'
      · exact h'
      · simp [List.getElem?_eq_none h'] at h2
    simp only [Nat.sub_zero] at h2
    rw [Array.getElem?_append_left (by simpa using hlt)]
    simpa using h2
theorem CM.seq (hr : fn.results = rs) {x y : Code} (h : ∀ K : Env → World → Prop, (∀ ρ w, CM P n fn y R ρ w → K ρ w) → CW P n x (thenE K (bodyE P n rs R)) ρ w) : CM P n fn (.seq x y) R ρ w := fun a ha => by
  refine wp_seq (wp_mono (h (fun ρ w => CM P n fn y R ρ w) (fun _ _ h => h) a ha) fun e a' w' hq => ?_)
  obtain ⟨ρ', hf, hq⟩ := hq
  cases e with
  | normal => exact hq a' hf
  | exit id => exact post_plain (P := P) (n := n) (R := R) (rs := rs) (w := w') (e := .exit id) hr ⟨ρ', hf, hq⟩
  | goto l => exact post_plain (P := P) (n := n) (R := R) (rs := rs) (w := w') (e := .goto l) hr ⟨ρ', hf, hq⟩
  | ret => exact post_plain (P := P) (n := n) (R := R) (rs := rs) (w := w') (e := .ret) hr ⟨ρ', hf, hq⟩
  | panic ch => exact post_plain (P := P) (n := n) (R := R) (rs := rs) (w := w') (e := .panic ch) hr ⟨ρ', hf, hq⟩
  | outgrown => exact post_plain (P := P) (n := n) (R := R) (rs := rs) (w := w') (e := .outgrown) hr ⟨ρ', hf, hq⟩
theorem CM.sub {c : Code} (ρ' : Env) (hs : Sub ρ' ρ) (h : CM P n fn c R ρ' w) : CM P n fn c R ρ w := fun a ha => h a (ha.sub hs)
theorem CM.seqJ (hr : fn.results = rs) {x y : Code} (J : Env → World → Prop) (hJ : ∀ ρ w, J ρ w → CM P n fn y R ρ w)
    (h : ∀ K : Env → World → Prop, (∀ ρ w, CM P n fn y R ρ w → K ρ w) → (∀ ρ w, (∃ ρ', Sub ρ' ρ ∧ J ρ' w) → K ρ w) → CW P n x (thenE K (bodyE P n rs R)) ρ w) : CM P n fn (.seq x y) R ρ w :=
  CM.seq hr fun K hK => h K hK fun ρ w ⟨ρ', hs, hj⟩ => hK ρ w (CM.sub ρ' hs (hJ ρ' w hj))
/-- The last part of a statement, with what stands behind the statement. -/
def CB (P : Program) (n : Nat) (fn : Func) (b y : Code) (R : Ending → World → Prop) (ρ : Env) (w : World) : Prop := ∀ a, Fits n ρ a → b.wp P (Exit.then (y.wp P (bodyPostM Fence.wide 1 P fn R)) (bodyPostM Fence.wide 1 P fn R)) a w
theorem CM.seqA (hr : fn.results = rs) {x b y : Code} (h : ∀ K : Env → World → Prop, (∀ ρ w, CB P n fn b y R ρ w → K ρ w) → CW P n x (thenE K (bodyE P n rs R)) ρ w) : CM P n fn (.seq (.seq x b) y) R ρ w := fun a ha => by
  refine wp_seq (wp_seq (wp_mono (h (fun ρ w => CB P n fn b y R ρ w) (fun _ _ h => h) a ha) fun e a' w' hq => ?_))
  obtain ⟨ρ', hf, hq⟩ := hq
  cases e with
  | normal => exact hq a' hf
  | exit id => exact post_plain (P := P) (n := n) (R := R) (rs := rs) (w := w') (e := .exit id) hr ⟨ρ', hf, hq⟩
  | goto l => exact post_plain (P := P) (n := n) (R := R) (rs := rs) (w := w') (e := .goto l) hr ⟨ρ', hf, hq⟩
  | ret => exact post_plain (P := P) (n := n) (R := R) (rs := rs) (w := w') (e := .ret) hr ⟨ρ', hf, hq⟩
  | panic ch => exact post_plain (P := P) (n := n) (R := R) (rs := rs) (w := w') (e := .panic ch) hr ⟨ρ', hf, hq⟩
  | outgrown => exact post_plain (P := P) (n := n) (R := R) (rs := rs) (w := w') (e := .outgrown) hr ⟨ρ', hf, hq⟩
theorem CB.range (hr : fn.results = rs) {w0 : World} {V Vx Va : Type} {id : Nat} {g : Operand} {ps : Array Tmp} {assign body y : Code}
    {gf : Nat} {lb : Array Value} (hg : ev ρ g = some (.func (.func gf) #[] lb)) (eg : ∀ args w, (callFunc gf args).run P w = .ok (.enter gf args) w)
    {xs : List (Array Value)} (hps : ∀ x ∈ xs, x.size = ps.size) (hpn : ∀ p ∈ ps.toList, p < n) {Rd : World → Prop} (hit : Iter P gf lb xs Rd)
    (Φ : Nat → V → Prop) (Lv : V → List Ck) (Φa : Nat → Va → Env → Prop) (La : Va → List Ck) (Ψ : Vx → Prop) (Lx : Vx → List Ck)
    (hRd : ∀ i v W X, Φ i v → Hp w0 W (Lv v ++ [X]) → Rd W) (v0 : V) (h0 : Φ 0 v0) (H : Hp w0 w (Lv v0))
    (hassign : ∀ r i v W X x, Φ i v → xs[i]? = some x → Hp w0 W (Lv v ++ [X]) → CR P r 1 n assign (fun e ρ' W' => e = .normal ∧ ∃ v', Φa i v' ρ' ∧ Hp w0 W' (La v' ++ [X])) (penv ps.toList x.toList ρ) W)
    (hbody : ∀ r i v ρ' W X, Φa i v ρ' → Hp w0 W (La v ++ [X]) → CR P r 1 n body (rpost w0 Φ Lv Ψ Lx i X) ρ' W)
    (hdone : ∀ D v W, Φ xs.length v → Hp w0 W (Lv v ++ [dck D]) → CWD P n [mark D] y (bodyD P n rs R D) ρ W)
    (hret : ∀ D v W, Ψ v → Hp w0 W (Lx v ++ [dck D]) → bodyD P n rs R D .ret ρ W) :
    CB P n fn (.block id (.rangeFunc g ps assign body)) y R ρ w := fun a ha => by
  have hfd : ∀ D, FitsD n [mark D] ρ { a with defers := [mark D] } := fun D => ⟨rfl, by
    obtain ⟨t, d⟩ := a
    have := ha.defers
    simp only at this
    subst this
    exact ha⟩
  refine wp_block (wp_range ha hg eg hps hpn hit Φ Lv Φa La Ψ Lx hRd v0 h0 H hassign hbody (fun D v W hv HW => ?_) (fun D v W hv HW => ?_))
  · show y.wp P (bodyPostM Fence.wide 1 P fn R) _ W
    exact wp_mono (hdone D v W hv HW _ (hfd D)) fun e a' w' h => post_mark hr h
  · exact post_mark hr (D := D) ⟨ρ, hfd D, hret D v W hv HW⟩
end
end Go.Tb

set_option linter.unusedVariables false
set_option linter.unusedSimpArgs false
namespace Go.Tb
open Go.RowKit
def LI (P : Program) (m n : Nat) (ops : Array Oper) (Q : Exit → Env → World → Prop) (l : List Oper) (ρ : Env) (w : World) : Prop := ∀ a, Fits n ρ a → wpListIn Fence.wide m P ops (lift n Q) l a w
section
variable {P : Program} {m n : Nat} {ops : Array Oper} {Q : Exit → Env → World → Prop} {ρ : Env} {w : World} {d : Option Tmp} {ty : TypeId} {pos : String} {after : Array Edge}
theorem CW.regionI {id : Nat} {l : List Oper} (h : LI P m n l.toArray Q l ρ w) : CW P n (.region id l.toArray false) Q ρ w := fun a ha => wpIn_wide.1 (wpIn_region_lit (h a ha))
theorem LI.nil (h : Q .normal ρ w) : LI P m n ops Q [] ρ w := fun _ ha => wpListIn_nil ⟨ρ, ha, h⟩
theorem LI.pure {o : Oper} {rest : List Oper} {v : Value} (hg : o.guard = none) (hd : okDst n o.dst = true) (h : RV P n o ρ w v) (k : LI P m n ops Q rest (upd ρ o.dst v) w) : LI P m n ops Q (o :: rest) ρ w := fun a ha => by
  unfold wpListIn
  rw [if_pos (by simp [Region.wanted, hg])]
  refine ⟨fun _ _ => trivial, ?_⟩
  show o.uponIn Fence.wide m P a _ _ ((o.semAt none a.eval).run P w)
  rw [Oper.semAt_none, h a ha]
  exact k _ (ha.upd hd v)
theorem LI.yield {rest : List Oper} {x : Operand} {args : List Operand} {tys : Array TypeId} {vs : List Value} {r : Nat} {R : Ending → World → Prop} (hd : okDst n d = true) (hx : ev ρ x = some (.func (.yield r) #[] #[])) (hv : evs ρ args = some vs)
    (hy : YieldAt Fence.wide m P r vs.toArray w R) (k : ∀ e w', R e w' → ∃ v, e = .returned v ∧ LI P (m + 1) n ops Q rest (upd ρ d v) w') : LI P (m + 1) n ops Q (⟨d, .call ⟨.value x, args.toArray, tys⟩, ty, pos, after, none⟩ :: rest) ρ w := fun a ha => by
  unfold wpListIn
  rw [if_pos (by simp [Region.wanted])]
  refine ⟨fun _ _ => trivial, ?_⟩
  obtain ⟨fn, tmps, assign, body, hy, hR⟩ := hy
  have he : (execOp a.eval ⟨d, .call ⟨.value x, args.toArray, tys⟩, ty, pos, after, none⟩).run P w = .ok (.round r fn tmps assign body) w := by
    simp only [execOp, resolve, ha.ev hx, Deferred.ofValue, Sem.run_bind, Sem.run_pure, Result.andThen_ok]
    simp only [invoke, List.map_toArray, ha.evs hv]
    simpa using hy
  show Oper.uponIn Fence.wide (m + 1) P _ a _ _ ((Oper.semAt none a.eval _).run P w)
  rw [Oper.semAt_none, he, Oper.uponIn_round]
  refine ⟨(fun h => by cases h), hR.mono fun e w' h => ?_⟩
  obtain ⟨v, rfl, h2⟩ := k e w' h
  exact h2 _ (ha.upd hd v)
end
end Go.Tb

namespace Go.Tb
/-- The places of a list and what stands there, from the last to the first. -/
def backL {α : Type} (l : List α) : List (Int × α) := (l.zipIdx.map fun p => ((p.2 : Int), p.1)).reverse
theorem backL_len {α : Type} (l : List α) : (backL l).length = l.length := by unfold backL; simp
theorem backL_at {α : Type} {l : List α} {j : Nat} {x : α} (hx : l[l.length - 1 - j]? = some x) (hj : j < l.length) : (backL l)[j]? = some (((l.length - 1 - j : Nat) : Int), x) := by
  unfold backL
  rw [List.getElem?_reverse (by simpa using hj)]
  simp only [List.length_map, List.length_zipIdx, List.getElem?_map, List.getElem?_zipIdx, hx, Option.map_some]
  simp
theorem drop_at {α : Type} {l : List α} {i : Nat} {p : α} (h : l[i]? = some p) : l.drop i = p :: l.drop (i + 1) := by
  obtain ⟨hlt, rfl⟩ := List.getElem?_eq_some_iff.1 h
  exact List.drop_eq_getElem_cons hlt
end Go.Tb

set_option linter.unusedVariables false
set_option linter.unusedSimpArgs false
namespace Go.Tb
open Go.RowKit
section
variable {P : Program} {ops : Array Oper} {Q : Exit → Act → World → Prop} {ds : List Deferred}
theorem list_ds (hQ : ∀ a w, Q .outgrown a w → a.defers = []) : ∀ {l : List Oper}, l.all qop = true → ∀ {a : Act} {w : World}, a.defers = ds → wpList P ops Q l { a with defers := [] } w → wpList P ops (Qd ds Q) l a w
  | [], _, a, w, ha, h => ⟨ha, h⟩
  | o :: rest, hn, a, w, ha, h => by
    simp only [List.all_cons, Bool.and_eq_true] at hn
    unfold wpList at h ⊢
    have hy : yielded ops ({ a with defers := [] } : Act).tmps = yielded ops a.tmps := rfl
    split at h
    · rename_i hw
      rw [if_pos hw]
      rcases h with h | h
      · refine .inl ?_
        refine Oper.wp_mono (fun a' w' h => ?_) (op_ds hn.1 ha h)
        exact list_ds hQ hn.2 h.1 h.2
      · exact .inr ⟨asks_ds h.1, lets_ds hQ h.2⟩
    · rename_i hw
      rw [if_neg hw]
      obtain ⟨e1, e2⟩ := put_defers a o.dst undef
      rw [e2] at h
      exact list_ds hQ hn.2 (e1.trans ha) h
end
section
variable {P : Program} {n : Nat} {ds : List Deferred} {Q : Exit → Env → World → Prop} {ρ : Env} {w : World}
theorem CWD.regionL {id : Nat} {l : List Oper} (hn : l.all qop = true) (h : LW P n l.toArray Q l ρ w) : CWD P n ds (.region id l.toArray false) Q ρ w := fun a ha => by
  refine wp_mono (Q := Qd ds (lift n Q)) (wp_region_lit (list_ds (fun a w ⟨ρ, hf, _⟩ => hf.defers) hn ha.defers (h _ ha.fits))) ?_
  rintro e a' w' ⟨h1, ρ', hf, hq⟩
  exact ⟨ρ', ⟨h1, hf⟩, hq⟩
theorem CWD.seqK {x y : Code} (h : ∀ K : Env → World → Prop, (∀ ρ w, CWD P n ds y Q ρ w → K ρ w) → CWD P n ds x (thenE K Q) ρ w) : CWD P n ds (.seq x y) Q ρ w :=
  CWD.seq (h (fun ρ w => CWD P n ds y Q ρ w) fun _ _ h => h)
end
end Go.Tb

set_option linter.unusedVariables false
set_option linter.unusedSimpArgs false
namespace Go.D3u
open Go.Tb Go.Proofs Go.RowKit Go.Core Go.D3
theorem Tc83 : callable Try.prog 83 = true := by kernel_rfl
theorem Tk22 : tyK Try.prog 22 = some (false, 1) := by kernel_rfl
theorem Ts22 : tyS Try.prog 22 = some (26, 3, 24, [.int .i64 0, .int .i64 0, .int .i64 0]) := by kernel_rfl
theorem Tk26 : tyK Try.prog 26 = some (true, 3) := by kernel_rfl
set_option maxRecDepth 20000 in
theorem backward_ok {A : Option Addr} {n c : Nat} {w : World} :
    Calls Try.prog 83 #[.slice A n c] w fun e w' => ∃ b : Nat, e = .returned (.func (.func 93) #[] #[.pointer (some ⟨b, 0, none⟩)]) ∧ Hp w w' [.blk b 22 [.slice A n c]] := by
  refine calls_of_cw (args := [.slice A n c]) Try.func83 rfl rfl rfl rfl ?_
  have H := Hp.start w
  refine CW.seq fun K1 hK1 => ?_
  refine CW.region ?_
  refine LW.go rfl rfl (OW.box rfl fun b1 w1 N1 => ?_)
  replace H := H.new N1 N1.blk
  refine LW.pure rfl rfl (RV.assign rfl) ?_
  refine LW.nil (hK1 _ _ ?_)
  refine CW.seq fun K2 hK2 => ?_
  refine CW.region ?_
  refine LW.pure rfl rfl (RV.makeFunc (fs := []) (cs := [.pointer (some ⟨b1, 0, none⟩)]) rfl rfl) ?_
  refine LW.pure rfl rfl (RV.assign rfl) ?_
  refine LW.nil (hK2 _ _ ?_)
  refine CW.ret ?_
  exact ⟨_, ResOK.one rfl, b1, rfl, H⟩
def rowB (p : Int × Bound) : Array Value := #[.int .i64 p.1, .agg #[.int .i64 p.2.a, .int .i64 p.2.b, .int .i64 p.2.most]]
def backX (l : List Bound) : List (Array Value) := (backL l).map rowB
theorem backX_size {l : List Bound} : ∀ x ∈ backX l, x.size = 2 := fun x hx => by
  obtain ⟨p, _, rfl⟩ := List.mem_map.1 hx
  rfl
theorem backX_at {l : List Bound} {i : Nat} {x : Array Value} (h : (backX l)[i]? = some x) : ∃ p, (backL l)[i]? = some p ∧ x = rowB p := by
  unfold backX at h
  rw [List.getElem?_map] at h
  obtain ⟨p, hp, rfl⟩ := Option.map_eq_some_iff.1 h
  exact ⟨p, hp, rfl⟩
theorem drop_all {l : List Bound} : (backL l).drop (backX l).length = [] := by
  unfold backX
  rw [List.length_map, List.drop_length]
structure BackRd (l : List Bound) (b : Nat) (A : Option Addr) (c : Nat) (W : World) : Prop where
  sl : Sl W A c 3 (l.map encBound)
  bx : Cells W ⟨b, 0, none⟩ [.slice A l.length c]
set_option maxRecDepth 20000 in
set_option maxHeartbeats 1000000 in
theorem back_iter {l : List Bound} {b : Nat} {A : Option Addr} {c : Nat} (hl : l.length ≤ 1000000) : Iter Try.prog 93 #[.pointer (some ⟨b, 0, none⟩)] (backX l) (BackRd l b A c) := by
  intro r J Jx w hRd hJe hY h0
  refine callsIn_wide.2 ?_
  refine calls_of_cw (args := [.func (.yield r) #[] #[], .pointer (some (⟨b, 0, none⟩))]) Try.func93 rfl rfl rfl rfl ?_
  have hR := hRd 0 w h0
  refine CW.seq fun K1 hK1 => ?_
  refine CW.region ?_
  refine LW.pure rfl rfl (RV.load1 Tk22 rfl hR.bx rfl) ?_
  refine LW.pure rfl rfl (RV.len Ts22 rfl) ?_
  refine LW.pure rfl rfl (RV.sub rfl rfl (by omega)) ?_
  refine LW.pure rfl rfl (RV.assign rfl) ?_
  refine LW.nil (hK1 _ _ ?_)
  refine CW.block ?_
  refine CW.loop (fun meas ρ wl => ∃ i : Nat, meas + i = l.length ∧ J i wl ∧ ρ = [(0, .func (.yield r) #[] #[]), (1, .pointer (some (⟨b, 0, none⟩))), (3, .int .i64 ((l.length : Int) - 1 - (i : Int)))]) l.length ⟨_, ?_, 0, by omega, h0, rfl⟩ ?_
  · exact ⟨rfl, rfl, look_int rfl (by omega), trivial⟩
  rintro mk _ wl ⟨i, hm, hJ, rfl⟩
  have hR := hRd i wl hJ
  refine CW.seq fun K3 hK3 => ?_
  refine CW.seq fun K2 hK2 => ?_
  refine CW.region ?_
  refine LW.pure rfl rfl (RV.move rfl) ?_
  refine LW.pure rfl rfl (RV.geq rfl rfl) ?_
  refine LW.nil (hK2 _ _ ?_)
  by_cases hp1 : (0 : Int) ≤ (l.length : Int) - 1 - (i : Int)
  · have hq1 := dec_t hp1
    have hil : i < l.length := by omega
    obtain ⟨x, hx⟩ : ∃ x, l[l.length - 1 - i]? = some x := ⟨l[l.length - 1 - i]'(by omega), by rw [List.getElem?_eq_getElem]⟩
    have hxx : (backX l)[i]? = some (rowB (((l.length - 1 - i : Nat) : Int), x)) := by unfold backX; rw [List.getElem?_map, backL_at hx hil]; rfl
    have e : ((l.length - 1 - i : Nat) : Int) = (l.length : Int) - 1 - (i : Int) := by omega
    have hx' : l[((l.length : Int) - 1 - (i : Int)).toNat]? = some x := by rw [← e]; exact hx
    rw [e] at hxx
    refine CW.condT rfl hq1 ?_
    refine CW.skip (hK3 _ _ ?_)
    refine CW.seq fun K4 hK4 => ?_
    refine CW.block ?_
    refine CW.seq fun K7 hK7 => ?_
    refine CW.regionI (m := 2) ?_
    refine LI.pure rfl rfl (RV.move rfl) ?_
    refine LI.pure rfl rfl (RV.move rfl) ?_
    refine LI.pure rfl rfl (RV.load1 Tk22 rfl hR.bx rfl) ?_
    refine LI.pure rfl rfl (RV.move rfl) ?_
    refine LI.pure rfl rfl (RV.indexAddr Ts22 rfl rfl (by omega) (hR.sl.addr_ hx')) ?_
    refine LI.pure rfl rfl (RV.loadA [.int .i64 x.a, .int .i64 x.b, .int .i64 x.most] Tk26 rfl (hR.sl.at_ hx') rfl rfl) ?_
    refine LI.yield (m := 1) (args := [_, _]) rfl rfl rfl (hY i _ _ hJ hxx) ?_
    rintro e w4 (⟨rfl, hJ4⟩ | ⟨rfl, hJx⟩)
    · refine ⟨_, rfl, ?_⟩
      refine LI.pure rfl rfl (RV.not rfl) ?_
      refine LI.nil (hK7 _ _ ?_)
      refine CW.condF rfl rfl ?_
      refine CW.skip (hK4 _ _ ?_)
      refine CW.region ?_
      refine LW.pure rfl rfl (RV.move rfl) ?_
      refine LW.pure rfl rfl (RV.sub rfl rfl (by omega)) ?_
      refine LW.pure rfl rfl (RV.assign rfl) ?_
      refine LW.nil ?_
      refine ⟨mk - 1, by omega, _, ?_, i + 1, by omega, hJ4, rfl⟩
      exact ⟨rfl, rfl, look_int rfl (by omega), trivial⟩
    · refine ⟨_, rfl, ?_⟩
      refine LI.pure rfl rfl (RV.not rfl) ?_
      refine LI.nil (hK7 _ _ ?_)
      refine CW.condT rfl rfl ?_
      refine CW.ret ?_
      exact ⟨_, ResOK.none_, ⟨_, rfl⟩, .inr hJx⟩
  · have hq1 := dec_f hp1
    refine CW.condF rfl hq1 ?_
    refine CW.exit ?_
    have hi : i = (backX l).length := by unfold backX; rw [List.length_map, backL_len]; omega
    exact ⟨_, ResOK.none_, ⟨_, rfl⟩, .inl (hi ▸ hJ)⟩
end Go.D3u

set_option linter.unusedVariables false
namespace Go.D3
open Go.Tb Go.Core
def slices_Clone_Bound (a0 : List Bound) : Option (List Bound) :=
  gd ((([] : List Bound)).length + a0.length ≤ 1000000) <|
  some ((([] : List Bound) ++ a0))
def slices_Delete_Bound (a0 : List Bound) (a1 : Int) (a2 : Int) : Option (List Bound) :=
  gd (0 ≤ a1 ∧ a1 ≤ a2 ∧ a2 ≤ (a0.length : Int)) <|
  some (a0.take (Int.toNat a1) ++ a0.drop (Int.toNat a2))
def core_follows (a0 : List (List Tight)) (a1 : Bound) : Option Bool :=
  ix a0 a1.a fun x1 =>
  ix x1 a1.b fun x2 =>
  if x2.known = true then
    ix a0 a1.a fun x3 =>
    ix x3 a1.b fun x4 =>
    some (decide (x4.most ≤ a1.most))
  else
    some false
def core_Reduce_k1 (a0 : Core) (l1 : List Bound) (rec1 : (List Bound) → Option (Core × Int)) (p : Int × Bound) (l2 : List Bound) : Option (Core × Int) :=
  bnd (core_table ((⟨a0.layers, l2⟩ : Core))) fun r1 =>
  ix l1 p.1 fun x1 =>
  bnd (core_follows r1 x1) fun r2 =>
  if r2 = true then
    rec1 l2
  else
    rec1 l1
def core_Reduce_k2 (a0 : Core) (l1 : List Bound) : Option (Core × Int) :=
  some ((⟨a0.layers, l1⟩ : Core), (0 : Int))
def core_Reduce_B1 (a0 : Core) (rec1 : (List Bound) → Option (Core × Int)) (p : Int × Bound) (l1 : List Bound) : Option (Core × Int) :=
  bnd (slices_Clone_Bound l1) fun r3 =>
  gd (InR (p.1 + 1)) <|
  bnd (slices_Delete_Bound r3 p.1 (p.1 + 1)) fun r4 =>
  core_Reduce_k1 a0 l1 rec1 p r4
def core_Reduce_L1 (a0 : Core) : List (Int × Bound) → (List Bound) → Option (Core × Int)
  | [], l1 => core_Reduce_k2 a0 l1
  | p :: l_, l1 => core_Reduce_B1 a0 (core_Reduce_L1 a0 l_) p l1
def core_Reduce_k3 (a0 : Core) (l3 : List Bound) : Option (Core × Int) :=
  gd (a0.bounds.length ≤ 1000000) <|
  core_Reduce_L1 a0 (backL a0.bounds) l3
def core_Reduce (a0 : Core) : Option (Core × Int) :=
  bnd (core_Validate a0) fun r5 =>
  if r5 = 0 then
    bnd (core_clashes a0) fun r6 =>
    if r6 = true then
      some ((⟨0, []⟩ : Core), (10 : Int))
    else
      bnd (slices_Clone_Bound a0.bounds) fun r7 =>
      core_Reduce_k3 a0 r7
  else
    some ((⟨0, []⟩ : Core), r5)
end Go.D3

set_option linter.unusedVariables false
namespace Go.D3
open Go.Tb Go.Core
def ref03_Tightest (a0 : Core) (a1 : Int) (a2 : Int) : Option (Int × Bool × Int) :=
  bnd (ref03_layered a0 a1 a2) fun r1 =>
  if r1 = 0 then
    bnd (ref03_walks a0 a0.layers) fun r2 =>
    ix r2.2 a1 fun x1 =>
    ix x1 a2 fun x2 =>
    if x2 = true then
      ix r2.1 a1 fun x3 =>
      ix x3 a2 fun x4 =>
      some (x4, true, (0 : Int))
    else
      some ((0 : Int), false, (0 : Int))
  else
    some ((0 : Int), false, r1)
def ref03_Follows_k1 (a0 : Core) (a1 : Bound) (t30_1 : Bool) : Option (Bool × Int) :=
  if t30_1 = true then
    some (false, (4 : Int))
  else
    bnd (ref03_isBound a1 a0.layers) fun r1 =>
    if r1 = true then
      bnd (ref03_Tightest a0 a1.a a1.b) fun r2 =>
      if r2.2.1 = true then
        some (decide (r2.1 ≤ a1.most), r2.2.2)
      else
        some (false, r2.2.2)
    else
      some (false, (1 : Int))
def ref03_Follows (a0 : Core) (a1 : Bound) : Option (Bool × Int) :=
  bnd (ref03_Validate a0) fun r3 =>
  if r3 = 0 then
    gd (InR (a0.layers - 1)) <|
    bnd (ref03_within a1.a ((0 : Int)) (a0.layers - 1)) fun r4 =>
    if r4 = true then
      gd (InR (a0.layers - 1)) <|
      bnd (ref03_within a1.b ((0 : Int)) (a0.layers - 1)) fun r5 =>
      ref03_Follows_k1 a0 a1 ((!r5))
    else
      ref03_Follows_k1 a0 a1 true
  else
    some (false, r3)
def ref03_Reduce_k1 (c1_0_1 : Int) (l1 : List Bound) : Option (Core × Int) :=
  some ((⟨c1_0_1, l1⟩ : Core), (0 : Int))
def ref03_Reduce_k2 (t6_1 : Int) (rec1 : Int → Int → (List Bound) → Option (Core × Int)) (c2_0_1 : Int) (l2 : List Bound) : Option (Core × Int) :=
  gd (InR (t6_1 - 1)) <|
  rec1 ((t6_1 - 1)) c2_0_1 l2
def ref03_Reduce_k3 (a0 : Core) (t6_1 : Int) (c2_0_2 : Int) (l3 : List Bound) (rec1 : Int → Int → (List Bound) → Option (Core × Int)) (l4 : List Bound) : Option (Core × Int) :=
  ix l3 t6_1 fun x1 =>
  bnd (ref03_Follows ((⟨a0.layers, l4⟩ : Core)) x1) fun r1 =>
  if r1.1 = true then
    ref03_Reduce_k2 t6_1 rec1 a0.layers l4
  else
    ref03_Reduce_k2 t6_1 rec1 c2_0_2 l3
def ref03_Reduce_B1 (a0 : Core) (rec1 : Int → Int → (List Bound) → Option (Core × Int)) (t6_1 : Int) (c2_0_2 : Int) (l3 : List Bound) : Option (Core × Int) :=
  if (0 : Int) ≤ t6_1 then
    gd (0 ≤ t6_1 ∧ t6_1 ≤ (l3.length : Int)) <|
    gd ((([] : List Bound)).length + ((List.take (Int.toNat t6_1) l3)).length ≤ 1000000) <|
    gd (InR (t6_1 + 1)) <|
    gd (0 ≤ (t6_1 + 1) ∧ (t6_1 + 1) ≤ (l3.length : Int)) <|
    gd (((([] : List Bound) ++ (List.take (Int.toNat t6_1) l3))).length + ((List.drop (Int.toNat (t6_1 + 1)) l3)).length ≤ 1000000) <|
    ref03_Reduce_k3 a0 t6_1 c2_0_2 l3 rec1 ((((([] : List Bound) ++ (List.take (Int.toNat t6_1) l3)) ++ (List.drop (Int.toNat (t6_1 + 1)) l3))))
  else
    ref03_Reduce_k1 c2_0_2 l3
def ref03_Reduce_L1 (a0 : Core) : Nat → Int → Int → (List Bound) → Option (Core × Int)
  | 0, _, _, _ => none
  | n_ + 1, t6_1, c2_0_2, l3 => ref03_Reduce_B1 a0 (ref03_Reduce_L1 a0 n_) t6_1 c2_0_2 l3
def ref03_Reduce (a0 : Core) : Option (Core × Int) :=
  bnd (ref03_Validate a0) fun r2 =>
  if r2 = 0 then
    bnd (ref03_clashes a0) fun r3 =>
    if r3 = true then
      some ((⟨0, []⟩ : Core), (10 : Int))
    else
      bnd (ref03_Copy a0) fun r4 =>
      gd (InR (((r4.bounds.length : Int)) - 1)) <|
      ref03_Reduce_L1 a0 FU ((((r4.bounds.length : Int)) - 1)) r4.layers r4.bounds
  else
    some ((⟨0, []⟩ : Core), r2)
end Go.D3

set_option linter.unusedVariables false
namespace Go.D3
open Go.Tb Go.Core
def core_Fixed_k1 (a1 : Int) (a2 : Int) (r1 : (List (List Tight)) × Int) (t33_1 : Bool) : Option (Int × Bool × Int) :=
  if t33_1 = true then
    some ((0 : Int), false, r1.2)
  else
    ix r1.1 a1 fun x1 =>
    ix x1 a2 fun x2 =>
    some (x2.most, true, (0 : Int))
def core_Fixed (a0 : Core) (a1 : Int) (a2 : Int) : Option (Int × Bool × Int) :=
  bnd (core_layers a0 (([a1, a2] : List Int))) fun r2 =>
  if r2 = 0 then
    bnd (core_tables a0) fun r1 =>
    if r1.2 = 0 then
      bnd (core_fixed r1.1 a1 a2) fun r3 =>
      core_Fixed_k1 a1 a2 r1 ((!r3))
    else
      core_Fixed_k1 a1 a2 r1 true
  else
    some ((0 : Int), false, r2)
def core_Follows (a0 : Core) (a1 : Bound) : Option (Bool × Int) :=
  bnd (core_layers a0 (([a1.a, a1.b] : List Int))) fun r1 =>
  if r1 = 0 then
    bnd (core_right a1 a0.layers) fun r2 =>
    if r2 = true then
      bnd (core_tables a0) fun r3 =>
      if r3.2 = 0 then
        bnd (core_follows r3.1 a1) fun r4 =>
        some (r4, r3.2)
      else
        some (false, r3.2)
    else
      some (false, (1 : Int))
  else
    some (false, r1)
def top_TopDates_k1 (a0 : Core) (a2 : Bound) (r1 : Bool × Int) (t225_1 : Bool) : Option Bool :=
  if t225_1 = true then
    some true
  else
    gd (InR (-a2.most)) <|
    gd (InR ((-a2.most) - 1)) <|
    bnd (core_Both a0 ((⟨a0.layers, ([(⟨a2.b, a2.a, (-a2.most) - 1⟩ : Bound)] : List Bound)⟩ : Core))) fun r2 =>
    if r2.2 = 0 then
      bnd (core_IsPossible r2.1) fun r3 =>
      if r3.2 = 0 then
        some (r3.1 == (!r1.1))
      else
        some false
    else
      some true
def top_TopDates_k2 (a0 : Core) (a2 : Bound) (t212_1 : Bool) : Option Bool :=
  if t212_1 = true then
    some false
  else
    bnd (core_Follows a0 a2) fun r1 =>
    if r1.2 = 0 then
      top_TopDates_k1 a0 a2 r1 ((decide (a2.most = 10000)))
    else
      top_TopDates_k1 a0 a2 r1 true
def top_TopDates_k3 (a0 : Core) (a2 : Bound) : Option Bool :=
  bnd (core_Reduce a0) fun r4 =>
  bnd (core_Same r4.1 a0) fun r5 =>
  if r4.2 = 0 then
    if r5.2 = 0 then
      if r5.1 = true then
        top_TopDates_k2 a0 a2 ((decide (((a0.bounds.length : Int)) < ((r4.1.bounds.length : Int)))))
      else
        top_TopDates_k2 a0 a2 true
    else
      top_TopDates_k2 a0 a2 true
  else
    top_TopDates_k2 a0 a2 true
def top_TopDates_k4 (a0 : Core) (a2 : Bound) (r6 : Int) (t18_1 : Bool) : Option Bool :=
  if (t18_1 == (decide (r6 = 0))) = true then
    top_TopDates_k3 a0 a2
  else
    some false
def top_TopDates_k5 (t19_1 : Int) (rec1 : Bool → Int → Option Bool) (t18_2 : Bool) : Option Bool :=
  gd (InR (t19_1 + 1)) <|
  rec1 t18_2 ((t19_1 + 1))
def top_TopDates_k6 (a1 : List Int) (r7 : (List Bound) × Int) (t18_3 : Bool) (t19_1 : Int) (rec1 : Bool → Int → Option Bool) (t152_1 : Bool) : Option Bool :=
  if t152_1 = true then
    some false
  else
    if t18_3 = true then
      ix r7.1 t19_1 fun x1 =>
      ix a1 x1.b fun x2 =>
      ix r7.1 t19_1 fun x3 =>
      ix a1 x3.a fun x4 =>
      gd (InR (x2 - x4)) <|
      ix r7.1 t19_1 fun x5 =>
      top_TopDates_k5 t19_1 rec1 ((decide ((x2 - x4) ≤ x5.most)))
    else
      top_TopDates_k5 t19_1 rec1 false
def top_TopDates_B1 (a0 : Core) (a1 : List Int) (a2 : Bound) (r7 : (List Bound) × Int) (r6 : Int) (rec1 : Bool → Int → Option Bool) (t18_3 : Bool) (t19_1 : Int) : Option Bool :=
  if t19_1 < ((r7.1.length : Int)) then
    ix r7.1 t19_1 fun x6 =>
    if x6.a < 0 then
      top_TopDates_k6 a1 r7 t18_3 t19_1 rec1 true
    else
      ix r7.1 t19_1 fun x7 =>
      if ((a1.length : Int)) ≤ x7.a then
        top_TopDates_k6 a1 r7 t18_3 t19_1 rec1 true
      else
        ix r7.1 t19_1 fun x8 =>
        if x8.b < 0 then
          top_TopDates_k6 a1 r7 t18_3 t19_1 rec1 true
        else
          ix r7.1 t19_1 fun x9 =>
          top_TopDates_k6 a1 r7 t18_3 t19_1 rec1 ((decide (((a1.length : Int)) ≤ x9.b)))
  else
    top_TopDates_k4 a0 a2 r6 t18_3
def top_TopDates_L1 (a0 : Core) (a1 : List Int) (a2 : Bound) (r7 : (List Bound) × Int) (r6 : Int) : Nat → Bool → Int → Option Bool
  | 0, _, _ => none
  | n_ + 1, t18_3, t19_1 => top_TopDates_B1 a0 a1 a2 r7 r6 (top_TopDates_L1 a0 a1 a2 r7 r6 n_) t18_3 t19_1
theorem top_TopDates_L1_s {a0 : Core} {a1 : List Int} {a2 : Bound} {r7 : (List Bound) × Int} {r6 : Int} {m_ : Nat} {t18_3 : Bool} {t19_1 : Int} {res : Bool} (h : top_TopDates_L1 a0 a1 a2 r7 r6 m_ t18_3 t19_1 = some res) : ∃ k, m_ = k + 1 ∧ top_TopDates_B1 a0 a1 a2 r7 r6 (top_TopDates_L1 a0 a1 a2 r7 r6 k) t18_3 t19_1 = some res := by
  cases m_ with
  | zero => cases h
  | succ k => exact ⟨k, rfl, h⟩
def top_TopDates_k7 (a0 : Core) (a1 : List Int) (a2 : Bound) (r7 : (List Bound) × Int) (r6 : Int) (t112_1 : Bool) : Option Bool :=
  if t112_1 = true then
    top_TopDates_L1 a0 a1 a2 r7 r6 FU true (((0 : Int)))
  else
    top_TopDates_k3 a0 a2
def top_TopDates_k8 (a0 : Core) (a1 : List Int) (a2 : Bound) (r8 : (List Int) × Bool × Int) (t92_1 : Bool) : Option Bool :=
  if t92_1 = true then
    some false
  else
    bnd (core_Plain a0) fun r7 =>
    if r8.2.1 = true then
      if r7.2 = 0 then
        bnd (core_CheckDates a0 a1) fun r6 =>
        if r6 = 0 then
          top_TopDates_k7 a0 a1 a2 r7 r6 true
        else
          top_TopDates_k7 a0 a1 a2 r7 r6 ((decide (r6 = 7)))
      else
        some false
    else
      some (decide (r7.2 = 10))
def top_TopDates_k9 (a0 : Core) (a1 : List Int) (a2 : Bound) (r8 : (List Int) × Bool × Int) (r9 : (List Int) × Bool × Int) (t68_1 : Bool) : Option Bool :=
  if t68_1 = true then
    some (decide (r8.2.2 = r9.2.2))
  else
    if (r8.2.1 == r9.2.1) = true then
      top_TopDates_k8 a0 a1 a2 r8 true
    else
      if r8.2.1 = true then
        bnd (core_CheckDates a0 r8.1) fun r10 =>
        if r10 = 0 then
          if r9.2.1 = true then
            bnd (core_CheckClash a0 r9.1) fun r11 =>
            top_TopDates_k8 a0 a1 a2 r8 ((!(decide (r11 = 0))))
          else
            top_TopDates_k8 a0 a1 a2 r8 false
        else
          top_TopDates_k8 a0 a1 a2 r8 true
      else
        if r9.2.1 = true then
          bnd (core_CheckClash a0 r9.1) fun r12 =>
          top_TopDates_k8 a0 a1 a2 r8 ((!(decide (r12 = 0))))
        else
          top_TopDates_k8 a0 a1 a2 r8 false
def top_TopDates_k10 (a0 : Core) (a1 : List Int) (a2 : Bound) (t50_1 : Bool) : Option Bool :=
  if t50_1 = true then
    some true
  else
    bnd (core_Dates a0) fun r8 =>
    bnd (core_Clash a0) fun r9 =>
    if r8.2.2 = 0 then
      top_TopDates_k9 a0 a1 a2 r8 r9 ((!(decide (r9.2.2 = 0))))
    else
      top_TopDates_k9 a0 a1 a2 r8 r9 true
def top_TopDates_k11 (a0 : Core) (a1 : List Int) (a2 : Bound) (t43_1 : Bool) : Option Bool :=
  if t43_1 = true then
    some false
  else
    bnd (law03_Long a0) fun r13 =>
    if r13 = true then
      top_TopDates_k10 a0 a1 a2 true
    else
      top_TopDates_k10 a0 a1 a2 ((decide ((100 : Int) < ((a1.length : Int)))))
def top_TopDates (a0 : Core) (a1 : List Int) (a2 : Bound) : Option Bool :=
  bnd (core_Fixed ((⟨2, ([(⟨0, 1, 7⟩ : Bound), (⟨1, 0, -7⟩ : Bound)] : List Bound)⟩ : Core)) ((0 : Int)) ((1 : Int))) fun r14 =>
  if r14.2.2 = 0 then
    if r14.2.1 = true then
      top_TopDates_k11 a0 a1 a2 ((!(decide (r14.1 = 7))))
    else
      top_TopDates_k11 a0 a1 a2 true
  else
    top_TopDates_k11 a0 a1 a2 true
end Go.D3

set_option linter.unusedVariables false
set_option linter.unusedSimpArgs false
namespace Go.D3
open Go.Tb Go.Proofs Go.RowKit Go.Core
theorem Tc61 : callable Try.prog 61 = true := by kernel_rfl
theorem Tc82 : callable Try.prog 82 = true := by kernel_rfl
theorem Tc83 : callable Try.prog 83 = true := by kernel_rfl
theorem Tc84 : callable Try.prog 84 = true := by kernel_rfl
set_option maxRecDepth 20000 in
set_option maxHeartbeats 1000000 in
theorem slices_Clone_Bound_ok {a0 : List Bound} {A_a0 : Option Addr} {c_a0 : Nat} {w : World} {res : List Bound} (h_a0 : Sl w A_a0 c_a0 3 (a0.map encBound)) (F : slices_Clone_Bound a0 = some res) : Calls Try.prog 82 #[.slice A_a0 a0.length c_a0] w (fun e w' => ∃ (A0 : Option Addr) (c0 : Nat), e = .returned (.slice A0 res.length c0) ∧ Hp w w' [.own A0 c0 26 3 (List.map encBound res)]) := by
  cases A_a0 with
  | none =>
    obtain rfl := Sl.none_nil h_a0
    refine calls_of_cw (args := [.slice none (([] : List Bound).length) c_a0]) Try.func82 rfl rfl rfl rfl ?_
    have H := Hp.start w
    have R0 := H.ext
    unfold slices_Clone_Bound at F
    obtain ⟨_, F⟩ := gd_some F
    refine CW.seq fun K1 hK1 => ?_
    refine CW.region ?_
    refine LW.pure rfl rfl (RV.assign rfl) ?_
    refine LW.nil (hK1 _ _ ?_)
    refine CW.seq fun K2 hK2 => ?_
    refine CW.seq fun K3 hK3 => ?_
    refine CW.region ?_
    refine LW.pure rfl rfl (RV.move rfl) ?_
    refine LW.pure rfl rfl (RV.eqnil Ts22 rfl rfl) ?_
    refine LW.nil (hK3 _ _ ?_)
    refine CW.condT rfl rfl ?_
    refine CW.seq fun K4 hK4 => ?_
    refine CW.region ?_
    refine LW.pure rfl rfl (RV.assign rfl) ?_
    refine LW.nil (hK4 _ _ ?_)
    refine CW.ret ?_
    obtain rfl := Option.some.inj F
    refine ⟨_, (ResOK.one rfl), ?_⟩
    replace H := H.nilOwn 26 3
    replace R0 := H.ext
    exact ⟨none, 0, (by first | rfl | (simp; done) | (simp; omega)), H⟩
  | some ad =>
    refine calls_of_cw (args := [.slice ((some ad)) a0.length c_a0]) Try.func82 rfl rfl rfl rfl ?_
    have H := Hp.start w
    have R0 := H.ext
    unfold slices_Clone_Bound at F
    refine CW.seq fun K1 hK1 => ?_
    refine CW.region ?_
    refine LW.pure rfl rfl (RV.assign rfl) ?_
    refine LW.nil (hK1 _ _ ?_)
    refine CW.seq fun K2 hK2 => ?_
    refine CW.seq fun K3 hK3 => ?_
    refine CW.region ?_
    refine LW.pure rfl rfl (RV.move rfl) ?_
    refine LW.pure rfl rfl (RV.eqnil Ts22 rfl rfl) ?_
    refine LW.nil (hK3 _ _ ?_)
    refine CW.condF rfl rfl ?_
    refine CW.skip (hK2 _ _ ?_)
    refine CW.seq fun K4 hK4 => ?_
    obtain ⟨hg1, F⟩ := gd_some F
    refine CW.region ?_
    refine LW.go rfl rfl (OW.buildSlice (e := 26) (vs := []) (cs := []) rfl (fun _ => by kernel_rfl) fun b2 w3 N2 => ?_)
    replace H := H.made' (k := 3) (t := 26) (enc := encBound) (l := ([] : List Bound)) N2 N2.blk (fun _ => rfl) rfl (by first | decide | omega | (simp; done) | (simp; omega))
    replace R0 := H.ext
    refine LW.pure rfl rfl (RV.move rfl) ?_
    refine LW.go rfl rfl (OW.appendG (enc := encBound) (l := ([] : List Bound)) (xs := a0) Ts22 (look_slice rfl (by first | rfl | (simp; done) | (simp; omega))) rfl (H.own 0 rfl) (h_a0.ext R0) (fun _ => rfl) rfl rfl hg1 (by decide) fun A2 c2 w4 O2 M2 D2 => ?_)
    replace H : Hp w w4 [.own A2 c2 26 3 (List.map encBound ((([] : List Bound) ++ a0)))] := H.mod 0 rfl M2 O2 D2
    replace R0 := H.ext
    refine LW.pure rfl rfl (RV.assign rfl) ?_
    refine LW.nil (hK4 _ _ ?_)
    refine CW.ret ?_
    obtain rfl := Option.some.inj F
    refine ⟨_, (ResOK.one rfl), ?_⟩
    exact ⟨A2, c2, (by first | rfl | (simp; done) | (simp; omega)), H⟩
set_option maxRecDepth 20000 in
theorem slices_Delete_Bound_core {l : List Bound} {A : Option Addr} {c i j : Nat} {w : World} (o : Tb.Own w A c 26 3 (l.map encBound)) (hij : i ≤ j) (hj : j ≤ l.length) : Calls Try.prog 84 #[.slice A l.length c, .int .i64 (i : Int), .int .i64 (j : Int)] w (fun e w' => e = .returned (.slice A (l.take i ++ l.drop j).length c) ∧ Tb.Own w' A c 26 3 ((l.take i ++ l.drop j).map encBound) ∧ Mod w w' A) := by
  have hc : l.length ≤ c := o.sl.le
  refine calls_of_cw (args := [.slice A l.length c, .int .i64 (i : Int), .int .i64 (j : Int)]) Try.func84 rfl rfl rfl rfl ?_
  refine CW.seq fun K1 hK1 => ?_
  refine CW.region ?_
  refine LW.pure rfl rfl (RV.assign rfl) ?_
  refine LW.nil (hK1 _ _ ?_)
  refine CW.seq fun K2 hK2 => ?_
  refine CW.region ?_
  refine LW.pure rfl rfl (RV.move rfl) ?_
  refine LW.pure rfl rfl (RV.move rfl) ?_
  refine LW.pure rfl rfl (RV.move rfl) ?_
  refine LW.pure rfl rfl (RV.move rfl) ?_
  refine LW.pure rfl rfl (RV.len Ts22 rfl) ?_
  refine LW.pure rfl rfl (RV.sliceLHM Ts22 rfl rfl rfl rfl ⟨by omega, by omega, by omega, by omega⟩) ?_
  refine LW.nil (hK2 _ _ ?_)
  refine CW.seq fun K3 hK3 => ?_
  refine CW.seq fun K4 hK4 => ?_
  refine CW.region ?_
  refine LW.pure rfl rfl (RV.move rfl) ?_
  refine LW.pure rfl rfl (RV.move rfl) ?_
  refine LW.pure rfl rfl (RV.eqi rfl rfl) ?_
  refine LW.nil (hK4 _ _ ?_)
  by_cases he : (i : Int) = (j : Int)
  · refine CW.condT rfl (dec_t he) ?_
    refine CW.seq fun K5 hK5 => ?_
    refine CW.region ?_
    refine LW.pure rfl rfl (RV.move rfl) ?_
    refine LW.pure rfl rfl (RV.assign rfl) ?_
    refine LW.nil (hK5 _ _ ?_)
    refine CW.ret ?_
    obtain rfl : i = j := by omega
    have e1 : l.take i ++ l.drop i = l := List.take_append_drop i l
    refine ⟨_, (ResOK.one rfl), ?_⟩
    rw [e1]
    exact ⟨rfl, o, Mod.refl _ _⟩
  · refine CW.condF rfl (dec_f he) ?_
    refine CW.skip (hK3 _ _ ?_)
    obtain ⟨b, rfl⟩ := o.at0 (by omega)
    refine CW.seq fun K6 hK6 => ?_
    refine CW.region ?_
    refine LW.pure rfl rfl (RV.move rfl) ?_
    refine LW.pure rfl rfl (RV.len Ts22 rfl) ?_
    refine LW.pure rfl rfl (RV.assign rfl) ?_
    refine LW.nil (hK6 _ _ ?_)
    refine CW.seq fun K7 hK7 => ?_
    have hl1 : (l.drop j).length = l.length - j := by simp
    have hl2 : (l.take i).length = i := by simp; omega
    have hAj : ∃ a, cutA (some (⟨b, 0, none⟩ : Addr)) c 3 j = some a := by unfold cutA; split <;> exact ⟨_, rfl⟩
    refine CW.draw [6] (fun _ => True) (.cons 0 2 (.cons 1 2 (.cons 2 1 (.cons 3 2 (.cons 4 2 (.cons 5 1 (.cons 6 0 (.cons 7 2 .nil)))))))) mixed (by kernel_rfl) fun w2 E => ?_
    have o2 := o.ext E
    refine DW.thru rfl rfl rfl (fun _ EQ => RV.move rfl) ?_
    refine DW.thru rfl rfl rfl (fun _ EQ => RV.move rfl) ?_
    refine DW.fix rfl rfl rfl (fun _ EQ => RV.sliceHi Ts22 rfl rfl ⟨by omega, by omega⟩) ?_
    refine DW.thru rfl rfl rfl (fun _ EQ => RV.move rfl) ?_
    refine DW.thru rfl rfl rfl (fun _ EQ => RV.move rfl) ?_
    refine DW.fix rfl rfl rfl (fun _ EQ => RV.sliceLo Ts22 rfl rfl ⟨Int.natCast_nonneg _, by omega⟩ hc) ?_
    have src := o2.sl.cut j l.length hj (Nat.le_refl _)
    rw [List.take_length] at src
    refine DW.sole rfl rfl rfl (OW.appendOver (l := l.take i) (xs := l.drop j) (zs := l.drop i) Ts22 rfl (by simp; omega) rfl (by rw [hl1]; simp) (by rw [List.take_append_drop]; exact o2) hAj src (fun _ => rfl) (fun _ => rfl) (by decide) (by simp; omega) fun w3 o3 M3 => ?_)
    refine ⟨fun h => absurd h (by decide), M3.modx (fun _ _ => trivial), ?_⟩
    refine DW.thru rfl rfl rfl (fun _ EQ => RV.assign rfl) ?_
    refine DW.nil (hK7 _ _ ?_)
    have hn : (l.take i ++ l.drop j).length = i + (l.length - j) := by rw [List.length_append, hl1, hl2]
    have hd : (List.drop (l.drop j).length (l.drop i)) = l.drop (i + (l.length - j)) := by rw [List.drop_drop, hl1]
    rw [hd] at o3
    refine CW.seq fun K8 hK8 => ?_
    refine CW.region ?_
    refine LW.pure rfl rfl (RV.move rfl) ?_
    refine LW.pure rfl rfl (RV.move rfl) ?_
    refine LW.pure rfl rfl (RV.len Ts22 rfl) ?_
    refine LW.pure rfl rfl (RV.move rfl) ?_
    refine LW.pure rfl rfl (RV.sliceLH Ts22 rfl rfl rfl ⟨by omega, by omega, by omega⟩) ?_
    have hlen : (l.take i ++ l.drop j ++ l.drop (i + (l.length - j))).length = l.length := by simp; omega
    refine LW.go rfl rfl (OW.clearSub (lo := i + (l.length - j)) (hi := l.length) ((⟨0, 0, 0⟩ : Bound) : Bound) Ts22 rfl o3 (fun _ => rfl) rfl rfl (by decide) (by simp only [hn, Int.toNat_natCast]) (by simp only [hn, Int.toNat_natCast]) (by omega) (by rw [hlen]; exact Nat.le_refl _) rfl fun v w4 M4 o4 => ?_)
    refine LW.nil (hK8 _ _ ?_)
    have htk : List.take (i + (l.length - j)) (l.take i ++ l.drop j ++ l.drop (i + (l.length - j))) = l.take i ++ l.drop j := by rw [← hn, List.take_left]
    rw [htk, List.append_assoc, List.map_append] at o4
    have o5 := o4.shrink (by simp)
    refine CW.seq fun K9 hK9 => ?_
    refine CW.region ?_
    refine LW.pure rfl rfl (RV.move rfl) ?_
    refine LW.pure rfl rfl (RV.assign rfl) ?_
    refine LW.nil (hK9 _ _ ?_)
    refine CW.ret ?_
    exact ⟨_, (ResOK.one rfl), rfl, o5, (Mod.of_ext E).trans (M3.trans M4)⟩
set_option maxRecDepth 20000 in
theorem slices_Delete_Bound_ok {a0 : List Bound} {a1 : Int} {a2 : Int} {A_a0 : Option Addr} {c_a0 : Nat} {wb : World} {R : List Ck} {w : World} {res : List Bound} (H : Hp wb w ([.own A_a0 c_a0 26 3 (List.map encBound a0)] ++ R)) (F : slices_Delete_Bound a0 a1 a2 = some res) : Calls Try.prog 84 #[.slice A_a0 a0.length c_a0, .int .i64 a1, .int .i64 a2] w (fun e w' => e = .returned (.slice A_a0 res.length c_a0) ∧ Hp wb w' ([.own A_a0 c_a0 26 3 (List.map encBound res)] ++ R)) := by
  unfold slices_Delete_Bound at F
  obtain ⟨hg, F⟩ := gd_some F
  cases F
  obtain ⟨i, rfl⟩ : ∃ i : Nat, a1 = (i : Int) := ⟨Int.toNat a1, by omega⟩
  obtain ⟨j, rfl⟩ : ∃ j : Nat, a2 = (j : Int) := ⟨Int.toNat a2, by omega⟩
  rw [Int.toNat_natCast, Int.toNat_natCast]
  refine (slices_Delete_Bound_core (H.own 0 rfl) (i := i) (j := j) (by omega) (by omega)).mono ?_
  rintro _ w' ⟨rfl, o, M⟩
  exact ⟨rfl, H.mod 0 rfl M o (.inl rfl)⟩
set_option maxRecDepth 20000 in
set_option maxHeartbeats 1000000 in
theorem core_follows_ok {a0 : List (List Tight)} {a1 : Bound} {A_a0 : Option Addr} {c_a0 : Nat} {w : World} {res : Bool} (h_a0 : Sl2 w A_a0 c_a0 2 encTight a0) (F : core_follows a0 a1 = some res) : Calls Try.prog 61 #[.slice A_a0 a0.length c_a0, .agg #[.int .i64 a1.a, .int .i64 a1.b, .int .i64 a1.most]] w (Rt w (.bool res)) := by
  refine calls_of_cw (args := [.slice A_a0 a0.length c_a0, .agg #[.int .i64 a1.a, .int .i64 a1.b, .int .i64 a1.most]]) Try.func61 rfl rfl rfl rfl ?_
  have H := Hp.start w
  have R0 := H.ext
  unfold core_follows at F
  refine CW.seq fun K1 hK1 => ?_
  refine CW.region ?_
  refine LW.go rfl rfl (OW.box rfl fun b1 w1 N1 => ?_)
  replace H := H.new N1 N1.blk
  replace R0 := H.ext
  refine LW.pure rfl rfl (RV.assign rfl) ?_
  refine LW.nil (hK1 _ _ ?_)
  refine CW.seq fun K2 hK2 => ?_
  obtain ⟨x1, hbx1, hx1, F⟩ := ix_some F
  obtain ⟨x2, hbx2, hx2, F⟩ := ix_some F
  by_cases hp1 : x2.known = true
  ·
    replace F := ite_y hp1 F
    have hq1 : x2.known = true := hp1
    obtain ⟨x3, hbx3, hx3, F⟩ := ix_some F
    obtain ⟨x4, hbx4, hx4, F⟩ := ix_some F
    refine CW.draw [] (fun _ => True) (.cons 0 1 (.cons 1 1 (.cons 2 1 (.cons 3 1 (.cons 4 1 (.cons 5 1 (.cons 6 1 (.cons 7 1 (.cons 8 1 (.cons 9 1 (.cons 10 1 (.cons 11 1 (.cons 12 1 (.cons 13 1 (.cons 14 1 (.cons 15 1 (.cons 16 1 (.cons 17 1 (.cons 18 1 (.cons 19 1 (.cons 20 1 (.cons 21 1 (.cons 22 1 (.cons 23 1 (.cons 24 1 (.cons 25 1 .nil)))))))))))))))))))))))))) mixed (by kernel_rfl) fun w2 E1 => ?_
    replace H := H.grow E1
    replace R0 := H.ext
    refine DW.fix rfl rfl rfl (fun _ EQ => RV.move rfl) ?_
    refine DW.fix rfl rfl rfl (fun _ EQ => RV.fieldAddr Tf26_0 rfl) ?_
    refine DW.fix rfl rfl rfl (fun _ EQ => RV.load1 Tk3 rfl (((H.grow EQ).blk 0 rfl).cells.off 0) rfl) ?_
    obtain ⟨A1, c1, hC1, hS1⟩ := h_a0.at_ hx1
    refine DW.fix rfl rfl rfl (fun _ EQ => RV.indexAddr Ts69 rfl rfl hbx1 (h_a0.addr hbx1)) ?_
    refine DW.fix rfl rfl rfl (fun _ EQ => RV.load1 Tk76 rfl (hC1.ext (R0.trans EQ)) rfl) ?_
    refine DW.fix rfl rfl rfl (fun _ EQ => RV.fieldAddr Tf26_1 rfl) ?_
    refine DW.fix rfl rfl rfl (fun _ EQ => RV.load1 Tk3 rfl (((H.grow EQ).blk 0 rfl).cells.off 1) rfl) ?_
    refine DW.fix rfl rfl rfl (fun _ EQ => RV.indexAddr Ts76 rfl rfl hbx2 (hS1.addr_ hx2)) ?_
    refine DW.fix rfl rfl rfl (fun _ EQ => RV.fieldAddr Tf75_0 rfl) ?_
    refine DW.fix rfl rfl rfl (fun _ EQ => RV.load1 Tk4 rfl (((hS1.at_ hx2).ext (R0.trans EQ)).off 0) rfl) ?_
    refine DW.fix rfl rfl rfl (fun _ EQ => RV.move rfl) ?_
    refine DW.fixYB rfl rfl rfl rfl rfl hq1 (fun _ EQ => RV.move rfl) ?_
    refine DW.fixYB rfl rfl rfl rfl rfl hq1 (fun _ EQ => RV.fieldAddr Tf26_0 rfl) ?_
    refine DW.fixYB rfl rfl rfl rfl rfl hq1 (fun _ EQ => RV.load1 Tk3 rfl (((H.grow EQ).blk 0 rfl).cells.off 0) rfl) ?_
    obtain ⟨A2, c2, hC2, hS2⟩ := h_a0.at_ hx3
    refine DW.fixYB rfl rfl rfl rfl rfl hq1 (fun _ EQ => RV.indexAddr Ts69 rfl rfl hbx3 (h_a0.addr hbx3)) ?_
    refine DW.fixYB rfl rfl rfl rfl rfl hq1 (fun _ EQ => RV.load1 Tk76 rfl (hC2.ext (R0.trans EQ)) rfl) ?_
    refine DW.fixYB rfl rfl rfl rfl rfl hq1 (fun _ EQ => RV.fieldAddr Tf26_1 rfl) ?_
    refine DW.fixYB rfl rfl rfl rfl rfl hq1 (fun _ EQ => RV.load1 Tk3 rfl (((H.grow EQ).blk 0 rfl).cells.off 1) rfl) ?_
    refine DW.fixYB rfl rfl rfl rfl rfl hq1 (fun _ EQ => RV.indexAddr Ts76 rfl rfl hbx4 (hS2.addr_ hx4)) ?_
    refine DW.fixYB rfl rfl rfl rfl rfl hq1 (fun _ EQ => RV.fieldAddr Tf75_1 rfl) ?_
    refine DW.fixYB rfl rfl rfl rfl rfl hq1 (fun _ EQ => RV.load1 Tk3 rfl (((hS2.at_ hx4).ext (R0.trans EQ)).off 1) rfl) ?_
    refine DW.fixYB rfl rfl rfl rfl rfl hq1 (fun _ EQ => RV.fieldAddr Tf26_2 rfl) ?_
    refine DW.fixYB rfl rfl rfl rfl rfl hq1 (fun _ EQ => RV.load1 Tk3 rfl (((H.grow EQ).blk 0 rfl).cells.off 2) rfl) ?_
    refine DW.fixYB rfl rfl rfl rfl rfl hq1 (fun _ EQ => RV.leq rfl rfl) ?_
    refine DW.fix rfl rfl rfl (fun _ EQ => RV.pickTB rfl hq1 rfl) ?_
    refine DW.fix rfl rfl rfl (fun _ EQ => RV.assign rfl) ?_
    refine DW.nil (hK2 _ _ ?_)
    refine CW.ret ?_
    obtain rfl := Option.some.inj F
    refine ⟨_, (ResOK.one rfl), ?_⟩
    refine ⟨(by first | rfl | simp), R0⟩
  ·
    replace F := ite_n hp1 F
    have hq1 : x2.known = false := raw_f hp1
    refine CW.draw [] (fun _ => True) (.cons 0 1 (.cons 1 1 (.cons 2 1 (.cons 3 1 (.cons 4 1 (.cons 5 1 (.cons 6 1 (.cons 7 1 (.cons 8 1 (.cons 9 1 (.cons 10 1 (.cons 11 1 (.cons 12 1 (.cons 13 1 (.cons 14 1 (.cons 15 1 (.cons 16 1 (.cons 17 1 (.cons 18 1 (.cons 19 1 (.cons 20 1 (.cons 21 1 (.cons 22 1 (.cons 23 1 (.cons 24 1 (.cons 25 1 .nil)))))))))))))))))))))))))) mixed (by kernel_rfl) fun w3 E2 => ?_
    replace H := H.grow E2
    replace R0 := H.ext
    refine DW.fix rfl rfl rfl (fun _ EQ => RV.move rfl) ?_
    refine DW.fix rfl rfl rfl (fun _ EQ => RV.fieldAddr Tf26_0 rfl) ?_
    refine DW.fix rfl rfl rfl (fun _ EQ => RV.load1 Tk3 rfl (((H.grow EQ).blk 0 rfl).cells.off 0) rfl) ?_
    obtain ⟨A3, c3, hC3, hS3⟩ := h_a0.at_ hx1
    refine DW.fix rfl rfl rfl (fun _ EQ => RV.indexAddr Ts69 rfl rfl hbx1 (h_a0.addr hbx1)) ?_
    refine DW.fix rfl rfl rfl (fun _ EQ => RV.load1 Tk76 rfl (hC3.ext (R0.trans EQ)) rfl) ?_
    refine DW.fix rfl rfl rfl (fun _ EQ => RV.fieldAddr Tf26_1 rfl) ?_
    refine DW.fix rfl rfl rfl (fun _ EQ => RV.load1 Tk3 rfl (((H.grow EQ).blk 0 rfl).cells.off 1) rfl) ?_
    refine DW.fix rfl rfl rfl (fun _ EQ => RV.indexAddr Ts76 rfl rfl hbx2 (hS3.addr_ hx2)) ?_
    refine DW.fix rfl rfl rfl (fun _ EQ => RV.fieldAddr Tf75_0 rfl) ?_
    refine DW.fix rfl rfl rfl (fun _ EQ => RV.load1 Tk4 rfl (((hS3.at_ hx2).ext (R0.trans EQ)).off 0) rfl) ?_
    refine DW.fix rfl rfl rfl (fun _ EQ => RV.move rfl) ?_
    refine DW.fixNB rfl rfl rfl rfl rfl (ne_beq (v := false) hq1 rfl) ?_
    refine DW.fixNB rfl rfl rfl rfl rfl (ne_beq (v := false) hq1 rfl) ?_
    refine DW.fixNB rfl rfl rfl rfl rfl (ne_beq (v := false) hq1 rfl) ?_
    refine DW.fixNB rfl rfl rfl rfl rfl (ne_beq (v := false) hq1 rfl) ?_
    refine DW.fixNB rfl rfl rfl rfl rfl (ne_beq (v := false) hq1 rfl) ?_
    refine DW.fixNB rfl rfl rfl rfl rfl (ne_beq (v := false) hq1 rfl) ?_
    refine DW.fixNB rfl rfl rfl rfl rfl (ne_beq (v := false) hq1 rfl) ?_
    refine DW.fixNB rfl rfl rfl rfl rfl (ne_beq (v := false) hq1 rfl) ?_
    refine DW.fixNB rfl rfl rfl rfl rfl (ne_beq (v := false) hq1 rfl) ?_
    refine DW.fixNB rfl rfl rfl rfl rfl (ne_beq (v := false) hq1 rfl) ?_
    refine DW.fixNB rfl rfl rfl rfl rfl (ne_beq (v := false) hq1 rfl) ?_
    refine DW.fixNB rfl rfl rfl rfl rfl (ne_beq (v := false) hq1 rfl) ?_
    refine DW.fixNB rfl rfl rfl rfl rfl (ne_beq (v := false) hq1 rfl) ?_
    refine DW.fix rfl rfl rfl (fun _ EQ => RV.pickFB rfl hq1 rfl) ?_
    refine DW.fix rfl rfl rfl (fun _ EQ => RV.assign rfl) ?_
    refine DW.nil (hK2 _ _ ?_)
    refine CW.ret ?_
    obtain rfl := Option.some.inj F
    refine ⟨_, (ResOK.one rfl), ?_⟩
    refine ⟨(by first | rfl | simp), R0⟩
set_option maxRecDepth 20000 in
set_option maxHeartbeats 1000000 in
theorem core_Reduce_ok {a0 : Core} {A_a0_bounds : Option Addr} {c_a0_bounds : Nat} {w : World} {res : Core × Int} (h_a0_bounds : Sl w A_a0_bounds c_a0_bounds 3 (a0.bounds.map encBound)) (F : core_Reduce a0 = some res) : Calls Try.prog 56 #[.agg #[.int .i64 a0.layers, .slice A_a0_bounds a0.bounds.length c_a0_bounds]] w (fun e w' => ∃ (A0_bounds : Option Addr) (c0_bounds : Nat), e = .returned (.tuple #[.agg #[.int .i64 res.1.layers, .slice A0_bounds res.1.bounds.length c0_bounds], .int .i64 res.2]) ∧ Hp w w' [.own A0_bounds c0_bounds 26 3 (List.map encBound res.1.bounds)]) := by
  refine calls_of_cm (args := [.agg #[.int .i64 a0.layers, .slice A_a0_bounds a0.bounds.length c_a0_bounds]]) Try.func56 rfl rfl rfl ?_
  have H := Hp.start w
  have R0 := H.ext
  unfold core_Reduce at F
  refine CM.seq rfl fun K1 hK1 => ?_
  refine CW.region ?_
  refine LW.go rfl rfl (OW.box rfl fun b1 w1 N1 => ?_)
  replace H := H.new N1 N1.blk
  replace R0 := H.ext
  refine LW.go rfl rfl (OW.alloc Tz24 fun b2 w2 N2 => ?_)
  replace H := H.new N2 N2.blk
  replace R0 := H.ext
  refine LW.pure rfl rfl (RV.assign rfl) ?_
  refine LW.nil (hK1 _ _ ?_)
  refine CM.seq rfl fun K2 hK2 => ?_
  refine CW.seq fun K3 hK3 => ?_
  obtain ⟨r5, hr5, F⟩ := bnd_some F
  refine CW.region ?_
  refine LW.pure rfl rfl (RV.loadA [.int .i64 a0.layers, .slice A_a0_bounds a0.bounds.length c_a0_bounds] Tk24 rfl (H.blk 1 rfl).cells rfl rfl) ?_
  refine LW.go rfl rfl (OW.call Tc36 rfl (core_Validate_ok (a0 := a0) (h_a0_bounds.ext R0) hr5) ?_)
  rintro _ w3 ⟨rfl, E1⟩
  refine ⟨_, rfl, ?_⟩
  replace H := H.grow E1
  replace R0 := H.ext
  refine LW.pure rfl rfl (RV.assign rfl) ?_
  refine LW.nil (hK3 _ _ ?_)
  refine CW.seq fun K4 hK4 => ?_
  refine CW.region ?_
  refine LW.pure rfl rfl (RV.move rfl) ?_
  refine LW.pure rfl rfl (RV.nei rfl rfl) ?_
  refine LW.nil (hK4 _ _ ?_)
  by_cases hp1 : r5 = 0
  ·
    replace F := ite_y hp1 F
    have hq1 := dec_t hp1
    refine CW.condF rfl (not_f hq1) ?_
    refine CW.skip (hK2 _ _ ?_)
    refine CM.seq rfl fun K5 hK5 => ?_
    refine CW.seq fun K6 hK6 => ?_
    obtain ⟨r6, hr6, F⟩ := bnd_some F
    refine CW.region ?_
    refine LW.pure rfl rfl (RV.loadA [.int .i64 a0.layers, .slice A_a0_bounds a0.bounds.length c_a0_bounds] Tk24 rfl (H.blk 1 rfl).cells rfl rfl) ?_
    refine LW.go rfl rfl (OW.call Tc68 rfl (core_clashes_ok (a0 := a0) (h_a0_bounds.ext R0) hr6) ?_)
    rintro _ w4 ⟨rfl, E2⟩
    refine ⟨_, rfl, ?_⟩
    replace H := H.grow E2
    replace R0 := H.ext
    refine LW.nil (hK6 _ _ ?_)
    by_cases hp2 : r6 = true
    ·
      replace F := ite_y hp2 F
      have hq2 : r6 = true := hp2
      refine CW.condT rfl hq2 ?_
      refine CW.seq fun K7 hK7 => ?_
      refine CW.region ?_
      refine LW.pure rfl rfl (RV.build (vs := []) (cs := [.int .i64 0, .slice none 0 0]) rfl (fun _ => by kernel_rfl)) ?_
      refine LW.go rfl rfl (OW.store Tk24 rfl rfl (H.blk 0 rfl) (off := 0) (vs := [.int .i64 0, .slice none 0 0]) rfl rfl rfl rfl rfl fun w5 S1 => ?_)
      replace H : Hp w w5 [.blk b2 24 [.int .i64 0, .slice none 0 0], .blk b1 24 [.int .i64 a0.layers, .slice A_a0_bounds a0.bounds.length c_a0_bounds]] := H.stored 0 rfl S1
      replace R0 := H.ext
      refine LW.pure rfl rfl (RV.assign rfl) ?_
      refine LW.nil (hK7 _ _ ?_)
      refine CW.ret ?_
      obtain rfl := Option.some.inj F
      refine ⟨_, (ResOK.two ⟨_, rfl, run_loadVar_agg Tk24 (H.blk 0 rfl).cells (us := [.int .i64 0, .slice none 0 0]) rfl rfl⟩ rfl), ?_⟩
      replace H := H.nilOwn 26 3
      replace R0 := H.ext
      replace H := H.pick (L' := [.own none 0 26 3 (List.map encBound (([] : List Bound)))]) [0] (by decide) rfl
      replace R0 := H.ext
      exact ⟨none, 0, (by first | rfl | (simp; done) | (simp; omega)), H⟩
    ·
      replace F := ite_n hp2 F
      have hq2 : r6 = false := raw_f hp2
      refine CW.condF rfl hq2 ?_
      refine CW.skip (hK5 _ _ ?_)
      refine CM.seqJ rfl (fun ρ wl1 => (∃ (l3 : List Bound) (bk1 : Nat) (Al3 : Option Addr) (cl3 : Nat), core_Reduce_k3 a0 l3 = some res ∧ ρ = [(1, .pointer (some (⟨b1, 0, none⟩))), (2, .pointer (some (⟨b2, 0, none⟩))), (3, .int .i64 0), (5, .pointer (some (⟨bk1, 0, none⟩)))] ∧ Hp w wl1 [.own Al3 cl3 26 3 (List.map encBound l3), .blk b1 24 [.int .i64 a0.layers, .slice A_a0_bounds a0.bounds.length c_a0_bounds], .blk b2 24 [.int .i64 0, .slice none 0 0], .blk bk1 24 [.int .i64 a0.layers, .slice Al3 l3.length cl3]])) ?_ ?_
      ·
        rintro _ wl1 ⟨l3, bk1, Al3, cl3, F, rfl, H⟩
        have R0 := H.ext
        unfold core_Reduce_k3 at F
        refine CM.seqA rfl fun K8 hK8 => ?_
        refine CW.region ?_
        refine LW.pure rfl rfl (RV.fieldAddr Tf24_1 rfl) ?_
        refine LW.pure rfl rfl (RV.load1 Tk22 rfl ((H.blk 1 rfl).cells.off 1) rfl) ?_
        refine LW.go rfl rfl (OW.call Tc83 rfl D3u.backward_ok ?_)
        rintro _ w6 ⟨b3, rfl, E3⟩
        refine ⟨_, rfl, ?_⟩
        replace H : Hp w w6 [.blk b3 22 [.slice A_a0_bounds a0.bounds.length c_a0_bounds], .own Al3 cl3 26 3 (List.map encBound l3), .blk b1 24 [.int .i64 a0.layers, .slice A_a0_bounds a0.bounds.length c_a0_bounds], .blk b2 24 [.int .i64 0, .slice none 0 0], .blk bk1 24 [.int .i64 a0.layers, .slice Al3 l3.length cl3]] := H.append E3
        replace R0 := H.ext
        refine LW.nil (hK8 _ _ ?_)
        obtain ⟨hg1, F⟩ := gd_some F
        replace H := H.pick (L' := [.own Al3 cl3 26 3 (List.map encBound l3), .blk b1 24 [.int .i64 a0.layers, .slice A_a0_bounds a0.bounds.length c_a0_bounds], .blk b2 24 [.int .i64 0, .slice none 0 0], .blk bk1 24 [.int .i64 a0.layers, .slice Al3 l3.length cl3], .blk b3 22 [.slice A_a0_bounds a0.bounds.length c_a0_bounds]]) [1, 2, 3, 4, 0] (by decide) rfl
        replace R0 := H.ext
        refine CB.range (V := List Ck) (Va := List Ck) (Vx := List Ck) rfl (gf := 93) (lb := #[.pointer (some ⟨b3, 0, none⟩)]) rfl (fun _ _ => rfl) (xs := D3u.backX a0.bounds) D3u.backX_size (by decide)
          (D3u.back_iter (b := b3) (A := A_a0_bounds) (c := c_a0_bounds) ?_)
          (fun i L => ∃ (l1 : List Bound) (Al1 : Option Addr) (cl1 : Nat), core_Reduce_L1 a0 ((backL a0.bounds).drop i) l1 = some res ∧ L = [.own Al1 cl1 26 3 (List.map encBound l1), .blk b1 24 [.int .i64 a0.layers, .slice A_a0_bounds a0.bounds.length c_a0_bounds], .blk b2 24 [.int .i64 0, .slice none 0 0], .blk bk1 24 [.int .i64 a0.layers, .slice Al1 l1.length cl1], .blk b3 22 [.slice A_a0_bounds a0.bounds.length c_a0_bounds]]) id
          (fun i L ρ' => ∃ (l1 : List Bound) (Al1 : Option Addr) (cl1 : Nat) (p : Int × Bound), core_Reduce_B1 a0 (core_Reduce_L1 a0 ((backL a0.bounds).drop (i + 1))) p l1 = some res ∧ L = [.own Al1 cl1 26 3 (List.map encBound l1), .blk b1 24 [.int .i64 a0.layers, .slice A_a0_bounds a0.bounds.length c_a0_bounds], .blk b2 24 [.int .i64 0, .slice none 0 0], .blk bk1 24 [.int .i64 a0.layers, .slice Al1 l1.length cl1], .blk b3 22 [.slice A_a0_bounds a0.bounds.length c_a0_bounds]] ∧ Tb.Sub [(1, .pointer (some (⟨b1, 0, none⟩))), (2, .pointer (some (⟨b2, 0, none⟩))), (3, .int .i64 0), (5, .pointer (some (⟨bk1, 0, none⟩))), (6, .int .i64 p.1), (25, .func (.func 93) #[] #[.pointer (some (⟨b3, 0, none⟩))])] ρ') id
          (fun _ => False) id ?_ [.own Al3 cl3 26 3 (List.map encBound l3), .blk b1 24 [.int .i64 a0.layers, .slice A_a0_bounds a0.bounds.length c_a0_bounds], .blk b2 24 [.int .i64 0, .slice none 0 0], .blk bk1 24 [.int .i64 a0.layers, .slice Al3 l3.length cl3], .blk b3 22 [.slice A_a0_bounds a0.bounds.length c_a0_bounds]] ⟨l3, Al3, cl3, F, rfl⟩ H ?_ ?_ ?_ (fun _ _ _ h => h.elim)
        · exact hg1
        ·
          rintro i _ W X ⟨l1, Al1, cl1, hF, rfl⟩ HW
          exact ⟨h_a0_bounds.ext HW.ext, (HW.blk 4 rfl).cells⟩
        ·
          rintro r i _ W X x ⟨l1, Al1, cl1, F, rfl⟩ hx H
          obtain ⟨p, hp, rfl⟩ := D3u.backX_at hx
          rw [Tb.drop_at hp] at F
          replace F : core_Reduce_B1 a0 (core_Reduce_L1 a0 ((backL a0.bounds).drop (i + 1))) p l1 = some res := F
          refine CR.sub [(1, .pointer (some (⟨b1, 0, none⟩))), (2, .pointer (some (⟨b2, 0, none⟩))), (3, .int .i64 0), (5, .pointer (some (⟨bk1, 0, none⟩))), (25, .func (.func 93) #[] #[.pointer (some (⟨b3, 0, none⟩))]), (26, .int .i64 p.1), (27, .agg #[.int .i64 p.2.a, .int .i64 p.2.b, .int .i64 p.2.most])] ⟨rfl, rfl, rfl, rfl, rfl, rfl, rfl, trivial⟩ ?_
          have R0 := H.ext
          refine CR.region (fun _ _ h => by cases h.1) rfl ?_
          refine LW.pure rfl rfl (RV.assign rfl) ?_
          refine LW.nil ?_
          exact ⟨rfl, _, ⟨l1, Al1, cl1, p, F, rfl, ⟨rfl, rfl, rfl, rfl, rfl, rfl, trivial⟩⟩, H⟩
        ·
          rintro r i _ ρ' W X ⟨l1, Al1, cl1, p, F, rfl, hsub⟩ H
          refine CR.sub _ hsub ?_
          have R0 := H.ext
          generalize hrec1 : core_Reduce_L1 a0 ((backL a0.bounds).drop (i + 1)) = rec1 at F
          unfold core_Reduce_B1 at F
          refine CR.block ?_
          refine CR.seqJ (fun ρ wl2 => (∃ (l2 : List Bound) (bk2 : Nat) (Al2 : Option Addr) (cl2 : Nat), core_Reduce_k1 a0 l1 rec1 p l2 = some res ∧ ρ = [(1, .pointer (some (⟨b1, 0, none⟩))), (2, .pointer (some (⟨b2, 0, none⟩))), (3, .int .i64 0), (5, .pointer (some (⟨bk1, 0, none⟩))), (6, .int .i64 p.1), (7, .pointer (some (⟨bk2, 0, none⟩))), (25, .func (.func 93) #[] #[.pointer (some (⟨b3, 0, none⟩))])] ∧ Hp w wl2 ([.own Al1 cl1 26 3 (List.map encBound l1), .own Al2 cl2 26 3 (List.map encBound l2), .blk b1 24 [.int .i64 a0.layers, .slice A_a0_bounds a0.bounds.length c_a0_bounds], .blk b2 24 [.int .i64 0, .slice none 0 0], .blk bk1 24 [.int .i64 a0.layers, .slice Al1 l1.length cl1], .blk bk2 24 [.int .i64 a0.layers, .slice Al2 l2.length cl2], .blk b3 22 [.slice A_a0_bounds a0.bounds.length c_a0_bounds]] ++ [X]))) ?_ ?_
          ·
            rintro _ wl2 ⟨l2, bk2, Al2, cl2, F, rfl, H⟩
            have R0 := H.ext
            unfold core_Reduce_k1 at F
            refine CR.seq fun K9 hK9 => ?_
            obtain ⟨r1, hr1, F⟩ := bnd_some F
            obtain ⟨x1, hbx1, hx1, F⟩ := ix_some F
            obtain ⟨r2, hr2, F⟩ := bnd_some F
            refine CR.draw (fun _ _ h => h) rfl [] (fun _ => True) (.cons 0 1 (.cons 2 1 (.cons 3 1 (.cons 4 1 (.cons 5 1 (.cons 6 1 (.cons 1 0 (.cons 7 0 .nil)))))))) mixed (by kernel_rfl) fun w7 E4 => ?_
            replace H := H.grow E4
            replace R0 := H.ext
            refine DW.fix rfl rfl rfl (fun _ EQ => RV.loadA [.int .i64 a0.layers, .slice Al2 l2.length cl2] Tk24 rfl ((H.grow EQ).blk 5 rfl).cells rfl rfl) ?_
            refine DW.fix rfl rfl rfl (fun _ EQ => RV.fieldAddr Tf24_1 rfl) ?_
            refine DW.fix rfl rfl rfl (fun _ EQ => RV.load1 Tk22 rfl (((H.grow EQ).blk 4 rfl).cells.off 1) rfl) ?_
            refine DW.fix rfl rfl rfl (fun _ EQ => RV.move rfl) ?_
            refine DW.fix rfl rfl rfl (fun _ EQ => RV.indexAddr Ts22 rfl rfl hbx1 ((H.own 0 rfl).sl.addr_ hx1)) ?_
            refine DW.fix rfl rfl rfl (fun _ EQ => RV.loadA [.int .i64 x1.a, .int .i64 x1.b, .int .i64 x1.most] Tk26 rfl (((H.grow EQ).own 0 rfl).sl.at_ hx1) rfl rfl) ?_
            refine DW.sole rfl rfl rfl (OW.call Tc81 rfl (core_table_ok (a0 := (⟨a0.layers, l2⟩ : Core)) (H.own 1 rfl).sl hr1) ?_)
            rintro _ w8 ⟨A38_0, c38_0, hs38_0, rfl, E5⟩
            refine ⟨_, rfl, fun _ => E5.ext, ModX.ext E5.ext, ?_⟩
            replace H : Hp w w8 ([.tab A38_0 c38_0 76 hs38_0 75 2 (encM encTight r1), .own Al1 cl1 26 3 (List.map encBound l1), .own Al2 cl2 26 3 (List.map encBound l2), .blk b1 24 [.int .i64 a0.layers, .slice A_a0_bounds a0.bounds.length c_a0_bounds], .blk b2 24 [.int .i64 0, .slice none 0 0], .blk bk1 24 [.int .i64 a0.layers, .slice Al1 l1.length cl1], .blk bk2 24 [.int .i64 a0.layers, .slice Al2 l2.length cl2], .blk b3 22 [.slice A_a0_bounds a0.bounds.length c_a0_bounds]] ++ [X]) := H.append E5
            replace R0 := H.ext
            refine DW.sole rfl rfl rfl (OW.call Tc61 rfl (core_follows_ok (a0 := r1) (a1 := x1) (H.tab 0 rfl).sl2 hr2) ?_)
            rintro _ w9 ⟨rfl, E6⟩
            refine ⟨_, rfl, fun _ => E6, ModX.ext E6, ?_⟩
            replace H := H.grow E6
            replace R0 := H.ext
            refine DW.nil (hK9 _ _ ?_)
            by_cases hp3 : r2 = true
            ·
              replace F := ite_y hp3 F
              have hq3 : r2 = true := hp3
              refine CR.condT rfl hq3 ?_
              refine CR.region (fun _ _ h => h) rfl ?_
              refine LW.pure rfl rfl (RV.loadA [.int .i64 a0.layers, .slice Al2 l2.length cl2] Tk24 rfl (H.blk 6 rfl).cells rfl rfl) ?_
              refine LW.go rfl rfl (OW.store Tk24 rfl rfl (H.blk 5 rfl) (off := 0) (vs := [.int .i64 a0.layers, .slice Al2 l2.length cl2]) rfl rfl rfl rfl rfl fun w10 S2 => ?_)
              replace H : Hp w w10 ([.tab A38_0 c38_0 76 hs38_0 75 2 (encM encTight r1), .own Al1 cl1 26 3 (List.map encBound l1), .own Al2 cl2 26 3 (List.map encBound l2), .blk b1 24 [.int .i64 a0.layers, .slice A_a0_bounds a0.bounds.length c_a0_bounds], .blk b2 24 [.int .i64 0, .slice none 0 0], .blk bk1 24 [.int .i64 a0.layers, .slice Al2 l2.length cl2], .blk bk2 24 [.int .i64 a0.layers, .slice Al2 l2.length cl2], .blk b3 22 [.slice A_a0_bounds a0.bounds.length c_a0_bounds]] ++ [X]) := H.stored 5 rfl S2
              replace R0 := H.ext
              refine LW.nil ?_
              replace H := H.pickR (C := [.tab A38_0 c38_0 76 hs38_0 75 2 (encM encTight r1), .own Al1 cl1 26 3 (List.map encBound l1), .own Al2 cl2 26 3 (List.map encBound l2), .blk b1 24 [.int .i64 a0.layers, .slice A_a0_bounds a0.bounds.length c_a0_bounds], .blk b2 24 [.int .i64 0, .slice none 0 0], .blk bk1 24 [.int .i64 a0.layers, .slice Al2 l2.length cl2], .blk bk2 24 [.int .i64 a0.layers, .slice Al2 l2.length cl2], .blk b3 22 [.slice A_a0_bounds a0.bounds.length c_a0_bounds]]) (C' := [.own Al2 cl2 26 3 (List.map encBound l2), .blk b1 24 [.int .i64 a0.layers, .slice A_a0_bounds a0.bounds.length c_a0_bounds], .blk b2 24 [.int .i64 0, .slice none 0 0], .blk bk1 24 [.int .i64 a0.layers, .slice Al2 l2.length cl2], .blk b3 22 [.slice A_a0_bounds a0.bounds.length c_a0_bounds]]) [2, 3, 4, 5, 7] (by decide) rfl
              replace R0 := H.ext
              subst hrec1
              exact ⟨_, ⟨l2, Al2, cl2, F, rfl⟩, H⟩
            ·
              replace F := ite_n hp3 F
              have hq3 : r2 = false := raw_f hp3
              refine CR.condF rfl hq3 ?_
              refine CR.skip ?_
              replace H := H.pickR (C := [.tab A38_0 c38_0 76 hs38_0 75 2 (encM encTight r1), .own Al1 cl1 26 3 (List.map encBound l1), .own Al2 cl2 26 3 (List.map encBound l2), .blk b1 24 [.int .i64 a0.layers, .slice A_a0_bounds a0.bounds.length c_a0_bounds], .blk b2 24 [.int .i64 0, .slice none 0 0], .blk bk1 24 [.int .i64 a0.layers, .slice Al1 l1.length cl1], .blk bk2 24 [.int .i64 a0.layers, .slice Al2 l2.length cl2], .blk b3 22 [.slice A_a0_bounds a0.bounds.length c_a0_bounds]]) (C' := [.own Al1 cl1 26 3 (List.map encBound l1), .blk b1 24 [.int .i64 a0.layers, .slice A_a0_bounds a0.bounds.length c_a0_bounds], .blk b2 24 [.int .i64 0, .slice none 0 0], .blk bk1 24 [.int .i64 a0.layers, .slice Al1 l1.length cl1], .blk b3 22 [.slice A_a0_bounds a0.bounds.length c_a0_bounds]]) [1, 3, 4, 5, 7] (by decide) rfl
              replace R0 := H.ext
              subst hrec1
              exact ⟨_, ⟨l1, Al1, cl1, F, rfl⟩, H⟩
          ·
            intro K10 hK10 jK33
            obtain ⟨r3, hr3, F⟩ := bnd_some F
            obtain ⟨hg2, F⟩ := gd_some F
            obtain ⟨r4, hr4, F⟩ := bnd_some F
            have H0 := H
            have hz : W.heap.size ≤ W.heap.size := Nat.le_refl _
            refine CR.draw (fun _ _ h => h) rfl [8, 11] (XB W ([.own Al1 cl1 26 3 (List.map encBound l1), .blk b1 24 [.int .i64 a0.layers, .slice A_a0_bounds a0.bounds.length c_a0_bounds], .blk b2 24 [.int .i64 0, .slice none 0 0], .blk bk1 24 [.int .i64 a0.layers, .slice Al1 l1.length cl1], .blk b3 22 [.slice A_a0_bounds a0.bounds.length c_a0_bounds]] ++ [X]) []) (.cons 5 1 (.cons 0 2 (.cons 1 2 (.cons 2 2 (.cons 3 2 (.cons 6 2 (.cons 7 1 (.alt 4 (.alt 8 (.cons 9 2 (.cons 10 0 (.cons 11 0 .nil))) (.cons 10 0 (.cons 8 0 (.cons 9 2 (.cons 11 0 .nil))))) (.cons 10 0 (.cons 4 0 (.cons 8 0 (.cons 9 2 (.cons 11 0 .nil))))))))))))) mixed (by kernel_rfl) fun w11 E7 => ?_
            replace H := H.grow E7
            replace R0 := H.ext
            replace hz := Nat.le_trans hz (Ext.size E7)
            refine DW.fix rfl rfl rfl (fun _ EQ => RV.move rfl) ?_
            refine DW.thru rfl rfl rfl (fun _ EQ => RV.fieldAddr Tf24_0 rfl) ?_
            refine DW.thru rfl rfl rfl (fun _ EQ => RV.load1 Tk3 rfl ((H.thruB 1 rfl EQ (H0.notX [] 1 rfl (by decide))).cells.off 0) rfl) ?_
            refine DW.thru rfl rfl rfl (fun _ EQ => RV.fieldAddr Tf24_1 rfl) ?_
            refine DW.thru rfl rfl rfl (fun _ EQ => RV.load1 Tk22 rfl ((H.thruB 3 rfl EQ (H0.notX [] 3 rfl (by decide))).cells.off 1) rfl) ?_
            refine DW.thru rfl rfl rfl (fun _ EQ => RV.move rfl) ?_
            refine DW.fix rfl rfl rfl (fun _ EQ => RV.add rfl rfl hg2) ?_
            refine DW.alt ?_ ?_
            ·
              refine DW.sole rfl rfl rfl (OW.call Tc82 rfl (slices_Clone_Bound_ok (a0 := l1) (H.own 0 rfl).sl hr3) ?_)
              rintro _ w12 ⟨A44_0, c44_0, rfl, E8⟩
              refine ⟨_, rfl, fun _ => E8.ext, ModX.ext E8.ext, ?_⟩
              have G0_A44_0 : Fresh W A44_0 := fun a ha => Nat.le_trans hz (E8.fresh 0 _ rfl a.block (mem_adB.2 ⟨a, ha, rfl⟩))
              replace H : Hp w w12 ([.own A44_0 c44_0 26 3 (List.map encBound r3), .own Al1 cl1 26 3 (List.map encBound l1), .blk b1 24 [.int .i64 a0.layers, .slice A_a0_bounds a0.bounds.length c_a0_bounds], .blk b2 24 [.int .i64 0, .slice none 0 0], .blk bk1 24 [.int .i64 a0.layers, .slice Al1 l1.length cl1], .blk b3 22 [.slice A_a0_bounds a0.bounds.length c_a0_bounds]] ++ [X]) := H.append E8
              replace R0 := H.ext
              replace hz := Nat.le_trans hz (Ext.size E8.ext)
              refine DW.alt ?_ ?_
              ·
                replace H := H.pickR (C := [.own A44_0 c44_0 26 3 (List.map encBound r3), .own Al1 cl1 26 3 (List.map encBound l1), .blk b1 24 [.int .i64 a0.layers, .slice A_a0_bounds a0.bounds.length c_a0_bounds], .blk b2 24 [.int .i64 0, .slice none 0 0], .blk bk1 24 [.int .i64 a0.layers, .slice Al1 l1.length cl1], .blk b3 22 [.slice A_a0_bounds a0.bounds.length c_a0_bounds]]) (C' := [.own A44_0 c44_0 26 3 (List.map encBound r3), .own Al1 cl1 26 3 (List.map encBound l1), .blk b1 24 [.int .i64 a0.layers, .slice A_a0_bounds a0.bounds.length c_a0_bounds], .blk b2 24 [.int .i64 0, .slice none 0 0], .blk bk1 24 [.int .i64 a0.layers, .slice Al1 l1.length cl1], .blk b3 22 [.slice A_a0_bounds a0.bounds.length c_a0_bounds]]) [0, 1, 2, 3, 4, 5] (by decide) rfl
                replace R0 := H.ext
                obtain ⟨Ex1, HE1, Hz1⟩ := Hp.freeze (a := .own A44_0 c44_0 26 3 (List.map encBound r3)) (L := ([.own Al1 cl1 26 3 (List.map encBound l1), .blk b1 24 [.int .i64 a0.layers, .slice A_a0_bounds a0.bounds.length c_a0_bounds], .blk b2 24 [.int .i64 0, .slice none 0 0], .blk bk1 24 [.int .i64 a0.layers, .slice Al1 l1.length cl1], .blk b3 22 [.slice A_a0_bounds a0.bounds.length c_a0_bounds]] ++ [X])) H
                refine DW.sole rfl rfl rfl (OW.call Tc84 rfl (slices_Delete_Bound_ok (a0 := r3) (a1 := p.1) (a2 := p.1 + 1) (R := Ex1) HE1 hr4) ?_)
                rintro _ w13 ⟨rfl, Hq1⟩
                obtain ⟨Hq1, hz1s, hz1k⟩ := Hz1 w13 (.own A44_0 c44_0 26 3 (List.map encBound r4)) [] rfl Hq1
                refine ⟨_, rfl, fun h => absurd h (by decide), ModX.frz hz1s hz1k (XB.newA G0_A44_0), ?_⟩
                replace H : Hp w w13 ([.own A44_0 c44_0 26 3 (List.map encBound r4), .own Al1 cl1 26 3 (List.map encBound l1), .blk b1 24 [.int .i64 a0.layers, .slice A_a0_bounds a0.bounds.length c_a0_bounds], .blk b2 24 [.int .i64 0, .slice none 0 0], .blk bk1 24 [.int .i64 a0.layers, .slice Al1 l1.length cl1], .blk b3 22 [.slice A_a0_bounds a0.bounds.length c_a0_bounds]] ++ [X]) := Hq1
                replace R0 := H.ext
                replace hz := Nat.le_trans hz hz1s
                refine DW.thru rfl rfl rfl (fun _ EQ => RV.build (vs := [.int .i64 a0.layers, .slice A44_0 r4.length c44_0]) (cs := [.int .i64 a0.layers, .slice A44_0 r4.length c44_0]) rfl (fun _ => by kernel_rfl)) ?_
                refine DW.sole rfl rfl rfl (OW.alloc Tz24 fun b4 w14 N3 => ?_)
                refine ⟨fun _ => N3.ext, ModX.ext N3.ext, ?_⟩
                have G0_b4 : W.heap.size ≤ b4 := by rw [N3.at_]; exact hz
                replace H := H.new N3 N3.blk
                replace R0 := H.ext
                replace hz := Nat.le_trans hz (Ext.size N3.ext)
                refine DW.sole rfl rfl rfl (OW.store Tk24 rfl rfl (H.blk 0 rfl) (off := 0) (vs := [.int .i64 a0.layers, .slice A44_0 r4.length c44_0]) rfl rfl rfl rfl rfl fun w15 S3 => ?_)
                refine ⟨fun h => absurd h (by decide), S3.modx (.inl G0_b4), ?_⟩
                replace H : Hp w w15 ([.blk b4 24 [.int .i64 a0.layers, .slice A44_0 r4.length c44_0], .own A44_0 c44_0 26 3 (List.map encBound r4), .own Al1 cl1 26 3 (List.map encBound l1), .blk b1 24 [.int .i64 a0.layers, .slice A_a0_bounds a0.bounds.length c_a0_bounds], .blk b2 24 [.int .i64 0, .slice none 0 0], .blk bk1 24 [.int .i64 a0.layers, .slice Al1 l1.length cl1], .blk b3 22 [.slice A_a0_bounds a0.bounds.length c_a0_bounds]] ++ [X]) := H.stored 0 rfl S3
                replace R0 := H.ext
                replace hz := Nat.le_trans hz (Nat.le_of_eq S3.size.symm)
                replace H := H.pickR (C := [.blk b4 24 [.int .i64 a0.layers, .slice A44_0 r4.length c44_0], .own A44_0 c44_0 26 3 (List.map encBound r4), .own Al1 cl1 26 3 (List.map encBound l1), .blk b1 24 [.int .i64 a0.layers, .slice A_a0_bounds a0.bounds.length c_a0_bounds], .blk b2 24 [.int .i64 0, .slice none 0 0], .blk bk1 24 [.int .i64 a0.layers, .slice Al1 l1.length cl1], .blk b3 22 [.slice A_a0_bounds a0.bounds.length c_a0_bounds]]) (C' := [.own Al1 cl1 26 3 (List.map encBound l1), .own A44_0 c44_0 26 3 (List.map encBound r4), .blk b1 24 [.int .i64 a0.layers, .slice A_a0_bounds a0.bounds.length c_a0_bounds], .blk b2 24 [.int .i64 0, .slice none 0 0], .blk bk1 24 [.int .i64 a0.layers, .slice Al1 l1.length cl1], .blk b4 24 [.int .i64 a0.layers, .slice A44_0 r4.length c44_0], .blk b3 22 [.slice A_a0_bounds a0.bounds.length c_a0_bounds]]) [2, 1, 3, 4, 5, 0, 6] (by decide) rfl
                replace R0 := H.ext
                refine DW.nil (jK33 _ _ ⟨_, ?_, ⟨r4, b4, A44_0, c44_0, F, rfl, H⟩⟩)
                exact ⟨rfl, rfl, rfl, rfl, rfl, rfl, rfl, trivial⟩
              ·
                refine DW.sole rfl rfl rfl (OW.alloc Tz24 fun b5 w16 N4 => ?_)
                refine ⟨fun _ => N4.ext, ModX.ext N4.ext, ?_⟩
                have G0_b5 : W.heap.size ≤ b5 := by rw [N4.at_]; exact hz
                replace H := H.new N4 N4.blk
                replace R0 := H.ext
                replace hz := Nat.le_trans hz (Ext.size N4.ext)
                replace H := H.pickR (C := [.blk b5 24 [.int .i64 0, .slice none 0 0], .own A44_0 c44_0 26 3 (List.map encBound r3), .own Al1 cl1 26 3 (List.map encBound l1), .blk b1 24 [.int .i64 a0.layers, .slice A_a0_bounds a0.bounds.length c_a0_bounds], .blk b2 24 [.int .i64 0, .slice none 0 0], .blk bk1 24 [.int .i64 a0.layers, .slice Al1 l1.length cl1], .blk b3 22 [.slice A_a0_bounds a0.bounds.length c_a0_bounds]]) (C' := [.own A44_0 c44_0 26 3 (List.map encBound r3), .blk b5 24 [.int .i64 0, .slice none 0 0], .own Al1 cl1 26 3 (List.map encBound l1), .blk b1 24 [.int .i64 a0.layers, .slice A_a0_bounds a0.bounds.length c_a0_bounds], .blk b2 24 [.int .i64 0, .slice none 0 0], .blk bk1 24 [.int .i64 a0.layers, .slice Al1 l1.length cl1], .blk b3 22 [.slice A_a0_bounds a0.bounds.length c_a0_bounds]]) [1, 0, 2, 3, 4, 5, 6] (by decide) rfl
                replace R0 := H.ext
                obtain ⟨Ex2, HE2, Hz2⟩ := Hp.freeze (a := .own A44_0 c44_0 26 3 (List.map encBound r3)) (L := ([.blk b5 24 [.int .i64 0, .slice none 0 0], .own Al1 cl1 26 3 (List.map encBound l1), .blk b1 24 [.int .i64 a0.layers, .slice A_a0_bounds a0.bounds.length c_a0_bounds], .blk b2 24 [.int .i64 0, .slice none 0 0], .blk bk1 24 [.int .i64 a0.layers, .slice Al1 l1.length cl1], .blk b3 22 [.slice A_a0_bounds a0.bounds.length c_a0_bounds]] ++ [X])) H
                refine DW.sole rfl rfl rfl (OW.call Tc84 rfl (slices_Delete_Bound_ok (a0 := r3) (a1 := p.1) (a2 := p.1 + 1) (R := Ex2) HE2 hr4) ?_)
                rintro _ w17 ⟨rfl, Hq2⟩
                obtain ⟨Hq2, hz2s, hz2k⟩ := Hz2 w17 (.own A44_0 c44_0 26 3 (List.map encBound r4)) [] rfl Hq2
                refine ⟨_, rfl, fun h => absurd h (by decide), ModX.frz hz2s hz2k (XB.newA G0_A44_0), ?_⟩
                replace H : Hp w w17 ([.own A44_0 c44_0 26 3 (List.map encBound r4), .blk b5 24 [.int .i64 0, .slice none 0 0], .own Al1 cl1 26 3 (List.map encBound l1), .blk b1 24 [.int .i64 a0.layers, .slice A_a0_bounds a0.bounds.length c_a0_bounds], .blk b2 24 [.int .i64 0, .slice none 0 0], .blk bk1 24 [.int .i64 a0.layers, .slice Al1 l1.length cl1], .blk b3 22 [.slice A_a0_bounds a0.bounds.length c_a0_bounds]] ++ [X]) := Hq2
                replace R0 := H.ext
                replace hz := Nat.le_trans hz hz2s
                refine DW.thru rfl rfl rfl (fun _ EQ => RV.build (vs := [.int .i64 a0.layers, .slice A44_0 r4.length c44_0]) (cs := [.int .i64 a0.layers, .slice A44_0 r4.length c44_0]) rfl (fun _ => by kernel_rfl)) ?_
                refine DW.sole rfl rfl rfl (OW.store Tk24 rfl rfl (H.blk 1 rfl) (off := 0) (vs := [.int .i64 a0.layers, .slice A44_0 r4.length c44_0]) rfl rfl rfl rfl rfl fun w18 S4 => ?_)
                refine ⟨fun h => absurd h (by decide), S4.modx (.inl G0_b5), ?_⟩
                replace H : Hp w w18 ([.own A44_0 c44_0 26 3 (List.map encBound r4), .blk b5 24 [.int .i64 a0.layers, .slice A44_0 r4.length c44_0], .own Al1 cl1 26 3 (List.map encBound l1), .blk b1 24 [.int .i64 a0.layers, .slice A_a0_bounds a0.bounds.length c_a0_bounds], .blk b2 24 [.int .i64 0, .slice none 0 0], .blk bk1 24 [.int .i64 a0.layers, .slice Al1 l1.length cl1], .blk b3 22 [.slice A_a0_bounds a0.bounds.length c_a0_bounds]] ++ [X]) := H.stored 1 rfl S4
                replace R0 := H.ext
                replace hz := Nat.le_trans hz (Nat.le_of_eq S4.size.symm)
                replace H := H.pickR (C := [.own A44_0 c44_0 26 3 (List.map encBound r4), .blk b5 24 [.int .i64 a0.layers, .slice A44_0 r4.length c44_0], .own Al1 cl1 26 3 (List.map encBound l1), .blk b1 24 [.int .i64 a0.layers, .slice A_a0_bounds a0.bounds.length c_a0_bounds], .blk b2 24 [.int .i64 0, .slice none 0 0], .blk bk1 24 [.int .i64 a0.layers, .slice Al1 l1.length cl1], .blk b3 22 [.slice A_a0_bounds a0.bounds.length c_a0_bounds]]) (C' := [.own Al1 cl1 26 3 (List.map encBound l1), .own A44_0 c44_0 26 3 (List.map encBound r4), .blk b1 24 [.int .i64 a0.layers, .slice A_a0_bounds a0.bounds.length c_a0_bounds], .blk b2 24 [.int .i64 0, .slice none 0 0], .blk bk1 24 [.int .i64 a0.layers, .slice Al1 l1.length cl1], .blk b5 24 [.int .i64 a0.layers, .slice A44_0 r4.length c44_0], .blk b3 22 [.slice A_a0_bounds a0.bounds.length c_a0_bounds]]) [2, 0, 3, 4, 5, 1, 6] (by decide) rfl
                replace R0 := H.ext
                refine DW.nil (jK33 _ _ ⟨_, ?_, ⟨r4, b5, A44_0, c44_0, F, rfl, H⟩⟩)
                exact ⟨rfl, rfl, rfl, rfl, rfl, rfl, rfl, trivial⟩
            ·
              refine DW.sole rfl rfl rfl (OW.alloc Tz24 fun b6 w19 N5 => ?_)
              refine ⟨fun _ => N5.ext, ModX.ext N5.ext, ?_⟩
              have G0_b6 : W.heap.size ≤ b6 := by rw [N5.at_]; exact hz
              replace H := H.new N5 N5.blk
              replace R0 := H.ext
              replace hz := Nat.le_trans hz (Ext.size N5.ext)
              refine DW.sole rfl rfl rfl (OW.call Tc82 rfl (slices_Clone_Bound_ok (a0 := l1) (H.own 1 rfl).sl hr3) ?_)
              rintro _ w20 ⟨A47_0, c47_0, rfl, E9⟩
              refine ⟨_, rfl, fun _ => E9.ext, ModX.ext E9.ext, ?_⟩
              have G0_A47_0 : Fresh W A47_0 := fun a ha => Nat.le_trans hz (E9.fresh 0 _ rfl a.block (mem_adB.2 ⟨a, ha, rfl⟩))
              replace H : Hp w w20 ([.own A47_0 c47_0 26 3 (List.map encBound r3), .blk b6 24 [.int .i64 0, .slice none 0 0], .own Al1 cl1 26 3 (List.map encBound l1), .blk b1 24 [.int .i64 a0.layers, .slice A_a0_bounds a0.bounds.length c_a0_bounds], .blk b2 24 [.int .i64 0, .slice none 0 0], .blk bk1 24 [.int .i64 a0.layers, .slice Al1 l1.length cl1], .blk b3 22 [.slice A_a0_bounds a0.bounds.length c_a0_bounds]] ++ [X]) := H.append E9
              replace R0 := H.ext
              replace hz := Nat.le_trans hz (Ext.size E9.ext)
              replace H := H.pickR (C := [.own A47_0 c47_0 26 3 (List.map encBound r3), .blk b6 24 [.int .i64 0, .slice none 0 0], .own Al1 cl1 26 3 (List.map encBound l1), .blk b1 24 [.int .i64 a0.layers, .slice A_a0_bounds a0.bounds.length c_a0_bounds], .blk b2 24 [.int .i64 0, .slice none 0 0], .blk bk1 24 [.int .i64 a0.layers, .slice Al1 l1.length cl1], .blk b3 22 [.slice A_a0_bounds a0.bounds.length c_a0_bounds]]) (C' := [.own A47_0 c47_0 26 3 (List.map encBound r3), .blk b6 24 [.int .i64 0, .slice none 0 0], .own Al1 cl1 26 3 (List.map encBound l1), .blk b1 24 [.int .i64 a0.layers, .slice A_a0_bounds a0.bounds.length c_a0_bounds], .blk b2 24 [.int .i64 0, .slice none 0 0], .blk bk1 24 [.int .i64 a0.layers, .slice Al1 l1.length cl1], .blk b3 22 [.slice A_a0_bounds a0.bounds.length c_a0_bounds]]) [0, 1, 2, 3, 4, 5, 6] (by decide) rfl
              replace R0 := H.ext
              obtain ⟨Ex3, HE3, Hz3⟩ := Hp.freeze (a := .own A47_0 c47_0 26 3 (List.map encBound r3)) (L := ([.blk b6 24 [.int .i64 0, .slice none 0 0], .own Al1 cl1 26 3 (List.map encBound l1), .blk b1 24 [.int .i64 a0.layers, .slice A_a0_bounds a0.bounds.length c_a0_bounds], .blk b2 24 [.int .i64 0, .slice none 0 0], .blk bk1 24 [.int .i64 a0.layers, .slice Al1 l1.length cl1], .blk b3 22 [.slice A_a0_bounds a0.bounds.length c_a0_bounds]] ++ [X])) H
              refine DW.sole rfl rfl rfl (OW.call Tc84 rfl (slices_Delete_Bound_ok (a0 := r3) (a1 := p.1) (a2 := p.1 + 1) (R := Ex3) HE3 hr4) ?_)
              rintro _ w21 ⟨rfl, Hq3⟩
              obtain ⟨Hq3, hz3s, hz3k⟩ := Hz3 w21 (.own A47_0 c47_0 26 3 (List.map encBound r4)) [] rfl Hq3
              refine ⟨_, rfl, fun h => absurd h (by decide), ModX.frz hz3s hz3k (XB.newA G0_A47_0), ?_⟩
              replace H : Hp w w21 ([.own A47_0 c47_0 26 3 (List.map encBound r4), .blk b6 24 [.int .i64 0, .slice none 0 0], .own Al1 cl1 26 3 (List.map encBound l1), .blk b1 24 [.int .i64 a0.layers, .slice A_a0_bounds a0.bounds.length c_a0_bounds], .blk b2 24 [.int .i64 0, .slice none 0 0], .blk bk1 24 [.int .i64 a0.layers, .slice Al1 l1.length cl1], .blk b3 22 [.slice A_a0_bounds a0.bounds.length c_a0_bounds]] ++ [X]) := Hq3
              replace R0 := H.ext
              replace hz := Nat.le_trans hz hz3s
              refine DW.thru rfl rfl rfl (fun _ EQ => RV.build (vs := [.int .i64 a0.layers, .slice A47_0 r4.length c47_0]) (cs := [.int .i64 a0.layers, .slice A47_0 r4.length c47_0]) rfl (fun _ => by kernel_rfl)) ?_
              refine DW.sole rfl rfl rfl (OW.store Tk24 rfl rfl (H.blk 1 rfl) (off := 0) (vs := [.int .i64 a0.layers, .slice A47_0 r4.length c47_0]) rfl rfl rfl rfl rfl fun w22 S5 => ?_)
              refine ⟨fun h => absurd h (by decide), S5.modx (.inl G0_b6), ?_⟩
              replace H : Hp w w22 ([.own A47_0 c47_0 26 3 (List.map encBound r4), .blk b6 24 [.int .i64 a0.layers, .slice A47_0 r4.length c47_0], .own Al1 cl1 26 3 (List.map encBound l1), .blk b1 24 [.int .i64 a0.layers, .slice A_a0_bounds a0.bounds.length c_a0_bounds], .blk b2 24 [.int .i64 0, .slice none 0 0], .blk bk1 24 [.int .i64 a0.layers, .slice Al1 l1.length cl1], .blk b3 22 [.slice A_a0_bounds a0.bounds.length c_a0_bounds]] ++ [X]) := H.stored 1 rfl S5
              replace R0 := H.ext
              replace hz := Nat.le_trans hz (Nat.le_of_eq S5.size.symm)
              replace H := H.pickR (C := [.own A47_0 c47_0 26 3 (List.map encBound r4), .blk b6 24 [.int .i64 a0.layers, .slice A47_0 r4.length c47_0], .own Al1 cl1 26 3 (List.map encBound l1), .blk b1 24 [.int .i64 a0.layers, .slice A_a0_bounds a0.bounds.length c_a0_bounds], .blk b2 24 [.int .i64 0, .slice none 0 0], .blk bk1 24 [.int .i64 a0.layers, .slice Al1 l1.length cl1], .blk b3 22 [.slice A_a0_bounds a0.bounds.length c_a0_bounds]]) (C' := [.own Al1 cl1 26 3 (List.map encBound l1), .own A47_0 c47_0 26 3 (List.map encBound r4), .blk b1 24 [.int .i64 a0.layers, .slice A_a0_bounds a0.bounds.length c_a0_bounds], .blk b2 24 [.int .i64 0, .slice none 0 0], .blk bk1 24 [.int .i64 a0.layers, .slice Al1 l1.length cl1], .blk b6 24 [.int .i64 a0.layers, .slice A47_0 r4.length c47_0], .blk b3 22 [.slice A_a0_bounds a0.bounds.length c_a0_bounds]]) [2, 0, 3, 4, 5, 1, 6] (by decide) rfl
              replace R0 := H.ext
              refine DW.nil (jK33 _ _ ⟨_, ?_, ⟨r4, b6, A47_0, c47_0, F, rfl, H⟩⟩)
              exact ⟨rfl, rfl, rfl, rfl, rfl, rfl, rfl, trivial⟩
        ·
          rintro D _ W ⟨l1, Al1, cl1, F, rfl⟩ H
          rw [D3u.drop_all] at F
          replace F : core_Reduce_k2 a0 l1 = some res := F
          unfold core_Reduce_k2 at F
          have R0 := H.ext
          refine CWD.seqK fun K11 hK11 => ?_
          refine CWD.regionL rfl ?_
          refine LW.pure rfl rfl (RV.loadA [.int .i64 a0.layers, .slice Al1 l1.length cl1] Tk24 rfl (H.blk 3 rfl).cells rfl rfl) ?_
          refine LW.go rfl rfl (OW.store Tk24 rfl rfl (H.blk 2 rfl) (off := 0) (vs := [.int .i64 a0.layers, .slice Al1 l1.length cl1]) rfl rfl rfl rfl rfl fun w23 S6 => ?_)
          replace H : Hp w w23 ([.own Al1 cl1 26 3 (List.map encBound l1), .blk b1 24 [.int .i64 a0.layers, .slice A_a0_bounds a0.bounds.length c_a0_bounds], .blk b2 24 [.int .i64 a0.layers, .slice Al1 l1.length cl1], .blk bk1 24 [.int .i64 a0.layers, .slice Al1 l1.length cl1], .blk b3 22 [.slice A_a0_bounds a0.bounds.length c_a0_bounds]] ++ [dck D]) := H.stored 2 rfl S6
          replace R0 := H.ext
          refine LW.pure rfl rfl (RV.assign rfl) ?_
          refine LW.nil (hK11 _ _ ?_)
          refine CWD.ret ?_
          obtain ⟨hD, H⟩ := dck_take H
          refine ⟨hD, ?_⟩
          replace R0 := H.ext
          obtain rfl := Option.some.inj F
          refine ⟨_, (ResOK.two ⟨_, rfl, run_loadVar_agg Tk24 (H.blk 2 rfl).cells (us := [.int .i64 a0.layers, .slice Al1 l1.length cl1]) rfl rfl⟩ rfl), ?_⟩
          replace H := H.pick (L' := [.own Al1 cl1 26 3 (List.map encBound l1)]) [0] (by decide) rfl
          replace R0 := H.ext
          exact ⟨Al1, cl1, (by first | rfl | (simp; done) | (simp; omega)), H⟩
      ·
        intro K12 hK12 jK35
        obtain ⟨r7, hr7, F⟩ := bnd_some F
        refine CW.draw [7] (fun _ => True) (.cons 0 1 (.cons 1 1 (.cons 2 1 (.cons 3 1 (.alt 4 (.cons 5 1 (.cons 6 0 (.cons 7 0 .nil))) (.cons 6 0 (.cons 4 0 (.cons 5 1 (.cons 7 0 .nil))))))))) mixed (by kernel_rfl) fun w24 E10 => ?_
        replace H := H.grow E10
        replace R0 := H.ext
        refine DW.fix rfl rfl rfl (fun _ EQ => RV.fieldAddr Tf24_0 rfl) ?_
        refine DW.fix rfl rfl rfl (fun _ EQ => RV.load1 Tk3 rfl (((H.grow EQ).blk 1 rfl).cells.off 0) rfl) ?_
        refine DW.fix rfl rfl rfl (fun _ EQ => RV.fieldAddr Tf24_1 rfl) ?_
        refine DW.fix rfl rfl rfl (fun _ EQ => RV.load1 Tk22 rfl (((H.grow EQ).blk 1 rfl).cells.off 1) rfl) ?_
        refine DW.alt ?_ ?_
        ·
          refine DW.sole rfl rfl rfl (OW.call Tc82 rfl (slices_Clone_Bound_ok (a0 := a0.bounds) (h_a0_bounds.ext R0) hr7) ?_)
          rintro _ w25 ⟨A50_0, c50_0, rfl, E11⟩
          refine ⟨_, rfl, fun _ => E11.ext, ModX.ext E11.ext, ?_⟩
          replace H : Hp w w25 [.own A50_0 c50_0 26 3 (List.map encBound r7), .blk b2 24 [.int .i64 0, .slice none 0 0], .blk b1 24 [.int .i64 a0.layers, .slice A_a0_bounds a0.bounds.length c_a0_bounds]] := H.append E11
          replace R0 := H.ext
          refine DW.fix rfl rfl rfl (fun _ EQ => RV.build (vs := [.int .i64 a0.layers, .slice A50_0 r7.length c50_0]) (cs := [.int .i64 a0.layers, .slice A50_0 r7.length c50_0]) rfl (fun _ => by kernel_rfl)) ?_
          refine DW.sole rfl rfl rfl (OW.alloc Tz24 fun b7 w26 N6 => ?_)
          refine ⟨fun _ => N6.ext, ModX.ext N6.ext, ?_⟩
          replace H := H.new N6 N6.blk
          replace R0 := H.ext
          refine DW.sole rfl rfl rfl (OW.store Tk24 rfl rfl (H.blk 0 rfl) (off := 0) (vs := [.int .i64 a0.layers, .slice A50_0 r7.length c50_0]) rfl rfl rfl rfl rfl fun w27 S7 => ?_)
          refine ⟨fun h => absurd h (by decide), S7.modx trivial, ?_⟩
          replace H : Hp w w27 [.blk b7 24 [.int .i64 a0.layers, .slice A50_0 r7.length c50_0], .own A50_0 c50_0 26 3 (List.map encBound r7), .blk b2 24 [.int .i64 0, .slice none 0 0], .blk b1 24 [.int .i64 a0.layers, .slice A_a0_bounds a0.bounds.length c_a0_bounds]] := H.stored 0 rfl S7
          replace R0 := H.ext
          replace H := H.pick (L' := [.own A50_0 c50_0 26 3 (List.map encBound r7), .blk b1 24 [.int .i64 a0.layers, .slice A_a0_bounds a0.bounds.length c_a0_bounds], .blk b2 24 [.int .i64 0, .slice none 0 0], .blk b7 24 [.int .i64 a0.layers, .slice A50_0 r7.length c50_0]]) [1, 3, 2, 0] (by decide) rfl
          replace R0 := H.ext
          refine DW.nil (jK35 _ _ ⟨_, ?_, ⟨r7, b7, A50_0, c50_0, F, rfl, H⟩⟩)
          exact ⟨rfl, rfl, rfl, rfl, trivial⟩
        ·
          refine DW.sole rfl rfl rfl (OW.alloc Tz24 fun b8 w28 N7 => ?_)
          refine ⟨fun _ => N7.ext, ModX.ext N7.ext, ?_⟩
          replace H := H.new N7 N7.blk
          replace R0 := H.ext
          refine DW.sole rfl rfl rfl (OW.call Tc82 rfl (slices_Clone_Bound_ok (a0 := a0.bounds) (h_a0_bounds.ext R0) hr7) ?_)
          rintro _ w29 ⟨A51_0, c51_0, rfl, E12⟩
          refine ⟨_, rfl, fun _ => E12.ext, ModX.ext E12.ext, ?_⟩
          replace H : Hp w w29 [.own A51_0 c51_0 26 3 (List.map encBound r7), .blk b8 24 [.int .i64 0, .slice none 0 0], .blk b2 24 [.int .i64 0, .slice none 0 0], .blk b1 24 [.int .i64 a0.layers, .slice A_a0_bounds a0.bounds.length c_a0_bounds]] := H.append E12
          replace R0 := H.ext
          refine DW.fix rfl rfl rfl (fun _ EQ => RV.build (vs := [.int .i64 a0.layers, .slice A51_0 r7.length c51_0]) (cs := [.int .i64 a0.layers, .slice A51_0 r7.length c51_0]) rfl (fun _ => by kernel_rfl)) ?_
          refine DW.sole rfl rfl rfl (OW.store Tk24 rfl rfl (H.blk 1 rfl) (off := 0) (vs := [.int .i64 a0.layers, .slice A51_0 r7.length c51_0]) rfl rfl rfl rfl rfl fun w30 S8 => ?_)
          refine ⟨fun h => absurd h (by decide), S8.modx trivial, ?_⟩
          replace H : Hp w w30 [.own A51_0 c51_0 26 3 (List.map encBound r7), .blk b8 24 [.int .i64 a0.layers, .slice A51_0 r7.length c51_0], .blk b2 24 [.int .i64 0, .slice none 0 0], .blk b1 24 [.int .i64 a0.layers, .slice A_a0_bounds a0.bounds.length c_a0_bounds]] := H.stored 1 rfl S8
          replace R0 := H.ext
          replace H := H.pick (L' := [.own A51_0 c51_0 26 3 (List.map encBound r7), .blk b1 24 [.int .i64 a0.layers, .slice A_a0_bounds a0.bounds.length c_a0_bounds], .blk b2 24 [.int .i64 0, .slice none 0 0], .blk b8 24 [.int .i64 a0.layers, .slice A51_0 r7.length c51_0]]) [0, 3, 2, 1] (by decide) rfl
          replace R0 := H.ext
          refine DW.nil (jK35 _ _ ⟨_, ?_, ⟨r7, b8, A51_0, c51_0, F, rfl, H⟩⟩)
          exact ⟨rfl, rfl, rfl, rfl, trivial⟩
  ·
    replace F := ite_n hp1 F
    have hq1 := dec_f hp1
    refine CW.condT rfl (not_t hq1) ?_
    refine CW.seq fun K13 hK13 => ?_
    refine CW.region ?_
    refine LW.pure rfl rfl (RV.build (vs := []) (cs := [.int .i64 0, .slice none 0 0]) rfl (fun _ => by kernel_rfl)) ?_
    refine LW.pure rfl rfl (RV.move rfl) ?_
    refine LW.go rfl rfl (OW.store Tk24 rfl rfl (H.blk 0 rfl) (off := 0) (vs := [.int .i64 0, .slice none 0 0]) rfl rfl rfl rfl rfl fun w31 S9 => ?_)
    replace H : Hp w w31 [.blk b2 24 [.int .i64 0, .slice none 0 0], .blk b1 24 [.int .i64 a0.layers, .slice A_a0_bounds a0.bounds.length c_a0_bounds]] := H.stored 0 rfl S9
    replace R0 := H.ext
    refine LW.pure rfl rfl (RV.assign rfl) ?_
    refine LW.nil (hK13 _ _ ?_)
    refine CW.ret ?_
    obtain rfl := Option.some.inj F
    refine ⟨_, (ResOK.two ⟨_, rfl, run_loadVar_agg Tk24 (H.blk 0 rfl).cells (us := [.int .i64 0, .slice none 0 0]) rfl rfl⟩ rfl), ?_⟩
    replace H := H.nilOwn 26 3
    replace R0 := H.ext
    replace H := H.pick (L' := [.own none 0 26 3 (List.map encBound (([] : List Bound)))]) [0] (by decide) rfl
    replace R0 := H.ext
    exact ⟨none, 0, (by first | rfl | (simp; done) | (simp; omega)), H⟩
end Go.D3
