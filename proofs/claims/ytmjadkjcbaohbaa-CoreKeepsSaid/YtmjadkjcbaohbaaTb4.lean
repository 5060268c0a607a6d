/- Lemmas and walks that the proof of this claim uses: Tb4. -/
import Derived.Test.YtmjadkjcbaohbaaTb3
namespace Go.Tb
open Go.RowKit

/-! ### a region that draws its order -/
section
variable {P : Program} {n : Nat} {ops : Array Oper} {Q : Exit → Env → World → Prop} {ρ : Env} {w : World} {S : List Nat}

def noP : List PanicEntry → World → Prop := fun _ _ => False

/-- Operation number i comes up. -/
def st1 (P : Program) (ops : Array Oper) (i : Nat) (K : Act → World → Prop) (a : Act) (w : World) : Prop :=
  ∃ o, ops[i]? = some o ∧ if Region.wanted o (yielded ops a.tmps) = true then wpV P o a w (fun v w' => K (a.put o.dst v) w') noP else K (a.put o.dst undef) w

def lset (L : Array Bool) (i : Nat) : Array Bool := L.setIfInBounds i true

/-- Has the tail (the operations S) begun? -/
def begun (S : List Nat) (L : Array Bool) : Bool := S.any fun k => L.getD k false

theorem begun_mono {L : Array Bool} {i : Nat} (h : begun S L = true) : begun S (lset L i) = true := by
  unfold begun at *
  obtain ⟨k, hk, hb⟩ := List.any_eq_true.1 h
  exact List.any_eq_true.2 ⟨k, hk, getD_set_true hb⟩
theorem begun_lt {L : Array Bool} {j : Nat} (h : begun S L = false) (hj : S.contains j = false) : begun S (lset L j) = false := by
  unfold begun at *
  rw [List.any_eq_false] at *
  intro k hk
  have hne : j ≠ k := fun e => by subst e; simp at hj; exact hj hk
  unfold lset
  rw [getD_set_ne false hne]
  exact h k hk

/-- Whatever order is picked; as long as the tail has not begun, each operation leaves a world of the class C; always one of the class D. -/
def WA (P : Program) (ops : Array Oper) (S : List Nat) (C D : World → Prop) (F : Act → World → Prop) : Nat → Array Bool → Act → World → Prop
  | 0, L, a, w => Region.ready .any ops L = [] ∧ F a w
  | f + 1, L, a, w => Region.ready .any ops L ≠ [] ∧ ∀ i ∈ Region.ready .any ops L, st1 P ops i (fun a' w' => (begun S (lset L i) = false → C w') ∧ D w' ∧ WA P ops S C D F f (lset L i) a' w') a w

theorem wpV_mono {o : Oper} {a : Act} {K K' : Value → World → Prop} {Kp : List PanicEntry → World → Prop} (h : wpV P o a w K Kp) (hk : ∀ v w', K v w' → K' v w') : wpV P o a w K' Kp := by
  unfold wpV at *
  generalize (execOp a.eval o).run P w = r at *
  cases r with
  | ok x w' =>
    cases x <;> first | exact hk _ _ h | exact h.elim | skip
    exact Calls.mono h fun e w'' he => by cases e <;> first | exact hk _ _ he | exact he
  | halt x w' => cases x <;> exact h

theorem st1_mono {i : Nat} {K K' : Act → World → Prop} {a : Act} (h : st1 P ops i K a w) (hk : ∀ a' w', K a' w' → K' a' w') : st1 P ops i K' a w := by
  obtain ⟨o, ho, h⟩ := h
  refine ⟨o, ho, ?_⟩
  split at h
  · rename_i hw; rw [if_pos hw]; exact wpV_mono h (fun v w' => hk _ _)
  · rename_i hw; rw [if_neg hw]; exact hk _ _ h

theorem WA.mono {C C' D D' : World → Prop} {F : Act → World → Prop} (hC : ∀ x, C' x → C x) (hD : ∀ x, D' x → D x) : ∀ (f : Nat) (L : Array Bool) (a : Act) (w : World), WA P ops S C' D' F f L a w → WA P ops S C D F f L a w
  | 0, _, _, _, h => h
  | f + 1, _, _, _, h => ⟨h.1, fun i hi => st1_mono (h.2 i hi) fun _ _ hk => ⟨fun ht => hC _ (hk.1 ht), hD _ hk.2.1, WA.mono hC hD f _ _ _ hk.2.2⟩⟩

theorem WA.tail {C C' D : World → Prop} {F : Act → World → Prop} : ∀ (f : Nat) (L : Array Bool) (a : Act) (w : World), begun S L = true → WA P ops S C' D F f L a w → WA P ops S C D F f L a w
  | 0, _, _, _, _, h => h
  | f + 1, L, _, _, hb, h => ⟨h.1, fun i hi => st1_mono (h.2 i hi) fun _ _ hk => ⟨fun ht => (by rw [begun_mono hb] at ht; cases ht), hk.2.1, WA.tail f _ _ _ (begun_mono hb) hk.2.2⟩⟩

theorem WA.sound {C D : World → Prop} {F : Act → World → Prop} {Q' : Exit → Act → World → Prop} (hF : ∀ a w, F a w → Q' .normal a w) : ∀ (f : Nat) (L : Array Bool) (a : Act) (w : World), WA P ops S C D F f L a w → wpAny P .any ops Q' f L a w
  | 0, _, _, _, h => ⟨h.1, hF _ _ h.2⟩
  | f + 1, _, _, _, h => ⟨fun h0 => absurd h0 h.1, fun i hi => by
      obtain ⟨o, ho, hs⟩ := h.2 i hi
      unfold wpOp
      simp only [ho]
      split at hs
      · rename_i hw
        simp only [hw, if_true]
        exact .inl (wp_of_wpV hs (fun v w' hk => WA.sound hF f _ _ _ hk.2.2) (fun _ _ hk => hk.elim))
      · rename_i hw
        simp only [hw]
        exact WA.sound hF f _ _ _ hs.2.2⟩

/-- In state a, in every world of the class, operation o leaves v and the world alone. -/
def Fix (P : Program) (ops : Array Oper) (C : World → Prop) (o : Oper) (v : Value) (a : Act) : Prop :=
  (Region.wanted o (yielded ops a.tmps) = true ∧ ∀ w, C w → (execOp a.eval o).run P w = .ok (.value v) w) ∨ (Region.wanted o (yielded ops a.tmps) = false ∧ v = undef)

theorem st1_put {j : Nat} {oi oj : Oper} {v : Value} (hj : ops[j]? = some oj) (hap : oi.apart ops oj = true) (hsj : ∀ cs b, oj.op ≠ .select cs b) {K K' : Act → World → Prop} {a : Act}
    (h : st1 P ops j K (a.put oi.dst v) w) (hk : ∀ u w', K ((a.put oj.dst u).put oi.dst v) w' → K' (a.put oj.dst u) w') : st1 P ops j K' a w := by
  obtain ⟨h1, h2, _⟩ := Oper.apart_spec hap
  obtain ⟨o, ho, h⟩ := h
  obtain rfl : o = oj := Option.some.inj (ho.symm.trans hj)
  refine ⟨o, ho, ?_⟩
  rw [wanted_put o a oi.dst v h1] at h
  split
  · rename_i hw
    rw [if_pos hw] at h
    unfold wpV at *
    rw [execOp_put o hsj a oi.dst v h1] at h
    refine wpV_mono (P := P) (o := o) (a := a) (K := fun u w' => K ((a.put oi.dst v).put o.dst u) w') h fun u w' hK => hk u w' ?_
    rw [← Act.put_comm a v u h2]
    exact hK
  · rename_i hw
    rw [if_neg hw] at h
    exact hk _ _ (by rw [← Act.put_comm a v undef h2]; exact h)

theorem Fix.put {oi oj : Oper} {v : Value} {C : World → Prop} {a : Act} (hap : oi.apart ops oj = true) (hsi : ∀ cs b, oi.op ≠ .select cs b) (h : Fix P ops C oi v a) (u : Value) : Fix P ops C oi v (a.put oj.dst u) := by
  obtain ⟨_, _, h3⟩ := Oper.apart_spec hap
  unfold Fix at *
  rw [execOp_put oi hsi a oj.dst u h3, wanted_put oi a oj.dst u h3]
  exact h

/-- All of the tail waits for i. -/
def tailWaits (ops : Array Oper) (S : List Nat) (i : Nat) : Bool :=
  S.all fun k => match ops[k]? with
    | some o => o.after.any fun e => Region.binds .any e && e.on == i
    | none => true

theorem tailWaits_spec {i j : Nat} {oj : Oper} (h : tailWaits ops S i = true) (hj : ops[j]? = some oj) (hT : S.contains j = true) : ∃ e ∈ oj.after, Region.binds .any e = true ∧ e.on = i := by
  have h1 := List.all_eq_true.1 h j (by simpa using hT)
  simp only [hj] at h1
  obtain ⟨e, he, hb⟩ := Array.any_eq_true'.1 h1
  simp only [Bool.and_eq_true, beq_iff_eq] at hb
  exact ⟨e, he, hb.1, hb.2⟩

theorem getD_tf {L : Array Bool} {i : Nat} (h : L.getD i true = false) : L.getD i false = false := by
  rcases Nat.lt_or_ge i L.size with h' | h'
  · simp [h'] at h ⊢; exact h
  · simp [Array.getElem?_eq_none h'] at h

/-- An operation that is fixed in a class of worlds that all others keep may be taken first. -/
theorem WA.first {C D E : World → Prop} {F : Act → World → Prop} {i : Nat} {oi : Oper} {v : Value} (hi : ops[i]? = some oi) (hsel : ∀ (j : Nat) (o : Oper) cs b, ops[j]? = some o → o.op ≠ .select cs b) (hiS : S.contains i = false) :
    ∀ (f : Nat) (L : Array Bool) (a : Act) (w : World), (tailWaits ops S i = true ∧ begun S L = false ∧ ∀ x, C x → E x) ∨ (∀ x, D x → E x) → E w → (begun S L = false → C w) → D w →
      (∀ j oj, ops[j]? = some oj → j ≠ i → L.getD j true = false → (∀ e ∈ oj.after, Region.binds .any e = true → e.on ≠ i) → oi.apart ops oj = true) →
      i ∈ Region.ready .any ops L → Fix P ops E oi v a → WA P ops S C D F f (lset L i) (a.put oi.dst v) w → WA P ops S C D F (f + 1) L a w := by
  have own : ∀ (f : Nat) (L : Array Bool) (a : Act) (w : World), E w → (begun S L = false → C w) → D w → Fix P ops E oi v a → WA P ops S C D F f (lset L i) (a.put oi.dst v) w →
      st1 P ops i (fun a' w' => (begun S (lset L i) = false → C w') ∧ D w' ∧ WA P ops S C D F f (lset L i) a' w') a w := by
    intro f L a w hE hw hD hfix H
    have hw' : begun S (lset L i) = false → C w := fun hb => hw (by
      cases h : begun S L with
      | false => rfl
      | true => rw [begun_mono h] at hb; cases hb)
    refine ⟨oi, hi, ?_⟩
    rcases hfix with ⟨hy, hv⟩ | ⟨hn, rfl⟩
    · rw [if_pos hy]
      unfold wpV
      rw [hv w hE]
      exact ⟨hw', hD, H⟩
    · rw [if_neg (by simp [hn])]
      exact ⟨hw', hD, H⟩
  intro f
  induction f with
  | zero =>
    intro L a w _ hE hw hD _ hr hfix H
    refine ⟨fun h => (by rw [h] at hr; cases hr), fun j hj => ?_⟩
    by_cases hji : j = i
    · subst hji; exact own 0 L a w hE hw hD hfix H
    · have := ready_mono hj hji
      have h1 := H.1
      unfold lset at h1
      rw [h1] at this
      cases this
  | succ f ih =>
    intro L a w htw hE hw hD hfree hr hfix H
    refine ⟨fun h => (by rw [h] at hr; cases hr), fun j hj => ?_⟩
    by_cases hji : j = i
    · subst hji; exact own (f + 1) L a w hE hw hD hfix H
    · obtain ⟨hjun, oj, hoj, hall⟩ := mem_ready.1 hj
      have hiun := (mem_ready.1 hr).1
      have hnot : ∀ e ∈ oj.after, Region.binds .any e = true → e.on ≠ i := fun e he hb heq => by
        have h1 := hall e he hb
        rw [heq, getD_tf hiun] at h1
        cases h1
      have hap := hfree j oj hoj hji hjun hnot
      have hcomm : lset (lset L i) j = lset (lset L j) i := by unfold lset; rw [Array.setIfInBounds_comm _ _ hji]
      have hjT : tailWaits ops S i = true → S.contains j = false := fun ht => by
        cases h : S.contains j with
        | false => rfl
        | true =>
          obtain ⟨e, he, hb, hon⟩ := tailWaits_spec ht hoj h
          exact absurd hon (hnot e he hb)
      refine st1_put hoj hap (fun cs b => hsel j oj cs b hoj) (H.2 j (ready_mono hj hji)) fun u w' hK => ?_
      rw [hcomm] at hK
      have hCw : begun S (lset L j) = false → C w' := fun hb => hK.1 (begun_lt hb hiS)
      refine ⟨hCw, hK.2.1, ?_⟩
      have htw' : (tailWaits ops S i = true ∧ begun S (lset L j) = false ∧ ∀ x, C x → E x) ∨ (∀ x, D x → E x) := htw.imp (fun h => ⟨h.1, begun_lt h.2.1 (hjT h.1), h.2.2⟩) id
      have hE' : E w' := by
        rcases htw' with ⟨_, hb, hCE⟩ | hDE
        · exact hCE _ (hCw hb)
        · exact hDE _ hK.2.1
      refine ih (lset L j) (a.put oj.dst u) w' htw' hE' hCw hK.2.1 (fun k ok hk hki hun hno => hfree k ok hk hki ?_ hno) (ready_mono hr (Ne.symm hji)) (hfix.put hap (fun cs b => hsel i oi cs b hi) u) hK.2.2
      · by_cases hjk : j = k
        · subst hjk; exact hjun
        · unfold lset at hun; rw [getD_set_ne true hjk] at hun; exact hun

/-- The world has grown, and at most the blocks of X have turned. -/
def ModX (X : Nat → Prop) (w w' : World) : Prop := w.heap.size ≤ w'.heap.size ∧ ∀ k, k < w.heap.size → ¬ X k → w'.heap[k]? = w.heap[k]?
theorem ModX.refl (X : Nat → Prop) (w : World) : ModX X w w := ⟨Nat.le_refl _, fun _ _ _ => rfl⟩
theorem ModX.trans {X : Nat → Prop} {a b c : World} (h : ModX X a b) (k : ModX X b c) : ModX X a c :=
  ⟨Nat.le_trans h.1 k.1, fun i hi hx => (k.2 i (Nat.lt_of_lt_of_le hi h.1) hx).trans (h.2 i hi hx)⟩
theorem ModX.ext {X : Nat → Prop} {a b : World} (h : Ext a b) : ModX X a b := ⟨h.size, fun k hk _ => Below.block h k hk⟩
theorem ModX.all (a b : World) (h : a.heap.size ≤ b.heap.size) : ModX (fun _ => True) a b := ⟨h, fun _ _ hx => absurd trivial hx⟩
theorem ModX.blk {X : Nat → Prop} {w w' : World} (h : ModX X w w') {b : Nat} {t : TypeId} {cs : List Value} (f : Blk w b t cs) (hx : ¬ X b) : Blk w' b t cs := (h.2 b f.lt hx).trans f

/-- An order of our own, with forks where one of several operations may come up. -/
inductive DT where
  | nil
  | cons (i k : Nat) (r : DT)
  | alt (i : Nat) (r t : DT)
def DT.len : DT → Nat
  | .nil => 0
  | .cons _ _ r => r.len + 1
  | .alt _ r _ => r.len + 1

/-- Operation i comes up and is taken. -/
def Took (P : Program) (n : Nat) (ops : Array Oper) (S : List Nat) (X : Nat → Prop) (i : Nat) (D : Env → World → Prop) (ρ : Env) (w : World) : Prop :=
  ∃ o, ops[i]? = some o ∧ okDst n o.dst = true ∧
      ((∀ a, Fits n ρ a → Region.wanted o (yielded ops a.tmps) = true ∧ wpV P o a w (fun v w' => (S.contains i = false → Ext w w') ∧ ModX X w w' ∧ D (upd ρ o.dst v) w') noP) ∨
       ((∀ a, Fits n ρ a → Region.wanted o (yielded ops a.tmps) = false) ∧ D (upd ρ o.dst undef) w))

/-- The walk in an order of our own: 1: fixed as long as the tail has not begun; 2: fixed throughout; 0: it alone may come up. -/
def DW (P : Program) (n : Nat) (ops : Array Oper) (Q : Exit → Env → World → Prop) (S : List Nat) (X : Nat → Prop) : DT → Env → World → Prop
  | .nil, ρ, w => Q .normal ρ w
  | .cons i 1 r, ρ, w => ∃ o v, ops[i]? = some o ∧ okDst n o.dst = true ∧ (∀ a, Fits n ρ a → Fix P ops (Ext w) o v a) ∧ DW P n ops Q S X r (upd ρ o.dst v) w
  | .cons i 2 r, ρ, w => ∃ o v, ops[i]? = some o ∧ okDst n o.dst = true ∧ (∀ a, Fits n ρ a → Fix P ops (ModX X w) o v a) ∧ DW P n ops Q S X r (upd ρ o.dst v) w
  | .cons i _ r, ρ, w => Took P n ops S X i (DW P n ops Q S X r) ρ w
  | .alt i r t, ρ, w => Took P n ops S X i (DW P n ops Q S X r) ρ w ∧ DW P n ops Q S X t ρ w

def orderB (ops : Array Oper) (S : List Nat) : List Nat → Array Bool → DT → Bool
  | ex, L, .nil => ex.isEmpty && (Region.ready .any ops L).isEmpty
  | ex, L, .cons i 1 r => ex.isEmpty && (!S.contains i && (Region.ready .any ops L).contains i && Region.free .any ops L i && tailWaits ops S i && !begun S L && orderB ops S [] (lset L i) r)
  | ex, L, .cons i 2 r => ex.isEmpty && (!S.contains i && (Region.ready .any ops L).contains i && Region.free .any ops L i && orderB ops S [] (lset L i) r)
  | ex, L, .cons i _ r => decide ((Region.ready .any ops L).filter (fun j => !ex.contains j) = [i]) && ((!S.contains i || begun S (lset L i)) && orderB ops S [] (lset L i) r)
  | ex, L, .alt i r t => (Region.ready .any ops L).contains i && decide (t.len = r.len + 1) && ((!S.contains i || begun S (lset L i)) && orderB ops S [] (lset L i) r) && orderB ops S (i :: ex) L t

theorem took_sound {X : Nat → Prop} {i : Nat} {r : DT} {L : Array Bool} {ρ : Env} {w : World} {a : Act} {F : Act → World → Prop}
    (ih : ∀ (ρ : Env) (w : World) (a : Act), DW P n ops Q S X r ρ w → Fits n ρ a → WA P ops S (Ext w) (ModX X w) F r.len (lset L i) a w)
    (hB3 : (!S.contains i || begun S (lset L i)) = true) (h : Took P n ops S X i (DW P n ops Q S X r) ρ w) (ha : Fits n ρ a) :
    st1 P ops i (fun a' w' => (begun S (lset L i) = false → Ext w w') ∧ ModX X w w' ∧ WA P ops S (Ext w) (ModX X w) F r.len (lset L i) a' w') a w := by
  obtain ⟨o, ho, hd, h⟩ := h
  refine ⟨o, ho, ?_⟩
  rcases h with h | ⟨hn, h⟩
  · obtain ⟨hw, h⟩ := h a ha
    rw [if_pos hw]
    refine wpV_mono h fun v w' ⟨he, hx, hk⟩ => ⟨fun hb => he ?_, hx, ?_⟩
    · cases h : S.contains i with
      | false => rfl
      | true => simp only [h, hb] at hB3; cases hB3
    · have hs := WA.mono (fun _ h => h) (fun x hx' => hx.trans hx') _ _ _ _ (ih _ w' _ hk (ha.upd hd v))
      cases hjT : S.contains i
      · exact WA.mono (fun x hx => (he hjT).trans hx) (fun _ h => h) _ _ _ _ hs
      · have hb : begun S (lset L i) = true := by simpa only [hjT, Bool.not_true, Bool.false_or] using hB3
        exact WA.tail _ _ _ _ hb hs
  · rw [if_neg (by simp [hn a ha])]
    exact ⟨fun _ => Ext.refl w, ModX.refl X w, ih _ w _ h (ha.upd hd undef)⟩

/-- What the checks give: the walk from here, and, beyond the operations ex, the next step alone. -/
def WX (P : Program) (ops : Array Oper) (S : List Nat) (C D : World → Prop) (F : Act → World → Prop) (ex : List Nat) (f : Nat) (L : Array Bool) (a : Act) (w : World) : Prop :=
  (ex = [] → WA P ops S C D F f L a w) ∧ (ex ≠ [] → ∀ f', f = f' + 1 → ∀ i ∈ Region.ready .any ops L, ex.contains i = false → st1 P ops i (fun a' w' => (begun S (lset L i) = false → C w') ∧ D w' ∧ WA P ops S C D F f' (lset L i) a' w') a w)

theorem WX.nil_ {C D : World → Prop} {F : Act → World → Prop} {ex : List Nat} {f : Nat} {L : Array Bool} {a : Act} (he : ex.isEmpty = true) (h : WA P ops S C D F f L a w) : WX P ops S C D F ex f L a w :=
  ⟨fun _ => h, fun hne => absurd (List.isEmpty_iff.1 he) hne⟩
theorem WX.step {C D : World → Prop} {F : Act → World → Prop} {ex : List Nat} {f j : Nat} {L : Array Bool} {a : Act} (hj : j ∈ Region.ready .any ops L)
    (h : ∀ i ∈ Region.ready .any ops L, ex.contains i = false → st1 P ops i (fun a' w' => (begun S (lset L i) = false → C w') ∧ D w' ∧ WA P ops S C D F f (lset L i) a' w') a w) : WX P ops S C D F ex (f + 1) L a w :=
  ⟨fun he => ⟨fun h0 => (by rw [h0] at hj; cases hj), fun i hi => h i hi (by simp [he])⟩, fun _ f' hf => (by
    obtain rfl : f = f' := by omega
    exact h)⟩

theorem DW.sound {X : Nat → Prop} (hsel : Region.noSelect ops = true) : ∀ (r : DT) (ex : List Nat) (L : Array Bool) (ρ : Env) (w : World) (a : Act), orderB ops S ex L r = true → DW P n ops Q S X r ρ w → Fits n ρ a →
    WX P ops S (Ext w) (ModX X w) (fun a w => lift n Q .normal a w) ex r.len L a w
  | .nil, ex, L, ρ, w, a, hB, h, ha => by
    simp only [orderB, Bool.and_eq_true] at hB
    exact WX.nil_ hB.1 ⟨by simpa using hB.2, ρ, ha, h⟩
  | .cons i 1 r, ex, L, ρ, w, a, hB, h, ha => by
    obtain ⟨o, v, ho, hd, hfix, h⟩ := h
    simp only [orderB, Bool.and_eq_true, Bool.not_eq_true'] at hB
    obtain ⟨hex, ⟨⟨⟨⟨hiS, hr⟩, hf⟩, ht⟩, hb⟩, hB⟩ := hB
    exact WX.nil_ hex (WA.first (E := Ext w) ho (Region.noSelect_spec hsel) hiS r.len L a w (.inl ⟨ht, hb, fun _ h => h⟩) (Ext.refl w) (fun _ => Ext.refl w) (ModX.refl X w) (Region.free_spec ho hf) (by simpa using hr) (hfix a ha) ((DW.sound hsel r [] (lset L i) _ w _ hB h (ha.upd hd v)).1 rfl))
  | .cons i 2 r, ex, L, ρ, w, a, hB, h, ha => by
    obtain ⟨o, v, ho, hd, hfix, h⟩ := h
    simp only [orderB, Bool.and_eq_true, Bool.not_eq_true'] at hB
    obtain ⟨hex, ⟨⟨hiS, hr⟩, hf⟩, hB⟩ := hB
    exact WX.nil_ hex (WA.first (E := ModX X w) ho (Region.noSelect_spec hsel) hiS r.len L a w (.inr fun _ h => h) (ModX.refl X w) (fun _ => Ext.refl w) (ModX.refl X w) (Region.free_spec ho hf) (by simpa using hr) (hfix a ha) ((DW.sound hsel r [] (lset L i) _ w _ hB h (ha.upd hd v)).1 rfl))
  | .cons i 0 r, ex, L, ρ, w, a, hB, h, ha => DW.sound.sole_sound i r ex L ρ w a (fun ρ w a hB h ha => (DW.sound hsel r [] (lset L i) ρ w a hB h ha).1 rfl) hB h ha
  | .cons i (k + 3) r, ex, L, ρ, w, a, hB, h, ha => DW.sound.sole_sound i r ex L ρ w a (fun ρ w a hB h ha => (DW.sound hsel r [] (lset L i) ρ w a hB h ha).1 rfl) hB h ha
  | .alt i r t, ex, L, ρ, w, a, hB, h, ha => by
    simp only [orderB, Bool.and_eq_true, decide_eq_true_eq] at hB
    obtain ⟨⟨⟨hr, hlen⟩, h3, hB⟩, hBt⟩ := hB
    have ht := (DW.sound hsel t (i :: ex) L ρ w a hBt h.2 ha).2 (by simp) r.len hlen
    refine WX.step (f := r.len) (List.contains_iff_mem.1 hr) fun j hj hjx => ?_
    by_cases hji : j = i
    · subst hji
      exact took_sound (fun ρ w a h ha => (DW.sound hsel r [] (lset L j) ρ w a hB h ha).1 rfl) h3 h.1 ha
    · exact ht j hj (by
        rw [List.contains_cons, hjx, Bool.or_false]
        exact beq_false_of_ne hji)
where
  sole_sound {X : Nat → Prop} (i : Nat) (r : DT) (ex : List Nat) (L : Array Bool) (ρ : Env) (w : World) (a : Act)
    (ih : ∀ (ρ : Env) (w : World) (a : Act), orderB ops S [] (lset L i) r = true → DW P n ops Q S X r ρ w → Fits n ρ a → WA P ops S (Ext w) (ModX X w) (fun a w => lift n Q .normal a w) r.len (lset L i) a w)
    (hB : (decide ((Region.ready .any ops L).filter (fun j => !ex.contains j) = [i]) && ((!S.contains i || begun S (lset L i)) && orderB ops S [] (lset L i) r)) = true)
    (h : Took P n ops S X i (DW P n ops Q S X r) ρ w) (ha : Fits n ρ a) :
      WX P ops S (Ext w) (ModX X w) (fun a w => lift n Q .normal a w) ex (r.len + 1) L a w := by
    simp only [Bool.and_eq_true, decide_eq_true_eq] at hB
    obtain ⟨hB1, hB3, hB2⟩ := hB
    have hi : i ∈ (Region.ready .any ops L).filter (fun j => !ex.contains j) := by rw [hB1]; simp
    refine WX.step (List.mem_filter.1 hi).1 fun j hj hjx => ?_
    have hj' : j ∈ (Region.ready .any ops L).filter (fun j => !ex.contains j) := List.mem_filter.2 ⟨hj, by rw [hjx]; rfl⟩
    rw [hB1] at hj'
    obtain rfl : j = i := by simpa using hj'
    exact took_sound (fun ρ w a h ha => ih ρ w a hB2 h ha) hB3 h ha

def drawB (ops : Array Oper) (S : List Nat) (r : DT) : Bool := Region.noSelect ops && decide (r.len = ops.size) && orderB ops S [] (Array.replicate ops.size false) r

theorem CW.draw (S : List Nat) (X : Nat → Prop) (r : DT) {id : Nat} (hm : P.follows .mixedOrders = true) (hB : drawB ops S r = true) (h : ∀ w', Ext w w' → DW P n ops Q S X r ρ w') : CW P n (.region id ops true) Q ρ w := fun a ha => by
  simp only [drawB, Bool.and_eq_true, decide_eq_true_eq] at hB
  refine wp_region_any hm ?_
  have hs := WA.sound (Q' := lift n Q) (fun _ _ h => h) _ _ _ _ ((DW.sound hB.1.1 r [] _ ρ _ a hB.2 (h { w with drawn := w.drawn + 1 } (Ext.drew (Ext.refl w))) ha).1 rfl)
  rw [hB.1.2] at hs
  exact hs

/-! steps -/
variable {i : Nat} {r : DT} {o : Oper} {v : Value} {X : Nat → Prop}
theorem DW.nil (h : Q .normal ρ w) : DW P n ops Q S X .nil ρ w := h
theorem wanted_none {a : Act} (hg : o.guard = none) : Region.wanted o (yielded ops a.tmps) = true := by simp [Region.wanted, hg]
theorem wanted_some {a : Act} {j t : Nat} {b c : Bool} (ha : Fits n ρ a) (hg : o.guard = some (j, b)) (hj : (ops[j]?).bind (·.dst) = some t) (hl : look ρ t = some (.bool c)) : Region.wanted o (yielded ops a.tmps) = (c == b) := by
  have := ha.at_ t _ hl
  simp only [Region.wanted, hg, yielded, hj, Option.bind_some, this]
  cases b <;> cases c <;> rfl
theorem DW.fix (ho : ops[i]? = some o) (hg : o.guard = none) (hd : okDst n o.dst = true) (h : ∀ w', Ext w w' → RV P n o ρ w' v) (k : DW P n ops Q S X r (upd ρ o.dst v) w) : DW P n ops Q S X (.cons i 1 r) ρ w :=
  ⟨o, v, ho, hd, fun a ha => .inl ⟨wanted_none hg, fun w' hw => h w' hw a ha⟩, k⟩
theorem DW.fixY {j t : Nat} {b : Bool} (ho : ops[i]? = some o) (hg : o.guard = some (j, b)) (hj : (ops[j]?).bind (·.dst) = some t) (hl : look ρ t = some (.bool b)) (hd : okDst n o.dst = true) (h : ∀ w', Ext w w' → RV P n o ρ w' v)
    (k : DW P n ops Q S X r (upd ρ o.dst v) w) : DW P n ops Q S X (.cons i 1 r) ρ w :=
  ⟨o, v, ho, hd, fun a ha => .inl ⟨by rw [wanted_some ha hg hj hl]; simp, fun w' hw => h w' hw a ha⟩, k⟩
theorem DW.fixN {j t : Nat} {b c : Bool} (ho : ops[i]? = some o) (hg : o.guard = some (j, b)) (hj : (ops[j]?).bind (·.dst) = some t) (hl : look ρ t = some (.bool c)) (hbc : (c == b) = false) (hd : okDst n o.dst = true)
    (k : DW P n ops Q S X r (upd ρ o.dst undef) w) : DW P n ops Q S X (.cons i 1 r) ρ w :=
  ⟨o, undef, ho, hd, fun a ha => .inr ⟨by rw [wanted_some ha hg hj hl, hbc], rfl⟩, k⟩
theorem DW.thru (ho : ops[i]? = some o) (hg : o.guard = none) (hd : okDst n o.dst = true) (h : ∀ w', ModX X w w' → RV P n o ρ w' v) (k : DW P n ops Q S X r (upd ρ o.dst v) w) : DW P n ops Q S X (.cons i 2 r) ρ w :=
  ⟨o, v, ho, hd, fun a ha => .inl ⟨wanted_none hg, fun w' hw => h w' hw a ha⟩, k⟩
/-- For the operations that stand alone the post over panics is False. -/
theorem DW.sole (ho : ops[i]? = some o) (hg : o.guard = none) (hd : okDst n o.dst = true) (h : OW P n (fun _ _ _ => False) o ρ w (fun v w' => (S.contains i = false → Ext w w') ∧ ModX X w w' ∧ DW P n ops Q S X r (upd ρ o.dst v) w')) : DW P n ops Q S X (.cons i 0 r) ρ w :=
  ⟨o, ho, hd, .inl fun a ha => ⟨wanted_none hg, h a ha⟩⟩
theorem DW.soleY {j t : Nat} {b : Bool} (ho : ops[i]? = some o) (hg : o.guard = some (j, b)) (hj : (ops[j]?).bind (·.dst) = some t) (hl : look ρ t = some (.bool b)) (hd : okDst n o.dst = true)
    (h : OW P n (fun _ _ _ => False) o ρ w (fun v w' => (S.contains i = false → Ext w w') ∧ ModX X w w' ∧ DW P n ops Q S X r (upd ρ o.dst v) w')) : DW P n ops Q S X (.cons i 0 r) ρ w :=
  ⟨o, ho, hd, .inl fun a ha => ⟨by rw [wanted_some ha hg hj hl]; simp, h a ha⟩⟩
theorem DW.soleN {j t : Nat} {b c : Bool} (ho : ops[i]? = some o) (hg : o.guard = some (j, b)) (hj : (ops[j]?).bind (·.dst) = some t) (hl : look ρ t = some (.bool c)) (hbc : (c == b) = false) (hd : okDst n o.dst = true)
    (k : DW P n ops Q S X r (upd ρ o.dst undef) w) : DW P n ops Q S X (.cons i 0 r) ρ w :=
  ⟨o, ho, hd, .inr ⟨fun a ha => by rw [wanted_some ha hg hj hl, hbc], k⟩⟩
theorem DW.alt {t : DT} (h : DW P n ops Q S X (.cons i 0 r) ρ w) (k : DW P n ops Q S X t ρ w) : DW P n ops Q S X (.alt i r t) ρ w := ⟨h, k⟩
end
end Go.Tb
