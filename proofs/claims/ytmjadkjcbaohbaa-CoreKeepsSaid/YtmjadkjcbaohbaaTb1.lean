/-
  A calculus for walks over an environment of known slots: what a slot holds is looked up in a list; what is not in the list is not known. Each operation has one law. No program is named here.
-/
import Derived.WalkKit
import Derived.Deep.LoopGhost
namespace Go.Tb
open Go.RowKit

abbrev Env := List (Nat × Value)

def look : Env → Nat → Option Value
  | [], _ => none
  | (k, v) :: r, i => match Nat.beq k i with
    | true => some v
    | false => look r i

def upd (ρ : Env) (d : Option Nat) (v : Value) : Env :=
  match d with
  | none => ρ
  | some d => (d, v) :: ρ

def ev (ρ : Env) : Operand → Option Value
  | .tmp t => look ρ t
  | .const v => some v
  | .global g => some (.pointer (some ⟨g, 0, none⟩))
  | .func f => some (.func (.func f) #[] #[])

def evs (ρ : Env) : List Operand → Option (List Value)
  | [] => some []
  | x :: r => match ev ρ x with
    | some v => match evs ρ r with
      | some vs => some (v :: vs)
      | none => none
    | none => none

def okDst (n : Nat) : Option Nat → Bool
  | none => true
  | some d => Nat.blt d n

structure Fits (n : Nat) (ρ : Env) (a : Act) : Prop where
  defers : a.defers = []
  size : a.tmps.size = n
  at_ : ∀ t v, look ρ t = some v → a.tmps[t]? = some v

def Sub : Env → Env → Prop
  | [], _ => True
  | (k, v) :: r, ρ => look ρ k = some v ∧ Sub r ρ

theorem Sub.look {ρ' ρ : Env} (h : Sub ρ' ρ) {t : Nat} {v : Value} (hl : Tb.look ρ' t = some v) : Tb.look ρ t = some v := by
  induction ρ' with
  | nil => simp [Tb.look] at hl
  | cons kv r ih =>
    obtain ⟨k, u⟩ := kv
    obtain ⟨h1, h2⟩ := h
    unfold Tb.look at hl
    split at hl
    · rename_i hb
      have : k = t := Nat.eq_of_beq_eq_true hb
      subst this
      simp at hl; subst hl; exact h1
    · exact ih h2 hl

theorem Fits.sub {n : Nat} {ρ' ρ : Env} {a : Act} (hs : Sub ρ' ρ) (h : Fits n ρ a) : Fits n ρ' a :=
  ⟨h.defers, h.size, fun t v hl => h.at_ t v (hs.look hl)⟩

theorem Fits.ev {n : Nat} {ρ : Env} {a : Act} (h : Fits n ρ a) {x : Operand} {v : Value} (hx : Tb.ev ρ x = some v) : a.eval x = v := by
  cases x with
  | tmp t =>
    have := h.at_ t v hx
    simp [Act.eval, this]
  | const c => simpa [Tb.ev, Act.eval] using hx
  | global g => simpa [Tb.ev, Act.eval] using hx
  | func f => simpa [Tb.ev, Act.eval] using hx

theorem Fits.evs {n : Nat} {ρ : Env} {a : Act} (h : Fits n ρ a) : ∀ {xs : List Operand} {vs : List Value}, Tb.evs ρ xs = some vs → xs.map a.eval = vs
  | [], vs, hx => by simp [Tb.evs] at hx; simp [hx]
  | x :: r, vs, hx => by
    unfold Tb.evs at hx
    split at hx
    · rename_i v hv
      split at hx
      · rename_i us hus
        simp at hx; subst hx
        simp [h.ev hv, h.evs hus]
      · cases hx
    · cases hx

theorem Fits.upd {n : Nat} {ρ : Env} {a : Act} (h : Fits n ρ a) {d : Option Nat} (hd : okDst n d = true) (v : Value) : Fits n (Tb.upd ρ d v) (a.put d v) := by
  cases d with
  | none => exact h
  | some d =>
    refine ⟨h.defers, by simp [Act.put, h.size], fun t u hl => ?_⟩
    have hdn : d < n := by simpa [okDst, Nat.blt_eq] using hd
    simp only [Tb.upd, Tb.look] at hl
    simp only [Act.put]
    split at hl
    · rename_i hb
      have : d = t := Nat.eq_of_beq_eq_true hb
      subst this
      simp at hl; subst hl
      simp [h.size, hdn]
    · rename_i hb
      have hne : d ≠ t := fun e => by subst e; simp at hb
      rw [Array.getElem?_setIfInBounds_ne hne]
      exact h.at_ t u hl

/-- A post over acts out of one over environments. -/
def lift (n : Nat) (Q : Exit → Env → World → Prop) : Exit → Act → World → Prop := fun e a w => ∃ ρ, Fits n ρ a ∧ Q e ρ w

section
variable {P : Program} {n : Nat} {ops : Array Oper} {Q : Exit → Env → World → Prop} {ρ : Env} {w : World}

/-- What is asked of one operation, over the value that it yields. -/
def wpV (P : Program) (o : Oper) (a : Act) (w : World) (K : Value → World → Prop) (Kp : List PanicEntry → World → Prop) : Prop :=
  match (execOp a.eval o).run P w with
  | .ok (.value v) w' => K v w'
  | .ok .skip w' => K undef w'
  | .ok (.enter f args) w' => Calls P f args w' fun
    | .returned v, w'' => K v w''
    | .panicked c, w'' => Kp c w''
    | .outgrown, _ => False
  | .halt (.panic v) w' => Kp [{ v, recovered := false }] w'
  | _ => False

theorem wp_of_wpV {P : Program} {o : Oper} {a : Act} {w : World} {K : Value → World → Prop} {Kp : List PanicEntry → World → Prop} {next : Act → World → Prop} {Q : Exit → Act → World → Prop}
    (h : wpV P o a w K Kp) (hn : ∀ v w', K v w' → next (a.put o.dst v) w') (hp : ∀ c w', Kp c w' → Q (.panic c) a w') : o.wp P a w next Q := by
  unfold wpV at h
  unfold Oper.wp
  generalize (execOp a.eval o).run P w = r at *
  cases r with
  | ok x w' =>
    cases x <;> simp only [Oper.upon] <;> first | exact hn _ _ h | exact h.elim | skip
    refine Calls.mono h fun e w'' he => ?_
    cases e with
    | returned v => exact hn _ _ he
    | panicked c => exact hp _ _ he
    | outgrown => exact he.elim
  | halt x w' =>
    cases x <;> simp only [Oper.upon] <;> first | exact hp _ _ h | exact h.elim

def CW (P : Program) (n : Nat) (c : Code) (Q : Exit → Env → World → Prop) (ρ : Env) (w : World) : Prop :=
  ∀ a, Fits n ρ a → c.wp P (lift n Q) a w

def LW (P : Program) (n : Nat) (ops : Array Oper) (Q : Exit → Env → World → Prop) (l : List Oper) (ρ : Env) (w : World) : Prop :=
  ∀ a, Fits n ρ a → wpList P ops (lift n Q) l a w

def OW (P : Program) (n : Nat) (Q : Exit → Env → World → Prop) (o : Oper) (ρ : Env) (w : World) (K : Value → World → Prop) : Prop :=
  ∀ a, Fits n ρ a → wpV P o a w K (fun c w' => Q (.panic c) ρ w')

theorem CW.sub {c : Code} (ρ' : Env) (hs : Sub ρ' ρ) (h : CW P n c Q ρ' w) : CW P n c Q ρ w := fun a ha => h a (ha.sub hs)
theorem LW.sub {l : List Oper} (ρ' : Env) (hs : Sub ρ' ρ) (h : LW P n ops Q l ρ' w) : LW P n ops Q l ρ w := fun a ha => h a (ha.sub hs)

def thenE (next : Env → World → Prop) (Q : Exit → Env → World → Prop) : Exit → Env → World → Prop
  | .normal, ρ, w => next ρ w
  | e, ρ, w => Q e ρ w

def blockE (id : Nat) (Q : Exit → Env → World → Prop) : Exit → Env → World → Prop
  | .exit id', ρ, w => match Nat.beq id' id with
    | true => Q .normal ρ w
    | false => Q (.exit id') ρ w
  | e, ρ, w => Q e ρ w

theorem CW.seq {x y : Code} (h : ∀ K : Env → World → Prop, (∀ ρ w, CW P n y Q ρ w → K ρ w) → CW P n x (thenE K Q) ρ w) : CW P n (.seq x y) Q ρ w := fun a ha => by
  refine wp_seq (wp_mono (h (fun ρ w => CW P n y Q ρ w) (fun _ _ h => h) a ha) fun e a' w' hq => ?_)
  obtain ⟨ρ', hf, hq⟩ := hq
  cases e <;> first | exact hq a' hf | exact ⟨ρ', hf, hq⟩

theorem CW.cond {c : Operand} {x y : Code} {t : Bool} (hc : ev ρ c = some (.bool t)) (ht : t = true → CW P n x Q ρ w) (hf : t = false → CW P n y Q ρ w) : CW P n (.cond c x y) Q ρ w :=
  fun a ha => wp_cond_split (ha.ev hc) (fun h => ht h a ha) (fun h => hf h a ha)

theorem CW.skip (h : Q .normal ρ w) : CW P n .skip Q ρ w := fun _ ha => wp_skip ⟨ρ, ha, h⟩
theorem CW.ret (h : Q .ret ρ w) : CW P n .ret Q ρ w := fun _ ha => wp_ret ⟨ρ, ha, h⟩
theorem CW.exit {id : Nat} (h : Q (.exit id) ρ w) : CW P n (.exit id) Q ρ w := fun _ ha => wp_exit ⟨ρ, ha, h⟩

theorem CW.block {id : Nat} {c : Code} (h : CW P n c (blockE id Q) ρ w) : CW P n (.block id c) Q ρ w := fun a ha => by
  refine wp_block (wp_mono (h a ha) fun e a' w' hq => ?_)
  obtain ⟨ρ', hf, hq⟩ := hq
  cases e with
  | exit id' =>
    simp only [blockE] at hq
    simp only [Exit.inBlock]
    split at hq
    · rename_i hb
      rw [if_pos (Nat.eq_of_beq_eq_true hb)]
      exact ⟨ρ', hf, hq⟩
    · rename_i hb
      rw [if_neg (fun e => by subst e; simp at hb)]
      exact ⟨ρ', hf, hq⟩
  | _ => exact ⟨ρ', hf, hq⟩

/-- A loop: the invariant bears the measure as its first argument. -/
theorem CW.loop {c : Code} (I : Nat → Env → World → Prop) (m : Nat) (h0 : ∃ ρ', Sub ρ' ρ ∧ I m ρ' w)
    (round : ∀ m ρ w, I m ρ w → CW P n c (thenE (fun ρ' w' => ∃ m', m' < m ∧ ∃ ρ'', Sub ρ'' ρ' ∧ I m' ρ'' w') Q) ρ w) : CW P n (.loop c) Q ρ w := by
  obtain ⟨ρ₀, hs, hI⟩ := h0
  intro a ha
  refine wp_loop_ghost (fun m a w => ∃ ρ, Fits n ρ a ∧ I m ρ w) m ⟨ρ₀, ha.sub hs, hI⟩ ?_
  intro m a w ⟨ρ, hf, hI⟩
  refine wp_mono (round m ρ w hI a hf) fun e a' w' hq => ?_
  obtain ⟨ρ', hf', hq⟩ := hq
  cases e with
  | normal =>
    obtain ⟨m', hm, ρ₂, hs₂, hI₂⟩ := hq
    exact ⟨m', hm, ρ₂, hf'.sub hs₂, hI₂⟩
  | _ => exact ⟨ρ', hf', hq⟩
end
end Go.Tb
