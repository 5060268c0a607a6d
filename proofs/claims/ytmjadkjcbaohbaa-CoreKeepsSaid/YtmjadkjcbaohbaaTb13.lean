/- Lemmas and walks that the proof of this claim uses: Tb13. -/
import Derived.Test.YtmjadkjcbaohbaaTb12
import Derived.Laws.StructEq
namespace Go.Tb
section
variable {P : Program} {n : Nat} {ρ : Env} {w : World} {d : Option Tmp} {ty : TypeId} {pos : String} {after : Array Edge} {g : Option (Nat × Bool)}
theorem RV.eqA {t u : Nat} {x y : Operand} {xs ys : Array Value} {r : Bool} (hg : P.eqGuardType P.depth t = false) (hr : ∀ w, (Op.equalIn 10000 t (.agg xs) (.agg ys)).run P w = .ok r w) (hx : ev ρ x = some (.agg xs)) (hy : ev ρ y = some (.agg ys)) :
    RV P n ⟨d, .binOp .eql t x y u, ty, pos, after, g⟩ ρ w (.bool r) :=
  (fun c hc => by simp only [execOp, hc.ev hx, hc.ev hy, Sem.run_bind, run_eqGuard_agg w .eql t x y xs ys hg, Result.andThen_ok, run_eql_struct, hr, Sem.run_pure])
theorem RV.neA {t u : Nat} {x y : Operand} {xs ys : Array Value} {r : Bool} (hg : P.eqGuardType P.depth t = false) (hr : ∀ w, (Op.equalIn 10000 t (.agg xs) (.agg ys)).run P w = .ok r w) (hx : ev ρ x = some (.agg xs)) (hy : ev ρ y = some (.agg ys)) :
    RV P n ⟨d, .binOp .neq t x y u, ty, pos, after, g⟩ ρ w (.bool (!r)) :=
  (fun c hc => by simp only [execOp, hc.ev hx, hc.ev hy, Sem.run_bind, run_eqGuard_agg w .neq t x y xs ys hg, Result.andThen_ok, run_neq_struct, hr, Sem.run_pure])
end
section
variable {P : Program} {n : Nat} {ops : Array Oper} {Q : Exit → Env → World → Prop} {ρ : Env} {w : World}
variable {d : Option Tmp} {ty : TypeId} {pos : String} {after : Array Edge} {g : Option (Nat × Bool)} {K : Value → World → Prop}
/-- A call of a function value without captured ones. -/
theorem OW.callV {f : FuncId} {x : Operand} {args : Array Operand} {tys : Array TypeId} {vs : List Value} {R : Ending → World → Prop} (hx : ev ρ x = some (.func (.func f) #[] #[])) (hf : callable P f = true) (hargs : evs ρ args.toList = some vs)
    (hc : Calls P f vs.toArray w R) (k : ∀ e w', R e w' → ∃ v, e = .returned v ∧ K v w') : OW P n Q ⟨d, .call ⟨.value x, args, tys⟩, ty, pos, after, g⟩ ρ w K :=
  OW.enters (f := f) (args := vs.toArray) (fun a ha => by
    have h1 : args.map a.eval = vs.toArray := by
      have := ha.evs hargs
      apply Array.toList_inj.1
      rw [Array.toList_map]; exact this
    simp only [execOp, resolve, ha.ev hx, Deferred.ofValue, Sem.run_bind, Sem.run_pure, Result.andThen_ok, invoke]
    rw [show (Array.map a.eval args) = vs.toArray from h1]
    simpa using run_callFunc hf _) hc k
end
end Go.Tb
