/- Lemmas and walks that the proof of this claim uses: Tb32, Tb34, Tb35, Tb36, Tb37, TryShelf1, D1m1D, D1m2D, D1m3D, D1m4D, D1m5D, D1m6D, D1m16D, D1m20D, D1m21D, TbLevelOpen, D1m1. -/
import Derived.Test.YtgnlfgkmkkjkoaaLevelProves0
set_option linter.unusedVariables false
namespace Go.Tb
open Go.RowKit
section
variable {P : Program} {n : Nat} {ops : Array Oper} {Q : Exit → Env → World → Prop} {ρ : Env} {w : World} {d : Option Tmp} {ty : TypeId} {pos : String} {after : Array Edge} {g : Option (Nat × Bool)} {K : Value → World → Prop}
/-- What an assertion to the type q gives, with its word on whether it holds. -/
def AssertM (P : Program) (q : TypeId) (v r : Value) : Prop := ∀ (t : TypeId) (w : World), (Instr.typeAssert v t q true).run P w = .ok r w
theorem AssertM.yes {q : TypeId} {fs : TypeDesc} {v : Value} (hT : P.underlying q = some fs) (hn : (match fs with | .interface _ => true | _ => false) = false) : AssertM P q (.iface q v) (.tuple #[v, .bool true]) := fun t w => by
  simp only [Instr.typeAssert, Sem.run_bind, run_underlying hT, Result.andThen_ok]
  cases fs <;> simp_all
theorem zeroV_run {q : TypeId} {z : Value} (hz : tyZ P q = some z) (w : World) : (zeroValue q).run P w = .ok z w := by
  unfold tyZ at hz
  cases hi : P.info? q with
  | none => simp [hi] at hz
  | some i => simp [hi] at hz; simp [zeroValue, typeInfo, hi, hz]
theorem AssertM.no {q q' : TypeId} {fs : TypeDesc} {v z : Value} (hT : P.underlying q = some fs) (hn : (match fs with | .interface _ => true | _ => false) = false) (hz : tyZ P q = some z) (hq : q' ≠ q) : AssertM P q (.iface q' v) (.tuple #[z, .bool false]) := fun t w => by
  simp only [Instr.typeAssert, Sem.run_bind, run_underlying hT, Result.andThen_ok]
  cases fs <;> simp_all [zeroV_run hz]
theorem AssertM.nil {q : TypeId} {fs : TypeDesc} {z : Value} (hT : P.underlying q = some fs) (hn : (match fs with | .interface _ => true | _ => false) = false) (hz : tyZ P q = some z) : AssertM P q .nilIface (.tuple #[z, .bool false]) := fun t w => by
  simp only [Instr.typeAssert, Sem.run_bind, run_underlying hT, Result.andThen_ok]
  cases fs <;> simp_all [zeroV_run hz]
/-- A method called through an interface. -/
def CallsM (P : Program) (v : Value) (name : String) (args : List Value) (w : World) (R : Ending → World → Prop) : Prop :=
  ∃ (t : TypeId) (u : Value) (f : FuncId) (r : Value), v = .iface t u ∧ (∀ w, (method (P.types.size + Made.depth) t u name).run P w = .ok (f, r) w) ∧ callable P f = true ∧ Calls P f (r :: args).toArray w R
theorem OW.invoke {recv : Operand} {name : String} {args : Array Operand} {tys : Array TypeId} {vs : List Value} {v : Value} {R : Ending → World → Prop} (hx : ev ρ recv = some v) (hargs : evs ρ args.toList = some vs)
    (hc : CallsM P v name vs w R) (k : ∀ e w', R e w' → ∃ v, e = .returned v ∧ K v w') : OW P n Q ⟨d, .call ⟨.invoke recv name, args, tys⟩, ty, pos, after, g⟩ ρ w K := by
  obtain ⟨t, u, f, r, rfl, hm, hf, hc⟩ := hc
  refine OW.enters (f := f) (args := (r :: vs).toArray) (fun a ha => ?_) hc k
  have h1 : args.map a.eval = vs.toArray := by
    have := ha.evs hargs
    apply Array.toList_inj.1
    rw [Array.toList_map]; exact this
  have hx' := ha.ev hx
  simp only [execOp, resolve, hx', Sem.run_bind, Sem.run_pure, Result.andThen_ok, Go.invoke]
  rw [show (Array.map a.eval args) = vs.toArray from h1]
  have e0 : (#[Value.iface t u] ++ vs.toArray)[0]? = some (.iface t u) := by simp
  have e1 : (#[Value.iface t u] ++ vs.toArray).extract 1 (#[Value.iface t u] ++ vs.toArray).size = vs.toArray := by
    apply Array.toList_inj.1; simp
  simp only [e0, callMethod, Sem.run_bind]
  rw [e1]
  have hp : (program : Sem Program).run P w = .ok P w := rfl
  rw [hp]
  simp only [Result.andThen_ok, hm w]
  have e2 : (#[r] ++ vs.toArray) = (r :: vs).toArray := by
    apply Array.toList_inj.1; simp
  rw [e2]
  exact run_callFunc hf _
end
structure Sl3 {α : Type} (w : World) (A : Option Addr) (c k : Nat) (enc : α → List Value) (lll : List (List (List α))) : Prop where
  ex : ∃ hs : List (Option Addr × Nat), hs.length = lll.length ∧ Sl w A c 1 ((hs.zip lll).map encH) ∧ ∀ (j : Nat) (h : Option Addr × Nat) (l : List (List α)), hs[j]? = some h → lll[j]? = some l → Sl2 w h.1 h.2 k enc l
section
variable {α : Type} {w w' : World} {A : Option Addr} {c k : Nat} {enc : α → List Value} {ll : List (List (List α))}
theorem Sl3.ext (h : Sl3 w A c k enc ll) (e : Ext w w') : Sl3 w' A c k enc ll := by
  obtain ⟨hs, h1, h2, h3⟩ := h.ex
  exact ⟨hs, h1, h2.ext e, fun j h l hj hl => (h3 j h l hj hl).ext e⟩
theorem Sl3.at_ (h : Sl3 w A c k enc ll) {j : Nat} {l : List (List α)} (hl : ll[j]? = some l) : ∃ (Aj : Option Addr) (cj : Nat), Cells w (elemPtr A 1 j) [.slice Aj l.length cj] ∧ Sl2 w Aj cj k enc l := by
  obtain ⟨hs, h1, h2, h3⟩ := h.ex
  have hlt := lt_of_at hl
  have hh : hs[j]? = some hs[j] := by simp [h1, hlt]
  refine ⟨hs[j].1, hs[j].2, ?_, h3 j _ l hh hl⟩
  exact h2.at_ (enc := encH) (x := (hs[j], l)) (by simp [List.getElem?_zip_eq_some, hh, hl])
theorem Sl3.addr (h : Sl3 w A c k enc ll) {i : Int} (h0 : 0 ≤ i ∧ i < ll.length) : ∃ a, A = some a := by
  obtain ⟨hs, h1, h2, _⟩ := h.ex
  exact h2.addr (i := i) (by simp [h1]; omega)
theorem Sl3.nil_ : Sl3 w none 0 k enc ([] : List (List (List α))) := ⟨⟨[], rfl, Sl.nil (by decide), fun j h l hj => by simp at hj⟩⟩
theorem Sl3.one {A1 : Option Addr} {c1 : Nat} {l1 : List (List α)} (h : Sl w A c 1 ([((A1, c1), l1)].map encH)) (s1 : Sl2 w A1 c1 k enc l1) : Sl3 w A c k enc [l1] := by
  refine ⟨[(A1, c1)], rfl, h, fun j x l hj hl => ?_⟩
  match j, hj, hl with
  | 0, hj, hl => simp at hj hl; subst hj; subst hl; exact s1
end
end Go.Tb

set_option linter.unusedVariables false
set_option linter.unusedSimpArgs false
namespace Go.Tb
open Go.RowKit
section
variable {P : Program} {n : Nat} {ops : Array Oper} {Q : Exit → Env → World → Prop} {ρ : Env} {w : World}
variable {d : Option Tmp} {ty : TypeId} {pos : String} {after : Array Edge} {g : Option (Nat × Bool)} {K : Value → World → Prop}
theorem RV.sliceLHM {t e m bt : Nat} {z : List Value} {x y u s : Operand} {A : Option Addr} {len cap : Nat} {l h q : Int} (hT : tyS P t = some (e, m, bt, z)) (hx : ev ρ x = some (.slice A len cap)) (hy : ev ρ y = some (.int .i64 l)) (hu : ev ρ u = some (.int .i64 h)) (hs' : ev ρ s = some (.int .i64 q)) (h0 : 0 ≤ l ∧ l ≤ h ∧ h ≤ q ∧ q ≤ cap) :
    RV P n ⟨d, .slice t x (some y) (some u) (some s), ty, pos, after, g⟩ ρ w (.slice (cutA A (q.toNat) m l.toNat) (h.toNat - l.toNat) (q.toNat - l.toNat)) := fun a ha => by
  obtain ⟨hu', i', zv, hi, hs, _, _, _⟩ := tyS_spec hT
  have h1 : 0 ≤ h := by omega
  have h2 : l ≤ (h.toNat : Int) := by omega
  have h3 : 0 ≤ q := by omega
  have h4 : h ≤ (q.toNat : Int) := by omega
  have h5 : h ≤ max q 0 := by omega
  have h6 : l ≤ max h 0 := by omega
  simp [execOp, ha.ev hx, ha.ev hy, ha.ev hu, ha.ev hs', Instr.sliceAt, Instr.slice, run_underlying hu', Instr.sliceBounds, Instr.sliceBound, asIntOf, h0.1, h0.2.1, h0.2.2.1, h0.2.2.2, h1, h2, h3, h4, h5, h6, sizeOf, typeInfo, hi, hs, cutA]
  try omega
theorem Mod.refl (w : World) (A : Option Addr) : Mod w w A := ⟨rfl, rfl, rfl, Nat.le_refl _, fun _ _ _ => rfl⟩
theorem Mod.trans {w w1 w2 : World} {A : Option Addr} (a : Mod w w1 A) (b : Mod w1 w2 A) : Mod w w2 A :=
  ⟨b.os.trans a.os, b.tape.trans a.tape, b.output.trans a.output, Nat.le_trans a.size b.size, fun k hk hn => (b.block k (Nat.lt_of_lt_of_le hk a.size) hn).trans (a.block k hk hn)⟩
theorem Mod.of_ext {w w1 : World} {A : Option Addr} (a : Ext w w1) : Mod w w1 A := ⟨a.os, a.tape, a.output, a.size, fun k hk hn => Below.block a k hk⟩
/-- append to a beginning of an owned slice, of so many elements that what lies there is long enough. -/
theorem OW.appendOver {α : Type} {enc : α → List Value} {l xs zs : List α} {t e m bt : Nat} {z : List Value} {x y : Operand} {b c cs q r : Nat} {As : Option Addr} (hT : tyS P t = some (e, m, bt, z)) (hx : ev ρ x = some (.slice (some ⟨b, 0, none⟩) q c)) (hq : q = l.length) (hy : ev ρ y = some (.slice As r cs)) (hr0 : r = xs.length)
    (own : Own w (some ⟨b, 0, none⟩) c e m ((l ++ zs).map enc)) (hA : ∃ a, As = some a) (src : Sl w As cs m (xs.map enc)) (hk : ∀ u, (enc u).length = m) (h1 : ∀ u, (enc u).all Value.oneCell' = true) (hm0 : Nat.blt 0 m = true) (hroom : xs.length ≤ zs.length)
    (k : ∀ w', Own w' (some ⟨b, 0, none⟩) c e m ((l ++ xs ++ zs.drop xs.length).map enc) → Mod w w' (some ⟨b, 0, none⟩) → K (.slice (some ⟨b, 0, none⟩) (l ++ xs).length c) w') :
    OW P n Q ⟨d, .call ⟨.builtin .append, #[x, y], #[t, t]⟩, ty, pos, after, g⟩ ρ w K := by
  subst hq hr0
  obtain ⟨hu, i, zv, hi, hs1, hs2, hs3, hs4⟩ := tyS_spec hT
  have hm0' : 0 < m := by simpa [Nat.blt_eq] using hm0
  subst hs1
  obtain ⟨a, rfl⟩ := hA
  rcases own.own.2 with ⟨hv, hn⟩ | ⟨g', cap, cur, hv, hbg, hg, hnc, hcm, hcs, htake⟩
  · injection hv with hv1; cases hv1
  · injection hv with hv1 hv2 hv3
    cases hv1
    subst hv3
    have hF : ∀ p : List α, (p.map enc).flatten.length = p.length * i.size := fun p => by rw [← List.flatMap_def, len_flatMap hk]
    have hol := hF l
    have hnl := hF xs
    have hzl := hF zs
    have hxr : ∀ r ∈ xs.map enc, r.length = i.size := fun r hr => by
      obtain ⟨u, _, rfl⟩ := List.mem_map.1 hr
      exact hk u
    have hcell : ∀ (j : Nat) (u : Value), (xs.map enc).flatten[j]? = some u → w.cell? (a.add j) = some u := by
      intro j u hj
      have hjl : j < xs.length * i.size := by rw [← hnl]; exact (List.getElem?_eq_some_iff.1 hj).1
      have hq : j / i.size < xs.length := (Nat.div_lt_iff_lt_mul hm0').2 hjl
      have hr : (xs.map enc)[j / i.size]? = some (enc xs[j / i.size]) := by simp [hq]
      obtain ⟨hl, _, hc⟩ := src.row (j / i.size) _ hr
      have hmod : j % i.size < i.size := Nat.mod_lt _ hm0'
      have hv : (enc xs[j / i.size])[j % i.size]? = some ((enc xs[j / i.size])[j % i.size]'(by omega)) := by simp [hl, hmod]
      have hf := flatten_row hxr (j / i.size) _ hr (j % i.size) _ hv
      have hjm : j / i.size * i.size + j % i.size = j := by rw [Nat.mul_comm]; exact Nat.div_add_mod j i.size
      rw [hjm, hj] at hf
      have := hc (j % i.size) _ hv
      simp only [elemPtr, Option.getD_some, add_add, hjm] at this
      rw [this, ← Option.some.inj hf]
    have hone : ∀ u ∈ (xs.map enc).flatten, u.oneCell' = true := by
      intro u hu'
      obtain ⟨r, hr, hur⟩ := List.mem_flatten.1 hu'
      obtain ⟨q, _, rfl⟩ := List.mem_map.1 hr
      exact List.all_eq_true.1 (h1 q) u hur
    have hlz : ((l ++ zs).map enc).length = l.length + zs.length := by simp
    rw [hlz] at htake hnc
    have hflat : ((l ++ zs).map enc).flatten = (l.map enc).flatten ++ (zs.map enc).flatten := by rw [List.map_append, List.flatten_append]
    rw [hflat] at htake
    have hlen2 : ((l.map enc).flatten ++ (zs.map enc).flatten).length = (l.length + zs.length) * i.size := by rw [List.length_append, hol, hzl, Nat.add_mul]
    -- what lies there is the list and the rest
    obtain ⟨rest, hrest⟩ : ∃ rest, cur.toList = (l.map enc).flatten ++ (zs.map enc).flatten ++ rest := ⟨cur.toList.drop ((l.length + zs.length) * i.size), by rw [← htake, List.take_append_drop]⟩
    have hxz : xs.length * i.size ≤ zs.length * i.size := Nat.mul_le_mul_right _ hroom
    have hcz : cur.size = (l.length + zs.length) * i.size + rest.length := by
      have := congrArg List.length hrest
      rw [List.length_append, hlen2] at this
      simpa using this
    have hfit : l.length * i.size + (xs.map enc).flatten.length ≤ cur.size := by rw [hnl, hcz, Nat.add_mul]; omega
    have hr := run_append_room (P := P) w t ty e i hu hi b l.length c cur hg a xs.length cs (xs.map enc).flatten hnl hcell hone (by omega) hfit
    refine OW.value (w' := w.setRow b (cur.toList.take (l.length * i.size) ++ (xs.map enc).flatten ++ cur.toList.drop (l.length * i.size + (xs.map enc).flatten.length)).toArray) (v := .slice (some ⟨b, 0, none⟩) (l.length + xs.length) c) (fun a ha => by
      simp only [execOp, resolve, ha.ev hx, ha.ev hy, Go.invoke, builtin] at hr ⊢
      simp [execOp, resolve, ha.ev hx, ha.ev hy, Go.invoke, builtin, hr]) ?_
    have hz2 : ((zs.drop xs.length).map enc).flatten = (zs.map enc).flatten.drop (xs.length * i.size) := by
      have e : zs.map enc = (zs.take xs.length).map enc ++ (zs.drop xs.length).map enc := by rw [← List.map_append, List.take_append_drop]
      have e2 : ((zs.take xs.length).map enc).flatten.length = xs.length * i.size := by rw [hF, List.length_take, Nat.min_eq_left hroom]
      rw [e, List.flatten_append, ← e2, List.drop_left]
    have hnew : cur.toList.take (l.length * i.size) ++ (xs.map enc).flatten ++ cur.toList.drop (l.length * i.size + (xs.map enc).flatten.length) = ((l ++ xs ++ zs.drop xs.length).map enc).flatten ++ rest := by
      rw [hrest, hnl, List.map_append, List.map_append, List.flatten_append, List.flatten_append, hz2, List.append_assoc (l.map enc).flatten]
      have t1 : List.take (l.length * i.size) ((l.map enc).flatten ++ ((zs.map enc).flatten ++ rest)) = (l.map enc).flatten := by rw [← hol, List.take_left]
      have t2 : List.drop (l.length * i.size + xs.length * i.size) ((l.map enc).flatten ++ ((zs.map enc).flatten ++ rest)) = (zs.map enc).flatten.drop (xs.length * i.size) ++ rest := by
        rw [← hol, ← List.drop_drop, List.drop_left, List.drop_append_of_le_length (by rw [hzl]; exact hxz)]
      rw [t1, t2]; simp [List.append_assoc]
    have hll : (l ++ xs ++ zs.drop xs.length).length = l.length + zs.length := by simp; omega
    have hrow : ∀ r ∈ (l ++ xs ++ zs.drop xs.length).map enc, r.length = i.size := fun r hr => by
      obtain ⟨u, _, rfl⟩ := List.mem_map.1 hr
      exact hk u
    have := k (w.setRow b (cur.toList.take (l.length * i.size) ++ (xs.map enc).flatten ++ cur.toList.drop (l.length * i.size + (xs.map enc).flatten.length)).toArray) ⟨⟨?_, .inr ⟨b, c, _, rfl, hbg, setRow_heap w b cur _ e _ hg, ?_, hcm, ?_, ?_⟩⟩, hrow⟩ ⟨rfl, rfl, rfl, by simp, fun k _ hk => setRow_other w b k _ (fun e => hk (by simp [blkOf, e]))⟩
    · rw [List.length_append] at this; exact this
    · rw [hF, List.length_map]
    · rw [List.length_map, hll]; exact hnc
    · rw [hnew]
      simp only [List.size_toArray, List.length_append]
      rw [hF, hll, ← hcs, hcz]
    · rw [hnew, List.length_map, ← hF]
      exact List.take_left
end
section
variable {α : Type} {w : World} {A : Option Addr} {c e k : Nat} {enc : α → List Value} {l : List α}
theorem Own.at0 (h : Own w A c e k (l.map enc)) (h0 : 0 < l.length) : ∃ b, A = some ⟨b, 0, none⟩ := by
  rcases h.own.2 with ⟨hv, hn⟩ | ⟨g, cap, cur, hv, r⟩
  · simp at hn; simp [hn] at h0
  · injection hv with hv1
    exact ⟨g, hv1⟩
end
section
variable {w0 w w' : World} {L : List Ck}
end
end Go.Tb

set_option linter.unusedVariables false
set_option linter.unusedSimpArgs false
namespace Go.Tb
open Go.RowKit
section
variable {α β : Type}
structure TbxH (A : Option Addr) (c to ko : Nat) (enc : (Option Addr × Nat) × α → List Value) (f : α → List β) (ti k2 : Nat) (enc2 : β → List Value) (hs : List (Option Addr × Nat)) (l : List α) (w : World) : Prop where
  len : hs.length = l.length
  outer : Own w A c to ko ((hs.zip l).map enc)
  row : ∀ (i : Nat) (h : Option Addr × Nat) (t : α), hs[i]? = some h → l[i]? = some t → Own w h.1 h.2 ti k2 ((f t).map enc2)
  ne : ∀ (i : Nat) (h : Option Addr × Nat) (b : Nat), hs[i]? = some h → b ∈ adB h.1 → b ∉ adB A
def tbxB (A : Option Addr) (hs : List (Option Addr × Nat)) : List Nat := adB A ++ hs.flatMap fun h => adB h.1
theorem mem_tbxB {A : Option Addr} {hs : List (Option Addr × Nat)} {b : Nat} : b ∈ tbxB A hs ↔ b ∈ adB A ∨ ∃ (i : Nat) (h : Option Addr × Nat), hs[i]? = some h ∧ b ∈ adB h.1 := by
  unfold tbxB
  simp only [List.mem_append, List.mem_flatMap]
  refine or_congr Iff.rfl ⟨?_, ?_⟩
  · rintro ⟨h, hm, hb⟩
    obtain ⟨i, hi⟩ := List.getElem?_of_mem hm
    exact ⟨i, h, hi, hb⟩
  · rintro ⟨i, h, hi, hb⟩
    exact ⟨h, List.mem_of_getElem? hi, hb⟩
variable {A : Option Addr} {c to ko : Nat} {enc : (Option Addr × Nat) × α → List Value} {f : α → List β} {ti k2 : Nat} {enc2 : β → List Value} {hs : List (Option Addr × Nat)} {l : List α} {w w' w0 : World} {L : List Ck}
theorem TbxH.keep (h : TbxH A c to ko enc f ti k2 enc2 hs l w) (hb : ∀ b ∈ tbxB A hs, w'.heap[b]? = w.heap[b]?) : TbxH A c to ko enc f ti k2 enc2 hs l w' :=
  ⟨h.len, h.outer.keep fun b h' => hb b (mem_tbxB.2 (.inl h')), fun i x t hx ht => (h.row i x t hx ht).keep fun b h' => hb b (mem_tbxB.2 (.inr ⟨i, x, hx, h'⟩)), h.ne⟩
theorem TbxH.lt (h : TbxH A c to ko enc f ti k2 enc2 hs l w) : ∀ b ∈ tbxB A hs, b < w.heap.size := by
  intro b hb
  rcases mem_tbxB.1 hb with hb | ⟨i, x, hx, hb⟩
  · exact h.outer.lt b hb
  · have hl : i < l.length := by rw [← h.len]; exact lt_of_at hx
    exact (h.row i x l[i] hx (by simp [hl])).lt b hb
theorem TbxH.holds (h : TbxH A c to ko enc f ti k2 enc2 hs l w) : (Ck.inv (tbxB A hs) (TbxH A c to ko enc f ti k2 enc2 hs l)).holds w :=
  ⟨h.lt, h, fun w1 w2 _ hb q => q.keep hb⟩
end
section
variable {P : Program} {n : Nat} {ops : Array Oper} {Q : Exit → Env → World → Prop} {ρ : Env} {w : World}
variable {d : Option Tmp} {ty : TypeId} {pos : String} {after : Array Edge} {g : Option (Nat × Bool)} {K : Value → World → Prop}
end
section
variable {w0 w w' : World} {L M : List Ck}
theorem ModX.frz {X : Nat → Prop} {A : Option Addr} (hs : w.heap.size ≤ w'.heap.size) (hk : ∀ k, k < w.heap.size → k ∉ adB A → w'.heap[k]? = w.heap[k]?) (hX : ∀ a, A = some a → X a.block) : ModX X w w' :=
  ⟨hs, fun k hk' hn => hk k hk' fun hc => by
    obtain ⟨a, rfl, rfl⟩ := mem_adB.1 hc
    exact hn (hX a rfl)⟩
/-- A chunk that does not change while others do. -/
def frz (w : World) (x : Ck) : Ck := .inv x.bl fun w' => x.holds w' ∧ ∀ b ∈ x.bl, w'.heap[b]? = w.heap[b]?
theorem frz_holds {x : Ck} (h : x.holds w) : (frz w x).holds w :=
  ⟨Ck.lt h, ⟨h, fun _ _ => rfl⟩, fun w1 w2 _ h2 h3 => ⟨Ck.keep h3.1 h2, fun b hb => (h2 b hb).trans (h3.2 b hb)⟩⟩
end
end Go.Tb

set_option linter.unusedVariables false
set_option linter.unusedSimpArgs false
namespace Go.Tb
open Go.RowKit
section
variable {P : Program} {n : Nat} {ops : Array Oper} {Q : Exit → Env → World → Prop} {ρ : Env} {w : World}
variable {d : Option Tmp} {ty : TypeId} {pos : String} {after : Array Edge} {g : Option (Nat × Bool)} {K : Value → World → Prop}
theorem OW.copyM {t u e m bt b o dl dc sl sc : Nat} {z : List Value} {x y : Operand} {p : Addr} {As : Option Addr} {cs vs : List Value} {t' : TypeId} (hT : tyS P t = some (e, m, bt, z)) (hx : ev ρ x = some (.slice (some p) dl dc)) (hp : p = ⟨b, o, none⟩) (hy : ev ρ y = some (.slice As sl sc))
    (f : Blk w b t' cs) (hin : o + dl * m ≤ cs.length) (hl : vs.length = min sl dl * m) (hc : 0 < vs.length → ∃ a, As = some a ∧ Cells w a vs) (h1 : vs.all Value.oneCell' = true) (k : ∀ w', Stored w w' b t' (over cs o vs) → K (.int .i64 (min sl dl : Nat)) w') :
    OW P n Q ⟨d, .call ⟨.builtin .copy, #[x, y], #[t, u]⟩, ty, pos, after, g⟩ ρ w K := by
  obtain ⟨hu, i', zv, hi, hs, _, _, _⟩ := tyS_spec hT
  have hle : min sl dl * m ≤ dl * m := Nat.mul_le_mul_right _ (Nat.min_le_right _ _)
  have hst := run_storeCells_at P b o t' vs 0 cs.toArray w f (by simp; omega) (by simpa [List.all_eq_true] using h1)
  have hcells : (Builtin.firstCells m (min sl dl) (.slice As sl sc)).run P w = .ok vs.toArray w := by
    by_cases h0 : 0 < vs.length
    · obtain ⟨a, rfl, hcc⟩ := hc h0
      simp only [Builtin.firstCells]
      rw [← hl]
      exact run_loadCells_list w a vs hcc
    · have hv : vs = [] := List.eq_nil_of_length_eq_zero (by omega)
      subst hv
      have hm : min sl dl * m = 0 := by simpa using hl.symm
      cases As with
      | none => simp [Builtin.firstCells]
      | some a =>
        simp only [Builtin.firstCells]
        rw [hm]
        simp [loadCells, loadCellsFrom]
  have hrow : w.setRow b (over cs o vs).toArray = w.setRow b (cs.toArray.toList.take (o + 0) ++ vs ++ cs.toArray.toList.drop (o + 0 + vs.length)).toArray := by simp [over]
  refine OW.value (w' := w.setRow b (over cs o vs).toArray) (fun a ha => ?_) (k _ (setRow_stored f))
  rw [hrow]
  simp [execOp, resolve, ha.ev hx, ha.ev hy, Go.invoke, Go.builtin, Builtin.copy_, run_underlying hu, Builtin.lenOf, sizeOf, typeInfo, hi, hs, Nat.min_def]
  have e : (if sl ≤ dl then sl else dl) = min sl dl := by rw [Nat.min_def]
  rw [e]
  rw [hcells]
  simp only [Result.andThen_ok, hp]
  rw [hst]
  simp [goInt, Nat.min_def]
end
theorem rep_step {α : Type} {enc : α → List Value} {k : Nat} (hk : ∀ x, (enc x).length = k) (v z : α) (N m q : Nat) (hm : m ≤ N) (hq : q ≤ N - m) :
    over ((List.replicate m v ++ List.replicate (N - m) z).flatMap enc) (m * k) ((List.replicate q v).flatMap enc) = (List.replicate (m + q) v ++ List.replicate (N - (m + q)) z).flatMap enc := by
  have e : List.replicate (N - m) z = List.replicate q z ++ List.replicate (N - (m + q)) z := by
    rw [List.replicate_append_replicate]; congr 1; omega
  have e2 : List.replicate (m + q) v = List.replicate m v ++ List.replicate q v := by rw [List.replicate_append_replicate]
  have h1 := len_flatMap hk (List.replicate m v)
  have h2 := len_flatMap hk (List.replicate q v)
  have h3 := len_flatMap hk (List.replicate q z)
  rw [List.length_replicate] at h1 h2 h3
  rw [e, e2]
  simp only [List.flatMap_append]
  unfold over
  rw [List.take_append_of_le_length (by omega), List.take_of_length_le (by omega), List.drop_append, List.drop_of_length_le (by omega), List.nil_append, List.drop_append, List.drop_of_length_le (by omega), List.nil_append, h1, h2, h3, show m * k + q * k - m * k - q * k = 0 by omega, List.drop_zero]
theorem rep_src {α : Type} {enc : α → List Value} {k : Nat} (hk : ∀ x, (enc x).length = k) {v z : α} {w : World} {b t N m q : Nat} (hq : q ≤ m) (f : Blk w b t ((List.replicate m v ++ List.replicate (N - m) z).flatMap enc)) : Cells w ⟨b, 0, none⟩ ((List.replicate q v).flatMap enc) := by
  have h := f.cells.take (q * k)
  have h2 := len_flatMap hk (List.replicate q v)
  rw [List.length_replicate] at h2
  rw [show List.replicate m v = List.replicate q v ++ List.replicate (m - q) v by rw [List.replicate_append_replicate]; congr 1; omega, List.flatMap_append, List.flatMap_append, List.append_assoc, List.take_append_of_le_length (by omega), List.take_of_length_le (by omega)] at h
  exact h
theorem rep_one {α : Type} {enc : α → List Value} (h1 : ∀ x, (enc x).all Value.oneCell' = true) (v : α) (q : Nat) : ((List.replicate q v).flatMap enc).all Value.oneCell' = true := by
  rw [List.all_eq_true]
  intro x hx
  obtain ⟨y, hy, hx⟩ := List.mem_flatMap.1 hx
  exact List.all_eq_true.1 (h1 y) x hx
/-- Two rows of a table change places. -/
theorem Hp.tabSwap {α : Type} {enc : α → List Value} {w0 w w' : World} {L : List Ck} (h : Hp w0 w L) (p : Nat) {A : Option Addr} {c to ti k i j : Nat} {hs : List (Option Addr × Nat)} {m : List (List α)} {x y : List α} {B C : Option Addr} {d e : Nat} (hp : L[p]? = some (.tab A c to hs ti k (encM enc m))) (md : Mod w w' A)
    (hi : m[i]? = some x) (hj : m[j]? = some y) (hhi : hs[i]? = some (B, d)) (hhj : hs[j]? = some (C, e))
    (o : Own w' A c to 1 ((((hs.zip (encM enc m)).set i ((C, e), y.map enc)).set j ((B, d), x.map enc)).map encH)) :
    Hp w0 w' (L.set p (.tab A c to ((hs.set i (C, e)).set j (B, d)) ti k (encM enc ((m.set i y).set j x)))) := by
  have T := h.tab p hp
  have hlen : hs.length = (encM enc m).length := T.len
  have li := lt_of_at hi
  have lj := lt_of_at hj
  have hl2 : m.length = (encM enc m).length := by rw [encM_len]
  -- where a row was
  let σ : Nat → Nat := fun a => if a = j then i else if a = i then j else a
  have hσ : ∀ a a', σ a = σ a' → a = a' := fun a a' => by
    simp only [σ]
    repeat' split
    all_goals omega
  have hs' : ∀ a z, ((hs.set i (C, e)).set j (B, d))[a]? = some z → hs[σ a]? = some z := fun a z ha => by
    simp only [List.getElem?_set, List.length_set] at ha
    simp only [σ]
    by_cases e1 : a = j
    · subst e1
      rw [if_pos rfl, if_pos (by omega)] at ha
      rw [if_pos rfl, hhi]; exact ha
    · rw [if_neg (fun q => e1 q.symm)] at ha
      rw [if_neg e1]
      by_cases e2 : a = i
      · subst e2
        rw [if_pos rfl, if_pos (by omega)] at ha
        rw [if_pos rfl, hhj]; exact ha
      · rw [if_neg (fun q => e2 q.symm)] at ha
        rw [if_neg e2]; exact ha
  have hm' : ∀ a z, (encM enc ((m.set i y).set j x))[a]? = some z → (encM enc m)[σ a]? = some z := fun a z ha => by
    have key : (encM enc m)[σ a]? = (encM enc ((m.set i y).set j x))[a]? := by
      unfold encM
      rw [List.getElem?_map, List.getElem?_map, List.getElem?_set, List.getElem?_set, List.length_set]
      by_cases e1 : a = j
      · have e : σ a = i := if_pos e1
        rw [e, if_pos e1.symm, if_pos lj, hi]
      · rw [if_neg (fun q => e1 q.symm)]
        by_cases e2 : a = i
        · have e : σ a = j := by show (if a = j then i else if a = i then j else a) = j; rw [if_neg e1, if_pos e2]
          rw [e, if_pos e2.symm, if_pos li, hj]
        · have e : σ a = a := by show (if a = j then i else if a = i then j else a) = a; rw [if_neg e1, if_neg e2]
          rw [e, if_neg (fun q => e2 q.symm)]
    rw [key]; exact ha
  have ext : Ext w0 w' := h.ext.mod md fun a ha => h.fresh p _ hp a.block (by subst ha; simp [Ck.bl, adB])
  refine h.step p hp ext (fun b hb hn => md.other hb fun hc => hn ?_) (y := .tab A c to ((hs.set i (C, e)).set j (B, d)) ti k (encM enc ((m.set i y).set j x))) ?_ fun b hb => .inl ?_
  · exact (TabH.bl_at (w := w)).2 (.inl hc)
  · refine ⟨by rw [List.length_set, List.length_set, encM_len, List.length_set, List.length_set, hlen, encM_len], by rw [encM_set, encM_set, ← zip_set', ← zip_set']; exact o, fun a B' d' l ha hl => ?_, fun a a' B1 d1 B2 d2 b h1 h2 hb1 hb2 => ?_, fun a B' d' b ha hb => ?_⟩
    · have R := T.row _ B' d' l (hs' a _ ha) (hm' a _ hl)
      exact R.keep fun b hb => md.other (R.lt b hb) fun hc => T.ne _ B' d' b (hs' a _ ha) hb hc
    · exact hσ a a' (T.nd _ _ B1 d1 B2 d2 b (hs' a _ h1) (hs' a' _ h2) hb1 hb2)
    · exact T.ne _ B' d' b (hs' a _ ha) hb
  · rcases (TabH.bl_at (w := w')).1 hb with hb | ⟨a, B', d', ha, hb⟩
    · exact (TabH.bl_at (w := w)).2 (.inl hb)
    · exact (TabH.bl_at (w := w)).2 (.inr ⟨σ a, B', d', hs' a _ ha, hb⟩)
end Go.Tb

set_option linter.unusedVariables false
set_option linter.unusedSimpArgs false
namespace Go.Tb
open Go.RowKit
section
variable {w0 w w' : World} {L M : List Ck}
theorem Hp.freezeL {F : List Ck} (h : Hp w0 w (F ++ L)) : ∃ R, Hp w0 w (F ++ R) ∧ ∀ (w' : World) (F' M : List Ck), (∀ x ∈ F, ∀ b ∈ x.bl, ∃ y ∈ F', b ∈ y.bl) → Hp w0 w' ((F' ++ M) ++ R) → Hp w0 w' ((F' ++ M) ++ L) ∧ w.heap.size ≤ w'.heap.size ∧ ∀ k, k < w.heap.size → (∀ x ∈ F, k ∉ x.bl) → w'.heap[k]? = w.heap[k]? := by
  let bs : List Nat := (List.range w.heap.size).filter fun b => decide (w0.heap.size ≤ b) && !((F ++ L).any fun x => decide (b ∈ x.bl))
  have mem : ∀ b, b ∈ bs ↔ b < w.heap.size ∧ w0.heap.size ≤ b ∧ ∀ x ∈ F ++ L, b ∉ x.bl := fun b => by
    simp only [bs, List.mem_filter, List.mem_range, Bool.and_eq_true, decide_eq_true_eq, Bool.not_eq_true', List.any_eq_false, decide_eq_true_eq]
  let E : Ck := .inv bs fun w' => ∀ b ∈ bs, w'.heap[b]? = w.heap[b]?
  have hE : E.holds w := ⟨fun b hb => ((mem b).1 hb).1, fun _ _ => rfl, fun w1 w2 _ h2 h3 b hb => (h2 b hb).trans (h3 b hb)⟩
  have hl : ∀ (i : Nat), i < L.length → (L.map (frz w) ++ [E])[i]? = (L[i]?).map (frz w) := fun i hi => by
    rw [List.getElem?_append_left (by rw [List.length_map]; exact hi), List.getElem?_map]
  have cs : ∀ (i : Nat) (x : Ck), (F ++ (L.map (frz w) ++ [E]))[i]? = some x → (∃ y, (F ++ L)[i]? = some y ∧ y.bl = x.bl ∧ (y.holds w → x.holds w)) ∨ (i = L.length + F.length ∧ x = E) := by
    intro i x hx
    by_cases hF : i < F.length
    · rw [List.getElem?_append_left hF] at hx
      exact .inl ⟨x, by rw [List.getElem?_append_left hF]; exact hx, rfl, id⟩
    · rw [List.getElem?_append_right (by omega)] at hx
      by_cases hi : i - F.length < L.length
      · rw [hl _ hi] at hx
        have e : L[i - F.length]? = some L[i - F.length] := by simp [hi]
        rw [e] at hx
        simp only [Option.map_some] at hx
        refine .inl ⟨L[i - F.length], by rw [List.getElem?_append_right (by omega)]; exact e, ?_, fun hh => ?_⟩
        · rw [← Option.some.inj hx]; rfl
        · rw [← Option.some.inj hx]; exact frz_holds hh
      · have hle := lt_of_at hx
        simp only [List.length_append, List.length_map, List.length_singleton] at hle
        have e : i - F.length = L.length := by omega
        rw [List.getElem?_append_right (by rw [List.length_map]; omega), List.length_map, e, Nat.sub_self] at hx
        simp at hx
        exact .inr ⟨by omega, hx.symm⟩
  refine ⟨L.map (frz w) ++ [E], ⟨h.ext, fun i x hx => ?_, fun i j x y hx hy hij b hb => ?_, fun i x hx b hb => ?_⟩, fun w' F' M hbl h' => ?_⟩
  · rcases cs i x hx with ⟨y, hy, _, hh⟩ | ⟨_, rfl⟩
    · exact hh (h.holds i y hy)
    · exact hE
  · rcases cs i x hx with ⟨p, hp, ep, _⟩ | ⟨e1, rfl⟩ <;> rcases cs j y hy with ⟨q, hq, eq, _⟩ | ⟨e2, rfl⟩
    · rw [← eq]; exact h.disj i j p q hp hq hij b (by rw [ep]; exact hb)
    · intro hc
      exact ((mem b).1 hc).2.2 p (List.mem_of_getElem? hp) (by rw [ep]; exact hb)
    · intro hc
      rw [← eq] at hc
      exact ((mem b).1 hb).2.2 q (List.mem_of_getElem? hq) hc
    · exact absurd (e1.trans e2.symm) hij
  · rcases cs i x hx with ⟨y, hy, ey, _⟩ | ⟨_, rfl⟩
    · exact h.fresh i y hy b (by rw [ey]; exact hb)
    · exact ((mem b).1 hb).2.1
  · -- behind the call
    have at2 : ∀ (i : Nat) (y : Ck), L[i]? = some y → ((F' ++ M) ++ (L.map (frz w) ++ [E]))[(F' ++ M).length + i]? = some (frz w y) := fun i y hy => by
      rw [List.getElem?_append_right (by omega), Nat.add_sub_cancel_left, hl i (lt_of_at hy), hy]; rfl
    have atE : ((F' ++ M) ++ (L.map (frz w) ++ [E]))[(F' ++ M).length + L.length]? = some E := by
      rw [List.getElem?_append_right (by omega), Nat.add_sub_cancel_left, List.getElem?_append_right (by rw [List.length_map]; exact Nat.le_refl _), List.length_map, Nat.sub_self]; rfl
    have old : ∀ (i : Nat) (x : Ck), ((F' ++ M) ++ L)[i]? = some x → ∃ z, ((F' ++ M) ++ (L.map (frz w) ++ [E]))[i]? = some z ∧ z.bl = x.bl ∧ (z.holds w' → x.holds w') := by
      intro i x hx
      by_cases hi : i < (F' ++ M).length
      · rw [List.getElem?_append_left hi] at hx
        exact ⟨x, by rw [List.getElem?_append_left hi]; exact hx, rfl, id⟩
      · rw [List.getElem?_append_right (by omega)] at hx
        have := at2 _ x hx
        rw [show (F' ++ M).length + (i - (F' ++ M).length) = i by omega] at this
        exact ⟨frz w x, this, rfl, fun hz => hz.2.1.1⟩
    have same : ∀ k, k < w.heap.size → (∀ x ∈ F, k ∉ x.bl) → w'.heap[k]? = w.heap[k]? := by
      intro k hk hn
      by_cases h1 : k < w0.heap.size
      · rw [Below.block h'.ext k h1, Below.block h.ext k h1]
      · by_cases h2 : ∃ x ∈ L, k ∈ x.bl
        · obtain ⟨x, hx, hb⟩ := h2
          obtain ⟨i, hi⟩ := List.getElem?_of_mem hx
          exact (h'.holds _ _ (at2 i x hi)).2.1.2 k hb
        · have hm : k ∈ bs := (mem k).2 ⟨hk, by omega, fun x hx hb => by
            rcases List.mem_append.1 hx with hx | hx
            · exact hn x hx hb
            · exact h2 ⟨x, hx, hb⟩⟩
          exact (h'.holds _ _ atE).2.1 k hm
    refine ⟨⟨h'.ext, fun i x hx => ?_, fun i j x y hx hy hij b hb => ?_, fun i x hx b hb => ?_⟩, ?_, same⟩
    · obtain ⟨z, hz, _, hh⟩ := old i x hx
      exact hh (h'.holds i z hz)
    · obtain ⟨z, hz, ez, _⟩ := old i x hx
      obtain ⟨u, hu, eu, _⟩ := old j y hy
      rw [← eu]
      exact h'.disj i j z u hz hu hij b (by rw [ez]; exact hb)
    · obtain ⟨z, hz, ez, _⟩ := old i x hx
      exact h'.fresh i z hz b (by rw [ez]; exact hb)
    · rcases Nat.eq_zero_or_pos w.heap.size with h0 | h0
      · omega
      · by_cases hin : ∃ x ∈ F, w.heap.size - 1 ∈ x.bl
        · obtain ⟨x, hx, hb⟩ := hin
          obtain ⟨y, hy, hb⟩ := hbl x hx _ hb
          obtain ⟨i, hi⟩ := List.getElem?_of_mem hy
          have hi' : ((F' ++ M) ++ (L.map (frz w) ++ [E]))[i]? = some y := by
            rw [List.append_assoc, List.getElem?_append_left (lt_of_at hi)]; exact hi
          have := Ck.lt (h'.holds i y hi') (w.heap.size - 1) hb
          omega
        · have e := same (w.heap.size - 1) (by omega) (fun x hx hb => hin ⟨x, hx, hb⟩)
          rw [Array.getElem?_eq_getElem (show w.heap.size - 1 < w.heap.size by omega)] at e
          have := (Array.getElem?_eq_some_iff.1 e).1
          omega
/-- A slice in a captured box. -/
theorem Hp.freeze2 {a : Ck} {b t : Nat} {cs : List Value} (h : Hp w0 w ([a, .blk b t cs] ++ L)) : ∃ R, Hp w0 w ([a, .blk b t cs] ++ R) ∧ ∀ (w' : World) (a' : Ck) (M : List Ck), a'.bl = a.bl → Hp w0 w' (([a', .blk b t cs] ++ M) ++ R) → Hp w0 w' (([a', .blk b t cs] ++ M) ++ L) ∧ w.heap.size ≤ w'.heap.size ∧ ∀ k, k < w.heap.size → k ∉ a.bl → w'.heap[k]? = w.heap[k]? := by
  obtain ⟨R, h1, h2⟩ := Hp.freezeL (F := [a, .blk b t cs]) h
  refine ⟨R, h1, fun w' a' M hbl h' => ?_⟩
  obtain ⟨q1, q2, q3⟩ := h2 w' [a', .blk b t cs] M (fun x hx b' hb => by
    simp only [List.mem_cons, List.not_mem_nil, or_false] at hx
    rcases hx with rfl | rfl
    · exact ⟨a', by simp, by rw [hbl]; exact hb⟩
    · exact ⟨_, by simp, hb⟩) h'
  refine ⟨q1, q2, fun k hk hn => ?_⟩
  by_cases e : k = b
  · subst e
    have u1 : Blk w' k t cs := h'.holds 1 (.blk k t cs) rfl
    have u2 : Blk w k t cs := h.holds 1 (.blk k t cs) rfl
    exact Eq.trans u1 u2.symm
  · refine q3 k hk fun x hx hb => ?_
    simp only [List.mem_cons, List.not_mem_nil, or_false] at hx
    rcases hx with rfl | rfl
    · exact hn hb
    · simp only [Ck.bl, List.mem_singleton] at hb
      exact e hb
end
end Go.Tb
namespace Go.Tb
open Go.RowKit
section
variable {P : Program} {n : Nat} {ops : Array Oper} {Q : Exit → Env → World → Prop} {ρ : Env} {w : World}
variable {d : Option Tmp} {ty : TypeId} {pos : String} {after : Array Edge} {g : Option (Nat × Bool)} {K : Value → World → Prop}
theorem RV.indexV {α : Type} {enc : α → List Value} {l : List α} {x0 : α} {t e m N : Nat} {x y : Operand} {i : Int} {vs : List Value} (hT : tyA P t = some (e, N, m)) (hK : tyK P e = some (true, m)) (hx : ev ρ x = some (.agg vs.toArray)) (hvs : vs = l.flatMap enc) (hk : ∀ x, (enc x).length = m) (hN : l.length = N)
    (hy : ev ρ y = some (.int .i64 i)) (h0 : 0 ≤ i) (hi : l[i.toNat]? = some x0) :
    RV P n ⟨d, .index t x y, ty, pos, after, g⟩ ρ w (.agg (enc x0).toArray) := fun a ha => by
  obtain ⟨hu, i', hi', hs⟩ := tyA_spec hT
  have hlt := lt_of_at hi
  have h1 : i < (N : Int) := by omega
  have key : ∀ (l : List α) (j : Nat) (x0 : α), l[j]? = some x0 → ((l.flatMap enc).drop (j * m)).take m = enc x0 := by
    intro l
    induction l with
    | nil => intro j x0 h; simp at h
    | cons y r ih =>
      intro j x0 h
      cases j with
      | zero =>
        simp at h; subst h
        rw [List.flatMap_cons, Nat.zero_mul, List.drop_zero, List.take_append_of_le_length (by rw [hk]; exact Nat.le_refl _), List.take_of_length_le (by rw [hk]; exact Nat.le_refl _)]
      | succ j =>
        rw [List.flatMap_cons, List.drop_append, List.drop_of_length_le (by rw [hk, Nat.succ_mul]; omega), List.nil_append, hk, show (j + 1) * m - m = j * m by rw [Nat.succ_mul]; omega]
        exact ih j x0 (by simpa using h)
  have := key l i.toNat x0 hi
  subst hvs
  have hA := (tyK_spec (w := w) hK).1
  simp [execOp, ha.ev hx, ha.ev hy, Instr.index, asIntOf, run_underlying hu, h0, h1, sizeOf, typeInfo, hi', hs, part, this, hA]
end
end Go.Tb
namespace Go.Tb
theorem set_at_ex {α : Type} {l : List α} {i j : Nat} {a z : α} (h : l[j]? = some z) : ∃ y, (l.set i a)[j]? = some y := by
  have hj := lt_of_at h
  exact ⟨_, List.getElem?_eq_getElem (by rw [List.length_set]; exact hj)⟩
end Go.Tb
namespace Go.Tb
section
variable {w0 w w' : World} {L M : List Ck}
/-- A row is taken out of a table, which is given up. -/
theorem Hp.rowOut {α : Type} {enc : α → List Value} (h : Hp w0 w L) (p : Nat) {A : Option Addr} {c to ti k i e : Nat} {hs : List (Option Addr × Nat)} {m : List (List α)} {B : Option Addr} {l : List α} (hp : L[p]? = some (.tab A c to hs ti k (encM enc m))) (hl : m[i]? = some l) (hh : hs[i]? = some (B, e)) :
    Hp w0 w (L.set p (.own B e ti k (l.map enc))) := by
  have T := h.tab p hp
  refine h.step p hp h.ext (fun _ _ _ => rfl) (y := .own B e ti k (l.map enc)) (T.rowO hl hh) fun b hb => .inl ?_
  exact (TabH.bl_at (w := w)).2 (.inr ⟨i, B, e, hh, hb⟩)
/-- All the handles of old are still there. -/
def Cov (hs' hs : List (Option Addr × Nat)) : Prop := ∀ x ∈ hs, x ∈ hs'
theorem Cov.refl (hs : List (Option Addr × Nat)) : Cov hs hs := fun _ h => h
theorem Cov.trans {a b c : List (Option Addr × Nat)} (h : Cov a b) (h' : Cov b c) : Cov a c := fun x hx => h x (h' x hx)
theorem Cov.swap {hs : List (Option Addr × Nat)} {i j : Nat} {x y : Option Addr × Nat} (hi : hs[i]? = some x) (hj : hs[j]? = some y) : Cov ((hs.set i y).set j x) hs := fun z hz => by
  obtain ⟨a, ha⟩ := List.getElem?_of_mem hz
  have li := lt_of_at hi
  have lj := lt_of_at hj
  by_cases e1 : a = i
  · subst e1
    rw [hi] at ha; cases ha
    exact List.mem_of_getElem? (i := j) (by rw [List.getElem?_set, if_pos rfl, if_pos (by rw [List.length_set]; exact lj)])
  · by_cases e2 : a = j
    · subst e2
      rw [hj] at ha; cases ha
      exact List.mem_of_getElem? (i := i) (by rw [List.getElem?_set, if_neg e1, List.getElem?_set, if_pos rfl, if_pos li])
    · exact List.mem_of_getElem? (i := a) (by rw [List.getElem?_set, if_neg (fun h => e2 h.symm), List.getElem?_set, if_neg (fun h => e1 h.symm)]; exact ha)
/-- A call that turns a table, inside a region that draws. -/
theorem Hp.freezeT {A : Option Addr} {c to ti k : Nat} {hs : List (Option Addr × Nat)} {m : List (List (List Value))} (h : Hp w0 w ([.tab A c to hs ti k m] ++ L)) : ∃ R, Hp w0 w ([.tab A c to hs ti k m] ++ R) ∧ ∀ (w' : World) (c' : Nat) (hs' : List (Option Addr × Nat)) (m' : List (List (List Value))) (M : List Ck), Cov hs' hs → Hp w0 w' (([.tab A c' to hs' ti k m'] ++ M) ++ R) → Hp w0 w' (([.tab A c' to hs' ti k m'] ++ M) ++ L) ∧ w.heap.size ≤ w'.heap.size ∧ ∀ k', k' < w.heap.size → k' ∉ (Ck.tab A c to hs ti k m).bl → w'.heap[k']? = w.heap[k']? := by
  obtain ⟨R, h1, h2⟩ := Hp.freezeL (F := [.tab A c to hs ti k m]) h
  refine ⟨R, h1, fun w' c' hs' m' M hc h' => ?_⟩
  obtain ⟨q1, q2, q3⟩ := h2 w' [.tab A c' to hs' ti k m'] M (fun x hx b hb => by
    rw [List.mem_singleton] at hx
    subst hx
    refine ⟨_, List.mem_singleton.2 rfl, ?_⟩
    simp only [Ck.bl, List.mem_append, List.mem_flatMap] at hb ⊢
    rcases hb with hb | ⟨z, hz, hb⟩
    · exact .inl hb
    · exact .inr ⟨z, hc z hz, hb⟩) h'
  exact ⟨q1, q2, fun k' hk hn => q3 k' hk fun x hx => by rw [List.mem_singleton] at hx; subst hx; exact hn⟩
theorem ModX.frzB {X : Nat → Prop} {bl : List Nat} (hs : w.heap.size ≤ w'.heap.size) (hk : ∀ k, k < w.heap.size → k ∉ bl → w'.heap[k]? = w.heap[k]?) (hX : ∀ b ∈ bl, X b) : ModX X w w' :=
  ⟨hs, fun k hk' hn => hk k hk' fun hc => hn (hX k hc)⟩
end
end Go.Tb
namespace Go.Tb
end Go.Tb

namespace Go.Proofs
open Go.Shelf
def Try.lays212_ren : Go.Shelf.Ren := ⟨fun | 212 => 110 | 263 => 111 | 264 => 112 | n => n, fun | 46 => 115 | 51 => 118 | 146 => 119 | 53 => 121 | 148 => 122 | n => n, fun | n => n⟩
theorem Try.lays212 : Go.Proofs.Lays.n212 Try.prog Try.lays212_ren := {
  mixed := by kernel_rfl
  f212 := Try.func110.trans (congrArg some (by kernel_rfl))
  f263 := Try.func111.trans (congrArg some (by kernel_rfl))
  f264 := Try.func112.trans (congrArg some (by kernel_rfl))
  t46 := Try.underlying115
  a46 := Try.isAgg115
  z46 := Try.sizeOf115
  v46 := Try.zeroValue115
  t51 := Try.underlying118
  a51 := Try.isAgg118
  z51 := Try.sizeOf118
  v51 := Try.zeroValue118
  t53 := Try.underlying121
  a53 := Try.isAgg121
  z53 := Try.sizeOf121
  v53 := Try.zeroValue121
  t146 := Try.underlying119
  a146 := Try.isAgg119
  z146 := Try.sizeOf119
  v146 := Try.zeroValue119
  t148 := Try.underlying122
  a148 := Try.isAgg122
  z148 := Try.sizeOf122
  v148 := Try.zeroValue122 }
open Go.RowKit Go.Lib in
/-- math/bits.Mul: "Mul returns the full-width product of x and y": on a machine of 64 bits: Mul64's. (LAID: no walk: one application.) -/
theorem Try.bits_Mul (x y : Nat) (hx : x < 18446744073709551616) (hy : y < 18446744073709551616) (w : World) :
    Calls Try.prog 110 #[.int .u64 x, .int .u64 y] w fun e w' => e = .returned (.tuple #[.int .u64 ((x * y / 18446744073709551616 : Nat) : Int), .int .u64 ((x * y % 18446744073709551616 : Nat) : Int)]) ∧ w' = w := Any.bits_Mul Try.lays212 x y hx hy w
end Go.Proofs

set_option linter.unusedVariables false
namespace Go.D1
open Go.Tb
structure Reading where
  from_ : Int
  to_ : Int
  rise : Int
  weight : Int
structure Survey where
  points : Int
  readings : List Reading
def encReading (x : Reading) : List Value := [.int .i64 x.from_, .int .i64 x.to_, .int .i64 x.rise, .int .i64 x.weight]
def level_within (a0 : Int) (a1 : Int) (a2 : Int) : Option Bool :=
  if a1 ≤ a0 then
    some (decide (a0 ≤ a2))
  else
    some false
def level_Validate_k1 : Option Int :=
  some ((0 : Int))
def level_Validate_k2 (t16_1 : Int) (rec1 : Int → Option Int) (t54_1 : Bool) : Option Int :=
  if t54_1 = true then
    some ((1 : Int))
  else
    gd (InR (t16_1 + 1)) <|
    rec1 ((t16_1 + 1))
def level_Validate_B1 (a0 : Survey) (rec1 : Int → Option Int) (t16_1 : Int) : Option Int :=
  if t16_1 < ((a0.readings.length : Int)) then
    ix a0.readings t16_1 fun x1 =>
    gd (InR (a0.points - 1)) <|
    bnd (level_within x1.from_ ((0 : Int)) (a0.points - 1)) fun r1 =>
    if r1 = true then
      gd (InR (a0.points - 1)) <|
      bnd (level_within x1.to_ ((0 : Int)) (a0.points - 1)) fun r2 =>
      if r2 = true then
        if x1.from_ = x1.to_ then
          level_Validate_k2 t16_1 rec1 true
        else
          bnd (level_within x1.rise ((-1000 : Int)) ((1000 : Int))) fun r3 =>
          if r3 = true then
            bnd (level_within x1.weight ((1 : Int)) ((3 : Int))) fun r4 =>
            level_Validate_k2 t16_1 rec1 ((!r4))
          else
            level_Validate_k2 t16_1 rec1 true
      else
        level_Validate_k2 t16_1 rec1 true
    else
      level_Validate_k2 t16_1 rec1 true
  else
    level_Validate_k1
def level_Validate_L1 (a0 : Survey) : Nat → Int → Option Int
  | 0, _ => none
  | n_ + 1, t16_1 => level_Validate_B1 a0 (level_Validate_L1 a0 n_) t16_1
theorem level_Validate_L1_s {a0 : Survey} {m_ : Nat} {t16_1 : Int} {res : Int} (h : level_Validate_L1 a0 m_ t16_1 = some res) : ∃ k, m_ = k + 1 ∧ level_Validate_B1 a0 (level_Validate_L1 a0 k) t16_1 = some res := by
  cases m_ with
  | zero => cases h
  | succ k => exact ⟨k, rfl, h⟩
def level_Validate (a0 : Survey) : Option Int :=
  bnd (level_within a0.points ((1 : Int)) ((5 : Int))) fun r5 =>
  if r5 = true then
    if (8 : Int) < ((a0.readings.length : Int)) then
      some ((3 : Int))
    else
      level_Validate_L1 a0 FU (((0 : Int)))
  else
    some ((1 : Int))
def level_forest_1_k1 (x1 : Int) (x2 : Int) (x3 : Int) (x4 : Int) (l1 : List Int) : Option (Bool × (List Int)) :=
  some (!(decide ((min x1 x2) = (max x3 x4))), l1)
def level_forest_1_k2 (t29_1 : Int) (rec1 : Int → (List Int) → Option (Bool × (List Int))) (l2 : List Int) : Option (Bool × (List Int)) :=
  gd (InR (t29_1 + 1)) <|
  rec1 ((t29_1 + 1)) l2
def level_forest_1_B1 (cap0 : List Int) (x1 : Int) (x2 : Int) (x3 : Int) (x4 : Int) (rec1 : Int → (List Int) → Option (Bool × (List Int))) (t29_1 : Int) (l3 : List Int) : Option (Bool × (List Int)) :=
  if t29_1 < ((cap0.length : Int)) then
    ix l3 t29_1 fun x5 =>
    if x5 = (max x3 x4) then
      ix l3 t29_1 fun x6 =>
      level_forest_1_k2 t29_1 rec1 (((l3.set (Int.toNat t29_1) (min x1 x2))))
    else
      level_forest_1_k2 t29_1 rec1 l3
  else
    level_forest_1_k1 x1 x2 x3 x4 l3
def level_forest_1_L1 (cap0 : List Int) (x1 : Int) (x2 : Int) (x3 : Int) (x4 : Int) : Nat → Int → (List Int) → Option (Bool × (List Int))
  | 0, _, _ => none
  | n_ + 1, t29_1, l3 => level_forest_1_B1 cap0 x1 x2 x3 x4 (level_forest_1_L1 cap0 x1 x2 x3 x4 n_) t29_1 l3
theorem level_forest_1_L1_s {cap0 : List Int} {x1 : Int} {x2 : Int} {x3 : Int} {x4 : Int} {m_ : Nat} {t29_1 : Int} {l3 : List Int} {res : Bool × (List Int)} (h : level_forest_1_L1 cap0 x1 x2 x3 x4 m_ t29_1 l3 = some res) : ∃ k, m_ = k + 1 ∧ level_forest_1_B1 cap0 x1 x2 x3 x4 (level_forest_1_L1 cap0 x1 x2 x3 x4 k) t29_1 l3 = some res := by
  cases m_ with
  | zero => cases h
  | succ k => exact ⟨k, rfl, h⟩
def level_forest_1 (cap0 : List Int) (a0 : Int) (a1 : Int) : Option (Bool × (List Int)) :=
  ix cap0 a0 fun x1 =>
  ix cap0 a1 fun x2 =>
  ix cap0 a0 fun x3 =>
  ix cap0 a1 fun x4 =>
  level_forest_1_L1 cap0 x1 x2 x3 x4 FU (((0 : Int))) cap0
def level_forest_k1 (l1 : List Int) (l2 : List Int) : Option ((List Int) × (List Int)) :=
  some (l2, l1)
def level_forest_k2 (t22_1 : Int) (rec1 : Int → (List Int) → (List Int) → Option ((List Int) × (List Int))) (l3 : List Int) (l4 : List Int) : Option ((List Int) × (List Int)) :=
  gd (InR (t22_1 + 1)) <|
  rec1 ((t22_1 + 1)) l3 l4
def level_forest_B1 (a0 : Survey) (rec1 : Int → (List Int) → (List Int) → Option ((List Int) × (List Int))) (t22_1 : Int) (l5 : List Int) (l6 : List Int) : Option ((List Int) × (List Int)) :=
  if t22_1 < ((a0.readings.length : Int)) then
    ix a0.readings t22_1 fun x1 =>
    bnd (level_forest_1 l6 x1.from_ x1.to_) fun r1 =>
    if r1.1 = true then
      gd (l5.length + (([t22_1] : List Int)).length ≤ 1000000) <|
      level_forest_k2 t22_1 rec1 (((l5 ++ ([t22_1] : List Int)))) r1.2
    else
      level_forest_k2 t22_1 rec1 l5 r1.2
  else
    level_forest_k1 l5 l6
def level_forest_L1 (a0 : Survey) : Nat → Int → (List Int) → (List Int) → Option ((List Int) × (List Int))
  | 0, _, _, _ => none
  | n_ + 1, t22_1, l5, l6 => level_forest_B1 a0 (level_forest_L1 a0 n_) t22_1 l5 l6
theorem level_forest_L1_s {a0 : Survey} {m_ : Nat} {t22_1 : Int} {l5 : List Int} {l6 : List Int} {res : (List Int) × (List Int)} (h : level_forest_L1 a0 m_ t22_1 l5 l6 = some res) : ∃ k, m_ = k + 1 ∧ level_forest_B1 a0 (level_forest_L1 a0 k) t22_1 l5 l6 = some res := by
  cases m_ with
  | zero => cases h
  | succ k => exact ⟨k, rfl, h⟩
def level_forest_k3 (a0 : Survey) (l7 : List Int) : Option ((List Int) × (List Int)) :=
  level_forest_L1 a0 FU (((0 : Int))) ((([] : List Int))) l7
def level_forest_B2 (a0 : Survey) (rec2 : Int → (List Int) → Option ((List Int) × (List Int))) (t10_1 : Int) (l8 : List Int) : Option ((List Int) × (List Int)) :=
  if t10_1 < a0.points then
    gd (l8.length + (([t10_1] : List Int)).length ≤ 1000000) <|
    gd (InR (t10_1 + 1)) <|
    rec2 ((t10_1 + 1)) (((l8 ++ ([t10_1] : List Int))))
  else
    level_forest_k3 a0 l8
def level_forest_L2 (a0 : Survey) : Nat → Int → (List Int) → Option ((List Int) × (List Int))
  | 0, _, _ => none
  | n_ + 1, t10_1, l8 => level_forest_B2 a0 (level_forest_L2 a0 n_) t10_1 l8
theorem level_forest_L2_s {a0 : Survey} {m_ : Nat} {t10_1 : Int} {l8 : List Int} {res : (List Int) × (List Int)} (h : level_forest_L2 a0 m_ t10_1 l8 = some res) : ∃ k, m_ = k + 1 ∧ level_forest_B2 a0 (level_forest_L2 a0 k) t10_1 l8 = some res := by
  cases m_ with
  | zero => cases h
  | succ k => exact ⟨k, rfl, h⟩
def level_forest (a0 : Survey) : Option ((List Int) × (List Int)) :=
  level_forest_L2 a0 FU (((0 : Int))) ((([] : List Int)))
end Go.D1

set_option linter.unusedVariables false
namespace Go.D1
open Go.Tb
structure Rat where
  num : Int
  den : Int
def encRat (x : Rat) : List Value := [.int .i64 x.num, .int .i64 x.den]
structure Arr2 where
  at0 : Int
  at1 : Int
def encArr2 (x : Arr2) : List Value := [.int .i64 x.at0, .int .i64 x.at1]
def level_parts_k1 (m1 : List (List Int)) : Option ((List (List Int))) :=
  some m1
def level_parts_k2 (t16_1 : Int) (rec1 : Int → (List (List Int)) → Option ((List (List Int)))) (m2 : List (List Int)) : Option ((List (List Int))) :=
  gd (InR (t16_1 + 1)) <|
  rec1 ((t16_1 + 1)) m2
def level_parts_k3 (t16_1 : Int) (m3 : List (List Int)) (rec1 : Int → (List (List Int)) → Option ((List (List Int)))) (l1 : List Int) : Option ((List (List Int))) :=
  gd (m3.length + 1 ≤ 1000000) <|
  level_parts_k2 t16_1 rec1 (((m3 ++ [l1])))
def level_parts_k4 (t27_1 : Int) (rec2 : Int → (List Int) → Option ((List (List Int)))) (l2 : List Int) : Option ((List (List Int))) :=
  gd (InR (t27_1 + 1)) <|
  rec2 ((t27_1 + 1)) l2
def level_parts_B1 (r1 : (List Int) × (List Int)) (t16_1 : Int) (m3 : List (List Int)) (rec1 : Int → (List (List Int)) → Option ((List (List Int)))) (rec2 : Int → (List Int) → Option ((List (List Int)))) (t27_1 : Int) (l3 : List Int) : Option ((List (List Int))) :=
  if t27_1 < ((r1.1.length : Int)) then
    ix r1.1 t27_1 fun x1 =>
    if x1 = t16_1 then
      gd (l3.length + (([t27_1] : List Int)).length ≤ 1000000) <|
      level_parts_k4 t27_1 rec2 (((l3 ++ ([t27_1] : List Int))))
    else
      level_parts_k4 t27_1 rec2 l3
  else
    level_parts_k3 t16_1 m3 rec1 l3
def level_parts_L1 (r1 : (List Int) × (List Int)) (t16_1 : Int) (m3 : List (List Int)) (rec1 : Int → (List (List Int)) → Option ((List (List Int)))) : Nat → Int → (List Int) → Option ((List (List Int)))
  | 0, _, _ => none
  | n_ + 1, t27_1, l3 => level_parts_B1 r1 t16_1 m3 rec1 (level_parts_L1 r1 t16_1 m3 rec1 n_) t27_1 l3
theorem level_parts_L1_s {r1 : (List Int) × (List Int)} {t16_1 : Int} {m3 : List (List Int)} {rec1 : Int → (List (List Int)) → Option ((List (List Int)))} {m_ : Nat} {t27_1 : Int} {l3 : List Int} {res : (List (List Int))} (h : level_parts_L1 r1 t16_1 m3 rec1 m_ t27_1 l3 = some res) : ∃ k, m_ = k + 1 ∧ level_parts_B1 r1 t16_1 m3 rec1 (level_parts_L1 r1 t16_1 m3 rec1 k) t27_1 l3 = some res := by
  cases m_ with
  | zero => cases h
  | succ k => exact ⟨k, rfl, h⟩
def level_parts_B2 (r1 : (List Int) × (List Int)) (rec1 : Int → (List (List Int)) → Option ((List (List Int)))) (t16_1 : Int) (m3 : List (List Int)) : Option ((List (List Int))) :=
  if t16_1 < ((r1.1.length : Int)) then
    ix r1.1 t16_1 fun x2 =>
    if x2 = t16_1 then
      level_parts_L1 r1 t16_1 m3 rec1 FU (((0 : Int))) ((([] : List Int)))
    else
      level_parts_k2 t16_1 rec1 m3
  else
    level_parts_k1 m3
def level_parts_L2 (r1 : (List Int) × (List Int)) : Nat → Int → (List (List Int)) → Option ((List (List Int)))
  | 0, _, _ => none
  | n_ + 1, t16_1, m3 => level_parts_B2 r1 (level_parts_L2 r1 n_) t16_1 m3
theorem level_parts_L2_s {r1 : (List Int) × (List Int)} {m_ : Nat} {t16_1 : Int} {m3 : List (List Int)} {res : (List (List Int))} (h : level_parts_L2 r1 m_ t16_1 m3 = some res) : ∃ k, m_ = k + 1 ∧ level_parts_B2 r1 (level_parts_L2 r1 k) t16_1 m3 = some res := by
  cases m_ with
  | zero => cases h
  | succ k => exact ⟨k, rfl, h⟩
def level_parts (a0 : Survey) : Option ((List (List Int))) :=
  bnd (level_forest a0) fun r1 =>
  level_parts_L2 r1 FU (((0 : Int))) ((([] : List (List Int))))
def slices_Index_int_k1 : Option Int :=
  some ((-1 : Int))
def slices_Index_int_B1 (a0 : List Int) (a1 : Int) (rec1 : Int → Option Int) (t8_1 : Int) : Option Int :=
  if t8_1 < ((a0.length : Int)) then
    ix a0 t8_1 fun x1 =>
    if a1 = x1 then
      some t8_1
    else
      gd (InR (t8_1 + 1)) <|
      rec1 ((t8_1 + 1))
  else
    slices_Index_int_k1
def slices_Index_int_L1 (a0 : List Int) (a1 : Int) : Nat → Int → Option Int
  | 0, _ => none
  | n_ + 1, t8_1 => slices_Index_int_B1 a0 a1 (slices_Index_int_L1 a0 a1 n_) t8_1
theorem slices_Index_int_L1_s {a0 : List Int} {a1 : Int} {m_ : Nat} {t8_1 : Int} {res : Int} (h : slices_Index_int_L1 a0 a1 m_ t8_1 = some res) : ∃ k, m_ = k + 1 ∧ slices_Index_int_B1 a0 a1 (slices_Index_int_L1 a0 a1 k) t8_1 = some res := by
  cases m_ with
  | zero => cases h
  | succ k => exact ⟨k, rfl, h⟩
def slices_Index_int (a0 : List Int) (a1 : Int) : Option Int :=
  slices_Index_int_L1 a0 a1 FU (((0 : Int)))
def slices_Delete_int (a0 : List Int) (a1 : Int) (a2 : Int) : Option (List Int) :=
  gd (0 ≤ a1 ∧ a1 ≤ a2 ∧ a2 ≤ (a0.length : Int)) <|
  some (a0.take (Int.toNat a1) ++ a0.drop (Int.toNat a2))
def level_resist_1 (cap0 : Int) (a0 : Int) : Option Int :=
  if a0 = cap0 then
    some ((1 : Int))
  else
    some ((0 : Int))
def slices_Repeat_Rat (a0 : List Rat) (a1 : Int) : Option (List Rat) :=
  match a0 with
  | [v] => gd (1 ≤ a1 ∧ a1 ≤ 8) <| some (List.replicate (Int.toNat a1) v)
  | _ => none
def level_balance_1 (cap0 : List Rat) (a0 : Int) (a1 : Int) : Option ((List Rat)) :=
  if (0 : Int) ≤ a0 then
    ix cap0 a0 fun x1 =>
    gd (InR (x1.num + a1)) <|
    ix cap0 a0 fun x2 =>
    some ((cap0.set (Int.toNat a0) ((⟨x1.num + a1, x2.den⟩ : Rat))))
  else
    some cap0
def level_balance_k1 (m1 : List (List Rat)) : Option ((List (List Rat))) :=
  some m1
def level_balance_k2 (t18_1 : Int) (rec1 : Int → (List (List Rat)) → Option ((List (List Rat)))) (m2 : List (List Rat)) : Option ((List (List Rat))) :=
  gd (InR (t18_1 + 1)) <|
  rec1 ((t18_1 + 1)) m2
def level_balance_k3 (a1 : List Int) (a2 : Int → Option Int) (t18_1 : Int) (m3 : List (List Rat)) (rec1 : Int → (List (List Rat)) → Option ((List (List Rat)))) (x1 : Int) (l1 : List Rat) : Option ((List (List Rat))) :=
  bnd (a2 x1) fun r1 =>
  ix l1 ((a1.length : Int)) fun x2 =>
  gd (m3.length + 1 ≤ 1000000) <|
  level_balance_k2 t18_1 rec1 (((m3 ++ [(l1.set (Int.toNat ((a1.length : Int))) ((⟨r1, x2.den⟩ : Rat)))])))
def level_balance_k4 (t32_1 : Int) (rec2 : Int → (List Rat) → Option ((List (List Rat)))) (l2 : List Rat) : Option ((List (List Rat))) :=
  gd (InR (t32_1 + 1)) <|
  rec2 ((t32_1 + 1)) l2
def level_balance_k5 (t47_1 : Int) (rec3 : Int → (List Rat) → Option ((List (List Rat)))) (l3 : List Rat) : Option ((List (List Rat))) :=
  gd (InR (t47_1 + 1)) <|
  rec3 ((t47_1 + 1)) l3
def level_balance_B1 (a1 : List Int) (x1 : Int) (t32_1 : Int) (rec2 : Int → (List Rat) → Option ((List (List Rat)))) (x3 : Reading) (rec3 : Int → (List Rat) → Option ((List (List Rat)))) (t47_1 : Int) (l4 : List Rat) : Option ((List (List Rat))) :=
  if t47_1 < 2 then
    ix (([(⟨x3.from_, x3.to_⟩ : Arr2), (⟨x3.to_, x3.from_⟩ : Arr2)] : List Arr2)) t47_1 fun x4 =>
    ix (([x4.at0, x4.at1] : List Int)) 0 fun x5 =>
    if x5 = x1 then
      bnd (slices_Index_int a1 x1) fun r2 =>
      bnd (level_balance_1 l4 r2 x3.weight) fun r3 =>
      ix (([x4.at0, x4.at1] : List Int)) 1 fun x6 =>
      bnd (slices_Index_int a1 x6) fun r4 =>
      gd (InR (-x3.weight)) <|
      bnd (level_balance_1 r3 r4 (-x3.weight)) fun r5 =>
      level_balance_k5 t47_1 rec3 r5
    else
      level_balance_k5 t47_1 rec3 l4
  else
    level_balance_k4 t32_1 rec2 l4
def level_balance_L1 (a1 : List Int) (x1 : Int) (t32_1 : Int) (rec2 : Int → (List Rat) → Option ((List (List Rat)))) (x3 : Reading) : Nat → Int → (List Rat) → Option ((List (List Rat)))
  | 0, _, _ => none
  | n_ + 1, t47_1, l4 => level_balance_B1 a1 x1 t32_1 rec2 x3 (level_balance_L1 a1 x1 t32_1 rec2 x3 n_) t47_1 l4
theorem level_balance_L1_s {a1 : List Int} {x1 : Int} {t32_1 : Int} {rec2 : Int → (List Rat) → Option ((List (List Rat)))} {x3 : Reading} {m_ : Nat} {t47_1 : Int} {l4 : List Rat} {res : (List (List Rat))} (h : level_balance_L1 a1 x1 t32_1 rec2 x3 m_ t47_1 l4 = some res) : ∃ k, m_ = k + 1 ∧ level_balance_B1 a1 x1 t32_1 rec2 x3 (level_balance_L1 a1 x1 t32_1 rec2 x3 k) t47_1 l4 = some res := by
  cases m_ with
  | zero => cases h
  | succ k => exact ⟨k, rfl, h⟩
def level_balance_B2 (a0 : Survey) (a1 : List Int) (a2 : Int → Option Int) (t18_1 : Int) (m3 : List (List Rat)) (rec1 : Int → (List (List Rat)) → Option ((List (List Rat)))) (x1 : Int) (rec2 : Int → (List Rat) → Option ((List (List Rat)))) (t32_1 : Int) (l5 : List Rat) : Option ((List (List Rat))) :=
  if t32_1 < ((a0.readings.length : Int)) then
    ix a0.readings t32_1 fun x3 =>
    level_balance_L1 a1 x1 t32_1 rec2 x3 FU (((0 : Int))) l5
  else
    level_balance_k3 a1 a2 t18_1 m3 rec1 x1 l5
def level_balance_L2 (a0 : Survey) (a1 : List Int) (a2 : Int → Option Int) (t18_1 : Int) (m3 : List (List Rat)) (rec1 : Int → (List (List Rat)) → Option ((List (List Rat)))) (x1 : Int) : Nat → Int → (List Rat) → Option ((List (List Rat)))
  | 0, _, _ => none
  | n_ + 1, t32_1, l5 => level_balance_B2 a0 a1 a2 t18_1 m3 rec1 x1 (level_balance_L2 a0 a1 a2 t18_1 m3 rec1 x1 n_) t32_1 l5
theorem level_balance_L2_s {a0 : Survey} {a1 : List Int} {a2 : Int → Option Int} {t18_1 : Int} {m3 : List (List Rat)} {rec1 : Int → (List (List Rat)) → Option ((List (List Rat)))} {x1 : Int} {m_ : Nat} {t32_1 : Int} {l5 : List Rat} {res : (List (List Rat))} (h : level_balance_L2 a0 a1 a2 t18_1 m3 rec1 x1 m_ t32_1 l5 = some res) : ∃ k, m_ = k + 1 ∧ level_balance_B2 a0 a1 a2 t18_1 m3 rec1 x1 (level_balance_L2 a0 a1 a2 t18_1 m3 rec1 x1 k) t32_1 l5 = some res := by
  cases m_ with
  | zero => cases h
  | succ k => exact ⟨k, rfl, h⟩
def level_balance_B3 (a0 : Survey) (a1 : List Int) (a2 : Int → Option Int) (rec1 : Int → (List (List Rat)) → Option ((List (List Rat)))) (t18_1 : Int) (m3 : List (List Rat)) : Option ((List (List Rat))) :=
  if t18_1 < ((a1.length : Int)) then
    ix a1 t18_1 fun x1 =>
    gd (InR (((a1.length : Int)) + 1)) <|
    bnd (slices_Repeat_Rat (([(⟨0, 1⟩ : Rat)] : List Rat)) (((a1.length : Int)) + 1)) fun r6 =>
    level_balance_L2 a0 a1 a2 t18_1 m3 rec1 x1 FU (((0 : Int))) r6
  else
    level_balance_k1 m3
def level_balance_L3 (a0 : Survey) (a1 : List Int) (a2 : Int → Option Int) : Nat → Int → (List (List Rat)) → Option ((List (List Rat)))
  | 0, _, _ => none
  | n_ + 1, t18_1, m3 => level_balance_B3 a0 a1 a2 (level_balance_L3 a0 a1 a2 n_) t18_1 m3
theorem level_balance_L3_s {a0 : Survey} {a1 : List Int} {a2 : Int → Option Int} {m_ : Nat} {t18_1 : Int} {m3 : List (List Rat)} {res : (List (List Rat))} (h : level_balance_L3 a0 a1 a2 m_ t18_1 m3 = some res) : ∃ k, m_ = k + 1 ∧ level_balance_B3 a0 a1 a2 (level_balance_L3 a0 a1 a2 k) t18_1 m3 = some res := by
  cases m_ with
  | zero => cases h
  | succ k => exact ⟨k, rfl, h⟩
def level_balance (a0 : Survey) (a1 : List Int) (a2 : Int → Option Int) : Option ((List (List Rat))) :=
  level_balance_L3 a0 a1 a2 FU (((0 : Int))) ((([] : List (List Rat))))
end Go.D1

set_option linter.unusedVariables false
namespace Go.D1
open Go.Tb
def level_gcd_k1 (t0_1 : Int) : Option Int :=
  gd (InR (-t0_1)) <|
  some (max t0_1 (-t0_1))
def level_gcd_B1 (rec1 : Int → Int → Option Int) (t0_2 : Int) (t1_1 : Int) : Option Int :=
  if t1_1 = 0 then
    level_gcd_k1 t0_2
  else
    gd (t1_1 ≠ 0 ∧ InR (Int.tmod t0_2 t1_1)) <|
    rec1 t1_1 ((Int.tmod t0_2 t1_1))
def level_gcd_L1 : Nat → Int → Int → Option Int
  | 0, _, _ => none
  | n_ + 1, t0_2, t1_1 => level_gcd_B1 (level_gcd_L1 n_) t0_2 t1_1
theorem level_gcd_L1_s {m_ : Nat} {t0_2 : Int} {t1_1 : Int} {res : Int} (h : level_gcd_L1 m_ t0_2 t1_1 = some res) : ∃ k, m_ = k + 1 ∧ level_gcd_B1 (level_gcd_L1 k) t0_2 t1_1 = some res := by
  cases m_ with
  | zero => cases h
  | succ k => exact ⟨k, rfl, h⟩
def level_gcd (a0 : Int) (a1 : Int) : Option Int :=
  level_gcd_L1 FU a0 a1
def level_ratio_k1 (a0 : Int) (a1 : Int) (t5_1 : Int) : Option Rat :=
  gd (t5_1 ≠ 0 ∧ InR (Int.tdiv a0 t5_1)) <|
  gd (t5_1 ≠ 0 ∧ InR (Int.tdiv a1 t5_1)) <|
  some ((⟨Int.tdiv a0 t5_1, Int.tdiv a1 t5_1⟩ : Rat))
def level_ratio (a0 : Int) (a1 : Int) : Option Rat :=
  bnd (level_gcd a0 a1) fun r1 =>
  if a1 < 0 then
    gd (InR (-r1)) <|
    level_ratio_k1 a0 a1 ((-r1))
  else
    level_ratio_k1 a0 a1 r1
def level_mul_k1 (c1_0_1 : Int) (c1_1_1 : Int) (c2_0_1 : Int) (c2_1_1 : Int) : Option Rat :=
  gd (InR (c1_0_1 * c2_0_1)) <|
  gd (InR (c1_1_1 * c2_1_1)) <|
  some ((⟨c1_0_1 * c2_0_1, c1_1_1 * c2_1_1⟩ : Rat))
def level_mul (a0 : Rat) (a1 : Rat) : Option Rat :=
  bnd (level_ratio a0.num a1.den) fun r1 =>
  bnd (level_ratio a1.num a0.den) fun r2 =>
  level_mul_k1 r1.num r1.den r2.num r2.den
def level_div (a0 : Rat) (a1 : Rat) : Option Rat :=
  bnd (level_ratio a1.den a1.num) fun r1 =>
  bnd (level_mul a0 r1) fun r2 =>
  some r2
end Go.D1

set_option linter.unusedVariables false
namespace Go.D1
open Go.Tb
def level_sub (a0 : Rat) (a1 : Rat) : Option Rat :=
  gd (InR (a0.num * a1.den)) <|
  gd (InR (a1.num * a0.den)) <|
  gd (InR ((a0.num * a1.den) - (a1.num * a0.den))) <|
  gd (InR (a0.den * a1.den)) <|
  bnd (level_ratio ((a0.num * a1.den) - (a1.num * a0.den)) (a0.den * a1.den)) fun r1 =>
  some r1
def level_solve_k1 (m1 : List (List Rat)) (l1 : List Rat) : Option ((List Rat) × (List (List Rat))) :=
  some (l1, m1)
def level_solve_B1 (m1 : List (List Rat)) (rec1 : Int → (List Rat) → Option ((List Rat) × (List (List Rat)))) (t109_1 : Int) (l2 : List Rat) : Option ((List Rat) × (List (List Rat))) :=
  if t109_1 < ((m1.length : Int)) then
    ix m1 t109_1 fun x1 =>
    ix x1 ((m1.length : Int)) fun x2 =>
    ix m1 t109_1 fun x3 =>
    ix x3 t109_1 fun x4 =>
    bnd (level_div x2 x4) fun r1 =>
    gd (l2.length + (([r1] : List Rat)).length ≤ 1000000) <|
    gd (InR (t109_1 + 1)) <|
    rec1 ((t109_1 + 1)) (((l2 ++ ([r1] : List Rat))))
  else
    level_solve_k1 m1 l2
def level_solve_L1 (m1 : List (List Rat)) : Nat → Int → (List Rat) → Option ((List Rat) × (List (List Rat)))
  | 0, _, _ => none
  | n_ + 1, t109_1, l2 => level_solve_B1 m1 (level_solve_L1 m1 n_) t109_1 l2
theorem level_solve_L1_s {m1 : List (List Rat)} {m_ : Nat} {t109_1 : Int} {l2 : List Rat} {res : (List Rat) × (List (List Rat))} (h : level_solve_L1 m1 m_ t109_1 l2 = some res) : ∃ k, m_ = k + 1 ∧ level_solve_B1 m1 (level_solve_L1 m1 k) t109_1 l2 = some res := by
  cases m_ with
  | zero => cases h
  | succ k => exact ⟨k, rfl, h⟩
def level_solve_k2 (m1 : List (List Rat)) : Option ((List Rat) × (List (List Rat))) :=
  level_solve_L1 m1 FU (((0 : Int))) ((([] : List Rat)))
def level_solve_k3 (t12_1 : Int) (rec2 : Int → (List (List Rat)) → Option ((List Rat) × (List (List Rat)))) (m2 : List (List Rat)) : Option ((List Rat) × (List (List Rat))) :=
  gd (InR (t12_1 + 1)) <|
  rec2 ((t12_1 + 1)) m2
def level_solve_k4 (t43_1 : Int) (rec3 : Int → (List (List Rat)) → Option ((List Rat) × (List (List Rat)))) (m3 : List (List Rat)) : Option ((List Rat) × (List (List Rat))) :=
  gd (InR (t43_1 + 1)) <|
  rec3 ((t43_1 + 1)) m3
def level_solve_B2 (t12_1 : Int) (t43_1 : Int) (rec3 : Int → (List (List Rat)) → Option ((List Rat) × (List (List Rat)))) (c0_0_1 : Int) (c0_1_1 : Int) (rec4 : Int → (List (List Rat)) → Option ((List Rat) × (List (List Rat)))) (t7_1 : Int) (m4 : List (List Rat)) : Option ((List Rat) × (List (List Rat))) :=
  if t7_1 ≤ ((m4.length : Int)) then
    ix m4 t43_1 fun x5 =>
    ix m4 t43_1 fun x6 =>
    ix x6 t7_1 fun x7 =>
    ix m4 t12_1 fun x8 =>
    ix x8 t7_1 fun x9 =>
    bnd (level_mul ((⟨c0_0_1, c0_1_1⟩ : Rat)) x9) fun r2 =>
    bnd (level_sub x7 r2) fun r3 =>
    ix x5 t7_1 fun x10 =>
    gd (InR (t7_1 + 1)) <|
    rec4 ((t7_1 + 1)) (((m4.set (Int.toNat t43_1) (x5.set (Int.toNat t7_1) r3))))
  else
    level_solve_k4 t43_1 rec3 m4
def level_solve_L2 (t12_1 : Int) (t43_1 : Int) (rec3 : Int → (List (List Rat)) → Option ((List Rat) × (List (List Rat)))) (c0_0_1 : Int) (c0_1_1 : Int) : Nat → Int → (List (List Rat)) → Option ((List Rat) × (List (List Rat)))
  | 0, _, _ => none
  | n_ + 1, t7_1, m4 => level_solve_B2 t12_1 t43_1 rec3 c0_0_1 c0_1_1 (level_solve_L2 t12_1 t43_1 rec3 c0_0_1 c0_1_1 n_) t7_1 m4
theorem level_solve_L2_s {t12_1 : Int} {t43_1 : Int} {rec3 : Int → (List (List Rat)) → Option ((List Rat) × (List (List Rat)))} {c0_0_1 : Int} {c0_1_1 : Int} {m_ : Nat} {t7_1 : Int} {m4 : List (List Rat)} {res : (List Rat) × (List (List Rat))} (h : level_solve_L2 t12_1 t43_1 rec3 c0_0_1 c0_1_1 m_ t7_1 m4 = some res) : ∃ k, m_ = k + 1 ∧ level_solve_B2 t12_1 t43_1 rec3 c0_0_1 c0_1_1 (level_solve_L2 t12_1 t43_1 rec3 c0_0_1 c0_1_1 k) t7_1 m4 = some res := by
  cases m_ with
  | zero => cases h
  | succ k => exact ⟨k, rfl, h⟩
def level_solve_k5 (t12_1 : Int) (t43_1 : Int) (m5 : List (List Rat)) (rec3 : Int → (List (List Rat)) → Option ((List Rat) × (List (List Rat)))) (c0_0_1 : Int) (c0_1_1 : Int) : Option ((List Rat) × (List (List Rat))) :=
  level_solve_L2 t12_1 t43_1 rec3 c0_0_1 c0_1_1 FU t12_1 m5
def level_solve_k6 (t12_1 : Int) (t43_1 : Int) (m5 : List (List Rat)) (rec3 : Int → (List (List Rat)) → Option ((List Rat) × (List (List Rat)))) (t59_1 : Bool) : Option ((List Rat) × (List (List Rat))) :=
  if t59_1 = true then
    level_solve_k4 t43_1 rec3 m5
  else
    ix m5 t43_1 fun x11 =>
    ix x11 t12_1 fun x12 =>
    ix m5 t12_1 fun x13 =>
    ix x13 t12_1 fun x14 =>
    bnd (level_div x12 x14) fun r4 =>
    level_solve_k5 t12_1 t43_1 m5 rec3 r4.num r4.den
def level_solve_B3 (t12_1 : Int) (m6 : List (List Rat)) (rec2 : Int → (List (List Rat)) → Option ((List Rat) × (List (List Rat)))) (rec3 : Int → (List (List Rat)) → Option ((List Rat) × (List (List Rat)))) (t43_1 : Int) (m5 : List (List Rat)) : Option ((List Rat) × (List (List Rat))) :=
  if t43_1 < ((m6.length : Int)) then
    if t43_1 = t12_1 then
      level_solve_k6 t12_1 t43_1 m5 rec3 true
    else
      ix m5 t43_1 fun x15 =>
      ix x15 t12_1 fun x16 =>
      level_solve_k6 t12_1 t43_1 m5 rec3 ((decide (x16.num = 0)))
  else
    level_solve_k3 t12_1 rec2 m5
def level_solve_L3 (t12_1 : Int) (m6 : List (List Rat)) (rec2 : Int → (List (List Rat)) → Option ((List Rat) × (List (List Rat)))) : Nat → Int → (List (List Rat)) → Option ((List Rat) × (List (List Rat)))
  | 0, _, _ => none
  | n_ + 1, t43_1, m5 => level_solve_B3 t12_1 m6 rec2 (level_solve_L3 t12_1 m6 rec2 n_) t43_1 m5
theorem level_solve_L3_s {t12_1 : Int} {m6 : List (List Rat)} {rec2 : Int → (List (List Rat)) → Option ((List Rat) × (List (List Rat)))} {m_ : Nat} {t43_1 : Int} {m5 : List (List Rat)} {res : (List Rat) × (List (List Rat))} (h : level_solve_L3 t12_1 m6 rec2 m_ t43_1 m5 = some res) : ∃ k, m_ = k + 1 ∧ level_solve_B3 t12_1 m6 rec2 (level_solve_L3 t12_1 m6 rec2 k) t43_1 m5 = some res := by
  cases m_ with
  | zero => cases h
  | succ k => exact ⟨k, rfl, h⟩
def level_solve_k7 (t12_1 : Int) (m6 : List (List Rat)) (rec2 : Int → (List (List Rat)) → Option ((List Rat) × (List (List Rat)))) (t4_1 : Int) : Option ((List Rat) × (List (List Rat))) :=
  ix m6 t4_1 fun x17 =>
  ix m6 t12_1 fun x18 =>
  ix m6 t12_1 fun x19 =>
  ix m6 t4_1 fun x20 =>
  level_solve_L3 t12_1 m6 rec2 FU (((0 : Int))) ((((m6.set (Int.toNat t12_1) x17).set (Int.toNat t4_1) x18)))
def level_solve_B4 (t12_1 : Int) (m6 : List (List Rat)) (rec2 : Int → (List (List Rat)) → Option ((List Rat) × (List (List Rat)))) (rec5 : Int → Option ((List Rat) × (List (List Rat)))) (t4_2 : Int) : Option ((List Rat) × (List (List Rat))) :=
  ix m6 t4_2 fun x21 =>
  ix x21 t12_1 fun x22 =>
  if x22.num = 0 then
    gd (InR (t4_2 + 1)) <|
    rec5 ((t4_2 + 1))
  else
    level_solve_k7 t12_1 m6 rec2 t4_2
def level_solve_L4 (t12_1 : Int) (m6 : List (List Rat)) (rec2 : Int → (List (List Rat)) → Option ((List Rat) × (List (List Rat)))) : Nat → Int → Option ((List Rat) × (List (List Rat)))
  | 0, _ => none
  | n_ + 1, t4_2 => level_solve_B4 t12_1 m6 rec2 (level_solve_L4 t12_1 m6 rec2 n_) t4_2
theorem level_solve_L4_s {t12_1 : Int} {m6 : List (List Rat)} {rec2 : Int → (List (List Rat)) → Option ((List Rat) × (List (List Rat)))} {m_ : Nat} {t4_2 : Int} {res : (List Rat) × (List (List Rat))} (h : level_solve_L4 t12_1 m6 rec2 m_ t4_2 = some res) : ∃ k, m_ = k + 1 ∧ level_solve_B4 t12_1 m6 rec2 (level_solve_L4 t12_1 m6 rec2 k) t4_2 = some res := by
  cases m_ with
  | zero => cases h
  | succ k => exact ⟨k, rfl, h⟩
def level_solve_B5 (a0 : List (List Rat)) (rec2 : Int → (List (List Rat)) → Option ((List Rat) × (List (List Rat)))) (t12_1 : Int) (m6 : List (List Rat)) : Option ((List Rat) × (List (List Rat))) :=
  if t12_1 < ((a0.length : Int)) then
    level_solve_L4 t12_1 m6 rec2 FU t12_1
  else
    level_solve_k2 m6
def level_solve_L5 (a0 : List (List Rat)) : Nat → Int → (List (List Rat)) → Option ((List Rat) × (List (List Rat)))
  | 0, _, _ => none
  | n_ + 1, t12_1, m6 => level_solve_B5 a0 (level_solve_L5 a0 n_) t12_1 m6
theorem level_solve_L5_s {a0 : List (List Rat)} {m_ : Nat} {t12_1 : Int} {m6 : List (List Rat)} {res : (List Rat) × (List (List Rat))} (h : level_solve_L5 a0 m_ t12_1 m6 = some res) : ∃ k, m_ = k + 1 ∧ level_solve_B5 a0 (level_solve_L5 a0 k) t12_1 m6 = some res := by
  cases m_ with
  | zero => cases h
  | succ k => exact ⟨k, rfl, h⟩
def level_solve (a0 : List (List Rat)) : Option ((List Rat) × (List (List Rat))) :=
  level_solve_L5 a0 FU (((0 : Int))) a0
end Go.D1

set_option linter.unusedVariables false
namespace Go.D1
open Go.Tb
def level_resist_k1 : Option Rat :=
  some ((⟨0, 1⟩ : Rat))
def level_resist_B1 (a0 : Survey) (a1 : Int) (a2 : Int) (r1 : (List (List Int))) (rec1 : Int → Option Rat) (t18_1 : Int) : Option Rat :=
  if t18_1 < ((r1.length : Int)) then
    ix r1 t18_1 fun x1 =>
    bnd (slices_Index_int x1 a2) fun r2 =>
    if (0 : Int) ≤ r2 then
      gd (InR (r2 + 1)) <|
      bnd (slices_Delete_int x1 r2 (r2 + 1)) fun r3 =>
      bnd (level_balance a0 r3 ((fun x2 => level_resist_1 a1 x2))) fun r4 =>
      bnd (level_solve r4) fun r5 =>
      bnd (slices_Index_int r3 a1) fun r6 =>
      ix r5.1 r6 fun x3 =>
      some x3
    else
      gd (InR (t18_1 + 1)) <|
      rec1 ((t18_1 + 1))
  else
    level_resist_k1
def level_resist_L1 (a0 : Survey) (a1 : Int) (a2 : Int) (r1 : (List (List Int))) : Nat → Int → Option Rat
  | 0, _ => none
  | n_ + 1, t18_1 => level_resist_B1 a0 a1 a2 r1 (level_resist_L1 a0 a1 a2 r1 n_) t18_1
theorem level_resist_L1_s {a0 : Survey} {a1 : Int} {a2 : Int} {r1 : (List (List Int))} {m_ : Nat} {t18_1 : Int} {res : Rat} (h : level_resist_L1 a0 a1 a2 r1 m_ t18_1 = some res) : ∃ k, m_ = k + 1 ∧ level_resist_B1 a0 a1 a2 r1 (level_resist_L1 a0 a1 a2 r1 k) t18_1 = some res := by
  cases m_ with
  | zero => cases h
  | succ k => exact ⟨k, rfl, h⟩
def level_resist (a0 : Survey) (a1 : Int) (a2 : Int) : Option Rat :=
  if a1 = a2 then
    some ((⟨0, 1⟩ : Rat))
  else
    bnd (level_parts a0) fun r1 =>
    level_resist_L1 a0 a1 a2 r1 FU (((0 : Int)))
def level_Error_k1 (a0 : Survey) (a1 : Int) (a2 : Int) (t30_1 : Bool) : Option (Rat × Int) :=
  if t30_1 = true then
    some ((⟨0, 0⟩ : Rat), (4 : Int))
  else
    bnd (level_forest a0) fun r1 =>
    ix r1.1 a1 fun x1 =>
    ix r1.1 a2 fun x2 =>
    if x1 = x2 then
      bnd (level_resist a0 a1 a2) fun r2 =>
      some (r2, (0 : Int))
    else
      some ((⟨0, 0⟩ : Rat), (9 : Int))
def level_Error (a0 : Survey) (a1 : Int) (a2 : Int) : Option (Rat × Int) :=
  bnd (level_Validate a0) fun r3 =>
  if r3 = 0 then
    gd (InR (a0.points - 1)) <|
    bnd (level_within a1 ((0 : Int)) (a0.points - 1)) fun r4 =>
    if r4 = true then
      gd (InR (a0.points - 1)) <|
      bnd (level_within a2 ((0 : Int)) (a0.points - 1)) fun r5 =>
      level_Error_k1 a0 a1 a2 ((!r5))
    else
      level_Error_k1 a0 a1 a2 true
  else
    some ((⟨0, 0⟩ : Rat), r3)
def level_best_1_k1 (t4_1 : Int) : Option Int :=
  some t4_1
def level_best_1_k2 (t10_1 : Int) (rec1 : Int → Int → Option Int) (t4_2 : Int) : Option Int :=
  gd (InR (t10_1 + 1)) <|
  rec1 t4_2 ((t10_1 + 1))
def level_best_1_B1 (a0 : Int) (cap0 : Survey) (rec1 : Int → Int → Option Int) (t4_3 : Int) (t10_1 : Int) : Option Int :=
  if t10_1 < ((cap0.readings.length : Int)) then
    ix cap0.readings t10_1 fun x1 =>
    if a0 = x1.to_ then
      gd (InR (x1.weight * x1.rise)) <|
      gd (InR (t4_3 + (x1.weight * x1.rise))) <|
      level_best_1_k2 t10_1 rec1 ((t4_3 + (x1.weight * x1.rise)))
    else
      if a0 = x1.from_ then
        gd (InR (x1.weight * x1.rise)) <|
        gd (InR (t4_3 - (x1.weight * x1.rise))) <|
        level_best_1_k2 t10_1 rec1 ((t4_3 - (x1.weight * x1.rise)))
      else
        level_best_1_k2 t10_1 rec1 t4_3
  else
    level_best_1_k1 t4_3
def level_best_1_L1 (a0 : Int) (cap0 : Survey) : Nat → Int → Int → Option Int
  | 0, _, _ => none
  | n_ + 1, t4_3, t10_1 => level_best_1_B1 a0 cap0 (level_best_1_L1 a0 cap0 n_) t4_3 t10_1
theorem level_best_1_L1_s {a0 : Int} {cap0 : Survey} {m_ : Nat} {t4_3 : Int} {t10_1 : Int} {res : Int} (h : level_best_1_L1 a0 cap0 m_ t4_3 t10_1 = some res) : ∃ k, m_ = k + 1 ∧ level_best_1_B1 a0 cap0 (level_best_1_L1 a0 cap0 k) t4_3 t10_1 = some res := by
  cases m_ with
  | zero => cases h
  | succ k => exact ⟨k, rfl, h⟩
def level_best_1 (cap0 : Survey) (a0 : Int) : Option Int :=
  level_best_1_L1 a0 cap0 FU (((0 : Int))) (((0 : Int)))
def level_best_k1 (l1 : List Rat) : Option ((List Rat)) :=
  some l1
def level_best_k2 (t17_1 : Int) (rec1 : Int → (List Rat) → Option ((List Rat))) (l2 : List Rat) : Option ((List Rat)) :=
  gd (InR (t17_1 + 1)) <|
  rec1 ((t17_1 + 1)) l2
def level_best_B1 (t17_1 : Int) (rec1 : Int → (List Rat) → Option ((List Rat))) (x1 : List Int) (r1 : (List Rat) × (List (List Rat))) (rec2 : Int → (List Rat) → Option ((List Rat))) (t30_1 : Int) (l3 : List Rat) : Option ((List Rat)) :=
  if t30_1 < (((List.drop (Int.toNat 1) x1).length : Int)) then
    ix ((List.drop (Int.toNat 1) x1)) t30_1 fun x2 =>
    ix r1.1 t30_1 fun x3 =>
    ix l3 x2 fun x4 =>
    gd (InR (t30_1 + 1)) <|
    rec2 ((t30_1 + 1)) (((l3.set (Int.toNat x2) x3)))
  else
    level_best_k2 t17_1 rec1 l3
def level_best_L1 (t17_1 : Int) (rec1 : Int → (List Rat) → Option ((List Rat))) (x1 : List Int) (r1 : (List Rat) × (List (List Rat))) : Nat → Int → (List Rat) → Option ((List Rat))
  | 0, _, _ => none
  | n_ + 1, t30_1, l3 => level_best_B1 t17_1 rec1 x1 r1 (level_best_L1 t17_1 rec1 x1 r1 n_) t30_1 l3
theorem level_best_L1_s {t17_1 : Int} {rec1 : Int → (List Rat) → Option ((List Rat))} {x1 : List Int} {r1 : (List Rat) × (List (List Rat))} {m_ : Nat} {t30_1 : Int} {l3 : List Rat} {res : (List Rat)} (h : level_best_L1 t17_1 rec1 x1 r1 m_ t30_1 l3 = some res) : ∃ k, m_ = k + 1 ∧ level_best_B1 t17_1 rec1 x1 r1 (level_best_L1 t17_1 rec1 x1 r1 k) t30_1 l3 = some res := by
  cases m_ with
  | zero => cases h
  | succ k => exact ⟨k, rfl, h⟩
def level_best_B2 (a0 : Survey) (r2 : (List (List Int))) (rec1 : Int → (List Rat) → Option ((List Rat))) (t17_1 : Int) (l4 : List Rat) : Option ((List Rat)) :=
  if t17_1 < ((r2.length : Int)) then
    ix r2 t17_1 fun x1 =>
    gd (0 ≤ ((1 : Int)) ∧ ((1 : Int)) ≤ (x1.length : Int)) <|
    bnd (level_balance a0 ((List.drop (Int.toNat 1) x1)) ((fun x5 => level_best_1 a0 x5))) fun r3 =>
    bnd (level_solve r3) fun r1 =>
    gd (0 ≤ ((1 : Int)) ∧ ((1 : Int)) ≤ (x1.length : Int)) <|
    level_best_L1 t17_1 rec1 x1 r1 FU (((0 : Int))) l4
  else
    level_best_k1 l4
def level_best_L2 (a0 : Survey) (r2 : (List (List Int))) : Nat → Int → (List Rat) → Option ((List Rat))
  | 0, _, _ => none
  | n_ + 1, t17_1, l4 => level_best_B2 a0 r2 (level_best_L2 a0 r2 n_) t17_1 l4
theorem level_best_L2_s {a0 : Survey} {r2 : (List (List Int))} {m_ : Nat} {t17_1 : Int} {l4 : List Rat} {res : (List Rat)} (h : level_best_L2 a0 r2 m_ t17_1 l4 = some res) : ∃ k, m_ = k + 1 ∧ level_best_B2 a0 r2 (level_best_L2 a0 r2 k) t17_1 l4 = some res := by
  cases m_ with
  | zero => cases h
  | succ k => exact ⟨k, rfl, h⟩
def level_best (a0 : Survey) : Option ((List Rat)) :=
  bnd (slices_Repeat_Rat (([(⟨0, 1⟩ : Rat)] : List Rat)) a0.points) fun r4 =>
  bnd (level_parts a0) fun r2 =>
  level_best_L2 a0 r2 FU (((0 : Int))) r4
end Go.D1

set_option linter.unusedVariables false
namespace Go.D1
open Go.Tb
def level_Best (a0 : Survey) : Option ((List Rat) × Int) :=
  bnd (level_Validate a0) fun r1 =>
  if r1 = 0 then
    bnd (level_best a0) fun r2 =>
    some (r2, (0 : Int))
  else
    some (([] : List Rat), r1)
def law01_known : Option Bool :=
  bnd (level_Best ((⟨2, ([(⟨0, 1, 10, 1⟩ : Reading), (⟨0, 1, 13, 2⟩ : Reading)] : List Reading)⟩ : Survey))) fun r1 =>
  bnd (level_Error ((⟨2, ([(⟨0, 1, 10, 1⟩ : Reading), (⟨0, 1, 13, 2⟩ : Reading)] : List Reading)⟩ : Survey)) ((0 : Int)) ((1 : Int))) fun r2 =>
  if r1.2 = 0 then
    if ((r1.1.length : Int)) = 2 then
      ix r1.1 1 fun x1 =>
      if ((x1.num == 12) && (x1.den == 1)) = true then
        if r2.2 = 0 then
          some ((r2.1.num == 1) && (r2.1.den == 3))
        else
          some false
      else
        some false
    else
      some false
  else
    some false
def law01_Long (a0 : Survey) : Option Bool :=
  some (decide ((100 : Int) < ((a0.readings.length : Int))))
end Go.D1

set_option linter.unusedVariables false
namespace Go.D1
open Go.Tb
def slices_IndexFunc_int_k1 : Option Int :=
  some ((-1 : Int))
def slices_IndexFunc_int_B1 (a0 : List Int) (a1 : Int → Option Bool) (rec1 : Int → Option Int) (t8_1 : Int) : Option Int :=
  if t8_1 < ((a0.length : Int)) then
    ix a0 t8_1 fun x1 =>
    bnd (a1 x1) fun r1 =>
    if r1 = true then
      some t8_1
    else
      gd (InR (t8_1 + 1)) <|
      rec1 ((t8_1 + 1))
  else
    slices_IndexFunc_int_k1
def slices_IndexFunc_int_L1 (a0 : List Int) (a1 : Int → Option Bool) : Nat → Int → Option Int
  | 0, _ => none
  | n_ + 1, t8_1 => slices_IndexFunc_int_B1 a0 a1 (slices_IndexFunc_int_L1 a0 a1 n_) t8_1
theorem slices_IndexFunc_int_L1_s {a0 : List Int} {a1 : Int → Option Bool} {m_ : Nat} {t8_1 : Int} {res : Int} (h : slices_IndexFunc_int_L1 a0 a1 m_ t8_1 = some res) : ∃ k, m_ = k + 1 ∧ slices_IndexFunc_int_B1 a0 a1 (slices_IndexFunc_int_L1 a0 a1 k) t8_1 = some res := by
  cases m_ with
  | zero => cases h
  | succ k => exact ⟨k, rfl, h⟩
def slices_IndexFunc_int (a0 : List Int) (a1 : Int → Option Bool) : Option Int :=
  slices_IndexFunc_int_L1 a0 a1 FU (((0 : Int)))
def slices_ContainsFunc_int (a0 : List Int) (a1 : Int → Option Bool) : Option Bool :=
  bnd (slices_IndexFunc_int a0 a1) fun r1 =>
  some (decide ((0 : Int) ≤ r1))
end Go.D1

set_option linter.unusedVariables false
namespace Go.D1
open Go.Tb
structure Table where
  den : Int
  num : List Int
def level_CheckBest_1 (a0 : Int) : Option Bool :=
  bnd (level_within a0 ((-1000000000 : Int)) ((1000000000 : Int))) fun r1 =>
  some (!r1)
def level_CheckBest_2 (a0 : Int) : Option Bool :=
  some (!(decide (a0 = 0)))
def level_CheckBest_k1 (l1 : List Int) : Option Int :=
  bnd (slices_ContainsFunc_int l1 level_CheckBest_2) fun r1 =>
  if r1 = true then
    some ((7 : Int))
  else
    some ((0 : Int))
def level_CheckBest_B1 (a1 : Table) (l1 : List Int) (r2 : (List (List Int))) (rec1 : Int → Option Int) (t86_1 : Int) : Option Int :=
  if t86_1 < ((r2.length : Int)) then
    ix r2 t86_1 fun x1 =>
    ix x1 0 fun x2 =>
    ix a1.num x2 fun x3 =>
    if x3 = 0 then
      gd (InR (t86_1 + 1)) <|
      rec1 ((t86_1 + 1))
    else
      some ((7 : Int))
  else
    level_CheckBest_k1 l1
def level_CheckBest_L1 (a1 : Table) (l1 : List Int) (r2 : (List (List Int))) : Nat → Int → Option Int
  | 0, _ => none
  | n_ + 1, t86_1 => level_CheckBest_B1 a1 l1 r2 (level_CheckBest_L1 a1 l1 r2 n_) t86_1
theorem level_CheckBest_L1_s {a1 : Table} {l1 : List Int} {r2 : (List (List Int))} {m_ : Nat} {t86_1 : Int} {res : Int} (h : level_CheckBest_L1 a1 l1 r2 m_ t86_1 = some res) : ∃ k, m_ = k + 1 ∧ level_CheckBest_B1 a1 l1 r2 (level_CheckBest_L1 a1 l1 r2 k) t86_1 = some res := by
  cases m_ with
  | zero => cases h
  | succ k => exact ⟨k, rfl, h⟩
def level_CheckBest_k2 (a0 : Survey) (a1 : Table) (l1 : List Int) : Option Int :=
  bnd (level_parts a0) fun r2 =>
  level_CheckBest_L1 a1 l1 r2 FU (((0 : Int)))
def level_CheckBest_B2 (a0 : Survey) (a1 : Table) (rec2 : Int → (List Int) → Option Int) (t40_1 : Int) (l2 : List Int) : Option Int :=
  if t40_1 < ((a0.readings.length : Int)) then
    ix a0.readings t40_1 fun x4 =>
    gd (InR (x4.rise * a1.den)) <|
    ix a1.num x4.to_ fun x5 =>
    gd (InR ((x4.rise * a1.den) - x5)) <|
    ix a1.num x4.from_ fun x6 =>
    gd (InR (((x4.rise * a1.den) - x5) + x6)) <|
    gd (InR (x4.weight * (((x4.rise * a1.den) - x5) + x6))) <|
    ix l2 x4.to_ fun x7 =>
    gd (InR (x7 + (x4.weight * (((x4.rise * a1.den) - x5) + x6)))) <|
    ix l2 x4.to_ fun x8 =>
    ix ((l2.set (Int.toNat x4.to_) (x7 + (x4.weight * (((x4.rise * a1.den) - x5) + x6))))) x4.from_ fun x9 =>
    gd (InR (x9 - (x4.weight * (((x4.rise * a1.den) - x5) + x6)))) <|
    ix ((l2.set (Int.toNat x4.to_) (x7 + (x4.weight * (((x4.rise * a1.den) - x5) + x6))))) x4.from_ fun x10 =>
    gd (InR (t40_1 + 1)) <|
    rec2 ((t40_1 + 1)) (((((l2.set (Int.toNat x4.to_) (x7 + (x4.weight * (((x4.rise * a1.den) - x5) + x6))))).set (Int.toNat x4.from_) (x9 - (x4.weight * (((x4.rise * a1.den) - x5) + x6))))))
  else
    level_CheckBest_k2 a0 a1 l2
def level_CheckBest_L2 (a0 : Survey) (a1 : Table) : Nat → Int → (List Int) → Option Int
  | 0, _, _ => none
  | n_ + 1, t40_1, l2 => level_CheckBest_B2 a0 a1 (level_CheckBest_L2 a0 a1 n_) t40_1 l2
theorem level_CheckBest_L2_s {a0 : Survey} {a1 : Table} {m_ : Nat} {t40_1 : Int} {l2 : List Int} {res : Int} (h : level_CheckBest_L2 a0 a1 m_ t40_1 l2 = some res) : ∃ k, m_ = k + 1 ∧ level_CheckBest_B2 a0 a1 (level_CheckBest_L2 a0 a1 k) t40_1 l2 = some res := by
  cases m_ with
  | zero => cases h
  | succ k => exact ⟨k, rfl, h⟩
def level_CheckBest_k3 (a0 : Survey) (a1 : Table) (t33_1 : Bool) : Option Int :=
  if t33_1 = true then
    some ((1 : Int))
  else
    gd (0 ≤ a0.points ∧ a0.points ≤ 1000000) <|
    level_CheckBest_L2 a0 a1 FU (((0 : Int))) (((List.replicate (Int.toNat a0.points) (0 : Int))))
def level_CheckBest (a0 : Survey) (a1 : Table) : Option Int :=
  bnd (level_Validate a0) fun r3 =>
  if r3 = 0 then
    bnd (level_within a1.den ((1 : Int)) ((1000000 : Int))) fun r4 =>
    if r4 = true then
      if ((a1.num.length : Int)) = a0.points then
        bnd (slices_ContainsFunc_int a1.num level_CheckBest_1) fun r5 =>
        level_CheckBest_k3 a0 a1 r5
      else
        level_CheckBest_k3 a0 a1 true
    else
      level_CheckBest_k3 a0 a1 true
  else
    some r3
end Go.D1

set_option linter.unusedVariables false
namespace Go.D1
open Go.Tb
def law01_LevelProves_k1 (a0 : Survey) (a2 : Int) (c1_0_1 : Int) (t1_1 : Int) (l1 : List Int) (t136_1 : Bool) : Option Bool :=
  if t136_1 = true then
    bnd (law01_known) fun r1 =>
    some r1
  else
    ix l1 a2 fun x1 =>
    gd (InR (x1 + 1)) <|
    ix l1 a2 fun x2 =>
    bnd (level_CheckBest a0 ((⟨c1_0_1 * t1_1, (l1.set (Int.toNat a2) (x1 + 1))⟩ : Table))) fun r2 =>
    if r2 = 7 then
      bnd (law01_known) fun r3 =>
      some r3
    else
      some false
def law01_LevelProves_k2 (a0 : Survey) (a2 : Int) (c1_0_1 : Int) (t1_1 : Int) (l1 : List Int) : Option Bool :=
  bnd (level_CheckBest a0 ((⟨c1_0_1 * t1_1, l1⟩ : Table))) fun r4 =>
  if r4 = 0 then
    if a2 < 0 then
      law01_LevelProves_k1 a0 a2 c1_0_1 t1_1 l1 true
    else
      if ((l1.length : Int)) ≤ a2 then
        law01_LevelProves_k1 a0 a2 c1_0_1 t1_1 l1 true
      else
        ix l1 a2 fun x3 =>
        law01_LevelProves_k1 a0 a2 c1_0_1 t1_1 l1 ((decide ((1000000000 : Int) ≤ x3)))
  else
    some false
def law01_LevelProves_B1 (a0 : Survey) (a2 : Int) (r5 : (List Rat) × Int) (c1_0_1 : Int) (t1_1 : Int) (rec1 : Int → (List Int) → Option Bool) (t13_1 : Int) (l2 : List Int) : Option Bool :=
  if t13_1 < ((r5.1.length : Int)) then
    ix r5.1 t13_1 fun x4 =>
    ix r5.1 t13_1 fun x5 =>
    gd (x5.den ≠ 0 ∧ InR (Int.tdiv (c1_0_1 * t1_1) x5.den)) <|
    gd (InR (x4.num * (Int.tdiv (c1_0_1 * t1_1) x5.den))) <|
    gd (l2.length + (([x4.num * (Int.tdiv (c1_0_1 * t1_1) x5.den)] : List Int)).length ≤ 1000000) <|
    gd (InR (t13_1 + 1)) <|
    rec1 ((t13_1 + 1)) (((l2 ++ ([x4.num * (Int.tdiv (c1_0_1 * t1_1) x5.den)] : List Int))))
  else
    law01_LevelProves_k2 a0 a2 c1_0_1 t1_1 l2
def law01_LevelProves_L1 (a0 : Survey) (a2 : Int) (r5 : (List Rat) × Int) (c1_0_1 : Int) (t1_1 : Int) : Nat → Int → (List Int) → Option Bool
  | 0, _, _ => none
  | n_ + 1, t13_1, l2 => law01_LevelProves_B1 a0 a2 r5 c1_0_1 t1_1 (law01_LevelProves_L1 a0 a2 r5 c1_0_1 t1_1 n_) t13_1 l2
theorem law01_LevelProves_L1_s {a0 : Survey} {a2 : Int} {r5 : (List Rat) × Int} {c1_0_1 : Int} {t1_1 : Int} {m_ : Nat} {t13_1 : Int} {l2 : List Int} {res : Bool} (h : law01_LevelProves_L1 a0 a2 r5 c1_0_1 t1_1 m_ t13_1 l2 = some res) : ∃ k, m_ = k + 1 ∧ law01_LevelProves_B1 a0 a2 r5 c1_0_1 t1_1 (law01_LevelProves_L1 a0 a2 r5 c1_0_1 t1_1 k) t13_1 l2 = some res := by
  cases m_ with
  | zero => cases h
  | succ k => exact ⟨k, rfl, h⟩
def law01_LevelProves_k3 (a0 : Survey) (a2 : Int) (r5 : (List Rat) × Int) (c1_0_1 : Int) (t1_1 : Int) : Option Bool :=
  gd (InR (c1_0_1 * t1_1)) <|
  law01_LevelProves_L1 a0 a2 r5 c1_0_1 t1_1 FU (((0 : Int))) ((([] : List Int)))
def law01_LevelProves_k4 (a0 : Survey) (a1 : Int) (a2 : Int) (r5 : (List Rat) × Int) (c1_0_1 : Int) (t85_1 : Bool) : Option Bool :=
  if t85_1 = true then
    law01_LevelProves_k3 a0 a2 r5 c1_0_1 (((1 : Int)))
  else
    law01_LevelProves_k3 a0 a2 r5 c1_0_1 a1
def law01_LevelProves_k5 (a0 : Survey) (a1 : Int) (a2 : Int) (r5 : (List Rat) × Int) (c1_0_1 : Int) : Option Bool :=
  if a1 < 1 then
    law01_LevelProves_k4 a0 a1 a2 r5 c1_0_1 true
  else
    if (9 : Int) < a1 then
      law01_LevelProves_k4 a0 a1 a2 r5 c1_0_1 true
    else
      gd (InR (c1_0_1 * a1)) <|
      law01_LevelProves_k4 a0 a1 a2 r5 c1_0_1 ((decide ((1000000 : Int) < (c1_0_1 * a1))))
def law01_LevelProves_k6 (t10_1 : Int) (rec2 : Int → Int → Option Bool) (c1_0_2 : Int) : Option Bool :=
  gd (InR (t10_1 + 1)) <|
  rec2 ((t10_1 + 1)) c1_0_2
def law01_LevelProves_k7 (r5 : (List Rat) × Int) (t10_1 : Int) (c1_0_3 : Int) (rec2 : Int → Int → Option Bool) (t11_1 : Int) : Option Bool :=
  gd (t11_1 ≠ 0 ∧ InR (Int.tdiv c1_0_3 t11_1)) <|
  ix r5.1 t10_1 fun x6 =>
  gd (InR ((Int.tdiv c1_0_3 t11_1) * x6.den)) <|
  if (1000000 : Int) < ((Int.tdiv c1_0_3 t11_1) * x6.den) then
    some false
  else
    law01_LevelProves_k6 t10_1 rec2 (((Int.tdiv c1_0_3 t11_1) * x6.den))
def law01_LevelProves_B2 (r5 : (List Rat) × Int) (t10_1 : Int) (c1_0_3 : Int) (rec2 : Int → Int → Option Bool) (rec3 : Int → Int → Option Bool) (t11_2 : Int) (t12_1 : Int) : Option Bool :=
  if t12_1 = 0 then
    law01_LevelProves_k7 r5 t10_1 c1_0_3 rec2 t11_2
  else
    gd (t12_1 ≠ 0 ∧ InR (Int.tmod t11_2 t12_1)) <|
    rec3 t12_1 ((Int.tmod t11_2 t12_1))
def law01_LevelProves_L2 (r5 : (List Rat) × Int) (t10_1 : Int) (c1_0_3 : Int) (rec2 : Int → Int → Option Bool) : Nat → Int → Int → Option Bool
  | 0, _, _ => none
  | n_ + 1, t11_2, t12_1 => law01_LevelProves_B2 r5 t10_1 c1_0_3 rec2 (law01_LevelProves_L2 r5 t10_1 c1_0_3 rec2 n_) t11_2 t12_1
theorem law01_LevelProves_L2_s {r5 : (List Rat) × Int} {t10_1 : Int} {c1_0_3 : Int} {rec2 : Int → Int → Option Bool} {m_ : Nat} {t11_2 : Int} {t12_1 : Int} {res : Bool} (h : law01_LevelProves_L2 r5 t10_1 c1_0_3 rec2 m_ t11_2 t12_1 = some res) : ∃ k, m_ = k + 1 ∧ law01_LevelProves_B2 r5 t10_1 c1_0_3 rec2 (law01_LevelProves_L2 r5 t10_1 c1_0_3 rec2 k) t11_2 t12_1 = some res := by
  cases m_ with
  | zero => cases h
  | succ k => exact ⟨k, rfl, h⟩
def law01_LevelProves_k8 (r5 : (List Rat) × Int) (t10_1 : Int) (c1_0_3 : Int) (rec2 : Int → Int → Option Bool) (t45_1 : Bool) : Option Bool :=
  if t45_1 = true then
    some false
  else
    ix r5.1 t10_1 fun x7 =>
    law01_LevelProves_L2 r5 t10_1 c1_0_3 rec2 FU c1_0_3 x7.den
def law01_LevelProves_B3 (a0 : Survey) (a1 : Int) (a2 : Int) (r5 : (List Rat) × Int) (rec2 : Int → Int → Option Bool) (t10_1 : Int) (c1_0_3 : Int) : Option Bool :=
  if t10_1 < ((r5.1.length : Int)) then
    ix r5.1 t10_1 fun x8 =>
    if x8.den < 1 then
      law01_LevelProves_k8 r5 t10_1 c1_0_3 rec2 true
    else
      ix r5.1 t10_1 fun x9 =>
      law01_LevelProves_k8 r5 t10_1 c1_0_3 rec2 ((decide ((1000000 : Int) < x9.den)))
  else
    law01_LevelProves_k5 a0 a1 a2 r5 c1_0_3
def law01_LevelProves_L3 (a0 : Survey) (a1 : Int) (a2 : Int) (r5 : (List Rat) × Int) : Nat → Int → Int → Option Bool
  | 0, _, _ => none
  | n_ + 1, t10_1, c1_0_3 => law01_LevelProves_B3 a0 a1 a2 r5 (law01_LevelProves_L3 a0 a1 a2 r5 n_) t10_1 c1_0_3
theorem law01_LevelProves_L3_s {a0 : Survey} {a1 : Int} {a2 : Int} {r5 : (List Rat) × Int} {m_ : Nat} {t10_1 : Int} {c1_0_3 : Int} {res : Bool} (h : law01_LevelProves_L3 a0 a1 a2 r5 m_ t10_1 c1_0_3 = some res) : ∃ k, m_ = k + 1 ∧ law01_LevelProves_B3 a0 a1 a2 r5 (law01_LevelProves_L3 a0 a1 a2 r5 k) t10_1 c1_0_3 = some res := by
  cases m_ with
  | zero => cases h
  | succ k => exact ⟨k, rfl, h⟩
def law01_LevelProves (a0 : Survey) (a1 : Int) (a2 : Int) : Option Bool :=
  bnd (law01_Long a0) fun r6 =>
  if r6 = true then
    bnd (law01_known) fun r7 =>
    some r7
  else
    bnd (level_Best a0) fun r5 =>
    if r5.2 = 0 then
      law01_LevelProves_L3 a0 a1 a2 r5 FU (((0 : Int))) (((1 : Int)))
    else
      bnd (law01_known) fun r8 =>
      some r8
end Go.D1

namespace Go.Open1
open Go.Tb Go.Proofs Go.ChangeShapes Go.WideShapes Go.ChangeAt Go.RowKit Go.Joins Go.D1
theorem own_ : ownKnob Try.prog.godebug = none := by kernel_rfl
theorem laidOut_ : laidOutB Try.prog = true := by kernel_rfl
theorem cells24_ : Try.prog.cellsOf 24 = 2 := by kernel_rfl
theorem cells46_ : Try.prog.cellsOf 46 = 4 := by kernel_rfl
section
variable {H : Type} {enc : TypeId × Value → H} {W : World} {sp : Nat → Bool} {held : Bool} {r : Reach} {b0 base : Nat} {v : Value} {d : DataW H} {p : List MemPlace}
theorem trod_lt_ {t : TypeId} (h : DataW.Trod enc Try.prog W base sp held t v d p) : ∀ x ∈ p, x.block < W.heap.size := by obtain ⟨m, hm⟩ := h; exact DataW.trod_lt m _ _ _ hm
theorem open_readings {fuel : Nat} {c1 : Value} {y : DataW H × List MemPlace} (h : DataW.trod enc Try.prog W base sp held fuel 22 [c1] = some y) : ∃ (l : List Reading) (A : Option Addr) (c : Nat), c1 = .slice A l.length c ∧ Sl W A c 4 (l.map encReading) := by
  rcases open_rows Try.underlying22 Try.underlying46 (by kernel_rfl) cells46_ h with hcs | ⟨a, len, cap, hcs, hl, hm, hi⟩
  · simp at hcs; subst hcs
    exact ⟨[], none, 0, rfl, Sl.nil (by omega)⟩
  · simp at hcs; subst hcs
    obtain ⟨l, hlen, hl2⟩ := ex_list (Q := fun i (x : Reading) => ∀ (j : Nat) (u : Value), (encReading x)[j]? = some u → W.cell? (a.add (i * 4 + j)) = some u) len (fun i hilt => by
      obtain ⟨v0, y0, n0, h0, t0⟩ := hi i hilt 0 _ rfl
      obtain ⟨v1, y1, n1, h1, t1⟩ := hi i hilt 1 _ rfl
      obtain ⟨v2, y2, n2, h2, t2⟩ := hi i hilt 2 _ rfl
      obtain ⟨v3, y3, n3, h3, t3⟩ := hi i hilt 3 _ rfl
      obtain ⟨z0, e0, _, _⟩ := DataW.trod_int Try.underlying3 t0
      obtain ⟨z1, e1, _, _⟩ := DataW.trod_int Try.underlying3 t1
      obtain ⟨z2, e2, _, _⟩ := DataW.trod_int Try.underlying3 t2
      obtain ⟨z3, e3, _, _⟩ := DataW.trod_int Try.underlying3 t3
      simp at e0 e1 e2 e3
      subst e0 e1 e2 e3
      refine ⟨⟨z0, z1, z2, z3⟩, fun j u hu => ?_⟩
      match j, hu with
      | 0, hu => cases hu; exact h0
      | 1, hu => cases hu; exact h1
      | 2, hu => cases hu; exact h2
      | 3, hu => cases hu; exact h3)
    subst hlen
    exact ⟨l, some a, cap, rfl, Sl.mk_ hl hm (fun _ => rfl) rfl hl2⟩
set_option maxRecDepth 100000 in
theorem open_survey (hv : Value.okWide Try.prog W r b0 24 v) (h : DataW.Trod enc Try.prog W base sp held 24 v d p) : ∃ (n : Survey) (A : Option Addr) (cc : Nat), v = .agg #[.int .i64 n.points, .slice A n.readings.length cc] ∧ Sl W A cc 4 (n.readings.map encReading) := by
  obtain ⟨c0, c1, y0, y1, m, rfl, _, _, hy0, hy1⟩ := open_agg2 Try.underlying24 (by kernel_rfl) cells24_ hv h
  obtain ⟨a, e0, _, _⟩ := DataW.trod_int Try.underlying3 hy0
  simp at e0; subst e0
  obtain ⟨l, A, c', rfl, hs⟩ := open_readings hy1
  exact ⟨⟨a, l⟩, A, c', rfl, hs⟩
end
end Go.Open1

set_option linter.unusedVariables false
set_option linter.unusedSimpArgs false
namespace Go.D1
open Go.Tb Go.Proofs Go.RowKit
theorem Tc61 : callable Try.prog 61 = true := by kernel_rfl
theorem Tc93 : callable Try.prog 93 = true := by kernel_rfl
theorem Tf24_0 : tyF Try.prog 24 0 = some 0 := by kernel_rfl
theorem Tf24_1 : tyF Try.prog 24 1 = some 1 := by kernel_rfl
theorem Tf46_0 : tyF Try.prog 46 0 = some 0 := by kernel_rfl
theorem Tf46_1 : tyF Try.prog 46 1 = some 1 := by kernel_rfl
theorem Tf46_2 : tyF Try.prog 46 2 = some 2 := by kernel_rfl
theorem Tf46_3 : tyF Try.prog 46 3 = some 3 := by kernel_rfl
theorem Tk22 : tyK Try.prog 22 = some (false, 1) := by kernel_rfl
theorem Tk3 : tyK Try.prog 3 = some (false, 1) := by kernel_rfl
theorem Tk39 : tyK Try.prog 39 = some (false, 1) := by kernel_rfl
theorem Tk46 : tyK Try.prog 46 = some (true, 4) := by kernel_rfl
theorem mixed : Try.prog.follows .mixedOrders = true := by kernel_rfl
theorem Ts22 : tyS Try.prog 22 = some (46, 4, 32, [.int .i64 0, .int .i64 0, .int .i64 0, .int .i64 0]) := by kernel_rfl
theorem Ts39 : tyS Try.prog 39 = some (3, 1, 8, [.int .i64 0]) := by kernel_rfl
theorem Tz39 : tyZ Try.prog 39 = some (.slice none 0 0) := by kernel_rfl
theorem Tz46 : tyZ Try.prog 46 = some (.agg #[.int .i64 0, .int .i64 0, .int .i64 0, .int .i64 0]) := by kernel_rfl
set_option maxRecDepth 20000 in
set_option maxHeartbeats 1000000 in
theorem level_within_ok {a0 : Int} {a1 : Int} {a2 : Int} {w : World} {res : Bool} (F : level_within a0 a1 a2 = some res) : Calls Try.prog 61 #[.int .i64 a0, .int .i64 a1, .int .i64 a2] w (Rt w (.bool res)) := by
  refine calls_of_cw (args := [.int .i64 a0, .int .i64 a1, .int .i64 a2]) Try.func61 rfl rfl rfl rfl ?_
  have H := Hp.start w
  have R0 := H.ext
  unfold level_within at F
  refine CW.seq fun K1 hK1 => ?_
  refine CW.region ?_
  refine LW.pure rfl rfl (RV.assign rfl) ?_
  refine LW.nil (hK1 _ _ ?_)
  refine CW.seq fun K2 hK2 => ?_
  by_cases hp1 : a1 ≤ a0
  ·
    replace F := ite_y hp1 F
    have hq1 := dec_t hp1
    refine CW.region ?_
    refine LW.pure rfl rfl (RV.move rfl) ?_
    refine LW.pure rfl rfl (RV.move rfl) ?_
    refine LW.pure rfl rfl (RV.geq rfl rfl) ?_
    refine LW.pure rfl rfl (RV.move rfl) ?_
    refine LW.pureYB rfl rfl rfl rfl hq1 (RV.move rfl) ?_
    refine LW.pureYB rfl rfl rfl rfl hq1 (RV.move rfl) ?_
    refine LW.pureYB rfl rfl rfl rfl hq1 (RV.leq rfl rfl) ?_
    refine LW.pure rfl rfl (RV.pickTB rfl hq1 rfl) ?_
    refine LW.pure rfl rfl (RV.assign rfl) ?_
    refine LW.nil (hK2 _ _ ?_)
    refine CW.ret ?_
    obtain rfl := Option.some.inj F
    refine ⟨_, (ResOK.one rfl), ?_⟩
    refine ⟨(by first | rfl | simp), R0⟩
  ·
    replace F := ite_n hp1 F
    have hq1 := dec_f hp1
    refine CW.region ?_
    refine LW.pure rfl rfl (RV.move rfl) ?_
    refine LW.pure rfl rfl (RV.move rfl) ?_
    refine LW.pure rfl rfl (RV.geq rfl rfl) ?_
    refine LW.pure rfl rfl (RV.move rfl) ?_
    refine LW.noB rfl rfl rfl rfl (ne_beq (v := false) hq1 rfl) ?_
    refine LW.noB rfl rfl rfl rfl (ne_beq (v := false) hq1 rfl) ?_
    refine LW.noB rfl rfl rfl rfl (ne_beq (v := false) hq1 rfl) ?_
    refine LW.pure rfl rfl (RV.pickFB rfl hq1 rfl) ?_
    refine LW.pure rfl rfl (RV.assign rfl) ?_
    refine LW.nil (hK2 _ _ ?_)
    refine CW.ret ?_
    obtain rfl := Option.some.inj F
    refine ⟨_, (ResOK.one rfl), ?_⟩
    refine ⟨(by first | rfl | simp), R0⟩
set_option maxRecDepth 20000 in
set_option maxHeartbeats 1000000 in
theorem level_Validate_ok {a0 : Survey} {A_a0_readings : Option Addr} {c_a0_readings : Nat} {w : World} {res : Int} (h_a0_readings : Sl w A_a0_readings c_a0_readings 4 (a0.readings.map encReading)) (F : level_Validate a0 = some res) : Calls Try.prog 25 #[.agg #[.int .i64 a0.points, .slice A_a0_readings a0.readings.length c_a0_readings]] w (Rt w (.int .i64 res)) := by
  refine calls_of_cw (args := [.agg #[.int .i64 a0.points, .slice A_a0_readings a0.readings.length c_a0_readings]]) Try.func25 rfl rfl rfl rfl ?_
  have H := Hp.start w
  have R0 := H.ext
  unfold level_Validate at F
  refine CW.seq fun K1 hK1 => ?_
  refine CW.region ?_
  refine LW.go rfl rfl (OW.box rfl fun b1 w1 N1 => ?_)
  replace H := H.new N1 N1.blk
  replace R0 := H.ext
  refine LW.pure rfl rfl (RV.assign rfl) ?_
  refine LW.nil (hK1 _ _ ?_)
  refine CW.seq fun K2 hK2 => ?_
  refine CW.seq fun K3 hK3 => ?_
  obtain ⟨r5, hr5, F⟩ := bnd_some F
  refine CW.region ?_
  refine LW.pure rfl rfl (RV.fieldAddr Tf24_0 rfl) ?_
  refine LW.pure rfl rfl (RV.load1 Tk3 rfl ((H.blk 0 rfl).cells.off 0) rfl) ?_
  refine LW.go rfl rfl (OW.call Tc61 rfl (level_within_ok (a0 := a0.points) (a1 := (1 : Int)) (a2 := (5 : Int)) hr5) ?_)
  rintro _ w2 ⟨rfl, E1⟩
  refine ⟨_, rfl, ?_⟩
  replace H := H.grow E1
  replace R0 := H.ext
  refine LW.pure rfl rfl (RV.not rfl) ?_
  refine LW.nil (hK3 _ _ ?_)
  by_cases hp1 : r5 = true
  ·
    replace F := ite_y hp1 F
    have hq1 : r5 = true := hp1
    refine CW.condF rfl (not_f hq1) ?_
    refine CW.skip (hK2 _ _ ?_)
    refine CW.seq fun K4 hK4 => ?_
    refine CW.seq fun K5 hK5 => ?_
    refine CW.region ?_
    refine LW.pure rfl rfl (RV.fieldAddr Tf24_1 rfl) ?_
    refine LW.pure rfl rfl (RV.load1 Tk22 rfl ((H.blk 0 rfl).cells.off 1) rfl) ?_
    refine LW.pure rfl rfl (RV.len Ts22 rfl) ?_
    refine LW.pure rfl rfl (RV.gtr rfl rfl) ?_
    refine LW.nil (hK5 _ _ ?_)
    by_cases hp2 : (8 : Int) < ((a0.readings.length : Int))
    ·
      replace F := ite_y hp2 F
      have hq2 := dec_t hp2
      refine CW.condT rfl hq2 ?_
      refine CW.seq fun K6 hK6 => ?_
      refine CW.region ?_
      refine LW.pure rfl rfl (RV.assign rfl) ?_
      refine LW.nil (hK6 _ _ ?_)
      refine CW.ret ?_
      obtain rfl := Option.some.inj F
      refine ⟨_, (ResOK.one rfl), ?_⟩
      refine ⟨(by first | rfl | simp), R0⟩
    ·
      replace F := ite_n hp2 F
      have hq2 := dec_f hp2
      refine CW.condF rfl hq2 ?_
      refine CW.skip (hK4 _ _ ?_)
      refine CW.seqJ (fun ρ wl1 => (level_Validate_k1 = some res ∧ ρ = [(2, .int .i64 0)] ∧ Hp w wl1 [])) ?_ ?_
      ·
        rintro _ wl1 ⟨F, rfl, H⟩
        have R0 := H.ext
        unfold level_Validate_k1 at F
        refine CW.seq fun K7 hK7 => ?_
        refine CW.region ?_
        refine LW.pure rfl rfl (RV.assign rfl) ?_
        refine LW.nil (hK7 _ _ ?_)
        refine CW.ret ?_
        obtain rfl := Option.some.inj F
        refine ⟨_, (ResOK.one rfl), ?_⟩
        refine ⟨(by first | rfl | simp), R0⟩
      ·
        intro K8 hK8 jK74
        refine CW.seq fun K9 hK9 => ?_
        refine CW.region ?_
        refine LW.pure rfl rfl (RV.fieldAddr Tf24_1 rfl) ?_
        refine LW.pure rfl rfl (RV.load1 Tk22 rfl ((H.blk 0 rfl).cells.off 1) rfl) ?_
        refine LW.pure rfl rfl (RV.len Ts22 rfl) ?_
        refine LW.pure rfl rfl (RV.move rfl) ?_
        refine LW.nil (hK9 _ _ ?_)
        refine CW.block ?_
        refine CW.loop (fun meas ρ wl2 => ∃ (t16_1 : Int), level_Validate_L1 a0 meas t16_1 = some res ∧ ρ = [(1, .pointer (some (⟨b1, 0, none⟩))), (2, .int .i64 0), (14, .slice A_a0_readings a0.readings.length c_a0_readings), (15, .int .i64 ((a0.readings.length : Int))), (16, .int .i64 t16_1)] ∧ Hp w wl2 [.blk b1 24 [.int .i64 a0.points, .slice A_a0_readings a0.readings.length c_a0_readings]]) FU ⟨_, ?_, ((0 : Int)), F, rfl, H⟩ ?_
        · exact ⟨rfl, rfl, rfl, rfl, rfl, trivial⟩
        rintro mk1 _ wl2 ⟨t16_1, F, rfl, H⟩
        have R0 := H.ext
        replace F := level_Validate_L1_s F
        obtain ⟨mk1, rfl, F⟩ := F
        generalize hrec1 : level_Validate_L1 a0 mk1 = rec1 at F
        unfold level_Validate_B1 at F
        refine CW.seq fun K10 hK10 => ?_
        refine CW.region ?_
        refine LW.pure rfl rfl (RV.lss rfl rfl) ?_
        refine LW.nil (hK10 _ _ ?_)
        refine CW.seq fun K11 hK11 => ?_
        by_cases hp3 : t16_1 < ((a0.readings.length : Int))
        ·
          replace F := ite_y hp3 F
          have hq3 := dec_t hp3
          refine CW.condT rfl hq3 ?_
          refine CW.skip (hK11 _ _ ?_)
          refine CW.seq fun K12 hK12 => ?_
          refine CW.block ?_
          refine CW.seq fun K13 hK13 => ?_
          obtain ⟨x1, hbx1, hx1, F⟩ := ix_some F
          refine CW.region ?_
          refine LW.pure rfl rfl (RV.indexAddr Ts22 rfl rfl hbx1 (h_a0_readings.addr_ hx1)) ?_
          refine LW.pure rfl rfl (RV.loadA [.int .i64 x1.from_, .int .i64 x1.to_, .int .i64 x1.rise, .int .i64 x1.weight] Tk46 rfl ((h_a0_readings.at_ hx1).ext R0) rfl rfl) ?_
          refine LW.go rfl rfl (OW.alloc Tz46 fun b2 w3 N2 => ?_)
          replace H := H.new N2 N2.blk
          replace R0 := H.ext
          refine LW.go rfl rfl (OW.store Tk46 rfl rfl (H.blk 0 rfl) (off := 0) (vs := [.int .i64 x1.from_, .int .i64 x1.to_, .int .i64 x1.rise, .int .i64 x1.weight]) rfl rfl rfl rfl rfl fun w4 S1 => ?_)
          replace H : Hp w w4 [.blk b2 46 [.int .i64 x1.from_, .int .i64 x1.to_, .int .i64 x1.rise, .int .i64 x1.weight], .blk b1 24 [.int .i64 a0.points, .slice A_a0_readings a0.readings.length c_a0_readings]] := H.stored 0 rfl S1
          replace R0 := H.ext
          refine LW.nil (hK13 _ _ ?_)
          refine CW.seqJ (fun ρ wl3 => (∃ (t54_1 : Bool), level_Validate_k2 t16_1 rec1 t54_1 = some res ∧ ρ = [(1, .pointer (some (⟨b1, 0, none⟩))), (2, .int .i64 0), (14, .slice A_a0_readings a0.readings.length c_a0_readings), (15, .int .i64 ((a0.readings.length : Int))), (16, .int .i64 t16_1), (54, .bool t54_1)] ∧ Hp w wl3 [.blk b1 24 [.int .i64 a0.points, .slice A_a0_readings a0.readings.length c_a0_readings]])) ?_ ?_
          ·
            rintro _ wl3 ⟨t54_1, F, rfl, H⟩
            have R0 := H.ext
            unfold level_Validate_k2 at F
            by_cases hp4 : t54_1 = true
            ·
              replace F := ite_y hp4 F
              have hq4 : t54_1 = true := hp4
              refine CW.condT rfl hq4 ?_
              refine CW.seq fun K14 hK14 => ?_
              refine CW.region ?_
              refine LW.pure rfl rfl (RV.assign rfl) ?_
              refine LW.nil (hK14 _ _ ?_)
              refine CW.ret ?_
              obtain rfl := Option.some.inj F
              refine ⟨_, (ResOK.one rfl), ?_⟩
              refine ⟨(by first | rfl | simp), R0⟩
            ·
              replace F := ite_n hp4 F
              have hq4 : t54_1 = false := raw_f hp4
              refine CW.condF rfl hq4 ?_
              refine CW.skip (hK12 _ _ ?_)
              obtain ⟨hg1, F⟩ := gd_some F
              refine CW.region ?_
              refine LW.pure rfl rfl (RV.add rfl rfl hg1) ?_
              refine LW.pure rfl rfl (RV.move rfl) ?_
              refine LW.nil ?_
              subst hrec1
              refine ⟨mk1, Nat.lt_succ_self _, _, ?_, (t16_1 + 1), F, rfl, H⟩
              exact ⟨rfl, rfl, rfl, rfl, rfl, trivial⟩
          ·
            intro K15 hK15 jK93
            obtain ⟨hg2, F⟩ := gd_some F
            obtain ⟨r1, hr1, F⟩ := bnd_some F
            by_cases hp5 : r1 = true
            ·
              replace F := ite_y hp5 F
              have hq5 : r1 = true := hp5
              obtain ⟨hg3, F⟩ := gd_some F
              obtain ⟨r2, hr2, F⟩ := bnd_some F
              by_cases hp6 : r2 = true
              ·
                replace F := ite_y hp6 F
                have hq6 : r2 = true := hp6
                by_cases hp7 : x1.from_ = x1.to_
                ·
                  replace F := ite_y hp7 F
                  have hq7 := dec_t hp7
                  refine CW.region ?_
                  refine LW.pure rfl rfl (RV.fieldAddr Tf46_0 rfl) ?_
                  refine LW.pure rfl rfl (RV.load1 Tk3 rfl ((H.blk 0 rfl).cells.off 0) rfl) ?_
                  refine LW.pure rfl rfl (RV.fieldAddr Tf24_0 rfl) ?_
                  refine LW.pure rfl rfl (RV.load1 Tk3 rfl ((H.blk 1 rfl).cells.off 0) rfl) ?_
                  refine LW.pure rfl rfl (RV.sub rfl rfl hg2) ?_
                  refine LW.go rfl rfl (OW.call Tc61 rfl (level_within_ok (a0 := x1.from_) (a1 := (0 : Int)) (a2 := a0.points - 1) hr1) ?_)
                  rintro _ w5 ⟨rfl, E2⟩
                  refine ⟨_, rfl, ?_⟩
                  replace H := H.grow E2
                  replace R0 := H.ext
                  refine LW.pure rfl rfl (RV.not rfl) ?_
                  refine LW.pure rfl rfl (RV.move rfl) ?_
                  refine LW.pureYB rfl rfl rfl rfl (not_f hq5) (RV.fieldAddr Tf46_1 rfl) ?_
                  refine LW.pureYB rfl rfl rfl rfl (not_f hq5) (RV.load1 Tk3 rfl ((H.blk 0 rfl).cells.off 1) rfl) ?_
                  refine LW.pureYB rfl rfl rfl rfl (not_f hq5) (RV.fieldAddr Tf24_0 rfl) ?_
                  refine LW.pureYB rfl rfl rfl rfl (not_f hq5) (RV.load1 Tk3 rfl ((H.blk 1 rfl).cells.off 0) rfl) ?_
                  refine LW.pureYB rfl rfl rfl rfl (not_f hq5) (RV.sub rfl rfl hg3) ?_
                  refine LW.yesB rfl rfl rfl rfl (not_f hq5) (OW.call Tc61 rfl (level_within_ok (a0 := x1.to_) (a1 := (0 : Int)) (a2 := a0.points - 1) hr2) ?_)
                  rintro _ w6 ⟨rfl, E3⟩
                  refine ⟨_, rfl, ?_⟩
                  replace H := H.grow E3
                  replace R0 := H.ext
                  refine LW.pureYB rfl rfl rfl rfl (not_f hq5) (RV.not rfl) ?_
                  refine LW.pure rfl rfl (RV.pickFB rfl (not_f hq5) rfl) ?_
                  refine LW.pure rfl rfl (RV.move rfl) ?_
                  refine LW.pureYB rfl rfl rfl rfl (not_f hq6) (RV.fieldAddr Tf46_0 rfl) ?_
                  refine LW.pureYB rfl rfl rfl rfl (not_f hq6) (RV.load1 Tk3 rfl ((H.blk 0 rfl).cells.off 0) rfl) ?_
                  refine LW.pureYB rfl rfl rfl rfl (not_f hq6) (RV.fieldAddr Tf46_1 rfl) ?_
                  refine LW.pureYB rfl rfl rfl rfl (not_f hq6) (RV.load1 Tk3 rfl ((H.blk 0 rfl).cells.off 1) rfl) ?_
                  refine LW.pureYB rfl rfl rfl rfl (not_f hq6) (RV.eqi rfl rfl) ?_
                  refine LW.pure rfl rfl (RV.pickFB rfl (not_f hq6) rfl) ?_
                  refine LW.pure rfl rfl (RV.move rfl) ?_
                  refine LW.noB rfl rfl rfl rfl (ne_beq (v := true) hq7 rfl) ?_
                  refine LW.noB rfl rfl rfl rfl (ne_beq (v := true) hq7 rfl) ?_
                  refine LW.noB rfl rfl rfl rfl (ne_beq (v := true) hq7 rfl) ?_
                  refine LW.noB rfl rfl rfl rfl (ne_beq (v := true) hq7 rfl) ?_
                  refine LW.pure rfl rfl (RV.pickTB rfl hq7 rfl) ?_
                  refine LW.pure rfl rfl (RV.move rfl) ?_
                  refine LW.noB rfl rfl rfl rfl (ne_beq (v := true) rfl rfl) ?_
                  refine LW.noB rfl rfl rfl rfl (ne_beq (v := true) rfl rfl) ?_
                  refine LW.noB rfl rfl rfl rfl (ne_beq (v := true) rfl rfl) ?_
                  refine LW.noB rfl rfl rfl rfl (ne_beq (v := true) rfl rfl) ?_
                  refine LW.pure rfl rfl (RV.pickTB rfl rfl rfl) ?_
                  replace H := H.pick (L' := [.blk b1 24 [.int .i64 a0.points, .slice A_a0_readings a0.readings.length c_a0_readings]]) [1] (by decide) rfl
                  replace R0 := H.ext
                  refine LW.nil (jK93 _ _ ⟨_, ?_, ⟨true, F, rfl, H⟩⟩)
                  exact ⟨rfl, rfl, rfl, rfl, rfl, rfl, trivial⟩
                ·
                  replace F := ite_n hp7 F
                  have hq7 := dec_f hp7
                  obtain ⟨r3, hr3, F⟩ := bnd_some F
                  by_cases hp8 : r3 = true
                  ·
                    replace F := ite_y hp8 F
                    have hq8 : r3 = true := hp8
                    obtain ⟨r4, hr4, F⟩ := bnd_some F
                    refine CW.region ?_
                    refine LW.pure rfl rfl (RV.fieldAddr Tf46_0 rfl) ?_
                    refine LW.pure rfl rfl (RV.load1 Tk3 rfl ((H.blk 0 rfl).cells.off 0) rfl) ?_
                    refine LW.pure rfl rfl (RV.fieldAddr Tf24_0 rfl) ?_
                    refine LW.pure rfl rfl (RV.load1 Tk3 rfl ((H.blk 1 rfl).cells.off 0) rfl) ?_
                    refine LW.pure rfl rfl (RV.sub rfl rfl hg2) ?_
                    refine LW.go rfl rfl (OW.call Tc61 rfl (level_within_ok (a0 := x1.from_) (a1 := (0 : Int)) (a2 := a0.points - 1) hr1) ?_)
                    rintro _ w7 ⟨rfl, E4⟩
                    refine ⟨_, rfl, ?_⟩
                    replace H := H.grow E4
                    replace R0 := H.ext
                    refine LW.pure rfl rfl (RV.not rfl) ?_
                    refine LW.pure rfl rfl (RV.move rfl) ?_
                    refine LW.pureYB rfl rfl rfl rfl (not_f hq5) (RV.fieldAddr Tf46_1 rfl) ?_
                    refine LW.pureYB rfl rfl rfl rfl (not_f hq5) (RV.load1 Tk3 rfl ((H.blk 0 rfl).cells.off 1) rfl) ?_
                    refine LW.pureYB rfl rfl rfl rfl (not_f hq5) (RV.fieldAddr Tf24_0 rfl) ?_
                    refine LW.pureYB rfl rfl rfl rfl (not_f hq5) (RV.load1 Tk3 rfl ((H.blk 1 rfl).cells.off 0) rfl) ?_
                    refine LW.pureYB rfl rfl rfl rfl (not_f hq5) (RV.sub rfl rfl hg3) ?_
                    refine LW.yesB rfl rfl rfl rfl (not_f hq5) (OW.call Tc61 rfl (level_within_ok (a0 := x1.to_) (a1 := (0 : Int)) (a2 := a0.points - 1) hr2) ?_)
                    rintro _ w8 ⟨rfl, E5⟩
                    refine ⟨_, rfl, ?_⟩
                    replace H := H.grow E5
                    replace R0 := H.ext
                    refine LW.pureYB rfl rfl rfl rfl (not_f hq5) (RV.not rfl) ?_
                    refine LW.pure rfl rfl (RV.pickFB rfl (not_f hq5) rfl) ?_
                    refine LW.pure rfl rfl (RV.move rfl) ?_
                    refine LW.pureYB rfl rfl rfl rfl (not_f hq6) (RV.fieldAddr Tf46_0 rfl) ?_
                    refine LW.pureYB rfl rfl rfl rfl (not_f hq6) (RV.load1 Tk3 rfl ((H.blk 0 rfl).cells.off 0) rfl) ?_
                    refine LW.pureYB rfl rfl rfl rfl (not_f hq6) (RV.fieldAddr Tf46_1 rfl) ?_
                    refine LW.pureYB rfl rfl rfl rfl (not_f hq6) (RV.load1 Tk3 rfl ((H.blk 0 rfl).cells.off 1) rfl) ?_
                    refine LW.pureYB rfl rfl rfl rfl (not_f hq6) (RV.eqi rfl rfl) ?_
                    refine LW.pure rfl rfl (RV.pickFB rfl (not_f hq6) rfl) ?_
                    refine LW.pure rfl rfl (RV.move rfl) ?_
                    refine LW.pureYB rfl rfl rfl rfl hq7 (RV.fieldAddr Tf46_2 rfl) ?_
                    refine LW.pureYB rfl rfl rfl rfl hq7 (RV.load1 Tk3 rfl ((H.blk 0 rfl).cells.off 2) rfl) ?_
                    refine LW.yesB rfl rfl rfl rfl hq7 (OW.call Tc61 rfl (level_within_ok (a0 := x1.rise) (a1 := (-1000 : Int)) (a2 := (1000 : Int)) hr3) ?_)
                    rintro _ w9 ⟨rfl, E6⟩
                    refine ⟨_, rfl, ?_⟩
                    replace H := H.grow E6
                    replace R0 := H.ext
                    refine LW.pureYB rfl rfl rfl rfl hq7 (RV.not rfl) ?_
                    refine LW.pure rfl rfl (RV.pickFB rfl hq7 rfl) ?_
                    refine LW.pure rfl rfl (RV.move rfl) ?_
                    refine LW.pureYB rfl rfl rfl rfl (not_f hq8) (RV.fieldAddr Tf46_3 rfl) ?_
                    refine LW.pureYB rfl rfl rfl rfl (not_f hq8) (RV.load1 Tk3 rfl ((H.blk 0 rfl).cells.off 3) rfl) ?_
                    refine LW.yesB rfl rfl rfl rfl (not_f hq8) (OW.call Tc61 rfl (level_within_ok (a0 := x1.weight) (a1 := (1 : Int)) (a2 := (3 : Int)) hr4) ?_)
                    rintro _ w10 ⟨rfl, E7⟩
                    refine ⟨_, rfl, ?_⟩
                    replace H := H.grow E7
                    replace R0 := H.ext
                    refine LW.pureYB rfl rfl rfl rfl (not_f hq8) (RV.not rfl) ?_
                    refine LW.pure rfl rfl (RV.pickFB rfl (not_f hq8) rfl) ?_
                    replace H := H.pick (L' := [.blk b1 24 [.int .i64 a0.points, .slice A_a0_readings a0.readings.length c_a0_readings]]) [1] (by decide) rfl
                    replace R0 := H.ext
                    refine LW.nil (jK93 _ _ ⟨_, ?_, ⟨(!r4), F, rfl, H⟩⟩)
                    exact ⟨rfl, rfl, rfl, rfl, rfl, rfl, trivial⟩
                  ·
                    replace F := ite_n hp8 F
                    have hq8 : r3 = false := raw_f hp8
                    refine CW.region ?_
                    refine LW.pure rfl rfl (RV.fieldAddr Tf46_0 rfl) ?_
                    refine LW.pure rfl rfl (RV.load1 Tk3 rfl ((H.blk 0 rfl).cells.off 0) rfl) ?_
                    refine LW.pure rfl rfl (RV.fieldAddr Tf24_0 rfl) ?_
                    refine LW.pure rfl rfl (RV.load1 Tk3 rfl ((H.blk 1 rfl).cells.off 0) rfl) ?_
                    refine LW.pure rfl rfl (RV.sub rfl rfl hg2) ?_
                    refine LW.go rfl rfl (OW.call Tc61 rfl (level_within_ok (a0 := x1.from_) (a1 := (0 : Int)) (a2 := a0.points - 1) hr1) ?_)
                    rintro _ w11 ⟨rfl, E8⟩
                    refine ⟨_, rfl, ?_⟩
                    replace H := H.grow E8
                    replace R0 := H.ext
                    refine LW.pure rfl rfl (RV.not rfl) ?_
                    refine LW.pure rfl rfl (RV.move rfl) ?_
                    refine LW.pureYB rfl rfl rfl rfl (not_f hq5) (RV.fieldAddr Tf46_1 rfl) ?_
                    refine LW.pureYB rfl rfl rfl rfl (not_f hq5) (RV.load1 Tk3 rfl ((H.blk 0 rfl).cells.off 1) rfl) ?_
                    refine LW.pureYB rfl rfl rfl rfl (not_f hq5) (RV.fieldAddr Tf24_0 rfl) ?_
                    refine LW.pureYB rfl rfl rfl rfl (not_f hq5) (RV.load1 Tk3 rfl ((H.blk 1 rfl).cells.off 0) rfl) ?_
                    refine LW.pureYB rfl rfl rfl rfl (not_f hq5) (RV.sub rfl rfl hg3) ?_
                    refine LW.yesB rfl rfl rfl rfl (not_f hq5) (OW.call Tc61 rfl (level_within_ok (a0 := x1.to_) (a1 := (0 : Int)) (a2 := a0.points - 1) hr2) ?_)
                    rintro _ w12 ⟨rfl, E9⟩
                    refine ⟨_, rfl, ?_⟩
                    replace H := H.grow E9
                    replace R0 := H.ext
                    refine LW.pureYB rfl rfl rfl rfl (not_f hq5) (RV.not rfl) ?_
                    refine LW.pure rfl rfl (RV.pickFB rfl (not_f hq5) rfl) ?_
                    refine LW.pure rfl rfl (RV.move rfl) ?_
                    refine LW.pureYB rfl rfl rfl rfl (not_f hq6) (RV.fieldAddr Tf46_0 rfl) ?_
                    refine LW.pureYB rfl rfl rfl rfl (not_f hq6) (RV.load1 Tk3 rfl ((H.blk 0 rfl).cells.off 0) rfl) ?_
                    refine LW.pureYB rfl rfl rfl rfl (not_f hq6) (RV.fieldAddr Tf46_1 rfl) ?_
                    refine LW.pureYB rfl rfl rfl rfl (not_f hq6) (RV.load1 Tk3 rfl ((H.blk 0 rfl).cells.off 1) rfl) ?_
                    refine LW.pureYB rfl rfl rfl rfl (not_f hq6) (RV.eqi rfl rfl) ?_
                    refine LW.pure rfl rfl (RV.pickFB rfl (not_f hq6) rfl) ?_
                    refine LW.pure rfl rfl (RV.move rfl) ?_
                    refine LW.pureYB rfl rfl rfl rfl hq7 (RV.fieldAddr Tf46_2 rfl) ?_
                    refine LW.pureYB rfl rfl rfl rfl hq7 (RV.load1 Tk3 rfl ((H.blk 0 rfl).cells.off 2) rfl) ?_
                    refine LW.yesB rfl rfl rfl rfl hq7 (OW.call Tc61 rfl (level_within_ok (a0 := x1.rise) (a1 := (-1000 : Int)) (a2 := (1000 : Int)) hr3) ?_)
                    rintro _ w13 ⟨rfl, E10⟩
                    refine ⟨_, rfl, ?_⟩
                    replace H := H.grow E10
                    replace R0 := H.ext
                    refine LW.pureYB rfl rfl rfl rfl hq7 (RV.not rfl) ?_
                    refine LW.pure rfl rfl (RV.pickFB rfl hq7 rfl) ?_
                    refine LW.pure rfl rfl (RV.move rfl) ?_
                    refine LW.noB rfl rfl rfl rfl (ne_beq (v := true) (not_t hq8) rfl) ?_
                    refine LW.noB rfl rfl rfl rfl (ne_beq (v := true) (not_t hq8) rfl) ?_
                    refine LW.noB rfl rfl rfl rfl (ne_beq (v := true) (not_t hq8) rfl) ?_
                    refine LW.noB rfl rfl rfl rfl (ne_beq (v := true) (not_t hq8) rfl) ?_
                    refine LW.pure rfl rfl (RV.pickTB rfl (not_t hq8) rfl) ?_
                    replace H := H.pick (L' := [.blk b1 24 [.int .i64 a0.points, .slice A_a0_readings a0.readings.length c_a0_readings]]) [1] (by decide) rfl
                    replace R0 := H.ext
                    refine LW.nil (jK93 _ _ ⟨_, ?_, ⟨true, F, rfl, H⟩⟩)
                    exact ⟨rfl, rfl, rfl, rfl, rfl, rfl, trivial⟩
              ·
                replace F := ite_n hp6 F
                have hq6 : r2 = false := raw_f hp6
                refine CW.region ?_
                refine LW.pure rfl rfl (RV.fieldAddr Tf46_0 rfl) ?_
                refine LW.pure rfl rfl (RV.load1 Tk3 rfl ((H.blk 0 rfl).cells.off 0) rfl) ?_
                refine LW.pure rfl rfl (RV.fieldAddr Tf24_0 rfl) ?_
                refine LW.pure rfl rfl (RV.load1 Tk3 rfl ((H.blk 1 rfl).cells.off 0) rfl) ?_
                refine LW.pure rfl rfl (RV.sub rfl rfl hg2) ?_
                refine LW.go rfl rfl (OW.call Tc61 rfl (level_within_ok (a0 := x1.from_) (a1 := (0 : Int)) (a2 := a0.points - 1) hr1) ?_)
                rintro _ w14 ⟨rfl, E11⟩
                refine ⟨_, rfl, ?_⟩
                replace H := H.grow E11
                replace R0 := H.ext
                refine LW.pure rfl rfl (RV.not rfl) ?_
                refine LW.pure rfl rfl (RV.move rfl) ?_
                refine LW.pureYB rfl rfl rfl rfl (not_f hq5) (RV.fieldAddr Tf46_1 rfl) ?_
                refine LW.pureYB rfl rfl rfl rfl (not_f hq5) (RV.load1 Tk3 rfl ((H.blk 0 rfl).cells.off 1) rfl) ?_
                refine LW.pureYB rfl rfl rfl rfl (not_f hq5) (RV.fieldAddr Tf24_0 rfl) ?_
                refine LW.pureYB rfl rfl rfl rfl (not_f hq5) (RV.load1 Tk3 rfl ((H.blk 1 rfl).cells.off 0) rfl) ?_
                refine LW.pureYB rfl rfl rfl rfl (not_f hq5) (RV.sub rfl rfl hg3) ?_
                refine LW.yesB rfl rfl rfl rfl (not_f hq5) (OW.call Tc61 rfl (level_within_ok (a0 := x1.to_) (a1 := (0 : Int)) (a2 := a0.points - 1) hr2) ?_)
                rintro _ w15 ⟨rfl, E12⟩
                refine ⟨_, rfl, ?_⟩
                replace H := H.grow E12
                replace R0 := H.ext
                refine LW.pureYB rfl rfl rfl rfl (not_f hq5) (RV.not rfl) ?_
                refine LW.pure rfl rfl (RV.pickFB rfl (not_f hq5) rfl) ?_
                refine LW.pure rfl rfl (RV.move rfl) ?_
                refine LW.noB rfl rfl rfl rfl (ne_beq (v := true) (not_t hq6) rfl) ?_
                refine LW.noB rfl rfl rfl rfl (ne_beq (v := true) (not_t hq6) rfl) ?_
                refine LW.noB rfl rfl rfl rfl (ne_beq (v := true) (not_t hq6) rfl) ?_
                refine LW.noB rfl rfl rfl rfl (ne_beq (v := true) (not_t hq6) rfl) ?_
                refine LW.noB rfl rfl rfl rfl (ne_beq (v := true) (not_t hq6) rfl) ?_
                refine LW.pure rfl rfl (RV.pickTB rfl (not_t hq6) rfl) ?_
                refine LW.pure rfl rfl (RV.move rfl) ?_
                refine LW.noB rfl rfl rfl rfl (ne_beq (v := true) rfl rfl) ?_
                refine LW.noB rfl rfl rfl rfl (ne_beq (v := true) rfl rfl) ?_
                refine LW.noB rfl rfl rfl rfl (ne_beq (v := true) rfl rfl) ?_
                refine LW.noB rfl rfl rfl rfl (ne_beq (v := true) rfl rfl) ?_
                refine LW.pure rfl rfl (RV.pickTB rfl rfl rfl) ?_
                refine LW.pure rfl rfl (RV.move rfl) ?_
                refine LW.noB rfl rfl rfl rfl (ne_beq (v := true) rfl rfl) ?_
                refine LW.noB rfl rfl rfl rfl (ne_beq (v := true) rfl rfl) ?_
                refine LW.noB rfl rfl rfl rfl (ne_beq (v := true) rfl rfl) ?_
                refine LW.noB rfl rfl rfl rfl (ne_beq (v := true) rfl rfl) ?_
                refine LW.pure rfl rfl (RV.pickTB rfl rfl rfl) ?_
                replace H := H.pick (L' := [.blk b1 24 [.int .i64 a0.points, .slice A_a0_readings a0.readings.length c_a0_readings]]) [1] (by decide) rfl
                replace R0 := H.ext
                refine LW.nil (jK93 _ _ ⟨_, ?_, ⟨true, F, rfl, H⟩⟩)
                exact ⟨rfl, rfl, rfl, rfl, rfl, rfl, trivial⟩
            ·
              replace F := ite_n hp5 F
              have hq5 : r1 = false := raw_f hp5
              refine CW.region ?_
              refine LW.pure rfl rfl (RV.fieldAddr Tf46_0 rfl) ?_
              refine LW.pure rfl rfl (RV.load1 Tk3 rfl ((H.blk 0 rfl).cells.off 0) rfl) ?_
              refine LW.pure rfl rfl (RV.fieldAddr Tf24_0 rfl) ?_
              refine LW.pure rfl rfl (RV.load1 Tk3 rfl ((H.blk 1 rfl).cells.off 0) rfl) ?_
              refine LW.pure rfl rfl (RV.sub rfl rfl hg2) ?_
              refine LW.go rfl rfl (OW.call Tc61 rfl (level_within_ok (a0 := x1.from_) (a1 := (0 : Int)) (a2 := a0.points - 1) hr1) ?_)
              rintro _ w16 ⟨rfl, E13⟩
              refine ⟨_, rfl, ?_⟩
              replace H := H.grow E13
              replace R0 := H.ext
              refine LW.pure rfl rfl (RV.not rfl) ?_
              refine LW.pure rfl rfl (RV.move rfl) ?_
              refine LW.noB rfl rfl rfl rfl (ne_beq (v := true) (not_t hq5) rfl) ?_
              refine LW.noB rfl rfl rfl rfl (ne_beq (v := true) (not_t hq5) rfl) ?_
              refine LW.noB rfl rfl rfl rfl (ne_beq (v := true) (not_t hq5) rfl) ?_
              refine LW.noB rfl rfl rfl rfl (ne_beq (v := true) (not_t hq5) rfl) ?_
              refine LW.noB rfl rfl rfl rfl (ne_beq (v := true) (not_t hq5) rfl) ?_
              refine LW.noB rfl rfl rfl rfl (ne_beq (v := true) (not_t hq5) rfl) ?_
              refine LW.noB rfl rfl rfl rfl (ne_beq (v := true) (not_t hq5) rfl) ?_
              refine LW.pure rfl rfl (RV.pickTB rfl (not_t hq5) rfl) ?_
              refine LW.pure rfl rfl (RV.move rfl) ?_
              refine LW.noB rfl rfl rfl rfl (ne_beq (v := true) rfl rfl) ?_
              refine LW.noB rfl rfl rfl rfl (ne_beq (v := true) rfl rfl) ?_
              refine LW.noB rfl rfl rfl rfl (ne_beq (v := true) rfl rfl) ?_
              refine LW.noB rfl rfl rfl rfl (ne_beq (v := true) rfl rfl) ?_
              refine LW.noB rfl rfl rfl rfl (ne_beq (v := true) rfl rfl) ?_
              refine LW.pure rfl rfl (RV.pickTB rfl rfl rfl) ?_
              refine LW.pure rfl rfl (RV.move rfl) ?_
              refine LW.noB rfl rfl rfl rfl (ne_beq (v := true) rfl rfl) ?_
              refine LW.noB rfl rfl rfl rfl (ne_beq (v := true) rfl rfl) ?_
              refine LW.noB rfl rfl rfl rfl (ne_beq (v := true) rfl rfl) ?_
              refine LW.noB rfl rfl rfl rfl (ne_beq (v := true) rfl rfl) ?_
              refine LW.pure rfl rfl (RV.pickTB rfl rfl rfl) ?_
              refine LW.pure rfl rfl (RV.move rfl) ?_
              refine LW.noB rfl rfl rfl rfl (ne_beq (v := true) rfl rfl) ?_
              refine LW.noB rfl rfl rfl rfl (ne_beq (v := true) rfl rfl) ?_
              refine LW.noB rfl rfl rfl rfl (ne_beq (v := true) rfl rfl) ?_
              refine LW.noB rfl rfl rfl rfl (ne_beq (v := true) rfl rfl) ?_
              refine LW.pure rfl rfl (RV.pickTB rfl rfl rfl) ?_
              replace H := H.pick (L' := [.blk b1 24 [.int .i64 a0.points, .slice A_a0_readings a0.readings.length c_a0_readings]]) [1] (by decide) rfl
              replace R0 := H.ext
              refine LW.nil (jK93 _ _ ⟨_, ?_, ⟨true, F, rfl, H⟩⟩)
              exact ⟨rfl, rfl, rfl, rfl, rfl, rfl, trivial⟩
        ·
          replace F := ite_n hp3 F
          have hq3 := dec_f hp3
          refine CW.condF rfl hq3 ?_
          replace H := H.pick (L' := []) [] (by decide) rfl
          replace R0 := H.ext
          refine CW.exit (jK74 _ _ ⟨_, ?_, ⟨F, rfl, H⟩⟩)
          exact ⟨rfl, trivial⟩
  ·
    replace F := ite_n hp1 F
    have hq1 : r5 = false := raw_f hp1
    refine CW.condT rfl (not_t hq1) ?_
    refine CW.seq fun K16 hK16 => ?_
    refine CW.region ?_
    refine LW.pure rfl rfl (RV.assign rfl) ?_
    refine LW.nil (hK16 _ _ ?_)
    refine CW.ret ?_
    obtain rfl := Option.some.inj F
    refine ⟨_, (ResOK.one rfl), ?_⟩
    refine ⟨(by first | rfl | simp), R0⟩
set_option maxRecDepth 20000 in
set_option maxHeartbeats 1000000 in
theorem level_forest_1_ok {cap0 : List Int} {a0 : Int} {a1 : Int} {A_cap0 : Option Addr} {c_cap0 : Nat} {b_cap0 : Nat} {wb : World} {R : List Ck} {w : World} {res : Bool × (List Int)} (H : Hp wb w ([.own A_cap0 c_cap0 3 1 (List.map encN cap0), .blk b_cap0 39 [.slice A_cap0 cap0.length c_cap0]] ++ R)) (F : level_forest_1 cap0 a0 a1 = some res) : Calls Try.prog 93 #[.int .i64 a0, .int .i64 a1, .pointer (some (⟨b_cap0, 0, none⟩))] w (fun e w' => e = .returned (.bool res.1) ∧ res.2.length = cap0.length ∧ Hp wb w' ([.own A_cap0 c_cap0 3 1 (List.map encN res.2), .blk b_cap0 39 [.slice A_cap0 cap0.length c_cap0]] ++ R)) := by
  refine calls_of_cw (args := [.int .i64 a0, .int .i64 a1, .pointer (some (⟨b_cap0, 0, none⟩))]) Try.func93 rfl rfl rfl rfl ?_
  have R0 := H.ext
  unfold level_forest_1 at F
  refine CW.seq fun K1 hK1 => ?_
  refine CW.region ?_
  refine LW.pure rfl rfl (RV.assign rfl) ?_
  refine LW.nil (hK1 _ _ ?_)
  refine CW.seq fun K2 hK2 => ?_
  obtain ⟨x1, hbx1, hx1, F⟩ := ix_some F
  obtain ⟨x2, hbx2, hx2, F⟩ := ix_some F
  obtain ⟨x3, hbx3, hx3, F⟩ := ix_some F
  obtain ⟨x4, hbx4, hx4, F⟩ := ix_some F
  refine CW.draw [] (fun _ => True) (.cons 0 1 (.cons 1 1 (.cons 2 1 (.cons 3 1 (.cons 4 1 (.cons 5 1 (.cons 6 1 (.cons 7 1 (.cons 8 1 (.cons 9 1 (.cons 10 1 (.cons 11 1 (.cons 12 1 (.cons 13 1 (.cons 14 1 (.cons 15 1 (.cons 16 1 (.cons 17 1 (.cons 18 1 (.cons 19 1 .nil)))))))))))))))))))) mixed (by kernel_rfl) fun w1 E1 => ?_
  replace H := H.grow E1
  replace R0 := H.ext
  refine DW.fix rfl rfl rfl (fun _ EQ => RV.load1 Tk39 rfl ((H.grow EQ).blk 1 rfl).cells rfl) ?_
  refine DW.fix rfl rfl rfl (fun _ EQ => RV.move rfl) ?_
  refine DW.fix rfl rfl rfl (fun _ EQ => RV.indexAddr Ts39 rfl rfl hbx1 ((H.own 0 rfl).sl.addr_ hx1)) ?_
  refine DW.fix rfl rfl rfl (fun _ EQ => RV.load1 Tk3 rfl (((H.grow EQ).own 0 rfl).sl.at_ hx1) rfl) ?_
  refine DW.fix rfl rfl rfl (fun _ EQ => RV.load1 Tk39 rfl ((H.grow EQ).blk 1 rfl).cells rfl) ?_
  refine DW.fix rfl rfl rfl (fun _ EQ => RV.move rfl) ?_
  refine DW.fix rfl rfl rfl (fun _ EQ => RV.indexAddr Ts39 rfl rfl hbx2 ((H.own 0 rfl).sl.addr_ hx2)) ?_
  refine DW.fix rfl rfl rfl (fun _ EQ => RV.load1 Tk3 rfl (((H.grow EQ).own 0 rfl).sl.at_ hx2) rfl) ?_
  refine DW.fix rfl rfl rfl (fun _ EQ => RV.min2 rfl rfl) ?_
  refine DW.fix rfl rfl rfl (fun _ EQ => RV.load1 Tk39 rfl ((H.grow EQ).blk 1 rfl).cells rfl) ?_
  refine DW.fix rfl rfl rfl (fun _ EQ => RV.move rfl) ?_
  refine DW.fix rfl rfl rfl (fun _ EQ => RV.indexAddr Ts39 rfl rfl hbx3 ((H.own 0 rfl).sl.addr_ hx3)) ?_
  refine DW.fix rfl rfl rfl (fun _ EQ => RV.load1 Tk3 rfl (((H.grow EQ).own 0 rfl).sl.at_ hx3) rfl) ?_
  refine DW.fix rfl rfl rfl (fun _ EQ => RV.load1 Tk39 rfl ((H.grow EQ).blk 1 rfl).cells rfl) ?_
  refine DW.fix rfl rfl rfl (fun _ EQ => RV.move rfl) ?_
  refine DW.fix rfl rfl rfl (fun _ EQ => RV.indexAddr Ts39 rfl rfl hbx4 ((H.own 0 rfl).sl.addr_ hx4)) ?_
  refine DW.fix rfl rfl rfl (fun _ EQ => RV.load1 Tk3 rfl (((H.grow EQ).own 0 rfl).sl.at_ hx4) rfl) ?_
  refine DW.fix rfl rfl rfl (fun _ EQ => RV.max2 rfl rfl) ?_
  refine DW.fix rfl rfl rfl (fun _ EQ => RV.assign rfl) ?_
  refine DW.fix rfl rfl rfl (fun _ EQ => RV.assign rfl) ?_
  refine DW.nil (hK2 _ _ ?_)
  refine CW.seqJ (fun ρ wl1 => (∃ (l1 : List Int), level_forest_1_k1 x1 x2 x3 x4 l1 = some res ∧ ρ = [(5, .bool false), (6, .int .i64 (min x1 x2)), (7, .int .i64 (max x3 x4))] ∧ Hp wb wl1 ([.own A_cap0 c_cap0 3 1 (List.map encN l1), .blk b_cap0 39 [.slice A_cap0 l1.length c_cap0]] ++ R) ∧ l1.length = cap0.length)) ?_ ?_
  ·
    rintro _ wl1 ⟨l1, F, rfl, H, hl1⟩
    have R0 := H.ext
    unfold level_forest_1_k1 at F
    refine CW.seq fun K3 hK3 => ?_
    refine CW.region ?_
    refine LW.pure rfl rfl (RV.move rfl) ?_
    refine LW.pure rfl rfl (RV.move rfl) ?_
    refine LW.pure rfl rfl (RV.nei rfl rfl) ?_
    refine LW.pure rfl rfl (RV.assign rfl) ?_
    refine LW.nil (hK3 _ _ ?_)
    refine CW.ret ?_
    obtain rfl := Option.some.inj F
    refine ⟨_, (ResOK.one rfl), ?_⟩
    have hce1 : l1.length = cap0.length := by first | omega | (simp; done) | (simp; omega) | rfl | assumption
    replace H := H.cast (L' := ([.own A_cap0 c_cap0 3 1 (List.map encN l1), .blk b_cap0 39 [.slice A_cap0 cap0.length c_cap0]] ++ R)) (by first | (rw [hce1]; done) | simp [hce1] | rfl)
    exact ⟨(by first | rfl | (simp; done) | (simp; omega)), (by first | rfl | assumption | omega | (simp; done) | (simp; assumption) | (simp; omega)), H⟩
  ·
    intro K4 hK4 jK74
    refine CW.seq fun K5 hK5 => ?_
    refine CW.region ?_
    refine LW.pure rfl rfl (RV.load1 Tk39 rfl (H.blk 1 rfl).cells rfl) ?_
    refine LW.pure rfl rfl (RV.len Ts39 rfl) ?_
    refine LW.pure rfl rfl (RV.move rfl) ?_
    refine LW.nil (hK5 _ _ ?_)
    refine CW.block ?_
    refine CW.loop (fun meas ρ wl2 => ∃ (t29_1 : Int) (l3 : List Int), level_forest_1_L1 cap0 x1 x2 x3 x4 meas t29_1 l3 = some res ∧ ρ = [(2, .pointer (some (⟨b_cap0, 0, none⟩))), (5, .bool false), (6, .int .i64 (min x1 x2)), (7, .int .i64 (max x3 x4)), (28, .int .i64 ((cap0.length : Int))), (29, .int .i64 t29_1)] ∧ Hp wb wl2 ([.own A_cap0 c_cap0 3 1 (List.map encN l3), .blk b_cap0 39 [.slice A_cap0 l3.length c_cap0]] ++ R) ∧ l3.length = cap0.length) FU ⟨_, ?_, ((0 : Int)), cap0, F, rfl, H, (show cap0.length = cap0.length by first | rfl | assumption | omega | (simp; done) | (simp; assumption) | (simp; omega))⟩ ?_
    · exact ⟨rfl, rfl, rfl, rfl, rfl, rfl, trivial⟩
    rintro mk1 _ wl2 ⟨t29_1, l3, F, rfl, H, hl2⟩
    have R0 := H.ext
    replace F := level_forest_1_L1_s F
    obtain ⟨mk1, rfl, F⟩ := F
    generalize hrec1 : level_forest_1_L1 cap0 x1 x2 x3 x4 mk1 = rec1 at F
    unfold level_forest_1_B1 at F
    refine CW.seq fun K6 hK6 => ?_
    refine CW.region ?_
    refine LW.pure rfl rfl (RV.lss rfl rfl) ?_
    refine LW.nil (hK6 _ _ ?_)
    refine CW.seq fun K7 hK7 => ?_
    by_cases hp1 : t29_1 < ((cap0.length : Int))
    ·
      replace F := ite_y hp1 F
      have hq1 := dec_t hp1
      refine CW.condT rfl hq1 ?_
      refine CW.skip (hK7 _ _ ?_)
      refine CW.seqJ (fun ρ wl3 => (∃ (l2 : List Int), level_forest_1_k2 t29_1 rec1 l2 = some res ∧ ρ = [(2, .pointer (some (⟨b_cap0, 0, none⟩))), (5, .bool false), (6, .int .i64 (min x1 x2)), (7, .int .i64 (max x3 x4)), (28, .int .i64 ((cap0.length : Int))), (29, .int .i64 t29_1)] ∧ Hp wb wl3 ([.own A_cap0 c_cap0 3 1 (List.map encN l2), .blk b_cap0 39 [.slice A_cap0 l2.length c_cap0]] ++ R) ∧ l2.length = cap0.length)) ?_ ?_
      ·
        rintro _ wl3 ⟨l2, F, rfl, H, hl3⟩
        have R0 := H.ext
        unfold level_forest_1_k2 at F
        obtain ⟨hg1, F⟩ := gd_some F
        refine CW.region ?_
        refine LW.pure rfl rfl (RV.add rfl rfl hg1) ?_
        refine LW.pure rfl rfl (RV.move rfl) ?_
        refine LW.nil ?_
        subst hrec1
        refine ⟨mk1, Nat.lt_succ_self _, _, ?_, (t29_1 + 1), l2, F, rfl, H, (show l2.length = cap0.length by first | rfl | assumption | omega | (simp; done) | (simp; assumption) | (simp; omega))⟩
        exact ⟨rfl, rfl, rfl, rfl, rfl, rfl, trivial⟩
      ·
        intro K8 hK8 jK94
        refine CW.block ?_
        refine CW.seq fun K9 hK9 => ?_
        refine CW.region ?_
        refine LW.pure rfl rfl (RV.move rfl) ?_
        refine LW.pure rfl rfl (RV.assign rfl) ?_
        refine LW.nil (hK9 _ _ ?_)
        refine CW.seq fun K10 hK10 => ?_
        obtain ⟨x5, hbx5, hx5, F⟩ := ix_some F
        refine CW.region ?_
        refine LW.pure rfl rfl (RV.load1 Tk39 rfl (H.blk 1 rfl).cells rfl) ?_
        refine LW.pure rfl rfl (RV.move rfl) ?_
        refine LW.pure rfl rfl (RV.indexAddr Ts39 rfl rfl hbx5 ((H.own 0 rfl).sl.addr_ hx5)) ?_
        refine LW.pure rfl rfl (RV.load1 Tk3 rfl ((H.own 0 rfl).sl.at_ hx5) rfl) ?_
        refine LW.pure rfl rfl (RV.move rfl) ?_
        refine LW.pure rfl rfl (RV.eqi rfl rfl) ?_
        refine LW.nil (hK10 _ _ ?_)
        by_cases hp2 : x5 = (max x3 x4)
        ·
          replace F := ite_y hp2 F
          have hq2 := dec_t hp2
          refine CW.condT rfl hq2 ?_
          obtain ⟨x6, hbx6, hx6, F⟩ := ix_some F
          refine CW.region ?_
          refine LW.pure rfl rfl (RV.load1 Tk39 rfl (H.blk 1 rfl).cells rfl) ?_
          refine LW.pure rfl rfl (RV.move rfl) ?_
          refine LW.pure rfl rfl (RV.move rfl) ?_
          refine LW.pure rfl rfl (RV.indexAddr Ts39 rfl rfl hbx6 ((H.own 0 rfl).sl.addr_ hx6)) ?_
          refine LW.go rfl rfl (OW.storeO (enc := encN) (vs := [.int .i64 (min x1 x2)]) 0 (min x1 x2) Tk3 rfl rfl (H.own 0 rfl) (fun _ => rfl) rfl hx6 rfl rfl (by decide) rfl rfl fun w2 M1 O1 => ?_)
          replace H : Hp wb w2 ([.own A_cap0 c_cap0 3 1 (List.map encN ((l3.set (Int.toNat t29_1) (min x1 x2)))), .blk b_cap0 39 [.slice A_cap0 l3.length c_cap0]] ++ R) := H.mod 0 rfl M1 O1 (.inl rfl)
          replace R0 := H.ext
          have hce2 : l3.length = ((l3.set (Int.toNat t29_1) (min x1 x2))).length := by first | omega | (simp; done) | (simp; omega) | rfl | assumption
          replace H := H.cast (L' := ([.own A_cap0 c_cap0 3 1 (List.map encN ((l3.set (Int.toNat t29_1) (min x1 x2)))), .blk b_cap0 39 [.slice A_cap0 (((l3.set (Int.toNat t29_1) (min x1 x2))).length) c_cap0]] ++ R)) (by first | (rw [hce2]; done) | simp [hce2] | rfl)
          refine LW.nil (jK94 _ _ ⟨_, ?_, ⟨((l3.set (Int.toNat t29_1) (min x1 x2))), F, rfl, H, (show ((l3.set (Int.toNat t29_1) (min x1 x2))).length = cap0.length by first | rfl | assumption | omega | (simp; done) | (simp; assumption) | (simp; omega))⟩⟩)
          exact ⟨rfl, rfl, rfl, rfl, rfl, rfl, trivial⟩
        ·
          replace F := ite_n hp2 F
          have hq2 := dec_f hp2
          refine CW.condF rfl hq2 ?_
          refine CW.skip (jK94 _ _ ⟨_, ?_, ⟨l3, F, rfl, H, (show l3.length = cap0.length by first | rfl | assumption | omega | (simp; done) | (simp; assumption) | (simp; omega))⟩⟩)
          exact ⟨rfl, rfl, rfl, rfl, rfl, rfl, trivial⟩
    ·
      replace F := ite_n hp1 F
      have hq1 := dec_f hp1
      refine CW.condF rfl hq1 ?_
      refine CW.exit (jK74 _ _ ⟨_, ?_, ⟨l3, F, rfl, H, (show l3.length = cap0.length by first | rfl | assumption | omega | (simp; done) | (simp; assumption) | (simp; omega))⟩⟩)
      exact ⟨rfl, rfl, rfl, trivial⟩
set_option maxRecDepth 20000 in
set_option maxHeartbeats 1000000 in
theorem level_forest_ok {a0 : Survey} {A_a0_readings : Option Addr} {c_a0_readings : Nat} {w : World} {res : (List Int) × (List Int)} (h_a0_readings : Sl w A_a0_readings c_a0_readings 4 (a0.readings.map encReading)) (F : level_forest a0 = some res) : Calls Try.prog 62 #[.agg #[.int .i64 a0.points, .slice A_a0_readings a0.readings.length c_a0_readings]] w (fun e w' => ∃ (A1 : Option Addr) (c1 : Nat) (A2 : Option Addr) (c2 : Nat), e = .returned (.tuple #[.slice A1 res.1.length c1, .slice A2 res.2.length c2]) ∧ Hp w w' [.own A1 c1 3 1 (List.map encN res.1), .own A2 c2 3 1 (List.map encN res.2)]) := by
  refine calls_of_cw (args := [.agg #[.int .i64 a0.points, .slice A_a0_readings a0.readings.length c_a0_readings]]) Try.func62 rfl rfl rfl rfl ?_
  have H := Hp.start w
  have R0 := H.ext
  unfold level_forest at F
  refine CW.seq fun K1 hK1 => ?_
  refine CW.region ?_
  refine LW.go rfl rfl (OW.box rfl fun b1 w1 N1 => ?_)
  replace H := H.new N1 N1.blk
  replace R0 := H.ext
  refine LW.go rfl rfl (OW.alloc Tz39 fun b2 w2 N2 => ?_)
  replace H := H.new N2 N2.blk
  replace R0 := H.ext
  refine LW.pure rfl rfl (RV.assign rfl) ?_
  refine LW.nil (hK1 _ _ ?_)
  refine CW.seqJ (fun ρ wl1 => (∃ (l7 : List Int) (Al7 : Option Addr) (cl7 : Nat), level_forest_k3 a0 l7 = some res ∧ ρ = [(1, .pointer (some (⟨b1, 0, none⟩))), (2, .pointer (some (⟨b2, 0, none⟩))), (3, .slice none 0 0)] ∧ Hp w wl1 [.own Al7 cl7 3 1 (List.map encN l7), .blk b1 24 [.int .i64 a0.points, .slice A_a0_readings a0.readings.length c_a0_readings], .blk b2 39 [.slice Al7 l7.length cl7]])) ?_ ?_
  ·
    rintro _ wl1 ⟨l7, Al7, cl7, F, rfl, H⟩
    have R0 := H.ext
    unfold level_forest_k3 at F
    refine CW.seq fun K2 hK2 => ?_
    refine CW.region ?_
    refine LW.pure rfl rfl (RV.makeFunc (fs := []) (cs := [.pointer (some (⟨b2, 0, none⟩))]) rfl rfl) ?_
    refine LW.pure rfl rfl (RV.assign rfl) ?_
    refine LW.nil (hK2 _ _ ?_)
    refine CW.seqJ (fun ρ wl2 => (∃ (l1 : List Int) (l2 : List Int) (Al1 : Option Addr) (cl1 : Nat), level_forest_k1 l1 l2 = some res ∧ ρ = [(2, .pointer (some (⟨b2, 0, none⟩))), (3, .slice Al1 l1.length cl1)] ∧ Hp w wl2 [.own Al1 cl1 3 1 (List.map encN l1), .own Al7 cl7 3 1 (List.map encN l2), .blk b2 39 [.slice Al7 l2.length cl7]])) ?_ ?_
    ·
      rintro _ wl2 ⟨l1, l2, Al1, cl1, F, rfl, H⟩
      have R0 := H.ext
      unfold level_forest_k1 at F
      refine CW.seq fun K3 hK3 => ?_
      refine CW.region ?_
      refine LW.pure rfl rfl (RV.load1 Tk39 rfl (H.blk 2 rfl).cells rfl) ?_
      refine LW.pure rfl rfl (RV.move rfl) ?_
      refine LW.go rfl rfl (OW.store Tk39 rfl rfl (H.blk 2 rfl) (off := 0) (vs := [.slice Al7 l2.length cl7]) rfl rfl rfl rfl rfl fun w3 S1 => ?_)
      replace H : Hp w w3 [.own Al1 cl1 3 1 (List.map encN l1), .own Al7 cl7 3 1 (List.map encN l2), .blk b2 39 [.slice Al7 l2.length cl7]] := H.stored 2 rfl S1
      replace R0 := H.ext
      refine LW.pure rfl rfl (RV.assign rfl) ?_
      refine LW.nil (hK3 _ _ ?_)
      refine CW.ret ?_
      obtain rfl := Option.some.inj F
      refine ⟨_, (ResOK.two ⟨_, rfl, run_loadVar_cell Tk39 ((H.blk 2 rfl).cells 0 _ rfl)⟩ rfl), ?_⟩
      replace H := H.pick (L' := [.own Al7 cl7 3 1 (List.map encN l2), .own Al1 cl1 3 1 (List.map encN l1)]) [1, 0] (by decide) rfl
      replace R0 := H.ext
      exact ⟨Al7, cl7, Al1, cl1, (by first | rfl | (simp; done) | (simp; omega)), H⟩
    ·
      intro K4 hK4 jK114
      refine CW.seq fun K5 hK5 => ?_
      refine CW.region ?_
      refine LW.pure rfl rfl (RV.fieldAddr Tf24_1 rfl) ?_
      refine LW.pure rfl rfl (RV.load1 Tk22 rfl ((H.blk 1 rfl).cells.off 1) rfl) ?_
      refine LW.pure rfl rfl (RV.len Ts22 rfl) ?_
      refine LW.pure rfl rfl (RV.move rfl) ?_
      refine LW.nil (hK5 _ _ ?_)
      refine CW.block ?_
      replace H := H.nilOwn 3 1
      replace R0 := H.ext
      replace H := H.pick (L' := [.own none 0 3 1 (List.map encN (([] : List Int))), .own Al7 cl7 3 1 (List.map encN l7), .blk b2 39 [.slice Al7 l7.length cl7]]) [0, 1, 3] (by decide) rfl
      replace R0 := H.ext
      refine CW.loop (fun meas ρ wl3 => ∃ (t22_1 : Int) (l5 : List Int) (l6 : List Int) (Al5 : Option Addr) (cl5 : Nat), level_forest_L1 a0 meas t22_1 l5 l6 = some res ∧ ρ = [(2, .pointer (some (⟨b2, 0, none⟩))), (3, .slice Al5 l5.length cl5), (5, .func (.func 93) #[] #[.pointer (some (⟨b2, 0, none⟩))]), (20, .slice A_a0_readings a0.readings.length c_a0_readings), (21, .int .i64 ((a0.readings.length : Int))), (22, .int .i64 t22_1)] ∧ Hp w wl3 [.own Al5 cl5 3 1 (List.map encN l5), .own Al7 cl7 3 1 (List.map encN l6), .blk b2 39 [.slice Al7 l6.length cl7]]) FU ⟨_, ?_, ((0 : Int)), (([] : List Int)), l7, none, 0, F, rfl, H⟩ ?_
      · exact ⟨rfl, (look_slice rfl (by first | rfl | (simp; done) | omega | (simp; omega))), rfl, rfl, rfl, rfl, trivial⟩
      rintro mk1 _ wl3 ⟨t22_1, l5, l6, Al5, cl5, F, rfl, H⟩
      have R0 := H.ext
      replace F := level_forest_L1_s F
      obtain ⟨mk1, rfl, F⟩ := F
      generalize hrec1 : level_forest_L1 a0 mk1 = rec1 at F
      unfold level_forest_B1 at F
      refine CW.seq fun K6 hK6 => ?_
      refine CW.region ?_
      refine LW.pure rfl rfl (RV.lss rfl rfl) ?_
      refine LW.nil (hK6 _ _ ?_)
      refine CW.seq fun K7 hK7 => ?_
      by_cases hp1 : t22_1 < ((a0.readings.length : Int))
      ·
        replace F := ite_y hp1 F
        have hq1 := dec_t hp1
        refine CW.condT rfl hq1 ?_
        refine CW.skip (hK7 _ _ ?_)
        refine CW.seqJ (fun ρ wl4 => (∃ (l3 : List Int) (l4 : List Int) (Al3 : Option Addr) (cl3 : Nat), level_forest_k2 t22_1 rec1 l3 l4 = some res ∧ ρ = [(2, .pointer (some (⟨b2, 0, none⟩))), (3, .slice Al3 l3.length cl3), (5, .func (.func 93) #[] #[.pointer (some (⟨b2, 0, none⟩))]), (20, .slice A_a0_readings a0.readings.length c_a0_readings), (21, .int .i64 ((a0.readings.length : Int))), (22, .int .i64 t22_1)] ∧ Hp w wl4 [.own Al3 cl3 3 1 (List.map encN l3), .own Al7 cl7 3 1 (List.map encN l4), .blk b2 39 [.slice Al7 l4.length cl7]])) ?_ ?_
        ·
          rintro _ wl4 ⟨l3, l4, Al3, cl3, F, rfl, H⟩
          have R0 := H.ext
          unfold level_forest_k2 at F
          obtain ⟨hg1, F⟩ := gd_some F
          refine CW.region ?_
          refine LW.pure rfl rfl (RV.add rfl rfl hg1) ?_
          refine LW.pure rfl rfl (RV.move rfl) ?_
          refine LW.nil ?_
          subst hrec1
          refine ⟨mk1, Nat.lt_succ_self _, _, ?_, (t22_1 + 1), l3, l4, Al3, cl3, F, rfl, H⟩
          exact ⟨rfl, (look_slice rfl (by first | rfl | (simp; done) | omega | (simp; omega))), rfl, rfl, rfl, rfl, trivial⟩
        ·
          intro K8 hK8 jK134
          refine CW.block ?_
          refine CW.seq fun K9 hK9 => ?_
          obtain ⟨x1, hbx1, hx1, F⟩ := ix_some F
          refine CW.region ?_
          refine LW.pure rfl rfl (RV.move rfl) ?_
          refine LW.pure rfl rfl (RV.indexAddr Ts22 rfl rfl hbx1 (h_a0_readings.addr_ hx1)) ?_
          refine LW.pure rfl rfl (RV.loadA [.int .i64 x1.from_, .int .i64 x1.to_, .int .i64 x1.rise, .int .i64 x1.weight] Tk46 rfl ((h_a0_readings.at_ hx1).ext R0) rfl rfl) ?_
          refine LW.go rfl rfl (OW.alloc Tz46 fun b3 w4 N3 => ?_)
          replace H := H.new N3 N3.blk
          replace R0 := H.ext
          refine LW.pure rfl rfl (RV.assign rfl) ?_
          refine LW.go rfl rfl (OW.store Tk46 rfl rfl (H.blk 0 rfl) (off := 0) (vs := [.int .i64 x1.from_, .int .i64 x1.to_, .int .i64 x1.rise, .int .i64 x1.weight]) rfl rfl rfl rfl rfl fun w5 S2 => ?_)
          replace H : Hp w w5 [.blk b3 46 [.int .i64 x1.from_, .int .i64 x1.to_, .int .i64 x1.rise, .int .i64 x1.weight], .own Al5 cl5 3 1 (List.map encN l5), .own Al7 cl7 3 1 (List.map encN l6), .blk b2 39 [.slice Al7 l6.length cl7]] := H.stored 0 rfl S2
          replace R0 := H.ext
          refine LW.nil (hK9 _ _ ?_)
          refine CW.seq fun K10 hK10 => ?_
          obtain ⟨r1, hr1, F⟩ := bnd_some F
          refine CW.region ?_
          refine LW.pure rfl rfl (RV.move rfl) ?_
          refine LW.pure rfl rfl (RV.fieldAddr Tf46_0 rfl) ?_
          refine LW.pure rfl rfl (RV.load1 Tk3 rfl ((H.blk 0 rfl).cells.off 0) rfl) ?_
          refine LW.pure rfl rfl (RV.fieldAddr Tf46_1 rfl) ?_
          refine LW.pure rfl rfl (RV.load1 Tk3 rfl ((H.blk 0 rfl).cells.off 1) rfl) ?_
          replace H := H.pick (L' := [.own Al7 cl7 3 1 (List.map encN l6), .blk b2 39 [.slice Al7 l6.length cl7], .blk b3 46 [.int .i64 x1.from_, .int .i64 x1.to_, .int .i64 x1.rise, .int .i64 x1.weight], .own Al5 cl5 3 1 (List.map encN l5)]) [2, 3, 0, 1] (by decide) rfl
          replace R0 := H.ext
          refine LW.go rfl rfl (OW.callV2 rfl rfl rfl (CallsV.cap Tc93 (by simp) (level_forest_1_ok (cap0 := l6) (a0 := x1.from_) (a1 := x1.to_) (R := [.blk b3 46 [.int .i64 x1.from_, .int .i64 x1.to_, .int .i64 x1.rise, .int .i64 x1.weight], .own Al5 cl5 3 1 (List.map encN l5)]) H hr1)) ?_)
          rintro _ w6 ⟨rfl, hlm25_cap0, Hq1⟩
          refine ⟨_, rfl, ?_⟩
          replace H : Hp w w6 [.own Al7 cl7 3 1 (List.map encN r1.2), .blk b2 39 [.slice Al7 l6.length cl7], .blk b3 46 [.int .i64 x1.from_, .int .i64 x1.to_, .int .i64 x1.rise, .int .i64 x1.weight], .own Al5 cl5 3 1 (List.map encN l5)] := Hq1
          replace R0 := H.ext
          refine LW.nil (hK10 _ _ ?_)
          by_cases hp2 : r1.1 = true
          ·
            replace F := ite_y hp2 F
            have hq2 : r1.1 = true := hp2
            refine CW.condT rfl hq2 ?_
            obtain ⟨hg2, F⟩ := gd_some F
            refine CW.region ?_
            refine LW.pure rfl rfl (RV.move rfl) ?_
            refine LW.pure rfl rfl (RV.move rfl) ?_
            refine LW.go rfl rfl (OW.buildSlice (e := 3) (vs := [.int .i64 t22_1]) (cs := [.int .i64 t22_1]) rfl (fun _ => by kernel_rfl) fun b4 w7 N4 => ?_)
            replace H := H.made' (k := 1) (t := 3) (enc := encN) (l := ([t22_1] : List Int)) N4 N4.blk (fun _ => rfl) rfl (by first | decide | omega | (simp; done) | (simp; omega))
            replace R0 := H.ext
            refine LW.go rfl rfl (OW.appendG (enc := encN) (l := l5) (xs := ([t22_1] : List Int)) Ts39 rfl (look_slice rfl (by first | rfl | (simp; done) | (simp; omega))) (H.own 4 rfl) (H.own 0 rfl).sl (fun _ => rfl) rfl rfl hg2 (by decide) fun A3 c3 w8 O1 M1 D1 => ?_)
            replace H : Hp w w8 [.own (some ⟨b4, 0, none⟩) ((([t22_1] : List Int)).length) 3 1 (List.map encN (([t22_1] : List Int))), .own Al7 cl7 3 1 (List.map encN r1.2), .blk b2 39 [.slice Al7 l6.length cl7], .blk b3 46 [.int .i64 x1.from_, .int .i64 x1.to_, .int .i64 x1.rise, .int .i64 x1.weight], .own A3 c3 3 1 (List.map encN ((l5 ++ ([t22_1] : List Int))))] := H.mod 4 rfl M1 O1 D1
            replace R0 := H.ext
            refine LW.pure rfl rfl (RV.assign rfl) ?_
            replace H := H.pick (L' := [.own A3 c3 3 1 (List.map encN ((l5 ++ ([t22_1] : List Int)))), .own Al7 cl7 3 1 (List.map encN r1.2), .blk b2 39 [.slice Al7 l6.length cl7]]) [4, 1, 2] (by decide) rfl
            replace R0 := H.ext
            have hce1 : l6.length = r1.2.length := by first | omega | (simp; done) | (simp; omega) | rfl | assumption
            replace H := H.cast (L' := [.own A3 c3 3 1 (List.map encN ((l5 ++ ([t22_1] : List Int)))), .own Al7 cl7 3 1 (List.map encN r1.2), .blk b2 39 [.slice Al7 r1.2.length cl7]]) (by first | (rw [hce1]; done) | simp [hce1] | rfl)
            refine LW.nil (jK134 _ _ ⟨_, ?_, ⟨((l5 ++ ([t22_1] : List Int))), r1.2, A3, c3, F, rfl, H⟩⟩)
            exact ⟨rfl, (look_slice rfl (by first | rfl | (simp; done) | omega | (simp; omega))), rfl, rfl, rfl, rfl, trivial⟩
          ·
            replace F := ite_n hp2 F
            have hq2 : r1.1 = false := raw_f hp2
            refine CW.condF rfl hq2 ?_
            replace H := H.pick (L' := [.own Al5 cl5 3 1 (List.map encN l5), .own Al7 cl7 3 1 (List.map encN r1.2), .blk b2 39 [.slice Al7 l6.length cl7]]) [3, 0, 1] (by decide) rfl
            replace R0 := H.ext
            have hce2 : l6.length = r1.2.length := by first | omega | (simp; done) | (simp; omega) | rfl | assumption
            replace H := H.cast (L' := [.own Al5 cl5 3 1 (List.map encN l5), .own Al7 cl7 3 1 (List.map encN r1.2), .blk b2 39 [.slice Al7 r1.2.length cl7]]) (by first | (rw [hce2]; done) | simp [hce2] | rfl)
            refine CW.skip (jK134 _ _ ⟨_, ?_, ⟨l5, r1.2, Al5, cl5, F, rfl, H⟩⟩)
            exact ⟨rfl, (look_slice rfl (by first | rfl | (simp; done) | omega | (simp; omega))), rfl, rfl, rfl, rfl, trivial⟩
      ·
        replace F := ite_n hp1 F
        have hq1 := dec_f hp1
        refine CW.condF rfl hq1 ?_
        refine CW.exit (jK114 _ _ ⟨_, ?_, ⟨l5, l6, Al5, cl5, F, rfl, H⟩⟩)
        exact ⟨rfl, (look_slice rfl (by first | rfl | (simp; done) | omega | (simp; omega))), trivial⟩
  ·
    intro K11 hK11 jK137
    refine CW.seq fun K12 hK12 => ?_
    refine CW.region ?_
    refine LW.pure rfl rfl (RV.fieldAddr Tf24_0 rfl) ?_
    refine LW.pure rfl rfl (RV.load1 Tk3 rfl ((H.blk 1 rfl).cells.off 0) rfl) ?_
    refine LW.pure rfl rfl (RV.move rfl) ?_
    refine LW.nil (hK12 _ _ ?_)
    refine CW.block ?_
    replace H := H.nilOwn 3 1
    replace R0 := H.ext
    replace H := H.pick (L' := [.own none 0 3 1 (List.map encN (([] : List Int))), .blk b1 24 [.int .i64 a0.points, .slice A_a0_readings a0.readings.length c_a0_readings], .blk b2 39 [.slice none 0 0]]) [0, 2, 1] (by decide) rfl
    replace R0 := H.ext
    have hce3 : 0 = (([] : List Int)).length := by first | omega | (simp; done) | (simp; omega) | rfl | assumption
    replace H := H.cast (L' := [.own none 0 3 1 (List.map encN (([] : List Int))), .blk b1 24 [.int .i64 a0.points, .slice A_a0_readings a0.readings.length c_a0_readings], .blk b2 39 [.slice none ((([] : List Int)).length) 0]]) (by first | (rw [hce3]; done) | simp [hce3] | rfl)
    refine CW.loop (fun meas ρ wl5 => ∃ (t10_1 : Int) (l8 : List Int) (Al8 : Option Addr) (cl8 : Nat), level_forest_L2 a0 meas t10_1 l8 = some res ∧ ρ = [(1, .pointer (some (⟨b1, 0, none⟩))), (2, .pointer (some (⟨b2, 0, none⟩))), (3, .slice none 0 0), (9, .int .i64 a0.points), (10, .int .i64 t10_1)] ∧ Hp w wl5 [.own Al8 cl8 3 1 (List.map encN l8), .blk b1 24 [.int .i64 a0.points, .slice A_a0_readings a0.readings.length c_a0_readings], .blk b2 39 [.slice Al8 l8.length cl8]]) FU ⟨_, ?_, ((0 : Int)), (([] : List Int)), none, 0, F, rfl, H⟩ ?_
    · exact ⟨rfl, rfl, rfl, rfl, rfl, trivial⟩
    rintro mk2 _ wl5 ⟨t10_1, l8, Al8, cl8, F, rfl, H⟩
    have R0 := H.ext
    replace F := level_forest_L2_s F
    obtain ⟨mk2, rfl, F⟩ := F
    generalize hrec2 : level_forest_L2 a0 mk2 = rec2 at F
    unfold level_forest_B2 at F
    refine CW.seq fun K13 hK13 => ?_
    refine CW.region ?_
    refine LW.pure rfl rfl (RV.lss rfl rfl) ?_
    refine LW.nil (hK13 _ _ ?_)
    refine CW.seq fun K14 hK14 => ?_
    by_cases hp3 : t10_1 < a0.points
    ·
      replace F := ite_y hp3 F
      have hq3 := dec_t hp3
      refine CW.condT rfl hq3 ?_
      refine CW.skip (hK14 _ _ ?_)
      refine CW.seq fun K15 hK15 => ?_
      refine CW.block ?_
      refine CW.seq fun K16 hK16 => ?_
      refine CW.region ?_
      refine LW.pure rfl rfl (RV.move rfl) ?_
      refine LW.pure rfl rfl (RV.assign rfl) ?_
      refine LW.nil (hK16 _ _ ?_)
      obtain ⟨hg3, F⟩ := gd_some F
      refine CW.region ?_
      refine LW.pure rfl rfl (RV.load1 Tk39 rfl (H.blk 2 rfl).cells rfl) ?_
      refine LW.pure rfl rfl (RV.move rfl) ?_
      refine LW.go rfl rfl (OW.buildSlice (e := 3) (vs := [.int .i64 t10_1]) (cs := [.int .i64 t10_1]) rfl (fun _ => by kernel_rfl) fun b5 w9 N5 => ?_)
      replace H := H.made' (k := 1) (t := 3) (enc := encN) (l := ([t10_1] : List Int)) N5 N5.blk (fun _ => rfl) rfl (by first | decide | omega | (simp; done) | (simp; omega))
      replace R0 := H.ext
      refine LW.go rfl rfl (OW.appendG (enc := encN) (l := l8) (xs := ([t10_1] : List Int)) Ts39 rfl (look_slice rfl (by first | rfl | (simp; done) | (simp; omega))) (H.own 1 rfl) (H.own 0 rfl).sl (fun _ => rfl) rfl rfl hg3 (by decide) fun A4 c4 w10 O2 M2 D2 => ?_)
      replace H : Hp w w10 [.own (some ⟨b5, 0, none⟩) ((([t10_1] : List Int)).length) 3 1 (List.map encN (([t10_1] : List Int))), .own A4 c4 3 1 (List.map encN ((l8 ++ ([t10_1] : List Int)))), .blk b1 24 [.int .i64 a0.points, .slice A_a0_readings a0.readings.length c_a0_readings], .blk b2 39 [.slice Al8 l8.length cl8]] := H.mod 1 rfl M2 O2 D2
      replace R0 := H.ext
      refine LW.go rfl rfl (OW.store Tk39 rfl rfl (H.blk 3 rfl) (off := 0) (vs := [.slice A4 (((l8 ++ ([t10_1] : List Int))).length) c4]) rfl rfl rfl rfl rfl fun w11 S3 => ?_)
      replace H : Hp w w11 [.own (some ⟨b5, 0, none⟩) ((([t10_1] : List Int)).length) 3 1 (List.map encN (([t10_1] : List Int))), .own A4 c4 3 1 (List.map encN ((l8 ++ ([t10_1] : List Int)))), .blk b1 24 [.int .i64 a0.points, .slice A_a0_readings a0.readings.length c_a0_readings], .blk b2 39 [.slice A4 (((l8 ++ ([t10_1] : List Int))).length) c4]] := H.stored 3 rfl S3
      replace R0 := H.ext
      refine LW.nil (hK15 _ _ ?_)
      obtain ⟨hg4, F⟩ := gd_some F
      refine CW.region ?_
      refine LW.pure rfl rfl (RV.add rfl rfl hg4) ?_
      refine LW.pure rfl rfl (RV.move rfl) ?_
      refine LW.nil ?_
      replace H := H.pick (L' := [.own A4 c4 3 1 (List.map encN ((l8 ++ ([t10_1] : List Int)))), .blk b1 24 [.int .i64 a0.points, .slice A_a0_readings a0.readings.length c_a0_readings], .blk b2 39 [.slice A4 (((l8 ++ ([t10_1] : List Int))).length) c4]]) [1, 2, 3] (by decide) rfl
      replace R0 := H.ext
      subst hrec2
      refine ⟨mk2, Nat.lt_succ_self _, _, ?_, (t10_1 + 1), ((l8 ++ ([t10_1] : List Int))), A4, c4, F, rfl, H⟩
      exact ⟨rfl, rfl, rfl, rfl, rfl, trivial⟩
    ·
      replace F := ite_n hp3 F
      have hq3 := dec_f hp3
      refine CW.condF rfl hq3 ?_
      refine CW.exit (jK137 _ _ ⟨_, ?_, ⟨l8, Al8, cl8, F, rfl, H⟩⟩)
      exact ⟨rfl, rfl, rfl, trivial⟩
end Go.D1
