/- Lemmas and walks that the proof of this claim uses: Tb7. -/
import Derived.Test.YtmjadkjcbaohbaaTb6
set_option linter.unusedVariables false
set_option linter.unusedSimpArgs false
namespace Go.Tb
open Go.RowKit

theorem Stored.modx {X : Nat → Prop} {w w' : World} {b : Nat} {t : TypeId} {cs : List Value} (s : Stored w w' b t cs) (hb : X b) : ModX X w w' :=
  ⟨by rw [s.size]; exact Nat.le_refl _, fun k _ hx => s.other k (fun e => hx (e ▸ hb))⟩
theorem Mod.modx {X : Nat → Prop} {w w' : World} {A : Option Addr} (m : Mod w w' A) (hb : ∀ a, A = some a → X a.block) : ModX X w w' :=
  ⟨m.size, fun k hk hx => m.block k hk (fun e => by
    cases A with
    | none => simp [blkOf] at e
    | some a => simp [blkOf] at e; subst e; exact hx (hb a rfl))⟩

/-! ### slices of slices, to be read -/
def encH {α : Type} (p : (Option Addr × Nat) × List α) : List Value := [.slice p.1.1 p.2.length p.1.2]
structure Sl2 {α : Type} (w : World) (A : Option Addr) (c k : Nat) (enc : α → List Value) (ll : List (List α)) : Prop where
  ex : ∃ hs : List (Option Addr × Nat), hs.length = ll.length ∧ Sl w A c 1 ((hs.zip ll).map encH) ∧ ∀ (j : Nat) (h : Option Addr × Nat) (l : List α), hs[j]? = some h → ll[j]? = some l → Sl w h.1 h.2 k (l.map enc)
section
variable {α : Type} {w w' : World} {A : Option Addr} {c k : Nat} {enc : α → List Value} {ll : List (List α)}
theorem Sl2.ext (h : Sl2 w A c k enc ll) (e : Ext w w') : Sl2 w' A c k enc ll := by
  obtain ⟨hs, h1, h2, h3⟩ := h.ex
  exact ⟨hs, h1, h2.ext e, fun j h l hj hl => (h3 j h l hj hl).ext e⟩
theorem Sl2.at_ (h : Sl2 w A c k enc ll) {j : Nat} {l : List α} (hl : ll[j]? = some l) : ∃ (Aj : Option Addr) (cj : Nat), Cells w (elemPtr A 1 j) [.slice Aj l.length cj] ∧ Sl w Aj cj k (l.map enc) := by
  obtain ⟨hs, h1, h2, h3⟩ := h.ex
  have hlt := lt_of_at hl
  have hh : hs[j]? = some hs[j] := by simp [h1, hlt]
  refine ⟨hs[j].1, hs[j].2, ?_, h3 j _ l hh hl⟩
  exact h2.at_ (enc := encH) (x := (hs[j], l)) (by simp [List.getElem?_zip_eq_some, hh, hl])
theorem Sl2.addr (h : Sl2 w A c k enc ll) {i : Int} (h0 : 0 ≤ i ∧ i < ll.length) : ∃ a, A = some a := by
  obtain ⟨hs, h1, h2, _⟩ := h.ex
  exact h2.addr (i := i) (by simp [h1]; omega)
theorem Sl2.max (h : Sl2 w A c k enc ll) : (ll.length : Int) ≤ 9223372036854775807 := by
  obtain ⟨hs, h1, h2, _⟩ := h.ex
  have := h2.max
  simp [h1] at this
  omega
end

/-! ### a block that holds a list -/
section
variable {α : Type} {w w' : World} {b t k : Nat} {enc : α → List Value} {l : List α}
theorem len_flatMap (hk : ∀ x, (enc x).length = k) : ∀ l : List α, (l.flatMap enc).length = l.length * k
  | [] => by simp
  | x :: r => by simp only [List.flatMap_cons, List.length_append, List.length_cons]; rw [len_flatMap hk r, hk x, Nat.succ_mul]; omega
theorem Blk.own_ (f : Blk w b t (l.flatMap enc)) (hk : ∀ x, (enc x).length = k) (hm : l.length ≤ 9223372036854775807) : Own w (some ⟨b, 0, none⟩) l.length t k (l.map enc) := by
  have := Blk.own (k := k) (rows := l.map enc) f (by rw [List.flatMap_def]) (by intro r hr; obtain ⟨x, _, rfl⟩ := List.mem_map.1 hr; exact hk x) (by simpa using hm)
  simpa using this
theorem Blk.at_ (f : Blk w b t (l.flatMap enc)) (hk : ∀ x, (enc x).length = k) {j : Nat} {x : α} (hj : l[j]? = some x) : Cells w (elemPtr (some ⟨b, 0, none⟩) k j) (enc x) := by
  intro i v hi
  have hf := flatten_row (rows := l.map enc) (k := k) (by intro r hr; obtain ⟨x, _, rfl⟩ := List.mem_map.1 hr; exact hk x) j (enc x) (by simp [hj]) i v hi
  have := f.cells (j * k + i) v (by rw [List.flatMap_def]; exact hf)
  simpa [elemPtr, add_add] using this

theorem flatMap_set (hk : ∀ x, (enc x).length = k) : ∀ (l : List α) (j : Nat) (x y : α), l[j]? = some x → (l.set j y).flatMap enc = over (l.flatMap enc) (j * k) (enc y)
  | [], j, x, y, h => by simp at h
  | a :: r, 0, x, y, h => by
    simp only [List.set_cons_zero, List.flatMap_cons, over, Nat.zero_mul, Nat.zero_add, List.take_zero, List.nil_append]
    congr 1
    rw [hk y, ← hk a, List.drop_left]
  | a :: r, j + 1, x, y, h => by
    have ih := flatMap_set hk r j x y (by simpa using h)
    have e1 : (j + 1) * k = (enc a).length + j * k := by rw [hk a, Nat.succ_mul]; omega
    simp only [List.set_cons_succ, List.flatMap_cons, ih, over]
    rw [e1, List.take_length_add_append, Nat.add_assoc, List.drop_length_add_append]
    simp [List.append_assoc]

theorem over_over (cs : List Value) (o off : Nat) (us vs : List Value) (h1 : off + vs.length ≤ us.length) (hin : o + us.length ≤ cs.length) (heq : (cs.drop o).take us.length = us) : over cs o (over us off vs) = over cs (o + off) vs := by
  have hcs : cs = cs.take o ++ (us ++ cs.drop (o + us.length)) := by
    rw [← heq]
    have hl : ((cs.drop o).take us.length).length = us.length := by simp; omega
    rw [hl, ← List.drop_drop, List.take_append_drop, List.take_append_drop]
  have ho : (cs.take o).length = o := by simp; omega
  have hov : (over us off vs).length = us.length := by simp [over]; omega
  unfold over at *
  rw [hov]
  have e1 : cs.take (o + off) = cs.take o ++ us.take off := by
    conv => lhs; rw [hcs]
    rw [List.take_append, ho, List.take_of_length_le (by rw [ho]; omega)]
    congr 1
    rw [show o + off - o = off by omega, List.take_append_of_le_length (by omega)]
  have e2 : cs.drop (o + off + vs.length) = us.drop (off + vs.length) ++ cs.drop (o + us.length) := by
    conv => lhs; rw [hcs]
    rw [List.drop_append, ho, List.drop_of_length_le (by rw [ho]; omega), List.nil_append]
    rw [show o + off + vs.length - o = off + vs.length by omega, List.drop_append_of_le_length (by omega)]
  rw [e1, e2]
  simp [List.append_assoc]
end

section
variable {P : Program} {n : Nat} {ops : Array Oper} {Q : Exit → Env → World → Prop} {ρ : Env} {w : World}
variable {d : Option Tmp} {ty : TypeId} {pos : String} {after : Array Edge} {g : Option (Nat × Bool)} {K : Value → World → Prop}

/-- A store into an element (or a part of one) of a list that lies in a block. -/
theorem OW.storeE {α : Type} {enc : α → List Value} {l : List α} {t m b k j : Nat} {a : Bool} {t' : TypeId} {x y : Operand} {p : Addr} {v : Value} {vs : List Value} {x0 : α} (off : Nat) (y0 : α) (hT : tyK P t = some (a, m)) (hx : ev ρ x = some (.pointer (some p))) (hy : ev ρ y = some v)
    (f : Blk w b t' (l.flatMap enc)) (hk : ∀ x, (enc x).length = k) (hp : p = (elemPtr (some ⟨b, 0, none⟩) k j).add off) (hj : l[j]? = some x0) (hvs : v.cells.toList = vs) (hl : vs.length = m) (hin : off + m ≤ k) (h1 : vs.all Value.oneCell' = true)
    (henc : enc y0 = over (enc x0) off vs) (kk : ∀ w', Stored w w' b t' ((l.set j y0).flatMap enc) → K undef w') : OW P n Q ⟨d, .store t x y, ty, pos, after, g⟩ ρ w K := by
  have hlt := lt_of_at hj
  have hlen : (l.flatMap enc).length = l.length * k := len_flatMap hk l
  have hjk : j * k + k ≤ l.length * k := by rw [← Nat.succ_mul]; exact Nat.mul_le_mul_right _ hlt
  refine OW.store (off := j * k + off) (vs := vs) hT hx hy f (by rw [hp]; simp only [elemPtr, Option.getD_some, add_add]; unfold Addr.add; split <;> simp_all) hvs hl (Nat.ble_eq_true_of_le (by rw [hlen]; omega)) h1 fun w' s => kk w' ?_
  have e : over (l.flatMap enc) (j * k + off) vs = (l.set j y0).flatMap enc := by
    rw [flatMap_set hk l j x0 y0 hj, henc]
    refine (over_over _ (j * k) off (enc x0) vs (by rw [hl, hk]; exact hin) (by rw [hk, hlen]; omega) ?_).symm
    rw [hk]
    apply List.ext_getElem?
    intro i
    rw [List.getElem?_take]
    by_cases hi : i < k
    · rw [if_pos hi, List.getElem?_drop]
      have hv : (enc x0)[i]? = some ((enc x0)[i]'(by rw [hk]; exact hi)) := by simp [hk, hi]
      have hf := flatten_row (rows := l.map enc) (k := k) (by intro r hr; obtain ⟨x, _, rfl⟩ := List.mem_map.1 hr; exact hk x) j (enc x0) (by simp [hj]) i _ hv
      rw [List.flatMap_def, hf, hv]
    · rw [if_neg hi, List.getElem?_eq_none (by rw [hk]; omega)]
  rw [e] at s
  exact s
end

/-! ### a table of the call's own: a block of rows, each nil or in a block of its own -/
def slOf (ob : Option Nat) : Option Addr := ob.map fun b => ⟨b, 0, none⟩
def encR (p : Option Nat × Nat) : List Value := [.slice (slOf p.1) p.2 p.2]
structure Tab {α : Type} (w w0 : World) (bo to ti : Nat) (enc : α → List Value) (bs : List (Option Nat)) (m : List (List α)) : Prop where
  len : bs.length = m.length
  outer : Blk w bo to ((bs.zip (m.map (·.length))).flatMap encR)
  row : ∀ (i b : Nat) (l : List α), bs[i]? = some (some b) → m[i]? = some l → Blk w b ti (l.flatMap enc)
  nil : ∀ (i : Nat) (l : List α), bs[i]? = some none → m[i]? = some l → l = []
  nodup : ∀ (i j b : Nat), bs[i]? = some (some b) → bs[j]? = some (some b) → i = j
  far : ∀ b, some b ∈ bs → b ≠ bo ∧ w0.heap.size ≤ b
section
variable {α : Type} {w w' w0 : World} {bo to ti k : Nat} {enc : α → List Value} {bs : List (Option Nat)} {m : List (List α)}
theorem Tab.ext (h : Tab w w0 bo to ti enc bs m) (e : Ext w w') : Tab w' w0 bo to ti enc bs m :=
  ⟨h.len, h.outer.ext e, fun i b l hb hl => (h.row i b l hb hl).ext e, h.nil, h.nodup, h.far⟩
/-- A store elsewhere. -/
theorem Tab.stored (h : Tab w w0 bo to ti enc bs m) {b t : Nat} {cs : List Value} (s : Stored w w' b t cs) (hne : bo ≠ b) (hr : some b ∉ bs) : Tab w' w0 bo to ti enc bs m :=
  ⟨h.len, h.outer.stored s hne, fun i b' l hb hl => (h.row i b' l hb hl).stored s (fun e => hr (e ▸ List.mem_of_getElem? hb)), h.nil, h.nodup, h.far⟩
theorem Tab.lt (h : Tab w w0 bo to ti enc bs m) {b : Nat} (hb : some b ∈ bs) : b < w.heap.size := by
  obtain ⟨i, hi⟩ := List.getElem?_of_mem hb
  have hlt : i < m.length := by rw [← h.len]; exact lt_of_at hi
  exact (h.row i b m[i] hi (by simp [hlt])).lt
theorem Tab.newNot (h : Tab w w0 bo to ti enc bs m) {b : Nat} {o : Obj} (nw : New w w' b o) : some b ∉ bs := fun hb => by
  have := h.lt hb
  have := nw.at_
  omega
theorem Tab.at0 (h : Tab w w0 bo to ti enc bs m) {i : Nat} {l : List α} (hl : m[i]? = some l) : ∃ ob, bs[i]? = some ob ∧ Cells w (elemPtr (some ⟨bo, 0, none⟩) 1 i) [.slice (slOf ob) l.length l.length] := by
  have hlt : i < bs.length := by rw [h.len]; exact lt_of_at hl
  have hb : bs[i]? = some bs[i] := by simp [hlt]
  refine ⟨bs[i], hb, ?_⟩
  exact Blk.at_ (enc := encR) (k := 1) (x := (bs[i], l.length)) h.outer (fun _ => rfl) (by simp [List.getElem?_zip_eq_some, hb, hl])
theorem Tab.at_ (h : Tab w w0 bo to ti enc bs m) {i : Nat} {l : List α} (hl : m[i]? = some l) (hp : 0 < l.length) : ∃ b, bs[i]? = some (some b) ∧ Cells w (elemPtr (some ⟨bo, 0, none⟩) 1 i) [.slice (some ⟨b, 0, none⟩) l.length l.length] ∧ Blk w b ti (l.flatMap enc) ∧ w0.heap.size ≤ b ∧ b ≠ bo := by
  obtain ⟨ob, hb, hc⟩ := h.at0 hl
  cases ob with
  | none => rw [h.nil i l hb hl] at hp; simp at hp
  | some b => exact ⟨b, hb, hc, h.row i b l hb hl, (h.far b (List.mem_of_getElem? hb)).2, (h.far b (List.mem_of_getElem? hb)).1⟩
/-- A store into row i. -/
theorem Tab.set (h : Tab w w0 bo to ti enc bs m) {i b : Nat} {l l' : List α} (hb : bs[i]? = some (some b)) (hl : m[i]? = some l) (hll : l'.length = l.length) (s : Stored w w' b ti (l'.flatMap enc)) : Tab w' w0 bo to ti enc bs (m.set i l') := by
  refine ⟨by simp [h.len], ?_, fun j b' l2 hb' hl2 => ?_, fun j l2 hb' hl2 => ?_, h.nodup, h.far⟩
  · have e : (m.set i l').map (·.length) = m.map (·.length) := by
      rw [List.map_set, hll]
      apply List.ext_getElem?
      intro j
      rw [List.getElem?_set]
      split
      · rename_i hij; subst hij
        split
        · simp [hl]
        · rename_i hge; simp at hge; simp [List.getElem?_eq_none hge]
      · rfl
    rw [e]
    exact h.outer.stored s (Ne.symm (h.far b (List.mem_of_getElem? hb)).1)
  · by_cases hij : j = i
    · subst hij
      rw [hb] at hb'; cases hb'
      rw [List.getElem?_set_self (lt_of_at hl)] at hl2
      cases hl2
      exact s.blk
    · rw [List.getElem?_set_ne (Ne.symm hij)] at hl2
      exact (h.row j b' l2 hb' hl2).stored s (fun e => hij (h.nodup j i b (e ▸ hb') hb))
  · by_cases hij : j = i
    · subst hij
      rw [hb] at hb'; cases hb'
    · rw [List.getElem?_set_ne (Ne.symm hij)] at hl2
      exact h.nil j l2 hb' hl2
/-- Row i is another block now: b, which holds l. -/
theorem Tab.setRow (h : Tab w w0 bo to ti enc bs m) {i b : Nat} {l : List α} (hi : i < m.length) (hnew : some b ∉ bs) (hne : b ≠ bo) (hge : w0.heap.size ≤ b) (f : Blk w b ti (l.flatMap enc))
    (s : Stored w w' bo to (((bs.set i (some b)).zip ((m.set i l).map (·.length))).flatMap encR)) : Tab w' w0 bo to ti enc (bs.set i (some b)) (m.set i l) := by
  refine ⟨by simp [h.len], s.blk, fun j b' l2 hb' hl2 => ?_, fun j l2 hb' hl2 => ?_, fun j j' b' h1 h2 => ?_, fun b' hb' => ?_⟩
  · by_cases hij : j = i
    · subst hij
      rw [List.getElem?_set_self (by rw [h.len]; exact hi)] at hb'
      rw [List.getElem?_set_self hi] at hl2
      cases hb'; cases hl2
      exact f.stored s hne
    · rw [List.getElem?_set_ne (Ne.symm hij)] at hb' hl2
      exact (h.row j b' l2 hb' hl2).stored s (h.far b' (List.mem_of_getElem? hb')).1
  · by_cases hij : j = i
    · subst hij
      rw [List.getElem?_set_self (by rw [h.len]; exact hi)] at hb'
      cases hb'
    · rw [List.getElem?_set_ne (Ne.symm hij)] at hb' hl2
      exact h.nil j l2 hb' hl2
  · by_cases hj : j = i <;> by_cases hj' : j' = i
    · rw [hj, hj']
    · subst hj
      rw [List.getElem?_set_self (by rw [h.len]; exact hi)] at h1
      rw [List.getElem?_set_ne (Ne.symm hj')] at h2
      cases h1
      exact absurd (List.mem_of_getElem? h2) hnew
    · subst hj'
      rw [List.getElem?_set_self (by rw [h.len]; exact hi)] at h2
      rw [List.getElem?_set_ne (Ne.symm hj)] at h1
      cases h2
      exact absurd (List.mem_of_getElem? h1) hnew
    · rw [List.getElem?_set_ne (Ne.symm hj)] at h1
      rw [List.getElem?_set_ne (Ne.symm hj')] at h2
      exact h.nodup j j' b' h1 h2
  · rcases List.mem_or_eq_of_mem_set hb' with hb' | hb'
    · exact h.far b' hb'
    · cases hb'; exact ⟨hne, hge⟩
theorem Tab.sl2 (h : Tab w w0 bo to ti enc bs m) (hk : ∀ x, (enc x).length = k) (hm : m.length ≤ 9223372036854775807) (hr : ∀ l ∈ m, l.length ≤ 9223372036854775807) : Sl2 w (some ⟨bo, 0, none⟩) m.length k enc m := by
  refine ⟨(bs.zip (m.map (·.length))).map (fun p => (slOf p.1, p.2)), by simp [h.len], ?_, fun j x l hj hl => ?_⟩
  · have := (Blk.own_ (k := 1) h.outer (fun _ => rfl) (by simp [h.len]; exact hm)).sl
    have e : (((bs.zip (m.map (·.length))).map (fun p => (slOf p.1, p.2))).zip m).map encH = (bs.zip (m.map (·.length))).map encR := by
      apply List.ext_getElem?
      intro i
      simp only [List.getElem?_map, List.getElem?_zip_eq_some, List.zip_map_left, List.zip, List.getElem?_zipWith]
      cases hb : bs[i]? with
      | none => simp
      | some b =>
        cases hl : m[i]? with
        | none => simp
        | some l => simp [encH, encR]
    rw [e]
    have hz : (bs.zip (m.map (·.length))).length = m.length := by simp [h.len]
    rw [hz] at this
    exact this
  · have hlt : j < bs.length := by rw [h.len]; exact lt_of_at hl
    have hb : bs[j]? = some bs[j] := by simp [hlt]
    have hx : x = (slOf bs[j], l.length) := by
      simp only [List.getElem?_map, List.zip, List.getElem?_zipWith, hb, hl, Option.map_some] at hj
      exact (Option.some.inj hj).symm
    subst hx
    cases hbj : bs[j] with
    | none =>
      rw [hbj] at hb
      rw [h.nil j l hb hl]
      exact Sl.nil (by simp)
    | some b =>
      rw [hbj] at hb
      exact (Blk.own_ (h.row j b l hb hl) hk (hr l (List.mem_of_getElem? hl))).sl
end

section
variable {P : Program} {n : Nat} {ops : Array Oper} {Q : Exit → Env → World → Prop} {ρ : Env} {w : World}
variable {d : Option Tmp} {ty : TypeId} {pos : String} {after : Array Edge} {g : Option (Nat × Bool)} {K : Value → World → Prop}
theorem madeCells_flat {α : Type} {enc : α → List Value} {x0 : α} {z : List Value} {m : Nat} (hz : enc x0 = z) (hm : z.length = m) (h0 : Nat.blt 0 m = true) (c : Nat) : madeCells z.toArray (c * m) = ((List.replicate c x0).flatMap enc).toArray := by
  have h0' : 0 < m := by simpa [Nat.blt_eq] using h0
  apply Array.toList_inj.1
  apply List.ext_getElem?
  intro i
  have hl : ((List.replicate c x0).flatMap enc).length = c * m := by
    induction c with
    | zero => simp
    | succ c ih => simp only [List.replicate_succ, List.flatMap_cons, List.length_append, ih, hz, hm, Nat.succ_mul]; omega
  have hrow : ∀ r ∈ (List.replicate c x0).map enc, r.length = m := by
    intro r hr
    obtain ⟨x, hx, rfl⟩ := List.mem_map.1 hr
    rw [(List.mem_replicate.1 hx).2, hz, hm]
  by_cases hi : i < c * m
  · have hmod : i % m < m := Nat.mod_lt _ h0'
    have hq : i / m < c := (Nat.div_lt_iff_lt_mul h0').2 hi
    have hv : z[i % m]? = some (z[i % m]'(by rw [hm]; exact hmod)) := by simp [hm, hmod]
    have hf := flatten_row hrow (i / m) z (by simp [hq, hz]) (i % m) _ hv
    have hjm : i / m * m + i % m = i := by rw [Nat.mul_comm]; exact Nat.div_add_mod i m
    rw [hjm] at hf
    simp only [List.flatMap_def, List.toList_toArray]
    rw [hf]
    simp only [madeCells]
    simp [hi, hm, hmod]
  · rw [List.getElem?_eq_none (by simp [madeCells]; omega), List.getElem?_eq_none (by simp only [List.toList_toArray]; rw [hl]; omega)]

theorem OW.makeL {α : Type} {enc : α → List Value} (x0 : α) {t e m bt : Nat} {z : List Value} {x y : Operand} {c : Int} (hT : tyS P t = some (e, m, bt, z)) (hx : ev ρ x = some (.int .i64 c)) (hy : ev ρ y = some (.int .i64 c)) (hz : enc x0 = z) (hm : z.length = m) (hm0 : Nat.blt 0 m = true) (h0 : 0 ≤ c) (hb : (bt : Int) * c ≤ 281474976710656) (h63 : c ≤ 9223372036854775807)
    (k : ∀ b w', New w w' b (.cells ((List.replicate c.toNat x0).flatMap enc).toArray e) → K (.slice (some ⟨b, 0, none⟩) c.toNat c.toNat) w') : OW P n Q ⟨d, .makeSlice t x y, ty, pos, after, g⟩ ρ w K :=
  OW.make hT hx hy ⟨h0, Int.le_refl _⟩ hb h63 fun b w' nw => k b w' (by rw [madeCells_flat hz hm hm0] at nw; exact nw)
end
end Go.Tb
