/- Lemmas and walks that the proof of this claim uses: Tb11. -/
import Derived.Test.YtmjadkjcbaohbaaTb10
import Derived.Test.YtmjadkjcbaohbaaTb9
namespace Go.Tb
open Go.RowKit

/-! ### stores into slices of the call's own -/
theorem over_row {α : Type} {enc : α → List Value} {l : List α} {k j off : Nat} {x0 y0 : α} {vs : List Value} (hk : ∀ x, (enc x).length = k) (hj : l[j]? = some x0) (hin : off + vs.length ≤ k) (henc : enc y0 = over (enc x0) off vs) :
    over (l.flatMap enc) (j * k + off) vs = (l.set j y0).flatMap enc := by
  have hlt := lt_of_at hj
  have hlen : (l.flatMap enc).length = l.length * k := len_flatMap hk l
  have hjk : j * k + k ≤ l.length * k := by rw [← Nat.succ_mul]; exact Nat.mul_le_mul_right _ hlt
  rw [flatMap_set hk l j x0 y0 hj, henc]
  refine (over_over _ (j * k) off (enc x0) vs (by rw [hk]; exact hin) (by rw [hk, hlen]; omega) ?_).symm
  rw [hk]
  apply List.ext_getElem?
  intro i
  rw [List.getElem?_take]
  by_cases hi : i < k
  · rw [if_pos hi, List.getElem?_drop]
    have hv : (enc x0)[i]? = some ((enc x0)[i]'(by rw [hk]; exact hi)) := by simp [hk, hi]
    have hf := flatten_row (rows := l.map enc) (k := k) (by intro r hr; obtain ⟨x, _, rfl⟩ := List.mem_map.1 hr; exact hk x) j (enc x0) (by simp [hj]) i _ hv
    rw [List.flatMap_def, hf, hv]
  · rw [if_neg hi, List.getElem?_eq_none (by rw [hk]; omega)]
theorem over_len {cs vs : List Value} {o : Nat} (h : o + vs.length ≤ cs.length) : (over cs o vs).length = cs.length := by simp [over]; omega
theorem over_app {cs sp vs : List Value} {o : Nat} (h : o + vs.length ≤ cs.length) : over (cs ++ sp) o vs = over cs o vs ++ sp := by
  unfold over
  rw [List.take_append_of_le_length (by omega), List.drop_append_of_le_length (by omega)]
  simp [List.append_assoc]

theorem Own.stored {α : Type} {enc : α → List Value} {w w' : World} {l l' : List α} {g c t k : Nat} {cur : List Value} (o : Own w (some ⟨g, 0, none⟩) c t k (l.map enc)) (f : Blk w g t cur) (hk : ∀ x, (enc x).length = k) (hl : l'.length = l.length)
    {cur' : List Value} (h1 : cur'.length = cur.length) (h2 : cur'.take (l.length * k) = l'.flatMap enc) (s : Stored w w' g t cur') : Own w' (some ⟨g, 0, none⟩) c t k (l'.map enc) := by
  have hlen : ((l'.map enc).flatten).length = l'.length * k := by rw [← List.flatMap_def]; exact len_flatMap hk l'
  refine ⟨⟨by rw [hlen]; simp, ?_⟩, by intro r hr; obtain ⟨x, _, rfl⟩ := List.mem_map.1 hr; exact hk x⟩
  rcases o.own.2 with ⟨hv, _⟩ | ⟨g', cap, cur0, hv, hg, hh, hnc, hcm, hcs, ht⟩
  · injection hv with e; cases e
  · injection hv with e1 e2 e3
    injection e1 with e1
    injection e1 with e1
    subst e1; subst e3
    have hc : cur0.toList = cur := by
      have := f.symm.trans hh
      injection this with this
      injection this with this
      rw [← this]
    refine .inr ⟨g, c, cur'.toArray, by simp [hl], hg, s.blk, by simp at hnc ⊢; omega, hcm, ?_, ?_⟩
    · rw [← hcs]; simp [h1, ← hc]
    · rw [← List.flatMap_def, ← h2]; simp [hl]

section
variable {P : Program} {n : Nat} {ops : Array Oper} {Q : Exit → Env → World → Prop} {ρ : Env} {w : World}
variable {d : Option Tmp} {ty : TypeId} {pos : String} {after : Array Edge} {g : Option (Nat × Bool)} {K : Value → World → Prop}
/-- A store into an element (or a part of one) of a slice of the call's own. -/
theorem OW.storeO {α : Type} {enc : α → List Value} {l : List α} {t m k j c : Nat} {A : Option Addr} {a : Bool} {t' : TypeId} {x y : Operand} {p : Addr} {v : Value} {vs : List Value} {x0 : α} (off : Nat) (y0 : α) (hT : tyK P t = some (a, m)) (hx : ev ρ x = some (.pointer (some p))) (hy : ev ρ y = some v)
    (o : Own w A c t' k (l.map enc)) (hk : ∀ x, (enc x).length = k) (hp : p = (elemPtr A k j).add off) (hj : l[j]? = some x0) (hvs : v.cells.toList = vs) (hl : vs.length = m) (hin : off + m ≤ k) (h1 : vs.all Value.oneCell' = true)
    (henc : enc y0 = over (enc x0) off vs) (kk : ∀ w', Mod w w' A → Own w' A c t' k ((l.set j y0).map enc) → K undef w') : OW P n Q ⟨d, .store t x y, ty, pos, after, g⟩ ρ w K := by
  have hlt := lt_of_at hj
  rcases o.blk with ⟨_, h0, _⟩ | ⟨b, sp, rfl, f, h2, h3⟩
  · simp at h0; subst h0; simp at hj
  · have hlen : (l.flatMap enc).length = l.length * k := len_flatMap hk l
    have hjk : j * k + k ≤ l.length * k := by rw [← Nat.succ_mul]; exact Nat.mul_le_mul_right _ hlt
    have hin' : j * k + off + vs.length ≤ (l.flatMap enc).length := by rw [hlen]; omega
    have f' : Blk w b t' (l.flatMap enc ++ sp) := by rw [List.flatMap_def]; exact f
    refine OW.store (off := j * k + off) (vs := vs) hT hx hy f' (by rw [hp]; simp only [elemPtr, Option.getD_some, add_add]; unfold Addr.add; split <;> simp_all) hvs hl (Nat.ble_eq_true_of_le (by rw [List.length_append]; omega)) h1 fun w' s => ?_
    rw [over_app hin', over_row hk hj (by omega) henc] at s
    refine kk w' ⟨s.os, s.tape, s.output, by rw [s.size]; exact Nat.le_refl _, fun i _ hi => s.other i (fun e => hi (by simp [blkOf, e]))⟩ ?_
    have hl2 : ((l.set j y0).flatMap enc).length = (l.flatMap enc).length := by rw [len_flatMap hk, len_flatMap hk]; simp
    exact Own.stored o f' hk (by simp) (by simp [hl2]) (by rw [List.take_append_of_le_length (by rw [hl2, hlen]; exact Nat.le_refl _), List.take_of_length_le (by rw [hl2, hlen]; exact Nat.le_refl _)]) s
end

/-! ### tables -/
section
variable {α : Type} {enc : α → List Value} {w0 w w' : World} {L : List Ck} {A : Option Addr} {c to ti k : Nat} {hs : List (Option Addr × Nat)} {m : List (List α)}
def encM (enc : α → List Value) (m : List (List α)) : List (List (List Value)) := m.map (·.map enc)
theorem encM_len : (encM enc m).length = m.length := by simp [encM]
theorem encM_at {i : Nat} {l : List α} (h : m[i]? = some l) : (encM enc m)[i]? = some (l.map enc) := by simp [encM, h]
theorem encM_set {i : Nat} {l : List α} : encM enc (m.set i l) = (encM enc m).set i (l.map enc) := by simp [encM, List.map_set]
theorem encM_app {l : List α} : encM enc (m ++ [l]) = encM enc m ++ [l.map enc] := by simp [encM]
theorem TabH.at_ (h : TabH w A c to hs ti k (encM enc m)) {i : Nat} {l : List α} (hl : m[i]? = some l) : ∃ (B : Option Addr) (e : Nat), hs[i]? = some (B, e) ∧ Cells w (elemPtr A 1 i) [.slice B l.length e] ∧ Own w B e ti k (l.map enc) := by
  have hlt : i < hs.length := by rw [h.len, encM_len]; exact lt_of_at hl
  have hh : hs[i]? = some ((hs[i]).1, (hs[i]).2) := by simp [hlt]
  refine ⟨_, _, hh, ?_, h.row i _ _ _ hh (encM_at hl)⟩
  have := h.outer.sl.at_ (enc := encH) (j := i) (x := (hs[i], l.map enc)) (by simp [List.getElem?_zip_eq_some, hlt, encM_at hl])
  simpa [encH] using this
theorem TabH.addr (h : TabH w A c to hs ti k (encM enc m)) {i : Int} (h0 : 0 ≤ i ∧ i < m.length) : ∃ a, A = some a :=
  h.outer.sl.addr (i := i) (by simp [h.len, encM_len]; omega)
theorem TabH.sl2 (h : TabH w A c to hs ti k (encM enc m)) : Sl2 w A c k enc m := by
  refine ⟨hs, by rw [h.len, encM_len], ?_, fun j x l hj hl => (h.row j _ _ _ hj (encM_at hl)).sl⟩
  have e : (hs.zip m).map encH = (hs.zip (encM enc m)).map encH := by
    apply List.ext_getElem?
    intro i
    simp only [List.getElem?_map, List.zip, List.getElem?_zipWith, encM]
    cases hs[i]? with
    | none => simp
    | some b =>
      cases m[i]? with
      | none => simp
      | some l => simp [encH]
  rw [e]
  exact h.outer.sl
theorem zip_set' {β γ : Type} {l : List β} {r : List γ} {i : Nat} {x : β} {y : γ} : (l.zip r).set i (x, y) = (l.set i x).zip (r.set i y) := by
  apply List.ext_getElem?
  intro j
  simp only [List.zip, List.getElem?_set, List.getElem?_zipWith, List.length_zipWith]
  by_cases hij : i = j
  · subst hij
    by_cases h1 : i < l.length <;> by_cases h2 : i < r.length <;> simp [h1, h2] <;> omega
  · simp [hij]

/-- A store into row i (of as many elements). -/
theorem Hp.tabRow (h : Hp w0 w L) (p : Nat) (hp : L[p]? = some (.tab A c to hs ti k (encM enc m))) {i e : Nat} {B : Option Addr} {l l' : List α} (hi : hs[i]? = some (B, e)) (hl : m[i]? = some l) (hll : l'.length = l.length) (md : Mod w w' B) (o : Own w' B e ti k (l'.map enc)) :
    Hp w0 w' (L.set p (.tab A c to hs ti k (encM enc (m.set i l')))) := by
  have T := h.tab p hp
  have hin : ∀ b ∈ adB B, b ∈ (Ck.tab A c to hs ti k (encM enc m)).bl := fun b hb => (TabH.bl_at (w := w)).2 (.inr ⟨i, B, e, hi, hb⟩)
  refine h.step p hp (h.extMod md fun b hb => h.fresh p _ hp b (hin b hb)) (fun b hb hn => md.other hb fun hB => hn (hin b hB)) ?_ (fun b hb => .inl hb)
  refine ⟨by rw [T.len, encM_len, encM_len, List.length_set], ?_, fun j B' d' r hj hr => ?_, T.nd, T.ne⟩
  · have e1 : (hs.zip (encM enc (m.set i l'))).map encH = (hs.zip (encM enc m)).map encH := by
      apply List.ext_getElem?
      intro j
      simp only [List.getElem?_map, List.zip, List.getElem?_zipWith, encM, List.getElem?_set]
      cases hs[j]? with
      | none => simp
      | some b =>
        by_cases hij : i = j
        · subst hij
          obtain ⟨hlt, hle⟩ := List.getElem?_eq_some_iff.1 hl
          simp [hlt, encH, hll, hle]
        · simp [hij]
    rw [e1]
    exact T.outer.keep fun b hb => md.other (T.outer.lt b hb) fun hB => T.ne i B e b hi hB hb
  · by_cases hij : j = i
    · subst hij
      rw [hi] at hj; cases hj
      rw [encM_set, List.getElem?_set_self (by rw [encM_len]; exact lt_of_at hl)] at hr
      cases hr
      exact o
    · rw [encM_set, List.getElem?_set_ne (Ne.symm hij)] at hr
      have R := T.row j B' d' r hj hr
      exact R.keep fun b hb => md.other (R.lt b hb) fun hB => hij (T.nd j i B' d' B e b hj hi hb hB)

theorem erase_at {p i : Nat} {x : Ck} {L : List Ck} (h : (L.eraseIdx p)[i]? = some x) : ∃ j, j ≠ p ∧ L[j]? = some x ∧ (j = if i < p then i else i + 1) := by
  rw [List.getElem?_eraseIdx] at h
  split at h
  · rename_i hi; exact ⟨i, by omega, h, by rw [if_pos hi]⟩
  · rename_i hi; exact ⟨i + 1, by omega, h, by rw [if_neg hi]⟩
theorem Hp.erase (h : Hp w0 w L) (q : Nat) : Hp w0 w (L.eraseIdx q) := by
  refine ⟨h.ext, fun i x hx => ?_, fun i j x y hx hy hij => ?_, fun i x hx => ?_⟩
  · obtain ⟨j, _, hj, _⟩ := erase_at hx; exact h.holds j x hj
  · obtain ⟨i', _, hi', e1⟩ := erase_at hx
    obtain ⟨j', _, hj', e2⟩ := erase_at hy
    refine h.disj i' j' x y hi' hj' fun e => hij ?_
    subst e1
    split at e <;> split at e2 <;> omega
  · obtain ⟨j, _, hj, _⟩ := erase_at hx; exact h.fresh j x hj

/-- Two chunks become one. -/
theorem Hp.merge (h : Hp w0 w L) (p q : Nat) (hpq : p ≠ q) {x y z : Ck} (hp : L[p]? = some x) (hq : L[q]? = some y) (e : Ext w0 w') (other : ∀ b, b < w.heap.size → b ∉ x.bl → w'.heap[b]? = w.heap[b]?) (hz : z.holds w')
    (hin : ∀ b ∈ z.bl, b ∈ x.bl ∨ b ∈ y.bl ∨ w.heap.size ≤ b) : Hp w0 w' ((L.set p z).eraseIdx q) := by
  have hlt := lt_of_at hp
  have old : ∀ (i : Nat) (u : Ck), ((L.set p z).eraseIdx q)[i]? = some u → ∃ j, j ≠ q ∧ (j = if i < q then i else i + 1) ∧ ((j = p ∧ u = z) ∨ (j ≠ p ∧ L[j]? = some u)) := by
    intro i u hu
    obtain ⟨j, hjq, hj, ej⟩ := erase_at hu
    refine ⟨j, hjq, ej, ?_⟩
    by_cases hi : j = p
    · subst hi; rw [List.getElem?_set_self hlt] at hj; cases hj; exact .inl ⟨rfl, rfl⟩
    · rw [List.getElem?_set_ne (Ne.symm hi)] at hj; exact .inr ⟨hi, hj⟩
  have far : ∀ (j : Nat) (u : Ck), j ≠ p → j ≠ q → L[j]? = some u → ∀ b ∈ z.bl, b ∉ u.bl := by
    intro j u hj hjq hu b hb hc
    rcases hin b hb with h1 | h1 | h1
    · exact h.disj p j x u hp hu (Ne.symm hj) b h1 hc
    · exact h.disj q j y u hq hu (Ne.symm hjq) b h1 hc
    · have := Ck.lt (h.holds j u hu) b hc; omega
  refine ⟨e, fun i u hu => ?_, fun i j u v hu hv hij b hb => ?_, fun i u hu b hb => ?_⟩
  · obtain ⟨j, hjq, _, ⟨_, rfl⟩ | ⟨hj, hu⟩⟩ := old i u hu
    · exact hz
    · exact Ck.keep (h.holds j u hu) fun b hb => other b (Ck.lt (h.holds j u hu) b hb) (h.disj j p u x hu hp hj b hb)
  · obtain ⟨i', hiq, ei, h1⟩ := old i u hu
    obtain ⟨j', hjq, ej, h2⟩ := old j v hv
    have hne : i' ≠ j' := by
      intro e
      refine hij ?_
      rw [ei, ej] at e
      split at e <;> split at e <;> omega
    rcases h1 with ⟨e1, e2⟩ | ⟨hi, hu⟩ <;> rcases h2 with ⟨e3, e4⟩ | ⟨hj, hv⟩
    · exact absurd (e1.trans e3.symm) hne
    · rw [e2] at hb; exact far j' v hj hjq hv b hb
    · rw [e4]; intro hc; exact far i' u hi hiq hu b hc hb
    · exact h.disj i' j' u v hu hv hne b hb
  · obtain ⟨j, hjq, _, ⟨_, rfl⟩ | ⟨hj, hu⟩⟩ := old i u hu
    · rcases hin b hb with h1 | h1 | h1
      · exact h.fresh p x hp b h1
      · exact h.fresh q y hq b h1
      · exact Nat.le_trans h.ext.size h1
    · exact h.fresh j u hu b hb

/-- Row i of table p becomes the slice q; row i's own old block is let go. -/
theorem Hp.tabSet (h : Hp w0 w L) (p q : Nat) (hpq : p ≠ q) (hp : L[p]? = some (.tab A c to hs ti k (encM enc m))) {i e : Nat} {B : Option Addr} {l : List α} (hq : L[q]? = some (.own B e ti k (l.map enc))) (hi : i < m.length)
    (md : Mod w w' A) (o : Own w' A c to 1 (((hs.zip (encM enc m)).set i ((B, e), l.map enc)).map encH)) :
    Hp w0 w' ((L.set p (.tab A c to (hs.set i (B, e)) ti k (encM enc (m.set i l)))).eraseIdx q) := by
  have T := h.tab p hp
  have O := h.own q hq
  have hA : ∀ b ∈ adB A, b ∈ (Ck.tab A c to hs ti k (encM enc m)).bl := fun b hb => (TabH.bl_at (w := w)).2 (.inl hb)
  have hset : ∀ (j : Nat) (B' : Option Addr) (d' : Nat), (hs.set i (B, e))[j]? = some (B', d') → (j = i ∧ B' = B ∧ d' = e) ∨ (j ≠ i ∧ hs[j]? = some (B', d')) := by
    intro j B' d' hj
    by_cases hij : j = i
    · subst hij; rw [List.getElem?_set_self (by rw [T.len, encM_len]; exact hi)] at hj; cases hj; exact .inl ⟨rfl, rfl, rfl⟩
    · rw [List.getElem?_set_ne (Ne.symm hij)] at hj; exact .inr ⟨hij, hj⟩
  have hfar : ∀ b ∈ adB B, b ∉ (Ck.tab A c to hs ti k (encM enc m)).bl := fun b hb => h.disj q p _ _ hq hp (Ne.symm hpq) b hb
  refine h.merge p q hpq hp hq (h.extMod md fun b hb => h.fresh p _ hp b (hA b hb)) (fun b hb hn => md.other hb fun hB => hn (hA b hB)) ?_ ?_
  · refine ⟨by rw [List.length_set, T.len, encM_len, encM_len, List.length_set], by rw [encM_set, ← zip_set']; exact o, fun j B' d' r hj hr => ?_, fun j j' B1 d1 B2 d2 b h1 h2 hb1 hb2 => ?_, fun j B' d' b hj hb => ?_⟩
    · rcases hset j B' d' hj with ⟨rfl, rfl, rfl⟩ | ⟨hij, hj⟩
      · rw [encM_set, List.getElem?_set_self (by rw [encM_len]; exact hi)] at hr
        cases hr
        exact O.keep fun b hb => md.other (O.lt b hb) fun hc => hfar b hb (hA b hc)
      · rw [encM_set, List.getElem?_set_ne (Ne.symm hij)] at hr
        have R := T.row j B' d' r hj hr
        exact R.keep fun b hb => md.other (R.lt b hb) fun hc => T.ne j B' d' b hj hb hc
    · rcases hset j B1 d1 h1 with ⟨e1, e2, _⟩ | ⟨hij, h1⟩ <;> rcases hset j' B2 d2 h2 with ⟨e3, e4, _⟩ | ⟨hij', h2⟩
      · rw [e1, e3]
      · exact absurd ((TabH.bl_at (w := w)).2 (.inr ⟨j', B2, d2, h2, hb2⟩)) (hfar b (e2 ▸ hb1))
      · exact absurd ((TabH.bl_at (w := w)).2 (.inr ⟨j, B1, d1, h1, hb1⟩)) (hfar b (e4 ▸ hb2))
      · exact T.nd j j' B1 d1 B2 d2 b h1 h2 hb1 hb2
    · rcases hset j B' d' hj with ⟨_, e2, _⟩ | ⟨hij, hj⟩
      · intro hc; exact hfar b (e2 ▸ hb) (hA b hc)
      · exact T.ne j B' d' b hj hb
  · intro b hb
    rcases (TabH.bl_at (w := w)).1 hb with hb | ⟨j, B', d', hj, hb⟩
    · exact .inl (hA b hb)
    · rcases hset j B' d' hj with ⟨_, e2, _⟩ | ⟨hij, hj⟩
      · exact .inr (.inl (e2 ▸ hb))
      · exact .inl ((TabH.bl_at (w := w)).2 (.inr ⟨j, B', d', hj, hb⟩))
/-- The slice q is appended to table p. -/
theorem Hp.tabPush (h : Hp w0 w L) (p q : Nat) (hpq : p ≠ q) (hp : L[p]? = some (.tab A c to hs ti k (encM enc m))) {e c' : Nat} {A' B : Option Addr} {l : List α} (hq : L[q]? = some (.own B e ti k (l.map enc)))
    (md : Mod w w' A) (hd : A' = A ∨ ∃ a, A' = some a ∧ w.heap.size ≤ a.block) (o : Own w' A' c' to 1 ((hs.zip (encM enc m) ++ [((B, e), l.map enc)]).map encH)) :
    Hp w0 w' ((L.set p (.tab A' c' to (hs ++ [(B, e)]) ti k (encM enc (m ++ [l])))).eraseIdx q) := by
  have T := h.tab p hp
  have O := h.own q hq
  have hA : ∀ b ∈ adB A, b ∈ (Ck.tab A c to hs ti k (encM enc m)).bl := fun b hb => (TabH.bl_at (w := w)).2 (.inl hb)
  have hA' : ∀ b ∈ adB A', b ∈ adB A ∨ w.heap.size ≤ b := by
    rcases hd with rfl | ⟨a, rfl, ha⟩
    · exact fun b hb => .inl hb
    · intro b hb; simp [adB] at hb; subst hb; exact .inr ha
  have hlen : hs.length = m.length := by rw [T.len, encM_len]
  have hset : ∀ (j : Nat) (B' : Option Addr) (d' : Nat), (hs ++ [(B, e)])[j]? = some (B', d') → (j = hs.length ∧ B' = B ∧ d' = e) ∨ (j < hs.length ∧ hs[j]? = some (B', d')) := by
    intro j B' d' hj
    by_cases hij : j < hs.length
    · rw [List.getElem?_append_left hij] at hj; exact .inr ⟨hij, hj⟩
    · rw [List.getElem?_append_right (by omega)] at hj
      have : j - hs.length = 0 := by have := lt_of_at hj; simp at this; omega
      rw [this] at hj
      simp at hj
      exact .inl ⟨by omega, hj.1.symm, hj.2.symm⟩
  have hfar : ∀ b ∈ adB B, b ∉ (Ck.tab A c to hs ti k (encM enc m)).bl := fun b hb => h.disj q p _ _ hq hp (Ne.symm hpq) b hb
  refine h.merge p q hpq hp hq (h.extMod md fun b hb => h.fresh p _ hp b (hA b hb)) (fun b hb hn => md.other hb fun hB => hn (hA b hB)) ?_ ?_
  · refine ⟨by rw [encM_len]; simp [hlen], ?_, fun j B' d' r hj hr => ?_, fun j j' B1 d1 B2 d2 b h1 h2 hb1 hb2 => ?_, fun j B' d' b hj hb => ?_⟩
    · rw [encM_app, List.zip_append (by rw [encM_len, hlen])]; exact o
    · rcases hset j B' d' hj with ⟨rfl, rfl, rfl⟩ | ⟨hij, hj⟩
      · rw [encM_app, List.getElem?_append_right (by rw [encM_len, hlen]; exact Nat.le_refl _), encM_len, hlen] at hr
        simp at hr
        subst hr
        exact O.keep fun b hb => md.other (O.lt b hb) fun hc => hfar b hb (hA b hc)
      · rw [encM_app, List.getElem?_append_left (by rw [encM_len, ← hlen]; exact hij)] at hr
        have R := T.row j B' d' r hj hr
        exact R.keep fun b hb => md.other (R.lt b hb) fun hc => T.ne j B' d' b hj hb hc
    · rcases hset j B1 d1 h1 with ⟨e1, e2, _⟩ | ⟨hij, h1⟩ <;> rcases hset j' B2 d2 h2 with ⟨e3, e4, _⟩ | ⟨hij', h2⟩
      · rw [e1, e3]
      · exact absurd ((TabH.bl_at (w := w)).2 (.inr ⟨j', B2, d2, h2, hb2⟩)) (hfar b (e2 ▸ hb1))
      · exact absurd ((TabH.bl_at (w := w)).2 (.inr ⟨j, B1, d1, h1, hb1⟩)) (hfar b (e4 ▸ hb2))
      · exact T.nd j j' B1 d1 B2 d2 b h1 h2 hb1 hb2
    · intro hc
      rcases hset j B' d' hj with ⟨_, e2, _⟩ | ⟨hij, hj⟩
      · rcases hA' b hc with hc | hc
        · exact hfar b (e2 ▸ hb) (hA b hc)
        · have := O.lt b (e2 ▸ hb); omega
      · rcases hA' b hc with hc | hc
        · exact T.ne j B' d' b hj hb hc
        · have hlt : j < m.length := by omega
          have := (T.row j B' d' _ hj (encM_at (l := m[j]) (by simp [hlt]))).lt b hb; omega
  · intro b hb
    rcases (TabH.bl_at (w := w)).1 hb with hb | ⟨j, B', d', hj, hb⟩
    · rcases hA' b hb with hb | hb
      · exact .inl (hA b hb)
      · exact .inr (.inr hb)
    · rcases hset j B' d' hj with ⟨_, e2, _⟩ | ⟨hij, hj⟩
      · exact .inr (.inl (e2 ▸ hb))
      · exact .inl ((TabH.bl_at (w := w)).2 (.inr ⟨j, B', d', hj, hb⟩))
/-- An owned slice of nil slices is a table of empty rows. -/
theorem Hp.asTab (enc : α → List Value) (h : Hp w0 w L) (p : Nat) {nn : Nat} (ti k : Nat) (hp : L[p]? = some (.own A c to 1 ((List.replicate nn ()).map fun _ => [Value.slice none 0 0]))) :
    Hp w0 w (L.set p (.tab A c to (List.replicate nn (none, 0)) ti k (encM enc (List.replicate nn [])))) := by
  have O := h.own p hp
  refine h.step p hp h.ext (fun _ _ _ => rfl) ?_ ?_
  · refine ⟨by simp [encM], ?_, fun i B d l hi hl => ?_, fun i j B d B' d' b hi hj hb _ => ?_, fun i B d b hi hb => ?_⟩
    · have e : ((List.replicate nn ((none : Option Addr), 0)).zip (encM enc (List.replicate nn []))).map encH = (List.replicate nn ()).map fun _ => [Value.slice none 0 0] := by
        simp [encM, List.zip_replicate', encH]
      rw [e]
      exact O
    · rw [List.getElem?_replicate] at hi
      split at hi
      · cases hi
        simp [encM, List.getElem?_replicate] at hl
        obtain ⟨_, rfl⟩ := hl
        exact Own.nil w ti k
      · cases hi
    · rw [List.getElem?_replicate] at hi
      split at hi
      · cases hi; simp [adB] at hb
      · cases hi
    · rw [List.getElem?_replicate] at hi
      split at hi
      · cases hi; simp [adB] at hb
      · cases hi
  · intro b hb
    rcases (TabH.bl_at (w := w)).1 hb with hb | ⟨j, B', d', hj, hb⟩
    · exact .inl hb
    · rw [List.getElem?_replicate] at hj
      split at hj
      · cases hj; simp [adB] at hb
      · cases hj
/-- No table yet. -/
theorem Hp.nilTab (enc : α → List Value) (h : Hp w0 w L) (to ti k : Nat) : Hp w0 w (.tab none 0 to [] ti k (encM enc []) :: L) :=
  h.cons (Ext.refl w) ⟨rfl, Own.nil w to 1, by simp, by simp, by simp⟩ (by intro b hb; simp [Ck.bl, adB] at hb)
end

/-! ### a merge of ways -/
theorem CW.cut {P : Program} {n : Nat} {Q : Exit → Env → World → Prop} {ρ : Env} {w : World} {x y : Code} (I : Env → World → Prop) (hx : CW P n x (thenE (fun ρ' w' => ∃ ρ'', Sub ρ'' ρ' ∧ I ρ'' w') Q) ρ w) (hy : ∀ ρ w, I ρ w → CW P n y Q ρ w) : CW P n (.seq x y) Q ρ w := fun a ha => by
  refine wp_seq (wp_mono (hx a ha) fun e a' w' hq => ?_)
  obtain ⟨ρ', hf, hq⟩ := hq
  cases e <;> first | exact ⟨ρ', hf, hq⟩ | (obtain ⟨ρ'', hs, hI⟩ := hq; exact hy _ _ hI a' (hf.sub hs))
end Go.Tb
