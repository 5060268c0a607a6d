/- Lemmas and walks that the proof of this claim uses: Tb5. -/
import Derived.Test.YtmjadkjcbaohbaaTb4
import Derived.Maps.AppendAt
namespace Go.Tb
open Go.RowKit

theorem New.ge {w0 w w' : World} {b : Nat} {o : Obj} (h : New w w' b o) (r : Ext w0 w) : w0.heap.size ≤ b := by rw [h.at_]; exact r.size
theorem New.ne {w w' : World} {b b' : Nat} {o : Obj} {t : TypeId} {cs : List Value} (h : New w w' b o) (f : Blk w b' t cs) : b' ≠ b := by rw [h.at_]; exact Nat.ne_of_lt f.lt

/-- Block b alone has turned: it holds cs now. -/
structure Stored (w w' : World) (b : Nat) (t : TypeId) (cs : List Value) : Prop where
  os : w'.os = w.os
  tape : w'.tape = w.tape
  output : w'.output = w.output
  size : w'.heap.size = w.heap.size
  other : ∀ k, k ≠ b → w'.heap[k]? = w.heap[k]?
  blk : Blk w' b t cs
theorem Ext.stored {w0 w w' : World} {b : Nat} {t : TypeId} {cs : List Value} (r : Ext w0 w) (s : Stored w w' b t cs) (h : w0.heap.size ≤ b) : Ext w0 w' :=
  ⟨s.os.trans r.os, s.tape.trans r.tape, s.output.trans r.output, by rw [s.size]; exact r.size, fun k hk => (s.other k (by omega)).trans (Below.block r k hk)⟩
theorem Blk.stored {w w' : World} {b b' : Nat} {t t' : TypeId} {cs cs' : List Value} (f : Blk w b' t' cs') (s : Stored w w' b t cs) (h : b' ≠ b) : Blk w' b' t' cs' := (s.other b' h).trans f

/-- cs with vs laid over it from off on. -/
def over (cs : List Value) (off : Nat) (vs : List Value) : List Value := cs.take off ++ vs ++ cs.drop (off + vs.length)

section
variable {P : Program} {n : Nat} {ops : Array Oper} {Q : Exit → Env → World → Prop} {ρ : Env} {w : World}
variable {d : Option Tmp} {ty : TypeId} {pos : String} {after : Array Edge} {g : Option (Nat × Bool)} {K : Value → World → Prop}

theorem setRow_stored {b : Nat} {t : TypeId} {cs ds : List Value} (f : Blk w b t cs) : Stored w (w.setRow b ds.toArray) b t ds :=
  ⟨rfl, rfl, rfl, by simp, fun k hk => setRow_other w b k _ hk, setRow_heap w b cs.toArray _ t (0, 0) f⟩

theorem run_storeVar_blk {t m b off : Nat} {a : Bool} {t' : TypeId} {cs vs : List Value} {v : Value} (hT : tyK P t = some (a, m)) (f : Blk w b t' cs) (hvs : v.cells.toList = vs) (hl : vs.length = m) (hin : Nat.ble (off + m) cs.length = true)
    (h1 : vs.all Value.oneCell' = true) : ∃ w', (storeVar t ⟨b, off, none⟩ v).run P w = .ok () w' ∧ Stored w w' b t' (over cs off vs) := by
  have hin' := Nat.le_of_ble_eq_true hin
  have hs := run_storeCells_at P b off t' vs 0 cs.toArray w f (by simp; omega) (by simpa [List.all_eq_true] using h1)
  refine ⟨_, ?_, setRow_stored f⟩
  have hsz : v.cells.size = m := by rw [← hl, ← hvs]; simp
  simp only [storeVar, Sem.run_bind, (tyK_spec (w := w) hT).2, Result.andThen_ok, hsz]
  simp only [ne_eq, not_true_eq_false, if_false, hvs]
  simpa [over] using hs

theorem OW.store {t m b off : Nat} {a : Bool} {t' : TypeId} {x y : Operand} {p : Addr} {v : Value} {cs vs : List Value} (hT : tyK P t = some (a, m)) (hx : ev ρ x = some (.pointer (some p))) (hy : ev ρ y = some v) (f : Blk w b t' cs) (hp : p = ⟨b, off, none⟩)
    (hvs : v.cells.toList = vs) (hl : vs.length = m) (hin : Nat.ble (off + m) cs.length = true) (h1 : vs.all Value.oneCell' = true) (k : ∀ w', Stored w w' b t' (over cs off vs) → K undef w') : OW P n Q ⟨d, .store t x y, ty, pos, after, g⟩ ρ w K := by
  obtain ⟨w', hr, hs⟩ := run_storeVar_blk hT f hvs hl hin h1
  exact OW.skip_ (w' := w') (fun c hc => by simp [execOp, hc.ev hx, hc.ev hy, Instr.storeAt, Instr.sureAddr, hp, hr]) (k w' hs)

theorem zip_parts {a : Act} {parts : Array (Nat × Operand)} {vs : List Value} (ha : Fits n ρ a) (hv : evs ρ (parts.toList.map (·.2)) = some vs) :
    (Array.map (fun x => match x with | (i, x) => (i, a.eval x)) parts) = ((parts.toList.map (·.1)).zip vs).toArray := by
  have := ha.evs hv
  rw [← this]
  apply Array.toList_inj.1
  simp [List.zip_map', List.map_map, Function.comp_def]

theorem OW.buildSlice {t e len : Nat} {parts : Array (Nat × Operand)} {vs cs : List Value} (hv : evs ρ (parts.toList.map (·.2)) = some vs)
    (hf : ∀ w : World, (Instr.buildSlice t len ((parts.toList.map (·.1)).zip vs).toArray).run P w = .ok (.slice (some ⟨w.heap.size, 0, none⟩) len len) (w.alloc (.cells cs.toArray e)))
    (k : ∀ b w', New w w' b (.cells cs.toArray e) → K (.slice (some ⟨b, 0, none⟩) len len) w') : OW P n Q ⟨d, .buildSlice t len parts, ty, pos, after, g⟩ ρ w K := by
  refine OW.value (w' := w.alloc (.cells cs.toArray e)) (fun a ha => ?_) (k _ _ (New.mk' _ _))
  simp only [execOp, zip_parts ha hv, Sem.run_bind, hf, Result.andThen_ok, Sem.run_pure]

theorem RV.build {t : Nat} {parts : Array (Nat × Operand)} {vs cs : List Value} (hv : evs ρ (parts.toList.map (·.2)) = some vs)
    (hf : (∀ w : World, (Instr.build t ((parts.toList.map (·.1)).zip vs).toArray).run P w = .ok (.agg cs.toArray) w)) : RV P n ⟨d, .build t parts, ty, pos, after, g⟩ ρ w (.agg cs.toArray) := fun a ha => by
  simp only [execOp, zip_parts ha hv, Sem.run_bind, hf, Result.andThen_ok, Sem.run_pure]

/-! ### slices against nil -/
theorem run_eqnil {t e : TypeId} {A : Option Addr} {len cap : Nat} (hu : P.underlying t = some (.slice e)) : (Op.equal t (.slice A len cap) (.slice none 0 0)).run P w = .ok A.isNone w := by
  have key : ∀ m, (Op.equalIn (m + 1) t (.slice A len cap) (.slice none 0 0)).run P w = .ok A.isNone w := fun m => by
    cases A <;> simp [Op.equalIn, run_underlying hu]
  exact key 9999
theorem RV.eqnil {t e m bt u len cap : Nat} {z : List Value} {x y : Operand} {A : Option Addr} (hT : tyS P t = some (e, m, bt, z)) (hx : ev ρ x = some (.slice A len cap)) (hy : ev ρ y = some (.slice none 0 0)) :
    RV P n ⟨d, .binOp .eql t x y u, ty, pos, after, g⟩ ρ w (.bool A.isNone) := fun a ha => by
  obtain ⟨hu, _⟩ := tyS_spec hT
  simp only [execOp, ha.ev hx, ha.ev hy, Sem.run_bind, eqGuard, binOp, run_eqnil hu, Result.andThen_ok, Sem.run_pure]
  simp
theorem RV.nenil {t e m bt u len cap : Nat} {z : List Value} {x y : Operand} {A : Option Addr} (hT : tyS P t = some (e, m, bt, z)) (hx : ev ρ x = some (.slice A len cap)) (hy : ev ρ y = some (.slice none 0 0)) :
    RV P n ⟨d, .binOp .neq t x y u, ty, pos, after, g⟩ ρ w (.bool (!A.isNone)) := fun a ha => by
  obtain ⟨hu, _⟩ := tyS_spec hT
  simp only [execOp, ha.ev hx, ha.ev hy, Sem.run_bind, eqGuard, binOp, run_eqnil hu, Result.andThen_ok, Sem.run_pure]
  simp

/-! ### make -/
theorem tyS_make {t e m bt : Nat} {z : List Value} (hT : tyS P t = some (e, m, bt, z)) {l c : Int} (h0 : 0 ≤ l) (hlc : l ≤ c) (hb : (bt : Int) * c ≤ 281474976710656) (h63 : c ≤ 9223372036854775807) :
    (Instr.makeSlice t (.int .i64 l) (.int .i64 c)).run P w = .ok (.slice (some ⟨w.heap.size, 0, none⟩) l.toNat c.toNat) (w.alloc (.cells (madeCells z.toArray (c.toNat * m)) e)) := by
  obtain ⟨hu, i, zv, hi, h1, h2, h3, h4⟩ := tyS_spec hT
  have := run_make (P := P) w t e i zv hu hi h3 .i64 .i64 l c h0 hlc (by rw [h2]; exact hb) h63
  rw [this, h1, ← h4]

theorem OW.make {t e m bt : Nat} {z : List Value} {x y : Operand} {l c : Int} (hT : tyS P t = some (e, m, bt, z)) (hx : ev ρ x = some (.int .i64 l)) (hy : ev ρ y = some (.int .i64 c)) (h0 : 0 ≤ l ∧ l ≤ c) (hb : (bt : Int) * c ≤ 281474976710656) (h63 : c ≤ 9223372036854775807)
    (k : ∀ b w', New w w' b (.cells (madeCells z.toArray (c.toNat * m)) e) → K (.slice (some ⟨b, 0, none⟩) l.toNat c.toNat) w') : OW P n Q ⟨d, .makeSlice t x y, ty, pos, after, g⟩ ρ w K :=
  OW.value (fun a ha => by simp only [execOp, ha.ev hx, ha.ev hy, Sem.run_bind, tyS_make hT h0.1 h0.2 hb h63, Result.andThen_ok, Sem.run_pure]) (k _ _ (New.mk' _ _))

/-! ### slices that the call owns -/
def blkOf (A : Option Addr) : Option Nat := A.map (·.block)
/-- The slice (A, rows.length, c) owns its row: it may be stored into and appended to. -/
structure Own (w : World) (A : Option Addr) (c : Nat) (e : TypeId) (k : Nat) (rows : List (List Value)) : Prop where
  own : w.ownsRow 0 e k (.slice A rows.length c) rows.length rows.flatten
  row : ∀ r ∈ rows, r.length = k
/-- The world has grown, and the block of A alone may have turned. -/
def Mod (w w' : World) (A : Option Addr) : Prop := w.grownBy w' (blkOf A)

theorem Own.nil (w : World) (e : TypeId) (k : Nat) : Own w none 0 e k [] := ⟨World.ownsRow_nil w 0 e k, by simp⟩
theorem Own.ext {w w' : World} {A : Option Addr} {c : Nat} {e : TypeId} {k : Nat} {rows : List (List Value)} (h : Own w A c e k rows) (x : Ext w w') : Own w' A c e k rows := by
  refine ⟨?_, h.row⟩
  obtain ⟨h1, h2⟩ := h.own
  refine ⟨h1, ?_⟩
  rcases h2 with h2 | ⟨g, cap, cur, hv, hg, hh, r⟩
  · exact .inl h2
  · exact .inr ⟨g, cap, cur, hv, hg, x.block hh, r⟩
theorem Ext.mod {w0 w w' : World} {A : Option Addr} (r : Ext w0 w) (m : Mod w w' A) (h : ∀ a, A = some a → w0.heap.size ≤ a.block) : Ext w0 w' :=
  ⟨m.os.trans r.os, m.tape.trans r.tape, m.output.trans r.output, Nat.le_trans r.size m.size, fun k hk => by
    refine (m.block k (Nat.lt_of_lt_of_le hk r.size) fun e => ?_).trans (Below.block r k hk)
    cases A with
    | none => simp [blkOf] at e
    | some a => have := h a rfl; simp [blkOf] at e; omega⟩
theorem Blk.mod {w w' : World} {A : Option Addr} {b : Nat} {t : TypeId} {cs : List Value} (f : Blk w b t cs) (m : Mod w w' A) (h : ∀ a, A = some a → b ≠ a.block) : Blk w' b t cs := by
  refine (m.block b f.lt fun e => ?_).trans f
  cases A with
  | none => simp [blkOf] at e
  | some a => exact h a rfl (by simpa [blkOf] using e)
theorem Own.blk {w : World} {A : Option Addr} {c : Nat} {e : TypeId} {k : Nat} {rows : List (List Value)} (h : Own w A c e k rows) : (A = none ∧ rows = [] ∧ c = 0) ∨ ∃ b spare, A = some ⟨b, 0, none⟩ ∧ Blk w b e (rows.flatten ++ spare) ∧ rows.length ≤ c ∧ c ≤ 9223372036854775807 := by
  rcases h.own.2 with ⟨hv, hn⟩ | ⟨g, cap, cur, hv, _, hh, hnc, hcm, hcs, ht⟩
  · injection hv with h1 h2 h3
    exact .inl ⟨h1, List.eq_nil_of_length_eq_zero hn, h3⟩
  · injection hv with h1 h2 h3
    subst h3
    refine .inr ⟨g, cur.toList.drop (rows.length * k), h1, ?_, hnc, hcm⟩
    unfold Blk
    rw [hh, ← ht, List.take_append_drop]
theorem Own.sep {w : World} {A : Option Addr} {c : Nat} {e : TypeId} {k : Nat} {rows : List (List Value)} (h : Own w A c e k rows) {b : Nat} {t : TypeId} {cs : List Value} (f : Blk w b t cs) (hne : t ≠ e) : ∀ a, A = some a → b ≠ a.block := by
  intro a ha
  rcases h.blk with ⟨h1, _⟩ | ⟨g, sp, h1, hb, _⟩
  · rw [h1] at ha; cases ha
  · rw [h1] at ha; cases ha; exact f.ne hb hne
theorem Own.sepNew {w w' : World} {A : Option Addr} {c : Nat} {e : TypeId} {k : Nat} {rows : List (List Value)} (h : Own w A c e k rows) {b : Nat} {o : Obj} (nw : New w w' b o) : ∀ a, A = some a → b ≠ a.block := by
  intro a ha
  rcases h.blk with ⟨h1, _⟩ | ⟨g, sp, h1, hb, _⟩
  · rw [h1] at ha; cases ha
  · rw [h1] at ha; cases ha; exact Ne.symm (nw.ne hb)

theorem flatten_row {rows : List (List Value)} {k : Nat} (hk : ∀ r ∈ rows, r.length = k) : ∀ (j : Nat) (r : List Value), rows[j]? = some r → ∀ (i : Nat) (v : Value), r[i]? = some v → rows.flatten[j * k + i]? = some v := by
  induction rows with
  | nil => intro j r h; simp at h
  | cons r0 rest ih =>
    intro j r hj i v hi
    have h0 := hk r0 (by simp)
    simp only [List.flatten_cons]
    cases j with
    | zero =>
      simp at hj; subst hj
      have hlt : i < r0.length := (List.getElem?_eq_some_iff.1 hi).1
      rw [Nat.zero_mul, Nat.zero_add, List.getElem?_append_left hlt]
      exact hi
    | succ j =>
      have hj' : rest[j]? = some r := by simpa using hj
      have := ih (fun r hr => hk r (by simp [hr])) j r hj' i v hi
      rw [List.getElem?_append_right (by rw [h0, Nat.succ_mul]; omega)]
      rw [show (j + 1) * k + i - r0.length = j * k + i by rw [h0, Nat.succ_mul]; omega]
      exact this

theorem Own.sl {w : World} {A : Option Addr} {c : Nat} {e : TypeId} {k : Nat} {rows : List (List Value)} (h : Own w A c e k rows) : Sl w A c k rows := by
  rcases h.blk with ⟨rfl, rfl, rfl⟩ | ⟨b, sp, rfl, hb, h1, h2⟩
  · exact Sl.nil (by omega)
  · refine ⟨h1, h2, fun j r hj => ⟨h.row r (List.mem_of_getElem? hj), ⟨_, rfl⟩, fun i v hi => ?_⟩⟩
    have hf := flatten_row h.row j r hj i v hi
    have := hb.cells (j * k + i) v (by rw [List.getElem?_append_left (List.getElem?_eq_some_iff.1 hf).1]; exact hf)
    simpa [elemPtr, add_add] using this

/-- A block known whole is a slice. -/
theorem Blk.own {w : World} {b e k : Nat} {rows : List (List Value)} {cs : List Value} (f : Blk w b e cs) (hc : cs = rows.flatten) (hk : ∀ r ∈ rows, r.length = k) (hm : rows.length ≤ 9223372036854775807) : Own w (some ⟨b, 0, none⟩) rows.length e k rows := by
  have hl : rows.flatten.length = rows.length * k := by
    clear f hc hm
    induction rows with
    | nil => simp
    | cons r rest ih => simp only [List.flatten_cons, List.length_append, List.length_cons]; rw [ih (fun r hr => hk r (by simp [hr])), hk r (by simp), Nat.succ_mul]; omega
  exact ⟨⟨hl, .inr ⟨b, rows.length, cs.toArray, rfl, Nat.zero_le _, f, Nat.le_refl _, hm, by simp [hc, hl], by rw [hc, ← hl]; exact List.take_length⟩⟩, hk⟩

theorem OW.append {t e m bt : Nat} {z : List Value} {x y : Operand} {A As : Option Addr} {c cs : Nat} {rows news : List (List Value)} (hT : tyS P t = some (e, m, bt, z)) (hx : ev ρ x = some (.slice A rows.length c)) (hy : ev ρ y = some (.slice As news.length cs))
    (own : Own w A c e m rows) (src : Sl w As cs m news) (h1 : ∀ r ∈ news, r.all Value.oneCell' = true) (hz : z.length = m) (h63 : rows.length + news.length ≤ 9223372036854775807) (hb : (rows.length + news.length) * bt ≤ 140737488355328) (hm0 : Nat.blt 0 m = true)
    (k : ∀ A' c' w', Own w' A' c' e m (rows ++ news) → Mod w w' A → (A' = A ∨ ∃ a, A' = some a ∧ w.heap.size ≤ a.block) → K (.slice A' (rows ++ news).length c') w') :
    OW P n Q ⟨d, .call ⟨.builtin .append, #[x, y], #[t, t]⟩, ty, pos, after, g⟩ ρ w K := by
  have key : ∃ A' c' w', (Builtin.append_ #[t, t] ty #[.slice A rows.length c, .slice As news.length cs]).run P w = .ok (.slice A' (rows ++ news).length c') w' ∧ Own w' A' c' e m (rows ++ news) ∧ Mod w w' A ∧ (A' = A ∨ ∃ a, A' = some a ∧ w.heap.size ≤ a.block) := by
    obtain ⟨hu, i, zv, hi, hs1, hs2, hs3, hs4⟩ := tyS_spec hT
    have hm0' : 0 < m := by simpa [Nat.blt_eq] using hm0
    have hrow : ∀ r ∈ rows ++ news, r.length = m := by
      intro r hr
      rcases List.mem_append.1 hr with hr | hr
      · exact own.row r hr
      · obtain ⟨j, hj⟩ := List.getElem?_of_mem hr
        exact (src.row j r hj).1
    cases As with
    | none =>
      have hn : news = [] := by
        cases news with
        | nil => rfl
        | cons r rest => obtain ⟨_, ⟨a, ha⟩, _⟩ := src.row 0 r rfl; cases ha
      subst hn
      refine ⟨A, c, w, ?_, by simpa using own, ⟨rfl, rfl, rfl, Nat.le_refl _, fun _ _ _ => rfl⟩, .inl rfl⟩
      rcases own.blk with ⟨rfl, rfl, rfl⟩ | ⟨b, sp, rfl, hb, hl1, hl2⟩
      · simp [Builtin.append_, run_underlying hu, sizeOf, typeInfo, hi, Builtin.lenOf, Builtin.firstCells]
      · simp [Builtin.append_, run_underlying hu, sizeOf, typeInfo, hi, Builtin.lenOf, Builtin.firstCells, hl1, storeCells]
    | some a =>
      have hnl : news.flatten.length = news.length * m := by
        have h2 : ∀ r ∈ news, r.length = m := fun r hr => hrow r (by simp [hr])
        clear hrow h1 src hy h63 hb k
        induction news with
        | nil => simp
        | cons r rest ih => simp only [List.flatten_cons, List.length_append, List.length_cons]; rw [ih (fun r hr => h2 r (by simp [hr])), h2 r (by simp), Nat.succ_mul]; omega
      have hcell : ∀ (j : Nat) (u : Value), news.flatten[j]? = some u → w.cell? (a.add j) = some u := by
        intro j u hj
        have hjl : j < news.length * m := by rw [← hnl]; exact (List.getElem?_eq_some_iff.1 hj).1
        have hq : j / m < news.length := (Nat.div_lt_iff_lt_mul hm0').2 hjl
        have hr : news[j / m]? = some news[j / m] := by simp [hq]
        obtain ⟨hl, _, hc⟩ := src.row (j / m) _ hr
        have hmod : j % m < m := Nat.mod_lt _ hm0'
        have hv : news[j / m][j % m]? = some (news[j / m][j % m]'(by omega)) := by simp [hl, hmod]
        have hf := flatten_row (fun r hr => hrow r (by simp [hr])) (j / m) _ hr (j % m) _ hv
        have hjm : j / m * m + j % m = j := by rw [Nat.mul_comm]; exact Nat.div_add_mod j m
        rw [hjm, hj] at hf
        have := hc (j % m) _ hv
        simp only [elemPtr, Option.getD_some, add_add, hjm] at this
        rw [this, ← Option.some.inj hf]
      obtain ⟨v', w', hr, ho, hg, _, hat⟩ := run_append_own_at (P := P) w 0 t ty e i zv m bt hu hi hs3 hs1 hs2 (by rw [← hz, ← hs4]; simp) hm0' (.slice A rows.length c) rows.length rows.flatten own.own a news.length cs news.flatten hnl hcell
        (by intro u hu'; obtain ⟨r, hr, hur⟩ := List.mem_flatten.1 hu'; exact List.all_eq_true.1 (h1 r hr) u hur) (by unfold maxLen; omega) hb (Nat.zero_le _)
      have hform : ∃ A' c', v' = .slice A' (rows ++ news).length c' := by
        rcases ho.2 with ⟨hv, hn⟩ | ⟨g', cap, cur, hv, _⟩
        · exact ⟨none, 0, by rw [hv, List.length_append, hn]⟩
        · exact ⟨_, _, by rw [hv, List.length_append]⟩
      obtain ⟨A', c', rfl⟩ := hform
      refine ⟨A', c', w', hr, ⟨by simpa [List.flatten_append] using ho, hrow⟩, ?_, ?_⟩
      · cases A <;> exact hg
      · cases A with
        | none =>
          cases A' with
          | none => exact .inl rfl
          | some a' =>
            rcases hat with h | h
            · simp [Value.ownBlock] at h
            · exact .inr ⟨a', rfl, by simp [Value.ownBlock] at h; omega⟩
        | some a0 =>
          cases A' with
          | none => rcases hat with h | h <;> simp [Value.ownBlock] at h
          | some a' =>
            rcases hat with h | h
            · left
              rcases own.blk with ⟨h1, _⟩ | ⟨b, sp, h1, _⟩
              · cases h1
              · injection h1 with h1
                rcases ho.2 with ⟨hv, _⟩ | ⟨g', cap, cur, hv, _⟩
                · cases hv
                · injection hv with hv1
                  injection hv1 with hv1
                  simp [Value.ownBlock] at h
                  subst h1 hv1
                  simp at h
                  rw [h]
            · exact .inr ⟨a', rfl, by simp [Value.ownBlock] at h; omega⟩
  obtain ⟨A', c', w', hr, h2, h3, h4⟩ := key
  exact OW.value (w' := w') (fun a ha => by
    simp [execOp, resolve, ha.ev hx, ha.ev hy, invoke, builtin, hr]) (k A' c' w' h2 h3 h4)
end
end Go.Tb
