/- Lemmas and walks that the proof of this claim uses: D3s2, D3s3, D3s0, D3s4, D3s6D, D3s7D, D3s8D, D3s9D, D3s10D, D3s6, D3s7, D3s8, D3s9, D3s10. -/
import Derived.Test.YtmjadkjcbaohbaaTopDates4
import Derived.Sort.Grow
import Derived.Shelf.SlSortCmp.InsertionK
import Derived.Shelf.SlSortCmp.NoneTotal
set_option linter.unusedVariables false
set_option linter.unusedSimpArgs false
namespace Go.D3s
open Go.Tb Go.Proofs Go.RowKit Go.Core
theorem Tc98 : callable Try.prog 98 = true := by kernel_rfl
theorem Tc99 : callable Try.prog 99 = true := by kernel_rfl
theorem Tf105_0 : tyF Try.prog 105 0 = some 0 := by kernel_rfl
theorem Tf105_1 : tyF Try.prog 105 1 = some 1 := by kernel_rfl
theorem mixed : Try.prog.follows .mixedOrders = true := by kernel_rfl
/-- A world that has drawn and laid blocks. -/
def Gn (W w : World) : Prop := ∃ q os', w = Go.Sort.grow (W.drewN q) os'
theorem Gn.refl (W : World) : Gn W W := ⟨0, #[], by rw [Go.Sort.grow_empty]; rfl⟩
theorem Gn.alloc {W w w' : World} {o : Obj} (h : Gn W w) (e : w' = w.alloc o) : Gn W w' := by
  obtain ⟨q, os', rfl⟩ := h
  exact ⟨q, os' ++ #[o], by rw [e, Go.Sort.alloc_eq_grow, Go.Sort.grow_grow]⟩
theorem Gn.drew {W w w' : World} (h : Gn W w) (e : w' = { w with drawn := w.drawn + 1 }) : Gn W w' := by
  obtain ⟨q, os', rfl⟩ := h
  exact ⟨q + 1, os', by rw [e]; rfl⟩
section
variable {P : Program} {n : Nat} {Q : Exit → Env → World → Prop} {ρ : Env} {w : World} {ops : Array Oper} {d : Option Tmp} {ty : TypeId} {pos : String} {after : Array Edge} {g : Option (Nat × Bool)} {K : Value → World → Prop}
theorem OW.boxE {t : Nat} {x : Operand} {v : Value} (hx : ev ρ x = some v) (k : ∀ b w', w' = w.alloc (.cells v.cells t) → New w w' b (.cells v.cells t) → K (.pointer (some ⟨b, 0, none⟩)) w') : OW P n Q ⟨d, .box t x, ty, pos, after, g⟩ ρ w K :=
  OW.value (w' := w.alloc (.cells v.cells t)) (fun a ha => by simp [execOp, ha.ev hx, Instr.box, newVar, newRow]) (k _ _ rfl (New.mk' _ _))
theorem OW.buildSliceE {t e len : Nat} {parts : Array (Nat × Operand)} {vs cs : List Value} (hv : evs ρ (parts.toList.map (·.2)) = some vs)
    (hf : ∀ w : World, (Instr.buildSlice t len ((parts.toList.map (·.1)).zip vs).toArray).run P w = .ok (.slice (some ⟨w.heap.size, 0, none⟩) len len) (w.alloc (.cells cs.toArray e)))
    (k : ∀ b w', w' = w.alloc (.cells cs.toArray e) → New w w' b (.cells cs.toArray e) → K (.slice (some ⟨b, 0, none⟩) len len) w') : OW P n Q ⟨d, .buildSlice t len parts, ty, pos, after, g⟩ ρ w K := by
  refine OW.value (w' := w.alloc (.cells cs.toArray e)) (fun a ha => ?_) (k _ _ rfl (New.mk' _ _))
  simp only [execOp, zip_parts ha hv, Sem.run_bind, hf, Result.andThen_ok, Sem.run_pure]
theorem CW.drawE (S : List Nat) (X : Nat → Prop) (r : DT) {id : Nat} (hm : P.follows .mixedOrders = true) (hB : drawB ops S r = true) (h : ∀ w', w' = { w with drawn := w.drawn + 1 } → Ext w w' → DW P n ops Q S X r ρ w') : CW P n (.region id ops true) Q ρ w := fun a ha => by
  simp only [drawB, Bool.and_eq_true, decide_eq_true_eq] at hB
  refine wp_region_any hm ?_
  have hs := WA.sound (Q' := lift n Q) (fun _ _ h => h) _ _ _ _ ((DW.sound hB.1.1 r [] _ ρ _ a hB.2 (h { w with drawn := w.drawn + 1 } rfl (Ext.drew (Ext.refl w))) ha).1 rfl)
  rw [hB.1.2] at hs
  exact hs
end
def core_order_compare (a0 : Bound) (a1 : Bound) : Option Int :=
  bnd (cmp_Compare_int a0.a a1.a) fun r1 =>
  bnd (cmp_Compare_int a0.b a1.b) fun r2 =>
  bnd (cmp_Or_int [r1, r2]) fun r3 =>
  some r3
set_option maxRecDepth 20000 in
set_option maxHeartbeats 1000000 in
theorem compare_ex {a0 : Bound} {a1 : Bound} {w : World} {res : Int} (F : core_order_compare a0 a1 = some res) : Calls Try.prog 90 #[.agg #[.int .i64 a0.a, .int .i64 a0.b, .int .i64 a0.most], .agg #[.int .i64 a1.a, .int .i64 a1.b, .int .i64 a1.most]] w (fun e w' => e = .returned (.int .i64 res) ∧ Gn w w') := by
  refine calls_of_cw (args := [.agg #[.int .i64 a0.a, .int .i64 a0.b, .int .i64 a0.most], .agg #[.int .i64 a1.a, .int .i64 a1.b, .int .i64 a1.most]]) Try.func90 rfl rfl rfl rfl ?_
  have H := Hp.start w
  have G := Gn.refl w
  have R0 := H.ext
  unfold core_order_compare at F
  refine CW.seq fun K1 hK1 => ?_
  refine CW.region ?_
  refine LW.go rfl rfl (OW.boxE rfl fun b1 w1 ew1 N1 => ?_)
  replace G := G.alloc ew1
  replace H := H.new N1 N1.blk
  replace R0 := H.ext
  refine LW.go rfl rfl (OW.boxE rfl fun b2 w2 ew2 N2 => ?_)
  replace G := G.alloc ew2
  replace H := H.new N2 N2.blk
  replace R0 := H.ext
  refine LW.pure rfl rfl (RV.assign rfl) ?_
  refine LW.nil (hK1 _ _ ?_)
  refine CW.seq fun K2 hK2 => ?_
  obtain ⟨r1, hr1, F⟩ := bnd_some F
  obtain ⟨r2, hr2, F⟩ := bnd_some F
  obtain ⟨r3, hr3, F⟩ := bnd_some F
  refine CW.drawE [] (fun _ => True) (.cons 0 1 (.cons 1 1 (.cons 2 1 (.cons 3 1 (.cons 5 1 (.cons 6 1 (.cons 7 1 (.cons 8 1 (.cons 4 0 (.cons 9 0 (.cons 10 0 (.cons 11 0 (.cons 12 1 .nil))))))))))))) mixed (by kernel_rfl) fun w3 ew3 E1 => ?_
  replace G := G.drew ew3
  replace H := H.grow E1
  replace R0 := H.ext
  refine DW.fix rfl rfl rfl (fun _ EQ => RV.fieldAddr Tf105_0 rfl) ?_
  refine DW.fix rfl rfl rfl (fun _ EQ => RV.load1 Tk3 rfl (((H.grow EQ).blk 1 rfl).cells.off 0) rfl) ?_
  refine DW.fix rfl rfl rfl (fun _ EQ => RV.fieldAddr Tf105_0 rfl) ?_
  refine DW.fix rfl rfl rfl (fun _ EQ => RV.load1 Tk3 rfl (((H.grow EQ).blk 0 rfl).cells.off 0) rfl) ?_
  refine DW.fix rfl rfl rfl (fun _ EQ => RV.fieldAddr Tf105_1 rfl) ?_
  refine DW.fix rfl rfl rfl (fun _ EQ => RV.load1 Tk3 rfl (((H.grow EQ).blk 1 rfl).cells.off 1) rfl) ?_
  refine DW.fix rfl rfl rfl (fun _ EQ => RV.fieldAddr Tf105_1 rfl) ?_
  refine DW.fix rfl rfl rfl (fun _ EQ => RV.load1 Tk3 rfl (((H.grow EQ).blk 0 rfl).cells.off 1) rfl) ?_
  refine DW.sole rfl rfl rfl (OW.call Tc99 rfl (cmp_Compare_int_ex (a0 := a0.a) (a1 := a1.a) hr1) ?_)
  rintro _ _ ⟨rfl, rfl⟩
  refine ⟨_, rfl, fun _ => Ext.refl _, ModX.refl _ _, ?_⟩
  replace R0 := H.ext
  refine DW.sole rfl rfl rfl (OW.call Tc99 rfl (cmp_Compare_int_ex (a0 := a0.b) (a1 := a1.b) hr2) ?_)
  rintro _ _ ⟨rfl, rfl⟩
  refine ⟨_, rfl, fun _ => Ext.refl _, ModX.refl _ _, ?_⟩
  replace R0 := H.ext
  refine DW.sole rfl rfl rfl (OW.buildSliceE (e := 3) (vs := [.int .i64 r1, .int .i64 r2]) (cs := [.int .i64 r1, .int .i64 r2]) rfl (fun _ => by kernel_rfl) fun b3 w6 ew6 N3 => ?_)
  replace G := G.alloc ew6
  refine ⟨fun _ => N3.ext, ModX.ext N3.ext, ?_⟩
  replace H := H.made' (k := 1) (t := 3) (enc := encN) (l := ([r1, r2] : List Int)) N3 N3.blk (fun _ => rfl) rfl (by first | decide | omega | (simp; done) | (simp; omega))
  replace R0 := H.ext
  refine DW.sole rfl rfl rfl (OW.call Tc98 (evs_cast rfl (by first | rfl | (simp; done) | (simp; omega))) (cmp_Or_int_ex (a0 := ([r1, r2] : List Int)) (H.own 0 rfl).sl hr3) ?_)
  rintro _ _ ⟨rfl, rfl⟩
  refine ⟨_, rfl, fun _ => Ext.refl _, ModX.refl _ _, ?_⟩
  replace R0 := H.ext
  refine DW.fix rfl rfl rfl (fun _ EQ => RV.assign rfl) ?_
  refine DW.nil (hK2 _ _ ?_)
  refine CW.ret ?_
  obtain rfl := Option.some.inj F
  refine ⟨_, (ResOK.one rfl), ?_⟩
  exact ⟨rfl, G⟩
def cfB (x y : Bound) : Int := if x.a < y.a then -1 else if y.a < x.a then 1 else if x.b < y.b then -1 else if y.b < x.b then 1 else 0
theorem compare_int (x y : Int) : cmp_Compare_int x y = some (if x < y then -1 else if y < x then 1 else 0) := by
  unfold cmp_Compare_int cmp_isNaN_int
  simp only [decide_true, Bool.not_true, bnd_eq rfl, if_false, Bool.false_eq_true]
  by_cases h1 : x < y
  · rw [if_pos h1, if_pos h1]
  · rw [if_neg h1, if_neg h1]
    by_cases h2 : y < x
    · rw [if_pos h2, if_pos h2]
    · rw [if_neg h2, if_neg h2]
theorem or_int (x y : Int) : cmp_Or_int [x, y] = some (if x = 0 then y else x) := by
  obtain ⟨m, hm⟩ : ∃ m, FU = m + 3 := ⟨FU - 3, by have := FU_pos; omega⟩
  unfold cmp_Or_int
  rw [hm]
  show cmp_Or_int_B1 [x, y] (cmp_Or_int_L1 [x, y] (m + 2)) 0 = _
  unfold cmp_Or_int_B1
  rw [if_pos (by simp), ix_eq (x := x) (by simp) rfl]
  by_cases h : x = 0
  · rw [if_pos h, if_pos h, gd_pos (by omega)]
    show cmp_Or_int_B1 [x, y] (cmp_Or_int_L1 [x, y] (m + 1)) 1 = _
    unfold cmp_Or_int_B1
    rw [if_pos (by simp), ix_eq (x := y) (by simp) rfl]
    by_cases h2 : y = 0
    · rw [if_pos h2, gd_pos (by omega)]
      show cmp_Or_int_B1 [x, y] (cmp_Or_int_L1 [x, y] m) 2 = _
      unfold cmp_Or_int_B1 cmp_Or_int_k1
      rw [if_neg (by simp), h2]
    · rw [if_neg h2]
  · rw [if_neg h, if_neg h]
theorem compare_eq (x y : Bound) : core_order_compare x y = some (cfB x y) := by
  unfold core_order_compare cfB
  rw [bnd_eq (compare_int _ _), bnd_eq (compare_int _ _), bnd_eq (or_int _ _)]
  by_cases h1 : x.a < y.a
  · simp [h1]
  · by_cases h2 : y.a < x.a
    · simp [h1, h2]
    · simp [h1, h2]
end Go.D3s

set_option linter.unusedVariables false
set_option linter.unusedSimpArgs false
namespace Go.D3s
open Go.Tb Go.Proofs Go.RowKit Go.Core Go.Sort Go.Lib
section
variable {α : Type} [Inhabited α] {enc : α → List Value} {k : Nat}
theorem flat_at (hk : ∀ x, (enc x).length = k) (k0 : 0 < k) : ∀ (l : List α) (t : Nat), t < l.length * k → (l.flatMap enc)[t]? = some ((enc (l.toArray[t / k]!))[t % k]!)
  | [], t, h => by simp at h
  | x :: l, t, h => by
    rw [List.flatMap_cons]
    by_cases ht : t < k
    · rw [List.getElem?_append_left (by rw [hk]; exact ht), Nat.div_eq_of_lt ht, Nat.mod_eq_of_lt ht]
      have h0 : (x :: l).toArray[0]! = x := rfl
      rw [h0, List.getElem?_eq_getElem (by rw [hk]; exact ht), getElem!_pos _ _ (by rw [hk]; exact ht)]
    · have hl : t - k < l.length * k := by
        have : (x :: l).length * k = l.length * k + k := by rw [List.length_cons, Nat.succ_mul]
        omega
      have e1 : t / k = (t - k) / k + 1 := by rw [← Nat.add_div_right _ k0]; congr 1; omega
      have e2 : t % k = (t - k) % k := by rw [Nat.mod_eq_sub_mod (by omega)]
      rw [List.getElem?_append_right (by rw [hk]; omega), hk, flat_at hk k0 l (t - k) hl, e1, e2]
      have h1 : (x :: l).toArray[(t - k) / k + 1]! = l.toArray[(t - k) / k]! := by
        have hlt : (t - k) / k < l.length := Nat.div_lt_of_lt_mul (by rw [Nat.mul_comm]; exact hl)
        rw [getElem!_pos _ _ (by simp; omega), getElem!_pos _ _ (by simpa using hlt)]
        simp
      rw [h1]
theorem flatK_eq (hk : ∀ x, (enc x).length = k) (k0 : 0 < k) (l : List α) : flatK enc k l.toArray = (l.flatMap enc).toArray := by
  have hlen : (l.flatMap enc).length = l.length * k := len_flatMap hk l
  apply Array.ext
  · simp [hlen]
  · intro t h1 h2
    have ht : t < l.length * k := by simpa using h1
    have h := get_flatK enc k l.toArray t (by simpa using ht)
    rw [getElem!_pos _ t h1] at h
    rw [h]
    have h' := flat_at hk k0 l t ht
    have h3 : (l.flatMap enc).toArray[t]? = some ((enc (l.toArray[t / k]!))[t % k]!) := by simpa using h'
    rw [Array.getElem?_eq_getElem h2] at h3
    exact (Option.some.inj h3).symm
theorem own_holdsK {w : World} {b c t : Nat} {l : List α} (hk : ∀ x, (enc x).length = k) (k0 : 0 < k) (o : Own w (some ⟨b, 0, none⟩) c t k (l.map enc)) : HoldsK enc k w b 0 l.toArray := by
  unfold HoldsK
  rw [flatK_eq hk k0]
  rcases o.blk with ⟨h, _⟩ | ⟨b', sp, hA, hB, _⟩
  · cases h
  · cases hA
    intro j hj
    unfold Blk at hB
    rw [← List.flatMap_def] at hB
    have hj' : j < (l.flatMap enc).length := by simpa using hj
    constructor
    · simp only [World.cell?, Nat.zero_add, hB]
      simp only [List.getElem?_toArray, List.getElem?_append_left hj', List.getElem?_eq_getElem hj', id]
      rw [getElem!_pos _ j hj]
      simp
    · simp [World.frozen?, hB]
theorem putCells_flat {F F' sp : List Value} (h : F'.length = F.length) : Go.Sort.putCells id 0 F'.toArray (F ++ sp).toArray = (F' ++ sp).toArray := by
  unfold Go.Sort.putCells
  apply Array.ext
  · simp [h]
  · intro i h1 h2
    simp only [Array.getElem_mapIdx]
    by_cases hi : i < F'.length
    · rw [if_pos ⟨by omega, by simpa using hi⟩]
      simp [List.getElem_append_left hi, getElem!_pos, hi]
    · rw [if_neg (by simp; omega)]
      simp [List.getElem_append_right, h, hi]
      rw [List.getElem_append_right (by omega), List.getElem_append_right (by omega)]
      simp [h]
theorem own_sorted {w : World} {b c t n : Nat} {os : Array Obj} {l l' : List α} (hk : ∀ x, (enc x).length = k) (k0 : 0 < k) (o : Own w (some ⟨b, 0, none⟩) c t k (l.map enc)) (hl : l'.length = l.length) :
    Own (sortWorldK enc k w b 0 n l'.toArray os) (some ⟨b, 0, none⟩) c t k (l'.map enc) ∧ Mod w (sortWorldK enc k w b 0 n l'.toArray os) (some ⟨b, 0, none⟩) := by
  unfold sortWorldK putRowK
  rw [flatK_eq hk k0]
  have hlen : ∀ m : List α, (m.flatMap enc).length = m.length * k := len_flatMap hk
  rcases o.blk with ⟨h, _⟩ | ⟨b', sp, hA, hB, hc1, hc2⟩
  · cases h
  cases hA
  have hlt := hB.lt
  unfold Blk at hB
  rw [← List.flatMap_def] at hB
  have hnew : (Go.Sort.grow (Go.Sort.putRow id (Go.Sort.ahead w n) b 0 (l'.flatMap enc).toArray) os).heap[b]? = some (.cells ((l'.flatMap enc ++ sp).toArray) t (0, 0)) := by
    unfold Go.Sort.grow Go.Sort.putRow Go.Sort.mapBlock Go.Sort.ahead
    simp only
    rw [Array.getElem?_append_left (by simpa using hlt), Array.getElem?_modify, if_pos rfl, hB]
    simp only [Option.map_some, Go.Sort.onCells]
    rw [putCells_flat (by rw [hlen, hlen, hl])]
  refine ⟨⟨⟨by rw [← List.flatMap_def, hlen]; simp, ?_⟩, by intro r hr; obtain ⟨x, _, rfl⟩ := List.mem_map.1 hr; exact hk x⟩, ?_⟩
  · rcases o.own.2 with ⟨hv, _⟩ | ⟨g', cap, cur0, hv, hg, hh, hnc, hcm, hcs, ht⟩
    · injection hv with e; cases e
    · injection hv with e1 e2 e3
      injection e1 with e1
      injection e1 with e1
      subst e1; subst e3
      have hcur : cur0 = (l.flatMap enc ++ sp).toArray := by
        have := hB.symm.trans hh
        injection this with this
        injection this with this
        exact this.symm
      refine .inr ⟨b, c, _, by simp, hg, hnew, by simpa [hl] using hnc, hcm, ?_, ?_⟩
      · rw [← hcs, hcur]; simp [hlen, hl]
      · simp [← List.flatMap_def, ← hlen]
  · refine ⟨rfl, rfl, rfl, ?_, fun j hj hne => ?_⟩
    · unfold Go.Sort.grow Go.Sort.putRow Go.Sort.mapBlock Go.Sort.ahead
      simp
    · unfold Go.Sort.grow Go.Sort.putRow Go.Sort.mapBlock Go.Sort.ahead
      simp only
      rw [Array.getElem?_append_left (by simpa using hj), Array.getElem?_modify, if_neg (fun e => hne (by rw [← e]; rfl))]
end
end Go.D3s

set_option linter.unusedVariables false
set_option linter.unusedSimpArgs false
namespace Go.D3s
open Go.Tb Go.Core
def ltB (x y : Bound) : Bool := decide (x.a < y.a ∨ (x.a = y.a ∧ x.b < y.b))
def DistB (l : List Bound) : Prop := l.Pairwise fun x y => ¬ (x.a = y.a ∧ x.b = y.b)
instance instDecDistB (l : List Bound) : Decidable (DistB l) := by unfold DistB; infer_instance
def sortB (l : List Bound) : List Bound := l.mergeSort fun x y => !ltB y x
theorem leB_iff {x y : Bound} : (!ltB y x) = true ↔ x.a < y.a ∨ (x.a = y.a ∧ x.b ≤ y.b) := by
  unfold ltB
  simp only [Bool.not_eq_true', decide_eq_false_iff_not]
  omega
theorem sortB_sorted (l : List Bound) : (sortB l).Pairwise fun x y => (!ltB y x) = true :=
  List.pairwise_mergeSort (fun a b c h1 h2 => by rw [leB_iff] at *; omega) (fun a b => by
    rw [Bool.or_eq_true, leB_iff, leB_iff]; omega) l
theorem distB_perm {l l' : List Bound} (hp : l'.Perm l) (h : DistB l) : DistB l' :=
  (hp.pairwise_iff (fun {x y} h e => h ⟨e.1.symm, e.2.symm⟩)).2 h
theorem distB_eq {l : List Bound} (h : DistB l) {x y : Bound} (hx : x ∈ l) (hy : y ∈ l) (e : x.a = y.a ∧ x.b = y.b) : x = y := by
  obtain ⟨i, hi⟩ := List.getElem?_of_mem hx
  obtain ⟨j, hj⟩ := List.getElem?_of_mem hy
  obtain ⟨hil, rfl⟩ := List.getElem?_eq_some_iff.1 hi
  obtain ⟨hjl, rfl⟩ := List.getElem?_eq_some_iff.1 hj
  have hp := List.pairwise_iff_getElem.1 h
  rcases Nat.lt_trichotomy i j with h' | h' | h'
  · exact absurd e (hp i j hil hjl h')
  · subst h'; rfl
  · exact absurd ⟨e.1.symm, e.2.symm⟩ (hp j i hjl hil h')
/-- Of lists with the same orders, no two with the same layers, one is sorted. -/
theorem sorted_uniq {l l' : List Bound} (hp : l'.Perm l) (h1 : l.Pairwise fun x y => (!ltB y x) = true) (h2 : l'.Pairwise fun x y => (!ltB y x) = true) (hd : DistB l) : l' = l := by
  refine List.Perm.eq_of_pairwise (le := fun x y => (!ltB y x) = true) (fun a b ha hb hab hba => ?_) h2 h1 hp
  rw [leB_iff] at hab hba
  exact distB_eq hd (hp.subset ha) hb (by omega)
theorem sortB_of {l l' : List Bound} (hp : l'.Perm l) (hs : l'.Pairwise fun x y => ltB y x = false) (hd : DistB l) : l' = sortB l := by
  have hq : (sortB l).Perm l := List.mergeSort_perm l _
  exact sorted_uniq (hp.trans hq.symm) (sortB_sorted l) (hs.imp fun h => by rw [h]; rfl) (distB_perm hq hd)
end Go.D3s

set_option linter.unusedVariables false
set_option linter.unusedSimpArgs false
namespace Go.Proofs
open Go.Shelf
def Try.sortL_ren : Go.Shelf.Ren := ⟨fun | 6 => 89 | 15 => 97 | 14 => 96 | 28 => 110 | 29 => 111 | 20 => 102 | 21 => 103 | 22 => 104 | 23 => 105 | 24 => 106 | 25 => 107 | 26 => 108 | 27 => 109 | 46 => 113 | 47 => 114 | 48 => 115 | 49 => 116 | 50 => 117 | 57 => 118 | n => n, fun | 22 => 104 | 24 => 105 | 25 => 107 | 3 => 3 | 39 => 112 | 0 => 0 | 53 => 119 | 55 => 122 | 4 => 4 | 46 => 127 | 45 => 126 | 50 => 131 | 5 => 5 | 9 => 9 | 66 => 135 | 70 => 139 | 76 => 141 | 77 => 142 | n => n, fun | n => n⟩
theorem Try.sortL : Go.Proofs.SlLaysF0.n6 Try.prog Try.sortL_ren where
  mixed := by kernel_rfl
  f6 := ⟨Try.f89.name, by decide, Try.func89.trans (congrArg some (by kernel_rfl))⟩
  f14 := ⟨Try.f96.name, by decide, Try.func96.trans (congrArg some (by kernel_rfl))⟩
  f15 := Try.func97.trans (congrArg some (by kernel_rfl))
  f20 := ⟨Try.f102.name, by decide, Try.func102.trans (congrArg some (by kernel_rfl))⟩
  f21 := ⟨Try.f103.name, by decide, Try.func103.trans (congrArg some (by kernel_rfl))⟩
  f22 := ⟨Try.f104.name, by decide, Try.func104.trans (congrArg some (by kernel_rfl))⟩
  f23 := ⟨Try.f105.name, by decide, Try.func105.trans (congrArg some (by kernel_rfl))⟩
  f24 := ⟨Try.f106.name, by decide, Try.func106.trans (congrArg some (by kernel_rfl))⟩
  f25 := ⟨Try.f107.name, by decide, Try.func107.trans (congrArg some (by kernel_rfl))⟩
  f26 := ⟨Try.f108.name, by decide, Try.func108.trans (congrArg some (by kernel_rfl))⟩
  f27 := ⟨Try.f109.name, by decide, Try.func109.trans (congrArg some (by kernel_rfl))⟩
  f28 := Try.func110.trans (congrArg some (by kernel_rfl))
  f29 := Try.func111.trans (congrArg some (by kernel_rfl))
  f46 := ⟨Try.f113.name, by decide, Try.func113.trans (congrArg some (by kernel_rfl))⟩
  f47 := Try.func114.trans (congrArg some (by kernel_rfl))
  f48 := Try.func115.trans (congrArg some (by kernel_rfl))
  f49 := ⟨Try.f116.name, by decide, Try.func116.trans (congrArg some (by kernel_rfl))⟩
  f50 := ⟨Try.f117.name, by decide, Try.func117.trans (congrArg some (by kernel_rfl))⟩
  f57 := ⟨Try.f118.name, by decide, Try.func118.trans (congrArg some (by kernel_rfl))⟩
  t0 := Try.underlying0
  a0 := Try.isAgg0
  z0 := Try.sizeOf0
  v0 := Try.zeroValue0
  t3 := Try.underlying3
  a3 := Try.isAgg3
  z3 := Try.sizeOf3
  v3 := Try.zeroValue3
  t4 := Try.underlying4
  a4 := Try.isAgg4
  z4 := Try.sizeOf4
  v4 := Try.zeroValue4
  t5 := Try.underlying5
  a5 := Try.isAgg5
  z5 := Try.sizeOf5
  v5 := Try.zeroValue5
  t9 := Try.underlying9
  a9 := Try.isAgg9
  z9 := Try.sizeOf9
  v9 := Try.zeroValue9
  t22 := Try.underlying104
  a22 := Try.isAgg104
  z22 := Try.sizeOf104
  v22 := Try.zeroValue104
  t25 := Try.underlying107
  a25 := Try.isAgg107
  z25 := Try.sizeOf107
  v25 := Try.zeroValue107
  t39 := Try.underlying112
  a39 := Try.isAgg112
  z39 := Try.sizeOf112
  v39 := Try.zeroValue112
  t45 := Try.underlying126
  a45 := Try.isAgg126
  z45 := Try.sizeOf126
  v45 := Try.zeroValue126
  t46 := Try.underlying127
  a46 := Try.isAgg127
  z46 := Try.sizeOf127
  v46 := Try.zeroValue127
  t50 := Try.underlying131
  a50 := Try.isAgg131
  z50 := Try.sizeOf131
  v50 := Try.zeroValue131
  t53 := Try.underlying119
  a53 := Try.isAgg119
  z53 := Try.sizeOf119
  v53 := Try.zeroValue119
  t55 := Try.underlying122
  a55 := Try.isAgg122
  z55 := Try.sizeOf122
  v55 := Try.zeroValue122
  t66 := Try.underlying135
  a66 := Try.isAgg135
  z66 := Try.sizeOf135
  v66 := Try.zeroValue135
  t70 := Try.underlying139
  a70 := Try.isAgg139
  z70 := Try.sizeOf139
  v70 := Try.zeroValue139
  t76 := Try.underlying141
  a76 := Try.isAgg141
  z76 := Try.sizeOf141
  v76 := Try.zeroValue141
  t77 := Try.underlying142
  a77 := Try.isAgg142
  z77 := Try.sizeOf142
  v77 := Try.zeroValue142
end Go.Proofs
namespace Go.D3s
open Go.Tb Go.Proofs Go.RowKit Go.Core Go.D3 Go.Sort Go.Lib
instance instInhabitedBound : Inhabited Bound := ⟨⟨0, 0, 0⟩⟩
theorem ltOf_cfB (x y : Bound) : ltOf cfB x y = ltB x y := by
  unfold ltOf cfB ltB
  by_cases h1 : x.a < y.a
  · simp [h1]
  · by_cases h2 : y.a < x.a
    · have : ¬ x.a = y.a := by omega
      simp [h1, h2, this]
    · have : x.a = y.a := by omega
      by_cases h3 : x.b < y.b
      · simp [h1, h2, h3, this]
      · by_cases h4 : y.b < x.b <;> simp [h1, h2, h3, h4, this]
theorem swoB : SWO (ltOf cfB) where
  irrefl x := by rw [ltOf_cfB]; unfold ltB; simp
  trans x y z h1 h2 := by rw [ltOf_cfB] at *; unfold ltB at *; simp at *; omega
  ntrans x y z h1 h2 := by rw [ltOf_cfB] at *; unfold ltB at *; simp at *; omega
theorem cmpLaysB (blk off size : Nat) (w : World) : CmpLays Try.prog 90 #[] encBound 3 cfB blk off size w := fun m os dk _ x y => compare_ex (compare_eq x y)
theorem sort_core {l : List Bound} {A : Option Addr} {c : Nat} {w : World} (o : Own w A c 105 3 (l.map encBound)) (hn : l.length ≤ 1000000) :
    Calls Try.prog 89 #[.slice A l.length c, .func (.func 90) #[] #[]] w (fun e w' => e = .returned (.tuple #[]) ∧ ∃ l' : List Bound, l'.Perm l ∧ l'.Pairwise (fun x y => ltB y x = false) ∧ Own w' A c 105 3 (l'.map encBound) ∧ Mod w w' A) := by
  by_cases h0 : l.length = 0
  · have := AnyF.slices_SortFunc_none (P := Try.prog) (ρ := Try.sortL_ren) { Try.sortL with } A c (.func (.func 90) #[] #[]) w
    have hl : l = [] := List.length_eq_zero_iff.1 h0
    subst hl
    refine (show Calls Try.prog 89 #[.slice A 0 c, .func (.func 90) #[] #[]] w _ from this).mono ?_
    rintro e w' ⟨rfl, rfl⟩
    exact ⟨rfl, [], List.Perm.refl _, List.Pairwise.nil, o, Mod.refl _ _⟩
  · obtain ⟨b, rfl⟩ := o.at0 (by omega)
    have hH := own_holdsK (enc := encBound) (fun _ => rfl) (by omega) o
    have hb : b < w.heap.size := o.lt b (by simp [adB])
    have hcap := o.sl.cap
    have hle := o.sl.le
    have eg : ∀ args w, (callFunc 90 args).run Try.prog w = .ok (.enter 90 args) w := enters_of Try.func90 (by kernel_rfl) rfl
    have hcon := AnyQ.slices_SortFunc Try.sortL 3 Try.isAgg105 Try.sizeOf105 encBound (fun _ => rfl) (fun x v hv => by simp [encBound] at hv; rcases hv with rfl | rfl | rfl <;> rfl) cfB swoB 90 #[] b 0 c l.toArray w eg (cmpLaysB b 0 l.toArray.size w) hH hb (by simp only [List.size_toArray]; omega)
    refine (show Calls Try.prog 89 #[.slice (some ⟨b, 0, none⟩) l.length c, .func (.func 90) #[] #[]] w _ from hcon).mono ?_
    rintro e w' ⟨rfl, d', n, os, hp, hs, rfl⟩
    have hsz : d'.size = l.length := by simpa using hp.1
    obtain ⟨d'⟩ := d'
    have hsz' : d'.length = l.length := by simpa using hsz
    have ho := own_sorted (n := n) (os := os) (enc := encBound) (l' := d') (fun _ => rfl) (by omega) o hsz'
    refine ⟨rfl, d', ?_, ?_, ho.1, ho.2⟩
    · have := hp.2.2
      simpa [hsz', List.take_of_length_le] using this
    · rw [List.pairwise_iff_getElem]
      intro i j hi hj hij
      have := hs i j (Nat.zero_le _) hij (by simpa [← hsz'] using hj)
      rw [ltOf_cfB, getElem!_pos _ j (by simpa using hj), getElem!_pos _ i (by simpa using hi)] at this
      simpa using this
end Go.D3s

set_option linter.unusedVariables false
namespace Go.D3
open Go.Tb Go.Core
def slices_SortFunc_order (a0 : List Bound) : Option (List Bound) :=
  gd (a0.length ≤ 1000000 ∧ D3s.DistB a0) <|
  some (D3s.sortB a0)
end Go.D3

set_option linter.unusedVariables false
namespace Go.D3
open Go.Tb Go.Core
def core_fixed (a0 : List (List Tight)) (a1 : Int) (a2 : Int) : Option Bool :=
  ix a0 a1 fun x1 =>
  ix x1 a2 fun x2 =>
  if x2.known = true then
    ix a0 a2 fun x3 =>
    ix x3 a1 fun x4 =>
    if x4.known = true then
      ix a0 a1 fun x5 =>
      ix x5 a2 fun x6 =>
      ix a0 a2 fun x7 =>
      ix x7 a1 fun x8 =>
      gd (InR (-x8.most)) <|
      some (decide (x6.most = (-x8.most)))
    else
      some false
  else
    some false
def ref03_layered_k1 (a0 : Core) (t26_1 : Bool) : Option Int :=
  if t26_1 = true then
    some ((4 : Int))
  else
    bnd (ref03_clashes a0) fun r1 =>
    if r1 = true then
      some ((10 : Int))
    else
      some ((0 : Int))
def ref03_layered (a0 : Core) (a1 : Int) (a2 : Int) : Option Int :=
  bnd (ref03_Validate a0) fun r2 =>
  if r2 = 0 then
    gd (InR (a0.layers - 1)) <|
    bnd (ref03_within a1 ((0 : Int)) (a0.layers - 1)) fun r3 =>
    if r3 = true then
      gd (InR (a0.layers - 1)) <|
      bnd (ref03_within a2 ((0 : Int)) (a0.layers - 1)) fun r4 =>
      ref03_layered_k1 a0 ((!r4))
    else
      ref03_layered_k1 a0 true
  else
    some r2
end Go.D3

set_option linter.unusedVariables false
namespace Go.D3
open Go.Tb Go.Core
def core_plain_k1 (l1 : List Bound) : Option ((List Bound)) :=
  some l1
def core_plain_B1 (l2 : List Bound) (r1 : (List Bound)) (rec1 : Int → (List Bound) → Option ((List Bound))) (t52_1 : Int) (l3 : List Bound) : Option ((List Bound)) :=
  if t52_1 < ((l2.length : Int)) then
    ix r1 t52_1 fun x1 =>
    gd (l3.length + (([x1] : List Bound)).length ≤ 1000000) <|
    gd (InR (t52_1 + 1)) <|
    rec1 ((t52_1 + 1)) (((l3 ++ ([x1] : List Bound))))
  else
    core_plain_k1 l3
def core_plain_L1 (l2 : List Bound) (r1 : (List Bound)) : Nat → Int → (List Bound) → Option ((List Bound))
  | 0, _, _ => none
  | n_ + 1, t52_1, l3 => core_plain_B1 l2 r1 (core_plain_L1 l2 r1 n_) t52_1 l3
theorem core_plain_L1_s {l2 : List Bound} {r1 : (List Bound)} {m_ : Nat} {t52_1 : Int} {l3 : List Bound} {res : (List Bound)} (h : core_plain_L1 l2 r1 m_ t52_1 l3 = some res) : ∃ k, m_ = k + 1 ∧ core_plain_B1 l2 r1 (core_plain_L1 l2 r1 k) t52_1 l3 = some res := by
  cases m_ with
  | zero => cases h
  | succ k => exact ⟨k, rfl, h⟩
def core_plain_k2 (l2 : List Bound) : Option ((List Bound)) :=
  bnd (slices_SortFunc_order l2) fun r1 =>
  core_plain_L1 l2 r1 FU (((0 : Int))) ((([] : List Bound)))
def core_plain_k3 (t11_1 : Int) (rec2 : Int → (List Bound) → Option ((List Bound))) (l4 : List Bound) : Option ((List Bound)) :=
  gd (InR (t11_1 + 1)) <|
  rec2 ((t11_1 + 1)) l4
def core_plain_k4 (t16_1 : Int) (rec3 : Int → (List Bound) → Option ((List Bound))) (l5 : List Bound) : Option ((List Bound)) :=
  gd (InR (t16_1 + 1)) <|
  rec3 ((t16_1 + 1)) l5
def core_plain_k5 (a0 : List (List Tight)) (t11_1 : Int) (t16_1 : Int) (l6 : List Bound) (rec3 : Int → (List Bound) → Option ((List Bound))) (t31_1 : Bool) : Option ((List Bound)) :=
  if t31_1 = true then
    ix a0 t16_1 fun x2 =>
    ix x2 t11_1 fun x3 =>
    gd (l6.length + (([(⟨t16_1, t11_1, x3.most⟩ : Bound)] : List Bound)).length ≤ 1000000) <|
    core_plain_k4 t16_1 rec3 (((l6 ++ ([(⟨t16_1, t11_1, x3.most⟩ : Bound)] : List Bound))))
  else
    core_plain_k4 t16_1 rec3 l6
def core_plain_B2 (a0 : List (List Tight)) (t11_1 : Int) (rec2 : Int → (List Bound) → Option ((List Bound))) (rec3 : Int → (List Bound) → Option ((List Bound))) (t16_1 : Int) (l6 : List Bound) : Option ((List Bound)) :=
  if t16_1 < ((a0.length : Int)) then
    if t16_1 = t11_1 then
      core_plain_k5 a0 t11_1 t16_1 l6 rec3 false
    else
      ix a0 t16_1 fun x4 =>
      ix x4 t11_1 fun x5 =>
      core_plain_k5 a0 t11_1 t16_1 l6 rec3 x5.known
  else
    core_plain_k3 t11_1 rec2 l6
def core_plain_L2 (a0 : List (List Tight)) (t11_1 : Int) (rec2 : Int → (List Bound) → Option ((List Bound))) : Nat → Int → (List Bound) → Option ((List Bound))
  | 0, _, _ => none
  | n_ + 1, t16_1, l6 => core_plain_B2 a0 t11_1 rec2 (core_plain_L2 a0 t11_1 rec2 n_) t16_1 l6
theorem core_plain_L2_s {a0 : List (List Tight)} {t11_1 : Int} {rec2 : Int → (List Bound) → Option ((List Bound))} {m_ : Nat} {t16_1 : Int} {l6 : List Bound} {res : (List Bound)} (h : core_plain_L2 a0 t11_1 rec2 m_ t16_1 l6 = some res) : ∃ k, m_ = k + 1 ∧ core_plain_B2 a0 t11_1 rec2 (core_plain_L2 a0 t11_1 rec2 k) t16_1 l6 = some res := by
  cases m_ with
  | zero => cases h
  | succ k => exact ⟨k, rfl, h⟩
def core_plain_B3 (a0 : List (List Tight)) (rec2 : Int → (List Bound) → Option ((List Bound))) (t11_1 : Int) (l7 : List Bound) : Option ((List Bound)) :=
  if t11_1 < ((a0.length : Int)) then
    core_plain_L2 a0 t11_1 rec2 FU (((0 : Int))) l7
  else
    core_plain_k2 l7
def core_plain_L3 (a0 : List (List Tight)) : Nat → Int → (List Bound) → Option ((List Bound))
  | 0, _, _ => none
  | n_ + 1, t11_1, l7 => core_plain_B3 a0 (core_plain_L3 a0 n_) t11_1 l7
theorem core_plain_L3_s {a0 : List (List Tight)} {m_ : Nat} {t11_1 : Int} {l7 : List Bound} {res : (List Bound)} (h : core_plain_L3 a0 m_ t11_1 l7 = some res) : ∃ k, m_ = k + 1 ∧ core_plain_B3 a0 (core_plain_L3 a0 k) t11_1 l7 = some res := by
  cases m_ with
  | zero => cases h
  | succ k => exact ⟨k, rfl, h⟩
def core_plain (a0 : List (List Tight)) : Option ((List Bound)) :=
  core_plain_L3 a0 FU (((0 : Int))) ((([] : List Bound)))
end Go.D3

set_option linter.unusedVariables false
namespace Go.D3
open Go.Tb Go.Core
def core_Plain (a0 : Core) : Option ((List Bound) × Int) :=
  bnd (core_Validate a0) fun r1 =>
  if r1 = 0 then
    bnd (core_tables a0) fun r2 =>
    if r2.2 = 0 then
      bnd (core_plain r2.1) fun r3 =>
      some (r3, (0 : Int))
    else
      some (([] : List Bound), r2.2)
  else
    some (([] : List Bound), r1)
def ref03_plain_k1 (l1 : List Bound) : Option ((List Bound)) :=
  some l1
def ref03_plain_k2 (t6_1 : Int) (rec1 : Int → (List Bound) → Option ((List Bound))) (l2 : List Bound) : Option ((List Bound)) :=
  gd (InR (t6_1 + 1)) <|
  rec1 ((t6_1 + 1)) l2
def ref03_plain_k3 (t7_1 : Int) (rec2 : Int → (List Bound) → Option ((List Bound))) (l3 : List Bound) : Option ((List Bound)) :=
  gd (InR (t7_1 + 1)) <|
  rec2 ((t7_1 + 1)) l3
def ref03_plain_k4 (r1 : (List (List Int)) × (List (List Bool))) (t6_1 : Int) (t7_1 : Int) (l4 : List Bound) (rec2 : Int → (List Bound) → Option ((List Bound))) (t38_1 : Bool) : Option ((List Bound)) :=
  if t38_1 = true then
    ix r1.1 t6_1 fun x1 =>
    ix x1 t7_1 fun x2 =>
    gd (l4.length + (([(⟨t6_1, t7_1, x2⟩ : Bound)] : List Bound)).length ≤ 1000000) <|
    ref03_plain_k3 t7_1 rec2 (((l4 ++ ([(⟨t6_1, t7_1, x2⟩ : Bound)] : List Bound))))
  else
    ref03_plain_k3 t7_1 rec2 l4
def ref03_plain_B1 (a0 : Core) (r1 : (List (List Int)) × (List (List Bool))) (t6_1 : Int) (rec1 : Int → (List Bound) → Option ((List Bound))) (rec2 : Int → (List Bound) → Option ((List Bound))) (t7_1 : Int) (l4 : List Bound) : Option ((List Bound)) :=
  if t7_1 < a0.layers then
    if t6_1 = t7_1 then
      ref03_plain_k4 r1 t6_1 t7_1 l4 rec2 false
    else
      ix r1.2 t6_1 fun x3 =>
      ix x3 t7_1 fun x4 =>
      ref03_plain_k4 r1 t6_1 t7_1 l4 rec2 x4
  else
    ref03_plain_k2 t6_1 rec1 l4
def ref03_plain_L1 (a0 : Core) (r1 : (List (List Int)) × (List (List Bool))) (t6_1 : Int) (rec1 : Int → (List Bound) → Option ((List Bound))) : Nat → Int → (List Bound) → Option ((List Bound))
  | 0, _, _ => none
  | n_ + 1, t7_1, l4 => ref03_plain_B1 a0 r1 t6_1 rec1 (ref03_plain_L1 a0 r1 t6_1 rec1 n_) t7_1 l4
def ref03_plain_B2 (a0 : Core) (r1 : (List (List Int)) × (List (List Bool))) (rec1 : Int → (List Bound) → Option ((List Bound))) (t6_1 : Int) (l5 : List Bound) : Option ((List Bound)) :=
  if t6_1 < a0.layers then
    ref03_plain_L1 a0 r1 t6_1 rec1 FU (((0 : Int))) l5
  else
    ref03_plain_k1 l5
def ref03_plain_L2 (a0 : Core) (r1 : (List (List Int)) × (List (List Bool))) : Nat → Int → (List Bound) → Option ((List Bound))
  | 0, _, _ => none
  | n_ + 1, t6_1, l5 => ref03_plain_B2 a0 r1 (ref03_plain_L2 a0 r1 n_) t6_1 l5
def ref03_plain (a0 : Core) : Option ((List Bound)) :=
  bnd (ref03_walks a0 a0.layers) fun r1 =>
  ref03_plain_L2 a0 r1 FU (((0 : Int))) ((([] : List Bound)))
def ref03_Plain (a0 : Core) : Option ((List Bound) × Int) :=
  bnd (ref03_Validate a0) fun r1 =>
  if r1 = 0 then
    bnd (ref03_clashes a0) fun r2 =>
    if r2 = true then
      some (([] : List Bound), (10 : Int))
    else
      bnd (ref03_plain a0) fun r3 =>
      some (r3, (0 : Int))
  else
    some (([] : List Bound), r1)
end Go.D3

set_option linter.unusedVariables false
namespace Go.D3
open Go.Tb Go.Core
def slices_Equal_Bound_k1 : Option Bool :=
  some true
def slices_Equal_Bound_B1 (a0 : List Bound) (a1 : List Bound) (rec1 : Int → Option Bool) (t13_1 : Int) : Option Bool :=
  if t13_1 < ((a0.length : Int)) then
    ix a0 t13_1 fun x1 =>
    ix a1 t13_1 fun x2 =>
    if ((x1.a == x2.a) && (x1.b == x2.b) && (x1.most == x2.most)) = true then
      gd (InR (t13_1 + 1)) <|
      rec1 ((t13_1 + 1))
    else
      some false
  else
    slices_Equal_Bound_k1
def slices_Equal_Bound_L1 (a0 : List Bound) (a1 : List Bound) : Nat → Int → Option Bool
  | 0, _ => none
  | n_ + 1, t13_1 => slices_Equal_Bound_B1 a0 a1 (slices_Equal_Bound_L1 a0 a1 n_) t13_1
theorem slices_Equal_Bound_L1_s {a0 : List Bound} {a1 : List Bound} {m_ : Nat} {t13_1 : Int} {res : Bool} (h : slices_Equal_Bound_L1 a0 a1 m_ t13_1 = some res) : ∃ k, m_ = k + 1 ∧ slices_Equal_Bound_B1 a0 a1 (slices_Equal_Bound_L1 a0 a1 k) t13_1 = some res := by
  cases m_ with
  | zero => cases h
  | succ k => exact ⟨k, rfl, h⟩
def slices_Equal_Bound (a0 : List Bound) (a1 : List Bound) : Option Bool :=
  if ((a0.length : Int)) = ((a1.length : Int)) then
    slices_Equal_Bound_L1 a0 a1 FU (((0 : Int)))
  else
    some false
def core_Same_k1 (a0 : Core) (a1 : Core) (t18_1 : Bool) : Option (Bool × Int) :=
  if t18_1 = true then
    some (false, (10 : Int))
  else
    bnd (core_table a0) fun r1 =>
    bnd (core_plain r1) fun r2 =>
    bnd (core_table a1) fun r3 =>
    bnd (core_plain r3) fun r4 =>
    bnd (slices_Equal_Bound r2 r4) fun r5 =>
    some (r5, (0 : Int))
def core_Same (a0 : Core) (a1 : Core) : Option (Bool × Int) :=
  bnd (core_both a0 a1) fun r6 =>
  if r6 = 0 then
    bnd (core_clashes a0) fun r7 =>
    if r7 = true then
      core_Same_k1 a0 a1 true
    else
      bnd (core_clashes a1) fun r8 =>
      core_Same_k1 a0 a1 r8
  else
    some (false, r6)
def ref03_Same_k1 (a0 : Core) (a1 : Core) (t18_1 : Bool) : Option (Bool × Int) :=
  if t18_1 = true then
    some (false, (10 : Int))
  else
    bnd (ref03_plain a0) fun r1 =>
    bnd (ref03_plain a1) fun r2 =>
    bnd (ref03_SameBounds r1 r2) fun r3 =>
    some (r3, (0 : Int))
def ref03_Same (a0 : Core) (a1 : Core) : Option (Bool × Int) :=
  bnd (ref03_two a0 a1) fun r4 =>
  if r4 = 0 then
    bnd (ref03_clashes a0) fun r5 =>
    if r5 = true then
      ref03_Same_k1 a0 a1 true
    else
      bnd (ref03_clashes a1) fun r6 =>
      ref03_Same_k1 a0 a1 r6
  else
    some (false, r4)
end Go.D3

set_option linter.unusedVariables false
set_option linter.unusedSimpArgs false
namespace Go.D3
open Go.Tb Go.Proofs Go.RowKit Go.Core
theorem slices_SortFunc_order_ok {a0 : List Bound} {A_a0 : Option Addr} {c_a0 : Nat} {wb : World} {R : List Ck} {w : World} {res : (List Bound)} (H : Hp wb w ([.own A_a0 c_a0 105 3 (List.map encBound a0)] ++ R)) (F : slices_SortFunc_order a0 = some res) : Calls Try.prog 89 #[.slice A_a0 a0.length c_a0, .func (.func 90) #[] #[]] w (fun e w' => e = .returned (.tuple #[]) ∧ res.length = a0.length ∧ Hp wb w' ([.own A_a0 c_a0 105 3 (List.map encBound res)] ++ R)) := by
  unfold slices_SortFunc_order at F
  obtain ⟨hg, F⟩ := gd_some F
  cases F
  refine (D3s.sort_core (H.own 0 rfl) hg.1).mono ?_
  rintro _ w' ⟨rfl, l', hp, hs, o, M⟩
  obtain rfl := D3s.sortB_of hp hs hg.2
  exact ⟨rfl, hp.length_eq, H.mod 0 rfl M o (.inl rfl)⟩
end Go.D3

set_option linter.unusedVariables false
set_option linter.unusedSimpArgs false
namespace Go.D3
open Go.Tb Go.Proofs Go.RowKit Go.Core
theorem Tc66 : callable Try.prog 66 = true := by kernel_rfl
set_option maxRecDepth 20000 in
set_option maxHeartbeats 1000000 in
theorem core_fixed_ok {a0 : List (List Tight)} {a1 : Int} {a2 : Int} {A_a0 : Option Addr} {c_a0 : Nat} {w : World} {res : Bool} (h_a0 : Sl2 w A_a0 c_a0 2 encTight a0) (F : core_fixed a0 a1 a2 = some res) : Calls Try.prog 66 #[.slice A_a0 a0.length c_a0, .int .i64 a1, .int .i64 a2] w (Rt w (.bool res)) := by
  refine calls_of_cw (args := [.slice A_a0 a0.length c_a0, .int .i64 a1, .int .i64 a2]) Try.func66 rfl rfl rfl rfl ?_
  have H := Hp.start w
  have R0 := H.ext
  unfold core_fixed at F
  refine CW.seq fun K1 hK1 => ?_
  refine CW.region ?_
  refine LW.pure rfl rfl (RV.assign rfl) ?_
  refine LW.nil (hK1 _ _ ?_)
  refine CW.seq fun K2 hK2 => ?_
  obtain ⟨x1, hbx1, hx1, F⟩ := ix_some F
  obtain ⟨x2, hbx2, hx2, F⟩ := ix_some F
  by_cases hp1 : x2.known = true
  ·
    replace F := ite_y hp1 F
    have hq1 : x2.known = true := hp1
    obtain ⟨x3, hbx3, hx3, F⟩ := ix_some F
    obtain ⟨x4, hbx4, hx4, F⟩ := ix_some F
    by_cases hp2 : x4.known = true
    ·
      replace F := ite_y hp2 F
      have hq2 : x4.known = true := hp2
      obtain ⟨x5, hbx5, hx5, F⟩ := ix_some F
      obtain ⟨x6, hbx6, hx6, F⟩ := ix_some F
      obtain ⟨x7, hbx7, hx7, F⟩ := ix_some F
      obtain ⟨x8, hbx8, hx8, F⟩ := ix_some F
      obtain ⟨hg1, F⟩ := gd_some F
      refine CW.draw [] (fun _ => True) (.cons 0 1 (.cons 1 1 (.cons 2 1 (.cons 3 1 (.cons 4 1 (.cons 5 1 (.cons 6 1 (.cons 7 1 (.cons 8 1 (.cons 9 1 (.cons 10 1 (.cons 11 1 (.cons 12 1 (.cons 13 1 (.cons 14 1 (.cons 15 1 (.cons 16 1 (.cons 17 1 (.cons 18 1 (.cons 19 1 (.cons 20 1 (.cons 21 1 (.cons 22 1 (.cons 23 1 (.cons 24 1 (.cons 25 1 (.cons 26 1 (.cons 27 1 (.cons 28 1 (.cons 29 1 (.cons 30 1 (.cons 31 1 (.cons 32 1 (.cons 33 1 (.cons 34 1 (.cons 35 1 (.cons 36 1 (.cons 37 1 (.cons 38 1 .nil))))))))))))))))))))))))))))))))))))))) mixed (by kernel_rfl) fun w1 E1 => ?_
      replace H := H.grow E1
      replace R0 := H.ext
      refine DW.fix rfl rfl rfl (fun _ EQ => RV.move rfl) ?_
      refine DW.fix rfl rfl rfl (fun _ EQ => RV.move rfl) ?_
      obtain ⟨A1, c1, hC1, hS1⟩ := h_a0.at_ hx1
      refine DW.fix rfl rfl rfl (fun _ EQ => RV.indexAddr Ts69 rfl rfl hbx1 (h_a0.addr hbx1)) ?_
      refine DW.fix rfl rfl rfl (fun _ EQ => RV.load1 Tk76 rfl (hC1.ext (R0.trans EQ)) rfl) ?_
      refine DW.fix rfl rfl rfl (fun _ EQ => RV.move rfl) ?_
      refine DW.fix rfl rfl rfl (fun _ EQ => RV.indexAddr Ts76 rfl rfl hbx2 (hS1.addr_ hx2)) ?_
      refine DW.fix rfl rfl rfl (fun _ EQ => RV.fieldAddr Tf75_0 rfl) ?_
      refine DW.fix rfl rfl rfl (fun _ EQ => RV.load1 Tk4 rfl (((hS1.at_ hx2).ext (R0.trans EQ)).off 0) rfl) ?_
      refine DW.fix rfl rfl rfl (fun _ EQ => RV.move rfl) ?_
      refine DW.fixYB rfl rfl rfl rfl rfl hq1 (fun _ EQ => RV.move rfl) ?_
      refine DW.fixYB rfl rfl rfl rfl rfl hq1 (fun _ EQ => RV.move rfl) ?_
      obtain ⟨A2, c2, hC2, hS2⟩ := h_a0.at_ hx3
      refine DW.fixYB rfl rfl rfl rfl rfl hq1 (fun _ EQ => RV.indexAddr Ts69 rfl rfl hbx3 (h_a0.addr hbx3)) ?_
      refine DW.fixYB rfl rfl rfl rfl rfl hq1 (fun _ EQ => RV.load1 Tk76 rfl (hC2.ext (R0.trans EQ)) rfl) ?_
      refine DW.fixYB rfl rfl rfl rfl rfl hq1 (fun _ EQ => RV.move rfl) ?_
      refine DW.fixYB rfl rfl rfl rfl rfl hq1 (fun _ EQ => RV.indexAddr Ts76 rfl rfl hbx4 (hS2.addr_ hx4)) ?_
      refine DW.fixYB rfl rfl rfl rfl rfl hq1 (fun _ EQ => RV.fieldAddr Tf75_0 rfl) ?_
      refine DW.fixYB rfl rfl rfl rfl rfl hq1 (fun _ EQ => RV.load1 Tk4 rfl (((hS2.at_ hx4).ext (R0.trans EQ)).off 0) rfl) ?_
      refine DW.fix rfl rfl rfl (fun _ EQ => RV.pickTB rfl hq1 rfl) ?_
      refine DW.fix rfl rfl rfl (fun _ EQ => RV.move rfl) ?_
      refine DW.fixYB rfl rfl rfl rfl rfl hq2 (fun _ EQ => RV.move rfl) ?_
      refine DW.fixYB rfl rfl rfl rfl rfl hq2 (fun _ EQ => RV.move rfl) ?_
      obtain ⟨A3, c3, hC3, hS3⟩ := h_a0.at_ hx5
      refine DW.fixYB rfl rfl rfl rfl rfl hq2 (fun _ EQ => RV.indexAddr Ts69 rfl rfl hbx5 (h_a0.addr hbx5)) ?_
      refine DW.fixYB rfl rfl rfl rfl rfl hq2 (fun _ EQ => RV.load1 Tk76 rfl (hC3.ext (R0.trans EQ)) rfl) ?_
      refine DW.fixYB rfl rfl rfl rfl rfl hq2 (fun _ EQ => RV.move rfl) ?_
      refine DW.fixYB rfl rfl rfl rfl rfl hq2 (fun _ EQ => RV.indexAddr Ts76 rfl rfl hbx6 (hS3.addr_ hx6)) ?_
      refine DW.fixYB rfl rfl rfl rfl rfl hq2 (fun _ EQ => RV.fieldAddr Tf75_1 rfl) ?_
      refine DW.fixYB rfl rfl rfl rfl rfl hq2 (fun _ EQ => RV.load1 Tk3 rfl (((hS3.at_ hx6).ext (R0.trans EQ)).off 1) rfl) ?_
      refine DW.fixYB rfl rfl rfl rfl rfl hq2 (fun _ EQ => RV.move rfl) ?_
      refine DW.fixYB rfl rfl rfl rfl rfl hq2 (fun _ EQ => RV.move rfl) ?_
      obtain ⟨A4, c4, hC4, hS4⟩ := h_a0.at_ hx7
      refine DW.fixYB rfl rfl rfl rfl rfl hq2 (fun _ EQ => RV.indexAddr Ts69 rfl rfl hbx7 (h_a0.addr hbx7)) ?_
      refine DW.fixYB rfl rfl rfl rfl rfl hq2 (fun _ EQ => RV.load1 Tk76 rfl (hC4.ext (R0.trans EQ)) rfl) ?_
      refine DW.fixYB rfl rfl rfl rfl rfl hq2 (fun _ EQ => RV.move rfl) ?_
      refine DW.fixYB rfl rfl rfl rfl rfl hq2 (fun _ EQ => RV.indexAddr Ts76 rfl rfl hbx8 (hS4.addr_ hx8)) ?_
      refine DW.fixYB rfl rfl rfl rfl rfl hq2 (fun _ EQ => RV.fieldAddr Tf75_1 rfl) ?_
      refine DW.fixYB rfl rfl rfl rfl rfl hq2 (fun _ EQ => RV.load1 Tk3 rfl (((hS4.at_ hx8).ext (R0.trans EQ)).off 1) rfl) ?_
      refine DW.fixYB rfl rfl rfl rfl rfl hq2 (fun _ EQ => RV.neg rfl hg1) ?_
      refine DW.fixYB rfl rfl rfl rfl rfl hq2 (fun _ EQ => RV.eqi rfl rfl) ?_
      refine DW.fix rfl rfl rfl (fun _ EQ => RV.pickTB rfl hq2 rfl) ?_
      refine DW.fix rfl rfl rfl (fun _ EQ => RV.assign rfl) ?_
      refine DW.nil (hK2 _ _ ?_)
      refine CW.ret ?_
      obtain rfl := Option.some.inj F
      refine ⟨_, (ResOK.one rfl), ?_⟩
      refine ⟨(by first | rfl | simp), R0⟩
    ·
      replace F := ite_n hp2 F
      have hq2 : x4.known = false := raw_f hp2
      refine CW.draw [] (fun _ => True) (.cons 0 1 (.cons 1 1 (.cons 2 1 (.cons 3 1 (.cons 4 1 (.cons 5 1 (.cons 6 1 (.cons 7 1 (.cons 8 1 (.cons 9 1 (.cons 10 1 (.cons 11 1 (.cons 12 1 (.cons 13 1 (.cons 14 1 (.cons 15 1 (.cons 16 1 (.cons 17 1 (.cons 18 1 (.cons 19 1 (.cons 20 1 (.cons 21 1 (.cons 22 1 (.cons 23 1 (.cons 24 1 (.cons 25 1 (.cons 26 1 (.cons 27 1 (.cons 28 1 (.cons 29 1 (.cons 30 1 (.cons 31 1 (.cons 32 1 (.cons 33 1 (.cons 34 1 (.cons 35 1 (.cons 36 1 (.cons 37 1 (.cons 38 1 .nil))))))))))))))))))))))))))))))))))))))) mixed (by kernel_rfl) fun w2 E2 => ?_
      replace H := H.grow E2
      replace R0 := H.ext
      refine DW.fix rfl rfl rfl (fun _ EQ => RV.move rfl) ?_
      refine DW.fix rfl rfl rfl (fun _ EQ => RV.move rfl) ?_
      obtain ⟨A5, c5, hC5, hS5⟩ := h_a0.at_ hx1
      refine DW.fix rfl rfl rfl (fun _ EQ => RV.indexAddr Ts69 rfl rfl hbx1 (h_a0.addr hbx1)) ?_
      refine DW.fix rfl rfl rfl (fun _ EQ => RV.load1 Tk76 rfl (hC5.ext (R0.trans EQ)) rfl) ?_
      refine DW.fix rfl rfl rfl (fun _ EQ => RV.move rfl) ?_
      refine DW.fix rfl rfl rfl (fun _ EQ => RV.indexAddr Ts76 rfl rfl hbx2 (hS5.addr_ hx2)) ?_
      refine DW.fix rfl rfl rfl (fun _ EQ => RV.fieldAddr Tf75_0 rfl) ?_
      refine DW.fix rfl rfl rfl (fun _ EQ => RV.load1 Tk4 rfl (((hS5.at_ hx2).ext (R0.trans EQ)).off 0) rfl) ?_
      refine DW.fix rfl rfl rfl (fun _ EQ => RV.move rfl) ?_
      refine DW.fixYB rfl rfl rfl rfl rfl hq1 (fun _ EQ => RV.move rfl) ?_
      refine DW.fixYB rfl rfl rfl rfl rfl hq1 (fun _ EQ => RV.move rfl) ?_
      obtain ⟨A6, c6, hC6, hS6⟩ := h_a0.at_ hx3
      refine DW.fixYB rfl rfl rfl rfl rfl hq1 (fun _ EQ => RV.indexAddr Ts69 rfl rfl hbx3 (h_a0.addr hbx3)) ?_
      refine DW.fixYB rfl rfl rfl rfl rfl hq1 (fun _ EQ => RV.load1 Tk76 rfl (hC6.ext (R0.trans EQ)) rfl) ?_
      refine DW.fixYB rfl rfl rfl rfl rfl hq1 (fun _ EQ => RV.move rfl) ?_
      refine DW.fixYB rfl rfl rfl rfl rfl hq1 (fun _ EQ => RV.indexAddr Ts76 rfl rfl hbx4 (hS6.addr_ hx4)) ?_
      refine DW.fixYB rfl rfl rfl rfl rfl hq1 (fun _ EQ => RV.fieldAddr Tf75_0 rfl) ?_
      refine DW.fixYB rfl rfl rfl rfl rfl hq1 (fun _ EQ => RV.load1 Tk4 rfl (((hS6.at_ hx4).ext (R0.trans EQ)).off 0) rfl) ?_
      refine DW.fix rfl rfl rfl (fun _ EQ => RV.pickTB rfl hq1 rfl) ?_
      refine DW.fix rfl rfl rfl (fun _ EQ => RV.move rfl) ?_
      refine DW.fixNB rfl rfl rfl rfl rfl (ne_beq (v := false) hq2 rfl) ?_
      refine DW.fixNB rfl rfl rfl rfl rfl (ne_beq (v := false) hq2 rfl) ?_
      refine DW.fixNB rfl rfl rfl rfl rfl (ne_beq (v := false) hq2 rfl) ?_
      refine DW.fixNB rfl rfl rfl rfl rfl (ne_beq (v := false) hq2 rfl) ?_
      refine DW.fixNB rfl rfl rfl rfl rfl (ne_beq (v := false) hq2 rfl) ?_
      refine DW.fixNB rfl rfl rfl rfl rfl (ne_beq (v := false) hq2 rfl) ?_
      refine DW.fixNB rfl rfl rfl rfl rfl (ne_beq (v := false) hq2 rfl) ?_
      refine DW.fixNB rfl rfl rfl rfl rfl (ne_beq (v := false) hq2 rfl) ?_
      refine DW.fixNB rfl rfl rfl rfl rfl (ne_beq (v := false) hq2 rfl) ?_
      refine DW.fixNB rfl rfl rfl rfl rfl (ne_beq (v := false) hq2 rfl) ?_
      refine DW.fixNB rfl rfl rfl rfl rfl (ne_beq (v := false) hq2 rfl) ?_
      refine DW.fixNB rfl rfl rfl rfl rfl (ne_beq (v := false) hq2 rfl) ?_
      refine DW.fixNB rfl rfl rfl rfl rfl (ne_beq (v := false) hq2 rfl) ?_
      refine DW.fixNB rfl rfl rfl rfl rfl (ne_beq (v := false) hq2 rfl) ?_
      refine DW.fixNB rfl rfl rfl rfl rfl (ne_beq (v := false) hq2 rfl) ?_
      refine DW.fixNB rfl rfl rfl rfl rfl (ne_beq (v := false) hq2 rfl) ?_
      refine DW.fixNB rfl rfl rfl rfl rfl (ne_beq (v := false) hq2 rfl) ?_
      refine DW.fixNB rfl rfl rfl rfl rfl (ne_beq (v := false) hq2 rfl) ?_
      refine DW.fix rfl rfl rfl (fun _ EQ => RV.pickFB rfl hq2 rfl) ?_
      refine DW.fix rfl rfl rfl (fun _ EQ => RV.assign rfl) ?_
      refine DW.nil (hK2 _ _ ?_)
      refine CW.ret ?_
      obtain rfl := Option.some.inj F
      refine ⟨_, (ResOK.one rfl), ?_⟩
      refine ⟨(by first | rfl | simp), R0⟩
  ·
    replace F := ite_n hp1 F
    have hq1 : x2.known = false := raw_f hp1
    refine CW.draw [] (fun _ => True) (.cons 0 1 (.cons 1 1 (.cons 2 1 (.cons 3 1 (.cons 4 1 (.cons 5 1 (.cons 6 1 (.cons 7 1 (.cons 8 1 (.cons 9 1 (.cons 10 1 (.cons 11 1 (.cons 12 1 (.cons 13 1 (.cons 14 1 (.cons 15 1 (.cons 16 1 (.cons 17 1 (.cons 18 1 (.cons 19 1 (.cons 20 1 (.cons 21 1 (.cons 22 1 (.cons 23 1 (.cons 24 1 (.cons 25 1 (.cons 26 1 (.cons 27 1 (.cons 28 1 (.cons 29 1 (.cons 30 1 (.cons 31 1 (.cons 32 1 (.cons 33 1 (.cons 34 1 (.cons 35 1 (.cons 36 1 (.cons 37 1 (.cons 38 1 .nil))))))))))))))))))))))))))))))))))))))) mixed (by kernel_rfl) fun w3 E3 => ?_
    replace H := H.grow E3
    replace R0 := H.ext
    refine DW.fix rfl rfl rfl (fun _ EQ => RV.move rfl) ?_
    refine DW.fix rfl rfl rfl (fun _ EQ => RV.move rfl) ?_
    obtain ⟨A7, c7, hC7, hS7⟩ := h_a0.at_ hx1
    refine DW.fix rfl rfl rfl (fun _ EQ => RV.indexAddr Ts69 rfl rfl hbx1 (h_a0.addr hbx1)) ?_
    refine DW.fix rfl rfl rfl (fun _ EQ => RV.load1 Tk76 rfl (hC7.ext (R0.trans EQ)) rfl) ?_
    refine DW.fix rfl rfl rfl (fun _ EQ => RV.move rfl) ?_
    refine DW.fix rfl rfl rfl (fun _ EQ => RV.indexAddr Ts76 rfl rfl hbx2 (hS7.addr_ hx2)) ?_
    refine DW.fix rfl rfl rfl (fun _ EQ => RV.fieldAddr Tf75_0 rfl) ?_
    refine DW.fix rfl rfl rfl (fun _ EQ => RV.load1 Tk4 rfl (((hS7.at_ hx2).ext (R0.trans EQ)).off 0) rfl) ?_
    refine DW.fix rfl rfl rfl (fun _ EQ => RV.move rfl) ?_
    refine DW.fixNB rfl rfl rfl rfl rfl (ne_beq (v := false) hq1 rfl) ?_
    refine DW.fixNB rfl rfl rfl rfl rfl (ne_beq (v := false) hq1 rfl) ?_
    refine DW.fixNB rfl rfl rfl rfl rfl (ne_beq (v := false) hq1 rfl) ?_
    refine DW.fixNB rfl rfl rfl rfl rfl (ne_beq (v := false) hq1 rfl) ?_
    refine DW.fixNB rfl rfl rfl rfl rfl (ne_beq (v := false) hq1 rfl) ?_
    refine DW.fixNB rfl rfl rfl rfl rfl (ne_beq (v := false) hq1 rfl) ?_
    refine DW.fixNB rfl rfl rfl rfl rfl (ne_beq (v := false) hq1 rfl) ?_
    refine DW.fixNB rfl rfl rfl rfl rfl (ne_beq (v := false) hq1 rfl) ?_
    refine DW.fix rfl rfl rfl (fun _ EQ => RV.pickFB rfl hq1 rfl) ?_
    refine DW.fix rfl rfl rfl (fun _ EQ => RV.move rfl) ?_
    refine DW.fixNB rfl rfl rfl rfl rfl (ne_beq (v := false) rfl rfl) ?_
    refine DW.fixNB rfl rfl rfl rfl rfl (ne_beq (v := false) rfl rfl) ?_
    refine DW.fixNB rfl rfl rfl rfl rfl (ne_beq (v := false) rfl rfl) ?_
    refine DW.fixNB rfl rfl rfl rfl rfl (ne_beq (v := false) rfl rfl) ?_
    refine DW.fixNB rfl rfl rfl rfl rfl (ne_beq (v := false) rfl rfl) ?_
    refine DW.fixNB rfl rfl rfl rfl rfl (ne_beq (v := false) rfl rfl) ?_
    refine DW.fixNB rfl rfl rfl rfl rfl (ne_beq (v := false) rfl rfl) ?_
    refine DW.fixNB rfl rfl rfl rfl rfl (ne_beq (v := false) rfl rfl) ?_
    refine DW.fixNB rfl rfl rfl rfl rfl (ne_beq (v := false) rfl rfl) ?_
    refine DW.fixNB rfl rfl rfl rfl rfl (ne_beq (v := false) rfl rfl) ?_
    refine DW.fixNB rfl rfl rfl rfl rfl (ne_beq (v := false) rfl rfl) ?_
    refine DW.fixNB rfl rfl rfl rfl rfl (ne_beq (v := false) rfl rfl) ?_
    refine DW.fixNB rfl rfl rfl rfl rfl (ne_beq (v := false) rfl rfl) ?_
    refine DW.fixNB rfl rfl rfl rfl rfl (ne_beq (v := false) rfl rfl) ?_
    refine DW.fixNB rfl rfl rfl rfl rfl (ne_beq (v := false) rfl rfl) ?_
    refine DW.fixNB rfl rfl rfl rfl rfl (ne_beq (v := false) rfl rfl) ?_
    refine DW.fixNB rfl rfl rfl rfl rfl (ne_beq (v := false) rfl rfl) ?_
    refine DW.fixNB rfl rfl rfl rfl rfl (ne_beq (v := false) rfl rfl) ?_
    refine DW.fix rfl rfl rfl (fun _ EQ => RV.pickFB rfl rfl rfl) ?_
    refine DW.fix rfl rfl rfl (fun _ EQ => RV.assign rfl) ?_
    refine DW.nil (hK2 _ _ ?_)
    refine CW.ret ?_
    obtain rfl := Option.some.inj F
    refine ⟨_, (ResOK.one rfl), ?_⟩
    refine ⟨(by first | rfl | simp), R0⟩
end Go.D3

set_option linter.unusedVariables false
set_option linter.unusedSimpArgs false
namespace Go.D3
open Go.Tb Go.Proofs Go.RowKit Go.Core
theorem Tc89 : callable Try.prog 89 = true := by kernel_rfl
theorem Tk105 : tyK Try.prog 105 = some (true, 3) := by kernel_rfl
theorem Ts104 : tyS Try.prog 104 = some (105, 3, 24, [.int .i64 0, .int .i64 0, .int .i64 0]) := by kernel_rfl
theorem Tz105 : tyZ Try.prog 105 = some (.agg #[.int .i64 0, .int .i64 0, .int .i64 0]) := by kernel_rfl
set_option maxRecDepth 20000 in
set_option maxHeartbeats 1000000 in
theorem core_plain_ok {a0 : List (List Tight)} {A_a0 : Option Addr} {c_a0 : Nat} {w : World} {res : (List Bound)} (h_a0 : Sl2 w A_a0 c_a0 2 encTight a0) (F : core_plain a0 = some res) : Calls Try.prog 77 #[.slice A_a0 a0.length c_a0] w (fun e w' => ∃ (A1 : Option Addr) (c1 : Nat), e = .returned (.slice A1 res.length c1) ∧ Hp w w' [.own A1 c1 26 3 (List.map encBound res)]) := by
  refine calls_of_cw (args := [.slice A_a0 a0.length c_a0]) Try.func77 rfl rfl rfl rfl ?_
  have H := Hp.start w
  have R0 := H.ext
  unfold core_plain at F
  refine CW.seq fun K1 hK1 => ?_
  refine CW.region ?_
  refine LW.pure rfl rfl (RV.assign rfl) ?_
  refine LW.nil (hK1 _ _ ?_)
  refine CW.seq fun K2 hK2 => ?_
  refine CW.region ?_
  refine LW.pure rfl rfl (RV.assign rfl) ?_
  refine LW.nil (hK2 _ _ ?_)
  refine CW.seqJ (fun ρ wl1 => (∃ (l2 : List Bound) (Al2 : Option Addr) (cl2 : Nat), core_plain_k2 l2 = some res ∧ ρ = [(2, .slice none 0 0), (3, .slice Al2 l2.length cl2)] ∧ Hp w wl1 [.own Al2 cl2 105 3 (List.map encBound l2)])) ?_ ?_
  ·
    rintro _ wl1 ⟨l2, Al2, cl2, F, rfl, H⟩
    have R0 := H.ext
    unfold core_plain_k2 at F
    refine CW.seq fun K3 hK3 => ?_
    obtain ⟨r1, hr1, F⟩ := bnd_some F
    refine CW.region ?_
    refine LW.pure rfl rfl (RV.move rfl) ?_
    replace H := H.pick (L' := [.own Al2 cl2 105 3 (List.map encBound l2)]) [0] (by decide) rfl
    replace R0 := H.ext
    refine LW.go rfl rfl (OW.call Tc89 rfl (slices_SortFunc_order_ok (a0 := l2) (R := []) H hr1) ?_)
    rintro _ w1 ⟨rfl, hlm3_a0, Hq1⟩
    refine ⟨_, rfl, ?_⟩
    replace H : Hp w w1 [.own Al2 cl2 105 3 (List.map encBound r1)] := Hq1
    replace R0 := H.ext
    refine LW.nil (hK3 _ _ ?_)
    refine CW.seq fun K4 hK4 => ?_
    refine CW.region ?_
    refine LW.pure rfl rfl (RV.assign rfl) ?_
    refine LW.nil (hK4 _ _ ?_)
    refine CW.seqJ (fun ρ wl2 => (∃ (l1 : List Bound) (Al1 : Option Addr) (cl1 : Nat), core_plain_k1 l1 = some res ∧ ρ = [(2, .slice none 0 0), (6, .slice Al1 l1.length cl1)] ∧ Hp w wl2 [.own Al1 cl1 26 3 (List.map encBound l1)])) ?_ ?_
    ·
      rintro _ wl2 ⟨l1, Al1, cl1, F, rfl, H⟩
      have R0 := H.ext
      unfold core_plain_k1 at F
      refine CW.seq fun K5 hK5 => ?_
      refine CW.region ?_
      refine LW.pure rfl rfl (RV.move rfl) ?_
      refine LW.pure rfl rfl (RV.assign rfl) ?_
      refine LW.nil (hK5 _ _ ?_)
      refine CW.ret ?_
      obtain rfl := Option.some.inj F
      refine ⟨_, (ResOK.one rfl), ?_⟩
      exact ⟨Al1, cl1, (by first | rfl | (simp; done) | (simp; omega)), H⟩
    ·
      intro K6 hK6 jK496
      refine CW.seq fun K7 hK7 => ?_
      refine CW.region ?_
      refine LW.pure rfl rfl (RV.move rfl) ?_
      refine LW.pure rfl rfl (RV.len Ts104 rfl) ?_
      refine LW.pure rfl rfl (RV.move rfl) ?_
      refine LW.nil (hK7 _ _ ?_)
      refine CW.block ?_
      replace H := H.nilOwn 26 3
      replace R0 := H.ext
      refine CW.loop (fun meas ρ wl3 => ∃ (t52_1 : Int) (l3 : List Bound) (Al3 : Option Addr) (cl3 : Nat), core_plain_L1 l2 r1 meas t52_1 l3 = some res ∧ ρ = [(2, .slice none 0 0), (6, .slice Al3 l3.length cl3), (50, .slice Al2 l2.length cl2), (51, .int .i64 ((l2.length : Int))), (52, .int .i64 t52_1)] ∧ Hp w wl3 [.own Al3 cl3 26 3 (List.map encBound l3), .own Al2 cl2 105 3 (List.map encBound r1)]) FU ⟨_, ?_, ((0 : Int)), (([] : List Bound)), none, 0, F, rfl, H⟩ ?_
      · exact ⟨rfl, (look_slice rfl (by first | rfl | (simp; done) | omega | (simp; omega))), (look_slice rfl (by first | rfl | (simp; done) | omega | (simp; omega))), rfl, rfl, trivial⟩
      rintro mk1 _ wl3 ⟨t52_1, l3, Al3, cl3, F, rfl, H⟩
      have R0 := H.ext
      replace F := core_plain_L1_s F
      obtain ⟨mk1, rfl, F⟩ := F
      generalize hrec1 : core_plain_L1 l2 r1 mk1 = rec1 at F
      unfold core_plain_B1 at F
      refine CW.seq fun K8 hK8 => ?_
      refine CW.region ?_
      refine LW.pure rfl rfl (RV.lss rfl rfl) ?_
      refine LW.nil (hK8 _ _ ?_)
      refine CW.seq fun K9 hK9 => ?_
      by_cases hp1 : t52_1 < ((l2.length : Int))
      ·
        replace F := ite_y hp1 F
        have hq1 := dec_t hp1
        refine CW.condT rfl hq1 ?_
        refine CW.skip (hK9 _ _ ?_)
        refine CW.seq fun K10 hK10 => ?_
        refine CW.block ?_
        refine CW.seq fun K11 hK11 => ?_
        obtain ⟨x1, hbx1, hx1, F⟩ := ix_some F
        refine CW.region ?_
        refine LW.pure rfl rfl (RV.indexAddr Ts104 rfl rfl (by first | exact hbx1 | omega | (simp at hbx1 ⊢; omega)) ((H.own 1 rfl).sl.addr_ hx1)) ?_
        refine LW.pure rfl rfl (RV.loadA [.int .i64 x1.a, .int .i64 x1.b, .int .i64 x1.most] Tk105 rfl ((H.own 1 rfl).sl.at_ hx1) rfl rfl) ?_
        refine LW.go rfl rfl (OW.alloc Tz105 fun b1 w2 N1 => ?_)
        replace H := H.new N1 N1.blk
        replace R0 := H.ext
        refine LW.go rfl rfl (OW.store Tk105 rfl rfl (H.blk 0 rfl) (off := 0) (vs := [.int .i64 x1.a, .int .i64 x1.b, .int .i64 x1.most]) rfl rfl rfl rfl rfl fun w3 S1 => ?_)
        replace H : Hp w w3 [.blk b1 105 [.int .i64 x1.a, .int .i64 x1.b, .int .i64 x1.most], .own Al3 cl3 26 3 (List.map encBound l3), .own Al2 cl2 105 3 (List.map encBound r1)] := H.stored 0 rfl S1
        replace R0 := H.ext
        refine LW.nil (hK11 _ _ ?_)
        obtain ⟨hg1, F⟩ := gd_some F
        refine CW.region ?_
        refine LW.pure rfl rfl (RV.move rfl) ?_
        refine LW.pure rfl rfl (RV.loadA [.int .i64 x1.a, .int .i64 x1.b, .int .i64 x1.most] Tk105 rfl (H.blk 0 rfl).cells rfl rfl) ?_
        refine LW.go rfl rfl (OW.buildSlice (e := 26) (vs := [.agg #[.int .i64 x1.a, .int .i64 x1.b, .int .i64 x1.most]]) (cs := [.int .i64 x1.a, .int .i64 x1.b, .int .i64 x1.most]) rfl (fun _ => by kernel_rfl) fun b2 w4 N2 => ?_)
        replace H := H.made' (k := 3) (t := 26) (enc := encBound) (l := ([x1] : List Bound)) N2 N2.blk (fun _ => rfl) rfl (by first | decide | omega | (simp; done) | (simp; omega))
        replace R0 := H.ext
        refine LW.go rfl rfl (OW.appendG (enc := encBound) (l := l3) (xs := ([x1] : List Bound)) Ts22 rfl (look_slice rfl (by first | rfl | (simp; done) | (simp; omega))) (H.own 2 rfl) (H.own 0 rfl).sl (fun _ => rfl) rfl rfl hg1 (by decide) fun A2 c2 w5 O1 M1 D1 => ?_)
        replace H : Hp w w5 [.own (some ⟨b2, 0, none⟩) ((([x1] : List Bound)).length) 26 3 (List.map encBound (([x1] : List Bound))), .blk b1 105 [.int .i64 x1.a, .int .i64 x1.b, .int .i64 x1.most], .own A2 c2 26 3 (List.map encBound ((l3 ++ ([x1] : List Bound)))), .own Al2 cl2 105 3 (List.map encBound r1)] := H.mod 2 rfl M1 O1 D1
        replace R0 := H.ext
        refine LW.pure rfl rfl (RV.assign rfl) ?_
        refine LW.nil (hK10 _ _ ?_)
        obtain ⟨hg2, F⟩ := gd_some F
        refine CW.region ?_
        refine LW.pure rfl rfl (RV.add rfl rfl hg2) ?_
        refine LW.pure rfl rfl (RV.move rfl) ?_
        refine LW.nil ?_
        replace H := H.pick (L' := [.own A2 c2 26 3 (List.map encBound ((l3 ++ ([x1] : List Bound)))), .own Al2 cl2 105 3 (List.map encBound r1)]) [2, 3] (by decide) rfl
        replace R0 := H.ext
        subst hrec1
        refine ⟨mk1, Nat.lt_succ_self _, _, ?_, (t52_1 + 1), ((l3 ++ ([x1] : List Bound))), A2, c2, F, rfl, H⟩
        exact ⟨rfl, (look_slice rfl (by first | rfl | (simp; done) | omega | (simp; omega))), (look_slice rfl (by first | rfl | (simp; done) | omega | (simp; omega))), rfl, rfl, trivial⟩
      ·
        replace F := ite_n hp1 F
        have hq1 := dec_f hp1
        refine CW.condF rfl hq1 ?_
        replace H := H.pick (L' := [.own Al3 cl3 26 3 (List.map encBound l3)]) [0] (by decide) rfl
        replace R0 := H.ext
        refine CW.exit (jK496 _ _ ⟨_, ?_, ⟨l3, Al3, cl3, F, rfl, H⟩⟩)
        exact ⟨rfl, (look_slice rfl (by first | rfl | (simp; done) | omega | (simp; omega))), trivial⟩
  ·
    intro K12 hK12 jK510
    refine CW.seq fun K13 hK13 => ?_
    refine CW.region ?_
    refine LW.pure rfl rfl (RV.move rfl) ?_
    refine LW.pure rfl rfl (RV.len Ts69 rfl) ?_
    refine LW.pure rfl rfl (RV.move rfl) ?_
    refine LW.nil (hK13 _ _ ?_)
    refine CW.block ?_
    replace H := H.nilOwn 105 3
    replace R0 := H.ext
    refine CW.loop (fun meas ρ wl4 => ∃ (t11_1 : Int) (l7 : List Bound) (Al7 : Option Addr) (cl7 : Nat), core_plain_L3 a0 meas t11_1 l7 = some res ∧ ρ = [(0, .slice A_a0 a0.length c_a0), (2, .slice none 0 0), (3, .slice Al7 l7.length cl7), (10, .int .i64 ((a0.length : Int))), (11, .int .i64 t11_1)] ∧ Hp w wl4 [.own Al7 cl7 105 3 (List.map encBound l7)]) FU ⟨_, ?_, ((0 : Int)), (([] : List Bound)), none, 0, F, rfl, H⟩ ?_
    · exact ⟨rfl, rfl, (look_slice rfl (by first | rfl | (simp; done) | omega | (simp; omega))), rfl, rfl, trivial⟩
    rintro mk2 _ wl4 ⟨t11_1, l7, Al7, cl7, F, rfl, H⟩
    have R0 := H.ext
    replace F := core_plain_L3_s F
    obtain ⟨mk2, rfl, F⟩ := F
    generalize hrec2 : core_plain_L3 a0 mk2 = rec2 at F
    unfold core_plain_B3 at F
    refine CW.seq fun K14 hK14 => ?_
    refine CW.region ?_
    refine LW.pure rfl rfl (RV.lss rfl rfl) ?_
    refine LW.nil (hK14 _ _ ?_)
    refine CW.seq fun K15 hK15 => ?_
    by_cases hp2 : t11_1 < ((a0.length : Int))
    ·
      replace F := ite_y hp2 F
      have hq2 := dec_t hp2
      refine CW.condT rfl hq2 ?_
      refine CW.skip (hK15 _ _ ?_)
      refine CW.seqJ (fun ρ wl5 => (∃ (l4 : List Bound) (Al4 : Option Addr) (cl4 : Nat), core_plain_k3 t11_1 rec2 l4 = some res ∧ ρ = [(0, .slice A_a0 a0.length c_a0), (2, .slice none 0 0), (3, .slice Al4 l4.length cl4), (10, .int .i64 ((a0.length : Int))), (11, .int .i64 t11_1)] ∧ Hp w wl5 [.own Al4 cl4 105 3 (List.map encBound l4)])) ?_ ?_
      ·
        rintro _ wl5 ⟨l4, Al4, cl4, F, rfl, H⟩
        have R0 := H.ext
        unfold core_plain_k3 at F
        obtain ⟨hg3, F⟩ := gd_some F
        refine CW.region ?_
        refine LW.pure rfl rfl (RV.add rfl rfl hg3) ?_
        refine LW.pure rfl rfl (RV.move rfl) ?_
        refine LW.nil ?_
        subst hrec2
        refine ⟨mk2, Nat.lt_succ_self _, _, ?_, (t11_1 + 1), l4, Al4, cl4, F, rfl, H⟩
        exact ⟨rfl, rfl, (look_slice rfl (by first | rfl | (simp; done) | omega | (simp; omega))), rfl, rfl, trivial⟩
      ·
        intro K16 hK16 jK635
        refine CW.block ?_
        refine CW.seq fun K17 hK17 => ?_
        refine CW.region ?_
        refine LW.pure rfl rfl (RV.move rfl) ?_
        refine LW.pure rfl rfl (RV.assign rfl) ?_
        refine LW.nil (hK17 _ _ ?_)
        refine CW.seq fun K18 hK18 => ?_
        refine CW.region ?_
        refine LW.pure rfl rfl (RV.move rfl) ?_
        refine LW.pure rfl rfl (RV.len Ts69 rfl) ?_
        refine LW.pure rfl rfl (RV.move rfl) ?_
        refine LW.nil (hK18 _ _ ?_)
        refine CW.block ?_
        refine CW.loop (fun meas ρ wl6 => ∃ (t16_1 : Int) (l6 : List Bound) (Al6 : Option Addr) (cl6 : Nat), core_plain_L2 a0 t11_1 rec2 meas t16_1 l6 = some res ∧ ρ = [(0, .slice A_a0 a0.length c_a0), (2, .slice none 0 0), (3, .slice Al6 l6.length cl6), (4, .int .i64 t11_1), (10, .int .i64 ((a0.length : Int))), (11, .int .i64 t11_1), (15, .int .i64 ((a0.length : Int))), (16, .int .i64 t16_1)] ∧ Hp w wl6 [.own Al6 cl6 105 3 (List.map encBound l6)]) FU ⟨_, ?_, ((0 : Int)), l7, Al7, cl7, F, rfl, H⟩ ?_
        · exact ⟨rfl, rfl, (look_slice rfl (by first | rfl | (simp; done) | omega | (simp; omega))), rfl, rfl, rfl, rfl, rfl, trivial⟩
        rintro mk3 _ wl6 ⟨t16_1, l6, Al6, cl6, F, rfl, H⟩
        have R0 := H.ext
        replace F := core_plain_L2_s F
        obtain ⟨mk3, rfl, F⟩ := F
        generalize hrec3 : core_plain_L2 a0 t11_1 rec2 mk3 = rec3 at F
        unfold core_plain_B2 at F
        refine CW.seq fun K19 hK19 => ?_
        refine CW.region ?_
        refine LW.pure rfl rfl (RV.lss rfl rfl) ?_
        refine LW.nil (hK19 _ _ ?_)
        refine CW.seq fun K20 hK20 => ?_
        by_cases hp3 : t16_1 < ((a0.length : Int))
        ·
          replace F := ite_y hp3 F
          have hq3 := dec_t hp3
          refine CW.condT rfl hq3 ?_
          refine CW.skip (hK20 _ _ ?_)
          refine CW.seqJ (fun ρ wl7 => (∃ (l5 : List Bound) (Al5 : Option Addr) (cl5 : Nat), core_plain_k4 t16_1 rec3 l5 = some res ∧ ρ = [(0, .slice A_a0 a0.length c_a0), (2, .slice none 0 0), (3, .slice Al5 l5.length cl5), (4, .int .i64 t11_1), (10, .int .i64 ((a0.length : Int))), (11, .int .i64 t11_1), (15, .int .i64 ((a0.length : Int))), (16, .int .i64 t16_1)] ∧ Hp w wl7 [.own Al5 cl5 105 3 (List.map encBound l5)])) ?_ ?_
          ·
            rintro _ wl7 ⟨l5, Al5, cl5, F, rfl, H⟩
            have R0 := H.ext
            unfold core_plain_k4 at F
            obtain ⟨hg4, F⟩ := gd_some F
            refine CW.region ?_
            refine LW.pure rfl rfl (RV.add rfl rfl hg4) ?_
            refine LW.pure rfl rfl (RV.move rfl) ?_
            refine LW.nil ?_
            subst hrec3
            refine ⟨mk3, Nat.lt_succ_self _, _, ?_, (t16_1 + 1), l5, Al5, cl5, F, rfl, H⟩
            exact ⟨rfl, rfl, (look_slice rfl (by first | rfl | (simp; done) | omega | (simp; omega))), rfl, rfl, rfl, rfl, rfl, trivial⟩
          ·
            intro K21 hK21 jK656
            refine CW.block ?_
            refine CW.seq fun K22 hK22 => ?_
            refine CW.region ?_
            refine LW.pure rfl rfl (RV.move rfl) ?_
            refine LW.pure rfl rfl (RV.assign rfl) ?_
            refine LW.nil (hK22 _ _ ?_)
            refine CW.seqJ (fun ρ wl8 => (∃ (t31_1 : Bool), core_plain_k5 a0 t11_1 t16_1 l6 rec3 t31_1 = some res ∧ ρ = [(0, .slice A_a0 a0.length c_a0), (2, .slice none 0 0), (3, .slice Al6 l6.length cl6), (4, .int .i64 t11_1), (5, .int .i64 t16_1), (10, .int .i64 ((a0.length : Int))), (11, .int .i64 t11_1), (15, .int .i64 ((a0.length : Int))), (16, .int .i64 t16_1), (31, .bool t31_1)] ∧ Hp w wl8 [.own Al6 cl6 105 3 (List.map encBound l6)])) ?_ ?_
            ·
              rintro _ wl8 ⟨t31_1, F, rfl, H⟩
              have R0 := H.ext
              unfold core_plain_k5 at F
              by_cases hp4 : t31_1 = true
              ·
                replace F := ite_y hp4 F
                have hq4 : t31_1 = true := hp4
                refine CW.condT rfl hq4 ?_
                obtain ⟨x2, hbx2, hx2, F⟩ := ix_some F
                obtain ⟨x3, hbx3, hx3, F⟩ := ix_some F
                obtain ⟨hg5, F⟩ := gd_some F
                refine CW.region ?_
                refine LW.pure rfl rfl (RV.move rfl) ?_
                refine LW.pure rfl rfl (RV.move rfl) ?_
                refine LW.pure rfl rfl (RV.move rfl) ?_
                refine LW.pure rfl rfl (RV.move rfl) ?_
                refine LW.pure rfl rfl (RV.move rfl) ?_
                obtain ⟨A3, c3, hC1, hS1⟩ := h_a0.at_ hx2
                refine LW.pure rfl rfl (RV.indexAddr Ts69 rfl rfl hbx2 (h_a0.addr hbx2)) ?_
                refine LW.pure rfl rfl (RV.load1 Tk76 rfl (hC1.ext R0) rfl) ?_
                refine LW.pure rfl rfl (RV.move rfl) ?_
                refine LW.pure rfl rfl (RV.indexAddr Ts76 rfl rfl hbx3 (hS1.addr_ hx3)) ?_
                refine LW.pure rfl rfl (RV.fieldAddr Tf75_1 rfl) ?_
                refine LW.pure rfl rfl (RV.load1 Tk3 rfl (((hS1.at_ hx3).ext R0).off 1) rfl) ?_
                refine LW.pure rfl rfl (RV.build (vs := [.int .i64 t16_1, .int .i64 t11_1, .int .i64 x3.most]) (cs := [.int .i64 t16_1, .int .i64 t11_1, .int .i64 x3.most]) rfl (fun _ => by kernel_rfl)) ?_
                refine LW.go rfl rfl (OW.buildSlice (e := 105) (vs := [.agg #[.int .i64 t16_1, .int .i64 t11_1, .int .i64 x3.most]]) (cs := [.int .i64 t16_1, .int .i64 t11_1, .int .i64 x3.most]) rfl (fun _ => by kernel_rfl) fun b3 w6 N3 => ?_)
                replace H := H.made' (k := 3) (t := 105) (enc := encBound) (l := ([(⟨t16_1, t11_1, x3.most⟩ : Bound)] : List Bound)) N3 N3.blk (fun _ => rfl) rfl (by first | decide | omega | (simp; done) | (simp; omega))
                replace R0 := H.ext
                refine LW.go rfl rfl (OW.appendG (enc := encBound) (l := l6) (xs := ([(⟨t16_1, t11_1, x3.most⟩ : Bound)] : List Bound)) Ts104 rfl (look_slice rfl (by first | rfl | (simp; done) | (simp; omega))) (H.own 1 rfl) (H.own 0 rfl).sl (fun _ => rfl) rfl rfl hg5 (by decide) fun A4 c4 w7 O2 M2 D2 => ?_)
                replace H : Hp w w7 [.own (some ⟨b3, 0, none⟩) ((([(⟨t16_1, t11_1, x3.most⟩ : Bound)] : List Bound)).length) 105 3 (List.map encBound (([(⟨t16_1, t11_1, x3.most⟩ : Bound)] : List Bound))), .own A4 c4 105 3 (List.map encBound ((l6 ++ ([(⟨t16_1, t11_1, x3.most⟩ : Bound)] : List Bound))))] := H.mod 1 rfl M2 O2 D2
                replace R0 := H.ext
                refine LW.pure rfl rfl (RV.assign rfl) ?_
                replace H := H.pick (L' := [.own A4 c4 105 3 (List.map encBound ((l6 ++ ([(⟨t16_1, t11_1, x3.most⟩ : Bound)] : List Bound))))]) [1] (by decide) rfl
                replace R0 := H.ext
                refine LW.nil (jK656 _ _ ⟨_, ?_, ⟨((l6 ++ ([(⟨t16_1, t11_1, x3.most⟩ : Bound)] : List Bound))), A4, c4, F, rfl, H⟩⟩)
                exact ⟨rfl, rfl, (look_slice rfl (by first | rfl | (simp; done) | omega | (simp; omega))), rfl, rfl, rfl, rfl, rfl, trivial⟩
              ·
                replace F := ite_n hp4 F
                have hq4 : t31_1 = false := raw_f hp4
                refine CW.condF rfl hq4 ?_
                refine CW.skip (jK656 _ _ ⟨_, ?_, ⟨l6, Al6, cl6, F, rfl, H⟩⟩)
                exact ⟨rfl, rfl, (look_slice rfl (by first | rfl | (simp; done) | omega | (simp; omega))), rfl, rfl, rfl, rfl, rfl, trivial⟩
            ·
              intro K23 hK23 jK658
              by_cases hp5 : t16_1 = t11_1
              ·
                replace F := ite_y hp5 F
                have hq5 := dec_t hp5
                refine CW.region ?_
                refine LW.pure rfl rfl (RV.move rfl) ?_
                refine LW.pure rfl rfl (RV.move rfl) ?_
                refine LW.pure rfl rfl (RV.nei rfl rfl) ?_
                refine LW.pure rfl rfl (RV.move rfl) ?_
                refine LW.noB rfl rfl rfl rfl (ne_beq (v := false) (not_f hq5) rfl) ?_
                refine LW.noB rfl rfl rfl rfl (ne_beq (v := false) (not_f hq5) rfl) ?_
                refine LW.noB rfl rfl rfl rfl (ne_beq (v := false) (not_f hq5) rfl) ?_
                refine LW.noB rfl rfl rfl rfl (ne_beq (v := false) (not_f hq5) rfl) ?_
                refine LW.noB rfl rfl rfl rfl (ne_beq (v := false) (not_f hq5) rfl) ?_
                refine LW.noB rfl rfl rfl rfl (ne_beq (v := false) (not_f hq5) rfl) ?_
                refine LW.noB rfl rfl rfl rfl (ne_beq (v := false) (not_f hq5) rfl) ?_
                refine LW.noB rfl rfl rfl rfl (ne_beq (v := false) (not_f hq5) rfl) ?_
                refine LW.pure rfl rfl (RV.pickFB rfl (not_f hq5) rfl) ?_
                refine LW.nil (jK658 _ _ ⟨_, ?_, ⟨false, F, rfl, H⟩⟩)
                exact ⟨rfl, rfl, (look_slice rfl (by first | rfl | (simp; done) | omega | (simp; omega))), rfl, rfl, rfl, rfl, rfl, rfl, rfl, trivial⟩
              ·
                replace F := ite_n hp5 F
                have hq5 := dec_f hp5
                obtain ⟨x4, hbx4, hx4, F⟩ := ix_some F
                obtain ⟨x5, hbx5, hx5, F⟩ := ix_some F
                refine CW.region ?_
                refine LW.pure rfl rfl (RV.move rfl) ?_
                refine LW.pure rfl rfl (RV.move rfl) ?_
                refine LW.pure rfl rfl (RV.nei rfl rfl) ?_
                refine LW.pure rfl rfl (RV.move rfl) ?_
                refine LW.pureYB rfl rfl rfl rfl (not_t hq5) (RV.move rfl) ?_
                refine LW.pureYB rfl rfl rfl rfl (not_t hq5) (RV.move rfl) ?_
                obtain ⟨A5, c5, hC2, hS2⟩ := h_a0.at_ hx4
                refine LW.pureYB rfl rfl rfl rfl (not_t hq5) (RV.indexAddr Ts69 rfl rfl hbx4 (h_a0.addr hbx4)) ?_
                refine LW.pureYB rfl rfl rfl rfl (not_t hq5) (RV.load1 Tk76 rfl (hC2.ext R0) rfl) ?_
                refine LW.pureYB rfl rfl rfl rfl (not_t hq5) (RV.move rfl) ?_
                refine LW.pureYB rfl rfl rfl rfl (not_t hq5) (RV.indexAddr Ts76 rfl rfl hbx5 (hS2.addr_ hx5)) ?_
                refine LW.pureYB rfl rfl rfl rfl (not_t hq5) (RV.fieldAddr Tf75_0 rfl) ?_
                refine LW.pureYB rfl rfl rfl rfl (not_t hq5) (RV.load1 Tk4 rfl (((hS2.at_ hx5).ext R0).off 0) rfl) ?_
                refine LW.pure rfl rfl (RV.pickTB rfl (not_t hq5) rfl) ?_
                refine LW.nil (jK658 _ _ ⟨_, ?_, ⟨x5.known, F, rfl, H⟩⟩)
                exact ⟨rfl, rfl, (look_slice rfl (by first | rfl | (simp; done) | omega | (simp; omega))), rfl, rfl, rfl, rfl, rfl, rfl, rfl, trivial⟩
        ·
          replace F := ite_n hp3 F
          have hq3 := dec_f hp3
          refine CW.condF rfl hq3 ?_
          refine CW.exit (jK635 _ _ ⟨_, ?_, ⟨l6, Al6, cl6, F, rfl, H⟩⟩)
          exact ⟨rfl, rfl, (look_slice rfl (by first | rfl | (simp; done) | omega | (simp; omega))), rfl, rfl, trivial⟩
    ·
      replace F := ite_n hp2 F
      have hq2 := dec_f hp2
      refine CW.condF rfl hq2 ?_
      refine CW.exit (jK510 _ _ ⟨_, ?_, ⟨l7, Al7, cl7, F, rfl, H⟩⟩)
      exact ⟨rfl, (look_slice rfl (by first | rfl | (simp; done) | omega | (simp; omega))), trivial⟩
end Go.D3

set_option linter.unusedVariables false
set_option linter.unusedSimpArgs false
namespace Go.D3
open Go.Tb Go.Proofs Go.RowKit Go.Core
theorem Tc49 : callable Try.prog 49 = true := by kernel_rfl
theorem Tc77 : callable Try.prog 77 = true := by kernel_rfl
set_option maxRecDepth 20000 in
set_option maxHeartbeats 1000000 in
theorem core_Plain_ok {a0 : Core} {A_a0_bounds : Option Addr} {c_a0_bounds : Nat} {w : World} {res : (List Bound) × Int} (h_a0_bounds : Sl w A_a0_bounds c_a0_bounds 3 (a0.bounds.map encBound)) (F : core_Plain a0 = some res) : Calls Try.prog 49 #[.agg #[.int .i64 a0.layers, .slice A_a0_bounds a0.bounds.length c_a0_bounds]] w (fun e w' => ∃ (A0 : Option Addr) (c0 : Nat), e = .returned (.tuple #[.slice A0 res.1.length c0, .int .i64 res.2]) ∧ Hp w w' [.own A0 c0 26 3 (List.map encBound res.1)]) := by
  refine calls_of_cw (args := [.agg #[.int .i64 a0.layers, .slice A_a0_bounds a0.bounds.length c_a0_bounds]]) Try.func49 rfl rfl rfl rfl ?_
  have H := Hp.start w
  have R0 := H.ext
  unfold core_Plain at F
  refine CW.seq fun K1 hK1 => ?_
  refine CW.region ?_
  refine LW.go rfl rfl (OW.box rfl fun b1 w1 N1 => ?_)
  replace H := H.new N1 N1.blk
  replace R0 := H.ext
  refine LW.pure rfl rfl (RV.assign rfl) ?_
  refine LW.pure rfl rfl (RV.assign rfl) ?_
  refine LW.nil (hK1 _ _ ?_)
  refine CW.seq fun K2 hK2 => ?_
  refine CW.seq fun K3 hK3 => ?_
  obtain ⟨r1, hr1, F⟩ := bnd_some F
  refine CW.region ?_
  refine LW.pure rfl rfl (RV.loadA [.int .i64 a0.layers, .slice A_a0_bounds a0.bounds.length c_a0_bounds] Tk24 rfl (H.blk 0 rfl).cells rfl rfl) ?_
  refine LW.go rfl rfl (OW.call Tc36 rfl (core_Validate_ok (a0 := a0) (h_a0_bounds.ext R0) hr1) ?_)
  rintro _ w2 ⟨rfl, E1⟩
  refine ⟨_, rfl, ?_⟩
  replace H := H.grow E1
  replace R0 := H.ext
  refine LW.pure rfl rfl (RV.assign rfl) ?_
  refine LW.nil (hK3 _ _ ?_)
  refine CW.seq fun K4 hK4 => ?_
  refine CW.region ?_
  refine LW.pure rfl rfl (RV.move rfl) ?_
  refine LW.pure rfl rfl (RV.nei rfl rfl) ?_
  refine LW.nil (hK4 _ _ ?_)
  by_cases hp1 : r1 = 0
  ·
    replace F := ite_y hp1 F
    have hq1 := dec_t hp1
    refine CW.condF rfl (not_f hq1) ?_
    refine CW.skip (hK2 _ _ ?_)
    refine CW.seq fun K5 hK5 => ?_
    obtain ⟨r2, hr2, F⟩ := bnd_some F
    refine CW.region ?_
    refine LW.pure rfl rfl (RV.loadA [.int .i64 a0.layers, .slice A_a0_bounds a0.bounds.length c_a0_bounds] Tk24 rfl (H.blk 0 rfl).cells rfl rfl) ?_
    refine LW.go rfl rfl (OW.call Tc60 rfl (core_tables_ok (a0 := a0) (h_a0_bounds.ext R0) hr2) ?_)
    rintro _ w3 ⟨A7_0, c7_0, hs7_0, rfl, E2⟩
    refine ⟨_, rfl, ?_⟩
    replace H : Hp w w3 [.tab A7_0 c7_0 76 hs7_0 75 2 (encM encTight r2.1), .blk b1 24 [.int .i64 a0.layers, .slice A_a0_bounds a0.bounds.length c_a0_bounds]] := H.append E2
    replace R0 := H.ext
    refine LW.pure rfl rfl (RV.move rfl) ?_
    refine LW.pure rfl rfl (RV.extract rfl rfl) ?_
    refine LW.pure rfl rfl (RV.extract rfl rfl) ?_
    refine LW.pure rfl rfl (RV.assign rfl) ?_
    refine LW.pure rfl rfl (RV.assign rfl) ?_
    refine LW.nil (hK5 _ _ ?_)
    refine CW.seq fun K6 hK6 => ?_
    refine CW.seq fun K7 hK7 => ?_
    refine CW.region ?_
    refine LW.pure rfl rfl (RV.move rfl) ?_
    refine LW.pure rfl rfl (RV.nei rfl rfl) ?_
    refine LW.nil (hK7 _ _ ?_)
    by_cases hp2 : r2.2 = 0
    ·
      replace F := ite_y hp2 F
      have hq2 := dec_t hp2
      refine CW.condF rfl (not_f hq2) ?_
      refine CW.skip (hK6 _ _ ?_)
      refine CW.seq fun K8 hK8 => ?_
      obtain ⟨r3, hr3, F⟩ := bnd_some F
      refine CW.region ?_
      refine LW.pure rfl rfl (RV.move rfl) ?_
      refine LW.go rfl rfl (OW.call Tc77 rfl (core_plain_ok (a0 := r2.1) (H.tab 0 rfl).sl2 hr3) ?_)
      rintro _ w4 ⟨A9_0, c9_0, rfl, E3⟩
      refine ⟨_, rfl, ?_⟩
      replace H : Hp w w4 [.own A9_0 c9_0 26 3 (List.map encBound r3), .tab A7_0 c7_0 76 hs7_0 75 2 (encM encTight r2.1), .blk b1 24 [.int .i64 a0.layers, .slice A_a0_bounds a0.bounds.length c_a0_bounds]] := H.append E3
      replace R0 := H.ext
      refine LW.pure rfl rfl (RV.assign rfl) ?_
      refine LW.pure rfl rfl (RV.assign rfl) ?_
      refine LW.nil (hK8 _ _ ?_)
      refine CW.ret ?_
      obtain rfl := Option.some.inj F
      refine ⟨_, (ResOK.two rfl rfl), ?_⟩
      replace H := H.pick (L' := [.own A9_0 c9_0 26 3 (List.map encBound r3)]) [0] (by decide) rfl
      replace R0 := H.ext
      exact ⟨A9_0, c9_0, (by first | rfl | (simp; done) | (simp; omega)), H⟩
    ·
      replace F := ite_n hp2 F
      have hq2 := dec_f hp2
      refine CW.condT rfl (not_t hq2) ?_
      refine CW.seq fun K9 hK9 => ?_
      refine CW.region ?_
      refine LW.pure rfl rfl (RV.move rfl) ?_
      refine LW.pure rfl rfl (RV.assign rfl) ?_
      refine LW.pure rfl rfl (RV.assign rfl) ?_
      refine LW.nil (hK9 _ _ ?_)
      refine CW.ret ?_
      obtain rfl := Option.some.inj F
      refine ⟨_, (ResOK.two rfl rfl), ?_⟩
      replace H := H.nilOwn 26 3
      replace R0 := H.ext
      replace H := H.pick (L' := [.own none 0 26 3 (List.map encBound (([] : List Bound)))]) [0] (by decide) rfl
      replace R0 := H.ext
      exact ⟨none, 0, (by first | rfl | (simp; done) | (simp; omega)), H⟩
  ·
    replace F := ite_n hp1 F
    have hq1 := dec_f hp1
    refine CW.condT rfl (not_t hq1) ?_
    refine CW.seq fun K10 hK10 => ?_
    refine CW.region ?_
    refine LW.pure rfl rfl (RV.move rfl) ?_
    refine LW.pure rfl rfl (RV.assign rfl) ?_
    refine LW.pure rfl rfl (RV.assign rfl) ?_
    refine LW.nil (hK10 _ _ ?_)
    refine CW.ret ?_
    obtain rfl := Option.some.inj F
    refine ⟨_, (ResOK.two rfl rfl), ?_⟩
    replace H := H.nilOwn 26 3
    replace R0 := H.ext
    replace H := H.pick (L' := [.own none 0 26 3 (List.map encBound (([] : List Bound)))]) [0] (by decide) rfl
    replace R0 := H.ext
    exact ⟨none, 0, (by first | rfl | (simp; done) | (simp; omega)), H⟩
end Go.D3

set_option linter.unusedVariables false
set_option linter.unusedSimpArgs false
namespace Go.D3
open Go.Tb Go.Proofs Go.RowKit Go.Core
theorem Tc53 : callable Try.prog 53 = true := by kernel_rfl
theorem Tc80 : callable Try.prog 80 = true := by kernel_rfl
set_option maxRecDepth 20000 in
set_option maxHeartbeats 1000000 in
theorem slices_Equal_Bound_ok {a0 : List Bound} {a1 : List Bound} {A_a0 : Option Addr} {c_a0 : Nat} {A_a1 : Option Addr} {c_a1 : Nat} {w : World} {res : Bool} (h_a0 : Sl w A_a0 c_a0 3 (a0.map encBound)) (h_a1 : Sl w A_a1 c_a1 3 (a1.map encBound)) (F : slices_Equal_Bound a0 a1 = some res) : Calls Try.prog 80 #[.slice A_a0 a0.length c_a0, .slice A_a1 a1.length c_a1] w (Rt w (.bool res)) := by
  refine calls_of_cw (args := [.slice A_a0 a0.length c_a0, .slice A_a1 a1.length c_a1]) Try.func80 rfl rfl rfl rfl ?_
  have H := Hp.start w
  have R0 := H.ext
  unfold slices_Equal_Bound at F
  refine CW.seq fun K1 hK1 => ?_
  refine CW.region ?_
  refine LW.pure rfl rfl (RV.assign rfl) ?_
  refine LW.nil (hK1 _ _ ?_)
  refine CW.seq fun K2 hK2 => ?_
  refine CW.seq fun K3 hK3 => ?_
  refine CW.region ?_
  refine LW.pure rfl rfl (RV.move rfl) ?_
  refine LW.pure rfl rfl (RV.len Ts22 rfl) ?_
  refine LW.pure rfl rfl (RV.move rfl) ?_
  refine LW.pure rfl rfl (RV.len Ts22 rfl) ?_
  refine LW.pure rfl rfl (RV.nei rfl rfl) ?_
  refine LW.nil (hK3 _ _ ?_)
  by_cases hp1 : ((a0.length : Int)) = ((a1.length : Int))
  ·
    replace F := ite_y hp1 F
    have hq1 := dec_t hp1
    refine CW.condF rfl (not_f hq1) ?_
    refine CW.skip (hK2 _ _ ?_)
    refine CW.seqJ (fun ρ wl1 => (slices_Equal_Bound_k1 = some res ∧ ρ = [(4, .bool false)] ∧ Hp w wl1 [])) ?_ ?_
    ·
      rintro _ wl1 ⟨F, rfl, H⟩
      have R0 := H.ext
      unfold slices_Equal_Bound_k1 at F
      refine CW.seq fun K4 hK4 => ?_
      refine CW.region ?_
      refine LW.pure rfl rfl (RV.assign rfl) ?_
      refine LW.nil (hK4 _ _ ?_)
      refine CW.ret ?_
      obtain rfl := Option.some.inj F
      refine ⟨_, (ResOK.one rfl), ?_⟩
      refine ⟨(by first | rfl | simp), R0⟩
    ·
      intro K5 hK5 jK68
      refine CW.seq fun K6 hK6 => ?_
      refine CW.region ?_
      refine LW.pure rfl rfl (RV.move rfl) ?_
      refine LW.pure rfl rfl (RV.len Ts22 rfl) ?_
      refine LW.pure rfl rfl (RV.move rfl) ?_
      refine LW.nil (hK6 _ _ ?_)
      refine CW.block ?_
      refine CW.loop (fun meas ρ wl2 => ∃ (t13_1 : Int), slices_Equal_Bound_L1 a0 a1 meas t13_1 = some res ∧ ρ = [(0, .slice A_a0 a0.length c_a0), (1, .slice A_a1 a1.length c_a1), (4, .bool false), (12, .int .i64 ((a0.length : Int))), (13, .int .i64 t13_1)] ∧ Hp w wl2 []) FU ⟨_, ?_, ((0 : Int)), F, rfl, H⟩ ?_
      · exact ⟨rfl, rfl, rfl, rfl, rfl, trivial⟩
      rintro mk1 _ wl2 ⟨t13_1, F, rfl, H⟩
      have R0 := H.ext
      replace F := slices_Equal_Bound_L1_s F
      obtain ⟨mk1, rfl, F⟩ := F
      generalize hrec1 : slices_Equal_Bound_L1 a0 a1 mk1 = rec1 at F
      unfold slices_Equal_Bound_B1 at F
      refine CW.seq fun K7 hK7 => ?_
      refine CW.region ?_
      refine LW.pure rfl rfl (RV.lss rfl rfl) ?_
      refine LW.nil (hK7 _ _ ?_)
      refine CW.seq fun K8 hK8 => ?_
      by_cases hp2 : t13_1 < ((a0.length : Int))
      ·
        replace F := ite_y hp2 F
        have hq2 := dec_t hp2
        refine CW.condT rfl hq2 ?_
        refine CW.skip (hK8 _ _ ?_)
        refine CW.seq fun K9 hK9 => ?_
        refine CW.block ?_
        refine CW.seq fun K10 hK10 => ?_
        refine CW.region ?_
        refine LW.pure rfl rfl (RV.move rfl) ?_
        refine LW.pure rfl rfl (RV.assign rfl) ?_
        refine LW.nil (hK10 _ _ ?_)
        refine CW.seq fun K11 hK11 => ?_
        obtain ⟨x1, hbx1, hx1, F⟩ := ix_some F
        obtain ⟨x2, hbx2, hx2, F⟩ := ix_some F
        refine CW.draw [] (fun _ => True) (.cons 0 1 (.cons 1 1 (.cons 2 1 (.cons 3 1 (.cons 4 1 (.cons 5 1 (.cons 6 1 (.cons 7 1 (.cons 8 1 .nil))))))))) mixed (by kernel_rfl) fun w1 E1 => ?_
        replace H := H.grow E1
        replace R0 := H.ext
        refine DW.fix rfl rfl rfl (fun _ EQ => RV.move rfl) ?_
        refine DW.fix rfl rfl rfl (fun _ EQ => RV.move rfl) ?_
        refine DW.fix rfl rfl rfl (fun _ EQ => RV.indexAddr Ts22 rfl rfl hbx1 (h_a0.addr_ hx1)) ?_
        refine DW.fix rfl rfl rfl (fun _ EQ => RV.loadA [.int .i64 x1.a, .int .i64 x1.b, .int .i64 x1.most] Tk26 rfl ((h_a0.at_ hx1).ext (R0.trans EQ)) rfl rfl) ?_
        refine DW.fix rfl rfl rfl (fun _ EQ => RV.move rfl) ?_
        refine DW.fix rfl rfl rfl (fun _ EQ => RV.move rfl) ?_
        refine DW.fix rfl rfl rfl (fun _ EQ => RV.indexAddr Ts22 rfl rfl hbx2 (h_a1.addr_ hx2)) ?_
        refine DW.fix rfl rfl rfl (fun _ EQ => RV.loadA [.int .i64 x2.a, .int .i64 x2.b, .int .i64 x2.most] Tk26 rfl ((h_a1.at_ hx2).ext (R0.trans EQ)) rfl rfl) ?_
        refine DW.fix rfl rfl rfl (fun _ EQ => RV.neA Te26g (Te26 _ _ _ _ _ _ ) rfl rfl) ?_
        refine DW.nil (hK11 _ _ ?_)
        by_cases hp3 : ((x1.a == x2.a) && (x1.b == x2.b) && (x1.most == x2.most)) = true
        ·
          replace F := ite_y hp3 F
          have hq3 : ((x1.a == x2.a) && (x1.b == x2.b) && (x1.most == x2.most)) = true := hp3
          refine CW.condF rfl (not_f hq3) ?_
          refine CW.skip (hK9 _ _ ?_)
          obtain ⟨hg1, F⟩ := gd_some F
          refine CW.region ?_
          refine LW.pure rfl rfl (RV.add rfl rfl hg1) ?_
          refine LW.pure rfl rfl (RV.move rfl) ?_
          refine LW.nil ?_
          subst hrec1
          refine ⟨mk1, Nat.lt_succ_self _, _, ?_, (t13_1 + 1), F, rfl, H⟩
          exact ⟨rfl, rfl, rfl, rfl, rfl, trivial⟩
        ·
          replace F := ite_n hp3 F
          have hq3 : ((x1.a == x2.a) && (x1.b == x2.b) && (x1.most == x2.most)) = false := raw_f hp3
          refine CW.condT rfl (not_t hq3) ?_
          refine CW.seq fun K12 hK12 => ?_
          refine CW.region ?_
          refine LW.pure rfl rfl (RV.assign rfl) ?_
          refine LW.nil (hK12 _ _ ?_)
          refine CW.ret ?_
          obtain rfl := Option.some.inj F
          refine ⟨_, (ResOK.one rfl), ?_⟩
          refine ⟨(by first | rfl | simp), R0⟩
      ·
        replace F := ite_n hp2 F
        have hq2 := dec_f hp2
        refine CW.condF rfl hq2 ?_
        refine CW.exit (jK68 _ _ ⟨_, ?_, ⟨F, rfl, H⟩⟩)
        exact ⟨rfl, trivial⟩
  ·
    replace F := ite_n hp1 F
    have hq1 := dec_f hp1
    refine CW.condT rfl (not_t hq1) ?_
    refine CW.seq fun K13 hK13 => ?_
    refine CW.region ?_
    refine LW.pure rfl rfl (RV.assign rfl) ?_
    refine LW.nil (hK13 _ _ ?_)
    refine CW.ret ?_
    obtain rfl := Option.some.inj F
    refine ⟨_, (ResOK.one rfl), ?_⟩
    refine ⟨(by first | rfl | simp), R0⟩
set_option maxRecDepth 20000 in
set_option maxHeartbeats 1000000 in
theorem core_Same_ok {a0 : Core} {a1 : Core} {A_a0_bounds : Option Addr} {c_a0_bounds : Nat} {A_a1_bounds : Option Addr} {c_a1_bounds : Nat} {w : World} {res : Bool × Int} (h_a0_bounds : Sl w A_a0_bounds c_a0_bounds 3 (a0.bounds.map encBound)) (h_a1_bounds : Sl w A_a1_bounds c_a1_bounds 3 (a1.bounds.map encBound)) (F : core_Same a0 a1 = some res) : Calls Try.prog 53 #[.agg #[.int .i64 a0.layers, .slice A_a0_bounds a0.bounds.length c_a0_bounds], .agg #[.int .i64 a1.layers, .slice A_a1_bounds a1.bounds.length c_a1_bounds]] w (Rt w (.tuple #[.bool res.1, .int .i64 res.2])) := by
  refine calls_of_cw (args := [.agg #[.int .i64 a0.layers, .slice A_a0_bounds a0.bounds.length c_a0_bounds], .agg #[.int .i64 a1.layers, .slice A_a1_bounds a1.bounds.length c_a1_bounds]]) Try.func53 rfl rfl rfl rfl ?_
  have H := Hp.start w
  have R0 := H.ext
  unfold core_Same at F
  refine CW.seq fun K1 hK1 => ?_
  refine CW.region ?_
  refine LW.go rfl rfl (OW.box rfl fun b1 w1 N1 => ?_)
  replace H := H.new N1 N1.blk
  replace R0 := H.ext
  refine LW.go rfl rfl (OW.box rfl fun b2 w2 N2 => ?_)
  replace H := H.new N2 N2.blk
  replace R0 := H.ext
  refine LW.pure rfl rfl (RV.assign rfl) ?_
  refine LW.pure rfl rfl (RV.assign rfl) ?_
  refine LW.nil (hK1 _ _ ?_)
  refine CW.seq fun K2 hK2 => ?_
  refine CW.seq fun K3 hK3 => ?_
  obtain ⟨r6, hr6, F⟩ := bnd_some F
  refine CW.region ?_
  refine LW.pure rfl rfl (RV.loadA [.int .i64 a0.layers, .slice A_a0_bounds a0.bounds.length c_a0_bounds] Tk24 rfl (H.blk 1 rfl).cells rfl rfl) ?_
  refine LW.pure rfl rfl (RV.loadA [.int .i64 a1.layers, .slice A_a1_bounds a1.bounds.length c_a1_bounds] Tk24 rfl (H.blk 0 rfl).cells rfl rfl) ?_
  refine LW.go rfl rfl (OW.call Tc74 rfl (core_both_ok (a0 := a0) (a1 := a1) (h_a0_bounds.ext R0) (h_a1_bounds.ext R0) hr6) ?_)
  rintro _ w3 ⟨rfl, E1⟩
  refine ⟨_, rfl, ?_⟩
  replace H := H.grow E1
  replace R0 := H.ext
  refine LW.pure rfl rfl (RV.assign rfl) ?_
  refine LW.nil (hK3 _ _ ?_)
  refine CW.seq fun K4 hK4 => ?_
  refine CW.region ?_
  refine LW.pure rfl rfl (RV.move rfl) ?_
  refine LW.pure rfl rfl (RV.nei rfl rfl) ?_
  refine LW.nil (hK4 _ _ ?_)
  by_cases hp1 : r6 = 0
  ·
    replace F := ite_y hp1 F
    have hq1 := dec_t hp1
    refine CW.condF rfl (not_f hq1) ?_
    refine CW.skip (hK2 _ _ ?_)
    refine CW.seq fun K5 hK5 => ?_
    refine CW.seqJ (fun ρ wl1 => (∃ (t18_1 : Bool), core_Same_k1 a0 a1 t18_1 = some res ∧ ρ = [(2, .pointer (some (⟨b1, 0, none⟩))), (3, .pointer (some (⟨b2, 0, none⟩))), (4, .bool false), (5, .int .i64 0), (18, .bool t18_1)] ∧ Hp w wl1 [.blk b1 24 [.int .i64 a0.layers, .slice A_a0_bounds a0.bounds.length c_a0_bounds], .blk b2 24 [.int .i64 a1.layers, .slice A_a1_bounds a1.bounds.length c_a1_bounds]])) ?_ ?_
    ·
      rintro _ wl1 ⟨t18_1, F, rfl, H⟩
      have R0 := H.ext
      unfold core_Same_k1 at F
      by_cases hp2 : t18_1 = true
      ·
        replace F := ite_y hp2 F
        have hq2 : t18_1 = true := hp2
        refine CW.condT rfl hq2 ?_
        refine CW.seq fun K6 hK6 => ?_
        refine CW.region ?_
        refine LW.pure rfl rfl (RV.assign rfl) ?_
        refine LW.pure rfl rfl (RV.assign rfl) ?_
        refine LW.nil (hK6 _ _ ?_)
        refine CW.ret ?_
        obtain rfl := Option.some.inj F
        refine ⟨_, (ResOK.two rfl rfl), ?_⟩
        refine ⟨(by first | rfl | simp), R0⟩
      ·
        replace F := ite_n hp2 F
        have hq2 : t18_1 = false := raw_f hp2
        refine CW.condF rfl hq2 ?_
        refine CW.skip (hK5 _ _ ?_)
        refine CW.seq fun K7 hK7 => ?_
        obtain ⟨r1, hr1, F⟩ := bnd_some F
        obtain ⟨r2, hr2, F⟩ := bnd_some F
        obtain ⟨r3, hr3, F⟩ := bnd_some F
        obtain ⟨r4, hr4, F⟩ := bnd_some F
        obtain ⟨r5, hr5, F⟩ := bnd_some F
        refine CW.draw [] (fun _ => True) (.cons 0 1 (.cons 3 1 (.cons 1 0 (.cons 2 0 (.cons 4 0 (.cons 5 0 (.cons 6 0 (.cons 7 1 (.cons 8 1 .nil))))))))) mixed (by kernel_rfl) fun w4 E2 => ?_
        replace H := H.grow E2
        replace R0 := H.ext
        refine DW.fix rfl rfl rfl (fun _ EQ => RV.loadA [.int .i64 a0.layers, .slice A_a0_bounds a0.bounds.length c_a0_bounds] Tk24 rfl ((H.grow EQ).blk 0 rfl).cells rfl rfl) ?_
        refine DW.fix rfl rfl rfl (fun _ EQ => RV.loadA [.int .i64 a1.layers, .slice A_a1_bounds a1.bounds.length c_a1_bounds] Tk24 rfl ((H.grow EQ).blk 1 rfl).cells rfl rfl) ?_
        refine DW.sole rfl rfl rfl (OW.call Tc81 rfl (core_table_ok (a0 := a0) (h_a0_bounds.ext R0) hr1) ?_)
        rintro _ w5 ⟨A20_0, c20_0, hs20_0, rfl, E3⟩
        refine ⟨_, rfl, fun _ => E3.ext, ModX.ext E3.ext, ?_⟩
        replace H : Hp w w5 [.tab A20_0 c20_0 76 hs20_0 75 2 (encM encTight r1), .blk b1 24 [.int .i64 a0.layers, .slice A_a0_bounds a0.bounds.length c_a0_bounds], .blk b2 24 [.int .i64 a1.layers, .slice A_a1_bounds a1.bounds.length c_a1_bounds]] := H.append E3
        replace R0 := H.ext
        refine DW.sole rfl rfl rfl (OW.call Tc77 rfl (core_plain_ok (a0 := r1) (H.tab 0 rfl).sl2 hr2) ?_)
        rintro _ w6 ⟨A21_0, c21_0, rfl, E4⟩
        refine ⟨_, rfl, fun _ => E4.ext, ModX.ext E4.ext, ?_⟩
        replace H : Hp w w6 [.own A21_0 c21_0 26 3 (List.map encBound r2), .tab A20_0 c20_0 76 hs20_0 75 2 (encM encTight r1), .blk b1 24 [.int .i64 a0.layers, .slice A_a0_bounds a0.bounds.length c_a0_bounds], .blk b2 24 [.int .i64 a1.layers, .slice A_a1_bounds a1.bounds.length c_a1_bounds]] := H.append E4
        replace R0 := H.ext
        refine DW.sole rfl rfl rfl (OW.call Tc81 rfl (core_table_ok (a0 := a1) (h_a1_bounds.ext R0) hr3) ?_)
        rintro _ w7 ⟨A22_0, c22_0, hs22_0, rfl, E5⟩
        refine ⟨_, rfl, fun _ => E5.ext, ModX.ext E5.ext, ?_⟩
        replace H : Hp w w7 [.tab A22_0 c22_0 76 hs22_0 75 2 (encM encTight r3), .own A21_0 c21_0 26 3 (List.map encBound r2), .tab A20_0 c20_0 76 hs20_0 75 2 (encM encTight r1), .blk b1 24 [.int .i64 a0.layers, .slice A_a0_bounds a0.bounds.length c_a0_bounds], .blk b2 24 [.int .i64 a1.layers, .slice A_a1_bounds a1.bounds.length c_a1_bounds]] := H.append E5
        replace R0 := H.ext
        refine DW.sole rfl rfl rfl (OW.call Tc77 rfl (core_plain_ok (a0 := r3) (H.tab 0 rfl).sl2 hr4) ?_)
        rintro _ w8 ⟨A23_0, c23_0, rfl, E6⟩
        refine ⟨_, rfl, fun _ => E6.ext, ModX.ext E6.ext, ?_⟩
        replace H : Hp w w8 [.own A23_0 c23_0 26 3 (List.map encBound r4), .tab A22_0 c22_0 76 hs22_0 75 2 (encM encTight r3), .own A21_0 c21_0 26 3 (List.map encBound r2), .tab A20_0 c20_0 76 hs20_0 75 2 (encM encTight r1), .blk b1 24 [.int .i64 a0.layers, .slice A_a0_bounds a0.bounds.length c_a0_bounds], .blk b2 24 [.int .i64 a1.layers, .slice A_a1_bounds a1.bounds.length c_a1_bounds]] := H.append E6
        replace R0 := H.ext
        refine DW.sole rfl rfl rfl (OW.call Tc80 rfl (slices_Equal_Bound_ok (a0 := r2) (a1 := r4) (H.own 2 rfl).sl (H.own 0 rfl).sl hr5) ?_)
        rintro _ w9 ⟨rfl, E7⟩
        refine ⟨_, rfl, fun _ => E7, ModX.ext E7, ?_⟩
        replace H := H.grow E7
        replace R0 := H.ext
        refine DW.fix rfl rfl rfl (fun _ EQ => RV.assign rfl) ?_
        refine DW.fix rfl rfl rfl (fun _ EQ => RV.assign rfl) ?_
        refine DW.nil (hK7 _ _ ?_)
        refine CW.ret ?_
        obtain rfl := Option.some.inj F
        refine ⟨_, (ResOK.two rfl rfl), ?_⟩
        refine ⟨(by first | rfl | simp), R0⟩
    ·
      intro K8 hK8 jK17
      obtain ⟨r7, hr7, F⟩ := bnd_some F
      by_cases hp3 : r7 = true
      ·
        replace F := ite_y hp3 F
        have hq3 : r7 = true := hp3
        refine CW.region ?_
        refine LW.pure rfl rfl (RV.loadA [.int .i64 a0.layers, .slice A_a0_bounds a0.bounds.length c_a0_bounds] Tk24 rfl (H.blk 1 rfl).cells rfl rfl) ?_
        refine LW.go rfl rfl (OW.call Tc68 rfl (core_clashes_ok (a0 := a0) (h_a0_bounds.ext R0) hr7) ?_)
        rintro _ w10 ⟨rfl, E8⟩
        refine ⟨_, rfl, ?_⟩
        replace H := H.grow E8
        replace R0 := H.ext
        refine LW.pure rfl rfl (RV.move rfl) ?_
        refine LW.noB rfl rfl rfl rfl (ne_beq (v := true) hq3 rfl) ?_
        refine LW.noB rfl rfl rfl rfl (ne_beq (v := true) hq3 rfl) ?_
        refine LW.pure rfl rfl (RV.pickTB rfl hq3 rfl) ?_
        replace H := H.pick (L' := [.blk b1 24 [.int .i64 a0.layers, .slice A_a0_bounds a0.bounds.length c_a0_bounds], .blk b2 24 [.int .i64 a1.layers, .slice A_a1_bounds a1.bounds.length c_a1_bounds]]) [1, 0] (by decide) rfl
        replace R0 := H.ext
        refine LW.nil (jK17 _ _ ⟨_, ?_, ⟨true, F, rfl, H⟩⟩)
        exact ⟨rfl, rfl, rfl, rfl, rfl, trivial⟩
      ·
        replace F := ite_n hp3 F
        have hq3 : r7 = false := raw_f hp3
        obtain ⟨r8, hr8, F⟩ := bnd_some F
        refine CW.region ?_
        refine LW.pure rfl rfl (RV.loadA [.int .i64 a0.layers, .slice A_a0_bounds a0.bounds.length c_a0_bounds] Tk24 rfl (H.blk 1 rfl).cells rfl rfl) ?_
        refine LW.go rfl rfl (OW.call Tc68 rfl (core_clashes_ok (a0 := a0) (h_a0_bounds.ext R0) hr7) ?_)
        rintro _ w11 ⟨rfl, E9⟩
        refine ⟨_, rfl, ?_⟩
        replace H := H.grow E9
        replace R0 := H.ext
        refine LW.pure rfl rfl (RV.move rfl) ?_
        refine LW.pureYB rfl rfl rfl rfl hq3 (RV.loadA [.int .i64 a1.layers, .slice A_a1_bounds a1.bounds.length c_a1_bounds] Tk24 rfl (H.blk 0 rfl).cells rfl rfl) ?_
        refine LW.yesB rfl rfl rfl rfl hq3 (OW.call Tc68 rfl (core_clashes_ok (a0 := a1) (h_a1_bounds.ext R0) hr8) ?_)
        rintro _ w12 ⟨rfl, E10⟩
        refine ⟨_, rfl, ?_⟩
        replace H := H.grow E10
        replace R0 := H.ext
        refine LW.pure rfl rfl (RV.pickFB rfl hq3 rfl) ?_
        replace H := H.pick (L' := [.blk b1 24 [.int .i64 a0.layers, .slice A_a0_bounds a0.bounds.length c_a0_bounds], .blk b2 24 [.int .i64 a1.layers, .slice A_a1_bounds a1.bounds.length c_a1_bounds]]) [1, 0] (by decide) rfl
        replace R0 := H.ext
        refine LW.nil (jK17 _ _ ⟨_, ?_, ⟨r8, F, rfl, H⟩⟩)
        exact ⟨rfl, rfl, rfl, rfl, rfl, trivial⟩
  ·
    replace F := ite_n hp1 F
    have hq1 := dec_f hp1
    refine CW.condT rfl (not_t hq1) ?_
    refine CW.seq fun K9 hK9 => ?_
    refine CW.region ?_
    refine LW.pure rfl rfl (RV.move rfl) ?_
    refine LW.pure rfl rfl (RV.assign rfl) ?_
    refine LW.pure rfl rfl (RV.assign rfl) ?_
    refine LW.nil (hK9 _ _ ?_)
    refine CW.ret ?_
    obtain rfl := Option.some.inj F
    refine ⟨_, (ResOK.two rfl rfl), ?_⟩
    refine ⟨(by first | rfl | simp), R0⟩
end Go.D3
